/- plain mathematics: the reference's solving, inverses -/
import Derived.Test.YtchmplpgamekjaaDoorMa
namespace Go.Proofs.YtchmplpgamekjaaDoor

/-- rows with different least digits, as the reference collects them -/
def growL (L : List (Nat × Nat)) (p : Nat × Nat) : List (Nat × Nat) := if (leftN L p).1 = 0 then L else L ++ [leftN L p]
def growAll (ps : List (Nat × Nat)) : List (Nat × Nat) := ps.foldl growL []
/-- rows with the masks that make them -/
def us : Nat → List Nat → List (Nat × Nat)
  | _, [] => []
  | i, r :: S => (r, 2 ^ i) :: us (i + 1) S
theorem us_length (S : List Nat) : ∀ i, (us i S).length = S.length := by
  induction S with
  | nil => intro i; rfl
  | cons r S ih => intro i; simp [us, ih]
theorem us_take (S : List Nat) : ∀ i k, (us i S).take k = us i (S.take k) := by
  induction S with
  | nil => intro i k; simp [us]
  | cons r S ih => intro i k; cases k <;> simp [us, ih]
theorem us_r1 (S : List Nat) : ∀ i, r1 (us i S) = S := by
  induction S with
  | nil => intro i; rfl
  | cons r S ih => intro i; have := ih (i + 1); simp only [r1] at this; simp [us, r1, this]
theorem us_getD (S : List Nat) : ∀ i k, k < S.length → (us i S).getD k (0, 0) = (S.getD k 0, 2 ^ (i + k)) := by
  induction S with
  | nil => intro i k h; simp at h
  | cons r S ih =>
    intro i k h
    cases k with
    | zero => rfl
    | succ k =>
      have := ih (i + 1) k (by simpa using h)
      simp only [us, List.getD_cons_succ, this]
      rw [show i + 1 + k = i + (k + 1) by omega]
theorem us_mem {S : List Nat} {p : Nat × Nat} (h : p ∈ us 0 S) : ∃ k, k < S.length ∧ p = (S.getD k 0, 2 ^ k) := by
  obtain ⟨k, hk, rfl⟩ := List.getElem_of_mem h
  rw [us_length] at hk
  refine ⟨k, hk, ?_⟩
  have := us_getD S 0 k hk
  rw [Nat.zero_add] at this
  rw [← this]
  simp [List.getD, us_length, hk]
theorem us_dif {S : List Nat} {p : Nat × Nat} (h : p ∈ us 0 S) : Dif S p = 0 := by
  obtain ⟨k, _, rfl⟩ := us_mem h
  rw [dif_zero]
  have := comb_pow S 0 k
  rwa [Nat.zero_add] at this
theorem getD_mem {S : List Nat} {k : Nat} (h : k < S.length) : S.getD k 0 ∈ S := by simp [List.getD, h]
theorem us_lt {S : List Nat} {a : Nat} (hS : ∀ r ∈ S, r < 2 ^ a) {p : Nat × Nat} (h : p ∈ us 0 S) : Lt2 a S.length p := by
  obtain ⟨k, hk, rfl⟩ := us_mem h
  exact ⟨hS _ (getD_mem hk), Nat.pow_lt_pow_right (by omega) hk⟩

theorem grow_cases (L : List (Nat × Nat)) (p : Nat × Nat) : growL L p = L ∧ (leftN L p).1 = 0 ∨ growL L p = L ++ [leftN L p] ∧ (leftN L p).1 ≠ 0 := by
  unfold growL
  by_cases h : (leftN L p).1 = 0
  · exact .inl ⟨if_pos h, h⟩
  · exact .inr ⟨if_neg h, h⟩
theorem grow_ech {L : List (Nat × Nat)} (h : Ech (r1 L)) {p : Nat × Nat} (hp : Sm p.1) : Ech (r1 (growL L p)) := by
  rcases grow_cases L p with ⟨e, _⟩ | ⟨e, h0⟩
  · rw [e]; exact h
  · rw [leftN_fst] at h0
    have er : r1 (L ++ [leftN L p]) = r1 L ++ [leftS (r1 L) p.1] := by rw [← leftN_fst]; simp [r1]
    rw [e, er]
    refine ⟨fun r hr => ?_, List.pairwise_append.2 ⟨h.off, List.pairwise_singleton _ _, fun r hr s hs => ?_⟩⟩
    · rcases List.mem_append.1 hr with hr | hr
      · exact h.ne r hr
      · rw [List.mem_singleton.1 hr]; exact ⟨h0, leftS_sm h.ne hp⟩
    · rw [List.mem_singleton.1 hs]; exact h.left _ r hr
theorem sp_growL (L : List (Nat × Nat)) (p : Nat × Nat) (v : Nat) : Sp (r1 (growL L p)) v ↔ Sp (p.1 :: r1 L) v := by
  have hl := left_sp (r1 L) p.1
  have hT : ∀ r ∈ r1 L, Sp (p.1 :: r1 L) r := fun r hr => .mem (List.mem_cons_of_mem _ hr)
  rcases grow_cases L p with ⟨e, h0⟩ | ⟨e, h0⟩
  · rw [leftN_fst] at h0
    rw [h0, xr_zero] at hl
    rw [e]
    constructor
    · exact Sp.trans hT
    · refine Sp.trans fun r hr => ?_
      rcases List.mem_cons.1 hr with rfl | hr
      · exact hl
      · exact .mem hr
  · have er : r1 (L ++ [leftN L p]) = r1 L ++ [leftS (r1 L) p.1] := by rw [← leftN_fst]; simp [r1]
    rw [e, er]
    constructor
    · refine Sp.trans fun r hr => ?_
      rcases List.mem_append.1 hr with hr | hr
      · exact hT r hr
      · rw [List.mem_singleton.1 hr]
        have := (Sp.mem (S := p.1 :: r1 L) (List.mem_cons_self ..)).plus (hl.trans hT)
        rwa [xr_xr] at this
    · refine Sp.trans fun r hr => ?_
      rcases List.mem_cons.1 hr with rfl | hr
      · have := (Sp.mem (S := r1 L ++ [leftS (r1 L) p.1]) (r := leftS (r1 L) p.1) (by simp)).plus (hl.mono fun s hs => List.mem_append_left _ hs)
        rw [xr_left, xr_self, xr_zero] at this; exact this
      · exact .mem (List.mem_append_left _ hr)
theorem sp_growfold : ∀ (ps L : List (Nat × Nat)) (v : Nat), Sp (r1 (ps.foldl growL L)) v ↔ Sp (r1 L ++ r1 ps) v
  | [], L, v => by simp [r1]
  | p :: ps, L, v => by
    rw [List.foldl_cons, sp_growfold ps (growL L p) v, sp_congr (sp_growL L p)]
    exact sp_same (by intro r; simp [r1]; constructor <;> (intro h; rcases h with h | h | h <;> simp [h])) v
theorem sp_grow (ps : List (Nat × Nat)) (v : Nat) : Sp (r1 (growAll ps)) v ↔ Sp (r1 ps) v := by
  have := sp_growfold ps [] v; simpa [growAll, r1] using this
/-- what all pairs of a list keep, the list that is grown from them keeps -/
theorem grow_all {P : Nat × Nat → Prop} (hP : ∀ L p, (∀ r ∈ L, P r) → P p → P (leftN L p)) : ∀ (ps L : List (Nat × Nat)), (∀ p ∈ ps, P p) → (∀ r ∈ L, P r) → ∀ r ∈ ps.foldl growL L, P r
  | [], L, _, hL => hL
  | p :: ps, L, h, hL => by
    refine grow_all hP ps (growL L p) (fun q hq => h q (List.mem_cons_of_mem _ hq)) ?_
    have hp := h p (List.mem_cons_self ..)
    rcases grow_cases L p with ⟨e, _⟩ | ⟨e, _⟩
    · rw [e]; exact hL
    · rw [e]
      intro r hr
      rcases List.mem_append.1 hr with hr | hr
      · exact hL r hr
      · rw [List.mem_singleton.1 hr]; exact hP L p hL hp
theorem add_all {P : Nat × Nat → Prop} (hP : ∀ L p, (∀ r ∈ L, P r) → P p → ∀ r ∈ addL L p, P r) : ∀ (ps L : List (Nat × Nat)), (∀ p ∈ ps, P p) → (∀ r ∈ L, P r) → ∀ r ∈ ps.foldl addL L, P r
  | [], L, _, hL => hL
  | p :: ps, L, h, hL => add_all hP ps (addL L p) (fun q hq => h q (List.mem_cons_of_mem _ hq)) (hP L p hL (h p (List.mem_cons_self ..)))
theorem grow_ech_all : ∀ (ps L : List (Nat × Nat)), Ech (r1 L) → (∀ p ∈ ps, Sm p.1) → Ech (r1 (ps.foldl growL L))
  | [], L, h, _ => h
  | p :: ps, L, h, hp => grow_ech_all ps (growL L p) (grow_ech h (hp p (List.mem_cons_self ..))) fun q hq => hp q (List.mem_cons_of_mem _ hq)

/-- the reference's solution for v: what is left, and the mask -/
def solL (S : List Nat) (v : Nat) : Nat × Nat := leftN (growAll (us 0 S)) (v, 0)
section
variable {S : List Nat} {a : Nat}
theorem sol_iff (hS : ∀ r ∈ S, Sm r) (v : Nat) : (solL S v).1 = 0 ↔ Sp S v := by
  have he : Ech (r1 (growAll (us 0 S))) := grow_ech_all _ [] ⟨by simp [r1], by simp [r1]⟩ (fun p hp => hS _ (by rw [← us_r1 S 0]; exact List.mem_map_of_mem hp))
  unfold solL
  rw [leftN_fst, ← he.sp_iff, sp_grow, us_r1]
theorem sol_comb (v : Nat) (h : (solL S v).1 = 0) : comb S 0 (solL S v).2 = v := by
  have hd : Dif S (solL S v) = Dif S (v, 0) := Dif.left (grow_all (P := fun r => Dif S r = 0) (fun L p hL hp => (Dif.left hL p).trans hp) _ [] (fun p hp => us_dif hp) (by simp)) _
  have e0 : comb S 0 0 = 0 := comb_low S 0 0 fun m _ => tb_zero m
  unfold Dif at hd
  simp only [h, zero_xr, e0, xr_zero] at hd
  exact hd
theorem sol_lt (hS : ∀ r ∈ S, r < 2 ^ a) {v : Nat} (hv : v < 2 ^ a) : (solL S v).2 < 2 ^ S.length :=
  (Lt2.left (grow_all (P := Lt2 a S.length) (fun _ _ hL hp => Lt2.left hL hp) _ [] (fun p hp => us_lt hS hp) (by simp)) (p := (v, 0)) ⟨hv, Nat.two_pow_pos _⟩).2
end

/-- numbers below n, all different: at most n; all below n among them: at least n -/
theorem pig1 : ∀ (n : Nat) (P : List Nat), P.Nodup → (∀ x ∈ P, x < n) → P.length ≤ n
  | 0, P, _, h => by
    cases P with
    | nil => simp
    | cons x P => have := h x (List.mem_cons_self ..); omega
  | n + 1, P, hn, h => by
    by_cases hm : n ∈ P
    · have h1 := pig1 n (P.erase n) (hn.erase n) (fun x hx => by
        have h2 := (hn.mem_erase_iff).1 hx
        have := h x h2.2; omega)
      rw [List.length_erase_of_mem hm] at h1; omega
    · have h1 := pig1 n P hn (fun x hx => by
        have := h x hx
        rcases Nat.lt_or_ge x n with h2 | h2
        · exact h2
        · have : x = n := by omega
          subst this; exact absurd hx hm)
      omega
theorem pig2 : ∀ (n : Nat) (P : List Nat), (∀ j, j < n → j ∈ P) → n ≤ P.length
  | 0, _, _ => Nat.zero_le _
  | n + 1, P, h => by
    have hm := h n (by omega)
    have h1 := pig2 n (P.erase n) (fun j hj => (List.mem_erase_of_ne (by omega)).2 (h j (by omega)))
    rw [List.length_erase_of_mem hm] at h1
    have := List.length_pos_of_mem hm
    omega
theorem pig3 {n : Nat} {P : List Nat} (hn : P.Nodup) (h : ∀ x ∈ P, x < n) (hl : P.length = n) : ∀ j, j < n → j ∈ P := by
  intro j hj
  refine Decidable.byContradiction fun hm => ?_
  have := pig1 n (j :: P) (List.nodup_cons.2 ⟨hm, hn⟩) (fun x hx => by
    rcases List.mem_cons.1 hx with rfl | hx
    · exact hj
    · exact h x hx)
  simp at this; omega
theorem Red.nodup {S : List Nat} (h : Red S) : (S.map pv).Nodup := by
  refine List.pairwise_map.2 ?_
  have := h.off
  refine List.Pairwise.imp_of_mem ?_ this
  intro r s hr _ hrs he
  have := tb_pv (h.ne r hr).1 (h.ne r hr).2
  rw [he, hrs.1] at this; cases this

/-- no row belongs to the space of the earlier ones -/
def freeRows (S : List Nat) : Prop := ∀ k, k < S.length → (leftN (spanL ((us 0 S).take k)) ((us 0 S).getD k (0, 0))).1 ≠ 0
theorem us_sm {S : List Nat} (hS : ∀ r ∈ S, Sm r) (hl : S.length ≤ 62) : ∀ p ∈ us 0 S, SmP p := by
  intro p hp
  obtain ⟨k, hk, rfl⟩ := us_mem hp
  refine ⟨hS _ (getD_mem hk), ?_⟩
  unfold Sm
  have : 2 ^ k < 2 ^ 63 := Nat.pow_lt_pow_right (by omega) (by omega)
  exact this
theorem span_len (ps : List (Nat × Nat)) : ∀ k, k ≤ ps.length → ((spanL (ps.take k)).length = k ↔ ∀ i, i < k → (leftN (spanL (ps.take i)) (ps.getD i (0, 0))).1 ≠ 0) := by
  intro k
  induction k with
  | zero => intro _; simp [spanL]
  | succ k ih =>
    intro hk
    have ih := ih (by omega)
    have hl := spanL_length_le (ps.take k)
    rw [List.length_take] at hl
    rw [spanL_take_succ ps k (by omega)]
    unfold addL
    by_cases h0 : (leftN (spanL (ps.take k)) (ps.getD k (0, 0))).1 = 0
    · rw [if_pos h0]
      constructor
      · intro h; omega
      · intro h; exact absurd h0 (h k (by omega))
    · rw [if_neg h0]
      have e : (addN (spanL (ps.take k)) (ps.getD k (0, 0))).length = (spanL (ps.take k)).length + 1 := by simp [addN]
      rw [e]
      constructor
      · intro h i hi
        rcases Nat.lt_or_ge i k with h1 | h1
        · exact ih.1 (by omega) i h1
        · rw [show i = k by omega]; exact h0
      · intro h
        rw [ih.2 fun i hi => h i (by omega)]
end Go.Proofs.YtchmplpgamekjaaDoor
