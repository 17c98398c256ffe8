/- plain mathematics: the least solution, by both ways -/
import Derived.Test.YtchmplpgamekjaaDoorKc
namespace Go.Proofs.YtchmplpgamekjaaDoor

/-- the greatest digit that is 1 -/
def tp (a : Nat) : Nat := Nat.log2 a
theorem tb_gt_tp {a n : Nat} (h : tp a < n) : tb a n = false := by
  have h1 : a < 2 ^ (Nat.log2 a + 1) := Nat.lt_log2_self
  exact tb_of_lt h1 h
theorem tb_tp {a : Nat} (h0 : a ≠ 0) : tb a (tp a) = true := by
  have h1 : 2 ^ Nat.log2 a ≤ a := Nat.log2_self_le h0
  refine Decidable.byContradiction fun hc => ?_
  have h2 := lt_of_top (z := a) (k := Nat.log2 a) Nat.lt_log2_self (by cases h : tb a (Nat.log2 a) with | false => rfl | true => exact absurd h hc)
  omega
theorem tp_eq {a n : Nat} (h0 : a ≠ 0) (h1 : tb a n = true) (h2 : ∀ m, n < m → tb a m = false) : tp a = n := by
  rcases Nat.lt_trichotomy (tp a) n with h | h | h
  · rw [tb_gt_tp h] at h1; cases h1
  · exact h
  · have := tb_tp h0; rw [h2 _ h] at this; cases this
theorem tp_lt {a n : Nat} (h0 : a ≠ 0) (h : a < 2 ^ n) : tp a < n := by
  refine Decidable.byContradiction fun hc => ?_
  have := tb_tp h0
  rw [tb_of_lt h (by omega)] at this; cases this

/-- y is the one of x's coset that has none of the space's greatest digits -/
def Least (V : List Nat) (x y : Nat) : Prop := Sp V (xr x y) ∧ ∀ z, Sp V z → z ≠ 0 → tb y (tp z) = false
theorem least_unique {V W : List Nat} {x x' y y' : Nat} (hVW : ∀ v, Sp V v ↔ Sp W v) (hx : Sp V (xr x x')) (h : Least V x y) (h' : Least W x' y') : y = y' := by
  have h1 : Sp V (xr y y') := by
    have := (h.1.plus hx).plus ((hVW _).2 h'.1)
    have e : xr (xr (xr x y) (xr x x')) (xr x' y') = xr y y' := by
      rw [xr_comm x y, xr_assoc y x, xr_xr, xr_assoc, xr_xr]
    rwa [e] at this
  refine Decidable.byContradiction fun hc => ?_
  have h0 : xr y y' ≠ 0 := fun e => hc (by have := congrArg (xr y) e; rw [xr_xr, xr_zero] at this; exact this.symm)
  have := tb_tp h0
  rw [tb_xr, h.2 _ h1 h0, h'.2 _ ((hVW _).1 h1) h0] at this
  cases this

/-- no row is 0, the greatest digits are all different -/
structure Dst (T : List Nat) : Prop where
  ne : ∀ r ∈ T, r ≠ 0
  off : T.Pairwise fun r s => tp r ≠ tp s
theorem Dst.top : ∀ {T : List Nat}, Dst T → ∀ z, Sp T z → z ≠ 0 → ∃ r ∈ T, tp r = tp z := by
  intro T
  induction T with
  | nil =>
    intro _ z hz h0
    cases hz with
    | zero => exact absurd rfl h0
    | add hm _ => cases hm
  | cons r T ih =>
    intro hT z hz h0
    have hr := hT.ne r (List.mem_cons_self ..)
    have hp := List.pairwise_cons.1 hT.off
    have hT' : Dst T := ⟨fun s hs => hT.ne s (List.mem_cons_of_mem _ hs), hp.2⟩
    rcases sp_cons hz with hz | hz
    · obtain ⟨s, hs, e⟩ := ih hT' z hz h0
      exact ⟨s, List.mem_cons_of_mem _ hs, e⟩
    · by_cases hu : xr r z = 0
      · have : r = z := by have := congrArg (xr r) hu; rw [xr_xr, xr_zero] at this; exact this.symm
        exact ⟨r, List.mem_cons_self .., by rw [this]⟩
      · obtain ⟨s, hs, e⟩ := ih hT' _ hz hu
        have hne : tp r ≠ tp (xr r z) := fun e' => hp.1 s hs (e'.trans e.symm)
        have ez : ∀ m, tb z m = (tb r m ^^ tb (xr r z) m) := fun m => by rw [← tb_xr, xr_xr]
        rcases Nat.lt_or_gt_of_ne hne with hlt | hgt
        · refine ⟨s, List.mem_cons_of_mem _ hs, e.trans (tp_eq h0 ?_ ?_).symm⟩
          · rw [ez, tb_gt_tp hlt, tb_tp hu]; rfl
          · intro m hm; rw [ez, tb_gt_tp (Nat.lt_trans hlt hm), tb_gt_tp hm]; rfl
        · refine ⟨r, List.mem_cons_self .., (tp_eq h0 ?_ ?_).symm⟩
          · rw [ez, tb_tp hr, tb_gt_tp hgt]; rfl
          · intro m hm; rw [ez, tb_gt_tp hm, tb_gt_tp (Nat.lt_trans hgt hm)]; rfl

/-! ### the reference's way -/
def stepT (x r : Nat) : Nat := if tb x (tp r) then xr x r else x
def leftT (T : List Nat) (x : Nat) : Nat := T.foldl stepT x
structure EchT (T : List Nat) : Prop where
  ne : ∀ r ∈ T, r ≠ 0
  off : T.Pairwise fun r s => tb s (tp r) = false
theorem EchT.dst {T : List Nat} (h : EchT T) : Dst T := ⟨h.ne, List.Pairwise.imp_of_mem (fun {r s} _ hs hrs e => by
  have := tb_tp (h.ne s hs); rw [← e, hrs] at this; cases this) h.off⟩
theorem EchT.tail {r : Nat} {T : List Nat} (h : EchT (r :: T)) : EchT T := ⟨fun s hs => h.ne s (List.mem_cons_of_mem _ hs), (List.pairwise_cons.1 h.off).2⟩
theorem tb_leftT {T : List Nat} {n : Nat} (h : ∀ r ∈ T, tb r n = false) : ∀ x, tb (leftT T x) n = tb x n := by
  induction T with
  | nil => intro x; rfl
  | cons r T ih =>
    intro x
    show tb (leftT T (stepT x r)) n = _
    rw [ih (fun s hs => h s (List.mem_cons_of_mem _ hs))]
    unfold stepT; split
    · rw [tb_xr, h r (List.mem_cons_self ..)]; simp
    · rfl
theorem EchT.left {T : List Nat} (h : EchT T) : ∀ x, ∀ r ∈ T, tb (leftT T x) (tp r) = false := by
  induction T with
  | nil => intro x r hr; cases hr
  | cons r T ih =>
    intro x s hs
    have hp := (List.pairwise_cons.1 h.off).1
    have hr := h.ne r (List.mem_cons_self ..)
    show tb (leftT T (stepT x r)) (tp s) = false
    rcases List.mem_cons.1 hs with rfl | hs
    · rw [tb_leftT (fun t ht => hp t ht)]
      unfold stepT; split
      · rename_i h1; rw [tb_xr, h1, tb_tp hr]; rfl
      · rename_i h1; simpa using h1
    · exact ih h.tail _ s hs
theorem leftT_sp (T : List Nat) : ∀ x, Sp T (xr x (leftT T x)) := by
  induction T with
  | nil => intro x; rw [show leftT [] x = x from rfl, xr_self]; exact .zero
  | cons r T ih =>
    intro x
    show Sp (r :: T) (xr x (leftT T (stepT x r)))
    unfold stepT; split
    · have := Sp.add (S := r :: T) (List.mem_cons_self ..) ((ih (xr x r)).mono fun s hs => List.mem_cons_of_mem _ hs)
      rw [xr_comm x r, xr_assoc, xr_xr] at this
      rw [xr_comm x r]; exact this
    · exact (ih x).mono fun s hs => List.mem_cons_of_mem _ hs
theorem leftT_id {T : List Nat} : ∀ {x}, (∀ r ∈ T, tb x (tp r) = false) → leftT T x = x := by
  induction T with
  | nil => intro x _; rfl
  | cons r T ih =>
    intro x h
    have e : stepT x r = x := by unfold stepT; rw [if_neg (by rw [h r (List.mem_cons_self ..)]; simp)]
    show leftT T (stepT x r) = x
    rw [e]; exact ih fun s hs => h s (List.mem_cons_of_mem _ hs)
theorem leftT_sm {T : List Nat} (h : ∀ r ∈ T, Sm r) : ∀ {x}, Sm x → Sm (leftT T x) := by
  induction T with
  | nil => intro x hx; exact hx
  | cons r T ih =>
    intro x hx
    refine ih (fun s hs => h s (List.mem_cons_of_mem _ hs)) ?_
    unfold stepT; split
    · exact hx.xr (h r (List.mem_cons_self ..))
    · exact hx
def topS (T : List Nat) (r : Nat) : List Nat := if leftT T r = 0 then T else T ++ [leftT T r]
def topsOf (K : List Nat) : List Nat := K.foldl topS []
theorem topS_ech {T : List Nat} (h : EchT T) (r : Nat) : EchT (topS T r) := by
  unfold topS
  split
  · exact h
  · rename_i h0
    refine ⟨fun s hs => ?_, List.pairwise_append.2 ⟨h.off, List.pairwise_singleton _ _, fun t ht s hs => ?_⟩⟩
    · rcases List.mem_append.1 hs with hs | hs
      · exact h.ne s hs
      · rw [List.mem_singleton.1 hs]; exact h0
    · rw [List.mem_singleton.1 hs]; exact h.left _ t ht
theorem topS_sp (T : List Nat) (r v : Nat) : Sp (topS T r) v ↔ Sp (r :: T) v := by
  have hl := leftT_sp T r
  have hT : ∀ s ∈ T, Sp (r :: T) s := fun s hs => .mem (List.mem_cons_of_mem _ hs)
  unfold topS
  by_cases h0 : leftT T r = 0
  · rw [if_pos h0]
    rw [h0, xr_zero] at hl
    constructor
    · exact Sp.trans hT
    · refine Sp.trans fun s hs => ?_
      rcases List.mem_cons.1 hs with rfl | hs
      · exact hl
      · exact .mem hs
  · rw [if_neg h0]
    constructor
    · refine Sp.trans fun s hs => ?_
      rcases List.mem_append.1 hs with hs | hs
      · exact hT s hs
      · rw [List.mem_singleton.1 hs]
        have := (Sp.mem (S := r :: T) (List.mem_cons_self ..)).plus (hl.trans hT)
        rwa [xr_xr] at this
    · refine Sp.trans fun s hs => ?_
      rcases List.mem_cons.1 hs with rfl | hs
      · have := (Sp.mem (S := T ++ [leftT T s]) (r := leftT T s) (by simp)).plus (hl.mono fun t ht => List.mem_append_left _ ht)
        rw [xr_left, xr_self, xr_zero] at this; exact this
      · exact .mem (List.mem_append_left _ hs)
theorem topsOf_inv : ∀ (K T : List Nat), EchT T → EchT (K.foldl topS T) ∧ ∀ v, Sp (K.foldl topS T) v ↔ Sp (T ++ K) v
  | [], T, h => ⟨h, fun v => by simp⟩
  | r :: K, T, h => by
    obtain ⟨h1, h2⟩ := topsOf_inv K (topS T r) (topS_ech h r)
    refine ⟨h1, fun v => ?_⟩
    rw [List.foldl_cons, h2, sp_congr (topS_sp T r)]
    exact sp_same (by intro s; simp; constructor <;> (intro h; rcases h with h | h | h <;> simp [h])) v
theorem topsOf_ech (K : List Nat) : EchT (topsOf K) := (topsOf_inv K [] ⟨by simp, .nil⟩).1
theorem topsOf_sp (K : List Nat) (v : Nat) : Sp (topsOf K) v ↔ Sp K v := by
  have := (topsOf_inv K [] ⟨by simp, .nil⟩).2 v; simpa [topsOf] using this
theorem topS_len (T : List Nat) (r : Nat) : (topS T r).length ≤ T.length + 1 := by unfold topS; split <;> simp
theorem topS_sm {T : List Nat} (hT : ∀ s ∈ T, Sm s) {r : Nat} (hr : Sm r) : ∀ s ∈ topS T r, Sm s := by
  intro s hs
  unfold topS at hs
  split at hs
  · exact hT s hs
  · rcases List.mem_append.1 hs with hs | hs
    · exact hT s hs
    · rw [List.mem_singleton.1 hs]; exact leftT_sm hT hr
theorem least_spec (K : List Nat) (x : Nat) : Least (topsOf K) x (leftT (topsOf K) x) := by
  refine ⟨leftT_sp _ x, fun z hz h0 => ?_⟩
  obtain ⟨r, hr, e⟩ := (topsOf_ech K).dst.top z hz h0
  rw [← e]; exact (topsOf_ech K).left x r hr
theorem less_of_tb {a b n : Nat} (h1 : tb a n = false) (h2 : tb b n = true) (h3 : ∀ j, n < j → tb a j = tb b j) : a < b := by
  have hq : a / 2 ^ (n + 1) = b / 2 ^ (n + 1) := by
    refine eq_of_tb fun j => ?_
    have := h3 (j + (n + 1)) (by omega)
    unfold tb at this ⊢
    rw [← Nat.shiftRight_eq_div_pow, ← Nat.shiftRight_eq_div_pow, Nat.testBit_shiftRight, Nat.testBit_shiftRight, show n + 1 + j = j + (n + 1) by omega]
    exact this
  have ha := Nat.div_add_mod a (2 ^ (n + 1))
  have hb := Nat.div_add_mod b (2 ^ (n + 1))
  have ma := Nat.mod_lt a (Nat.two_pow_pos (n + 1))
  have mb := Nat.mod_lt b (Nat.two_pow_pos (n + 1))
  have h1' : a % 2 ^ (n + 1) < 2 ^ n := by
    refine lt_of_top ma ?_
    unfold tb at h1 ⊢
    rw [Nat.testBit_mod_two_pow]; simp [h1]
  have h2' : 2 ^ n ≤ b % 2 ^ (n + 1) := by
    refine Decidable.byContradiction fun hc => ?_
    have := tb_of_lt (z := b % 2 ^ (n + 1)) (n := n) (m := n) (by omega) (Nat.le_refl _)
    unfold tb at this h2
    rw [Nat.testBit_mod_two_pow] at this
    simp [h2] at this
  rw [hq] at ha
  omega
/-- the lesser of two -/
theorem min_stepT {x r : Nat} (h0 : r ≠ 0) : (xr x r < x ↔ tb x (tp r) = true) := by
  constructor
  · intro h
    refine Decidable.byContradiction fun hc => ?_
    have hf : tb x (tp r) = false := by simpa using hc
    have : x < xr x r := by
      refine less_of_tb (n := tp r) hf (by rw [tb_xr, hf, tb_tp h0]; rfl) fun j hj => ?_
      rw [tb_xr, tb_gt_tp hj]; simp
    omega
  · intro h
    refine less_of_tb (n := tp r) (by rw [tb_xr, h, tb_tp h0]; rfl) h fun j hj => ?_
    rw [tb_xr, tb_gt_tp hj]; simp

/-! ### the program's way -/
def clearL (d k : Nat) (Z : List Nat) : List Nat := Z.mapIdx fun i o => if i ≠ k ∧ tb o d = true then xr o (Z.getD k 0) else o
def topIs (d : Nat) (z : Nat) : Bool := z / 2 ^ d == 1
def solStep (d : Nat) (p : List Nat × Nat) : List Nat × Nat :=
  match p.1.findIdx? (topIs d) with
  | none => p
  | some k => (clearL d k p.1, if tb p.2 d then xr p.2 (p.1.getD k 0) else p.2)
def solDown : Nat → List Nat × Nat → List Nat × Nat
  | 0, p => p
  | d + 1, p => solDown d (solStep d p)
theorem topIs_iff {d z : Nat} : topIs d z = true ↔ z ≠ 0 ∧ tp z = d := by
  unfold topIs
  rw [beq_iff_eq]
  constructor
  · intro h
    have h1 : z ≠ 0 := fun e => by rw [e] at h; simp at h
    refine ⟨h1, ?_⟩
    have h2 : 2 ^ d ≤ z := by
      refine Decidable.byContradiction fun hc => ?_
      rw [Nat.div_eq_of_lt (by omega)] at h; cases h
    have h3 : z < 2 ^ (d + 1) := by
      have := Nat.div_add_mod z (2 ^ d)
      have hm := Nat.mod_lt z (Nat.two_pow_pos d)
      rw [h] at this
      rw [Nat.pow_succ]; omega
    refine tp_eq h1 ?_ fun m hm => tb_of_lt h3 (by omega)
    refine Decidable.byContradiction fun hc => ?_
    have := lt_of_top h3 (by simpa using hc)
    omega
  · intro ⟨h1, h2⟩
    subst h2
    have a : 2 ^ tp z ≤ z := Nat.log2_self_le h1
    have b : z < 2 ^ (tp z + 1) := Nat.lt_log2_self
    rw [Nat.pow_succ] at b
    rw [Nat.div_eq_iff (Nat.two_pow_pos _)]
    omega
/-- what the steps keep -/
structure Dn (Z0 : List Nat) (x0 : Nat) (d : Nat) (p : List Nat × Nat) : Prop where
  len : p.1.length = Z0.length
  ne : ∀ r ∈ p.1, r ≠ 0
  sub : ∀ r ∈ p.1, Sp Z0 r
  tops : p.1.map tp = Z0.map tp
  co : Sp Z0 (xr x0 p.2)
  done : ∀ r ∈ Z0, d ≤ tp r → tb p.2 (tp r) = false
theorem Dn.step {Z0 : List Nat} {x0 d : Nat} {p : List Nat × Nat} (hZ : Dst Z0) (h : Dn Z0 x0 (d + 1) p) : Dn Z0 x0 d (solStep d p) := by
  obtain ⟨Z, x⟩ := p
  unfold solStep
  cases hf : Z.findIdx? (topIs d) with
  | none =>
    simp only [hf]
    refine ⟨h.len, h.ne, h.sub, h.tops, h.co, fun r hr hd => ?_⟩
    by_cases e : tp r = d
    · have hm : tp r ∈ Z.map tp := by rw [h.tops]; exact List.mem_map_of_mem hr
      obtain ⟨z, hz, ez⟩ := List.mem_map.1 hm
      have := (List.findIdx?_eq_none_iff.1 hf) z hz
      rw [topIs_iff.2 ⟨h.ne z hz, by rw [ez, e]⟩] at this; cases this
    · exact h.done r hr (by omega)
  | some k =>
    simp only [hf]
    obtain ⟨hk, hz, _⟩ := List.findIdx?_eq_some_iff_getElem.1 hf
    have ek : Z.getD k 0 = Z[k] := by simp [List.getD, hk]
    obtain ⟨hz0, hzd⟩ := topIs_iff.1 hz
    have hzs := h.sub _ (List.getElem_mem hk)
    have hzn := h.ne _ (List.getElem_mem hk)
    -- each element: its greatest digit stays
    have key : ∀ i, (hi : i < Z.length) → (if i ≠ k ∧ tb Z[i] d = true then xr Z[i] (Z.getD k 0) else Z[i]) ≠ 0 ∧ tp (if i ≠ k ∧ tb Z[i] d = true then xr Z[i] (Z.getD k 0) else Z[i]) = tp Z[i] ∧ Sp Z0 (if i ≠ k ∧ tb Z[i] d = true then xr Z[i] (Z.getD k 0) else Z[i]) := by
      intro i hi
      have hin := h.ne _ (List.getElem_mem hi)
      have his := h.sub _ (List.getElem_mem hi)
      split
      · rename_i hc
        have hne : tp Z[i] ≠ tp Z[k] := by
          have e1 : (Z.map tp)[i]'(by simpa using hi) = tp Z[i] := by simp
          have e2 : (Z.map tp)[k]'(by simpa using hk) = tp Z[k] := by simp
          have hp : (Z.map tp).Pairwise (· ≠ ·) := by rw [h.tops]; exact List.pairwise_map.2 hZ.off
          rw [← e1, ← e2]
          rcases Nat.lt_or_gt_of_ne hc.1 with hlt | hgt
          · exact (List.pairwise_iff_getElem.1 hp) i k _ _ hlt
          · exact ((List.pairwise_iff_getElem.1 hp) k i _ _ hgt).symm
        have hgt : d < tp Z[i] := by
          rcases Nat.lt_trichotomy (tp Z[i]) d with h1 | h1 | h1
          · have := hc.2; rw [tb_gt_tp h1] at this; cases this
          · exact absurd (h1.trans hzd.symm) hne
          · exact h1
        rw [ek]
        have hb : tb (xr Z[i] Z[k]) (tp Z[i]) = true := by rw [tb_xr, tb_tp hin, tb_gt_tp (by rw [hzd]; exact hgt)]; rfl
        have h0 : xr Z[i] Z[k] ≠ 0 := fun e => by rw [e, tb_zero] at hb; cases hb
        exact ⟨h0, tp_eq h0 hb fun m hm => by rw [tb_xr, tb_gt_tp hm, tb_gt_tp (by rw [hzd]; omega)]; rfl, his.plus hzs⟩
      · exact ⟨hin, rfl, his⟩
    refine ⟨by simp [clearL, h.len], ?_, ?_, ?_, ?_, ?_⟩
    · intro r hr
      obtain ⟨i, hi, rfl⟩ := List.getElem_of_mem hr
      simp only [clearL, List.getElem_mapIdx]
      exact (key i (by simpa [clearL] using hi)).1
    · intro r hr
      obtain ⟨i, hi, rfl⟩ := List.getElem_of_mem hr
      simp only [clearL, List.getElem_mapIdx]
      exact (key i (by simpa [clearL] using hi)).2.2
    · rw [← h.tops]
      apply List.ext_getElem
      · simp [clearL]
      · intro i h1 h2
        simp only [clearL, List.getElem_map, List.getElem_mapIdx]
        exact (key i (by simpa using h2)).2.1
    · show Sp Z0 (xr x0 (if tb x d then xr x (Z.getD k 0) else x))
      split
      · rw [← xr_assoc, ek]; exact h.co.plus hzs
      · exact h.co
    · intro r hr hd
      show tb (if tb x d then xr x (Z.getD k 0) else x) (tp r) = false
      rw [ek]
      by_cases e : tp r = d
      · rw [e]
        split
        · rename_i hb; rw [tb_xr, hb, ← hzd, tb_tp hzn]; rfl
        · rename_i hb; simpa using hb
      · have h1 : tb x (tp r) = false := h.done r hr (by omega)
        split
        · rw [tb_xr, h1, tb_gt_tp (by rw [hzd]; omega)]; rfl
        · exact h1
theorem Dn.down {Z0 : List Nat} {x0 : Nat} (hZ : Dst Z0) : ∀ d p, Dn Z0 x0 d p → Dn Z0 x0 0 (solDown d p)
  | 0, _, h => h
  | d + 1, _, h => Dn.down hZ d _ (h.step hZ)
theorem least_impl {Z : List Nat} {x n : Nat} (hZ : Dst Z) (hn : ∀ r ∈ Z, r < 2 ^ n) : Least Z x (solDown n (Z, x)).2 := by
  have h0 : Dn Z x n (Z, x) := ⟨rfl, hZ.ne, fun r hr => .mem hr, rfl, by rw [xr_self]; exact .zero, fun r hr hd => by
    have := tp_lt (hZ.ne r hr) (hn r hr); omega⟩
  have h := Dn.down hZ n _ h0
  refine ⟨h.co, fun z hz hz0 => ?_⟩
  obtain ⟨r, hr, e⟩ := hZ.top z hz hz0
  rw [← e]; exact h.done r hr (Nat.zero_le _)
/-- the sums that the program finds have their greatest digits apart -/
theorem KerG.dst {S : List Nat} {G : Nat → List (Nat × Nat)} (h : KerG S G) : ∀ k, k ≤ S.length → Dst (kerOut G S k) := by
  intro k
  induction k with
  | zero => intro _; exact ⟨by simp [kerOut], by simp [kerOut]⟩
  | succ k ih =>
    intro hk
    have ih := ih (by omega)
    simp only [kerOut, kerStep]
    by_cases h0 : (leftN (G k) (S.getD k 0, 2 ^ k)).1 = 0
    · rw [if_pos h0]
      obtain ⟨_, o2, o3⟩ := h.own (by omega) h0
      have hn0 : (leftN (G k) (S.getD k 0, 2 ^ k)).2 ≠ 0 := fun e => by rw [e, tb_zero] at o3; cases o3
      have ht : tp (leftN (G k) (S.getD k 0, 2 ^ k)).2 = k := tp_eq hn0 o3 fun m hm => tb_of_lt o2 (by omega)
      refine ⟨fun r hr => ?_, List.pairwise_append.2 ⟨ih.off, List.pairwise_singleton _ _, fun r hr s hs => ?_⟩⟩
      · rcases List.mem_append.1 hr with hr | hr
        · exact ih.ne r hr
        · rw [List.mem_singleton.1 hr]; exact hn0
      · rw [List.mem_singleton.1 hs, ht]
        have := tp_lt (ih.ne r hr) (h.mem k (by omega) r hr).2
        omega
    · rw [if_neg h0]; exact ih

/-- the reference's answer, where there is one -/
def lsolOf (S : List Nat) (v : Nat) : Nat := leftT (topsOf (reduceS (kerK S S.length))) (solL S v).2
theorem span_left {S : List Nat} (hS : ∀ r ∈ S, Sm r) (hl : S.length ≤ 62) (v : Nat) :
    ((leftN (spanL (us 0 S)) (v, 0)).1 = 0 ↔ (solL S v).1 = 0) ∧ ((solL S v).1 = 0 → comb S 0 (leftN (spanL (us 0 S)) (v, 0)).2 = v) ∧ (leftN (spanL (us 0 S)) (v, 0)).2 < 2 ^ S.length := by
  have h := kerG_span hS hl
  have et : (us 0 S).take S.length = us 0 S := List.take_of_length_le (by rw [us_length]; omega)
  have hd := h.dif S.length (Nat.le_refl _)
  have hlt := h.lt S.length (Nat.le_refl _)
  have hsp := h.sp S.length (Nat.le_refl _)
  have hec := h.ech S.length (Nat.le_refl _)
  simp only [et] at hd hlt hsp hec
  rw [List.take_length] at hsp
  have h1 : (leftN (spanL (us 0 S)) (v, 0)).1 = 0 ↔ (solL S v).1 = 0 := by
    rw [sol_iff hS, leftN_fst, ← hec.sp_iff, hsp]
  refine ⟨h1, fun h0 => ?_, left_lt2b hlt (p := (v, 0)) (Nat.two_pow_pos _)⟩
  have hD := Dif.left hd (v, 0)
  have e0 : comb S 0 0 = 0 := comb_low S 0 0 fun m _ => tb_zero m
  have h0' := h1.2 h0
  unfold Dif at hD
  simp only [h0', zero_xr, e0, xr_zero] at hD
  exact hD
theorem solve_both {S : List Nat} {a v : Nat} (hS : ∀ r ∈ S, r < 2 ^ a) (ha : a ≤ 60) (hl : S.length ≤ 60) (hv : v < 2 ^ a) (h0 : (solL S v).1 = 0) :
    (solDown S.length (kerS S S.length, (leftN (spanL (us 0 S)) (v, 0)).2)).2 = lsolOf S v := by
  have hSm : ∀ r ∈ S, Sm r := fun r hr => sm_of_lt (by omega) (hS r hr)
  have hg := kerG_span hSm (by omega)
  have hk := kerG_sol hSm
  obtain ⟨_, s2, s3⟩ := span_left hSm (by omega) v
  have hZ : Dst (kerS S S.length) := hg.dst S.length (Nat.le_refl _)
  have hlt : ∀ r ∈ kerS S S.length, r < 2 ^ S.length := fun r hr => (hg.mem S.length (Nat.le_refl _) r hr).2
  refine least_unique (V := kerS S S.length) (W := topsOf (reduceS (kerK S S.length))) ?_ ?_ (least_impl hZ hlt) (least_spec _ _)
  · intro z
    rw [topsOf_sp, kerK_all, sp_reduce (hk.sm (by omega))]
    exact (hg.sp_iff z).trans (hk.sp_iff z).symm
  · refine (hg.sp_iff _).2 ⟨Nat.xor_lt_two_pow s3 (sol_lt hS hv), ?_⟩
    rw [comb_xr, s2 h0, sol_comb v h0, xr_self]
end Go.Proofs.YtchmplpgamekjaaDoor
