/- plain mathematics: meets of spaces, by both ways -/
import Derived.Test.YtchmplpgamekjaaDoorKa
namespace Go.Proofs.YtchmplpgamekjaaDoor

def dup (A : List Nat) : List (Nat × Nat) := A.map fun x => (x, x)
theorem r1_dup (A : List Nat) : r1 (dup A) = A := by simp [r1, dup, List.map_map, Function.comp_def]
theorem dup_length (A : List Nat) : (dup A).length = A.length := by simp [dup]
theorem r1_app (L M : List (Nat × Nat)) : r1 (L ++ M) = r1 L ++ r1 M := by simp [r1]
theorem zs_take (B : List Nat) (k : Nat) : (zs B).take k = zs (B.take k) := by simp [zs, List.map_take]
theorem dup_take (B : List Nat) (k : Nat) : (dup B).take k = dup (B.take k) := by simp [dup, List.map_take]
theorem zs_getD {B : List Nat} {k : Nat} (h : k < B.length) : (zs B).getD k (0, 0) = (B.getD k 0, 0) := by simp [zs, List.getD, h]
theorem dup_getD {B : List Nat} {k : Nat} (h : k < B.length) : (dup B).getD k (0, 0) = (B.getD k 0, B.getD k 0) := by simp [dup, List.getD, h]

/-- what the reference collects of a list of pairs: the sums of those that belong to the earlier ones -/
theorem getD_app_left {L M : List (Nat × Nat)} {k : Nat} {d : Nat × Nat} (h : k < L.length) : (L ++ M).getD k d = L.getD k d := by simp [List.getD, List.getElem?_append_left h]
theorem getD_app_right {L M : List (Nat × Nat)} {k : Nat} {d : Nat × Nat} (h : L.length ≤ k) : (L ++ M).getD k d = M.getD (k - L.length) d := by simp [List.getD, List.getElem?_append_right h]
def kerP (ps : List (Nat × Nat)) : Nat → List Nat
  | 0 => []
  | k + 1 => kerStep (growAll (ps.take k)) (ps.getD k (0, 0)) (kerP ps k)
theorem kerP_length (ps : List (Nat × Nat)) : ∀ k, (kerP ps k).length ≤ k
  | 0 => Nat.le_refl _
  | k + 1 => by
    have := kerP_length ps k
    simp only [kerP, kerStep]
    split
    · simp; omega
    · omega

def meetOut (G : Nat → List (Nat × Nat)) (B : List Nat) : Nat → List Nat
  | 0 => []
  | k + 1 => kerStep (G k) (B.getD k 0, 0) (meetOut G B k)
theorem meetOut_length (G : Nat → List (Nat × Nat)) (B : List Nat) : ∀ k, (meetOut G B k).length ≤ k
  | 0 => Nat.le_refl _
  | k + 1 => by
    have := meetOut_length G B k
    simp only [meetOut, kerStep]
    split
    · simp; omega
    · omega
/-- a pair's second is in A, and the two differ by one of B -/
def Mt (A B : List Nat) (r : Nat × Nat) : Prop := Sp A r.2 ∧ Sp B (xr r.1 r.2)
theorem Mt.step {A B : List Nat} {p r : Nat × Nat} (hp : Mt A B p) (hr : Mt A B r) : Mt A B (leftStep p r) := by
  unfold leftStep
  split
  · refine ⟨hp.1.plus hr.1, ?_⟩
    have := hp.2.plus hr.2
    have e : xr (xr p.1 p.2) (xr r.1 r.2) = xr (xr p.1 r.1) (xr p.2 r.2) := by
      rw [xr_assoc, xr_assoc, xr_left p.2 r.1]
    rwa [e] at this
  · exact hp
theorem Mt.left {A B : List Nat} {L : List (Nat × Nat)} (h : ∀ r ∈ L, Mt A B r) : ∀ p, Mt A B p → Mt A B (leftN L p) := by
  unfold leftN
  induction L with
  | nil => intro p hp; exact hp
  | cons r L ih => intro p hp; exact ih (fun s hs => h s (List.mem_cons_of_mem _ hs)) _ (hp.step (h r (List.mem_cons_self ..)))
theorem Mt.addL {A B : List Nat} {L : List (Nat × Nat)} (h : ∀ r ∈ L, Mt A B r) {p : Nat × Nat} (hp : Mt A B p) : ∀ r ∈ addL L p, Mt A B r := by
  intro r hm
  have hq := Mt.left h p hp
  unfold Go.Proofs.YtchmplpgamekjaaDoor.addL at hm
  split at hm
  · exact h r hm
  · unfold addN at hm
    rcases List.mem_append.1 hm with hm | hm
    · obtain ⟨s, hs, rfl⟩ := List.mem_map.1 hm
      have h1 := h s hs
      have e : addStep (leftN L p) s = s ∨ addStep (leftN L p) s = (xr s.1 (leftN L p).1, xr s.2 (leftN L p).2) := by
        unfold addStep; split
        · exact .inr rfl
        · exact .inl rfl
      rcases e with e | e
      · rw [e]; exact h1
      · rw [e]
        refine ⟨h1.1.plus hq.1, ?_⟩
        have := h1.2.plus hq.2
        have e : xr (xr s.1 s.2) (xr (leftN L p).1 (leftN L p).2) = xr (xr s.1 (leftN L p).1) (xr s.2 (leftN L p).2) := by
          rw [xr_assoc, xr_assoc, xr_left s.2]
        rwa [e] at this
    · rw [List.mem_singleton.1 hm]; exact hq
structure MeetG (A B : List Nat) (G : Nat → List (Nat × Nat)) : Prop where
  mem : ∀ k, k ≤ B.length → ∀ r ∈ G k, Mt A (B.take k) r
  ech : ∀ k, k ≤ B.length → Ech (r1 (G k))
  sp : ∀ k, k ≤ B.length → ∀ v, Sp (r1 (G k)) v ↔ Sp (A ++ B.take k) v
theorem sp_append {A B : List Nat} {v : Nat} (h : Sp (A ++ B) v) : ∃ a b, Sp A a ∧ Sp B b ∧ v = xr a b := by
  induction h with
  | zero => exact ⟨0, 0, .zero, .zero, rfl⟩
  | add hm _ ih =>
    obtain ⟨a, b, ha, hb, rfl⟩ := ih
    rcases List.mem_append.1 hm with h | h
    · exact ⟨_, b, .add h ha, hb, (xr_assoc _ _ _).symm⟩
    · exact ⟨a, _, ha, .add h hb, xr_left _ _ _⟩
theorem sp_take_succ {B : List Nat} {k : Nat} (hk : k < B.length) {v : Nat} (h : Sp (B.take (k + 1)) v) : Sp (B.take k) v ∨ Sp (B.take k) (xr (B.getD k 0) v) := by
  rw [List.take_succ_eq_append_getElem hk] at h
  have e : B.getD k 0 = B[k] := by simp [List.getD, hk]
  rw [e]
  exact sp_cons ((sp_same (T := B[k] :: B.take k) (by intro r; rw [List.mem_append, List.mem_singleton, List.mem_cons, or_comm]) v).1 h)
theorem sp_take_mono {B : List Nat} {k : Nat} {v : Nat} (h : Sp (B.take k) v) : Sp (B.take (k + 1)) v :=
  h.mono fun r hr => (List.take_sublist_take_left (by omega)).mem hr
section
variable {A B : List Nat} {G : Nat → List (Nat × Nat)}
theorem MeetG.own (h : MeetG A B G) {k : Nat} (hk : k < B.length) (h0 : (leftN (G k) (B.getD k 0, 0)).1 = 0) :
    Sp A (leftN (G k) (B.getD k 0, 0)).2 ∧ Sp (B.take k) (xr (B.getD k 0) (leftN (G k) (B.getD k 0, 0)).2) := by
  -- all is laid over by the row itself: its own pair lies in B's first k + 1 rows
  have h1 : ∀ (L : List (Nat × Nat)) (p : Nat × Nat) (x : Nat), (∀ r ∈ L, Mt A (B.take k) r) → Sp A p.2 → Sp (B.take k) (xr x (xr p.1 p.2)) → Sp A (leftN L p).2 ∧ Sp (B.take k) (xr x (xr (leftN L p).1 (leftN L p).2)) := by
    intro L
    induction L with
    | nil => intro p x _ h1 h2; exact ⟨h1, h2⟩
    | cons r L ih =>
      intro p x hL h1 h2
      have hr := hL r (List.mem_cons_self ..)
      show Sp A (leftN L (leftStep p r)).2 ∧ _
      refine ih (leftStep p r) x (fun s hs => hL s (List.mem_cons_of_mem _ hs)) ?_ ?_
      · unfold leftStep; split
        · exact h1.plus hr.1
        · exact h1
      · unfold leftStep; split
        · have := h2.plus hr.2
          have e : xr (xr x (xr p.1 p.2)) (xr r.1 r.2) = xr x (xr (xr p.1 r.1) (xr p.2 r.2)) := by
            rw [xr_assoc, xr_assoc, xr_assoc, xr_left p.2 r.1]
          rwa [e] at this
        · exact h2
  have h2 := h1 (G k) (B.getD k 0, 0) (B.getD k 0) (h.mem k (by omega)) .zero (by simp only [xr_zero, xr_self]; exact .zero)
  rw [h0, zero_xr] at h2
  exact h2
theorem getD_sp {k : Nat} (hk : k < B.length) : Sp (B.take (k + 1)) (B.getD k 0) := by
  rw [List.take_succ_eq_append_getElem hk]
  exact .mem (List.mem_append_right _ (List.mem_singleton.2 (by simp [List.getD, hk])))
theorem MeetG.sub (h : MeetG A B G) : ∀ k, k ≤ B.length → ∀ z ∈ meetOut G B k, Sp A z ∧ Sp (B.take k) z := by
  intro k
  induction k with
  | zero => intro _ z hz; cases hz
  | succ k ih =>
    intro hk z hz
    have ih := ih (by omega)
    simp only [meetOut, kerStep] at hz
    by_cases h0 : (leftN (G k) (B.getD k 0, 0)).1 = 0
    · rw [if_pos h0] at hz
      rcases List.mem_append.1 hz with hz | hz
      · exact ⟨(ih z hz).1, sp_take_mono (ih z hz).2⟩
      · rw [List.mem_singleton.1 hz]
        obtain ⟨o1, o2⟩ := h.own (by omega) h0
        refine ⟨o1, ?_⟩
        have := (getD_sp (B := B) (k := k) (by omega)).plus (sp_take_mono o2)
        rwa [xr_xr] at this
    · rw [if_neg h0] at hz
      exact ⟨(ih z hz).1, sp_take_mono (ih z hz).2⟩
theorem MeetG.all (h : MeetG A B G) : ∀ k, k ≤ B.length → ∀ u, Sp A u → Sp (B.take k) u → Sp (meetOut G B k) u := by
  intro k
  induction k with
  | zero =>
    intro _ u _ hu
    cases hu with
    | zero => exact .zero
    | add hm _ => simp at hm
  | succ k ih =>
    intro hk u hA hB
    have ih := ih (by omega)
    have hsub : ∀ v, Sp (meetOut G B k) v → Sp (meetOut G B (k + 1)) v := fun v hv => by
      simp only [meetOut, kerStep]
      split
      · exact hv.mono fun r hr => List.mem_append_left _ hr
      · exact hv
    rcases sp_take_succ (by omega) hB with h1 | h1
    · exact hsub u (ih u hA h1)
    · have hsp : Sp (r1 (G k)) (B.getD k 0) := by
        rw [h.sp k (by omega)]
        have := (hA.mono (T := A ++ B.take k) fun r hr => List.mem_append_left _ hr).plus (h1.mono fun r hr => List.mem_append_right _ hr)
        rw [xr_left, xr_self, xr_zero] at this
        exact this
      have hl : (leftN (G k) (B.getD k 0, 0)).1 = 0 := by rw [leftN_fst]; exact ((h.ech k (by omega)).sp_iff _).1 hsp
      obtain ⟨o1, o2⟩ := h.own (by omega) hl
      have h2 : Sp (B.take k) (xr u (leftN (G k) (B.getD k 0, 0)).2) := by
        have := h1.plus o2
        rw [xr_assoc, xr_left, xr_comm, ← xr_assoc, xr_comm] at this
        have e : xr (B.getD k 0) (xr (B.getD k 0) (xr u (leftN (G k) (B.getD k 0, 0)).2)) = xr u (leftN (G k) (B.getD k 0, 0)).2 := xr_xr _ _
        have h3 := h1.plus o2
        have e2 : xr (xr (B.getD k 0) u) (xr (B.getD k 0) (leftN (G k) (B.getD k 0, 0)).2) = xr u (leftN (G k) (B.getD k 0, 0)).2 := by
          rw [xr_assoc, xr_left u, xr_xr]
        rwa [e2] at h3
      have hz := hsub _ (ih _ (hA.plus o1) h2)
      have hown : Sp (meetOut G B (k + 1)) (leftN (G k) (B.getD k 0, 0)).2 := by
        simp only [meetOut, kerStep]
        rw [if_pos hl]
        exact .mem (List.mem_append_right _ (List.mem_singleton.2 rfl))
      have := hz.plus hown
      rwa [xr_assoc, xr_self, xr_zero] at this
theorem MeetG.sp_iff (h : MeetG A B G) (u : Nat) : Sp (meetOut G B B.length) u ↔ Sp A u ∧ Sp B u := by
  constructor
  · intro hu
    have h1 := h.sub B.length (Nat.le_refl _)
    rw [List.take_length] at h1
    exact ⟨hu.trans fun r hr => (h1 r hr).1, hu.trans fun r hr => (h1 r hr).2⟩
  · intro ⟨h1, h2⟩
    exact h.all B.length (Nat.le_refl _) u h1 (by rw [List.take_length]; exact h2)
theorem sp_sm {S : List Nat} (hS : ∀ r ∈ S, Sm r) {v : Nat} (h : Sp S v) : Sm v := by
  induction h with
  | zero => exact Sm.zero
  | add hm _ ih => exact (hS _ hm).xr ih
theorem MeetG.sm (h : MeetG A B G) (hA : ∀ r ∈ A, Sm r) : ∀ z ∈ meetOut G B B.length, Sm z := fun z hz => sp_sm hA (h.sub B.length (Nat.le_refl _) z hz).1
theorem mt_pairs (A B : List Nat) : ∀ p ∈ dup A ++ zs B, Mt A B p := by
  intro p hp
  rcases List.mem_append.1 hp with h | h
  · obtain ⟨x, hx, rfl⟩ := List.mem_map.1 h
    exact ⟨.mem hx, by simp only [xr_self]; exact .zero⟩
  · obtain ⟨x, hx, rfl⟩ := List.mem_map.1 h
    exact ⟨.zero, by simp only [xr_zero]; exact .mem hx⟩
theorem sm_pairs {A B : List Nat} (hA : ∀ r ∈ A, Sm r) (hB : ∀ r ∈ B, Sm r) : ∀ p ∈ dup A ++ zs B, SmP p := by
  intro p hp
  rcases List.mem_append.1 hp with h | h
  · obtain ⟨x, hx, rfl⟩ := List.mem_map.1 h
    exact ⟨hA x hx, hA x hx⟩
  · obtain ⟨x, hx, rfl⟩ := List.mem_map.1 h
    exact ⟨hB x hx, Sm.zero⟩
theorem sm_take {B : List Nat} (hB : ∀ r ∈ B, Sm r) (k : Nat) : ∀ r ∈ B.take k, Sm r := fun r hr => hB r (List.mem_of_mem_take hr)
end
theorem meetG_grow {A B : List Nat} (hA : ∀ r ∈ A, Sm r) (hB : ∀ r ∈ B, Sm r) : MeetG A B (fun k => growAll (dup A ++ zs (B.take k))) where
  mem k _ := grow_all (P := Mt A (B.take k)) (fun L p hL hp => Mt.left hL p hp) _ [] (mt_pairs A _) (by simp)
  ech k _ := grow_ech_all _ [] ⟨by simp [r1], by simp [r1]⟩ fun p hp => (sm_pairs hA (sm_take hB k) p hp).1
  sp k _ v := by rw [sp_grow, r1_app, r1_dup, r1_zs]
theorem meetG_span {A B : List Nat} (hA : ∀ r ∈ A, Sm r) (hB : ∀ r ∈ B, Sm r) : MeetG A B (fun k => spanL (dup A ++ zs (B.take k))) where
  mem k _ := add_all (P := Mt A (B.take k)) (fun L p hL hp => Mt.addL hL hp) _ [] (mt_pairs A _) (by simp)
  ech k _ := (spanL_perm _ (sm_pairs hA (sm_take hB k))).2.1.ech
  sp k _ v := by rw [sp_span, r1_app, r1_dup, r1_zs]
/-- the reference's list over reduced rows: nothing comes of the first space's own rows -/
theorem kerP_meet {A B : List Nat} (hA : Red A) : ∀ j, j ≤ B.length → kerP (dup A ++ zs B) (A.length + j) = meetOut (fun k => growAll (dup A ++ zs (B.take k))) B j := by
  have h0 : ∀ k, k ≤ A.length → kerP (dup A ++ zs B) k = [] := by
    intro k
    induction k with
    | zero => intro _; rfl
    | succ k ih =>
      intro hk
      have e1 : (dup A ++ zs B).take k = dup (A.take k) := by rw [List.take_append_of_le_length (by rw [dup_length]; omega), dup_take]
      have e2 : (dup A ++ zs B).getD k (0, 0) = (A.getD k 0, A.getD k 0) := by
        rw [getD_app_left (by rw [dup_length]; omega), dup_getD (by omega)]
      simp only [kerP, kerStep, e1, e2, ih (by omega)]
      rw [if_neg]
      rw [leftN_fst]
      intro hl
      have hm : A.getD k 0 ∈ A := getD_mem (by omega)
      have hx := hA.ne _ hm
      have hech : Ech (r1 (growAll (dup (A.take k)))) := grow_ech_all _ [] ⟨by simp [r1], by simp [r1]⟩ fun p hp => by
        obtain ⟨x, hx, rfl⟩ := List.mem_map.1 hp
        exact (hA.ne x (List.mem_of_mem_take hx)).2
      have hs : Sp (A.take k) (A.getD k 0) := by
        have := (hech.sp_iff _).2 hl
        rwa [sp_grow, r1_dup] at this
      have hoff : ∀ r ∈ A.take k, tb r (pv (A.getD k 0)) = false := by
        intro r hr
        obtain ⟨i, hi, rfl⟩ := List.getElem_of_mem hr
        rw [List.length_take] at hi
        rw [List.getElem_take]
        have := (List.pairwise_iff_getElem.1 hA.off) i k (by omega) (by omega) (by omega)
        rw [show A.getD k 0 = A[k] by simp [List.getD, show k < A.length by omega]]
        exact this.1
      have := Sp.off hoff hs
      rw [tb_pv hx.1 hx.2] at this; cases this
  intro j
  induction j with
  | zero => intro _; exact h0 _ (Nat.le_refl _)
  | succ j ih =>
    intro hj
    have e1 : (dup A ++ zs B).take (A.length + j) = dup A ++ zs (B.take j) := by
      rw [List.take_append, dup_length, List.take_of_length_le (by rw [dup_length]; omega), zs_take]
      congr 2
      congr 1
      omega
    have e2 : (dup A ++ zs B).getD (A.length + j) (0, 0) = (B.getD j 0, 0) := by
      rw [getD_app_right (by rw [dup_length]; omega), dup_length, show A.length + j - A.length = j by omega, zs_getD (by omega)]
    show kerP (dup A ++ zs B) ((A.length + j) + 1) = _
    simp only [kerP, meetOut, e1, e2, ih (by omega)]
def meetS (A B : List Nat) : List Nat := reduceS (meetOut (fun k => spanL (dup A ++ zs (B.take k))) B B.length)
/-- both meets -/
theorem meet_both {A B : List Nat} (hA : ∀ r ∈ A, Sm r) (hB : ∀ r ∈ B, Sm r) :
    reduceS (kerP (dup (reduceS A) ++ zs (reduceS B)) ((reduceS A).length + (reduceS B).length)) = meetS A B := by
  have rA := red_reduce hA
  have rB := red_reduce hB
  have sA : ∀ r ∈ reduceS A, Sm r := fun r hr => (rA.ne r hr).2
  have sB : ∀ r ∈ reduceS B, Sm r := fun r hr => (rB.ne r hr).2
  rw [kerP_meet rA _ (Nat.le_refl _)]
  have h1 := meetG_grow sA sB
  have h2 := meetG_span hA hB
  exact reduce_unique (h1.sm sA) (h2.sm hA) fun v => by rw [h1.sp_iff, h2.sp_iff, sp_reduce hA, sp_reduce hB]
end Go.Proofs.YtchmplpgamekjaaDoor
