/- plain mathematics: spans, spaces, echelon lists, kernels, meets, dimensions (no program in sight) · vectors, their masks, maps of modules (no program in sight) -/
import Derived.Test.YtnffpjdlpjkioaaBxab
import Derived.Test.YtnffpjdlpjkioaaBxac
set_option linter.all false
namespace Go.Proofs.Ytnffpjdlpjkioaa

/-- one row of a span taken off a mask and its companion, where the mask has the row's pivot -/
def leftStep (p : Nat × Nat) (r : Nat × Nat) : Nat × Nat := if tb p.1 (pv r.1) then (xr p.1 r.1, xr p.2 r.2) else p
def leftN (L : List (Nat × Nat)) (p : Nat × Nat) : Nat × Nat := L.foldl leftStep p
def SmP (p : Nat × Nat) : Prop := Sm p.1 ∧ Sm p.2
/-- rows that are no 0, and all small -/
def Good (L : List (Nat × Nat)) : Prop := ∀ r ∈ L, r.1 ≠ 0 ∧ Sm r.1 ∧ Sm r.2

theorem Good.at_ {L : List (Nat × Nat)} (h : Good L) {k : Nat} (hk : k < L.length) : (L.getD k (0, 0)).1 ≠ 0 ∧ Sm (L.getD k (0, 0)).1 ∧ Sm (L.getD k (0, 0)).2 := by
  have : L.getD k (0, 0) = L[k] := by simp [List.getD, hk]
  rw [this]; exact h _ (List.getElem_mem hk)
theorem SmP.step {p r : Nat × Nat} (hp : SmP p) (hr : Sm r.1 ∧ Sm r.2) : SmP (leftStep p r) := by
  unfold leftStep; split
  · exact ⟨hp.1.xr hr.1, hp.2.xr hr.2⟩
  · exact hp
theorem SmP.foldl {L : List (Nat × Nat)} (hg : Good L) : ∀ {p : Nat × Nat}, SmP p → SmP (leftN L p) := by
  unfold leftN
  induction L with
  | nil => intro p hp; exact hp
  | cons r L ih => intro p hp; exact ih (fun x hx => hg x (List.mem_cons_of_mem _ hx)) (hp.step (hg r (List.mem_cons_self ..)).2)
theorem Good.take {L : List (Nat × Nat)} (h : Good L) (k : Nat) : Good (L.take k) := fun r hr => h r (List.mem_of_mem_take hr)

def r1 (L : List (Nat × Nat)) : List Nat := L.map (·.1)
def r2 (L : List (Nat × Nat)) : List Nat := L.map (·.2)
theorem r1_getD (L : List (Nat × Nat)) (k : Nat) : (r1 L).getD k 0 = (L.getD k (0, 0)).1 := by
  simp only [r1, List.getD, List.getElem?_map]; cases L[k]? <;> rfl
theorem r2_getD (L : List (Nat × Nat)) (k : Nat) : (r2 L).getD k 0 = (L.getD k (0, 0)).2 := by
  simp only [r2, List.getD, List.getElem?_map]; cases L[k]? <;> rfl
theorem r1_length (L : List (Nat × Nat)) : (r1 L).length = L.length := by simp [r1]
theorem r2_length (L : List (Nat × Nat)) : (r2 L).length = L.length := by simp [r2]


def addStep (q : Nat × Nat) (r : Nat × Nat) : Nat × Nat := if tb r.1 (pv q.1) then (xr r.1 q.1, xr r.2 q.2) else r


def addN (L : List (Nat × Nat)) (p : Nat × Nat) : List (Nat × Nat) := L.map (addStep (leftN L p)) ++ [leftN L p]


theorem reduceS_length_le (rows : List Nat) : (reduceS rows).length ≤ rows.length := by
  unfold reduceS
  have : ∀ (rows S : List Nat), (rows.foldl putS S).length ≤ S.length + rows.length := by
    intro rows
    induction rows with
    | nil => intro S; simp
    | cons r rows ih => intro S; have h1 := ih (putS S r); have h2 := putS_length_le S r; simp only [List.foldl_cons, List.length_cons]; omega
  simpa using this rows []
theorem reduceS_take_succ (rows : List Nat) (k : Nat) (h : k < rows.length) : reduceS (rows.take (k + 1)) = putS (reduceS (rows.take k)) (rows.getD k 0) := fold_take_succ _ _ _ _ 0 h


/-- what 'add' makes of a span -/
def addL (L : List (Nat × Nat)) (p : Nat × Nat) : List (Nat × Nat) := if (leftN L p).1 = 0 then L else addN L p
theorem leftN_fst (L : List (Nat × Nat)) : ∀ p, (leftN L p).1 = leftS (r1 L) p.1 := by
  induction L with
  | nil => intro p; rfl
  | cons r L ih =>
    intro p
    show (leftN L (leftStep p r)).1 = leftS (r1 L) (if tb p.1 (pv r.1) then xr p.1 r.1 else p.1)
    rw [ih]
    unfold leftStep; split <;> rfl
theorem addStep_fst (q r : Nat × Nat) : (addStep q r).1 = stepS q.1 r.1 := by unfold addStep stepS; split <;> rfl
theorem r1_addN (L : List (Nat × Nat)) (p : Nat × Nat) : r1 (addN L p) = (r1 L).map (stepS (leftS (r1 L) p.1)) ++ [leftS (r1 L) p.1] := by
  unfold addN r1
  rw [List.map_append, List.map_map, List.map_map]
  congr 1
  · apply List.map_congr_left
    intro r _
    simp only [Function.comp, addStep_fst]
    rw [leftN_fst L p]; rfl
  · simp [leftN_fst, r1]
/-- the rows of the program's span are those of the reference's list, in another order -/
theorem addL_perm {L : List (Nat × Nat)} {S : List Nat} (h : (r1 L).Perm S) (hr : Red (r1 L)) (p : Nat × Nat) : (r1 (addL L p)).Perm (putS S p.1) := by
  have e : leftS (r1 L) p.1 = leftS S p.1 := leftS_perm hr h p.1
  unfold addL
  by_cases h0 : (leftN L p).1 = 0
  · rw [if_pos h0]
    have : leftS S p.1 = 0 := by rw [← e, ← leftN_fst]; exact h0
    unfold putS; rw [if_pos this]; exact h
  · rw [if_neg h0, r1_addN, e]
    have h1 : leftS S p.1 ≠ 0 := by rw [← e, ← leftN_fst]; exact h0
    exact ((h.map _).append_right _).trans (putS_perm S p.1 h1).symm
theorem addL_red {L : List (Nat × Nat)} (hr : Red (r1 L)) {p : Nat × Nat} (hp : Sm p.1) : Red (r1 (addL L p)) :=
  (red_put hr hp).perm (addL_perm (List.Perm.refl _) hr p).symm
theorem addL_good {L : List (Nat × Nat)} (hr : Red (r1 L)) (hg : Good L) {p : Nat × Nat} (hp : SmP p) : Good (addL L p) := by
  have hrd := addL_red hr hp.1
  intro r hm
  refine ⟨(hrd.ne r.1 (List.mem_map.2 ⟨r, hm, rfl⟩)).1, (hrd.ne r.1 (List.mem_map.2 ⟨r, hm, rfl⟩)).2, ?_⟩
  unfold addL at hm
  split at hm
  · exact (hg r hm).2.2
  · unfold addN at hm
    have hq : SmP (leftN L p) := SmP.foldl hg hp
    rcases List.mem_append.1 hm with hm | hm
    · obtain ⟨s, hs, rfl⟩ := List.mem_map.1 hm
      unfold addStep; split
      · exact (hg s hs).2.2.xr hq.2
      · exact (hg s hs).2.2
    · rw [List.mem_singleton.1 hm]; exact hq.2
theorem addL_length_le (L : List (Nat × Nat)) (p : Nat × Nat) : (addL L p).length ≤ L.length + 1 := by
  unfold addL addN; split <;> simp

/-- spans of a list of rows -/
def spanL (ps : List (Nat × Nat)) : List (Nat × Nat) := ps.foldl addL []
theorem spanL_perm (ps : List (Nat × Nat)) (h : ∀ p ∈ ps, SmP p) : (r1 (spanL ps)).Perm (reduceS (r1 ps)) ∧ Red (r1 (spanL ps)) ∧ Good (spanL ps) := by
  unfold spanL reduceS
  have : ∀ (ps L : List (Nat × Nat)) (S : List Nat), (r1 L).Perm S → Red (r1 L) → Good L → (∀ p ∈ ps, SmP p) → (r1 (ps.foldl addL L)).Perm ((r1 ps).foldl putS S) ∧ Red (r1 (ps.foldl addL L)) ∧ Good (ps.foldl addL L) := by
    intro ps
    induction ps with
    | nil => intro L S h1 h2 h3 _; exact ⟨h1, h2, h3⟩
    | cons p ps ih =>
      intro L S h1 h2 h3 h
      have hp := h p (List.mem_cons_self ..)
      exact ih _ _ (addL_perm h1 h2 p) (addL_red h2 hp.1) (addL_good h2 h3 hp) (fun q hq => h q (List.mem_cons_of_mem _ hq))
  exact this ps [] [] (List.Perm.refl _) Red.nil (by intro r hr; cases hr) h
theorem spanL_length_le (ps : List (Nat × Nat)) : (spanL ps).length ≤ ps.length := by
  unfold spanL
  have : ∀ (ps L : List (Nat × Nat)), (ps.foldl addL L).length ≤ L.length + ps.length := by
    intro ps
    induction ps with
    | nil => intro L; simp
    | cons p ps ih => intro L; have h1 := ih (addL L p); have h2 := addL_length_le L p; simp only [List.foldl_cons, List.length_cons]; omega
  simpa using this ps []
theorem spanL_take_succ (ps : List (Nat × Nat)) (k : Nat) (h : k < ps.length) : spanL (ps.take (k + 1)) = addL (spanL (ps.take k)) (ps.getD k (0, 0)) := fold_take_succ _ _ _ _ _ h


def zs (rows : List Nat) : List (Nat × Nat) := rows.map fun r => (r, 0)
theorem r1_zs (rows : List Nat) : r1 (zs rows) = rows := by simp [r1, zs, List.map_map, Function.comp_def]
theorem zs_length (rows : List Nat) : (zs rows).length = rows.length := by simp [zs]



/-- the space of rows -/
inductive Sp (S : List Nat) : Nat → Prop
  | zero : Sp S 0
  | add {r v : Nat} : r ∈ S → Sp S v → Sp S (xr r v)
theorem Sp.mem {S : List Nat} {r : Nat} (h : r ∈ S) : Sp S r := by have := Sp.add h .zero; rwa [xr_zero] at this
theorem Sp.plus {S : List Nat} {a b : Nat} (ha : Sp S a) (hb : Sp S b) : Sp S (xr a b) := by
  induction ha with
  | zero => rwa [zero_xr]
  | add hm _ ih => rw [xr_assoc]; exact .add hm ih
theorem Sp.trans {S T : List Nat} {v : Nat} (h : ∀ r ∈ S, Sp T r) (hv : Sp S v) : Sp T v := by
  induction hv with
  | zero => exact .zero
  | add hm _ ih => exact (h _ hm).plus ih
theorem Sp.mono {S T : List Nat} {v : Nat} (h : ∀ r ∈ S, r ∈ T) (hv : Sp S v) : Sp T v := hv.trans fun r hr => .mem (h r hr)
theorem Sp.off {S : List Nat} {n v : Nat} (h : ∀ r ∈ S, tb r n = false) (hv : Sp S v) : tb v n = false := by
  induction hv with
  | zero => exact tb_zero n
  | add hm _ ih => rw [tb_xr, h _ hm, ih]; rfl
theorem sp_cons {r v : Nat} {S : List Nat} (h : Sp (r :: S) v) : Sp S v ∨ Sp S (xr r v) := by
  induction h with
  | zero => exact .inl .zero
  | add hm _ ih =>
    rcases List.mem_cons.1 hm with rfl | hm
    · rcases ih with ih | ih
      · exact .inr (by rw [xr_xr]; exact ih)
      · exact .inl ih
    · rcases ih with ih | ih
      · exact .inl (.add hm ih)
      · exact .inr (by rw [xr_left]; exact .add hm ih)

/-- Echelon: no row is 0, all are small, no later row has an earlier one's pivot. -/
structure Ech (S : List Nat) : Prop where
  ne : ∀ r ∈ S, r ≠ 0 ∧ Sm r
  off : S.Pairwise fun r s => tb s (pv r) = false
theorem Red.ech {S : List Nat} (h : Red S) : Ech S := ⟨h.ne, h.off.imp fun h => h.2⟩
theorem Ech.tail {r : Nat} {S : List Nat} (h : Ech (r :: S)) : Ech S := ⟨fun s hs => h.ne s (List.mem_cons_of_mem _ hs), (List.pairwise_cons.1 h.off).2⟩
theorem Ech.left {S : List Nat} (h : Ech S) : ∀ x, ∀ r ∈ S, tb (leftS S x) (pv r) = false := by
  induction S with
  | nil => intro x r hr; cases hr
  | cons r S ih =>
    intro x s hs
    have hp := (List.pairwise_cons.1 h.off).1
    have hr := h.ne r (List.mem_cons_self ..)
    rw [leftS_cons]
    rcases List.mem_cons.1 hs with rfl | hs
    · rw [tb_leftS (fun t ht => hp t ht)]
      split
      · rename_i h1; rw [tb_xr, h1, tb_pv hr.1 hr.2]; rfl
      · rename_i h1; simpa using h1
    · exact ih h.tail _ s hs
theorem left_sp (S : List Nat) : ∀ x, Sp S (xr x (leftS S x)) := by
  induction S with
  | nil => intro x; rw [show leftS [] x = x from rfl, xr_self]; exact .zero
  | cons r S ih =>
    intro x
    rw [leftS_cons]
    split
    · have := Sp.add (S := r :: S) (List.mem_cons_self ..) ((ih (xr x r)).mono fun s hs => List.mem_cons_of_mem _ hs)
      rw [xr_comm x r, xr_assoc, xr_xr] at this
      rw [xr_comm x r]; exact this
    · exact (ih x).mono fun s hs => List.mem_cons_of_mem _ hs
theorem Ech.zero {S : List Nat} (h : Ech S) : ∀ v, Sp S v → (∀ r ∈ S, tb v (pv r) = false) → v = 0 := by
  induction S with
  | nil =>
    intro v hv _
    cases hv with
    | zero => rfl
    | add hm _ => cases hm
  | cons r S ih =>
    intro v hv hoff
    have hp := (List.pairwise_cons.1 h.off).1
    have hr := h.ne r (List.mem_cons_self ..)
    rcases sp_cons hv with hv | hv
    · exact ih h.tail v hv fun s hs => hoff s (List.mem_cons_of_mem _ hs)
    · have h1 := Sp.off (n := pv r) hp hv
      rw [tb_xr, hoff r (List.mem_cons_self ..), tb_pv hr.1 hr.2] at h1
      cases h1
theorem Ech.sp_iff {S : List Nat} (h : Ech S) (v : Nat) : Sp S v ↔ leftS S v = 0 := by
  constructor
  · intro hv
    refine h.zero _ ?_ (h.left v)
    have := hv.plus (left_sp S v)
    rwa [xr_xr] at this
  · intro h0
    have := left_sp S v
    rwa [h0, xr_zero] at this

theorem comb_sp (S : List Nat) : ∀ i x, Sp S (comb S i x) := by
  induction S with
  | nil => intro i x; exact .zero
  | cons r S ih =>
    intro i x
    have := (ih (i + 1) x).mono (T := r :: S) fun s hs => List.mem_cons_of_mem _ hs
    simp only [comb]
    split
    · exact .add (List.mem_cons_self ..) this
    · rwa [zero_xr]
/-- the greatest digit of a mask taken off -/
theorem comb_take (S : List Nat) : ∀ i t z, t < S.length → (∀ m, i + t < m → tb z m = false) → comb S i z = xr (comb (S.take t) i z) (if tb z (i + t) then S.getD t 0 else 0) := by
  induction S with
  | nil => intro i t z h _; simp at h
  | cons r S ih =>
    intro i t z ht hz
    cases t with
    | zero =>
      have h0 : comb S (i + 1) z = 0 := comb_low S (i + 1) z fun m hm => hz m (by omega)
      simp [comb, h0, xr_zero, zero_xr]
    | succ t =>
      have h1 := ih (i + 1) t z (by simpa using ht) (fun m hm => hz m (by omega))
      simp only [comb, List.take_succ_cons, List.getD_cons_succ]
      rw [h1, show i + 1 + t = i + (t + 1) by omega, xr_assoc]
/-- rows none of which belongs to the space of the earlier ones: only 0 makes 0 of them -/
theorem comb_inj {S : List Nat} (h : ∀ t, t < S.length → ¬ Sp (S.take t) (S.getD t 0)) : ∀ n z, n ≤ S.length → z < 2 ^ n → comb S 0 z = 0 → z = 0 := by
  intro n
  induction n with
  | zero => intro z _ hz _; simpa using hz
  | succ n ih =>
    intro z hn hz h0
    have hc := comb_take S 0 n z (by omega) (fun m hm => tb_of_lt hz (by omega))
    cases hb : tb z n
    · refine ih z (by omega) (lt_of_tb fun m hm => ?_) h0
      rcases Nat.lt_or_ge n m with h1 | h1
      · exact tb_of_lt hz (by omega)
      · rw [show m = n by omega]; exact hb
    · rw [Nat.zero_add, hb, h0] at hc
      simp only [if_true] at hc
      have e : S.getD n 0 = comb (S.take n) 0 z := by
        have := congrArg (xr (comb (S.take n) 0 z)) hc
        rw [xr_xr, xr_zero] at this; exact this.symm
      exact absurd (e ▸ comb_sp (S.take n) 0 z) (h n (by omega))

/-- what a row differs by from what its companion makes -/
def Dif (S : List Nat) (p : Nat × Nat) : Nat := xr p.1 (comb S 0 p.2)
theorem Dif.step {S : List Nat} {p r : Nat × Nat} (hr : Dif S r = 0) : Dif S (leftStep p r) = Dif S p := by
  unfold leftStep
  split
  · have e : Dif S (xr p.1 r.1, xr p.2 r.2) = xr (Dif S p) (Dif S r) := by
      unfold Dif; simp only [comb_xr]; rw [xr_assoc, xr_assoc, xr_left r.1]
    rw [e, hr, xr_zero]
  · rfl
theorem Dif.left {S : List Nat} {L : List (Nat × Nat)} (h : ∀ r ∈ L, Dif S r = 0) : ∀ p, Dif S (leftN L p) = Dif S p := by
  unfold leftN
  induction L with
  | nil => intro p; rfl
  | cons r L ih => intro p; rw [List.foldl_cons, ih (fun s hs => h s (List.mem_cons_of_mem _ hs)), Dif.step (h r (List.mem_cons_self ..))]
theorem dif_zero {S : List Nat} {p : Nat × Nat} : Dif S p = 0 ↔ comb S 0 p.2 = p.1 := by
  unfold Dif
  constructor
  · intro h; have := congrArg (xr p.1) h; rwa [xr_xr, xr_zero] at this
  · intro h; rw [h, xr_self]

/-- both numbers of a pair are below powers of 2 -/
def Lt2 (a b : Nat) (p : Nat × Nat) : Prop := p.1 < 2 ^ a ∧ p.2 < 2 ^ b
theorem Lt2.left {a b : Nat} {L : List (Nat × Nat)} (h : ∀ r ∈ L, Lt2 a b r) : ∀ {p}, Lt2 a b p → Lt2 a b (leftN L p) := by
  unfold leftN
  induction L with
  | nil => intro p hp; exact hp
  | cons r L ih =>
    intro p hp
    refine ih (fun s hs => h s (List.mem_cons_of_mem _ hs)) ?_
    have hr := h r (List.mem_cons_self ..)
    unfold leftStep; split
    · exact ⟨Nat.xor_lt_two_pow hp.1 hr.1, Nat.xor_lt_two_pow hp.2 hr.2⟩
    · exact hp
theorem Lt2.addL {a b : Nat} {L : List (Nat × Nat)} (h : ∀ r ∈ L, Lt2 a b r) {p : Nat × Nat} (hp : Lt2 a b p) : ∀ r ∈ addL L p, Lt2 a b r := by
  intro r hm
  have hq := Lt2.left h hp
  unfold Go.Proofs.Ytnffpjdlpjkioaa.addL at hm
  split at hm
  · exact h r hm
  · unfold addN at hm
    rcases List.mem_append.1 hm with hm | hm
    · obtain ⟨s, hs, rfl⟩ := List.mem_map.1 hm
      have h1 := h s hs
      unfold addStep; split
      · exact ⟨Nat.xor_lt_two_pow h1.1 hq.1, Nat.xor_lt_two_pow h1.2 hq.2⟩
      · exact h1
    · rw [List.mem_singleton.1 hm]; exact hq
theorem Dif.addL {S : List Nat} {L : List (Nat × Nat)} (h : ∀ r ∈ L, Dif S r = 0) {p : Nat × Nat} (hp : Dif S p = 0) : ∀ r ∈ addL L p, Dif S r = 0 := by
  intro r hm
  have hq := (Dif.left h p).trans hp
  unfold Go.Proofs.Ytnffpjdlpjkioaa.addL at hm
  split at hm
  · exact h r hm
  · unfold addN at hm
    rcases List.mem_append.1 hm with hm | hm
    · obtain ⟨s, hs, rfl⟩ := List.mem_map.1 hm
      have h1 := h s hs
      have e : addStep (leftN L p) s = s ∨ addStep (leftN L p) s = (xr s.1 (leftN L p).1, xr s.2 (leftN L p).2) := by
        unfold addStep; split
        · exact .inr rfl
        · exact .inl rfl
      rcases e with e | e
      · rw [e]; exact h1
      · rw [e]
        rw [dif_zero] at h1 hq ⊢
        simp only [comb_xr, h1, hq]
    · rw [List.mem_singleton.1 hm]; exact hq
theorem sp_addL (L : List (Nat × Nat)) (p : Nat × Nat) (v : Nat) : Sp (r1 (addL L p)) v ↔ Sp (p.1 :: r1 L) v := by
  have hl := left_sp (r1 L) p.1
  have hT : ∀ r ∈ r1 L, Sp (p.1 :: r1 L) r := fun r hr => .mem (List.mem_cons_of_mem _ hr)
  by_cases h0 : (leftN L p).1 = 0
  · have e : addL L p = L := by unfold addL; rw [if_pos h0]
    rw [leftN_fst] at h0
    rw [h0, xr_zero] at hl
    rw [e]
    constructor
    · exact Sp.trans hT
    · refine Sp.trans fun r hr => ?_
      rcases List.mem_cons.1 hr with rfl | hr
      · exact hl
      · exact .mem hr
  · have e : addL L p = addN L p := by unfold addL; rw [if_neg h0]
    rw [e, r1_addN]
    generalize hq : leftS (r1 L) p.1 = q at *
    have hqs : Sp (p.1 :: r1 L) q := by
      have := (Sp.mem (S := p.1 :: r1 L) (List.mem_cons_self ..)).plus (hl.trans hT)
      rwa [xr_xr] at this
    have hqm : Sp ((r1 L).map (stepS q) ++ [q]) q := .mem (by simp)
    have hrm : ∀ r ∈ r1 L, Sp ((r1 L).map (stepS q) ++ [q]) r := by
      intro r hr
      have h1 : Sp ((r1 L).map (stepS q) ++ [q]) (stepS q r) := .mem (List.mem_append_left _ (List.mem_map_of_mem hr))
      unfold stepS at h1
      split at h1
      · have := h1.plus hqm
        rwa [xr_assoc, xr_self, xr_zero] at this
      · exact h1
    constructor
    · refine Sp.trans fun r hr => ?_
      rcases List.mem_append.1 hr with hr | hr
      · obtain ⟨s, hs, rfl⟩ := List.mem_map.1 hr
        unfold stepS; split
        · exact (hT s hs).plus hqs
        · exact hT s hs
      · rw [List.mem_singleton.1 hr]; exact hqs
    · refine Sp.trans fun r hr => ?_
      rcases List.mem_cons.1 hr with rfl | hr
      · have := hqm.plus (hl.trans hrm)
        rw [xr_left, xr_self, xr_zero] at this; exact this
      · exact hrm r hr
theorem sp_congr {S T U : List Nat} (h : ∀ v, Sp S v ↔ Sp T v) (v : Nat) : Sp (S ++ U) v ↔ Sp (T ++ U) v := by
  constructor
  · refine Sp.trans fun r hr => ?_
    rcases List.mem_append.1 hr with hr | hr
    · exact ((h r).1 (.mem hr)).mono fun s hs => List.mem_append_left _ hs
    · exact .mem (List.mem_append_right _ hr)
  · refine Sp.trans fun r hr => ?_
    rcases List.mem_append.1 hr with hr | hr
    · exact ((h r).2 (.mem hr)).mono fun s hs => List.mem_append_left _ hs
    · exact .mem (List.mem_append_right _ hr)
theorem sp_same {S T : List Nat} (h : ∀ r, r ∈ S ↔ r ∈ T) (v : Nat) : Sp S v ↔ Sp T v := ⟨Sp.mono fun r hr => (h r).1 hr, Sp.mono fun r hr => (h r).2 hr⟩
theorem sp_foldl : ∀ (ps L : List (Nat × Nat)) (v : Nat), Sp (r1 (ps.foldl addL L)) v ↔ Sp (r1 L ++ r1 ps) v
  | [], L, v => by simp [r1]
  | p :: ps, L, v => by
    rw [List.foldl_cons, sp_foldl ps (addL L p) v, sp_congr (sp_addL L p)]
    exact sp_same (by intro r; simp [r1]; constructor <;> (intro h; rcases h with h | h | h <;> simp [h])) v
theorem sp_span (ps : List (Nat × Nat)) (v : Nat) : Sp (r1 (spanL ps)) v ↔ Sp (r1 ps) v := by
  have := sp_foldl ps [] v; simpa [spanL, r1] using this


/-- rows with different least digits, as the reference collects them -/
def growL (L : List (Nat × Nat)) (p : Nat × Nat) : List (Nat × Nat) := if (leftN L p).1 = 0 then L else L ++ [leftN L p]
def growAll (ps : List (Nat × Nat)) : List (Nat × Nat) := ps.foldl growL []
/-- rows with the masks that make them -/
def us : Nat → List Nat → List (Nat × Nat)
  | _, [] => []
  | i, r :: S => (r, 2 ^ i) :: us (i + 1) S
theorem us_length (S : List Nat) : ∀ i, (us i S).length = S.length := by
  induction S with
  | nil => intro i; rfl
  | cons r S ih => intro i; simp [us, ih]
theorem us_take (S : List Nat) : ∀ i k, (us i S).take k = us i (S.take k) := by
  induction S with
  | nil => intro i k; simp [us]
  | cons r S ih => intro i k; cases k <;> simp [us, ih]
theorem us_r1 (S : List Nat) : ∀ i, r1 (us i S) = S := by
  induction S with
  | nil => intro i; rfl
  | cons r S ih => intro i; have := ih (i + 1); simp only [r1] at this; simp [us, r1, this]
theorem us_getD (S : List Nat) : ∀ i k, k < S.length → (us i S).getD k (0, 0) = (S.getD k 0, 2 ^ (i + k)) := by
  induction S with
  | nil => intro i k h; simp at h
  | cons r S ih =>
    intro i k h
    cases k with
    | zero => rfl
    | succ k =>
      have := ih (i + 1) k (by simpa using h)
      simp only [us, List.getD_cons_succ, this]
      rw [show i + 1 + k = i + (k + 1) by omega]
theorem us_mem {S : List Nat} {p : Nat × Nat} (h : p ∈ us 0 S) : ∃ k, k < S.length ∧ p = (S.getD k 0, 2 ^ k) := by
  obtain ⟨k, hk, rfl⟩ := List.getElem_of_mem h
  rw [us_length] at hk
  refine ⟨k, hk, ?_⟩
  have := us_getD S 0 k hk
  rw [Nat.zero_add] at this
  rw [← this]
  simp [List.getD, us_length, hk]
theorem us_dif {S : List Nat} {p : Nat × Nat} (h : p ∈ us 0 S) : Dif S p = 0 := by
  obtain ⟨k, _, rfl⟩ := us_mem h
  rw [dif_zero]
  have := comb_pow S 0 k
  rwa [Nat.zero_add] at this
theorem getD_mem {S : List Nat} {k : Nat} (h : k < S.length) : S.getD k 0 ∈ S := by simp [List.getD, h]
theorem us_lt {S : List Nat} {a : Nat} (hS : ∀ r ∈ S, r < 2 ^ a) {p : Nat × Nat} (h : p ∈ us 0 S) : Lt2 a S.length p := by
  obtain ⟨k, hk, rfl⟩ := us_mem h
  exact ⟨hS _ (getD_mem hk), Nat.pow_lt_pow_right (by omega) hk⟩

theorem grow_cases (L : List (Nat × Nat)) (p : Nat × Nat) : growL L p = L ∧ (leftN L p).1 = 0 ∨ growL L p = L ++ [leftN L p] ∧ (leftN L p).1 ≠ 0 := by
  unfold growL
  by_cases h : (leftN L p).1 = 0
  · exact .inl ⟨if_pos h, h⟩
  · exact .inr ⟨if_neg h, h⟩
theorem grow_ech {L : List (Nat × Nat)} (h : Ech (r1 L)) {p : Nat × Nat} (hp : Sm p.1) : Ech (r1 (growL L p)) := by
  rcases grow_cases L p with ⟨e, _⟩ | ⟨e, h0⟩
  · rw [e]; exact h
  · rw [leftN_fst] at h0
    have er : r1 (L ++ [leftN L p]) = r1 L ++ [leftS (r1 L) p.1] := by rw [← leftN_fst]; simp [r1]
    rw [e, er]
    refine ⟨fun r hr => ?_, List.pairwise_append.2 ⟨h.off, List.pairwise_singleton _ _, fun r hr s hs => ?_⟩⟩
    · rcases List.mem_append.1 hr with hr | hr
      · exact h.ne r hr
      · rw [List.mem_singleton.1 hr]; exact ⟨h0, leftS_sm h.ne hp⟩
    · rw [List.mem_singleton.1 hs]; exact h.left _ r hr
theorem sp_growL (L : List (Nat × Nat)) (p : Nat × Nat) (v : Nat) : Sp (r1 (growL L p)) v ↔ Sp (p.1 :: r1 L) v := by
  have hl := left_sp (r1 L) p.1
  have hT : ∀ r ∈ r1 L, Sp (p.1 :: r1 L) r := fun r hr => .mem (List.mem_cons_of_mem _ hr)
  rcases grow_cases L p with ⟨e, h0⟩ | ⟨e, h0⟩
  · rw [leftN_fst] at h0
    rw [h0, xr_zero] at hl
    rw [e]
    constructor
    · exact Sp.trans hT
    · refine Sp.trans fun r hr => ?_
      rcases List.mem_cons.1 hr with rfl | hr
      · exact hl
      · exact .mem hr
  · have er : r1 (L ++ [leftN L p]) = r1 L ++ [leftS (r1 L) p.1] := by rw [← leftN_fst]; simp [r1]
    rw [e, er]
    constructor
    · refine Sp.trans fun r hr => ?_
      rcases List.mem_append.1 hr with hr | hr
      · exact hT r hr
      · rw [List.mem_singleton.1 hr]
        have := (Sp.mem (S := p.1 :: r1 L) (List.mem_cons_self ..)).plus (hl.trans hT)
        rwa [xr_xr] at this
    · refine Sp.trans fun r hr => ?_
      rcases List.mem_cons.1 hr with rfl | hr
      · have := (Sp.mem (S := r1 L ++ [leftS (r1 L) p.1]) (r := leftS (r1 L) p.1) (by simp)).plus (hl.mono fun s hs => List.mem_append_left _ hs)
        rw [xr_left, xr_self, xr_zero] at this; exact this
      · exact .mem (List.mem_append_left _ hr)
theorem sp_growfold : ∀ (ps L : List (Nat × Nat)) (v : Nat), Sp (r1 (ps.foldl growL L)) v ↔ Sp (r1 L ++ r1 ps) v
  | [], L, v => by simp [r1]
  | p :: ps, L, v => by
    rw [List.foldl_cons, sp_growfold ps (growL L p) v, sp_congr (sp_growL L p)]
    exact sp_same (by intro r; simp [r1]; constructor <;> (intro h; rcases h with h | h | h <;> simp [h])) v
theorem sp_grow (ps : List (Nat × Nat)) (v : Nat) : Sp (r1 (growAll ps)) v ↔ Sp (r1 ps) v := by
  have := sp_growfold ps [] v; simpa [growAll, r1] using this
/-- what all pairs of a list keep, the list that is grown from them keeps -/
theorem grow_all {P : Nat × Nat → Prop} (hP : ∀ L p, (∀ r ∈ L, P r) → P p → P (leftN L p)) : ∀ (ps L : List (Nat × Nat)), (∀ p ∈ ps, P p) → (∀ r ∈ L, P r) → ∀ r ∈ ps.foldl growL L, P r
  | [], L, _, hL => hL
  | p :: ps, L, h, hL => by
    refine grow_all hP ps (growL L p) (fun q hq => h q (List.mem_cons_of_mem _ hq)) ?_
    have hp := h p (List.mem_cons_self ..)
    rcases grow_cases L p with ⟨e, _⟩ | ⟨e, _⟩
    · rw [e]; exact hL
    · rw [e]
      intro r hr
      rcases List.mem_append.1 hr with hr | hr
      · exact hL r hr
      · rw [List.mem_singleton.1 hr]; exact hP L p hL hp
theorem add_all {P : Nat × Nat → Prop} (hP : ∀ L p, (∀ r ∈ L, P r) → P p → ∀ r ∈ addL L p, P r) : ∀ (ps L : List (Nat × Nat)), (∀ p ∈ ps, P p) → (∀ r ∈ L, P r) → ∀ r ∈ ps.foldl addL L, P r
  | [], L, _, hL => hL
  | p :: ps, L, h, hL => add_all hP ps (addL L p) (fun q hq => h q (List.mem_cons_of_mem _ hq)) (hP L p hL (h p (List.mem_cons_self ..)))
theorem grow_ech_all : ∀ (ps L : List (Nat × Nat)), Ech (r1 L) → (∀ p ∈ ps, Sm p.1) → Ech (r1 (ps.foldl growL L))
  | [], L, h, _ => h
  | p :: ps, L, h, hp => grow_ech_all ps (growL L p) (grow_ech h (hp p (List.mem_cons_self ..))) fun q hq => hp q (List.mem_cons_of_mem _ hq)

/-- the reference's solution for v: what is left, and the mask -/
def solL (S : List Nat) (v : Nat) : Nat × Nat := leftN (growAll (us 0 S)) (v, 0)
section
variable {S : List Nat} {a : Nat}
theorem sol_iff (hS : ∀ r ∈ S, Sm r) (v : Nat) : (solL S v).1 = 0 ↔ Sp S v := by
  have he : Ech (r1 (growAll (us 0 S))) := grow_ech_all _ [] ⟨by simp [r1], by simp [r1]⟩ (fun p hp => hS _ (by rw [← us_r1 S 0]; exact List.mem_map_of_mem hp))
  unfold solL
  rw [leftN_fst, ← he.sp_iff, sp_grow, us_r1]
theorem sol_comb (v : Nat) (h : (solL S v).1 = 0) : comb S 0 (solL S v).2 = v := by
  have hd : Dif S (solL S v) = Dif S (v, 0) := Dif.left (grow_all (P := fun r => Dif S r = 0) (fun L p hL hp => (Dif.left hL p).trans hp) _ [] (fun p hp => us_dif hp) (by simp)) _
  have e0 : comb S 0 0 = 0 := comb_low S 0 0 fun m _ => tb_zero m
  unfold Dif at hd
  simp only [h, zero_xr, e0, xr_zero] at hd
  exact hd
theorem sol_lt (hS : ∀ r ∈ S, r < 2 ^ a) {v : Nat} (hv : v < 2 ^ a) : (solL S v).2 < 2 ^ S.length :=
  (Lt2.left (grow_all (P := Lt2 a S.length) (fun _ _ hL hp => Lt2.left hL hp) _ [] (fun p hp => us_lt hS hp) (by simp)) (p := (v, 0)) ⟨hv, Nat.two_pow_pos _⟩).2
end

/-- numbers below n, all different: at most n; all below n among them: at least n -/
theorem pig1 : ∀ (n : Nat) (P : List Nat), P.Nodup → (∀ x ∈ P, x < n) → P.length ≤ n
  | 0, P, _, h => by
    cases P with
    | nil => simp
    | cons x P => have := h x (List.mem_cons_self ..); omega
  | n + 1, P, hn, h => by
    by_cases hm : n ∈ P
    · have h1 := pig1 n (P.erase n) (hn.erase n) (fun x hx => by
        have h2 := (hn.mem_erase_iff).1 hx
        have := h x h2.2; omega)
      rw [List.length_erase_of_mem hm] at h1; omega
    · have h1 := pig1 n P hn (fun x hx => by
        have := h x hx
        rcases Nat.lt_or_ge x n with h2 | h2
        · exact h2
        · have : x = n := by omega
          subst this; exact absurd hx hm)
      omega
theorem pig2 : ∀ (n : Nat) (P : List Nat), (∀ j, j < n → j ∈ P) → n ≤ P.length
  | 0, _, _ => Nat.zero_le _
  | n + 1, P, h => by
    have hm := h n (by omega)
    have h1 := pig2 n (P.erase n) (fun j hj => (List.mem_erase_of_ne (by omega)).2 (h j (by omega)))
    rw [List.length_erase_of_mem hm] at h1
    have := List.length_pos_of_mem hm
    omega
theorem pig3 {n : Nat} {P : List Nat} (hn : P.Nodup) (h : ∀ x ∈ P, x < n) (hl : P.length = n) : ∀ j, j < n → j ∈ P := by
  intro j hj
  refine Decidable.byContradiction fun hm => ?_
  have := pig1 n (j :: P) (List.nodup_cons.2 ⟨hm, hn⟩) (fun x hx => by
    rcases List.mem_cons.1 hx with rfl | hx
    · exact hj
    · exact h x hx)
  simp at this; omega
theorem Red.nodup {S : List Nat} (h : Red S) : (S.map pv).Nodup := by
  refine List.pairwise_map.2 ?_
  have := h.off
  refine List.Pairwise.imp_of_mem ?_ this
  intro r s hr _ hrs he
  have := tb_pv (h.ne r hr).1 (h.ne r hr).2
  rw [he, hrs.1] at this; cases this

/-- no row belongs to the space of the earlier ones -/
def freeRows (S : List Nat) : Prop := ∀ k, k < S.length → (leftN (spanL ((us 0 S).take k)) ((us 0 S).getD k (0, 0))).1 ≠ 0
theorem us_sm {S : List Nat} (hS : ∀ r ∈ S, Sm r) (hl : S.length ≤ 62) : ∀ p ∈ us 0 S, SmP p := by
  intro p hp
  obtain ⟨k, hk, rfl⟩ := us_mem hp
  refine ⟨hS _ (getD_mem hk), ?_⟩
  unfold Sm
  have : 2 ^ k < 2 ^ 63 := Nat.pow_lt_pow_right (by omega) (by omega)
  exact this
theorem span_len (ps : List (Nat × Nat)) : ∀ k, k ≤ ps.length → ((spanL (ps.take k)).length = k ↔ ∀ i, i < k → (leftN (spanL (ps.take i)) (ps.getD i (0, 0))).1 ≠ 0) := by
  intro k
  induction k with
  | zero => intro _; simp [spanL]
  | succ k ih =>
    intro hk
    have ih := ih (by omega)
    have hl := spanL_length_le (ps.take k)
    rw [List.length_take] at hl
    rw [spanL_take_succ ps k (by omega)]
    unfold addL
    by_cases h0 : (leftN (spanL (ps.take k)) (ps.getD k (0, 0))).1 = 0
    · rw [if_pos h0]
      constructor
      · intro h; omega
      · intro h; exact absurd h0 (h k (by omega))
    · rw [if_neg h0]
      have e : (addN (spanL (ps.take k)) (ps.getD k (0, 0))).length = (spanL (ps.take k)).length + 1 := by simp [addN]
      rw [e]
      constructor
      · intro h i hi
        rcases Nat.lt_or_ge i k with h1 | h1
        · exact ih.1 (by omega) i h1
        · rw [show i = k by omega]; exact h0
      · intro h
        rw [ih.2 fun i hi => h i (by omega)]

theorem sm_of_lt {r a : Nat} (ha : a ≤ 62) (h : r < 2 ^ a) : Sm r := by
  have h1 : 2 ^ a ≤ 2 ^ 62 := Nat.pow_le_pow_right (by omega) ha
  unfold Sm; omega
theorem Red.apart {S : List Nat} (h : Red S) : ∀ r ∈ S, ∀ s ∈ S, r ≠ s → tb r (pv s) = false := by
  induction S with
  | nil => intro r hr; cases hr
  | cons x S ih =>
    intro r hr s hs hne
    have hp := (List.pairwise_cons.1 h.off).1
    rcases List.mem_cons.1 hr with e | hr' <;> rcases List.mem_cons.1 hs with e' | hs'
    · exact absurd (e.trans e'.symm) hne
    · rw [e]; exact (hp s hs').1
    · rw [e']; exact (hp r hr').2
    · exact ih h.tail r hr' s hs' hne
theorem pv_lt {r a : Nat} (h0 : r ≠ 0) (hs : Sm r) (h : r < 2 ^ a) : pv r < a := by
  refine Decidable.byContradiction fun hc => ?_
  have := tb_pv h0 hs
  rw [tb_of_lt h (by omega)] at this; cases this


def Asc (S : List Nat) : Prop := S.Pairwise fun a b => pv a < pv b
theorem asc_fold {x : Nat} (hx : Sm x) (hx0 : x ≠ 0) : ∀ (S : List Nat) (p : List Nat × Bool), Asc S → (∀ s ∈ S, s ≠ 0 ∧ Sm s ∧ tb x (pv s) = false) → Asc p.1 → (∀ a ∈ p.1, ∀ s ∈ S, pv a < pv s) → (p.2 = false → ∀ a ∈ p.1, pv a < pv x) → (p.2 = true → ∀ s ∈ S, pv x < pv s) →
    Asc (putEnd x (S.foldl (putStep x) p))
  | [], p, _, _, h, _, h2, _ => by
    obtain ⟨o, d⟩ := p
    cases d
    · exact List.pairwise_append.2 ⟨h, List.pairwise_singleton _ _, fun a ha b hb => by rw [List.mem_singleton.1 hb]; exact h2 rfl a ha⟩
    · exact h
  | s :: S, p, hS, hs, h, h1, h2, h3 => by
    have hs0 := hs s (List.mem_cons_self ..)
    have hst := stepS_pv hx hx0 hs0.2.1 hs0.1 hs0.2.2
    have hSc := List.pairwise_cons.1 hS
    have hne : pv x ≠ pv s := fun e => by
      have := tb_pv hx0 hx
      rw [e, hs0.2.2] at this; cases this
    rw [List.foldl_cons]
    have hS' : ∀ t ∈ S, t ≠ 0 ∧ Sm t ∧ tb x (pv t) = false := fun t ht => hs t (List.mem_cons_of_mem _ ht)
    by_cases hc : (!p.2 && decide (pv x < pv s)) = true
    · have e : putStep x p s = (p.1 ++ [x, stepS x s], true) := by unfold putStep; rw [if_pos hc]
      rw [e]
      simp only [Bool.and_eq_true, decide_eq_true_eq, Bool.not_eq_true'] at hc
      refine asc_fold hx hx0 S _ hSc.2 hS' ?_ ?_ (fun h => by cases h) (fun _ t ht => Nat.lt_trans hc.2 (hSc.1 t ht))
      · refine List.pairwise_append.2 ⟨h, List.pairwise_cons.2 ⟨fun b hb => ?_, List.pairwise_singleton _ _⟩, fun a ha b hb => ?_⟩
        · rw [List.mem_singleton.1 hb, hst.2.1]; exact hc.2
        · rcases List.mem_cons.1 hb with rfl | hb
          · exact h2 hc.1 a ha
          · rw [List.mem_singleton.1 hb, hst.2.1]; exact h1 a ha s (List.mem_cons_self ..)
      · intro a ha t ht
        rcases List.mem_append.1 ha with ha | ha
        · exact h1 a ha t (List.mem_cons_of_mem _ ht)
        · rcases List.mem_cons.1 ha with rfl | ha
          · exact Nat.lt_trans hc.2 (hSc.1 t ht)
          · rw [List.mem_singleton.1 ha, hst.2.1]; exact hSc.1 t ht
    · have e : putStep x p s = (p.1 ++ [stepS x s], p.2) := by unfold putStep; rw [if_neg hc]
      rw [e]
      refine asc_fold hx hx0 S _ hSc.2 hS' ?_ ?_ ?_ (fun h4 t ht => h3 h4 t (List.mem_cons_of_mem _ ht))
      · refine List.pairwise_append.2 ⟨h, List.pairwise_singleton _ _, fun a ha b hb => ?_⟩
        rw [List.mem_singleton.1 hb, hst.2.1]; exact h1 a ha s (List.mem_cons_self ..)
      · intro a ha t ht
        rcases List.mem_append.1 ha with ha | ha
        · exact h1 a ha t (List.mem_cons_of_mem _ ht)
        · rw [List.mem_singleton.1 ha, hst.2.1]; exact hSc.1 t ht
      · intro hf a ha
        rcases List.mem_append.1 ha with ha | ha
        · exact h2 hf a ha
        · rw [List.mem_singleton.1 ha, hst.2.1]
          simp only [Bool.and_eq_true, decide_eq_true_eq, Bool.not_eq_true', not_and] at hc
          have := hc hf
          omega
theorem asc_put {S : List Nat} {x : Nat} (hr : Red S) (hS : Asc S) (hx : Sm x) : Asc (putS S x) := by
  unfold putS
  split
  · exact hS
  · rename_i h0
    exact asc_fold (leftS_sm hr.ne hx) h0 S ([], false) hS (fun s hs => ⟨(hr.ne s hs).1, (hr.ne s hs).2, leftS_off hr x s hs⟩) .nil (by simp) (by simp) (by simp)
theorem asc_reduce {rows : List Nat} (h : ∀ r ∈ rows, Sm r) : Asc (reduceS rows) := by
  unfold reduceS
  have : ∀ (rows S : List Nat), Red S → Asc S → (∀ r ∈ rows, Sm r) → Asc (rows.foldl putS S) := by
    intro rows
    induction rows with
    | nil => intro S _ hS _; exact hS
    | cons r rows ih => intro S h1 hS h; exact ih _ (red_put h1 (h r (List.mem_cons_self ..))) (asc_put h1 hS (h r (List.mem_cons_self ..))) (fun s hs => h s (List.mem_cons_of_mem _ hs))
  exact this rows [] Red.nil .nil h
/-- two orders of one list, both ascending: one list -/
theorem asc_unique : ∀ {S T : List Nat}, Asc S → Asc T → S.Perm T → S = T
  | [], T, _, _, h => (List.Perm.nil_eq h)
  | s :: S, [], _, _, h => by have := h.length_eq; simp at this
  | s :: S, t :: T, hs, ht, h => by
    have h1 := List.pairwise_cons.1 hs
    have h2 := List.pairwise_cons.1 ht
    have e : s = t := by
      have m1 : s ∈ t :: T := h.mem_iff.1 (List.mem_cons_self ..)
      have m2 : t ∈ s :: S := h.mem_iff.2 (List.mem_cons_self ..)
      rcases List.mem_cons.1 m1 with e | m1
      · exact e
      · rcases List.mem_cons.1 m2 with e | m2
        · exact e.symm
        · have := h1.1 t m2; have := h2.1 s m1; omega
    subst e
    rw [asc_unique h1.2 h2.2 (List.Perm.cons_inv h)]



/-- rows that all lack the digits below the pivot of s -/
theorem tb_below {a n : Nat} (h0 : a ≠ 0) (h : Sm a) (hn : n < pv a) : tb a n = false := tb_lt_pv h0 h hn
theorem eq_zero_of_tb {v : Nat} (h : ∀ n, tb v n = false) : v = 0 := eq_of_tb fun n => by rw [h n, tb_zero]
/-- the pivot of a vector of the space is a row's -/
theorem Red.pv_mem : ∀ {S : List Nat}, Red S → ∀ v, Sp S v → v ≠ 0 → Sm v → ∃ r ∈ S, pv r = pv v := by
  intro S
  induction S with
  | nil =>
    intro _ v hv h0 _
    cases hv with
    | zero => exact absurd rfl h0
    | add hm _ => cases hm
  | cons r S ih =>
    intro hS v hv h0 hs
    have hr := hS.ne r (List.mem_cons_self ..)
    rcases sp_cons hv with hv | hv
    · obtain ⟨s, hm, e⟩ := ih hS.tail v hv h0 hs
      exact ⟨s, List.mem_cons_of_mem _ hm, e⟩
    · have hu : Sm (xr r v) := hr.2.xr hs
      by_cases hu0 : xr r v = 0
      · have : r = v := by have := congrArg (xr r) hu0; rw [xr_xr, xr_zero] at this; exact this.symm
        exact ⟨r, List.mem_cons_self .., by rw [this]⟩
      · obtain ⟨s, hm, e⟩ := ih hS.tail _ hv hu0 hu
        have hp := (List.pairwise_cons.1 hS.off).1
        have hoff : tb (xr r v) (pv r) = false := Sp.off (fun t ht => (hp t ht).2) hv
        have hvr : tb v (pv r) = true := by
          rw [tb_xr, tb_pv hr.1 hr.2] at hoff
          simpa using hoff
        have hne : pv (xr r v) ≠ pv r := fun e' => by
          have := tb_pv hu0 hu
          rw [e', hoff] at this; cases this
        rcases Nat.lt_or_gt_of_ne hne with hlt | hgt
        · refine ⟨s, List.mem_cons_of_mem _ hm, e.trans (pv_eq h0 hs ?_ ?_).symm⟩
          · have := tb_pv hu0 hu
            rw [tb_xr, tb_lt_pv hr.1 hr.2 hlt] at this
            simpa using this
          · intro m hm
            have := tb_lt_pv hu0 hu hm
            rw [tb_xr, tb_lt_pv hr.1 hr.2 (Nat.lt_trans hm hlt)] at this
            simpa using this
        · refine ⟨r, List.mem_cons_self .., (pv_eq h0 hs hvr ?_).symm⟩
          intro m hm
          have := tb_lt_pv hu0 hu (Nat.lt_trans hm hgt)
          rw [tb_xr, tb_lt_pv hr.1 hr.2 hm] at this
          simpa using this
theorem red_sub {S T : List Nat} (hS : Red S) (hT : Red T) (h : ∀ v, Sp S v ↔ Sp T v) : ∀ r ∈ S, r ∈ T := by
  intro r hr
  have h1 := hS.ne r hr
  obtain ⟨s, hs, e⟩ := hT.pv_mem r ((h r).1 (.mem hr)) h1.1 h1.2
  have h2 := hT.ne s hs
  have h0 : xr r s = 0 := by
    refine hS.ech.zero _ ((Sp.mem hr).plus ((h s).2 (.mem hs))) fun q hq => ?_
    by_cases hqr : q = r
    · subst hqr
      rw [tb_xr, tb_pv h1.1 h1.2, ← e, tb_pv h2.1 h2.2]; rfl
    · have hq1 := hS.ne q hq
      obtain ⟨t, ht, e2⟩ := hT.pv_mem q ((h q).1 (.mem hq)) hq1.1 hq1.2
      have hne : s ≠ t := fun e3 => by
        have h4 := hS.apart r hr q hq (fun e4 => hqr e4.symm)
        rw [← e2, ← e3, e, tb_pv h1.1 h1.2] at h4; cases h4
      have h5 := hT.apart s hs t ht hne
      rw [e2] at h5
      rw [tb_xr, hS.apart r hr q hq (fun e4 => hqr e4.symm), h5]; rfl
  have : r = s := by have := congrArg (xr r) h0; rw [xr_xr, xr_zero] at this; exact this.symm
  rw [this]; exact hs
theorem sp_reduce {S : List Nat} (hS : ∀ r ∈ S, Sm r) (v : Nat) : Sp (reduceS S) v ↔ Sp S v := by
  have hp := (spanL_perm (zs S) (fun p hp => by obtain ⟨r, hr, rfl⟩ := List.mem_map.1 hp; exact ⟨hS r hr, Sm.zero⟩)).1
  rw [r1_zs] at hp
  rw [sp_same (fun r => hp.symm.mem_iff) v, sp_span, r1_zs]
/-- one space, one reduced list -/
theorem reduce_unique {S T : List Nat} (hS : ∀ r ∈ S, Sm r) (hT : ∀ r ∈ T, Sm r) (h : ∀ v, Sp S v ↔ Sp T v) : reduceS S = reduceS T := by
  have h' : ∀ v, Sp (reduceS S) v ↔ Sp (reduceS T) v := fun v => by rw [sp_reduce hS, sp_reduce hT]; exact h v
  have rS := red_reduce hS
  have rT := red_reduce hT
  refine asc_unique (asc_reduce hS) (asc_reduce hT) ?_
  have nd : ∀ {U : List Nat}, Red U → U.Nodup := fun hU => List.Pairwise.of_map pv (fun a b h e => h (congrArg pv e)) hU.nodup
  exact (List.perm_ext_iff_of_nodup (nd rS) (nd rT)).2 fun r => ⟨red_sub rS rT h' r, red_sub rT rS (fun v => (h' v).symm) r⟩

/-! ### kernels -/
def kerStep (L : List (Nat × Nat)) (p : Nat × Nat) (out : List Nat) : List Nat := if (leftN L p).1 = 0 then out ++ [(leftN L p).2] else out
def kerOut (G : Nat → List (Nat × Nat)) (S : List Nat) : Nat → List Nat
  | 0 => []
  | k + 1 => kerStep (G k) (S.getD k 0, 2 ^ k) (kerOut G S k)
structure KerG (S : List Nat) (G : Nat → List (Nat × Nat)) : Prop where
  dif : ∀ k, k ≤ S.length → ∀ r ∈ G k, Dif S r = 0
  lt : ∀ k, k ≤ S.length → ∀ r ∈ G k, r.2 < 2 ^ k
  ech : ∀ k, k ≤ S.length → Ech (r1 (G k))
  sp : ∀ k, k ≤ S.length → ∀ v, Sp (r1 (G k)) v ↔ Sp (S.take k) v
theorem leftN_lt2 {L : List (Nat × Nat)} {k : Nat} (h : ∀ r ∈ L, r.2 < 2 ^ k) : ∀ p : Nat × Nat, p.2 < 2 ^ (k + 1) → (leftN L p).2 < 2 ^ (k + 1) ∧ tb (leftN L p).2 k = tb p.2 k := by
  unfold leftN
  induction L with
  | nil => intro p hp; exact ⟨hp, rfl⟩
  | cons r L ih =>
    intro p hp
    have hr := h r (List.mem_cons_self ..)
    have h1 : (leftStep p r).2 < 2 ^ (k + 1) ∧ tb (leftStep p r).2 k = tb p.2 k := by
      unfold leftStep
      split
      · refine ⟨Nat.xor_lt_two_pow hp (Nat.lt_trans hr (Nat.pow_lt_pow_right (by omega) (by omega))), ?_⟩
        rw [tb_xr, tb_of_lt hr (Nat.le_refl k)]; simp
      · exact ⟨hp, rfl⟩
    have h2 := ih (fun s hs => h s (List.mem_cons_of_mem _ hs)) _ h1.1
    exact ⟨h2.1, h2.2.trans h1.2⟩
section
variable {S : List Nat} {G : Nat → List (Nat × Nat)}
theorem KerG.own (h : KerG S G) {k : Nat} (hk : k < S.length) (h0 : (leftN (G k) (S.getD k 0, 2 ^ k)).1 = 0) :
    comb S 0 (leftN (G k) (S.getD k 0, 2 ^ k)).2 = 0 ∧ (leftN (G k) (S.getD k 0, 2 ^ k)).2 < 2 ^ (k + 1) ∧ tb (leftN (G k) (S.getD k 0, 2 ^ k)).2 k = true := by
  have h1 := leftN_lt2 (h.lt k (by omega)) (S.getD k 0, 2 ^ k) (Nat.pow_lt_pow_right (by omega) (by omega))
  refine ⟨?_, h1.1, ?_⟩
  · have hd := Dif.left (h.dif k (by omega)) (S.getD k 0, 2 ^ k)
    have hz : Dif S (S.getD k 0, 2 ^ k) = 0 := by
      rw [dif_zero]
      have := comb_pow S 0 k
      rwa [Nat.zero_add] at this
    rw [hz, dif_zero, h0] at hd
    exact hd
  · rw [h1.2, tb_pow]; simp
theorem KerG.mem (h : KerG S G) : ∀ k, k ≤ S.length → ∀ z ∈ kerOut G S k, comb S 0 z = 0 ∧ z < 2 ^ k := by
  intro k
  induction k with
  | zero => intro _ z hz; cases hz
  | succ k ih =>
    intro hk z hz
    have ih := ih (by omega)
    have hle : 2 ^ k < 2 ^ (k + 1) := Nat.pow_lt_pow_right (by omega) (by omega)
    simp only [kerOut, kerStep] at hz
    by_cases h0 : (leftN (G k) (S.getD k 0, 2 ^ k)).1 = 0
    · rw [if_pos h0] at hz
      rcases List.mem_append.1 hz with hz | hz
      · exact ⟨(ih z hz).1, Nat.lt_trans (ih z hz).2 hle⟩
      · rw [List.mem_singleton.1 hz]
        have := h.own (by omega) h0
        exact ⟨this.1, this.2.1⟩
    · rw [if_neg h0] at hz
      exact ⟨(ih z hz).1, Nat.lt_trans (ih z hz).2 hle⟩
theorem lt_of_top {z k : Nat} (h : z < 2 ^ (k + 1)) (hb : tb z k = false) : z < 2 ^ k := by
  refine lt_of_tb fun m hm => ?_
  by_cases e : m = k
  · rw [e]; exact hb
  · exact tb_of_lt h (by omega)
theorem KerG.all (h : KerG S G) : ∀ k, k ≤ S.length → ∀ z, z < 2 ^ k → comb S 0 z = 0 → Sp (kerOut G S k) z := by
  intro k
  induction k with
  | zero => intro _ z hz _; have : z = 0 := by simpa using hz
            rw [this]; exact .zero
  | succ k ih =>
    intro hk z hz h0
    have ih := ih (by omega)
    have hsub : ∀ v, Sp (kerOut G S k) v → Sp (kerOut G S (k + 1)) v := fun v hv => by
      simp only [kerOut, kerStep]
      split
      · exact hv.mono fun r hr => List.mem_append_left _ hr
      · exact hv
    cases hb : tb z k
    · exact hsub z (ih z (lt_of_top hz hb) h0)
    · -- the row k belongs to the space of the earlier ones
      have hc := comb_take S 0 k z (by omega) (fun m hm => tb_of_lt hz (by omega))
      rw [Nat.zero_add, hb, if_pos rfl, h0] at hc
      have e : S.getD k 0 = comb (S.take k) 0 z := by
        have := congrArg (xr (comb (S.take k) 0 z)) hc
        rw [xr_xr, xr_zero] at this; exact this.symm
      have hsp : Sp (r1 (G k)) (S.getD k 0) := (h.sp k (by omega) _).2 (e ▸ comb_sp (S.take k) 0 z)
      have hl : (leftN (G k) (S.getD k 0, 2 ^ k)).1 = 0 := by rw [leftN_fst]; exact ((h.ech k (by omega)).sp_iff _).1 hsp
      obtain ⟨o1, o2, o3⟩ := h.own (by omega) hl
      have hz2 : Sp (kerOut G S k) (xr z (leftN (G k) (S.getD k 0, 2 ^ k)).2) := by
        refine ih _ (lt_of_top (Nat.xor_lt_two_pow hz o2) (by rw [tb_xr, hb, o3]; rfl)) ?_
        rw [comb_xr, h0, o1, xr_zero]
      have hown : Sp (kerOut G S (k + 1)) (leftN (G k) (S.getD k 0, 2 ^ k)).2 := by
        simp only [kerOut, kerStep]
        rw [if_pos hl]
        exact .mem (List.mem_append_right _ (List.mem_singleton.2 rfl))
      have := (hsub _ hz2).plus hown
      rwa [xr_assoc, xr_self, xr_zero] at this
theorem KerG.sp_iff (h : KerG S G) (z : Nat) : Sp (kerOut G S S.length) z ↔ z < 2 ^ S.length ∧ comb S 0 z = 0 := by
  constructor
  · intro hz
    induction hz with
    | zero => exact ⟨Nat.two_pow_pos _, comb_low S 0 0 fun m _ => tb_zero m⟩
    | add hm _ ih =>
      have h1 := h.mem S.length (Nat.le_refl _) _ hm
      exact ⟨Nat.xor_lt_two_pow h1.2 ih.1, by rw [comb_xr, h1.1, ih.2, xr_zero]⟩
  · intro ⟨h1, h2⟩; exact h.all S.length (Nat.le_refl _) z h1 h2
theorem KerG.sm (h : KerG S G) (hl : S.length ≤ 62) : ∀ z ∈ kerOut G S S.length, Sm z := fun z hz => sm_of_lt hl (h.mem S.length (Nat.le_refl _) z hz).2
end
theorem us_getD0 {S : List Nat} {k : Nat} (hk : k < S.length) : (us 0 S).getD k (0, 0) = (S.getD k 0, 2 ^ k) := by rw [us_getD S 0 k hk, Nat.zero_add]
theorem us_lt_k {S : List Nat} {k : Nat} {p : Nat × Nat} (h : p ∈ (us 0 S).take k) (hk : k ≤ S.length) : p.2 < 2 ^ k ∧ p ∈ us 0 S := by
  refine ⟨?_, List.mem_of_mem_take h⟩
  rw [us_take] at h
  obtain ⟨j, hj, rfl⟩ := us_mem h
  rw [List.length_take] at hj
  exact Nat.pow_lt_pow_right (by omega) (by omega)
theorem left_lt2b {L : List (Nat × Nat)} {k : Nat} (h : ∀ r ∈ L, r.2 < 2 ^ k) : ∀ {p : Nat × Nat}, p.2 < 2 ^ k → (leftN L p).2 < 2 ^ k := by
  unfold leftN
  induction L with
  | nil => intro p hp; exact hp
  | cons r L ih =>
    intro p hp
    refine ih (fun s hs => h s (List.mem_cons_of_mem _ hs)) ?_
    unfold leftStep; split
    · exact Nat.xor_lt_two_pow hp (h r (List.mem_cons_self ..))
    · exact hp
theorem addL_lt2b {L : List (Nat × Nat)} {k : Nat} (h : ∀ r ∈ L, r.2 < 2 ^ k) {p : Nat × Nat} (hp : p.2 < 2 ^ k) : ∀ r ∈ addL L p, r.2 < 2 ^ k := by
  intro r hm
  have hq := left_lt2b h hp
  unfold addL at hm
  split at hm
  · exact h r hm
  · unfold addN at hm
    rcases List.mem_append.1 hm with hm | hm
    · obtain ⟨s, hs, rfl⟩ := List.mem_map.1 hm
      unfold addStep; split
      · exact Nat.xor_lt_two_pow (h s hs) hq
      · exact h s hs
    · rw [List.mem_singleton.1 hm]; exact hq
/-- the reference's lists -/
theorem kerG_sol {S : List Nat} (hS : ∀ r ∈ S, Sm r) : KerG S (fun k => growAll ((us 0 S).take k)) where
  dif k hk := grow_all (P := fun r => Dif S r = 0) (fun L p hL hp => (Dif.left hL p).trans hp) _ [] (fun p hp => us_dif (us_lt_k hp hk).2) (by simp)
  lt k hk := grow_all (P := fun r => r.2 < 2 ^ k) (fun L p hL hp => by
    exact left_lt2b hL hp) _ [] (fun p hp => (us_lt_k hp hk).1) (by simp)
  ech k hk := grow_ech_all _ [] ⟨by simp [r1], by simp [r1]⟩ fun p hp => hS _ (by
    have := (us_lt_k hp hk).2
    rw [← us_r1 S 0]; exact List.mem_map_of_mem this)
  sp k _ v := by rw [sp_grow, us_take, us_r1]
/-- the program's span -/
theorem kerG_span {S : List Nat} (hS : ∀ r ∈ S, Sm r) (hl : S.length ≤ 62) : KerG S (fun k => spanL ((us 0 S).take k)) where
  dif k hk := add_all (P := fun r => Dif S r = 0) (fun _ _ hL hp => Dif.addL hL hp) _ [] (fun p hp => us_dif (us_lt_k hp hk).2) (by simp)
  lt k hk := add_all (P := fun r => r.2 < 2 ^ k) (fun L p hL hp => addL_lt2b hL hp) _ [] (fun p hp => (us_lt_k hp hk).1) (by simp)
  ech k hk := (spanL_perm _ (fun p hp => us_sm hS hl p (us_lt_k hp hk).2)).2.1.ech
  sp k _ v := by rw [sp_span, us_take, us_r1]
/-- both kernels -/
theorem kernel_both {S : List Nat} (hS : ∀ r ∈ S, Sm r) (hl : S.length ≤ 62) :
    reduceS (kerOut (fun k => growAll ((us 0 S).take k)) S S.length) = reduceS (kerOut (fun k => spanL ((us 0 S).take k)) S S.length) := by
  have h1 := kerG_sol hS
  have h2 := kerG_span hS hl
  exact reduce_unique (h1.sm hl) (h2.sm hl) fun v => by rw [h1.sp_iff, h2.sp_iff]


def dup (A : List Nat) : List (Nat × Nat) := A.map fun x => (x, x)
theorem r1_dup (A : List Nat) : r1 (dup A) = A := by simp [r1, dup, List.map_map, Function.comp_def]
theorem dup_length (A : List Nat) : (dup A).length = A.length := by simp [dup]
theorem r1_app (L M : List (Nat × Nat)) : r1 (L ++ M) = r1 L ++ r1 M := by simp [r1]
theorem zs_take (B : List Nat) (k : Nat) : (zs B).take k = zs (B.take k) := by simp [zs, List.map_take]
theorem dup_take (B : List Nat) (k : Nat) : (dup B).take k = dup (B.take k) := by simp [dup, List.map_take]
theorem zs_getD {B : List Nat} {k : Nat} (h : k < B.length) : (zs B).getD k (0, 0) = (B.getD k 0, 0) := by simp [zs, List.getD, h]
theorem dup_getD {B : List Nat} {k : Nat} (h : k < B.length) : (dup B).getD k (0, 0) = (B.getD k 0, B.getD k 0) := by simp [dup, List.getD, h]

/-- what the reference collects of a list of pairs: the sums of those that belong to the earlier ones -/
theorem getD_app_left {L M : List (Nat × Nat)} {k : Nat} {d : Nat × Nat} (h : k < L.length) : (L ++ M).getD k d = L.getD k d := by simp [List.getD, List.getElem?_append_left h]
theorem getD_app_right {L M : List (Nat × Nat)} {k : Nat} {d : Nat × Nat} (h : L.length ≤ k) : (L ++ M).getD k d = M.getD (k - L.length) d := by simp [List.getD, List.getElem?_append_right h]
def kerP (ps : List (Nat × Nat)) : Nat → List Nat
  | 0 => []
  | k + 1 => kerStep (growAll (ps.take k)) (ps.getD k (0, 0)) (kerP ps k)
theorem kerP_length (ps : List (Nat × Nat)) : ∀ k, (kerP ps k).length ≤ k
  | 0 => Nat.le_refl _
  | k + 1 => by
    have := kerP_length ps k
    simp only [kerP, kerStep]
    split
    · simp; omega
    · omega

def meetOut (G : Nat → List (Nat × Nat)) (B : List Nat) : Nat → List Nat
  | 0 => []
  | k + 1 => kerStep (G k) (B.getD k 0, 0) (meetOut G B k)
theorem meetOut_length (G : Nat → List (Nat × Nat)) (B : List Nat) : ∀ k, (meetOut G B k).length ≤ k
  | 0 => Nat.le_refl _
  | k + 1 => by
    have := meetOut_length G B k
    simp only [meetOut, kerStep]
    split
    · simp; omega
    · omega
/-- a pair's second is in A, and the two differ by one of B -/
def Mt (A B : List Nat) (r : Nat × Nat) : Prop := Sp A r.2 ∧ Sp B (xr r.1 r.2)
theorem Mt.step {A B : List Nat} {p r : Nat × Nat} (hp : Mt A B p) (hr : Mt A B r) : Mt A B (leftStep p r) := by
  unfold leftStep
  split
  · refine ⟨hp.1.plus hr.1, ?_⟩
    have := hp.2.plus hr.2
    have e : xr (xr p.1 p.2) (xr r.1 r.2) = xr (xr p.1 r.1) (xr p.2 r.2) := by
      rw [xr_assoc, xr_assoc, xr_left p.2 r.1]
    rwa [e] at this
  · exact hp
theorem Mt.left {A B : List Nat} {L : List (Nat × Nat)} (h : ∀ r ∈ L, Mt A B r) : ∀ p, Mt A B p → Mt A B (leftN L p) := by
  unfold leftN
  induction L with
  | nil => intro p hp; exact hp
  | cons r L ih => intro p hp; exact ih (fun s hs => h s (List.mem_cons_of_mem _ hs)) _ (hp.step (h r (List.mem_cons_self ..)))
theorem Mt.addL {A B : List Nat} {L : List (Nat × Nat)} (h : ∀ r ∈ L, Mt A B r) {p : Nat × Nat} (hp : Mt A B p) : ∀ r ∈ addL L p, Mt A B r := by
  intro r hm
  have hq := Mt.left h p hp
  unfold Go.Proofs.Ytnffpjdlpjkioaa.addL at hm
  split at hm
  · exact h r hm
  · unfold addN at hm
    rcases List.mem_append.1 hm with hm | hm
    · obtain ⟨s, hs, rfl⟩ := List.mem_map.1 hm
      have h1 := h s hs
      have e : addStep (leftN L p) s = s ∨ addStep (leftN L p) s = (xr s.1 (leftN L p).1, xr s.2 (leftN L p).2) := by
        unfold addStep; split
        · exact .inr rfl
        · exact .inl rfl
      rcases e with e | e
      · rw [e]; exact h1
      · rw [e]
        refine ⟨h1.1.plus hq.1, ?_⟩
        have := h1.2.plus hq.2
        have e : xr (xr s.1 s.2) (xr (leftN L p).1 (leftN L p).2) = xr (xr s.1 (leftN L p).1) (xr s.2 (leftN L p).2) := by
          rw [xr_assoc, xr_assoc, xr_left s.2]
        rwa [e] at this
    · rw [List.mem_singleton.1 hm]; exact hq
structure MeetG (A B : List Nat) (G : Nat → List (Nat × Nat)) : Prop where
  mem : ∀ k, k ≤ B.length → ∀ r ∈ G k, Mt A (B.take k) r
  ech : ∀ k, k ≤ B.length → Ech (r1 (G k))
  sp : ∀ k, k ≤ B.length → ∀ v, Sp (r1 (G k)) v ↔ Sp (A ++ B.take k) v
theorem sp_append {A B : List Nat} {v : Nat} (h : Sp (A ++ B) v) : ∃ a b, Sp A a ∧ Sp B b ∧ v = xr a b := by
  induction h with
  | zero => exact ⟨0, 0, .zero, .zero, rfl⟩
  | add hm _ ih =>
    obtain ⟨a, b, ha, hb, rfl⟩ := ih
    rcases List.mem_append.1 hm with h | h
    · exact ⟨_, b, .add h ha, hb, (xr_assoc _ _ _).symm⟩
    · exact ⟨a, _, ha, .add h hb, xr_left _ _ _⟩
theorem sp_take_succ {B : List Nat} {k : Nat} (hk : k < B.length) {v : Nat} (h : Sp (B.take (k + 1)) v) : Sp (B.take k) v ∨ Sp (B.take k) (xr (B.getD k 0) v) := by
  rw [List.take_succ_eq_append_getElem hk] at h
  have e : B.getD k 0 = B[k] := by simp [List.getD, hk]
  rw [e]
  exact sp_cons ((sp_same (T := B[k] :: B.take k) (by intro r; rw [List.mem_append, List.mem_singleton, List.mem_cons, or_comm]) v).1 h)
theorem sp_take_mono {B : List Nat} {k : Nat} {v : Nat} (h : Sp (B.take k) v) : Sp (B.take (k + 1)) v :=
  h.mono fun r hr => (List.take_sublist_take_left (by omega)).mem hr
section
variable {A B : List Nat} {G : Nat → List (Nat × Nat)}
theorem MeetG.own (h : MeetG A B G) {k : Nat} (hk : k < B.length) (h0 : (leftN (G k) (B.getD k 0, 0)).1 = 0) :
    Sp A (leftN (G k) (B.getD k 0, 0)).2 ∧ Sp (B.take k) (xr (B.getD k 0) (leftN (G k) (B.getD k 0, 0)).2) := by
  -- all is laid over by the row itself: its own pair lies in B's first k + 1 rows
  have h1 : ∀ (L : List (Nat × Nat)) (p : Nat × Nat) (x : Nat), (∀ r ∈ L, Mt A (B.take k) r) → Sp A p.2 → Sp (B.take k) (xr x (xr p.1 p.2)) → Sp A (leftN L p).2 ∧ Sp (B.take k) (xr x (xr (leftN L p).1 (leftN L p).2)) := by
    intro L
    induction L with
    | nil => intro p x _ h1 h2; exact ⟨h1, h2⟩
    | cons r L ih =>
      intro p x hL h1 h2
      have hr := hL r (List.mem_cons_self ..)
      show Sp A (leftN L (leftStep p r)).2 ∧ _
      refine ih (leftStep p r) x (fun s hs => hL s (List.mem_cons_of_mem _ hs)) ?_ ?_
      · unfold leftStep; split
        · exact h1.plus hr.1
        · exact h1
      · unfold leftStep; split
        · have := h2.plus hr.2
          have e : xr (xr x (xr p.1 p.2)) (xr r.1 r.2) = xr x (xr (xr p.1 r.1) (xr p.2 r.2)) := by
            rw [xr_assoc, xr_assoc, xr_assoc, xr_left p.2 r.1]
          rwa [e] at this
        · exact h2
  have h2 := h1 (G k) (B.getD k 0, 0) (B.getD k 0) (h.mem k (by omega)) .zero (by simp only [xr_zero, xr_self]; exact .zero)
  rw [h0, zero_xr] at h2
  exact h2
theorem getD_sp {k : Nat} (hk : k < B.length) : Sp (B.take (k + 1)) (B.getD k 0) := by
  rw [List.take_succ_eq_append_getElem hk]
  exact .mem (List.mem_append_right _ (List.mem_singleton.2 (by simp [List.getD, hk])))
theorem MeetG.sub (h : MeetG A B G) : ∀ k, k ≤ B.length → ∀ z ∈ meetOut G B k, Sp A z ∧ Sp (B.take k) z := by
  intro k
  induction k with
  | zero => intro _ z hz; cases hz
  | succ k ih =>
    intro hk z hz
    have ih := ih (by omega)
    simp only [meetOut, kerStep] at hz
    by_cases h0 : (leftN (G k) (B.getD k 0, 0)).1 = 0
    · rw [if_pos h0] at hz
      rcases List.mem_append.1 hz with hz | hz
      · exact ⟨(ih z hz).1, sp_take_mono (ih z hz).2⟩
      · rw [List.mem_singleton.1 hz]
        obtain ⟨o1, o2⟩ := h.own (by omega) h0
        refine ⟨o1, ?_⟩
        have := (getD_sp (B := B) (k := k) (by omega)).plus (sp_take_mono o2)
        rwa [xr_xr] at this
    · rw [if_neg h0] at hz
      exact ⟨(ih z hz).1, sp_take_mono (ih z hz).2⟩
theorem MeetG.all (h : MeetG A B G) : ∀ k, k ≤ B.length → ∀ u, Sp A u → Sp (B.take k) u → Sp (meetOut G B k) u := by
  intro k
  induction k with
  | zero =>
    intro _ u _ hu
    cases hu with
    | zero => exact .zero
    | add hm _ => simp at hm
  | succ k ih =>
    intro hk u hA hB
    have ih := ih (by omega)
    have hsub : ∀ v, Sp (meetOut G B k) v → Sp (meetOut G B (k + 1)) v := fun v hv => by
      simp only [meetOut, kerStep]
      split
      · exact hv.mono fun r hr => List.mem_append_left _ hr
      · exact hv
    rcases sp_take_succ (by omega) hB with h1 | h1
    · exact hsub u (ih u hA h1)
    · have hsp : Sp (r1 (G k)) (B.getD k 0) := by
        rw [h.sp k (by omega)]
        have := (hA.mono (T := A ++ B.take k) fun r hr => List.mem_append_left _ hr).plus (h1.mono fun r hr => List.mem_append_right _ hr)
        rw [xr_left, xr_self, xr_zero] at this
        exact this
      have hl : (leftN (G k) (B.getD k 0, 0)).1 = 0 := by rw [leftN_fst]; exact ((h.ech k (by omega)).sp_iff _).1 hsp
      obtain ⟨o1, o2⟩ := h.own (by omega) hl
      have h2 : Sp (B.take k) (xr u (leftN (G k) (B.getD k 0, 0)).2) := by
        have := h1.plus o2
        rw [xr_assoc, xr_left, xr_comm, ← xr_assoc, xr_comm] at this
        have e : xr (B.getD k 0) (xr (B.getD k 0) (xr u (leftN (G k) (B.getD k 0, 0)).2)) = xr u (leftN (G k) (B.getD k 0, 0)).2 := xr_xr _ _
        have h3 := h1.plus o2
        have e2 : xr (xr (B.getD k 0) u) (xr (B.getD k 0) (leftN (G k) (B.getD k 0, 0)).2) = xr u (leftN (G k) (B.getD k 0, 0)).2 := by
          rw [xr_assoc, xr_left u, xr_xr]
        rwa [e2] at h3
      have hz := hsub _ (ih _ (hA.plus o1) h2)
      have hown : Sp (meetOut G B (k + 1)) (leftN (G k) (B.getD k 0, 0)).2 := by
        simp only [meetOut, kerStep]
        rw [if_pos hl]
        exact .mem (List.mem_append_right _ (List.mem_singleton.2 rfl))
      have := hz.plus hown
      rwa [xr_assoc, xr_self, xr_zero] at this
theorem MeetG.sp_iff (h : MeetG A B G) (u : Nat) : Sp (meetOut G B B.length) u ↔ Sp A u ∧ Sp B u := by
  constructor
  · intro hu
    have h1 := h.sub B.length (Nat.le_refl _)
    rw [List.take_length] at h1
    exact ⟨hu.trans fun r hr => (h1 r hr).1, hu.trans fun r hr => (h1 r hr).2⟩
  · intro ⟨h1, h2⟩
    exact h.all B.length (Nat.le_refl _) u h1 (by rw [List.take_length]; exact h2)
theorem sp_sm {S : List Nat} (hS : ∀ r ∈ S, Sm r) {v : Nat} (h : Sp S v) : Sm v := by
  induction h with
  | zero => exact Sm.zero
  | add hm _ ih => exact (hS _ hm).xr ih
theorem MeetG.sm (h : MeetG A B G) (hA : ∀ r ∈ A, Sm r) : ∀ z ∈ meetOut G B B.length, Sm z := fun z hz => sp_sm hA (h.sub B.length (Nat.le_refl _) z hz).1
theorem mt_pairs (A B : List Nat) : ∀ p ∈ dup A ++ zs B, Mt A B p := by
  intro p hp
  rcases List.mem_append.1 hp with h | h
  · obtain ⟨x, hx, rfl⟩ := List.mem_map.1 h
    exact ⟨.mem hx, by simp only [xr_self]; exact .zero⟩
  · obtain ⟨x, hx, rfl⟩ := List.mem_map.1 h
    exact ⟨.zero, by simp only [xr_zero]; exact .mem hx⟩
theorem sm_pairs {A B : List Nat} (hA : ∀ r ∈ A, Sm r) (hB : ∀ r ∈ B, Sm r) : ∀ p ∈ dup A ++ zs B, SmP p := by
  intro p hp
  rcases List.mem_append.1 hp with h | h
  · obtain ⟨x, hx, rfl⟩ := List.mem_map.1 h
    exact ⟨hA x hx, hA x hx⟩
  · obtain ⟨x, hx, rfl⟩ := List.mem_map.1 h
    exact ⟨hB x hx, Sm.zero⟩
theorem sm_take {B : List Nat} (hB : ∀ r ∈ B, Sm r) (k : Nat) : ∀ r ∈ B.take k, Sm r := fun r hr => hB r (List.mem_of_mem_take hr)
end
theorem meetG_grow {A B : List Nat} (hA : ∀ r ∈ A, Sm r) (hB : ∀ r ∈ B, Sm r) : MeetG A B (fun k => growAll (dup A ++ zs (B.take k))) where
  mem k _ := grow_all (P := Mt A (B.take k)) (fun L p hL hp => Mt.left hL p hp) _ [] (mt_pairs A _) (by simp)
  ech k _ := grow_ech_all _ [] ⟨by simp [r1], by simp [r1]⟩ fun p hp => (sm_pairs hA (sm_take hB k) p hp).1
  sp k _ v := by rw [sp_grow, r1_app, r1_dup, r1_zs]
theorem meetG_span {A B : List Nat} (hA : ∀ r ∈ A, Sm r) (hB : ∀ r ∈ B, Sm r) : MeetG A B (fun k => spanL (dup A ++ zs (B.take k))) where
  mem k _ := add_all (P := Mt A (B.take k)) (fun L p hL hp => Mt.addL hL hp) _ [] (mt_pairs A _) (by simp)
  ech k _ := (spanL_perm _ (sm_pairs hA (sm_take hB k))).2.1.ech
  sp k _ v := by rw [sp_span, r1_app, r1_dup, r1_zs]
/-- the reference's list over reduced rows: nothing comes of the first space's own rows -/
theorem kerP_meet {A B : List Nat} (hA : Red A) : ∀ j, j ≤ B.length → kerP (dup A ++ zs B) (A.length + j) = meetOut (fun k => growAll (dup A ++ zs (B.take k))) B j := by
  have h0 : ∀ k, k ≤ A.length → kerP (dup A ++ zs B) k = [] := by
    intro k
    induction k with
    | zero => intro _; rfl
    | succ k ih =>
      intro hk
      have e1 : (dup A ++ zs B).take k = dup (A.take k) := by rw [List.take_append_of_le_length (by rw [dup_length]; omega), dup_take]
      have e2 : (dup A ++ zs B).getD k (0, 0) = (A.getD k 0, A.getD k 0) := by
        rw [getD_app_left (by rw [dup_length]; omega), dup_getD (by omega)]
      simp only [kerP, kerStep, e1, e2, ih (by omega)]
      rw [if_neg]
      rw [leftN_fst]
      intro hl
      have hm : A.getD k 0 ∈ A := getD_mem (by omega)
      have hx := hA.ne _ hm
      have hech : Ech (r1 (growAll (dup (A.take k)))) := grow_ech_all _ [] ⟨by simp [r1], by simp [r1]⟩ fun p hp => by
        obtain ⟨x, hx, rfl⟩ := List.mem_map.1 hp
        exact (hA.ne x (List.mem_of_mem_take hx)).2
      have hs : Sp (A.take k) (A.getD k 0) := by
        have := (hech.sp_iff _).2 hl
        rwa [sp_grow, r1_dup] at this
      have hoff : ∀ r ∈ A.take k, tb r (pv (A.getD k 0)) = false := by
        intro r hr
        obtain ⟨i, hi, rfl⟩ := List.getElem_of_mem hr
        rw [List.length_take] at hi
        rw [List.getElem_take]
        have := (List.pairwise_iff_getElem.1 hA.off) i k (by omega) (by omega) (by omega)
        rw [show A.getD k 0 = A[k] by simp [List.getD, show k < A.length by omega]]
        exact this.1
      have := Sp.off hoff hs
      rw [tb_pv hx.1 hx.2] at this; cases this
  intro j
  induction j with
  | zero => intro _; exact h0 _ (Nat.le_refl _)
  | succ j ih =>
    intro hj
    have e1 : (dup A ++ zs B).take (A.length + j) = dup A ++ zs (B.take j) := by
      rw [List.take_append, dup_length, List.take_of_length_le (by rw [dup_length]; omega), zs_take]
      congr 2
      congr 1
      omega
    have e2 : (dup A ++ zs B).getD (A.length + j) (0, 0) = (B.getD j 0, 0) := by
      rw [getD_app_right (by rw [dup_length]; omega), dup_length, show A.length + j - A.length = j by omega, zs_getD (by omega)]
    show kerP (dup A ++ zs B) ((A.length + j) + 1) = _
    simp only [kerP, meetOut, e1, e2, ih (by omega)]
def meetS (A B : List Nat) : List Nat := reduceS (meetOut (fun k => spanL (dup A ++ zs (B.take k))) B B.length)
/-- both meets -/
theorem meet_both {A B : List Nat} (hA : ∀ r ∈ A, Sm r) (hB : ∀ r ∈ B, Sm r) :
    reduceS (kerP (dup (reduceS A) ++ zs (reduceS B)) ((reduceS A).length + (reduceS B).length)) = meetS A B := by
  have rA := red_reduce hA
  have rB := red_reduce hB
  have sA : ∀ r ∈ reduceS A, Sm r := fun r hr => (rA.ne r hr).2
  have sB : ∀ r ∈ reduceS B, Sm r := fun r hr => (rB.ne r hr).2
  rw [kerP_meet rA _ (Nat.le_refl _)]
  have h1 := meetG_grow sA sB
  have h2 := meetG_span hA hB
  exact reduce_unique (h1.sm sA) (h2.sm hA) fun v => by rw [h1.sp_iff, h2.sp_iff, sp_reduce hA, sp_reduce hB]

theorem putS_len (S : List Nat) (x : Nat) : (putS S x).length = if leftS S x = 0 then S.length else S.length + 1 := by
  by_cases h : leftS S x = 0
  · rw [if_pos h]; unfold putS; rw [if_pos h]
  · rw [if_neg h, (putS_perm S x h).length_eq]; simp
theorem reduce_snoc (S : List Nat) (x : Nat) : reduceS (S ++ [x]) = putS (reduceS S) x := by simp [reduceS]
/-- no row belongs to the space of the earlier ones -/
def Fre (S : List Nat) : Prop := ∀ k, k < S.length → ¬ Sp (S.take k) (S.getD k 0)
theorem fre_len {S : List Nat} (hS : ∀ r ∈ S, Sm r) (h : Fre S) : (reduceS S).length = S.length := by
  have key : ∀ k, k ≤ S.length → (reduceS (S.take k)).length = k := by
    intro k
    induction k with
    | zero => intro _; rfl
    | succ k ih =>
      intro hk
      rw [reduceS_take_succ S k (by omega), putS_len, ih (by omega), if_neg]
      intro h0
      have hs := sm_take hS k
      exact h k (by omega) ((sp_reduce hs _).1 (((red_reduce hs).ech.sp_iff _).2 h0))
  have := key S.length (Nat.le_refl _)
  rwa [List.take_length] at this
theorem Ech.take {S : List Nat} (h : Ech S) (k : Nat) : Ech (S.take k) := ⟨fun r hr => h.ne r (List.mem_of_mem_take hr), h.off.sublist (List.take_sublist k S)⟩
theorem leftS_id {S : List Nat} : ∀ {x}, (∀ r ∈ S, tb x (pv r) = false) → leftS S x = x := by
  induction S with
  | nil => intro x _; rfl
  | cons r S ih =>
    intro x h
    rw [leftS_cons, if_neg (by rw [h r (List.mem_cons_self ..)]; simp)]
    exact ih fun s hs => h s (List.mem_cons_of_mem _ hs)
theorem Ech.fre {S : List Nat} (h : Ech S) : Fre S := by
  intro k hk hs
  have h0 := ((h.take k).sp_iff _).1 hs
  have hoff : ∀ r ∈ S.take k, tb (S.getD k 0) (pv r) = false := by
    intro r hr
    obtain ⟨i, hi, rfl⟩ := List.getElem_of_mem hr
    rw [List.length_take] at hi
    rw [List.getElem_take, show S.getD k 0 = S[k] by simp [List.getD, hk]]
    exact (List.pairwise_iff_getElem.1 h.off) i k (by omega) hk (by omega)
  rw [leftS_id hoff] at h0
  exact (h.ne _ (getD_mem hk)).1 h0
theorem Red.fre {S : List Nat} (h : Red S) : Fre S := h.ech.fre
theorem ech_len {S : List Nat} (h : Ech S) : (reduceS S).length = S.length := fre_len (fun r hr => (h.ne r hr).2) h.fre


def gp (ps : List (Nat × Nat)) (k : Nat) : List (Nat × Nat) := growAll (ps.take k)
theorem gp_succ {ps : List (Nat × Nat)} {k : Nat} (h : k < ps.length) : gp ps (k + 1) = growL (gp ps k) (ps.getD k (0, 0)) := by
  unfold gp growAll
  exact fold_take_succ growL [] ps k (0, 0) h
theorem kerP_succ (ps : List (Nat × Nat)) (k : Nat) : kerP ps (k + 1) = kerStep (gp ps k) (ps.getD k (0, 0)) (kerP ps k) := rfl
/-- what goes into the list, and what into the sums -/
theorem gp_count (ps : List (Nat × Nat)) : ∀ k, k ≤ ps.length → (gp ps k).length + (kerP ps k).length = k := by
  intro k
  induction k with
  | zero => intro _; simp [gp, growAll, kerP]
  | succ k ih =>
    intro hk
    have ih := ih (by omega)
    rw [gp_succ (by omega), kerP_succ]
    unfold growL kerStep
    split
    · simp; omega
    · simp; omega
theorem meetOut_fre {A B : List Nat} {G : Nat → List (Nat × Nat)} (h : MeetG A B G) (hB : Fre B) : ∀ k, k ≤ B.length → Fre (meetOut G B k) := by
  intro k
  induction k with
  | zero => intro _ j hj; simp [meetOut] at hj
  | succ k ih =>
    intro hk
    have ih := ih (by omega)
    simp only [meetOut, kerStep]
    by_cases h0 : (leftN (G k) (B.getD k 0, 0)).1 = 0
    · rw [if_pos h0]
      intro j hj
      rcases Nat.lt_or_ge j (meetOut G B k).length with h1 | h1
      · have e1 : (meetOut G B k ++ [(leftN (G k) (B.getD k 0, 0)).2]).take j = (meetOut G B k).take j := List.take_append_of_le_length (by omega)
        have e2 : (meetOut G B k ++ [(leftN (G k) (B.getD k 0, 0)).2]).getD j 0 = (meetOut G B k).getD j 0 := by simp [List.getD, List.getElem?_append_left h1]
        rw [e1, e2]; exact ih j h1
      · have ej : j = (meetOut G B k).length := by simp at hj; omega
        subst ej
        have e1 : (meetOut G B k ++ [(leftN (G k) (B.getD k 0, 0)).2]).take (meetOut G B k).length = meetOut G B k := by simp
        have e2 : (meetOut G B k ++ [(leftN (G k) (B.getD k 0, 0)).2]).getD (meetOut G B k).length 0 = (leftN (G k) (B.getD k 0, 0)).2 := by simp [List.getD]
        rw [e1, e2]
        intro hs
        have hs2 : Sp (B.take k) (leftN (G k) (B.getD k 0, 0)).2 := hs.trans fun r hr => (h.sub k (by omega) r hr).2
        have := (h.own (by omega) h0).2.plus hs2
        rw [xr_assoc, xr_self, xr_zero] at this
        exact hB k (by omega) this
    · rw [if_neg h0]; exact ih
theorem dims {A B : List Nat} (hA : ∀ r ∈ A, Sm r) (hB : ∀ r ∈ B, Sm r) : (reduceS A).length + (reduceS B).length = (reduceS (A ++ B)).length + (meetS A B).length := by
  have rA := red_reduce hA
  have rB := red_reduce hB
  have sA : ∀ r ∈ reduceS A, Sm r := fun r hr => (rA.ne r hr).2
  have sB : ∀ r ∈ reduceS B, Sm r := fun r hr => (rB.ne r hr).2
  have hm := meetG_grow sA sB
  have hps : (dup (reduceS A) ++ zs (reduceS B)).length = (reduceS A).length + (reduceS B).length := by rw [List.length_append, dup_length, zs_length]
  have hc := gp_count (dup (reduceS A) ++ zs (reduceS B)) ((reduceS A).length + (reduceS B).length) (by omega)
  have e1 : (kerP (dup (reduceS A) ++ zs (reduceS B)) ((reduceS A).length + (reduceS B).length)).length = (meetS A B).length := by
    rw [← meet_both hA hB, kerP_meet rA _ (Nat.le_refl _)]
    exact (fre_len (hm.sm sA) (meetOut_fre hm rB.fre _ (Nat.le_refl _))).symm
  have hech : Ech (r1 (gp (dup (reduceS A) ++ zs (reduceS B)) ((reduceS A).length + (reduceS B).length))) := grow_ech_all _ [] ⟨by simp [r1], by simp [r1]⟩ fun p hp => (sm_pairs sA sB p (List.mem_of_mem_take hp)).1
  have e2 : (gp (dup (reduceS A) ++ zs (reduceS B)) ((reduceS A).length + (reduceS B).length)).length = (reduceS (A ++ B)).length := by
    have h1 := ech_len hech
    rw [r1_length] at h1
    rw [← h1]
    congr 1
    refine reduce_unique (fun r hr => (hech.ne r hr).2) (fun r hr => by rcases List.mem_append.1 hr with h | h; exact hA r h; exact hB r h) fun v => ?_
    unfold gp
    rw [List.take_of_length_le (by omega), sp_grow, r1_app, r1_dup, r1_zs]
    constructor
    · refine Sp.trans fun r hr => ?_
      rcases List.mem_append.1 hr with h | h
      · exact ((sp_reduce hA r).1 (.mem h)).mono fun s hs => List.mem_append_left _ hs
      · exact ((sp_reduce hB r).1 (.mem h)).mono fun s hs => List.mem_append_right _ hs
    · refine Sp.trans fun r hr => ?_
      rcases List.mem_append.1 hr with h | h
      · exact ((sp_reduce hA r).2 (.mem h)).mono fun s hs => List.mem_append_left _ hs
      · exact ((sp_reduce hB r).2 (.mem h)).mono fun s hs => List.mem_append_right _ hs
  omega

theorem kerOut_length (G : Nat → List (Nat × Nat)) (S : List Nat) : ∀ k, (kerOut G S k).length ≤ k
  | 0 => Nat.le_refl _
  | k + 1 => by
    have := kerOut_length G S k
    simp only [kerOut, kerStep]
    split
    · simp; omega
    · omega
end Go.Proofs.Ytnffpjdlpjkioaa

namespace Go.Proofs.Ytnffpjdlpjkioaa

/-! ### the mask of a list of digits -/
def mk : List Int → Nat
  | [] => 0
  | x :: v => (if x = 1 then 1 else 0) + 2 * mk v
theorem tb_mk : ∀ (v : List Int) (i : Nat), tb (mk v) i = decide (v.getD i 0 = 1)
  | [], i => by simp [mk, tb_zero]
  | x :: v, 0 => by
    unfold tb mk
    rw [Nat.testBit_zero]
    by_cases h : x = 1 <;> simp [h] <;> omega
  | x :: v, i + 1 => by
    have := tb_mk v i
    unfold tb at this ⊢
    rw [Nat.testBit_succ, show mk (x :: v) / 2 = mk v by rw [show mk (x :: v) = (if x = 1 then 1 else 0) + 2 * mk v from rfl]; split <;> omega, this]
    simp
theorem mk_lt (v : List Int) : mk v < 2 ^ v.length := lt_of_tb fun m hm => by
  rw [tb_mk]; simp [List.getD, List.getElem?_eq_none hm]
theorem mk_bits {v n : Nat} (h : v < 2 ^ n) : mk (bitsL v n) = v := eq_of_tb fun i => by
  rw [tb_mk]
  rcases Nat.lt_or_ge i n with hi | hi
  · rw [bitsL_getD _ hi]
    cases hb : tb v i
    · rw [bit_none hb]; rfl
    · rw [bit_one hb]; rfl
  · rw [tb_of_lt h hi]
    simp [List.getD, List.getElem?_eq_none (show (bitsL v n).length ≤ i by rw [bitsL_length]; exact hi)]
/-- is a list a vector of n digits? -/
def vecB (n : Nat) (v : List Int) : Bool := (v.all fun x => decide (0 ≤ x) && decide (x ≤ 1)) && decide (v.length = n)
theorem vecB_iff {n : Nat} {v : List Int} : vecB n v = true ↔ v.length = n ∧ ∀ i, i < v.length → 0 ≤ v.getD i 0 ∧ v.getD i 0 ≤ 1 := by
  unfold vecB
  rw [Bool.and_eq_true, List.all_eq_true, decide_eq_true_eq]
  constructor
  · rintro ⟨h1, h2⟩
    refine ⟨h2, fun i hi => ?_⟩
    have := h1 (v[i]) (List.getElem_mem hi)
    simpa [List.getD, hi] using this
  · rintro ⟨h1, h2⟩
    refine ⟨fun x hx => ?_, h1⟩
    obtain ⟨i, hi, rfl⟩ := List.getElem_of_mem hx
    simpa [List.getD, hi] using h2 i hi
theorem vec_bits {n : Nat} {v : List Int} (h : vecB n v = true) : v = bitsL (mk v) n ∧ mk v < 2 ^ n := by
  obtain ⟨h1, h2⟩ := vecB_iff.1 h
  refine ⟨list_ext_getD h1 (bitsL_length _ _) fun i hi => ?_, by have := mk_lt v; rwa [h1] at this⟩
  rw [bitsL_getD _ hi]
  obtain ⟨a, b⟩ := h2 i (by omega)
  unfold bit
  rw [tb_mk]
  by_cases e : v.getD i 0 = 1
  · rw [if_pos (by simpa using e)]; exact e
  · rw [if_neg (by simpa using e)]; omega
theorem vecB_bits {v n : Nat} : vecB n (bitsL v n) = true := vecB_iff.2 ⟨bitsL_length _ _, fun i hi => by
  rw [bitsL_length] at hi
  rw [bitsL_getD _ hi]; exact bit_bd v i⟩
theorem mk_take {v : List Int} {k : Nat} (hk : k < v.length) : mk (v.take (k + 1)) = orr (mk (v.take k)) (if v.getD k 0 = 1 then 2 ^ k else 0) := by
  apply eq_of_tb
  intro i
  have e : ∀ j, (v.take j).getD i 0 = if i < j then v.getD i 0 else 0 := fun j => by
    simp only [List.getD, List.getElem?_take]; split <;> rfl
  unfold orr
  rw [show tb (mk (v.take k) ||| (if v.getD k 0 = 1 then 2 ^ k else 0)) i = (tb (mk (v.take k)) i || tb (if v.getD k 0 = 1 then 2 ^ k else 0) i) by unfold tb; exact Nat.testBit_or ..]
  rw [tb_mk, tb_mk, e, e]
  by_cases h : v.getD k 0 = 1
  · rw [if_pos h, tb_pow]
    by_cases hi : i < k
    · simp [hi, show i < k + 1 by omega, show ¬ k = i by omega]
    · by_cases hik : i = k
      · subst hik; have h' := h; simp only [List.getD_eq_getElem?_getD] at h'; simp [h']
      · simp [hi, show ¬ i < k + 1 by omega, show ¬ k = i by omega]
  · rw [if_neg h, tb_zero]
    by_cases hi : i < k
    · simp [hi, show i < k + 1 by omega]
    · by_cases hik : i = k
      · subst hik; have h' := h; simp only [List.getD_eq_getElem?_getD] at h'; simp [h']
      · simp [hi, show ¬ i < k + 1 by omega]

/-! ### the digits of a degree -/
def dmTo (xs : List Int) (d : Int) : Nat → Nat
  | 0 => 0
  | k + 1 => if xs.getD k 0 = d then orr (dmTo xs d k) (2 ^ k) else dmTo xs d k
def dmask (xs : List Int) (d : Int) : Nat := dmTo xs d xs.length
theorem tb_orr (a b i : Nat) : tb (orr a b) i = (tb a i || tb b i) := by unfold tb orr; exact Nat.testBit_or ..
theorem tb_dmTo (xs : List Int) (d : Int) : ∀ k i, tb (dmTo xs d k) i = (decide (i < k) && decide (xs.getD i 0 = d))
  | 0, i => by simp [dmTo, tb_zero]
  | k + 1, i => by
    unfold dmTo
    by_cases h : xs.getD k 0 = d
    · rw [if_pos h, tb_orr, tb_dmTo xs d k, tb_pow]
      by_cases hi : i < k
      · simp [hi, show i < k + 1 by omega, show ¬ k = i by omega]
      · by_cases hik : i = k
        · subst hik; have h' := h; simp only [List.getD_eq_getElem?_getD] at h'; simp [h']
        · simp [hi, show ¬ i < k + 1 by omega, show ¬ k = i by omega]
    · rw [if_neg h, tb_dmTo xs d k]
      by_cases hi : i < k
      · simp [hi, show i < k + 1 by omega]
      · by_cases hik : i = k
        · subst hik; have h' := h; simp only [List.getD_eq_getElem?_getD] at h'; simp [h']
        · simp [hi, show ¬ i < k + 1 by omega]
theorem tb_dmask (xs : List Int) (d : Int) (i : Nat) : tb (dmask xs d) i = (decide (i < xs.length) && decide (xs.getD i 0 = d)) := tb_dmTo xs d _ i
theorem dmTo_lt (xs : List Int) (d : Int) (k : Nat) : dmTo xs d k < 2 ^ k := lt_of_tb fun m hm => by rw [tb_dmTo]; simp; omega
theorem dmask_lt (xs : List Int) (d : Int) : dmask xs d < 2 ^ xs.length := dmTo_lt xs d _
/-- a without the digits of b -/
def nt (a b : Nat) : Nat := a ^^^ (a &&& b)
theorem tb_nt (a b i : Nat) : tb (nt a b) i = (tb a i && !tb b i) := by
  unfold tb nt
  rw [Nat.testBit_xor, Nat.testBit_and]
  cases a.testBit i <;> cases b.testBit i <;> rfl
theorem nt_lt {a b n : Nat} (ha : a < 2 ^ n) : nt a b < 2 ^ n := lt_of_tb fun m hm => by rw [tb_nt, tb_of_lt ha hm]; rfl
theorem nt_hom {xs : List Int} {d : Int} {v : Nat} : nt v (dmask xs d) = 0 ↔ Hom xs d v := by
  constructor
  · intro h c hc
    have := congrArg (fun z => tb z c) h
    simp only [tb_nt, tb_zero, hc, tb_dmask] at this
    simpa using this
  · intro h
    apply eq_of_tb
    intro c
    rw [tb_nt, tb_zero, tb_dmask]
    cases hc : tb v c with
    | false => rfl
    | true => obtain ⟨a, b⟩ := h c hc; rw [decide_eq_true a, decide_eq_true b]; rfl

/-! ### maps -/
structure MapP (xs : List Int) (Q : List (List Int)) (ys : List Int) (R P : List (List Int)) : Prop where
  len : P.length = xs.length
  vec : ∀ i, i < P.length → vecB ys.length (P.getD i []) = true
  hom : ∀ i, i < P.length → Hom ys (xs.getD i 0) (mk (P.getD i []))
  eqn : ∀ i, i < P.length → ∀ j : Nat, 1 ≤ j → j ≤ 20 → comb (P.map mk) 0 (act Q (j : Int) (2 ^ i)) = act R (j : Int) (mk (P.getD i []))
noncomputable def mapB (xs : List Int) (Q : List (List Int)) (ys : List Int) (R P : List (List Int)) : Bool := @decide (MapP xs Q ys R P) (Classical.propDecidable _)
theorem mapB_iff {xs : List Int} {Q : List (List Int)} {ys : List Int} {R P : List (List Int)} : mapB xs Q ys R P = true ↔ MapP xs Q ys R P := by unfold mapB; simp
theorem mapB_no {xs : List Int} {Q : List (List Int)} {ys : List Int} {R P : List (List Int)} (h : ¬ MapP xs Q ys R P) : mapB xs Q ys R P = false := by unfold mapB; simp [h]
theorem mapB_yes {xs : List Int} {Q : List (List Int)} {ys : List Int} {R P : List (List Int)} (h : MapP xs Q ys R P) : mapB xs Q ys R P = true := mapB_iff.2 h
theorem mks_getD {P : List (List Int)} {i : Nat} (h : i < P.length) : (P.map mk).getD i 0 = mk (P.getD i []) := by simp [List.getD, h]
theorem comb_lt {S : List Nat} {n : Nat} (h : ∀ r ∈ S, r < 2 ^ n) : ∀ i x, comb S i x < 2 ^ n := by
  induction S with
  | nil => intro i x; exact Nat.two_pow_pos _
  | cons r S ih =>
    intro i x
    simp only [comb]
    refine xr_lt ?_ (ih (fun s hs => h s (List.mem_cons_of_mem _ hs)) _ _)
    split
    · exact h r (List.mem_cons_self ..)
    · exact Nat.two_pow_pos _
theorem mks_lt {P : List (List Int)} {n : Nat} (h : ∀ i, i < P.length → vecB n (P.getD i []) = true) : ∀ r ∈ P.map mk, r < 2 ^ n := by
  intro r hr
  obtain ⟨p, hp, rfl⟩ := List.mem_map.1 hr
  obtain ⟨i, hi, rfl⟩ := List.getElem_of_mem hp
  have := h i hi
  simp only [List.getD, hi, List.getElem?_eq_getElem, Option.getD_some] at this
  exact (vec_bits this).2
end Go.Proofs.Ytnffpjdlpjkioaa
