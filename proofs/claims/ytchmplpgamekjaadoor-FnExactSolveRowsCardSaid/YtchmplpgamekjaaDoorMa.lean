/- plain mathematics: spaces, echelon lists, solutions -/
import Derived.Test.YtchmplpgamekjaaDoorJ
namespace Go.Proofs.YtchmplpgamekjaaDoor

/-- the space of rows -/
inductive Sp (S : List Nat) : Nat → Prop
  | zero : Sp S 0
  | add {r v : Nat} : r ∈ S → Sp S v → Sp S (xr r v)
theorem Sp.mem {S : List Nat} {r : Nat} (h : r ∈ S) : Sp S r := by have := Sp.add h .zero; rwa [xr_zero] at this
theorem Sp.plus {S : List Nat} {a b : Nat} (ha : Sp S a) (hb : Sp S b) : Sp S (xr a b) := by
  induction ha with
  | zero => rwa [zero_xr]
  | add hm _ ih => rw [xr_assoc]; exact .add hm ih
theorem Sp.trans {S T : List Nat} {v : Nat} (h : ∀ r ∈ S, Sp T r) (hv : Sp S v) : Sp T v := by
  induction hv with
  | zero => exact .zero
  | add hm _ ih => exact (h _ hm).plus ih
theorem Sp.mono {S T : List Nat} {v : Nat} (h : ∀ r ∈ S, r ∈ T) (hv : Sp S v) : Sp T v := hv.trans fun r hr => .mem (h r hr)
theorem Sp.off {S : List Nat} {n v : Nat} (h : ∀ r ∈ S, tb r n = false) (hv : Sp S v) : tb v n = false := by
  induction hv with
  | zero => exact tb_zero n
  | add hm _ ih => rw [tb_xr, h _ hm, ih]; rfl
theorem xr_xr (a b : Nat) : xr a (xr a b) = b := by rw [← xr_assoc, xr_self, zero_xr]
theorem xr_left (a b c : Nat) : xr a (xr b c) = xr b (xr a c) := by rw [← xr_assoc, xr_comm a b, xr_assoc]
theorem sp_cons {r v : Nat} {S : List Nat} (h : Sp (r :: S) v) : Sp S v ∨ Sp S (xr r v) := by
  induction h with
  | zero => exact .inl .zero
  | add hm _ ih =>
    rcases List.mem_cons.1 hm with rfl | hm
    · rcases ih with ih | ih
      · exact .inr (by rw [xr_xr]; exact ih)
      · exact .inl ih
    · rcases ih with ih | ih
      · exact .inl (.add hm ih)
      · exact .inr (by rw [xr_left]; exact .add hm ih)

/-- Echelon: no row is 0, all are small, no later row has an earlier one's pivot. -/
structure Ech (S : List Nat) : Prop where
  ne : ∀ r ∈ S, r ≠ 0 ∧ Sm r
  off : S.Pairwise fun r s => tb s (pv r) = false
theorem Red.ech {S : List Nat} (h : Red S) : Ech S := ⟨h.ne, h.off.imp fun h => h.2⟩
theorem Ech.tail {r : Nat} {S : List Nat} (h : Ech (r :: S)) : Ech S := ⟨fun s hs => h.ne s (List.mem_cons_of_mem _ hs), (List.pairwise_cons.1 h.off).2⟩
theorem Ech.left {S : List Nat} (h : Ech S) : ∀ x, ∀ r ∈ S, tb (leftS S x) (pv r) = false := by
  induction S with
  | nil => intro x r hr; cases hr
  | cons r S ih =>
    intro x s hs
    have hp := (List.pairwise_cons.1 h.off).1
    have hr := h.ne r (List.mem_cons_self ..)
    rw [leftS_cons]
    rcases List.mem_cons.1 hs with rfl | hs
    · rw [tb_leftS (fun t ht => hp t ht)]
      split
      · rename_i h1; rw [tb_xr, h1, tb_pv hr.1 hr.2]; rfl
      · rename_i h1; simpa using h1
    · exact ih h.tail _ s hs
theorem left_sp (S : List Nat) : ∀ x, Sp S (xr x (leftS S x)) := by
  induction S with
  | nil => intro x; rw [show leftS [] x = x from rfl, xr_self]; exact .zero
  | cons r S ih =>
    intro x
    rw [leftS_cons]
    split
    · have := Sp.add (S := r :: S) (List.mem_cons_self ..) ((ih (xr x r)).mono fun s hs => List.mem_cons_of_mem _ hs)
      rw [xr_comm x r, xr_assoc, xr_xr] at this
      rw [xr_comm x r]; exact this
    · exact (ih x).mono fun s hs => List.mem_cons_of_mem _ hs
theorem Ech.zero {S : List Nat} (h : Ech S) : ∀ v, Sp S v → (∀ r ∈ S, tb v (pv r) = false) → v = 0 := by
  induction S with
  | nil =>
    intro v hv _
    cases hv with
    | zero => rfl
    | add hm _ => cases hm
  | cons r S ih =>
    intro v hv hoff
    have hp := (List.pairwise_cons.1 h.off).1
    have hr := h.ne r (List.mem_cons_self ..)
    rcases sp_cons hv with hv | hv
    · exact ih h.tail v hv fun s hs => hoff s (List.mem_cons_of_mem _ hs)
    · have h1 := Sp.off (n := pv r) hp hv
      rw [tb_xr, hoff r (List.mem_cons_self ..), tb_pv hr.1 hr.2] at h1
      cases h1
theorem Ech.sp_iff {S : List Nat} (h : Ech S) (v : Nat) : Sp S v ↔ leftS S v = 0 := by
  constructor
  · intro hv
    refine h.zero _ ?_ (h.left v)
    have := hv.plus (left_sp S v)
    rwa [xr_xr] at this
  · intro h0
    have := left_sp S v
    rwa [h0, xr_zero] at this

/-- the product of a mask and rows, the first row being the mask's digit i -/
def comb : List Nat → Nat → Nat → Nat
  | [], _, _ => 0
  | r :: S, i, x => xr (if tb x i then r else 0) (comb S (i + 1) x)
theorem comb_xr (S : List Nat) : ∀ i x y, comb S i (xr x y) = xr (comb S i x) (comb S i y) := by
  induction S with
  | nil => intro i x y; exact (xr_self 0).symm
  | cons r S ih =>
    intro i x y
    simp only [comb, ih, tb_xr]
    cases tb x i <;> cases tb y i <;> simp [zero_xr, xr_zero, xr_assoc]
    · rw [xr_left]
    · rw [xr_left _ r, xr_xr]
theorem comb_low (S : List Nat) : ∀ i x, (∀ m, i ≤ m → tb x m = false) → comb S i x = 0 := by
  induction S with
  | nil => intro i x _; rfl
  | cons r S ih => intro i x h; simp only [comb, h i (Nat.le_refl _), ih (i + 1) x fun m hm => h m (by omega)]; simp [xr_zero]
theorem tb_pow (i j : Nat) : tb (2 ^ i) j = decide (i = j) := Nat.testBit_two_pow
theorem comb_pow (S : List Nat) : ∀ i k, comb S i (2 ^ (i + k)) = S.getD k 0 := by
  induction S with
  | nil => intro i k; simp [comb]
  | cons r S ih =>
    intro i k
    simp only [comb, tb_pow]
    cases k with
    | zero =>
      rw [comb_low S (i + 1) (2 ^ (i + 0)) (fun m hm => by rw [tb_pow]; simp; omega)]
      simp [xr_zero]
    | succ k =>
      have := ih (i + 1) k
      rw [show i + 1 + k = i + (k + 1) by omega] at this
      rw [this]
      simp [zero_xr]
theorem comb_sp (S : List Nat) : ∀ i x, Sp S (comb S i x) := by
  induction S with
  | nil => intro i x; exact .zero
  | cons r S ih =>
    intro i x
    have := (ih (i + 1) x).mono (T := r :: S) fun s hs => List.mem_cons_of_mem _ hs
    simp only [comb]
    split
    · exact .add (List.mem_cons_self ..) this
    · rwa [zero_xr]
/-- the greatest digit of a mask taken off -/
theorem comb_take (S : List Nat) : ∀ i t z, t < S.length → (∀ m, i + t < m → tb z m = false) → comb S i z = xr (comb (S.take t) i z) (if tb z (i + t) then S.getD t 0 else 0) := by
  induction S with
  | nil => intro i t z h _; simp at h
  | cons r S ih =>
    intro i t z ht hz
    cases t with
    | zero =>
      have h0 : comb S (i + 1) z = 0 := comb_low S (i + 1) z fun m hm => hz m (by omega)
      simp [comb, h0, xr_zero, zero_xr]
    | succ t =>
      have h1 := ih (i + 1) t z (by simpa using ht) (fun m hm => hz m (by omega))
      simp only [comb, List.take_succ_cons, List.getD_cons_succ]
      rw [h1, show i + 1 + t = i + (t + 1) by omega, xr_assoc]
theorem lt_of_tb {z n : Nat} (h : ∀ m, n ≤ m → tb z m = false) : z < 2 ^ n := Nat.lt_pow_two_of_testBit z h
theorem tb_of_lt {z n m : Nat} (h : z < 2 ^ n) (hm : n ≤ m) : tb z m = false := Nat.testBit_lt_two_pow (Nat.lt_of_lt_of_le h (Nat.pow_le_pow_right (by omega) hm))
/-- rows none of which belongs to the space of the earlier ones: only 0 makes 0 of them -/
theorem comb_inj {S : List Nat} (h : ∀ t, t < S.length → ¬ Sp (S.take t) (S.getD t 0)) : ∀ n z, n ≤ S.length → z < 2 ^ n → comb S 0 z = 0 → z = 0 := by
  intro n
  induction n with
  | zero => intro z _ hz _; simpa using hz
  | succ n ih =>
    intro z hn hz h0
    have hc := comb_take S 0 n z (by omega) (fun m hm => tb_of_lt hz (by omega))
    cases hb : tb z n
    · refine ih z (by omega) (lt_of_tb fun m hm => ?_) h0
      rcases Nat.lt_or_ge n m with h1 | h1
      · exact tb_of_lt hz (by omega)
      · rw [show m = n by omega]; exact hb
    · rw [Nat.zero_add, hb, h0] at hc
      simp only [if_true] at hc
      have e : S.getD n 0 = comb (S.take n) 0 z := by
        have := congrArg (xr (comb (S.take n) 0 z)) hc
        rw [xr_xr, xr_zero] at this; exact this.symm
      exact absurd (e ▸ comb_sp (S.take n) 0 z) (h n (by omega))

/-- what a row differs by from what its companion makes -/
def Dif (S : List Nat) (p : Nat × Nat) : Nat := xr p.1 (comb S 0 p.2)
theorem Dif.step {S : List Nat} {p r : Nat × Nat} (hr : Dif S r = 0) : Dif S (leftStep p r) = Dif S p := by
  unfold leftStep
  split
  · have e : Dif S (xr p.1 r.1, xr p.2 r.2) = xr (Dif S p) (Dif S r) := by
      unfold Dif; simp only [comb_xr]; rw [xr_assoc, xr_assoc, xr_left r.1]
    rw [e, hr, xr_zero]
  · rfl
theorem Dif.left {S : List Nat} {L : List (Nat × Nat)} (h : ∀ r ∈ L, Dif S r = 0) : ∀ p, Dif S (leftN L p) = Dif S p := by
  unfold leftN
  induction L with
  | nil => intro p; rfl
  | cons r L ih => intro p; rw [List.foldl_cons, ih (fun s hs => h s (List.mem_cons_of_mem _ hs)), Dif.step (h r (List.mem_cons_self ..))]
theorem dif_zero {S : List Nat} {p : Nat × Nat} : Dif S p = 0 ↔ comb S 0 p.2 = p.1 := by
  unfold Dif
  constructor
  · intro h; have := congrArg (xr p.1) h; rwa [xr_xr, xr_zero] at this
  · intro h; rw [h, xr_self]

/-- both numbers of a pair are below powers of 2 -/
def Lt2 (a b : Nat) (p : Nat × Nat) : Prop := p.1 < 2 ^ a ∧ p.2 < 2 ^ b
theorem Lt2.left {a b : Nat} {L : List (Nat × Nat)} (h : ∀ r ∈ L, Lt2 a b r) : ∀ {p}, Lt2 a b p → Lt2 a b (leftN L p) := by
  unfold leftN
  induction L with
  | nil => intro p hp; exact hp
  | cons r L ih =>
    intro p hp
    refine ih (fun s hs => h s (List.mem_cons_of_mem _ hs)) ?_
    have hr := h r (List.mem_cons_self ..)
    unfold leftStep; split
    · exact ⟨Nat.xor_lt_two_pow hp.1 hr.1, Nat.xor_lt_two_pow hp.2 hr.2⟩
    · exact hp
theorem Lt2.addL {a b : Nat} {L : List (Nat × Nat)} (h : ∀ r ∈ L, Lt2 a b r) {p : Nat × Nat} (hp : Lt2 a b p) : ∀ r ∈ addL L p, Lt2 a b r := by
  intro r hm
  have hq := Lt2.left h hp
  unfold Go.Proofs.YtchmplpgamekjaaDoor.addL at hm
  split at hm
  · exact h r hm
  · unfold addN at hm
    rcases List.mem_append.1 hm with hm | hm
    · obtain ⟨s, hs, rfl⟩ := List.mem_map.1 hm
      have h1 := h s hs
      unfold addStep; split
      · exact ⟨Nat.xor_lt_two_pow h1.1 hq.1, Nat.xor_lt_two_pow h1.2 hq.2⟩
      · exact h1
    · rw [List.mem_singleton.1 hm]; exact hq
theorem Dif.addL {S : List Nat} {L : List (Nat × Nat)} (h : ∀ r ∈ L, Dif S r = 0) {p : Nat × Nat} (hp : Dif S p = 0) : ∀ r ∈ addL L p, Dif S r = 0 := by
  intro r hm
  have hq := (Dif.left h p).trans hp
  unfold Go.Proofs.YtchmplpgamekjaaDoor.addL at hm
  split at hm
  · exact h r hm
  · unfold addN at hm
    rcases List.mem_append.1 hm with hm | hm
    · obtain ⟨s, hs, rfl⟩ := List.mem_map.1 hm
      have h1 := h s hs
      have e : addStep (leftN L p) s = s ∨ addStep (leftN L p) s = (xr s.1 (leftN L p).1, xr s.2 (leftN L p).2) := by
        unfold addStep; split
        · exact .inr rfl
        · exact .inl rfl
      rcases e with e | e
      · rw [e]; exact h1
      · rw [e]
        rw [dif_zero] at h1 hq ⊢
        simp only [comb_xr, h1, hq]
    · rw [List.mem_singleton.1 hm]; exact hq
theorem sp_addL (L : List (Nat × Nat)) (p : Nat × Nat) (v : Nat) : Sp (r1 (addL L p)) v ↔ Sp (p.1 :: r1 L) v := by
  have hl := left_sp (r1 L) p.1
  have hT : ∀ r ∈ r1 L, Sp (p.1 :: r1 L) r := fun r hr => .mem (List.mem_cons_of_mem _ hr)
  by_cases h0 : (leftN L p).1 = 0
  · have e : addL L p = L := by unfold addL; rw [if_pos h0]
    rw [leftN_fst] at h0
    rw [h0, xr_zero] at hl
    rw [e]
    constructor
    · exact Sp.trans hT
    · refine Sp.trans fun r hr => ?_
      rcases List.mem_cons.1 hr with rfl | hr
      · exact hl
      · exact .mem hr
  · have e : addL L p = addN L p := by unfold addL; rw [if_neg h0]
    rw [e, r1_addN]
    generalize hq : leftS (r1 L) p.1 = q at *
    have hqs : Sp (p.1 :: r1 L) q := by
      have := (Sp.mem (S := p.1 :: r1 L) (List.mem_cons_self ..)).plus (hl.trans hT)
      rwa [xr_xr] at this
    have hqm : Sp ((r1 L).map (stepS q) ++ [q]) q := .mem (by simp)
    have hrm : ∀ r ∈ r1 L, Sp ((r1 L).map (stepS q) ++ [q]) r := by
      intro r hr
      have h1 : Sp ((r1 L).map (stepS q) ++ [q]) (stepS q r) := .mem (List.mem_append_left _ (List.mem_map_of_mem hr))
      unfold stepS at h1
      split at h1
      · have := h1.plus hqm
        rwa [xr_assoc, xr_self, xr_zero] at this
      · exact h1
    constructor
    · refine Sp.trans fun r hr => ?_
      rcases List.mem_append.1 hr with hr | hr
      · obtain ⟨s, hs, rfl⟩ := List.mem_map.1 hr
        unfold stepS; split
        · exact (hT s hs).plus hqs
        · exact hT s hs
      · rw [List.mem_singleton.1 hr]; exact hqs
    · refine Sp.trans fun r hr => ?_
      rcases List.mem_cons.1 hr with rfl | hr
      · have := hqm.plus (hl.trans hrm)
        rw [xr_left, xr_self, xr_zero] at this; exact this
      · exact hrm r hr
theorem sp_congr {S T U : List Nat} (h : ∀ v, Sp S v ↔ Sp T v) (v : Nat) : Sp (S ++ U) v ↔ Sp (T ++ U) v := by
  constructor
  · refine Sp.trans fun r hr => ?_
    rcases List.mem_append.1 hr with hr | hr
    · exact ((h r).1 (.mem hr)).mono fun s hs => List.mem_append_left _ hs
    · exact .mem (List.mem_append_right _ hr)
  · refine Sp.trans fun r hr => ?_
    rcases List.mem_append.1 hr with hr | hr
    · exact ((h r).2 (.mem hr)).mono fun s hs => List.mem_append_left _ hs
    · exact .mem (List.mem_append_right _ hr)
theorem sp_same {S T : List Nat} (h : ∀ r, r ∈ S ↔ r ∈ T) (v : Nat) : Sp S v ↔ Sp T v := ⟨Sp.mono fun r hr => (h r).1 hr, Sp.mono fun r hr => (h r).2 hr⟩
theorem sp_foldl : ∀ (ps L : List (Nat × Nat)) (v : Nat), Sp (r1 (ps.foldl addL L)) v ↔ Sp (r1 L ++ r1 ps) v
  | [], L, v => by simp [r1]
  | p :: ps, L, v => by
    rw [List.foldl_cons, sp_foldl ps (addL L p) v, sp_congr (sp_addL L p)]
    exact sp_same (by intro r; simp [r1]; constructor <;> (intro h; rcases h with h | h | h <;> simp [h])) v
theorem sp_span (ps : List (Nat × Nat)) (v : Nat) : Sp (r1 (spanL ps)) v ↔ Sp (r1 ps) v := by
  have := sp_foldl ps [] v; simpa [spanL, r1] using this
end Go.Proofs.YtchmplpgamekjaaDoor
