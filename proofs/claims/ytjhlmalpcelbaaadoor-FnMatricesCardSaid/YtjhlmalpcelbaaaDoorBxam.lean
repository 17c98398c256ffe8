/- plain mathematics: the least solution, by both ways · the reference's l02Least; its SolveRows · the program's solve · the program's solve: the walk · KernelOf on both sides · SolveRows on both sides -/
import Derived.Test.YtjhlmalpcelbaaaDoorBxak
import Derived.Deep.Onto
import Derived.Deep.LoopGhost
import Derived.Test.YtjhlmalpcelbaaaDoorBxaf
set_option linter.all false
namespace Go.Proofs.YtjhlmalpcelbaaaDoor

/-- the greatest digit that is 1 -/
def tp (a : Nat) : Nat := Nat.log2 a
theorem tb_gt_tp {a n : Nat} (h : tp a < n) : tb a n = false := by
  have h1 : a < 2 ^ (Nat.log2 a + 1) := Nat.lt_log2_self
  exact tb_of_lt h1 h
theorem tb_tp {a : Nat} (h0 : a ≠ 0) : tb a (tp a) = true := by
  have h1 : 2 ^ Nat.log2 a ≤ a := Nat.log2_self_le h0
  refine Decidable.byContradiction fun hc => ?_
  have h2 := lt_of_top (z := a) (k := Nat.log2 a) Nat.lt_log2_self (by cases h : tb a (Nat.log2 a) with | false => rfl | true => exact absurd h hc)
  omega
theorem tp_eq {a n : Nat} (h0 : a ≠ 0) (h1 : tb a n = true) (h2 : ∀ m, n < m → tb a m = false) : tp a = n := by
  rcases Nat.lt_trichotomy (tp a) n with h | h | h
  · rw [tb_gt_tp h] at h1; cases h1
  · exact h
  · have := tb_tp h0; rw [h2 _ h] at this; cases this
theorem tp_lt {a n : Nat} (h0 : a ≠ 0) (h : a < 2 ^ n) : tp a < n := by
  refine Decidable.byContradiction fun hc => ?_
  have := tb_tp h0
  rw [tb_of_lt h (by omega)] at this; cases this

/-- y is the one of x's coset that has none of the space's greatest digits -/
def Least (V : List Nat) (x y : Nat) : Prop := Sp V (xr x y) ∧ ∀ z, Sp V z → z ≠ 0 → tb y (tp z) = false
theorem least_unique {V W : List Nat} {x x' y y' : Nat} (hVW : ∀ v, Sp V v ↔ Sp W v) (hx : Sp V (xr x x')) (h : Least V x y) (h' : Least W x' y') : y = y' := by
  have h1 : Sp V (xr y y') := by
    have := (h.1.plus hx).plus ((hVW _).2 h'.1)
    have e : xr (xr (xr x y) (xr x x')) (xr x' y') = xr y y' := by
      rw [xr_comm x y, xr_assoc y x, xr_xr, xr_assoc, xr_xr]
    rwa [e] at this
  refine Decidable.byContradiction fun hc => ?_
  have h0 : xr y y' ≠ 0 := fun e => hc (by have := congrArg (xr y) e; rw [xr_xr, xr_zero] at this; exact this.symm)
  have := tb_tp h0
  rw [tb_xr, h.2 _ h1 h0, h'.2 _ ((hVW _).1 h1) h0] at this
  cases this

/-- no row is 0, the greatest digits are all different -/
structure Dst (T : List Nat) : Prop where
  ne : ∀ r ∈ T, r ≠ 0
  off : T.Pairwise fun r s => tp r ≠ tp s
theorem Dst.top : ∀ {T : List Nat}, Dst T → ∀ z, Sp T z → z ≠ 0 → ∃ r ∈ T, tp r = tp z := by
  intro T
  induction T with
  | nil =>
    intro _ z hz h0
    cases hz with
    | zero => exact absurd rfl h0
    | add hm _ => cases hm
  | cons r T ih =>
    intro hT z hz h0
    have hr := hT.ne r (List.mem_cons_self ..)
    have hp := List.pairwise_cons.1 hT.off
    have hT' : Dst T := ⟨fun s hs => hT.ne s (List.mem_cons_of_mem _ hs), hp.2⟩
    rcases sp_cons hz with hz | hz
    · obtain ⟨s, hs, e⟩ := ih hT' z hz h0
      exact ⟨s, List.mem_cons_of_mem _ hs, e⟩
    · by_cases hu : xr r z = 0
      · have : r = z := by have := congrArg (xr r) hu; rw [xr_xr, xr_zero] at this; exact this.symm
        exact ⟨r, List.mem_cons_self .., by rw [this]⟩
      · obtain ⟨s, hs, e⟩ := ih hT' _ hz hu
        have hne : tp r ≠ tp (xr r z) := fun e' => hp.1 s hs (e'.trans e.symm)
        have ez : ∀ m, tb z m = (tb r m ^^ tb (xr r z) m) := fun m => by rw [← tb_xr, xr_xr]
        rcases Nat.lt_or_gt_of_ne hne with hlt | hgt
        · refine ⟨s, List.mem_cons_of_mem _ hs, e.trans (tp_eq h0 ?_ ?_).symm⟩
          · rw [ez, tb_gt_tp hlt, tb_tp hu]; rfl
          · intro m hm; rw [ez, tb_gt_tp (Nat.lt_trans hlt hm), tb_gt_tp hm]; rfl
        · refine ⟨r, List.mem_cons_self .., (tp_eq h0 ?_ ?_).symm⟩
          · rw [ez, tb_tp hr, tb_gt_tp hgt]; rfl
          · intro m hm; rw [ez, tb_gt_tp hm, tb_gt_tp (Nat.lt_trans hgt hm)]; rfl

/-! ### the reference's way -/
def stepT (x r : Nat) : Nat := if tb x (tp r) then xr x r else x
def leftT (T : List Nat) (x : Nat) : Nat := T.foldl stepT x
structure EchT (T : List Nat) : Prop where
  ne : ∀ r ∈ T, r ≠ 0
  off : T.Pairwise fun r s => tb s (tp r) = false
theorem EchT.dst {T : List Nat} (h : EchT T) : Dst T := ⟨h.ne, List.Pairwise.imp_of_mem (fun {r s} _ hs hrs e => by
  have := tb_tp (h.ne s hs); rw [← e, hrs] at this; cases this) h.off⟩
theorem EchT.tail {r : Nat} {T : List Nat} (h : EchT (r :: T)) : EchT T := ⟨fun s hs => h.ne s (List.mem_cons_of_mem _ hs), (List.pairwise_cons.1 h.off).2⟩
theorem tb_leftT {T : List Nat} {n : Nat} (h : ∀ r ∈ T, tb r n = false) : ∀ x, tb (leftT T x) n = tb x n := by
  induction T with
  | nil => intro x; rfl
  | cons r T ih =>
    intro x
    show tb (leftT T (stepT x r)) n = _
    rw [ih (fun s hs => h s (List.mem_cons_of_mem _ hs))]
    unfold stepT; split
    · rw [tb_xr, h r (List.mem_cons_self ..)]; simp
    · rfl
theorem EchT.left {T : List Nat} (h : EchT T) : ∀ x, ∀ r ∈ T, tb (leftT T x) (tp r) = false := by
  induction T with
  | nil => intro x r hr; cases hr
  | cons r T ih =>
    intro x s hs
    have hp := (List.pairwise_cons.1 h.off).1
    have hr := h.ne r (List.mem_cons_self ..)
    show tb (leftT T (stepT x r)) (tp s) = false
    rcases List.mem_cons.1 hs with rfl | hs
    · rw [tb_leftT (fun t ht => hp t ht)]
      unfold stepT; split
      · rename_i h1; rw [tb_xr, h1, tb_tp hr]; rfl
      · rename_i h1; simpa using h1
    · exact ih h.tail _ s hs
theorem leftT_sp (T : List Nat) : ∀ x, Sp T (xr x (leftT T x)) := by
  induction T with
  | nil => intro x; rw [show leftT [] x = x from rfl, xr_self]; exact .zero
  | cons r T ih =>
    intro x
    show Sp (r :: T) (xr x (leftT T (stepT x r)))
    unfold stepT; split
    · have := Sp.add (S := r :: T) (List.mem_cons_self ..) ((ih (xr x r)).mono fun s hs => List.mem_cons_of_mem _ hs)
      rw [xr_comm x r, xr_assoc, xr_xr] at this
      rw [xr_comm x r]; exact this
    · exact (ih x).mono fun s hs => List.mem_cons_of_mem _ hs
theorem leftT_id {T : List Nat} : ∀ {x}, (∀ r ∈ T, tb x (tp r) = false) → leftT T x = x := by
  induction T with
  | nil => intro x _; rfl
  | cons r T ih =>
    intro x h
    have e : stepT x r = x := by unfold stepT; rw [if_neg (by rw [h r (List.mem_cons_self ..)]; simp)]
    show leftT T (stepT x r) = x
    rw [e]; exact ih fun s hs => h s (List.mem_cons_of_mem _ hs)
theorem leftT_sm {T : List Nat} (h : ∀ r ∈ T, Sm r) : ∀ {x}, Sm x → Sm (leftT T x) := by
  induction T with
  | nil => intro x hx; exact hx
  | cons r T ih =>
    intro x hx
    refine ih (fun s hs => h s (List.mem_cons_of_mem _ hs)) ?_
    unfold stepT; split
    · exact hx.xr (h r (List.mem_cons_self ..))
    · exact hx
def topS (T : List Nat) (r : Nat) : List Nat := if leftT T r = 0 then T else T ++ [leftT T r]
def topsOf (K : List Nat) : List Nat := K.foldl topS []
theorem topS_ech {T : List Nat} (h : EchT T) (r : Nat) : EchT (topS T r) := by
  unfold topS
  split
  · exact h
  · rename_i h0
    refine ⟨fun s hs => ?_, List.pairwise_append.2 ⟨h.off, List.pairwise_singleton _ _, fun t ht s hs => ?_⟩⟩
    · rcases List.mem_append.1 hs with hs | hs
      · exact h.ne s hs
      · rw [List.mem_singleton.1 hs]; exact h0
    · rw [List.mem_singleton.1 hs]; exact h.left _ t ht
theorem topS_sp (T : List Nat) (r v : Nat) : Sp (topS T r) v ↔ Sp (r :: T) v := by
  have hl := leftT_sp T r
  have hT : ∀ s ∈ T, Sp (r :: T) s := fun s hs => .mem (List.mem_cons_of_mem _ hs)
  unfold topS
  by_cases h0 : leftT T r = 0
  · rw [if_pos h0]
    rw [h0, xr_zero] at hl
    constructor
    · exact Sp.trans hT
    · refine Sp.trans fun s hs => ?_
      rcases List.mem_cons.1 hs with rfl | hs
      · exact hl
      · exact .mem hs
  · rw [if_neg h0]
    constructor
    · refine Sp.trans fun s hs => ?_
      rcases List.mem_append.1 hs with hs | hs
      · exact hT s hs
      · rw [List.mem_singleton.1 hs]
        have := (Sp.mem (S := r :: T) (List.mem_cons_self ..)).plus (hl.trans hT)
        rwa [xr_xr] at this
    · refine Sp.trans fun s hs => ?_
      rcases List.mem_cons.1 hs with rfl | hs
      · have := (Sp.mem (S := T ++ [leftT T s]) (r := leftT T s) (by simp)).plus (hl.mono fun t ht => List.mem_append_left _ ht)
        rw [xr_left, xr_self, xr_zero] at this; exact this
      · exact .mem (List.mem_append_left _ hs)
theorem topsOf_inv : ∀ (K T : List Nat), EchT T → EchT (K.foldl topS T) ∧ ∀ v, Sp (K.foldl topS T) v ↔ Sp (T ++ K) v
  | [], T, h => ⟨h, fun v => by simp⟩
  | r :: K, T, h => by
    obtain ⟨h1, h2⟩ := topsOf_inv K (topS T r) (topS_ech h r)
    refine ⟨h1, fun v => ?_⟩
    rw [List.foldl_cons, h2, sp_congr (topS_sp T r)]
    exact sp_same (by intro s; simp; constructor <;> (intro h; rcases h with h | h | h <;> simp [h])) v
theorem topsOf_ech (K : List Nat) : EchT (topsOf K) := (topsOf_inv K [] ⟨by simp, .nil⟩).1
theorem topsOf_sp (K : List Nat) (v : Nat) : Sp (topsOf K) v ↔ Sp K v := by
  have := (topsOf_inv K [] ⟨by simp, .nil⟩).2 v; simpa [topsOf] using this
theorem topS_len (T : List Nat) (r : Nat) : (topS T r).length ≤ T.length + 1 := by unfold topS; split <;> simp
theorem topS_sm {T : List Nat} (hT : ∀ s ∈ T, Sm s) {r : Nat} (hr : Sm r) : ∀ s ∈ topS T r, Sm s := by
  intro s hs
  unfold topS at hs
  split at hs
  · exact hT s hs
  · rcases List.mem_append.1 hs with hs | hs
    · exact hT s hs
    · rw [List.mem_singleton.1 hs]; exact leftT_sm hT hr
theorem least_spec (K : List Nat) (x : Nat) : Least (topsOf K) x (leftT (topsOf K) x) := by
  refine ⟨leftT_sp _ x, fun z hz h0 => ?_⟩
  obtain ⟨r, hr, e⟩ := (topsOf_ech K).dst.top z hz h0
  rw [← e]; exact (topsOf_ech K).left x r hr
theorem less_of_tb {a b n : Nat} (h1 : tb a n = false) (h2 : tb b n = true) (h3 : ∀ j, n < j → tb a j = tb b j) : a < b := by
  have hq : a / 2 ^ (n + 1) = b / 2 ^ (n + 1) := by
    refine eq_of_tb fun j => ?_
    have := h3 (j + (n + 1)) (by omega)
    unfold tb at this ⊢
    rw [← Nat.shiftRight_eq_div_pow, ← Nat.shiftRight_eq_div_pow, Nat.testBit_shiftRight, Nat.testBit_shiftRight, show n + 1 + j = j + (n + 1) by omega]
    exact this
  have ha := Nat.div_add_mod a (2 ^ (n + 1))
  have hb := Nat.div_add_mod b (2 ^ (n + 1))
  have ma := Nat.mod_lt a (Nat.two_pow_pos (n + 1))
  have mb := Nat.mod_lt b (Nat.two_pow_pos (n + 1))
  have h1' : a % 2 ^ (n + 1) < 2 ^ n := by
    refine lt_of_top ma ?_
    unfold tb at h1 ⊢
    rw [Nat.testBit_mod_two_pow]; simp [h1]
  have h2' : 2 ^ n ≤ b % 2 ^ (n + 1) := by
    refine Decidable.byContradiction fun hc => ?_
    have := tb_of_lt (z := b % 2 ^ (n + 1)) (n := n) (m := n) (by omega) (Nat.le_refl _)
    unfold tb at this h2
    rw [Nat.testBit_mod_two_pow] at this
    simp [h2] at this
  rw [hq] at ha
  omega
/-- the lesser of two -/
theorem min_stepT {x r : Nat} (h0 : r ≠ 0) : (xr x r < x ↔ tb x (tp r) = true) := by
  constructor
  · intro h
    refine Decidable.byContradiction fun hc => ?_
    have hf : tb x (tp r) = false := by simpa using hc
    have : x < xr x r := by
      refine less_of_tb (n := tp r) hf (by rw [tb_xr, hf, tb_tp h0]; rfl) fun j hj => ?_
      rw [tb_xr, tb_gt_tp hj]; simp
    omega
  · intro h
    refine less_of_tb (n := tp r) (by rw [tb_xr, h, tb_tp h0]; rfl) h fun j hj => ?_
    rw [tb_xr, tb_gt_tp hj]; simp

/-! ### the program's way -/
def clearL (d k : Nat) (Z : List Nat) : List Nat := Z.mapIdx fun i o => if i ≠ k ∧ tb o d = true then xr o (Z.getD k 0) else o
def topIs (d : Nat) (z : Nat) : Bool := z / 2 ^ d == 1
def solStep (d : Nat) (p : List Nat × Nat) : List Nat × Nat :=
  match p.1.findIdx? (topIs d) with
  | none => p
  | some k => (clearL d k p.1, if tb p.2 d then xr p.2 (p.1.getD k 0) else p.2)
def solDown : Nat → List Nat × Nat → List Nat × Nat
  | 0, p => p
  | d + 1, p => solDown d (solStep d p)
theorem topIs_iff {d z : Nat} : topIs d z = true ↔ z ≠ 0 ∧ tp z = d := by
  unfold topIs
  rw [beq_iff_eq]
  constructor
  · intro h
    have h1 : z ≠ 0 := fun e => by rw [e] at h; simp at h
    refine ⟨h1, ?_⟩
    have h2 : 2 ^ d ≤ z := by
      refine Decidable.byContradiction fun hc => ?_
      rw [Nat.div_eq_of_lt (by omega)] at h; cases h
    have h3 : z < 2 ^ (d + 1) := by
      have := Nat.div_add_mod z (2 ^ d)
      have hm := Nat.mod_lt z (Nat.two_pow_pos d)
      rw [h] at this
      rw [Nat.pow_succ]; omega
    refine tp_eq h1 ?_ fun m hm => tb_of_lt h3 (by omega)
    refine Decidable.byContradiction fun hc => ?_
    have := lt_of_top h3 (by simpa using hc)
    omega
  · intro ⟨h1, h2⟩
    subst h2
    have a : 2 ^ tp z ≤ z := Nat.log2_self_le h1
    have b : z < 2 ^ (tp z + 1) := Nat.lt_log2_self
    rw [Nat.pow_succ] at b
    rw [Nat.div_eq_iff (Nat.two_pow_pos _)]
    omega
/-- what the steps keep -/
structure Dn (Z0 : List Nat) (x0 : Nat) (d : Nat) (p : List Nat × Nat) : Prop where
  len : p.1.length = Z0.length
  ne : ∀ r ∈ p.1, r ≠ 0
  sub : ∀ r ∈ p.1, Sp Z0 r
  tops : p.1.map tp = Z0.map tp
  co : Sp Z0 (xr x0 p.2)
  done : ∀ r ∈ Z0, d ≤ tp r → tb p.2 (tp r) = false
theorem Dn.step {Z0 : List Nat} {x0 d : Nat} {p : List Nat × Nat} (hZ : Dst Z0) (h : Dn Z0 x0 (d + 1) p) : Dn Z0 x0 d (solStep d p) := by
  obtain ⟨Z, x⟩ := p
  unfold solStep
  cases hf : Z.findIdx? (topIs d) with
  | none =>
    simp only [hf]
    refine ⟨h.len, h.ne, h.sub, h.tops, h.co, fun r hr hd => ?_⟩
    by_cases e : tp r = d
    · have hm : tp r ∈ Z.map tp := by rw [h.tops]; exact List.mem_map_of_mem hr
      obtain ⟨z, hz, ez⟩ := List.mem_map.1 hm
      have := (List.findIdx?_eq_none_iff.1 hf) z hz
      rw [topIs_iff.2 ⟨h.ne z hz, by rw [ez, e]⟩] at this; cases this
    · exact h.done r hr (by omega)
  | some k =>
    simp only [hf]
    obtain ⟨hk, hz, _⟩ := List.findIdx?_eq_some_iff_getElem.1 hf
    have ek : Z.getD k 0 = Z[k] := by simp [List.getD, hk]
    obtain ⟨hz0, hzd⟩ := topIs_iff.1 hz
    have hzs := h.sub _ (List.getElem_mem hk)
    have hzn := h.ne _ (List.getElem_mem hk)
    -- each element: its greatest digit stays
    have key : ∀ i, (hi : i < Z.length) → (if i ≠ k ∧ tb Z[i] d = true then xr Z[i] (Z.getD k 0) else Z[i]) ≠ 0 ∧ tp (if i ≠ k ∧ tb Z[i] d = true then xr Z[i] (Z.getD k 0) else Z[i]) = tp Z[i] ∧ Sp Z0 (if i ≠ k ∧ tb Z[i] d = true then xr Z[i] (Z.getD k 0) else Z[i]) := by
      intro i hi
      have hin := h.ne _ (List.getElem_mem hi)
      have his := h.sub _ (List.getElem_mem hi)
      split
      · rename_i hc
        have hne : tp Z[i] ≠ tp Z[k] := by
          have e1 : (Z.map tp)[i]'(by simpa using hi) = tp Z[i] := by simp
          have e2 : (Z.map tp)[k]'(by simpa using hk) = tp Z[k] := by simp
          have hp : (Z.map tp).Pairwise (· ≠ ·) := by rw [h.tops]; exact List.pairwise_map.2 hZ.off
          rw [← e1, ← e2]
          rcases Nat.lt_or_gt_of_ne hc.1 with hlt | hgt
          · exact (List.pairwise_iff_getElem.1 hp) i k _ _ hlt
          · exact ((List.pairwise_iff_getElem.1 hp) k i _ _ hgt).symm
        have hgt : d < tp Z[i] := by
          rcases Nat.lt_trichotomy (tp Z[i]) d with h1 | h1 | h1
          · have := hc.2; rw [tb_gt_tp h1] at this; cases this
          · exact absurd (h1.trans hzd.symm) hne
          · exact h1
        rw [ek]
        have hb : tb (xr Z[i] Z[k]) (tp Z[i]) = true := by rw [tb_xr, tb_tp hin, tb_gt_tp (by rw [hzd]; exact hgt)]; rfl
        have h0 : xr Z[i] Z[k] ≠ 0 := fun e => by rw [e, tb_zero] at hb; cases hb
        exact ⟨h0, tp_eq h0 hb fun m hm => by rw [tb_xr, tb_gt_tp hm, tb_gt_tp (by rw [hzd]; omega)]; rfl, his.plus hzs⟩
      · exact ⟨hin, rfl, his⟩
    refine ⟨by simp [clearL, h.len], ?_, ?_, ?_, ?_, ?_⟩
    · intro r hr
      obtain ⟨i, hi, rfl⟩ := List.getElem_of_mem hr
      simp only [clearL, List.getElem_mapIdx]
      exact (key i (by simpa [clearL] using hi)).1
    · intro r hr
      obtain ⟨i, hi, rfl⟩ := List.getElem_of_mem hr
      simp only [clearL, List.getElem_mapIdx]
      exact (key i (by simpa [clearL] using hi)).2.2
    · rw [← h.tops]
      apply List.ext_getElem
      · simp [clearL]
      · intro i h1 h2
        simp only [clearL, List.getElem_map, List.getElem_mapIdx]
        exact (key i (by simpa using h2)).2.1
    · show Sp Z0 (xr x0 (if tb x d then xr x (Z.getD k 0) else x))
      split
      · rw [← xr_assoc, ek]; exact h.co.plus hzs
      · exact h.co
    · intro r hr hd
      show tb (if tb x d then xr x (Z.getD k 0) else x) (tp r) = false
      rw [ek]
      by_cases e : tp r = d
      · rw [e]
        split
        · rename_i hb; rw [tb_xr, hb, ← hzd, tb_tp hzn]; rfl
        · rename_i hb; simpa using hb
      · have h1 : tb x (tp r) = false := h.done r hr (by omega)
        split
        · rw [tb_xr, h1, tb_gt_tp (by rw [hzd]; omega)]; rfl
        · exact h1
theorem Dn.down {Z0 : List Nat} {x0 : Nat} (hZ : Dst Z0) : ∀ d p, Dn Z0 x0 d p → Dn Z0 x0 0 (solDown d p)
  | 0, _, h => h
  | d + 1, _, h => Dn.down hZ d _ (h.step hZ)
theorem least_impl {Z : List Nat} {x n : Nat} (hZ : Dst Z) (hn : ∀ r ∈ Z, r < 2 ^ n) : Least Z x (solDown n (Z, x)).2 := by
  have h0 : Dn Z x n (Z, x) := ⟨rfl, hZ.ne, fun r hr => .mem hr, rfl, by rw [xr_self]; exact .zero, fun r hr hd => by
    have := tp_lt (hZ.ne r hr) (hn r hr); omega⟩
  have h := Dn.down hZ n _ h0
  refine ⟨h.co, fun z hz hz0 => ?_⟩
  obtain ⟨r, hr, e⟩ := hZ.top z hz hz0
  rw [← e]; exact h.done r hr (Nat.zero_le _)
/-- the sums that the program finds have their greatest digits apart -/
theorem KerG.dst {S : List Nat} {G : Nat → List (Nat × Nat)} (h : KerG S G) : ∀ k, k ≤ S.length → Dst (kerOut G S k) := by
  intro k
  induction k with
  | zero => intro _; exact ⟨by simp [kerOut], by simp [kerOut]⟩
  | succ k ih =>
    intro hk
    have ih := ih (by omega)
    simp only [kerOut, kerStep]
    by_cases h0 : (leftN (G k) (S.getD k 0, 2 ^ k)).1 = 0
    · rw [if_pos h0]
      obtain ⟨_, o2, o3⟩ := h.own (by omega) h0
      have hn0 : (leftN (G k) (S.getD k 0, 2 ^ k)).2 ≠ 0 := fun e => by rw [e, tb_zero] at o3; cases o3
      have ht : tp (leftN (G k) (S.getD k 0, 2 ^ k)).2 = k := tp_eq hn0 o3 fun m hm => tb_of_lt o2 (by omega)
      refine ⟨fun r hr => ?_, List.pairwise_append.2 ⟨ih.off, List.pairwise_singleton _ _, fun r hr s hs => ?_⟩⟩
      · rcases List.mem_append.1 hr with hr | hr
        · exact ih.ne r hr
        · rw [List.mem_singleton.1 hr]; exact hn0
      · rw [List.mem_singleton.1 hs, ht]
        have := tp_lt (ih.ne r hr) (h.mem k (by omega) r hr).2
        omega
    · rw [if_neg h0]; exact ih

/-- the reference's answer, where there is one -/
def lsolOf (S : List Nat) (v : Nat) : Nat := leftT (topsOf (reduceS (kerK S S.length))) (solL S v).2
theorem span_left {S : List Nat} (hS : ∀ r ∈ S, Sm r) (hl : S.length ≤ 62) (v : Nat) :
    ((leftN (spanL (us 0 S)) (v, 0)).1 = 0 ↔ (solL S v).1 = 0) ∧ ((solL S v).1 = 0 → comb S 0 (leftN (spanL (us 0 S)) (v, 0)).2 = v) ∧ (leftN (spanL (us 0 S)) (v, 0)).2 < 2 ^ S.length := by
  have h := kerG_span hS hl
  have et : (us 0 S).take S.length = us 0 S := List.take_of_length_le (by rw [us_length]; omega)
  have hd := h.dif S.length (Nat.le_refl _)
  have hlt := h.lt S.length (Nat.le_refl _)
  have hsp := h.sp S.length (Nat.le_refl _)
  have hec := h.ech S.length (Nat.le_refl _)
  simp only [et] at hd hlt hsp hec
  rw [List.take_length] at hsp
  have h1 : (leftN (spanL (us 0 S)) (v, 0)).1 = 0 ↔ (solL S v).1 = 0 := by
    rw [sol_iff hS, leftN_fst, ← hec.sp_iff, hsp]
  refine ⟨h1, fun h0 => ?_, left_lt2b hlt (p := (v, 0)) (Nat.two_pow_pos _)⟩
  have hD := Dif.left hd (v, 0)
  have e0 : comb S 0 0 = 0 := comb_low S 0 0 fun m _ => tb_zero m
  have h0' := h1.2 h0
  unfold Dif at hD
  simp only [h0', zero_xr, e0, xr_zero] at hD
  exact hD
theorem solve_both {S : List Nat} {a v : Nat} (hS : ∀ r ∈ S, r < 2 ^ a) (ha : a ≤ 60) (hl : S.length ≤ 60) (hv : v < 2 ^ a) (h0 : (solL S v).1 = 0) :
    (solDown S.length (kerS S S.length, (leftN (spanL (us 0 S)) (v, 0)).2)).2 = lsolOf S v := by
  have hSm : ∀ r ∈ S, Sm r := fun r hr => sm_of_lt (by omega) (hS r hr)
  have hg := kerG_span hSm (by omega)
  have hk := kerG_sol hSm
  obtain ⟨_, s2, s3⟩ := span_left hSm (by omega) v
  have hZ : Dst (kerS S S.length) := hg.dst S.length (Nat.le_refl _)
  have hlt : ∀ r ∈ kerS S S.length, r < 2 ^ S.length := fun r hr => (hg.mem S.length (Nat.le_refl _) r hr).2
  refine least_unique (V := kerS S S.length) (W := topsOf (reduceS (kerK S S.length))) ?_ ?_ (least_impl hZ hlt) (least_spec _ _)
  · intro z
    rw [topsOf_sp, kerK_all, sp_reduce (hk.sm (by omega))]
    exact (hg.sp_iff z).trans (hk.sp_iff z).symm
  · refine (hg.sp_iff _).2 ⟨Nat.xor_lt_two_pow s3 (sol_lt hS hv), ?_⟩
    rw [comb_xr, s2 h0, sol_comb v h0, xr_self]
end Go.Proofs.YtjhlmalpcelbaaaDoor

namespace Go.Proofs.YtjhlmalpcelbaaaDoor
open Go.RowKit

def topK (K : List Nat) (k : Nat) : List Nat := (K.take k).foldl topS []
theorem topK_succ {K : List Nat} {k : Nat} (h : k < K.length) : topK K (k + 1) = topS (topK K k) (K.getD k 0) := fold_take_succ topS [] K k 0 h
theorem topK_inv {K : List Nat} (hK : ∀ r ∈ K, Sm r) : ∀ k, k ≤ K.length → EchT (topK K k) ∧ (topK K k).length ≤ k ∧ ∀ r ∈ topK K k, Sm r := by
  intro k
  induction k with
  | zero => intro _; exact ⟨⟨by simp [topK], by simp [topK]⟩, by simp [topK], by simp [topK]⟩
  | succ k ih =>
    intro hk
    obtain ⟨h1, h2, h3⟩ := ih (by omega)
    rw [topK_succ (by omega)]
    exact ⟨topS_ech h1 _, by have := topS_len (topK K k) (K.getD k 0); omega, topS_sm h3 (hK _ (getD_mem (by omega)))⟩
theorem topK_all (K : List Nat) : topK K K.length = topsOf K := by unfold topK topsOf; rw [List.take_length]
def iterT (T : List Nat) (x : Nat) : Nat → Nat
  | 0 => x
  | k + 1 => leftT T (iterT T x k)
theorem iterT_all {T : List Nat} (h : EchT T) (x : Nat) : iterT T x T.length = leftT T x := by
  have h1 : ∀ k, iterT T x (k + 1) = leftT T x := by
    intro k
    induction k with
    | zero => rfl
    | succ k ih =>
      show leftT T (iterT T x (k + 1)) = _
      rw [ih, leftT_id (h.left x)]
  cases T with
  | nil => rfl
  | cons r T => exact h1 T.length
theorem iterT_sm {T : List Nat} (h : ∀ r ∈ T, Sm r) {x : Nat} (hx : Sm x) : ∀ k, Sm (iterT T x k)
  | 0 => hx
  | k + 1 => leftT_sm h (iterT_sm h hx k)
theorem leftT_take_sm {T : List Nat} (h : ∀ r ∈ T, Sm r) {x : Nat} (hx : Sm x) (i : Nat) : Sm (leftT (T.take i) x) := leftT_sm (fun r hr => h r (List.mem_of_mem_take hr)) hx
theorem leftT_succ {T : List Nat} {i : Nat} (h : i < T.length) (x : Nat) : leftT (T.take (i + 1)) x = stepT (leftT (T.take i) x) (T.getD i 0) := fold_take_succ stepT x T i 0 h
/-- the test of 'min' -/
theorem min_test {x r : Nat} (h0 : r ≠ 0) : (tb x (tp r) = true → stepT x r = xr x r ∧ ((xr x r : Nat) : Int) < (x : Int) ∧ xr x r < x) ∧ (tb x (tp r) = false → stepT x r = x ∧ ¬ ((xr x r : Nat) : Int) < (x : Int) ∧ ¬ xr x r < x) := by
  have h := min_stepT (x := x) h0
  constructor
  · intro hb
    have := h.2 hb
    exact ⟨by unfold stepT; rw [if_pos hb], by omega, this⟩
  · intro hb
    have : ¬ xr x r < x := fun hc => by rw [h.1 hc] at hb; cases hb
    exact ⟨by unfold stepT; rw [if_neg (by rw [hb]; simp)], by omega, this⟩

attribute [local go_sem] i64_xor_nat in
set_option maxRecDepth 100000 in
set_option maxHeartbeats 2000000 in
theorem l02Least_any (A : Option Addr) (n c : Nat) (K : List Nat) (x : Nat) (w : World) (hn : n = K.length) (hsmall : n ≤ 1000) (hK : ∀ r ∈ K, Sm r) (hx : Sm x) (hR : Rd w A (nv K)) :
    Calls Tryd.prog 89 #[.slice A n c, .int .i64 x] w fun e w' => e = .returned (.int .i64 ((leftT (topsOf K) x : Nat) : Int)) ∧ Below w.heap.size w w' := by
  have Hn := Lib.hid hn
  have HR := Lib.hid hR
  have HK := Lib.hid hK
  have HI := Lib.hid (topK_inv hK)
  clear hn hR hK
  go_enter Tryd.func89, Tryd.ntmps89
  go_wp2_with fail
  go_loopw [5, 6] (fun t i wr => ∃ k : Nat, k ≤ n ∧ i = .int .i64 k ∧ wr.ownsRow w.heap.size 2 1 t (topK K k).length (nv (topK K k)) ∧ Below w.heap.size w wr) (fun _ i _ => n - (intOf i).toNat)
  case atStart =>
    exact ⟨0, by omega, rfl, World.ownsRow_made w #[] 0 (Nat.le_refl _) (by decide) (by simp), (Below.refl _ _).alloc (Nat.le_refl _) _⟩
  case round =>
    obtain ⟨k, hk, rfl, hot, hbel⟩ := hrel
    have hsz : w.heap.size ≤ wr.heap.size := hbel.size
    obtain ⟨e1, l1, s1⟩ := HI.out k (by rw [← Hn.out]; exact hk)
    by_cases hlt : k < n
    · have hkL : k < K.length := by rw [← Hn.out]; exact hlt
      obtain ⟨b, o, rfl, hc⟩ := (HR.out.below hbel).atN hkL
      have hr := HK.out _ (getD_mem hkL)
      have Hs := Lib.hid (topK_succ hkL)
      generalize topK K k = T at *
      generalize K.getD k 0 = y at *
      obtain ⟨D, cd, rfl, _, hD, _⟩ := owns_shape hot
      have HO := Lib.hid hot
      have HB := Lib.hid hbel
      have HRD := Lib.hid (owns_Rd hot)
      have HE := Lib.hid e1
      have HSM := Lib.hid s1
      clear hot hbel hD e1 s1
      go_wp2_with fail
      go_loop [7, 8] (fun a j => ∃ i : Nat, i ≤ T.length ∧ j = .int .i64 i ∧ a = .int .i64 (leftT (T.take i) y)) (fun _ j => T.length - (intOf j).toNat)
      case atStart => exact ⟨0, by omega, rfl, rfl⟩
      case round =>
        obtain ⟨i, hi, rfl, rfl⟩ := hrel
        by_cases hlt2 : i < T.length
        · obtain ⟨b1, o1, rfl, hc1⟩ := HRD.out.atN (k := i) hlt2
          have g0 := HE.out.ne _ (getD_mem hlt2)
          have g1 := HSM.out _ (getD_mem hlt2)
          have Hi := Lib.hid (leftT_succ hlt2 y)
          have hq := leftT_take_sm HSM.out hr i
          generalize leftT (T.take i) y = p at *
          generalize T.getD i 0 = r at *
          obtain ⟨m1, m2⟩ := min_test (x := p) g0
          have hxq := hq.xr g1
          cases hb : tb p (tp r)
          · obtain ⟨m3, m4, m5⟩ := m2 hb
            have HM := Lib.hid m3
            clear m1 m2 m3 hb
            go_wp2_with fail
            go_round
            case rel => exact ⟨i + 1, by omega, by go_num, by rw [Hi.out, HM.out]; exact congrArg (Value.int .i64) (by omega)⟩
            case measure => simp [intOf]; omega
          · obtain ⟨m3, m4, m5⟩ := m1 hb
            have HM := Lib.hid m3
            clear m1 m2 m3 hb
            go_wp2_with fail
            go_round
            case rel => exact ⟨i + 1, by omega, by go_num, by rw [Hi.out, HM.out]; exact congrArg (Value.int .i64) (by omega)⟩
            case measure => simp [intOf]; omega
        · have ei : T.take i = T := List.take_of_length_le (by omega)
          rw [ei]
          have hq := leftT_sm HSM.out hr
          have hts : topS T y = if leftT T y = 0 then T else T ++ [leftT T y] := rfl
          generalize leftT T y = q at *
          by_cases h0 : q = 0
          · rw [if_pos h0] at hts
            have HTS := Lib.hid hts
            clear hts
            subst h0
            go_wp2_with fail
            go_roundw
            case rel => exact ⟨k + 1, by omega, by go_num, by rw [Hs.out, HTS.out]; exact HO.out, HB.out⟩
            case measure => simp [intOf]; omega
          · rw [if_neg h0] at hts
            have HTS := Lib.hid hts
            have hne0 : ((q : Int) != 0) = true := by simpa using h0
            clear hts h0
            go_wp2_with (at_builtin; refine wpList_app1 _ _ _ _ _ etI (by rfl) (by rfl) w.heap.size (.slice D T.length cd) T.length (nv T) (by rfl) ?_ _ (.int .i64 (q : Int)) (by rfl) ?_ (by rfl) ?_ ?_ ?_; exact HO.out.alloc _; exact new_cell _ _ _; omega; (simp; omega); (intro g1' cap1 w1 hown1 hgrow1 hat1 hlt1; have HB1 := Lib.hid (below_app HB.out hsz HO.out hgrow1); have HO1 : Hid (w1.ownsRow w.heap.size 2 1 (.slice (some ⟨g1', 0, none⟩) (T.length + 1) cap1) (T.length + 1) (nv (T ++ [q]))) := (by rw [← nv_snoc]; exact hown1); clear hown1 hgrow1 hat1 hlt1))
            go_roundw
            case rel => exact ⟨k + 1, by omega, by go_num, by rw [Hs.out, HTS.out]; exact own_cast HO1.out (by simp) rfl, HB1.out⟩
            case measure => simp [intOf]; omega
    · have ek : k = K.length := by rw [← Hn.out]; omega
      have HT := Lib.hid (topK_all K)
      have hlK : (topK K k).length ≤ 1000 := by omega
      rw [ek] at hot e1 l1 s1 hlK
      rw [topK_all] at hot e1 l1 s1 hlK
      have HE := Lib.hid (iterT_all e1 x)
      have HSM := Lib.hid s1
      have HEC := Lib.hid e1
      obtain ⟨D, cd, rfl, _, hD, _⟩ := owns_shape hot
      have HRD := Lib.hid (owns_Rd hot)
      have HB := Lib.hid hbel
      clear hot hbel hD e1 s1 ek l1
      generalize hTT : topsOf K = T at *
      have HTT := Lib.hid hTT
      clear hTT
      go_wp2_with fail
      go_loop [1, 9] (fun a j => ∃ k : Nat, k ≤ T.length ∧ j = .int .i64 k ∧ a = .int .i64 (iterT T x k)) (fun _ j => T.length - (intOf j).toNat)
      case atStart => exact ⟨0, by omega, rfl, rfl⟩
      case round =>
        obtain ⟨k2, hk2, rfl, rfl⟩ := hrel
        by_cases hlt2 : k2 < T.length
        · have hz := iterT_sm HSM.out hx k2
          have hit : iterT T x (k2 + 1) = leftT T (iterT T x k2) := rfl
          have HIT := Lib.hid hit
          clear hit
          generalize iterT T x k2 = z at *
          go_wp2_with fail
          go_loop [1, 10] (fun a j => ∃ i : Nat, i ≤ T.length ∧ j = .int .i64 i ∧ a = .int .i64 (leftT (T.take i) z)) (fun _ j => T.length - (intOf j).toNat)
          case atStart => exact ⟨0, by omega, rfl, rfl⟩
          case round =>
            obtain ⟨i, hi, rfl, rfl⟩ := hrel
            by_cases hlt3 : i < T.length
            · obtain ⟨b1, o1, rfl, hc1⟩ := HRD.out.atN (k := i) hlt3
              have g0 := HEC.out.ne _ (getD_mem hlt3)
              have g1 := HSM.out _ (getD_mem hlt3)
              have Hi := Lib.hid (leftT_succ hlt3 z)
              have hq := leftT_take_sm HSM.out hz i
              generalize leftT (T.take i) z = p at *
              generalize T.getD i 0 = r at *
              obtain ⟨m1, m2⟩ := min_test (x := p) g0
              have hxq := hq.xr g1
              cases hb : tb p (tp r)
              · obtain ⟨m3, m4, m5⟩ := m2 hb
                have HM := Lib.hid m3
                clear m1 m2 m3 hb
                go_wp2_with fail
                go_round
                case rel => exact ⟨i + 1, by omega, by go_num, by rw [Hi.out, HM.out]; exact congrArg (Value.int .i64) (by omega)⟩
                case measure => simp [intOf]; omega
              · obtain ⟨m3, m4, m5⟩ := m1 hb
                have HM := Lib.hid m3
                clear m1 m2 m3 hb
                go_wp2_with fail
                go_round
                case rel => exact ⟨i + 1, by omega, by go_num, by rw [Hi.out, HM.out]; exact congrArg (Value.int .i64) (by omega)⟩
                case measure => simp [intOf]; omega
            · have ei : T.take i = T := List.take_of_length_le (by omega)
              rw [ei]
              go_wp2_with fail
              go_round
              case rel => exact ⟨k2 + 1, by omega, by go_num, by rw [HIT.out]⟩
              case measure => simp [intOf]; omega
        · have ek2 : k2 = T.length := by omega
          subst ek2
          rw [HE.out]
          go_wp2_with fail
          go_ret
          exact ⟨by rw [HTT.out]; rfl, HB.out⟩
end Go.Proofs.YtjhlmalpcelbaaaDoor

namespace Go.Proofs.YtjhlmalpcelbaaaDoor
open Go.RowKit

def mixL (M N : List Nat) (i : Nat) : List Nat := M.take i ++ N.drop i
theorem mixL_length {M N : List Nat} (h : M.length = N.length) (i : Nat) : (mixL M N i).length = N.length := by simp [mixL]; omega
theorem mixL_getD {M N : List Nat} (h : M.length = N.length) {i : Nat} (hi : i < N.length) : (mixL M N i).getD i 0 = N.getD i 0 := by
  simp [mixL, List.getD, List.getElem?_append, show min i M.length = i by omega]
theorem mixL_succ {M N : List Nat} (h : M.length = N.length) {i : Nat} (hi : i < N.length) : mixL M N (i + 1) = (mixL M N i).set i (M.getD i 0) := by
  apply List.ext_getElem?
  intro j
  simp only [mixL, List.getElem?_append, List.getElem?_set, List.length_append, List.length_take, List.getElem?_take, List.getElem?_drop, List.length_drop, List.getD]
  by_cases h1 : j < i
  · simp [h1, show j < i + 1 by omega, show j < min (i + 1) M.length by omega, show j < min i M.length by omega, show i ≠ j by omega]
  · by_cases h2 : j = i
    · subst h2; simp [show j < M.length by omega, show j < min (j + 1) M.length by omega, show j < min j M.length + (N.length - j) by omega]
    · simp [h1, show ¬ j < i + 1 by omega, show ¬ j < min (i + 1) M.length by omega, show ¬ j < min i M.length by omega, show i ≠ j by omega, show min (i + 1) M.length = i + 1 by omega, show min i M.length = i by omega, show i + 1 + (j - (i + 1)) = j by omega, show i + (j - i) = j by omega]
theorem mixL_id {M N : List Nat} (h : M.length = N.length) {i : Nat} (hi : i < N.length) (e : M.getD i 0 = N.getD i 0) : mixL M N (i + 1) = mixL M N i := by
  rw [mixL_succ h hi, e, ← mixL_getD h hi]
  apply List.ext_getElem?
  intro j
  rw [List.getElem?_set]
  split
  · rename_i e; subst e
    have hl : i < (mixL M N i).length := by rw [mixL_length h]; exact hi
    rw [if_pos hl]
    simp only [List.getD, List.getElem?_eq_getElem hl, Option.getD_some]
  · rfl
theorem clearL_length (d k : Nat) (Z : List Nat) : (clearL d k Z).length = Z.length := by simp [clearL]
theorem clearL_getD {d k : Nat} {Z : List Nat} {i : Nat} (hi : i < Z.length) : (clearL d k Z).getD i 0 = if i ≠ k ∧ tb (Z.getD i 0) d = true then xr (Z.getD i 0) (Z.getD k 0) else Z.getD i 0 := by
  simp [clearL, List.getD, hi]

/-- the program's state after j of its steps down from n -/
def stK (n : Nat) (p : List Nat × Nat) : Nat → List Nat × Nat
  | 0 => p
  | j + 1 => solStep (n - 1 - j) (stK n p j)
theorem stK_down (n : Nat) (p : List Nat × Nat) : ∀ j, j ≤ n → solDown n p = solDown (n - j) (stK n p j)
  | 0, _ => rfl
  | j + 1, h => by
    rw [stK_down n p j (by omega), show n - j = (n - (j + 1)) + 1 by omega]
    show solDown (n - (j + 1)) (solStep (n - (j + 1)) (stK n p j)) = _
    rw [show n - (j + 1) = n - 1 - j by omega]; rfl
theorem stK_all (n : Nat) (p : List Nat × Nat) : stK n p n = solDown n p := by
  rw [stK_down n p n (Nat.le_refl _), Nat.sub_self]; rfl
theorem solStep_sm {d : Nat} {p : List Nat × Nat} (h1 : ∀ z ∈ p.1, Sm z) (h2 : Sm p.2) : (∀ z ∈ (solStep d p).1, Sm z) ∧ Sm (solStep d p).2 ∧ (solStep d p).1.length = p.1.length := by
  obtain ⟨Z, x⟩ := p
  unfold solStep
  cases hf : Z.findIdx? (topIs d) with
  | none => simp only [hf]; first | exact ⟨h1, h2, rfl⟩ | exact ⟨h1, h2, trivial⟩
  | some k =>
    simp only [hf]
    obtain ⟨hk, _, _⟩ := List.findIdx?_eq_some_iff_getElem.1 hf
    have hz : Sm (Z.getD k 0) := h1 _ (getD_mem hk)
    refine ⟨?_, ?_, clearL_length _ _ _⟩
    · intro r hr
      obtain ⟨i, hi, rfl⟩ := List.getElem_of_mem hr
      have hi' : i < Z.length := by simpa [clearL] using hi
      simp only [clearL, List.getElem_mapIdx]
      split
      · exact (h1 _ (List.getElem_mem hi')).xr hz
      · exact h1 _ (List.getElem_mem hi')
    · show Sm (if tb x d then xr x (Z.getD k 0) else x)
      split
      · exact h2.xr hz
      · exact h2
theorem stK_sm {n : Nat} {p : List Nat × Nat} (h1 : ∀ z ∈ p.1, Sm z) (h2 : Sm p.2) : ∀ j, (∀ z ∈ (stK n p j).1, Sm z) ∧ Sm (stK n p j).2 ∧ (stK n p j).1.length = p.1.length
  | 0 => ⟨h1, h2, rfl⟩
  | j + 1 => by
    obtain ⟨a, b, c⟩ := stK_sm h1 h2 j
    obtain ⟨a', b', c'⟩ := solStep_sm (d := n - 1 - j) a b
    exact ⟨a', b', c'.trans c⟩

theorem topIs_int (e z : Nat) : (((z : Int) / 2 ^ e) == 1) = topIs e z := by
  have e1 : (z : Int) / 2 ^ e = ((z / 2 ^ e : Nat) : Int) := by simp
  rw [e1]
  unfold topIs
  rw [Bool.eq_iff_iff]
  simp only [beq_iff_eq]
  omega
theorem clos_any (e g z : Nat) (he : e ≤ 60) (w : World) (hc : w.cell? ⟨g, 0, none⟩ = some (.int .i64 (e : Int))) : Asks Tryd.prog 100 (.pointer (some ⟨g, 0, none⟩)) w (.int .i64 (z : Int)) (topIs e z) := by
  intro m
  have ht := topIs_int e z
  have HT := Lib.hid ht
  clear ht
  go_enter Tryd.func100, Tryd.ntmps100
  go_wp2_with fail
  go_ret
  exact ⟨by rw [← HT.out]; rfl, m, rfl⟩
theorem find_nI (e : Nat) (Z : List Nat) : (nI Z).findIdx? (fun x => topIs e x.toNat) = Z.findIdx? (topIs e) := by
  unfold nI
  rw [List.findIdx?_map]
  congr 1
theorem Rd.drewN {w : World} {A : Option Addr} {vs : List Value} (h : Rd w A vs) (m : Nat) : Rd (w.drewN m) A vs := h
end Go.Proofs.YtjhlmalpcelbaaaDoor

namespace Go.Proofs.YtjhlmalpcelbaaaDoor
open Go.RowKit

/-- what the loop over the digits holds -/
def DigAt (wr : World) (B : Nat) (x t : Value) (zv : Value) (d : Nat) (p : List Nat × Nat) : Prop :=
  x = .int .i64 ((p.2 : Nat) : Int) ∧ (∃ g, t = .pointer (some ⟨g, 0, none⟩) ∧ B ≤ g ∧ wr.heap[g]? = some (.cells #[.int .i64 ((d : Int) - 1)] 3 (0, 0))) ∧ wr.ownsRow B 2 1 zv p.1.length (nv p.1)
def solveRes (S : List Nat) (v : Nat) : Value := .tuple #[.int .i64 ((if (solL S v).1 = 0 then lsolOf S v else 0 : Nat) : Int), .bool (decide ((solL S v).1 = 0))]
theorem blk1cell {w : World} {g : Nat} {u : Value} {t : TypeId} (h : w.heap[g]? = some (.cells #[u] t (0, 0))) : w.cell? ⟨g, 0, none⟩ = some u ∧ w.frozen? ⟨g, 0, none⟩ = false ∧ g < w.heap.size :=
  ⟨cell_of_row w g 0 #[u] _ (0, 0) h, by simp [World.frozen?, h], (Array.getElem?_eq_some_iff.1 h).1⟩

attribute [local go_sem] i64_xor_nat i64_bit_test in
set_option maxRecDepth 100000 in
set_option maxHeartbeats 4000000 in
theorem solve_impl_any (A : Option Addr) (n c : Nat) (S : List Nat) (v : Nat) (w : World) (hT : Tab w) (hw : 0 < w.heap.size) (hn : n = S.length) (hsmall : n ≤ 60) (hS : ∀ r ∈ S, Sm r) (hv : Sm v) (hR : Rd w A (nv S))
    (hEq : (solL S v).1 = 0 → (solDown S.length (kerS S S.length, (leftN (spanL (us 0 S)) (v, 0)).2)).2 = lsolOf S v) :
    Calls Tryd.prog 87 #[.slice A n c, .int .i64 v] w fun e w' => e = .returned (solveRes S v) ∧ Below w.heap.size w w' := by
  have HKS := Lib.hid ((kerG_span hS (by omega)).sm (by omega))
  have HSM := Lib.hid (us_sm hS (by omega))
  have HLL := Lib.hid (span_left hS (by omega) v)
  have HEQ := Lib.hid hEq
  have Hn := Lib.hid hn
  have HR := Lib.hid hR
  have HS := Lib.hid hS
  have HT := Lib.hid hT
  have HSP0 := Lib.hid (SpanAt.new w)
  clear hn hR hS hT hEq
  go_enter Tryd.func87, Tryd.ntmps87
  go_wp2_with fail
  go_loopw [7, 24] (fun o i wr => ∃ k : Nat, k ≤ n ∧ i = .int .i64 k ∧ wr.ownsRow w.heap.size 2 1 o (kerS S k).length (nv (kerS S k)) ∧
      (∃ v1 v2, SpanAt wr w.heap.size w.heap.size v1 v2 (spanL ((us 0 S).take k)) ∧ o.ownBlock ≠ v1.ownBlock ∧ o.ownBlock ≠ v2.ownBlock) ∧ Below w.heap.size w wr) (fun _ i _ => n - (intOf i).toNat)
  case atStart =>
    refine ⟨0, by omega, rfl, ?_, ⟨_, _, HSP0.out.keeps ((Keeps.refl _ []).alloc _) (by simp) (.inr (by simp)) (.inr (by simp)), by simp [Value.ownBlock], by simp [Value.ownBlock]⟩, ((Below.refl _ _).alloc (Nat.le_refl _) _).alloc (by simp) _⟩
    have := World.ownsRow_made (w.alloc (.cells #[.slice none 0 0, .slice none 0 0] 68)) #[] 0 (base := w.heap.size) (e := 2) (size := 1) (by simp) (by decide) (by simp)
    simp only [World.size_alloc] at this
    exact this
  case round =>
    obtain ⟨k, hk, rfl, hoo, ⟨v1, v2, hsp, hne1, hne2⟩, hbel⟩ := hrel
    have hsz : w.heap.size ≤ wr.heap.size := hbel.size
    have hko := kerOut_length (fun k => spanL ((us 0 S).take k)) S k
    change (kerS S k).length ≤ k at hko
    by_cases hlt : k < n
    · have hkL : k < S.length := by rw [← Hn.out]; exact hlt
      obtain ⟨b, o', rfl, hc⟩ := (HR.out.below hbel).atN hkL
      have hx := HS.out _ (getD_mem hkL)
      have hp2 : Sm (2 ^ k) := by have := pw_sm (p := k) (by omega); exact this
      have Hs : Hid (spanL ((us 0 S).take (k + 1)) = addL (spanL ((us 0 S).take k)) (S.getD k 0, 2 ^ k)) := by
        show _ = _; rw [spanL_take_succ (us 0 S) k (by rw [us_length]; exact hkL), us_getD0 hkL]
      have Hk := Lib.hid (kerS_succ S k)
      have hl := spanL_length_le ((us 0 S).take k)
      rw [List.length_take] at hl
      have hg := (spanL_perm ((us 0 S).take k) (fun p hp => HSM.out p (List.mem_of_mem_take hp))).2.2
      generalize spanL ((us 0 S).take k) = L at *
      generalize kerS S k = O at *
      generalize S.getD k 0 = x at *
      have ha := add_any w.heap.size w.heap.size v1 v2 L x (2 ^ k) wr (HT.out.below hbel hw) hw hsz hsp (by omega) hx hp2 hg
      rw [← shl_one (by omega)] at ha
      have hks : kerStep L (x, 2 ^ k) O = if (leftN L (x, 2 ^ k)).1 = 0 then O ++ [(leftN L (x, 2 ^ k)).2] else O := rfl
      obtain ⟨F, cf, rfl, _, hF, _⟩ := owns_shape hoo
      have HSQ := Lib.hid hsp
      have HOO := Lib.hid hoo
      have HN1 := Lib.hid hne1
      have HN2 := Lib.hid hne2
      have HB := Lib.hid hbel
      by_cases h0 : (leftN L (x, 2 ^ k)).1 = 0
      · have hvv : AddRes L (x, 2 ^ k) = .tuple #[.int .i64 ((leftN L (x, 2 ^ k)).2 : Nat), .bool false] := by simp [AddRes, h0]
        rw [hvv] at ha
        rw [if_pos h0] at hks
        have HA := Lib.hid ha
        have HKS' := Lib.hid hks
        clear ha hvv h0 hks hsp hoo hne1 hne2 hbel hg hF
        generalize (leftN L (x, 2 ^ k)).2 = z at *
        go_wp2_with (first | (go_at_call 60; refine HA.out.mono ?_; (rintro e w3 ⟨rfl, hpost⟩; obtain ⟨q1, u1, u2, q2, q3, q4⟩ := span_own_add HSQ.out HOO.out HN1.out HN2.out hpost; have hb3 := hpost.below HSQ.out hsz; have HQ1 := Lib.hid q1; have HQ2 := Lib.hid q2; have HQ3 := Lib.hid q3; have HQ4 := Lib.hid q4; have HB3 := Lib.hid (HB.out.trans (hb3.mono (Nat.le_refl _))); have hsz3 : w.heap.size ≤ w3.heap.size := HB3.out.size; clear hpost q1 q2 q3 q4 hb3)) | (at_builtin; refine wpList_app1 _ _ _ _ _ etI (by rfl) (by rfl) w.heap.size (.slice F O.length cf) O.length (nv O) (by rfl) ?_ _ (.int .i64 (z : Int)) (by rfl) ?_ (by rfl) ?_ ?_ ?_; exact HQ1.out.alloc _; exact new_cell _ _ _; omega; (simp; omega); (intro g2 cap2 w4 hown2 hgrow2 hat2 hlt2; have HO2' : Hid (w4.ownsRow w.heap.size 2 1 (.slice (some ⟨g2, 0, none⟩) (O.length + 1) cap2) (O.length + 1) (nv (O ++ [z]))) := (by rw [← nv_snoc]; exact hown2); have HG2 := Lib.hid hgrow2; have HA2 := Lib.hid hat2; clear hown2 hgrow2 hat2 hlt2)))
        go_roundw
        case rel =>
          obtain ⟨t1, t2, t3⟩ := span_own_app HQ2.out (own_ne HQ1.out HQ2.out.blk (by decide)) HQ3.out HQ4.out HG2.out HA2.out
          exact ⟨k + 1, by omega, by go_num, by rw [Hk.out, HKS'.out]; exact own_cast HO2'.out (by simp) rfl, ⟨u1, u2, by rw [Hs.out]; exact t1, t2, t3⟩, below_app HB3.out hsz3 HQ1.out HG2.out⟩
        case measure => simp [intOf]; omega
      · have hvv : AddRes L (x, 2 ^ k) = .tuple #[.int .i64 0, .bool true] := by simp [AddRes, h0]
        rw [hvv] at ha
        rw [if_neg h0] at hks
        have HA := Lib.hid ha
        have HKS' := Lib.hid hks
        clear ha hvv h0 hks hsp hoo hne1 hne2 hbel hg hF
        go_wp2_with (go_at_call 60; refine HA.out.mono ?_; rintro e w3 ⟨rfl, hpost⟩; have HP := Lib.hid hpost; clear hpost)
        go_roundw
        case rel =>
          obtain ⟨q1, u1, u2, q2, q3, q4⟩ := span_own_add HSQ.out HOO.out HN1.out HN2.out HP.out
          exact ⟨k + 1, by omega, by go_num, by rw [Hk.out, HKS'.out]; exact q1, ⟨u1, u2, by rw [Hs.out]; exact q2, q3, q4⟩, HB.out.trans (HP.out.below HSQ.out hsz)⟩
        case measure => simp [intOf]; omega
    · have ek : k = S.length := by rw [← Hn.out]; omega
      have et : (us 0 S).take k = us 0 S := List.take_of_length_le (by rw [us_length]; omega)
      rw [et] at hsp
      have hlk : (kerS S S.length).length ≤ 60 := by
        have := kerOut_length (fun k => spanL ((us 0 S).take k)) S S.length
        change (kerS S S.length).length ≤ S.length at this
        have hnn : S.length ≤ 60 := by rw [← Hn.out]; exact hsmall
        omega
      rw [ek] at hoo
      have hlen : (spanL (us 0 S)).length ≤ 60 := by have := spanL_length_le (us 0 S); rw [us_length, ← Hn.out] at this; omega
      have hgd := (spanL_perm (us 0 S) HSM.out).2.2
      obtain ⟨V1, c1, rfl, _, hV1, hV1'⟩ := owns_shape hsp.own1
      obtain ⟨V2, c2, rfl, _, hV2, hV2'⟩ := owns_shape hsp.own2
      obtain ⟨F, cf, rfl, _, hF, hF'⟩ := owns_shape hoo
      have hle := left_any w.heap.size V1 V2 _ c1 c2 _ v 0 wr (HT.out.below hbel hw) rfl (by omega) hv Sm.zero hgd hsp.c0 hsp.c1 (owns_Rd hsp.own1) (owns_Rd hsp.own2)
      have hsmx : Sm (leftN (spanL (us 0 S)) (v, 0)).2 := (SmP.foldl hgd (p := (v, 0)) ⟨hv, Sm.zero⟩).2
      have hks : ∀ z ∈ kerS S S.length, Sm z := HKS.out
      have hiff := HLL.out.1
      generalize spanL (us 0 S) = L at *
      generalize kerS S S.length = Z at *
      have HL := Lib.hid hle
      have HOO := Lib.hid hoo
      have HB := Lib.hid hbel
      have HKZ := Lib.hid hks
      have HSX := Lib.hid hsmx
      clear hle hsp hoo hbel hne1 hne2 hgd hV1 hV1' hV2 hV2' hF hF' ek et hks hsmx hko
      by_cases h0 : (solL S v).1 = 0
      · have hq0 := hiff.2 h0
        have HEQ' := Lib.hid (HEQ.out h0)
        have HH0 : Hid (solveRes S v = .tuple #[.int .i64 ((lsolOf S v : Nat) : Int), .bool true]) := by show _ = _; unfold solveRes; rw [if_pos h0, decide_eq_true h0]
        generalize hq : leftN L (v, 0) = q at *
        have HQ := Lib.hid hq
        clear hq hiff h0
        have HST : Hid ((stK n (Z, q.2) n).2 = lsolOf S v) := by show _ = _; rw [stK_all]; rw [← HEQ'.out, Hn.out]
        have HSK := Lib.hid (stK_sm (n := n) (p := (Z, q.2)) HKZ.out HSX.out)
        have hqz : ((q.1 : Int) != 0) = false := by rw [hq0]; rfl
        have hqz2 : (q.1 : Int) = 0 := by omega
        clear hq0
        have HQZ := Lib.hid hqz2
        clear hqz2
        go_wp2_with (go_at_call 95; refine HL.out.mono ?_; rintro e W1 ⟨rfl, m, hw1⟩; have HOO1 : Hid (W1.ownsRow w.heap.size 2 1 (.slice F Z.length cf) Z.length (nv Z)) := (by subst hw1; exact HOO.out); have HB1 : Hid (Below w.heap.size w W1) := (by subst hw1; exact below_drewN HB.out m); clear hw1)
        have hs1 : w.heap.size ≤ W1.heap.size := HB1.out.size
        go_loopg [13, 14] n (fun d x t wr' => ∃ j : Nat, j + d = n ∧ DigAt wr' w.heap.size x t (.slice F Z.length cf) d (stK n (Z, q.2) j) ∧ Below w.heap.size w wr')
        case atStart => exact ⟨0, by omega, ⟨rfl, ⟨_, rfl, hs1, blk_new W1 _⟩, HOO1.out.alloc _⟩, HB1.out.alloc hs1 _⟩
        case round =>
          obtain ⟨j, hj, ⟨rfl, ⟨g, rfl, hg, hbk⟩, hown⟩, hbel⟩ := hrel
          have hsz2 : w.heap.size ≤ wr.heap.size := hbel.size
          obtain ⟨hz1, hx1, hzl⟩ := HSK.out j
          rw [hzl] at hown
          have Hst : Hid (stK n (Z, q.2) (j + 1) = solStep (n - 1 - j) (stK n (Z, q.2) j)) := Lib.hid rfl
          by_cases hd : gk = 0
          · have ej : j = n := by omega
            subst hd
            have HX : Hid ((stK n (Z, q.2) j).2 = lsolOf S v) := by show _ = _; rw [ej]; exact HST.out
            obtain ⟨c0, f0, lg⟩ := blk1cell hbk
            have HBL := Lib.hid hbel
            have HOW := Lib.hid hown
            clear hbk hbel hown ej hz1 hzl
            generalize stK n (Z, q.2) j = p at *
            go_wp2_with fail
            go_ret2
            exact ⟨by rw [HH0.out, ← HX.out]; rfl, HBL.out⟩
          · obtain ⟨e, he⟩ : ∃ e, gk = e + 1 := ⟨gk - 1, by omega⟩
            subst he
            rw [show (((e + 1 : Nat) : Int) - 1) = (e : Int) by omega] at hbk
            rw [show n - 1 - j = e by omega] at Hst
            have he60 : e ≤ 60 := by omega
            obtain ⟨c0, f0, lg⟩ := blk1cell hbk
            generalize stK n (Z, q.2) j = p at *
            obtain ⟨Z1, x1⟩ := p
            simp only at hz1 hx1 hzl hown
            have hif := indexFunc_any F Z.length cf (nI Z1) 100 (.pointer (some ⟨g, 0, none⟩)) (fun x => topIs e x.toNat) wr (fun args w => Tryd.call100 args w) (by rw [nI_length]; exact hzl.symm) (by omega) (by rw [← nv_nI]; exact owns_Rd hown)
              (fun x hx => by
                obtain ⟨z, hz, rfl⟩ := List.mem_map.1 hx
                rw [Int.toNat_natCast]
                exact clos_any e g z he60 wr c0)
            rw [find_nI] at hif
            have HIF := Lib.hid hif
            have HBL := Lib.hid hbel
            have HOW := Lib.hid hown
            have HZ1 := Lib.hid hz1
            have HZL := Lib.hid hzl
            have HBK := Lib.hid hbk
            clear hif hbel hown hz1 hzl hbk hd
            cases hf : Z1.findIdx? (topIs e) with
            | none =>
              have hst2 : solStep e (Z1, x1) = (Z1, x1) := by unfold solStep; simp only [hf]
              rw [hst2] at Hst
              rw [hf] at HIF
              have hpl : placeOf none = -1 := rfl
              rw [hpl] at HIF
              clear hf hst2 hpl
              go_wp2_with (go_at_call 99; refine HIF.out.mono ?_; rintro e' W2 ⟨rfl, m, hw2⟩; have HOW2 : Hid (W2.ownsRow w.heap.size 2 1 (.slice F Z.length cf) Z.length (nv Z1)) := (by subst hw2; exact HOW.out); have HBL2 : Hid (Below w.heap.size w W2) := (by subst hw2; exact below_drewN HBL.out m); have hc2 : W2.cell? ⟨g, 0, none⟩ = some (.int .i64 (e : Int)) := (by subst hw2; exact c0); have lg2 : g < W2.heap.size := (by subst hw2; exact lg); clear hw2)
              go_roundg e
              case measure => omega
              case rel =>
                refine ⟨j + 1, by omega, ⟨by rw [Hst.out], ⟨_, rfl, HBL2.out.size, blk_new W2 _⟩, ?_⟩, HBL2.out.alloc HBL2.out.size _⟩
                rw [Hst.out]
                exact own_cast (HOW2.out.alloc _) HZL.out.symm rfl
            | some k1 =>
              obtain ⟨hk1, ht1, ht2⟩ := List.findIdx?_eq_some_iff_getElem.1 hf
              have hst2 : solStep e (Z1, x1) = (clearL e k1 Z1, if tb x1 e then xr x1 (Z1.getD k1 0) else x1) := by unfold solStep; simp only [hf]
              rw [hst2] at Hst
              rw [hf] at HIF
              have hpl : placeOf (some k1) = (k1 : Int) := rfl
              rw [hpl] at HIF
              have hk1Z : k1 < Z.length := by rw [← HZL.out]; exact hk1
              have hzk : Sm (Z1.getD k1 0) := HZ1.out _ (getD_mem hk1)
              have hcl : (clearL e k1 Z1).length = Z1.length := clearL_length _ _ _
              have HCL := Lib.hid hcl
              have HK1 := Lib.hid hk1
              clear hf hst2 hpl ht1 ht2 hcl hk1
              have hGL : ∀ i, i < Z1.length → (clearL e k1 Z1).getD i 0 = if i ≠ k1 ∧ tb (Z1.getD i 0) e = true then xr (Z1.getD i 0) (Z1.getD k1 0) else Z1.getD i 0 := fun i hi => clearL_getD hi
              have HGL := Lib.hid hGL
              clear hGL
              generalize hzz : Z1.getD k1 0 = z at *
              have HZZ := Lib.hid hzz
              clear hzz
              generalize clearL e k1 Z1 = M at *
              go_wp2_with (go_at_call 99; refine HIF.out.mono ?_; rintro e' W2 ⟨rfl, m, hw2⟩; have HOW2 : Hid (W2.ownsRow w.heap.size 2 1 (.slice F Z.length cf) Z.length (nv Z1)) := (by subst hw2; exact HOW.out); have HBL2 : Hid (Below w.heap.size w W2) := (by subst hw2; exact below_drewN HBL.out m); have HBK2 : Hid (W2.heap[g]? = some (.cells #[.int .i64 (e : Int)] 3 (0, 0))) := (by subst hw2; exact HBK.out); obtain ⟨b2, o2, hF2, hc2⟩ := (owns_Rd HOW2.out).atN (k := k1) HK1.out; rw [HZZ.out] at hc2; subst hF2; have hc3 := (blk1cell HBK2.out).1; clear hw2)
              have hs2 : w.heap.size ≤ W2.heap.size := HBL2.out.size
              go_loopw [70] (fun i wy => ∃ i' : Nat, i' ≤ Z.length ∧ i = .int .i64 i' ∧ wy.ownsRow w.heap.size 2 1 (.slice (some ⟨b2, o2, none⟩) Z.length cf) Z.length (nv (mixL M Z1 i')) ∧ wy.heap[g]? = some (.cells #[.int .i64 (e : Int)] 3 (0, 0)) ∧ Below w.heap.size w wy) (fun i _ => Z.length - (intOf i).toNat)
              case atStart => exact ⟨0, by omega, rfl, by rw [show mixL M Z1 0 = Z1 by simp [mixL]]; exact HOW2.out, HBK2.out, HBL2.out⟩
              case round =>
                obtain ⟨i, hi, rfl, hoy, hby, hbely⟩ := hrel
                have hsy : w.heap.size ≤ wr.heap.size := hbely.size
                obtain ⟨c4, f4, l4⟩ := blk1cell hby
                by_cases hlt2 : i < Z.length
                · have hiZ : i < Z1.length := by rw [HZL.out]; exact hlt2
                  have ho2 : o2 = 0 := by
                    obtain ⟨A0, c0', e0, _, h0, _⟩ := owns_shape hoy
                    injection e0 with e0 _ _
                    obtain ⟨g0, e1, _, _⟩ := h0 (by omega)
                    rw [← e0] at e1
                    injection e1 with e1; injection e1 with e1 e2
                  subst ho2
                  have hcell := hoy.cellAt i (by omega)
                  have hfz := hoy.frozenAt i
                  have hml := mixL_length HCL.out i
                  have hmg := mixL_getD HCL.out hiZ
                  have hcell2 : wr.cell? ⟨b2, i, none⟩ = some (.int .i64 ((Z1.getD i 0 : Nat) : Int)) := by
                    rw [hcell, ← hmg]
                    simp [nv, List.getD, show i < (mixL M Z1 i).length by rw [hml]; exact hiZ]
                  have hne : b2 ≠ g := fun e' => own_ne hoy hby (by decide) (by rw [e']; rfl)
                  have hgz : w.heap.size ≤ b2 := (hoy.lt b2 rfl).1
                  have hzi : Sm (Z1.getD i 0) := HZ1.out _ (getD_mem hiZ)
                  have hgl := HGL.out i hiZ
                  have hms := mixL_succ HCL.out hiZ
                  have hmi := fun h => mixL_id HCL.out hiZ h
                  have HOY := Lib.hid hoy
                  have HBY := Lib.hid hby
                  have HBE := Lib.hid hbely
                  clear hoy hby hbely hcell hml hmg
                  generalize Z1.getD i 0 = zi at *
                  by_cases hik : i = k1
                  · rw [if_neg (fun h => h.1 hik)] at hgl
                    have HMI := Lib.hid (hmi hgl)
                    subst hik
                    clear hgl hms hmi
                    go_wp2_with fail
                    go_roundw
                    case rel => exact ⟨i + 1, by omega, by go_num, by rw [HMI.out]; exact HOY.out, HBY.out, HBE.out⟩
                    case measure => simp [intOf]; omega
                  · have hnb : ((i : Int) != (k1 : Int)) = true := by simp; omega
                    cases hb : tb zi e
                    · rw [if_neg (fun h => by rw [hb] at h; cases h.2)] at hgl
                      have HMI := Lib.hid (hmi hgl)
                      clear hgl hms hmi
                      go_wp2_with fail
                      go_roundw
                      case rel => exact ⟨i + 1, by omega, by go_num, by rw [HMI.out]; exact HOY.out, HBY.out, HBE.out⟩
                      case measure => simp [intOf]; omega
                    · rw [if_pos ⟨hik, hb⟩] at hgl
                      rw [hgl] at hms
                      have HMS := Lib.hid hms
                      clear hgl hms hmi
                      go_wp2_with fail
                      go_roundw
                      case rel =>
                        refine ⟨i + 1, by omega, by go_num, ?_, blk_set_other HBY.out ⟨b2, i, none⟩ hne _, HBE.out.setCell (p := ⟨b2, i, none⟩) hgz _⟩
                        rw [HMS.out, nv_set]
                        exact (World.ownsRow.stored HOY.out i _).1
                      case measure => simp [intOf]; omega
                · have ei : mixL M Z1 i = M := by unfold mixL; rw [List.take_of_length_le (by rw [HCL.out, HZL.out]; omega), List.drop_of_length_le (by rw [HZL.out]; omega), List.append_nil]
                  rw [ei] at hoy
                  have HOY := Lib.hid hoy
                  have HBE := Lib.hid hbely
                  clear hoy hby hbely ei
                  have hx13 : (Z1, x1).2 = x1 := rfl
                  cases hb : tb x1 e
                  all_goals
                    rw [hb] at Hst
                    go_wp2_with fail
                    go_roundg e
                    case measure => omega
                    case rel =>
                      refine ⟨j + 1, by omega, ⟨by rw [Hst.out]; simp, ⟨_, rfl, HBE.out.size, blk_new _ _⟩, ?_⟩, HBE.out.alloc HBE.out.size _⟩
                      rw [Hst.out]
                      exact own_cast (HOY.out.alloc _) (by simp only; rw [HCL.out, HZL.out]) rfl
      · have hq0 : ¬ (leftN L (v, 0)).1 = 0 := fun h => h0 (hiff.1 h)
        have HH0 : Hid (solveRes S v = .tuple #[.int .i64 0, .bool false]) := by show _ = _; unfold solveRes; rw [if_neg h0, decide_eq_false h0]; rfl
        generalize hq : leftN L (v, 0) = q at *
        have HQ := Lib.hid hq
        have hne0 : ((q.1 : Int) != 0) = true := by simpa using hq0
        clear hq hiff h0 hq0
        go_wp2_with (go_at_call 95; refine HL.out.mono ?_; rintro e w' ⟨rfl, m, rfl⟩)
        go_ret2
        exact ⟨by rw [HH0.out]; rfl, below_drewN HB.out m⟩
end Go.Proofs.YtjhlmalpcelbaaaDoor

namespace Go.Proofs.YtjhlmalpcelbaaaDoor
open Go.RowKit

/-- What KernelOf answers. -/
def kerOf (c : Int) (xs : List Int) : Int × List Nat × Int := if fewOf c xs = 0 then ((xs.length : Int), reduceS (kerK (toN xs) (toN xs).length), 0) else (0, [], fewOf c xs)
theorem fewOf_zero {c : Int} {xs : List Int} (h : fewOf c xs = 0) : isMat c xs = true ∧ xs.length ≤ 60 := by
  unfold fewOf at h
  split at h
  · split at h
    · cases h
    · exact ⟨by assumption, by omega⟩
  · cases h
theorem kerOf_len (c : Int) (xs : List Int) : (kerOf c xs).2.1.length ≤ 1000 := by
  unfold kerOf
  split
  · rename_i h
    have h1 := (fewOf_zero h).2
    have h2 := reduceS_length_le (kerK (toN xs) (toN xs).length)
    have h3 := kerOut_length (fun k => solK (toN xs) k) (toN xs) (toN xs).length
    change (kerK (toN xs) (toN xs).length).length ≤ _ at h3
    have h4 : (toN xs).length = xs.length := by simp [toN]
    simp only
    omega
  · simp
set_option maxRecDepth 100000 in
set_option maxHeartbeats 2000000 in
theorem specKer_any (c : Int) (A : Option Addr) (n cap : Nat) (xs : List Int) (w : World) (hn : n = xs.length) (hsm : n ≤ 1099511627776) (hR : Rd w A (iv xs)) :
    Calls Tryd.prog 42 #[.agg #[.int .i64 c, .slice A n cap]] w fun e w' =>
      ∃ v, e = .returned (.tuple #[.agg #[.int .i64 (kerOf c xs).1, v], .int .i64 (kerOf c xs).2.2]) ∧ w'.ownsRow w.heap.size 2 1 v (kerOf c xs).2.1.length (nv (kerOf c xs).2.1) ∧ Below w.heap.size w w' := by
  have hb1 := blk_alloc (blk_new w (.cells #[.int .i64 c, .slice A n cap] 26)) (.cells #[.int .i64 0, .slice none 0 0] 26)
  have hb2 := blk_new1 w (.cells #[.int .i64 c, .slice A n cap] 26) (.cells #[.int .i64 0, .slice none 0 0] 26)
  have hbel : Below w.heap.size w ((w.alloc (.cells #[.int .i64 c, .slice A n cap] 26)).alloc (.cells #[.int .i64 0, .slice none 0 0] 26)) := ((Below.refl _ _).alloc (Nat.le_refl _) _).alloc (by simp) _
  have h1 := l02Few_any c A n cap xs _ hn hsm (hR.below hbel)
  have HK1 := Lib.hid hb1
  have HK2 := Lib.hid hb2
  have HB := Lib.hid hbel
  have HR := Lib.hid hR
  have Hn := Lib.hid hn
  clear hb1 hb2 hbel hR hn
  by_cases h0 : fewOf c xs = 0
  · obtain ⟨hi, hlx⟩ := fewOf_zero h0
    rw [h0] at h1
    have H1 := Lib.hid h1
    have HSx := Lib.hid (isMat_sm hi)
    have HRx : Hid (Rd w A (nv (toN xs))) := by have := HR.out; rw [iv_toN (fun x hx => (isMat_nonneg hi x hx).1)] at this; exact this
    have lx : (toN xs).length = xs.length := by simp [toN]
    have Lx := Lib.hid lx
    have HE : Hid (kerOf c xs = ((n : Int), reduceS (kerK (toN xs) (toN xs).length), 0)) := by show _ = _; unfold kerOf; rw [if_pos h0, Hn.out]
    have hn60 : n ≤ 60 := by rw [Hn.out]; exact hlx
    clear h1 lx hi hlx h0
    go_enter Tryd.func42, Tryd.ntmps42
    go_wp2_with fail
    refine H1.out.mono ?_
    rintro e w1 ⟨rfl, hb⟩
    have HB1 := Lib.hid (HB.out.trans (hb.mono HB.out.size))
    have hs1 := HB1.out.size
    have HK := Lib.hid (two_keep (blk_keep HK1.out hb) (blk_keep HK2.out hb))
    obtain ⟨x0, x1, f0, f1, lx⟩ := blk2cells (blk_keep HK1.out hb)
    have HC := Lib.hid (fun W (hbW : Below w1.heap.size w1 W) => l02Kernel_any A n cap (toN xs) W (by rw [Hn.out, Lx.out]) hn60 HSx.out (HRx.out.below (HB1.out.trans (hbW.mono hs1))))
    clear hb
    go_wp2_with fail
    go_region_held3 (fun w' => w'.cell? ⟨w.heap.size, 0, none⟩ = some (.int .i64 c) ∧ w'.cell? ⟨w.heap.size, 1, none⟩ = some (.slice A n cap))
      (first | exact ⟨x0, x1⟩ | exact ⟨p0, p1⟩ | exact ⟨cell_set (cell_set p0 (by simp)) (by simp), cell_set (cell_set p1 (by simp)) (by simp)⟩)
      (first | (go_at_call 85; (with_reducible refine (HC.out _ (Below.drew (Below.refl _ _))).mono ?_); (rintro e w2 ⟨v, rfl, ho, hb⟩; obtain ⟨Av, cv, rfl, _, _, _⟩ := owns_shape ho; have HO := Lib.hid ho; have HB2 := Lib.hid ((Below.drew (Below.refl w1.heap.size w1)).trans hb); clear ho hb; obtain ⟨p0, p1, _, _, p4⟩ := blk2cells (HK.out _ HB2.out).1; obtain ⟨q0, q1, q2, q3, q4⟩ := blk2cells (HK.out _ HB2.out).2)))
    go_wp2_with fail
    refine bodyPost_ret (v := .tuple #[.agg #[.int .i64 n, .slice Av (reduceS (kerK (toN xs) (toN xs).length)).length cv], .int .i64 0]) ?_ rfl ⟨_, by rw [HE.out], ?_, ?_⟩
    · simp [results, Tryd.results42, go_sem, q0, q1]
    · rw [HE.out]
      exact (owns_keeps HO.out (((Keeps.refl w2 [some (w.heap.size + 1)]).setCell (p := ⟨w.heap.size + 1, 0, none⟩) (by simp) _).setCell (p := ⟨w.heap.size + 1, 1, none⟩) (by simp) _) (.inr (by simp only [List.mem_singleton]; exact own_ne HO.out ((HK.out _ HB2.out).2) (by decide)))).mono hs1
    · exact ((HB1.out.trans (HB2.out.mono hs1)).setCell (p := ⟨w.heap.size + 1, 0, none⟩) (by simp) _).setCell (p := ⟨w.heap.size + 1, 1, none⟩) (by simp) _
  · have HE : Hid (kerOf c xs = (0, [], fewOf c xs)) := by show _ = _; unfold kerOf; rw [if_neg h0]
    have hcb : (fewOf c xs != 0) = true := by simpa using h0
    generalize fewOf c xs = code at *
    have H1 := Lib.hid h1
    clear h1 h0
    go_enter Tryd.func42, Tryd.ntmps42
    go_wp2_with fail
    refine H1.out.mono ?_
    rintro e w1 ⟨rfl, hb⟩
    have HB1 := Lib.hid (HB.out.trans (hb.mono HB.out.size))
    obtain ⟨z0, z1, z2, z3, lz⟩ := blk2cells (blk_keep HK2.out hb)
    clear hb
    go_wp2_with fail
    refine bodyPost_ret (v := .tuple #[.agg #[.int .i64 0, .slice none 0 0], .int .i64 code]) ?_ rfl ⟨_, by rw [HE.out], by rw [HE.out]; exact World.ownsRow_nil _ _ _ _, ?_⟩
    · simp [results, Tryd.results42, go_sem, z0, z1]
    · exact (HB1.out.setCell (p := ⟨w.heap.size + 1, 0, none⟩) (by simp) _).setCell (p := ⟨w.heap.size + 1, 1, none⟩) (by simp) _
set_option maxRecDepth 100000 in
set_option maxHeartbeats 2000000 in
theorem implKer_any (c : Int) (A : Option Addr) (n cap : Nat) (xs : List Int) (w : World) (hT : Tab w) (hw : 0 < w.heap.size) (hn : n = xs.length) (hsm : n ≤ 1099511627776) (hR : Rd w A (iv xs)) :
    Calls Tryd.prog 41 #[.agg #[.int .i64 c, .slice A n cap]] w fun e w' =>
      ∃ v, e = .returned (.tuple #[.agg #[.int .i64 (kerOf c xs).1, v], .int .i64 (kerOf c xs).2.2]) ∧ w'.ownsRow w.heap.size 2 1 v (kerOf c xs).2.1.length (nv (kerOf c xs).2.1) ∧ Below w.heap.size w w' := by
  have hb1 := blk_alloc (blk_new w (.cells #[.int .i64 c, .slice A n cap] 26)) (.cells #[.int .i64 0, .slice none 0 0] 26)
  have hb2 := blk_new1 w (.cells #[.int .i64 c, .slice A n cap] 26) (.cells #[.int .i64 0, .slice none 0 0] 26)
  have hbel : Below w.heap.size w ((w.alloc (.cells #[.int .i64 c, .slice A n cap] 26)).alloc (.cells #[.int .i64 0, .slice none 0 0] 26)) := ((Below.refl _ _).alloc (Nat.le_refl _) _).alloc (by simp) _
  have h1 := narrow_any c A n cap xs _ hn hsm (hR.below hbel)
  have HK1 := Lib.hid hb1
  have HK2 := Lib.hid hb2
  have HB := Lib.hid hbel
  have HR := Lib.hid hR
  have Hn := Lib.hid hn
  have HT := Lib.hid hT
  clear hT
  clear hb1 hb2 hbel hR hn
  by_cases h0 : fewOf c xs = 0
  · obtain ⟨hi, hlx⟩ := fewOf_zero h0
    rw [h0] at h1
    have H1 := Lib.hid h1
    have HSx := Lib.hid (isMat_sm hi)
    have HRx : Hid (Rd w A (nv (toN xs))) := by have := HR.out; rw [iv_toN (fun x hx => (isMat_nonneg hi x hx).1)] at this; exact this
    have lx : (toN xs).length = xs.length := by simp [toN]
    have Lx := Lib.hid lx
    have HE : Hid (kerOf c xs = ((n : Int), reduceS (kerK (toN xs) (toN xs).length), 0)) := by show _ = _; unfold kerOf; rw [if_pos h0, Hn.out]
    have hn60 : n ≤ 60 := by rw [Hn.out]; exact hlx
    clear h1 lx hi hlx h0
    go_enter Tryd.func41, Tryd.ntmps41
    go_wp2_with fail
    refine H1.out.mono ?_
    rintro e w1 ⟨rfl, hb⟩
    have HB1 := Lib.hid (HB.out.trans (hb.mono HB.out.size))
    have hs1 := HB1.out.size
    have HK := Lib.hid (two_keep (blk_keep HK1.out hb) (blk_keep HK2.out hb))
    obtain ⟨x0, x1, f0, f1, lx⟩ := blk2cells (blk_keep HK1.out hb)
    have HC := Lib.hid (fun W (hbW : Below w1.heap.size w1 W) => kernel_any A n cap (toN xs) W (HT.out.below (HB1.out.trans (hbW.mono hs1)) hw) (by have := hbW.size; omega) (by rw [Hn.out, Lx.out]) hn60 HSx.out (HRx.out.below (HB1.out.trans (hbW.mono hs1))))
    clear hb
    go_wp2_with fail
    go_region_held3 (fun w' => w'.cell? ⟨w.heap.size, 0, none⟩ = some (.int .i64 c) ∧ w'.cell? ⟨w.heap.size, 1, none⟩ = some (.slice A n cap))
      (first | exact ⟨x0, x1⟩ | exact ⟨p0, p1⟩ | exact ⟨cell_set (cell_set p0 (by simp)) (by simp), cell_set (cell_set p1 (by simp)) (by simp)⟩)
      (first | (go_at_call 84; (with_reducible refine (HC.out _ (Below.drew (Below.refl _ _))).mono ?_); (rintro e w2 ⟨v, rfl, ho, hb⟩; obtain ⟨Av, cv, rfl, _, _, _⟩ := owns_shape ho; have HO := Lib.hid ho; have HB2 := Lib.hid ((Below.drew (Below.refl w1.heap.size w1)).trans hb); clear ho hb; obtain ⟨p0, p1, _, _, p4⟩ := blk2cells (HK.out _ HB2.out).1; obtain ⟨q0, q1, q2, q3, q4⟩ := blk2cells (HK.out _ HB2.out).2)))
    go_wp2_with fail
    refine bodyPost_ret (v := .tuple #[.agg #[.int .i64 n, .slice Av (reduceS (kerK (toN xs) (toN xs).length)).length cv], .int .i64 0]) ?_ rfl ⟨_, by rw [HE.out], ?_, ?_⟩
    · simp [results, Tryd.results41, go_sem, q0, q1]
    · rw [HE.out]
      exact (owns_keeps HO.out (((Keeps.refl w2 [some (w.heap.size + 1)]).setCell (p := ⟨w.heap.size + 1, 0, none⟩) (by simp) _).setCell (p := ⟨w.heap.size + 1, 1, none⟩) (by simp) _) (.inr (by simp only [List.mem_singleton]; exact own_ne HO.out ((HK.out _ HB2.out).2) (by decide)))).mono hs1
    · exact ((HB1.out.trans (HB2.out.mono hs1)).setCell (p := ⟨w.heap.size + 1, 0, none⟩) (by simp) _).setCell (p := ⟨w.heap.size + 1, 1, none⟩) (by simp) _
  · have HE : Hid (kerOf c xs = (0, [], fewOf c xs)) := by show _ = _; unfold kerOf; rw [if_neg h0]
    have hcb : (fewOf c xs != 0) = true := by simpa using h0
    generalize fewOf c xs = code at *
    have H1 := Lib.hid h1
    clear h1 h0
    go_enter Tryd.func41, Tryd.ntmps41
    go_wp2_with fail
    refine H1.out.mono ?_
    rintro e w1 ⟨rfl, hb⟩
    have HB1 := Lib.hid (HB.out.trans (hb.mono HB.out.size))
    obtain ⟨z0, z1, z2, z3, lz⟩ := blk2cells (blk_keep HK2.out hb)
    clear hb
    go_wp2_with fail
    refine bodyPost_ret (v := .tuple #[.agg #[.int .i64 0, .slice none 0 0], .int .i64 code]) ?_ rfl ⟨_, by rw [HE.out], by rw [HE.out]; exact World.ownsRow_nil _ _ _ _, ?_⟩
    · simp [results, Tryd.results41, go_sem, z0, z1]
    · exact (HB1.out.setCell (p := ⟨w.heap.size + 1, 0, none⟩) (by simp) _).setCell (p := ⟨w.heap.size + 1, 1, none⟩) (by simp) _

end Go.Proofs.YtjhlmalpcelbaaaDoor

namespace Go.Proofs.YtjhlmalpcelbaaaDoor
open Go.RowKit

/-- What SolveRows answers. -/
def solvOf (c : Int) (xs : List Int) (v : Int) : Int × Int :=
  if fewOf c xs = 0 then (if maskB v c.toNat then (if (solL (toN xs) v.toNat).1 = 0 then (((lsolOf (toN xs) v.toNat : Nat) : Int), 0) else (0, 4)) else (0, 2)) else (0, fewOf c xs)
theorem fewOf_two {c : Int} {xs : List Int} (h : fewOf c xs ≠ 0) (h' : fewOf c xs ≠ 1) : isMat c xs = true ∧ fewOf c xs = 2 := by
  unfold fewOf at *
  by_cases hi : isMat c xs = true
  · rw [if_pos hi] at *
    refine ⟨hi, ?_⟩
    split at h
    · rename_i hl; rw [if_pos hl]
    · exact absurd rfl h
  · rw [if_neg hi] at h'; exact absurd rfl h'
theorem isMat_lt {c : Int} {xs : List Int} (hi : isMat c xs = true) : ∀ r ∈ toN xs, r < 2 ^ c.toNat := by
  intro r hr
  obtain ⟨x, hx, rfl⟩ := List.mem_map.1 hr
  unfold isMat at hi
  simp only [Bool.and_eq_true, List.all_eq_true] at hi
  have h1 := inB_true (hi.2.2 x hx)
  have e : ((2 ^ c.toNat : Nat) : Int) = (2 : Int) ^ c.toNat := by rw [Int.natCast_pow]; rfl
  generalize (2 : Int) ^ c.toNat = z at *
  omega
theorem maskB_lt {u d : Nat} (h : maskB (u : Int) d = true) : u < 2 ^ d := by
  have h1 := inB_true h
  have e : ((2 ^ d : Nat) : Int) = (2 : Int) ^ d := by rw [Int.natCast_pow]; rfl
  generalize (2 : Int) ^ d = z at *
  omega

set_option maxRecDepth 100000 in
set_option maxHeartbeats 2000000 in
theorem specSolv_any (c : Int) (A : Option Addr) (n cap : Nat) (xs : List Int) (v : Int) (w : World) (hn : n = xs.length) (hsm : n ≤ 1099511627776) (hR : Rd w A (iv xs)) :
    Calls Tryd.prog 45 #[.agg #[.int .i64 c, .slice A n cap], .int .i64 v] w fun e w' => e = .returned (.tuple #[.int .i64 (solvOf c xs v).1, .int .i64 (solvOf c xs v).2]) ∧ Below w.heap.size w w' := by
  have hb := blk_new w (.cells #[.int .i64 c, .slice A n cap] 26)
  have hbel : Below w.heap.size w (w.alloc (.cells #[.int .i64 c, .slice A n cap] 26)) := (Below.refl _ _).alloc (Nat.le_refl _) _
  have h1 := l02Few_any c A n cap xs _ hn hsm (hR.below hbel)
  have HK := Lib.hid hb
  have HB := Lib.hid hbel
  have HR := Lib.hid hR
  have Hn := Lib.hid hn
  clear hb hbel hR hn
  by_cases h0 : fewOf c xs = 0
  · obtain ⟨hi, hlx⟩ := fewOf_zero h0
    rw [h0] at h1
    have H1 := Lib.hid h1
    have hlt := isMat_lt hi
    have HSx := Lib.hid (isMat_sm hi)
    have HRx : Hid (Rd w A (nv (toN xs))) := by have := HR.out; rw [iv_toN (fun x hx => (isMat_nonneg hi x hx).1)] at this; exact this
    have lx : (toN xs).length = xs.length := by simp [toN]
    have Lx := Lib.hid lx
    have hn60 : n ≤ 60 := by rw [Hn.out]; exact hlx
    obtain ⟨d, rfl, hd⟩ := isMat_cols hi
    have hmk := fun W => l02Mask_any v d hd W
    cases hm : maskB v d with
    | false =>
      rw [hm] at hmk
      have HE : Hid (solvOf d xs v = (0, 2)) := by show _ = _; unfold solvOf; rw [if_pos h0, Int.toNat_natCast, if_neg (by rw [hm]; simp)]
      have HM := Lib.hid hmk
      clear h1 hmk hi hm h0 hlt lx hlx
      go_enter Tryd.func45, Tryd.ntmps45
      go_wp2_with fail
      refine H1.out.mono ?_
      rintro e w1 ⟨rfl, hb⟩
      obtain ⟨x0, x1, _, _, _⟩ := blk2cells (blk_keep HK.out hb)
      have HB1 := Lib.hid (HB.out.trans (hb.mono HB.out.size))
      clear hb
      go_wp2_with (go_at_call 78; refine (HM.out _).mono ?_; rintro e w' ⟨rfl, rfl⟩)
      go_ret2
      exact ⟨by rw [HE.out]; rfl, HB1.out⟩
    | true =>
      rw [hm] at hmk
      obtain ⟨hv0, hvs⟩ := maskB_sm hd hm
      obtain ⟨u, rfl⟩ := Int.eq_ofNat_of_zero_le hv0
      rw [Int.toNat_natCast] at hvs
      have hs := fun W (hW : Rd W A (nv (toN xs))) => solve_any A n cap (toN xs) u W (by rw [Hn.out, Lx.out]) hn60 hvs HSx.out hW
      have HM := Lib.hid hmk
      by_cases hz : (solL (toN xs) u).1 = 0
      · have HE : Hid (solvOf d xs u = (((lsolOf (toN xs) u : Nat) : Int), 0)) := by
          show _ = _; unfold solvOf; rw [if_pos h0, Int.toNat_natCast, if_pos hm, Int.toNat_natCast, if_pos hz]
        simp only [hz, decide_true] at hs
        have HS := Lib.hid hs
        have hsx : Sm (solL (toN xs) u).2 := by
          rw [Int.toNat_natCast] at hlt
          have := sol_lt hlt (maskB_lt hm)
          exact sm_of_lt (by rw [lx, ← Hn.out]; omega) this
        have HKS := Lib.hid ((kerG_sol HSx.out).sm (by rw [lx, ← Hn.out]; omega))
        have HLS : Hid (lsolOf (toN xs) u = leftT (topsOf (reduceS (kerK (toN xs) (toN xs).length))) (solL (toN xs) u).2) := Lib.hid rfl
        have hkl : (reduceS (kerK (toN xs) (toN xs).length)).length ≤ 60 := by
          have h2 := reduceS_length_le (kerK (toN xs) (toN xs).length)
          have h3 := kerOut_length (fun k => solK (toN xs) k) (toN xs) (toN xs).length
          change (kerK (toN xs) (toN xs).length).length ≤ _ at h3
          have h4 : (toN xs).length ≤ 60 := by rw [lx, ← Hn.out]; exact hn60
          omega
        have HRK : Hid (∀ r ∈ reduceS (kerK (toN xs) (toN xs).length), Sm r) := fun r hr => ((red_reduce HKS.out).ne r hr).2
        have HKC := Lib.hid (fun W (hW : Rd W A (nv (toN xs))) => l02Kernel_any A n cap (toN xs) W (by rw [Hn.out, Lx.out]) hn60 HSx.out hW)
        clear h1 hmk hi hm h0 hlt lx hlx hs hz hv0
        generalize (solL (toN xs) u).2 = y at *
        generalize reduceS (kerK (toN xs) (toN xs).length) = K at *
        go_enter Tryd.func45, Tryd.ntmps45
        go_wp2_with fail
        refine H1.out.mono ?_
        rintro e w1 ⟨rfl, hb⟩
        have HK1 := Lib.hid (blk_keep HK.out hb)
        obtain ⟨x0, x1, _, _, _⟩ := blk2cells HK1.out
        have HB1 := Lib.hid (HB.out.trans (hb.mono HB.out.size))
        clear hb
        go_wp2_with (go_at_call 78; refine (HM.out _).mono ?_; rintro e w' ⟨rfl, rfl⟩)
        refine (HS.out _ (HRx.out.below HB1.out)).mono ?_
        rintro e w2 ⟨rfl, hb⟩
        have HK2 := Lib.hid (blk_keep HK1.out hb)
        obtain ⟨y0, y1, _, _, _⟩ := blk2cells HK2.out
        have HB2 := Lib.hid (HB1.out.trans (hb.mono HB1.out.size))
        clear hb x0 x1
        go_wp2_with fail
        refine (HKC.out _ (HRx.out.below HB2.out)).mono ?_
        rintro e w3 ⟨vk, rfl, ho, hb⟩
        obtain ⟨Vk, ck, rfl, _, hVk, hVk'⟩ := owns_shape ho
        have HB3 := Lib.hid (HB2.out.trans (hb.mono HB2.out.size))
        have HRk := Lib.hid (owns_Rd ho)
        clear hb ho y0 y1 hVk hVk'
        go_wp2_with fail
        refine (l02Least_any Vk K.length ck K y _ rfl (by omega) HRK.out hsx HRk.out).mono ?_
        rintro e w4 ⟨rfl, hb⟩
        have HB4 := Lib.hid (HB3.out.trans (hb.mono HB3.out.size))
        clear hb
        go_wp2_with fail
        go_ret2
        exact ⟨by rw [HE.out, HLS.out]; rfl, HB4.out⟩
      · have HE : Hid (solvOf d xs u = (0, 4)) := by
          show _ = _; unfold solvOf; rw [if_pos h0, Int.toNat_natCast, if_pos hm, Int.toNat_natCast, if_neg hz]
        simp only [hz, decide_false] at hs
        have HS := Lib.hid hs
        clear h1 hmk hi hm h0 hlt lx hlx hs hz hv0
        generalize (solL (toN xs) u).2 = y at *
        go_enter Tryd.func45, Tryd.ntmps45
        go_wp2_with fail
        refine H1.out.mono ?_
        rintro e w1 ⟨rfl, hb⟩
        have HK1 := Lib.hid (blk_keep HK.out hb)
        obtain ⟨x0, x1, _, _, _⟩ := blk2cells HK1.out
        have HB1 := Lib.hid (HB.out.trans (hb.mono HB.out.size))
        clear hb
        go_wp2_with (go_at_call 78; refine (HM.out _).mono ?_; rintro e w' ⟨rfl, rfl⟩)
        refine (HS.out _ (HRx.out.below HB1.out)).mono ?_
        rintro e w2 ⟨rfl, hb⟩
        have HB2 := Lib.hid (HB1.out.trans (hb.mono HB1.out.size))
        clear hb x0 x1
        go_wp2_with fail
        go_ret2
        exact ⟨by rw [HE.out]; rfl, HB2.out⟩
  · by_cases h1' : fewOf c xs = 1
    · have HE : Hid (solvOf c xs v = (0, 1)) := by show _ = _; unfold solvOf; rw [if_neg h0, h1']
      rw [h1'] at h1
      have H1 := Lib.hid h1
      clear h1 h0 h1'
      go_enter Tryd.func45, Tryd.ntmps45
      go_wp2_with fail
      refine H1.out.mono ?_
      rintro e w1 ⟨rfl, hb⟩
      have HB1 := Lib.hid (HB.out.trans (hb.mono HB.out.size))
      clear hb
      go_wp2_with fail
      go_ret2
      exact ⟨by rw [HE.out]; rfl, HB1.out⟩
    · obtain ⟨hi, h2⟩ := fewOf_two h0 h1'
      have HE : Hid (solvOf c xs v = (0, 2)) := by show _ = _; unfold solvOf; rw [if_neg h0, h2]
      rw [h2] at h1
      have H1 := Lib.hid h1
      obtain ⟨d, rfl, hd⟩ := isMat_cols hi
      have hmk := fun W => l02Mask_any v d hd W
      clear h1 h0 h1' h2 hi
      cases hm : maskB v d
      all_goals
        rw [hm] at hmk
        have HM := Lib.hid hmk
        clear hmk hm
        go_enter Tryd.func45, Tryd.ntmps45
        go_wp2_with fail
        refine H1.out.mono ?_
        rintro e w1 ⟨rfl, hb⟩
        obtain ⟨x0, x1, _, _, _⟩ := blk2cells (blk_keep HK.out hb)
        have HB1 := Lib.hid (HB.out.trans (hb.mono HB.out.size))
        clear hb
        go_wp2_with (go_at_call 78; refine (HM.out _).mono ?_; rintro e w' ⟨rfl, rfl⟩)
        go_ret2
        exact ⟨by rw [HE.out]; rfl, HB1.out⟩

set_option maxRecDepth 100000 in
set_option maxHeartbeats 2000000 in
theorem implSolv_any (c : Int) (A : Option Addr) (n cap : Nat) (xs : List Int) (v : Int) (w : World) (hT : Tab w) (hw : 0 < w.heap.size) (hn : n = xs.length) (hsm : n ≤ 1099511627776) (hR : Rd w A (iv xs)) :
    Calls Tryd.prog 44 #[.agg #[.int .i64 c, .slice A n cap], .int .i64 v] w fun e w' => e = .returned (.tuple #[.int .i64 (solvOf c xs v).1, .int .i64 (solvOf c xs v).2]) ∧ Below w.heap.size w w' := by
  have hb := blk_new w (.cells #[.int .i64 c, .slice A n cap] 26)
  have hbel : Below w.heap.size w (w.alloc (.cells #[.int .i64 c, .slice A n cap] 26)) := (Below.refl _ _).alloc (Nat.le_refl _) _
  have h1 := narrow_any c A n cap xs _ hn hsm (hR.below hbel)
  have HK := Lib.hid hb
  have HB := Lib.hid hbel
  have HR := Lib.hid hR
  have HT := Lib.hid hT
  have Hn := Lib.hid hn
  clear hb hbel hR hn hT
  by_cases h0 : fewOf c xs = 0
  · obtain ⟨hi, hlx⟩ := fewOf_zero h0
    rw [h0] at h1
    have H1 := Lib.hid h1
    have hlt := isMat_lt hi
    have HSx := Lib.hid (isMat_sm hi)
    have HRx : Hid (Rd w A (nv (toN xs))) := by have := HR.out; rw [iv_toN (fun x hx => (isMat_nonneg hi x hx).1)] at this; exact this
    have lx : (toN xs).length = xs.length := by simp [toN]
    have Lx := Lib.hid lx
    have hn60 : n ≤ 60 := by rw [Hn.out]; exact hlx
    obtain ⟨d, rfl, hd⟩ := isMat_cols hi
    have hmk := fun W => isMask_any v d (by omega) W
    cases hm : maskB v d with
    | false =>
      rw [hm] at hmk
      have HE : Hid (solvOf d xs v = (0, 2)) := by show _ = _; unfold solvOf; rw [if_pos h0, Int.toNat_natCast, if_neg (by rw [hm]; simp)]
      have HM := Lib.hid hmk
      clear h1 hmk hi hm h0 hlt lx hlx
      go_enter Tryd.func44, Tryd.ntmps44
      go_wp2_with fail
      refine H1.out.mono ?_
      rintro e w1 ⟨rfl, hb⟩
      obtain ⟨x0, x1, _, _, _⟩ := blk2cells (blk_keep HK.out hb)
      have HB1 := Lib.hid (HB.out.trans (hb.mono HB.out.size))
      clear hb
      go_wp2_with (go_at_call 62; refine (HM.out _).mono ?_; rintro e w' ⟨rfl, rfl⟩)
      go_ret2
      exact ⟨by rw [HE.out]; rfl, HB1.out⟩
    | true =>
      rw [hm] at hmk
      obtain ⟨hv0, hvs⟩ := maskB_sm hd hm
      obtain ⟨u, rfl⟩ := Int.eq_ofNat_of_zero_le hv0
      rw [Int.toNat_natCast] at hvs hlt
      have hs := fun W (hT : Tab W) (hw : 0 < W.heap.size) (hW : Rd W A (nv (toN xs))) => solve_impl_any A n cap (toN xs) u W hT hw (by rw [Hn.out, Lx.out]) hn60 HSx.out hvs hW
        (fun h => solve_both hlt hd (by rw [lx, ← Hn.out]; exact hn60) (maskB_lt hm) h)
      have HM := Lib.hid hmk
      by_cases hz : (solL (toN xs) u).1 = 0
      · have HE : Hid (solvOf d xs u = (((lsolOf (toN xs) u : Nat) : Int), 0)) := by
          show _ = _; unfold solvOf; rw [if_pos h0, Int.toNat_natCast, if_pos hm, Int.toNat_natCast, if_pos hz]
        have hr : solveRes (toN xs) u = .tuple #[.int .i64 ((lsolOf (toN xs) u : Nat) : Int), .bool true] := by unfold solveRes; rw [if_pos hz, decide_eq_true hz]
        rw [hr] at hs
        have HS := Lib.hid hs
        clear h1 hmk hi hm h0 hlt lx hlx hs hz hv0 hr
        generalize lsolOf (toN xs) u = y at *
        go_enter Tryd.func44, Tryd.ntmps44
        go_wp2_with fail
        refine H1.out.mono ?_
        rintro e w1 ⟨rfl, hb⟩
        have HK1 := Lib.hid (blk_keep HK.out hb)
        obtain ⟨x0, x1, _, _, _⟩ := blk2cells HK1.out
        have HB1 := Lib.hid (HB.out.trans (hb.mono HB.out.size))
        clear hb
        go_wp2_with (go_at_call 62; refine (HM.out _).mono ?_; rintro e w' ⟨rfl, rfl⟩)
        refine (HS.out _ (HT.out.below HB1.out hw) (by have := HB1.out.size; omega) (HRx.out.below HB1.out)).mono ?_
        rintro e w2 ⟨rfl, hb⟩
        have HB2 := Lib.hid (HB1.out.trans (hb.mono HB1.out.size))
        clear hb x0 x1
        go_wp2_with fail
        go_ret2
        exact ⟨by rw [HE.out]; rfl, HB2.out⟩
      · have HE : Hid (solvOf d xs u = (0, 4)) := by
          show _ = _; unfold solvOf; rw [if_pos h0, Int.toNat_natCast, if_pos hm, Int.toNat_natCast, if_neg hz]
        have hr : solveRes (toN xs) u = .tuple #[.int .i64 0, .bool false] := by unfold solveRes; rw [if_neg hz, decide_eq_false hz]; rfl
        rw [hr] at hs
        have HS := Lib.hid hs
        clear h1 hmk hi hm h0 hlt lx hlx hs hz hv0 hr
        go_enter Tryd.func44, Tryd.ntmps44
        go_wp2_with fail
        refine H1.out.mono ?_
        rintro e w1 ⟨rfl, hb⟩
        have HK1 := Lib.hid (blk_keep HK.out hb)
        obtain ⟨x0, x1, _, _, _⟩ := blk2cells HK1.out
        have HB1 := Lib.hid (HB.out.trans (hb.mono HB.out.size))
        clear hb
        go_wp2_with (go_at_call 62; refine (HM.out _).mono ?_; rintro e w' ⟨rfl, rfl⟩)
        refine (HS.out _ (HT.out.below HB1.out hw) (by have := HB1.out.size; omega) (HRx.out.below HB1.out)).mono ?_
        rintro e w2 ⟨rfl, hb⟩
        have HB2 := Lib.hid (HB1.out.trans (hb.mono HB1.out.size))
        clear hb x0 x1
        go_wp2_with fail
        go_ret2
        exact ⟨by rw [HE.out]; rfl, HB2.out⟩
  · have HE : Hid (solvOf c xs v = (0, fewOf c xs)) := by show _ = _; unfold solvOf; rw [if_neg h0]
    have hcb : (fewOf c xs != 0) = true := by simpa using h0
    generalize fewOf c xs = code at *
    have H1 := Lib.hid h1
    clear h1 h0
    go_enter Tryd.func44, Tryd.ntmps44
    go_wp2_with fail
    refine H1.out.mono ?_
    rintro e w1 ⟨rfl, hb⟩
    have HB1 := Lib.hid (HB.out.trans (hb.mono HB.out.size))
    clear hb
    go_wp2_with fail
    go_ret2
    exact ⟨by rw [HE.out]; rfl, HB1.out⟩
end Go.Proofs.YtjhlmalpcelbaaaDoor
