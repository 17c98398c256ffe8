/- homogeneous spaces, dimensions, ranks by elimination (no program in sight) · generators and annihilated vectors of modules: what their numbers are (no program in sight) · the reference's l03Left at one admissible word · the reference's l03Left and l03Form at two squares: Adem's relation · the reference's vectors: l11Word, l11Words -/
import Derived.Test.YtnffpjdlpjkioaaBxaf
import Derived.Test.YtnffpjdlpjkioaaBxac
import Derived.Test.YtnffpjdlpjkioaaBxab
import Derived.Deep.DeepCutAuto
set_option linter.all false
namespace Go.Proofs.Ytnffpjdlpjkioaa

/-! ### homogeneous masks -/
theorem hom_sp {xs : List Int} {d : Int} {S : List Nat} (h : ∀ r ∈ S, Hom xs d r) {v : Nat} (hv : Sp S v) : Hom xs d v := by
  induction hv with
  | zero => exact Hom.zero _ _
  | add hm _ ih => exact (h _ hm).xr ih
theorem Hom.pv {xs : List Int} {d : Int} {v : Nat} (h : Hom xs d v) (h0 : v ≠ 0) (hs : Sm v) : Go.Proofs.Ytnffpjdlpjkioaa.pv v < xs.length ∧ xs.getD (Go.Proofs.Ytnffpjdlpjkioaa.pv v) 0 = d := h _ (tb_pv h0 hs)
def homB (xs : List Int) (d : Int) (v : Nat) : Bool := nt v (dmask xs d) == 0
theorem homB_iff {xs : List Int} {d : Int} {v : Nat} : homB xs d v = true ↔ Hom xs d v := by unfold homB; rw [beq_iff_eq]; exact nt_hom
theorem red_nodup {S : List Nat} (h : Red S) : S.Nodup := List.Pairwise.of_map pv (fun _ _ h e => h (congrArg pv e)) h.nodup
/-- a reduced list in order is what its space's rows reduce to -/
theorem red_asc_unique {S T : List Nat} (hS : Red S) (hT : Red T) (aS : Asc S) (aT : Asc T) (h : ∀ v, Sp S v ↔ Sp T v) : S = T :=
  asc_unique aS aT ((List.perm_ext_iff_of_nodup (red_nodup hS) (red_nodup hT)).2 fun r => ⟨red_sub hS hT h r, red_sub hT hS (fun v => (h v).symm) r⟩)
theorem Red.append {S T : List Nat} (hS : Red S) (hT : Red T) (h : ∀ r ∈ S, ∀ s ∈ T, tb r (pv s) = false ∧ tb s (pv r) = false) : Red (S ++ T) :=
  ⟨fun r hr => by rcases List.mem_append.1 hr with hr | hr; exact hS.ne r hr; exact hT.ne r hr, List.pairwise_append.2 ⟨hS.off, hT.off, h⟩⟩
theorem Asc.append {S T : List Nat} (hS : Asc S) (hT : Asc T) (h : ∀ r ∈ S, ∀ s ∈ T, pv r < pv s) : Asc (S ++ T) := List.pairwise_append.2 ⟨hS, hT, h⟩
def part (xs : List Int) (S : List Nat) (d : Int) : List Nat := reduceS (S.filter (homB xs d))
/-- the reduced rows of the degrees 0 .. k - 1, one degree behind the other -/
def byDeg (xs : List Int) (S : List Nat) : Nat → List Nat
  | 0 => []
  | k + 1 => byDeg xs S k ++ part xs S (k : Int)
theorem sm_filter {S : List Nat} (hS : ∀ r ∈ S, Sm r) (p : Nat → Bool) : ∀ r ∈ S.filter p, Sm r := fun r hr => hS r (List.mem_filter.1 hr).1
theorem part_mem {xs : List Int} {S : List Nat} (hS : ∀ r ∈ S, Sm r) {d : Int} {r : Nat} (hr : r ∈ part xs S d) : Hom xs d r ∧ r ≠ 0 ∧ Sm r ∧ Sp S r := by
  have h1 := (red_reduce (sm_filter hS (homB xs d))).ne r hr
  have h2 := (sp_reduce (sm_filter hS (homB xs d)) r).1 (.mem hr)
  exact ⟨hom_sp (fun s hs => homB_iff.1 (List.mem_filter.1 hs).2) h2, h1.1, h1.2, h2.mono fun s hs => (List.mem_filter.1 hs).1⟩
def SrtL (xs : List Int) : Prop := ∀ i j, i ≤ j → j < xs.length → xs.getD i 0 ≤ xs.getD j 0
theorem byDeg_all {xs : List Int} {S : List Nat} (hx : SrtL xs) (hS : ∀ r ∈ S, Sm r) : ∀ k, Red (byDeg xs S k) ∧ Asc (byDeg xs S k) ∧ ∀ r ∈ byDeg xs S k, ∃ d : Nat, d < k ∧ r ∈ part xs S (d : Int)
  | 0 => ⟨Red.nil, .nil, by simp [byDeg]⟩
  | k + 1 => by
    obtain ⟨h1, h2, h3⟩ := byDeg_all hx hS k
    have rp := red_reduce (sm_filter hS (homB xs (k : Int)))
    have ap := asc_reduce (sm_filter hS (homB xs (k : Int)))
    have key : ∀ r ∈ byDeg xs S k, ∀ s ∈ part xs S (k : Int), tb r (pv s) = false ∧ tb s (pv r) = false ∧ pv r < pv s := by
      intro r hr s hs
      obtain ⟨d, hd, hr⟩ := h3 r hr
      obtain ⟨a1, a2, a3, _⟩ := part_mem hS hr
      obtain ⟨b1, b2, b3, _⟩ := part_mem hS hs
      obtain ⟨p1, p2⟩ := a1.pv a2 a3
      obtain ⟨q1, q2⟩ := b1.pv b2 b3
      refine ⟨?_, ?_, ?_⟩
      · cases h : tb r (pv s) with
        | false => rfl
        | true => have := (a1 _ h).2; omega
      · cases h : tb s (pv r) with
        | false => rfl
        | true => have := (b1 _ h).2; omega
      · rcases Nat.lt_or_ge (pv r) (pv s) with h | h
        · exact h
        · have := hx _ _ h p1; omega
    refine ⟨h1.append rp fun r hr s hs => ⟨(key r hr s hs).1, (key r hr s hs).2.1⟩, h2.append ap fun r hr s hs => (key r hr s hs).2.2, fun r hr => ?_⟩
    rcases List.mem_append.1 hr with hr | hr
    · obtain ⟨d, hd, hr⟩ := h3 r hr; exact ⟨d, by omega, hr⟩
    · exact ⟨k, by omega, hr⟩
theorem part_byDeg {xs : List Int} {S : List Nat} {d k : Nat} (h : d < k) : ∀ r ∈ part xs S (d : Int), r ∈ byDeg xs S k := by
  induction k with
  | zero => omega
  | succ k ih =>
    intro r hr
    unfold byDeg
    rcases Nat.lt_or_ge d k with h1 | h1
    · exact List.mem_append_left _ (ih h1 r hr)
    · have e : d = k := by omega
      subst e; exact List.mem_append_right _ hr
theorem byDeg_sp {xs : List Int} {S : List Nat} (hx : SrtL xs) (hS : ∀ r ∈ S, Sm r) {k : Nat} (hh : ∀ r ∈ S, r ≠ 0 → ∃ d : Nat, d < k ∧ Hom xs (d : Int) r) (v : Nat) : Sp (byDeg xs S k) v ↔ Sp S v := by
  constructor
  · exact Sp.trans fun r hr => by
      obtain ⟨d, _, hr⟩ := (byDeg_all hx hS k).2.2 r hr
      exact (part_mem hS hr).2.2.2
  · refine Sp.trans fun r hr => ?_
    by_cases h0 : r = 0
    · subst h0; exact .zero
    · obtain ⟨d, hd, hr'⟩ := hh r hr h0
      have : Sp (part xs S (d : Int)) r := (sp_reduce (sm_filter hS _) r).2 (.mem (List.mem_filter.2 ⟨hr, homB_iff.2 hr'⟩))
      exact this.mono (part_byDeg hd)
/-- THE REDUCED ROWS OF HOMOGENEOUS ROWS, DEGREE BY DEGREE -/
theorem byDeg_eq {xs : List Int} {S : List Nat} (hx : SrtL xs) (hS : ∀ r ∈ S, Sm r) {k : Nat} (hh : ∀ r ∈ S, r ≠ 0 → ∃ d : Nat, d < k ∧ Hom xs (d : Int) r) : byDeg xs S k = reduceS S := by
  obtain ⟨h1, h2, _⟩ := byDeg_all hx hS k
  exact red_asc_unique h1 (red_reduce hS) h2 (asc_reduce hS) fun v => by rw [byDeg_sp hx hS hh, sp_reduce hS]
/-- how many rows of a degree -/
def ofDeg (xs : List Int) (d : Int) (R : List Nat) : List Nat := R.filter fun r => decide (xs.getD (pv r) 0 = d)
theorem ofDeg_byDeg {xs : List Int} {S : List Nat} (hS : ∀ r ∈ S, Sm r) (d : Nat) : ∀ k, d < k → ofDeg xs (d : Int) (byDeg xs S k) = part xs S (d : Int) := by
  have no : ∀ k, k ≤ d → ofDeg xs (d : Int) (byDeg xs S k) = [] := by
    intro k
    induction k with
    | zero => intro _; rfl
    | succ k ih =>
      intro h
      unfold ofDeg byDeg
      rw [List.filter_append, show (byDeg xs S k).filter _ = [] from ih (by omega), List.nil_append, List.filter_eq_nil_iff]
      intro r hr
      obtain ⟨a1, a2, a3, _⟩ := part_mem hS hr
      have := (a1.pv a2 a3).2
      simp only [decide_eq_true_eq]; omega
  intro k
  induction k with
  | zero => intro h; omega
  | succ k ih =>
    intro h
    unfold ofDeg byDeg
    rw [List.filter_append]
    rcases Nat.lt_or_ge d k with h1 | h1
    · rw [show (byDeg xs S k).filter _ = part xs S (d : Int) from ih h1]
      rw [List.filter_eq_nil_iff.2, List.append_nil]
      intro r hr
      obtain ⟨a1, a2, a3, _⟩ := part_mem hS hr
      have := (a1.pv a2 a3).2
      simp only [decide_eq_true_eq]; omega
    · have e : k = d := by omega
      subst e
      rw [show (byDeg xs S k).filter _ = [] from no k (Nat.le_refl _), List.nil_append, List.filter_eq_self]
      intro r hr
      obtain ⟨a1, a2, a3, _⟩ := part_mem hS hr
      have := (a1.pv a2 a3).2
      simp only [decide_eq_true_eq]; exact this

/-! ### dimensions -/
def Dim (P : Nat → Prop) (k : Nat) : Prop := ∃ B : List Nat, (∀ r ∈ B, Sm r) ∧ Fre B ∧ (∀ v, Sp B v ↔ P v) ∧ B.length = k
theorem Dim.unique {P : Nat → Prop} {k l : Nat} (h1 : Dim P k) (h2 : Dim P l) : k = l := by
  obtain ⟨B, b1, b2, b3, rfl⟩ := h1
  obtain ⟨C, c1, c2, c3, rfl⟩ := h2
  rw [← fre_len b1 b2, ← fre_len c1 c2, reduce_unique b1 c1 fun v => by rw [b3, c3]]
theorem Dim.congr {P Q : Nat → Prop} {k : Nat} (h : Dim P k) (e : ∀ v, P v ↔ Q v) : Dim Q k := by
  obtain ⟨B, b1, b2, b3, b4⟩ := h
  exact ⟨B, b1, b2, fun v => by rw [b3, e], b4⟩
theorem dim_red {S : List Nat} (h : Red S) : Dim (Sp S) S.length := ⟨S, fun r hr => (h.ne r hr).2, h.fre, fun _ => Iff.rfl, rfl⟩
theorem dim_reduce {S : List Nat} (hS : ∀ r ∈ S, Sm r) : Dim (Sp S) (reduceS S).length := (dim_red (red_reduce hS)).congr fun v => sp_reduce hS v
theorem fre_snoc {B : List Nat} {r : Nat} (h : Fre B) (hr : ¬ Sp B r) : Fre (B ++ [r]) := by
  intro k hk
  rw [List.length_append, List.length_singleton] at hk
  rcases Nat.lt_or_ge k B.length with h1 | h1
  · rw [List.take_append_of_le_length (by omega), show (B ++ [r]).getD k 0 = B.getD k 0 by simp [List.getD, List.getElem?_append_left h1]]
    exact h k h1
  · have e : k = B.length := by omega
    subst e
    rw [show (B ++ [r]).take B.length = B by simp, show (B ++ [r]).getD B.length 0 = r by simp [List.getD]]
    exact hr
/-- a linear map -/
structure Lin (f : Nat → Nat) : Prop where
  add : ∀ x y, f (xr x y) = xr (f x) (f y)
theorem Lin.zero {f : Nat → Nat} (h : Lin f) : f 0 = 0 := by have := h.add 0 0; rw [xr_self, xr_self] at this; exact this
theorem sp_map {f : Nat → Nat} (h : Lin f) {B : List Nat} (w : Nat) : Sp (B.map f) w ↔ ∃ v, Sp B v ∧ w = f v := by
  constructor
  · intro hw
    induction hw with
    | zero => exact ⟨0, .zero, h.zero.symm⟩
    | add hm _ ih =>
      obtain ⟨v, hv, rfl⟩ := ih
      obtain ⟨r, hr, rfl⟩ := List.mem_map.1 hm
      exact ⟨xr r v, .add hr hv, (h.add r v).symm⟩
  · rintro ⟨v, hv, rfl⟩
    induction hv with
    | zero => rw [h.zero]; exact .zero
    | add hm _ ih => rw [h.add]; exact .add (List.mem_map_of_mem hm) ih
theorem fre_map {f : Nat → Nat} (h : Lin f) {B : List Nat} (hB : Fre B) (hi : ∀ v, Sp B v → f v = 0 → v = 0) : Fre (B.map f) := by
  intro k hk hs
  rw [List.length_map] at hk
  rw [← List.map_take, show (B.map f).getD k 0 = f (B.getD k 0) by simp [List.getD, hk], sp_map h] at hs
  obtain ⟨v, hv, e⟩ := hs
  have hv' : Sp B v := hv.mono fun r hr => List.mem_of_mem_take hr
  have h0 := hi (xr (B.getD k 0) v) ((Sp.mem (by simp [List.getD, hk])).plus hv') (by rw [h.add, e, xr_self])
  refine hB k hk ?_
  have e2 : B.getD k 0 = v := by have := congrArg (xr (B.getD k 0)) h0; rw [xr_xr, xr_zero] at this; exact this.symm
  rw [e2]; exact hv
theorem Dim.map {P Q : Nat → Prop} {k : Nat} {f : Nat → Nat} (h : Dim P k) (hf : Lin f) (hi : ∀ v, P v → f v = 0 → v = 0) (hs : ∀ v, P v → Sm (f v)) (hQ : ∀ w, Q w ↔ ∃ v, P v ∧ w = f v) : Dim Q k := by
  obtain ⟨B, b1, b2, b3, b4⟩ := h
  refine ⟨B.map f, fun r hr => ?_, fre_map hf b2 fun v hv => hi v ((b3 v).1 hv), fun w => ?_, by rw [List.length_map, b4]⟩
  · obtain ⟨v, hv, rfl⟩ := List.mem_map.1 hr
    exact hs v ((b3 v).1 (.mem hv))
  · rw [sp_map hf, hQ]
    exact ⟨fun ⟨v, h1, h2⟩ => ⟨v, (b3 v).1 h1, h2⟩, fun ⟨v, h1, h2⟩ => ⟨v, (b3 v).2 h1, h2⟩⟩

/-! ### ranks by elimination -/
/-- the least digit that is 1 -/
def lo (v : Nat) : Nat := ((List.range (v + 1)).find? (tb v)).getD 0
theorem lo_spec {v : Nat} (h : v ≠ 0) : tb v (lo v) = true ∧ ∀ m, m < lo v → tb v m = false := by
  unfold lo
  cases hf : (List.range (v + 1)).find? (tb v) with
  | none =>
    exfalso
    apply h
    rw [List.find?_eq_none] at hf
    refine eq_zero_of_tb fun n => ?_
    rcases Nat.lt_or_ge n (v + 1) with h1 | h1
    · have := hf n (List.mem_range.2 h1); simpa using this
    · exact tb_of_lt (Nat.lt_of_lt_of_le (Nat.lt_two_pow_self) (Nat.pow_le_pow_right (by omega) (by omega : v ≤ n))) (Nat.le_refl _)
  | some i =>
    rw [List.find?_range_eq_some] at hf
    refine ⟨hf.1, fun m hm => ?_⟩
    have := hf.2.2 m (by simpa using hm)
    simpa using this
def clr (p r s : Nat) : Nat := if tb s p = true then xr s r else s
theorem clr_lin (p r : Nat) : Lin (clr p r) := ⟨fun x y => by
  unfold clr
  rw [tb_xr]
  cases h1 : tb x p <;> cases h2 : tb y p <;> simp
  · rw [xr_assoc]
  · rw [xr_assoc, xr_assoc, xr_comm y r]
  · rw [xr_assoc x r, xr_left r y r, xr_self, xr_zero]⟩
theorem clr_off {p r : Nat} (h : tb r p = true) (s : Nat) : tb (clr p r s) p = false := by
  unfold clr
  cases h1 : tb s p <;> simp [tb_xr, h1, h]
def rkN : Nat → List Nat → Nat
  | 0, _ => 0
  | _ + 1, [] => 0
  | n + 1, r :: S => if r = 0 then rkN n S else 1 + rkN n (S.map (clr (lo r) r))
def rkS (S : List Nat) : Nat := rkN S.length S
theorem rkS_nil : rkS [] = 0 := rfl
theorem rkS_cons (r : Nat) (S : List Nat) : rkS (r :: S) = if r = 0 then rkS S else 1 + rkS (S.map (clr (lo r) r)) := by
  unfold rkS; simp only [List.length_cons, List.length_map, rkN]
theorem rk_dim : ∀ (n : Nat) (S : List Nat), S.length = n → (∀ r ∈ S, Sm r) → Dim (Sp S) (rkS S) := by
  intro n
  induction n with
  | zero =>
    intro S hl _
    rw [List.eq_nil_of_length_eq_zero hl]
    exact ⟨[], by simp, fun k hk => by simp at hk, fun _ => Iff.rfl, rfl⟩
  | succ n ih =>
    intro S hl hS
    match S, hl with
    | r :: S, hl =>
      rw [rkS_cons]
      have hr := hS r (List.mem_cons_self ..)
      have hS' : ∀ s ∈ S, Sm s := fun s hs => hS s (List.mem_cons_of_mem _ hs)
      by_cases h0 : r = 0
      · rw [if_pos h0]
        refine (ih S (by simpa using hl) hS').congr fun v => ⟨Sp.mono fun s hs => List.mem_cons_of_mem _ hs, fun h => ?_⟩
        rcases sp_cons h with h | h
        · exact h
        · rwa [h0, zero_xr] at h
      · rw [if_neg h0]
        obtain ⟨hp, _⟩ := lo_spec h0
        generalize lo r = p at *
        have hc : ∀ s ∈ S.map (clr p r), Sm s := fun s hs => by
          obtain ⟨t, ht, rfl⟩ := List.mem_map.1 hs
          unfold clr; split
          · exact (hS' t ht).xr hr
          · exact hS' t ht
        obtain ⟨B, b1, b2, b3, b4⟩ := ih (S.map (clr p r)) (by simpa using hl) hc
        have hoff : ∀ s ∈ S.map (clr p r), tb s p = false := fun s hs => by
          obtain ⟨t, ht, rfl⟩ := List.mem_map.1 hs
          exact clr_off hp t
        refine ⟨B ++ [r], fun s hs => ?_, fre_snoc b2 fun h => ?_, fun v => ?_, by rw [List.length_append, b4]; simp; omega⟩
        · rcases List.mem_append.1 hs with hs | hs
          · exact b1 s hs
          · rw [List.mem_singleton.1 hs]; exact hr
        · rw [((b3 r).1 h).off hoff] at hp; cases hp
        · rw [sp_congr (U := [r]) b3 v]
          have hcl : ∀ t, Sp [r] (xr t (clr p r t)) := fun t => by
            unfold clr; split
            · rw [xr_xr]; exact .mem (List.mem_singleton.2 rfl)
            · rw [xr_self]; exact .zero
          constructor
          · refine Sp.trans fun s hs => ?_
            rcases List.mem_append.1 hs with hs | hs
            · obtain ⟨t, ht, rfl⟩ := List.mem_map.1 hs
              have h1 : Sp (r :: S) (xr t (clr p r t)) := (hcl t).mono fun x hx => by rw [List.mem_singleton.1 hx]; exact List.mem_cons_self ..
              have h2 : Sp (r :: S) t := .mem (List.mem_cons_of_mem _ ht)
              have := h2.plus h1
              rwa [xr_xr] at this
            · rw [List.mem_singleton.1 hs]; exact .mem (List.mem_cons_self ..)
          · refine Sp.trans fun s hs => ?_
            rcases List.mem_cons.1 hs with rfl | hs
            · exact .mem (List.mem_append_right _ (List.mem_singleton.2 rfl))
            · have h1 : Sp (S.map (clr p r) ++ [r]) (xr s (clr p r s)) := (hcl s).mono fun x hx => List.mem_append_right _ hx
              have h2 : Sp (S.map (clr p r) ++ [r]) (clr p r s) := .mem (List.mem_append_left _ (List.mem_map_of_mem hs))
              have := h1.plus h2
              rwa [xr_assoc, xr_self, xr_zero] at this
/-- the rank by elimination is the number of reduced rows -/
theorem rk_reduce {S : List Nat} (hS : ∀ r ∈ S, Sm r) : rkS S = (reduceS S).length := (rk_dim _ S rfl hS).unique (dim_reduce hS)

/-! ### kernels of any rows -/
theorem comb_shift : ∀ (S : List Nat) (i z : Nat), comb S (i + 1) z = comb S i (z / 2)
  | [], _, _ => rfl
  | s :: S, i, z => by
    simp only [comb]
    rw [comb_shift S (i + 1) z, show tb z (i + 1) = tb (z / 2) i by unfold tb; rw [Nat.testBit_succ]]
theorem comb_map {f : Nat → Nat} (h : Lin f) : ∀ (S : List Nat) (i z : Nat), comb (S.map f) i z = f (comb S i z)
  | [], _, _ => h.zero.symm
  | s :: S, i, z => by
    simp only [comb, List.map_cons]
    rw [comb_map h S (i + 1) z, h.add]
    congr 1
    split
    · rfl
    · exact h.zero.symm
theorem tb_double (v : Nat) (b : Bool) (i : Nat) : tb (xr (2 * v) b.toNat) i = if i = 0 then b else tb v (i - 1) := by
  rw [tb_xr]
  cases i with
  | zero =>
    rw [if_pos rfl]
    have e1 : tb (2 * v) 0 = false := by unfold tb; rw [Nat.testBit_zero]; simp
    rw [e1]; cases b <;> rfl
  | succ i =>
    rw [if_neg (Nat.succ_ne_zero i)]
    have e1 : tb (2 * v) (i + 1) = tb v i := by unfold tb; rw [Nat.testBit_succ]; congr 1; omega
    have e2 : tb b.toNat (i + 1) = false := by
      cases b
      · exact tb_zero _
      · unfold tb; rw [Nat.testBit_succ]; simp
    rw [e1, e2]; simp
theorem half_double (v : Nat) (b : Bool) : xr (2 * v) b.toNat / 2 = v := by
  apply eq_of_tb
  intro i
  have := tb_double v b (i + 1)
  rw [if_neg (Nat.succ_ne_zero i)] at this
  unfold tb at this ⊢
  rw [Nat.testBit_succ] at this
  exact this
theorem double_half (z : Nat) : xr (2 * (z / 2)) (tb z 0).toNat = z := by
  apply eq_of_tb
  intro i
  rw [tb_double]
  cases i with
  | zero => rw [if_pos rfl]
  | succ i => rw [if_neg (Nat.succ_ne_zero i)]; unfold tb; rw [Nat.testBit_succ]; simp
theorem dbl_lin {b : Nat → Bool} (hb : ∀ x y, b (xr x y) = (b x ^^ b y)) : Lin fun v => xr (2 * v) (b v).toNat := ⟨fun x y => by
  apply eq_of_tb
  intro i
  rw [tb_xr (xr (2 * x) (b x).toNat), tb_double, tb_double, tb_double]
  split
  · exact hb x y
  · exact tb_xr x y _⟩
def KerP (R : List Nat) (z : Nat) : Prop := z < 2 ^ R.length ∧ comb R 0 z = 0
theorem ker_cons {r : Nat} {S : List Nat} (z : Nat) : KerP (r :: S) z ↔ z / 2 < 2 ^ S.length ∧ xr (if tb z 0 = true then r else 0) (comb S 0 (z / 2)) = 0 := by
  unfold KerP
  simp only [comb, List.length_cons]
  rw [comb_shift S 0 z, Nat.pow_succ]
  constructor
  · rintro ⟨h1, h2⟩; exact ⟨by omega, h2⟩
  · rintro ⟨h1, h2⟩; exact ⟨by omega, h2⟩
/-- THE RANK BY ELIMINATION AND THE KERNEL FILL UP THE NUMBER OF ROWS, whatever the rows' size -/
theorem rk_ker : ∀ (n : Nat) (R : List Nat), R.length = n → n ≤ 62 → ∃ k, k + rkS R = R.length ∧ Dim (KerP R) k := by
  intro n
  induction n with
  | zero =>
    intro R hl _
    rw [List.eq_nil_of_length_eq_zero hl]
    refine ⟨0, rfl, [], by simp, fun k hk => by simp at hk, fun v => ⟨fun h => ?_, fun h => ?_⟩, rfl⟩
    · have : v = 0 := by
        cases h with
        | zero => rfl
        | add hm _ => cases hm
      subst this; exact ⟨by simp, rfl⟩
    · have : v = 0 := by have := h.1; simpa using this
      subst this; exact .zero
  | succ n ih =>
    intro R hl hn
    match R, hl with
    | r :: S, hl =>
      have hlS : S.length = n := by simpa using hl
      rw [rkS_cons]
      by_cases h0 : r = 0
      · rw [if_pos h0]
        obtain ⟨k, hk, B, b1, b2, b3, b4⟩ := ih S hlS (by omega)
        have hlin : Lin fun v => 2 * v := by
          have h := dbl_lin (b := fun _ => false) fun _ _ => rfl
          have e : (fun v => xr (2 * v) (false).toNat) = fun v => 2 * v := by funext v; exact xr_zero _
          rwa [e] at h
        have hbit : ∀ v, Sp (B.map fun v => 2 * v) v → tb v 0 = false := fun v => Sp.off fun s hs => by
          obtain ⟨t, _, rfl⟩ := List.mem_map.1 hs
          unfold tb; rw [Nat.testBit_zero]; simp
        refine ⟨k + 1, by simp; omega, (B.map fun v => 2 * v) ++ [1], fun s hs => ?_, fre_snoc (fre_map hlin b2 fun v _ h => by omega) fun h => ?_, fun v => ?_, by simp [b4]⟩
        · rcases List.mem_append.1 hs with hs | hs
          · obtain ⟨t, ht, rfl⟩ := List.mem_map.1 hs
            have := ((b3 t).1 (.mem ht)).1
            refine sm_of_lt (a := n + 1) hn ?_
            rw [hlS] at this; rw [Nat.pow_succ]; omega
          · rw [List.mem_singleton.1 hs]; exact Sm.one
        · have := hbit 1 h; cases this
        · rw [ker_cons]
          constructor
          · intro h
            obtain ⟨a, b, ha, hb, rfl⟩ := sp_append h
            rw [sp_map hlin] at ha
            obtain ⟨u, hu, rfl⟩ := ha
            obtain ⟨k1, k2⟩ := (b3 u).1 hu
            have hb' : b = 0 ∨ b = 1 := by
              rcases sp_cons hb with h | h
              · left
                have h' : ∀ q, Sp [] q → q = 0 := fun q hq => by
                  cases hq with
                  | zero => rfl
                  | add hm _ => cases hm
                exact h' _ h
              · right
                have h' : ∀ q, Sp [] q → q = 0 := fun q hq => by
                  cases hq with
                  | zero => rfl
                  | add hm _ => cases hm
                have := congrArg (xr 1) (h' _ h); rw [xr_xr, xr_zero] at this; exact this
            have e : xr (2 * u) b / 2 = u := by
              rcases hb' with rfl | rfl
              · exact half_double u false
              · exact half_double u true
            rw [e, h0]
            refine ⟨k1, ?_⟩
            rw [k2]; split <;> rfl
          · rintro ⟨h1, h2⟩
            rw [h0] at h2
            have h2' : comb S 0 (v / 2) = 0 := by
              have : (if tb v 0 = true then 0 else 0) = 0 := by split <;> rfl
              rw [this, zero_xr] at h2; exact h2
            have hs : Sp (B.map fun v => 2 * v) (2 * (v / 2)) := (sp_map hlin _).2 ⟨v / 2, (b3 _).2 ⟨h1, h2'⟩, rfl⟩
            rw [← double_half v]
            refine (hs.mono fun x hx => List.mem_append_left _ hx).plus ?_
            cases tb v 0
            · exact .zero
            · exact .mem (List.mem_append_right _ (List.mem_singleton.2 rfl))
      · rw [if_neg h0]
        obtain ⟨hp, _⟩ := lo_spec h0
        generalize lo r = p at *
        obtain ⟨k, hk, hd⟩ := ih (S.map (clr p r)) (by simpa using hlS) (by omega)
        rw [List.length_map] at hk
        have hlin : Lin fun v => xr (2 * v) (tb (comb S 0 v) p).toNat := dbl_lin (b := fun v => tb (comb S 0 v) p) fun x y => by rw [comb_xr, tb_xr]
        have hK : ∀ v, KerP (S.map (clr p r)) v ↔ v < 2 ^ S.length ∧ clr p r (comb S 0 v) = 0 := fun v => by
          unfold KerP; rw [List.length_map, comb_map (clr_lin p r)]
        refine ⟨k, by simp only [List.length_cons]; omega, hd.map hlin ?_ ?_ ?_⟩
        · intro v _ h
          have := half_double v (tb (comb S 0 v) p)
          have h' : xr (2 * v) (tb (comb S 0 v) p).toNat = 0 := h
          rw [h'] at this; simpa using this.symm
        · intro v hv
          have h1 := ((hK v).1 hv).1
          refine sm_of_lt (a := n + 1) hn ?_
          have h2 := half_double v (tb (comb S 0 v) p)
          rw [hlS] at h1; rw [Nat.pow_succ]; omega
        · intro w
          rw [ker_cons]
          constructor
          · rintro ⟨h1, h2⟩
            have e : comb S 0 (w / 2) = if tb w 0 = true then r else 0 := by
              have := congrArg (xr (if tb w 0 = true then r else 0)) h2
              rw [xr_xr, xr_zero] at this; exact this
            have e2 : tb (comb S 0 (w / 2)) p = tb w 0 := by
              rw [e]; cases tb w 0
              · simp [tb_zero]
              · simp [hp]
            refine ⟨w / 2, (hK _).2 ⟨h1, ?_⟩, ?_⟩
            · rw [e]; unfold clr
              cases tb w 0
              · simp [tb_zero]
              · simp [hp, xr_self]
            · simp only [e2]; exact (double_half w).symm
          · rintro ⟨v, hv, rfl⟩
            obtain ⟨h1, h2⟩ := (hK v).1 hv
            rw [half_double]
            refine ⟨h1, ?_⟩
            have e0 : tb (xr (2 * v) (tb (comb S 0 v) p).toNat) 0 = tb (comb S 0 v) p := by rw [tb_double, if_pos rfl]
            rw [e0]
            unfold clr at h2
            cases hb : tb (comb S 0 v) p
            · rw [hb] at h2; simp at h2 ⊢; rw [h2]; rfl
            · rw [hb] at h2; simp at h2 ⊢; rw [xr_comm]; exact h2

/-! ### reduced kernels and meets -/
def kerS (S : List Nat) (k : Nat) : List Nat := kerOut (fun k => spanL ((us 0 S).take k)) S k
theorem kerS_succ (S : List Nat) (k : Nat) : kerS S (k + 1) = kerStep (spanL ((us 0 S).take k)) (S.getD k 0, 2 ^ k) (kerS S k) := rfl
theorem red_len {S : List Nat} {n : Nat} (h : Red S) (hlt : ∀ r ∈ S, r < 2 ^ n) : S.length ≤ n := by
  have := pig1 n (S.map pv) h.nodup (fun x hx => by
    obtain ⟨r, hr, rfl⟩ := List.mem_map.1 hx
    exact pv_lt (h.ne r hr).1 (h.ne r hr).2 (hlt r hr))
  simpa using this
def kerR (S : List Nat) : List Nat := reduceS (kerS S S.length)
theorem kerR_sp {S : List Nat} (hS : ∀ r ∈ S, Sm r) (hl : S.length ≤ 62) (z : Nat) : Sp (kerR S) z ↔ z < 2 ^ S.length ∧ comb S 0 z = 0 := by
  have hK := kerG_span hS hl
  unfold kerR
  rw [sp_reduce (S := kerS S S.length) (hK.sm hl)]
  exact hK.sp_iff z
theorem kerR_red {S : List Nat} (hS : ∀ r ∈ S, Sm r) (hl : S.length ≤ 62) : Red (kerR S) := red_reduce (rows := kerS S S.length) ((kerG_span hS hl).sm hl)
theorem kerR_ok {S : List Nat} (hS : ∀ r ∈ S, Sm r) (hl : S.length ≤ 62) : (∀ r ∈ kerR S, Sm r) ∧ (kerR S).length ≤ S.length :=
  ⟨fun r hr => ((kerR_red hS hl).ne r hr).2, red_len (kerR_red hS hl) fun r hr => ((kerR_sp hS hl r).1 (.mem hr)).1⟩
theorem meetS_sp {A B : List Nat} (hA : ∀ r ∈ A, Sm r) (hB : ∀ r ∈ B, Sm r) (u : Nat) : Sp (meetS A B) u ↔ Sp A u ∧ Sp B u := by
  have hG := meetG_span hA hB
  unfold meetS
  rw [sp_reduce (hG.sm hA)]
  exact hG.sp_iff u
theorem meetS_red {A B : List Nat} (hA : ∀ r ∈ A, Sm r) (hB : ∀ r ∈ B, Sm r) : Red (meetS A B) ∧ Asc (meetS A B) := ⟨red_reduce ((meetG_span hA hB).sm hA), asc_reduce ((meetG_span hA hB).sm hA)⟩
end Go.Proofs.Ytnffpjdlpjkioaa

namespace Go.Proofs.Ytnffpjdlpjkioaa

section
variable {xs : List Int} {Q : List (List Int)}
theorem Shp.srtL (h : Shp xs Q) : SrtL xs := fun _ _ hij hj => h.mono' hij hj
theorem Shp.sm (h : Shp xs Q) {v : Nat} (hv : v < 2 ^ xs.length) : Sm v := sm_of_lt (a := xs.length) (by have := h.len; omega) hv
theorem tb_an (a b i : Nat) : tb (an a b) i = (tb a i && tb b i) := by unfold tb an; exact Nat.testBit_and ..
theorem an_xr (a b m : Nat) : an (xr a b) m = xr (an a m) (an b m) := eq_of_tb fun i => by
  rw [tb_an, tb_xr, tb_xr, tb_an, tb_an]; cases tb a i <;> cases tb b i <;> cases tb m i <;> rfl

theorem sp_lt {S : List Nat} {n : Nat} (h : ∀ r ∈ S, r < 2 ^ n) {v : Nat} (hv : Sp S v) : v < 2 ^ n := by
  induction hv with
  | zero => exact Nat.two_pow_pos _
  | add hm _ ih => exact xr_lt (h _ hm) ih

/-! ### how many of a degree -/
def cnt (l : List Int) (d : Int) : Nat := l.countP fun x => decide (x = d)
theorem cnt_take {l : List Int} {k : Nat} (h : k < l.length) (d : Int) : cnt (l.take (k + 1)) d = cnt (l.take k) d + if l.getD k 0 = d then 1 else 0 := by
  rw [take_succ_getD h]
  unfold cnt
  rw [List.countP_append, List.countP_singleton]
  congr 1
  by_cases e : l.getD k 0 = d
  · rw [if_pos e, if_pos (by simpa using e)]
  · rw [if_neg e, if_neg (by simpa using e)]
theorem cnt_ofDeg (xs : List Int) (Z : List Nat) (d : Int) : cnt (Z.map fun r => xs.getD (pv r) 0) d = (ofDeg xs d Z).length := by
  unfold cnt ofDeg
  rw [List.countP_map, List.countP_eq_length_filter]; rfl
theorem cnt_idx (xs : List Int) (d : Int) : ∀ k, k ≤ xs.length → ((List.range k).filter fun v => decide (xs.getD v 0 = d)).length = cnt (xs.take k) d
  | 0, _ => rfl
  | k + 1, h => by
    rw [List.range_succ, List.filter_append, List.length_append, cnt_idx xs d k (by omega), cnt_take (by omega)]
    congr 1
    by_cases e : xs.getD k 0 = d
    · rw [if_pos e, List.filter_cons_of_pos (by simpa using e)]; rfl
    · rw [if_neg e, List.filter_cons_of_neg (by simpa using e)]; rfl

/-! ### generators -/
/-- all squares of the basis, of the degrees 1 .. k -/
def sqAll (Q : List (List Int)) (size : Nat) : Nat → List Nat
  | 0 => []
  | k + 1 => sqAll Q size k ++ sqRow Q size (k + 1)
theorem sqAll_length (Q : List (List Int)) (size : Nat) : ∀ k, (sqAll Q size k).length = k * size
  | 0 => by simp [sqAll]
  | k + 1 => by unfold sqAll; rw [List.length_append, sqAll_length Q size k, sqRow_length, Nat.succ_mul]
theorem mem_sqAll {size : Nat} {r : Nat} : ∀ k, r ∈ sqAll Q size k ↔ ∃ n i, n < k ∧ i < size ∧ r = sqOr Q (n + 1) i
  | 0 => by simp [sqAll]
  | k + 1 => by
    unfold sqAll
    rw [List.mem_append, mem_sqAll k]
    constructor
    · rintro (⟨n, i, hn, hi, rfl⟩ | h)
      · exact ⟨n, i, by omega, hi, rfl⟩
      · unfold sqRow at h
        obtain ⟨i, hi, rfl⟩ := List.mem_map.1 h
        exact ⟨k, i, by omega, List.mem_range.1 hi, rfl⟩
    · rintro ⟨n, i, hn, hi, rfl⟩
      by_cases e : n = k
      · subst e; right; unfold sqRow; exact List.mem_map.2 ⟨i, List.mem_range.2 hi, rfl⟩
      · left; exact ⟨n, i, by omega, hi, rfl⟩
/-- the squares of basis elements below a degree that come into it -/
def genTo (xs : List Int) (Q : List (List Int)) (d : Int) (k : Nat) : List Nat := ((List.range k).filter fun v => decide (xs.getD v 0 < d)).map fun v => act Q (d - xs.getD v 0) (2 ^ v)
theorem genTo_succ (xs : List Int) (Q : List (List Int)) (d : Int) (k : Nat) : genTo xs Q d (k + 1) = genTo xs Q d k ++ if xs.getD k 0 < d then [act Q (d - xs.getD k 0) (2 ^ k)] else [] := by
  unfold genTo
  rw [List.range_succ, List.filter_append, List.map_append]
  congr 1
  by_cases e : xs.getD k 0 < d
  · rw [if_pos e, List.filter_cons_of_pos (by simpa using e)]; rfl
  · rw [if_neg e, List.filter_cons_of_neg (by simpa using e)]; rfl
def genRows (xs : List Int) (Q : List (List Int)) (d : Int) : List Nat := genTo xs Q d xs.length
theorem genTo_mem {d : Int} {k r : Nat} (h : r ∈ genTo xs Q d k) : ∃ v, v < k ∧ xs.getD v 0 < d ∧ r = act Q (d - xs.getD v 0) (2 ^ v) := by
  unfold genTo at h
  obtain ⟨v, hv, rfl⟩ := List.mem_map.1 h
  obtain ⟨h1, h2⟩ := List.mem_filter.1 hv
  exact ⟨v, List.mem_range.1 h1, by simpa using h2, rfl⟩
theorem mem_genTo {d : Int} {k v : Nat} (hv : v < k) (hd : xs.getD v 0 < d) : act Q (d - xs.getD v 0) (2 ^ v) ∈ genTo xs Q d k := by
  unfold genTo
  exact List.mem_map.2 ⟨v, List.mem_filter.2 ⟨List.mem_range.2 hv, by simpa using hd⟩, rfl⟩
theorem pow_lt_len {v : Nat} (h : v < xs.length) : 2 ^ v < 2 ^ xs.length := pow_lt_pow h
theorem genTo_lt (h : Shp xs Q) {d : Int} {k r : Nat} (hk : k ≤ xs.length) (hr : r ∈ genTo xs Q d k) : r < 2 ^ xs.length := by
  obtain ⟨v, hv, _, rfl⟩ := genTo_mem hr
  exact act_lt h (pow_lt_len (by omega)) _
theorem sqAll_sm (h : Shp xs Q) {k : Nat} : ∀ r ∈ sqAll Q xs.length k, Sm r := fun r hr => by
  obtain ⟨n, i, hn, hi, rfl⟩ := (mem_sqAll k).1 hr
  rw [sqOr_act h]; exact h.sm (act_lt h (pow_lt_len hi) _)
/-- as many reduced squares of a degree as the rank of the squares that come into it -/
theorem gen_law (h : Shp xs Q) (d : Nat) (hd : d ≤ 20) : (ofDeg xs (d : Int) (reduceS (sqAll Q xs.length 20))).length = rkS (genRows xs Q (d : Int)) := by
  have hS := sqAll_sm (k := 20) h
  have hh : ∀ r ∈ sqAll Q xs.length 20, r ≠ 0 → ∃ d : Nat, d < 21 ∧ Hom xs (d : Int) r := by
    intro r hr h0
    obtain ⟨n, i, hn, hi, rfl⟩ := (mem_sqAll 20).1 hr
    rw [sqOr_act h] at h0 ⊢
    have hH := act_hom h (n := ((n + 1 : Nat) : Int)) (Hom.pow (xs := xs) hi)
    have hp := hH.pv h0 (h.sm (act_lt h (pow_lt_len hi) _))
    have h1 := h.deg _ hp.1
    have h2 := h.deg i hi
    refine ⟨(xs.getD i 0 + ((n + 1 : Nat) : Int)).toNat, by omega, ?_⟩
    rw [Int.toNat_of_nonneg (by omega)]; exact hH
  have e := byDeg_eq h.srtL hS hh
  rw [← e, ofDeg_byDeg hS d 21 (by omega)]
  unfold part
  refine (dim_reduce (sm_filter hS _)).unique ((rk_dim _ (genRows xs Q (d : Int)) rfl fun r hr => h.sm (genTo_lt h (Nat.le_refl _) hr)).congr fun v => ?_)
  constructor
  · refine Sp.trans fun r hr => .mem (List.mem_filter.2 ?_)
    obtain ⟨v, hv, hlt, rfl⟩ := genTo_mem hr
    have h2 := h.deg v hv
    have e : (d : Int) - xs.getD v 0 = (((d : Int) - xs.getD v 0 - 1).toNat + 1 : Nat) := by omega
    refine ⟨(mem_sqAll 20).2 ⟨((d : Int) - xs.getD v 0 - 1).toNat, v, by omega, hv, ?_⟩, homB_iff.2 ?_⟩
    · rw [sqOr_act h, ← e]
    · have := act_hom h (n := (d : Int) - xs.getD v 0) (Hom.pow (xs := xs) hv)
      rwa [show xs.getD v 0 + ((d : Int) - xs.getD v 0) = d by omega] at this
  · refine Sp.trans fun r hr => ?_
    obtain ⟨hr, hb⟩ := List.mem_filter.1 hr
    obtain ⟨n, i, hn, hi, rfl⟩ := (mem_sqAll 20).1 hr
    by_cases h0 : sqOr Q (n + 1) i = 0
    · rw [h0]; exact .zero
    · have hH := homB_iff.1 hb
      rw [sqOr_act h] at h0 hH ⊢
      have hs := h.sm (act_lt h (pow_lt_len hi) ((n + 1 : Nat) : Int))
      have p1 := (hH.pv h0 hs).2
      have p2 := ((act_hom h (n := ((n + 1 : Nat) : Int)) (Hom.pow (xs := xs) hi)).pv h0 hs).2
      have e : ((n + 1 : Nat) : Int) = (d : Int) - xs.getD i 0 := by omega
      rw [e]
      exact .mem (mem_genTo hi (by omega))

/-! ### annihilated vectors -/
theorem tb_shl (b m i : Nat) : tb (b <<< m) i = (decide (m ≤ i) && tb b (i - m)) := by unfold tb; exact Nat.testBit_shiftLeft ..
theorem shl_xr (a b m : Nat) : (xr a b) <<< m = xr (a <<< m) (b <<< m) := eq_of_tb fun i => by
  rw [tb_shl, tb_xr, tb_xr, tb_shl, tb_shl]; cases decide (m ≤ i) <;> simp
theorem shl_lt {b n m : Nat} (h : b < 2 ^ n) : b <<< m < 2 ^ (m + n) := lt_of_tb fun i hi => by
  rw [tb_shl, tb_of_lt h (by omega)]; simp
/-- all squares of a vector, one behind the other -/
def bigR (Q : List (List Int)) (n v : Nat) : Nat → Nat
  | 0 => 0
  | k + 1 => xr (bigR Q n v k) (act Q ((k + 1 : Nat) : Int) v <<< (k * n))
theorem bigR_lt (h : Shp xs Q) {v : Nat} (hv : v < 2 ^ xs.length) : ∀ k, bigR Q xs.length v k < 2 ^ (k * xs.length)
  | 0 => Nat.two_pow_pos _
  | k + 1 => by
    unfold bigR
    refine xr_lt (Nat.lt_of_lt_of_le (bigR_lt h hv k) (Nat.pow_le_pow_right (by omega) (Nat.mul_le_mul_right _ (by omega)))) ?_
    rw [Nat.succ_mul]; exact shl_lt (act_lt h hv _)
theorem bigR_lin (Q : List (List Int)) (n : Nat) : ∀ k, Lin fun v => bigR Q n v k
  | 0 => ⟨fun _ _ => (xr_self 0).symm⟩
  | k + 1 => ⟨fun x y => by
    show xr (bigR Q n (xr x y) k) (act Q ((k + 1 : Nat) : Int) (xr x y) <<< (k * n)) = xr (xr (bigR Q n x k) (act Q ((k + 1 : Nat) : Int) x <<< (k * n))) (xr (bigR Q n y k) (act Q ((k + 1 : Nat) : Int) y <<< (k * n)))
    rw [(bigR_lin Q n k).add, act_lin, shl_xr]
    simp only [xr_assoc]
    rw [xr_left (bigR Q n y k)]⟩
theorem bigR_zero (h : Shp xs Q) {v : Nat} (hv : v < 2 ^ xs.length) : ∀ k, bigR Q xs.length v k = 0 ↔ ∀ t, t < k → act Q ((t + 1 : Nat) : Int) v = 0
  | 0 => by simp [bigR]
  | k + 1 => by
    have hl := bigR_lt h hv k
    constructor
    · intro h0
      have hb : ∀ i, (tb (bigR Q xs.length v k) i ^^ (decide (k * xs.length ≤ i) && tb (act Q ((k + 1 : Nat) : Int) v) (i - k * xs.length))) = false := fun i => by
        have := congrArg (fun z => tb z i) h0
        simp only [bigR] at this
        rwa [tb_xr, tb_shl, tb_zero] at this
      have h1 : bigR Q xs.length v k = 0 := eq_zero_of_tb fun i => by
        rcases Nat.lt_or_ge i (k * xs.length) with hi | hi
        · have := hb i
          rw [decide_eq_false (by omega)] at this
          simpa using this
        · exact tb_of_lt hl hi
      have h2 : act Q ((k + 1 : Nat) : Int) v = 0 := eq_zero_of_tb fun i => by
        have := hb (i + k * xs.length)
        rw [tb_of_lt hl (by omega), decide_eq_true (by omega), Nat.add_sub_cancel] at this
        simpa using this
      intro t ht
      by_cases e : t = k
      · subst e; exact h2
      · exact (bigR_zero h hv k).1 h1 t (by omega)
    · intro h0
      unfold bigR
      rw [(bigR_zero h hv k).2 fun t ht => h0 t (by omega), h0 k (by omega)]
      rw [Nat.zero_shiftLeft]; rfl
theorem bits_app (a b m n : Nat) (ha : a < 2 ^ m) : bitsL (xr a (b <<< m)) (m + n) = bitsL a m ++ bitsL b n := by
  have e : (m + n) = (bitsL a m ++ bitsL b n).length := by rw [List.length_append, bitsL_length, bitsL_length]
  refine list_ext_getD (bitsL_length _ _) e.symm fun i hi => ?_
  rw [bitsL_getD _ hi]
  rcases Nat.lt_or_ge i m with h1 | h1
  · rw [show (bitsL a m ++ bitsL b n).getD i 0 = (bitsL a m).getD i 0 by simp [List.getD, List.getElem?_append_left (show i < (bitsL a m).length by rw [bitsL_length]; exact h1)], bitsL_getD _ h1]
    unfold bit
    rw [tb_xr, tb_shl, decide_eq_false (by omega)]; simp
  · rw [show (bitsL a m ++ bitsL b n).getD i 0 = (bitsL b n).getD (i - m) 0 by simp [List.getD, List.getElem?_append_right (show (bitsL a m).length ≤ i by rw [bitsL_length]; exact h1), bitsL_length], bitsL_getD _ (by omega)]
    unfold bit
    rw [tb_xr, tb_shl, decide_eq_true h1, tb_of_lt ha h1]; simp
theorem bigR_bits (h : Shp xs Q) {v : Nat} (hv : v < 2 ^ xs.length) (k : Nat) : bitsL (bigR Q xs.length v (k + 1)) ((k + 1) * xs.length) = bitsL (bigR Q xs.length v k) (k * xs.length) ++ bitsL (act Q ((k + 1 : Nat) : Int) v) xs.length := by
  rw [Nat.succ_mul]; exact bits_app _ _ _ _ (bigR_lt h hv k)
def annTo (xs : List Int) (Q : List (List Int)) (d : Int) (k : Nat) : List Nat := ((List.range k).filter fun v => decide (xs.getD v 0 = d)).map fun v => bigR Q xs.length (2 ^ v) 20
theorem annTo_succ (xs : List Int) (Q : List (List Int)) (d : Int) (k : Nat) : annTo xs Q d (k + 1) = annTo xs Q d k ++ if xs.getD k 0 = d then [bigR Q xs.length (2 ^ k) 20] else [] := by
  unfold annTo
  rw [List.range_succ, List.filter_append, List.map_append]
  congr 1
  by_cases e : xs.getD k 0 = d
  · rw [if_pos e, List.filter_cons_of_pos (by simpa using e)]; rfl
  · rw [if_neg e, List.filter_cons_of_neg (by simpa using e)]; rfl
def annRows (xs : List Int) (Q : List (List Int)) (d : Int) : List Nat := annTo xs Q d xs.length
theorem annTo_lt (h : Shp xs Q) {d : Int} {k r : Nat} (hk : k ≤ xs.length) (hr : r ∈ annTo xs Q d k) : r < 2 ^ (20 * xs.length) := by
  unfold annTo at hr
  obtain ⟨v, hv, rfl⟩ := List.mem_map.1 hr
  exact bigR_lt h (pow_lt_len (Nat.lt_of_lt_of_le (List.mem_range.1 (List.mem_filter.1 hv).1) hk)) 20
theorem annTo_length (xs : List Int) (Q : List (List Int)) (d : Int) {k : Nat} (hk : k ≤ xs.length) : (annTo xs Q d k).length = cnt (xs.take k) d := by
  unfold annTo; rw [List.length_map]; exact cnt_idx xs d k hk
/-- vectors of which all squares make 0 -/
def AnnZ (xs : List Int) (Q : List (List Int)) (v : Nat) : Prop := v < 2 ^ xs.length ∧ ∀ t, t < 20 → act Q ((t + 1 : Nat) : Int) v = 0
theorem AnnZ.xr {v w : Nat} (hv : AnnZ xs Q v) (hw : AnnZ xs Q w) : AnnZ xs Q (xr v w) :=
  ⟨xr_lt hv.1 hw.1, fun t ht => by rw [act_lin, hv.2 t ht, hw.2 t ht]; rfl⟩
theorem AnnZ.zero (xs : List Int) (Q : List (List Int)) : AnnZ xs Q 0 := ⟨Nat.two_pow_pos _, fun _ _ => act_zero _ _⟩
theorem AnnZ.sp {S : List Nat} (h : ∀ r ∈ S, AnnZ xs Q r) {v : Nat} (hv : Sp S v) : AnnZ xs Q v := by
  induction hv with
  | zero => exact AnnZ.zero _ _
  | add hm _ ih => exact (h _ hm).xr ih
/-- no digit of a degree -/
def NoDeg (xs : List Int) (d : Int) (v : Nat) : Prop := ∀ c, tb v c = true → c < xs.length ∧ xs.getD c 0 ≠ d
theorem NoDeg.zero (xs : List Int) (d : Int) : NoDeg xs d 0 := fun c h => by rw [tb_zero] at h; cases h
theorem NoDeg.xr {d : Int} {v w : Nat} (hv : NoDeg xs d v) (hw : NoDeg xs d w) : NoDeg xs d (xr v w) := fun c h => by
  rw [tb_xr] at h
  cases h1 : tb v c
  · rw [h1] at h; exact hw c (by simpa using h)
  · exact hv c h1
theorem noDeg_hit {e : List Int} (he : EntM xs e) (n d : Int) {v : Nat} (hv : NoDeg xs d v) : NoDeg xs (d + n) (hit n v e) := by
  unfold hit; split
  · rename_i h
    have h1 := (hv _ h.2).2
    have h2 := he.dg
    intro c hc
    rw [tb_pow] at hc; simp only [decide_eq_true_eq] at hc
    subst hc
    refine ⟨by have := he.lo2; have := he.hi2; omega, ?_⟩
    rw [h2, h.1]; omega
  · exact NoDeg.zero _ _
theorem noDeg_actE (n d : Int) {v : Nat} (hv : NoDeg xs d v) : ∀ {Q : List (List Int)}, (∀ e ∈ Q, EntM xs e) → NoDeg xs (d + n) (actE Q n v)
  | [], _ => NoDeg.zero _ _
  | e :: Q, h => by
    rw [actE_cons]
    exact (noDeg_hit (h e (List.mem_cons_self ..)) n d hv).xr (noDeg_actE n d hv fun f hf => h f (List.mem_cons_of_mem _ hf))
theorem Hom.noDeg {d : Int} {v : Nat} (h : Hom xs d v) (h2 : NoDeg xs d v) : v = 0 := eq_zero_of_tb fun c => by
  cases hc : tb v c with
  | false => rfl
  | true => exact absurd (h c hc).2 (h2 c hc).2
theorem comp_hom (xs : List Int) (d : Int) (v : Nat) : Hom xs d (an v (dmask xs d)) := fun c hc => by
  rw [tb_an, tb_dmask] at hc
  simp only [Bool.and_eq_true, decide_eq_true_eq] at hc
  exact hc.2
theorem hom_comp {d : Int} {v : Nat} (h : Hom xs d v) : an v (dmask xs d) = v := eq_of_tb fun c => by
  rw [tb_an, tb_dmask]
  cases hc : tb v c with
  | false => rfl
  | true => rw [decide_eq_true (h c hc).1, decide_eq_true (h c hc).2]; rfl
theorem AnnZ.comp (h : Shp xs Q) {v : Nat} (hv : AnnZ xs Q v) (d : Int) : AnnZ xs Q (an v (dmask xs d)) := by
  have hc := comp_hom xs d v
  refine ⟨hc.lt, fun t ht => ?_⟩
  have e : Go.Proofs.Ytnffpjdlpjkioaa.xr (an v (dmask xs d)) (nt v (dmask xs d)) = v := eq_of_tb fun i => by
    rw [tb_xr, tb_an, tb_nt]; cases tb v i <;> cases tb (dmask xs d) i <;> rfl
  have h0 := hv.2 t ht
  rw [← e, act_lin] at h0
  have e2 : act Q ((t + 1 : Nat) : Int) (an v (dmask xs d)) = act Q ((t + 1 : Nat) : Int) (nt v (dmask xs d)) := by
    have := congrArg (Go.Proofs.Ytnffpjdlpjkioaa.xr (act Q ((t + 1 : Nat) : Int) (an v (dmask xs d)))) h0
    rw [xr_xr, xr_zero] at this; exact this.symm
  have hH := act_hom h (n := ((t + 1 : Nat) : Int)) hc
  refine hH.noDeg ?_
  rw [e2, act_pos (by omega)]
  refine noDeg_actE _ _ (fun c hc => ?_) fun e he => h.mem he
  rw [tb_nt, tb_dmask] at hc
  simp only [Bool.and_eq_true, Bool.not_eq_true', Bool.and_eq_false_iff, decide_eq_false_iff_not] at hc
  have hlt : c < xs.length := by
    rcases Nat.lt_or_ge c xs.length with h1 | h1
    · exact h1
    · rw [tb_of_lt hv.1 h1] at hc; cases hc.1
  refine ⟨hlt, ?_⟩
  rcases hc.2 with h1 | h1
  · exact absurd hlt h1
  · exact h1
/-- the digits of the degrees below k -/
def lowR (xs : List Int) (v : Nat) : Nat → Nat
  | 0 => 0
  | k + 1 => xr (an v (dmask xs (k : Int))) (lowR xs v k)
theorem tb_lowR (xs : List Int) (v : Nat) : ∀ k i, tb (lowR xs v k) i = (tb v i && (decide (i < xs.length) && decide (0 ≤ xs.getD i 0 ∧ xs.getD i 0 < (k : Int))))
  | 0, i => by
    unfold lowR
    rw [tb_zero, decide_eq_false (show ¬ (0 ≤ xs.getD i 0 ∧ xs.getD i 0 < ((0 : Nat) : Int)) by omega)]; simp
  | k + 1, i => by
    unfold lowR
    rw [tb_xr, tb_an, tb_dmask, tb_lowR xs v k i]
    by_cases h : xs.getD i 0 = (k : Int)
    · rw [decide_eq_true h, decide_eq_false (show ¬ (0 ≤ xs.getD i 0 ∧ xs.getD i 0 < (k : Int)) by omega), decide_eq_true (show 0 ≤ xs.getD i 0 ∧ xs.getD i 0 < ((k + 1 : Nat) : Int) by omega)]
      cases tb v i <;> cases decide (i < xs.length) <;> rfl
    · rw [decide_eq_false h]
      have e : decide (0 ≤ xs.getD i 0 ∧ xs.getD i 0 < (k : Int)) = decide (0 ≤ xs.getD i 0 ∧ xs.getD i 0 < ((k + 1 : Nat) : Int)) := by
        apply decide_eq_decide.2; omega
      rw [e]
      cases tb v i <;> cases decide (i < xs.length) <;> simp
theorem lowR_all (h : Shp xs Q) {v : Nat} (hv : v < 2 ^ xs.length) : lowR xs v 21 = v := eq_of_tb fun i => by
  rw [tb_lowR]
  rcases Nat.lt_or_ge i xs.length with h1 | h1
  · have := h.deg i h1
    rw [decide_eq_true h1, decide_eq_true (show 0 ≤ xs.getD i 0 ∧ xs.getD i 0 < ((21 : Nat) : Int) by omega)]; simp
  · rw [tb_of_lt hv h1]; rfl
theorem sp_lowR {S : List Nat} {v : Nat} : ∀ k, (∀ d, d < k → Sp S (an v (dmask xs ((d : Nat) : Int)))) → Sp S (lowR xs v k)
  | 0, _ => .zero
  | k + 1, h => (h k (by omega)).plus (sp_lowR k fun d hd => h d (by omega))
theorem sp_bits {S : List Nat} : ∀ n w, w < 2 ^ n → (∀ i, tb w i = true → 2 ^ i ∈ S) → Sp S w
  | 0, w, hw, _ => by
    have : w = 0 := by simpa using hw
    subst this; exact .zero
  | n + 1, w, hw, h => by
    cases hb : tb w n
    · exact sp_bits n w (lt_of_top hw hb) h
    · have h1 : xr (2 ^ n) w < 2 ^ n := lt_of_tb fun m hm => by
        rw [tb_xr, tb_pow]
        by_cases e : n = m
        · subst e; rw [hb]; simp
        · rw [decide_eq_false e, tb_of_lt hw (by omega)]; rfl
      have h2 := sp_bits (S := S) n _ h1 fun i hi => h i (by
        rw [tb_xr, tb_pow] at hi
        by_cases e : n = i
        · subst e; exact hb
        · rw [decide_eq_false e] at hi; simpa using hi)
      have := Sp.add (h n hb) h2
      rwa [xr_xr] at this
theorem fre_pows : ∀ {I : List Nat}, I.Nodup → Fre (I.map fun v => 2 ^ v) := by
  intro I hI k hk hs
  rw [List.length_map] at hk
  rw [← List.map_take, show (I.map fun v => 2 ^ v).getD k 0 = 2 ^ I[k] by simp [List.getD, hk]] at hs
  have := hs.off (n := I[k]) fun r hr => by
    obtain ⟨v, hv, rfl⟩ := List.mem_map.1 hr
    rw [tb_pow]
    simp only [decide_eq_false_iff_not]
    rintro rfl
    obtain ⟨j, hj, e⟩ := List.getElem_of_mem hv
    rw [List.length_take] at hj
    rw [List.getElem_take] at e
    exact (List.pairwise_iff_getElem.1 hI) j k (by omega) hk (by omega) e
  rw [tb_pow] at this; simp at this
/-- THE NUMBER OF ANNIHILATED VECTORS OF A DEGREE AND THE RANK OF ALL SQUARES OF THE DEGREE FILL UP ITS DIMENSION -/
theorem ann_law (h : Shp xs Q) {Z : List Nat} (hZ : Red Z) (hA : Asc Z) (hs : ∀ v, Sp Z v ↔ AnnZ xs Q v) (d : Nat) (hd : d ≤ 20) : (ofDeg xs (d : Int) Z).length + rkS (annRows xs Q (d : Int)) = cnt xs (d : Int) := by
  have hmS : ∀ r, r ∈ (Z.flatMap fun r => (List.range 21).map fun d => an r (dmask xs ((d : Nat) : Int))) ↔ ∃ s ∈ Z, ∃ d, d < 21 ∧ r = an s (dmask xs ((d : Nat) : Int)) := by
    intro r
    rw [List.mem_flatMap]
    constructor
    · rintro ⟨s, hs, hr⟩
      obtain ⟨d, hd, rfl⟩ := List.mem_map.1 hr
      exact ⟨s, hs, d, List.mem_range.1 hd, rfl⟩
    · rintro ⟨s, hs, d, hd, rfl⟩
      exact ⟨s, hs, List.mem_map.2 ⟨d, List.mem_range.2 hd, rfl⟩⟩
  generalize (Z.flatMap fun r => (List.range 21).map fun d => an r (dmask xs ((d : Nat) : Int))) = S at hmS
  have hann : ∀ r ∈ S, AnnZ xs Q r := fun r hr => by
    obtain ⟨s, hs', d, _, rfl⟩ := (hmS r).1 hr
    exact ((hs s).1 (.mem hs')).comp h _
  have hS : ∀ r ∈ S, Sm r := fun r hr => h.sm (hann r hr).1
  have hh : ∀ r ∈ S, r ≠ 0 → ∃ d : Nat, d < 21 ∧ Hom xs (d : Int) r := fun r hr _ => by
    obtain ⟨s, _, d, hd, rfl⟩ := (hmS r).1 hr
    exact ⟨d, hd, comp_hom xs _ s⟩
  have e1 : reduceS S = Z := red_asc_unique (red_reduce hS) hZ (asc_reduce hS) hA fun v => by
    rw [sp_reduce hS]
    constructor
    · exact fun hv => (hs v).2 (AnnZ.sp hann hv)
    · refine Sp.trans fun r hr => ?_
      have hr1 := (hs r).1 (.mem hr)
      rw [← lowR_all h hr1.1]
      exact sp_lowR 21 fun d hd => .mem ((hmS _).2 ⟨r, hr, d, hd, rfl⟩)
  have e := byDeg_eq h.srtL hS hh
  rw [← e1, ← e, ofDeg_byDeg hS d 21 (by omega)]
  unfold part
  have hD := (dim_reduce (sm_filter hS (homB xs (d : Int)))).congr (Q := fun v => AnnZ xs Q v ∧ Hom xs (d : Int) v) fun v => by
    constructor
    · intro hv
      exact ⟨AnnZ.sp (fun r hr => hann r (List.mem_filter.1 hr).1) hv, hom_sp (fun r hr => homB_iff.1 (List.mem_filter.1 hr).2) hv⟩
    · rintro ⟨h1, h2⟩
      have key : ∀ u, Sp Z u → Sp (S.filter (homB xs (d : Int))) (an u (dmask xs (d : Int))) := by
        intro u hu
        induction hu with
        | zero => rw [show an 0 (dmask xs (d : Int)) = 0 from Nat.zero_and _]; exact .zero
        | add hm _ ih =>
          rw [an_xr]
          exact .add (List.mem_filter.2 ⟨(hmS _).2 ⟨_, hm, d, by omega, rfl⟩, homB_iff.2 (comp_hom xs _ _)⟩) ih
      have := key v ((hs v).2 h1)
      rwa [hom_comp h2] at this
  have hR : (annRows xs Q (d : Int)).length = cnt xs (d : Int) := by
    unfold annRows; rw [annTo_length xs Q _ (Nat.le_refl _), List.take_of_length_le (Nat.le_refl _)]
  have hle : cnt xs (d : Int) ≤ 16 := Nat.le_trans List.countP_le_length h.len
  obtain ⟨k, hk, hK⟩ := rk_ker _ (annRows xs Q (d : Int)) rfl (by omega)
  have hI : ((List.range xs.length).filter fun v => decide (xs.getD v 0 = (d : Int))).Nodup := List.Pairwise.filter _ List.nodup_range
  have hIm : ∀ i, i ∈ ((List.range xs.length).filter fun v => decide (xs.getD v 0 = (d : Int))) ↔ i < xs.length ∧ xs.getD i 0 = (d : Int) := fun i => by
    rw [List.mem_filter, List.mem_range, decide_eq_true_eq]
  have hRB : annRows xs Q (d : Int) = (((List.range xs.length).filter fun v => decide (xs.getD v 0 = (d : Int))).map fun v => 2 ^ v).map fun v => bigR Q xs.length v 20 := by
    unfold annRows annTo; rw [List.map_map]; rfl
  generalize ((List.range xs.length).filter fun v => decide (xs.getD v 0 = (d : Int))) = I at *
  have hBm : ∀ r ∈ I.map (fun v => 2 ^ v), r < 2 ^ xs.length ∧ Hom xs (d : Int) r := fun r hr => by
    obtain ⟨i, hi, rfl⟩ := List.mem_map.1 hr
    obtain ⟨a, b⟩ := (hIm i).1 hi
    refine ⟨pow_lt_len a, ?_⟩
    rw [← b]; exact Hom.pow a
  have hF := fre_pows hI
  generalize hB : I.map (fun v => 2 ^ v) = B at *
  have hlen : (annRows xs Q (d : Int)).length = B.length := by rw [hRB, List.length_map]
  have hclt : ∀ z, comb B 0 z < 2 ^ xs.length := fun z => comb_lt (fun r hr => (hBm r hr).1) 0 z
  have hD2 : Dim (fun v => AnnZ xs Q v ∧ Hom xs (d : Int) v) k := by
    refine hK.map (f := comb B 0) ⟨fun x y => comb_xr B 0 x y⟩ ?_ (fun v _ => h.sm (hclt v)) fun w => ?_
    · intro z hz h0
      refine comb_inj hF B.length z (Nat.le_refl _) ?_ h0
      have := hz.1; rwa [hlen] at this
    · constructor
      · rintro ⟨h1, h2⟩
        have hw : Sp B w := sp_bits xs.length w h1.1 fun i hi => by
          rw [← hB]; exact List.mem_map.2 ⟨i, (hIm i).2 (h2 i hi), rfl⟩
        have hBs : ∀ r ∈ B, Sm r := fun r hr => h.sm (hBm r hr).1
        have h0 := (sol_iff hBs w).2 hw
        have hc := sol_comb w h0
        have hz := sol_lt (fun r hr => (hBm r hr).1) h1.1
        refine ⟨(solL B w).2, ⟨by rw [hlen]; exact hz, ?_⟩, hc.symm⟩
        rw [hRB, comb_map (bigR_lin Q xs.length 20), hc]
        exact (bigR_zero h h1.1 20).2 h1.2
      · rintro ⟨z, hz, rfl⟩
        have h0 := hz.2
        rw [hRB, comb_map (bigR_lin Q xs.length 20)] at h0
        exact ⟨⟨hclt z, (bigR_zero h (hclt z) 20).1 h0⟩, hom_sp (fun r hr => (hBm r hr).2) (comb_sp B 0 z)⟩
  have := hD.unique hD2
  rw [this, ← hR]; exact hk
end
end Go.Proofs.Ytnffpjdlpjkioaa

namespace Go.Proofs.Ytnffpjdlpjkioaa
open Go.RowKit

theorem frontL_len (i : Int) (ws : List Int) : (frontL i ws).length ≤ ws.length + 1 := by unfold frontL; split <;> simp
theorem rows_one {M : List Row} {x : List Int} (h : dat M = [x]) : ∃ r, M = [r] ∧ r.xs = x := by
  match M, h with
  | [r], h => exact ⟨r, rfl, by simpa [dat] using h⟩

end Go.Proofs.Ytnffpjdlpjkioaa

namespace Go.Proofs.Ytnffpjdlpjkioaa
open Go.RowKit

def ademP (a b j : Nat) : List (List Int) := (((List.range j).filter (relB a b)).reverse).map (ademW a b)
theorem ademP_yes {a b j : Nat} (h : relB a b j = true) : ademP a b (j + 1) = ademW a b j :: ademP a b j := by
  unfold ademP; rw [List.range_succ, List.filter_append]; simp [h]
theorem ademP_no {a b j : Nat} (h : relB a b j = false) : ademP a b (j + 1) = ademP a b j := by
  unfold ademP; rw [List.range_succ, List.filter_append]; simp [h]
theorem ademP_len (a b j : Nat) : (ademP a b j).length ≤ j := by
  unfold ademP
  rw [List.length_map, List.length_reverse]
  exact Nat.le_trans (List.length_filter_le _ _) (by simp)
theorem ademP_all (a b : Nat) : ademP a b (a / 2 + 1) = ademF a b := rfl
theorem lexLt_head {a b : Int} {x y : List Int} (h : a < b) : lexLt (a :: x) (b :: y) = true := by
  simp only [lexLt]; rw [if_neg (by omega)]; simpa using h
theorem ademW_lt {a b i j : Nat} (hij : i < j) (hj : 2 * j ≤ a) : lexLt (ademW a b j) (ademW a b i) = true := by
  unfold ademW
  rw [if_neg (show j ≠ 0 by omega)]
  split
  · exact lexLt_head (by omega)
  · exact lexLt_head (by omega)
theorem lexLt_asymm {x y : List Int} (h : lexLt x y = true) : lexLt y x = false := by
  cases h2 : lexLt y x with
  | false => rfl
  | true => have := lexLt_trans h h2; rw [lexLt_irrefl] at this; cases this
theorem sumR_front (x : List Int) : ∀ (Q : List (List Int)), (∀ y ∈ Q, lexLt x y = true) → sumR Q [x] = x :: Q
  | [], _ => by rw [sumR]
  | y :: Q, h => by
    rw [sumR, if_neg (by rw [lexLt_asymm (h y (List.mem_cons_self ..))]; simp), if_pos (h y (List.mem_cons_self ..)), sumR_nil]
theorem ademP_sum {a b j : Nat} (hj : 2 * j ≤ a) : sumR (ademP a b j) [ademW a b j] = ademW a b j :: ademP a b j := by
  apply sumR_front
  intro y hy
  unfold ademP at hy
  rw [List.mem_map] at hy
  obtain ⟨i, hi, rfl⟩ := hy
  rw [List.mem_reverse, List.mem_filter, List.mem_range] at hi
  exact ademW_lt hi.1 hj
theorem front_adem (a b j : Nat) (hj : 2 * j ≤ a) (ha : 1 ≤ a) : frontL ((a + b - j : Nat) : Int) (frontL (j : Int) []) = ademW a b j := by
  unfold frontL ademW
  rw [if_neg (show ((a + b - j : Nat) : Int) ≠ 0 by omega)]
  by_cases h : j = 0
  · subst h; rfl
  · rw [if_neg (by omega), if_neg h]
theorem row_getD_len {M : List Row} {Q : List (List Int)} (h : dat M = Q) {k : Nat} (hq : ∀ x ∈ Q, x.length ≤ k) : ∀ i, i < M.length → (rg M i).xs.length ≤ k := fun i hi =>
  hq _ (by rw [← h]; exact List.mem_map_of_mem (rg_mem hi))
theorem ademW_len (a b j : Nat) : (ademW a b j).length ≤ 2 := by unfold ademW; split <;> simp
theorem ademP_row (a b j : Nat) : ∀ x ∈ ademP a b j, x.length ≤ 2 := by
  intro x hx
  unfold ademP at hx
  rw [List.mem_map] at hx
  obtain ⟨i, _, rfl⟩ := hx
  exact ademW_len a b i

theorem frontL_ok {a b j : Nat} (h2 : 2 * j ≤ a) (hab : a < 2 * b) (hb1 : a + b ≤ 100) : (frontL (j : Int) []).length ≤ 1000 ∧ (0 ≤ (frontL (j : Int) []).getD 0 0 ∧ (frontL (j : Int) []).getD 0 0 ≤ 1000) ∧ (((a + b - j : Nat) : Int) = 0 ∨ frontL (j : Int) [] = [] ∨ 2 * (frontL (j : Int) []).getD 0 0 ≤ ((a + b - j : Nat) : Int)) ∧ True := by
  unfold frontL
  by_cases h : j = 0
  · subst h; simp
  · rw [if_neg (by omega)]
    refine ⟨by simp, ?_, .inr (.inr ?_), trivial⟩
    · simp only [List.getD_cons_zero]; omega
    · simp only [List.getD_cons_zero]; omega
theorem row_read (w : World) (X : Option Addr) (c : Nat) : RdR (w.alloc (.cells #[.slice X 0 c] 30)).drew (some ⟨w.heap.size, 0, none⟩) [⟨X, c, []⟩] := by
  refine ⟨owns_Rd (row_cell w _ (Nat.le_refl _)), fun i hi => ?_, fun i hi => ?_⟩
  · obtain rfl : i = 0 := by simp at hi; omega
    exact .inl rfl
  · obtain rfl : i = 0 := by simp at hi; omega
    exact Nat.zero_le _
end Go.Proofs.Ytnffpjdlpjkioaa

namespace Go.Proofs.Ytnffpjdlpjkioaa
open Go.RowKit

theorem wordM_drop (Q : List (List Int)) (ws : List Int) (v : Nat) {k : Nat} (hk : k < ws.length) : wordM Q (ws.drop k) v = act Q (ws.getD k 0) (wordM Q (ws.drop (k + 1)) v) := by
  rw [List.drop_eq_getElem_cons hk]
  simp only [wordM, List.foldr_cons, List.getD, List.getElem?_eq_getElem hk, Option.getD_some]

end Go.Proofs.Ytnffpjdlpjkioaa
