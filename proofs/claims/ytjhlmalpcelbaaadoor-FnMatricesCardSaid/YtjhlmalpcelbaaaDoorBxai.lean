/- homogeneous spaces, dimensions, ranks by elimination (no program in sight) · the program's kernel · the program's meet · MeetOfSpaces on both sides · plain mathematics: the rows of a meet lie in both spaces · impl.reduced; ReducedForm on both sides · SumOfSpaces on both sides · impl.joined; the program's SumOfSpaces -/
import Derived.Test.YtjhlmalpcelbaaaDoorBxab
import Derived.Test.YtjhlmalpcelbaaaDoorBxah
import Derived.Test.YtjhlmalpcelbaaaDoorBxag
import Derived.Test.YtjhlmalpcelbaaaDoorBxaf
import Derived.Test.YtjhlmalpcelbaaaDoorBxae
set_option linter.all false
namespace Go.Proofs.YtjhlmalpcelbaaaDoor

/-! ### homogeneous masks -/
theorem hom_sp {xs : List Int} {d : Int} {S : List Nat} (h : ∀ r ∈ S, Hom xs d r) {v : Nat} (hv : Sp S v) : Hom xs d v := by
  induction hv with
  | zero => exact Hom.zero _ _
  | add hm _ ih => exact (h _ hm).xr ih
theorem Hom.pv {xs : List Int} {d : Int} {v : Nat} (h : Hom xs d v) (h0 : v ≠ 0) (hs : Sm v) : Go.Proofs.YtjhlmalpcelbaaaDoor.pv v < xs.length ∧ xs.getD (Go.Proofs.YtjhlmalpcelbaaaDoor.pv v) 0 = d := h _ (tb_pv h0 hs)
def homB (xs : List Int) (d : Int) (v : Nat) : Bool := nt v (dmask xs d) == 0
theorem homB_iff {xs : List Int} {d : Int} {v : Nat} : homB xs d v = true ↔ Hom xs d v := by unfold homB; rw [beq_iff_eq]; exact nt_hom
theorem red_nodup {S : List Nat} (h : Red S) : S.Nodup := List.Pairwise.of_map pv (fun _ _ h e => h (congrArg pv e)) h.nodup
/-- a reduced list in order is what its space's rows reduce to -/
theorem red_asc_unique {S T : List Nat} (hS : Red S) (hT : Red T) (aS : Asc S) (aT : Asc T) (h : ∀ v, Sp S v ↔ Sp T v) : S = T :=
  asc_unique aS aT ((List.perm_ext_iff_of_nodup (red_nodup hS) (red_nodup hT)).2 fun r => ⟨red_sub hS hT h r, red_sub hT hS (fun v => (h v).symm) r⟩)
theorem Red.append {S T : List Nat} (hS : Red S) (hT : Red T) (h : ∀ r ∈ S, ∀ s ∈ T, tb r (pv s) = false ∧ tb s (pv r) = false) : Red (S ++ T) :=
  ⟨fun r hr => by rcases List.mem_append.1 hr with hr | hr; exact hS.ne r hr; exact hT.ne r hr, List.pairwise_append.2 ⟨hS.off, hT.off, h⟩⟩
theorem Asc.append {S T : List Nat} (hS : Asc S) (hT : Asc T) (h : ∀ r ∈ S, ∀ s ∈ T, pv r < pv s) : Asc (S ++ T) := List.pairwise_append.2 ⟨hS, hT, h⟩
def part (xs : List Int) (S : List Nat) (d : Int) : List Nat := reduceS (S.filter (homB xs d))
/-- the reduced rows of the degrees 0 .. k - 1, one degree behind the other -/
def byDeg (xs : List Int) (S : List Nat) : Nat → List Nat
  | 0 => []
  | k + 1 => byDeg xs S k ++ part xs S (k : Int)
theorem sm_filter {S : List Nat} (hS : ∀ r ∈ S, Sm r) (p : Nat → Bool) : ∀ r ∈ S.filter p, Sm r := fun r hr => hS r (List.mem_filter.1 hr).1
theorem part_mem {xs : List Int} {S : List Nat} (hS : ∀ r ∈ S, Sm r) {d : Int} {r : Nat} (hr : r ∈ part xs S d) : Hom xs d r ∧ r ≠ 0 ∧ Sm r ∧ Sp S r := by
  have h1 := (red_reduce (sm_filter hS (homB xs d))).ne r hr
  have h2 := (sp_reduce (sm_filter hS (homB xs d)) r).1 (.mem hr)
  exact ⟨hom_sp (fun s hs => homB_iff.1 (List.mem_filter.1 hs).2) h2, h1.1, h1.2, h2.mono fun s hs => (List.mem_filter.1 hs).1⟩
def SrtL (xs : List Int) : Prop := ∀ i j, i ≤ j → j < xs.length → xs.getD i 0 ≤ xs.getD j 0
theorem byDeg_all {xs : List Int} {S : List Nat} (hx : SrtL xs) (hS : ∀ r ∈ S, Sm r) : ∀ k, Red (byDeg xs S k) ∧ Asc (byDeg xs S k) ∧ ∀ r ∈ byDeg xs S k, ∃ d : Nat, d < k ∧ r ∈ part xs S (d : Int)
  | 0 => ⟨Red.nil, .nil, by simp [byDeg]⟩
  | k + 1 => by
    obtain ⟨h1, h2, h3⟩ := byDeg_all hx hS k
    have rp := red_reduce (sm_filter hS (homB xs (k : Int)))
    have ap := asc_reduce (sm_filter hS (homB xs (k : Int)))
    have key : ∀ r ∈ byDeg xs S k, ∀ s ∈ part xs S (k : Int), tb r (pv s) = false ∧ tb s (pv r) = false ∧ pv r < pv s := by
      intro r hr s hs
      obtain ⟨d, hd, hr⟩ := h3 r hr
      obtain ⟨a1, a2, a3, _⟩ := part_mem hS hr
      obtain ⟨b1, b2, b3, _⟩ := part_mem hS hs
      obtain ⟨p1, p2⟩ := a1.pv a2 a3
      obtain ⟨q1, q2⟩ := b1.pv b2 b3
      refine ⟨?_, ?_, ?_⟩
      · cases h : tb r (pv s) with
        | false => rfl
        | true => have := (a1 _ h).2; omega
      · cases h : tb s (pv r) with
        | false => rfl
        | true => have := (b1 _ h).2; omega
      · rcases Nat.lt_or_ge (pv r) (pv s) with h | h
        · exact h
        · have := hx _ _ h p1; omega
    refine ⟨h1.append rp fun r hr s hs => ⟨(key r hr s hs).1, (key r hr s hs).2.1⟩, h2.append ap fun r hr s hs => (key r hr s hs).2.2, fun r hr => ?_⟩
    rcases List.mem_append.1 hr with hr | hr
    · obtain ⟨d, hd, hr⟩ := h3 r hr; exact ⟨d, by omega, hr⟩
    · exact ⟨k, by omega, hr⟩
theorem part_byDeg {xs : List Int} {S : List Nat} {d k : Nat} (h : d < k) : ∀ r ∈ part xs S (d : Int), r ∈ byDeg xs S k := by
  induction k with
  | zero => omega
  | succ k ih =>
    intro r hr
    unfold byDeg
    rcases Nat.lt_or_ge d k with h1 | h1
    · exact List.mem_append_left _ (ih h1 r hr)
    · have e : d = k := by omega
      subst e; exact List.mem_append_right _ hr
theorem byDeg_sp {xs : List Int} {S : List Nat} (hx : SrtL xs) (hS : ∀ r ∈ S, Sm r) {k : Nat} (hh : ∀ r ∈ S, r ≠ 0 → ∃ d : Nat, d < k ∧ Hom xs (d : Int) r) (v : Nat) : Sp (byDeg xs S k) v ↔ Sp S v := by
  constructor
  · exact Sp.trans fun r hr => by
      obtain ⟨d, _, hr⟩ := (byDeg_all hx hS k).2.2 r hr
      exact (part_mem hS hr).2.2.2
  · refine Sp.trans fun r hr => ?_
    by_cases h0 : r = 0
    · subst h0; exact .zero
    · obtain ⟨d, hd, hr'⟩ := hh r hr h0
      have : Sp (part xs S (d : Int)) r := (sp_reduce (sm_filter hS _) r).2 (.mem (List.mem_filter.2 ⟨hr, homB_iff.2 hr'⟩))
      exact this.mono (part_byDeg hd)
/-- THE REDUCED ROWS OF HOMOGENEOUS ROWS, DEGREE BY DEGREE -/
theorem byDeg_eq {xs : List Int} {S : List Nat} (hx : SrtL xs) (hS : ∀ r ∈ S, Sm r) {k : Nat} (hh : ∀ r ∈ S, r ≠ 0 → ∃ d : Nat, d < k ∧ Hom xs (d : Int) r) : byDeg xs S k = reduceS S := by
  obtain ⟨h1, h2, _⟩ := byDeg_all hx hS k
  exact red_asc_unique h1 (red_reduce hS) h2 (asc_reduce hS) fun v => by rw [byDeg_sp hx hS hh, sp_reduce hS]
/-- how many rows of a degree -/
def ofDeg (xs : List Int) (d : Int) (R : List Nat) : List Nat := R.filter fun r => decide (xs.getD (pv r) 0 = d)
theorem ofDeg_byDeg {xs : List Int} {S : List Nat} (hS : ∀ r ∈ S, Sm r) (d : Nat) : ∀ k, d < k → ofDeg xs (d : Int) (byDeg xs S k) = part xs S (d : Int) := by
  have no : ∀ k, k ≤ d → ofDeg xs (d : Int) (byDeg xs S k) = [] := by
    intro k
    induction k with
    | zero => intro _; rfl
    | succ k ih =>
      intro h
      unfold ofDeg byDeg
      rw [List.filter_append, show (byDeg xs S k).filter _ = [] from ih (by omega), List.nil_append, List.filter_eq_nil_iff]
      intro r hr
      obtain ⟨a1, a2, a3, _⟩ := part_mem hS hr
      have := (a1.pv a2 a3).2
      simp only [decide_eq_true_eq]; omega
  intro k
  induction k with
  | zero => intro h; omega
  | succ k ih =>
    intro h
    unfold ofDeg byDeg
    rw [List.filter_append]
    rcases Nat.lt_or_ge d k with h1 | h1
    · rw [show (byDeg xs S k).filter _ = part xs S (d : Int) from ih h1]
      rw [List.filter_eq_nil_iff.2, List.append_nil]
      intro r hr
      obtain ⟨a1, a2, a3, _⟩ := part_mem hS hr
      have := (a1.pv a2 a3).2
      simp only [decide_eq_true_eq]; omega
    · have e : k = d := by omega
      subst e
      rw [show (byDeg xs S k).filter _ = [] from no k (Nat.le_refl _), List.nil_append, List.filter_eq_self]
      intro r hr
      obtain ⟨a1, a2, a3, _⟩ := part_mem hS hr
      have := (a1.pv a2 a3).2
      simp only [decide_eq_true_eq]; exact this

/-! ### dimensions -/
def Dim (P : Nat → Prop) (k : Nat) : Prop := ∃ B : List Nat, (∀ r ∈ B, Sm r) ∧ Fre B ∧ (∀ v, Sp B v ↔ P v) ∧ B.length = k
theorem Dim.unique {P : Nat → Prop} {k l : Nat} (h1 : Dim P k) (h2 : Dim P l) : k = l := by
  obtain ⟨B, b1, b2, b3, rfl⟩ := h1
  obtain ⟨C, c1, c2, c3, rfl⟩ := h2
  rw [← fre_len b1 b2, ← fre_len c1 c2, reduce_unique b1 c1 fun v => by rw [b3, c3]]
theorem Dim.congr {P Q : Nat → Prop} {k : Nat} (h : Dim P k) (e : ∀ v, P v ↔ Q v) : Dim Q k := by
  obtain ⟨B, b1, b2, b3, b4⟩ := h
  exact ⟨B, b1, b2, fun v => by rw [b3, e], b4⟩
theorem dim_red {S : List Nat} (h : Red S) : Dim (Sp S) S.length := ⟨S, fun r hr => (h.ne r hr).2, h.fre, fun _ => Iff.rfl, rfl⟩
theorem dim_reduce {S : List Nat} (hS : ∀ r ∈ S, Sm r) : Dim (Sp S) (reduceS S).length := (dim_red (red_reduce hS)).congr fun v => sp_reduce hS v
theorem fre_snoc {B : List Nat} {r : Nat} (h : Fre B) (hr : ¬ Sp B r) : Fre (B ++ [r]) := by
  intro k hk
  rw [List.length_append, List.length_singleton] at hk
  rcases Nat.lt_or_ge k B.length with h1 | h1
  · rw [List.take_append_of_le_length (by omega), show (B ++ [r]).getD k 0 = B.getD k 0 by simp [List.getD, List.getElem?_append_left h1]]
    exact h k h1
  · have e : k = B.length := by omega
    subst e
    rw [show (B ++ [r]).take B.length = B by simp, show (B ++ [r]).getD B.length 0 = r by simp [List.getD]]
    exact hr
/-- a linear map -/
structure Lin (f : Nat → Nat) : Prop where
  add : ∀ x y, f (xr x y) = xr (f x) (f y)
theorem Lin.zero {f : Nat → Nat} (h : Lin f) : f 0 = 0 := by have := h.add 0 0; rw [xr_self, xr_self] at this; exact this
theorem sp_map {f : Nat → Nat} (h : Lin f) {B : List Nat} (w : Nat) : Sp (B.map f) w ↔ ∃ v, Sp B v ∧ w = f v := by
  constructor
  · intro hw
    induction hw with
    | zero => exact ⟨0, .zero, h.zero.symm⟩
    | add hm _ ih =>
      obtain ⟨v, hv, rfl⟩ := ih
      obtain ⟨r, hr, rfl⟩ := List.mem_map.1 hm
      exact ⟨xr r v, .add hr hv, (h.add r v).symm⟩
  · rintro ⟨v, hv, rfl⟩
    induction hv with
    | zero => rw [h.zero]; exact .zero
    | add hm _ ih => rw [h.add]; exact .add (List.mem_map_of_mem hm) ih
theorem fre_map {f : Nat → Nat} (h : Lin f) {B : List Nat} (hB : Fre B) (hi : ∀ v, Sp B v → f v = 0 → v = 0) : Fre (B.map f) := by
  intro k hk hs
  rw [List.length_map] at hk
  rw [← List.map_take, show (B.map f).getD k 0 = f (B.getD k 0) by simp [List.getD, hk], sp_map h] at hs
  obtain ⟨v, hv, e⟩ := hs
  have hv' : Sp B v := hv.mono fun r hr => List.mem_of_mem_take hr
  have h0 := hi (xr (B.getD k 0) v) ((Sp.mem (by simp [List.getD, hk])).plus hv') (by rw [h.add, e, xr_self])
  refine hB k hk ?_
  have e2 : B.getD k 0 = v := by have := congrArg (xr (B.getD k 0)) h0; rw [xr_xr, xr_zero] at this; exact this.symm
  rw [e2]; exact hv
theorem Dim.map {P Q : Nat → Prop} {k : Nat} {f : Nat → Nat} (h : Dim P k) (hf : Lin f) (hi : ∀ v, P v → f v = 0 → v = 0) (hs : ∀ v, P v → Sm (f v)) (hQ : ∀ w, Q w ↔ ∃ v, P v ∧ w = f v) : Dim Q k := by
  obtain ⟨B, b1, b2, b3, b4⟩ := h
  refine ⟨B.map f, fun r hr => ?_, fre_map hf b2 fun v hv => hi v ((b3 v).1 hv), fun w => ?_, by rw [List.length_map, b4]⟩
  · obtain ⟨v, hv, rfl⟩ := List.mem_map.1 hr
    exact hs v ((b3 v).1 (.mem hv))
  · rw [sp_map hf, hQ]
    exact ⟨fun ⟨v, h1, h2⟩ => ⟨v, (b3 v).1 h1, h2⟩, fun ⟨v, h1, h2⟩ => ⟨v, (b3 v).2 h1, h2⟩⟩

/-! ### ranks by elimination -/
/-- the least digit that is 1 -/
def lo (v : Nat) : Nat := ((List.range (v + 1)).find? (tb v)).getD 0
theorem lo_spec {v : Nat} (h : v ≠ 0) : tb v (lo v) = true ∧ ∀ m, m < lo v → tb v m = false := by
  unfold lo
  cases hf : (List.range (v + 1)).find? (tb v) with
  | none =>
    exfalso
    apply h
    rw [List.find?_eq_none] at hf
    refine eq_zero_of_tb fun n => ?_
    rcases Nat.lt_or_ge n (v + 1) with h1 | h1
    · have := hf n (List.mem_range.2 h1); simpa using this
    · exact tb_of_lt (Nat.lt_of_lt_of_le (Nat.lt_two_pow_self) (Nat.pow_le_pow_right (by omega) (by omega : v ≤ n))) (Nat.le_refl _)
  | some i =>
    rw [List.find?_range_eq_some] at hf
    refine ⟨hf.1, fun m hm => ?_⟩
    have := hf.2.2 m (by simpa using hm)
    simpa using this
def clr (p r s : Nat) : Nat := if tb s p = true then xr s r else s
theorem clr_lin (p r : Nat) : Lin (clr p r) := ⟨fun x y => by
  unfold clr
  rw [tb_xr]
  cases h1 : tb x p <;> cases h2 : tb y p <;> simp
  · rw [xr_assoc]
  · rw [xr_assoc, xr_assoc, xr_comm y r]
  · rw [xr_assoc x r, xr_left r y r, xr_self, xr_zero]⟩
theorem clr_off {p r : Nat} (h : tb r p = true) (s : Nat) : tb (clr p r s) p = false := by
  unfold clr
  cases h1 : tb s p <;> simp [tb_xr, h1, h]
def rkN : Nat → List Nat → Nat
  | 0, _ => 0
  | _ + 1, [] => 0
  | n + 1, r :: S => if r = 0 then rkN n S else 1 + rkN n (S.map (clr (lo r) r))
def rkS (S : List Nat) : Nat := rkN S.length S
theorem rkS_nil : rkS [] = 0 := rfl
theorem rkS_cons (r : Nat) (S : List Nat) : rkS (r :: S) = if r = 0 then rkS S else 1 + rkS (S.map (clr (lo r) r)) := by
  unfold rkS; simp only [List.length_cons, List.length_map, rkN]
theorem rk_dim : ∀ (n : Nat) (S : List Nat), S.length = n → (∀ r ∈ S, Sm r) → Dim (Sp S) (rkS S) := by
  intro n
  induction n with
  | zero =>
    intro S hl _
    rw [List.eq_nil_of_length_eq_zero hl]
    exact ⟨[], by simp, fun k hk => by simp at hk, fun _ => Iff.rfl, rfl⟩
  | succ n ih =>
    intro S hl hS
    match S, hl with
    | r :: S, hl =>
      rw [rkS_cons]
      have hr := hS r (List.mem_cons_self ..)
      have hS' : ∀ s ∈ S, Sm s := fun s hs => hS s (List.mem_cons_of_mem _ hs)
      by_cases h0 : r = 0
      · rw [if_pos h0]
        refine (ih S (by simpa using hl) hS').congr fun v => ⟨Sp.mono fun s hs => List.mem_cons_of_mem _ hs, fun h => ?_⟩
        rcases sp_cons h with h | h
        · exact h
        · rwa [h0, zero_xr] at h
      · rw [if_neg h0]
        obtain ⟨hp, _⟩ := lo_spec h0
        generalize lo r = p at *
        have hc : ∀ s ∈ S.map (clr p r), Sm s := fun s hs => by
          obtain ⟨t, ht, rfl⟩ := List.mem_map.1 hs
          unfold clr; split
          · exact (hS' t ht).xr hr
          · exact hS' t ht
        obtain ⟨B, b1, b2, b3, b4⟩ := ih (S.map (clr p r)) (by simpa using hl) hc
        have hoff : ∀ s ∈ S.map (clr p r), tb s p = false := fun s hs => by
          obtain ⟨t, ht, rfl⟩ := List.mem_map.1 hs
          exact clr_off hp t
        refine ⟨B ++ [r], fun s hs => ?_, fre_snoc b2 fun h => ?_, fun v => ?_, by rw [List.length_append, b4]; simp; omega⟩
        · rcases List.mem_append.1 hs with hs | hs
          · exact b1 s hs
          · rw [List.mem_singleton.1 hs]; exact hr
        · rw [((b3 r).1 h).off hoff] at hp; cases hp
        · rw [sp_congr (U := [r]) b3 v]
          have hcl : ∀ t, Sp [r] (xr t (clr p r t)) := fun t => by
            unfold clr; split
            · rw [xr_xr]; exact .mem (List.mem_singleton.2 rfl)
            · rw [xr_self]; exact .zero
          constructor
          · refine Sp.trans fun s hs => ?_
            rcases List.mem_append.1 hs with hs | hs
            · obtain ⟨t, ht, rfl⟩ := List.mem_map.1 hs
              have h1 : Sp (r :: S) (xr t (clr p r t)) := (hcl t).mono fun x hx => by rw [List.mem_singleton.1 hx]; exact List.mem_cons_self ..
              have h2 : Sp (r :: S) t := .mem (List.mem_cons_of_mem _ ht)
              have := h2.plus h1
              rwa [xr_xr] at this
            · rw [List.mem_singleton.1 hs]; exact .mem (List.mem_cons_self ..)
          · refine Sp.trans fun s hs => ?_
            rcases List.mem_cons.1 hs with rfl | hs
            · exact .mem (List.mem_append_right _ (List.mem_singleton.2 rfl))
            · have h1 : Sp (S.map (clr p r) ++ [r]) (xr s (clr p r s)) := (hcl s).mono fun x hx => List.mem_append_right _ hx
              have h2 : Sp (S.map (clr p r) ++ [r]) (clr p r s) := .mem (List.mem_append_left _ (List.mem_map_of_mem hs))
              have := h1.plus h2
              rwa [xr_assoc, xr_self, xr_zero] at this
/-- the rank by elimination is the number of reduced rows -/
theorem rk_reduce {S : List Nat} (hS : ∀ r ∈ S, Sm r) : rkS S = (reduceS S).length := (rk_dim _ S rfl hS).unique (dim_reduce hS)

/-! ### kernels of any rows -/
theorem comb_shift : ∀ (S : List Nat) (i z : Nat), comb S (i + 1) z = comb S i (z / 2)
  | [], _, _ => rfl
  | s :: S, i, z => by
    simp only [comb]
    rw [comb_shift S (i + 1) z, show tb z (i + 1) = tb (z / 2) i by unfold tb; rw [Nat.testBit_succ]]
theorem comb_map {f : Nat → Nat} (h : Lin f) : ∀ (S : List Nat) (i z : Nat), comb (S.map f) i z = f (comb S i z)
  | [], _, _ => h.zero.symm
  | s :: S, i, z => by
    simp only [comb, List.map_cons]
    rw [comb_map h S (i + 1) z, h.add]
    congr 1
    split
    · rfl
    · exact h.zero.symm
theorem tb_double (v : Nat) (b : Bool) (i : Nat) : tb (xr (2 * v) b.toNat) i = if i = 0 then b else tb v (i - 1) := by
  rw [tb_xr]
  cases i with
  | zero =>
    rw [if_pos rfl]
    have e1 : tb (2 * v) 0 = false := by unfold tb; rw [Nat.testBit_zero]; simp
    rw [e1]; cases b <;> rfl
  | succ i =>
    rw [if_neg (Nat.succ_ne_zero i)]
    have e1 : tb (2 * v) (i + 1) = tb v i := by unfold tb; rw [Nat.testBit_succ]; congr 1; omega
    have e2 : tb b.toNat (i + 1) = false := by
      cases b
      · exact tb_zero _
      · unfold tb; rw [Nat.testBit_succ]; simp
    rw [e1, e2]; simp
theorem half_double (v : Nat) (b : Bool) : xr (2 * v) b.toNat / 2 = v := by
  apply eq_of_tb
  intro i
  have := tb_double v b (i + 1)
  rw [if_neg (Nat.succ_ne_zero i)] at this
  unfold tb at this ⊢
  rw [Nat.testBit_succ] at this
  exact this
theorem double_half (z : Nat) : xr (2 * (z / 2)) (tb z 0).toNat = z := by
  apply eq_of_tb
  intro i
  rw [tb_double]
  cases i with
  | zero => rw [if_pos rfl]
  | succ i => rw [if_neg (Nat.succ_ne_zero i)]; unfold tb; rw [Nat.testBit_succ]; simp
theorem dbl_lin {b : Nat → Bool} (hb : ∀ x y, b (xr x y) = (b x ^^ b y)) : Lin fun v => xr (2 * v) (b v).toNat := ⟨fun x y => by
  apply eq_of_tb
  intro i
  rw [tb_xr (xr (2 * x) (b x).toNat), tb_double, tb_double, tb_double]
  split
  · exact hb x y
  · exact tb_xr x y _⟩
def KerP (R : List Nat) (z : Nat) : Prop := z < 2 ^ R.length ∧ comb R 0 z = 0
theorem ker_cons {r : Nat} {S : List Nat} (z : Nat) : KerP (r :: S) z ↔ z / 2 < 2 ^ S.length ∧ xr (if tb z 0 = true then r else 0) (comb S 0 (z / 2)) = 0 := by
  unfold KerP
  simp only [comb, List.length_cons]
  rw [comb_shift S 0 z, Nat.pow_succ]
  constructor
  · rintro ⟨h1, h2⟩; exact ⟨by omega, h2⟩
  · rintro ⟨h1, h2⟩; exact ⟨by omega, h2⟩
/-- THE RANK BY ELIMINATION AND THE KERNEL FILL UP THE NUMBER OF ROWS, whatever the rows' size -/
theorem rk_ker : ∀ (n : Nat) (R : List Nat), R.length = n → n ≤ 62 → ∃ k, k + rkS R = R.length ∧ Dim (KerP R) k := by
  intro n
  induction n with
  | zero =>
    intro R hl _
    rw [List.eq_nil_of_length_eq_zero hl]
    refine ⟨0, rfl, [], by simp, fun k hk => by simp at hk, fun v => ⟨fun h => ?_, fun h => ?_⟩, rfl⟩
    · have : v = 0 := by
        cases h with
        | zero => rfl
        | add hm _ => cases hm
      subst this; exact ⟨by simp, rfl⟩
    · have : v = 0 := by have := h.1; simpa using this
      subst this; exact .zero
  | succ n ih =>
    intro R hl hn
    match R, hl with
    | r :: S, hl =>
      have hlS : S.length = n := by simpa using hl
      rw [rkS_cons]
      by_cases h0 : r = 0
      · rw [if_pos h0]
        obtain ⟨k, hk, B, b1, b2, b3, b4⟩ := ih S hlS (by omega)
        have hlin : Lin fun v => 2 * v := by
          have h := dbl_lin (b := fun _ => false) fun _ _ => rfl
          have e : (fun v => xr (2 * v) (false).toNat) = fun v => 2 * v := by funext v; exact xr_zero _
          rwa [e] at h
        have hbit : ∀ v, Sp (B.map fun v => 2 * v) v → tb v 0 = false := fun v => Sp.off fun s hs => by
          obtain ⟨t, _, rfl⟩ := List.mem_map.1 hs
          unfold tb; rw [Nat.testBit_zero]; simp
        refine ⟨k + 1, by simp; omega, (B.map fun v => 2 * v) ++ [1], fun s hs => ?_, fre_snoc (fre_map hlin b2 fun v _ h => by omega) fun h => ?_, fun v => ?_, by simp [b4]⟩
        · rcases List.mem_append.1 hs with hs | hs
          · obtain ⟨t, ht, rfl⟩ := List.mem_map.1 hs
            have := ((b3 t).1 (.mem ht)).1
            refine sm_of_lt (a := n + 1) hn ?_
            rw [hlS] at this; rw [Nat.pow_succ]; omega
          · rw [List.mem_singleton.1 hs]; exact Sm.one
        · have := hbit 1 h; cases this
        · rw [ker_cons]
          constructor
          · intro h
            obtain ⟨a, b, ha, hb, rfl⟩ := sp_append h
            rw [sp_map hlin] at ha
            obtain ⟨u, hu, rfl⟩ := ha
            obtain ⟨k1, k2⟩ := (b3 u).1 hu
            have hb' : b = 0 ∨ b = 1 := by
              rcases sp_cons hb with h | h
              · left
                have h' : ∀ q, Sp [] q → q = 0 := fun q hq => by
                  cases hq with
                  | zero => rfl
                  | add hm _ => cases hm
                exact h' _ h
              · right
                have h' : ∀ q, Sp [] q → q = 0 := fun q hq => by
                  cases hq with
                  | zero => rfl
                  | add hm _ => cases hm
                have := congrArg (xr 1) (h' _ h); rw [xr_xr, xr_zero] at this; exact this
            have e : xr (2 * u) b / 2 = u := by
              rcases hb' with rfl | rfl
              · exact half_double u false
              · exact half_double u true
            rw [e, h0]
            refine ⟨k1, ?_⟩
            rw [k2]; split <;> rfl
          · rintro ⟨h1, h2⟩
            rw [h0] at h2
            have h2' : comb S 0 (v / 2) = 0 := by
              have : (if tb v 0 = true then 0 else 0) = 0 := by split <;> rfl
              rw [this, zero_xr] at h2; exact h2
            have hs : Sp (B.map fun v => 2 * v) (2 * (v / 2)) := (sp_map hlin _).2 ⟨v / 2, (b3 _).2 ⟨h1, h2'⟩, rfl⟩
            rw [← double_half v]
            refine (hs.mono fun x hx => List.mem_append_left _ hx).plus ?_
            cases tb v 0
            · exact .zero
            · exact .mem (List.mem_append_right _ (List.mem_singleton.2 rfl))
      · rw [if_neg h0]
        obtain ⟨hp, _⟩ := lo_spec h0
        generalize lo r = p at *
        obtain ⟨k, hk, hd⟩ := ih (S.map (clr p r)) (by simpa using hlS) (by omega)
        rw [List.length_map] at hk
        have hlin : Lin fun v => xr (2 * v) (tb (comb S 0 v) p).toNat := dbl_lin (b := fun v => tb (comb S 0 v) p) fun x y => by rw [comb_xr, tb_xr]
        have hK : ∀ v, KerP (S.map (clr p r)) v ↔ v < 2 ^ S.length ∧ clr p r (comb S 0 v) = 0 := fun v => by
          unfold KerP; rw [List.length_map, comb_map (clr_lin p r)]
        refine ⟨k, by simp only [List.length_cons]; omega, hd.map hlin ?_ ?_ ?_⟩
        · intro v _ h
          have := half_double v (tb (comb S 0 v) p)
          have h' : xr (2 * v) (tb (comb S 0 v) p).toNat = 0 := h
          rw [h'] at this; simpa using this.symm
        · intro v hv
          have h1 := ((hK v).1 hv).1
          refine sm_of_lt (a := n + 1) hn ?_
          have h2 := half_double v (tb (comb S 0 v) p)
          rw [hlS] at h1; rw [Nat.pow_succ]; omega
        · intro w
          rw [ker_cons]
          constructor
          · rintro ⟨h1, h2⟩
            have e : comb S 0 (w / 2) = if tb w 0 = true then r else 0 := by
              have := congrArg (xr (if tb w 0 = true then r else 0)) h2
              rw [xr_xr, xr_zero] at this; exact this
            have e2 : tb (comb S 0 (w / 2)) p = tb w 0 := by
              rw [e]; cases tb w 0
              · simp [tb_zero]
              · simp [hp]
            refine ⟨w / 2, (hK _).2 ⟨h1, ?_⟩, ?_⟩
            · rw [e]; unfold clr
              cases tb w 0
              · simp [tb_zero]
              · simp [hp, xr_self]
            · simp only [e2]; exact (double_half w).symm
          · rintro ⟨v, hv, rfl⟩
            obtain ⟨h1, h2⟩ := (hK v).1 hv
            rw [half_double]
            refine ⟨h1, ?_⟩
            have e0 : tb (xr (2 * v) (tb (comb S 0 v) p).toNat) 0 = tb (comb S 0 v) p := by rw [tb_double, if_pos rfl]
            rw [e0]
            unfold clr at h2
            cases hb : tb (comb S 0 v) p
            · rw [hb] at h2; simp at h2 ⊢; rw [h2]; rfl
            · rw [hb] at h2; simp at h2 ⊢; rw [xr_comm]; exact h2

/-! ### reduced kernels and meets -/
def kerS (S : List Nat) (k : Nat) : List Nat := kerOut (fun k => spanL ((us 0 S).take k)) S k
theorem kerS_succ (S : List Nat) (k : Nat) : kerS S (k + 1) = kerStep (spanL ((us 0 S).take k)) (S.getD k 0, 2 ^ k) (kerS S k) := rfl
theorem red_len {S : List Nat} {n : Nat} (h : Red S) (hlt : ∀ r ∈ S, r < 2 ^ n) : S.length ≤ n := by
  have := pig1 n (S.map pv) h.nodup (fun x hx => by
    obtain ⟨r, hr, rfl⟩ := List.mem_map.1 hx
    exact pv_lt (h.ne r hr).1 (h.ne r hr).2 (hlt r hr))
  simpa using this
def kerR (S : List Nat) : List Nat := reduceS (kerS S S.length)
theorem kerR_sp {S : List Nat} (hS : ∀ r ∈ S, Sm r) (hl : S.length ≤ 62) (z : Nat) : Sp (kerR S) z ↔ z < 2 ^ S.length ∧ comb S 0 z = 0 := by
  have hK := kerG_span hS hl
  unfold kerR
  rw [sp_reduce (S := kerS S S.length) (hK.sm hl)]
  exact hK.sp_iff z
theorem kerR_red {S : List Nat} (hS : ∀ r ∈ S, Sm r) (hl : S.length ≤ 62) : Red (kerR S) := red_reduce (rows := kerS S S.length) ((kerG_span hS hl).sm hl)
theorem kerR_ok {S : List Nat} (hS : ∀ r ∈ S, Sm r) (hl : S.length ≤ 62) : (∀ r ∈ kerR S, Sm r) ∧ (kerR S).length ≤ S.length :=
  ⟨fun r hr => ((kerR_red hS hl).ne r hr).2, red_len (kerR_red hS hl) fun r hr => ((kerR_sp hS hl r).1 (.mem hr)).1⟩
theorem meetS_sp {A B : List Nat} (hA : ∀ r ∈ A, Sm r) (hB : ∀ r ∈ B, Sm r) (u : Nat) : Sp (meetS A B) u ↔ Sp A u ∧ Sp B u := by
  have hG := meetG_span hA hB
  unfold meetS
  rw [sp_reduce (hG.sm hA)]
  exact hG.sp_iff u
theorem meetS_red {A B : List Nat} (hA : ∀ r ∈ A, Sm r) (hB : ∀ r ∈ B, Sm r) : Red (meetS A B) ∧ Asc (meetS A B) := ⟨red_reduce ((meetG_span hA hB).sm hA), asc_reduce ((meetG_span hA hB).sm hA)⟩
end Go.Proofs.YtjhlmalpcelbaaaDoor

namespace Go.Proofs.YtjhlmalpcelbaaaDoor
open Go.RowKit

theorem sm_two {p : Nat} (h : p ≤ 62) : Sm (2 ^ p) := by
  unfold Sm
  have : 2 ^ p ≤ 2 ^ 62 := Nat.pow_le_pow_right (by omega) h
  have e : (2 ^ 62 : Nat) = 4611686018427387904 := by decide
  omega
theorem shl_two {k : Nat} (h : k ≤ 60) : wrap64 ((2 : Int) ^ k) = ((2 ^ k : Nat) : Int) := by
  have h1 : (2 : Nat) ^ k ≤ 2 ^ 60 := Nat.pow_le_pow_right (by omega) h
  have e : (2 ^ 60 : Nat) = 1152921504606846976 := by decide
  have h2 : ((2 ^ k : Nat) : Int) = (2 : Int) ^ k := by rw [Int.natCast_pow]; rfl
  rw [← h2]
  generalize (2 ^ k : Nat) = z at *
  unfold wrap64; omega
set_option maxRecDepth 100000 in
set_option maxHeartbeats 2000000 in
theorem kernel_anyS (A : Option Addr) (n c : Nat) (S : List Nat) (w : World) (hT : Tab w) (hw : 0 < w.heap.size) (hn : n = S.length) (hsmall : n ≤ 60) (hS : ∀ r ∈ S, Sm r) (hR : Rd w A (nv S)) :
    Calls Tryd.prog 84 #[.slice A n c] w fun e w' => ∃ v, e = .returned v ∧ w'.ownsRow w.heap.size 2 1 v (reduceS (kerS S S.length)).length (nv (reduceS (kerS S S.length))) ∧ Below w.heap.size w w' := by
  have HKS := Lib.hid ((kerG_span hS (by omega)).sm (by omega))
  have HSM := Lib.hid (us_sm hS (by omega))
  have Hn := Lib.hid hn
  have HR := Lib.hid hR
  have HS := Lib.hid hS
  have HT := Lib.hid hT
  have HSP0 := Lib.hid (SpanAt.new w)
  clear hn hR hS hT
  go_enter Tryd.func84, Tryd.ntmps84
  go_wp2_with fail
  go_loopw [4, 14] (fun o i wr => ∃ k : Nat, k ≤ n ∧ i = .int .i64 k ∧ wr.ownsRow w.heap.size 2 1 o (kerS S k).length (nv (kerS S k)) ∧
      (∃ v1 v2, SpanAt wr w.heap.size w.heap.size v1 v2 (spanL ((us 0 S).take k)) ∧ o.ownBlock ≠ v1.ownBlock ∧ o.ownBlock ≠ v2.ownBlock) ∧ Below w.heap.size w wr) (fun _ i _ => n - (intOf i).toNat)
  case atStart =>
    refine ⟨0, by omega, rfl, ?_, ⟨_, _, HSP0.out.keeps ((Keeps.refl _ []).alloc _) (by simp) (.inr (by simp)) (.inr (by simp)), by simp [Value.ownBlock], by simp [Value.ownBlock]⟩, ((Below.refl _ _).alloc (Nat.le_refl _) _).alloc (by simp) _⟩
    have := World.ownsRow_made (w.alloc (.cells #[.slice none 0 0, .slice none 0 0] 68)) #[] 0 (base := w.heap.size) (e := 2) (size := 1) (by simp) (by decide) (by simp)
    simp only [World.size_alloc] at this
    exact this
  case round =>
    obtain ⟨k, hk, rfl, hoo, ⟨v1, v2, hsp, hne1, hne2⟩, hbel⟩ := hrel
    have hsz : w.heap.size ≤ wr.heap.size := hbel.size
    have hko := kerOut_length (fun k => spanL ((us 0 S).take k)) S k
    change (kerS S k).length ≤ k at hko
    by_cases hlt : k < n
    · have hkL : k < S.length := by rw [← Hn.out]; exact hlt
      obtain ⟨b, o', rfl, hc⟩ := (HR.out.below hbel).atN hkL
      have hx := HS.out _ (getD_mem hkL)
      have hp2 : Sm (2 ^ k) := by exact sm_two (by omega)
      have Hs : Hid (spanL ((us 0 S).take (k + 1)) = addL (spanL ((us 0 S).take k)) (S.getD k 0, 2 ^ k)) := by
        show _ = _; rw [spanL_take_succ (us 0 S) k (by rw [us_length]; exact hkL), us_getD0 hkL]
      have Hk := Lib.hid (kerS_succ S k)
      have hl := spanL_length_le ((us 0 S).take k)
      rw [List.length_take] at hl
      have hg := (spanL_perm ((us 0 S).take k) (fun p hp => HSM.out p (List.mem_of_mem_take hp))).2.2
      generalize spanL ((us 0 S).take k) = L at *
      generalize kerS S k = O at *
      generalize S.getD k 0 = x at *
      have ha := add_any w.heap.size w.heap.size v1 v2 L x (2 ^ k) wr (HT.out.below hbel hw) hw hsz hsp (by omega) hx hp2 hg
      rw [← shl_two (by omega)] at ha
      have hks : kerStep L (x, 2 ^ k) O = if (leftN L (x, 2 ^ k)).1 = 0 then O ++ [(leftN L (x, 2 ^ k)).2] else O := rfl
      obtain ⟨F, cf, rfl, _, hF, _⟩ := owns_shape hoo
      have HSQ := Lib.hid hsp
      have HOO := Lib.hid hoo
      have HN1 := Lib.hid hne1
      have HN2 := Lib.hid hne2
      have HB := Lib.hid hbel
      by_cases h0 : (leftN L (x, 2 ^ k)).1 = 0
      · have hv : AddRes L (x, 2 ^ k) = .tuple #[.int .i64 ((leftN L (x, 2 ^ k)).2 : Nat), .bool false] := by simp [AddRes, h0]
        rw [hv] at ha
        rw [if_pos h0] at hks
        have HA := Lib.hid ha
        have HKS' := Lib.hid hks
        clear ha hv h0 hks hsp hoo hne1 hne2 hbel hg hF
        generalize (leftN L (x, 2 ^ k)).2 = z at *
        go_wp2_with (first | (go_at_call 60; refine HA.out.mono ?_; (rintro e w3 ⟨rfl, hpost⟩; obtain ⟨q1, u1, u2, q2, q3, q4⟩ := span_own_add HSQ.out HOO.out HN1.out HN2.out hpost; have hb3 := hpost.below HSQ.out hsz; have HQ1 := Lib.hid q1; have HQ2 := Lib.hid q2; have HQ3 := Lib.hid q3; have HQ4 := Lib.hid q4; have HB3 := Lib.hid (HB.out.trans (hb3.mono (Nat.le_refl _))); have hsz3 : w.heap.size ≤ w3.heap.size := HB3.out.size; clear hpost q1 q2 q3 q4 hb3)) | (at_builtin; refine wpList_app1 _ _ _ _ _ etI (by rfl) (by rfl) w.heap.size (.slice F O.length cf) O.length (nv O) (by rfl) ?_ _ (.int .i64 (z : Int)) (by rfl) ?_ (by rfl) ?_ ?_ ?_; exact HQ1.out.alloc _; exact new_cell _ _ _; omega; (simp; omega); (intro g2 cap2 w4 hown2 hgrow2 hat2 hlt2; have HO2' : Hid (w4.ownsRow w.heap.size 2 1 (.slice (some ⟨g2, 0, none⟩) (O.length + 1) cap2) (O.length + 1) (nv (O ++ [z]))) := (by rw [← nv_snoc2]; exact hown2); have HG2 := Lib.hid hgrow2; have HA2 := Lib.hid hat2; clear hown2 hgrow2 hat2 hlt2)))
        go_roundw
        case rel =>
          obtain ⟨t1, t2, t3⟩ := span_own_app HQ2.out (own_ne HQ1.out HQ2.out.blk (by decide)) HQ3.out HQ4.out HG2.out HA2.out
          exact ⟨k + 1, by omega, by go_num, by rw [Hk.out, HKS'.out]; exact own_cast2 HO2'.out (by simp) rfl, ⟨u1, u2, by rw [Hs.out]; exact t1, t2, t3⟩, below_app2 HB3.out hsz3 HQ1.out HG2.out⟩
        case measure => simp [intOf]; omega
      · have hv : AddRes L (x, 2 ^ k) = .tuple #[.int .i64 0, .bool true] := by simp [AddRes, h0]
        rw [hv] at ha
        rw [if_neg h0] at hks
        have HA := Lib.hid ha
        have HKS' := Lib.hid hks
        clear ha hv h0 hks hsp hoo hne1 hne2 hbel hg hF
        go_wp2_with (go_at_call 60; refine HA.out.mono ?_; rintro e w3 ⟨rfl, hpost⟩; have HP := Lib.hid hpost; clear hpost)
        go_roundw
        case rel =>
          obtain ⟨q1, u1, u2, q2, q3, q4⟩ := span_own_add HSQ.out HOO.out HN1.out HN2.out HP.out
          exact ⟨k + 1, by omega, by go_num, by rw [Hk.out, HKS'.out]; exact q1, ⟨u1, u2, by rw [Hs.out]; exact q2, q3, q4⟩, HB.out.trans (HP.out.below HSQ.out hsz)⟩
        case measure => simp [intOf]; omega
    · have ek : k = S.length := by rw [← Hn.out]; omega
      subst ek
      obtain ⟨F, cf, rfl, _, hF, _⟩ := owns_shape hoo
      have hr := reduced_any F (kerS S S.length).length cf (kerS S S.length) wr (HT.out.below hbel hw) (by omega) rfl (by omega) HKS.out (owns_Rd hoo)
      have HRR := Lib.hid hr
      have HB := Lib.hid hbel
      clear hoo hne1 hne2 hsp hbel hF hr
      go_wp2_with fail
      refine HRR.out.mono ?_
      rintro e w2 ⟨v, rfl, ho, hb⟩
      have HO2 := Lib.hid ho
      have HB2 := Lib.hid hb
      clear ho hb
      go_wp2_with fail
      go_ret
      exact ⟨v, rfl, HO2.out.mono hsz, HB.out.trans (HB2.out.mono hsz)⟩

end Go.Proofs.YtjhlmalpcelbaaaDoor

namespace Go.Proofs.YtjhlmalpcelbaaaDoor
open Go.RowKit

theorem spanL_snoc (ps : List (Nat × Nat)) (p : Nat × Nat) : spanL (ps ++ [p]) = addL (spanL ps) p := by simp [spanL]
theorem dup_succ {A : List Nat} {k : Nat} (h : k < A.length) : dup (A.take (k + 1)) = dup (A.take k) ++ [(A.getD k 0, A.getD k 0)] := by
  unfold dup; rw [List.take_succ_eq_append_getElem h, List.map_append]; congr 1; simp [List.getD, h]
theorem zs_succ {A : List Nat} {k : Nat} (h : k < A.length) : zs (A.take (k + 1)) = zs (A.take k) ++ [(A.getD k 0, 0)] := by
  unfold zs; rw [List.take_succ_eq_append_getElem h, List.map_append]; congr 1; simp [List.getD, h]
def meetK (A B : List Nat) (k : Nat) : List Nat := meetOut (fun k => spanL (dup A ++ zs (B.take k))) B k
theorem meetK_succ (A B : List Nat) (k : Nat) : meetK A B (k + 1) = kerStep (spanL (dup A ++ zs (B.take k))) (B.getD k 0, 0) (meetK A B k) := rfl
theorem meetS_K (A B : List Nat) : meetS A B = reduceS (meetK A B B.length) := rfl

set_option maxRecDepth 100000 in
set_option maxHeartbeats 2000000 in
theorem meet_any (A A' : Option Addr) (n n' c c' : Nat) (S T : List Nat) (w : World) (hT : Tab w) (hw : 0 < w.heap.size) (hn : n = S.length) (hn' : n' = T.length) (hsmall : n ≤ 200) (hsmall' : n' ≤ 200) (hS : ∀ r ∈ S, Sm r) (hT' : ∀ r ∈ T, Sm r) (hR : Rd w A (nv S)) (hR' : Rd w A' (nv T)) :
    Calls Tryd.prog 57 #[.slice A n c, .slice A' n' c'] w fun e w' => ∃ v, e = .returned v ∧ w'.ownsRow w.heap.size 2 1 v (meetS S T).length (nv (meetS S T)) ∧ Below w.heap.size w w' := by
  have HMS := Lib.hid ((meetG_span hS hT').sm hS)
  have HSM := Lib.hid (fun k => sm_pairs hS (sm_take hT' k))
  have HSD : Hid (∀ k, ∀ p ∈ dup (S.take k), SmP p) := by
    show ∀ k, ∀ p ∈ dup (S.take k), SmP p
    intro k p hp
    obtain ⟨x, hx, rfl⟩ := List.mem_map.1 hp
    have := hS x (List.mem_of_mem_take hx)
    exact ⟨this, this⟩
  have Hn := Lib.hid hn
  have Hn' := Lib.hid hn'
  have HR := Lib.hid hR
  have HR' := Lib.hid hR'
  have HS := Lib.hid hS
  have HS' := Lib.hid hT'
  have HT := Lib.hid hT
  have HSP0 := Lib.hid (SpanAt.new w)
  clear hn hR hS hT hn' hR' hT'
  go_enter Tryd.func57, Tryd.ntmps57
  go_wp2_with fail
  go_loopw [18] (fun i wr => ∃ k : Nat, k ≤ n ∧ i = .int .i64 k ∧ wr.ownsRow w.heap.size 2 1 (.slice (some ⟨w.heap.size + 1, 0, none⟩) 0 0) 0 (nv []) ∧
      (∃ v1 v2, SpanAt wr w.heap.size w.heap.size v1 v2 (spanL (dup (S.take k))) ∧ (Value.slice (some ⟨w.heap.size + 1, 0, none⟩) 0 0).ownBlock ≠ v1.ownBlock ∧ (Value.slice (some ⟨w.heap.size + 1, 0, none⟩) 0 0).ownBlock ≠ v2.ownBlock) ∧ Below w.heap.size w wr) (fun i _ => n - (intOf i).toNat)
  case atStart =>
    refine ⟨0, by omega, rfl, ?_, ⟨_, _, HSP0.out.keeps ((Keeps.refl _ []).alloc _) (by simp) (.inr (by simp)) (.inr (by simp)), by simp [Value.ownBlock], by simp [Value.ownBlock]⟩, ((Below.refl _ _).alloc (Nat.le_refl _) _).alloc (by simp) _⟩
    have := World.ownsRow_made (w.alloc (.cells #[.slice none 0 0, .slice none 0 0] 68)) #[] 0 (base := w.heap.size) (e := 2) (size := 1) (by simp) (by decide) (by simp)
    simp only [World.size_alloc] at this
    exact this
  case round =>
    obtain ⟨k, hk, rfl, hoo, ⟨v1, v2, hsp, hne1, hne2⟩, hbel⟩ := hrel
    have hsz : w.heap.size ≤ wr.heap.size := hbel.size
    by_cases hlt : k < n
    · have hkL : k < S.length := by rw [← Hn.out]; exact hlt
      obtain ⟨b, o', rfl, hc⟩ := (HR.out.below hbel).atN hkL
      have hx := HS.out _ (getD_mem hkL)
      have Hs : Hid (spanL (dup (S.take (k + 1))) = addL (spanL (dup (S.take k))) (S.getD k 0, S.getD k 0)) := by
        show _ = _; rw [dup_succ hkL, spanL_snoc]
      have hl := spanL_length_le (dup (S.take k))
      rw [dup_length, List.length_take] at hl
      have hg := (spanL_perm (dup (S.take k)) (HSD.out k)).2.2
      generalize spanL (dup (S.take k)) = L at *
      generalize S.getD k 0 = x at *
      have ha := add_any w.heap.size w.heap.size v1 v2 L x x wr (HT.out.below hbel hw) hw hsz hsp (by omega) hx hx hg
      have HSQ := Lib.hid hsp
      have HOO := Lib.hid hoo
      have HN1 := Lib.hid hne1
      have HN2 := Lib.hid hne2
      have HB := Lib.hid hbel
      have HA := Lib.hid ha
      clear ha hsp hoo hne1 hne2 hbel hg
      go_wp2_with (go_at_call 60; refine HA.out.mono ?_; rintro e w3 ⟨rfl, hpost⟩; have HP := Lib.hid hpost; clear hpost)
      go_roundw
      case rel =>
        obtain ⟨q1, u1, u2, q2, q3, q4⟩ := span_own_add HSQ.out HOO.out HN1.out HN2.out HP.out
        exact ⟨k + 1, by omega, by go_num, q1, ⟨u1, u2, by rw [Hs.out]; exact q2, q3, q4⟩, HB.out.trans (HP.out.below HSQ.out hsz)⟩
      case measure => simp [intOf]; omega
    · obtain ⟨W0, rfl⟩ : ∃ W0, W0 = wr := ⟨_, rfl⟩
      have ek : S.take k = S := List.take_of_length_le (by rw [← Hn.out]; omega)
      rw [ek] at hsp
      have HSQ0 := Lib.hid hsp
      have HOO0 := Lib.hid hoo
      have HN10 := Lib.hid hne1
      have HN20 := Lib.hid hne2
      have HB0 := Lib.hid hbel
      clear hsp hoo hne1 hne2 hbel ek
      go_wp2_with fail
      go_loopw [6, 29] (fun o i wr => ∃ k : Nat, k ≤ n' ∧ i = .int .i64 k ∧ wr.ownsRow w.heap.size 2 1 o (meetK S T k).length (nv (meetK S T k)) ∧
          (∃ v1 v2, SpanAt wr w.heap.size w.heap.size v1 v2 (spanL (dup S ++ zs (T.take k))) ∧ o.ownBlock ≠ v1.ownBlock ∧ o.ownBlock ≠ v2.ownBlock) ∧ Below w.heap.size w wr) (fun _ i _ => n' - (intOf i).toNat)
      case atStart => exact ⟨0, by omega, rfl, HOO0.out, ⟨v1, v2, by simpa [zs] using HSQ0.out, HN10.out, HN20.out⟩, HB0.out⟩
      case round =>
        obtain ⟨k, hk, rfl, hoo, ⟨v1, v2, hsp, hne1, hne2⟩, hbel⟩ := hrel
        have hsz : w.heap.size ≤ wr.heap.size := hbel.size
        have hko := meetOut_length (fun k => spanL (dup S ++ zs (T.take k))) T k
        change (meetK S T k).length ≤ k at hko
        by_cases hlt : k < n'
        · have hkL : k < T.length := by rw [← Hn'.out]; exact hlt
          obtain ⟨b, o', rfl, hc⟩ := (HR'.out.below hbel).atN hkL
          have hx := HS'.out _ (getD_mem hkL)
          have Hs : Hid (spanL (dup S ++ zs (T.take (k + 1))) = addL (spanL (dup S ++ zs (T.take k))) (T.getD k 0, 0)) := by
            show _ = _; rw [zs_succ hkL, ← List.append_assoc, spanL_snoc]
          have Hk := Lib.hid (meetK_succ S T k)
          have hl := spanL_length_le (dup S ++ zs (T.take k))
          rw [List.length_append, dup_length, zs_length, List.length_take, ← Hn.out] at hl
          have hg := (spanL_perm (dup S ++ zs (T.take k)) (HSM.out k)).2.2
          generalize spanL (dup S ++ zs (T.take k)) = L at *
          generalize meetK S T k = O at *
          generalize T.getD k 0 = x at *
          have ha := add_any w.heap.size w.heap.size v1 v2 L x 0 wr (HT.out.below hbel hw) hw hsz hsp (by omega) hx Sm.zero hg
          have hks : kerStep L (x, 0) O = if (leftN L (x, 0)).1 = 0 then O ++ [(leftN L (x, 0)).2] else O := rfl
          obtain ⟨F, cf, rfl, _, hF, _⟩ := owns_shape hoo
          have HSQ := Lib.hid hsp
          have HOO := Lib.hid hoo
          have HN1 := Lib.hid hne1
          have HN2 := Lib.hid hne2
          have HB := Lib.hid hbel
          by_cases h0 : (leftN L (x, 0)).1 = 0
          · have hv : AddRes L (x, 0) = .tuple #[.int .i64 ((leftN L (x, 0)).2 : Nat), .bool false] := by simp [AddRes, h0]
            rw [hv] at ha
            rw [if_pos h0] at hks
            have HA := Lib.hid ha
            have HKS' := Lib.hid hks
            clear ha hv h0 hks hsp hoo hne1 hne2 hbel hg hF
            generalize (leftN L (x, 0)).2 = z at *
            go_wp2_with (first | (go_at_call 60; refine HA.out.mono ?_; (rintro e w3 ⟨rfl, hpost⟩; obtain ⟨q1, u1, u2, q2, q3, q4⟩ := span_own_add HSQ.out HOO.out HN1.out HN2.out hpost; have hb3 := hpost.below HSQ.out hsz; have HQ1 := Lib.hid q1; have HQ2 := Lib.hid q2; have HQ3 := Lib.hid q3; have HQ4 := Lib.hid q4; have HB3 := Lib.hid (HB.out.trans (hb3.mono (Nat.le_refl _))); have hsz3 : w.heap.size ≤ w3.heap.size := HB3.out.size; clear hpost q1 q2 q3 q4 hb3)) | (at_builtin; refine wpList_app1 _ _ _ _ _ etI (by rfl) (by rfl) w.heap.size (.slice F O.length cf) O.length (nv O) (by rfl) ?_ _ (.int .i64 (z : Int)) (by rfl) ?_ (by rfl) ?_ ?_ ?_; exact HQ1.out.alloc _; exact new_cell _ _ _; omega; (simp; omega); (intro g2 cap2 w4 hown2 hgrow2 hat2 hlt2; have HO2' : Hid (w4.ownsRow w.heap.size 2 1 (.slice (some ⟨g2, 0, none⟩) (O.length + 1) cap2) (O.length + 1) (nv (O ++ [z]))) := (by rw [← nv_snoc2]; exact hown2); have HG2 := Lib.hid hgrow2; have HA2 := Lib.hid hat2; clear hown2 hgrow2 hat2 hlt2)))
            go_roundw
            case rel =>
              obtain ⟨t1, t2, t3⟩ := span_own_app HQ2.out (own_ne HQ1.out HQ2.out.blk (by decide)) HQ3.out HQ4.out HG2.out HA2.out
              exact ⟨k + 1, by omega, by go_num, by rw [Hk.out, HKS'.out]; exact own_cast2 HO2'.out (by simp) rfl, ⟨u1, u2, by rw [Hs.out]; exact t1, t2, t3⟩, below_app2 HB3.out hsz3 HQ1.out HG2.out⟩
            case measure => simp [intOf]; omega
          · have hv : AddRes L (x, 0) = .tuple #[.int .i64 0, .bool true] := by simp [AddRes, h0]
            rw [hv] at ha
            rw [if_neg h0] at hks
            have HA := Lib.hid ha
            have HKS' := Lib.hid hks
            clear ha hv h0 hks hsp hoo hne1 hne2 hbel hg hF
            go_wp2_with (go_at_call 60; refine HA.out.mono ?_; rintro e w3 ⟨rfl, hpost⟩; have HP := Lib.hid hpost; clear hpost)
            go_roundw
            case rel =>
              obtain ⟨q1, u1, u2, q2, q3, q4⟩ := span_own_add HSQ.out HOO.out HN1.out HN2.out HP.out
              exact ⟨k + 1, by omega, by go_num, by rw [Hk.out, HKS'.out]; exact q1, ⟨u1, u2, by rw [Hs.out]; exact q2, q3, q4⟩, HB.out.trans (HP.out.below HSQ.out hsz)⟩
            case measure => simp [intOf]; omega
        · have ek : k = T.length := by rw [← Hn'.out]; omega
          subst ek
          obtain ⟨F, cf, rfl, _, hF, _⟩ := owns_shape hoo
          have hr := reduced_any F (meetK S T T.length).length cf (meetK S T T.length) wr (HT.out.below hbel hw) (by omega) rfl (by omega) HMS.out (owns_Rd hoo)
          rw [← meetS_K] at hr
          have HRR := Lib.hid hr
          have HB := Lib.hid hbel
          clear hoo hne1 hne2 hsp hbel hF hr
          go_wp2_with fail
          refine HRR.out.mono ?_
          rintro e w2 ⟨v, rfl, ho, hb⟩
          have HO2 := Lib.hid ho
          have HB2 := Lib.hid hb
          clear ho hb
          go_wp2_with fail
          go_ret
          exact ⟨v, rfl, HO2.out.mono hsz, HB.out.trans (HB2.out.mono hsz)⟩
end Go.Proofs.YtjhlmalpcelbaaaDoor

namespace Go.Proofs.YtjhlmalpcelbaaaDoor
open Go.RowKit
/-- What MeetOfSpaces answers. -/
def meetOf (c : Int) (xs : List Int) (c' : Int) (ys : List Int) : Int × List Nat × Int := if bothOf c xs c' ys = 0 then (c, meetS (toN xs) (toN ys), 0) else (0, [], bothOf c xs c' ys)
theorem meetOf_len (c : Int) (xs : List Int) (c' : Int) (ys : List Int) : (meetOf c xs c' ys).2.1.length ≤ 1000 := by
  unfold meetOf
  split
  · rename_i h
    obtain ⟨hi, hj, _⟩ := bothOf_zero h
    have h2 := isMat_len hj
    have h3 := reduceS_length_le (meetK (toN xs) (toN ys) (toN ys).length)
    have h4 := meetOut_length (fun k => spanL (dup (toN xs) ++ zs ((toN ys).take k))) (toN ys) (toN ys).length
    change (meetK (toN xs) (toN ys) (toN ys).length).length ≤ _ at h4
    have h5 : (toN ys).length = ys.length := by simp [toN]
    rw [meetS_K]
    simp only
    omega
  · simp
set_option maxRecDepth 100000 in
set_option maxHeartbeats 2000000 in
theorem specMeet_any (c c' : Int) (A A' : Option Addr) (n n' cap cap' : Nat) (xs ys : List Int) (w : World) (hn : n = xs.length) (hn' : n' = ys.length) (hsm : n ≤ 1099511627776) (hsm' : n' ≤ 1099511627776) (hR : Rd w A (iv xs)) (hR' : Rd w A' (iv ys)) :
    Calls Tryd.prog 12 #[.agg #[.int .i64 c, .slice A n cap], .agg #[.int .i64 c', .slice A' n' cap']] w fun e w' =>
      ∃ v, e = .returned (.tuple #[.agg #[.int .i64 (meetOf c xs c' ys).1, v], .int .i64 (meetOf c xs c' ys).2.2]) ∧ w'.ownsRow w.heap.size 2 1 v (meetOf c xs c' ys).2.1.length (nv (meetOf c xs c' ys).2.1) ∧ Below w.heap.size w w' := by
  have hb1 := blk_alloc (blk_alloc (blk_new w (.cells #[.int .i64 c, .slice A n cap] 26)) (.cells #[.int .i64 c', .slice A' n' cap'] 26)) (.cells #[.int .i64 0, .slice none 0 0] 26)
  have hb2 := blk_alloc (blk_new1 w (.cells #[.int .i64 c, .slice A n cap] 26) (.cells #[.int .i64 c', .slice A' n' cap'] 26)) (.cells #[.int .i64 0, .slice none 0 0] 26)
  have hb3 := blk_new2 w (.cells #[.int .i64 c, .slice A n cap] 26) (.cells #[.int .i64 c', .slice A' n' cap'] 26) (.cells #[.int .i64 0, .slice none 0 0] 26)
  have hbel : Below w.heap.size w (((w.alloc (.cells #[.int .i64 c, .slice A n cap] 26)).alloc (.cells #[.int .i64 c', .slice A' n' cap'] 26)).alloc (.cells #[.int .i64 0, .slice none 0 0] 26)) := (((Below.refl _ _).alloc (Nat.le_refl _) _).alloc (by simp) _).alloc (by simp; omega) _
  have h1 := l02Both_any c c' A A' n n' cap cap' xs ys _ hn hn' hsm hsm' (hR.below hbel) (hR'.below hbel)
  have HK := Lib.hid (three_keep hb1 hb2 hb3)
  have HB := Lib.hid hbel
  have HR := Lib.hid hR
  have HR' := Lib.hid hR'
  have Hn := Lib.hid hn
  have Hn' := Lib.hid hn'
  clear hb1 hb2 hb3 hbel hR hR' hn hn'
  by_cases h0 : bothOf c xs c' ys = 0
  · obtain ⟨hi, hj, hc⟩ := bothOf_zero h0
    rw [h0] at h1
    have H1 := Lib.hid h1
    have HE : Hid (meetOf c xs c' ys = (c, meetS (toN xs) (toN ys), 0)) := by show _ = _; unfold meetOf; rw [if_pos h0]
    have hlx := isMat_len hi
    have hly := isMat_len hj
    have HSx := Lib.hid (isMat_sm hi)
    have HSy := Lib.hid (isMat_sm hj)
    have HRx : Hid (Rd w A (nv (toN xs))) := by have := HR.out; rw [iv_toN (fun x hx => (isMat_nonneg hi x hx).1)] at this; exact this
    have HRy : Hid (Rd w A' (nv (toN ys))) := by have := HR'.out; rw [iv_toN (fun x hx => (isMat_nonneg hj x hx).1)] at this; exact this
    have lx : (toN xs).length = xs.length := by simp [toN]
    have ly : (toN ys).length = ys.length := by simp [toN]
    have hlxN : n ≤ 200 := by rw [Hn.out]; exact hlx
    have hlyN : n' ≤ 200 := by rw [Hn'.out]; exact hly
    have Lx := Lib.hid lx
    have Ly := Lib.hid ly
    clear h1 h0 hi hj hc lx ly hlx hly
    go_enter Tryd.func12, Tryd.ntmps12
    go_wp2_with fail
    refine H1.out.mono ?_
    rintro e w1 ⟨rfl, hb⟩
    have HB1 := Lib.hid (HB.out.trans (hb.mono HB.out.size))
    have hs1 := HB1.out.size
    have hka := HK.out _ hb
    have HKa := Lib.hid (three_keep hka.1 hka.2.1 hka.2.2)
    obtain ⟨x0, x1, _, _, lx⟩ := blk2cells hka.1
    obtain ⟨y0, y1, _, _, ly⟩ := blk2cells hka.2.1
    have HC := Lib.hid (fun W (hbW : Below w1.heap.size w1 W) => l02Meet_any A A' n n' cap cap' (toN xs) (toN ys) W (by rw [Hn.out, Lx.out]) (by rw [Hn'.out, Ly.out]) hlxN hlyN HSx.out HSy.out (HRx.out.below (HB1.out.trans (hbW.mono hs1))) (HRy.out.below (HB1.out.trans (hbW.mono hs1))))
    clear hb hka
    go_wp2_with fail
    go_region_held3 (fun w' => w'.cell? ⟨w.heap.size, 0, none⟩ = some (.int .i64 c) ∧ w'.cell? ⟨w.heap.size, 1, none⟩ = some (.slice A n cap) ∧ w'.cell? ⟨w.heap.size + 1, 1, none⟩ = some (.slice A' n' cap'))
      (first | exact ⟨x0, x1, y1⟩ | exact ⟨q0, q1, q2⟩ | exact ⟨cell_set (cell_set q0 (by simp <;> omega)) (by simp <;> omega), cell_set (cell_set q1 (by simp <;> omega)) (by simp <;> omega), cell_set (cell_set q2 (by simp <;> omega)) (by simp <;> omega)⟩)
      (first
        | (go_at_call 58; (with_reducible refine (HC.out _ (Below.drew (Below.refl _ _))).mono ?_); (rintro e w3 ⟨v, rfl, ho, hb⟩; obtain ⟨Aw, cw, rfl, _, _, _⟩ := owns_shape ho; have HB3 := Lib.hid ((Below.drew (Below.refl w1.heap.size w1)).trans hb); have HO3 := Lib.hid ho; clear ho hb; obtain ⟨q0, q1, _, _, _⟩ := blk2cells (HKa.out _ HB3.out).1; obtain ⟨_, q2, _, _, _⟩ := blk2cells (HKa.out _ HB3.out).2.1; obtain ⟨z0, z1, z2, z3, z4⟩ := blk2cells (HKa.out _ HB3.out).2.2)))
    go_wp2_with fail
    refine bodyPost_ret (v := .tuple #[.agg #[.int .i64 c, .slice Aw (meetS (toN xs) (toN ys)).length cw], .int .i64 0]) ?_ rfl ⟨_, by rw [HE.out], ?_, ?_⟩
    · simp [results, Tryd.results12, go_sem, z0, z1]
    · rw [HE.out]
      exact (owns_keeps HO3.out (((Keeps.refl w3 [some (w.heap.size + 1 + 1)]).setCell (p := ⟨w.heap.size + 1 + 1, 0, none⟩) (by simp) _).setCell (p := ⟨w.heap.size + 1 + 1, 1, none⟩) (by simp) _) (.inr (by simp only [List.mem_singleton]; exact own_ne HO3.out ((HKa.out _ HB3.out).2.2) (by decide)))).mono hs1
    · exact ((HB1.out.trans (HB3.out.mono hs1)).setCell (p := ⟨w.heap.size + 1 + 1, 0, none⟩) (by simp; omega) _).setCell (p := ⟨w.heap.size + 1 + 1, 1, none⟩) (by simp; omega) _
  · have HE : Hid (meetOf c xs c' ys = (0, [], bothOf c xs c' ys)) := by show _ = _; unfold meetOf; rw [if_neg h0]
    have hcb : (bothOf c xs c' ys != 0) = true := by simpa using h0
    generalize bothOf c xs c' ys = code at *
    have H1 := Lib.hid h1
    clear h1 h0
    go_enter Tryd.func12, Tryd.ntmps12
    go_wp2_with fail
    refine H1.out.mono ?_
    rintro e w1 ⟨rfl, hb⟩
    have HB1 := Lib.hid (HB.out.trans (hb.mono HB.out.size))
    obtain ⟨z0, z1, z2, z3, lz⟩ := blk2cells (HK.out _ hb).2.2
    clear hb
    go_wp2_with fail
    refine bodyPost_ret (v := .tuple #[.agg #[.int .i64 0, .slice none 0 0], .int .i64 code]) ?_ rfl ⟨_, by rw [HE.out], by rw [HE.out]; exact World.ownsRow_nil _ _ _ _, ?_⟩
    · simp [results, Tryd.results12, go_sem, z0, z1]
    · exact (HB1.out.setCell (p := ⟨w.heap.size + 1 + 1, 0, none⟩) (by simp; omega) _).setCell (p := ⟨w.heap.size + 1 + 1, 1, none⟩) (by simp; omega) _
set_option maxRecDepth 100000 in
set_option maxHeartbeats 2000000 in
theorem implMeet_any (c c' : Int) (A A' : Option Addr) (n n' cap cap' : Nat) (xs ys : List Int) (w : World) (hT : Tab w) (hw : 0 < w.heap.size) (hn : n = xs.length) (hn' : n' = ys.length) (hsm : n ≤ 1099511627776) (hsm' : n' ≤ 1099511627776) (hR : Rd w A (iv xs)) (hR' : Rd w A' (iv ys)) :
    Calls Tryd.prog 11 #[.agg #[.int .i64 c, .slice A n cap], .agg #[.int .i64 c', .slice A' n' cap']] w fun e w' =>
      ∃ v, e = .returned (.tuple #[.agg #[.int .i64 (meetOf c xs c' ys).1, v], .int .i64 (meetOf c xs c' ys).2.2]) ∧ w'.ownsRow w.heap.size 2 1 v (meetOf c xs c' ys).2.1.length (nv (meetOf c xs c' ys).2.1) ∧ Below w.heap.size w w' := by
  have hb1 := blk_alloc (blk_alloc (blk_new w (.cells #[.int .i64 c, .slice A n cap] 26)) (.cells #[.int .i64 c', .slice A' n' cap'] 26)) (.cells #[.int .i64 0, .slice none 0 0] 26)
  have hb2 := blk_alloc (blk_new1 w (.cells #[.int .i64 c, .slice A n cap] 26) (.cells #[.int .i64 c', .slice A' n' cap'] 26)) (.cells #[.int .i64 0, .slice none 0 0] 26)
  have hb3 := blk_new2 w (.cells #[.int .i64 c, .slice A n cap] 26) (.cells #[.int .i64 c', .slice A' n' cap'] 26) (.cells #[.int .i64 0, .slice none 0 0] 26)
  have hbel : Below w.heap.size w (((w.alloc (.cells #[.int .i64 c, .slice A n cap] 26)).alloc (.cells #[.int .i64 c', .slice A' n' cap'] 26)).alloc (.cells #[.int .i64 0, .slice none 0 0] 26)) := (((Below.refl _ _).alloc (Nat.le_refl _) _).alloc (by simp) _).alloc (by simp; omega) _
  have h1 := equalColumns_any c c' A A' n n' cap cap' xs ys _ hn hn' hsm hsm' (hR.below hbel) (hR'.below hbel)
  have HK := Lib.hid (three_keep hb1 hb2 hb3)
  have HB := Lib.hid hbel
  have HR := Lib.hid hR
  have HR' := Lib.hid hR'
  have HT := Lib.hid hT
  clear hT
  have Hn := Lib.hid hn
  have Hn' := Lib.hid hn'
  clear hb1 hb2 hb3 hbel hR hR' hn hn'
  by_cases h0 : bothOf c xs c' ys = 0
  · obtain ⟨hi, hj, hc⟩ := bothOf_zero h0
    rw [h0] at h1
    have H1 := Lib.hid h1
    have HE : Hid (meetOf c xs c' ys = (c, meetS (toN xs) (toN ys), 0)) := by show _ = _; unfold meetOf; rw [if_pos h0]
    have hlx := isMat_len hi
    have hly := isMat_len hj
    have HSx := Lib.hid (isMat_sm hi)
    have HSy := Lib.hid (isMat_sm hj)
    have HRx : Hid (Rd w A (nv (toN xs))) := by have := HR.out; rw [iv_toN (fun x hx => (isMat_nonneg hi x hx).1)] at this; exact this
    have HRy : Hid (Rd w A' (nv (toN ys))) := by have := HR'.out; rw [iv_toN (fun x hx => (isMat_nonneg hj x hx).1)] at this; exact this
    have lx : (toN xs).length = xs.length := by simp [toN]
    have ly : (toN ys).length = ys.length := by simp [toN]
    have hlxN : n ≤ 200 := by rw [Hn.out]; exact hlx
    have hlyN : n' ≤ 200 := by rw [Hn'.out]; exact hly
    have Lx := Lib.hid lx
    have Ly := Lib.hid ly
    clear h1 h0 hi hj hc lx ly hlx hly
    go_enter Tryd.func11, Tryd.ntmps11
    go_wp2_with fail
    refine H1.out.mono ?_
    rintro e w1 ⟨rfl, hb⟩
    have HB1 := Lib.hid (HB.out.trans (hb.mono HB.out.size))
    have hs1 := HB1.out.size
    have hka := HK.out _ hb
    have HKa := Lib.hid (three_keep hka.1 hka.2.1 hka.2.2)
    obtain ⟨x0, x1, _, _, lx⟩ := blk2cells hka.1
    obtain ⟨y0, y1, _, _, ly⟩ := blk2cells hka.2.1
    have HC := Lib.hid (fun W (hbW : Below w1.heap.size w1 W) => meet_any A A' n n' cap cap' (toN xs) (toN ys) W (HT.out.below (HB1.out.trans (hbW.mono hs1)) hw) (by have := hbW.size; omega) (by rw [Hn.out, Lx.out]) (by rw [Hn'.out, Ly.out]) hlxN hlyN HSx.out HSy.out (HRx.out.below (HB1.out.trans (hbW.mono hs1))) (HRy.out.below (HB1.out.trans (hbW.mono hs1))))
    clear hb hka
    go_wp2_with fail
    go_region_held3 (fun w' => w'.cell? ⟨w.heap.size, 0, none⟩ = some (.int .i64 c) ∧ w'.cell? ⟨w.heap.size, 1, none⟩ = some (.slice A n cap) ∧ w'.cell? ⟨w.heap.size + 1, 1, none⟩ = some (.slice A' n' cap'))
      (first | exact ⟨x0, x1, y1⟩ | exact ⟨q0, q1, q2⟩ | exact ⟨cell_set (cell_set q0 (by simp <;> omega)) (by simp <;> omega), cell_set (cell_set q1 (by simp <;> omega)) (by simp <;> omega), cell_set (cell_set q2 (by simp <;> omega)) (by simp <;> omega)⟩)
      (first
        | (go_at_call 57; (with_reducible refine (HC.out _ (Below.drew (Below.refl _ _))).mono ?_); (rintro e w3 ⟨v, rfl, ho, hb⟩; obtain ⟨Aw, cw, rfl, _, _, _⟩ := owns_shape ho; have HB3 := Lib.hid ((Below.drew (Below.refl w1.heap.size w1)).trans hb); have HO3 := Lib.hid ho; clear ho hb; obtain ⟨q0, q1, _, _, _⟩ := blk2cells (HKa.out _ HB3.out).1; obtain ⟨_, q2, _, _, _⟩ := blk2cells (HKa.out _ HB3.out).2.1; obtain ⟨z0, z1, z2, z3, z4⟩ := blk2cells (HKa.out _ HB3.out).2.2)))
    go_wp2_with fail
    refine bodyPost_ret (v := .tuple #[.agg #[.int .i64 c, .slice Aw (meetS (toN xs) (toN ys)).length cw], .int .i64 0]) ?_ rfl ⟨_, by rw [HE.out], ?_, ?_⟩
    · simp [results, Tryd.results11, go_sem, z0, z1]
    · rw [HE.out]
      exact (owns_keeps HO3.out (((Keeps.refl w3 [some (w.heap.size + 1 + 1)]).setCell (p := ⟨w.heap.size + 1 + 1, 0, none⟩) (by simp) _).setCell (p := ⟨w.heap.size + 1 + 1, 1, none⟩) (by simp) _) (.inr (by simp only [List.mem_singleton]; exact own_ne HO3.out ((HKa.out _ HB3.out).2.2) (by decide)))).mono hs1
    · exact ((HB1.out.trans (HB3.out.mono hs1)).setCell (p := ⟨w.heap.size + 1 + 1, 0, none⟩) (by simp; omega) _).setCell (p := ⟨w.heap.size + 1 + 1, 1, none⟩) (by simp; omega) _
  · have HE : Hid (meetOf c xs c' ys = (0, [], bothOf c xs c' ys)) := by show _ = _; unfold meetOf; rw [if_neg h0]
    have hcb : (bothOf c xs c' ys != 0) = true := by simpa using h0
    generalize bothOf c xs c' ys = code at *
    have H1 := Lib.hid h1
    clear h1 h0
    go_enter Tryd.func11, Tryd.ntmps11
    go_wp2_with fail
    refine H1.out.mono ?_
    rintro e w1 ⟨rfl, hb⟩
    have HB1 := Lib.hid (HB.out.trans (hb.mono HB.out.size))
    obtain ⟨z0, z1, z2, z3, lz⟩ := blk2cells (HK.out _ hb).2.2
    clear hb
    go_wp2_with fail
    refine bodyPost_ret (v := .tuple #[.agg #[.int .i64 0, .slice none 0 0], .int .i64 code]) ?_ rfl ⟨_, by rw [HE.out], by rw [HE.out]; exact World.ownsRow_nil _ _ _ _, ?_⟩
    · simp [results, Tryd.results11, go_sem, z0, z1]
    · exact (HB1.out.setCell (p := ⟨w.heap.size + 1 + 1, 0, none⟩) (by simp; omega) _).setCell (p := ⟨w.heap.size + 1 + 1, 1, none⟩) (by simp; omega) _
end Go.Proofs.YtjhlmalpcelbaaaDoor

namespace Go.Proofs.YtjhlmalpcelbaaaDoor
open Go.RowKit
theorem rows_lt {c : Int} {xs : List Int} (h : isMat c xs = true) : ∀ r ∈ toN xs, r < 2 ^ c.toNat := by
  intro r hr
  obtain ⟨x, hx, rfl⟩ := List.mem_map.1 hr
  unfold isMat at h
  simp only [Bool.and_eq_true, List.all_eq_true] at h
  have hm := inB_true (h.2.2 x hx)
  have e : ((2 ^ c.toNat : Nat) : Int) = (2 : Int) ^ c.toNat := by rw [Int.natCast_pow]; rfl
  omega
theorem sp_ltD {S : List Nat} {n v : Nat} (h : ∀ r ∈ S, r < 2 ^ n) (hv : Sp S v) : v < 2 ^ n := by
  induction hv with
  | zero => exact Nat.pow_pos (by decide)
  | add hm _ ih => exact Nat.xor_lt_two_pow (h _ hm) ih
theorem mask_natD {v d : Nat} (h : v < 2 ^ d) : maskB (v : Int) d = true := by
  have e : ((2 ^ d : Nat) : Int) = (2 : Int) ^ d := by rw [Int.natCast_pow]; rfl
  unfold maskB inB
  simp only [Bool.and_eq_true, decide_eq_true_eq]
  omega
theorem has_in {c : Int} {xs : List Int} {r : Nat} (h : isMat c xs = true) (hr : Sp (toN xs) r) : hasOf c xs (r : Int) = (true, 0) := by
  have h1 := sp_ltD (rows_lt h) hr
  have h2 : leftS (reduceS (toN xs)) r = 0 := ((red_reduce (isMat_sm h)).ech.sp_iff r).1 ((sp_reduce (isMat_sm h) r).2 hr)
  unfold hasOf
  rw [if_pos h, if_pos (mask_natD h1)]
  simp [h2]
theorem has_meet {c : Int} {xs ys : List Int} {r : Nat} (hx : isMat c xs = true) (hy : isMat c ys = true) (hr : r ∈ meetS (toN xs) (toN ys)) : hasOf c xs (r : Int) = (true, 0) ∧ hasOf c ys (r : Int) = (true, 0) := by
  obtain ⟨h1, h2⟩ := (meetS_sp (isMat_sm hx) (isMat_sm hy) r).1 (.mem hr)
  exact ⟨has_in hx h1, has_in hy h2⟩
theorem rank_sum {c : Int} {xs ys : List Int} (hx : isMat c xs = true) (hy : isMat c ys = true) : (rankOf c xs).1 + (rankOf c ys).1 = ((reduceS (toN xs ++ toN ys)).length : Int) + ((meetS (toN xs) (toN ys)).length : Int) := by
  have := dims (isMat_sm hx) (isMat_sm hy)
  unfold rankOf
  rw [if_pos hx, if_pos hy]
  show ((reduceS (toN xs)).length : Int) + ((reduceS (toN ys)).length : Int) = _
  omega
theorem rank_comp {c : Int} {xs ys : List Int} (hx : isMat c xs = true) : (rankOf c xs).1 + ((compK (reduceS (toN xs)) (toN ys) (toN ys).length).2.1.length : Int) = ((reduceS (toN xs ++ toN ys)).length : Int) := by
  have := comp_rank (toN xs) (toN ys)
  unfold rankOf
  rw [if_pos hx]
  show ((reduceS (toN xs)).length : Int) + _ = _
  omega
end Go.Proofs.YtjhlmalpcelbaaaDoor

namespace Go.Proofs.YtjhlmalpcelbaaaDoor
open Go.RowKit

/-- What ReducedForm answers. -/
def redOf (c : Int) (xs : List Int) : Int × List Nat × Int := if isMat c xs then (c, reduceS (toN xs), 0) else (0, [], 1)
theorem redOf_len (c : Int) (xs : List Int) : (redOf c xs).2.1.length ≤ 1000 := by
  unfold redOf
  split
  · rename_i h
    have h1 := isMat_len h
    have h2 := reduceS_length_le (toN xs)
    simp [toN] at h2 ⊢; omega
  · simp

set_option maxRecDepth 100000 in
set_option maxHeartbeats 2000000 in
theorem specRed_any (c : Int) (A : Option Addr) (n cap : Nat) (xs : List Int) (w : World) (hn : n = xs.length) (hsm : n ≤ 1099511627776) (hR : Rd w A (iv xs)) :
    Calls Tryd.prog 38 #[.agg #[.int .i64 c, .slice A n cap]] w fun e w' =>
      ∃ v, e = .returned (.tuple #[.agg #[.int .i64 (redOf c xs).1, v], .int .i64 (redOf c xs).2.2]) ∧ w'.ownsRow w.heap.size 2 1 v (redOf c xs).2.1.length (nv (redOf c xs).2.1) ∧ Below w.heap.size w w' := by
  have hb1 := blk_alloc (blk_new w (.cells #[.int .i64 c, .slice A n cap] 26)) (.cells #[.int .i64 0, .slice none 0 0] 26)
  have hb2 := blk_new1 w (.cells #[.int .i64 c, .slice A n cap] 26) (.cells #[.int .i64 0, .slice none 0 0] 26)
  have hbel : Below w.heap.size w ((w.alloc (.cells #[.int .i64 c, .slice A n cap] 26)).alloc (.cells #[.int .i64 0, .slice none 0 0] 26)) := ((Below.refl _ _).alloc (Nat.le_refl _) _).alloc (by simp) _
  have h1 := l02Is_any c A n cap xs _ hn hsm (hR.below hbel)
  have HK1 := Lib.hid hb1
  have HK2 := Lib.hid hb2
  have HB := Lib.hid hbel
  have HR := Lib.hid hR
  have Hn := Lib.hid hn
  clear hb1 hb2 hbel hR hn
  cases hi : isMat c xs with
  | false =>
    rw [hi] at h1
    have HE : Hid (redOf c xs = (0, [], 1)) := by show _ = _; simp [redOf, hi]
    have H1 := Lib.hid h1
    clear h1 hi
    go_enter Tryd.func38, Tryd.ntmps38
    go_wp2_with fail
    refine H1.out.mono ?_
    rintro e w1 ⟨rfl, hb⟩
    have HB1 := Lib.hid (HB.out.trans (hb.mono HB.out.size))
    obtain ⟨x0, x1, f0, f1, lx⟩ := blk2cells (blk_keep HK2.out hb)
    clear hb
    go_wp2_with fail
    refine bodyPost_ret (v := .tuple #[.agg #[.int .i64 0, .slice none 0 0], .int .i64 1]) ?_ rfl ⟨_, by rw [HE.out], by rw [HE.out]; exact World.ownsRow_nil _ _ _ _, ?_⟩
    · simp [results, Tryd.results38, go_sem, x0, x1]
    · exact (HB1.out.setCell (p := ⟨w.heap.size + 1, 0, none⟩) (by simp) _).setCell (p := ⟨w.heap.size + 1, 1, none⟩) (by simp) _
  | true =>
    rw [hi] at h1
    have H1 := Lib.hid h1
    have HSx := Lib.hid (isMat_sm hi)
    have hlx := isMat_len hi
    have HRx : Hid (Rd w A (nv (toN xs))) := by have := HR.out; rw [iv_toN (fun x hx => (isMat_nonneg hi x hx).1)] at this; exact this
    have lx : (toN xs).length = xs.length := by simp [toN]
    have Lx := Lib.hid lx
    have HE : Hid (redOf c xs = (c, reduceS (toN xs), 0)) := by show _ = _; simp [redOf, hi]
    have hn200 : n ≤ 200 := by rw [Hn.out]; exact hlx
    clear h1 lx hi hlx
    go_enter Tryd.func38, Tryd.ntmps38
    go_wp2_with fail
    refine H1.out.mono ?_
    rintro e w1 ⟨rfl, hb⟩
    have HB1 := Lib.hid (HB.out.trans (hb.mono HB.out.size))
    have hs1 := HB1.out.size
    have HK := Lib.hid (two_keep (blk_keep HK1.out hb) (blk_keep HK2.out hb))
    have HK2a := Lib.hid (blk_keep HK2.out hb)
    obtain ⟨x0, x1, f0, f1, lx⟩ := blk2cells (blk_keep HK1.out hb)
    obtain ⟨y0, y1, g0, g1, ly⟩ := blk2cells HK2a.out
    have HC := Lib.hid (fun W (hbW : Below w1.heap.size w1 W) => reduce_any A n cap (toN xs) W (by rw [Hn.out, Lx.out]) (by omega) HSx.out (HRx.out.below (HB1.out.trans (hbW.mono hs1))))
    clear hb
    go_wp2_with fail
    go_region_held3 (fun w' => w'.cell? ⟨w.heap.size, 0, none⟩ = some (.int .i64 c) ∧ w'.cell? ⟨w.heap.size, 1, none⟩ = some (.slice A n cap))
      (first | exact ⟨x0, x1⟩ | exact ⟨p0, p1⟩ | exact ⟨cell_set p0 (by simp), cell_set p1 (by simp)⟩ | exact ⟨cell_set (cell_set p0 (by simp)) (by simp), cell_set (cell_set p1 (by simp)) (by simp)⟩)
      (first | (go_at_call 55; (with_reducible refine (HC.out _ (Below.drew (Below.refl _ _))).mono ?_); (rintro e w2 ⟨v, rfl, ho, hb⟩; obtain ⟨Av, cv, rfl, _, _, _⟩ := owns_shape ho; have HO := Lib.hid ho; have HB2 := Lib.hid ((Below.drew (Below.refl w1.heap.size w1)).trans hb); clear ho hb; obtain ⟨p0, p1, _, _, p4⟩ := blk2cells (HK.out _ HB2.out).1; obtain ⟨q0, q1, q2, q3, q4⟩ := blk2cells (HK.out _ HB2.out).2)))
    go_wp2_with fail
    refine bodyPost_ret (v := .tuple #[.agg #[.int .i64 c, .slice Av (reduceS (toN xs)).length cv], .int .i64 0]) ?_ rfl ⟨_, by rw [HE.out], ?_, ?_⟩
    · simp [results, Tryd.results38, go_sem, q0, q1]
    · rw [HE.out]
      exact (owns_keeps HO.out (((Keeps.refl w2 [some (w.heap.size + 1)]).setCell (p := ⟨w.heap.size + 1, 0, none⟩) (by simp) _).setCell (p := ⟨w.heap.size + 1, 1, none⟩) (by simp) _) (.inr (by simp only [List.mem_singleton]; exact own_ne HO.out ((HK.out _ HB2.out).2) (by decide)))).mono hs1
    · exact ((HB1.out.trans (HB2.out.mono hs1)).setCell (p := ⟨w.heap.size + 1, 0, none⟩) (by simp) _).setCell (p := ⟨w.heap.size + 1, 1, none⟩) (by simp) _

set_option maxRecDepth 100000 in
set_option maxHeartbeats 2000000 in
theorem implRed_any (c : Int) (A : Option Addr) (n cap : Nat) (xs : List Int) (w : World) (hT : Tab w) (hw : 0 < w.heap.size) (hn : n = xs.length) (hsm : n ≤ 1099511627776) (hR : Rd w A (iv xs)) :
    Calls Tryd.prog 37 #[.agg #[.int .i64 c, .slice A n cap]] w fun e w' =>
      ∃ v, e = .returned (.tuple #[.agg #[.int .i64 (redOf c xs).1, v], .int .i64 (redOf c xs).2.2]) ∧ w'.ownsRow w.heap.size 2 1 v (redOf c xs).2.1.length (nv (redOf c xs).2.1) ∧ Below w.heap.size w w' := by
  have hb1 := blk_alloc (blk_new w (.cells #[.int .i64 c, .slice A n cap] 26)) (.cells #[.int .i64 0, .slice none 0 0] 26)
  have hb2 := blk_new1 w (.cells #[.int .i64 c, .slice A n cap] 26) (.cells #[.int .i64 0, .slice none 0 0] 26)
  have hbel : Below w.heap.size w ((w.alloc (.cells #[.int .i64 c, .slice A n cap] 26)).alloc (.cells #[.int .i64 0, .slice none 0 0] 26)) := ((Below.refl _ _).alloc (Nat.le_refl _) _).alloc (by simp) _
  have h1 := isMatrix_any c A n cap xs _ hn hsm (hR.below hbel)
  have HK1 := Lib.hid hb1
  have HK2 := Lib.hid hb2
  have HB := Lib.hid hbel
  have HR := Lib.hid hR
  have Hn := Lib.hid hn
  have HT := Lib.hid hT
  clear hT
  clear hb1 hb2 hbel hR hn
  cases hi : isMat c xs with
  | false =>
    rw [hi] at h1
    have HE : Hid (redOf c xs = (0, [], 1)) := by show _ = _; simp [redOf, hi]
    have H1 := Lib.hid h1
    clear h1 hi
    go_enter Tryd.func37, Tryd.ntmps37
    go_wp2_with fail
    refine H1.out.mono ?_
    rintro e w1 ⟨rfl, hb⟩
    have HB1 := Lib.hid (HB.out.trans (hb.mono HB.out.size))
    obtain ⟨x0, x1, f0, f1, lx⟩ := blk2cells (blk_keep HK2.out hb)
    clear hb
    go_wp2_with fail
    refine bodyPost_ret (v := .tuple #[.agg #[.int .i64 0, .slice none 0 0], .int .i64 1]) ?_ rfl ⟨_, by rw [HE.out], by rw [HE.out]; exact World.ownsRow_nil _ _ _ _, ?_⟩
    · simp [results, Tryd.results37, go_sem, x0, x1]
    · exact (HB1.out.setCell (p := ⟨w.heap.size + 1, 0, none⟩) (by simp) _).setCell (p := ⟨w.heap.size + 1, 1, none⟩) (by simp) _
  | true =>
    rw [hi] at h1
    have H1 := Lib.hid h1
    have HSx := Lib.hid (isMat_sm hi)
    have hlx := isMat_len hi
    have HRx : Hid (Rd w A (nv (toN xs))) := by have := HR.out; rw [iv_toN (fun x hx => (isMat_nonneg hi x hx).1)] at this; exact this
    have lx : (toN xs).length = xs.length := by simp [toN]
    have Lx := Lib.hid lx
    have HE : Hid (redOf c xs = (c, reduceS (toN xs), 0)) := by show _ = _; simp [redOf, hi]
    have hn200 : n ≤ 200 := by rw [Hn.out]; exact hlx
    clear h1 lx hi hlx
    go_enter Tryd.func37, Tryd.ntmps37
    go_wp2_with fail
    refine H1.out.mono ?_
    rintro e w1 ⟨rfl, hb⟩
    have HB1 := Lib.hid (HB.out.trans (hb.mono HB.out.size))
    have hs1 := HB1.out.size
    have HK := Lib.hid (two_keep (blk_keep HK1.out hb) (blk_keep HK2.out hb))
    have HK2a := Lib.hid (blk_keep HK2.out hb)
    obtain ⟨x0, x1, f0, f1, lx⟩ := blk2cells (blk_keep HK1.out hb)
    obtain ⟨y0, y1, g0, g1, ly⟩ := blk2cells HK2a.out
    have HC := Lib.hid (fun W (hbW : Below w1.heap.size w1 W) => reduced_any A n cap (toN xs) W (HT.out.below (HB1.out.trans (hbW.mono hs1)) hw) (by have := hbW.size; omega) (by rw [Hn.out, Lx.out]) (by omega) HSx.out (HRx.out.below (HB1.out.trans (hbW.mono hs1))))
    clear hb
    go_wp2_with fail
    go_region_held3 (fun w' => w'.cell? ⟨w.heap.size, 0, none⟩ = some (.int .i64 c) ∧ w'.cell? ⟨w.heap.size, 1, none⟩ = some (.slice A n cap))
      (first | exact ⟨x0, x1⟩ | exact ⟨p0, p1⟩ | exact ⟨cell_set p0 (by simp), cell_set p1 (by simp)⟩ | exact ⟨cell_set (cell_set p0 (by simp)) (by simp), cell_set (cell_set p1 (by simp)) (by simp)⟩)
      (first | (go_at_call 52; (with_reducible refine (HC.out _ (Below.drew (Below.refl _ _))).mono ?_); (rintro e w2 ⟨v, rfl, ho, hb⟩; obtain ⟨Av, cv, rfl, _, _, _⟩ := owns_shape ho; have HO := Lib.hid ho; have HB2 := Lib.hid ((Below.drew (Below.refl w1.heap.size w1)).trans hb); clear ho hb; obtain ⟨p0, p1, _, _, p4⟩ := blk2cells (HK.out _ HB2.out).1; obtain ⟨q0, q1, q2, q3, q4⟩ := blk2cells (HK.out _ HB2.out).2)))
    go_wp2_with fail
    refine bodyPost_ret (v := .tuple #[.agg #[.int .i64 c, .slice Av (reduceS (toN xs)).length cv], .int .i64 0]) ?_ rfl ⟨_, by rw [HE.out], ?_, ?_⟩
    · simp [results, Tryd.results37, go_sem, q0, q1]
    · rw [HE.out]
      exact (owns_keeps HO.out (((Keeps.refl w2 [some (w.heap.size + 1)]).setCell (p := ⟨w.heap.size + 1, 0, none⟩) (by simp) _).setCell (p := ⟨w.heap.size + 1, 1, none⟩) (by simp) _) (.inr (by simp only [List.mem_singleton]; exact own_ne HO.out ((HK.out _ HB2.out).2) (by decide)))).mono hs1
    · exact ((HB1.out.trans (HB2.out.mono hs1)).setCell (p := ⟨w.heap.size + 1, 0, none⟩) (by simp) _).setCell (p := ⟨w.heap.size + 1, 1, none⟩) (by simp) _

end Go.Proofs.YtjhlmalpcelbaaaDoor

namespace Go.Proofs.YtjhlmalpcelbaaaDoor
open Go.RowKit

/-- What SumOfSpaces answers. -/
def sumOf (c : Int) (xs : List Int) (c' : Int) (ys : List Int) : Int × List Nat × Int := if bothOf c xs c' ys = 0 then (c, reduceS (toN xs ++ toN ys), 0) else (0, [], bothOf c xs c' ys)
theorem sumOf_len (c : Int) (xs : List Int) (c' : Int) (ys : List Int) : (sumOf c xs c' ys).2.1.length ≤ 1000 := by
  unfold sumOf
  split
  · rename_i h
    obtain ⟨hi, hj, _⟩ := bothOf_zero h
    have h1 := isMat_len hi
    have h2 := isMat_len hj
    have h3 := reduceS_length_le (toN xs ++ toN ys)
    simp [toN] at h3 ⊢; omega
  · simp
theorem reduce_app (S T : List Nat) (k : Nat) (hk : k < T.length) : reduceS (S ++ T.take (k + 1)) = putS (reduceS (S ++ T.take k)) (T.getD k 0) := by
  unfold reduceS
  rw [List.take_succ_eq_append_getElem hk, ← List.append_assoc, List.foldl_append (l' := [T[k]])]
  simp [List.getD, hk]

set_option maxRecDepth 100000 in
set_option maxHeartbeats 2000000 in
theorem specSum_any (c c' : Int) (A A' : Option Addr) (n n' cap cap' : Nat) (xs ys : List Int) (w : World) (hn : n = xs.length) (hn' : n' = ys.length) (hsm : n ≤ 1099511627776) (hsm' : n' ≤ 1099511627776) (hR : Rd w A (iv xs)) (hR' : Rd w A' (iv ys)) :
    Calls Tryd.prog 9 #[.agg #[.int .i64 c, .slice A n cap], .agg #[.int .i64 c', .slice A' n' cap']] w fun e w' =>
      ∃ v, e = .returned (.tuple #[.agg #[.int .i64 (sumOf c xs c' ys).1, v], .int .i64 (sumOf c xs c' ys).2.2]) ∧ w'.ownsRow w.heap.size 2 1 v (sumOf c xs c' ys).2.1.length (nv (sumOf c xs c' ys).2.1) ∧ Below w.heap.size w w' := by
  have hb1 := blk_alloc (blk_alloc (blk_new w (.cells #[.int .i64 c, .slice A n cap] 26)) (.cells #[.int .i64 c', .slice A' n' cap'] 26)) (.cells #[.int .i64 0, .slice none 0 0] 26)
  have hb2 := blk_alloc (blk_new1 w (.cells #[.int .i64 c, .slice A n cap] 26) (.cells #[.int .i64 c', .slice A' n' cap'] 26)) (.cells #[.int .i64 0, .slice none 0 0] 26)
  have hb3 := blk_new2 w (.cells #[.int .i64 c, .slice A n cap] 26) (.cells #[.int .i64 c', .slice A' n' cap'] 26) (.cells #[.int .i64 0, .slice none 0 0] 26)
  have hbel : Below w.heap.size w (((w.alloc (.cells #[.int .i64 c, .slice A n cap] 26)).alloc (.cells #[.int .i64 c', .slice A' n' cap'] 26)).alloc (.cells #[.int .i64 0, .slice none 0 0] 26)) := (((Below.refl _ _).alloc (Nat.le_refl _) _).alloc (by simp) _).alloc (by simp; omega) _
  have h1 := l02Both_any c c' A A' n n' cap cap' xs ys _ hn hn' hsm hsm' (hR.below hbel) (hR'.below hbel)
  have HK := Lib.hid (three_keep hb1 hb2 hb3)
  have HB := Lib.hid hbel
  have HR := Lib.hid hR
  have HR' := Lib.hid hR'
  have Hn := Lib.hid hn
  have Hn' := Lib.hid hn'
  clear hb1 hb2 hb3 hbel hR hR' hn hn'
  by_cases h0 : bothOf c xs c' ys = 0
  · obtain ⟨hi, hj, hc⟩ := bothOf_zero h0
    rw [h0] at h1
    have H1 := Lib.hid h1
    have HE : Hid (sumOf c xs c' ys = (c, reduceS (toN xs ++ toN ys), 0)) := by show _ = _; unfold sumOf; rw [if_pos h0]
    have hlx := isMat_len hi
    have hly := isMat_len hj
    have HSx := Lib.hid (isMat_sm hi)
    have HSy := Lib.hid (isMat_sm hj)
    have HRx : Hid (Rd w A (nv (toN xs))) := by have := HR.out; rw [iv_toN (fun x hx => (isMat_nonneg hi x hx).1)] at this; exact this
    have HRy : Hid (Rd w A' (nv (toN ys))) := by have := HR'.out; rw [iv_toN (fun x hx => (isMat_nonneg hj x hx).1)] at this; exact this
    have lx : (toN xs).length = xs.length := by simp [toN]
    have ly : (toN ys).length = ys.length := by simp [toN]
    have hlxN : (toN xs).length ≤ 200 := by rw [lx]; exact hlx
    have hlyN : (toN ys).length ≤ 200 := by rw [ly]; exact hly
    have Lx := Lib.hid lx
    have Ly := Lib.hid ly
    clear h1 h0 hi hj hc lx ly
    go_enter Tryd.func9, Tryd.ntmps9
    go_wp2_with fail
    refine H1.out.mono ?_
    rintro e w1 ⟨rfl, hb⟩
    have HB1 := Lib.hid (HB.out.trans (hb.mono HB.out.size))
    have HKa := Lib.hid (HK.out _ hb)
    obtain ⟨x0, x1, _, _, lx⟩ := blk2cells HKa.out.1
    clear hb
    go_wp2_with fail
    refine (reduce_any A n cap (toN xs) w1 (by rw [Hn.out, Lx.out]) (by rw [Hn.out]; omega) HSx.out (HRx.out.below HB1.out)).mono ?_
    rintro e w2 ⟨v2, rfl, ho, hb⟩
    have HKb := Lib.hid ((three_keep HKa.out.1 HKa.out.2.1 HKa.out.2.2) _ hb)
    have HB2 := Lib.hid (HB1.out.trans (hb.mono HB1.out.size))
    have HO := Lib.hid (ho.mono HB1.out.size)
    clear hb ho x0 x1
    go_wp2_with fail
    go_loopw [7, 8] (fun r i wr => ∃ k : Nat, k ≤ n' ∧ i = .int .i64 k ∧ wr.ownsRow w.heap.size 2 1 r (reduceS (toN xs ++ (toN ys).take k)).length (nv (reduceS (toN xs ++ (toN ys).take k))) ∧
        (wr.heap[w.heap.size]? = some (.cells #[.int .i64 c, .slice A n cap] 26 (0, 0)) ∧ wr.heap[w.heap.size + 1]? = some (.cells #[.int .i64 c', .slice A' n' cap'] 26 (0, 0)) ∧ wr.heap[w.heap.size + 1 + 1]? = some (.cells #[.int .i64 0, .slice none 0 0] 26 (0, 0))) ∧ Below w.heap.size w wr) (fun _ i _ => n' - (intOf i).toNat)
    case atStart => exact ⟨0, by omega, rfl, by rw [List.take_zero, List.append_nil]; exact HO.out, HKb.out, HB2.out⟩
    case round =>
      obtain ⟨k, hk, rfl, ho, hks, hbel⟩ := hrel
      have hsz : w.heap.size ≤ wr.heap.size := hbel.size
      obtain ⟨y0, y1, _, _, ly⟩ := blk2cells hks.2.1
      have HKr := Lib.hid hks
      have HO := Lib.hid ho
      have HBL := Lib.hid hbel
      by_cases hlt : k < n'
      · have hkL : k < (toN ys).length := by rw [Ly.out, ← Hn'.out]; exact hlt
        obtain ⟨b, o', rfl, hc⟩ := (HRy.out.below hbel).atN hkL
        have g1 := HSy.out _ (getD_mem hkL)
        have Hs := Lib.hid (reduce_app (toN xs) (toN ys) k hkL)
        have hred : Red (reduceS (toN xs ++ (toN ys).take k)) := red_reduce (fun r hr => by
          rcases List.mem_append.1 hr with h | h
          · exact HSx.out r h
          · exact HSy.out r (List.mem_of_mem_take h))
        have hrl := reduceS_length_le (toN xs ++ (toN ys).take k)
        rw [List.length_append, List.length_take] at hrl
        have hp := put_any w.heap.size _ (reduceS (toN xs ++ (toN ys).take k)) ((toN ys).getD k 0) wr hsz ho (by omega) g1 hred
        have HP := Lib.hid hp
        clear ho hks hbel hp hred hrl
        generalize reduceS (toN xs ++ (toN ys).take k) = S at *
        generalize (toN ys).getD k 0 = x at *
        go_wp2_with fail
        refine HP.out.mono ?_
        rintro e w3 ⟨v3, rfl, ho3, hb3, _⟩
        have HO3 := Lib.hid ho3
        have HB3 := Lib.hid hb3
        clear ho3 hb3
        go_wp2_with fail
        go_roundw
        case rel => exact ⟨k + 1, by omega, by go_num, by rw [Hs.out]; exact HO3.out, (three_keep HKr.out.1 HKr.out.2.1 HKr.out.2.2) _ HB3.out, HBL.out.trans (HB3.out.mono hsz)⟩
        case measure => simp [intOf]; omega
      · have ek : (toN ys).take k = toN ys := List.take_of_length_le (by rw [Ly.out, ← Hn'.out]; omega)
        rw [ek] at ho
        obtain ⟨Av, cv, rfl, _, _, _⟩ := owns_shape ho
        have HO := Lib.hid ho
        obtain ⟨x0, x1, _, _, _⟩ := blk2cells hks.1
        obtain ⟨z0, z1, z2, z3, lz⟩ := blk2cells hks.2.2
        clear ho hks hbel ek
        go_wp2_with fail
        refine bodyPost_ret (v := .tuple #[.agg #[.int .i64 c, .slice Av (reduceS (toN xs ++ toN ys)).length cv], .int .i64 0]) ?_ rfl ⟨_, by rw [HE.out], ?_, ?_⟩
        · simp [results, Tryd.results9, go_sem, z0, z1]
        · rw [HE.out]
          exact (owns_keeps HO.out (((Keeps.refl wr [some (w.heap.size + 1 + 1)]).setCell (p := ⟨w.heap.size + 1 + 1, 0, none⟩) (by simp) _).setCell (p := ⟨w.heap.size + 1 + 1, 1, none⟩) (by simp) _) (.inr (by simp only [List.mem_singleton]; exact own_ne HO.out HKr.out.2.2 (by decide))))
        · exact (HBL.out.setCell (p := ⟨w.heap.size + 1 + 1, 0, none⟩) (by simp; omega) _).setCell (p := ⟨w.heap.size + 1 + 1, 1, none⟩) (by simp; omega) _
  · have HE : Hid (sumOf c xs c' ys = (0, [], bothOf c xs c' ys)) := by show _ = _; unfold sumOf; rw [if_neg h0]
    have hcb : (bothOf c xs c' ys != 0) = true := by simpa using h0
    generalize bothOf c xs c' ys = code at *
    have H1 := Lib.hid h1
    clear h1 h0
    go_enter Tryd.func9, Tryd.ntmps9
    go_wp2_with fail
    refine H1.out.mono ?_
    rintro e w1 ⟨rfl, hb⟩
    have HB1 := Lib.hid (HB.out.trans (hb.mono HB.out.size))
    obtain ⟨z0, z1, z2, z3, lz⟩ := blk2cells (HK.out _ hb).2.2
    clear hb
    go_wp2_with fail
    refine bodyPost_ret (v := .tuple #[.agg #[.int .i64 0, .slice none 0 0], .int .i64 code]) ?_ rfl ⟨_, by rw [HE.out], by rw [HE.out]; exact World.ownsRow_nil _ _ _ _, ?_⟩
    · simp [results, Tryd.results9, go_sem, z0, z1]
    · exact (HB1.out.setCell (p := ⟨w.heap.size + 1 + 1, 0, none⟩) (by simp; omega) _).setCell (p := ⟨w.heap.size + 1 + 1, 1, none⟩) (by simp; omega) _
end Go.Proofs.YtjhlmalpcelbaaaDoor

namespace Go.Proofs.YtjhlmalpcelbaaaDoor
open Go.RowKit

set_option maxHeartbeats 1000000 in
theorem joined_any (A A' : Option Addr) (n n' c c' : Nat) (vs us : List Value) (w : World) (hn : n = vs.length) (hn' : n' = us.length) (hsm : n ≤ 1000000000) (hsm' : n' ≤ 1000000000) (h1 : ∀ u ∈ vs, u.oneCell' = true) (h1' : ∀ u ∈ us, u.oneCell' = true) (hR : Rd w A vs) (hR' : Rd w A' us) :
    Calls Tryd.prog 53 #[.slice A n c, .slice A' n' c'] w fun e w' => ∃ v, e = .returned v ∧ w'.ownsRow w.heap.size 2 1 v (n + n') (vs ++ us) ∧ Below w.heap.size w w' := by
  have hc := copyOf_any A n c vs w hn hsm h1 hR
  have HC := Lib.hid hc
  have HR' := Lib.hid hR'
  have Hn' := Lib.hid hn'
  have H1' := Lib.hid h1'
  clear hc hR hR' hn hn' h1 h1'
  go_enter Tryd.func53, Tryd.ntmps53
  go_wp2_with fail
  refine HC.out.mono ?_
  rintro e w1 ⟨g, cap, rfl, ho, hb⟩
  have HO := Lib.hid ho
  have HB := Lib.hid hb
  clear ho hb
  go_wp2_with (at_builtin; refine wpList_appR _ _ _ _ _ etI (by rfl) (by rfl) w.heap.size (.slice (some ⟨g, 0, none⟩) n cap) n vs (by rfl) HO.out A' n' c' us (by rfl) Hn'.out (HR'.out.below HB.out) H1'.out ?_ ?_ ?_; omega; exact HB.out.size; (intro v' w' hown hg hat; have HO2 := Lib.hid hown; have HG := Lib.hid hg; clear hown hg hat))
  go_ret
  exact ⟨v', rfl, HO2.out, HB.out.trans ((Below.refl w.heap.size w1).grown HG.out HB.out.size (fun k hk => by simp [Value.ownBlock] at hk; rw [← hk]; exact (HO.out.lt g rfl).1))⟩

set_option maxRecDepth 100000 in
set_option maxHeartbeats 2000000 in
theorem implSum_any (c c' : Int) (A A' : Option Addr) (n n' cap cap' : Nat) (xs ys : List Int) (w : World) (hT : Tab w) (hw : 0 < w.heap.size) (hn : n = xs.length) (hn' : n' = ys.length) (hsm : n ≤ 1099511627776) (hsm' : n' ≤ 1099511627776) (hR : Rd w A (iv xs)) (hR' : Rd w A' (iv ys)) :
    Calls Tryd.prog 8 #[.agg #[.int .i64 c, .slice A n cap], .agg #[.int .i64 c', .slice A' n' cap']] w fun e w' =>
      ∃ v, e = .returned (.tuple #[.agg #[.int .i64 (sumOf c xs c' ys).1, v], .int .i64 (sumOf c xs c' ys).2.2]) ∧ w'.ownsRow w.heap.size 2 1 v (sumOf c xs c' ys).2.1.length (nv (sumOf c xs c' ys).2.1) ∧ Below w.heap.size w w' := by
  have hb1 := blk_alloc (blk_alloc (blk_new w (.cells #[.int .i64 c, .slice A n cap] 26)) (.cells #[.int .i64 c', .slice A' n' cap'] 26)) (.cells #[.int .i64 0, .slice none 0 0] 26)
  have hb2 := blk_alloc (blk_new1 w (.cells #[.int .i64 c, .slice A n cap] 26) (.cells #[.int .i64 c', .slice A' n' cap'] 26)) (.cells #[.int .i64 0, .slice none 0 0] 26)
  have hb3 := blk_new2 w (.cells #[.int .i64 c, .slice A n cap] 26) (.cells #[.int .i64 c', .slice A' n' cap'] 26) (.cells #[.int .i64 0, .slice none 0 0] 26)
  have hbel : Below w.heap.size w (((w.alloc (.cells #[.int .i64 c, .slice A n cap] 26)).alloc (.cells #[.int .i64 c', .slice A' n' cap'] 26)).alloc (.cells #[.int .i64 0, .slice none 0 0] 26)) := (((Below.refl _ _).alloc (Nat.le_refl _) _).alloc (by simp) _).alloc (by simp; omega) _
  have h1 := equalColumns_any c c' A A' n n' cap cap' xs ys _ hn hn' hsm hsm' (hR.below hbel) (hR'.below hbel)
  have HK := Lib.hid (three_keep hb1 hb2 hb3)
  have HB := Lib.hid hbel
  have HR := Lib.hid hR
  have HR' := Lib.hid hR'
  have HT := Lib.hid hT
  have Hn := Lib.hid hn
  have Hn' := Lib.hid hn'
  clear hb1 hb2 hb3 hbel hR hR' hn hn' hT
  by_cases h0 : bothOf c xs c' ys = 0
  · obtain ⟨hi, hj, hc⟩ := bothOf_zero h0
    rw [h0] at h1
    have H1 := Lib.hid h1
    have HE : Hid (sumOf c xs c' ys = (c, reduceS (toN xs ++ toN ys), 0)) := by show _ = _; unfold sumOf; rw [if_pos h0]
    have hlx := isMat_len hi
    have hly := isMat_len hj
    have HSx := Lib.hid (isMat_sm hi)
    have HSy := Lib.hid (isMat_sm hj)
    have HRx : Hid (Rd w A (nv (toN xs))) := by have := HR.out; rw [iv_toN (fun x hx => (isMat_nonneg hi x hx).1)] at this; exact this
    have HRy : Hid (Rd w A' (nv (toN ys))) := by have := HR'.out; rw [iv_toN (fun x hx => (isMat_nonneg hj x hx).1)] at this; exact this
    have lx : (toN xs).length = xs.length := by simp [toN]
    have ly : (toN ys).length = ys.length := by simp [toN]
    have hlxN : n ≤ 200 := by rw [Hn.out]; exact hlx
    have hlyN : n' ≤ 200 := by rw [Hn'.out]; exact hly
    have Lx := Lib.hid lx
    have Ly := Lib.hid ly
    clear h1 h0 hi hj hc lx ly hlx hly
    go_enter Tryd.func8, Tryd.ntmps8
    go_wp2_with fail
    refine H1.out.mono ?_
    rintro e w1 ⟨rfl, hb⟩
    have HB1 := Lib.hid (HB.out.trans (hb.mono HB.out.size))
    have hs1 := HB1.out.size
    have hka := HK.out _ hb
    have HKa := Lib.hid (three_keep hka.1 hka.2.1 hka.2.2)
    obtain ⟨x0, x1, _, _, lx⟩ := blk2cells hka.1
    obtain ⟨y0, y1, _, _, ly⟩ := blk2cells hka.2.1
    have HC := Lib.hid (fun W (hbW : Below w1.heap.size w1 W) => joined_any A A' n n' cap cap' (nv (toN xs)) (nv (toN ys)) W (by rw [nv_length, Hn.out, Lx.out]) (by rw [nv_length, Hn'.out, Ly.out]) (by omega) (by omega) (nv_one _) (nv_one _) (HRx.out.below (HB1.out.trans (hbW.mono hs1))) (HRy.out.below (HB1.out.trans (hbW.mono hs1))))
    have hnn : n + n' = (toN xs ++ toN ys).length := by rw [List.length_append, Hn.out, Hn'.out, Lx.out, Ly.out]
    have HNN := Lib.hid hnn
    have HSS : Hid (∀ r ∈ toN xs ++ toN ys, Sm r) := by
      show ∀ r ∈ toN xs ++ toN ys, Sm r
      intro r hr
      rcases List.mem_append.1 hr with h | h
      · exact HSx.out r h
      · exact HSy.out r h
    have HNV : Hid (nv (toN xs) ++ nv (toN ys) = nv (toN xs ++ toN ys)) := by show _ = _; simp [nv]
    clear hb hka hnn
    generalize toN xs ++ toN ys = Z at *
    go_wp2_with fail
    go_region_held3 (fun w' => w'.cell? ⟨w.heap.size, 0, none⟩ = some (.int .i64 c) ∧ w'.cell? ⟨w.heap.size, 1, none⟩ = some (.slice A n cap) ∧ w'.cell? ⟨w.heap.size + 1, 1, none⟩ = some (.slice A' n' cap'))
      (first | exact ⟨x0, x1, y1⟩ | exact ⟨p0, p1, p2⟩ | exact ⟨q0, q1, q2⟩ | exact ⟨cell_set q0 (by simp <;> omega), cell_set q1 (by simp <;> omega), cell_set q2 (by simp <;> omega)⟩ | exact ⟨cell_set (cell_set q0 (by simp <;> omega)) (by simp <;> omega), cell_set (cell_set q1 (by simp <;> omega)) (by simp <;> omega), cell_set (cell_set q2 (by simp <;> omega)) (by simp <;> omega)⟩)
      (first
        | (go_at_call 53; (with_reducible refine (HC.out _ (Below.drew (Below.refl _ _))).mono ?_); (rintro e w2 ⟨v, rfl, ho, hb⟩; obtain ⟨Av, cv, rfl, _, _, _⟩ := owns_shape ho; have HB2 := Lib.hid ((Below.drew (Below.refl w1.heap.size w1)).trans hb); rw [HNV.out] at ho; have HO := Lib.hid ho; clear ho hb; obtain ⟨p0, p1, _, _, _⟩ := blk2cells (HKa.out _ HB2.out).1; obtain ⟨_, p2, _, _, _⟩ := blk2cells (HKa.out _ HB2.out).2.1))
        | (go_at_call 52; (with_reducible refine (reduced_any Av (n + n') cv Z _ (HT.out.below (HB1.out.trans (HB2.out.mono hs1)) hw) (by have := HB2.out.size; omega) HNN.out (by omega) HSS.out (owns_Rd HO.out)).mono ?_); (rintro e w3 ⟨v3, rfl, ho, hb⟩; obtain ⟨Aw, cw, rfl, _, _, _⟩ := owns_shape ho; have HO3 := Lib.hid (ho.mono HB2.out.size); have HB3 := Lib.hid (HB2.out.trans (hb.mono HB2.out.size)); clear ho hb; obtain ⟨q0, q1, _, _, _⟩ := blk2cells (HKa.out _ HB3.out).1; obtain ⟨_, q2, _, _, _⟩ := blk2cells (HKa.out _ HB3.out).2.1; obtain ⟨z0, z1, z2, z3, z4⟩ := blk2cells (HKa.out _ HB3.out).2.2)))
    go_wp2_with fail
    refine bodyPost_ret (v := .tuple #[.agg #[.int .i64 c, .slice Aw (reduceS Z).length cw], .int .i64 0]) ?_ rfl ⟨_, by rw [HE.out], ?_, ?_⟩
    · simp [results, Tryd.results8, go_sem, z0, z1]
    · rw [HE.out]
      exact (owns_keeps HO3.out (((Keeps.refl w3 [some (w.heap.size + 1 + 1)]).setCell (p := ⟨w.heap.size + 1 + 1, 0, none⟩) (by simp) _).setCell (p := ⟨w.heap.size + 1 + 1, 1, none⟩) (by simp) _) (.inr (by simp only [List.mem_singleton]; exact own_ne HO3.out ((HKa.out _ HB3.out).2.2) (by decide)))).mono hs1
    · exact ((HB1.out.trans (HB3.out.mono hs1)).setCell (p := ⟨w.heap.size + 1 + 1, 0, none⟩) (by simp; omega) _).setCell (p := ⟨w.heap.size + 1 + 1, 1, none⟩) (by simp; omega) _
  · have HE : Hid (sumOf c xs c' ys = (0, [], bothOf c xs c' ys)) := by show _ = _; unfold sumOf; rw [if_neg h0]
    have hcb : (bothOf c xs c' ys != 0) = true := by simpa using h0
    generalize bothOf c xs c' ys = code at *
    have H1 := Lib.hid h1
    clear h1 h0
    go_enter Tryd.func8, Tryd.ntmps8
    go_wp2_with fail
    refine H1.out.mono ?_
    rintro e w1 ⟨rfl, hb⟩
    have HB1 := Lib.hid (HB.out.trans (hb.mono HB.out.size))
    obtain ⟨z0, z1, z2, z3, lz⟩ := blk2cells (HK.out _ hb).2.2
    clear hb
    go_wp2_with fail
    refine bodyPost_ret (v := .tuple #[.agg #[.int .i64 0, .slice none 0 0], .int .i64 code]) ?_ rfl ⟨_, by rw [HE.out], by rw [HE.out]; exact World.ownsRow_nil _ _ _ _, ?_⟩
    · simp [results, Tryd.results8, go_sem, z0, z1]
    · exact (HB1.out.setCell (p := ⟨w.heap.size + 1 + 1, 0, none⟩) (by simp; omega) _).setCell (p := ⟨w.heap.size + 1 + 1, 1, none⟩) (by simp; omega) _
end Go.Proofs.YtjhlmalpcelbaaaDoor
