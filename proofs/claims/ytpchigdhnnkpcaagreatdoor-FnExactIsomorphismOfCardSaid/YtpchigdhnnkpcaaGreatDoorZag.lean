/- homogeneous spaces, dimensions, ranks by elimination (no program in sight) -/
import Derived.Test.YtpchigdhnnkpcaaGreatDoorZae
import Derived.Test.YtpchigdhnnkpcaaGreatDoorZaf
namespace Go.Proofs.YtpchigdhnnkpcaaGreatDoor

/-! ### homogeneous masks -/
theorem hom_sp {xs : List Int} {d : Int} {S : List Nat} (h : ∀ r ∈ S, Hom xs d r) {v : Nat} (hv : Sp S v) : Hom xs d v := by
  induction hv with
  | zero => exact Hom.zero _ _
  | add hm _ ih => exact (h _ hm).xr ih
theorem Hom.pv {xs : List Int} {d : Int} {v : Nat} (h : Hom xs d v) (h0 : v ≠ 0) (hs : Sm v) : Go.Proofs.YtpchigdhnnkpcaaGreatDoor.pv v < xs.length ∧ xs.getD (Go.Proofs.YtpchigdhnnkpcaaGreatDoor.pv v) 0 = d := h _ (tb_pv h0 hs)
def homB (xs : List Int) (d : Int) (v : Nat) : Bool := nt v (dmask xs d) == 0
theorem homB_iff {xs : List Int} {d : Int} {v : Nat} : homB xs d v = true ↔ Hom xs d v := by unfold homB; rw [beq_iff_eq]; exact nt_hom
theorem red_nodup {S : List Nat} (h : Red S) : S.Nodup := List.Pairwise.of_map pv (fun _ _ h e => h (congrArg pv e)) h.nodup
/-- a reduced list in order is what its space's rows reduce to -/
theorem red_asc_unique {S T : List Nat} (hS : Red S) (hT : Red T) (aS : Asc S) (aT : Asc T) (h : ∀ v, Sp S v ↔ Sp T v) : S = T :=
  asc_unique aS aT ((List.perm_ext_iff_of_nodup (red_nodup hS) (red_nodup hT)).2 fun r => ⟨red_sub hS hT h r, red_sub hT hS (fun v => (h v).symm) r⟩)
theorem Red.append {S T : List Nat} (hS : Red S) (hT : Red T) (h : ∀ r ∈ S, ∀ s ∈ T, tb r (pv s) = false ∧ tb s (pv r) = false) : Red (S ++ T) :=
  ⟨fun r hr => by rcases List.mem_append.1 hr with hr | hr; exact hS.ne r hr; exact hT.ne r hr, List.pairwise_append.2 ⟨hS.off, hT.off, h⟩⟩
theorem Asc.append {S T : List Nat} (hS : Asc S) (hT : Asc T) (h : ∀ r ∈ S, ∀ s ∈ T, pv r < pv s) : Asc (S ++ T) := List.pairwise_append.2 ⟨hS, hT, h⟩
def part (xs : List Int) (S : List Nat) (d : Int) : List Nat := reduceS (S.filter (homB xs d))
/-- the reduced rows of the degrees 0 .. k - 1, one degree behind the other -/
def byDeg (xs : List Int) (S : List Nat) : Nat → List Nat
  | 0 => []
  | k + 1 => byDeg xs S k ++ part xs S (k : Int)
theorem sm_filter {S : List Nat} (hS : ∀ r ∈ S, Sm r) (p : Nat → Bool) : ∀ r ∈ S.filter p, Sm r := fun r hr => hS r (List.mem_filter.1 hr).1
theorem part_mem {xs : List Int} {S : List Nat} (hS : ∀ r ∈ S, Sm r) {d : Int} {r : Nat} (hr : r ∈ part xs S d) : Hom xs d r ∧ r ≠ 0 ∧ Sm r ∧ Sp S r := by
  have h1 := (red_reduce (sm_filter hS (homB xs d))).ne r hr
  have h2 := (sp_reduce (sm_filter hS (homB xs d)) r).1 (.mem hr)
  exact ⟨hom_sp (fun s hs => homB_iff.1 (List.mem_filter.1 hs).2) h2, h1.1, h1.2, h2.mono fun s hs => (List.mem_filter.1 hs).1⟩
def SrtL (xs : List Int) : Prop := ∀ i j, i ≤ j → j < xs.length → xs.getD i 0 ≤ xs.getD j 0
theorem byDeg_all {xs : List Int} {S : List Nat} (hx : SrtL xs) (hS : ∀ r ∈ S, Sm r) : ∀ k, Red (byDeg xs S k) ∧ Asc (byDeg xs S k) ∧ ∀ r ∈ byDeg xs S k, ∃ d : Nat, d < k ∧ r ∈ part xs S (d : Int)
  | 0 => ⟨Red.nil, .nil, by simp [byDeg]⟩
  | k + 1 => by
    obtain ⟨h1, h2, h3⟩ := byDeg_all hx hS k
    have rp := red_reduce (sm_filter hS (homB xs (k : Int)))
    have ap := asc_reduce (sm_filter hS (homB xs (k : Int)))
    have key : ∀ r ∈ byDeg xs S k, ∀ s ∈ part xs S (k : Int), tb r (pv s) = false ∧ tb s (pv r) = false ∧ pv r < pv s := by
      intro r hr s hs
      obtain ⟨d, hd, hr⟩ := h3 r hr
      obtain ⟨a1, a2, a3, _⟩ := part_mem hS hr
      obtain ⟨b1, b2, b3, _⟩ := part_mem hS hs
      obtain ⟨p1, p2⟩ := a1.pv a2 a3
      obtain ⟨q1, q2⟩ := b1.pv b2 b3
      refine ⟨?_, ?_, ?_⟩
      · cases h : tb r (pv s) with
        | false => rfl
        | true => have := (a1 _ h).2; omega
      · cases h : tb s (pv r) with
        | false => rfl
        | true => have := (b1 _ h).2; omega
      · rcases Nat.lt_or_ge (pv r) (pv s) with h | h
        · exact h
        · have := hx _ _ h p1; omega
    refine ⟨h1.append rp fun r hr s hs => ⟨(key r hr s hs).1, (key r hr s hs).2.1⟩, h2.append ap fun r hr s hs => (key r hr s hs).2.2, fun r hr => ?_⟩
    rcases List.mem_append.1 hr with hr | hr
    · obtain ⟨d, hd, hr⟩ := h3 r hr; exact ⟨d, by omega, hr⟩
    · exact ⟨k, by omega, hr⟩
theorem part_byDeg {xs : List Int} {S : List Nat} {d k : Nat} (h : d < k) : ∀ r ∈ part xs S (d : Int), r ∈ byDeg xs S k := by
  induction k with
  | zero => omega
  | succ k ih =>
    intro r hr
    unfold byDeg
    rcases Nat.lt_or_ge d k with h1 | h1
    · exact List.mem_append_left _ (ih h1 r hr)
    · have e : d = k := by omega
      subst e; exact List.mem_append_right _ hr
theorem byDeg_sp {xs : List Int} {S : List Nat} (hx : SrtL xs) (hS : ∀ r ∈ S, Sm r) {k : Nat} (hh : ∀ r ∈ S, r ≠ 0 → ∃ d : Nat, d < k ∧ Hom xs (d : Int) r) (v : Nat) : Sp (byDeg xs S k) v ↔ Sp S v := by
  constructor
  · exact Sp.trans fun r hr => by
      obtain ⟨d, _, hr⟩ := (byDeg_all hx hS k).2.2 r hr
      exact (part_mem hS hr).2.2.2
  · refine Sp.trans fun r hr => ?_
    by_cases h0 : r = 0
    · subst h0; exact .zero
    · obtain ⟨d, hd, hr'⟩ := hh r hr h0
      have : Sp (part xs S (d : Int)) r := (sp_reduce (sm_filter hS _) r).2 (.mem (List.mem_filter.2 ⟨hr, homB_iff.2 hr'⟩))
      exact this.mono (part_byDeg hd)
/-- THE REDUCED ROWS OF HOMOGENEOUS ROWS, DEGREE BY DEGREE -/
theorem byDeg_eq {xs : List Int} {S : List Nat} (hx : SrtL xs) (hS : ∀ r ∈ S, Sm r) {k : Nat} (hh : ∀ r ∈ S, r ≠ 0 → ∃ d : Nat, d < k ∧ Hom xs (d : Int) r) : byDeg xs S k = reduceS S := by
  obtain ⟨h1, h2, _⟩ := byDeg_all hx hS k
  exact red_asc_unique h1 (red_reduce hS) h2 (asc_reduce hS) fun v => by rw [byDeg_sp hx hS hh, sp_reduce hS]
/-- how many rows of a degree -/
def ofDeg (xs : List Int) (d : Int) (R : List Nat) : List Nat := R.filter fun r => decide (xs.getD (pv r) 0 = d)
theorem ofDeg_byDeg {xs : List Int} {S : List Nat} (hS : ∀ r ∈ S, Sm r) (d : Nat) : ∀ k, d < k → ofDeg xs (d : Int) (byDeg xs S k) = part xs S (d : Int) := by
  have no : ∀ k, k ≤ d → ofDeg xs (d : Int) (byDeg xs S k) = [] := by
    intro k
    induction k with
    | zero => intro _; rfl
    | succ k ih =>
      intro h
      unfold ofDeg byDeg
      rw [List.filter_append, show (byDeg xs S k).filter _ = [] from ih (by omega), List.nil_append, List.filter_eq_nil_iff]
      intro r hr
      obtain ⟨a1, a2, a3, _⟩ := part_mem hS hr
      have := (a1.pv a2 a3).2
      simp only [decide_eq_true_eq]; omega
  intro k
  induction k with
  | zero => intro h; omega
  | succ k ih =>
    intro h
    unfold ofDeg byDeg
    rw [List.filter_append]
    rcases Nat.lt_or_ge d k with h1 | h1
    · rw [show (byDeg xs S k).filter _ = part xs S (d : Int) from ih h1]
      rw [List.filter_eq_nil_iff.2, List.append_nil]
      intro r hr
      obtain ⟨a1, a2, a3, _⟩ := part_mem hS hr
      have := (a1.pv a2 a3).2
      simp only [decide_eq_true_eq]; omega
    · have e : k = d := by omega
      subst e
      rw [show (byDeg xs S k).filter _ = [] from no k (Nat.le_refl _), List.nil_append, List.filter_eq_self]
      intro r hr
      obtain ⟨a1, a2, a3, _⟩ := part_mem hS hr
      have := (a1.pv a2 a3).2
      simp only [decide_eq_true_eq]; exact this

/-! ### dimensions -/
def Dim (P : Nat → Prop) (k : Nat) : Prop := ∃ B : List Nat, (∀ r ∈ B, Sm r) ∧ Fre B ∧ (∀ v, Sp B v ↔ P v) ∧ B.length = k
theorem Dim.unique {P : Nat → Prop} {k l : Nat} (h1 : Dim P k) (h2 : Dim P l) : k = l := by
  obtain ⟨B, b1, b2, b3, rfl⟩ := h1
  obtain ⟨C, c1, c2, c3, rfl⟩ := h2
  rw [← fre_len b1 b2, ← fre_len c1 c2, reduce_unique b1 c1 fun v => by rw [b3, c3]]
theorem Dim.congr {P Q : Nat → Prop} {k : Nat} (h : Dim P k) (e : ∀ v, P v ↔ Q v) : Dim Q k := by
  obtain ⟨B, b1, b2, b3, b4⟩ := h
  exact ⟨B, b1, b2, fun v => by rw [b3, e], b4⟩
theorem dim_red {S : List Nat} (h : Red S) : Dim (Sp S) S.length := ⟨S, fun r hr => (h.ne r hr).2, h.fre, fun _ => Iff.rfl, rfl⟩
theorem dim_reduce {S : List Nat} (hS : ∀ r ∈ S, Sm r) : Dim (Sp S) (reduceS S).length := (dim_red (red_reduce hS)).congr fun v => sp_reduce hS v
theorem fre_snoc {B : List Nat} {r : Nat} (h : Fre B) (hr : ¬ Sp B r) : Fre (B ++ [r]) := by
  intro k hk
  rw [List.length_append, List.length_singleton] at hk
  rcases Nat.lt_or_ge k B.length with h1 | h1
  · rw [List.take_append_of_le_length (by omega), show (B ++ [r]).getD k 0 = B.getD k 0 by simp [List.getD, List.getElem?_append_left h1]]
    exact h k h1
  · have e : k = B.length := by omega
    subst e
    rw [show (B ++ [r]).take B.length = B by simp, show (B ++ [r]).getD B.length 0 = r by simp [List.getD]]
    exact hr
/-- a linear map -/
structure Lin (f : Nat → Nat) : Prop where
  add : ∀ x y, f (xr x y) = xr (f x) (f y)
theorem Lin.zero {f : Nat → Nat} (h : Lin f) : f 0 = 0 := by have := h.add 0 0; rw [xr_self, xr_self] at this; exact this
theorem sp_map {f : Nat → Nat} (h : Lin f) {B : List Nat} (w : Nat) : Sp (B.map f) w ↔ ∃ v, Sp B v ∧ w = f v := by
  constructor
  · intro hw
    induction hw with
    | zero => exact ⟨0, .zero, h.zero.symm⟩
    | add hm _ ih =>
      obtain ⟨v, hv, rfl⟩ := ih
      obtain ⟨r, hr, rfl⟩ := List.mem_map.1 hm
      exact ⟨xr r v, .add hr hv, (h.add r v).symm⟩
  · rintro ⟨v, hv, rfl⟩
    induction hv with
    | zero => rw [h.zero]; exact .zero
    | add hm _ ih => rw [h.add]; exact .add (List.mem_map_of_mem hm) ih
theorem fre_map {f : Nat → Nat} (h : Lin f) {B : List Nat} (hB : Fre B) (hi : ∀ v, Sp B v → f v = 0 → v = 0) : Fre (B.map f) := by
  intro k hk hs
  rw [List.length_map] at hk
  rw [← List.map_take, show (B.map f).getD k 0 = f (B.getD k 0) by simp [List.getD, hk], sp_map h] at hs
  obtain ⟨v, hv, e⟩ := hs
  have hv' : Sp B v := hv.mono fun r hr => List.mem_of_mem_take hr
  have h0 := hi (xr (B.getD k 0) v) ((Sp.mem (by simp [List.getD, hk])).plus hv') (by rw [h.add, e, xr_self])
  refine hB k hk ?_
  have e2 : B.getD k 0 = v := by have := congrArg (xr (B.getD k 0)) h0; rw [xr_xr, xr_zero] at this; exact this.symm
  rw [e2]; exact hv
theorem Dim.map {P Q : Nat → Prop} {k : Nat} {f : Nat → Nat} (h : Dim P k) (hf : Lin f) (hi : ∀ v, P v → f v = 0 → v = 0) (hs : ∀ v, P v → Sm (f v)) (hQ : ∀ w, Q w ↔ ∃ v, P v ∧ w = f v) : Dim Q k := by
  obtain ⟨B, b1, b2, b3, b4⟩ := h
  refine ⟨B.map f, fun r hr => ?_, fre_map hf b2 fun v hv => hi v ((b3 v).1 hv), fun w => ?_, by rw [List.length_map, b4]⟩
  · obtain ⟨v, hv, rfl⟩ := List.mem_map.1 hr
    exact hs v ((b3 v).1 (.mem hv))
  · rw [sp_map hf, hQ]
    exact ⟨fun ⟨v, h1, h2⟩ => ⟨v, (b3 v).1 h1, h2⟩, fun ⟨v, h1, h2⟩ => ⟨v, (b3 v).2 h1, h2⟩⟩

/-! ### ranks by elimination -/
/-- the least digit that is 1 -/
def lo (v : Nat) : Nat := ((List.range (v + 1)).find? (tb v)).getD 0
theorem lo_spec {v : Nat} (h : v ≠ 0) : tb v (lo v) = true ∧ ∀ m, m < lo v → tb v m = false := by
  unfold lo
  cases hf : (List.range (v + 1)).find? (tb v) with
  | none =>
    exfalso
    apply h
    rw [List.find?_eq_none] at hf
    refine eq_zero_of_tb fun n => ?_
    rcases Nat.lt_or_ge n (v + 1) with h1 | h1
    · have := hf n (List.mem_range.2 h1); simpa using this
    · exact tb_of_lt (Nat.lt_of_lt_of_le (Nat.lt_two_pow_self) (Nat.pow_le_pow_right (by omega) (by omega : v ≤ n))) (Nat.le_refl _)
  | some i =>
    rw [List.find?_range_eq_some] at hf
    refine ⟨hf.1, fun m hm => ?_⟩
    have := hf.2.2 m (by simpa using hm)
    simpa using this
def clr (p r s : Nat) : Nat := if tb s p = true then xr s r else s
theorem clr_lin (p r : Nat) : Lin (clr p r) := ⟨fun x y => by
  unfold clr
  rw [tb_xr]
  cases h1 : tb x p <;> cases h2 : tb y p <;> simp
  · rw [xr_assoc]
  · rw [xr_assoc, xr_assoc, xr_comm y r]
  · rw [xr_assoc x r, xr_left r y r, xr_self, xr_zero]⟩
theorem clr_off {p r : Nat} (h : tb r p = true) (s : Nat) : tb (clr p r s) p = false := by
  unfold clr
  cases h1 : tb s p <;> simp [tb_xr, h1, h]
def rkN : Nat → List Nat → Nat
  | 0, _ => 0
  | _ + 1, [] => 0
  | n + 1, r :: S => if r = 0 then rkN n S else 1 + rkN n (S.map (clr (lo r) r))
def rkS (S : List Nat) : Nat := rkN S.length S
theorem rkS_nil : rkS [] = 0 := rfl
theorem rkS_cons (r : Nat) (S : List Nat) : rkS (r :: S) = if r = 0 then rkS S else 1 + rkS (S.map (clr (lo r) r)) := by
  unfold rkS; simp only [List.length_cons, List.length_map, rkN]
theorem rk_dim : ∀ (n : Nat) (S : List Nat), S.length = n → (∀ r ∈ S, Sm r) → Dim (Sp S) (rkS S) := by
  intro n
  induction n with
  | zero =>
    intro S hl _
    rw [List.eq_nil_of_length_eq_zero hl]
    exact ⟨[], by simp, fun k hk => by simp at hk, fun _ => Iff.rfl, rfl⟩
  | succ n ih =>
    intro S hl hS
    match S, hl with
    | r :: S, hl =>
      rw [rkS_cons]
      have hr := hS r (List.mem_cons_self ..)
      have hS' : ∀ s ∈ S, Sm s := fun s hs => hS s (List.mem_cons_of_mem _ hs)
      by_cases h0 : r = 0
      · rw [if_pos h0]
        refine (ih S (by simpa using hl) hS').congr fun v => ⟨Sp.mono fun s hs => List.mem_cons_of_mem _ hs, fun h => ?_⟩
        rcases sp_cons h with h | h
        · exact h
        · rwa [h0, zero_xr] at h
      · rw [if_neg h0]
        obtain ⟨hp, _⟩ := lo_spec h0
        generalize lo r = p at *
        have hc : ∀ s ∈ S.map (clr p r), Sm s := fun s hs => by
          obtain ⟨t, ht, rfl⟩ := List.mem_map.1 hs
          unfold clr; split
          · exact (hS' t ht).xr hr
          · exact hS' t ht
        obtain ⟨B, b1, b2, b3, b4⟩ := ih (S.map (clr p r)) (by simpa using hl) hc
        have hoff : ∀ s ∈ S.map (clr p r), tb s p = false := fun s hs => by
          obtain ⟨t, ht, rfl⟩ := List.mem_map.1 hs
          exact clr_off hp t
        refine ⟨B ++ [r], fun s hs => ?_, fre_snoc b2 fun h => ?_, fun v => ?_, by rw [List.length_append, b4]; simp; omega⟩
        · rcases List.mem_append.1 hs with hs | hs
          · exact b1 s hs
          · rw [List.mem_singleton.1 hs]; exact hr
        · rw [((b3 r).1 h).off hoff] at hp; cases hp
        · rw [sp_congr (U := [r]) b3 v]
          have hcl : ∀ t, Sp [r] (xr t (clr p r t)) := fun t => by
            unfold clr; split
            · rw [xr_xr]; exact .mem (List.mem_singleton.2 rfl)
            · rw [xr_self]; exact .zero
          constructor
          · refine Sp.trans fun s hs => ?_
            rcases List.mem_append.1 hs with hs | hs
            · obtain ⟨t, ht, rfl⟩ := List.mem_map.1 hs
              have h1 : Sp (r :: S) (xr t (clr p r t)) := (hcl t).mono fun x hx => by rw [List.mem_singleton.1 hx]; exact List.mem_cons_self ..
              have h2 : Sp (r :: S) t := .mem (List.mem_cons_of_mem _ ht)
              have := h2.plus h1
              rwa [xr_xr] at this
            · rw [List.mem_singleton.1 hs]; exact .mem (List.mem_cons_self ..)
          · refine Sp.trans fun s hs => ?_
            rcases List.mem_cons.1 hs with rfl | hs
            · exact .mem (List.mem_append_right _ (List.mem_singleton.2 rfl))
            · have h1 : Sp (S.map (clr p r) ++ [r]) (xr s (clr p r s)) := (hcl s).mono fun x hx => List.mem_append_right _ hx
              have h2 : Sp (S.map (clr p r) ++ [r]) (clr p r s) := .mem (List.mem_append_left _ (List.mem_map_of_mem hs))
              have := h1.plus h2
              rwa [xr_assoc, xr_self, xr_zero] at this
/-- the rank by elimination is the number of reduced rows -/
theorem rk_reduce {S : List Nat} (hS : ∀ r ∈ S, Sm r) : rkS S = (reduceS S).length := (rk_dim _ S rfl hS).unique (dim_reduce hS)

/-! ### kernels of any rows -/
theorem comb_shift : ∀ (S : List Nat) (i z : Nat), comb S (i + 1) z = comb S i (z / 2)
  | [], _, _ => rfl
  | s :: S, i, z => by
    simp only [comb]
    rw [comb_shift S (i + 1) z, show tb z (i + 1) = tb (z / 2) i by unfold tb; rw [Nat.testBit_succ]]
theorem comb_map {f : Nat → Nat} (h : Lin f) : ∀ (S : List Nat) (i z : Nat), comb (S.map f) i z = f (comb S i z)
  | [], _, _ => h.zero.symm
  | s :: S, i, z => by
    simp only [comb, List.map_cons]
    rw [comb_map h S (i + 1) z, h.add]
    congr 1
    split
    · rfl
    · exact h.zero.symm
theorem tb_double (v : Nat) (b : Bool) (i : Nat) : tb (xr (2 * v) b.toNat) i = if i = 0 then b else tb v (i - 1) := by
  rw [tb_xr]
  cases i with
  | zero =>
    rw [if_pos rfl]
    have e1 : tb (2 * v) 0 = false := by unfold tb; rw [Nat.testBit_zero]; simp
    rw [e1]; cases b <;> rfl
  | succ i =>
    rw [if_neg (Nat.succ_ne_zero i)]
    have e1 : tb (2 * v) (i + 1) = tb v i := by unfold tb; rw [Nat.testBit_succ]; congr 1; omega
    have e2 : tb b.toNat (i + 1) = false := by
      cases b
      · exact tb_zero _
      · unfold tb; rw [Nat.testBit_succ]; simp
    rw [e1, e2]; simp
theorem half_double (v : Nat) (b : Bool) : xr (2 * v) b.toNat / 2 = v := by
  apply eq_of_tb
  intro i
  have := tb_double v b (i + 1)
  rw [if_neg (Nat.succ_ne_zero i)] at this
  unfold tb at this ⊢
  rw [Nat.testBit_succ] at this
  exact this
theorem double_half (z : Nat) : xr (2 * (z / 2)) (tb z 0).toNat = z := by
  apply eq_of_tb
  intro i
  rw [tb_double]
  cases i with
  | zero => rw [if_pos rfl]
  | succ i => rw [if_neg (Nat.succ_ne_zero i)]; unfold tb; rw [Nat.testBit_succ]; simp
theorem dbl_lin {b : Nat → Bool} (hb : ∀ x y, b (xr x y) = (b x ^^ b y)) : Lin fun v => xr (2 * v) (b v).toNat := ⟨fun x y => by
  apply eq_of_tb
  intro i
  rw [tb_xr (xr (2 * x) (b x).toNat), tb_double, tb_double, tb_double]
  split
  · exact hb x y
  · exact tb_xr x y _⟩
def KerP (R : List Nat) (z : Nat) : Prop := z < 2 ^ R.length ∧ comb R 0 z = 0
theorem ker_cons {r : Nat} {S : List Nat} (z : Nat) : KerP (r :: S) z ↔ z / 2 < 2 ^ S.length ∧ xr (if tb z 0 = true then r else 0) (comb S 0 (z / 2)) = 0 := by
  unfold KerP
  simp only [comb, List.length_cons]
  rw [comb_shift S 0 z, Nat.pow_succ]
  constructor
  · rintro ⟨h1, h2⟩; exact ⟨by omega, h2⟩
  · rintro ⟨h1, h2⟩; exact ⟨by omega, h2⟩
/-- THE RANK BY ELIMINATION AND THE KERNEL FILL UP THE NUMBER OF ROWS, whatever the rows' size -/
theorem rk_ker : ∀ (n : Nat) (R : List Nat), R.length = n → n ≤ 62 → ∃ k, k + rkS R = R.length ∧ Dim (KerP R) k := by
  intro n
  induction n with
  | zero =>
    intro R hl _
    rw [List.eq_nil_of_length_eq_zero hl]
    refine ⟨0, rfl, [], by simp, fun k hk => by simp at hk, fun v => ⟨fun h => ?_, fun h => ?_⟩, rfl⟩
    · have : v = 0 := by
        cases h with
        | zero => rfl
        | add hm _ => cases hm
      subst this; exact ⟨by simp, rfl⟩
    · have : v = 0 := by have := h.1; simpa using this
      subst this; exact .zero
  | succ n ih =>
    intro R hl hn
    match R, hl with
    | r :: S, hl =>
      have hlS : S.length = n := by simpa using hl
      rw [rkS_cons]
      by_cases h0 : r = 0
      · rw [if_pos h0]
        obtain ⟨k, hk, B, b1, b2, b3, b4⟩ := ih S hlS (by omega)
        have hlin : Lin fun v => 2 * v := by
          have h := dbl_lin (b := fun _ => false) fun _ _ => rfl
          have e : (fun v => xr (2 * v) (false).toNat) = fun v => 2 * v := by funext v; exact xr_zero _
          rwa [e] at h
        have hbit : ∀ v, Sp (B.map fun v => 2 * v) v → tb v 0 = false := fun v => Sp.off fun s hs => by
          obtain ⟨t, _, rfl⟩ := List.mem_map.1 hs
          unfold tb; rw [Nat.testBit_zero]; simp
        refine ⟨k + 1, by simp; omega, (B.map fun v => 2 * v) ++ [1], fun s hs => ?_, fre_snoc (fre_map hlin b2 fun v _ h => by omega) fun h => ?_, fun v => ?_, by simp [b4]⟩
        · rcases List.mem_append.1 hs with hs | hs
          · obtain ⟨t, ht, rfl⟩ := List.mem_map.1 hs
            have := ((b3 t).1 (.mem ht)).1
            refine sm_of_lt (a := n + 1) hn ?_
            rw [hlS] at this; rw [Nat.pow_succ]; omega
          · rw [List.mem_singleton.1 hs]; exact Sm.one
        · have := hbit 1 h; cases this
        · rw [ker_cons]
          constructor
          · intro h
            obtain ⟨a, b, ha, hb, rfl⟩ := sp_append h
            rw [sp_map hlin] at ha
            obtain ⟨u, hu, rfl⟩ := ha
            obtain ⟨k1, k2⟩ := (b3 u).1 hu
            have hb' : b = 0 ∨ b = 1 := by
              rcases sp_cons hb with h | h
              · left
                have h' : ∀ q, Sp [] q → q = 0 := fun q hq => by
                  cases hq with
                  | zero => rfl
                  | add hm _ => cases hm
                exact h' _ h
              · right
                have h' : ∀ q, Sp [] q → q = 0 := fun q hq => by
                  cases hq with
                  | zero => rfl
                  | add hm _ => cases hm
                have := congrArg (xr 1) (h' _ h); rw [xr_xr, xr_zero] at this; exact this
            have e : xr (2 * u) b / 2 = u := by
              rcases hb' with rfl | rfl
              · exact half_double u false
              · exact half_double u true
            rw [e, h0]
            refine ⟨k1, ?_⟩
            rw [k2]; split <;> rfl
          · rintro ⟨h1, h2⟩
            rw [h0] at h2
            have h2' : comb S 0 (v / 2) = 0 := by
              have : (if tb v 0 = true then 0 else 0) = 0 := by split <;> rfl
              rw [this, zero_xr] at h2; exact h2
            have hs : Sp (B.map fun v => 2 * v) (2 * (v / 2)) := (sp_map hlin _).2 ⟨v / 2, (b3 _).2 ⟨h1, h2'⟩, rfl⟩
            rw [← double_half v]
            refine (hs.mono fun x hx => List.mem_append_left _ hx).plus ?_
            cases tb v 0
            · exact .zero
            · exact .mem (List.mem_append_right _ (List.mem_singleton.2 rfl))
      · rw [if_neg h0]
        obtain ⟨hp, _⟩ := lo_spec h0
        generalize lo r = p at *
        obtain ⟨k, hk, hd⟩ := ih (S.map (clr p r)) (by simpa using hlS) (by omega)
        rw [List.length_map] at hk
        have hlin : Lin fun v => xr (2 * v) (tb (comb S 0 v) p).toNat := dbl_lin (b := fun v => tb (comb S 0 v) p) fun x y => by rw [comb_xr, tb_xr]
        have hK : ∀ v, KerP (S.map (clr p r)) v ↔ v < 2 ^ S.length ∧ clr p r (comb S 0 v) = 0 := fun v => by
          unfold KerP; rw [List.length_map, comb_map (clr_lin p r)]
        refine ⟨k, by simp only [List.length_cons]; omega, hd.map hlin ?_ ?_ ?_⟩
        · intro v _ h
          have := half_double v (tb (comb S 0 v) p)
          have h' : xr (2 * v) (tb (comb S 0 v) p).toNat = 0 := h
          rw [h'] at this; simpa using this.symm
        · intro v hv
          have h1 := ((hK v).1 hv).1
          refine sm_of_lt (a := n + 1) hn ?_
          have h2 := half_double v (tb (comb S 0 v) p)
          rw [hlS] at h1; rw [Nat.pow_succ]; omega
        · intro w
          rw [ker_cons]
          constructor
          · rintro ⟨h1, h2⟩
            have e : comb S 0 (w / 2) = if tb w 0 = true then r else 0 := by
              have := congrArg (xr (if tb w 0 = true then r else 0)) h2
              rw [xr_xr, xr_zero] at this; exact this
            have e2 : tb (comb S 0 (w / 2)) p = tb w 0 := by
              rw [e]; cases tb w 0
              · simp [tb_zero]
              · simp [hp]
            refine ⟨w / 2, (hK _).2 ⟨h1, ?_⟩, ?_⟩
            · rw [e]; unfold clr
              cases tb w 0
              · simp [tb_zero]
              · simp [hp, xr_self]
            · simp only [e2]; exact (double_half w).symm
          · rintro ⟨v, hv, rfl⟩
            obtain ⟨h1, h2⟩ := (hK v).1 hv
            rw [half_double]
            refine ⟨h1, ?_⟩
            have e0 : tb (xr (2 * v) (tb (comb S 0 v) p).toNat) 0 = tb (comb S 0 v) p := by rw [tb_double, if_pos rfl]
            rw [e0]
            unfold clr at h2
            cases hb : tb (comb S 0 v) p
            · rw [hb] at h2; simp at h2 ⊢; rw [h2]; rfl
            · rw [hb] at h2; simp at h2 ⊢; rw [xr_comm]; exact h2

/-! ### reduced kernels and meets -/
def kerS (S : List Nat) (k : Nat) : List Nat := kerOut (fun k => spanL ((us 0 S).take k)) S k
theorem kerS_succ (S : List Nat) (k : Nat) : kerS S (k + 1) = kerStep (spanL ((us 0 S).take k)) (S.getD k 0, 2 ^ k) (kerS S k) := rfl
theorem red_len {S : List Nat} {n : Nat} (h : Red S) (hlt : ∀ r ∈ S, r < 2 ^ n) : S.length ≤ n := by
  have := pig1 n (S.map pv) h.nodup (fun x hx => by
    obtain ⟨r, hr, rfl⟩ := List.mem_map.1 hx
    exact pv_lt (h.ne r hr).1 (h.ne r hr).2 (hlt r hr))
  simpa using this
def kerR (S : List Nat) : List Nat := reduceS (kerS S S.length)
theorem kerR_sp {S : List Nat} (hS : ∀ r ∈ S, Sm r) (hl : S.length ≤ 62) (z : Nat) : Sp (kerR S) z ↔ z < 2 ^ S.length ∧ comb S 0 z = 0 := by
  have hK := kerG_span hS hl
  unfold kerR
  rw [sp_reduce (S := kerS S S.length) (hK.sm hl)]
  exact hK.sp_iff z
theorem kerR_red {S : List Nat} (hS : ∀ r ∈ S, Sm r) (hl : S.length ≤ 62) : Red (kerR S) := red_reduce (rows := kerS S S.length) ((kerG_span hS hl).sm hl)
theorem kerR_ok {S : List Nat} (hS : ∀ r ∈ S, Sm r) (hl : S.length ≤ 62) : (∀ r ∈ kerR S, Sm r) ∧ (kerR S).length ≤ S.length :=
  ⟨fun r hr => ((kerR_red hS hl).ne r hr).2, red_len (kerR_red hS hl) fun r hr => ((kerR_sp hS hl r).1 (.mem hr)).1⟩
theorem meetS_sp {A B : List Nat} (hA : ∀ r ∈ A, Sm r) (hB : ∀ r ∈ B, Sm r) (u : Nat) : Sp (meetS A B) u ↔ Sp A u ∧ Sp B u := by
  have hG := meetG_span hA hB
  unfold meetS
  rw [sp_reduce (hG.sm hA)]
  exact hG.sp_iff u
theorem meetS_red {A B : List Nat} (hA : ∀ r ∈ A, Sm r) (hB : ∀ r ∈ B, Sm r) : Red (meetS A B) ∧ Asc (meetS A B) := ⟨red_reduce ((meetG_span hA hB).sm hA), asc_reduce ((meetG_span hA hB).sm hA)⟩
end Go.Proofs.YtpchigdhnnkpcaaGreatDoor
