/- maps between modules: their equations and solutions, by both ways (no program in sight) -/
import Derived.Test.YtpchigdhnnkpcaaGreatDoorZah
namespace Go.Proofs.YtpchigdhnnkpcaaGreatDoor

/-! ### products of masks -/
def dot (a x : Nat) : Nat → Bool
  | 0 => false
  | n + 1 => dot a x n ^^ (tb a n && tb x n)
theorem dot_xr (a x y : Nat) : ∀ n, dot a (xr x y) n = (dot a x n ^^ dot a y n)
  | 0 => rfl
  | n + 1 => by
    unfold dot
    rw [dot_xr a x y n, tb_xr]
    cases dot a x n <;> cases dot a y n <;> cases tb a n <;> cases tb x n <;> cases tb y n <;> rfl
theorem dot_zero (a : Nat) : ∀ n, dot a 0 n = false
  | 0 => rfl
  | n + 1 => by unfold dot; rw [dot_zero a n, tb_zero]; simp
/-- only one place counts -/
theorem dot_one {a x p : Nat} : ∀ n, (∀ j, j < n → j ≠ p → (tb a j && tb x j) = false) → dot a x n = (decide (p < n) && (tb a p && tb x p))
  | 0, _ => by simp [dot]
  | n + 1, h => by
    unfold dot
    rw [dot_one n fun j hj hp => h j (by omega) hp]
    by_cases e : n = p
    · subst e; simp
    · rw [h n (by omega) e]
      have : decide (p < n + 1) = decide (p < n) := decide_eq_decide.2 (by omega)
      rw [this]; simp
theorem dot_pow {a u n : Nat} (hu : u < n) : dot a (2 ^ u) n = tb a u := by
  rw [dot_one (p := u) n fun j _ hp => by rw [tb_pow, decide_eq_false (by omega)]; simp]
  rw [tb_pow]; simp [hu]
/-- the columns of rows -/
def trTo (C : List Nat) (u : Nat) : Nat → Nat
  | 0 => 0
  | i + 1 => if tb (C.getD i 0) u = true then orr (trTo C u i) (2 ^ i) else trTo C u i
theorem tb_trTo (C : List Nat) (u : Nat) : ∀ k i, tb (trTo C u k) i = (decide (i < k) && tb (C.getD i 0) u)
  | 0, i => by simp [trTo, tb_zero]
  | k + 1, i => by
    unfold trTo
    by_cases e : i = k
    · subst e
      split
      · rename_i h; rw [tb_orr, tb_pow, h]; simp
      · rename_i h
        rw [tb_trTo]
        cases hb : tb (C.getD i 0) u
        · simp
        · exact absurd hb h
    · have e2 : decide (i < k + 1) = decide (i < k) := decide_eq_decide.2 (by omega)
      split
      · rw [tb_orr, tb_pow, tb_trTo, e2, decide_eq_false (show ¬ k = i by omega)]; simp
      · rw [tb_trTo, e2]
def trL (C : List Nat) (U : Nat) : List Nat := (List.range U).map fun u => trTo C u C.length
theorem trL_length (C : List Nat) (U : Nat) : (trL C U).length = U := by simp [trL]
theorem trL_getD (C : List Nat) {U u : Nat} (h : u < U) : (trL C U).getD u 0 = trTo C u C.length := by simp [trL, List.getD, h]
theorem comb_succ' (S : List Nat) (x : Nat) {k : Nat} (hk : k < S.length) : comb (S.take (k + 1)) 0 x = xr (comb (S.take k) 0 x) (if tb x k = true then S.getD k 0 else 0) := by
  have h := comb_take (S.take (k + 1)) 0 k (x &&& (2 ^ (k + 1) - 1)) (by rw [List.length_take]; omega) (fun m hm => by
    have : (x &&& (2 ^ (k + 1) - 1)) < 2 ^ (k + 1) := Nat.lt_of_le_of_lt Nat.and_le_right (by have := Nat.two_pow_pos (k + 1); omega)
    exact tb_of_lt this (by omega))
  have hb : ∀ m, m ≤ k → tb (x &&& (2 ^ (k + 1) - 1)) m = tb x m := fun m hm => by
    unfold tb; rw [Nat.testBit_and, Nat.testBit_two_pow_sub_one]; simp; omega
  have hc : ∀ (T : List Nat) i, i + T.length ≤ k + 1 → comb T i (x &&& (2 ^ (k + 1) - 1)) = comb T i x := by
    intro T
    induction T with
    | nil => intro i _; rfl
    | cons r T ih =>
      intro i hi
      simp only [List.length_cons] at hi
      simp only [comb]
      rw [hb i (by omega), ih (i + 1) (by omega)]
  rw [hc _ 0 (by rw [List.length_take]; omega), Nat.zero_add, hb k (Nat.le_refl _)] at h
  rw [h, List.take_take, show min k (k + 1) = k by omega, hc _ 0 (by rw [List.length_take]; omega)]
  congr 1
  have : (S.take (k + 1)).getD k 0 = S.getD k 0 := by simp [List.getD, List.getElem?_take]
  rw [this]
theorem tb_comb_tr (C : List Nat) (U x i : Nat) (hi : i < C.length) : ∀ k, k ≤ U → tb (comb ((trL C U).take k) 0 x) i = dot (C.getD i 0) x k
  | 0, _ => by unfold dot; rw [List.take_zero]; exact tb_zero i
  | k + 1, hk => by
    have e : tb (if tb x k = true then trTo C k C.length else 0) i = (tb (C.getD i 0) k && tb x k) := by
      cases hb : tb x k
      · rw [if_neg (by simp), tb_zero]; simp
      · rw [if_pos rfl, tb_trTo, decide_eq_true hi]; simp
    rw [comb_succ' _ _ (by rw [trL_length]; omega), tb_xr, tb_comb_tr C U x i hi k (by omega), trL_getD C (by omega), e]
    rfl
/-- the unknowns' masks for which all equations hold -/
def EqK (C : List Nat) (U x : Nat) : Prop := x < 2 ^ U ∧ ∀ r ∈ C, dot r x U = false
theorem eqK_tr {C : List Nat} {U : Nat} (x : Nat) (hC : C.length ≤ 62) : x < 2 ^ (trL C U).length ∧ comb (trL C U) 0 x = 0 ↔ EqK C U x := by
  rw [trL_length]
  unfold EqK
  have hall : comb (trL C U) 0 x = comb ((trL C U).take U) 0 x := by rw [List.take_of_length_le (by rw [trL_length]; exact Nat.le_refl _)]
  constructor
  · rintro ⟨h1, h2⟩
    refine ⟨h1, fun r hr => ?_⟩
    obtain ⟨i, hi, rfl⟩ := List.getElem_of_mem hr
    have := tb_comb_tr C U x i hi U (Nat.le_refl _)
    rw [← hall, h2, tb_zero] at this
    rw [show C[i] = C.getD i 0 by simp [List.getD, hi]]; exact this.symm
  · rintro ⟨h1, h2⟩
    refine ⟨h1, eq_zero_of_tb fun i => ?_⟩
    rcases Nat.lt_or_ge i C.length with hi | hi
    · rw [hall, tb_comb_tr C U x i hi U (Nat.le_refl _)]
      exact h2 _ (by simp [List.getD, hi])
    · have : comb (trL C U) 0 x < 2 ^ C.length := comb_lt (fun r hr => by
        unfold trL at hr
        obtain ⟨u, _, rfl⟩ := List.mem_map.1 hr
        exact lt_of_tb fun m hm => by rw [tb_trTo, decide_eq_false (by omega)]; rfl) 0 x
      exact tb_of_lt this hi

/-! ### solutions -/
def isPv (C : List Nat) (u : Nat) : Bool := C.any fun r => decide (pv r = u)
def ownTo (C : List Nat) (u : Nat) : Nat → Nat
  | 0 => 2 ^ u
  | i + 1 => if tb (C.getD i 0) u = true then orr (ownTo C u i) (2 ^ pv (C.getD i 0)) else ownTo C u i
def ownU (C : List Nat) (u : Nat) : Nat := ownTo C u C.length
theorem tb_ownTo (C : List Nat) (u : Nat) : ∀ k m, tb (ownTo C u k) m = true ↔ m = u ∨ ∃ i, i < k ∧ tb (C.getD i 0) u = true ∧ pv (C.getD i 0) = m
  | 0, m => by
    unfold ownTo; rw [tb_pow]
    simp only [decide_eq_true_eq]
    constructor
    · intro h; exact .inl h.symm
    · rintro (h | ⟨i, hi, _⟩)
      · exact h.symm
      · omega
  | k + 1, m => by
    unfold ownTo
    split
    · rename_i h
      rw [tb_orr, tb_pow, Bool.or_eq_true, tb_ownTo C u k m, decide_eq_true_eq]
      constructor
      · rintro ((h1 | ⟨i, a, b, c⟩) | h1)
        · exact .inl h1
        · exact .inr ⟨i, by omega, b, c⟩
        · exact .inr ⟨k, by omega, h, h1⟩
      · rintro (h1 | ⟨i, a, b, c⟩)
        · exact .inl (.inl h1)
        · by_cases e : i = k
          · subst e; exact .inr c
          · exact .inl (.inr ⟨i, by omega, b, c⟩)
    · rename_i h
      rw [tb_ownTo C u k m]
      constructor
      · rintro (h1 | ⟨i, a, b, c⟩)
        · exact .inl h1
        · exact .inr ⟨i, by omega, b, c⟩
      · rintro (h1 | ⟨i, a, b, c⟩)
        · exact .inl h1
        · by_cases e : i = k
          · subst e; exact absurd b h
          · exact .inr ⟨i, by omega, b, c⟩
theorem tb_ownU (C : List Nat) (u m : Nat) : tb (ownU C u) m = true ↔ m = u ∨ ∃ r ∈ C, tb r u = true ∧ pv r = m := by
  unfold ownU
  rw [tb_ownTo]
  constructor
  · rintro (h | ⟨i, a, b, c⟩)
    · exact .inl h
    · exact .inr ⟨_, getD_mem a, b, c⟩
  · rintro (h | ⟨r, hr, b, c⟩)
    · exact .inl h
    · obtain ⟨i, hi, rfl⟩ := List.getElem_of_mem hr
      refine .inr ⟨i, hi, ?_⟩
      rw [show C.getD i 0 = C[i] by simp [List.getD, hi]]; exact ⟨b, c⟩
def solsTo (C : List Nat) (k : Nat) : List Nat := ((List.range k).filter fun u => !isPv C u).map (ownU C)
theorem solsTo_succ (C : List Nat) (k : Nat) : solsTo C (k + 1) = solsTo C k ++ if isPv C k = true then [] else [ownU C k] := by
  unfold solsTo
  rw [List.range_succ, List.filter_append, List.map_append]
  congr 1
  cases h : isPv C k
  · rw [List.filter_cons_of_pos (by simp [h])]; rfl
  · rw [List.filter_cons_of_neg (by simp [h])]; rfl
theorem mem_solsTo {C : List Nat} {k r : Nat} : r ∈ solsTo C k ↔ ∃ u, u < k ∧ isPv C u = false ∧ r = ownU C u := by
  unfold solsTo
  constructor
  · intro h
    obtain ⟨u, hu, rfl⟩ := List.mem_map.1 h
    obtain ⟨a, b⟩ := List.mem_filter.1 hu
    exact ⟨u, List.mem_range.1 a, by simpa using b, rfl⟩
  · rintro ⟨u, hu, hp, rfl⟩
    exact List.mem_map.2 ⟨u, List.mem_filter.2 ⟨List.mem_range.2 hu, by simp [hp]⟩, rfl⟩
theorem isPv_no {C : List Nat} {u : Nat} (h : isPv C u = false) : ∀ r ∈ C, pv r ≠ u := fun r hr e => by
  unfold isPv at h
  rw [List.any_eq_false] at h
  exact h r hr (by simpa using e)
theorem isPv_yes {C : List Nat} {u : Nat} (h : isPv C u = true) : ∃ r ∈ C, pv r = u := by
  unfold isPv at h
  obtain ⟨r, hr, e⟩ := List.any_eq_true.1 h
  exact ⟨r, hr, by simpa using e⟩
section
variable {C : List Nat} {U : Nat}
theorem ownU_lt (hC : Red C) (hlt : ∀ r ∈ C, r < 2 ^ U) {u : Nat} (hu : u < U) : ownU C u < 2 ^ U := lt_of_tb fun m hm => by
  cases h : tb (ownU C u) m with
  | false => rfl
  | true =>
    rcases (tb_ownU C u m).1 h with h1 | ⟨r, hr, _, h1⟩
    · omega
    · have := pv_lt (hC.ne r hr).1 (hC.ne r hr).2 (hlt r hr); omega
theorem ownU_eq (hC : Red C) (hlt : ∀ r ∈ C, r < 2 ^ U) {u : Nat} (hu : u < U) (hp : isPv C u = false) : EqK C U (ownU C u) := by
  refine ⟨ownU_lt hC hlt hu, fun r hr => ?_⟩
  have hn := isPv_no hp
  have hpr : tb r (pv r) = true := tb_pv (hC.ne r hr).1 (hC.ne r hr).2
  have hpu := pv_lt (hC.ne r hr).1 (hC.ne r hr).2 (hlt r hr)
  -- 2^u and the rest, which has of r's digits the pivot alone
  have e : ownU C u = xr (2 ^ u) (xr (2 ^ u) (ownU C u)) := (xr_xr _ _).symm
  rw [e, dot_xr, dot_pow hu]
  rw [dot_one (p := pv r) U fun j _ hj => by
    cases h1 : tb r j with
    | false => rfl
    | true =>
      rw [Bool.true_and, tb_xr, tb_pow]
      by_cases eu : u = j
      · subst eu
        rw [(tb_ownU C u u).2 (.inl rfl)]; simp
      · rw [decide_eq_false eu]
        cases h2 : tb (ownU C u) j with
        | false => rfl
        | true =>
          rcases (tb_ownU C u j).1 h2 with h3 | ⟨s, hs, _, h3⟩
          · exact absurd h3.symm eu
          · exfalso
            by_cases ers : r = s
            · subst ers; exact hj h3.symm
            · have := hC.apart r hr s hs ers
              rw [h3, h1] at this; cases this]
  rw [decide_eq_true hpu, Bool.true_and, hpr, Bool.true_and, tb_xr, tb_pow, decide_eq_false (fun h => hn r hr h.symm)]
  have h5 : tb (ownU C u) (pv r) = tb r u := by
    cases h1 : tb r u with
    | true => exact (tb_ownU C u _).2 (.inr ⟨r, hr, h1, rfl⟩)
    | false =>
      cases h2 : tb (ownU C u) (pv r) with
      | false => rfl
      | true =>
        rcases (tb_ownU C u _).1 h2 with h3 | ⟨s, hs, h4, h3⟩
        · exact absurd h3 (hn r hr)
        · by_cases ers : s = r
          · subst ers; rw [h1] at h4; cases h4
          · have := hC.apart s hs r hr ers
            rw [← h3, tb_pv (hC.ne s hs).1 (hC.ne s hs).2] at this; cases this
  rw [h5]; cases tb r u <;> rfl
theorem EqK.xr {x y : Nat} (hx : EqK C U x) (hy : EqK C U y) : EqK C U (xr x y) :=
  ⟨xr_lt hx.1 hy.1, fun r hr => by rw [dot_xr, hx.2 r hr, hy.2 r hr]; rfl⟩
/-- a solution whose digits are pivots alone is 0 -/
theorem eqK_piv (hC : Red C) (hlt : ∀ r ∈ C, r < 2 ^ U) {x : Nat} (hx : EqK C U x) (h : ∀ u, isPv C u = false → tb x u = false) : x = 0 := eq_zero_of_tb fun k => by
  cases hk : tb x k with
  | false => rfl
  | true =>
    exfalso
    cases hp : isPv C k with
    | false => rw [h k hp] at hk; cases hk
    | true =>
      obtain ⟨r, hr, rfl⟩ := isPv_yes hp
      have hpr : tb r (pv r) = true := tb_pv (hC.ne r hr).1 (hC.ne r hr).2
      have hpu := pv_lt (hC.ne r hr).1 (hC.ne r hr).2 (hlt r hr)
      have h0 := hx.2 r hr
      rw [dot_one (p := pv r) U fun j _ hj => by
        cases h1 : tb r j with
        | false => rfl
        | true =>
          rw [Bool.true_and]
          cases h2 : tb x j with
          | false => rfl
          | true =>
            exfalso
            cases hq : isPv C j with
            | false => rw [h j hq] at h2; cases h2
            | true =>
              obtain ⟨s, hs, rfl⟩ := isPv_yes hq
              by_cases ers : r = s
              · subst ers; exact hj rfl
              · have := hC.apart r hr s hs ers
                rw [h1] at this; cases this] at h0
      rw [decide_eq_true hpu, hpr, hk] at h0; cases h0
theorem sols_all (hC : Red C) (hlt : ∀ r ∈ C, r < 2 ^ U) : ∀ k, k ≤ U → ∀ x, EqK C U x → (∀ u, k ≤ u → isPv C u = false → tb x u = false) → Sp (solsTo C U) x
  | 0, _, x, hx, h => by
    rw [eqK_piv hC hlt hx fun u hu => h u (Nat.zero_le _) hu]; exact .zero
  | k + 1, hk, x, hx, h => by
    cases hp : isPv C k with
    | true =>
      refine sols_all hC hlt k (by omega) x hx fun u hu hq => h u ?_ hq
      rcases Nat.lt_or_ge k u with h1 | h1
      · omega
      · have : u = k := by omega
        subst this; rw [hp] at hq; cases hq
    | false =>
      cases hb : tb x k with
      | false =>
        refine sols_all hC hlt k (by omega) x hx fun u hu hq => ?_
        rcases Nat.lt_or_ge k u with h1 | h1
        · exact h u (by omega) hq
        · have : u = k := by omega
          subst this; exact hb
      | true =>
        have ho := ownU_eq hC hlt (by omega : k < U) hp
        have hm : ownU C k ∈ solsTo C U := mem_solsTo.2 ⟨k, by omega, hp, rfl⟩
        have := sols_all hC hlt k (by omega) (Go.Proofs.YtpchigdhnnkpcaaGreatDoor.xr (ownU C k) x) (ho.xr hx) fun u hu hq => by
          rw [tb_xr]
          have h1 : tb (ownU C k) u = decide (u = k) := by
            cases h2 : tb (ownU C k) u with
            | true =>
              rcases (tb_ownU C k u).1 h2 with h3 | ⟨s, hs, _, h3⟩
              · exact (decide_eq_true h3).symm
              · exact absurd h3 (isPv_no hq s hs)
            | false =>
              symm; rw [decide_eq_false_iff_not]; rintro rfl
              rw [(tb_ownU C u u).2 (.inl rfl)] at h2; cases h2
          rw [h1]
          by_cases e : u = k
          · subst e; rw [hb]; simp
          · rw [h u (by omega) hq, decide_eq_false e]; rfl
        have h2 := Sp.add hm this
        rwa [xr_xr] at h2
theorem sols_sp (hC : Red C) (hlt : ∀ r ∈ C, r < 2 ^ U) (x : Nat) : Sp (solsTo C U) x ↔ EqK C U x := by
  constructor
  · intro hx
    induction hx with
    | zero => exact ⟨Nat.two_pow_pos _, fun r _ => dot_zero r U⟩
    | add hm _ ih =>
      obtain ⟨u, hu, hp, rfl⟩ := mem_solsTo.1 hm
      exact (ownU_eq hC hlt hu hp).xr ih
  · intro hx
    exact sols_all hC hlt U (Nat.le_refl _) x hx fun u hu _ => tb_of_lt hx.1 hu
theorem sols_sm (hC : Red C) (hlt : ∀ r ∈ C, r < 2 ^ U) (hU : U ≤ 60) : ∀ r ∈ solsTo C U, Sm r := fun r hr => sm_of_lt (a := U) (by omega) ((sols_sp hC hlt r).1 (.mem hr)).1
/-- BOTH WAYS TO THE SOLUTIONS GIVE ONE LIST -/
theorem sols_ker (hC : Red C) (hlt : ∀ r ∈ C, r < 2 ^ U) (hU : U ≤ 60) : kerR (trL C U) = reduceS (solsTo C U) := by
  have hCl : C.length ≤ 62 := by have := red_len hC hlt; omega
  have hT : ∀ r ∈ trL C U, Sm r := fun r hr => by
    unfold trL at hr
    obtain ⟨u, _, rfl⟩ := List.mem_map.1 hr
    refine sm_of_lt (a := C.length) hCl (lt_of_tb fun m hm => ?_)
    rw [tb_trTo, decide_eq_false (by omega)]; rfl
  have hl : (trL C U).length ≤ 62 := by rw [trL_length]; omega
  have hs := sols_sm hC hlt hU
  refine red_asc_unique (kerR_red hT hl) (red_reduce hs) ?_ (asc_reduce hs) fun v => ?_
  · unfold kerR; exact asc_reduce ((kerG_span hT hl).sm hl)
  · rw [kerR_sp hT hl, sp_reduce hs, sols_sp hC hlt]; exact eqK_tr v hCl
end

/-! ### the equations of maps -/
def unkC (xs ys : List Int) (i : Nat) (k : Nat) : List (Nat × Nat) := ((List.range k).filter fun c => decide (xs.getD i 0 = ys.getD c 0)).map fun c => (i, c)
theorem unkC_succ (xs ys : List Int) (i k : Nat) : unkC xs ys i (k + 1) = unkC xs ys i k ++ if xs.getD i 0 = ys.getD k 0 then [(i, k)] else [] := by
  unfold unkC
  rw [List.range_succ, List.filter_append, List.map_append]
  congr 1
  by_cases e : xs.getD i 0 = ys.getD k 0
  · rw [if_pos e, List.filter_cons_of_pos (by simpa using e)]; rfl
  · rw [if_neg e, List.filter_cons_of_neg (by simpa using e)]; rfl
def unkI (xs ys : List Int) : Nat → List (Nat × Nat)
  | 0 => []
  | i + 1 => unkI xs ys i ++ unkC xs ys i ys.length
def unk (xs ys : List Int) : List (Nat × Nat) := unkI xs ys xs.length
theorem unkI_mem {xs ys : List Int} {p : Nat × Nat} : ∀ {k : Nat}, p ∈ unkI xs ys k → p.1 < k ∧ p.2 < ys.length ∧ xs.getD p.1 0 = ys.getD p.2 0
  | 0, h => by cases h
  | k + 1, h => by
    unfold unkI at h
    rcases List.mem_append.1 h with h | h
    · have := unkI_mem h; exact ⟨by omega, this.2⟩
    · unfold unkC at h
      obtain ⟨c, hc, rfl⟩ := List.mem_map.1 h
      obtain ⟨h1, h2⟩ := List.mem_filter.1 hc
      exact ⟨by simp, List.mem_range.1 h1, by simpa using h2⟩
theorem unkI_len (xs ys : List Int) : ∀ k, (unkI xs ys k).length ≤ k * ys.length
  | 0 => by simp [unkI]
  | k + 1 => by
    unfold unkI
    rw [List.length_append, Nat.succ_mul]
    have h1 := unkI_len xs ys k
    have h2 : (unkC xs ys k ys.length).length ≤ ys.length := by
      unfold unkC; rw [List.length_map]; exact Nat.le_trans (List.length_filter_le _ _) (by simp)
    omega
/-- one equation: the digits of the unknowns below t -/
def eqM (P : List (Nat × Nat)) (Q R : List (List Int)) (i j c : Nat) : Nat → Nat
  | 0 => 0
  | t + 1 => xr (xr (eqM P Q R i j c t) (if tb (act Q (j : Int) (2 ^ i)) (P.getD t (0, 0)).1 = true ∧ (P.getD t (0, 0)).2 = c then 2 ^ t else 0)) (if (P.getD t (0, 0)).1 = i ∧ tb (act R (j : Int) (2 ^ (P.getD t (0, 0)).2)) c = true then 2 ^ t else 0)
theorem pow_lt_succ (t : Nat) : 2 ^ t < 2 ^ (t + 1) := Nat.pow_lt_pow_right (by omega) (by omega)
theorem eqM_lt (P : List (Nat × Nat)) (Q R : List (List Int)) (i j c : Nat) : ∀ t, eqM P Q R i j c t < 2 ^ t
  | 0 => Nat.two_pow_pos _
  | t + 1 => by
    have h1 : eqM P Q R i j c t < 2 ^ (t + 1) := Nat.lt_trans (eqM_lt P Q R i j c t) (pow_lt_succ t)
    have h2 : ∀ p : Prop, [Decidable p] → (if p then 2 ^ t else 0) < 2 ^ (t + 1) := fun p _ => by
      split
      · exact pow_lt_succ t
      · exact Nat.two_pow_pos _
    unfold eqM
    exact xr_lt (xr_lt h1 (h2 _)) (h2 _)
def eqR (P : List (Nat × Nat)) (Q R : List (List Int)) (i j c : Nat) : Nat := eqM P Q R i j c P.length
def eqK' (P : List (Nat × Nat)) (Q R : List (List Int)) (i j : Nat) (k : Nat) : List Nat := (List.range k).map fun c => eqR P Q R i j c
theorem eqK'_succ (P : List (Nat × Nat)) (Q R : List (List Int)) (i j k : Nat) : eqK' P Q R i j (k + 1) = eqK' P Q R i j k ++ [eqR P Q R i j k] := by
  unfold eqK'; rw [List.range_succ, List.map_append]; rfl
/-- the reference's order: i, then j, then c -/
def eqSJ (P : List (Nat × Nat)) (Q R : List (List Int)) (p i : Nat) : Nat → List Nat
  | 0 => []
  | j + 1 => eqSJ P Q R p i j ++ eqK' P Q R i (j + 1) p
def eqSI (P : List (Nat × Nat)) (Q R : List (List Int)) (p : Nat) : Nat → List Nat
  | 0 => []
  | i + 1 => eqSI P Q R p i ++ eqSJ P Q R p i 20
/-- the program's order: j, then i, then c -/
def eqII (P : List (Nat × Nat)) (Q R : List (List Int)) (p j : Nat) : Nat → List Nat
  | 0 => []
  | i + 1 => eqII P Q R p j i ++ eqK' P Q R i j p
def eqIJ (P : List (Nat × Nat)) (Q R : List (List Int)) (n p : Nat) : Nat → List Nat
  | 0 => []
  | j + 1 => eqIJ P Q R n p j ++ eqII P Q R p (j + 1) n
section
variable {P : List (Nat × Nat)} {Q R : List (List Int)} {n p : Nat} {r : Nat}
theorem mem_eqK' {i j k : Nat} : r ∈ eqK' P Q R i j k ↔ ∃ c, c < k ∧ r = eqR P Q R i j c := by
  unfold eqK'
  rw [List.mem_map]
  constructor
  · rintro ⟨c, hc, rfl⟩; exact ⟨c, List.mem_range.1 hc, rfl⟩
  · rintro ⟨c, hc, rfl⟩; exact ⟨c, List.mem_range.2 hc, rfl⟩
theorem mem_eqSJ {i : Nat} : ∀ {k : Nat}, r ∈ eqSJ P Q R p i k ↔ ∃ j c, j < k ∧ c < p ∧ r = eqR P Q R i (j + 1) c
  | 0 => by simp [eqSJ]
  | k + 1 => by
    unfold eqSJ
    rw [List.mem_append, mem_eqSJ, mem_eqK']
    constructor
    · rintro (⟨j, c, a, b, e⟩ | ⟨c, b, e⟩)
      · exact ⟨j, c, by omega, b, e⟩
      · exact ⟨k, c, by omega, b, e⟩
    · rintro ⟨j, c, a, b, e⟩
      by_cases h : j = k
      · subst h; exact .inr ⟨c, b, e⟩
      · exact .inl ⟨j, c, by omega, b, e⟩
theorem mem_eqSI : ∀ {k : Nat}, r ∈ eqSI P Q R p k ↔ ∃ i j c, i < k ∧ j < 20 ∧ c < p ∧ r = eqR P Q R i (j + 1) c
  | 0 => by simp [eqSI]
  | k + 1 => by
    unfold eqSI
    rw [List.mem_append, mem_eqSI, mem_eqSJ]
    constructor
    · rintro (⟨i, j, c, a, h⟩ | ⟨j, c, h⟩)
      · exact ⟨i, j, c, by omega, h⟩
      · exact ⟨k, j, c, by omega, h⟩
    · rintro ⟨i, j, c, a, h⟩
      by_cases e : i = k
      · subst e; exact .inr ⟨j, c, h⟩
      · exact .inl ⟨i, j, c, by omega, h⟩
theorem mem_eqII {j : Nat} : ∀ {k : Nat}, r ∈ eqII P Q R p j k ↔ ∃ i c, i < k ∧ c < p ∧ r = eqR P Q R i j c
  | 0 => by simp [eqII]
  | k + 1 => by
    unfold eqII
    rw [List.mem_append, mem_eqII, mem_eqK']
    constructor
    · rintro (⟨i, c, a, b, e⟩ | ⟨c, b, e⟩)
      · exact ⟨i, c, by omega, b, e⟩
      · exact ⟨k, c, by omega, b, e⟩
    · rintro ⟨i, c, a, b, e⟩
      by_cases h : i = k
      · subst h; exact .inr ⟨c, b, e⟩
      · exact .inl ⟨i, c, by omega, b, e⟩
theorem mem_eqIJ : ∀ {k : Nat}, r ∈ eqIJ P Q R n p k ↔ ∃ i j c, i < n ∧ j < k ∧ c < p ∧ r = eqR P Q R i (j + 1) c
  | 0 => by simp [eqIJ]
  | k + 1 => by
    unfold eqIJ
    rw [List.mem_append, mem_eqIJ, mem_eqII]
    constructor
    · rintro (⟨i, j, c, a, b, h⟩ | ⟨i, c, a, h⟩)
      · exact ⟨i, j, c, a, by omega, h⟩
      · exact ⟨i, k, c, a, by omega, h⟩
    · rintro ⟨i, j, c, a, b, h⟩
      by_cases e : j = k
      · subst e; exact .inr ⟨i, c, a, h⟩
      · exact .inl ⟨i, j, c, a, by omega, h⟩
theorem eqSI_lt {k : Nat} : ∀ r ∈ eqSI P Q R p k, r < 2 ^ P.length := fun r hr => by
  obtain ⟨i, j, c, _, _, _, rfl⟩ := mem_eqSI.1 hr; exact eqM_lt _ _ _ _ _ _ _
theorem eqIJ_lt {k : Nat} : ∀ r ∈ eqIJ P Q R n p k, r < 2 ^ P.length := fun r hr => by
  obtain ⟨i, j, c, _, _, _, rfl⟩ := mem_eqIJ.1 hr; exact eqM_lt _ _ _ _ _ _ _
/-- the equations in both orders reduce to one list -/
theorem eqs_same (hP : P.length ≤ 60) : reduceS (eqIJ P Q R n p 20) = reduceS (eqSI P Q R p n) :=
  reduce_unique (fun r hr => sm_of_lt (a := P.length) (by omega) (eqIJ_lt r hr)) (fun r hr => sm_of_lt (a := P.length) (by omega) (eqSI_lt r hr)) (sp_same fun r => by
    rw [mem_eqIJ, mem_eqSI])
end
/-- the reduced masks of the basis of the maps -/
def mapsL (xs : List Int) (Q : List (List Int)) (ys : List Int) (R : List (List Int)) : List Nat := reduceS (solsTo (reduceS (eqSI (unk xs ys) Q R ys.length xs.length)) (unk xs ys).length)
theorem mapsL_ker {xs ys : List Int} {Q R : List (List Int)} (hP : (unk xs ys).length ≤ 60) : kerR (trL (reduceS (eqIJ (unk xs ys) Q R xs.length ys.length 20)) (unk xs ys).length) = mapsL xs Q ys R := by
  rw [eqs_same hP]
  have hs : ∀ r ∈ eqSI (unk xs ys) Q R ys.length xs.length, Sm r := fun r hr => sm_of_lt (a := (unk xs ys).length) (by omega) (eqSI_lt r hr)
  exact sols_ker (red_reduce hs) (fun r hr => sp_lt eqSI_lt ((sp_reduce hs r).1 (.mem hr))) hP
end Go.Proofs.YtpchigdhnnkpcaaGreatDoor
