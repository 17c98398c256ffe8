/- vectors, their masks, maps of modules (no program in sight) -/
import Derived.Test.YtocllmhkppkfoaaMo
import Derived.Test.YtocllmhkppkfoaaBl
namespace Go.Proofs.Ytocllmhkppkfoaa

/-! ### the mask of a list of digits -/
def mk : List Int → Nat
  | [] => 0
  | x :: v => (if x = 1 then 1 else 0) + 2 * mk v
theorem tb_mk : ∀ (v : List Int) (i : Nat), tb (mk v) i = decide (v.getD i 0 = 1)
  | [], i => by simp [mk, tb_zero]
  | x :: v, 0 => by
    unfold tb mk
    rw [Nat.testBit_zero]
    by_cases h : x = 1 <;> simp [h] <;> omega
  | x :: v, i + 1 => by
    have := tb_mk v i
    unfold tb at this ⊢
    rw [Nat.testBit_succ, show mk (x :: v) / 2 = mk v by rw [show mk (x :: v) = (if x = 1 then 1 else 0) + 2 * mk v from rfl]; split <;> omega, this]
    simp
theorem mk_lt (v : List Int) : mk v < 2 ^ v.length := lt_of_tb fun m hm => by
  rw [tb_mk]; simp [List.getD, List.getElem?_eq_none hm]
theorem mk_bits {v n : Nat} (h : v < 2 ^ n) : mk (bitsL v n) = v := eq_of_tb fun i => by
  rw [tb_mk]
  rcases Nat.lt_or_ge i n with hi | hi
  · rw [bitsL_getD _ hi]
    cases hb : tb v i
    · rw [bit_none hb]; rfl
    · rw [bit_one hb]; rfl
  · rw [tb_of_lt h hi]
    simp [List.getD, List.getElem?_eq_none (show (bitsL v n).length ≤ i by rw [bitsL_length]; exact hi)]
/-- is a list a vector of n digits? -/
def vecB (n : Nat) (v : List Int) : Bool := (v.all fun x => decide (0 ≤ x) && decide (x ≤ 1)) && decide (v.length = n)
theorem vecB_iff {n : Nat} {v : List Int} : vecB n v = true ↔ v.length = n ∧ ∀ i, i < v.length → 0 ≤ v.getD i 0 ∧ v.getD i 0 ≤ 1 := by
  unfold vecB
  rw [Bool.and_eq_true, List.all_eq_true, decide_eq_true_eq]
  constructor
  · rintro ⟨h1, h2⟩
    refine ⟨h2, fun i hi => ?_⟩
    have := h1 (v[i]) (List.getElem_mem hi)
    simpa [List.getD, hi] using this
  · rintro ⟨h1, h2⟩
    refine ⟨fun x hx => ?_, h1⟩
    obtain ⟨i, hi, rfl⟩ := List.getElem_of_mem hx
    simpa [List.getD, hi] using h2 i hi
theorem vec_bits {n : Nat} {v : List Int} (h : vecB n v = true) : v = bitsL (mk v) n ∧ mk v < 2 ^ n := by
  obtain ⟨h1, h2⟩ := vecB_iff.1 h
  refine ⟨list_ext_getD h1 (bitsL_length _ _) fun i hi => ?_, by have := mk_lt v; rwa [h1] at this⟩
  rw [bitsL_getD _ hi]
  obtain ⟨a, b⟩ := h2 i (by omega)
  unfold bit
  rw [tb_mk]
  by_cases e : v.getD i 0 = 1
  · rw [if_pos (by simpa using e)]; exact e
  · rw [if_neg (by simpa using e)]; omega
theorem vecB_bits {v n : Nat} : vecB n (bitsL v n) = true := vecB_iff.2 ⟨bitsL_length _ _, fun i hi => by
  rw [bitsL_length] at hi
  rw [bitsL_getD _ hi]; exact bit_bd v i⟩
theorem mk_take {v : List Int} {k : Nat} (hk : k < v.length) : mk (v.take (k + 1)) = orr (mk (v.take k)) (if v.getD k 0 = 1 then 2 ^ k else 0) := by
  apply eq_of_tb
  intro i
  have e : ∀ j, (v.take j).getD i 0 = if i < j then v.getD i 0 else 0 := fun j => by
    simp only [List.getD, List.getElem?_take]; split <;> rfl
  unfold orr
  rw [show tb (mk (v.take k) ||| (if v.getD k 0 = 1 then 2 ^ k else 0)) i = (tb (mk (v.take k)) i || tb (if v.getD k 0 = 1 then 2 ^ k else 0) i) by unfold tb; exact Nat.testBit_or ..]
  rw [tb_mk, tb_mk, e, e]
  by_cases h : v.getD k 0 = 1
  · rw [if_pos h, tb_pow]
    by_cases hi : i < k
    · simp [hi, show i < k + 1 by omega, show ¬ k = i by omega]
    · by_cases hik : i = k
      · subst hik; have h' := h; simp only [List.getD_eq_getElem?_getD] at h'; simp [h']
      · simp [hi, show ¬ i < k + 1 by omega, show ¬ k = i by omega]
  · rw [if_neg h, tb_zero]
    by_cases hi : i < k
    · simp [hi, show i < k + 1 by omega]
    · by_cases hik : i = k
      · subst hik; have h' := h; simp only [List.getD_eq_getElem?_getD] at h'; simp [h']
      · simp [hi, show ¬ i < k + 1 by omega]

/-! ### the digits of a degree -/
def dmTo (xs : List Int) (d : Int) : Nat → Nat
  | 0 => 0
  | k + 1 => if xs.getD k 0 = d then orr (dmTo xs d k) (2 ^ k) else dmTo xs d k
def dmask (xs : List Int) (d : Int) : Nat := dmTo xs d xs.length
theorem tb_orr (a b i : Nat) : tb (orr a b) i = (tb a i || tb b i) := by unfold tb orr; exact Nat.testBit_or ..
theorem tb_dmTo (xs : List Int) (d : Int) : ∀ k i, tb (dmTo xs d k) i = (decide (i < k) && decide (xs.getD i 0 = d))
  | 0, i => by simp [dmTo, tb_zero]
  | k + 1, i => by
    unfold dmTo
    by_cases h : xs.getD k 0 = d
    · rw [if_pos h, tb_orr, tb_dmTo xs d k, tb_pow]
      by_cases hi : i < k
      · simp [hi, show i < k + 1 by omega, show ¬ k = i by omega]
      · by_cases hik : i = k
        · subst hik; have h' := h; simp only [List.getD_eq_getElem?_getD] at h'; simp [h']
        · simp [hi, show ¬ i < k + 1 by omega, show ¬ k = i by omega]
    · rw [if_neg h, tb_dmTo xs d k]
      by_cases hi : i < k
      · simp [hi, show i < k + 1 by omega]
      · by_cases hik : i = k
        · subst hik; have h' := h; simp only [List.getD_eq_getElem?_getD] at h'; simp [h']
        · simp [hi, show ¬ i < k + 1 by omega]
theorem tb_dmask (xs : List Int) (d : Int) (i : Nat) : tb (dmask xs d) i = (decide (i < xs.length) && decide (xs.getD i 0 = d)) := tb_dmTo xs d _ i
theorem dmTo_lt (xs : List Int) (d : Int) (k : Nat) : dmTo xs d k < 2 ^ k := lt_of_tb fun m hm => by rw [tb_dmTo]; simp; omega
theorem dmask_lt (xs : List Int) (d : Int) : dmask xs d < 2 ^ xs.length := dmTo_lt xs d _
/-- a without the digits of b -/
def nt (a b : Nat) : Nat := a ^^^ (a &&& b)
theorem tb_nt (a b i : Nat) : tb (nt a b) i = (tb a i && !tb b i) := by
  unfold tb nt
  rw [Nat.testBit_xor, Nat.testBit_and]
  cases a.testBit i <;> cases b.testBit i <;> rfl
theorem nt_lt {a b n : Nat} (ha : a < 2 ^ n) : nt a b < 2 ^ n := lt_of_tb fun m hm => by rw [tb_nt, tb_of_lt ha hm]; rfl
theorem nt_hom {xs : List Int} {d : Int} {v : Nat} : nt v (dmask xs d) = 0 ↔ Hom xs d v := by
  constructor
  · intro h c hc
    have := congrArg (fun z => tb z c) h
    simp only [tb_nt, tb_zero, hc, tb_dmask] at this
    simpa using this
  · intro h
    apply eq_of_tb
    intro c
    rw [tb_nt, tb_zero, tb_dmask]
    cases hc : tb v c with
    | false => rfl
    | true => obtain ⟨a, b⟩ := h c hc; rw [decide_eq_true a, decide_eq_true b]; rfl

/-! ### maps -/
structure MapP (xs : List Int) (Q : List (List Int)) (ys : List Int) (R P : List (List Int)) : Prop where
  len : P.length = xs.length
  vec : ∀ i, i < P.length → vecB ys.length (P.getD i []) = true
  hom : ∀ i, i < P.length → Hom ys (xs.getD i 0) (mk (P.getD i []))
  eqn : ∀ i, i < P.length → ∀ j : Nat, 1 ≤ j → j ≤ 20 → comb (P.map mk) 0 (act Q (j : Int) (2 ^ i)) = act R (j : Int) (mk (P.getD i []))
noncomputable def mapB (xs : List Int) (Q : List (List Int)) (ys : List Int) (R P : List (List Int)) : Bool := @decide (MapP xs Q ys R P) (Classical.propDecidable _)
theorem mapB_iff {xs : List Int} {Q : List (List Int)} {ys : List Int} {R P : List (List Int)} : mapB xs Q ys R P = true ↔ MapP xs Q ys R P := by unfold mapB; simp
theorem mapB_no {xs : List Int} {Q : List (List Int)} {ys : List Int} {R P : List (List Int)} (h : ¬ MapP xs Q ys R P) : mapB xs Q ys R P = false := by unfold mapB; simp [h]
theorem mapB_yes {xs : List Int} {Q : List (List Int)} {ys : List Int} {R P : List (List Int)} (h : MapP xs Q ys R P) : mapB xs Q ys R P = true := mapB_iff.2 h
theorem mks_getD {P : List (List Int)} {i : Nat} (h : i < P.length) : (P.map mk).getD i 0 = mk (P.getD i []) := by simp [List.getD, h]
theorem comb_lt {S : List Nat} {n : Nat} (h : ∀ r ∈ S, r < 2 ^ n) : ∀ i x, comb S i x < 2 ^ n := by
  induction S with
  | nil => intro i x; exact Nat.two_pow_pos _
  | cons r S ih =>
    intro i x
    simp only [comb]
    refine xr_lt ?_ (ih (fun s hs => h s (List.mem_cons_of_mem _ hs)) _ _)
    split
    · exact h r (List.mem_cons_self ..)
    · exact Nat.two_pow_pos _
theorem mks_lt {P : List (List Int)} {n : Nat} (h : ∀ i, i < P.length → vecB n (P.getD i []) = true) : ∀ r ∈ P.map mk, r < 2 ^ n := by
  intro r hr
  obtain ⟨p, hp, rfl⟩ := List.mem_map.1 hr
  obtain ⟨i, hi, rfl⟩ := List.getElem_of_mem hp
  have := h i hi
  simp only [List.getD, hi, List.getElem?_eq_getElem, Option.getD_some] at this
  exact (vec_bits this).2
end Go.Proofs.Ytocllmhkppkfoaa
