/- TopElement: what it answers (no program in sight) -/
import Derived.Test.YtocllmhkppkfoaaD
namespace Go.Proofs.Ytocllmhkppkfoaa
open Go.RowKit

def profB (xs : List Int) : Bool := decide (xs.length ≤ 16) && xs.all fun x => inB x 0 10
def atP (xs : List Int) (i : Nat) : Int := if xs.length < i then 0 else xs.getD (i - 1) 0
def clAt (xs : List Int) (i j : Nat) : Bool := !decide (atP xs (i + j + 2) < min (atP xs (j + 1)) (atP xs (i + 1) - ((j : Int) + 1)))
def closedB (xs : List Int) : Bool := (List.range xs.length).all fun i => (List.range xs.length).all fun j => clAt xs i j
def exps (xs : List Int) : List Int := xs.map fun x => 2 ^ x.toNat - 1
def trimN (ys : List Int) : Nat → Nat
  | 0 => 0
  | n + 1 => if ys.getD n 0 = 0 then trimN ys n else n + 1
def trimL (ys : List Int) : List Int := ys.take (trimN ys ys.length)
def degK (ys : List Int) : Nat → Int
  | 0 => 0
  | k + 1 => degK ys k + ys.getD k 0 * (2 ^ (k + 1) - 1)
def degP (ys : List Int) : Int := degK ys ys.length
def topL (xs : List Int) : List Int := trimL (exps xs)
def topR (xs : List Int) : List Int × Int :=
  if profB xs = true then (if closedB xs = true then (if degP (topL xs) ≤ 40 then (topL xs, 0) else ([], 3)) else ([], 5)) else ([], 1)
def topElementOf (xs : List Int) : List (List Int) × Int := if (topR xs).2 = 0 then ([(topR xs).1], 0) else ([], (topR xs).2)
theorem profB_iff (xs : List Int) : profB xs = true ↔ xs.length ≤ 16 ∧ ∀ t, t < xs.length → inB (xs.getD t 0) 0 10 = true := by
  unfold profB
  rw [Bool.and_eq_true, decide_eq_true_eq, all_getD]
theorem prof_get {xs : List Int} (h : profB xs = true) (k : Nat) : 0 ≤ xs.getD k 0 ∧ xs.getD k 0 ≤ 10 := by
  by_cases hk : k < xs.length
  · exact inB_true2 (((profB_iff xs).1 h).2 k hk)
  · have : xs.getD k 0 = 0 := by simp [List.getD, show xs[k]? = none from List.getElem?_eq_none (by omega)]
    rw [this]; omega
theorem atP_bd {xs : List Int} (h : profB xs = true) (i : Nat) : 0 ≤ atP xs i ∧ atP xs i ≤ 10 := by
  unfold atP
  split
  · omega
  · exact prof_get h _
theorem closedB_iff (xs : List Int) : closedB xs = true ↔ ∀ i, i < xs.length → ∀ j, j < xs.length → clAt xs i j = true := by
  unfold closedB
  simp only [List.all_eq_true, List.mem_range]
theorem exps_length (xs : List Int) : (exps xs).length = xs.length := by simp [exps]
theorem exps_getD (xs : List Int) {k : Nat} (hk : k < xs.length) : (exps xs).getD k 0 = 2 ^ (xs.getD k 0).toNat - 1 := by simp [exps, List.getD, hk]
theorem trimN_le (ys : List Int) (n : Nat) : trimN ys n ≤ n := by
  induction n with
  | zero => exact Nat.le_refl _
  | succ n ih => unfold trimN; split <;> omega
theorem topL_len (xs : List Int) : (topL xs).length ≤ xs.length := by
  unfold topL trimL
  rw [List.length_take, exps_length]; omega
theorem pow10 {d : Nat} (h : d ≤ 10) : (1 : Int) ≤ 2 ^ d ∧ (2 : Int) ^ d ≤ 1024 := by
  have h1 : 2 ^ d ≤ 2 ^ 10 := Nat.pow_le_pow_right (by omega) h
  have h2 : 1 ≤ 2 ^ d := Nat.one_le_two_pow
  have h3 : ((2 ^ d : Nat) : Int) = (2 : Int) ^ d := by rw [Int.natCast_pow]; rfl
  rw [← h3]; omega
theorem pow16 {d : Nat} (h : d ≤ 16) : (1 : Int) ≤ 2 ^ d ∧ (2 : Int) ^ d ≤ 65536 := by
  have h1 : 2 ^ d ≤ 2 ^ 16 := Nat.pow_le_pow_right (by omega) h
  have h2 : 1 ≤ 2 ^ d := Nat.one_le_two_pow
  have h3 : ((2 ^ d : Nat) : Int) = (2 : Int) ^ d := by rw [Int.natCast_pow]; rfl
  rw [← h3]; omega
theorem topL_bd {xs : List Int} (h : profB xs = true) (k : Nat) : 0 ≤ (topL xs).getD k 0 ∧ (topL xs).getD k 0 ≤ 1023 := by
  by_cases hk : k < (topL xs).length
  · have hk' : k < xs.length := Nat.lt_of_lt_of_le hk (topL_len xs)
    have e : (topL xs).getD k 0 = (exps xs).getD k 0 := by
      unfold topL trimL at hk ⊢
      rw [List.length_take] at hk
      simp [List.getD, List.getElem?_take, show k < trimN (exps xs) (exps xs).length by omega]
    rw [e, exps_getD xs hk']
    have hb := prof_get h k
    have := pow10 (d := (xs.getD k 0).toNat) (by omega)
    omega
  · have : (topL xs).getD k 0 = 0 := by simp [List.getD, show (topL xs)[k]? = none from List.getElem?_eq_none (by omega)]
    rw [this]; omega
theorem mul_bd {x p : Int} (h1 : 0 ≤ x) (h2 : x ≤ 1023) (h3 : 0 ≤ p) (h4 : p ≤ 65535) : 0 ≤ x * p ∧ x * p ≤ 67042305 := by
  refine ⟨Int.mul_nonneg h1 h3, ?_⟩
  have := Int.mul_le_mul h2 h4 h3 (by omega)
  omega
theorem degK_bd {xs : List Int} (h : profB xs = true) : ∀ k, k ≤ 16 → 0 ≤ degK (topL xs) k ∧ degK (topL xs) k ≤ 67042305 * k := by
  intro k
  induction k with
  | zero => intro _; simp [degK]
  | succ k ih =>
    intro hk
    have h1 := ih (by omega)
    have h2 := topL_bd h k
    have h3 := pow16 (d := k + 1) hk
    have h4 := mul_bd h2.1 h2.2 (p := 2 ^ (k + 1) - 1) (by omega) (by omega)
    unfold degK
    omega
theorem topR_len (xs : List Int) : (topR xs).1.length ≤ 1000 := by
  unfold topR
  split
  · rename_i h
    split
    · split
      · have h1 := ((profB_iff xs).1 h).1
        have h2 := topL_len xs
        simp only; omega
      · simp
    · simp
  · simp
theorem topElementOf_len (xs : List Int) : (topElementOf xs).1.length ≤ 1000 ∧ ∀ x ∈ (topElementOf xs).1, x.length ≤ 1000 := by
  unfold topElementOf
  split
  · refine ⟨by simp, fun x hx => ?_⟩
    obtain rfl := List.mem_singleton.1 hx
    exact topR_len xs
  · simp
end Go.Proofs.Ytocllmhkppkfoaa
