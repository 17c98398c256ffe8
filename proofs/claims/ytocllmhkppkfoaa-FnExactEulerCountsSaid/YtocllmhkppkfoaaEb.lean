/- EulerCounts: what it answers (no program in sight) -/
import Derived.Test.YtocllmhkppkfoaaEa
import Derived.Test.YtocllmhkppkfoaaRw
namespace Go.Proofs.Ytocllmhkppkfoaa
open Go.RowKit

def euM (L : List Row) : Nat := (rg L 0).xs.length
def euRow (L : List Row) (m k : Nat) : Prop := (rg L k).xs.length = m ∧ ∀ t, t < m → inB ((rg L k).xs.getD t 0) 0 1000 = true
instance (L : List Row) (m k : Nat) : Decidable (euRow L m k) := by unfold euRow; infer_instance
def euOk (L : List Row) : Prop := 1 ≤ L.length ∧ L.length ≤ 5 ∧ 1 ≤ euM L ∧ euM L ≤ 15 ∧ ∀ k, k < L.length → euRow L (euM L) k
instance (L : List Row) : Decidable (euOk L) := by unfold euOk; infer_instance
def euStep (k : Nat) (y x c : Int) : Int := wrap64 (y + if k % 2 = 1 then -(x * c) else x * c)
def euP (L : List Row) (k t : Nat) (y : Int) : Nat → Int
  | 0 => y
  | u + 1 => euStep k (euP L k t y u) ((rg L k).xs.getD u 0) (cnt14.getD (t - u) 0)
def euE (L : List Row) : Nat → Nat → Int
  | 0, _ => 0
  | k + 1, t => euP L k t (euE L k t) (t + 1)
def eulerOf (L : List Row) : List Int × Int := if euOk L then ((List.range (euM L)).map (euE L L.length), 0) else ([], 2)
theorem eulerOf_ok {L : List Row} (h : euOk L) : eulerOf L = ((List.range (euM L)).map (euE L L.length), 0) := by unfold eulerOf; rw [if_pos h]
theorem eulerOf_not {L : List Row} (h : ¬ euOk L) : eulerOf L = ([], 2) := by unfold eulerOf; rw [if_neg h]
theorem eulerOf_len (L : List Row) : (eulerOf L).1.length ≤ 1000 := by
  unfold eulerOf
  split
  · rename_i h; have := h.2.2.2.1; simp; omega
  · simp
theorem euP_succ (L : List Row) (k t : Nat) (y : Int) (u : Nat) : euP L k t y (u + 1) = euStep k (euP L k t y u) ((rg L k).xs.getD u 0) (cnt14.getD (t - u) 0) := rfl
theorem euE_succ (L : List Row) (k t : Nat) : euE L (k + 1) t = euP L k t (euE L k t) (t + 1) := rfl
theorem prod_bd {x c : Int} (h1 : 0 ≤ x) (h2 : x ≤ 1000) (h3 : 0 ≤ c) (h4 : c ≤ 1000) : 0 ≤ x * c ∧ x * c ≤ 1000000 := by
  refine ⟨Int.mul_nonneg h1 h3, ?_⟩
  have := Int.mul_le_mul h2 h4 h3 (by omega)
  omega

/-- the sums when lists 0 .. k-1 are done, of list k the places below t, and of place t the first u products -/
def EuS (L : List Row) (m k t u : Nat) (ys : List Int) : Prop :=
  ys.length = m ∧ ∀ i, i < m → ys.getD i 0 = if i = t then euP L k t (euE L k t) u else if i < t then euE L (k + 1) i else euE L k i
section
variable {L : List Row} {m k t u : Nat} {ys : List Int}
theorem EuS.start (L : List Row) (m : Nat) : EuS L m 0 0 0 (List.replicate m 0) := by
  refine ⟨by simp, fun i hi => ?_⟩
  have : (List.replicate m (0 : Int)).getD i 0 = 0 := by simp [List.getD, hi]
  rw [this]
  split
  · rfl
  · rw [if_neg (by omega)]; rfl
theorem EuS.step (h : EuS L m k t u ys) (ht : t < m) : EuS L m k t (u + 1) (ys.set t (euStep k (ys.getD t 0) ((rg L k).xs.getD u 0) (cnt14.getD (t - u) 0))) := by
  refine ⟨by rw [List.length_set]; exact h.1, fun i hi => ?_⟩
  have h1 := h.2 i hi
  have h2 := h.2 t ht
  rw [if_pos rfl] at h2
  by_cases e : i = t
  · subst e
    rw [if_pos rfl, euP_succ, h2]
    simp [List.getD, h.1, hi]
  · rw [if_neg e] at h1 ⊢
    rw [← h1]
    simp [List.getD, List.getElem?_set, Ne.symm e]
theorem EuS.next (h : EuS L m k t (t + 1) ys) : EuS L m k (t + 1) 0 ys := by
  refine ⟨h.1, fun i hi => ?_⟩
  rw [h.2 i hi]
  by_cases e : i = t
  · subst e; rw [if_pos rfl, if_neg (by omega), if_pos (by omega)]; rfl
  · rw [if_neg e]
    by_cases e2 : i = t + 1
    · subst e2; rw [if_neg (by omega), if_pos rfl]; rfl
    · rw [if_neg e2]
      by_cases e3 : i < t
      · rw [if_pos e3, if_pos (by omega)]
      · rw [if_neg e3, if_neg (by omega)]
theorem EuS.row (h : EuS L m k m 0 ys) : EuS L m (k + 1) 0 0 ys := by
  refine ⟨h.1, fun i hi => ?_⟩
  rw [h.2 i hi, if_neg (by omega), if_pos hi]
  split
  · rename_i e; subst e; rfl
  · rw [if_neg (by omega)]
theorem EuS.all (h : EuS L m k 0 0 ys) : ys = (List.range m).map (euE L k) := by
  apply List.ext_getElem (by simp [h.1])
  intro i h1 h2
  have hi : i < m := by rw [← h.1]; exact h1
  have := h.2 i hi
  simp only [List.getD, List.getElem?_eq_getElem h1, Option.getD_some] at this
  rw [this]
  simp only [List.getElem_map, List.getElem_range]
  split
  · rename_i e; subst e; rfl
  · rw [if_neg (by omega)]
end
section
variable {L M : List Row}
theorem euP_dat (h : ∀ i, (rg M i).xs = (rg L i).xs) (k t : Nat) (y : Int) (u : Nat) : euP M k t y u = euP L k t y u := by
  induction u with
  | zero => rfl
  | succ u ih => rw [euP_succ, euP_succ, ih, h]
theorem euE_dat (h : ∀ i, (rg M i).xs = (rg L i).xs) (k t : Nat) : euE M k t = euE L k t := by
  induction k generalizing t with
  | zero => rfl
  | succ k ih => rw [euE_succ, euE_succ, ih, euP_dat h]
theorem eulerOf_dat (hd : dat M = dat L) : eulerOf M = eulerOf L := by
  obtain ⟨hl, h⟩ := dat_xs hd
  have hM : euM M = euM L := by unfold euM; rw [h]
  have hO : euOk M ↔ euOk L := by unfold euOk euRow; simp only [hM, hl, h]
  have hE : euE M M.length = euE L L.length := by rw [hl]; exact funext (euE_dat h L.length)
  unfold eulerOf
  by_cases h1 : euOk L
  · rw [if_pos h1, if_pos (hO.2 h1), hM, hE]
  · rw [if_neg h1, if_neg (fun h2 => h1 (hO.1 h2))]
end
end Go.Proofs.Ytocllmhkppkfoaa
