/- the reference's l11Shape -/
import Derived.Test.YtnffpjdlpjkioaaBxac
set_option linter.all false
namespace Go.Proofs.Ytnffpjdlpjkioaa
open Go.RowKit

noncomputable def shpB (xs : List Int) (Q : List (List Int)) : Bool := @decide (Shp xs Q) (Classical.propDecidable _)
theorem shpB_true {xs : List Int} {Q : List (List Int)} (h : Shp xs Q) : shpB xs Q = true := by unfold shpB; simp [h]
theorem shpB_false {xs : List Int} {Q : List (List Int)} (h : ¬ Shp xs Q) : shpB xs Q = false := by unfold shpB; simp [h]
theorem ascB_iff {Q : List (List Int)} : ascB Q = true ↔ AscP Q := by unfold ascB; simp
theorem inB_eq_true {n lo hi : Int} (h1 : lo ≤ n) (h2 : n ≤ hi) : inB n lo hi = true := by simp [inB, h1, h2]
theorem inB_not {n lo hi : Int} (h : inB n lo hi = false) : ¬ (lo ≤ n ∧ n ≤ hi) := fun h' => by rw [inB_eq_true h'.1 h'.2] at h; cases h

end Go.Proofs.Ytnffpjdlpjkioaa
