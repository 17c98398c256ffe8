/- the laws' marks: markInt64S, heldInt64S, markMatrix, heldMatrix -/
import Derived.Test.YtocllmhkppkfoaaL
namespace Go.Proofs.Ytocllmhkppkfoaa
open Go.RowKit

/-- what a mark leaves in a slice of n elements -/
def marks (k : Int) (n : Nat) : List Int := (List.range n).map fun (i : Nat) => k + (i : Int)
theorem marks_length (k : Int) (n : Nat) : (marks k n).length = n := by simp [marks]
theorem marks_getD (k : Int) (n j : Nat) (h : j < n) : (marks k n).getD j 0 = k + j := by simp [marks, List.getD, h]

set_option maxHeartbeats 1000000 in
theorem markInts_any (B : Nat) (v : Value) (n : Nat) (xs : List Int) (k : Int) (w : World) (hown : w.ownsRow B 2 1 v n (iv xs)) (hsm : n ≤ 1099511627776) (h0 : 0 ≤ k) (h1 : k ≤ 1099511627776) :
    Calls Try.prog 16 #[v, .int .i64 k] w fun e w' => e = .returned (.int .i64 (k + n)) ∧ w'.ownsRow B 2 1 v n (iv (marks k n)) ∧ Keeps w w' [v.ownBlock] := by
  have hlx : xs.length = n := by have := hown.1; simpa [iv] using this
  obtain ⟨A, c, rfl, _, hA, _⟩ := owns_shape hown
  have HO := Lib.hid hown
  have HX := Lib.hid hlx
  have HA := Lib.hid hA
  clear hown hlx hA
  go_enter Try.func16, Try.ntmps16
  go_wp2_with fail
  go_loopw [1, 5] (fun q i wr => ∃ j : Nat, j ≤ n ∧ i = .int .i64 j ∧ q = .int .i64 (k + j) ∧ (∃ ys : List Int, ys.length = n ∧ ys.take j = (marks k n).take j ∧ wr.ownsRow B 2 1 (.slice A n c) n (iv ys)) ∧ Keeps w wr [(Value.slice A n c).ownBlock]) (fun _ i _ => n - (intOf i).toNat)
  case atStart => exact ⟨0, by omega, rfl, by simp, ⟨xs, HX.out, by simp, HO.out⟩, Keeps.refl w _⟩
  case round =>
    obtain ⟨j, hj, rfl, rfl, ⟨ys, hyl, hyt, hown⟩, hkp⟩ := hrel
    by_cases hlt : j < n
    · obtain ⟨g, rfl, _, _⟩ := HA.out (by omega)
      have hcell : wr.cell? ⟨g, j, none⟩ = some (.int .i64 (ys.getD j 0)) := by
        rw [hown.cellAt j (by omega)]; simp [iv, List.getD, show j < ys.length by omega]
      have hfz := hown.frozenAt j
      have ht := take_set_succ (ys := ys) (xs := marks k n) (k := j) (by omega) (by rw [marks_length]; exact hlt) hyt
      rw [marks_getD k n j hlt] at ht
      generalize ys.getD j 0 = y at *
      have HT := Lib.hid ht
      have HO' := Lib.hid hown
      have HK := Lib.hid hkp
      have HY := Lib.hid hyl
      clear ht hown hkp hyl hyt
      go_wp2_with fail
      go_roundw
      case rel =>
        refine ⟨j + 1, by omega, by go_num, by simp; omega, ⟨ys.set j (k + j), by rw [List.length_set]; exact HY.out, HT.out, ?_⟩, HK.out.setCell (p := ⟨g, j, none⟩) (by simp [Value.ownBlock]) _⟩
        rw [iv_set]; exact (World.ownsRow.stored HO'.out j _).1
      case measure => simp [intOf]; omega
    · have ej : j = n := by omega
      subst ej
      have e : ys = marks k j := by
        rw [List.take_of_length_le (by omega), List.take_of_length_le (by rw [marks_length]; omega)] at hyt; exact hyt
      rw [e] at hown
      have HO' := Lib.hid hown
      have HK := Lib.hid hkp
      clear hown hkp e hyt hyl
      go_wp2_with fail
      go_ret
      exact ⟨rfl, HO'.out, HK.out⟩

set_option maxHeartbeats 1000000 in
theorem heldInts_any (A : Option Addr) (n c : Nat) (k : Int) (w : World) (hR : Rd w A (iv (marks k n))) (hsm : n ≤ 1099511627776) (h0 : 0 ≤ k) (h1 : k ≤ 1099511627776) :
    Calls Try.prog 17 #[.slice A n c, .int .i64 k] w fun e w' => e = .returned (.int .i64 (k + n)) ∧ w = w' := by
  have HR := Lib.hid hR
  clear hR
  go_enter Try.func17, Try.ntmps17
  go_wp2_with fail
  go_loop [1, 5] (fun q i => ∃ j : Nat, j ≤ n ∧ i = .int .i64 j ∧ q = .int .i64 (k + j)) (fun _ i => n - (intOf i).toNat)
  case atStart => exact ⟨0, by omega, rfl, by simp⟩
  case round =>
    obtain ⟨j, hj, rfl, rfl⟩ := hrel
    by_cases hlt : j < n
    · obtain ⟨b, o, rfl, hc⟩ := HR.out.atI (k := j) (by rw [marks_length]; exact hlt)
      rw [marks_getD k n j hlt] at hc
      go_wp2_with fail
      go_round
      case rel => exact ⟨j + 1, by omega, by go_num, by simp; omega⟩
      case measure => simp [intOf]; omega
    · have ej : j = n := by omega
      subst ej
      go_wp2_with fail
      go_ret
      exact ⟨rfl, rfl⟩

end Go.Proofs.Ytocllmhkppkfoaa
