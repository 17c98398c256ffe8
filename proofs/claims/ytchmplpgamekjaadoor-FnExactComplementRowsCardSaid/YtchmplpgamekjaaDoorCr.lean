/- FnExactComplementRows: every argument -/
import Derived.Test.YtchmplpgamekjaaDoorW
namespace Go.Proofs.YtchmplpgamekjaaDoor
open Go.RowKit

set_option maxRecDepth 100000 in
set_option maxHeartbeats 1000000 in
theorem lawComp_any (c c' : Int) (A A' : Option Addr) (n n' cap cap' : Nat) (xs ys : List Int) (w : World) (hT : Tab w) (hw : 0 < w.heap.size) (hn : n = xs.length) (hn' : n' = ys.length) (hsm : n ≤ 9223372036854775807) (hsm' : n' ≤ 9223372036854775807) (hR : Rd w A (iv xs)) (hR' : Rd w A' (iv ys)) :
    Calls Tryd.prog 6 #[.agg #[.int .i64 c, .slice A n cap], .agg #[.int .i64 c', .slice A' n' cap']] w fun e w' => e = .returned (.bool true) ∧ Below w.heap.size w w' := by
  by_cases hbig : n + n' ≤ 1048576
  · exact lawComp_main c c' A A' n n' cap cap' xs ys w hT hw hn hn' hbig hR hR'
  · have hI := ((Inv.start w).allocBox #[.int .i64 c, .slice A n cap] 24 rfl).allocBox #[.int .i64 c', .slice A' n' cap'] 24 rfl
    rw [show (w.alloc (.cells #[.int .i64 c, .slice A n cap] 24)).heap.size = w.heap.size + 1 by simp] at hI
    have hz := fun W => szMatrix_any c A n cap 1048576 W hsm (by omega) (by omega)
    have I0 := Lib.hid hI
    by_cases h1 : n ≤ 1048576
    · have hz' := fun W => szMatrix_any c' A' n' cap' (1048576 - n) W hsm' (by omega) (by omega)
      rw [szV_pos h1] at hz
      rw [show szV n' (1048576 - (n : Int)) = -1 by unfold szV; rw [if_pos (by omega)]] at hz'
      have HZ := Lib.hid hz
      have HZ' := Lib.hid hz'
      have g1 : ¬ (1048576 - (n : Int) < 0) := by omega
      clear hz hz' hI hR hR' hT hn hn' hbig
      go_enter Tryd.func6, Tryd.ntmps6
      go_wp2_with fail
      refine (HZ.out _).mono ?_
      rintro e wa ⟨rfl, hb⟩
      have I1 := Lib.hid (I0.out.step hb)
      obtain ⟨a0, a1, _, _, _⟩ := blk2cells (I1.out.box 0 rfl)
      clear hb
      go_wp2_with fail
      refine (HZ'.out _).mono ?_
      rintro e wb ⟨rfl, hb⟩
      have I2 := Lib.hid (I1.out.step hb)
      clear hb
      go_wp2_with fail
      go_ret
      exact ⟨rfl, I2.out.bel⟩
    · rw [szV_neg h1] at hz
      have HZ := Lib.hid hz
      clear hz hI hR hR' hT hn hn' hbig
      go_enter Tryd.func6, Tryd.ntmps6
      go_wp2_with fail
      refine (HZ.out _).mono ?_
      rintro e wa ⟨rfl, hb⟩
      have I1 := Lib.hid (I0.out.step hb)
      clear hb
      go_wp2_with fail
      go_ret
      exact ⟨rfl, I1.out.bel⟩
end Go.Proofs.YtchmplpgamekjaaDoor
