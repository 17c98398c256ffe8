/- FnExactSolveRows: the walk of the law (printed by mklaw.py) -/
import Derived.Test.YtchmplpgamekjaaDoorX
import Derived.Test.YtchmplpgamekjaaDoorLw
namespace Go.Proofs.YtchmplpgamekjaaDoor
open Go.RowKit

set_option maxRecDepth 100000 in
set_option maxHeartbeats 8000000 in
theorem lawSolv_main (c0 : Int) (A0 : Option Addr) (n0 cap0 : Nat) (xs0 : List Int) (a1 : Int) (w : World) (hT : Tab w) (hw : 0 < w.heap.size) (hn0 : n0 = xs0.length) (hR0 : Rd w A0 (iv xs0)) (hbig : n0 ≤ 1048576) :
    Calls Tryd.prog 7 #[.agg #[.int .i64 c0, .slice A0 n0 cap0], .int .i64 a1] w fun e w' => e = .returned (.bool true) ∧ Below w.heap.size w w' := by
  have hz0 := fun W => szMatrix_any c0 A0 n0 cap0 (1048576) W (by omega) (by omega) (by omega)
  rw [show szV n0 (1048576) = 1048576 - (n0 : Int) by unfold szV; rw [if_neg (by omega)]] at hz0
  have g0 : ¬ (1048576 - (n0 : Int) < 0) := by omega
  have hI := (Inv.start w).allocBox #[.int .i64 c0, .slice A0 n0 cap0] 24 rfl
  have I0 := Lib.hid hI
  have HZ0 := Lib.hid hz0
  have HR0 := Lib.hid hR0
  have Hn0 := Lib.hid hn0
  have HT := Lib.hid hT
  clear hI hT hz0 hR0 hn0
  go_enter Tryd.func7, Tryd.ntmps7
  go_wp2_with fail
  refine (HZ0.out _).mono ?_
  rintro e w1 ⟨rfl, hb⟩
  have I1 := Lib.hid (I0.out.step hb)
  clear hb
  obtain ⟨u_arg01, v_arg01, x_arg01, y_arg01, z_arg01⟩ := blk2cells (I1.out.box 0 rfl)
  go_wp2_with fail
  have LO_t0 := Lib.hid I1.out.size
  refine (toMatrix_any c0 A0 n0 cap0 xs0 _ Hn0.out (by omega) (HR0.out.below I1.out.bel)).mono ?_
  rintro e w2 ⟨g_1, rfl, ho, hb⟩
  have I2 := Lib.hid (I1.out.pushOwn hb ho rfl)
  clear ho hb
  clear u_arg01 v_arg01 x_arg01 y_arg01 z_arg01
  obtain ⟨u_arg02, v_arg02, x_arg02, y_arg02, z_arg02⟩ := blk2cells (I2.out.box 1 rfl)
  go_wp2_with fail
  refine (specSolv_any c0 _ n0 n0 xs0 a1 _ Hn0.out (by omega) (owns_Rd (I2.out.own 0 rfl))).mono ?_
  rintro e w3 ⟨rfl, hb⟩
  have I3 := Lib.hid (I2.out.step hb)
  clear hb
  generalize hrr : solvOf c0 xs0 a1 = rr at *
  have HRR := Lib.hid hrr
  clear hrr
  clear u_arg02 v_arg02 x_arg02 y_arg02 z_arg02
  obtain ⟨u_arg03, v_arg03, x_arg03, y_arg03, z_arg03⟩ := blk2cells (I3.out.box 1 rfl)
  go_wp2_with fail
  have LO_x0 := Lib.hid I3.out.size
  refine (toMatrix_any c0 A0 n0 cap0 xs0 _ Hn0.out (by omega) (HR0.out.below I3.out.bel)).mono ?_
  rintro e w4 ⟨g_2, rfl, ho, hb⟩
  have I4 := Lib.hid (I3.out.pushOwn hb ho rfl)
  clear ho hb
  clear u_arg03 v_arg03 x_arg03 y_arg03 z_arg03
  obtain ⟨u_arg04, v_arg04, x_arg04, y_arg04, z_arg04⟩ := blk2cells (I4.out.box 2 rfl)
  go_wp2_with fail
  have hI := I4.out.allocBox #[.int .i64 c0, .slice (some ⟨g_2, 0, none⟩) n0 n0] 28 rfl
  refine (implSolv_any c0 _ n0 n0 xs0 a1 _ (HT.out.below hI.bel hw) (by simp) Hn0.out (by omega) (owns_Rd (hI.own 1 rfl))).mono ?_
  rintro e w5 ⟨rfl, hb⟩
  rw [HRR.out]
  have I5 := Lib.hid (hI.step hb)
  clear hb hI
  clear u_arg04 v_arg04 x_arg04 y_arg04 z_arg04
  obtain ⟨u_arg05, v_arg05, x_arg05, y_arg05, z_arg05⟩ := blk2cells (I5.out.box 3 rfl)
  obtain ⟨u_bx05, v_bx05, x_bx05, y_bx05, z_bx05⟩ := blk2cells (I5.out.box 0 rfl)
  go_wp2_with fail
  have HKx := Lib.hid (two_keep (I5.out.box 0 rfl) (I5.out.box 3 rfl))
  go_region_held3 (fun w' => (w'.heap[w4.heap.size]? = some (.cells #[.int .i64 c0, .slice (some ⟨g_2, 0, none⟩) n0 n0] 28 (0, 0)) ∧ w'.heap[w.heap.size]? = some (.cells #[.int .i64 c0, .slice A0 n0 cap0] 24 (0, 0))) ∧ w'.cell? ⟨w4.heap.size, 0, none⟩ = some (.int .i64 c0) ∧ w'.cell? ⟨w4.heap.size, 1, none⟩ = some (.slice (some ⟨g_2, 0, none⟩) n0 n0) ∧ w'.cell? ⟨w.heap.size, 0, none⟩ = some (.int .i64 c0) ∧ w'.cell? ⟨w.heap.size, 1, none⟩ = some (.slice A0 n0 cap0))
      (first | (refine two_blks ?_; first | exact HKx.out _ (Below.drew (Below.refl _ _)) | exact HKx.out _ HY1.out | exact HKx.out _ HY2.out))
      (first
        | (go_at_call 17; (with_reducible refine (toMatrix_any c0 A0 n0 cap0 xs0 _ Hn0.out (by omega) (by exact HR0.out.below I5.out.drew.bel)).mono ?_); (rintro e y0_1 ⟨g_3, rfl, ho, hb⟩; have HY1 := Lib.hid ((Below.drew (Below.refl w5.heap.size w5)).trans hb); have I6 := Lib.hid (Inv.pushOwn I5.out.drew hb ho rfl); clear ho hb))
        | (go_at_call 19; (with_reducible refine (eqMatrix_any c0 c0 _ _ n0 n0 n0 n0 xs0 xs0 _ Hn0.out Hn0.out (by omega) (by omega) (by exact owns_Rd (I6.out.own 2 rfl)) (by exact owns_Rd (I6.out.own 0 rfl))).mono ?_); (rintro e y0_2 ⟨rfl, hb⟩; have HY2 := Lib.hid (HY1.out.trans (hb.mono HY1.out.size)); have I7 := Lib.hid (I6.out.step hb); clear hb)))
  rw [eqMat_self]
  clear HKx HY1 HY2
  go_wp2_with fail
  go_ret
  exact ⟨rfl, I7.out.bel⟩

set_option maxRecDepth 100000 in
set_option maxHeartbeats 1000000 in
theorem lawSolv_any (c0 : Int) (A0 : Option Addr) (n0 cap0 : Nat) (xs0 : List Int) (a1 : Int) (w : World) (hT : Tab w) (hw : 0 < w.heap.size) (hn0 : n0 = xs0.length) (hR0 : Rd w A0 (iv xs0)) (hs0 : n0 ≤ 9223372036854775807) :
    Calls Tryd.prog 7 #[.agg #[.int .i64 c0, .slice A0 n0 cap0], .int .i64 a1] w fun e w' => e = .returned (.bool true) ∧ Below w.heap.size w w' := by
  by_cases hbig : n0 ≤ 1048576
  · exact lawSolv_main c0 A0 n0 cap0 xs0 a1 w hT hw hn0 hR0 hbig
  · have hI := (Inv.start w).allocBox #[.int .i64 c0, .slice A0 n0 cap0] 24 rfl
    have I0 := Lib.hid hI
    have hz := fun W => szMatrix_any c0 A0 n0 cap0 1048576 W hs0 (by omega) (by omega)
    rw [szV_neg (by omega)] at hz
    have HZ := Lib.hid hz
    clear hz hI hT hn0 hR0 hbig
    go_enter Tryd.func7, Tryd.ntmps7
    go_wp2_with fail
    refine (HZ.out _).mono ?_
    rintro e wa ⟨rfl, hb⟩
    have I1 := Lib.hid (I0.out.step hb)
    clear hb
    go_wp2_with fail
    go_ret
    exact ⟨rfl, I1.out.bel⟩
end Go.Proofs.YtchmplpgamekjaaDoor
