/- FnExactKernelOf: the walk of the law (printed by mklaw.py) -/
import Derived.Test.YtchmplpgamekjaaDoorX
import Derived.Test.YtchmplpgamekjaaDoorKd
namespace Go.Proofs.YtchmplpgamekjaaDoor
open Go.RowKit

set_option maxRecDepth 100000 in
set_option maxHeartbeats 8000000 in
theorem lawKer_main (c0 : Int) (A0 : Option Addr) (n0 cap0 : Nat) (xs0 : List Int) (w : World) (hT : Tab w) (hw : 0 < w.heap.size) (hn0 : n0 = xs0.length) (hR0 : Rd w A0 (iv xs0)) (hbig : n0 ≤ 1048576) :
    Calls Tryd.prog 10 #[.agg #[.int .i64 c0, .slice A0 n0 cap0]] w fun e w' => e = .returned (.bool true) ∧ Below w.heap.size w w' := by
  have hz0 := fun W => szMatrix_any c0 A0 n0 cap0 (1048576) W (by omega) (by omega) (by omega)
  rw [show szV n0 (1048576) = 1048576 - (n0 : Int) by unfold szV; rw [if_neg (by omega)]] at hz0
  have g0 : ¬ (1048576 - (n0 : Int) < 0) := by omega
  have hI := (Inv.start w).allocBox #[.int .i64 c0, .slice A0 n0 cap0] 24 rfl
  have I0 := Lib.hid hI
  have HZ0 := Lib.hid hz0
  have HR0 := Lib.hid hR0
  have Hn0 := Lib.hid hn0
  have HT := Lib.hid hT
  clear hI hT hz0 hR0 hn0
  go_enter Tryd.func10, Tryd.ntmps10
  go_wp2_with fail
  refine (HZ0.out _).mono ?_
  rintro e w1 ⟨rfl, hb⟩
  have I1 := Lib.hid (I0.out.step hb)
  clear hb
  obtain ⟨u_arg01, v_arg01, x_arg01, y_arg01, z_arg01⟩ := blk2cells (I1.out.box 0 rfl)
  go_wp2_with fail
  have LO_t0 := Lib.hid I1.out.size
  refine (toMatrix_any c0 A0 n0 cap0 xs0 _ Hn0.out (by omega) (HR0.out.below I1.out.bel)).mono ?_
  rintro e w2 ⟨g_1, rfl, ho, hb⟩
  have I2 := Lib.hid (I1.out.pushOwn hb ho rfl)
  clear ho hb
  clear u_arg01 v_arg01 x_arg01 y_arg01 z_arg01
  obtain ⟨u_arg02, v_arg02, x_arg02, y_arg02, z_arg02⟩ := blk2cells (I2.out.box 1 rfl)
  go_wp2_with fail
  refine (specKer_any c0 _ n0 n0 xs0 _ Hn0.out (by omega) (owns_Rd (I2.out.own 0 rfl))).mono ?_
  rintro e w3 ⟨v_spec, rfl, ho, hb⟩
  have I3 := Lib.hid (I2.out.pushOwn hb ho rfl)
  clear ho hb
  obtain ⟨A_spec, k_spec, rfl, _, _, _⟩ := owns_shape (I3.out.own 0 rfl)
  generalize hrr : kerOf c0 xs0 = rr at *
  have HRR := Lib.hid hrr
  have hlen : rr.2.1.length ≤ 1000 := by rw [← hrr]; exact kerOf_len c0 xs0
  clear hrr
  clear u_arg02 v_arg02 x_arg02 y_arg02 z_arg02
  obtain ⟨u_arg03, v_arg03, x_arg03, y_arg03, z_arg03⟩ := blk2cells (I3.out.box 2 rfl)
  go_wp2_with fail
  have hI := I3.out.allocBox #[.int .i64 rr.1, .slice A_spec rr.2.1.length k_spec] 28 rfl
  have LO_x0 := Lib.hid hI.size
  refine (toMatrix_any c0 A0 n0 cap0 xs0 _ Hn0.out (by omega) (HR0.out.below hI.bel)).mono ?_
  rintro e w4 ⟨g_2, rfl, ho, hb⟩
  have I4 := Lib.hid (hI.pushOwn hb ho rfl)
  clear ho hb
  clear u_arg03 v_arg03 x_arg03 y_arg03 z_arg03
  obtain ⟨u_arg04, v_arg04, x_arg04, y_arg04, z_arg04⟩ := blk2cells (I4.out.box 4 rfl)
  clear hI
  go_wp2_with fail
  have hI := I4.out.allocBox #[.int .i64 c0, .slice (some ⟨g_2, 0, none⟩) n0 n0] 28 rfl
  refine (implKer_any c0 _ n0 n0 xs0 _ (HT.out.below hI.bel hw) (by simp) Hn0.out (by omega) (owns_Rd (hI.own 1 rfl))).mono ?_
  rintro e w5 ⟨v_g, rfl, ho, hb⟩
  rw [HRR.out] at ho ⊢
  have LO_own_g := Lib.hid hI.size
  have I5 := Lib.hid (hI.pushOwn hb ho rfl)
  clear ho hb hI
  obtain ⟨A_g, k_g, rfl, _, _, _⟩ := owns_shape (I5.out.own 0 rfl)
  clear u_arg04 v_arg04 x_arg04 y_arg04 z_arg04
  obtain ⟨u_arg05, v_arg05, x_arg05, y_arg05, z_arg05⟩ := blk2cells (I5.out.box 6 rfl)
  obtain ⟨u_bx05, v_bx05, x_bx05, y_bx05, z_bx05⟩ := blk2cells (I5.out.box 1 rfl)
  obtain ⟨u_box_spec5, v_box_spec5, x_box_spec5, y_box_spec5, z_box_spec5⟩ := blk2cells (I5.out.box 3 rfl)
  go_wp2_with fail
  have hI := I5.out.allocBox #[.int .i64 rr.1, .slice A_g rr.2.1.length k_g] 28 rfl
  refine (eqMatrix_same rr.1 _ _ _ _ rr.2.1 _ (by omega) (owns_Rd (hI.own 1 rfl)) (owns_Rd (hI.own 5 rfl))).mono ?_
  rintro e w6 ⟨rfl, hb⟩
  have I6 := Lib.hid (hI.step hb)
  clear hb hI
  clear u_arg05 v_arg05 x_arg05 y_arg05 z_arg05 u_bx05 v_bx05 x_bx05 y_bx05 z_bx05 u_box_spec5 v_box_spec5 x_box_spec5 y_box_spec5 z_box_spec5
  obtain ⟨u_arg06, v_arg06, x_arg06, y_arg06, z_arg06⟩ := blk2cells (I6.out.box 7 rfl)
  obtain ⟨u_bx06, v_bx06, x_bx06, y_bx06, z_bx06⟩ := blk2cells (I6.out.box 2 rfl)
  obtain ⟨u_box_spec6, v_box_spec6, x_box_spec6, y_box_spec6, z_box_spec6⟩ := blk2cells (I6.out.box 4 rfl)
  obtain ⟨u_box_g6, v_box_g6, x_box_g6, y_box_g6, z_box_g6⟩ := blk2cells (I6.out.box 0 rfl)
  go_wp2_with fail
  have HKx := Lib.hid (two_keep (I6.out.box 2 rfl) (I6.out.box 7 rfl))
  go_region_held3 (fun w' => (w'.heap[w4.heap.size]? = some (.cells #[.int .i64 c0, .slice (some ⟨g_2, 0, none⟩) n0 n0] 28 (0, 0)) ∧ w'.heap[w.heap.size]? = some (.cells #[.int .i64 c0, .slice A0 n0 cap0] 24 (0, 0))) ∧ w'.cell? ⟨w4.heap.size, 0, none⟩ = some (.int .i64 c0) ∧ w'.cell? ⟨w4.heap.size, 1, none⟩ = some (.slice (some ⟨g_2, 0, none⟩) n0 n0) ∧ w'.cell? ⟨w.heap.size, 0, none⟩ = some (.int .i64 c0) ∧ w'.cell? ⟨w.heap.size, 1, none⟩ = some (.slice A0 n0 cap0))
      (first | (refine two_blks ?_; first | exact HKx.out _ (Below.drew (Below.refl _ _)) | exact HKx.out _ HY1.out | exact HKx.out _ HY2.out))
      (first
        | (go_at_call 17; (with_reducible refine (toMatrix_any c0 A0 n0 cap0 xs0 _ Hn0.out (by omega) (by exact HR0.out.below I6.out.drew.bel)).mono ?_); (rintro e y0_1 ⟨g_3, rfl, ho, hb⟩; have HY1 := Lib.hid ((Below.drew (Below.refl w6.heap.size w6)).trans hb); have I7 := Lib.hid (Inv.pushOwn I6.out.drew hb ho rfl); clear ho hb))
        | (go_at_call 19; (with_reducible refine (eqMatrix_any c0 c0 _ _ n0 n0 n0 n0 xs0 xs0 _ Hn0.out Hn0.out (by omega) (by omega) (by exact owns_Rd (I7.out.own 4 rfl)) (by exact owns_Rd (I7.out.own 0 rfl))).mono ?_); (rintro e y0_2 ⟨rfl, hb⟩; have HY2 := Lib.hid (HY1.out.trans (hb.mono HY1.out.size)); have I8 := Lib.hid (I7.out.step hb); clear hb)))
  rw [eqMat_self]
  clear HKx HY1 HY2
  clear u_arg06 v_arg06 x_arg06 y_arg06 z_arg06 u_bx06 v_bx06 x_bx06 y_bx06 z_bx06 u_box_spec6 v_box_spec6 x_box_spec6 y_box_spec6 z_box_spec6 u_box_g6 v_box_g6 x_box_g6 y_box_g6 z_box_g6
  obtain ⟨u_arg08, v_arg08, x_arg08, y_arg08, z_arg08⟩ := blk2cells (I8.out.box 8 rfl)
  obtain ⟨u_bx08, v_bx08, x_bx08, y_bx08, z_bx08⟩ := blk2cells (I8.out.box 3 rfl)
  obtain ⟨u_box_spec8, v_box_spec8, x_box_spec8, y_box_spec8, z_box_spec8⟩ := blk2cells (I8.out.box 5 rfl)
  obtain ⟨u_box_g8, v_box_g8, x_box_g8, y_box_g8, z_box_g8⟩ := blk2cells (I8.out.box 1 rfl)
  go_wp2_with fail
  refine (markMat_any _ c0 _ n0 xs0 (1) _ (I8.out.own 4 rfl) (by omega) (by omega) (by omega)).mono ?_
  rintro e w7 ⟨rfl, ho, hk⟩
  have I9 := Lib.hid (I8.out.mark 4 rfl LO_x0.out hk ho)
  clear ho hk
  clear u_arg08 v_arg08 x_arg08 y_arg08 z_arg08 u_bx08 v_bx08 x_bx08 y_bx08 z_bx08 u_box_spec8 v_box_spec8 x_box_spec8 y_box_spec8 z_box_spec8 u_box_g8 v_box_g8 x_box_g8 y_box_g8 z_box_g8
  obtain ⟨u_arg09, v_arg09, x_arg09, y_arg09, z_arg09⟩ := blk2cells (I9.out.box 8 rfl)
  obtain ⟨u_bx09, v_bx09, x_bx09, y_bx09, z_bx09⟩ := blk2cells (I9.out.box 3 rfl)
  obtain ⟨u_box_spec9, v_box_spec9, x_box_spec9, y_box_spec9, z_box_spec9⟩ := blk2cells (I9.out.box 5 rfl)
  obtain ⟨u_box_g9, v_box_g9, x_box_g9, y_box_g9, z_box_g9⟩ := blk2cells (I9.out.box 1 rfl)
  go_wp2_with fail
  refine (eqMatrix_same rr.1 _ _ _ _ rr.2.1 _ (by omega) (owns_Rd (I9.out.own 2 rfl)) (owns_Rd (I9.out.own 6 rfl))).mono ?_
  rintro e w8 ⟨rfl, hb⟩
  have I10 := Lib.hid (I9.out.step hb)
  clear hb
  clear u_arg09 v_arg09 x_arg09 y_arg09 z_arg09 u_bx09 v_bx09 x_bx09 y_bx09 z_bx09 u_box_spec9 v_box_spec9 x_box_spec9 y_box_spec9 z_box_spec9 u_box_g9 v_box_g9 x_box_g9 y_box_g9 z_box_g9
  obtain ⟨u_arg010, v_arg010, x_arg010, y_arg010, z_arg010⟩ := blk2cells (I10.out.box 8 rfl)
  obtain ⟨u_bx010, v_bx010, x_bx010, y_bx010, z_bx010⟩ := blk2cells (I10.out.box 3 rfl)
  obtain ⟨u_box_spec10, v_box_spec10, x_box_spec10, y_box_spec10, z_box_spec10⟩ := blk2cells (I10.out.box 5 rfl)
  obtain ⟨u_box_g10, v_box_g10, x_box_g10, y_box_g10, z_box_g10⟩ := blk2cells (I10.out.box 1 rfl)
  go_wp2_with fail
  refine (markMat_any _ rr.1 _ rr.2.1.length (nI rr.2.1) 1 _ (by rw [← nv_nI]; exact I10.out.own 2 rfl) (by omega) (by omega) (by omega)).mono ?_
  rintro e w9 ⟨rfl, ho, hk⟩
  have I11 := Lib.hid (I10.out.mark 2 rfl LO_own_g.out hk ho)
  clear ho hk
  clear u_arg010 v_arg010 x_arg010 y_arg010 z_arg010 u_bx010 v_bx010 x_bx010 y_bx010 z_bx010 u_box_spec10 v_box_spec10 x_box_spec10 y_box_spec10 z_box_spec10 u_box_g10 v_box_g10 x_box_g10 y_box_g10 z_box_g10
  obtain ⟨u_arg011, v_arg011, x_arg011, y_arg011, z_arg011⟩ := blk2cells (I11.out.box 8 rfl)
  obtain ⟨u_bx011, v_bx011, x_bx011, y_bx011, z_bx011⟩ := blk2cells (I11.out.box 3 rfl)
  obtain ⟨u_box_spec11, v_box_spec11, x_box_spec11, y_box_spec11, z_box_spec11⟩ := blk2cells (I11.out.box 5 rfl)
  obtain ⟨u_box_g11, v_box_g11, x_box_g11, y_box_g11, z_box_g11⟩ := blk2cells (I11.out.box 1 rfl)
  go_wp2_with fail
  refine (heldMatrix_any rr.1 A_g rr.2.1.length k_g 1 _ (owns_Rd (I11.out.own 2 rfl)) (by omega) (by omega) (by omega)).mono ?_
  rintro e w10 ⟨rfl, hb⟩
  have I12 := Lib.hid (I11.out.step hb)
  clear hb
  clear u_arg011 v_arg011 x_arg011 y_arg011 z_arg011 u_bx011 v_bx011 x_bx011 y_bx011 z_bx011 u_box_spec11 v_box_spec11 x_box_spec11 y_box_spec11 z_box_spec11 u_box_g11 v_box_g11 x_box_g11 y_box_g11 z_box_g11
  obtain ⟨u_arg012, v_arg012, x_arg012, y_arg012, z_arg012⟩ := blk2cells (I12.out.box 8 rfl)
  obtain ⟨u_bx012, v_bx012, x_bx012, y_bx012, z_bx012⟩ := blk2cells (I12.out.box 3 rfl)
  obtain ⟨u_box_spec12, v_box_spec12, x_box_spec12, y_box_spec12, z_box_spec12⟩ := blk2cells (I12.out.box 5 rfl)
  obtain ⟨u_box_g12, v_box_g12, x_box_g12, y_box_g12, z_box_g12⟩ := blk2cells (I12.out.box 1 rfl)
  go_wp2_with fail
  have LO_z0 := Lib.hid I12.out.size
  refine (toMatrix_any c0 A0 n0 cap0 xs0 _ Hn0.out (by omega) (HR0.out.below I12.out.bel)).mono ?_
  rintro e w11 ⟨g_4, rfl, ho, hb⟩
  have I13 := Lib.hid (I12.out.pushOwn hb ho rfl)
  clear ho hb
  clear u_arg012 v_arg012 x_arg012 y_arg012 z_arg012 u_bx012 v_bx012 x_bx012 y_bx012 z_bx012 u_box_spec12 v_box_spec12 x_box_spec12 y_box_spec12 z_box_spec12 u_box_g12 v_box_g12 x_box_g12 y_box_g12 z_box_g12
  obtain ⟨u_arg013, v_arg013, x_arg013, y_arg013, z_arg013⟩ := blk2cells (I13.out.box 9 rfl)
  obtain ⟨u_bx013, v_bx013, x_bx013, y_bx013, z_bx013⟩ := blk2cells (I13.out.box 4 rfl)
  obtain ⟨u_box_spec13, v_box_spec13, x_box_spec13, y_box_spec13, z_box_spec13⟩ := blk2cells (I13.out.box 6 rfl)
  obtain ⟨u_box_g13, v_box_g13, x_box_g13, y_box_g13, z_box_g13⟩ := blk2cells (I13.out.box 2 rfl)
  go_wp2_with fail
  refine (implKer_any c0 _ n0 n0 xs0 _ (HT.out.below I13.out.bel hw) (by have := I13.out.size; omega) Hn0.out (by omega) (owns_Rd (I13.out.own 0 rfl))).mono ?_
  rintro e w12 ⟨v_h, rfl, ho, hb⟩
  rw [HRR.out] at ho ⊢
  have I14 := Lib.hid (I13.out.pushOwn hb ho rfl)
  clear ho hb
  obtain ⟨A_h, k_h, rfl, _, _, _⟩ := owns_shape (I14.out.own 0 rfl)
  clear u_arg013 v_arg013 x_arg013 y_arg013 z_arg013 u_bx013 v_bx013 x_bx013 y_bx013 z_bx013 u_box_spec13 v_box_spec13 x_box_spec13 y_box_spec13 z_box_spec13 u_box_g13 v_box_g13 x_box_g13 y_box_g13 z_box_g13
  obtain ⟨u_arg014, v_arg014, x_arg014, y_arg014, z_arg014⟩ := blk2cells (I14.out.box 10 rfl)
  obtain ⟨u_bx014, v_bx014, x_bx014, y_bx014, z_bx014⟩ := blk2cells (I14.out.box 5 rfl)
  obtain ⟨u_box_spec14, v_box_spec14, x_box_spec14, y_box_spec14, z_box_spec14⟩ := blk2cells (I14.out.box 7 rfl)
  obtain ⟨u_box_g14, v_box_g14, x_box_g14, y_box_g14, z_box_g14⟩ := blk2cells (I14.out.box 3 rfl)
  go_wp2_with fail
  have hI := I14.out.allocBox #[.int .i64 rr.1, .slice A_h rr.2.1.length k_h] 28 rfl
  refine (eqMatrix_same rr.1 _ _ _ _ rr.2.1 _ (by omega) (owns_Rd (hI.own 1 rfl)) (owns_Rd (hI.own 9 rfl))).mono ?_
  rintro e w13 ⟨rfl, hb⟩
  have I15 := Lib.hid (hI.step hb)
  clear hb hI
  clear u_arg014 v_arg014 x_arg014 y_arg014 z_arg014 u_bx014 v_bx014 x_bx014 y_bx014 z_bx014 u_box_spec14 v_box_spec14 x_box_spec14 y_box_spec14 z_box_spec14 u_box_g14 v_box_g14 x_box_g14 y_box_g14 z_box_g14
  obtain ⟨u_arg015, v_arg015, x_arg015, y_arg015, z_arg015⟩ := blk2cells (I15.out.box 11 rfl)
  obtain ⟨u_bx015, v_bx015, x_bx015, y_bx015, z_bx015⟩ := blk2cells (I15.out.box 6 rfl)
  obtain ⟨u_box_spec15, v_box_spec15, x_box_spec15, y_box_spec15, z_box_spec15⟩ := blk2cells (I15.out.box 8 rfl)
  obtain ⟨u_box_g15, v_box_g15, x_box_g15, y_box_g15, z_box_g15⟩ := blk2cells (I15.out.box 4 rfl)
  go_wp2_with fail
  refine (heldMatrix_any rr.1 A_g rr.2.1.length k_g 1 _ (owns_Rd (I15.out.own 5 rfl)) (by omega) (by omega) (by omega)).mono ?_
  rintro e w14 ⟨rfl, hb⟩
  have I16 := Lib.hid (I15.out.step hb)
  clear hb
  go_wp2_with fail
  go_ret
  exact ⟨rfl, I16.out.bel⟩

set_option maxRecDepth 100000 in
set_option maxHeartbeats 1000000 in
theorem lawKer_any (c0 : Int) (A0 : Option Addr) (n0 cap0 : Nat) (xs0 : List Int) (w : World) (hT : Tab w) (hw : 0 < w.heap.size) (hn0 : n0 = xs0.length) (hR0 : Rd w A0 (iv xs0)) (hs0 : n0 ≤ 9223372036854775807) :
    Calls Tryd.prog 10 #[.agg #[.int .i64 c0, .slice A0 n0 cap0]] w fun e w' => e = .returned (.bool true) ∧ Below w.heap.size w w' := by
  by_cases hbig : n0 ≤ 1048576
  · exact lawKer_main c0 A0 n0 cap0 xs0 w hT hw hn0 hR0 hbig
  · have hI := (Inv.start w).allocBox #[.int .i64 c0, .slice A0 n0 cap0] 24 rfl
    have I0 := Lib.hid hI
    have hz := fun W => szMatrix_any c0 A0 n0 cap0 1048576 W hs0 (by omega) (by omega)
    rw [szV_neg (by omega)] at hz
    have HZ := Lib.hid hz
    clear hz hI hT hn0 hR0 hbig
    go_enter Tryd.func10, Tryd.ntmps10
    go_wp2_with fail
    refine (HZ.out _).mono ?_
    rintro e wa ⟨rfl, hb⟩
    have I1 := Lib.hid (I0.out.step hb)
    clear hb
    go_wp2_with fail
    go_ret
    exact ⟨rfl, I1.out.bel⟩
end Go.Proofs.YtchmplpgamekjaaDoor
