/- FnExactMeetOfSpaces: the walk of the law (printed by mklaw.py) -/
import Derived.Test.YtchmplpgamekjaaDoorX
import Derived.Test.YtchmplpgamekjaaDoorMh
namespace Go.Proofs.YtchmplpgamekjaaDoor
open Go.RowKit

set_option maxRecDepth 100000 in
set_option maxHeartbeats 8000000 in
theorem lawMeet_main (c0 : Int) (A0 : Option Addr) (n0 cap0 : Nat) (xs0 : List Int) (c1 : Int) (A1 : Option Addr) (n1 cap1 : Nat) (xs1 : List Int) (w : World) (hT : Tab w) (hw : 0 < w.heap.size) (hn0 : n0 = xs0.length) (hR0 : Rd w A0 (iv xs0)) (hn1 : n1 = xs1.length) (hR1 : Rd w A1 (iv xs1)) (hbig : n0 + n1 ≤ 1048576) :
    Calls Tryd.prog 11 #[.agg #[.int .i64 c0, .slice A0 n0 cap0], .agg #[.int .i64 c1, .slice A1 n1 cap1]] w fun e w' => e = .returned (.bool true) ∧ Below w.heap.size w w' := by
  have hz0 := fun W => szMatrix_any c0 A0 n0 cap0 (1048576) W (by omega) (by omega) (by omega)
  rw [show szV n0 (1048576) = 1048576 - (n0 : Int) by unfold szV; rw [if_neg (by omega)]] at hz0
  have g0 : ¬ (1048576 - (n0 : Int) < 0) := by omega
  have hz1 := fun W => szMatrix_any c1 A1 n1 cap1 (1048576 - (n0 : Int)) W (by omega) (by omega) (by omega)
  rw [show szV n1 (1048576 - (n0 : Int)) = 1048576 - (n0 : Int) - (n1 : Int) by unfold szV; rw [if_neg (by omega)]] at hz1
  have g1 : ¬ (1048576 - (n0 : Int) - (n1 : Int) < 0) := by omega
  have hI := ((Inv.start w).allocBox #[.int .i64 c0, .slice A0 n0 cap0] 24 rfl).allocBox #[.int .i64 c1, .slice A1 n1 cap1] 24 rfl
  rw [show (w.alloc (.cells #[.int .i64 c0, .slice A0 n0 cap0] 24)).heap.size = w.heap.size + 1 by simp] at hI
  have I0 := Lib.hid hI
  have HZ0 := Lib.hid hz0
  have HR0 := Lib.hid hR0
  have Hn0 := Lib.hid hn0
  have HZ1 := Lib.hid hz1
  have HR1 := Lib.hid hR1
  have Hn1 := Lib.hid hn1
  have HT := Lib.hid hT
  clear hI hT hz0 hR0 hn0 hz1 hR1 hn1
  go_enter Tryd.func11, Tryd.ntmps11
  go_wp2_with fail
  refine (HZ0.out _).mono ?_
  rintro e w1 ⟨rfl, hb⟩
  have I1 := Lib.hid (I0.out.step hb)
  clear hb
  obtain ⟨u_arg01, v_arg01, x_arg01, y_arg01, z_arg01⟩ := blk2cells (I1.out.box 1 rfl)
  obtain ⟨u_arg11, v_arg11, x_arg11, y_arg11, z_arg11⟩ := blk2cells (I1.out.box 0 rfl)
  go_wp2_with fail
  refine (HZ1.out _).mono ?_
  rintro e w2 ⟨rfl, hb⟩
  have I2 := Lib.hid (I1.out.step hb)
  clear hb
  clear u_arg01 v_arg01 x_arg01 y_arg01 z_arg01 u_arg11 v_arg11 x_arg11 y_arg11 z_arg11
  obtain ⟨u_arg02, v_arg02, x_arg02, y_arg02, z_arg02⟩ := blk2cells (I2.out.box 1 rfl)
  obtain ⟨u_arg12, v_arg12, x_arg12, y_arg12, z_arg12⟩ := blk2cells (I2.out.box 0 rfl)
  go_wp2_with fail
  go_cut [6, 7] (fun o code wx => MatOut w2 wx o code (meetOf c0 xs0 c1 xs1))
  case first =>
    have HK0 := Lib.hid (two_keep (I2.out.box 1 rfl) (I2.out.box 0 rfl))
    have HB0 := Lib.hid ((Below.refl w2.heap.size w2).drew)
    have hsz0 : w.heap.size ≤ w2.heap.size := I2.out.size
    have HBz : Hid (Below w2.heap.size w2 (w2.alloc (.cells #[.int .i64 0, .slice none 0 0] 28)).drew) := Lib.hid (((Below.refl _ _).alloc (Nat.le_refl _) _).drew)
    go_region_held3 (fun w' => (w'.heap[w.heap.size]? = some (.cells #[.int .i64 c0, .slice A0 n0 cap0] 24 (0, 0)) ∧ w'.heap[w.heap.size + 1]? = some (.cells #[.int .i64 c1, .slice A1 n1 cap1] 24 (0, 0))) ∧ w'.cell? ⟨w.heap.size, 0, none⟩ = some (.int .i64 c0) ∧ w'.cell? ⟨w.heap.size, 1, none⟩ = some (.slice A0 n0 cap0) ∧ w'.cell? ⟨w.heap.size + 1, 0, none⟩ = some (.int .i64 c1) ∧ w'.cell? ⟨w.heap.size + 1, 1, none⟩ = some (.slice A1 n1 cap1))
      (first | (refine two_blks ?_; first | exact HK0.out _ (Below.drew (Below.refl _ _)) | exact HK0.out _ HBz.out | exact HK0.out _ HB1.out | exact HK0.out _ (HB1.out.alloc HB1.out.size _) | exact HK0.out _ HB2.out | exact HK0.out _ (HB2.out.alloc HB2.out.size _) | exact HK0.out _ HB3.out | exact HK0.out _ (HB3.out.alloc HB3.out.size _) | exact HK0.out _ ((HB3.out.setCell hzg _).setCell hzg _)))
      (first
        | (go_at_call 17; (with_reducible refine (toMatrix_any c0 A0 n0 cap0 xs0 _ Hn0.out (by omega) (by first | exact HR0.out.below (I2.out.bel.trans (HB0.out.mono hsz0)) | exact HR0.out.below (I2.out.bel.trans (HBz.out.mono hsz0)))).mono ?_); (rintro e x1 ⟨k1, rfl, ho, hb⟩; have HB1 : Hid (Below w2.heap.size w2 x1) := Lib.hid (by first | exact HB0.out.trans (hb.mono HB0.out.size) | exact HBz.out.trans (hb.mono HBz.out.size)); have HO1 : Hid (x1.ownsRow w2.heap.size 2 1 (.slice (some ⟨k1, 0, none⟩) n0 n0) n0 (iv xs0)) := Lib.hid (ho.mono (by first | exact HB0.out.size | exact HBz.out.size)); (try (have HZB := Lib.hid (blk_keep (w := (w2.alloc (.cells #[.int .i64 0, .slice none 0 0] 28)).drew) (blk_new w2 (.cells #[.int .i64 0, .slice none 0 0] 28)) hb); have hzz := blk2cells HZB.out; obtain ⟨zz0, zz1, zz2, zz3, zz4⟩ := hzz; have hzg : w2.heap.size ≤ w2.heap.size := Nat.le_refl _)); clear ho hb))
        | (go_at_call 17; (with_reducible refine (toMatrix_any c1 A1 n1 cap1 xs1 _ Hn1.out (by omega) (by first | exact HR1.out.below (I2.out.bel.trans (HB1.out.mono hsz0)) | exact (HR1.out.below (I2.out.bel.trans (HB1.out.mono hsz0))).alloc _)).mono ?_); (rintro e x2 ⟨k2, rfl, ho, hb⟩; have HB2 : Hid (Below w2.heap.size w2 x2) := Lib.hid (by first | exact HB1.out.trans (hb.mono HB1.out.size) | exact (HB1.out.alloc HB1.out.size _).trans (hb.mono (by have := HB1.out.size; simp; first | omega | exact this))); have HO2 : Hid (x2.ownsRow w2.heap.size 2 1 (.slice (some ⟨k2, 0, none⟩) n1 n1) n1 (iv xs1)) := Lib.hid (ho.mono (by first | exact HB1.out.size | (have := HB1.out.size; simp; first | omega | exact Nat.le_succ_of_le this))); (try (have HZB2 := Lib.hid (blk_keep HZB.out hb); have hzz := blk2cells HZB2.out; obtain ⟨zz0, zz1, zz2, zz3, zz4⟩ := hzz)); (try (have HZB := Lib.hid (blk_keep (blk_new x1 (.cells #[.int .i64 0, .slice none 0 0] 28)) hb); have hzz := blk2cells HZB.out; obtain ⟨zz0, zz1, zz2, zz3, zz4⟩ := hzz; have hzg : w2.heap.size ≤ _ := HB1.out.size)); have HO1b : Hid (x2.ownsRow w2.heap.size 2 1 (.slice (some ⟨k1, 0, none⟩) n0 n0) n0 (iv xs0)) := Lib.hid (owns_keeps HO1.out (Keeps.of_below (by first | exact hb | exact ((Below.refl _ _).alloc (Nat.le_refl _) _).trans (hb.mono (by simp)))) (.inr (by simp))); clear ho hb))
        | (go_at_call 39; (with_reducible refine (specMeet_any c0 c1 _ _ n0 n1 _ _ xs0 xs1 _ Hn0.out Hn1.out (by omega) (by omega) (by first | exact owns_Rd HO1b.out | exact (owns_Rd HO1b.out).alloc _) (by first | exact owns_Rd HO2.out | exact (owns_Rd HO2.out).alloc _)).mono ?_); (rintro e x3 ⟨v0, rfl, ho, hb⟩; obtain ⟨Av, kv, rfl, _, _, _⟩ := owns_shape ho; have HB3 : Hid (Below w2.heap.size w2 x3) := Lib.hid (by first | exact HB2.out.trans (hb.mono HB2.out.size) | exact (HB2.out.alloc HB2.out.size _).trans (hb.mono (by have := HB2.out.size; simp; first | omega | exact this))); have HO3 : Hid (x3.ownsRow w2.heap.size 2 1 (.slice Av (meetOf c0 xs0 c1 xs1).2.1.length kv) (meetOf c0 xs0 c1 xs1).2.1.length (nv (meetOf c0 xs0 c1 xs1).2.1)) := Lib.hid (ho.mono (by first | exact HB2.out.size | (have := HB2.out.size; simp; first | omega | exact Nat.le_succ_of_le this))); (try (have HZB3 := Lib.hid (blk_keep HZB2.out hb))); (try (have HZB3 := Lib.hid (blk_keep HZB.out hb))); (try (have HZB3 := Lib.hid (blk_keep (blk_new x2 (.cells #[.int .i64 0, .slice none 0 0] 28)) hb); have hzg : w2.heap.size ≤ _ := HB2.out.size)); (try (have hzz := blk2cells HZB3.out; obtain ⟨zz0, zz1, zz2, zz3, zz4⟩ := hzz)); clear ho hb)))
    all_goals go_wp2_with fail
    all_goals go_meet
    all_goals (first | exact MatOut.alloc HO3.out HB3.out | exact MatOut.set HZB3.out hzg HO3.out HB3.out)
  case rest =>
  obtain ⟨b_spec, v_spec, rfl, rfl, hg, ho, hb⟩ := hcut
  obtain ⟨A_spec, k_spec, rfl, _, _, _⟩ := owns_shape ho
  have I3 := Lib.hid (I2.out.out hg ho hb rfl rfl)
  clear hg ho hb
  generalize hrr : meetOf c0 xs0 c1 xs1 = rr at *
  have HRR := Lib.hid hrr
  have hlen : rr.2.1.length ≤ 1000 := by rw [← hrr]; exact meetOf_len c0 xs0 c1 xs1
  clear hrr
  clear u_arg02 v_arg02 x_arg02 y_arg02 z_arg02 u_arg12 v_arg12 x_arg12 y_arg12 z_arg12
  obtain ⟨u_arg03, v_arg03, x_arg03, y_arg03, z_arg03⟩ := blk2cells (I3.out.box 3 rfl)
  obtain ⟨u_arg13, v_arg13, x_arg13, y_arg13, z_arg13⟩ := blk2cells (I3.out.box 2 rfl)
  go_wp2_with fail
  have LO_x0 := Lib.hid I3.out.size
  refine (toMatrix_any c0 A0 n0 cap0 xs0 _ Hn0.out (by omega) (HR0.out.below I3.out.bel)).mono ?_
  rintro e w3 ⟨g_1, rfl, ho, hb⟩
  have I4 := Lib.hid (I3.out.pushOwn hb ho rfl)
  clear ho hb
  clear u_arg03 v_arg03 x_arg03 y_arg03 z_arg03 u_arg13 v_arg13 x_arg13 y_arg13 z_arg13
  obtain ⟨u_arg04, v_arg04, x_arg04, y_arg04, z_arg04⟩ := blk2cells (I4.out.box 4 rfl)
  obtain ⟨u_arg14, v_arg14, x_arg14, y_arg14, z_arg14⟩ := blk2cells (I4.out.box 3 rfl)
  go_wp2_with fail
  have hI := I4.out.allocBox #[.int .i64 c0, .slice (some ⟨g_1, 0, none⟩) n0 n0] 28 rfl
  have LO_x1 := Lib.hid hI.size
  refine (toMatrix_any c1 A1 n1 cap1 xs1 _ Hn1.out (by omega) (HR1.out.below hI.bel)).mono ?_
  rintro e w4 ⟨g_2, rfl, ho, hb⟩
  have I5 := Lib.hid (hI.pushOwn hb ho rfl)
  clear ho hb
  clear u_arg04 v_arg04 x_arg04 y_arg04 z_arg04 u_arg14 v_arg14 x_arg14 y_arg14 z_arg14
  obtain ⟨u_arg05, v_arg05, x_arg05, y_arg05, z_arg05⟩ := blk2cells (I5.out.box 6 rfl)
  obtain ⟨u_arg15, v_arg15, x_arg15, y_arg15, z_arg15⟩ := blk2cells (I5.out.box 5 rfl)
  obtain ⟨u_bx05, v_bx05, x_bx05, y_bx05, z_bx05⟩ := blk2cells (I5.out.box 1 rfl)
  clear hI
  go_wp2_with fail
  have hI := I5.out.allocBox #[.int .i64 c1, .slice (some ⟨g_2, 0, none⟩) n1 n1] 28 rfl
  refine (implMeet_any c0 c1 _ _ n0 n1 n0 n1 xs0 xs1 _ (HT.out.below hI.bel hw) (by simp) Hn0.out Hn1.out (by omega) (by omega) (owns_Rd (hI.own 3 rfl)) (owns_Rd (hI.own 1 rfl))).mono ?_
  rintro e w5 ⟨v_g, rfl, ho, hb⟩
  rw [HRR.out] at ho ⊢
  have LO_own_g := Lib.hid hI.size
  have I6 := Lib.hid (hI.pushOwn hb ho rfl)
  clear ho hb hI
  obtain ⟨A_g, k_g, rfl, _, _, _⟩ := owns_shape (I6.out.own 0 rfl)
  clear u_arg05 v_arg05 x_arg05 y_arg05 z_arg05 u_arg15 v_arg15 x_arg15 y_arg15 z_arg15 u_bx05 v_bx05 x_bx05 y_bx05 z_bx05
  obtain ⟨u_arg06, v_arg06, x_arg06, y_arg06, z_arg06⟩ := blk2cells (I6.out.box 8 rfl)
  obtain ⟨u_arg16, v_arg16, x_arg16, y_arg16, z_arg16⟩ := blk2cells (I6.out.box 7 rfl)
  obtain ⟨u_bx06, v_bx06, x_bx06, y_bx06, z_bx06⟩ := blk2cells (I6.out.box 3 rfl)
  obtain ⟨u_bx16, v_bx16, x_bx16, y_bx16, z_bx16⟩ := blk2cells (I6.out.box 1 rfl)
  obtain ⟨u_box_spec6, v_box_spec6, x_box_spec6, y_box_spec6, z_box_spec6⟩ := blk2cells (I6.out.box 5 rfl)
  go_wp2_with fail
  have hI := I6.out.allocBox #[.int .i64 rr.1, .slice A_g rr.2.1.length k_g] 28 rfl
  refine (eqMatrix_same rr.1 _ _ _ _ rr.2.1 _ (by omega) (owns_Rd (hI.own 1 rfl)) (owns_Rd (hI.own 7 rfl))).mono ?_
  rintro e w6 ⟨rfl, hb⟩
  have I7 := Lib.hid (hI.step hb)
  clear hb hI
  clear u_arg06 v_arg06 x_arg06 y_arg06 z_arg06 u_arg16 v_arg16 x_arg16 y_arg16 z_arg16 u_bx06 v_bx06 x_bx06 y_bx06 z_bx06 u_bx16 v_bx16 x_bx16 y_bx16 z_bx16 u_box_spec6 v_box_spec6 x_box_spec6 y_box_spec6 z_box_spec6
  obtain ⟨u_arg07, v_arg07, x_arg07, y_arg07, z_arg07⟩ := blk2cells (I7.out.box 9 rfl)
  obtain ⟨u_arg17, v_arg17, x_arg17, y_arg17, z_arg17⟩ := blk2cells (I7.out.box 8 rfl)
  obtain ⟨u_bx07, v_bx07, x_bx07, y_bx07, z_bx07⟩ := blk2cells (I7.out.box 4 rfl)
  obtain ⟨u_bx17, v_bx17, x_bx17, y_bx17, z_bx17⟩ := blk2cells (I7.out.box 2 rfl)
  obtain ⟨u_box_spec7, v_box_spec7, x_box_spec7, y_box_spec7, z_box_spec7⟩ := blk2cells (I7.out.box 6 rfl)
  obtain ⟨u_box_g7, v_box_g7, x_box_g7, y_box_g7, z_box_g7⟩ := blk2cells (I7.out.box 0 rfl)
  go_wp2_with fail
  have HKx := Lib.hid (two_keep (I7.out.box 4 rfl) (I7.out.box 9 rfl))
  go_region_held3 (fun w' => (w'.heap[w3.heap.size]? = some (.cells #[.int .i64 c0, .slice (some ⟨g_1, 0, none⟩) n0 n0] 28 (0, 0)) ∧ w'.heap[w.heap.size]? = some (.cells #[.int .i64 c0, .slice A0 n0 cap0] 24 (0, 0))) ∧ w'.cell? ⟨w3.heap.size, 0, none⟩ = some (.int .i64 c0) ∧ w'.cell? ⟨w3.heap.size, 1, none⟩ = some (.slice (some ⟨g_1, 0, none⟩) n0 n0) ∧ w'.cell? ⟨w.heap.size, 0, none⟩ = some (.int .i64 c0) ∧ w'.cell? ⟨w.heap.size, 1, none⟩ = some (.slice A0 n0 cap0))
      (first | (refine two_blks ?_; first | exact HKx.out _ (Below.drew (Below.refl _ _)) | exact HKx.out _ HY1.out | exact HKx.out _ HY2.out))
      (first
        | (go_at_call 17; (with_reducible refine (toMatrix_any c0 A0 n0 cap0 xs0 _ Hn0.out (by omega) (by exact HR0.out.below I7.out.drew.bel)).mono ?_); (rintro e y0_1 ⟨g_3, rfl, ho, hb⟩; have HY1 := Lib.hid ((Below.drew (Below.refl w6.heap.size w6)).trans hb); have I8 := Lib.hid (Inv.pushOwn I7.out.drew hb ho rfl); clear ho hb))
        | (go_at_call 19; (with_reducible refine (eqMatrix_any c0 c0 _ _ n0 n0 n0 n0 xs0 xs0 _ Hn0.out Hn0.out (by omega) (by omega) (by exact owns_Rd (I8.out.own 6 rfl)) (by exact owns_Rd (I8.out.own 0 rfl))).mono ?_); (rintro e y0_2 ⟨rfl, hb⟩; have HY2 := Lib.hid (HY1.out.trans (hb.mono HY1.out.size)); have I9 := Lib.hid (I8.out.step hb); clear hb)))
  rw [eqMat_self]
  clear HKx HY1 HY2
  clear u_arg07 v_arg07 x_arg07 y_arg07 z_arg07 u_arg17 v_arg17 x_arg17 y_arg17 z_arg17 u_bx07 v_bx07 x_bx07 y_bx07 z_bx07 u_bx17 v_bx17 x_bx17 y_bx17 z_bx17 u_box_spec7 v_box_spec7 x_box_spec7 y_box_spec7 z_box_spec7 u_box_g7 v_box_g7 x_box_g7 y_box_g7 z_box_g7
  obtain ⟨u_arg09, v_arg09, x_arg09, y_arg09, z_arg09⟩ := blk2cells (I9.out.box 10 rfl)
  obtain ⟨u_arg19, v_arg19, x_arg19, y_arg19, z_arg19⟩ := blk2cells (I9.out.box 9 rfl)
  obtain ⟨u_bx09, v_bx09, x_bx09, y_bx09, z_bx09⟩ := blk2cells (I9.out.box 5 rfl)
  obtain ⟨u_bx19, v_bx19, x_bx19, y_bx19, z_bx19⟩ := blk2cells (I9.out.box 3 rfl)
  obtain ⟨u_box_spec9, v_box_spec9, x_box_spec9, y_box_spec9, z_box_spec9⟩ := blk2cells (I9.out.box 7 rfl)
  obtain ⟨u_box_g9, v_box_g9, x_box_g9, y_box_g9, z_box_g9⟩ := blk2cells (I9.out.box 1 rfl)
  go_wp2_with fail
  have HKx := Lib.hid (two_keep (I9.out.box 3 rfl) (I9.out.box 9 rfl))
  go_region_held3 (fun w' => (w'.heap[w4.heap.size]? = some (.cells #[.int .i64 c1, .slice (some ⟨g_2, 0, none⟩) n1 n1] 28 (0, 0)) ∧ w'.heap[w.heap.size + 1]? = some (.cells #[.int .i64 c1, .slice A1 n1 cap1] 24 (0, 0))) ∧ w'.cell? ⟨w4.heap.size, 0, none⟩ = some (.int .i64 c1) ∧ w'.cell? ⟨w4.heap.size, 1, none⟩ = some (.slice (some ⟨g_2, 0, none⟩) n1 n1) ∧ w'.cell? ⟨w.heap.size + 1, 0, none⟩ = some (.int .i64 c1) ∧ w'.cell? ⟨w.heap.size + 1, 1, none⟩ = some (.slice A1 n1 cap1))
      (first | (refine two_blks ?_; first | exact HKx.out _ (Below.drew (Below.refl _ _)) | exact HKx.out _ HY1.out | exact HKx.out _ HY2.out))
      (first
        | (go_at_call 17; (with_reducible refine (toMatrix_any c1 A1 n1 cap1 xs1 _ Hn1.out (by omega) (by exact HR1.out.below I9.out.drew.bel)).mono ?_); (rintro e y1_1 ⟨g_4, rfl, ho, hb⟩; have HY1 := Lib.hid ((Below.drew (Below.refl y0_2.heap.size y0_2)).trans hb); have I10 := Lib.hid (Inv.pushOwn I9.out.drew hb ho rfl); clear ho hb))
        | (go_at_call 19; (with_reducible refine (eqMatrix_any c1 c1 _ _ n1 n1 n1 n1 xs1 xs1 _ Hn1.out Hn1.out (by omega) (by omega) (by exact owns_Rd (I10.out.own 5 rfl)) (by exact owns_Rd (I10.out.own 0 rfl))).mono ?_); (rintro e y1_2 ⟨rfl, hb⟩; have HY2 := Lib.hid (HY1.out.trans (hb.mono HY1.out.size)); have I11 := Lib.hid (I10.out.step hb); clear hb)))
  rw [eqMat_self]
  clear HKx HY1 HY2
  clear u_arg09 v_arg09 x_arg09 y_arg09 z_arg09 u_arg19 v_arg19 x_arg19 y_arg19 z_arg19 u_bx09 v_bx09 x_bx09 y_bx09 z_bx09 u_bx19 v_bx19 x_bx19 y_bx19 z_bx19 u_box_spec9 v_box_spec9 x_box_spec9 y_box_spec9 z_box_spec9 u_box_g9 v_box_g9 x_box_g9 y_box_g9 z_box_g9
  obtain ⟨u_arg011, v_arg011, x_arg011, y_arg011, z_arg011⟩ := blk2cells (I11.out.box 11 rfl)
  obtain ⟨u_arg111, v_arg111, x_arg111, y_arg111, z_arg111⟩ := blk2cells (I11.out.box 10 rfl)
  obtain ⟨u_bx011, v_bx011, x_bx011, y_bx011, z_bx011⟩ := blk2cells (I11.out.box 6 rfl)
  obtain ⟨u_bx111, v_bx111, x_bx111, y_bx111, z_bx111⟩ := blk2cells (I11.out.box 4 rfl)
  obtain ⟨u_box_spec11, v_box_spec11, x_box_spec11, y_box_spec11, z_box_spec11⟩ := blk2cells (I11.out.box 8 rfl)
  obtain ⟨u_box_g11, v_box_g11, x_box_g11, y_box_g11, z_box_g11⟩ := blk2cells (I11.out.box 2 rfl)
  go_wp2_with fail
  refine (markMat_any _ c0 _ n0 xs0 (1) _ (I11.out.own 7 rfl) (by omega) (by omega) (by omega)).mono ?_
  rintro e w7 ⟨rfl, ho, hk⟩
  have I12 := Lib.hid (I11.out.mark 7 rfl LO_x0.out hk ho)
  clear ho hk
  clear u_arg011 v_arg011 x_arg011 y_arg011 z_arg011 u_arg111 v_arg111 x_arg111 y_arg111 z_arg111 u_bx011 v_bx011 x_bx011 y_bx011 z_bx011 u_bx111 v_bx111 x_bx111 y_bx111 z_bx111 u_box_spec11 v_box_spec11 x_box_spec11 y_box_spec11 z_box_spec11 u_box_g11 v_box_g11 x_box_g11 y_box_g11 z_box_g11
  obtain ⟨u_arg012, v_arg012, x_arg012, y_arg012, z_arg012⟩ := blk2cells (I12.out.box 11 rfl)
  obtain ⟨u_arg112, v_arg112, x_arg112, y_arg112, z_arg112⟩ := blk2cells (I12.out.box 10 rfl)
  obtain ⟨u_bx012, v_bx012, x_bx012, y_bx012, z_bx012⟩ := blk2cells (I12.out.box 6 rfl)
  obtain ⟨u_bx112, v_bx112, x_bx112, y_bx112, z_bx112⟩ := blk2cells (I12.out.box 4 rfl)
  obtain ⟨u_box_spec12, v_box_spec12, x_box_spec12, y_box_spec12, z_box_spec12⟩ := blk2cells (I12.out.box 8 rfl)
  obtain ⟨u_box_g12, v_box_g12, x_box_g12, y_box_g12, z_box_g12⟩ := blk2cells (I12.out.box 2 rfl)
  go_wp2_with fail
  refine (markMat_any _ c1 _ n1 xs1 (1 + n0) _ (I12.out.own 5 rfl) (by omega) (by omega) (by omega)).mono ?_
  rintro e w8 ⟨rfl, ho, hk⟩
  have I13 := Lib.hid (I12.out.mark 5 rfl LO_x1.out hk ho)
  clear ho hk
  clear u_arg012 v_arg012 x_arg012 y_arg012 z_arg012 u_arg112 v_arg112 x_arg112 y_arg112 z_arg112 u_bx012 v_bx012 x_bx012 y_bx012 z_bx012 u_bx112 v_bx112 x_bx112 y_bx112 z_bx112 u_box_spec12 v_box_spec12 x_box_spec12 y_box_spec12 z_box_spec12 u_box_g12 v_box_g12 x_box_g12 y_box_g12 z_box_g12
  obtain ⟨u_arg013, v_arg013, x_arg013, y_arg013, z_arg013⟩ := blk2cells (I13.out.box 11 rfl)
  obtain ⟨u_arg113, v_arg113, x_arg113, y_arg113, z_arg113⟩ := blk2cells (I13.out.box 10 rfl)
  obtain ⟨u_bx013, v_bx013, x_bx013, y_bx013, z_bx013⟩ := blk2cells (I13.out.box 6 rfl)
  obtain ⟨u_bx113, v_bx113, x_bx113, y_bx113, z_bx113⟩ := blk2cells (I13.out.box 4 rfl)
  obtain ⟨u_box_spec13, v_box_spec13, x_box_spec13, y_box_spec13, z_box_spec13⟩ := blk2cells (I13.out.box 8 rfl)
  obtain ⟨u_box_g13, v_box_g13, x_box_g13, y_box_g13, z_box_g13⟩ := blk2cells (I13.out.box 2 rfl)
  go_wp2_with fail
  refine (eqMatrix_same rr.1 _ _ _ _ rr.2.1 _ (by omega) (owns_Rd (I13.out.own 3 rfl)) (owns_Rd (I13.out.own 9 rfl))).mono ?_
  rintro e w9 ⟨rfl, hb⟩
  have I14 := Lib.hid (I13.out.step hb)
  clear hb
  clear u_arg013 v_arg013 x_arg013 y_arg013 z_arg013 u_arg113 v_arg113 x_arg113 y_arg113 z_arg113 u_bx013 v_bx013 x_bx013 y_bx013 z_bx013 u_bx113 v_bx113 x_bx113 y_bx113 z_bx113 u_box_spec13 v_box_spec13 x_box_spec13 y_box_spec13 z_box_spec13 u_box_g13 v_box_g13 x_box_g13 y_box_g13 z_box_g13
  obtain ⟨u_arg014, v_arg014, x_arg014, y_arg014, z_arg014⟩ := blk2cells (I14.out.box 11 rfl)
  obtain ⟨u_arg114, v_arg114, x_arg114, y_arg114, z_arg114⟩ := blk2cells (I14.out.box 10 rfl)
  obtain ⟨u_bx014, v_bx014, x_bx014, y_bx014, z_bx014⟩ := blk2cells (I14.out.box 6 rfl)
  obtain ⟨u_bx114, v_bx114, x_bx114, y_bx114, z_bx114⟩ := blk2cells (I14.out.box 4 rfl)
  obtain ⟨u_box_spec14, v_box_spec14, x_box_spec14, y_box_spec14, z_box_spec14⟩ := blk2cells (I14.out.box 8 rfl)
  obtain ⟨u_box_g14, v_box_g14, x_box_g14, y_box_g14, z_box_g14⟩ := blk2cells (I14.out.box 2 rfl)
  go_wp2_with fail
  refine (markMat_any _ rr.1 _ rr.2.1.length (nI rr.2.1) 1 _ (by rw [← nv_nI]; exact I14.out.own 3 rfl) (by omega) (by omega) (by omega)).mono ?_
  rintro e w10 ⟨rfl, ho, hk⟩
  have I15 := Lib.hid (I14.out.mark 3 rfl LO_own_g.out hk ho)
  clear ho hk
  clear u_arg014 v_arg014 x_arg014 y_arg014 z_arg014 u_arg114 v_arg114 x_arg114 y_arg114 z_arg114 u_bx014 v_bx014 x_bx014 y_bx014 z_bx014 u_bx114 v_bx114 x_bx114 y_bx114 z_bx114 u_box_spec14 v_box_spec14 x_box_spec14 y_box_spec14 z_box_spec14 u_box_g14 v_box_g14 x_box_g14 y_box_g14 z_box_g14
  obtain ⟨u_arg015, v_arg015, x_arg015, y_arg015, z_arg015⟩ := blk2cells (I15.out.box 11 rfl)
  obtain ⟨u_arg115, v_arg115, x_arg115, y_arg115, z_arg115⟩ := blk2cells (I15.out.box 10 rfl)
  obtain ⟨u_bx015, v_bx015, x_bx015, y_bx015, z_bx015⟩ := blk2cells (I15.out.box 6 rfl)
  obtain ⟨u_bx115, v_bx115, x_bx115, y_bx115, z_bx115⟩ := blk2cells (I15.out.box 4 rfl)
  obtain ⟨u_box_spec15, v_box_spec15, x_box_spec15, y_box_spec15, z_box_spec15⟩ := blk2cells (I15.out.box 8 rfl)
  obtain ⟨u_box_g15, v_box_g15, x_box_g15, y_box_g15, z_box_g15⟩ := blk2cells (I15.out.box 2 rfl)
  go_wp2_with fail
  refine (heldMatrix_any rr.1 A_g rr.2.1.length k_g 1 _ (owns_Rd (I15.out.own 3 rfl)) (by omega) (by omega) (by omega)).mono ?_
  rintro e w11 ⟨rfl, hb⟩
  have I16 := Lib.hid (I15.out.step hb)
  clear hb
  clear u_arg015 v_arg015 x_arg015 y_arg015 z_arg015 u_arg115 v_arg115 x_arg115 y_arg115 z_arg115 u_bx015 v_bx015 x_bx015 y_bx015 z_bx015 u_bx115 v_bx115 x_bx115 y_bx115 z_bx115 u_box_spec15 v_box_spec15 x_box_spec15 y_box_spec15 z_box_spec15 u_box_g15 v_box_g15 x_box_g15 y_box_g15 z_box_g15
  obtain ⟨u_arg016, v_arg016, x_arg016, y_arg016, z_arg016⟩ := blk2cells (I16.out.box 11 rfl)
  obtain ⟨u_arg116, v_arg116, x_arg116, y_arg116, z_arg116⟩ := blk2cells (I16.out.box 10 rfl)
  obtain ⟨u_bx016, v_bx016, x_bx016, y_bx016, z_bx016⟩ := blk2cells (I16.out.box 6 rfl)
  obtain ⟨u_bx116, v_bx116, x_bx116, y_bx116, z_bx116⟩ := blk2cells (I16.out.box 4 rfl)
  obtain ⟨u_box_spec16, v_box_spec16, x_box_spec16, y_box_spec16, z_box_spec16⟩ := blk2cells (I16.out.box 8 rfl)
  obtain ⟨u_box_g16, v_box_g16, x_box_g16, y_box_g16, z_box_g16⟩ := blk2cells (I16.out.box 2 rfl)
  go_wp2_with fail
  go_cut [15, 16] (fun o code wx => MatOut w11 wx o code (rr))
  case first =>
    have HK0 := Lib.hid (two_keep (I16.out.box 11 rfl) (I16.out.box 10 rfl))
    have HB0 := Lib.hid ((Below.refl w11.heap.size w11).drew)
    have hsz0 : w.heap.size ≤ w11.heap.size := I16.out.size
    have HBz : Hid (Below w11.heap.size w11 (w11.alloc (.cells #[.int .i64 0, .slice none 0 0] 28)).drew) := Lib.hid (((Below.refl _ _).alloc (Nat.le_refl _) _).drew)
    go_region_held3 (fun w' => (w'.heap[w.heap.size]? = some (.cells #[.int .i64 c0, .slice A0 n0 cap0] 24 (0, 0)) ∧ w'.heap[w.heap.size + 1]? = some (.cells #[.int .i64 c1, .slice A1 n1 cap1] 24 (0, 0))) ∧ w'.cell? ⟨w.heap.size, 0, none⟩ = some (.int .i64 c0) ∧ w'.cell? ⟨w.heap.size, 1, none⟩ = some (.slice A0 n0 cap0) ∧ w'.cell? ⟨w.heap.size + 1, 0, none⟩ = some (.int .i64 c1) ∧ w'.cell? ⟨w.heap.size + 1, 1, none⟩ = some (.slice A1 n1 cap1))
      (first | (refine two_blks ?_; first | exact HK0.out _ (Below.drew (Below.refl _ _)) | exact HK0.out _ HBz.out | exact HK0.out _ HB1.out | exact HK0.out _ (HB1.out.alloc HB1.out.size _) | exact HK0.out _ HB2.out | exact HK0.out _ (HB2.out.alloc HB2.out.size _) | exact HK0.out _ HB3.out | exact HK0.out _ (HB3.out.alloc HB3.out.size _) | exact HK0.out _ ((HB3.out.setCell hzg _).setCell hzg _)))
      (first
        | (go_at_call 17; (with_reducible refine (toMatrix_any c0 A0 n0 cap0 xs0 _ Hn0.out (by omega) (by first | exact HR0.out.below (I16.out.bel.trans (HB0.out.mono hsz0)) | exact HR0.out.below (I16.out.bel.trans (HBz.out.mono hsz0)))).mono ?_); (rintro e x1 ⟨k1, rfl, ho, hb⟩; have HB1 : Hid (Below w11.heap.size w11 x1) := Lib.hid (by first | exact HB0.out.trans (hb.mono HB0.out.size) | exact HBz.out.trans (hb.mono HBz.out.size)); have HO1 : Hid (x1.ownsRow w11.heap.size 2 1 (.slice (some ⟨k1, 0, none⟩) n0 n0) n0 (iv xs0)) := Lib.hid (ho.mono (by first | exact HB0.out.size | exact HBz.out.size)); (try (have HZB := Lib.hid (blk_keep (w := (w11.alloc (.cells #[.int .i64 0, .slice none 0 0] 28)).drew) (blk_new w11 (.cells #[.int .i64 0, .slice none 0 0] 28)) hb); have hzz := blk2cells HZB.out; obtain ⟨zz0, zz1, zz2, zz3, zz4⟩ := hzz; have hzg : w11.heap.size ≤ w11.heap.size := Nat.le_refl _)); clear ho hb))
        | (go_at_call 17; (with_reducible refine (toMatrix_any c1 A1 n1 cap1 xs1 _ Hn1.out (by omega) (by first | exact HR1.out.below (I16.out.bel.trans (HB1.out.mono hsz0)) | exact (HR1.out.below (I16.out.bel.trans (HB1.out.mono hsz0))).alloc _)).mono ?_); (rintro e x2 ⟨k2, rfl, ho, hb⟩; have HB2 : Hid (Below w11.heap.size w11 x2) := Lib.hid (by first | exact HB1.out.trans (hb.mono HB1.out.size) | exact (HB1.out.alloc HB1.out.size _).trans (hb.mono (by have := HB1.out.size; simp; first | omega | exact this))); have HO2 : Hid (x2.ownsRow w11.heap.size 2 1 (.slice (some ⟨k2, 0, none⟩) n1 n1) n1 (iv xs1)) := Lib.hid (ho.mono (by first | exact HB1.out.size | (have := HB1.out.size; simp; first | omega | exact Nat.le_succ_of_le this))); (try (have HZB2 := Lib.hid (blk_keep HZB.out hb); have hzz := blk2cells HZB2.out; obtain ⟨zz0, zz1, zz2, zz3, zz4⟩ := hzz)); (try (have HZB := Lib.hid (blk_keep (blk_new x1 (.cells #[.int .i64 0, .slice none 0 0] 28)) hb); have hzz := blk2cells HZB.out; obtain ⟨zz0, zz1, zz2, zz3, zz4⟩ := hzz; have hzg : w11.heap.size ≤ _ := HB1.out.size)); have HO1b : Hid (x2.ownsRow w11.heap.size 2 1 (.slice (some ⟨k1, 0, none⟩) n0 n0) n0 (iv xs0)) := Lib.hid (owns_keeps HO1.out (Keeps.of_below (by first | exact hb | exact ((Below.refl _ _).alloc (Nat.le_refl _) _).trans (hb.mono (by simp)))) (.inr (by simp))); clear ho hb))
        | (go_at_call 40; (with_reducible refine (implMeet_any c0 c1 _ _ n0 n1 _ _ xs0 xs1 _ (by first | exact HT.out.below (I16.out.bel.trans (HB2.out.mono hsz0)) hw | exact (HT.out.below (I16.out.bel.trans (HB2.out.mono hsz0)) hw).below ((Below.refl _ _).alloc (Nat.le_refl _) _) (by have := HB2.out.size; omega)) (by have := HB2.out.size; first | omega | (simp <;> omega)) Hn0.out Hn1.out (by omega) (by omega) (by first | exact owns_Rd HO1b.out | exact (owns_Rd HO1b.out).alloc _) (by first | exact owns_Rd HO2.out | exact (owns_Rd HO2.out).alloc _)).mono ?_); (rintro e x3 ⟨v0, rfl, ho, hb⟩; obtain ⟨Av, kv, rfl, _, _, _⟩ := owns_shape ho; have HB3 : Hid (Below w11.heap.size w11 x3) := Lib.hid (by first | exact HB2.out.trans (hb.mono HB2.out.size) | exact (HB2.out.alloc HB2.out.size _).trans (hb.mono (by have := HB2.out.size; simp; first | omega | exact this))); rw [HRR.out] at ho ⊢; have HO3 : Hid (x3.ownsRow w11.heap.size 2 1 (.slice Av rr.2.1.length kv) rr.2.1.length (nv rr.2.1)) := Lib.hid (ho.mono (by first | exact HB2.out.size | (have := HB2.out.size; simp; first | omega | exact Nat.le_succ_of_le this))); (try (have HZB3 := Lib.hid (blk_keep HZB2.out hb))); (try (have HZB3 := Lib.hid (blk_keep HZB.out hb))); (try (have HZB3 := Lib.hid (blk_keep (blk_new x2 (.cells #[.int .i64 0, .slice none 0 0] 28)) hb); have hzg : w11.heap.size ≤ _ := HB2.out.size)); (try (have hzz := blk2cells HZB3.out; obtain ⟨zz0, zz1, zz2, zz3, zz4⟩ := hzz)); clear ho hb)))
    all_goals go_wp2_with fail
    all_goals go_meet
    all_goals (first | exact MatOut.alloc HO3.out HB3.out | exact MatOut.set HZB3.out hzg HO3.out HB3.out)
  case rest =>
  obtain ⟨b_h, v_h, rfl, rfl, hg, ho, hb⟩ := hcut
  obtain ⟨A_h, k_h, rfl, _, _, _⟩ := owns_shape ho
  have I17 := Lib.hid (I16.out.out hg ho hb rfl rfl)
  clear hg ho hb
  clear u_arg016 v_arg016 x_arg016 y_arg016 z_arg016 u_arg116 v_arg116 x_arg116 y_arg116 z_arg116 u_bx016 v_bx016 x_bx016 y_bx016 z_bx016 u_bx116 v_bx116 x_bx116 y_bx116 z_bx116 u_box_spec16 v_box_spec16 x_box_spec16 y_box_spec16 z_box_spec16 u_box_g16 v_box_g16 x_box_g16 y_box_g16 z_box_g16
  obtain ⟨u_arg017, v_arg017, x_arg017, y_arg017, z_arg017⟩ := blk2cells (I17.out.box 13 rfl)
  obtain ⟨u_arg117, v_arg117, x_arg117, y_arg117, z_arg117⟩ := blk2cells (I17.out.box 12 rfl)
  obtain ⟨u_bx017, v_bx017, x_bx017, y_bx017, z_bx017⟩ := blk2cells (I17.out.box 8 rfl)
  obtain ⟨u_bx117, v_bx117, x_bx117, y_bx117, z_bx117⟩ := blk2cells (I17.out.box 6 rfl)
  obtain ⟨u_box_spec17, v_box_spec17, x_box_spec17, y_box_spec17, z_box_spec17⟩ := blk2cells (I17.out.box 10 rfl)
  obtain ⟨u_box_g17, v_box_g17, x_box_g17, y_box_g17, z_box_g17⟩ := blk2cells (I17.out.box 4 rfl)
  obtain ⟨u_box_h17, v_box_h17, x_box_h17, y_box_h17, z_box_h17⟩ := blk2cells (I17.out.box 0 rfl)
  go_wp2_with fail
  refine (eqMatrix_same rr.1 _ _ _ _ rr.2.1 _ (by omega) (owns_Rd (I17.out.own 1 rfl)) (owns_Rd (I17.out.own 11 rfl))).mono ?_
  rintro e w12 ⟨rfl, hb⟩
  have I18 := Lib.hid (I17.out.step hb)
  clear hb
  clear u_arg017 v_arg017 x_arg017 y_arg017 z_arg017 u_arg117 v_arg117 x_arg117 y_arg117 z_arg117 u_bx017 v_bx017 x_bx017 y_bx017 z_bx017 u_bx117 v_bx117 x_bx117 y_bx117 z_bx117 u_box_spec17 v_box_spec17 x_box_spec17 y_box_spec17 z_box_spec17 u_box_g17 v_box_g17 x_box_g17 y_box_g17 z_box_g17 u_box_h17 v_box_h17 x_box_h17 y_box_h17 z_box_h17
  obtain ⟨u_arg018, v_arg018, x_arg018, y_arg018, z_arg018⟩ := blk2cells (I18.out.box 13 rfl)
  obtain ⟨u_arg118, v_arg118, x_arg118, y_arg118, z_arg118⟩ := blk2cells (I18.out.box 12 rfl)
  obtain ⟨u_bx018, v_bx018, x_bx018, y_bx018, z_bx018⟩ := blk2cells (I18.out.box 8 rfl)
  obtain ⟨u_bx118, v_bx118, x_bx118, y_bx118, z_bx118⟩ := blk2cells (I18.out.box 6 rfl)
  obtain ⟨u_box_spec18, v_box_spec18, x_box_spec18, y_box_spec18, z_box_spec18⟩ := blk2cells (I18.out.box 10 rfl)
  obtain ⟨u_box_g18, v_box_g18, x_box_g18, y_box_g18, z_box_g18⟩ := blk2cells (I18.out.box 4 rfl)
  obtain ⟨u_box_h18, v_box_h18, x_box_h18, y_box_h18, z_box_h18⟩ := blk2cells (I18.out.box 0 rfl)
  go_wp2_with fail
  refine (heldMatrix_any rr.1 A_g rr.2.1.length k_g 1 _ (owns_Rd (I18.out.own 5 rfl)) (by omega) (by omega) (by omega)).mono ?_
  rintro e w13 ⟨rfl, hb⟩
  have I19 := Lib.hid (I18.out.step hb)
  clear hb
  go_wp2_with fail
  go_ret
  exact ⟨rfl, I19.out.bel⟩

set_option maxRecDepth 100000 in
set_option maxHeartbeats 1000000 in
theorem lawMeet_any (c0 : Int) (A0 : Option Addr) (n0 cap0 : Nat) (xs0 : List Int) (c1 : Int) (A1 : Option Addr) (n1 cap1 : Nat) (xs1 : List Int) (w : World) (hT : Tab w) (hw : 0 < w.heap.size) (hn0 : n0 = xs0.length) (hR0 : Rd w A0 (iv xs0)) (hn1 : n1 = xs1.length) (hR1 : Rd w A1 (iv xs1)) (hs0 : n0 ≤ 9223372036854775807) (hs1 : n1 ≤ 9223372036854775807) :
    Calls Tryd.prog 11 #[.agg #[.int .i64 c0, .slice A0 n0 cap0], .agg #[.int .i64 c1, .slice A1 n1 cap1]] w fun e w' => e = .returned (.bool true) ∧ Below w.heap.size w w' := by
  by_cases hbig : n0 + n1 ≤ 1048576
  · exact lawMeet_main c0 A0 n0 cap0 xs0 c1 A1 n1 cap1 xs1 w hT hw hn0 hR0 hn1 hR1 hbig
  · have hI := ((Inv.start w).allocBox #[.int .i64 c0, .slice A0 n0 cap0] 24 rfl).allocBox #[.int .i64 c1, .slice A1 n1 cap1] 24 rfl
    rw [show (w.alloc (.cells #[.int .i64 c0, .slice A0 n0 cap0] 24)).heap.size = w.heap.size + 1 by simp] at hI
    have I0 := Lib.hid hI
    have hz := fun W => szMatrix_any c0 A0 n0 cap0 1048576 W hs0 (by omega) (by omega)
    by_cases h1 : n0 ≤ 1048576
    · have hz2 := fun W => szMatrix_any c1 A1 n1 cap1 (1048576 - n0) W hs1 (by omega) (by omega)
      rw [szV_pos h1] at hz
      rw [show szV n1 (1048576 - (n0 : Int)) = -1 by unfold szV; rw [if_pos (by omega)]] at hz2
      have HZ := Lib.hid hz
      have HZ2 := Lib.hid hz2
      have g1 : ¬ (1048576 - (n0 : Int) < 0) := by omega
      clear hz hz2 hI hT hn0 hR0 hn1 hR1 hbig
      go_enter Tryd.func11, Tryd.ntmps11
      go_wp2_with fail
      refine (HZ.out _).mono ?_
      rintro e wa ⟨rfl, hb⟩
      have I1 := Lib.hid (I0.out.step hb)
      obtain ⟨a0, a1, _, _, _⟩ := blk2cells (I1.out.box 0 rfl)
      clear hb
      go_wp2_with fail
      refine (HZ2.out _).mono ?_
      rintro e wb ⟨rfl, hb⟩
      have I2 := Lib.hid (I1.out.step hb)
      clear hb
      go_wp2_with fail
      go_ret
      exact ⟨rfl, I2.out.bel⟩
    · rw [szV_neg h1] at hz
      have HZ := Lib.hid hz
      clear hz hI hT hn0 hR0 hn1 hR1 hbig
      go_enter Tryd.func11, Tryd.ntmps11
      go_wp2_with fail
      refine (HZ.out _).mono ?_
      rintro e wa ⟨rfl, hb⟩
      have I1 := Lib.hid (I0.out.step hb)
      clear hb
      go_wp2_with fail
      go_ret
      exact ⟨rfl, I1.out.bel⟩
end Go.Proofs.YtchmplpgamekjaaDoor
