/- FnExactTopElement: the walk of the law (printed by mkl2.py) -/
import Derived.Test.YtocllmhkppkfoaaLw2
import Derived.Test.YtocllmhkppkfoaaTc
import Derived.Deep.RegionHeld3
namespace Go.Proofs.Ytocllmhkppkfoaa
open Go.RowKit

set_option maxRecDepth 100000 in
set_option maxHeartbeats 8000000 in
theorem lawTopElement_any (A0 : Option Addr) (n0 c0 : Nat) (xs0 : List Int) (w : World) (hn0 : n0 = xs0.length) (hs0 : n0 ≤ 9223372036854775807) (hR0 : Rd w A0 (iv xs0)) :
    Calls Try.prog 4 #[.slice A0 n0 c0] w fun e w' => e = .returned (.bool true) ∧ Below w.heap.size w w' := by
  have hI := Inw.start w
  have I0 := Lib.hid hI
  clear hI
  have Hn0 := Lib.hid hn0
  have HR0 := Lib.hid hR0
  clear hn0 hR0
  by_cases hb0 : ¬ n0 ≤ 1048576
  · have hb' : 1048576 < (n0 : Int) := by omega
    go_enter Try.func4, Try.ntmps4
    go_wp2_with fail
    go_ret
    exact ⟨rfl, I0.out.bel⟩
  have hb0' : ¬ 1048576 < (n0 : Int) := by omega
  go_enter Try.func4, Try.ntmps4
  have HTO0 := Lib.hid (fun W (hb : Below w.heap.size w W) => toInts_any A0 n0 c0 xs0 W Hn0.out (by omega) (HR0.out.below hb))
  obtain ⟨rr, hrr⟩ : ∃ rr, topElementOf xs0 = rr := ⟨_, rfl⟩
  have hlen := topElementOf_len xs0
  rw [hrr] at hlen
  have HDD := Lib.hid hrr
  clear hrr
  have HSP := Lib.hid (fun (W : World) (C0 : Option Addr) (r0 : Rd W C0 (iv xs0)) => show Calls Try.prog 18 #[.slice C0 n0 n0] W (ResN rr W) from by
    have h : Calls Try.prog 18 #[.slice C0 n0 n0] W (ResN (topElementOf xs0) W) := specTopElement_any C0 n0 n0 xs0 W Hn0.out (by omega) r0
    rw [HDD.out] at h
    exact h)
  have HIM := Lib.hid (fun (W : World) (C0 : Option Addr) (r0 : Rd W C0 (iv xs0)) => show Calls Try.prog 20 #[.slice C0 n0 n0] W (ResN rr W) from by
    have h : Calls Try.prog 20 #[.slice C0 n0 n0] W (ResN (topElementOf xs0) W) := implTopElement_any C0 n0 n0 xs0 W Hn0.out (by omega) r0
    rw [HDD.out] at h
    exact h)
  go_wp2_with fail
  refine (HTO0.out _ I0.out.bel).mono ?_
  rintro e w1 ⟨gs0, rfl, ho, hb⟩
  have I1 := Lib.hid (I0.out.pushOwn hb ho)
  clear ho hb
  go_wp2_with fail
  refine (HSP.out _ _ (owns_Rd (I1.out.own 0 rfl))).mono ?_
  rintro e w2 ⟨vs, Ns, rfl, hd, ho, hb⟩
  have I2 := Lib.hid (I1.out.pushRows hb ho)
  have HDs := Lib.hid hd
  clear ho hb hd
  obtain ⟨As, ks, rfl, _, _, _⟩ := owns_shape (I2.out.rows 0 rfl).out
  have HZs := Lib.hid (rows_small HDs.out hlen)
  have z1s := HZs.out.1
  have z2s := HZs.out.2.1
  go_wp2_with fail
  have hI := I2.out.allocBox #[.slice As Ns.length ks] 33
  refine (HTO0.out _ hI.bel).mono ?_
  rintro e w3 ⟨gx0, rfl, ho, hb⟩
  have I3 := Lib.hid (hI.pushOwn hb ho)
  clear ho hb
  clear hI
  obtain ⟨u_rs_3, x_rs_3, z_rs_3⟩ := blk1cell (I3.out.box 1 rfl)
  go_wp2_with fail
  refine (HIM.out _ _ (owns_Rd (I3.out.own 0 rfl))).mono ?_
  rintro e w4 ⟨vg, Ng, rfl, hd, ho, hb⟩
  have I4 := Lib.hid (I3.out.pushRows hb ho)
  have HDg := Lib.hid hd
  clear ho hb hd
  obtain ⟨Ag, kg, rfl, _, _, _⟩ := owns_shape (I4.out.rows 0 rfl).out
  have HZg := Lib.hid (rows_small HDg.out hlen)
  have z1g := HZg.out.1
  have z2g := HZg.out.2.1
  clear u_rs_3 x_rs_3 z_rs_3
  obtain ⟨u_rs_4, x_rs_4, z_rs_4⟩ := blk1cell (I4.out.box 2 rfl)
  go_wp2_with fail
  have hI := I4.out.allocBox #[.slice Ag Ng.length kg] 33
  refine (eqMilnor_any _ _ _ _ _ _ _ _ _ rfl rfl (by omega) (fun i hi => Nat.le_trans (HZg.out.2.2 i hi) (by omega)) (HDs.out.trans HDg.out.symm) ((hI.rows 1 rfl).rd rfl) ((hI.rows 4 rfl).rd rfl)).mono ?_
  rintro e w5 ⟨rfl, hb⟩
  have I5 := Lib.hid (hI.step hb)
  clear hb
  clear hI
  clear u_rs_4 x_rs_4 z_rs_4
  obtain ⟨u_rs_5, x_rs_5, z_rs_5⟩ := blk1cell (I5.out.box 3 rfl)
  obtain ⟨u_rg_5, x_rg_5, z_rg_5⟩ := blk1cell (I5.out.box 0 rfl)
  go_wp2_with fail
  refine (HTO0.out _ I5.out.bel).mono ?_
  rintro e w6 ⟨ge0, rfl, ho, hb⟩
  have I6 := Lib.hid (I5.out.pushOwn hb ho)
  clear ho hb
  clear u_rs_5 x_rs_5 z_rs_5 u_rg_5 x_rg_5 z_rg_5
  obtain ⟨u_rs_6, x_rs_6, z_rs_6⟩ := blk1cell (I6.out.box 4 rfl)
  obtain ⟨u_rg_6, x_rg_6, z_rg_6⟩ := blk1cell (I6.out.box 1 rfl)
  go_wp2_with fail
  refine (eqIntsB_any _ _ n0 _ _ xs0 _ Hn0.out (by omega) (owns_Rd (I6.out.own 3 rfl)) (owns_Rd (I6.out.own 0 rfl))).mono ?_
  rintro e w7 ⟨rfl, hb⟩
  have I7 := Lib.hid (I6.out.step hb)
  clear hb
  clear u_rs_6 x_rs_6 z_rs_6 u_rg_6 x_rg_6 z_rg_6
  obtain ⟨u_rs_7, x_rs_7, z_rs_7⟩ := blk1cell (I7.out.box 4 rfl)
  obtain ⟨u_rg_7, x_rg_7, z_rg_7⟩ := blk1cell (I7.out.box 1 rfl)
  go_wp2_with fail
  refine (markInts_any _ _ n0 xs0 (1) _ (I7.out.own 3 rfl) (by omega) (by omega) (by omega)).mono ?_
  rintro e w8 ⟨rfl, ho, hk⟩
  have I8 := Lib.hid (I7.out.markOwn 3 rfl hk ho)
  clear ho hk
  clear u_rs_7 x_rs_7 z_rs_7 u_rg_7 x_rg_7 z_rg_7
  obtain ⟨u_rs_8, x_rs_8, z_rs_8⟩ := blk1cell (I8.out.box 4 rfl)
  obtain ⟨u_rg_8, x_rg_8, z_rg_8⟩ := blk1cell (I8.out.box 1 rfl)
  go_wp2_with fail
  refine (eqMilnor_any _ _ _ _ _ _ _ _ _ rfl rfl (by omega) (fun i hi => Nat.le_trans (HZg.out.2.2 i hi) (by omega)) (HDs.out.trans HDg.out.symm) ((I8.out.rows 2 rfl).rd rfl) ((I8.out.rows 5 rfl).rd rfl)).mono ?_
  rintro e w9 ⟨rfl, hb⟩
  have I9 := Lib.hid (I8.out.step hb)
  clear hb
  clear u_rs_8 x_rs_8 z_rs_8 u_rg_8 x_rg_8 z_rg_8
  obtain ⟨u_rs_9, x_rs_9, z_rs_9⟩ := blk1cell (I9.out.box 4 rfl)
  obtain ⟨u_rg_9, x_rg_9, z_rg_9⟩ := blk1cell (I9.out.box 1 rfl)
  go_wp2_with fail
  refine (markMilnor_any _ _ _ Ng 1 _ (I9.out.rows 2 rfl) (by omega) (by omega) (by omega) (by omega) (I9.out.rowsUp 2 rfl).2).mono ?_
  rintro e w10 ⟨rfl, ho, hk⟩
  have I10 := Lib.hid (I9.out.markRows 2 rfl hk ho)
  clear ho hk
  clear u_rs_9 x_rs_9 z_rs_9 u_rg_9 x_rg_9 z_rg_9
  obtain ⟨u_rs_10, x_rs_10, z_rs_10⟩ := blk1cell (I10.out.box 4 rfl)
  obtain ⟨u_rg_10, x_rg_10, z_rg_10⟩ := blk1cell (I10.out.box 1 rfl)
  go_wp2_with fail
  refine (heldMilnor_any _ Ng.length _ Ng 1 _ rfl ((I10.out.rows 2 rfl).rd (by rw [marksR_length])) (by omega) (by omega) (by omega) (by omega)).mono ?_
  rintro e w11 ⟨rfl, hb⟩
  have I11 := Lib.hid (I10.out.step hb)
  clear hb
  clear u_rs_10 x_rs_10 z_rs_10 u_rg_10 x_rg_10 z_rg_10
  obtain ⟨u_rs_11, x_rs_11, z_rs_11⟩ := blk1cell (I11.out.box 4 rfl)
  obtain ⟨u_rg_11, x_rg_11, z_rg_11⟩ := blk1cell (I11.out.box 1 rfl)
  go_wp2_with fail
  refine (HTO0.out _ I11.out.bel).mono ?_
  rintro e w12 ⟨gh0, rfl, ho, hb⟩
  have I12 := Lib.hid (I11.out.pushOwn hb ho)
  clear ho hb
  clear u_rs_11 x_rs_11 z_rs_11 u_rg_11 x_rg_11 z_rg_11
  obtain ⟨u_rs_12, x_rs_12, z_rs_12⟩ := blk1cell (I12.out.box 5 rfl)
  obtain ⟨u_rg_12, x_rg_12, z_rg_12⟩ := blk1cell (I12.out.box 2 rfl)
  go_wp2_with fail
  refine (HIM.out _ _ (owns_Rd (I12.out.own 0 rfl))).mono ?_
  rintro e w13 ⟨vh, Nh, rfl, hd, ho, hb⟩
  have I13 := Lib.hid (I12.out.pushRows hb ho)
  have HDh := Lib.hid hd
  clear ho hb hd
  obtain ⟨Ah, kh, rfl, _, _, _⟩ := owns_shape (I13.out.rows 0 rfl).out
  have HZh := Lib.hid (rows_small HDh.out hlen)
  have z1h := HZh.out.1
  have z2h := HZh.out.2.1
  clear u_rs_12 x_rs_12 z_rs_12 u_rg_12 x_rg_12 z_rg_12
  obtain ⟨u_rs_13, x_rs_13, z_rs_13⟩ := blk1cell (I13.out.box 6 rfl)
  obtain ⟨u_rg_13, x_rg_13, z_rg_13⟩ := blk1cell (I13.out.box 3 rfl)
  go_wp2_with fail
  have hI := I13.out.allocBox #[.slice Ah Nh.length kh] 33
  refine (eqMilnor_any _ _ _ _ _ _ _ _ _ rfl rfl (by omega) (fun i hi => Nat.le_trans (HZh.out.2.2 i hi) (by omega)) (HDs.out.trans HDh.out.symm) ((hI.rows 1 rfl).rd rfl) ((hI.rows 8 rfl).rd rfl)).mono ?_
  rintro e w14 ⟨rfl, hb⟩
  have I14 := Lib.hid (hI.step hb)
  clear hb
  clear hI
  clear u_rs_13 x_rs_13 z_rs_13 u_rg_13 x_rg_13 z_rg_13
  obtain ⟨u_rs_14, x_rs_14, z_rs_14⟩ := blk1cell (I14.out.box 7 rfl)
  obtain ⟨u_rg_14, x_rg_14, z_rg_14⟩ := blk1cell (I14.out.box 4 rfl)
  obtain ⟨u_rh_14, x_rh_14, z_rh_14⟩ := blk1cell (I14.out.box 0 rfl)
  go_wp2_with fail
  refine (heldMilnor_any _ Ng.length _ Ng 1 _ rfl ((I14.out.rows 5 rfl).rd (by rw [marksR_length])) (by omega) (by omega) (by omega) (by omega)).mono ?_
  rintro e w15 ⟨rfl, hb⟩
  have I15 := Lib.hid (I14.out.step hb)
  clear hb
  clear u_rs_14 x_rs_14 z_rs_14 u_rg_14 x_rg_14 z_rg_14 u_rh_14 x_rh_14 z_rh_14
  obtain ⟨u_rs_15, x_rs_15, z_rs_15⟩ := blk1cell (I15.out.box 7 rfl)
  obtain ⟨u_rg_15, x_rg_15, z_rg_15⟩ := blk1cell (I15.out.box 4 rfl)
  obtain ⟨u_rh_15, x_rh_15, z_rh_15⟩ := blk1cell (I15.out.box 0 rfl)
  go_wp2_with fail
  go_ret
  exact ⟨rfl, I15.out.bel⟩
end Go.Proofs.Ytocllmhkppkfoaa
