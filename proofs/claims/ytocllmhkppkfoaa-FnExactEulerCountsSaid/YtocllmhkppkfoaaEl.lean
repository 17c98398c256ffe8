/- FnExactEulerCounts: the walk of the law (printed by mkl2.py) -/
import Derived.Test.YtocllmhkppkfoaaLw2
import Derived.Test.YtocllmhkppkfoaaEc
import Derived.Test.YtocllmhkppkfoaaEd
import Derived.Deep.RegionHeld3
namespace Go.Proofs.Ytocllmhkppkfoaa
open Go.RowKit

set_option maxRecDepth 100000 in
set_option maxHeartbeats 8000000 in
theorem lawEuler_any (A0 : Option Addr) (n0 c0 : Nat) (L0 : List Row) (w : World) (hn0 : n0 = L0.length) (hs0 : n0 ≤ 9223372036854775807) (hl0 : ∀ i, i < L0.length → (rg L0 i).xs.length ≤ 9223372036854775807) (hR0 : RdR w A0 L0) :
    Calls Try.prog 3 #[.slice A0 n0 c0] w fun e w' => e = .returned (.bool true) ∧ Below w.heap.size w w' := by
  have hI := Inw.start w
  have I0 := Lib.hid hI
  clear hI
  have Hn0 := Lib.hid hn0
  have HR0 := Lib.hid hR0
  have HL0 := Lib.hid hl0
  clear hn0 hR0 hl0
  go_enter Try.func3, Try.ntmps3
  go_wp2_with fail
  refine (szRows_any A0 n0 c0 L0 (1048576) _ Hn0.out hs0 HL0.out (by omega) (by omega) (HR0.out.below I0.out.bel)).mono ?_
  rintro e w1 ⟨z0, rfl, hz, rfl⟩
  rcases hz with rfl | ⟨hz0, hy0⟩
  · go_wp2_with fail
    go_ret
    exact ⟨rfl, I0.out.bel⟩
  have hi0 : ¬ z0 < 0 := by omega
  have hk0 : tot L0 ≤ 1048576 := by omega
  have HLL0 := Lib.hid (fun i (hi : i < L0.length) => Nat.le_trans (len_le_tot hi) hk0)
  have HTO0 := Lib.hid (fun W (hb : Below w.heap.size w W) => toRows_any A0 n0 c0 L0 W Hn0.out (by omega) HLL0.out (HR0.out.below hb))
  obtain ⟨rr, hrr⟩ : ∃ rr, eulerOf L0 = rr := ⟨_, rfl⟩
  have hlen := eulerOf_len L0
  rw [hrr] at hlen
  have HDD := Lib.hid (fun (M0 : List Row) (e0 : dat M0 = dat L0) => (eulerOf_dat e0).trans hrr)
  clear hrr
  have HSP := Lib.hid (fun (W : World) (C0 : Option Addr) (M0 : List Row) (e0 : dat M0 = dat L0) (r0 : RdR W C0 M0) => show Calls Try.prog 10 #[.slice C0 n0 n0] W (ResS rr W) from by
    have h : Calls Try.prog 10 #[.slice C0 n0 n0] W (ResS (eulerOf M0) W) := specEuler_any C0 n0 n0 M0 W (by rw [Hn0.out, (dat_xs e0).1]) (by omega) (by intro i hi; rw [(dat_xs e0).2 i]; exact HLL0.out i (by rw [← (dat_xs e0).1]; exact hi)) r0
    rw [HDD.out M0 e0] at h
    exact h)
  have HIM := Lib.hid (fun (W : World) (C0 : Option Addr) (M0 : List Row) (e0 : dat M0 = dat L0) (r0 : RdR W C0 M0) => show Calls Try.prog 12 #[.slice C0 n0 n0] W (ResS rr W) from by
    have h : Calls Try.prog 12 #[.slice C0 n0 n0] W (ResS (eulerOf M0) W) := implEuler_any C0 n0 n0 M0 W (by rw [Hn0.out, (dat_xs e0).1]) (by omega) (by intro i hi; rw [(dat_xs e0).2 i]; exact HLL0.out i (by rw [← (dat_xs e0).1]; exact hi)) r0
    rw [HDD.out M0 e0] at h
    exact h)
  go_wp2_with fail
  refine (HTO0.out _ I0.out.bel).mono ?_
  rintro e w2 ⟨gs0, Ms0, rfl, hd, ho, hb⟩
  have I1 := Lib.hid (I0.out.pushRows hb ho)
  have HDs0 := Lib.hid hd
  clear hd
  clear ho hb
  go_wp2_with fail
  refine (HSP.out _ _ _ HDs0.out ((I1.out.rows 0 rfl).rd (by rw [Hn0.out, (dat_xs HDs0.out).1]))).mono ?_
  rintro e w3 ⟨vs, rfl, ho, hb⟩
  have I2 := Lib.hid (I1.out.pushOwn hb ho)
  clear ho hb
  obtain ⟨As, ks, rfl, _, _, _⟩ := owns_shape (I2.out.own 0 rfl)
  go_wp2_with fail
  refine (HTO0.out _ I2.out.bel).mono ?_
  rintro e w4 ⟨gx0, Mx0, rfl, hd, ho, hb⟩
  have I3 := Lib.hid (I2.out.pushRows hb ho)
  have HDx0 := Lib.hid hd
  clear hd
  clear ho hb
  go_wp2_with fail
  refine (HIM.out _ _ _ HDx0.out ((I3.out.rows 0 rfl).rd (by rw [Hn0.out, (dat_xs HDx0.out).1]))).mono ?_
  rintro e w5 ⟨vg, rfl, ho, hb⟩
  have I4 := Lib.hid (I3.out.pushOwn hb ho)
  clear ho hb
  obtain ⟨Ag, kg, rfl, _, _, _⟩ := owns_shape (I4.out.own 0 rfl)
  go_wp2_with fail
  refine (eqIntsB_any _ _ _ _ _ rr.1 _ rfl (by omega) (owns_Rd (I4.out.own 0 rfl)) (owns_Rd (I4.out.own 2 rfl))).mono ?_
  rintro e w6 ⟨rfl, hb⟩
  have I5 := Lib.hid (I4.out.step hb)
  clear hb
  go_wp2_with fail
  refine (HTO0.out _ I5.out.bel).mono ?_
  rintro e w7 ⟨ge0, Me0, rfl, hd, ho, hb⟩
  have I6 := Lib.hid (I5.out.pushRows hb ho)
  have HDe0 := Lib.hid hd
  clear hd
  clear ho hb
  go_wp2_with fail
  refine (eqRowsB_any _ _ n0 n0 _ _ _ _ _ (by rw [Hn0.out, (dat_xs HDx0.out).1]) (by rw [Hn0.out, (dat_xs HDe0.out).1]) (by omega) (by intro i hi; rw [(dat_xs HDx0.out).2 i]; exact Nat.le_trans (HLL0.out i (by rw [← (dat_xs HDx0.out).1]; exact hi)) (by omega)) (HDe0.out.trans HDx0.out.symm) ((I6.out.rows 2 rfl).rd (by rw [Hn0.out, (dat_xs HDx0.out).1])) ((I6.out.rows 0 rfl).rd (by rw [Hn0.out, (dat_xs HDe0.out).1]))).mono ?_
  rintro e w8 ⟨rfl, hb⟩
  have I7 := Lib.hid (I6.out.step hb)
  clear hb
  go_wp2_with fail
  have hqx0 : tot Mx0 = tot L0 := tot_dat HDx0.out
  refine (markRows_any _ _ _ Mx0 (1) _ (I7.out.rows 2 rfl) (by rw [(dat_xs HDx0.out).1, ← Hn0.out]; omega) (by omega) (by omega) (by omega) (I7.out.rowsUp 2 rfl).2).mono ?_
  rintro e w9 ⟨rfl, ho, hk⟩
  have I8 := Lib.hid (I7.out.markRows 2 rfl hk ho)
  clear ho hk
  go_wp2_with fail
  refine (eqIntsB_any _ _ _ _ _ rr.1 _ rfl (by omega) (owns_Rd (I8.out.own 1 rfl)) (owns_Rd (I8.out.own 3 rfl))).mono ?_
  rintro e w10 ⟨rfl, hb⟩
  have I9 := Lib.hid (I8.out.step hb)
  clear hb
  go_wp2_with fail
  refine (markInts_any _ _ rr.1.length rr.1 1 _ (I9.out.own 1 rfl) (by omega) (by omega) (by omega)).mono ?_
  rintro e w11 ⟨rfl, ho, hk⟩
  have I10 := Lib.hid (I9.out.markOwn 1 rfl hk ho)
  clear ho hk
  go_wp2_with fail
  refine (heldInts_any _ rr.1.length _ 1 _ (owns_Rd (I10.out.own 1 rfl)) (by omega) (by omega) (by omega)).mono ?_
  rintro e w' ⟨rfl, rfl⟩
  go_wp2_with fail
  refine (HTO0.out _ I10.out.bel).mono ?_
  rintro e w12 ⟨gh0, Mh0, rfl, hd, ho, hb⟩
  have I11 := Lib.hid (I10.out.pushRows hb ho)
  have HDh0 := Lib.hid hd
  clear hd
  clear ho hb
  go_wp2_with fail
  refine (HIM.out _ _ _ HDh0.out ((I11.out.rows 0 rfl).rd (by rw [Hn0.out, (dat_xs HDh0.out).1]))).mono ?_
  rintro e w13 ⟨vh, rfl, ho, hb⟩
  have I12 := Lib.hid (I11.out.pushOwn hb ho)
  clear ho hb
  obtain ⟨Ah, kh, rfl, _, _, _⟩ := owns_shape (I12.out.own 0 rfl)
  go_wp2_with fail
  refine (eqIntsB_any _ _ _ _ _ rr.1 _ rfl (by omega) (owns_Rd (I12.out.own 0 rfl)) (owns_Rd (I12.out.own 5 rfl))).mono ?_
  rintro e w14 ⟨rfl, hb⟩
  have I13 := Lib.hid (I12.out.step hb)
  clear hb
  go_wp2_with fail
  refine (heldInts_any _ rr.1.length _ 1 _ (owns_Rd (I13.out.own 3 rfl)) (by omega) (by omega) (by omega)).mono ?_
  rintro e w' ⟨rfl, rfl⟩
  go_wp2_with fail
  go_ret
  exact ⟨rfl, I13.out.bel⟩
end Go.Proofs.Ytocllmhkppkfoaa
