/- FnExactHasNoMargolis: the walk of the law (printed by mkl2.py) · FnExactFreeRankOver: the walk of the law (printed by mkl2.py) · FnExactIsFreeOver: the walk of the law (printed by mkl2.py) -/
import Derived.Test.YtdkmdmpaflgfaaaGreatDoorBxab
import Derived.Test.YtdkmdmpaflgfaaaGreatDoorBxas
import Derived.Deep.RegionHeld3
set_option linter.all false
namespace Go.Proofs.YtdkmdmpaflgfaaaGreatDoor
open Go.RowKit

set_option maxRecDepth 100000 in
set_option maxHeartbeats 8000000 in
theorem lawHasNoMargolisF_any (A0 : Option Addr) (n0 c0 : Nat) (xs0 : List Int) (B0 : Option Addr) (m0 d0 : Nat) (L0 : List Row) (a1 : Int) (a2 : Int) (w : World) (hT : Tab w) (hw : 0 < w.heap.size) (hn0 : n0 = xs0.length) (hs0 : n0 ≤ 9223372036854775807) (hR0 : Rd w A0 (iv xs0)) (hm0 : m0 = L0.length) (ht0 : m0 ≤ 9223372036854775807) (hl0 : ∀ i, i < L0.length → (rg L0 i).xs.length ≤ 9223372036854775807) (hQ0 : RdR w B0 L0) :
    Calls Tryz.prog 5 #[.agg #[.slice A0 n0 c0, .slice B0 m0 d0], .int .i64 a1, .int .i64 a2] w fun e w' => e = .returned (.bool true) ∧ Below w.heap.size w w' := by
  have hI := (Inw.start w).allocBox #[.slice A0 n0 c0, .slice B0 m0 d0] 25
  have I0 := Lib.hid hI
  clear hI
  have HT := Lib.hid hT
  clear hT
  have Hn0 := Lib.hid hn0
  have HR0 := Lib.hid hR0
  have Hm0 := Lib.hid hm0
  have HL0 := Lib.hid hl0
  have HQ0 := Lib.hid hQ0
  clear hn0 hR0 hm0 hl0 hQ0
  go_enter Tryz.func5, Tryz.ntmps5
  go_wp2_with fail
  refine (szModule_any A0 B0 n0 c0 m0 d0 L0 (1048576) _ hs0 Hm0.out ht0 HL0.out (by omega) (by omega) (HQ0.out.below I0.out.bel)).mono ?_
  rintro e w1 ⟨z0, rfl, hz, hb⟩
  have I1 := Lib.hid (I0.out.step hb)
  clear hb
  obtain ⟨u_a0_1, v_a0_1, x_a0_1, y_a0_1, z_a0_1⟩ := blk2cells (I1.out.box 0 rfl)
  rcases hz with rfl | ⟨hz0, hy0⟩
  · go_wp2_with fail
    go_ret
    exact ⟨rfl, I1.out.bel⟩
  have hi0 : ¬ z0 < 0 := by omega
  have hk0 : tot L0 ≤ 1048576 := by omega
  have HLL0 := Lib.hid (fun i (hi : i < L0.length) => Nat.le_trans (len_le_tot hi) hk0)
  have HTO0 := Lib.hid (fun W (hb : Below w.heap.size w W) => toModule_any A0 B0 n0 c0 m0 d0 xs0 L0 W Hn0.out (by omega) (HR0.out.below hb) Hm0.out (by omega) HLL0.out (HQ0.out.below hb))
  obtain ⟨rr, hrr⟩ : ∃ rr, hasNoMargolisFOf xs0 L0 a1 a2 = rr := ⟨_, rfl⟩
  have HDD := Lib.hid (fun (M0 : List Row) (e0 : dat M0 = dat L0) => (hasNoMargolisFOf_dat e0).trans hrr)
  clear hrr
  have hnb0 : n0 ≤ 1048576 := by omega
  have hmb0 : m0 ≤ 1048576 := by omega
  have HSP := Lib.hid (fun (W : World) (C0 : Option Addr) (r0 : Rd W C0 (iv xs0)) (E0 : Option Addr) (M0 : List Row) (e0 : dat M0 = dat L0) (q0 : RdR W E0 M0) => show Calls Tryz.prog 25 #[.agg #[.slice C0 n0 n0, .slice E0 m0 m0], .int .i64 a1, .int .i64 a2] W (ResB rr W) from by
    have h : Calls Tryz.prog 25 #[.agg #[.slice C0 n0 n0, .slice E0 m0 m0], .int .i64 a1, .int .i64 a2] W (ResB (hasNoMargolisFOf xs0 M0 a1 a2) W) := specHasNoMargolisF_any C0 n0 n0 xs0 E0 m0 m0 M0 a1 a2 W Hn0.out (by omega) r0 (by rw [Hm0.out, (dat_xs e0).1]) (by omega) (by intro i hi; rw [(dat_xs e0).2 i]; exact HLL0.out i (by rw [← (dat_xs e0).1]; exact hi)) q0
    rw [HDD.out M0 e0] at h
    exact h)
  have HIM := Lib.hid (fun (W : World) (tb : Tab W) (tw : 0 < W.heap.size) (C0 : Option Addr) (r0 : Rd W C0 (iv xs0)) (E0 : Option Addr) (M0 : List Row) (e0 : dat M0 = dat L0) (q0 : RdR W E0 M0) => show Calls Tryz.prog 26 #[.agg #[.slice C0 n0 n0, .slice E0 m0 m0], .int .i64 a1, .int .i64 a2] W (ResB rr W) from by
    have h : Calls Tryz.prog 26 #[.agg #[.slice C0 n0 n0, .slice E0 m0 m0], .int .i64 a1, .int .i64 a2] W (ResB (hasNoMargolisFOf xs0 M0 a1 a2) W) := implHasNoMargolisF_any C0 n0 n0 xs0 E0 m0 m0 M0 a1 a2 W tb tw Hn0.out (by omega) r0 (by rw [Hm0.out, (dat_xs e0).1]) (by omega) (by intro i hi; rw [(dat_xs e0).2 i]; exact HLL0.out i (by rw [← (dat_xs e0).1]; exact hi)) q0
    rw [HDD.out M0 e0] at h
    exact h)
  go_wp2_with fail
  clear hz0 hy0 hi0 hs0 ht0
  refine (HTO0.out _ I1.out.bel).mono ?_
  rintro e w2 ⟨gs0, hs0, Ms0, rfl, hd, ho, hb⟩
  have I2 := Lib.hid (I1.out.pushMod hb ho)
  have HDs0 := Lib.hid hd
  clear hd
  clear ho hb
  clear u_a0_1 v_a0_1 x_a0_1 y_a0_1 z_a0_1
  obtain ⟨u_a0_2, v_a0_2, x_a0_2, y_a0_2, z_a0_2⟩ := blk2cells (I2.out.box 1 rfl)
  go_wp2_with fail
  refine (HSP.out _ _ (owns_Rd (by have h := (I2.out.mod 0 rfl).deg; rw [← Hn0.out] at h; exact h)) _ _ HDs0.out ((I2.out.mod 0 rfl).act.rd (by rw [Hm0.out, (dat_xs HDs0.out).1]))).mono ?_
  rintro e w3 ⟨rfl, hb⟩
  have I3 := Lib.hid (I2.out.step hb)
  clear hb
  clear u_a0_2 v_a0_2 x_a0_2 y_a0_2 z_a0_2
  obtain ⟨u_a0_3, v_a0_3, x_a0_3, y_a0_3, z_a0_3⟩ := blk2cells (I3.out.box 1 rfl)
  go_wp2_with fail
  refine (HTO0.out _ I3.out.bel).mono ?_
  rintro e w4 ⟨gx0, hx0, Mx0, rfl, hd, ho, hb⟩
  have I4 := Lib.hid (I3.out.pushMod hb ho)
  have HDx0 := Lib.hid hd
  clear hd
  clear ho hb
  clear u_a0_3 v_a0_3 x_a0_3 y_a0_3 z_a0_3
  obtain ⟨u_a0_4, v_a0_4, x_a0_4, y_a0_4, z_a0_4⟩ := blk2cells (I4.out.box 2 rfl)
  go_wp2_with fail
  have hI := I4.out.allocBox #[.slice (some ⟨gx0, 0, none⟩) n0 n0, .slice (some ⟨hx0, 0, none⟩) m0 m0] 30
  refine (HIM.out _ (HT.out.below hI.bel hw) (by have := hI.size; omega) _ (owns_Rd (by have h := (hI.mod 1 rfl).deg; rw [← Hn0.out] at h; exact h)) _ _ HDx0.out ((hI.mod 1 rfl).act.rd (by rw [Hm0.out, (dat_xs HDx0.out).1]))).mono ?_
  rintro e w5 ⟨rfl, hb⟩
  have I5 := Lib.hid (hI.step hb)
  clear hb
  clear hI
  clear u_a0_4 v_a0_4 x_a0_4 y_a0_4 z_a0_4
  obtain ⟨u_a0_5, v_a0_5, x_a0_5, y_a0_5, z_a0_5⟩ := blk2cells (I5.out.box 3 rfl)
  obtain ⟨u_b0_5, v_b0_5, x_b0_5, y_b0_5, z_b0_5⟩ := blk2cells (I5.out.box 0 rfl)
  go_wp2_with fail
  have KS := Lib.hid (fun w' (hb : Below w5.heap.size w5 w') => show w'.cell? ⟨w4.heap.size, 0, none⟩ = some (.slice (some ⟨gx0, 0, none⟩) n0 n0) ∧ w'.cell? ⟨w4.heap.size, 1, none⟩ = some (.slice (some ⟨hx0, 0, none⟩) m0 m0) ∧ w'.cell? ⟨w.heap.size, 0, none⟩ = some (.slice A0 n0 c0) ∧ w'.cell? ⟨w.heap.size, 1, none⟩ = some (.slice B0 m0 d0) from by
    have J := I5.out.step hb
    exact ⟨(blk2cells (J.box 0 rfl)).1, (blk2cells (J.box 0 rfl)).2.1, (blk2cells (J.box 3 rfl)).1, (blk2cells (J.box 3 rfl)).2.1⟩)
  have HB_0 := Lib.hid (Below.drew (Below.refl w5.heap.size w5))
  have I6 := Lib.hid I5.out.drew
  clear u_a0_5 v_a0_5 x_a0_5 y_a0_5 z_a0_5 u_b0_5 v_b0_5 x_b0_5 y_b0_5 z_b0_5
  go_region_held3 (fun w' => w'.cell? ⟨w4.heap.size, 0, none⟩ = some (.slice (some ⟨gx0, 0, none⟩) n0 n0) ∧ w'.cell? ⟨w4.heap.size, 1, none⟩ = some (.slice (some ⟨hx0, 0, none⟩) m0 m0) ∧ w'.cell? ⟨w.heap.size, 0, none⟩ = some (.slice A0 n0 c0) ∧ w'.cell? ⟨w.heap.size, 1, none⟩ = some (.slice B0 m0 d0))
      (first | exact KS.out _ HB_0.out | exact KS.out _ HB_1.out | exact KS.out _ HB_2.out)
      (first
        | (go_at_call 13; (with_reducible refine (HTO0.out _ I6.out.bel).mono ?_); (rintro e w6 ⟨ge0, he0, Me0, rfl, hd, ho, hb⟩; have I7 := Lib.hid (I6.out.pushMod hb ho); have HDe0 := Lib.hid hd; have HB_1 := Lib.hid (HB_0.out.trans (hb.mono HB_0.out.size)); clear ho hb hd))
        | (go_at_call 16; (with_reducible refine (eqModule_any _ _ _ _ n0 n0 n0 m0 m0 m0 xs0 _ _ _ Hn0.out (by omega) (by rw [Hm0.out, (dat_xs HDx0.out).1]) (by omega) (by intro i hi; rw [(dat_xs HDx0.out).2 i]; exact HLL0.out i (by rw [← (dat_xs HDx0.out).1]; exact hi)) (HDe0.out.trans HDx0.out.symm) (owns_Rd (by have h := (I7.out.mod 2 rfl).deg; rw [← Hn0.out] at h; exact h)) (owns_Rd (by have h := (I7.out.mod 0 rfl).deg; rw [← Hn0.out] at h; exact h)) ((I7.out.mod 2 rfl).act.rd (by rw [Hm0.out, (dat_xs HDx0.out).1])) ((I7.out.mod 0 rfl).act.rd (by rw [Hm0.out, (dat_xs HDe0.out).1]))).mono ?_); (rintro e w7 ⟨rfl, hb⟩; have I8 := Lib.hid (I7.out.step hb); have HB_2 := Lib.hid (HB_1.out.trans (hb.mono HB_1.out.size)); clear hb)))
  clear HB_0 HB_1 HB_2 KS
  obtain ⟨u_a0_8, v_a0_8, x_a0_8, y_a0_8, z_a0_8⟩ := blk2cells (I8.out.box 4 rfl)
  obtain ⟨u_b0_8, v_b0_8, x_b0_8, y_b0_8, z_b0_8⟩ := blk2cells (I8.out.box 1 rfl)
  go_wp2_with fail
  go_ret
  exact ⟨rfl, I8.out.bel⟩
end Go.Proofs.YtdkmdmpaflgfaaaGreatDoor

namespace Go.Proofs.YtdkmdmpaflgfaaaGreatDoor
open Go.RowKit

set_option maxRecDepth 100000 in
set_option maxHeartbeats 8000000 in
theorem lawFreeRankOverF_any (A0 : Option Addr) (n0 c0 : Nat) (xs0 : List Int) (B0 : Option Addr) (m0 d0 : Nat) (L0 : List Row) (A1 : Option Addr) (n1 c1 : Nat) (xs1 : List Int) (w : World) (hT : Tab w) (hw : 0 < w.heap.size) (hn0 : n0 = xs0.length) (hs0 : n0 ≤ 9223372036854775807) (hR0 : Rd w A0 (iv xs0)) (hm0 : m0 = L0.length) (ht0 : m0 ≤ 9223372036854775807) (hl0 : ∀ i, i < L0.length → (rg L0 i).xs.length ≤ 9223372036854775807) (hQ0 : RdR w B0 L0) (hn1 : n1 = xs1.length) (hs1 : n1 ≤ 9223372036854775807) (hR1 : Rd w A1 (iv xs1)) :
    Calls Tryz.prog 6 #[.agg #[.slice A0 n0 c0, .slice B0 m0 d0], .slice A1 n1 c1] w fun e w' => e = .returned (.bool true) ∧ Below w.heap.size w w' := by
  have hI := (Inw.start w).allocBox #[.slice A0 n0 c0, .slice B0 m0 d0] 25
  have I0 := Lib.hid hI
  clear hI
  have HT := Lib.hid hT
  clear hT
  have Hn0 := Lib.hid hn0
  have HR0 := Lib.hid hR0
  have Hm0 := Lib.hid hm0
  have HL0 := Lib.hid hl0
  have HQ0 := Lib.hid hQ0
  clear hn0 hR0 hm0 hl0 hQ0
  have Hn1 := Lib.hid hn1
  have HR1 := Lib.hid hR1
  clear hn1 hR1
  by_cases hb1 : ¬ n1 ≤ 1048576
  · have hb' : 1048576 < (n1 : Int) := by omega
    go_enter Tryz.func6, Tryz.ntmps6
    go_wp2_with fail
    go_ret
    exact ⟨rfl, I0.out.bel⟩
  have hb1' : ¬ 1048576 < (n1 : Int) := by omega
  go_enter Tryz.func6, Tryz.ntmps6
  go_wp2_with fail
  refine (szModule_any A0 B0 n0 c0 m0 d0 L0 (1048576) _ hs0 Hm0.out ht0 HL0.out (by omega) (by omega) (HQ0.out.below I0.out.bel)).mono ?_
  rintro e w1 ⟨z0, rfl, hz, hb⟩
  have I1 := Lib.hid (I0.out.step hb)
  clear hb
  obtain ⟨u_a0_1, v_a0_1, x_a0_1, y_a0_1, z_a0_1⟩ := blk2cells (I1.out.box 0 rfl)
  rcases hz with rfl | ⟨hz0, hy0⟩
  · go_wp2_with fail
    go_ret
    exact ⟨rfl, I1.out.bel⟩
  have hi0 : ¬ z0 < 0 := by omega
  have hk0 : tot L0 ≤ 1048576 := by omega
  have HLL0 := Lib.hid (fun i (hi : i < L0.length) => Nat.le_trans (len_le_tot hi) hk0)
  have HTO0 := Lib.hid (fun W (hb : Below w.heap.size w W) => toModule_any A0 B0 n0 c0 m0 d0 xs0 L0 W Hn0.out (by omega) (HR0.out.below hb) Hm0.out (by omega) HLL0.out (HQ0.out.below hb))
  have HTO1 := Lib.hid (fun W (hb : Below w.heap.size w W) => toInts_any A1 n1 c1 xs1 W Hn1.out (by omega) (HR1.out.below hb))
  obtain ⟨rr, hrr⟩ : ∃ rr, freeRankOverFOf xs0 L0 xs1 = rr := ⟨_, rfl⟩
  have HDD := Lib.hid (fun (M0 : List Row) (e0 : dat M0 = dat L0) => (freeRankOverFOf_dat e0).trans hrr)
  clear hrr
  have hnb0 : n0 ≤ 1048576 := by omega
  have hmb0 : m0 ≤ 1048576 := by omega
  have hnb1 : n1 ≤ 1048576 := by omega
  have HSP := Lib.hid (fun (W : World) (C0 : Option Addr) (r0 : Rd W C0 (iv xs0)) (E0 : Option Addr) (M0 : List Row) (e0 : dat M0 = dat L0) (q0 : RdR W E0 M0) (C1 : Option Addr) (r1 : Rd W C1 (iv xs1)) => show Calls Tryz.prog 27 #[.agg #[.slice C0 n0 n0, .slice E0 m0 m0], .slice C1 n1 n1] W (ResI rr W) from by
    have h : Calls Tryz.prog 27 #[.agg #[.slice C0 n0 n0, .slice E0 m0 m0], .slice C1 n1 n1] W (ResI (freeRankOverFOf xs0 M0 xs1) W) := specFreeRankOverF_any C0 n0 n0 xs0 E0 m0 m0 M0 C1 n1 n1 xs1 W Hn0.out (by omega) r0 (by rw [Hm0.out, (dat_xs e0).1]) (by omega) (by intro i hi; rw [(dat_xs e0).2 i]; exact HLL0.out i (by rw [← (dat_xs e0).1]; exact hi)) q0 Hn1.out (by omega) r1
    rw [HDD.out M0 e0] at h
    exact h)
  have HIM := Lib.hid (fun (W : World) (tb : Tab W) (tw : 0 < W.heap.size) (C0 : Option Addr) (r0 : Rd W C0 (iv xs0)) (E0 : Option Addr) (M0 : List Row) (e0 : dat M0 = dat L0) (q0 : RdR W E0 M0) (C1 : Option Addr) (r1 : Rd W C1 (iv xs1)) => show Calls Tryz.prog 29 #[.agg #[.slice C0 n0 n0, .slice E0 m0 m0], .slice C1 n1 n1] W (ResI rr W) from by
    have h : Calls Tryz.prog 29 #[.agg #[.slice C0 n0 n0, .slice E0 m0 m0], .slice C1 n1 n1] W (ResI (freeRankOverFOf xs0 M0 xs1) W) := implFreeRankOverF_any C0 n0 n0 xs0 E0 m0 m0 M0 C1 n1 n1 xs1 W tb tw Hn0.out (by omega) r0 (by rw [Hm0.out, (dat_xs e0).1]) (by omega) (by intro i hi; rw [(dat_xs e0).2 i]; exact HLL0.out i (by rw [← (dat_xs e0).1]; exact hi)) q0 Hn1.out (by omega) r1
    rw [HDD.out M0 e0] at h
    exact h)
  go_wp2_with fail
  clear hz0 hy0 hi0 hs0 ht0 hb1 hs1
  refine (HTO0.out _ I1.out.bel).mono ?_
  rintro e w2 ⟨gs0, hs0, Ms0, rfl, hd, ho, hb⟩
  have I2 := Lib.hid (I1.out.pushMod hb ho)
  have HDs0 := Lib.hid hd
  clear hd
  clear ho hb
  clear u_a0_1 v_a0_1 x_a0_1 y_a0_1 z_a0_1
  obtain ⟨u_a0_2, v_a0_2, x_a0_2, y_a0_2, z_a0_2⟩ := blk2cells (I2.out.box 1 rfl)
  go_wp2_with fail
  refine (HTO1.out _ I2.out.bel).mono ?_
  rintro e w3 ⟨gs1, rfl, ho, hb⟩
  have I3 := Lib.hid (I2.out.pushOwn hb ho)
  clear ho hb
  clear u_a0_2 v_a0_2 x_a0_2 y_a0_2 z_a0_2
  obtain ⟨u_a0_3, v_a0_3, x_a0_3, y_a0_3, z_a0_3⟩ := blk2cells (I3.out.box 2 rfl)
  go_wp2_with fail
  refine (HSP.out _ _ (owns_Rd (by have h := (I3.out.mod 1 rfl).deg; rw [← Hn0.out] at h; exact h)) _ _ HDs0.out ((I3.out.mod 1 rfl).act.rd (by rw [Hm0.out, (dat_xs HDs0.out).1])) _ (owns_Rd (I3.out.own 0 rfl))).mono ?_
  rintro e w4 ⟨rfl, hb⟩
  have I4 := Lib.hid (I3.out.step hb)
  clear hb
  clear u_a0_3 v_a0_3 x_a0_3 y_a0_3 z_a0_3
  obtain ⟨u_a0_4, v_a0_4, x_a0_4, y_a0_4, z_a0_4⟩ := blk2cells (I4.out.box 2 rfl)
  go_wp2_with fail
  refine (HTO0.out _ I4.out.bel).mono ?_
  rintro e w5 ⟨gx0, hx0, Mx0, rfl, hd, ho, hb⟩
  have I5 := Lib.hid (I4.out.pushMod hb ho)
  have HDx0 := Lib.hid hd
  clear hd
  clear ho hb
  clear u_a0_4 v_a0_4 x_a0_4 y_a0_4 z_a0_4
  obtain ⟨u_a0_5, v_a0_5, x_a0_5, y_a0_5, z_a0_5⟩ := blk2cells (I5.out.box 3 rfl)
  go_wp2_with fail
  have hI := I5.out.allocBox #[.slice (some ⟨gx0, 0, none⟩) n0 n0, .slice (some ⟨hx0, 0, none⟩) m0 m0] 30
  refine (HTO1.out _ hI.bel).mono ?_
  rintro e w6 ⟨gx1, rfl, ho, hb⟩
  have I6 := Lib.hid (hI.pushOwn hb ho)
  clear ho hb
  clear hI
  clear u_a0_5 v_a0_5 x_a0_5 y_a0_5 z_a0_5
  obtain ⟨u_a0_6, v_a0_6, x_a0_6, y_a0_6, z_a0_6⟩ := blk2cells (I6.out.box 5 rfl)
  obtain ⟨u_b0_6, v_b0_6, x_b0_6, y_b0_6, z_b0_6⟩ := blk2cells (I6.out.box 1 rfl)
  go_wp2_with fail
  refine (HIM.out _ (HT.out.below I6.out.bel hw) (by have := I6.out.size; omega) _ (owns_Rd (by have h := (I6.out.mod 2 rfl).deg; rw [← Hn0.out] at h; exact h)) _ _ HDx0.out ((I6.out.mod 2 rfl).act.rd (by rw [Hm0.out, (dat_xs HDx0.out).1])) _ (owns_Rd (I6.out.own 0 rfl))).mono ?_
  rintro e w7 ⟨rfl, hb⟩
  have I7 := Lib.hid (I6.out.step hb)
  clear hb
  clear u_a0_6 v_a0_6 x_a0_6 y_a0_6 z_a0_6 u_b0_6 v_b0_6 x_b0_6 y_b0_6 z_b0_6
  obtain ⟨u_a0_7, v_a0_7, x_a0_7, y_a0_7, z_a0_7⟩ := blk2cells (I7.out.box 5 rfl)
  obtain ⟨u_b0_7, v_b0_7, x_b0_7, y_b0_7, z_b0_7⟩ := blk2cells (I7.out.box 1 rfl)
  go_wp2_with fail
  have KS := Lib.hid (fun w' (hb : Below w7.heap.size w7 w') => show w'.cell? ⟨w5.heap.size, 0, none⟩ = some (.slice (some ⟨gx0, 0, none⟩) n0 n0) ∧ w'.cell? ⟨w5.heap.size, 1, none⟩ = some (.slice (some ⟨hx0, 0, none⟩) m0 m0) ∧ w'.cell? ⟨w.heap.size, 0, none⟩ = some (.slice A0 n0 c0) ∧ w'.cell? ⟨w.heap.size, 1, none⟩ = some (.slice B0 m0 d0) from by
    have J := I7.out.step hb
    exact ⟨(blk2cells (J.box 1 rfl)).1, (blk2cells (J.box 1 rfl)).2.1, (blk2cells (J.box 5 rfl)).1, (blk2cells (J.box 5 rfl)).2.1⟩)
  have HB_0 := Lib.hid (Below.drew (Below.refl w7.heap.size w7))
  have I8 := Lib.hid I7.out.drew
  clear u_a0_7 v_a0_7 x_a0_7 y_a0_7 z_a0_7 u_b0_7 v_b0_7 x_b0_7 y_b0_7 z_b0_7
  go_region_held3 (fun w' => w'.cell? ⟨w5.heap.size, 0, none⟩ = some (.slice (some ⟨gx0, 0, none⟩) n0 n0) ∧ w'.cell? ⟨w5.heap.size, 1, none⟩ = some (.slice (some ⟨hx0, 0, none⟩) m0 m0) ∧ w'.cell? ⟨w.heap.size, 0, none⟩ = some (.slice A0 n0 c0) ∧ w'.cell? ⟨w.heap.size, 1, none⟩ = some (.slice B0 m0 d0))
      (first | exact KS.out _ HB_0.out | exact KS.out _ HB_1.out | exact KS.out _ HB_2.out)
      (first
        | (go_at_call 13; (with_reducible refine (HTO0.out _ I8.out.bel).mono ?_); (rintro e w8 ⟨ge0, he0, Me0, rfl, hd, ho, hb⟩; have I9 := Lib.hid (I8.out.pushMod hb ho); have HDe0 := Lib.hid hd; have HB_1 := Lib.hid (HB_0.out.trans (hb.mono HB_0.out.size)); clear ho hb hd))
        | (go_at_call 16; (with_reducible refine (eqModule_any _ _ _ _ n0 n0 n0 m0 m0 m0 xs0 _ _ _ Hn0.out (by omega) (by rw [Hm0.out, (dat_xs HDx0.out).1]) (by omega) (by intro i hi; rw [(dat_xs HDx0.out).2 i]; exact HLL0.out i (by rw [← (dat_xs HDx0.out).1]; exact hi)) (HDe0.out.trans HDx0.out.symm) (owns_Rd (by have h := (I9.out.mod 3 rfl).deg; rw [← Hn0.out] at h; exact h)) (owns_Rd (by have h := (I9.out.mod 0 rfl).deg; rw [← Hn0.out] at h; exact h)) ((I9.out.mod 3 rfl).act.rd (by rw [Hm0.out, (dat_xs HDx0.out).1])) ((I9.out.mod 0 rfl).act.rd (by rw [Hm0.out, (dat_xs HDe0.out).1]))).mono ?_); (rintro e w9 ⟨rfl, hb⟩; have I10 := Lib.hid (I9.out.step hb); have HB_2 := Lib.hid (HB_1.out.trans (hb.mono HB_1.out.size)); clear hb)))
  clear HB_0 HB_1 HB_2 KS
  obtain ⟨u_a0_10, v_a0_10, x_a0_10, y_a0_10, z_a0_10⟩ := blk2cells (I10.out.box 6 rfl)
  obtain ⟨u_b0_10, v_b0_10, x_b0_10, y_b0_10, z_b0_10⟩ := blk2cells (I10.out.box 2 rfl)
  go_wp2_with fail
  refine (HTO1.out _ I10.out.bel).mono ?_
  rintro e w10 ⟨ge1, rfl, ho, hb⟩
  have I11 := Lib.hid (I10.out.pushOwn hb ho)
  clear ho hb
  clear u_a0_10 v_a0_10 x_a0_10 y_a0_10 z_a0_10 u_b0_10 v_b0_10 x_b0_10 y_b0_10 z_b0_10
  obtain ⟨u_a0_11, v_a0_11, x_a0_11, y_a0_11, z_a0_11⟩ := blk2cells (I11.out.box 7 rfl)
  obtain ⟨u_b0_11, v_b0_11, x_b0_11, y_b0_11, z_b0_11⟩ := blk2cells (I11.out.box 3 rfl)
  go_wp2_with fail
  refine (eqIntsB_any _ _ n1 _ _ xs1 _ Hn1.out (by omega) (owns_Rd (I11.out.own 2 rfl)) (owns_Rd (I11.out.own 0 rfl))).mono ?_
  rintro e w11 ⟨rfl, hb⟩
  have I12 := Lib.hid (I11.out.step hb)
  clear hb
  clear u_a0_11 v_a0_11 x_a0_11 y_a0_11 z_a0_11 u_b0_11 v_b0_11 x_b0_11 y_b0_11 z_b0_11
  obtain ⟨u_a0_12, v_a0_12, x_a0_12, y_a0_12, z_a0_12⟩ := blk2cells (I12.out.box 7 rfl)
  obtain ⟨u_b0_12, v_b0_12, x_b0_12, y_b0_12, z_b0_12⟩ := blk2cells (I12.out.box 3 rfl)
  go_wp2_with fail
  go_ret
  exact ⟨rfl, I12.out.bel⟩
end Go.Proofs.YtdkmdmpaflgfaaaGreatDoor

namespace Go.Proofs.YtdkmdmpaflgfaaaGreatDoor
open Go.RowKit

set_option maxRecDepth 100000 in
set_option maxHeartbeats 8000000 in
theorem lawIsFreeOverF_any (A0 : Option Addr) (n0 c0 : Nat) (xs0 : List Int) (B0 : Option Addr) (m0 d0 : Nat) (L0 : List Row) (A1 : Option Addr) (n1 c1 : Nat) (xs1 : List Int) (w : World) (hT : Tab w) (hw : 0 < w.heap.size) (hn0 : n0 = xs0.length) (hs0 : n0 ≤ 9223372036854775807) (hR0 : Rd w A0 (iv xs0)) (hm0 : m0 = L0.length) (ht0 : m0 ≤ 9223372036854775807) (hl0 : ∀ i, i < L0.length → (rg L0 i).xs.length ≤ 9223372036854775807) (hQ0 : RdR w B0 L0) (hn1 : n1 = xs1.length) (hs1 : n1 ≤ 9223372036854775807) (hR1 : Rd w A1 (iv xs1)) :
    Calls Tryz.prog 7 #[.agg #[.slice A0 n0 c0, .slice B0 m0 d0], .slice A1 n1 c1] w fun e w' => e = .returned (.bool true) ∧ Below w.heap.size w w' := by
  have hI := (Inw.start w).allocBox #[.slice A0 n0 c0, .slice B0 m0 d0] 25
  have I0 := Lib.hid hI
  clear hI
  have HT := Lib.hid hT
  clear hT
  have Hn0 := Lib.hid hn0
  have HR0 := Lib.hid hR0
  have Hm0 := Lib.hid hm0
  have HL0 := Lib.hid hl0
  have HQ0 := Lib.hid hQ0
  clear hn0 hR0 hm0 hl0 hQ0
  have Hn1 := Lib.hid hn1
  have HR1 := Lib.hid hR1
  clear hn1 hR1
  by_cases hb1 : ¬ n1 ≤ 1048576
  · have hb' : 1048576 < (n1 : Int) := by omega
    go_enter Tryz.func7, Tryz.ntmps7
    go_wp2_with fail
    go_ret
    exact ⟨rfl, I0.out.bel⟩
  have hb1' : ¬ 1048576 < (n1 : Int) := by omega
  go_enter Tryz.func7, Tryz.ntmps7
  go_wp2_with fail
  refine (szModule_any A0 B0 n0 c0 m0 d0 L0 (1048576) _ hs0 Hm0.out ht0 HL0.out (by omega) (by omega) (HQ0.out.below I0.out.bel)).mono ?_
  rintro e w1 ⟨z0, rfl, hz, hb⟩
  have I1 := Lib.hid (I0.out.step hb)
  clear hb
  obtain ⟨u_a0_1, v_a0_1, x_a0_1, y_a0_1, z_a0_1⟩ := blk2cells (I1.out.box 0 rfl)
  rcases hz with rfl | ⟨hz0, hy0⟩
  · go_wp2_with fail
    go_ret
    exact ⟨rfl, I1.out.bel⟩
  have hi0 : ¬ z0 < 0 := by omega
  have hk0 : tot L0 ≤ 1048576 := by omega
  have HLL0 := Lib.hid (fun i (hi : i < L0.length) => Nat.le_trans (len_le_tot hi) hk0)
  have HTO0 := Lib.hid (fun W (hb : Below w.heap.size w W) => toModule_any A0 B0 n0 c0 m0 d0 xs0 L0 W Hn0.out (by omega) (HR0.out.below hb) Hm0.out (by omega) HLL0.out (HQ0.out.below hb))
  have HTO1 := Lib.hid (fun W (hb : Below w.heap.size w W) => toInts_any A1 n1 c1 xs1 W Hn1.out (by omega) (HR1.out.below hb))
  obtain ⟨rr, hrr⟩ : ∃ rr, isFreeOverFOf xs0 L0 xs1 = rr := ⟨_, rfl⟩
  have HDD := Lib.hid (fun (M0 : List Row) (e0 : dat M0 = dat L0) => (isFreeOverFOf_dat e0).trans hrr)
  clear hrr
  have hnb0 : n0 ≤ 1048576 := by omega
  have hmb0 : m0 ≤ 1048576 := by omega
  have hnb1 : n1 ≤ 1048576 := by omega
  have HSP := Lib.hid (fun (W : World) (C0 : Option Addr) (r0 : Rd W C0 (iv xs0)) (E0 : Option Addr) (M0 : List Row) (e0 : dat M0 = dat L0) (q0 : RdR W E0 M0) (C1 : Option Addr) (r1 : Rd W C1 (iv xs1)) => show Calls Tryz.prog 30 #[.agg #[.slice C0 n0 n0, .slice E0 m0 m0], .slice C1 n1 n1] W (ResB rr W) from by
    have h : Calls Tryz.prog 30 #[.agg #[.slice C0 n0 n0, .slice E0 m0 m0], .slice C1 n1 n1] W (ResB (isFreeOverFOf xs0 M0 xs1) W) := specIsFreeOverF_any C0 n0 n0 xs0 E0 m0 m0 M0 C1 n1 n1 xs1 W Hn0.out (by omega) r0 (by rw [Hm0.out, (dat_xs e0).1]) (by omega) (by intro i hi; rw [(dat_xs e0).2 i]; exact HLL0.out i (by rw [← (dat_xs e0).1]; exact hi)) q0 Hn1.out (by omega) r1
    rw [HDD.out M0 e0] at h
    exact h)
  have HIM := Lib.hid (fun (W : World) (tb : Tab W) (tw : 0 < W.heap.size) (C0 : Option Addr) (r0 : Rd W C0 (iv xs0)) (E0 : Option Addr) (M0 : List Row) (e0 : dat M0 = dat L0) (q0 : RdR W E0 M0) (C1 : Option Addr) (r1 : Rd W C1 (iv xs1)) => show Calls Tryz.prog 31 #[.agg #[.slice C0 n0 n0, .slice E0 m0 m0], .slice C1 n1 n1] W (ResB rr W) from by
    have h : Calls Tryz.prog 31 #[.agg #[.slice C0 n0 n0, .slice E0 m0 m0], .slice C1 n1 n1] W (ResB (isFreeOverFOf xs0 M0 xs1) W) := implIsFreeOverF_any C0 n0 n0 xs0 E0 m0 m0 M0 C1 n1 n1 xs1 W tb tw Hn0.out (by omega) r0 (by rw [Hm0.out, (dat_xs e0).1]) (by omega) (by intro i hi; rw [(dat_xs e0).2 i]; exact HLL0.out i (by rw [← (dat_xs e0).1]; exact hi)) q0 Hn1.out (by omega) r1
    rw [HDD.out M0 e0] at h
    exact h)
  go_wp2_with fail
  clear hz0 hy0 hi0 hs0 ht0 hb1 hs1
  refine (HTO0.out _ I1.out.bel).mono ?_
  rintro e w2 ⟨gs0, hs0, Ms0, rfl, hd, ho, hb⟩
  have I2 := Lib.hid (I1.out.pushMod hb ho)
  have HDs0 := Lib.hid hd
  clear hd
  clear ho hb
  clear u_a0_1 v_a0_1 x_a0_1 y_a0_1 z_a0_1
  obtain ⟨u_a0_2, v_a0_2, x_a0_2, y_a0_2, z_a0_2⟩ := blk2cells (I2.out.box 1 rfl)
  go_wp2_with fail
  refine (HTO1.out _ I2.out.bel).mono ?_
  rintro e w3 ⟨gs1, rfl, ho, hb⟩
  have I3 := Lib.hid (I2.out.pushOwn hb ho)
  clear ho hb
  clear u_a0_2 v_a0_2 x_a0_2 y_a0_2 z_a0_2
  obtain ⟨u_a0_3, v_a0_3, x_a0_3, y_a0_3, z_a0_3⟩ := blk2cells (I3.out.box 2 rfl)
  go_wp2_with fail
  refine (HSP.out _ _ (owns_Rd (by have h := (I3.out.mod 1 rfl).deg; rw [← Hn0.out] at h; exact h)) _ _ HDs0.out ((I3.out.mod 1 rfl).act.rd (by rw [Hm0.out, (dat_xs HDs0.out).1])) _ (owns_Rd (I3.out.own 0 rfl))).mono ?_
  rintro e w4 ⟨rfl, hb⟩
  have I4 := Lib.hid (I3.out.step hb)
  clear hb
  clear u_a0_3 v_a0_3 x_a0_3 y_a0_3 z_a0_3
  obtain ⟨u_a0_4, v_a0_4, x_a0_4, y_a0_4, z_a0_4⟩ := blk2cells (I4.out.box 2 rfl)
  go_wp2_with fail
  refine (HTO0.out _ I4.out.bel).mono ?_
  rintro e w5 ⟨gx0, hx0, Mx0, rfl, hd, ho, hb⟩
  have I5 := Lib.hid (I4.out.pushMod hb ho)
  have HDx0 := Lib.hid hd
  clear hd
  clear ho hb
  clear u_a0_4 v_a0_4 x_a0_4 y_a0_4 z_a0_4
  obtain ⟨u_a0_5, v_a0_5, x_a0_5, y_a0_5, z_a0_5⟩ := blk2cells (I5.out.box 3 rfl)
  go_wp2_with fail
  have hI := I5.out.allocBox #[.slice (some ⟨gx0, 0, none⟩) n0 n0, .slice (some ⟨hx0, 0, none⟩) m0 m0] 30
  refine (HTO1.out _ hI.bel).mono ?_
  rintro e w6 ⟨gx1, rfl, ho, hb⟩
  have I6 := Lib.hid (hI.pushOwn hb ho)
  clear ho hb
  clear hI
  clear u_a0_5 v_a0_5 x_a0_5 y_a0_5 z_a0_5
  obtain ⟨u_a0_6, v_a0_6, x_a0_6, y_a0_6, z_a0_6⟩ := blk2cells (I6.out.box 5 rfl)
  obtain ⟨u_b0_6, v_b0_6, x_b0_6, y_b0_6, z_b0_6⟩ := blk2cells (I6.out.box 1 rfl)
  go_wp2_with fail
  refine (HIM.out _ (HT.out.below I6.out.bel hw) (by have := I6.out.size; omega) _ (owns_Rd (by have h := (I6.out.mod 2 rfl).deg; rw [← Hn0.out] at h; exact h)) _ _ HDx0.out ((I6.out.mod 2 rfl).act.rd (by rw [Hm0.out, (dat_xs HDx0.out).1])) _ (owns_Rd (I6.out.own 0 rfl))).mono ?_
  rintro e w7 ⟨rfl, hb⟩
  have I7 := Lib.hid (I6.out.step hb)
  clear hb
  clear u_a0_6 v_a0_6 x_a0_6 y_a0_6 z_a0_6 u_b0_6 v_b0_6 x_b0_6 y_b0_6 z_b0_6
  obtain ⟨u_a0_7, v_a0_7, x_a0_7, y_a0_7, z_a0_7⟩ := blk2cells (I7.out.box 5 rfl)
  obtain ⟨u_b0_7, v_b0_7, x_b0_7, y_b0_7, z_b0_7⟩ := blk2cells (I7.out.box 1 rfl)
  go_wp2_with fail
  have KS := Lib.hid (fun w' (hb : Below w7.heap.size w7 w') => show w'.cell? ⟨w5.heap.size, 0, none⟩ = some (.slice (some ⟨gx0, 0, none⟩) n0 n0) ∧ w'.cell? ⟨w5.heap.size, 1, none⟩ = some (.slice (some ⟨hx0, 0, none⟩) m0 m0) ∧ w'.cell? ⟨w.heap.size, 0, none⟩ = some (.slice A0 n0 c0) ∧ w'.cell? ⟨w.heap.size, 1, none⟩ = some (.slice B0 m0 d0) from by
    have J := I7.out.step hb
    exact ⟨(blk2cells (J.box 1 rfl)).1, (blk2cells (J.box 1 rfl)).2.1, (blk2cells (J.box 5 rfl)).1, (blk2cells (J.box 5 rfl)).2.1⟩)
  have HB_0 := Lib.hid (Below.drew (Below.refl w7.heap.size w7))
  have I8 := Lib.hid I7.out.drew
  clear u_a0_7 v_a0_7 x_a0_7 y_a0_7 z_a0_7 u_b0_7 v_b0_7 x_b0_7 y_b0_7 z_b0_7
  go_region_held3 (fun w' => w'.cell? ⟨w5.heap.size, 0, none⟩ = some (.slice (some ⟨gx0, 0, none⟩) n0 n0) ∧ w'.cell? ⟨w5.heap.size, 1, none⟩ = some (.slice (some ⟨hx0, 0, none⟩) m0 m0) ∧ w'.cell? ⟨w.heap.size, 0, none⟩ = some (.slice A0 n0 c0) ∧ w'.cell? ⟨w.heap.size, 1, none⟩ = some (.slice B0 m0 d0))
      (first | exact KS.out _ HB_0.out | exact KS.out _ HB_1.out | exact KS.out _ HB_2.out)
      (first
        | (go_at_call 13; (with_reducible refine (HTO0.out _ I8.out.bel).mono ?_); (rintro e w8 ⟨ge0, he0, Me0, rfl, hd, ho, hb⟩; have I9 := Lib.hid (I8.out.pushMod hb ho); have HDe0 := Lib.hid hd; have HB_1 := Lib.hid (HB_0.out.trans (hb.mono HB_0.out.size)); clear ho hb hd))
        | (go_at_call 16; (with_reducible refine (eqModule_any _ _ _ _ n0 n0 n0 m0 m0 m0 xs0 _ _ _ Hn0.out (by omega) (by rw [Hm0.out, (dat_xs HDx0.out).1]) (by omega) (by intro i hi; rw [(dat_xs HDx0.out).2 i]; exact HLL0.out i (by rw [← (dat_xs HDx0.out).1]; exact hi)) (HDe0.out.trans HDx0.out.symm) (owns_Rd (by have h := (I9.out.mod 3 rfl).deg; rw [← Hn0.out] at h; exact h)) (owns_Rd (by have h := (I9.out.mod 0 rfl).deg; rw [← Hn0.out] at h; exact h)) ((I9.out.mod 3 rfl).act.rd (by rw [Hm0.out, (dat_xs HDx0.out).1])) ((I9.out.mod 0 rfl).act.rd (by rw [Hm0.out, (dat_xs HDe0.out).1]))).mono ?_); (rintro e w9 ⟨rfl, hb⟩; have I10 := Lib.hid (I9.out.step hb); have HB_2 := Lib.hid (HB_1.out.trans (hb.mono HB_1.out.size)); clear hb)))
  clear HB_0 HB_1 HB_2 KS
  obtain ⟨u_a0_10, v_a0_10, x_a0_10, y_a0_10, z_a0_10⟩ := blk2cells (I10.out.box 6 rfl)
  obtain ⟨u_b0_10, v_b0_10, x_b0_10, y_b0_10, z_b0_10⟩ := blk2cells (I10.out.box 2 rfl)
  go_wp2_with fail
  refine (HTO1.out _ I10.out.bel).mono ?_
  rintro e w10 ⟨ge1, rfl, ho, hb⟩
  have I11 := Lib.hid (I10.out.pushOwn hb ho)
  clear ho hb
  clear u_a0_10 v_a0_10 x_a0_10 y_a0_10 z_a0_10 u_b0_10 v_b0_10 x_b0_10 y_b0_10 z_b0_10
  obtain ⟨u_a0_11, v_a0_11, x_a0_11, y_a0_11, z_a0_11⟩ := blk2cells (I11.out.box 7 rfl)
  obtain ⟨u_b0_11, v_b0_11, x_b0_11, y_b0_11, z_b0_11⟩ := blk2cells (I11.out.box 3 rfl)
  go_wp2_with fail
  refine (eqIntsB_any _ _ n1 _ _ xs1 _ Hn1.out (by omega) (owns_Rd (I11.out.own 2 rfl)) (owns_Rd (I11.out.own 0 rfl))).mono ?_
  rintro e w11 ⟨rfl, hb⟩
  have I12 := Lib.hid (I11.out.step hb)
  clear hb
  clear u_a0_11 v_a0_11 x_a0_11 y_a0_11 z_a0_11 u_b0_11 v_b0_11 x_b0_11 y_b0_11 z_b0_11
  obtain ⟨u_a0_12, v_a0_12, x_a0_12, y_a0_12, z_a0_12⟩ := blk2cells (I12.out.box 7 rfl)
  obtain ⟨u_b0_12, v_b0_12, x_b0_12, y_b0_12, z_b0_12⟩ := blk2cells (I12.out.box 3 rfl)
  go_wp2_with fail
  go_ret
  exact ⟨rfl, I12.out.bel⟩
end Go.Proofs.YtdkmdmpaflgfaaaGreatDoor
