/- FnExactCountMaps: the walk of the law (printed by mkl2.py) · arguments opened: slices of ints, rows of rows -/
import Derived.Test.YtocllmhkppkfoaaGreatDoorZad
import Derived.Test.YtocllmhkppkfoaaGreatDoorZaz
import Derived.Deep.RegionHeld3
import Derived.Test.YtocllmhkppkfoaaGreatDoorZac
import Derived.ProofKit
import Derived.Lib.SmallJoins
import Derived.Deep.Matrix
namespace Go.Proofs.YtocllmhkppkfoaaGreatDoor
open Go.RowKit

set_option maxRecDepth 100000 in
set_option maxHeartbeats 8000000 in
theorem lawCountMaps_any (A0 : Option Addr) (n0 c0 : Nat) (xs0 : List Int) (B0 : Option Addr) (m0 d0 : Nat) (L0 : List Row) (A1 : Option Addr) (n1 c1 : Nat) (xs1 : List Int) (B1 : Option Addr) (m1 d1 : Nat) (L1 : List Row) (w : World) (hT : Tab w) (hw : 0 < w.heap.size) (hn0 : n0 = xs0.length) (hs0 : n0 ≤ 9223372036854775807) (hR0 : Rd w A0 (iv xs0)) (hm0 : m0 = L0.length) (ht0 : m0 ≤ 9223372036854775807) (hl0 : ∀ i, i < L0.length → (rg L0 i).xs.length ≤ 9223372036854775807) (hQ0 : RdR w B0 L0) (hn1 : n1 = xs1.length) (hs1 : n1 ≤ 9223372036854775807) (hR1 : Rd w A1 (iv xs1)) (hm1 : m1 = L1.length) (ht1 : m1 ≤ 9223372036854775807) (hl1 : ∀ i, i < L1.length → (rg L1 i).xs.length ≤ 9223372036854775807) (hQ1 : RdR w B1 L1) :
    Calls Tryz.prog 3 #[.agg #[.slice A0 n0 c0, .slice B0 m0 d0], .agg #[.slice A1 n1 c1, .slice B1 m1 d1]] w fun e w' => e = .returned (.bool true) ∧ Below w.heap.size w w' := by
  have hI := ((Inw.start w).allocBox #[.slice A0 n0 c0, .slice B0 m0 d0] 25).allocBox #[.slice A1 n1 c1, .slice B1 m1 d1] 25
  simp only [World.size_alloc] at hI
  have I0 := Lib.hid hI
  clear hI
  have HT := Lib.hid hT
  clear hT
  have Hn0 := Lib.hid hn0
  have HR0 := Lib.hid hR0
  have Hm0 := Lib.hid hm0
  have HL0 := Lib.hid hl0
  have HQ0 := Lib.hid hQ0
  clear hn0 hR0 hm0 hl0 hQ0
  have Hn1 := Lib.hid hn1
  have HR1 := Lib.hid hR1
  have Hm1 := Lib.hid hm1
  have HL1 := Lib.hid hl1
  have HQ1 := Lib.hid hQ1
  clear hn1 hR1 hm1 hl1 hQ1
  go_enter Tryz.func3, Tryz.ntmps3
  go_wp2_with fail
  refine (szModule_any A0 B0 n0 c0 m0 d0 L0 (1048576) _ hs0 Hm0.out ht0 HL0.out (by omega) (by omega) (HQ0.out.below I0.out.bel)).mono ?_
  rintro e w1 ⟨z0, rfl, hz, hb⟩
  have I1 := Lib.hid (I0.out.step hb)
  clear hb
  obtain ⟨u_a0_1, v_a0_1, x_a0_1, y_a0_1, z_a0_1⟩ := blk2cells (I1.out.box 1 rfl)
  obtain ⟨u_a1_1, v_a1_1, x_a1_1, y_a1_1, z_a1_1⟩ := blk2cells (I1.out.box 0 rfl)
  rcases hz with rfl | ⟨hz0, hy0⟩
  · go_wp2_with fail
    go_ret
    exact ⟨rfl, I1.out.bel⟩
  have hi0 : ¬ z0 < 0 := by omega
  have hk0 : tot L0 ≤ 1048576 := by omega
  have HLL0 := Lib.hid (fun i (hi : i < L0.length) => Nat.le_trans (len_le_tot hi) hk0)
  go_wp2_with fail
  refine (szModule_any A1 B1 n1 c1 m1 d1 L1 (z0) _ hs1 Hm1.out ht1 HL1.out (by omega) (by omega) (HQ1.out.below I1.out.bel)).mono ?_
  rintro e w2 ⟨z1, rfl, hz, hb⟩
  have I2 := Lib.hid (I1.out.step hb)
  clear hb
  clear u_a0_1 v_a0_1 x_a0_1 y_a0_1 z_a0_1 u_a1_1 v_a1_1 x_a1_1 y_a1_1 z_a1_1
  obtain ⟨u_a0_2, v_a0_2, x_a0_2, y_a0_2, z_a0_2⟩ := blk2cells (I2.out.box 1 rfl)
  obtain ⟨u_a1_2, v_a1_2, x_a1_2, y_a1_2, z_a1_2⟩ := blk2cells (I2.out.box 0 rfl)
  rcases hz with rfl | ⟨hz1, hy1⟩
  · go_wp2_with fail
    go_ret
    exact ⟨rfl, I2.out.bel⟩
  have hi1 : ¬ z1 < 0 := by omega
  have hk1 : tot L1 ≤ 1048576 := by omega
  have HLL1 := Lib.hid (fun i (hi : i < L1.length) => Nat.le_trans (len_le_tot hi) hk1)
  have HTO0 := Lib.hid (fun W (hb : Below w.heap.size w W) => toModule_any A0 B0 n0 c0 m0 d0 xs0 L0 W Hn0.out (by omega) (HR0.out.below hb) Hm0.out (by omega) HLL0.out (HQ0.out.below hb))
  have HTO1 := Lib.hid (fun W (hb : Below w.heap.size w W) => toModule_any A1 B1 n1 c1 m1 d1 xs1 L1 W Hn1.out (by omega) (HR1.out.below hb) Hm1.out (by omega) HLL1.out (HQ1.out.below hb))
  obtain ⟨rr, hrr⟩ : ∃ rr, countMapsOf xs0 L0 xs1 L1 = rr := ⟨_, rfl⟩
  have HDD := Lib.hid (fun (M0 : List Row) (e0 : dat M0 = dat L0) (M1 : List Row) (e1 : dat M1 = dat L1) => (countMapsOf_dat e0 e1).trans hrr)
  clear hrr
  have hnb0 : n0 ≤ 1048576 := by omega
  have hmb0 : m0 ≤ 1048576 := by omega
  have hnb1 : n1 ≤ 1048576 := by omega
  have hmb1 : m1 ≤ 1048576 := by omega
  have HSP := Lib.hid (fun (W : World) (C0 : Option Addr) (r0 : Rd W C0 (iv xs0)) (E0 : Option Addr) (M0 : List Row) (e0 : dat M0 = dat L0) (q0 : RdR W E0 M0) (C1 : Option Addr) (r1 : Rd W C1 (iv xs1)) (E1 : Option Addr) (M1 : List Row) (e1 : dat M1 = dat L1) (q1 : RdR W E1 M1) => show Calls Tryz.prog 5 #[.agg #[.slice C0 n0 n0, .slice E0 m0 m0], .agg #[.slice C1 n1 n1, .slice E1 m1 m1]] W (ResI rr W) from by
    have h : Calls Tryz.prog 5 #[.agg #[.slice C0 n0 n0, .slice E0 m0 m0], .agg #[.slice C1 n1 n1, .slice E1 m1 m1]] W (ResI (countMapsOf xs0 M0 xs1 M1) W) := specCountMaps_any C0 n0 n0 xs0 E0 m0 m0 M0 C1 n1 n1 xs1 E1 m1 m1 M1 W Hn0.out (by omega) r0 (by rw [Hm0.out, (dat_xs e0).1]) (by omega) (by intro i hi; rw [(dat_xs e0).2 i]; exact HLL0.out i (by rw [← (dat_xs e0).1]; exact hi)) q0 Hn1.out (by omega) r1 (by rw [Hm1.out, (dat_xs e1).1]) (by omega) (by intro i hi; rw [(dat_xs e1).2 i]; exact HLL1.out i (by rw [← (dat_xs e1).1]; exact hi)) q1
    rw [HDD.out M0 e0 M1 e1] at h
    exact h)
  have HIM := Lib.hid (fun (W : World) (tb : Tab W) (tw : 0 < W.heap.size) (C0 : Option Addr) (r0 : Rd W C0 (iv xs0)) (E0 : Option Addr) (M0 : List Row) (e0 : dat M0 = dat L0) (q0 : RdR W E0 M0) (C1 : Option Addr) (r1 : Rd W C1 (iv xs1)) (E1 : Option Addr) (M1 : List Row) (e1 : dat M1 = dat L1) (q1 : RdR W E1 M1) => show Calls Tryz.prog 7 #[.agg #[.slice C0 n0 n0, .slice E0 m0 m0], .agg #[.slice C1 n1 n1, .slice E1 m1 m1]] W (ResI rr W) from by
    have h : Calls Tryz.prog 7 #[.agg #[.slice C0 n0 n0, .slice E0 m0 m0], .agg #[.slice C1 n1 n1, .slice E1 m1 m1]] W (ResI (countMapsOf xs0 M0 xs1 M1) W) := implCountMaps_any C0 n0 n0 xs0 E0 m0 m0 M0 C1 n1 n1 xs1 E1 m1 m1 M1 W tb tw Hn0.out (by omega) r0 (by rw [Hm0.out, (dat_xs e0).1]) (by omega) (by intro i hi; rw [(dat_xs e0).2 i]; exact HLL0.out i (by rw [← (dat_xs e0).1]; exact hi)) q0 Hn1.out (by omega) r1 (by rw [Hm1.out, (dat_xs e1).1]) (by omega) (by intro i hi; rw [(dat_xs e1).2 i]; exact HLL1.out i (by rw [← (dat_xs e1).1]; exact hi)) q1
    rw [HDD.out M0 e0 M1 e1] at h
    exact h)
  go_wp2_with fail
  clear hz0 hy0 hi0 hs0 ht0 hz1 hy1 hi1 hs1 ht1
  have KS2 := Lib.hid (fun w' (hb : Below w2.heap.size w2 w') => show w'.cell? ⟨w.heap.size, 0, none⟩ = some (.slice A0 n0 c0) ∧ w'.cell? ⟨w.heap.size, 1, none⟩ = some (.slice B0 m0 d0) ∧ w'.cell? ⟨w.heap.size + 1, 0, none⟩ = some (.slice A1 n1 c1) ∧ w'.cell? ⟨w.heap.size + 1, 1, none⟩ = some (.slice B1 m1 d1) from by
    have J := I2.out.step hb
    exact ⟨(blk2cells (J.box 1 rfl)).1, (blk2cells (J.box 1 rfl)).2.1, (blk2cells (J.box 0 rfl)).1, (blk2cells (J.box 0 rfl)).2.1⟩)
  have HB_0 := Lib.hid (Below.drew (Below.refl w2.heap.size w2))
  have I3 := Lib.hid I2.out.drew
  clear u_a0_2 v_a0_2 x_a0_2 y_a0_2 z_a0_2 u_a1_2 v_a1_2 x_a1_2 y_a1_2 z_a1_2
  go_region_held3 (fun w' => w'.cell? ⟨w.heap.size, 0, none⟩ = some (.slice A0 n0 c0) ∧ w'.cell? ⟨w.heap.size, 1, none⟩ = some (.slice B0 m0 d0) ∧ w'.cell? ⟨w.heap.size + 1, 0, none⟩ = some (.slice A1 n1 c1) ∧ w'.cell? ⟨w.heap.size + 1, 1, none⟩ = some (.slice B1 m1 d1))
      (first | exact KS2.out _ HB_0.out | exact KS2.out _ HB_1.out | exact KS2.out _ HB_2.out | exact KS2.out _ HB_3.out)
      (first
        | (go_at_call 6; (with_reducible refine (HTO0.out _ I3.out.bel).mono ?_); (rintro e w3 ⟨gs0, hs0, Ms0, rfl, hd, ho, hb⟩; have I4 := Lib.hid (I3.out.pushMod hb ho); have HDs0 := Lib.hid hd; clear hd; have HB_1 := Lib.hid (HB_0.out.trans (hb.mono HB_0.out.size)); clear ho hb))
        | (go_at_call 6; (with_reducible refine (HTO1.out _ I4.out.bel).mono ?_); (rintro e w4 ⟨gs1, hs1, Ms1, rfl, hd, ho, hb⟩; have I5 := Lib.hid (I4.out.pushMod hb ho); have HDs1 := Lib.hid hd; clear hd; have HB_2 := Lib.hid (HB_1.out.trans (hb.mono HB_1.out.size)); clear ho hb))
        | (go_at_call 5; (with_reducible refine (HSP.out _ _ (owns_Rd (by have h := (I5.out.mod 1 rfl).deg; rw [← Hn0.out] at h; exact h)) _ _ HDs0.out ((I5.out.mod 1 rfl).act.rd (by rw [Hm0.out, (dat_xs HDs0.out).1])) _ (owns_Rd (by have h := (I5.out.mod 0 rfl).deg; rw [← Hn1.out] at h; exact h)) _ _ HDs1.out ((I5.out.mod 0 rfl).act.rd (by rw [Hm1.out, (dat_xs HDs1.out).1]))).mono ?_); (rintro e w5 ⟨rfl, hb⟩; have HB_3 := Lib.hid (HB_2.out.trans (hb.mono HB_2.out.size)); have I6 := Lib.hid (I5.out.step hb); clear hb)))
  clear HB_0 HB_1 HB_2 HB_3 KS2
  obtain ⟨u_a0_6, v_a0_6, x_a0_6, y_a0_6, z_a0_6⟩ := blk2cells (I6.out.box 3 rfl)
  obtain ⟨u_a1_6, v_a1_6, x_a1_6, y_a1_6, z_a1_6⟩ := blk2cells (I6.out.box 2 rfl)
  go_wp2_with fail
  refine (HTO0.out _ I6.out.bel).mono ?_
  rintro e w6 ⟨gx0, hx0, Mx0, rfl, hd, ho, hb⟩
  have I7 := Lib.hid (I6.out.pushMod hb ho)
  have HDx0 := Lib.hid hd
  clear hd
  clear ho hb
  clear u_a0_6 v_a0_6 x_a0_6 y_a0_6 z_a0_6 u_a1_6 v_a1_6 x_a1_6 y_a1_6 z_a1_6
  obtain ⟨u_a0_7, v_a0_7, x_a0_7, y_a0_7, z_a0_7⟩ := blk2cells (I7.out.box 4 rfl)
  obtain ⟨u_a1_7, v_a1_7, x_a1_7, y_a1_7, z_a1_7⟩ := blk2cells (I7.out.box 3 rfl)
  go_wp2_with fail
  have hI := I7.out.allocBox #[.slice (some ⟨gx0, 0, none⟩) n0 n0, .slice (some ⟨hx0, 0, none⟩) m0 m0] 29
  refine (HTO1.out _ hI.bel).mono ?_
  rintro e w7 ⟨gx1, hx1, Mx1, rfl, hd, ho, hb⟩
  have I8 := Lib.hid (hI.pushMod hb ho)
  have HDx1 := Lib.hid hd
  clear hd
  clear ho hb
  clear hI
  clear u_a0_7 v_a0_7 x_a0_7 y_a0_7 z_a0_7 u_a1_7 v_a1_7 x_a1_7 y_a1_7 z_a1_7
  obtain ⟨u_a0_8, v_a0_8, x_a0_8, y_a0_8, z_a0_8⟩ := blk2cells (I8.out.box 6 rfl)
  obtain ⟨u_a1_8, v_a1_8, x_a1_8, y_a1_8, z_a1_8⟩ := blk2cells (I8.out.box 5 rfl)
  obtain ⟨u_b0_8, v_b0_8, x_b0_8, y_b0_8, z_b0_8⟩ := blk2cells (I8.out.box 1 rfl)
  go_wp2_with fail
  have hI := I8.out.allocBox #[.slice (some ⟨gx1, 0, none⟩) n1 n1, .slice (some ⟨hx1, 0, none⟩) m1 m1] 29
  refine (HIM.out _ (HT.out.below hI.bel hw) (by have := hI.size; omega) _ (owns_Rd (by have h := (hI.mod 3 rfl).deg; rw [← Hn0.out] at h; exact h)) _ _ HDx0.out ((hI.mod 3 rfl).act.rd (by rw [Hm0.out, (dat_xs HDx0.out).1])) _ (owns_Rd (by have h := (hI.mod 1 rfl).deg; rw [← Hn1.out] at h; exact h)) _ _ HDx1.out ((hI.mod 1 rfl).act.rd (by rw [Hm1.out, (dat_xs HDx1.out).1]))).mono ?_
  rintro e w8 ⟨rfl, hb⟩
  have I9 := Lib.hid (hI.step hb)
  clear hb
  clear hI
  clear u_a0_8 v_a0_8 x_a0_8 y_a0_8 z_a0_8 u_a1_8 v_a1_8 x_a1_8 y_a1_8 z_a1_8 u_b0_8 v_b0_8 x_b0_8 y_b0_8 z_b0_8
  obtain ⟨u_a0_9, v_a0_9, x_a0_9, y_a0_9, z_a0_9⟩ := blk2cells (I9.out.box 7 rfl)
  obtain ⟨u_a1_9, v_a1_9, x_a1_9, y_a1_9, z_a1_9⟩ := blk2cells (I9.out.box 6 rfl)
  obtain ⟨u_b0_9, v_b0_9, x_b0_9, y_b0_9, z_b0_9⟩ := blk2cells (I9.out.box 2 rfl)
  obtain ⟨u_b1_9, v_b1_9, x_b1_9, y_b1_9, z_b1_9⟩ := blk2cells (I9.out.box 0 rfl)
  go_wp2_with fail
  have KS := Lib.hid (fun w' (hb : Below w8.heap.size w8 w') => show w'.cell? ⟨w6.heap.size, 0, none⟩ = some (.slice (some ⟨gx0, 0, none⟩) n0 n0) ∧ w'.cell? ⟨w6.heap.size, 1, none⟩ = some (.slice (some ⟨hx0, 0, none⟩) m0 m0) ∧ w'.cell? ⟨w.heap.size, 0, none⟩ = some (.slice A0 n0 c0) ∧ w'.cell? ⟨w.heap.size, 1, none⟩ = some (.slice B0 m0 d0) from by
    have J := I9.out.step hb
    exact ⟨(blk2cells (J.box 2 rfl)).1, (blk2cells (J.box 2 rfl)).2.1, (blk2cells (J.box 7 rfl)).1, (blk2cells (J.box 7 rfl)).2.1⟩)
  have HB_0 := Lib.hid (Below.drew (Below.refl w8.heap.size w8))
  have I10 := Lib.hid I9.out.drew
  clear u_a0_9 v_a0_9 x_a0_9 y_a0_9 z_a0_9 u_a1_9 v_a1_9 x_a1_9 y_a1_9 z_a1_9 u_b0_9 v_b0_9 x_b0_9 y_b0_9 z_b0_9 u_b1_9 v_b1_9 x_b1_9 y_b1_9 z_b1_9
  go_region_held3 (fun w' => w'.cell? ⟨w6.heap.size, 0, none⟩ = some (.slice (some ⟨gx0, 0, none⟩) n0 n0) ∧ w'.cell? ⟨w6.heap.size, 1, none⟩ = some (.slice (some ⟨hx0, 0, none⟩) m0 m0) ∧ w'.cell? ⟨w.heap.size, 0, none⟩ = some (.slice A0 n0 c0) ∧ w'.cell? ⟨w.heap.size, 1, none⟩ = some (.slice B0 m0 d0))
      (first | exact KS.out _ HB_0.out | exact KS.out _ HB_1.out | exact KS.out _ HB_2.out)
      (first
        | (go_at_call 6; (with_reducible refine (HTO0.out _ I10.out.bel).mono ?_); (rintro e w9 ⟨ge0, he0, Me0, rfl, hd, ho, hb⟩; have I11 := Lib.hid (I10.out.pushMod hb ho); have HDe0 := Lib.hid hd; have HB_1 := Lib.hid (HB_0.out.trans (hb.mono HB_0.out.size)); clear ho hb hd))
        | (go_at_call 8; (with_reducible refine (eqModule_any _ _ _ _ n0 n0 n0 m0 m0 m0 xs0 _ _ _ Hn0.out (by omega) (by rw [Hm0.out, (dat_xs HDx0.out).1]) (by omega) (by intro i hi; rw [(dat_xs HDx0.out).2 i]; exact HLL0.out i (by rw [← (dat_xs HDx0.out).1]; exact hi)) (HDe0.out.trans HDx0.out.symm) (owns_Rd (by have h := (I11.out.mod 4 rfl).deg; rw [← Hn0.out] at h; exact h)) (owns_Rd (by have h := (I11.out.mod 0 rfl).deg; rw [← Hn0.out] at h; exact h)) ((I11.out.mod 4 rfl).act.rd (by rw [Hm0.out, (dat_xs HDx0.out).1])) ((I11.out.mod 0 rfl).act.rd (by rw [Hm0.out, (dat_xs HDe0.out).1]))).mono ?_); (rintro e w10 ⟨rfl, hb⟩; have I12 := Lib.hid (I11.out.step hb); have HB_2 := Lib.hid (HB_1.out.trans (hb.mono HB_1.out.size)); clear hb)))
  clear HB_0 HB_1 HB_2 KS
  obtain ⟨u_a0_12, v_a0_12, x_a0_12, y_a0_12, z_a0_12⟩ := blk2cells (I12.out.box 8 rfl)
  obtain ⟨u_a1_12, v_a1_12, x_a1_12, y_a1_12, z_a1_12⟩ := blk2cells (I12.out.box 7 rfl)
  obtain ⟨u_b0_12, v_b0_12, x_b0_12, y_b0_12, z_b0_12⟩ := blk2cells (I12.out.box 3 rfl)
  obtain ⟨u_b1_12, v_b1_12, x_b1_12, y_b1_12, z_b1_12⟩ := blk2cells (I12.out.box 1 rfl)
  go_wp2_with fail
  have KS := Lib.hid (fun w' (hb : Below w10.heap.size w10 w') => show w'.cell? ⟨w7.heap.size, 0, none⟩ = some (.slice (some ⟨gx1, 0, none⟩) n1 n1) ∧ w'.cell? ⟨w7.heap.size, 1, none⟩ = some (.slice (some ⟨hx1, 0, none⟩) m1 m1) ∧ w'.cell? ⟨w.heap.size + 1, 0, none⟩ = some (.slice A1 n1 c1) ∧ w'.cell? ⟨w.heap.size + 1, 1, none⟩ = some (.slice B1 m1 d1) from by
    have J := I12.out.step hb
    exact ⟨(blk2cells (J.box 1 rfl)).1, (blk2cells (J.box 1 rfl)).2.1, (blk2cells (J.box 7 rfl)).1, (blk2cells (J.box 7 rfl)).2.1⟩)
  have HB_0 := Lib.hid (Below.drew (Below.refl w10.heap.size w10))
  have I13 := Lib.hid I12.out.drew
  clear u_a0_12 v_a0_12 x_a0_12 y_a0_12 z_a0_12 u_a1_12 v_a1_12 x_a1_12 y_a1_12 z_a1_12 u_b0_12 v_b0_12 x_b0_12 y_b0_12 z_b0_12 u_b1_12 v_b1_12 x_b1_12 y_b1_12 z_b1_12
  go_region_held3 (fun w' => w'.cell? ⟨w7.heap.size, 0, none⟩ = some (.slice (some ⟨gx1, 0, none⟩) n1 n1) ∧ w'.cell? ⟨w7.heap.size, 1, none⟩ = some (.slice (some ⟨hx1, 0, none⟩) m1 m1) ∧ w'.cell? ⟨w.heap.size + 1, 0, none⟩ = some (.slice A1 n1 c1) ∧ w'.cell? ⟨w.heap.size + 1, 1, none⟩ = some (.slice B1 m1 d1))
      (first | exact KS.out _ HB_0.out | exact KS.out _ HB_1.out | exact KS.out _ HB_2.out)
      (first
        | (go_at_call 6; (with_reducible refine (HTO1.out _ I13.out.bel).mono ?_); (rintro e w11 ⟨ge1, he1, Me1, rfl, hd, ho, hb⟩; have I14 := Lib.hid (I13.out.pushMod hb ho); have HDe1 := Lib.hid hd; have HB_1 := Lib.hid (HB_0.out.trans (hb.mono HB_0.out.size)); clear ho hb hd))
        | (go_at_call 8; (with_reducible refine (eqModule_any _ _ _ _ n1 n1 n1 m1 m1 m1 xs1 _ _ _ Hn1.out (by omega) (by rw [Hm1.out, (dat_xs HDx1.out).1]) (by omega) (by intro i hi; rw [(dat_xs HDx1.out).2 i]; exact HLL1.out i (by rw [← (dat_xs HDx1.out).1]; exact hi)) (HDe1.out.trans HDx1.out.symm) (owns_Rd (by have h := (I14.out.mod 3 rfl).deg; rw [← Hn1.out] at h; exact h)) (owns_Rd (by have h := (I14.out.mod 0 rfl).deg; rw [← Hn1.out] at h; exact h)) ((I14.out.mod 3 rfl).act.rd (by rw [Hm1.out, (dat_xs HDx1.out).1])) ((I14.out.mod 0 rfl).act.rd (by rw [Hm1.out, (dat_xs HDe1.out).1]))).mono ?_); (rintro e w12 ⟨rfl, hb⟩; have I15 := Lib.hid (I14.out.step hb); have HB_2 := Lib.hid (HB_1.out.trans (hb.mono HB_1.out.size)); clear hb)))
  clear HB_0 HB_1 HB_2 KS
  obtain ⟨u_a0_15, v_a0_15, x_a0_15, y_a0_15, z_a0_15⟩ := blk2cells (I15.out.box 9 rfl)
  obtain ⟨u_a1_15, v_a1_15, x_a1_15, y_a1_15, z_a1_15⟩ := blk2cells (I15.out.box 8 rfl)
  obtain ⟨u_b0_15, v_b0_15, x_b0_15, y_b0_15, z_b0_15⟩ := blk2cells (I15.out.box 4 rfl)
  obtain ⟨u_b1_15, v_b1_15, x_b1_15, y_b1_15, z_b1_15⟩ := blk2cells (I15.out.box 2 rfl)
  go_wp2_with fail
  go_ret
  exact ⟨rfl, I15.out.bel⟩
end Go.Proofs.YtocllmhkppkfoaaGreatDoor

namespace Go.Proofs.YtocllmhkppkfoaaGreatDoor
open Go.ChangeShapes Go.WideShapes Go.ChangeAt Go.RowKit Go.Joins Go.Deep

section
variable {H : Type} {enc : TypeId × Value → H} {P : Program} {w : World} {base : Nat} {held : Bool}
/-- cells from an address on, as a list -/
theorem Rd_of_cells {a : Addr} {vs : List Value} (h : ∀ j v, vs[j]? = some v → w.cell? (a.add j) = some v) : Rd w (some a) vs := by
  by_cases h0 : vs = []
  · exact .inl h0
  · right
    obtain ⟨b, off, spot⟩ := a
    obtain ⟨v, vs', rfl⟩ : ∃ v vs', vs = v :: vs' := by cases vs with | nil => exact absurd rfl h0 | cons v vs' => exact ⟨v, vs', rfl⟩
    have h1 := h 0 v rfl
    have hspot : spot = none := by simpa [Addr.add] using World.cell?_spot h1
    subst hspot
    refine ⟨b, off, rfl, fun j u hj => ?_⟩
    have := h j u hj
    rwa [Addr.add_lit] at this
theorem ints_Rd {fuel : Nat} {t e : TypeId} {v : Value} {y : DataW H × List MemPlace} (ht : P.underlying t = some (.slice e)) (he : P.underlying e = some (.int .i64)) (hc : P.cellsOf e = 1)
    (hf : DataW.trod enc P w base (fun _ => true) held fuel t [v] = some y) :
    ∃ A n c xs, v = .slice A n c ∧ n = xs.length ∧ n ≤ maxLen ∧ Rd w A (iv xs) ∧ ∀ x ∈ xs, (Lit.int .i64 x).wf = true := by
  rcases open_ints ht he hc hf with ⟨hcs, _⟩ | ⟨a, len, cap, zs, hcs, _, hl, hm, hz, _, hcell, hwz⟩
  · injection hcs with hcs _
    exact ⟨none, 0, 0, [], hcs, rfl, Nat.zero_le _, .inl rfl, by simp⟩
  · injection hcs with hcs _
    simp only [if_true] at hz
    refine ⟨some a, len, cap, zs.take len, hcs, by rw [List.length_take, hz]; omega, by omega, ?_, fun x hx => hwz x (List.mem_of_mem_take hx)⟩
    refine Rd_of_cells fun j v hj => ?_
    have hjl : j < len := by
      have := (List.getElem?_eq_some_iff.1 hj).1
      simp [iv] at this; omega
    have h2 := hcell j (by omega)
    rw [h2]
    simp only [iv, List.getElem?_map, List.getElem?_take, hjl, if_true] at hj
    rw [List.getElem?_eq_getElem (show j < zs.length by omega)] at hj
    simp only [Option.map_some] at hj
    rw [← hj, List.getD, List.getElem?_eq_getElem (show j < zs.length by omega)]
    rfl
theorem open_intsl {r : Reach} {b0 : Nat} {t e : TypeId} {v : Value} {d : DataW H} {p : List MemPlace} (ht : P.underlying t = some (.slice e)) (he : P.underlying e = some (.int .i64)) (hc : P.cellsOf e = 1)
    (hv : Value.okWide P w r b0 t v) (h : DataW.Trod enc P w base (fun _ => true) held t v d p) :
    ∃ A n c xs, v = .slice A n c ∧ n = xs.length ∧ n ≤ maxLen ∧ Rd w A (iv xs) ∧ ∀ x ∈ xs, (Lit.int .i64 x).wf = true := by
  obtain ⟨a0, len0, cap0, rfl⟩ := okWide_slice ht hv
  obtain ⟨fuel, hf⟩ := h
  exact ints_Rd ht he hc hf

theorem rg_range (n : Nat) (f : Nat → Row) (i : Nat) (h : i < n) : rg ((List.range n).map f) i = f i := by
  simp [rg, List.getD, h]
theorem rows_RdR {fuel : Nat} {t e q : TypeId} {v : Value} {y : DataW H × List MemPlace} (ht : P.underlying t = some (.slice e)) (he : P.underlying e = some (.slice q)) (hq : P.underlying q = some (.int .i64)) (ce : P.cellsOf e = 1) (cq : P.cellsOf q = 1)
    (hf : DataW.trod enc P w base (fun _ => true) held fuel t [v] = some y) :
    ∃ A n c L, v = .slice A n c ∧ n = L.length ∧ n ≤ maxLen ∧ RdR w A L ∧ ∀ i, i < L.length → (rg L i).xs.length ≤ maxLen := by
  rcases open_int_rows ht he hq ce cq hf with ⟨hcs, _⟩ | ⟨a, len, cap, A, Ln, C, Z, hcs, _, hl, hm, _, hr⟩
  · injection hcs with hcs _
    exact ⟨none, 0, 0, [], hcs, rfl, Nat.zero_le _, ⟨.inl rfl, (fun i hi => by cases hi), (fun i hi => by cases hi)⟩, (fun i hi => by cases hi)⟩
  · injection hcs with hcs _
    have hlen : ∀ r, r < len → ((Z r).take (Ln r)).length = Ln r := fun r h => by
      obtain ⟨_, h2, _, h4, _⟩ := hr r (by omega)
      rw [List.length_take, h4]; omega
    refine ⟨some a, len, cap, (List.range len).map fun r => ⟨A r, C r, (Z r).take (Ln r)⟩, hcs, by simp, by omega, ⟨?_, ?_, ?_⟩, ?_⟩
    · refine Rd_of_cells fun j v hj => ?_
      have hjl : j < len := by
        have := (List.getElem?_eq_some_iff.1 hj).1
        simp [hv] at this; exact this
      rw [hv_get (by simpa using hjl), rg_range _ _ _ hjl] at hj
      obtain ⟨h1, _⟩ := hr j (by omega)
      rw [h1, ← hj, Row.val]
      simp only [hlen j hjl]
    · intro i hi
      have hil : i < len := by simpa using hi
      rw [rg_range _ _ _ hil]
      obtain ⟨_, h2, _, h4, _, h6, h7⟩ := hr i (by omega)
      simp only
      cases hA : A i with
      | none =>
        have := h6 hA
        left
        have : ((Z i).take (Ln i)) = [] := List.eq_nil_of_length_eq_zero (by rw [hlen i hil]; omega)
        rw [this]; rfl
      | some a' =>
        refine Rd_of_cells fun j v hj => ?_
        have hjl : j < Ln i := by
          have := (List.getElem?_eq_some_iff.1 hj).1
          rw [iv_length, hlen i hil] at this; exact this
        have h3 := (h7 a' hA).2 j (by omega)
        rw [h3]
        simp only [iv, List.getElem?_map, List.getElem?_take, hjl, if_true] at hj
        rw [List.getElem?_eq_getElem (show j < (Z i).length by omega)] at hj
        simp only [Option.map_some] at hj
        rw [← hj, List.getD, List.getElem?_eq_getElem (show j < (Z i).length by omega)]
        rfl
    · intro i hi
      have hil : i < len := by simpa using hi
      rw [rg_range _ _ _ hil]
      obtain ⟨_, h2, h3, _⟩ := hr i (by omega)
      simp only [hlen i hil]; exact h2
    · intro i hi
      have hil : i < len := by simpa using hi
      rw [rg_range _ _ _ hil]
      obtain ⟨_, h2, h3, _⟩ := hr i (by omega)
      simp only [hlen i hil]; omega
theorem open_rowsl {r : Reach} {b0 : Nat} {t e q : TypeId} {v : Value} {d : DataW H} {p : List MemPlace} (ht : P.underlying t = some (.slice e)) (he : P.underlying e = some (.slice q)) (hq : P.underlying q = some (.int .i64)) (ce : P.cellsOf e = 1) (cq : P.cellsOf q = 1)
    (hv : Value.okWide P w r b0 t v) (h : DataW.Trod enc P w base (fun _ => true) held t v d p) :
    ∃ A n c L, v = .slice A n c ∧ n = L.length ∧ n ≤ maxLen ∧ RdR w A L ∧ ∀ i, i < L.length → (rg L i).xs.length ≤ maxLen := by
  obtain ⟨a0, len0, cap0, rfl⟩ := okWide_slice ht hv
  obtain ⟨fuel, hf⟩ := h
  exact rows_RdR ht he hq ce cq hf
/-- a struct of a slice of ints and rows of rows: a module -/
theorem open_module {r : Reach} {b0 : Nat} {t q : TypeId} {f0 f1 : Field} {v : Value} {d : DataW H} {p : List MemPlace} (hs : P.underlying t = some (.struct #[f0, f1])) (hone : oneCellFields P #[f0, f1] = true) (hC : P.cellsOf t = 2)
    (h0 : P.underlying f0.type = some (.slice q)) (h1 : P.underlying f1.type = some (.slice f0.type)) (hq : P.underlying q = some (.int .i64)) (c0 : P.cellsOf f0.type = 1) (cq : P.cellsOf q = 1)
    (hv : Value.okWide P w r b0 t v) (h : DataW.Trod enc P w base (fun _ => true) held t v d p) :
    ∃ A n c xs A' n' c' L, v = .agg #[.slice A n c, .slice A' n' c'] ∧ n = xs.length ∧ n ≤ maxLen ∧ Rd w A (iv xs) ∧ n' = L.length ∧ n' ≤ maxLen ∧ RdR w A' L ∧ ∀ i, i < L.length → (rg L i).xs.length ≤ maxLen := by
  obtain ⟨c0', c1', y0, y1, m, rfl, rfl, rfl, hy0, hy1⟩ := open_agg2 hs hone hC hv h
  obtain ⟨A, n, c, xs, rfl, hn, hm, hR, hwf⟩ := ints_Rd h0 hq cq hy0
  obtain ⟨A', n', c', L, rfl, hn', hm', hR', hl'⟩ := rows_RdR h1 h0 hq c0 cq hy1
  exact ⟨A, n, c, xs, A', n', c', L, rfl, hn, hm, hR, hn', hm', hR', hl'⟩
end
end Go.Proofs.YtocllmhkppkfoaaGreatDoor
