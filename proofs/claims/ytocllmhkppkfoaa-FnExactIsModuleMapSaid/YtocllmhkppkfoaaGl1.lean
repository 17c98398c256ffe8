/- FnExactIsModuleMap: the walk of the law (printed by mkl2.py) -/
import Derived.Test.YtocllmhkppkfoaaLw2
import Derived.Test.YtocllmhkppkfoaaGj
import Derived.Deep.RegionHeld3
namespace Go.Proofs.Ytocllmhkppkfoaa
open Go.RowKit

set_option maxRecDepth 100000 in
set_option maxHeartbeats 8000000 in
theorem lawIsModuleMap_any (A0 : Option Addr) (n0 c0 : Nat) (xs0 : List Int) (B0 : Option Addr) (m0 d0 : Nat) (L0 : List Row) (A1 : Option Addr) (n1 c1 : Nat) (xs1 : List Int) (B1 : Option Addr) (m1 d1 : Nat) (L1 : List Row) (A2 : Option Addr) (n2 c2 : Nat) (L2 : List Row) (w : World) (hn0 : n0 = xs0.length) (hs0 : n0 ≤ 9223372036854775807) (hR0 : Rd w A0 (iv xs0)) (hm0 : m0 = L0.length) (ht0 : m0 ≤ 9223372036854775807) (hl0 : ∀ i, i < L0.length → (rg L0 i).xs.length ≤ 9223372036854775807) (hQ0 : RdR w B0 L0) (hn1 : n1 = xs1.length) (hs1 : n1 ≤ 9223372036854775807) (hR1 : Rd w A1 (iv xs1)) (hm1 : m1 = L1.length) (ht1 : m1 ≤ 9223372036854775807) (hl1 : ∀ i, i < L1.length → (rg L1 i).xs.length ≤ 9223372036854775807) (hQ1 : RdR w B1 L1) (hn2 : n2 = L2.length) (hs2 : n2 ≤ 9223372036854775807) (hl2 : ∀ i, i < L2.length → (rg L2 i).xs.length ≤ 9223372036854775807) (hR2 : RdR w A2 L2) :
    Calls Try.prog 6 #[.agg #[.slice A0 n0 c0, .slice B0 m0 d0], .agg #[.slice A1 n1 c1, .slice B1 m1 d1], .slice A2 n2 c2] w fun e w' => e = .returned (.bool true) ∧ Below w.heap.size w w' := by
  have hI := ((Inw.start w).allocBox #[.slice A0 n0 c0, .slice B0 m0 d0] 41).allocBox #[.slice A1 n1 c1, .slice B1 m1 d1] 41
  simp only [World.size_alloc] at hI
  have I0 := Lib.hid hI
  clear hI
  have Hn0 := Lib.hid hn0
  have HR0 := Lib.hid hR0
  have Hm0 := Lib.hid hm0
  have HL0 := Lib.hid hl0
  have HQ0 := Lib.hid hQ0
  clear hn0 hR0 hm0 hl0 hQ0
  have Hn1 := Lib.hid hn1
  have HR1 := Lib.hid hR1
  have Hm1 := Lib.hid hm1
  have HL1 := Lib.hid hl1
  have HQ1 := Lib.hid hQ1
  clear hn1 hR1 hm1 hl1 hQ1
  have Hn2 := Lib.hid hn2
  have HR2 := Lib.hid hR2
  have HL2 := Lib.hid hl2
  clear hn2 hR2 hl2
  go_enter Try.func6, Try.ntmps6
  go_wp2_with fail
  refine (szModule_any A0 B0 n0 c0 m0 d0 L0 (1048576) _ hs0 Hm0.out ht0 HL0.out (by omega) (by omega) (HQ0.out.below I0.out.bel)).mono ?_
  rintro e w1 ⟨z0, rfl, hz, hb⟩
  have I1 := Lib.hid (I0.out.step hb)
  clear hb
  obtain ⟨u_a0_1, v_a0_1, x_a0_1, y_a0_1, z_a0_1⟩ := blk2cells (I1.out.box 1 rfl)
  obtain ⟨u_a1_1, v_a1_1, x_a1_1, y_a1_1, z_a1_1⟩ := blk2cells (I1.out.box 0 rfl)
  rcases hz with rfl | ⟨hz0, hy0⟩
  · go_wp2_with fail
    go_ret
    exact ⟨rfl, I1.out.bel⟩
  have hi0 : ¬ z0 < 0 := by omega
  have hk0 : tot L0 ≤ 1048576 := by omega
  have HLL0 := Lib.hid (fun i (hi : i < L0.length) => Nat.le_trans (len_le_tot hi) hk0)
  go_wp2_with fail
  refine (szModule_any A1 B1 n1 c1 m1 d1 L1 (z0) _ hs1 Hm1.out ht1 HL1.out (by omega) (by omega) (HQ1.out.below I1.out.bel)).mono ?_
  rintro e w2 ⟨z1, rfl, hz, hb⟩
  have I2 := Lib.hid (I1.out.step hb)
  clear hb
  clear u_a0_1 v_a0_1 x_a0_1 y_a0_1 z_a0_1 u_a1_1 v_a1_1 x_a1_1 y_a1_1 z_a1_1
  obtain ⟨u_a0_2, v_a0_2, x_a0_2, y_a0_2, z_a0_2⟩ := blk2cells (I2.out.box 1 rfl)
  obtain ⟨u_a1_2, v_a1_2, x_a1_2, y_a1_2, z_a1_2⟩ := blk2cells (I2.out.box 0 rfl)
  rcases hz with rfl | ⟨hz1, hy1⟩
  · go_wp2_with fail
    go_ret
    exact ⟨rfl, I2.out.bel⟩
  have hi1 : ¬ z1 < 0 := by omega
  have hk1 : tot L1 ≤ 1048576 := by omega
  have HLL1 := Lib.hid (fun i (hi : i < L1.length) => Nat.le_trans (len_le_tot hi) hk1)
  go_wp2_with fail
  refine (szRows_any A2 n2 c2 L2 (z1) _ Hn2.out hs2 HL2.out (by omega) (by omega) (HR2.out.below I2.out.bel)).mono ?_
  rintro e w3 ⟨z2, rfl, hz, rfl⟩
  rcases hz with rfl | ⟨hz2, hy2⟩
  · go_wp2_with fail
    go_ret
    exact ⟨rfl, I2.out.bel⟩
  have hi2 : ¬ z2 < 0 := by omega
  have hk2 : tot L2 ≤ 1048576 := by omega
  have HLL2 := Lib.hid (fun i (hi : i < L2.length) => Nat.le_trans (len_le_tot hi) hk2)
  have HTO0 := Lib.hid (fun W (hb : Below w.heap.size w W) => toModule_any A0 B0 n0 c0 m0 d0 xs0 L0 W Hn0.out (by omega) (HR0.out.below hb) Hm0.out (by omega) HLL0.out (HQ0.out.below hb))
  have HTO1 := Lib.hid (fun W (hb : Below w.heap.size w W) => toModule_any A1 B1 n1 c1 m1 d1 xs1 L1 W Hn1.out (by omega) (HR1.out.below hb) Hm1.out (by omega) HLL1.out (HQ1.out.below hb))
  have HTO2 := Lib.hid (fun W (hb : Below w.heap.size w W) => toRows_any A2 n2 c2 L2 W Hn2.out (by omega) HLL2.out (HR2.out.below hb))
  obtain ⟨rr, hrr⟩ : ∃ rr, isModuleMapOf xs0 L0 xs1 L1 L2 = rr := ⟨_, rfl⟩
  have HDD := Lib.hid (fun (M0 : List Row) (e0 : dat M0 = dat L0) (M1 : List Row) (e1 : dat M1 = dat L1) (M2 : List Row) (e2 : dat M2 = dat L2) => (isModuleMapOf_dat e0 e1 e2).trans hrr)
  clear hrr
  have hnb0 : n0 ≤ 1048576 := by omega
  have hmb0 : m0 ≤ 1048576 := by omega
  have hnb1 : n1 ≤ 1048576 := by omega
  have hmb1 : m1 ≤ 1048576 := by omega
  have hnb2 : n2 ≤ 1048576 := by omega
  have HSP := Lib.hid (fun (W : World) (C0 : Option Addr) (r0 : Rd W C0 (iv xs0)) (E0 : Option Addr) (M0 : List Row) (e0 : dat M0 = dat L0) (q0 : RdR W E0 M0) (C1 : Option Addr) (r1 : Rd W C1 (iv xs1)) (E1 : Option Addr) (M1 : List Row) (e1 : dat M1 = dat L1) (q1 : RdR W E1 M1) (C2 : Option Addr) (M2 : List Row) (e2 : dat M2 = dat L2) (r2 : RdR W C2 M2) => show Calls Try.prog 29 #[.agg #[.slice C0 n0 n0, .slice E0 m0 m0], .agg #[.slice C1 n1 n1, .slice E1 m1 m1], .slice C2 n2 n2] W (ResB rr W) from by
    have h : Calls Try.prog 29 #[.agg #[.slice C0 n0 n0, .slice E0 m0 m0], .agg #[.slice C1 n1 n1, .slice E1 m1 m1], .slice C2 n2 n2] W (ResB (isModuleMapOf xs0 M0 xs1 M1 M2) W) := specIsModuleMap_any C0 n0 n0 xs0 E0 m0 m0 M0 C1 n1 n1 xs1 E1 m1 m1 M1 C2 n2 n2 M2 W Hn0.out (by omega) r0 (by rw [Hm0.out, (dat_xs e0).1]) (by omega) (by intro i hi; rw [(dat_xs e0).2 i]; exact HLL0.out i (by rw [← (dat_xs e0).1]; exact hi)) q0 Hn1.out (by omega) r1 (by rw [Hm1.out, (dat_xs e1).1]) (by omega) (by intro i hi; rw [(dat_xs e1).2 i]; exact HLL1.out i (by rw [← (dat_xs e1).1]; exact hi)) q1 (by rw [Hn2.out, (dat_xs e2).1]) (by omega) (by intro i hi; rw [(dat_xs e2).2 i]; exact HLL2.out i (by rw [← (dat_xs e2).1]; exact hi)) r2
    rw [HDD.out M0 e0 M1 e1 M2 e2] at h
    exact h)
  have HIM := Lib.hid (fun (W : World) (C0 : Option Addr) (r0 : Rd W C0 (iv xs0)) (E0 : Option Addr) (M0 : List Row) (e0 : dat M0 = dat L0) (q0 : RdR W E0 M0) (C1 : Option Addr) (r1 : Rd W C1 (iv xs1)) (E1 : Option Addr) (M1 : List Row) (e1 : dat M1 = dat L1) (q1 : RdR W E1 M1) (C2 : Option Addr) (M2 : List Row) (e2 : dat M2 = dat L2) (r2 : RdR W C2 M2) => show Calls Try.prog 30 #[.agg #[.slice C0 n0 n0, .slice E0 m0 m0], .agg #[.slice C1 n1 n1, .slice E1 m1 m1], .slice C2 n2 n2] W (ResB rr W) from by
    have h : Calls Try.prog 30 #[.agg #[.slice C0 n0 n0, .slice E0 m0 m0], .agg #[.slice C1 n1 n1, .slice E1 m1 m1], .slice C2 n2 n2] W (ResB (isModuleMapOf xs0 M0 xs1 M1 M2) W) := implIsModuleMap_any C0 n0 n0 xs0 E0 m0 m0 M0 C1 n1 n1 xs1 E1 m1 m1 M1 C2 n2 n2 M2 W Hn0.out (by omega) r0 (by rw [Hm0.out, (dat_xs e0).1]) (by omega) (by intro i hi; rw [(dat_xs e0).2 i]; exact HLL0.out i (by rw [← (dat_xs e0).1]; exact hi)) q0 Hn1.out (by omega) r1 (by rw [Hm1.out, (dat_xs e1).1]) (by omega) (by intro i hi; rw [(dat_xs e1).2 i]; exact HLL1.out i (by rw [← (dat_xs e1).1]; exact hi)) q1 (by rw [Hn2.out, (dat_xs e2).1]) (by omega) (by intro i hi; rw [(dat_xs e2).2 i]; exact HLL2.out i (by rw [← (dat_xs e2).1]; exact hi)) r2
    rw [HDD.out M0 e0 M1 e1 M2 e2] at h
    exact h)
  go_wp2_with fail
  clear hz0 hy0 hi0 hs0 ht0 hz1 hy1 hi1 hs1 ht1 hz2 hy2 hi2 hs2
  have KS2 := Lib.hid (fun w' (hb : Below w2.heap.size w2 w') => show w'.cell? ⟨w.heap.size, 0, none⟩ = some (.slice A0 n0 c0) ∧ w'.cell? ⟨w.heap.size, 1, none⟩ = some (.slice B0 m0 d0) ∧ w'.cell? ⟨w.heap.size + 1, 0, none⟩ = some (.slice A1 n1 c1) ∧ w'.cell? ⟨w.heap.size + 1, 1, none⟩ = some (.slice B1 m1 d1) from by
    have J := I2.out.step hb
    exact ⟨(blk2cells (J.box 1 rfl)).1, (blk2cells (J.box 1 rfl)).2.1, (blk2cells (J.box 0 rfl)).1, (blk2cells (J.box 0 rfl)).2.1⟩)
  have HB_0 := Lib.hid (Below.drew (Below.refl w2.heap.size w2))
  have I3 := Lib.hid I2.out.drew
  clear u_a0_2 v_a0_2 x_a0_2 y_a0_2 z_a0_2 u_a1_2 v_a1_2 x_a1_2 y_a1_2 z_a1_2
  go_region_held3 (fun w' => w'.cell? ⟨w.heap.size, 0, none⟩ = some (.slice A0 n0 c0) ∧ w'.cell? ⟨w.heap.size, 1, none⟩ = some (.slice B0 m0 d0) ∧ w'.cell? ⟨w.heap.size + 1, 0, none⟩ = some (.slice A1 n1 c1) ∧ w'.cell? ⟨w.heap.size + 1, 1, none⟩ = some (.slice B1 m1 d1))
      (first | exact KS2.out _ HB_0.out | exact KS2.out _ HB_1.out | exact KS2.out _ HB_2.out | exact KS2.out _ HB_3.out | exact KS2.out _ HB_4.out)
      (first
        | (go_at_call 26; (with_reducible refine (HTO0.out _ I3.out.bel).mono ?_); (rintro e w4 ⟨gs0, hs0, Ms0, rfl, hd, ho, hb⟩; have I4 := Lib.hid (I3.out.pushMod hb ho); have HDs0 := Lib.hid hd; clear hd; have HB_1 := Lib.hid (HB_0.out.trans (hb.mono HB_0.out.size)); clear ho hb))
        | (go_at_call 26; (with_reducible refine (HTO1.out _ I4.out.bel).mono ?_); (rintro e w5 ⟨gs1, hs1, Ms1, rfl, hd, ho, hb⟩; have I5 := Lib.hid (I4.out.pushMod hb ho); have HDs1 := Lib.hid hd; clear hd; have HB_2 := Lib.hid (HB_1.out.trans (hb.mono HB_1.out.size)); clear ho hb))
        | (go_at_call 11; (with_reducible refine (HTO2.out _ I5.out.bel).mono ?_); (rintro e w6 ⟨gs2, Ms2, rfl, hd, ho, hb⟩; have I6 := Lib.hid (I5.out.pushRows hb ho); have HDs2 := Lib.hid hd; clear hd; have HB_3 := Lib.hid (HB_2.out.trans (hb.mono HB_2.out.size)); clear ho hb))
        | (go_at_call 29; (with_reducible refine (HSP.out _ _ (owns_Rd (by have h := (I6.out.mod 2 rfl).deg; rw [← Hn0.out] at h; exact h)) _ _ HDs0.out ((I6.out.mod 2 rfl).act.rd (by rw [Hm0.out, (dat_xs HDs0.out).1])) _ (owns_Rd (by have h := (I6.out.mod 1 rfl).deg; rw [← Hn1.out] at h; exact h)) _ _ HDs1.out ((I6.out.mod 1 rfl).act.rd (by rw [Hm1.out, (dat_xs HDs1.out).1])) _ _ HDs2.out ((I6.out.rows 0 rfl).rd (by rw [Hn2.out, (dat_xs HDs2.out).1]))).mono ?_); (rintro e w7 ⟨rfl, hb⟩; have HB_4 := Lib.hid (HB_3.out.trans (hb.mono HB_3.out.size)); have I7 := Lib.hid (I6.out.step hb); clear hb)))
  clear HB_0 HB_1 HB_2 HB_3 HB_4 KS2
  obtain ⟨u_a0_7, v_a0_7, x_a0_7, y_a0_7, z_a0_7⟩ := blk2cells (I7.out.box 4 rfl)
  obtain ⟨u_a1_7, v_a1_7, x_a1_7, y_a1_7, z_a1_7⟩ := blk2cells (I7.out.box 3 rfl)
  go_wp2_with fail
  refine (HTO0.out _ I7.out.bel).mono ?_
  rintro e w8 ⟨gx0, hx0, Mx0, rfl, hd, ho, hb⟩
  have I8 := Lib.hid (I7.out.pushMod hb ho)
  have HDx0 := Lib.hid hd
  clear hd
  clear ho hb
  clear u_a0_7 v_a0_7 x_a0_7 y_a0_7 z_a0_7 u_a1_7 v_a1_7 x_a1_7 y_a1_7 z_a1_7
  obtain ⟨u_a0_8, v_a0_8, x_a0_8, y_a0_8, z_a0_8⟩ := blk2cells (I8.out.box 5 rfl)
  obtain ⟨u_a1_8, v_a1_8, x_a1_8, y_a1_8, z_a1_8⟩ := blk2cells (I8.out.box 4 rfl)
  go_wp2_with fail
  have hI := I8.out.allocBox #[.slice (some ⟨gx0, 0, none⟩) n0 n0, .slice (some ⟨hx0, 0, none⟩) m0 m0] 45
  refine (HTO1.out _ hI.bel).mono ?_
  rintro e w9 ⟨gx1, hx1, Mx1, rfl, hd, ho, hb⟩
  have I9 := Lib.hid (hI.pushMod hb ho)
  have HDx1 := Lib.hid hd
  clear hd
  clear ho hb
  clear hI
  clear u_a0_8 v_a0_8 x_a0_8 y_a0_8 z_a0_8 u_a1_8 v_a1_8 x_a1_8 y_a1_8 z_a1_8
  obtain ⟨u_a0_9, v_a0_9, x_a0_9, y_a0_9, z_a0_9⟩ := blk2cells (I9.out.box 7 rfl)
  obtain ⟨u_a1_9, v_a1_9, x_a1_9, y_a1_9, z_a1_9⟩ := blk2cells (I9.out.box 6 rfl)
  obtain ⟨u_b0_9, v_b0_9, x_b0_9, y_b0_9, z_b0_9⟩ := blk2cells (I9.out.box 1 rfl)
  go_wp2_with fail
  have hI := I9.out.allocBox #[.slice (some ⟨gx1, 0, none⟩) n1 n1, .slice (some ⟨hx1, 0, none⟩) m1 m1] 45
  refine (HTO2.out _ hI.bel).mono ?_
  rintro e w10 ⟨gx2, Mx2, rfl, hd, ho, hb⟩
  have I10 := Lib.hid (hI.pushRows hb ho)
  have HDx2 := Lib.hid hd
  clear hd
  clear ho hb
  clear hI
  clear u_a0_9 v_a0_9 x_a0_9 y_a0_9 z_a0_9 u_a1_9 v_a1_9 x_a1_9 y_a1_9 z_a1_9 u_b0_9 v_b0_9 x_b0_9 y_b0_9 z_b0_9
  obtain ⟨u_a0_10, v_a0_10, x_a0_10, y_a0_10, z_a0_10⟩ := blk2cells (I10.out.box 9 rfl)
  obtain ⟨u_a1_10, v_a1_10, x_a1_10, y_a1_10, z_a1_10⟩ := blk2cells (I10.out.box 8 rfl)
  obtain ⟨u_b0_10, v_b0_10, x_b0_10, y_b0_10, z_b0_10⟩ := blk2cells (I10.out.box 3 rfl)
  obtain ⟨u_b1_10, v_b1_10, x_b1_10, y_b1_10, z_b1_10⟩ := blk2cells (I10.out.box 1 rfl)
  go_wp2_with fail
  refine (HIM.out _ _ (owns_Rd (by have h := (I10.out.mod 4 rfl).deg; rw [← Hn0.out] at h; exact h)) _ _ HDx0.out ((I10.out.mod 4 rfl).act.rd (by rw [Hm0.out, (dat_xs HDx0.out).1])) _ (owns_Rd (by have h := (I10.out.mod 2 rfl).deg; rw [← Hn1.out] at h; exact h)) _ _ HDx1.out ((I10.out.mod 2 rfl).act.rd (by rw [Hm1.out, (dat_xs HDx1.out).1])) _ _ HDx2.out ((I10.out.rows 0 rfl).rd (by rw [Hn2.out, (dat_xs HDx2.out).1]))).mono ?_
  rintro e w11 ⟨rfl, hb⟩
  have I11 := Lib.hid (I10.out.step hb)
  clear hb
  clear u_a0_10 v_a0_10 x_a0_10 y_a0_10 z_a0_10 u_a1_10 v_a1_10 x_a1_10 y_a1_10 z_a1_10 u_b0_10 v_b0_10 x_b0_10 y_b0_10 z_b0_10 u_b1_10 v_b1_10 x_b1_10 y_b1_10 z_b1_10
  obtain ⟨u_a0_11, v_a0_11, x_a0_11, y_a0_11, z_a0_11⟩ := blk2cells (I11.out.box 9 rfl)
  obtain ⟨u_a1_11, v_a1_11, x_a1_11, y_a1_11, z_a1_11⟩ := blk2cells (I11.out.box 8 rfl)
  obtain ⟨u_b0_11, v_b0_11, x_b0_11, y_b0_11, z_b0_11⟩ := blk2cells (I11.out.box 3 rfl)
  obtain ⟨u_b1_11, v_b1_11, x_b1_11, y_b1_11, z_b1_11⟩ := blk2cells (I11.out.box 1 rfl)
  go_wp2_with fail
  have KS := Lib.hid (fun w' (hb : Below w11.heap.size w11 w') => show w'.cell? ⟨w8.heap.size, 0, none⟩ = some (.slice (some ⟨gx0, 0, none⟩) n0 n0) ∧ w'.cell? ⟨w8.heap.size, 1, none⟩ = some (.slice (some ⟨hx0, 0, none⟩) m0 m0) ∧ w'.cell? ⟨w.heap.size, 0, none⟩ = some (.slice A0 n0 c0) ∧ w'.cell? ⟨w.heap.size, 1, none⟩ = some (.slice B0 m0 d0) from by
    have J := I11.out.step hb
    exact ⟨(blk2cells (J.box 3 rfl)).1, (blk2cells (J.box 3 rfl)).2.1, (blk2cells (J.box 9 rfl)).1, (blk2cells (J.box 9 rfl)).2.1⟩)
  have HB_0 := Lib.hid (Below.drew (Below.refl w11.heap.size w11))
  have I12 := Lib.hid I11.out.drew
  clear u_a0_11 v_a0_11 x_a0_11 y_a0_11 z_a0_11 u_a1_11 v_a1_11 x_a1_11 y_a1_11 z_a1_11 u_b0_11 v_b0_11 x_b0_11 y_b0_11 z_b0_11 u_b1_11 v_b1_11 x_b1_11 y_b1_11 z_b1_11
  go_region_held3 (fun w' => w'.cell? ⟨w8.heap.size, 0, none⟩ = some (.slice (some ⟨gx0, 0, none⟩) n0 n0) ∧ w'.cell? ⟨w8.heap.size, 1, none⟩ = some (.slice (some ⟨hx0, 0, none⟩) m0 m0) ∧ w'.cell? ⟨w.heap.size, 0, none⟩ = some (.slice A0 n0 c0) ∧ w'.cell? ⟨w.heap.size, 1, none⟩ = some (.slice B0 m0 d0))
      (first | exact KS.out _ HB_0.out | exact KS.out _ HB_1.out | exact KS.out _ HB_2.out)
      (first
        | (go_at_call 26; (with_reducible refine (HTO0.out _ I12.out.bel).mono ?_); (rintro e w12 ⟨ge0, he0, Me0, rfl, hd, ho, hb⟩; have I13 := Lib.hid (I12.out.pushMod hb ho); have HDe0 := Lib.hid hd; have HB_1 := Lib.hid (HB_0.out.trans (hb.mono HB_0.out.size)); clear ho hb hd))
        | (go_at_call 28; (with_reducible refine (eqModule_any _ _ _ _ n0 n0 n0 m0 m0 m0 xs0 _ _ _ Hn0.out (by omega) (by rw [Hm0.out, (dat_xs HDx0.out).1]) (by omega) (by intro i hi; rw [(dat_xs HDx0.out).2 i]; exact HLL0.out i (by rw [← (dat_xs HDx0.out).1]; exact hi)) (HDe0.out.trans HDx0.out.symm) (owns_Rd (by have h := (I13.out.mod 5 rfl).deg; rw [← Hn0.out] at h; exact h)) (owns_Rd (by have h := (I13.out.mod 0 rfl).deg; rw [← Hn0.out] at h; exact h)) ((I13.out.mod 5 rfl).act.rd (by rw [Hm0.out, (dat_xs HDx0.out).1])) ((I13.out.mod 0 rfl).act.rd (by rw [Hm0.out, (dat_xs HDe0.out).1]))).mono ?_); (rintro e w13 ⟨rfl, hb⟩; have I14 := Lib.hid (I13.out.step hb); have HB_2 := Lib.hid (HB_1.out.trans (hb.mono HB_1.out.size)); clear hb)))
  clear HB_0 HB_1 HB_2 KS
  obtain ⟨u_a0_14, v_a0_14, x_a0_14, y_a0_14, z_a0_14⟩ := blk2cells (I14.out.box 10 rfl)
  obtain ⟨u_a1_14, v_a1_14, x_a1_14, y_a1_14, z_a1_14⟩ := blk2cells (I14.out.box 9 rfl)
  obtain ⟨u_b0_14, v_b0_14, x_b0_14, y_b0_14, z_b0_14⟩ := blk2cells (I14.out.box 4 rfl)
  obtain ⟨u_b1_14, v_b1_14, x_b1_14, y_b1_14, z_b1_14⟩ := blk2cells (I14.out.box 2 rfl)
  go_wp2_with fail
  have KS := Lib.hid (fun w' (hb : Below w13.heap.size w13 w') => show w'.cell? ⟨w9.heap.size, 0, none⟩ = some (.slice (some ⟨gx1, 0, none⟩) n1 n1) ∧ w'.cell? ⟨w9.heap.size, 1, none⟩ = some (.slice (some ⟨hx1, 0, none⟩) m1 m1) ∧ w'.cell? ⟨w.heap.size + 1, 0, none⟩ = some (.slice A1 n1 c1) ∧ w'.cell? ⟨w.heap.size + 1, 1, none⟩ = some (.slice B1 m1 d1) from by
    have J := I14.out.step hb
    exact ⟨(blk2cells (J.box 2 rfl)).1, (blk2cells (J.box 2 rfl)).2.1, (blk2cells (J.box 9 rfl)).1, (blk2cells (J.box 9 rfl)).2.1⟩)
  have HB_0 := Lib.hid (Below.drew (Below.refl w13.heap.size w13))
  have I15 := Lib.hid I14.out.drew
  clear u_a0_14 v_a0_14 x_a0_14 y_a0_14 z_a0_14 u_a1_14 v_a1_14 x_a1_14 y_a1_14 z_a1_14 u_b0_14 v_b0_14 x_b0_14 y_b0_14 z_b0_14 u_b1_14 v_b1_14 x_b1_14 y_b1_14 z_b1_14
  go_region_held3 (fun w' => w'.cell? ⟨w9.heap.size, 0, none⟩ = some (.slice (some ⟨gx1, 0, none⟩) n1 n1) ∧ w'.cell? ⟨w9.heap.size, 1, none⟩ = some (.slice (some ⟨hx1, 0, none⟩) m1 m1) ∧ w'.cell? ⟨w.heap.size + 1, 0, none⟩ = some (.slice A1 n1 c1) ∧ w'.cell? ⟨w.heap.size + 1, 1, none⟩ = some (.slice B1 m1 d1))
      (first | exact KS.out _ HB_0.out | exact KS.out _ HB_1.out | exact KS.out _ HB_2.out)
      (first
        | (go_at_call 26; (with_reducible refine (HTO1.out _ I15.out.bel).mono ?_); (rintro e w14 ⟨ge1, he1, Me1, rfl, hd, ho, hb⟩; have I16 := Lib.hid (I15.out.pushMod hb ho); have HDe1 := Lib.hid hd; have HB_1 := Lib.hid (HB_0.out.trans (hb.mono HB_0.out.size)); clear ho hb hd))
        | (go_at_call 28; (with_reducible refine (eqModule_any _ _ _ _ n1 n1 n1 m1 m1 m1 xs1 _ _ _ Hn1.out (by omega) (by rw [Hm1.out, (dat_xs HDx1.out).1]) (by omega) (by intro i hi; rw [(dat_xs HDx1.out).2 i]; exact HLL1.out i (by rw [← (dat_xs HDx1.out).1]; exact hi)) (HDe1.out.trans HDx1.out.symm) (owns_Rd (by have h := (I16.out.mod 4 rfl).deg; rw [← Hn1.out] at h; exact h)) (owns_Rd (by have h := (I16.out.mod 0 rfl).deg; rw [← Hn1.out] at h; exact h)) ((I16.out.mod 4 rfl).act.rd (by rw [Hm1.out, (dat_xs HDx1.out).1])) ((I16.out.mod 0 rfl).act.rd (by rw [Hm1.out, (dat_xs HDe1.out).1]))).mono ?_); (rintro e w15 ⟨rfl, hb⟩; have I17 := Lib.hid (I16.out.step hb); have HB_2 := Lib.hid (HB_1.out.trans (hb.mono HB_1.out.size)); clear hb)))
  clear HB_0 HB_1 HB_2 KS
  obtain ⟨u_a0_17, v_a0_17, x_a0_17, y_a0_17, z_a0_17⟩ := blk2cells (I17.out.box 11 rfl)
  obtain ⟨u_a1_17, v_a1_17, x_a1_17, y_a1_17, z_a1_17⟩ := blk2cells (I17.out.box 10 rfl)
  obtain ⟨u_b0_17, v_b0_17, x_b0_17, y_b0_17, z_b0_17⟩ := blk2cells (I17.out.box 5 rfl)
  obtain ⟨u_b1_17, v_b1_17, x_b1_17, y_b1_17, z_b1_17⟩ := blk2cells (I17.out.box 3 rfl)
  go_wp2_with fail
  refine (HTO2.out _ I17.out.bel).mono ?_
  rintro e w16 ⟨ge2, Me2, rfl, hd, ho, hb⟩
  have I18 := Lib.hid (I17.out.pushRows hb ho)
  have HDe2 := Lib.hid hd
  clear hd
  clear ho hb
  clear u_a0_17 v_a0_17 x_a0_17 y_a0_17 z_a0_17 u_a1_17 v_a1_17 x_a1_17 y_a1_17 z_a1_17 u_b0_17 v_b0_17 x_b0_17 y_b0_17 z_b0_17 u_b1_17 v_b1_17 x_b1_17 y_b1_17 z_b1_17
  obtain ⟨u_a0_18, v_a0_18, x_a0_18, y_a0_18, z_a0_18⟩ := blk2cells (I18.out.box 12 rfl)
  obtain ⟨u_a1_18, v_a1_18, x_a1_18, y_a1_18, z_a1_18⟩ := blk2cells (I18.out.box 11 rfl)
  obtain ⟨u_b0_18, v_b0_18, x_b0_18, y_b0_18, z_b0_18⟩ := blk2cells (I18.out.box 6 rfl)
  obtain ⟨u_b1_18, v_b1_18, x_b1_18, y_b1_18, z_b1_18⟩ := blk2cells (I18.out.box 4 rfl)
  go_wp2_with fail
  refine (eqRowsB_any _ _ n2 n2 _ _ _ _ _ (by rw [Hn2.out, (dat_xs HDx2.out).1]) (by rw [Hn2.out, (dat_xs HDe2.out).1]) (by omega) (by intro i hi; rw [(dat_xs HDx2.out).2 i]; exact Nat.le_trans (HLL2.out i (by rw [← (dat_xs HDx2.out).1]; exact hi)) (by omega)) (HDe2.out.trans HDx2.out.symm) ((I18.out.rows 3 rfl).rd (by rw [Hn2.out, (dat_xs HDx2.out).1])) ((I18.out.rows 0 rfl).rd (by rw [Hn2.out, (dat_xs HDe2.out).1]))).mono ?_
  rintro e w17 ⟨rfl, hb⟩
  have I19 := Lib.hid (I18.out.step hb)
  clear hb
  clear u_a0_18 v_a0_18 x_a0_18 y_a0_18 z_a0_18 u_a1_18 v_a1_18 x_a1_18 y_a1_18 z_a1_18 u_b0_18 v_b0_18 x_b0_18 y_b0_18 z_b0_18 u_b1_18 v_b1_18 x_b1_18 y_b1_18 z_b1_18
  obtain ⟨u_a0_19, v_a0_19, x_a0_19, y_a0_19, z_a0_19⟩ := blk2cells (I19.out.box 12 rfl)
  obtain ⟨u_a1_19, v_a1_19, x_a1_19, y_a1_19, z_a1_19⟩ := blk2cells (I19.out.box 11 rfl)
  obtain ⟨u_b0_19, v_b0_19, x_b0_19, y_b0_19, z_b0_19⟩ := blk2cells (I19.out.box 6 rfl)
  obtain ⟨u_b1_19, v_b1_19, x_b1_19, y_b1_19, z_b1_19⟩ := blk2cells (I19.out.box 4 rfl)
  go_wp2_with fail
  go_ret
  exact ⟨rfl, I19.out.bel⟩
end Go.Proofs.Ytocllmhkppkfoaa
