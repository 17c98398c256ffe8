/- FnExactComposeMaps: the walk of the law (printed by mkl2.py) -/
import Derived.Test.YtocllmhkppkfoaaLw2
import Derived.Test.YtocllmhkppkfoaaGj
import Derived.Deep.RegionHeld3
namespace Go.Proofs.Ytocllmhkppkfoaa
open Go.RowKit

set_option maxRecDepth 100000 in
set_option maxHeartbeats 8000000 in
theorem lawComposeMaps_any (A0 : Option Addr) (n0 c0 : Nat) (xs0 : List Int) (B0 : Option Addr) (m0 d0 : Nat) (L0 : List Row) (A1 : Option Addr) (n1 c1 : Nat) (xs1 : List Int) (B1 : Option Addr) (m1 d1 : Nat) (L1 : List Row) (A2 : Option Addr) (n2 c2 : Nat) (xs2 : List Int) (B2 : Option Addr) (m2 d2 : Nat) (L2 : List Row) (A3 : Option Addr) (n3 c3 : Nat) (L3 : List Row) (A4 : Option Addr) (n4 c4 : Nat) (L4 : List Row) (w : World) (hn0 : n0 = xs0.length) (hs0 : n0 ≤ 9223372036854775807) (hR0 : Rd w A0 (iv xs0)) (hm0 : m0 = L0.length) (ht0 : m0 ≤ 9223372036854775807) (hl0 : ∀ i, i < L0.length → (rg L0 i).xs.length ≤ 9223372036854775807) (hQ0 : RdR w B0 L0) (hn1 : n1 = xs1.length) (hs1 : n1 ≤ 9223372036854775807) (hR1 : Rd w A1 (iv xs1)) (hm1 : m1 = L1.length) (ht1 : m1 ≤ 9223372036854775807) (hl1 : ∀ i, i < L1.length → (rg L1 i).xs.length ≤ 9223372036854775807) (hQ1 : RdR w B1 L1) (hn2 : n2 = xs2.length) (hs2 : n2 ≤ 9223372036854775807) (hR2 : Rd w A2 (iv xs2)) (hm2 : m2 = L2.length) (ht2 : m2 ≤ 9223372036854775807) (hl2 : ∀ i, i < L2.length → (rg L2 i).xs.length ≤ 9223372036854775807) (hQ2 : RdR w B2 L2) (hn3 : n3 = L3.length) (hs3 : n3 ≤ 9223372036854775807) (hl3 : ∀ i, i < L3.length → (rg L3 i).xs.length ≤ 9223372036854775807) (hR3 : RdR w A3 L3) (hn4 : n4 = L4.length) (hs4 : n4 ≤ 9223372036854775807) (hl4 : ∀ i, i < L4.length → (rg L4 i).xs.length ≤ 9223372036854775807) (hR4 : RdR w A4 L4) :
    Calls Try.prog 8 #[.agg #[.slice A0 n0 c0, .slice B0 m0 d0], .agg #[.slice A1 n1 c1, .slice B1 m1 d1], .agg #[.slice A2 n2 c2, .slice B2 m2 d2], .slice A3 n3 c3, .slice A4 n4 c4] w fun e w' => e = .returned (.bool true) ∧ Below w.heap.size w w' := by
  have hI := (((Inw.start w).allocBox #[.slice A0 n0 c0, .slice B0 m0 d0] 41).allocBox #[.slice A1 n1 c1, .slice B1 m1 d1] 41).allocBox #[.slice A2 n2 c2, .slice B2 m2 d2] 41
  simp only [World.size_alloc] at hI
  have I0 := Lib.hid hI
  clear hI
  have Hn0 := Lib.hid hn0
  have HR0 := Lib.hid hR0
  have Hm0 := Lib.hid hm0
  have HL0 := Lib.hid hl0
  have HQ0 := Lib.hid hQ0
  clear hn0 hR0 hm0 hl0 hQ0
  have Hn1 := Lib.hid hn1
  have HR1 := Lib.hid hR1
  have Hm1 := Lib.hid hm1
  have HL1 := Lib.hid hl1
  have HQ1 := Lib.hid hQ1
  clear hn1 hR1 hm1 hl1 hQ1
  have Hn2 := Lib.hid hn2
  have HR2 := Lib.hid hR2
  have Hm2 := Lib.hid hm2
  have HL2 := Lib.hid hl2
  have HQ2 := Lib.hid hQ2
  clear hn2 hR2 hm2 hl2 hQ2
  have Hn3 := Lib.hid hn3
  have HR3 := Lib.hid hR3
  have HL3 := Lib.hid hl3
  clear hn3 hR3 hl3
  have Hn4 := Lib.hid hn4
  have HR4 := Lib.hid hR4
  have HL4 := Lib.hid hl4
  clear hn4 hR4 hl4
  go_enter Try.func8, Try.ntmps8
  go_wp2_with fail
  refine (szModule_any A0 B0 n0 c0 m0 d0 L0 (1048576) _ hs0 Hm0.out ht0 HL0.out (by omega) (by omega) (HQ0.out.below I0.out.bel)).mono ?_
  rintro e w1 ⟨z0, rfl, hz, hb⟩
  have I1 := Lib.hid (I0.out.step hb)
  clear hb
  obtain ⟨u_a0_1, v_a0_1, x_a0_1, y_a0_1, z_a0_1⟩ := blk2cells (I1.out.box 2 rfl)
  obtain ⟨u_a1_1, v_a1_1, x_a1_1, y_a1_1, z_a1_1⟩ := blk2cells (I1.out.box 1 rfl)
  obtain ⟨u_a2_1, v_a2_1, x_a2_1, y_a2_1, z_a2_1⟩ := blk2cells (I1.out.box 0 rfl)
  rcases hz with rfl | ⟨hz0, hy0⟩
  · go_wp2_with fail
    go_ret
    exact ⟨rfl, I1.out.bel⟩
  have hi0 : ¬ z0 < 0 := by omega
  have hk0 : tot L0 ≤ 1048576 := by omega
  have HLL0 := Lib.hid (fun i (hi : i < L0.length) => Nat.le_trans (len_le_tot hi) hk0)
  go_wp2_with fail
  refine (szModule_any A1 B1 n1 c1 m1 d1 L1 (z0) _ hs1 Hm1.out ht1 HL1.out (by omega) (by omega) (HQ1.out.below I1.out.bel)).mono ?_
  rintro e w2 ⟨z1, rfl, hz, hb⟩
  have I2 := Lib.hid (I1.out.step hb)
  clear hb
  clear u_a0_1 v_a0_1 x_a0_1 y_a0_1 z_a0_1 u_a1_1 v_a1_1 x_a1_1 y_a1_1 z_a1_1 u_a2_1 v_a2_1 x_a2_1 y_a2_1 z_a2_1
  obtain ⟨u_a0_2, v_a0_2, x_a0_2, y_a0_2, z_a0_2⟩ := blk2cells (I2.out.box 2 rfl)
  obtain ⟨u_a1_2, v_a1_2, x_a1_2, y_a1_2, z_a1_2⟩ := blk2cells (I2.out.box 1 rfl)
  obtain ⟨u_a2_2, v_a2_2, x_a2_2, y_a2_2, z_a2_2⟩ := blk2cells (I2.out.box 0 rfl)
  rcases hz with rfl | ⟨hz1, hy1⟩
  · go_wp2_with fail
    go_ret
    exact ⟨rfl, I2.out.bel⟩
  have hi1 : ¬ z1 < 0 := by omega
  have hk1 : tot L1 ≤ 1048576 := by omega
  have HLL1 := Lib.hid (fun i (hi : i < L1.length) => Nat.le_trans (len_le_tot hi) hk1)
  go_wp2_with fail
  refine (szModule_any A2 B2 n2 c2 m2 d2 L2 (z1) _ hs2 Hm2.out ht2 HL2.out (by omega) (by omega) (HQ2.out.below I2.out.bel)).mono ?_
  rintro e w3 ⟨z2, rfl, hz, hb⟩
  have I3 := Lib.hid (I2.out.step hb)
  clear hb
  clear u_a0_2 v_a0_2 x_a0_2 y_a0_2 z_a0_2 u_a1_2 v_a1_2 x_a1_2 y_a1_2 z_a1_2 u_a2_2 v_a2_2 x_a2_2 y_a2_2 z_a2_2
  obtain ⟨u_a0_3, v_a0_3, x_a0_3, y_a0_3, z_a0_3⟩ := blk2cells (I3.out.box 2 rfl)
  obtain ⟨u_a1_3, v_a1_3, x_a1_3, y_a1_3, z_a1_3⟩ := blk2cells (I3.out.box 1 rfl)
  obtain ⟨u_a2_3, v_a2_3, x_a2_3, y_a2_3, z_a2_3⟩ := blk2cells (I3.out.box 0 rfl)
  rcases hz with rfl | ⟨hz2, hy2⟩
  · go_wp2_with fail
    go_ret
    exact ⟨rfl, I3.out.bel⟩
  have hi2 : ¬ z2 < 0 := by omega
  have hk2 : tot L2 ≤ 1048576 := by omega
  have HLL2 := Lib.hid (fun i (hi : i < L2.length) => Nat.le_trans (len_le_tot hi) hk2)
  go_wp2_with fail
  refine (szRows_any A3 n3 c3 L3 (z2) _ Hn3.out hs3 HL3.out (by omega) (by omega) (HR3.out.below I3.out.bel)).mono ?_
  rintro e w4 ⟨z3, rfl, hz, rfl⟩
  rcases hz with rfl | ⟨hz3, hy3⟩
  · go_wp2_with fail
    go_ret
    exact ⟨rfl, I3.out.bel⟩
  have hi3 : ¬ z3 < 0 := by omega
  have hk3 : tot L3 ≤ 1048576 := by omega
  have HLL3 := Lib.hid (fun i (hi : i < L3.length) => Nat.le_trans (len_le_tot hi) hk3)
  go_wp2_with fail
  refine (szRows_any A4 n4 c4 L4 (z3) _ Hn4.out hs4 HL4.out (by omega) (by omega) (HR4.out.below I3.out.bel)).mono ?_
  rintro e w5 ⟨z4, rfl, hz, rfl⟩
  rcases hz with rfl | ⟨hz4, hy4⟩
  · go_wp2_with fail
    go_ret
    exact ⟨rfl, I3.out.bel⟩
  have hi4 : ¬ z4 < 0 := by omega
  have hk4 : tot L4 ≤ 1048576 := by omega
  have HLL4 := Lib.hid (fun i (hi : i < L4.length) => Nat.le_trans (len_le_tot hi) hk4)
  have HTO0 := Lib.hid (fun W (hb : Below w.heap.size w W) => toModule_any A0 B0 n0 c0 m0 d0 xs0 L0 W Hn0.out (by omega) (HR0.out.below hb) Hm0.out (by omega) HLL0.out (HQ0.out.below hb))
  have HTO1 := Lib.hid (fun W (hb : Below w.heap.size w W) => toModule_any A1 B1 n1 c1 m1 d1 xs1 L1 W Hn1.out (by omega) (HR1.out.below hb) Hm1.out (by omega) HLL1.out (HQ1.out.below hb))
  have HTO2 := Lib.hid (fun W (hb : Below w.heap.size w W) => toModule_any A2 B2 n2 c2 m2 d2 xs2 L2 W Hn2.out (by omega) (HR2.out.below hb) Hm2.out (by omega) HLL2.out (HQ2.out.below hb))
  have HTO3 := Lib.hid (fun W (hb : Below w.heap.size w W) => toRows_any A3 n3 c3 L3 W Hn3.out (by omega) HLL3.out (HR3.out.below hb))
  have HTO4 := Lib.hid (fun W (hb : Below w.heap.size w W) => toRows_any A4 n4 c4 L4 W Hn4.out (by omega) HLL4.out (HR4.out.below hb))
  obtain ⟨rr, hrr⟩ : ∃ rr, composeMapsOf xs0 L0 xs1 L1 xs2 L2 L3 L4 = rr := ⟨_, rfl⟩
  have hlen := composeMapsOf_len xs0 L0 xs1 L1 xs2 L2 L3 L4
  rw [hrr] at hlen
  have HDD := Lib.hid (fun (M0 : List Row) (e0 : dat M0 = dat L0) (M1 : List Row) (e1 : dat M1 = dat L1) (M2 : List Row) (e2 : dat M2 = dat L2) (M3 : List Row) (e3 : dat M3 = dat L3) (M4 : List Row) (e4 : dat M4 = dat L4) => (composeMapsOf_dat e0 e1 e2 e3 e4).trans hrr)
  clear hrr
  have hnb0 : n0 ≤ 1048576 := by omega
  have hmb0 : m0 ≤ 1048576 := by omega
  have hnb1 : n1 ≤ 1048576 := by omega
  have hmb1 : m1 ≤ 1048576 := by omega
  have hnb2 : n2 ≤ 1048576 := by omega
  have hmb2 : m2 ≤ 1048576 := by omega
  have hnb3 : n3 ≤ 1048576 := by omega
  have hnb4 : n4 ≤ 1048576 := by omega
  have HSP := Lib.hid (fun (W : World) (C0 : Option Addr) (r0 : Rd W C0 (iv xs0)) (E0 : Option Addr) (M0 : List Row) (e0 : dat M0 = dat L0) (q0 : RdR W E0 M0) (C1 : Option Addr) (r1 : Rd W C1 (iv xs1)) (E1 : Option Addr) (M1 : List Row) (e1 : dat M1 = dat L1) (q1 : RdR W E1 M1) (C2 : Option Addr) (r2 : Rd W C2 (iv xs2)) (E2 : Option Addr) (M2 : List Row) (e2 : dat M2 = dat L2) (q2 : RdR W E2 M2) (C3 : Option Addr) (M3 : List Row) (e3 : dat M3 = dat L3) (r3 : RdR W C3 M3) (C4 : Option Addr) (M4 : List Row) (e4 : dat M4 = dat L4) (r4 : RdR W C4 M4) => show Calls Try.prog 34 #[.agg #[.slice C0 n0 n0, .slice E0 m0 m0], .agg #[.slice C1 n1 n1, .slice E1 m1 m1], .agg #[.slice C2 n2 n2, .slice E2 m2 m2], .slice C3 n3 n3, .slice C4 n4 n4] W (ResR rr W) from by
    have h : Calls Try.prog 34 #[.agg #[.slice C0 n0 n0, .slice E0 m0 m0], .agg #[.slice C1 n1 n1, .slice E1 m1 m1], .agg #[.slice C2 n2 n2, .slice E2 m2 m2], .slice C3 n3 n3, .slice C4 n4 n4] W (ResR (composeMapsOf xs0 M0 xs1 M1 xs2 M2 M3 M4) W) := specComposeMaps_any C0 n0 n0 xs0 E0 m0 m0 M0 C1 n1 n1 xs1 E1 m1 m1 M1 C2 n2 n2 xs2 E2 m2 m2 M2 C3 n3 n3 M3 C4 n4 n4 M4 W Hn0.out (by omega) r0 (by rw [Hm0.out, (dat_xs e0).1]) (by omega) (by intro i hi; rw [(dat_xs e0).2 i]; exact HLL0.out i (by rw [← (dat_xs e0).1]; exact hi)) q0 Hn1.out (by omega) r1 (by rw [Hm1.out, (dat_xs e1).1]) (by omega) (by intro i hi; rw [(dat_xs e1).2 i]; exact HLL1.out i (by rw [← (dat_xs e1).1]; exact hi)) q1 Hn2.out (by omega) r2 (by rw [Hm2.out, (dat_xs e2).1]) (by omega) (by intro i hi; rw [(dat_xs e2).2 i]; exact HLL2.out i (by rw [← (dat_xs e2).1]; exact hi)) q2 (by rw [Hn3.out, (dat_xs e3).1]) (by omega) (by intro i hi; rw [(dat_xs e3).2 i]; exact HLL3.out i (by rw [← (dat_xs e3).1]; exact hi)) r3 (by rw [Hn4.out, (dat_xs e4).1]) (by omega) (by intro i hi; rw [(dat_xs e4).2 i]; exact HLL4.out i (by rw [← (dat_xs e4).1]; exact hi)) r4
    rw [HDD.out M0 e0 M1 e1 M2 e2 M3 e3 M4 e4] at h
    exact h)
  have HIM := Lib.hid (fun (W : World) (C0 : Option Addr) (r0 : Rd W C0 (iv xs0)) (E0 : Option Addr) (M0 : List Row) (e0 : dat M0 = dat L0) (q0 : RdR W E0 M0) (C1 : Option Addr) (r1 : Rd W C1 (iv xs1)) (E1 : Option Addr) (M1 : List Row) (e1 : dat M1 = dat L1) (q1 : RdR W E1 M1) (C2 : Option Addr) (r2 : Rd W C2 (iv xs2)) (E2 : Option Addr) (M2 : List Row) (e2 : dat M2 = dat L2) (q2 : RdR W E2 M2) (C3 : Option Addr) (M3 : List Row) (e3 : dat M3 = dat L3) (r3 : RdR W C3 M3) (C4 : Option Addr) (M4 : List Row) (e4 : dat M4 = dat L4) (r4 : RdR W C4 M4) => show Calls Try.prog 35 #[.agg #[.slice C0 n0 n0, .slice E0 m0 m0], .agg #[.slice C1 n1 n1, .slice E1 m1 m1], .agg #[.slice C2 n2 n2, .slice E2 m2 m2], .slice C3 n3 n3, .slice C4 n4 n4] W (ResR rr W) from by
    have h : Calls Try.prog 35 #[.agg #[.slice C0 n0 n0, .slice E0 m0 m0], .agg #[.slice C1 n1 n1, .slice E1 m1 m1], .agg #[.slice C2 n2 n2, .slice E2 m2 m2], .slice C3 n3 n3, .slice C4 n4 n4] W (ResR (composeMapsOf xs0 M0 xs1 M1 xs2 M2 M3 M4) W) := implComposeMaps_any C0 n0 n0 xs0 E0 m0 m0 M0 C1 n1 n1 xs1 E1 m1 m1 M1 C2 n2 n2 xs2 E2 m2 m2 M2 C3 n3 n3 M3 C4 n4 n4 M4 W Hn0.out (by omega) r0 (by rw [Hm0.out, (dat_xs e0).1]) (by omega) (by intro i hi; rw [(dat_xs e0).2 i]; exact HLL0.out i (by rw [← (dat_xs e0).1]; exact hi)) q0 Hn1.out (by omega) r1 (by rw [Hm1.out, (dat_xs e1).1]) (by omega) (by intro i hi; rw [(dat_xs e1).2 i]; exact HLL1.out i (by rw [← (dat_xs e1).1]; exact hi)) q1 Hn2.out (by omega) r2 (by rw [Hm2.out, (dat_xs e2).1]) (by omega) (by intro i hi; rw [(dat_xs e2).2 i]; exact HLL2.out i (by rw [← (dat_xs e2).1]; exact hi)) q2 (by rw [Hn3.out, (dat_xs e3).1]) (by omega) (by intro i hi; rw [(dat_xs e3).2 i]; exact HLL3.out i (by rw [← (dat_xs e3).1]; exact hi)) r3 (by rw [Hn4.out, (dat_xs e4).1]) (by omega) (by intro i hi; rw [(dat_xs e4).2 i]; exact HLL4.out i (by rw [← (dat_xs e4).1]; exact hi)) r4
    rw [HDD.out M0 e0 M1 e1 M2 e2 M3 e3 M4 e4] at h
    exact h)
  go_wp2_with fail
  clear hz0 hy0 hi0 hs0 ht0 hz1 hy1 hi1 hs1 ht1 hz2 hy2 hi2 hs2 ht2 hz3 hy3 hi3 hs3 hz4 hy4 hi4 hs4
  have KS3 := Lib.hid (fun w' (hb : Below w3.heap.size w3 w') => show w'.cell? ⟨w.heap.size, 0, none⟩ = some (.slice A0 n0 c0) ∧ w'.cell? ⟨w.heap.size, 1, none⟩ = some (.slice B0 m0 d0) ∧ w'.cell? ⟨w.heap.size + 1, 0, none⟩ = some (.slice A1 n1 c1) ∧ w'.cell? ⟨w.heap.size + 1, 1, none⟩ = some (.slice B1 m1 d1) ∧ w'.cell? ⟨w.heap.size + 1 + 1, 0, none⟩ = some (.slice A2 n2 c2) ∧ w'.cell? ⟨w.heap.size + 1 + 1, 1, none⟩ = some (.slice B2 m2 d2) from by
    have J := I3.out.step hb
    exact ⟨(blk2cells (J.box 2 rfl)).1, (blk2cells (J.box 2 rfl)).2.1, (blk2cells (J.box 1 rfl)).1, (blk2cells (J.box 1 rfl)).2.1, (blk2cells (J.box 0 rfl)).1, (blk2cells (J.box 0 rfl)).2.1⟩)
  have HB_0 := Lib.hid (Below.drew (Below.refl w3.heap.size w3))
  have I4 := Lib.hid I3.out.drew
  clear u_a0_3 v_a0_3 x_a0_3 y_a0_3 z_a0_3 u_a1_3 v_a1_3 x_a1_3 y_a1_3 z_a1_3 u_a2_3 v_a2_3 x_a2_3 y_a2_3 z_a2_3
  go_region_held3 (fun w' => w'.cell? ⟨w.heap.size, 0, none⟩ = some (.slice A0 n0 c0) ∧ w'.cell? ⟨w.heap.size, 1, none⟩ = some (.slice B0 m0 d0) ∧ w'.cell? ⟨w.heap.size + 1, 0, none⟩ = some (.slice A1 n1 c1) ∧ w'.cell? ⟨w.heap.size + 1, 1, none⟩ = some (.slice B1 m1 d1) ∧ w'.cell? ⟨w.heap.size + 1 + 1, 0, none⟩ = some (.slice A2 n2 c2) ∧ w'.cell? ⟨w.heap.size + 1 + 1, 1, none⟩ = some (.slice B2 m2 d2))
      (first | exact KS3.out _ HB_0.out | exact KS3.out _ HB_1.out | exact KS3.out _ HB_2.out | exact KS3.out _ HB_3.out | exact KS3.out _ HB_4.out | exact KS3.out _ HB_5.out | exact KS3.out _ HB_6.out)
      (first
        | (go_at_call 26; (with_reducible refine (HTO0.out _ I4.out.bel).mono ?_); (rintro e w6 ⟨gs0, hs0, Ms0, rfl, hd, ho, hb⟩; have I5 := Lib.hid (I4.out.pushMod hb ho); have HDs0 := Lib.hid hd; clear hd; have HB_1 := Lib.hid (HB_0.out.trans (hb.mono HB_0.out.size)); clear ho hb))
        | (go_at_call 26; (with_reducible refine (HTO1.out _ I5.out.bel).mono ?_); (rintro e w7 ⟨gs1, hs1, Ms1, rfl, hd, ho, hb⟩; have I6 := Lib.hid (I5.out.pushMod hb ho); have HDs1 := Lib.hid hd; clear hd; have HB_2 := Lib.hid (HB_1.out.trans (hb.mono HB_1.out.size)); clear ho hb))
        | (go_at_call 26; (with_reducible refine (HTO2.out _ I6.out.bel).mono ?_); (rintro e w8 ⟨gs2, hs2, Ms2, rfl, hd, ho, hb⟩; have I7 := Lib.hid (I6.out.pushMod hb ho); have HDs2 := Lib.hid hd; clear hd; have HB_3 := Lib.hid (HB_2.out.trans (hb.mono HB_2.out.size)); clear ho hb))
        | (go_at_call 11; (with_reducible refine (HTO3.out _ I7.out.bel).mono ?_); (rintro e w9 ⟨gs3, Ms3, rfl, hd, ho, hb⟩; have I8 := Lib.hid (I7.out.pushRows hb ho); have HDs3 := Lib.hid hd; clear hd; have HB_4 := Lib.hid (HB_3.out.trans (hb.mono HB_3.out.size)); clear ho hb))
        | (go_at_call 11; (with_reducible refine (HTO4.out _ I8.out.bel).mono ?_); (rintro e w10 ⟨gs4, Ms4, rfl, hd, ho, hb⟩; have I9 := Lib.hid (I8.out.pushRows hb ho); have HDs4 := Lib.hid hd; clear hd; have HB_5 := Lib.hid (HB_4.out.trans (hb.mono HB_4.out.size)); clear ho hb))
        | (go_at_call 34; (with_reducible refine (HSP.out _ _ (owns_Rd (by have h := (I9.out.mod 4 rfl).deg; rw [← Hn0.out] at h; exact h)) _ _ HDs0.out ((I9.out.mod 4 rfl).act.rd (by rw [Hm0.out, (dat_xs HDs0.out).1])) _ (owns_Rd (by have h := (I9.out.mod 3 rfl).deg; rw [← Hn1.out] at h; exact h)) _ _ HDs1.out ((I9.out.mod 3 rfl).act.rd (by rw [Hm1.out, (dat_xs HDs1.out).1])) _ (owns_Rd (by have h := (I9.out.mod 2 rfl).deg; rw [← Hn2.out] at h; exact h)) _ _ HDs2.out ((I9.out.mod 2 rfl).act.rd (by rw [Hm2.out, (dat_xs HDs2.out).1])) _ _ HDs3.out ((I9.out.rows 1 rfl).rd (by rw [Hn3.out, (dat_xs HDs3.out).1])) _ _ HDs4.out ((I9.out.rows 0 rfl).rd (by rw [Hn4.out, (dat_xs HDs4.out).1]))).mono ?_); (rintro e w11 ⟨vs, Ns, rfl, hd, ho, hb⟩; have HB_6 := Lib.hid (HB_5.out.trans (hb.mono HB_5.out.size)); have I10 := Lib.hid (I9.out.pushRows hb ho); have HDs := Lib.hid hd; clear ho hb hd; obtain ⟨As, ks, rfl, _, _, _⟩ := owns_shape (I10.out.rows 0 rfl).out; have HZs := Lib.hid (rows_small HDs.out hlen); have z1s := HZs.out.1; have z2s := HZs.out.2.1)))
  clear HB_0 HB_1 HB_2 HB_3 HB_4 HB_5 HB_6 KS3
  obtain ⟨u_a0_10, v_a0_10, x_a0_10, y_a0_10, z_a0_10⟩ := blk2cells (I10.out.box 8 rfl)
  obtain ⟨u_a1_10, v_a1_10, x_a1_10, y_a1_10, z_a1_10⟩ := blk2cells (I10.out.box 7 rfl)
  obtain ⟨u_a2_10, v_a2_10, x_a2_10, y_a2_10, z_a2_10⟩ := blk2cells (I10.out.box 6 rfl)
  go_wp2_with fail
  refine (HTO0.out _ I10.out.bel).mono ?_
  rintro e w12 ⟨gx0, hx0, Mx0, rfl, hd, ho, hb⟩
  have I11 := Lib.hid (I10.out.pushMod hb ho)
  have HDx0 := Lib.hid hd
  clear hd
  clear ho hb
  clear u_a0_10 v_a0_10 x_a0_10 y_a0_10 z_a0_10 u_a1_10 v_a1_10 x_a1_10 y_a1_10 z_a1_10 u_a2_10 v_a2_10 x_a2_10 y_a2_10 z_a2_10
  obtain ⟨u_a0_11, v_a0_11, x_a0_11, y_a0_11, z_a0_11⟩ := blk2cells (I11.out.box 9 rfl)
  obtain ⟨u_a1_11, v_a1_11, x_a1_11, y_a1_11, z_a1_11⟩ := blk2cells (I11.out.box 8 rfl)
  obtain ⟨u_a2_11, v_a2_11, x_a2_11, y_a2_11, z_a2_11⟩ := blk2cells (I11.out.box 7 rfl)
  go_wp2_with fail
  have hI := I11.out.allocBox #[.slice (some ⟨gx0, 0, none⟩) n0 n0, .slice (some ⟨hx0, 0, none⟩) m0 m0] 45
  refine (HTO1.out _ hI.bel).mono ?_
  rintro e w13 ⟨gx1, hx1, Mx1, rfl, hd, ho, hb⟩
  have I12 := Lib.hid (hI.pushMod hb ho)
  have HDx1 := Lib.hid hd
  clear hd
  clear ho hb
  clear hI
  clear u_a0_11 v_a0_11 x_a0_11 y_a0_11 z_a0_11 u_a1_11 v_a1_11 x_a1_11 y_a1_11 z_a1_11 u_a2_11 v_a2_11 x_a2_11 y_a2_11 z_a2_11
  obtain ⟨u_a0_12, v_a0_12, x_a0_12, y_a0_12, z_a0_12⟩ := blk2cells (I12.out.box 11 rfl)
  obtain ⟨u_a1_12, v_a1_12, x_a1_12, y_a1_12, z_a1_12⟩ := blk2cells (I12.out.box 10 rfl)
  obtain ⟨u_a2_12, v_a2_12, x_a2_12, y_a2_12, z_a2_12⟩ := blk2cells (I12.out.box 9 rfl)
  obtain ⟨u_b0_12, v_b0_12, x_b0_12, y_b0_12, z_b0_12⟩ := blk2cells (I12.out.box 1 rfl)
  go_wp2_with fail
  have hI := I12.out.allocBox #[.slice (some ⟨gx1, 0, none⟩) n1 n1, .slice (some ⟨hx1, 0, none⟩) m1 m1] 45
  refine (HTO2.out _ hI.bel).mono ?_
  rintro e w14 ⟨gx2, hx2, Mx2, rfl, hd, ho, hb⟩
  have I13 := Lib.hid (hI.pushMod hb ho)
  have HDx2 := Lib.hid hd
  clear hd
  clear ho hb
  clear hI
  clear u_a0_12 v_a0_12 x_a0_12 y_a0_12 z_a0_12 u_a1_12 v_a1_12 x_a1_12 y_a1_12 z_a1_12 u_a2_12 v_a2_12 x_a2_12 y_a2_12 z_a2_12 u_b0_12 v_b0_12 x_b0_12 y_b0_12 z_b0_12
  obtain ⟨u_a0_13, v_a0_13, x_a0_13, y_a0_13, z_a0_13⟩ := blk2cells (I13.out.box 13 rfl)
  obtain ⟨u_a1_13, v_a1_13, x_a1_13, y_a1_13, z_a1_13⟩ := blk2cells (I13.out.box 12 rfl)
  obtain ⟨u_a2_13, v_a2_13, x_a2_13, y_a2_13, z_a2_13⟩ := blk2cells (I13.out.box 11 rfl)
  obtain ⟨u_b0_13, v_b0_13, x_b0_13, y_b0_13, z_b0_13⟩ := blk2cells (I13.out.box 3 rfl)
  obtain ⟨u_b1_13, v_b1_13, x_b1_13, y_b1_13, z_b1_13⟩ := blk2cells (I13.out.box 1 rfl)
  go_wp2_with fail
  have hI := I13.out.allocBox #[.slice (some ⟨gx2, 0, none⟩) n2 n2, .slice (some ⟨hx2, 0, none⟩) m2 m2] 45
  refine (HTO3.out _ hI.bel).mono ?_
  rintro e w15 ⟨gx3, Mx3, rfl, hd, ho, hb⟩
  have I14 := Lib.hid (hI.pushRows hb ho)
  have HDx3 := Lib.hid hd
  clear hd
  clear ho hb
  clear hI
  clear u_a0_13 v_a0_13 x_a0_13 y_a0_13 z_a0_13 u_a1_13 v_a1_13 x_a1_13 y_a1_13 z_a1_13 u_a2_13 v_a2_13 x_a2_13 y_a2_13 z_a2_13 u_b0_13 v_b0_13 x_b0_13 y_b0_13 z_b0_13 u_b1_13 v_b1_13 x_b1_13 y_b1_13 z_b1_13
  obtain ⟨u_a0_14, v_a0_14, x_a0_14, y_a0_14, z_a0_14⟩ := blk2cells (I14.out.box 15 rfl)
  obtain ⟨u_a1_14, v_a1_14, x_a1_14, y_a1_14, z_a1_14⟩ := blk2cells (I14.out.box 14 rfl)
  obtain ⟨u_a2_14, v_a2_14, x_a2_14, y_a2_14, z_a2_14⟩ := blk2cells (I14.out.box 13 rfl)
  obtain ⟨u_b0_14, v_b0_14, x_b0_14, y_b0_14, z_b0_14⟩ := blk2cells (I14.out.box 5 rfl)
  obtain ⟨u_b1_14, v_b1_14, x_b1_14, y_b1_14, z_b1_14⟩ := blk2cells (I14.out.box 3 rfl)
  obtain ⟨u_b2_14, v_b2_14, x_b2_14, y_b2_14, z_b2_14⟩ := blk2cells (I14.out.box 1 rfl)
  go_wp2_with fail
  refine (HTO4.out _ I14.out.bel).mono ?_
  rintro e w16 ⟨gx4, Mx4, rfl, hd, ho, hb⟩
  have I15 := Lib.hid (I14.out.pushRows hb ho)
  have HDx4 := Lib.hid hd
  clear hd
  clear ho hb
  clear u_a0_14 v_a0_14 x_a0_14 y_a0_14 z_a0_14 u_a1_14 v_a1_14 x_a1_14 y_a1_14 z_a1_14 u_a2_14 v_a2_14 x_a2_14 y_a2_14 z_a2_14 u_b0_14 v_b0_14 x_b0_14 y_b0_14 z_b0_14 u_b1_14 v_b1_14 x_b1_14 y_b1_14 z_b1_14 u_b2_14 v_b2_14 x_b2_14 y_b2_14 z_b2_14
  obtain ⟨u_a0_15, v_a0_15, x_a0_15, y_a0_15, z_a0_15⟩ := blk2cells (I15.out.box 16 rfl)
  obtain ⟨u_a1_15, v_a1_15, x_a1_15, y_a1_15, z_a1_15⟩ := blk2cells (I15.out.box 15 rfl)
  obtain ⟨u_a2_15, v_a2_15, x_a2_15, y_a2_15, z_a2_15⟩ := blk2cells (I15.out.box 14 rfl)
  obtain ⟨u_b0_15, v_b0_15, x_b0_15, y_b0_15, z_b0_15⟩ := blk2cells (I15.out.box 6 rfl)
  obtain ⟨u_b1_15, v_b1_15, x_b1_15, y_b1_15, z_b1_15⟩ := blk2cells (I15.out.box 4 rfl)
  obtain ⟨u_b2_15, v_b2_15, x_b2_15, y_b2_15, z_b2_15⟩ := blk2cells (I15.out.box 2 rfl)
  go_wp2_with fail
  refine (HIM.out _ _ (owns_Rd (by have h := (I15.out.mod 7 rfl).deg; rw [← Hn0.out] at h; exact h)) _ _ HDx0.out ((I15.out.mod 7 rfl).act.rd (by rw [Hm0.out, (dat_xs HDx0.out).1])) _ (owns_Rd (by have h := (I15.out.mod 5 rfl).deg; rw [← Hn1.out] at h; exact h)) _ _ HDx1.out ((I15.out.mod 5 rfl).act.rd (by rw [Hm1.out, (dat_xs HDx1.out).1])) _ (owns_Rd (by have h := (I15.out.mod 3 rfl).deg; rw [← Hn2.out] at h; exact h)) _ _ HDx2.out ((I15.out.mod 3 rfl).act.rd (by rw [Hm2.out, (dat_xs HDx2.out).1])) _ _ HDx3.out ((I15.out.rows 1 rfl).rd (by rw [Hn3.out, (dat_xs HDx3.out).1])) _ _ HDx4.out ((I15.out.rows 0 rfl).rd (by rw [Hn4.out, (dat_xs HDx4.out).1]))).mono ?_
  rintro e w17 ⟨vg, Ng, rfl, hd, ho, hb⟩
  have I16 := Lib.hid (I15.out.pushRows hb ho)
  have HDg := Lib.hid hd
  clear ho hb hd
  obtain ⟨Ag, kg, rfl, _, _, _⟩ := owns_shape (I16.out.rows 0 rfl).out
  have HZg := Lib.hid (rows_small HDg.out hlen)
  have z1g := HZg.out.1
  have z2g := HZg.out.2.1
  clear u_a0_15 v_a0_15 x_a0_15 y_a0_15 z_a0_15 u_a1_15 v_a1_15 x_a1_15 y_a1_15 z_a1_15 u_a2_15 v_a2_15 x_a2_15 y_a2_15 z_a2_15 u_b0_15 v_b0_15 x_b0_15 y_b0_15 z_b0_15 u_b1_15 v_b1_15 x_b1_15 y_b1_15 z_b1_15 u_b2_15 v_b2_15 x_b2_15 y_b2_15 z_b2_15
  obtain ⟨u_a0_16, v_a0_16, x_a0_16, y_a0_16, z_a0_16⟩ := blk2cells (I16.out.box 17 rfl)
  obtain ⟨u_a1_16, v_a1_16, x_a1_16, y_a1_16, z_a1_16⟩ := blk2cells (I16.out.box 16 rfl)
  obtain ⟨u_a2_16, v_a2_16, x_a2_16, y_a2_16, z_a2_16⟩ := blk2cells (I16.out.box 15 rfl)
  obtain ⟨u_b0_16, v_b0_16, x_b0_16, y_b0_16, z_b0_16⟩ := blk2cells (I16.out.box 7 rfl)
  obtain ⟨u_b1_16, v_b1_16, x_b1_16, y_b1_16, z_b1_16⟩ := blk2cells (I16.out.box 5 rfl)
  obtain ⟨u_b2_16, v_b2_16, x_b2_16, y_b2_16, z_b2_16⟩ := blk2cells (I16.out.box 3 rfl)
  go_wp2_with fail
  refine (eqRowsB_any _ _ _ _ _ _ _ _ _ rfl rfl (by omega) (fun i hi => Nat.le_trans (HZg.out.2.2 i hi) (by omega)) (HDs.out.trans HDg.out.symm) ((I16.out.rows 0 rfl).rd rfl) ((I16.out.rows 9 rfl).rd rfl)).mono ?_
  rintro e w18 ⟨rfl, hb⟩
  have I17 := Lib.hid (I16.out.step hb)
  clear hb
  clear u_a0_16 v_a0_16 x_a0_16 y_a0_16 z_a0_16 u_a1_16 v_a1_16 x_a1_16 y_a1_16 z_a1_16 u_a2_16 v_a2_16 x_a2_16 y_a2_16 z_a2_16 u_b0_16 v_b0_16 x_b0_16 y_b0_16 z_b0_16 u_b1_16 v_b1_16 x_b1_16 y_b1_16 z_b1_16 u_b2_16 v_b2_16 x_b2_16 y_b2_16 z_b2_16
  obtain ⟨u_a0_17, v_a0_17, x_a0_17, y_a0_17, z_a0_17⟩ := blk2cells (I17.out.box 17 rfl)
  obtain ⟨u_a1_17, v_a1_17, x_a1_17, y_a1_17, z_a1_17⟩ := blk2cells (I17.out.box 16 rfl)
  obtain ⟨u_a2_17, v_a2_17, x_a2_17, y_a2_17, z_a2_17⟩ := blk2cells (I17.out.box 15 rfl)
  obtain ⟨u_b0_17, v_b0_17, x_b0_17, y_b0_17, z_b0_17⟩ := blk2cells (I17.out.box 7 rfl)
  obtain ⟨u_b1_17, v_b1_17, x_b1_17, y_b1_17, z_b1_17⟩ := blk2cells (I17.out.box 5 rfl)
  obtain ⟨u_b2_17, v_b2_17, x_b2_17, y_b2_17, z_b2_17⟩ := blk2cells (I17.out.box 3 rfl)
  go_wp2_with fail
  have KS := Lib.hid (fun w' (hb : Below w18.heap.size w18 w') => show w'.cell? ⟨w12.heap.size, 0, none⟩ = some (.slice (some ⟨gx0, 0, none⟩) n0 n0) ∧ w'.cell? ⟨w12.heap.size, 1, none⟩ = some (.slice (some ⟨hx0, 0, none⟩) m0 m0) ∧ w'.cell? ⟨w.heap.size, 0, none⟩ = some (.slice A0 n0 c0) ∧ w'.cell? ⟨w.heap.size, 1, none⟩ = some (.slice B0 m0 d0) from by
    have J := I17.out.step hb
    exact ⟨(blk2cells (J.box 7 rfl)).1, (blk2cells (J.box 7 rfl)).2.1, (blk2cells (J.box 17 rfl)).1, (blk2cells (J.box 17 rfl)).2.1⟩)
  have HB_0 := Lib.hid (Below.drew (Below.refl w18.heap.size w18))
  have I18 := Lib.hid I17.out.drew
  clear u_a0_17 v_a0_17 x_a0_17 y_a0_17 z_a0_17 u_a1_17 v_a1_17 x_a1_17 y_a1_17 z_a1_17 u_a2_17 v_a2_17 x_a2_17 y_a2_17 z_a2_17 u_b0_17 v_b0_17 x_b0_17 y_b0_17 z_b0_17 u_b1_17 v_b1_17 x_b1_17 y_b1_17 z_b1_17 u_b2_17 v_b2_17 x_b2_17 y_b2_17 z_b2_17
  go_region_held3 (fun w' => w'.cell? ⟨w12.heap.size, 0, none⟩ = some (.slice (some ⟨gx0, 0, none⟩) n0 n0) ∧ w'.cell? ⟨w12.heap.size, 1, none⟩ = some (.slice (some ⟨hx0, 0, none⟩) m0 m0) ∧ w'.cell? ⟨w.heap.size, 0, none⟩ = some (.slice A0 n0 c0) ∧ w'.cell? ⟨w.heap.size, 1, none⟩ = some (.slice B0 m0 d0))
      (first | exact KS.out _ HB_0.out | exact KS.out _ HB_1.out | exact KS.out _ HB_2.out)
      (first
        | (go_at_call 26; (with_reducible refine (HTO0.out _ I18.out.bel).mono ?_); (rintro e w19 ⟨ge0, he0, Me0, rfl, hd, ho, hb⟩; have I19 := Lib.hid (I18.out.pushMod hb ho); have HDe0 := Lib.hid hd; have HB_1 := Lib.hid (HB_0.out.trans (hb.mono HB_0.out.size)); clear ho hb hd))
        | (go_at_call 28; (with_reducible refine (eqModule_any _ _ _ _ n0 n0 n0 m0 m0 m0 xs0 _ _ _ Hn0.out (by omega) (by rw [Hm0.out, (dat_xs HDx0.out).1]) (by omega) (by intro i hi; rw [(dat_xs HDx0.out).2 i]; exact HLL0.out i (by rw [← (dat_xs HDx0.out).1]; exact hi)) (HDe0.out.trans HDx0.out.symm) (owns_Rd (by have h := (I19.out.mod 9 rfl).deg; rw [← Hn0.out] at h; exact h)) (owns_Rd (by have h := (I19.out.mod 0 rfl).deg; rw [← Hn0.out] at h; exact h)) ((I19.out.mod 9 rfl).act.rd (by rw [Hm0.out, (dat_xs HDx0.out).1])) ((I19.out.mod 0 rfl).act.rd (by rw [Hm0.out, (dat_xs HDe0.out).1]))).mono ?_); (rintro e w20 ⟨rfl, hb⟩; have I20 := Lib.hid (I19.out.step hb); have HB_2 := Lib.hid (HB_1.out.trans (hb.mono HB_1.out.size)); clear hb)))
  clear HB_0 HB_1 HB_2 KS
  obtain ⟨u_a0_20, v_a0_20, x_a0_20, y_a0_20, z_a0_20⟩ := blk2cells (I20.out.box 18 rfl)
  obtain ⟨u_a1_20, v_a1_20, x_a1_20, y_a1_20, z_a1_20⟩ := blk2cells (I20.out.box 17 rfl)
  obtain ⟨u_a2_20, v_a2_20, x_a2_20, y_a2_20, z_a2_20⟩ := blk2cells (I20.out.box 16 rfl)
  obtain ⟨u_b0_20, v_b0_20, x_b0_20, y_b0_20, z_b0_20⟩ := blk2cells (I20.out.box 8 rfl)
  obtain ⟨u_b1_20, v_b1_20, x_b1_20, y_b1_20, z_b1_20⟩ := blk2cells (I20.out.box 6 rfl)
  obtain ⟨u_b2_20, v_b2_20, x_b2_20, y_b2_20, z_b2_20⟩ := blk2cells (I20.out.box 4 rfl)
  go_wp2_with fail
  have KS := Lib.hid (fun w' (hb : Below w20.heap.size w20 w') => show w'.cell? ⟨w13.heap.size, 0, none⟩ = some (.slice (some ⟨gx1, 0, none⟩) n1 n1) ∧ w'.cell? ⟨w13.heap.size, 1, none⟩ = some (.slice (some ⟨hx1, 0, none⟩) m1 m1) ∧ w'.cell? ⟨w.heap.size + 1, 0, none⟩ = some (.slice A1 n1 c1) ∧ w'.cell? ⟨w.heap.size + 1, 1, none⟩ = some (.slice B1 m1 d1) from by
    have J := I20.out.step hb
    exact ⟨(blk2cells (J.box 6 rfl)).1, (blk2cells (J.box 6 rfl)).2.1, (blk2cells (J.box 17 rfl)).1, (blk2cells (J.box 17 rfl)).2.1⟩)
  have HB_0 := Lib.hid (Below.drew (Below.refl w20.heap.size w20))
  have I21 := Lib.hid I20.out.drew
  clear u_a0_20 v_a0_20 x_a0_20 y_a0_20 z_a0_20 u_a1_20 v_a1_20 x_a1_20 y_a1_20 z_a1_20 u_a2_20 v_a2_20 x_a2_20 y_a2_20 z_a2_20 u_b0_20 v_b0_20 x_b0_20 y_b0_20 z_b0_20 u_b1_20 v_b1_20 x_b1_20 y_b1_20 z_b1_20 u_b2_20 v_b2_20 x_b2_20 y_b2_20 z_b2_20
  go_region_held3 (fun w' => w'.cell? ⟨w13.heap.size, 0, none⟩ = some (.slice (some ⟨gx1, 0, none⟩) n1 n1) ∧ w'.cell? ⟨w13.heap.size, 1, none⟩ = some (.slice (some ⟨hx1, 0, none⟩) m1 m1) ∧ w'.cell? ⟨w.heap.size + 1, 0, none⟩ = some (.slice A1 n1 c1) ∧ w'.cell? ⟨w.heap.size + 1, 1, none⟩ = some (.slice B1 m1 d1))
      (first | exact KS.out _ HB_0.out | exact KS.out _ HB_1.out | exact KS.out _ HB_2.out)
      (first
        | (go_at_call 26; (with_reducible refine (HTO1.out _ I21.out.bel).mono ?_); (rintro e w21 ⟨ge1, he1, Me1, rfl, hd, ho, hb⟩; have I22 := Lib.hid (I21.out.pushMod hb ho); have HDe1 := Lib.hid hd; have HB_1 := Lib.hid (HB_0.out.trans (hb.mono HB_0.out.size)); clear ho hb hd))
        | (go_at_call 28; (with_reducible refine (eqModule_any _ _ _ _ n1 n1 n1 m1 m1 m1 xs1 _ _ _ Hn1.out (by omega) (by rw [Hm1.out, (dat_xs HDx1.out).1]) (by omega) (by intro i hi; rw [(dat_xs HDx1.out).2 i]; exact HLL1.out i (by rw [← (dat_xs HDx1.out).1]; exact hi)) (HDe1.out.trans HDx1.out.symm) (owns_Rd (by have h := (I22.out.mod 8 rfl).deg; rw [← Hn1.out] at h; exact h)) (owns_Rd (by have h := (I22.out.mod 0 rfl).deg; rw [← Hn1.out] at h; exact h)) ((I22.out.mod 8 rfl).act.rd (by rw [Hm1.out, (dat_xs HDx1.out).1])) ((I22.out.mod 0 rfl).act.rd (by rw [Hm1.out, (dat_xs HDe1.out).1]))).mono ?_); (rintro e w22 ⟨rfl, hb⟩; have I23 := Lib.hid (I22.out.step hb); have HB_2 := Lib.hid (HB_1.out.trans (hb.mono HB_1.out.size)); clear hb)))
  clear HB_0 HB_1 HB_2 KS
  obtain ⟨u_a0_23, v_a0_23, x_a0_23, y_a0_23, z_a0_23⟩ := blk2cells (I23.out.box 19 rfl)
  obtain ⟨u_a1_23, v_a1_23, x_a1_23, y_a1_23, z_a1_23⟩ := blk2cells (I23.out.box 18 rfl)
  obtain ⟨u_a2_23, v_a2_23, x_a2_23, y_a2_23, z_a2_23⟩ := blk2cells (I23.out.box 17 rfl)
  obtain ⟨u_b0_23, v_b0_23, x_b0_23, y_b0_23, z_b0_23⟩ := blk2cells (I23.out.box 9 rfl)
  obtain ⟨u_b1_23, v_b1_23, x_b1_23, y_b1_23, z_b1_23⟩ := blk2cells (I23.out.box 7 rfl)
  obtain ⟨u_b2_23, v_b2_23, x_b2_23, y_b2_23, z_b2_23⟩ := blk2cells (I23.out.box 5 rfl)
  go_wp2_with fail
  have KS := Lib.hid (fun w' (hb : Below w22.heap.size w22 w') => show w'.cell? ⟨w14.heap.size, 0, none⟩ = some (.slice (some ⟨gx2, 0, none⟩) n2 n2) ∧ w'.cell? ⟨w14.heap.size, 1, none⟩ = some (.slice (some ⟨hx2, 0, none⟩) m2 m2) ∧ w'.cell? ⟨w.heap.size + 1 + 1, 0, none⟩ = some (.slice A2 n2 c2) ∧ w'.cell? ⟨w.heap.size + 1 + 1, 1, none⟩ = some (.slice B2 m2 d2) from by
    have J := I23.out.step hb
    exact ⟨(blk2cells (J.box 5 rfl)).1, (blk2cells (J.box 5 rfl)).2.1, (blk2cells (J.box 17 rfl)).1, (blk2cells (J.box 17 rfl)).2.1⟩)
  have HB_0 := Lib.hid (Below.drew (Below.refl w22.heap.size w22))
  have I24 := Lib.hid I23.out.drew
  clear u_a0_23 v_a0_23 x_a0_23 y_a0_23 z_a0_23 u_a1_23 v_a1_23 x_a1_23 y_a1_23 z_a1_23 u_a2_23 v_a2_23 x_a2_23 y_a2_23 z_a2_23 u_b0_23 v_b0_23 x_b0_23 y_b0_23 z_b0_23 u_b1_23 v_b1_23 x_b1_23 y_b1_23 z_b1_23 u_b2_23 v_b2_23 x_b2_23 y_b2_23 z_b2_23
  go_region_held3 (fun w' => w'.cell? ⟨w14.heap.size, 0, none⟩ = some (.slice (some ⟨gx2, 0, none⟩) n2 n2) ∧ w'.cell? ⟨w14.heap.size, 1, none⟩ = some (.slice (some ⟨hx2, 0, none⟩) m2 m2) ∧ w'.cell? ⟨w.heap.size + 1 + 1, 0, none⟩ = some (.slice A2 n2 c2) ∧ w'.cell? ⟨w.heap.size + 1 + 1, 1, none⟩ = some (.slice B2 m2 d2))
      (first | exact KS.out _ HB_0.out | exact KS.out _ HB_1.out | exact KS.out _ HB_2.out)
      (first
        | (go_at_call 26; (with_reducible refine (HTO2.out _ I24.out.bel).mono ?_); (rintro e w23 ⟨ge2, he2, Me2, rfl, hd, ho, hb⟩; have I25 := Lib.hid (I24.out.pushMod hb ho); have HDe2 := Lib.hid hd; have HB_1 := Lib.hid (HB_0.out.trans (hb.mono HB_0.out.size)); clear ho hb hd))
        | (go_at_call 28; (with_reducible refine (eqModule_any _ _ _ _ n2 n2 n2 m2 m2 m2 xs2 _ _ _ Hn2.out (by omega) (by rw [Hm2.out, (dat_xs HDx2.out).1]) (by omega) (by intro i hi; rw [(dat_xs HDx2.out).2 i]; exact HLL2.out i (by rw [← (dat_xs HDx2.out).1]; exact hi)) (HDe2.out.trans HDx2.out.symm) (owns_Rd (by have h := (I25.out.mod 7 rfl).deg; rw [← Hn2.out] at h; exact h)) (owns_Rd (by have h := (I25.out.mod 0 rfl).deg; rw [← Hn2.out] at h; exact h)) ((I25.out.mod 7 rfl).act.rd (by rw [Hm2.out, (dat_xs HDx2.out).1])) ((I25.out.mod 0 rfl).act.rd (by rw [Hm2.out, (dat_xs HDe2.out).1]))).mono ?_); (rintro e w24 ⟨rfl, hb⟩; have I26 := Lib.hid (I25.out.step hb); have HB_2 := Lib.hid (HB_1.out.trans (hb.mono HB_1.out.size)); clear hb)))
  clear HB_0 HB_1 HB_2 KS
  obtain ⟨u_a0_26, v_a0_26, x_a0_26, y_a0_26, z_a0_26⟩ := blk2cells (I26.out.box 20 rfl)
  obtain ⟨u_a1_26, v_a1_26, x_a1_26, y_a1_26, z_a1_26⟩ := blk2cells (I26.out.box 19 rfl)
  obtain ⟨u_a2_26, v_a2_26, x_a2_26, y_a2_26, z_a2_26⟩ := blk2cells (I26.out.box 18 rfl)
  obtain ⟨u_b0_26, v_b0_26, x_b0_26, y_b0_26, z_b0_26⟩ := blk2cells (I26.out.box 10 rfl)
  obtain ⟨u_b1_26, v_b1_26, x_b1_26, y_b1_26, z_b1_26⟩ := blk2cells (I26.out.box 8 rfl)
  obtain ⟨u_b2_26, v_b2_26, x_b2_26, y_b2_26, z_b2_26⟩ := blk2cells (I26.out.box 6 rfl)
  go_wp2_with fail
  refine (HTO3.out _ I26.out.bel).mono ?_
  rintro e w25 ⟨ge3, Me3, rfl, hd, ho, hb⟩
  have I27 := Lib.hid (I26.out.pushRows hb ho)
  have HDe3 := Lib.hid hd
  clear hd
  clear ho hb
  clear u_a0_26 v_a0_26 x_a0_26 y_a0_26 z_a0_26 u_a1_26 v_a1_26 x_a1_26 y_a1_26 z_a1_26 u_a2_26 v_a2_26 x_a2_26 y_a2_26 z_a2_26 u_b0_26 v_b0_26 x_b0_26 y_b0_26 z_b0_26 u_b1_26 v_b1_26 x_b1_26 y_b1_26 z_b1_26 u_b2_26 v_b2_26 x_b2_26 y_b2_26 z_b2_26
  obtain ⟨u_a0_27, v_a0_27, x_a0_27, y_a0_27, z_a0_27⟩ := blk2cells (I27.out.box 21 rfl)
  obtain ⟨u_a1_27, v_a1_27, x_a1_27, y_a1_27, z_a1_27⟩ := blk2cells (I27.out.box 20 rfl)
  obtain ⟨u_a2_27, v_a2_27, x_a2_27, y_a2_27, z_a2_27⟩ := blk2cells (I27.out.box 19 rfl)
  obtain ⟨u_b0_27, v_b0_27, x_b0_27, y_b0_27, z_b0_27⟩ := blk2cells (I27.out.box 11 rfl)
  obtain ⟨u_b1_27, v_b1_27, x_b1_27, y_b1_27, z_b1_27⟩ := blk2cells (I27.out.box 9 rfl)
  obtain ⟨u_b2_27, v_b2_27, x_b2_27, y_b2_27, z_b2_27⟩ := blk2cells (I27.out.box 7 rfl)
  go_wp2_with fail
  refine (eqRowsB_any _ _ n3 n3 _ _ _ _ _ (by rw [Hn3.out, (dat_xs HDx3.out).1]) (by rw [Hn3.out, (dat_xs HDe3.out).1]) (by omega) (by intro i hi; rw [(dat_xs HDx3.out).2 i]; exact Nat.le_trans (HLL3.out i (by rw [← (dat_xs HDx3.out).1]; exact hi)) (by omega)) (HDe3.out.trans HDx3.out.symm) ((I27.out.rows 6 rfl).rd (by rw [Hn3.out, (dat_xs HDx3.out).1])) ((I27.out.rows 0 rfl).rd (by rw [Hn3.out, (dat_xs HDe3.out).1]))).mono ?_
  rintro e w26 ⟨rfl, hb⟩
  have I28 := Lib.hid (I27.out.step hb)
  clear hb
  clear u_a0_27 v_a0_27 x_a0_27 y_a0_27 z_a0_27 u_a1_27 v_a1_27 x_a1_27 y_a1_27 z_a1_27 u_a2_27 v_a2_27 x_a2_27 y_a2_27 z_a2_27 u_b0_27 v_b0_27 x_b0_27 y_b0_27 z_b0_27 u_b1_27 v_b1_27 x_b1_27 y_b1_27 z_b1_27 u_b2_27 v_b2_27 x_b2_27 y_b2_27 z_b2_27
  obtain ⟨u_a0_28, v_a0_28, x_a0_28, y_a0_28, z_a0_28⟩ := blk2cells (I28.out.box 21 rfl)
  obtain ⟨u_a1_28, v_a1_28, x_a1_28, y_a1_28, z_a1_28⟩ := blk2cells (I28.out.box 20 rfl)
  obtain ⟨u_a2_28, v_a2_28, x_a2_28, y_a2_28, z_a2_28⟩ := blk2cells (I28.out.box 19 rfl)
  obtain ⟨u_b0_28, v_b0_28, x_b0_28, y_b0_28, z_b0_28⟩ := blk2cells (I28.out.box 11 rfl)
  obtain ⟨u_b1_28, v_b1_28, x_b1_28, y_b1_28, z_b1_28⟩ := blk2cells (I28.out.box 9 rfl)
  obtain ⟨u_b2_28, v_b2_28, x_b2_28, y_b2_28, z_b2_28⟩ := blk2cells (I28.out.box 7 rfl)
  go_wp2_with fail
  refine (HTO4.out _ I28.out.bel).mono ?_
  rintro e w27 ⟨ge4, Me4, rfl, hd, ho, hb⟩
  have I29 := Lib.hid (I28.out.pushRows hb ho)
  have HDe4 := Lib.hid hd
  clear hd
  clear ho hb
  clear u_a0_28 v_a0_28 x_a0_28 y_a0_28 z_a0_28 u_a1_28 v_a1_28 x_a1_28 y_a1_28 z_a1_28 u_a2_28 v_a2_28 x_a2_28 y_a2_28 z_a2_28 u_b0_28 v_b0_28 x_b0_28 y_b0_28 z_b0_28 u_b1_28 v_b1_28 x_b1_28 y_b1_28 z_b1_28 u_b2_28 v_b2_28 x_b2_28 y_b2_28 z_b2_28
  obtain ⟨u_a0_29, v_a0_29, x_a0_29, y_a0_29, z_a0_29⟩ := blk2cells (I29.out.box 22 rfl)
  obtain ⟨u_a1_29, v_a1_29, x_a1_29, y_a1_29, z_a1_29⟩ := blk2cells (I29.out.box 21 rfl)
  obtain ⟨u_a2_29, v_a2_29, x_a2_29, y_a2_29, z_a2_29⟩ := blk2cells (I29.out.box 20 rfl)
  obtain ⟨u_b0_29, v_b0_29, x_b0_29, y_b0_29, z_b0_29⟩ := blk2cells (I29.out.box 12 rfl)
  obtain ⟨u_b1_29, v_b1_29, x_b1_29, y_b1_29, z_b1_29⟩ := blk2cells (I29.out.box 10 rfl)
  obtain ⟨u_b2_29, v_b2_29, x_b2_29, y_b2_29, z_b2_29⟩ := blk2cells (I29.out.box 8 rfl)
  go_wp2_with fail
  refine (eqRowsB_any _ _ n4 n4 _ _ _ _ _ (by rw [Hn4.out, (dat_xs HDx4.out).1]) (by rw [Hn4.out, (dat_xs HDe4.out).1]) (by omega) (by intro i hi; rw [(dat_xs HDx4.out).2 i]; exact Nat.le_trans (HLL4.out i (by rw [← (dat_xs HDx4.out).1]; exact hi)) (by omega)) (HDe4.out.trans HDx4.out.symm) ((I29.out.rows 6 rfl).rd (by rw [Hn4.out, (dat_xs HDx4.out).1])) ((I29.out.rows 0 rfl).rd (by rw [Hn4.out, (dat_xs HDe4.out).1]))).mono ?_
  rintro e w28 ⟨rfl, hb⟩
  have I30 := Lib.hid (I29.out.step hb)
  clear hb
  clear u_a0_29 v_a0_29 x_a0_29 y_a0_29 z_a0_29 u_a1_29 v_a1_29 x_a1_29 y_a1_29 z_a1_29 u_a2_29 v_a2_29 x_a2_29 y_a2_29 z_a2_29 u_b0_29 v_b0_29 x_b0_29 y_b0_29 z_b0_29 u_b1_29 v_b1_29 x_b1_29 y_b1_29 z_b1_29 u_b2_29 v_b2_29 x_b2_29 y_b2_29 z_b2_29
  obtain ⟨u_a0_30, v_a0_30, x_a0_30, y_a0_30, z_a0_30⟩ := blk2cells (I30.out.box 22 rfl)
  obtain ⟨u_a1_30, v_a1_30, x_a1_30, y_a1_30, z_a1_30⟩ := blk2cells (I30.out.box 21 rfl)
  obtain ⟨u_a2_30, v_a2_30, x_a2_30, y_a2_30, z_a2_30⟩ := blk2cells (I30.out.box 20 rfl)
  obtain ⟨u_b0_30, v_b0_30, x_b0_30, y_b0_30, z_b0_30⟩ := blk2cells (I30.out.box 12 rfl)
  obtain ⟨u_b1_30, v_b1_30, x_b1_30, y_b1_30, z_b1_30⟩ := blk2cells (I30.out.box 10 rfl)
  obtain ⟨u_b2_30, v_b2_30, x_b2_30, y_b2_30, z_b2_30⟩ := blk2cells (I30.out.box 8 rfl)
  go_wp2_with fail
  have HKB0 := Lib.hid (show (0 : Int) ≤ 1 ∧ (1 : Int) ≤ 1 from ⟨by decide, by decide⟩)
  have hxl0 : xs0.length ≤ 1048576 := by rw [← Hn0.out]; exact hnb0
  have hqx0 : tot Mx0 = tot L0 := tot_dat HDx0.out
  have htx0 : tot Mx0 ≤ 1048576 := by rw [hqx0]; exact hk0
  clear hqx0
  have hBx0 := (I30.out.mod 13 rfl).deg.lt gx0 rfl
  refine (markModule_any _ _ _ _ xs0 Mx0 (1) _ (Nat.le_trans hBx0.1 (Nat.le_of_lt hBx0.2)) (I30.out.mod 13 rfl) (I30.out.modUp 13 rfl) (Nat.le_trans hxl0 (by decide)) (by rw [(dat_xs HDx0.out).1, ← Hm0.out]; exact Nat.le_trans hmb0 (by decide)) (Nat.le_trans htx0 (by decide)) HKB0.out.1 (Int.le_trans HKB0.out.2 (by decide))).mono ?_
  clear hBx0
  rintro e w29 ⟨rfl, ho, hk⟩
  have I31 := Lib.hid (I30.out.markMod 13 rfl hk ho)
  clear ho hk
  have HKB1 : Hid (0 ≤ (1 + xs0.length + tot Mx0 : Int) ∧ (1 + xs0.length + tot Mx0 : Int) ≤ 2097153) := Lib.hid (kb_add2 HKB0.out hxl0 htx0)
  clear u_a0_30 v_a0_30 x_a0_30 y_a0_30 z_a0_30 u_a1_30 v_a1_30 x_a1_30 y_a1_30 z_a1_30 u_a2_30 v_a2_30 x_a2_30 y_a2_30 z_a2_30 u_b0_30 v_b0_30 x_b0_30 y_b0_30 z_b0_30 u_b1_30 v_b1_30 x_b1_30 y_b1_30 z_b1_30 u_b2_30 v_b2_30 x_b2_30 y_b2_30 z_b2_30
  obtain ⟨u_a0_31, v_a0_31, x_a0_31, y_a0_31, z_a0_31⟩ := blk2cells (I31.out.box 22 rfl)
  obtain ⟨u_a1_31, v_a1_31, x_a1_31, y_a1_31, z_a1_31⟩ := blk2cells (I31.out.box 21 rfl)
  obtain ⟨u_a2_31, v_a2_31, x_a2_31, y_a2_31, z_a2_31⟩ := blk2cells (I31.out.box 20 rfl)
  obtain ⟨u_b0_31, v_b0_31, x_b0_31, y_b0_31, z_b0_31⟩ := blk2cells (I31.out.box 12 rfl)
  obtain ⟨u_b1_31, v_b1_31, x_b1_31, y_b1_31, z_b1_31⟩ := blk2cells (I31.out.box 10 rfl)
  obtain ⟨u_b2_31, v_b2_31, x_b2_31, y_b2_31, z_b2_31⟩ := blk2cells (I31.out.box 8 rfl)
  have hnn0 : ¬ (1 + xs0.length + tot Mx0 : Int) < 0 := Int.not_lt.2 HKB1.out.1
  go_wp2_with fail
  have hxl1 : xs1.length ≤ 1048576 := by rw [← Hn1.out]; exact hnb1
  have hqx1 : tot Mx1 = tot L1 := tot_dat HDx1.out
  have htx1 : tot Mx1 ≤ 1048576 := by rw [hqx1]; exact hk1
  clear hqx1
  have hBx1 := (I31.out.mod 11 rfl).deg.lt gx1 rfl
  refine (markModule_any _ _ _ _ xs1 Mx1 (1 + xs0.length + tot Mx0) _ (Nat.le_trans hBx1.1 (Nat.le_of_lt hBx1.2)) (I31.out.mod 11 rfl) (I31.out.modUp 11 rfl) (Nat.le_trans hxl1 (by decide)) (by rw [(dat_xs HDx1.out).1, ← Hm1.out]; exact Nat.le_trans hmb1 (by decide)) (Nat.le_trans htx1 (by decide)) HKB1.out.1 (Int.le_trans HKB1.out.2 (by decide))).mono ?_
  clear hBx1
  rintro e w30 ⟨rfl, ho, hk⟩
  have I32 := Lib.hid (I31.out.markMod 11 rfl hk ho)
  clear ho hk
  have HKB2 : Hid (0 ≤ (1 + xs0.length + tot Mx0 + xs1.length + tot Mx1 : Int) ∧ (1 + xs0.length + tot Mx0 + xs1.length + tot Mx1 : Int) ≤ 4194305) := Lib.hid (kb_add2 HKB1.out hxl1 htx1)
  clear u_a0_31 v_a0_31 x_a0_31 y_a0_31 z_a0_31 u_a1_31 v_a1_31 x_a1_31 y_a1_31 z_a1_31 u_a2_31 v_a2_31 x_a2_31 y_a2_31 z_a2_31 u_b0_31 v_b0_31 x_b0_31 y_b0_31 z_b0_31 u_b1_31 v_b1_31 x_b1_31 y_b1_31 z_b1_31 u_b2_31 v_b2_31 x_b2_31 y_b2_31 z_b2_31
  obtain ⟨u_a0_32, v_a0_32, x_a0_32, y_a0_32, z_a0_32⟩ := blk2cells (I32.out.box 22 rfl)
  obtain ⟨u_a1_32, v_a1_32, x_a1_32, y_a1_32, z_a1_32⟩ := blk2cells (I32.out.box 21 rfl)
  obtain ⟨u_a2_32, v_a2_32, x_a2_32, y_a2_32, z_a2_32⟩ := blk2cells (I32.out.box 20 rfl)
  obtain ⟨u_b0_32, v_b0_32, x_b0_32, y_b0_32, z_b0_32⟩ := blk2cells (I32.out.box 12 rfl)
  obtain ⟨u_b1_32, v_b1_32, x_b1_32, y_b1_32, z_b1_32⟩ := blk2cells (I32.out.box 10 rfl)
  obtain ⟨u_b2_32, v_b2_32, x_b2_32, y_b2_32, z_b2_32⟩ := blk2cells (I32.out.box 8 rfl)
  have hnn1 : ¬ (1 + xs0.length + tot Mx0 + xs1.length + tot Mx1 : Int) < 0 := Int.not_lt.2 HKB2.out.1
  go_wp2_with fail
  have hxl2 : xs2.length ≤ 1048576 := by rw [← Hn2.out]; exact hnb2
  have hqx2 : tot Mx2 = tot L2 := tot_dat HDx2.out
  have htx2 : tot Mx2 ≤ 1048576 := by rw [hqx2]; exact hk2
  clear hqx2
  have hBx2 := (I32.out.mod 9 rfl).deg.lt gx2 rfl
  refine (markModule_any _ _ _ _ xs2 Mx2 (1 + xs0.length + tot Mx0 + xs1.length + tot Mx1) _ (Nat.le_trans hBx2.1 (Nat.le_of_lt hBx2.2)) (I32.out.mod 9 rfl) (I32.out.modUp 9 rfl) (Nat.le_trans hxl2 (by decide)) (by rw [(dat_xs HDx2.out).1, ← Hm2.out]; exact Nat.le_trans hmb2 (by decide)) (Nat.le_trans htx2 (by decide)) HKB2.out.1 (Int.le_trans HKB2.out.2 (by decide))).mono ?_
  clear hBx2
  rintro e w31 ⟨rfl, ho, hk⟩
  have I33 := Lib.hid (I32.out.markMod 9 rfl hk ho)
  clear ho hk
  have HKB3 : Hid (0 ≤ (1 + xs0.length + tot Mx0 + xs1.length + tot Mx1 + xs2.length + tot Mx2 : Int) ∧ (1 + xs0.length + tot Mx0 + xs1.length + tot Mx1 + xs2.length + tot Mx2 : Int) ≤ 6291457) := Lib.hid (kb_add2 HKB2.out hxl2 htx2)
  clear u_a0_32 v_a0_32 x_a0_32 y_a0_32 z_a0_32 u_a1_32 v_a1_32 x_a1_32 y_a1_32 z_a1_32 u_a2_32 v_a2_32 x_a2_32 y_a2_32 z_a2_32 u_b0_32 v_b0_32 x_b0_32 y_b0_32 z_b0_32 u_b1_32 v_b1_32 x_b1_32 y_b1_32 z_b1_32 u_b2_32 v_b2_32 x_b2_32 y_b2_32 z_b2_32
  obtain ⟨u_a0_33, v_a0_33, x_a0_33, y_a0_33, z_a0_33⟩ := blk2cells (I33.out.box 22 rfl)
  obtain ⟨u_a1_33, v_a1_33, x_a1_33, y_a1_33, z_a1_33⟩ := blk2cells (I33.out.box 21 rfl)
  obtain ⟨u_a2_33, v_a2_33, x_a2_33, y_a2_33, z_a2_33⟩ := blk2cells (I33.out.box 20 rfl)
  obtain ⟨u_b0_33, v_b0_33, x_b0_33, y_b0_33, z_b0_33⟩ := blk2cells (I33.out.box 12 rfl)
  obtain ⟨u_b1_33, v_b1_33, x_b1_33, y_b1_33, z_b1_33⟩ := blk2cells (I33.out.box 10 rfl)
  obtain ⟨u_b2_33, v_b2_33, x_b2_33, y_b2_33, z_b2_33⟩ := blk2cells (I33.out.box 8 rfl)
  have hnn2 : ¬ (1 + xs0.length + tot Mx0 + xs1.length + tot Mx1 + xs2.length + tot Mx2 : Int) < 0 := Int.not_lt.2 HKB3.out.1
  go_wp2_with fail
  have hxl3 : L3.length ≤ 1048576 := by rw [← Hn3.out]; exact hnb3
  have hqx3 : tot Mx3 = tot L3 := tot_dat HDx3.out
  have htx3 : tot Mx3 ≤ 1048576 := by rw [hqx3]; exact hk3
  clear hqx3
  refine (markRows_any _ _ _ Mx3 (1 + xs0.length + tot Mx0 + xs1.length + tot Mx1 + xs2.length + tot Mx2) _ (I33.out.rows 7 rfl) (by rw [(dat_xs HDx3.out).1, ← Hn3.out]; exact hnb3) htx3 HKB3.out.1 (Int.le_trans HKB3.out.2 (by decide)) (I33.out.rowsUp 7 rfl).2).mono ?_
  rintro e w32 ⟨rfl, ho, hk⟩
  have I34 := Lib.hid (I33.out.markRows 7 rfl hk ho)
  clear ho hk
  have HKB4 : Hid (0 ≤ (1 + xs0.length + tot Mx0 + xs1.length + tot Mx1 + xs2.length + tot Mx2 + tot Mx3 : Int) ∧ (1 + xs0.length + tot Mx0 + xs1.length + tot Mx1 + xs2.length + tot Mx2 + tot Mx3 : Int) ≤ 7340033) := Lib.hid (kb_add1 HKB3.out htx3)
  clear u_a0_33 v_a0_33 x_a0_33 y_a0_33 z_a0_33 u_a1_33 v_a1_33 x_a1_33 y_a1_33 z_a1_33 u_a2_33 v_a2_33 x_a2_33 y_a2_33 z_a2_33 u_b0_33 v_b0_33 x_b0_33 y_b0_33 z_b0_33 u_b1_33 v_b1_33 x_b1_33 y_b1_33 z_b1_33 u_b2_33 v_b2_33 x_b2_33 y_b2_33 z_b2_33
  obtain ⟨u_a0_34, v_a0_34, x_a0_34, y_a0_34, z_a0_34⟩ := blk2cells (I34.out.box 22 rfl)
  obtain ⟨u_a1_34, v_a1_34, x_a1_34, y_a1_34, z_a1_34⟩ := blk2cells (I34.out.box 21 rfl)
  obtain ⟨u_a2_34, v_a2_34, x_a2_34, y_a2_34, z_a2_34⟩ := blk2cells (I34.out.box 20 rfl)
  obtain ⟨u_b0_34, v_b0_34, x_b0_34, y_b0_34, z_b0_34⟩ := blk2cells (I34.out.box 12 rfl)
  obtain ⟨u_b1_34, v_b1_34, x_b1_34, y_b1_34, z_b1_34⟩ := blk2cells (I34.out.box 10 rfl)
  obtain ⟨u_b2_34, v_b2_34, x_b2_34, y_b2_34, z_b2_34⟩ := blk2cells (I34.out.box 8 rfl)
  have hnn3 : ¬ (1 + xs0.length + tot Mx0 + xs1.length + tot Mx1 + xs2.length + tot Mx2 + tot Mx3 : Int) < 0 := Int.not_lt.2 HKB4.out.1
  go_wp2_with fail
  have hxl4 : L4.length ≤ 1048576 := by rw [← Hn4.out]; exact hnb4
  have hqx4 : tot Mx4 = tot L4 := tot_dat HDx4.out
  have htx4 : tot Mx4 ≤ 1048576 := by rw [hqx4]; exact hk4
  clear hqx4
  refine (markRows_any _ _ _ Mx4 (1 + xs0.length + tot Mx0 + xs1.length + tot Mx1 + xs2.length + tot Mx2 + tot Mx3) _ (I34.out.rows 6 rfl) (by rw [(dat_xs HDx4.out).1, ← Hn4.out]; exact hnb4) htx4 HKB4.out.1 (Int.le_trans HKB4.out.2 (by decide)) (I34.out.rowsUp 6 rfl).2).mono ?_
  rintro e w33 ⟨rfl, ho, hk⟩
  have I35 := Lib.hid (I34.out.markRows 6 rfl hk ho)
  clear ho hk
  have HKB5 : Hid (0 ≤ (1 + xs0.length + tot Mx0 + xs1.length + tot Mx1 + xs2.length + tot Mx2 + tot Mx3 + tot Mx4 : Int) ∧ (1 + xs0.length + tot Mx0 + xs1.length + tot Mx1 + xs2.length + tot Mx2 + tot Mx3 + tot Mx4 : Int) ≤ 8388609) := Lib.hid (kb_add1 HKB4.out htx4)
  clear u_a0_34 v_a0_34 x_a0_34 y_a0_34 z_a0_34 u_a1_34 v_a1_34 x_a1_34 y_a1_34 z_a1_34 u_a2_34 v_a2_34 x_a2_34 y_a2_34 z_a2_34 u_b0_34 v_b0_34 x_b0_34 y_b0_34 z_b0_34 u_b1_34 v_b1_34 x_b1_34 y_b1_34 z_b1_34 u_b2_34 v_b2_34 x_b2_34 y_b2_34 z_b2_34
  obtain ⟨u_a0_35, v_a0_35, x_a0_35, y_a0_35, z_a0_35⟩ := blk2cells (I35.out.box 22 rfl)
  obtain ⟨u_a1_35, v_a1_35, x_a1_35, y_a1_35, z_a1_35⟩ := blk2cells (I35.out.box 21 rfl)
  obtain ⟨u_a2_35, v_a2_35, x_a2_35, y_a2_35, z_a2_35⟩ := blk2cells (I35.out.box 20 rfl)
  obtain ⟨u_b0_35, v_b0_35, x_b0_35, y_b0_35, z_b0_35⟩ := blk2cells (I35.out.box 12 rfl)
  obtain ⟨u_b1_35, v_b1_35, x_b1_35, y_b1_35, z_b1_35⟩ := blk2cells (I35.out.box 10 rfl)
  obtain ⟨u_b2_35, v_b2_35, x_b2_35, y_b2_35, z_b2_35⟩ := blk2cells (I35.out.box 8 rfl)
  have hnn4 : ¬ (1 + xs0.length + tot Mx0 + xs1.length + tot Mx1 + xs2.length + tot Mx2 + tot Mx3 + tot Mx4 : Int) < 0 := Int.not_lt.2 HKB5.out.1
  go_wp2_with fail
  refine (eqRowsB_any _ _ _ _ _ _ _ _ _ rfl rfl (by omega) (fun i hi => Nat.le_trans (HZg.out.2.2 i hi) (by omega)) (HDs.out.trans HDg.out.symm) ((I35.out.rows 5 rfl).rd rfl) ((I35.out.rows 14 rfl).rd rfl)).mono ?_
  rintro e w34 ⟨rfl, hb⟩
  have I36 := Lib.hid (I35.out.step hb)
  clear hb
  clear u_a0_35 v_a0_35 x_a0_35 y_a0_35 z_a0_35 u_a1_35 v_a1_35 x_a1_35 y_a1_35 z_a1_35 u_a2_35 v_a2_35 x_a2_35 y_a2_35 z_a2_35 u_b0_35 v_b0_35 x_b0_35 y_b0_35 z_b0_35 u_b1_35 v_b1_35 x_b1_35 y_b1_35 z_b1_35 u_b2_35 v_b2_35 x_b2_35 y_b2_35 z_b2_35
  obtain ⟨u_a0_36, v_a0_36, x_a0_36, y_a0_36, z_a0_36⟩ := blk2cells (I36.out.box 22 rfl)
  obtain ⟨u_a1_36, v_a1_36, x_a1_36, y_a1_36, z_a1_36⟩ := blk2cells (I36.out.box 21 rfl)
  obtain ⟨u_a2_36, v_a2_36, x_a2_36, y_a2_36, z_a2_36⟩ := blk2cells (I36.out.box 20 rfl)
  obtain ⟨u_b0_36, v_b0_36, x_b0_36, y_b0_36, z_b0_36⟩ := blk2cells (I36.out.box 12 rfl)
  obtain ⟨u_b1_36, v_b1_36, x_b1_36, y_b1_36, z_b1_36⟩ := blk2cells (I36.out.box 10 rfl)
  obtain ⟨u_b2_36, v_b2_36, x_b2_36, y_b2_36, z_b2_36⟩ := blk2cells (I36.out.box 8 rfl)
  go_wp2_with fail
  refine (markRows_any _ _ _ Ng 1 _ (I36.out.rows 5 rfl) (by omega) (by omega) (by omega) (by omega) (I36.out.rowsUp 5 rfl).2).mono ?_
  rintro e w35 ⟨rfl, ho, hk⟩
  have I37 := Lib.hid (I36.out.markRows 5 rfl hk ho)
  clear ho hk
  clear u_a0_36 v_a0_36 x_a0_36 y_a0_36 z_a0_36 u_a1_36 v_a1_36 x_a1_36 y_a1_36 z_a1_36 u_a2_36 v_a2_36 x_a2_36 y_a2_36 z_a2_36 u_b0_36 v_b0_36 x_b0_36 y_b0_36 z_b0_36 u_b1_36 v_b1_36 x_b1_36 y_b1_36 z_b1_36 u_b2_36 v_b2_36 x_b2_36 y_b2_36 z_b2_36
  obtain ⟨u_a0_37, v_a0_37, x_a0_37, y_a0_37, z_a0_37⟩ := blk2cells (I37.out.box 22 rfl)
  obtain ⟨u_a1_37, v_a1_37, x_a1_37, y_a1_37, z_a1_37⟩ := blk2cells (I37.out.box 21 rfl)
  obtain ⟨u_a2_37, v_a2_37, x_a2_37, y_a2_37, z_a2_37⟩ := blk2cells (I37.out.box 20 rfl)
  obtain ⟨u_b0_37, v_b0_37, x_b0_37, y_b0_37, z_b0_37⟩ := blk2cells (I37.out.box 12 rfl)
  obtain ⟨u_b1_37, v_b1_37, x_b1_37, y_b1_37, z_b1_37⟩ := blk2cells (I37.out.box 10 rfl)
  obtain ⟨u_b2_37, v_b2_37, x_b2_37, y_b2_37, z_b2_37⟩ := blk2cells (I37.out.box 8 rfl)
  go_wp2_with fail
  refine (heldRows_any _ Ng.length _ Ng 1 _ rfl ((I37.out.rows 5 rfl).rd (by rw [marksR_length])) (by omega) (by omega) (by omega) (by omega)).mono ?_
  rintro e w' ⟨rfl, rfl⟩
  go_wp2_with fail
  have KS37 := Lib.hid (fun w' (hb : Below w35.heap.size w35 w') => show w'.cell? ⟨w.heap.size, 0, none⟩ = some (.slice A0 n0 c0) ∧ w'.cell? ⟨w.heap.size, 1, none⟩ = some (.slice B0 m0 d0) ∧ w'.cell? ⟨w.heap.size + 1, 0, none⟩ = some (.slice A1 n1 c1) ∧ w'.cell? ⟨w.heap.size + 1, 1, none⟩ = some (.slice B1 m1 d1) ∧ w'.cell? ⟨w.heap.size + 1 + 1, 0, none⟩ = some (.slice A2 n2 c2) ∧ w'.cell? ⟨w.heap.size + 1 + 1, 1, none⟩ = some (.slice B2 m2 d2) from by
    have J := I37.out.step hb
    exact ⟨(blk2cells (J.box 22 rfl)).1, (blk2cells (J.box 22 rfl)).2.1, (blk2cells (J.box 21 rfl)).1, (blk2cells (J.box 21 rfl)).2.1, (blk2cells (J.box 20 rfl)).1, (blk2cells (J.box 20 rfl)).2.1⟩)
  have HB_0 := Lib.hid (Below.drew (Below.refl w35.heap.size w35))
  have I38 := Lib.hid I37.out.drew
  clear u_a0_37 v_a0_37 x_a0_37 y_a0_37 z_a0_37 u_a1_37 v_a1_37 x_a1_37 y_a1_37 z_a1_37 u_a2_37 v_a2_37 x_a2_37 y_a2_37 z_a2_37 u_b0_37 v_b0_37 x_b0_37 y_b0_37 z_b0_37 u_b1_37 v_b1_37 x_b1_37 y_b1_37 z_b1_37 u_b2_37 v_b2_37 x_b2_37 y_b2_37 z_b2_37
  go_region_held3 (fun w' => w'.cell? ⟨w.heap.size, 0, none⟩ = some (.slice A0 n0 c0) ∧ w'.cell? ⟨w.heap.size, 1, none⟩ = some (.slice B0 m0 d0) ∧ w'.cell? ⟨w.heap.size + 1, 0, none⟩ = some (.slice A1 n1 c1) ∧ w'.cell? ⟨w.heap.size + 1, 1, none⟩ = some (.slice B1 m1 d1) ∧ w'.cell? ⟨w.heap.size + 1 + 1, 0, none⟩ = some (.slice A2 n2 c2) ∧ w'.cell? ⟨w.heap.size + 1 + 1, 1, none⟩ = some (.slice B2 m2 d2))
      (first | exact KS37.out _ HB_0.out | exact KS37.out _ HB_1.out | exact KS37.out _ HB_2.out | exact KS37.out _ HB_3.out | exact KS37.out _ HB_4.out | exact KS37.out _ HB_5.out | exact KS37.out _ HB_6.out)
      (first
        | (go_at_call 26; (with_reducible refine (HTO0.out _ I38.out.bel).mono ?_); (rintro e w36 ⟨gh0, hh0, Mh0, rfl, hd, ho, hb⟩; have I39 := Lib.hid (I38.out.pushMod hb ho); have HDh0 := Lib.hid hd; clear hd; have HB_1 := Lib.hid (HB_0.out.trans (hb.mono HB_0.out.size)); clear ho hb))
        | (go_at_call 26; (with_reducible refine (HTO1.out _ I39.out.bel).mono ?_); (rintro e w37 ⟨gh1, hh1, Mh1, rfl, hd, ho, hb⟩; have I40 := Lib.hid (I39.out.pushMod hb ho); have HDh1 := Lib.hid hd; clear hd; have HB_2 := Lib.hid (HB_1.out.trans (hb.mono HB_1.out.size)); clear ho hb))
        | (go_at_call 26; (with_reducible refine (HTO2.out _ I40.out.bel).mono ?_); (rintro e w38 ⟨gh2, hh2, Mh2, rfl, hd, ho, hb⟩; have I41 := Lib.hid (I40.out.pushMod hb ho); have HDh2 := Lib.hid hd; clear hd; have HB_3 := Lib.hid (HB_2.out.trans (hb.mono HB_2.out.size)); clear ho hb))
        | (go_at_call 11; (with_reducible refine (HTO3.out _ I41.out.bel).mono ?_); (rintro e w39 ⟨gh3, Mh3, rfl, hd, ho, hb⟩; have I42 := Lib.hid (I41.out.pushRows hb ho); have HDh3 := Lib.hid hd; clear hd; have HB_4 := Lib.hid (HB_3.out.trans (hb.mono HB_3.out.size)); clear ho hb))
        | (go_at_call 11; (with_reducible refine (HTO4.out _ I42.out.bel).mono ?_); (rintro e w40 ⟨gh4, Mh4, rfl, hd, ho, hb⟩; have I43 := Lib.hid (I42.out.pushRows hb ho); have HDh4 := Lib.hid hd; clear hd; have HB_5 := Lib.hid (HB_4.out.trans (hb.mono HB_4.out.size)); clear ho hb))
        | (go_at_call 35; (with_reducible refine (HIM.out _ _ (owns_Rd (by have h := (I43.out.mod 4 rfl).deg; rw [← Hn0.out] at h; exact h)) _ _ HDh0.out ((I43.out.mod 4 rfl).act.rd (by rw [Hm0.out, (dat_xs HDh0.out).1])) _ (owns_Rd (by have h := (I43.out.mod 3 rfl).deg; rw [← Hn1.out] at h; exact h)) _ _ HDh1.out ((I43.out.mod 3 rfl).act.rd (by rw [Hm1.out, (dat_xs HDh1.out).1])) _ (owns_Rd (by have h := (I43.out.mod 2 rfl).deg; rw [← Hn2.out] at h; exact h)) _ _ HDh2.out ((I43.out.mod 2 rfl).act.rd (by rw [Hm2.out, (dat_xs HDh2.out).1])) _ _ HDh3.out ((I43.out.rows 1 rfl).rd (by rw [Hn3.out, (dat_xs HDh3.out).1])) _ _ HDh4.out ((I43.out.rows 0 rfl).rd (by rw [Hn4.out, (dat_xs HDh4.out).1]))).mono ?_); (rintro e w41 ⟨vh, Nh, rfl, hd, ho, hb⟩; have HB_6 := Lib.hid (HB_5.out.trans (hb.mono HB_5.out.size)); have I44 := Lib.hid (I43.out.pushRows hb ho); have HDh := Lib.hid hd; clear ho hb hd; obtain ⟨Ah, kh, rfl, _, _, _⟩ := owns_shape (I44.out.rows 0 rfl).out; have HZh := Lib.hid (rows_small HDh.out hlen); have z1h := HZh.out.1; have z2h := HZh.out.2.1)))
  clear HB_0 HB_1 HB_2 HB_3 HB_4 HB_5 HB_6 KS37
  obtain ⟨u_a0_44, v_a0_44, x_a0_44, y_a0_44, z_a0_44⟩ := blk2cells (I44.out.box 28 rfl)
  obtain ⟨u_a1_44, v_a1_44, x_a1_44, y_a1_44, z_a1_44⟩ := blk2cells (I44.out.box 27 rfl)
  obtain ⟨u_a2_44, v_a2_44, x_a2_44, y_a2_44, z_a2_44⟩ := blk2cells (I44.out.box 26 rfl)
  obtain ⟨u_b0_44, v_b0_44, x_b0_44, y_b0_44, z_b0_44⟩ := blk2cells (I44.out.box 18 rfl)
  obtain ⟨u_b1_44, v_b1_44, x_b1_44, y_b1_44, z_b1_44⟩ := blk2cells (I44.out.box 16 rfl)
  obtain ⟨u_b2_44, v_b2_44, x_b2_44, y_b2_44, z_b2_44⟩ := blk2cells (I44.out.box 14 rfl)
  go_wp2_with fail
  refine (eqRowsB_any _ _ _ _ _ _ _ _ _ rfl rfl (by omega) (fun i hi => Nat.le_trans (HZh.out.2.2 i hi) (by omega)) (HDs.out.trans HDh.out.symm) ((I44.out.rows 0 rfl).rd rfl) ((I44.out.rows 20 rfl).rd rfl)).mono ?_
  rintro e w42 ⟨rfl, hb⟩
  have I45 := Lib.hid (I44.out.step hb)
  clear hb
  clear u_a0_44 v_a0_44 x_a0_44 y_a0_44 z_a0_44 u_a1_44 v_a1_44 x_a1_44 y_a1_44 z_a1_44 u_a2_44 v_a2_44 x_a2_44 y_a2_44 z_a2_44 u_b0_44 v_b0_44 x_b0_44 y_b0_44 z_b0_44 u_b1_44 v_b1_44 x_b1_44 y_b1_44 z_b1_44 u_b2_44 v_b2_44 x_b2_44 y_b2_44 z_b2_44
  obtain ⟨u_a0_45, v_a0_45, x_a0_45, y_a0_45, z_a0_45⟩ := blk2cells (I45.out.box 28 rfl)
  obtain ⟨u_a1_45, v_a1_45, x_a1_45, y_a1_45, z_a1_45⟩ := blk2cells (I45.out.box 27 rfl)
  obtain ⟨u_a2_45, v_a2_45, x_a2_45, y_a2_45, z_a2_45⟩ := blk2cells (I45.out.box 26 rfl)
  obtain ⟨u_b0_45, v_b0_45, x_b0_45, y_b0_45, z_b0_45⟩ := blk2cells (I45.out.box 18 rfl)
  obtain ⟨u_b1_45, v_b1_45, x_b1_45, y_b1_45, z_b1_45⟩ := blk2cells (I45.out.box 16 rfl)
  obtain ⟨u_b2_45, v_b2_45, x_b2_45, y_b2_45, z_b2_45⟩ := blk2cells (I45.out.box 14 rfl)
  go_wp2_with fail
  refine (heldRows_any _ Ng.length _ Ng 1 _ rfl ((I45.out.rows 11 rfl).rd (by rw [marksR_length])) (by omega) (by omega) (by omega) (by omega)).mono ?_
  rintro e w' ⟨rfl, rfl⟩
  go_wp2_with fail
  go_ret
  exact ⟨rfl, I45.out.bel⟩
end Go.Proofs.Ytocllmhkppkfoaa
