/- FnExactApplyMap: the walk of the law (printed by mkl2.py) -/
import Derived.Test.YtocllmhkppkfoaaLw2
import Derived.Test.YtocllmhkppkfoaaGj
import Derived.Deep.RegionHeld3
namespace Go.Proofs.Ytocllmhkppkfoaa
open Go.RowKit

set_option maxRecDepth 100000 in
set_option maxHeartbeats 8000000 in
theorem lawApplyMap_any (A0 : Option Addr) (n0 c0 : Nat) (xs0 : List Int) (B0 : Option Addr) (m0 d0 : Nat) (L0 : List Row) (A1 : Option Addr) (n1 c1 : Nat) (xs1 : List Int) (B1 : Option Addr) (m1 d1 : Nat) (L1 : List Row) (A2 : Option Addr) (n2 c2 : Nat) (L2 : List Row) (A3 : Option Addr) (n3 c3 : Nat) (xs3 : List Int) (w : World) (hn0 : n0 = xs0.length) (hs0 : n0 ≤ 9223372036854775807) (hR0 : Rd w A0 (iv xs0)) (hm0 : m0 = L0.length) (ht0 : m0 ≤ 9223372036854775807) (hl0 : ∀ i, i < L0.length → (rg L0 i).xs.length ≤ 9223372036854775807) (hQ0 : RdR w B0 L0) (hn1 : n1 = xs1.length) (hs1 : n1 ≤ 9223372036854775807) (hR1 : Rd w A1 (iv xs1)) (hm1 : m1 = L1.length) (ht1 : m1 ≤ 9223372036854775807) (hl1 : ∀ i, i < L1.length → (rg L1 i).xs.length ≤ 9223372036854775807) (hQ1 : RdR w B1 L1) (hn2 : n2 = L2.length) (hs2 : n2 ≤ 9223372036854775807) (hl2 : ∀ i, i < L2.length → (rg L2 i).xs.length ≤ 9223372036854775807) (hR2 : RdR w A2 L2) (hn3 : n3 = xs3.length) (hs3 : n3 ≤ 9223372036854775807) (hR3 : Rd w A3 (iv xs3)) :
    Calls Try.prog 7 #[.agg #[.slice A0 n0 c0, .slice B0 m0 d0], .agg #[.slice A1 n1 c1, .slice B1 m1 d1], .slice A2 n2 c2, .slice A3 n3 c3] w fun e w' => e = .returned (.bool true) ∧ Below w.heap.size w w' := by
  have hI := ((Inw.start w).allocBox #[.slice A0 n0 c0, .slice B0 m0 d0] 41).allocBox #[.slice A1 n1 c1, .slice B1 m1 d1] 41
  simp only [World.size_alloc] at hI
  have I0 := Lib.hid hI
  clear hI
  have Hn0 := Lib.hid hn0
  have HR0 := Lib.hid hR0
  have Hm0 := Lib.hid hm0
  have HL0 := Lib.hid hl0
  have HQ0 := Lib.hid hQ0
  clear hn0 hR0 hm0 hl0 hQ0
  have Hn1 := Lib.hid hn1
  have HR1 := Lib.hid hR1
  have Hm1 := Lib.hid hm1
  have HL1 := Lib.hid hl1
  have HQ1 := Lib.hid hQ1
  clear hn1 hR1 hm1 hl1 hQ1
  have Hn2 := Lib.hid hn2
  have HR2 := Lib.hid hR2
  have HL2 := Lib.hid hl2
  clear hn2 hR2 hl2
  have Hn3 := Lib.hid hn3
  have HR3 := Lib.hid hR3
  clear hn3 hR3
  by_cases hb3 : ¬ n3 ≤ 1048576
  · have hb' : 1048576 < (n3 : Int) := by omega
    go_enter Try.func7, Try.ntmps7
    go_wp2_with fail
    go_ret
    exact ⟨rfl, I0.out.bel⟩
  have hb3' : ¬ 1048576 < (n3 : Int) := by omega
  go_enter Try.func7, Try.ntmps7
  go_wp2_with fail
  refine (szModule_any A0 B0 n0 c0 m0 d0 L0 (1048576) _ hs0 Hm0.out ht0 HL0.out (by omega) (by omega) (HQ0.out.below I0.out.bel)).mono ?_
  rintro e w1 ⟨z0, rfl, hz, hb⟩
  have I1 := Lib.hid (I0.out.step hb)
  clear hb
  obtain ⟨u_a0_1, v_a0_1, x_a0_1, y_a0_1, z_a0_1⟩ := blk2cells (I1.out.box 1 rfl)
  obtain ⟨u_a1_1, v_a1_1, x_a1_1, y_a1_1, z_a1_1⟩ := blk2cells (I1.out.box 0 rfl)
  rcases hz with rfl | ⟨hz0, hy0⟩
  · go_wp2_with fail
    go_ret
    exact ⟨rfl, I1.out.bel⟩
  have hi0 : ¬ z0 < 0 := by omega
  have hk0 : tot L0 ≤ 1048576 := by omega
  have HLL0 := Lib.hid (fun i (hi : i < L0.length) => Nat.le_trans (len_le_tot hi) hk0)
  go_wp2_with fail
  refine (szModule_any A1 B1 n1 c1 m1 d1 L1 (z0) _ hs1 Hm1.out ht1 HL1.out (by omega) (by omega) (HQ1.out.below I1.out.bel)).mono ?_
  rintro e w2 ⟨z1, rfl, hz, hb⟩
  have I2 := Lib.hid (I1.out.step hb)
  clear hb
  clear u_a0_1 v_a0_1 x_a0_1 y_a0_1 z_a0_1 u_a1_1 v_a1_1 x_a1_1 y_a1_1 z_a1_1
  obtain ⟨u_a0_2, v_a0_2, x_a0_2, y_a0_2, z_a0_2⟩ := blk2cells (I2.out.box 1 rfl)
  obtain ⟨u_a1_2, v_a1_2, x_a1_2, y_a1_2, z_a1_2⟩ := blk2cells (I2.out.box 0 rfl)
  rcases hz with rfl | ⟨hz1, hy1⟩
  · go_wp2_with fail
    go_ret
    exact ⟨rfl, I2.out.bel⟩
  have hi1 : ¬ z1 < 0 := by omega
  have hk1 : tot L1 ≤ 1048576 := by omega
  have HLL1 := Lib.hid (fun i (hi : i < L1.length) => Nat.le_trans (len_le_tot hi) hk1)
  go_wp2_with fail
  refine (szRows_any A2 n2 c2 L2 (z1) _ Hn2.out hs2 HL2.out (by omega) (by omega) (HR2.out.below I2.out.bel)).mono ?_
  rintro e w3 ⟨z2, rfl, hz, rfl⟩
  rcases hz with rfl | ⟨hz2, hy2⟩
  · go_wp2_with fail
    go_ret
    exact ⟨rfl, I2.out.bel⟩
  have hi2 : ¬ z2 < 0 := by omega
  have hk2 : tot L2 ≤ 1048576 := by omega
  have HLL2 := Lib.hid (fun i (hi : i < L2.length) => Nat.le_trans (len_le_tot hi) hk2)
  have HTO0 := Lib.hid (fun W (hb : Below w.heap.size w W) => toModule_any A0 B0 n0 c0 m0 d0 xs0 L0 W Hn0.out (by omega) (HR0.out.below hb) Hm0.out (by omega) HLL0.out (HQ0.out.below hb))
  have HTO1 := Lib.hid (fun W (hb : Below w.heap.size w W) => toModule_any A1 B1 n1 c1 m1 d1 xs1 L1 W Hn1.out (by omega) (HR1.out.below hb) Hm1.out (by omega) HLL1.out (HQ1.out.below hb))
  have HTO2 := Lib.hid (fun W (hb : Below w.heap.size w W) => toRows_any A2 n2 c2 L2 W Hn2.out (by omega) HLL2.out (HR2.out.below hb))
  have HTO3 := Lib.hid (fun W (hb : Below w.heap.size w W) => toInts_any A3 n3 c3 xs3 W Hn3.out (by omega) (HR3.out.below hb))
  obtain ⟨rr, hrr⟩ : ∃ rr, applyMapOf xs0 L0 xs1 L1 L2 xs3 = rr := ⟨_, rfl⟩
  have hlen := applyMapOf_len xs0 L0 xs1 L1 L2 xs3
  rw [hrr] at hlen
  have HDD := Lib.hid (fun (M0 : List Row) (e0 : dat M0 = dat L0) (M1 : List Row) (e1 : dat M1 = dat L1) (M2 : List Row) (e2 : dat M2 = dat L2) => (applyMapOf_dat e0 e1 e2).trans hrr)
  clear hrr
  have hnb0 : n0 ≤ 1048576 := by omega
  have hmb0 : m0 ≤ 1048576 := by omega
  have hnb1 : n1 ≤ 1048576 := by omega
  have hmb1 : m1 ≤ 1048576 := by omega
  have hnb2 : n2 ≤ 1048576 := by omega
  have hnb3 : n3 ≤ 1048576 := by omega
  have HSP := Lib.hid (fun (W : World) (C0 : Option Addr) (r0 : Rd W C0 (iv xs0)) (E0 : Option Addr) (M0 : List Row) (e0 : dat M0 = dat L0) (q0 : RdR W E0 M0) (C1 : Option Addr) (r1 : Rd W C1 (iv xs1)) (E1 : Option Addr) (M1 : List Row) (e1 : dat M1 = dat L1) (q1 : RdR W E1 M1) (C2 : Option Addr) (M2 : List Row) (e2 : dat M2 = dat L2) (r2 : RdR W C2 M2) (C3 : Option Addr) (r3 : Rd W C3 (iv xs3)) => show Calls Try.prog 31 #[.agg #[.slice C0 n0 n0, .slice E0 m0 m0], .agg #[.slice C1 n1 n1, .slice E1 m1 m1], .slice C2 n2 n2, .slice C3 n3 n3] W (ResS rr W) from by
    have h : Calls Try.prog 31 #[.agg #[.slice C0 n0 n0, .slice E0 m0 m0], .agg #[.slice C1 n1 n1, .slice E1 m1 m1], .slice C2 n2 n2, .slice C3 n3 n3] W (ResS (applyMapOf xs0 M0 xs1 M1 M2 xs3) W) := specApplyMap_any C0 n0 n0 xs0 E0 m0 m0 M0 C1 n1 n1 xs1 E1 m1 m1 M1 C2 n2 n2 M2 C3 n3 n3 xs3 W Hn0.out (by omega) r0 (by rw [Hm0.out, (dat_xs e0).1]) (by omega) (by intro i hi; rw [(dat_xs e0).2 i]; exact HLL0.out i (by rw [← (dat_xs e0).1]; exact hi)) q0 Hn1.out (by omega) r1 (by rw [Hm1.out, (dat_xs e1).1]) (by omega) (by intro i hi; rw [(dat_xs e1).2 i]; exact HLL1.out i (by rw [← (dat_xs e1).1]; exact hi)) q1 (by rw [Hn2.out, (dat_xs e2).1]) (by omega) (by intro i hi; rw [(dat_xs e2).2 i]; exact HLL2.out i (by rw [← (dat_xs e2).1]; exact hi)) r2 Hn3.out (by omega) r3
    rw [HDD.out M0 e0 M1 e1 M2 e2] at h
    exact h)
  have HIM := Lib.hid (fun (W : World) (C0 : Option Addr) (r0 : Rd W C0 (iv xs0)) (E0 : Option Addr) (M0 : List Row) (e0 : dat M0 = dat L0) (q0 : RdR W E0 M0) (C1 : Option Addr) (r1 : Rd W C1 (iv xs1)) (E1 : Option Addr) (M1 : List Row) (e1 : dat M1 = dat L1) (q1 : RdR W E1 M1) (C2 : Option Addr) (M2 : List Row) (e2 : dat M2 = dat L2) (r2 : RdR W C2 M2) (C3 : Option Addr) (r3 : Rd W C3 (iv xs3)) => show Calls Try.prog 32 #[.agg #[.slice C0 n0 n0, .slice E0 m0 m0], .agg #[.slice C1 n1 n1, .slice E1 m1 m1], .slice C2 n2 n2, .slice C3 n3 n3] W (ResS rr W) from by
    have h : Calls Try.prog 32 #[.agg #[.slice C0 n0 n0, .slice E0 m0 m0], .agg #[.slice C1 n1 n1, .slice E1 m1 m1], .slice C2 n2 n2, .slice C3 n3 n3] W (ResS (applyMapOf xs0 M0 xs1 M1 M2 xs3) W) := implApplyMap_any C0 n0 n0 xs0 E0 m0 m0 M0 C1 n1 n1 xs1 E1 m1 m1 M1 C2 n2 n2 M2 C3 n3 n3 xs3 W Hn0.out (by omega) r0 (by rw [Hm0.out, (dat_xs e0).1]) (by omega) (by intro i hi; rw [(dat_xs e0).2 i]; exact HLL0.out i (by rw [← (dat_xs e0).1]; exact hi)) q0 Hn1.out (by omega) r1 (by rw [Hm1.out, (dat_xs e1).1]) (by omega) (by intro i hi; rw [(dat_xs e1).2 i]; exact HLL1.out i (by rw [← (dat_xs e1).1]; exact hi)) q1 (by rw [Hn2.out, (dat_xs e2).1]) (by omega) (by intro i hi; rw [(dat_xs e2).2 i]; exact HLL2.out i (by rw [← (dat_xs e2).1]; exact hi)) r2 Hn3.out (by omega) r3
    rw [HDD.out M0 e0 M1 e1 M2 e2] at h
    exact h)
  go_wp2_with fail
  clear hz0 hy0 hi0 hs0 ht0 hz1 hy1 hi1 hs1 ht1 hz2 hy2 hi2 hs2 hb3 hs3
  have KS2 := Lib.hid (fun w' (hb : Below w2.heap.size w2 w') => show w'.cell? ⟨w.heap.size, 0, none⟩ = some (.slice A0 n0 c0) ∧ w'.cell? ⟨w.heap.size, 1, none⟩ = some (.slice B0 m0 d0) ∧ w'.cell? ⟨w.heap.size + 1, 0, none⟩ = some (.slice A1 n1 c1) ∧ w'.cell? ⟨w.heap.size + 1, 1, none⟩ = some (.slice B1 m1 d1) from by
    have J := I2.out.step hb
    exact ⟨(blk2cells (J.box 1 rfl)).1, (blk2cells (J.box 1 rfl)).2.1, (blk2cells (J.box 0 rfl)).1, (blk2cells (J.box 0 rfl)).2.1⟩)
  have HB_0 := Lib.hid (Below.drew (Below.refl w2.heap.size w2))
  have I3 := Lib.hid I2.out.drew
  clear u_a0_2 v_a0_2 x_a0_2 y_a0_2 z_a0_2 u_a1_2 v_a1_2 x_a1_2 y_a1_2 z_a1_2
  go_region_held3 (fun w' => w'.cell? ⟨w.heap.size, 0, none⟩ = some (.slice A0 n0 c0) ∧ w'.cell? ⟨w.heap.size, 1, none⟩ = some (.slice B0 m0 d0) ∧ w'.cell? ⟨w.heap.size + 1, 0, none⟩ = some (.slice A1 n1 c1) ∧ w'.cell? ⟨w.heap.size + 1, 1, none⟩ = some (.slice B1 m1 d1))
      (first | exact KS2.out _ HB_0.out | exact KS2.out _ HB_1.out | exact KS2.out _ HB_2.out | exact KS2.out _ HB_3.out | exact KS2.out _ HB_4.out | exact KS2.out _ HB_5.out)
      (first
        | (go_at_call 26; (with_reducible refine (HTO0.out _ I3.out.bel).mono ?_); (rintro e w4 ⟨gs0, hs0, Ms0, rfl, hd, ho, hb⟩; have I4 := Lib.hid (I3.out.pushMod hb ho); have HDs0 := Lib.hid hd; clear hd; have HB_1 := Lib.hid (HB_0.out.trans (hb.mono HB_0.out.size)); clear ho hb))
        | (go_at_call 26; (with_reducible refine (HTO1.out _ I4.out.bel).mono ?_); (rintro e w5 ⟨gs1, hs1, Ms1, rfl, hd, ho, hb⟩; have I5 := Lib.hid (I4.out.pushMod hb ho); have HDs1 := Lib.hid hd; clear hd; have HB_2 := Lib.hid (HB_1.out.trans (hb.mono HB_1.out.size)); clear ho hb))
        | (go_at_call 11; (with_reducible refine (HTO2.out _ I5.out.bel).mono ?_); (rintro e w6 ⟨gs2, Ms2, rfl, hd, ho, hb⟩; have I6 := Lib.hid (I5.out.pushRows hb ho); have HDs2 := Lib.hid hd; clear hd; have HB_3 := Lib.hid (HB_2.out.trans (hb.mono HB_2.out.size)); clear ho hb))
        | (go_at_call 19; (with_reducible refine (HTO3.out _ I6.out.bel).mono ?_); (rintro e w7 ⟨gs3, rfl, ho, hb⟩; have I7 := Lib.hid (I6.out.pushOwn hb ho); have HB_4 := Lib.hid (HB_3.out.trans (hb.mono HB_3.out.size)); clear ho hb))
        | (go_at_call 31; (with_reducible refine (HSP.out _ _ (owns_Rd (by have h := (I7.out.mod 3 rfl).deg; rw [← Hn0.out] at h; exact h)) _ _ HDs0.out ((I7.out.mod 3 rfl).act.rd (by rw [Hm0.out, (dat_xs HDs0.out).1])) _ (owns_Rd (by have h := (I7.out.mod 2 rfl).deg; rw [← Hn1.out] at h; exact h)) _ _ HDs1.out ((I7.out.mod 2 rfl).act.rd (by rw [Hm1.out, (dat_xs HDs1.out).1])) _ _ HDs2.out ((I7.out.rows 1 rfl).rd (by rw [Hn2.out, (dat_xs HDs2.out).1])) _ (owns_Rd (I7.out.own 0 rfl))).mono ?_); (rintro e w8 ⟨vs, rfl, ho, hb⟩; have HB_5 := Lib.hid (HB_4.out.trans (hb.mono HB_4.out.size)); have I8 := Lib.hid (I7.out.pushOwn hb ho); clear ho hb; obtain ⟨As, ks, rfl, _, _, _⟩ := owns_shape (I8.out.own 0 rfl))))
  clear HB_0 HB_1 HB_2 HB_3 HB_4 HB_5 KS2
  obtain ⟨u_a0_8, v_a0_8, x_a0_8, y_a0_8, z_a0_8⟩ := blk2cells (I8.out.box 6 rfl)
  obtain ⟨u_a1_8, v_a1_8, x_a1_8, y_a1_8, z_a1_8⟩ := blk2cells (I8.out.box 5 rfl)
  go_wp2_with fail
  refine (HTO0.out _ I8.out.bel).mono ?_
  rintro e w9 ⟨gx0, hx0, Mx0, rfl, hd, ho, hb⟩
  have I9 := Lib.hid (I8.out.pushMod hb ho)
  have HDx0 := Lib.hid hd
  clear hd
  clear ho hb
  clear u_a0_8 v_a0_8 x_a0_8 y_a0_8 z_a0_8 u_a1_8 v_a1_8 x_a1_8 y_a1_8 z_a1_8
  obtain ⟨u_a0_9, v_a0_9, x_a0_9, y_a0_9, z_a0_9⟩ := blk2cells (I9.out.box 7 rfl)
  obtain ⟨u_a1_9, v_a1_9, x_a1_9, y_a1_9, z_a1_9⟩ := blk2cells (I9.out.box 6 rfl)
  go_wp2_with fail
  have hI := I9.out.allocBox #[.slice (some ⟨gx0, 0, none⟩) n0 n0, .slice (some ⟨hx0, 0, none⟩) m0 m0] 45
  refine (HTO1.out _ hI.bel).mono ?_
  rintro e w10 ⟨gx1, hx1, Mx1, rfl, hd, ho, hb⟩
  have I10 := Lib.hid (hI.pushMod hb ho)
  have HDx1 := Lib.hid hd
  clear hd
  clear ho hb
  clear hI
  clear u_a0_9 v_a0_9 x_a0_9 y_a0_9 z_a0_9 u_a1_9 v_a1_9 x_a1_9 y_a1_9 z_a1_9
  obtain ⟨u_a0_10, v_a0_10, x_a0_10, y_a0_10, z_a0_10⟩ := blk2cells (I10.out.box 9 rfl)
  obtain ⟨u_a1_10, v_a1_10, x_a1_10, y_a1_10, z_a1_10⟩ := blk2cells (I10.out.box 8 rfl)
  obtain ⟨u_b0_10, v_b0_10, x_b0_10, y_b0_10, z_b0_10⟩ := blk2cells (I10.out.box 1 rfl)
  go_wp2_with fail
  have hI := I10.out.allocBox #[.slice (some ⟨gx1, 0, none⟩) n1 n1, .slice (some ⟨hx1, 0, none⟩) m1 m1] 45
  refine (HTO2.out _ hI.bel).mono ?_
  rintro e w11 ⟨gx2, Mx2, rfl, hd, ho, hb⟩
  have I11 := Lib.hid (hI.pushRows hb ho)
  have HDx2 := Lib.hid hd
  clear hd
  clear ho hb
  clear hI
  clear u_a0_10 v_a0_10 x_a0_10 y_a0_10 z_a0_10 u_a1_10 v_a1_10 x_a1_10 y_a1_10 z_a1_10 u_b0_10 v_b0_10 x_b0_10 y_b0_10 z_b0_10
  obtain ⟨u_a0_11, v_a0_11, x_a0_11, y_a0_11, z_a0_11⟩ := blk2cells (I11.out.box 11 rfl)
  obtain ⟨u_a1_11, v_a1_11, x_a1_11, y_a1_11, z_a1_11⟩ := blk2cells (I11.out.box 10 rfl)
  obtain ⟨u_b0_11, v_b0_11, x_b0_11, y_b0_11, z_b0_11⟩ := blk2cells (I11.out.box 3 rfl)
  obtain ⟨u_b1_11, v_b1_11, x_b1_11, y_b1_11, z_b1_11⟩ := blk2cells (I11.out.box 1 rfl)
  go_wp2_with fail
  refine (HTO3.out _ I11.out.bel).mono ?_
  rintro e w12 ⟨gx3, rfl, ho, hb⟩
  have I12 := Lib.hid (I11.out.pushOwn hb ho)
  clear ho hb
  clear u_a0_11 v_a0_11 x_a0_11 y_a0_11 z_a0_11 u_a1_11 v_a1_11 x_a1_11 y_a1_11 z_a1_11 u_b0_11 v_b0_11 x_b0_11 y_b0_11 z_b0_11 u_b1_11 v_b1_11 x_b1_11 y_b1_11 z_b1_11
  obtain ⟨u_a0_12, v_a0_12, x_a0_12, y_a0_12, z_a0_12⟩ := blk2cells (I12.out.box 12 rfl)
  obtain ⟨u_a1_12, v_a1_12, x_a1_12, y_a1_12, z_a1_12⟩ := blk2cells (I12.out.box 11 rfl)
  obtain ⟨u_b0_12, v_b0_12, x_b0_12, y_b0_12, z_b0_12⟩ := blk2cells (I12.out.box 4 rfl)
  obtain ⟨u_b1_12, v_b1_12, x_b1_12, y_b1_12, z_b1_12⟩ := blk2cells (I12.out.box 2 rfl)
  go_wp2_with fail
  refine (HIM.out _ _ (owns_Rd (by have h := (I12.out.mod 5 rfl).deg; rw [← Hn0.out] at h; exact h)) _ _ HDx0.out ((I12.out.mod 5 rfl).act.rd (by rw [Hm0.out, (dat_xs HDx0.out).1])) _ (owns_Rd (by have h := (I12.out.mod 3 rfl).deg; rw [← Hn1.out] at h; exact h)) _ _ HDx1.out ((I12.out.mod 3 rfl).act.rd (by rw [Hm1.out, (dat_xs HDx1.out).1])) _ _ HDx2.out ((I12.out.rows 1 rfl).rd (by rw [Hn2.out, (dat_xs HDx2.out).1])) _ (owns_Rd (I12.out.own 0 rfl))).mono ?_
  rintro e w13 ⟨vg, rfl, ho, hb⟩
  have I13 := Lib.hid (I12.out.pushOwn hb ho)
  clear ho hb
  obtain ⟨Ag, kg, rfl, _, _, _⟩ := owns_shape (I13.out.own 0 rfl)
  clear u_a0_12 v_a0_12 x_a0_12 y_a0_12 z_a0_12 u_a1_12 v_a1_12 x_a1_12 y_a1_12 z_a1_12 u_b0_12 v_b0_12 x_b0_12 y_b0_12 z_b0_12 u_b1_12 v_b1_12 x_b1_12 y_b1_12 z_b1_12
  obtain ⟨u_a0_13, v_a0_13, x_a0_13, y_a0_13, z_a0_13⟩ := blk2cells (I13.out.box 13 rfl)
  obtain ⟨u_a1_13, v_a1_13, x_a1_13, y_a1_13, z_a1_13⟩ := blk2cells (I13.out.box 12 rfl)
  obtain ⟨u_b0_13, v_b0_13, x_b0_13, y_b0_13, z_b0_13⟩ := blk2cells (I13.out.box 5 rfl)
  obtain ⟨u_b1_13, v_b1_13, x_b1_13, y_b1_13, z_b1_13⟩ := blk2cells (I13.out.box 3 rfl)
  go_wp2_with fail
  refine (eqIntsB_any _ _ _ _ _ rr.1 _ rfl (by omega) (owns_Rd (I13.out.own 0 rfl)) (owns_Rd (I13.out.own 7 rfl))).mono ?_
  rintro e w14 ⟨rfl, hb⟩
  have I14 := Lib.hid (I13.out.step hb)
  clear hb
  clear u_a0_13 v_a0_13 x_a0_13 y_a0_13 z_a0_13 u_a1_13 v_a1_13 x_a1_13 y_a1_13 z_a1_13 u_b0_13 v_b0_13 x_b0_13 y_b0_13 z_b0_13 u_b1_13 v_b1_13 x_b1_13 y_b1_13 z_b1_13
  obtain ⟨u_a0_14, v_a0_14, x_a0_14, y_a0_14, z_a0_14⟩ := blk2cells (I14.out.box 13 rfl)
  obtain ⟨u_a1_14, v_a1_14, x_a1_14, y_a1_14, z_a1_14⟩ := blk2cells (I14.out.box 12 rfl)
  obtain ⟨u_b0_14, v_b0_14, x_b0_14, y_b0_14, z_b0_14⟩ := blk2cells (I14.out.box 5 rfl)
  obtain ⟨u_b1_14, v_b1_14, x_b1_14, y_b1_14, z_b1_14⟩ := blk2cells (I14.out.box 3 rfl)
  go_wp2_with fail
  have KS := Lib.hid (fun w' (hb : Below w14.heap.size w14 w') => show w'.cell? ⟨w9.heap.size, 0, none⟩ = some (.slice (some ⟨gx0, 0, none⟩) n0 n0) ∧ w'.cell? ⟨w9.heap.size, 1, none⟩ = some (.slice (some ⟨hx0, 0, none⟩) m0 m0) ∧ w'.cell? ⟨w.heap.size, 0, none⟩ = some (.slice A0 n0 c0) ∧ w'.cell? ⟨w.heap.size, 1, none⟩ = some (.slice B0 m0 d0) from by
    have J := I14.out.step hb
    exact ⟨(blk2cells (J.box 5 rfl)).1, (blk2cells (J.box 5 rfl)).2.1, (blk2cells (J.box 13 rfl)).1, (blk2cells (J.box 13 rfl)).2.1⟩)
  have HB_0 := Lib.hid (Below.drew (Below.refl w14.heap.size w14))
  have I15 := Lib.hid I14.out.drew
  clear u_a0_14 v_a0_14 x_a0_14 y_a0_14 z_a0_14 u_a1_14 v_a1_14 x_a1_14 y_a1_14 z_a1_14 u_b0_14 v_b0_14 x_b0_14 y_b0_14 z_b0_14 u_b1_14 v_b1_14 x_b1_14 y_b1_14 z_b1_14
  go_region_held3 (fun w' => w'.cell? ⟨w9.heap.size, 0, none⟩ = some (.slice (some ⟨gx0, 0, none⟩) n0 n0) ∧ w'.cell? ⟨w9.heap.size, 1, none⟩ = some (.slice (some ⟨hx0, 0, none⟩) m0 m0) ∧ w'.cell? ⟨w.heap.size, 0, none⟩ = some (.slice A0 n0 c0) ∧ w'.cell? ⟨w.heap.size, 1, none⟩ = some (.slice B0 m0 d0))
      (first | exact KS.out _ HB_0.out | exact KS.out _ HB_1.out | exact KS.out _ HB_2.out)
      (first
        | (go_at_call 26; (with_reducible refine (HTO0.out _ I15.out.bel).mono ?_); (rintro e w15 ⟨ge0, he0, Me0, rfl, hd, ho, hb⟩; have I16 := Lib.hid (I15.out.pushMod hb ho); have HDe0 := Lib.hid hd; have HB_1 := Lib.hid (HB_0.out.trans (hb.mono HB_0.out.size)); clear ho hb hd))
        | (go_at_call 28; (with_reducible refine (eqModule_any _ _ _ _ n0 n0 n0 m0 m0 m0 xs0 _ _ _ Hn0.out (by omega) (by rw [Hm0.out, (dat_xs HDx0.out).1]) (by omega) (by intro i hi; rw [(dat_xs HDx0.out).2 i]; exact HLL0.out i (by rw [← (dat_xs HDx0.out).1]; exact hi)) (HDe0.out.trans HDx0.out.symm) (owns_Rd (by have h := (I16.out.mod 7 rfl).deg; rw [← Hn0.out] at h; exact h)) (owns_Rd (by have h := (I16.out.mod 0 rfl).deg; rw [← Hn0.out] at h; exact h)) ((I16.out.mod 7 rfl).act.rd (by rw [Hm0.out, (dat_xs HDx0.out).1])) ((I16.out.mod 0 rfl).act.rd (by rw [Hm0.out, (dat_xs HDe0.out).1]))).mono ?_); (rintro e w16 ⟨rfl, hb⟩; have I17 := Lib.hid (I16.out.step hb); have HB_2 := Lib.hid (HB_1.out.trans (hb.mono HB_1.out.size)); clear hb)))
  clear HB_0 HB_1 HB_2 KS
  obtain ⟨u_a0_17, v_a0_17, x_a0_17, y_a0_17, z_a0_17⟩ := blk2cells (I17.out.box 14 rfl)
  obtain ⟨u_a1_17, v_a1_17, x_a1_17, y_a1_17, z_a1_17⟩ := blk2cells (I17.out.box 13 rfl)
  obtain ⟨u_b0_17, v_b0_17, x_b0_17, y_b0_17, z_b0_17⟩ := blk2cells (I17.out.box 6 rfl)
  obtain ⟨u_b1_17, v_b1_17, x_b1_17, y_b1_17, z_b1_17⟩ := blk2cells (I17.out.box 4 rfl)
  go_wp2_with fail
  have KS := Lib.hid (fun w' (hb : Below w16.heap.size w16 w') => show w'.cell? ⟨w10.heap.size, 0, none⟩ = some (.slice (some ⟨gx1, 0, none⟩) n1 n1) ∧ w'.cell? ⟨w10.heap.size, 1, none⟩ = some (.slice (some ⟨hx1, 0, none⟩) m1 m1) ∧ w'.cell? ⟨w.heap.size + 1, 0, none⟩ = some (.slice A1 n1 c1) ∧ w'.cell? ⟨w.heap.size + 1, 1, none⟩ = some (.slice B1 m1 d1) from by
    have J := I17.out.step hb
    exact ⟨(blk2cells (J.box 4 rfl)).1, (blk2cells (J.box 4 rfl)).2.1, (blk2cells (J.box 13 rfl)).1, (blk2cells (J.box 13 rfl)).2.1⟩)
  have HB_0 := Lib.hid (Below.drew (Below.refl w16.heap.size w16))
  have I18 := Lib.hid I17.out.drew
  clear u_a0_17 v_a0_17 x_a0_17 y_a0_17 z_a0_17 u_a1_17 v_a1_17 x_a1_17 y_a1_17 z_a1_17 u_b0_17 v_b0_17 x_b0_17 y_b0_17 z_b0_17 u_b1_17 v_b1_17 x_b1_17 y_b1_17 z_b1_17
  go_region_held3 (fun w' => w'.cell? ⟨w10.heap.size, 0, none⟩ = some (.slice (some ⟨gx1, 0, none⟩) n1 n1) ∧ w'.cell? ⟨w10.heap.size, 1, none⟩ = some (.slice (some ⟨hx1, 0, none⟩) m1 m1) ∧ w'.cell? ⟨w.heap.size + 1, 0, none⟩ = some (.slice A1 n1 c1) ∧ w'.cell? ⟨w.heap.size + 1, 1, none⟩ = some (.slice B1 m1 d1))
      (first | exact KS.out _ HB_0.out | exact KS.out _ HB_1.out | exact KS.out _ HB_2.out)
      (first
        | (go_at_call 26; (with_reducible refine (HTO1.out _ I18.out.bel).mono ?_); (rintro e w17 ⟨ge1, he1, Me1, rfl, hd, ho, hb⟩; have I19 := Lib.hid (I18.out.pushMod hb ho); have HDe1 := Lib.hid hd; have HB_1 := Lib.hid (HB_0.out.trans (hb.mono HB_0.out.size)); clear ho hb hd))
        | (go_at_call 28; (with_reducible refine (eqModule_any _ _ _ _ n1 n1 n1 m1 m1 m1 xs1 _ _ _ Hn1.out (by omega) (by rw [Hm1.out, (dat_xs HDx1.out).1]) (by omega) (by intro i hi; rw [(dat_xs HDx1.out).2 i]; exact HLL1.out i (by rw [← (dat_xs HDx1.out).1]; exact hi)) (HDe1.out.trans HDx1.out.symm) (owns_Rd (by have h := (I19.out.mod 6 rfl).deg; rw [← Hn1.out] at h; exact h)) (owns_Rd (by have h := (I19.out.mod 0 rfl).deg; rw [← Hn1.out] at h; exact h)) ((I19.out.mod 6 rfl).act.rd (by rw [Hm1.out, (dat_xs HDx1.out).1])) ((I19.out.mod 0 rfl).act.rd (by rw [Hm1.out, (dat_xs HDe1.out).1]))).mono ?_); (rintro e w18 ⟨rfl, hb⟩; have I20 := Lib.hid (I19.out.step hb); have HB_2 := Lib.hid (HB_1.out.trans (hb.mono HB_1.out.size)); clear hb)))
  clear HB_0 HB_1 HB_2 KS
  obtain ⟨u_a0_20, v_a0_20, x_a0_20, y_a0_20, z_a0_20⟩ := blk2cells (I20.out.box 15 rfl)
  obtain ⟨u_a1_20, v_a1_20, x_a1_20, y_a1_20, z_a1_20⟩ := blk2cells (I20.out.box 14 rfl)
  obtain ⟨u_b0_20, v_b0_20, x_b0_20, y_b0_20, z_b0_20⟩ := blk2cells (I20.out.box 7 rfl)
  obtain ⟨u_b1_20, v_b1_20, x_b1_20, y_b1_20, z_b1_20⟩ := blk2cells (I20.out.box 5 rfl)
  go_wp2_with fail
  refine (HTO2.out _ I20.out.bel).mono ?_
  rintro e w19 ⟨ge2, Me2, rfl, hd, ho, hb⟩
  have I21 := Lib.hid (I20.out.pushRows hb ho)
  have HDe2 := Lib.hid hd
  clear hd
  clear ho hb
  clear u_a0_20 v_a0_20 x_a0_20 y_a0_20 z_a0_20 u_a1_20 v_a1_20 x_a1_20 y_a1_20 z_a1_20 u_b0_20 v_b0_20 x_b0_20 y_b0_20 z_b0_20 u_b1_20 v_b1_20 x_b1_20 y_b1_20 z_b1_20
  obtain ⟨u_a0_21, v_a0_21, x_a0_21, y_a0_21, z_a0_21⟩ := blk2cells (I21.out.box 16 rfl)
  obtain ⟨u_a1_21, v_a1_21, x_a1_21, y_a1_21, z_a1_21⟩ := blk2cells (I21.out.box 15 rfl)
  obtain ⟨u_b0_21, v_b0_21, x_b0_21, y_b0_21, z_b0_21⟩ := blk2cells (I21.out.box 8 rfl)
  obtain ⟨u_b1_21, v_b1_21, x_b1_21, y_b1_21, z_b1_21⟩ := blk2cells (I21.out.box 6 rfl)
  go_wp2_with fail
  refine (eqRowsB_any _ _ n2 n2 _ _ _ _ _ (by rw [Hn2.out, (dat_xs HDx2.out).1]) (by rw [Hn2.out, (dat_xs HDe2.out).1]) (by omega) (by intro i hi; rw [(dat_xs HDx2.out).2 i]; exact Nat.le_trans (HLL2.out i (by rw [← (dat_xs HDx2.out).1]; exact hi)) (by omega)) (HDe2.out.trans HDx2.out.symm) ((I21.out.rows 5 rfl).rd (by rw [Hn2.out, (dat_xs HDx2.out).1])) ((I21.out.rows 0 rfl).rd (by rw [Hn2.out, (dat_xs HDe2.out).1]))).mono ?_
  rintro e w20 ⟨rfl, hb⟩
  have I22 := Lib.hid (I21.out.step hb)
  clear hb
  clear u_a0_21 v_a0_21 x_a0_21 y_a0_21 z_a0_21 u_a1_21 v_a1_21 x_a1_21 y_a1_21 z_a1_21 u_b0_21 v_b0_21 x_b0_21 y_b0_21 z_b0_21 u_b1_21 v_b1_21 x_b1_21 y_b1_21 z_b1_21
  obtain ⟨u_a0_22, v_a0_22, x_a0_22, y_a0_22, z_a0_22⟩ := blk2cells (I22.out.box 16 rfl)
  obtain ⟨u_a1_22, v_a1_22, x_a1_22, y_a1_22, z_a1_22⟩ := blk2cells (I22.out.box 15 rfl)
  obtain ⟨u_b0_22, v_b0_22, x_b0_22, y_b0_22, z_b0_22⟩ := blk2cells (I22.out.box 8 rfl)
  obtain ⟨u_b1_22, v_b1_22, x_b1_22, y_b1_22, z_b1_22⟩ := blk2cells (I22.out.box 6 rfl)
  go_wp2_with fail
  refine (HTO3.out _ I22.out.bel).mono ?_
  rintro e w21 ⟨ge3, rfl, ho, hb⟩
  have I23 := Lib.hid (I22.out.pushOwn hb ho)
  clear ho hb
  clear u_a0_22 v_a0_22 x_a0_22 y_a0_22 z_a0_22 u_a1_22 v_a1_22 x_a1_22 y_a1_22 z_a1_22 u_b0_22 v_b0_22 x_b0_22 y_b0_22 z_b0_22 u_b1_22 v_b1_22 x_b1_22 y_b1_22 z_b1_22
  obtain ⟨u_a0_23, v_a0_23, x_a0_23, y_a0_23, z_a0_23⟩ := blk2cells (I23.out.box 17 rfl)
  obtain ⟨u_a1_23, v_a1_23, x_a1_23, y_a1_23, z_a1_23⟩ := blk2cells (I23.out.box 16 rfl)
  obtain ⟨u_b0_23, v_b0_23, x_b0_23, y_b0_23, z_b0_23⟩ := blk2cells (I23.out.box 9 rfl)
  obtain ⟨u_b1_23, v_b1_23, x_b1_23, y_b1_23, z_b1_23⟩ := blk2cells (I23.out.box 7 rfl)
  go_wp2_with fail
  refine (eqIntsB_any _ _ n3 _ _ xs3 _ Hn3.out (by omega) (owns_Rd (I23.out.own 5 rfl)) (owns_Rd (I23.out.own 0 rfl))).mono ?_
  rintro e w22 ⟨rfl, hb⟩
  have I24 := Lib.hid (I23.out.step hb)
  clear hb
  clear u_a0_23 v_a0_23 x_a0_23 y_a0_23 z_a0_23 u_a1_23 v_a1_23 x_a1_23 y_a1_23 z_a1_23 u_b0_23 v_b0_23 x_b0_23 y_b0_23 z_b0_23 u_b1_23 v_b1_23 x_b1_23 y_b1_23 z_b1_23
  obtain ⟨u_a0_24, v_a0_24, x_a0_24, y_a0_24, z_a0_24⟩ := blk2cells (I24.out.box 17 rfl)
  obtain ⟨u_a1_24, v_a1_24, x_a1_24, y_a1_24, z_a1_24⟩ := blk2cells (I24.out.box 16 rfl)
  obtain ⟨u_b0_24, v_b0_24, x_b0_24, y_b0_24, z_b0_24⟩ := blk2cells (I24.out.box 9 rfl)
  obtain ⟨u_b1_24, v_b1_24, x_b1_24, y_b1_24, z_b1_24⟩ := blk2cells (I24.out.box 7 rfl)
  go_wp2_with fail
  have HKB0 := Lib.hid (show (0 : Int) ≤ 1 ∧ (1 : Int) ≤ 1 from ⟨by decide, by decide⟩)
  have hxl0 : xs0.length ≤ 1048576 := by rw [← Hn0.out]; exact hnb0
  have hqx0 : tot Mx0 = tot L0 := tot_dat HDx0.out
  have htx0 : tot Mx0 ≤ 1048576 := by rw [hqx0]; exact hk0
  clear hqx0
  have hBx0 := (I24.out.mod 10 rfl).deg.lt gx0 rfl
  refine (markModule_any _ _ _ _ xs0 Mx0 (1) _ (Nat.le_trans hBx0.1 (Nat.le_of_lt hBx0.2)) (I24.out.mod 10 rfl) (I24.out.modUp 10 rfl) (Nat.le_trans hxl0 (by decide)) (by rw [(dat_xs HDx0.out).1, ← Hm0.out]; exact Nat.le_trans hmb0 (by decide)) (Nat.le_trans htx0 (by decide)) HKB0.out.1 (Int.le_trans HKB0.out.2 (by decide))).mono ?_
  clear hBx0
  rintro e w23 ⟨rfl, ho, hk⟩
  have I25 := Lib.hid (I24.out.markMod 10 rfl hk ho)
  clear ho hk
  have HKB1 : Hid (0 ≤ (1 + xs0.length + tot Mx0 : Int) ∧ (1 + xs0.length + tot Mx0 : Int) ≤ 2097153) := Lib.hid (kb_add2 HKB0.out hxl0 htx0)
  clear u_a0_24 v_a0_24 x_a0_24 y_a0_24 z_a0_24 u_a1_24 v_a1_24 x_a1_24 y_a1_24 z_a1_24 u_b0_24 v_b0_24 x_b0_24 y_b0_24 z_b0_24 u_b1_24 v_b1_24 x_b1_24 y_b1_24 z_b1_24
  obtain ⟨u_a0_25, v_a0_25, x_a0_25, y_a0_25, z_a0_25⟩ := blk2cells (I25.out.box 17 rfl)
  obtain ⟨u_a1_25, v_a1_25, x_a1_25, y_a1_25, z_a1_25⟩ := blk2cells (I25.out.box 16 rfl)
  obtain ⟨u_b0_25, v_b0_25, x_b0_25, y_b0_25, z_b0_25⟩ := blk2cells (I25.out.box 9 rfl)
  obtain ⟨u_b1_25, v_b1_25, x_b1_25, y_b1_25, z_b1_25⟩ := blk2cells (I25.out.box 7 rfl)
  have hnn0 : ¬ (1 + xs0.length + tot Mx0 : Int) < 0 := Int.not_lt.2 HKB1.out.1
  go_wp2_with fail
  have hxl1 : xs1.length ≤ 1048576 := by rw [← Hn1.out]; exact hnb1
  have hqx1 : tot Mx1 = tot L1 := tot_dat HDx1.out
  have htx1 : tot Mx1 ≤ 1048576 := by rw [hqx1]; exact hk1
  clear hqx1
  have hBx1 := (I25.out.mod 8 rfl).deg.lt gx1 rfl
  refine (markModule_any _ _ _ _ xs1 Mx1 (1 + xs0.length + tot Mx0) _ (Nat.le_trans hBx1.1 (Nat.le_of_lt hBx1.2)) (I25.out.mod 8 rfl) (I25.out.modUp 8 rfl) (Nat.le_trans hxl1 (by decide)) (by rw [(dat_xs HDx1.out).1, ← Hm1.out]; exact Nat.le_trans hmb1 (by decide)) (Nat.le_trans htx1 (by decide)) HKB1.out.1 (Int.le_trans HKB1.out.2 (by decide))).mono ?_
  clear hBx1
  rintro e w24 ⟨rfl, ho, hk⟩
  have I26 := Lib.hid (I25.out.markMod 8 rfl hk ho)
  clear ho hk
  have HKB2 : Hid (0 ≤ (1 + xs0.length + tot Mx0 + xs1.length + tot Mx1 : Int) ∧ (1 + xs0.length + tot Mx0 + xs1.length + tot Mx1 : Int) ≤ 4194305) := Lib.hid (kb_add2 HKB1.out hxl1 htx1)
  clear u_a0_25 v_a0_25 x_a0_25 y_a0_25 z_a0_25 u_a1_25 v_a1_25 x_a1_25 y_a1_25 z_a1_25 u_b0_25 v_b0_25 x_b0_25 y_b0_25 z_b0_25 u_b1_25 v_b1_25 x_b1_25 y_b1_25 z_b1_25
  obtain ⟨u_a0_26, v_a0_26, x_a0_26, y_a0_26, z_a0_26⟩ := blk2cells (I26.out.box 17 rfl)
  obtain ⟨u_a1_26, v_a1_26, x_a1_26, y_a1_26, z_a1_26⟩ := blk2cells (I26.out.box 16 rfl)
  obtain ⟨u_b0_26, v_b0_26, x_b0_26, y_b0_26, z_b0_26⟩ := blk2cells (I26.out.box 9 rfl)
  obtain ⟨u_b1_26, v_b1_26, x_b1_26, y_b1_26, z_b1_26⟩ := blk2cells (I26.out.box 7 rfl)
  have hnn1 : ¬ (1 + xs0.length + tot Mx0 + xs1.length + tot Mx1 : Int) < 0 := Int.not_lt.2 HKB2.out.1
  go_wp2_with fail
  have hxl2 : L2.length ≤ 1048576 := by rw [← Hn2.out]; exact hnb2
  have hqx2 : tot Mx2 = tot L2 := tot_dat HDx2.out
  have htx2 : tot Mx2 ≤ 1048576 := by rw [hqx2]; exact hk2
  clear hqx2
  refine (markRows_any _ _ _ Mx2 (1 + xs0.length + tot Mx0 + xs1.length + tot Mx1) _ (I26.out.rows 6 rfl) (by rw [(dat_xs HDx2.out).1, ← Hn2.out]; exact hnb2) htx2 HKB2.out.1 (Int.le_trans HKB2.out.2 (by decide)) (I26.out.rowsUp 6 rfl).2).mono ?_
  rintro e w25 ⟨rfl, ho, hk⟩
  have I27 := Lib.hid (I26.out.markRows 6 rfl hk ho)
  clear ho hk
  have HKB3 : Hid (0 ≤ (1 + xs0.length + tot Mx0 + xs1.length + tot Mx1 + tot Mx2 : Int) ∧ (1 + xs0.length + tot Mx0 + xs1.length + tot Mx1 + tot Mx2 : Int) ≤ 5242881) := Lib.hid (kb_add1 HKB2.out htx2)
  clear u_a0_26 v_a0_26 x_a0_26 y_a0_26 z_a0_26 u_a1_26 v_a1_26 x_a1_26 y_a1_26 z_a1_26 u_b0_26 v_b0_26 x_b0_26 y_b0_26 z_b0_26 u_b1_26 v_b1_26 x_b1_26 y_b1_26 z_b1_26
  obtain ⟨u_a0_27, v_a0_27, x_a0_27, y_a0_27, z_a0_27⟩ := blk2cells (I27.out.box 17 rfl)
  obtain ⟨u_a1_27, v_a1_27, x_a1_27, y_a1_27, z_a1_27⟩ := blk2cells (I27.out.box 16 rfl)
  obtain ⟨u_b0_27, v_b0_27, x_b0_27, y_b0_27, z_b0_27⟩ := blk2cells (I27.out.box 9 rfl)
  obtain ⟨u_b1_27, v_b1_27, x_b1_27, y_b1_27, z_b1_27⟩ := blk2cells (I27.out.box 7 rfl)
  have hnn2 : ¬ (1 + xs0.length + tot Mx0 + xs1.length + tot Mx1 + tot Mx2 : Int) < 0 := Int.not_lt.2 HKB3.out.1
  go_wp2_with fail
  have hxl3 : xs3.length ≤ 1048576 := by rw [← Hn3.out]; exact hnb3
  refine (markInts_any _ _ n3 xs3 (1 + xs0.length + tot Mx0 + xs1.length + tot Mx1 + tot Mx2) _ (I27.out.own 5 rfl) (Nat.le_trans hnb3 (by decide)) HKB3.out.1 (Int.le_trans HKB3.out.2 (by decide))).mono ?_
  rintro e w26 ⟨rfl, ho, hk⟩
  have I28 := Lib.hid (I27.out.markOwn 5 rfl hk ho)
  clear ho hk
  have HKB4 : Hid (0 ≤ (1 + xs0.length + tot Mx0 + xs1.length + tot Mx1 + tot Mx2 + n3 : Int) ∧ (1 + xs0.length + tot Mx0 + xs1.length + tot Mx1 + tot Mx2 + n3 : Int) ≤ 6291457) := Lib.hid (kb_add1 HKB3.out hnb3)
  clear u_a0_27 v_a0_27 x_a0_27 y_a0_27 z_a0_27 u_a1_27 v_a1_27 x_a1_27 y_a1_27 z_a1_27 u_b0_27 v_b0_27 x_b0_27 y_b0_27 z_b0_27 u_b1_27 v_b1_27 x_b1_27 y_b1_27 z_b1_27
  obtain ⟨u_a0_28, v_a0_28, x_a0_28, y_a0_28, z_a0_28⟩ := blk2cells (I28.out.box 17 rfl)
  obtain ⟨u_a1_28, v_a1_28, x_a1_28, y_a1_28, z_a1_28⟩ := blk2cells (I28.out.box 16 rfl)
  obtain ⟨u_b0_28, v_b0_28, x_b0_28, y_b0_28, z_b0_28⟩ := blk2cells (I28.out.box 9 rfl)
  obtain ⟨u_b1_28, v_b1_28, x_b1_28, y_b1_28, z_b1_28⟩ := blk2cells (I28.out.box 7 rfl)
  have hnn3 : ¬ (1 + xs0.length + tot Mx0 + xs1.length + tot Mx1 + tot Mx2 + n3 : Int) < 0 := Int.not_lt.2 HKB4.out.1
  go_wp2_with fail
  refine (eqIntsB_any _ _ _ _ _ rr.1 _ rfl (by omega) (owns_Rd (I28.out.own 4 rfl)) (owns_Rd (I28.out.own 11 rfl))).mono ?_
  rintro e w27 ⟨rfl, hb⟩
  have I29 := Lib.hid (I28.out.step hb)
  clear hb
  clear u_a0_28 v_a0_28 x_a0_28 y_a0_28 z_a0_28 u_a1_28 v_a1_28 x_a1_28 y_a1_28 z_a1_28 u_b0_28 v_b0_28 x_b0_28 y_b0_28 z_b0_28 u_b1_28 v_b1_28 x_b1_28 y_b1_28 z_b1_28
  obtain ⟨u_a0_29, v_a0_29, x_a0_29, y_a0_29, z_a0_29⟩ := blk2cells (I29.out.box 17 rfl)
  obtain ⟨u_a1_29, v_a1_29, x_a1_29, y_a1_29, z_a1_29⟩ := blk2cells (I29.out.box 16 rfl)
  obtain ⟨u_b0_29, v_b0_29, x_b0_29, y_b0_29, z_b0_29⟩ := blk2cells (I29.out.box 9 rfl)
  obtain ⟨u_b1_29, v_b1_29, x_b1_29, y_b1_29, z_b1_29⟩ := blk2cells (I29.out.box 7 rfl)
  go_wp2_with fail
  refine (markInts_any _ _ rr.1.length rr.1 1 _ (I29.out.own 4 rfl) (by omega) (by omega) (by omega)).mono ?_
  rintro e w28 ⟨rfl, ho, hk⟩
  have I30 := Lib.hid (I29.out.markOwn 4 rfl hk ho)
  clear ho hk
  clear u_a0_29 v_a0_29 x_a0_29 y_a0_29 z_a0_29 u_a1_29 v_a1_29 x_a1_29 y_a1_29 z_a1_29 u_b0_29 v_b0_29 x_b0_29 y_b0_29 z_b0_29 u_b1_29 v_b1_29 x_b1_29 y_b1_29 z_b1_29
  obtain ⟨u_a0_30, v_a0_30, x_a0_30, y_a0_30, z_a0_30⟩ := blk2cells (I30.out.box 17 rfl)
  obtain ⟨u_a1_30, v_a1_30, x_a1_30, y_a1_30, z_a1_30⟩ := blk2cells (I30.out.box 16 rfl)
  obtain ⟨u_b0_30, v_b0_30, x_b0_30, y_b0_30, z_b0_30⟩ := blk2cells (I30.out.box 9 rfl)
  obtain ⟨u_b1_30, v_b1_30, x_b1_30, y_b1_30, z_b1_30⟩ := blk2cells (I30.out.box 7 rfl)
  go_wp2_with fail
  refine (heldInts_any _ rr.1.length _ 1 _ (owns_Rd (I30.out.own 4 rfl)) (by omega) (by omega) (by omega)).mono ?_
  rintro e w' ⟨rfl, rfl⟩
  go_wp2_with fail
  have KS30 := Lib.hid (fun w' (hb : Below w28.heap.size w28 w') => show w'.cell? ⟨w.heap.size, 0, none⟩ = some (.slice A0 n0 c0) ∧ w'.cell? ⟨w.heap.size, 1, none⟩ = some (.slice B0 m0 d0) ∧ w'.cell? ⟨w.heap.size + 1, 0, none⟩ = some (.slice A1 n1 c1) ∧ w'.cell? ⟨w.heap.size + 1, 1, none⟩ = some (.slice B1 m1 d1) from by
    have J := I30.out.step hb
    exact ⟨(blk2cells (J.box 17 rfl)).1, (blk2cells (J.box 17 rfl)).2.1, (blk2cells (J.box 16 rfl)).1, (blk2cells (J.box 16 rfl)).2.1⟩)
  have HB_0 := Lib.hid (Below.drew (Below.refl w28.heap.size w28))
  have I31 := Lib.hid I30.out.drew
  clear u_a0_30 v_a0_30 x_a0_30 y_a0_30 z_a0_30 u_a1_30 v_a1_30 x_a1_30 y_a1_30 z_a1_30 u_b0_30 v_b0_30 x_b0_30 y_b0_30 z_b0_30 u_b1_30 v_b1_30 x_b1_30 y_b1_30 z_b1_30
  go_region_held3 (fun w' => w'.cell? ⟨w.heap.size, 0, none⟩ = some (.slice A0 n0 c0) ∧ w'.cell? ⟨w.heap.size, 1, none⟩ = some (.slice B0 m0 d0) ∧ w'.cell? ⟨w.heap.size + 1, 0, none⟩ = some (.slice A1 n1 c1) ∧ w'.cell? ⟨w.heap.size + 1, 1, none⟩ = some (.slice B1 m1 d1))
      (first | exact KS30.out _ HB_0.out | exact KS30.out _ HB_1.out | exact KS30.out _ HB_2.out | exact KS30.out _ HB_3.out | exact KS30.out _ HB_4.out | exact KS30.out _ HB_5.out)
      (first
        | (go_at_call 26; (with_reducible refine (HTO0.out _ I31.out.bel).mono ?_); (rintro e w29 ⟨gh0, hh0, Mh0, rfl, hd, ho, hb⟩; have I32 := Lib.hid (I31.out.pushMod hb ho); have HDh0 := Lib.hid hd; clear hd; have HB_1 := Lib.hid (HB_0.out.trans (hb.mono HB_0.out.size)); clear ho hb))
        | (go_at_call 26; (with_reducible refine (HTO1.out _ I32.out.bel).mono ?_); (rintro e w30 ⟨gh1, hh1, Mh1, rfl, hd, ho, hb⟩; have I33 := Lib.hid (I32.out.pushMod hb ho); have HDh1 := Lib.hid hd; clear hd; have HB_2 := Lib.hid (HB_1.out.trans (hb.mono HB_1.out.size)); clear ho hb))
        | (go_at_call 11; (with_reducible refine (HTO2.out _ I33.out.bel).mono ?_); (rintro e w31 ⟨gh2, Mh2, rfl, hd, ho, hb⟩; have I34 := Lib.hid (I33.out.pushRows hb ho); have HDh2 := Lib.hid hd; clear hd; have HB_3 := Lib.hid (HB_2.out.trans (hb.mono HB_2.out.size)); clear ho hb))
        | (go_at_call 19; (with_reducible refine (HTO3.out _ I34.out.bel).mono ?_); (rintro e w32 ⟨gh3, rfl, ho, hb⟩; have I35 := Lib.hid (I34.out.pushOwn hb ho); have HB_4 := Lib.hid (HB_3.out.trans (hb.mono HB_3.out.size)); clear ho hb))
        | (go_at_call 32; (with_reducible refine (HIM.out _ _ (owns_Rd (by have h := (I35.out.mod 3 rfl).deg; rw [← Hn0.out] at h; exact h)) _ _ HDh0.out ((I35.out.mod 3 rfl).act.rd (by rw [Hm0.out, (dat_xs HDh0.out).1])) _ (owns_Rd (by have h := (I35.out.mod 2 rfl).deg; rw [← Hn1.out] at h; exact h)) _ _ HDh1.out ((I35.out.mod 2 rfl).act.rd (by rw [Hm1.out, (dat_xs HDh1.out).1])) _ _ HDh2.out ((I35.out.rows 1 rfl).rd (by rw [Hn2.out, (dat_xs HDh2.out).1])) _ (owns_Rd (I35.out.own 0 rfl))).mono ?_); (rintro e w33 ⟨vh, rfl, ho, hb⟩; have HB_5 := Lib.hid (HB_4.out.trans (hb.mono HB_4.out.size)); have I36 := Lib.hid (I35.out.pushOwn hb ho); clear ho hb; obtain ⟨Ah, kh, rfl, _, _, _⟩ := owns_shape (I36.out.own 0 rfl))))
  clear HB_0 HB_1 HB_2 HB_3 HB_4 HB_5 KS30
  obtain ⟨u_a0_36, v_a0_36, x_a0_36, y_a0_36, z_a0_36⟩ := blk2cells (I36.out.box 22 rfl)
  obtain ⟨u_a1_36, v_a1_36, x_a1_36, y_a1_36, z_a1_36⟩ := blk2cells (I36.out.box 21 rfl)
  obtain ⟨u_b0_36, v_b0_36, x_b0_36, y_b0_36, z_b0_36⟩ := blk2cells (I36.out.box 14 rfl)
  obtain ⟨u_b1_36, v_b1_36, x_b1_36, y_b1_36, z_b1_36⟩ := blk2cells (I36.out.box 12 rfl)
  go_wp2_with fail
  refine (eqIntsB_any _ _ _ _ _ rr.1 _ rfl (by omega) (owns_Rd (I36.out.own 0 rfl)) (owns_Rd (I36.out.own 16 rfl))).mono ?_
  rintro e w34 ⟨rfl, hb⟩
  have I37 := Lib.hid (I36.out.step hb)
  clear hb
  clear u_a0_36 v_a0_36 x_a0_36 y_a0_36 z_a0_36 u_a1_36 v_a1_36 x_a1_36 y_a1_36 z_a1_36 u_b0_36 v_b0_36 x_b0_36 y_b0_36 z_b0_36 u_b1_36 v_b1_36 x_b1_36 y_b1_36 z_b1_36
  obtain ⟨u_a0_37, v_a0_37, x_a0_37, y_a0_37, z_a0_37⟩ := blk2cells (I37.out.box 22 rfl)
  obtain ⟨u_a1_37, v_a1_37, x_a1_37, y_a1_37, z_a1_37⟩ := blk2cells (I37.out.box 21 rfl)
  obtain ⟨u_b0_37, v_b0_37, x_b0_37, y_b0_37, z_b0_37⟩ := blk2cells (I37.out.box 14 rfl)
  obtain ⟨u_b1_37, v_b1_37, x_b1_37, y_b1_37, z_b1_37⟩ := blk2cells (I37.out.box 12 rfl)
  go_wp2_with fail
  refine (heldInts_any _ rr.1.length _ 1 _ (owns_Rd (I37.out.own 9 rfl)) (by omega) (by omega) (by omega)).mono ?_
  rintro e w' ⟨rfl, rfl⟩
  go_wp2_with fail
  go_ret
  exact ⟨rfl, I37.out.bel⟩
end Go.Proofs.Ytocllmhkppkfoaa
