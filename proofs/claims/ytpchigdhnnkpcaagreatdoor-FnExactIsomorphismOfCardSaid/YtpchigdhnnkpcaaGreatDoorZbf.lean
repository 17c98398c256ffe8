/- FnExactIsomorphismOf: the walk of the law (printed by mkl2.py) -/
import Derived.Test.YtpchigdhnnkpcaaGreatDoorZad
import Derived.Test.YtpchigdhnnkpcaaGreatDoorZbe
import Derived.Deep.RegionHeld3
namespace Go.Proofs.YtpchigdhnnkpcaaGreatDoor
open Go.RowKit

set_option maxRecDepth 100000 in
set_option maxHeartbeats 8000000 in
theorem lawIsomorphismOf_any (A0 : Option Addr) (n0 c0 : Nat) (xs0 : List Int) (B0 : Option Addr) (m0 d0 : Nat) (L0 : List Row) (A1 : Option Addr) (n1 c1 : Nat) (xs1 : List Int) (B1 : Option Addr) (m1 d1 : Nat) (L1 : List Row) (w : World) (hT : Tab w) (hw : 0 < w.heap.size) (hn0 : n0 = xs0.length) (hs0 : n0 ≤ 9223372036854775807) (hR0 : Rd w A0 (iv xs0)) (hm0 : m0 = L0.length) (ht0 : m0 ≤ 9223372036854775807) (hl0 : ∀ i, i < L0.length → (rg L0 i).xs.length ≤ 9223372036854775807) (hQ0 : RdR w B0 L0) (hn1 : n1 = xs1.length) (hs1 : n1 ≤ 9223372036854775807) (hR1 : Rd w A1 (iv xs1)) (hm1 : m1 = L1.length) (ht1 : m1 ≤ 9223372036854775807) (hl1 : ∀ i, i < L1.length → (rg L1 i).xs.length ≤ 9223372036854775807) (hQ1 : RdR w B1 L1) :
    Calls Tryz.prog 3 #[.agg #[.slice A0 n0 c0, .slice B0 m0 d0], .agg #[.slice A1 n1 c1, .slice B1 m1 d1]] w fun e w' => e = .returned (.bool true) ∧ Below w.heap.size w w' := by
  have hI := ((Inw.start w).allocBox #[.slice A0 n0 c0, .slice B0 m0 d0] 25).allocBox #[.slice A1 n1 c1, .slice B1 m1 d1] 25
  simp only [World.size_alloc] at hI
  have I0 := Lib.hid hI
  clear hI
  have HT := Lib.hid hT
  clear hT
  have Hn0 := Lib.hid hn0
  have HR0 := Lib.hid hR0
  have Hm0 := Lib.hid hm0
  have HL0 := Lib.hid hl0
  have HQ0 := Lib.hid hQ0
  clear hn0 hR0 hm0 hl0 hQ0
  have Hn1 := Lib.hid hn1
  have HR1 := Lib.hid hR1
  have Hm1 := Lib.hid hm1
  have HL1 := Lib.hid hl1
  have HQ1 := Lib.hid hQ1
  clear hn1 hR1 hm1 hl1 hQ1
  go_enter Tryz.func3, Tryz.ntmps3
  go_wp2_with fail
  refine (szModule_any A0 B0 n0 c0 m0 d0 L0 (1048576) _ hs0 Hm0.out ht0 HL0.out (by omega) (by omega) (HQ0.out.below I0.out.bel)).mono ?_
  rintro e w1 ⟨z0, rfl, hz, hb⟩
  have I1 := Lib.hid (I0.out.step hb)
  clear hb
  obtain ⟨u_a0_1, v_a0_1, x_a0_1, y_a0_1, z_a0_1⟩ := blk2cells (I1.out.box 1 rfl)
  obtain ⟨u_a1_1, v_a1_1, x_a1_1, y_a1_1, z_a1_1⟩ := blk2cells (I1.out.box 0 rfl)
  rcases hz with rfl | ⟨hz0, hy0⟩
  · go_wp2_with fail
    go_ret
    exact ⟨rfl, I1.out.bel⟩
  have hi0 : ¬ z0 < 0 := by omega
  have hk0 : tot L0 ≤ 1048576 := by omega
  have HLL0 := Lib.hid (fun i (hi : i < L0.length) => Nat.le_trans (len_le_tot hi) hk0)
  go_wp2_with fail
  refine (szModule_any A1 B1 n1 c1 m1 d1 L1 (z0) _ hs1 Hm1.out ht1 HL1.out (by omega) (by omega) (HQ1.out.below I1.out.bel)).mono ?_
  rintro e w2 ⟨z1, rfl, hz, hb⟩
  have I2 := Lib.hid (I1.out.step hb)
  clear hb
  clear u_a0_1 v_a0_1 x_a0_1 y_a0_1 z_a0_1 u_a1_1 v_a1_1 x_a1_1 y_a1_1 z_a1_1
  obtain ⟨u_a0_2, v_a0_2, x_a0_2, y_a0_2, z_a0_2⟩ := blk2cells (I2.out.box 1 rfl)
  obtain ⟨u_a1_2, v_a1_2, x_a1_2, y_a1_2, z_a1_2⟩ := blk2cells (I2.out.box 0 rfl)
  rcases hz with rfl | ⟨hz1, hy1⟩
  · go_wp2_with fail
    go_ret
    exact ⟨rfl, I2.out.bel⟩
  have hi1 : ¬ z1 < 0 := by omega
  have hk1 : tot L1 ≤ 1048576 := by omega
  have HLL1 := Lib.hid (fun i (hi : i < L1.length) => Nat.le_trans (len_le_tot hi) hk1)
  have HTO0 := Lib.hid (fun W (hb : Below w.heap.size w W) => toModule_any A0 B0 n0 c0 m0 d0 xs0 L0 W Hn0.out (by omega) (HR0.out.below hb) Hm0.out (by omega) HLL0.out (HQ0.out.below hb))
  have HTO1 := Lib.hid (fun W (hb : Below w.heap.size w W) => toModule_any A1 B1 n1 c1 m1 d1 xs1 L1 W Hn1.out (by omega) (HR1.out.below hb) Hm1.out (by omega) HLL1.out (HQ1.out.below hb))
  obtain ⟨rr, hrr⟩ : ∃ rr, isomorphismOfOf xs0 L0 xs1 L1 = rr := ⟨_, rfl⟩
  have hlen := isomorphismOfOf_len xs0 L0 xs1 L1
  rw [hrr] at hlen
  have HDD := Lib.hid (fun (M0 : List Row) (e0 : dat M0 = dat L0) (M1 : List Row) (e1 : dat M1 = dat L1) => (isomorphismOfOf_dat e0 e1).trans hrr)
  clear hrr
  have hnb0 : n0 ≤ 1048576 := by omega
  have hmb0 : m0 ≤ 1048576 := by omega
  have hnb1 : n1 ≤ 1048576 := by omega
  have hmb1 : m1 ≤ 1048576 := by omega
  have HSP := Lib.hid (fun (W : World) (C0 : Option Addr) (r0 : Rd W C0 (iv xs0)) (E0 : Option Addr) (M0 : List Row) (e0 : dat M0 = dat L0) (q0 : RdR W E0 M0) (C1 : Option Addr) (r1 : Rd W C1 (iv xs1)) (E1 : Option Addr) (M1 : List Row) (e1 : dat M1 = dat L1) (q1 : RdR W E1 M1) => show Calls Tryz.prog 11 #[.agg #[.slice C0 n0 n0, .slice E0 m0 m0], .agg #[.slice C1 n1 n1, .slice E1 m1 m1]] W (ResR rr W) from by
    have h : Calls Tryz.prog 11 #[.agg #[.slice C0 n0 n0, .slice E0 m0 m0], .agg #[.slice C1 n1 n1, .slice E1 m1 m1]] W (ResR (isomorphismOfOf xs0 M0 xs1 M1) W) := specIsomorphismOf_any C0 n0 n0 xs0 E0 m0 m0 M0 C1 n1 n1 xs1 E1 m1 m1 M1 W Hn0.out (by omega) r0 (by rw [Hm0.out, (dat_xs e0).1]) (by omega) (by intro i hi; rw [(dat_xs e0).2 i]; exact HLL0.out i (by rw [← (dat_xs e0).1]; exact hi)) q0 Hn1.out (by omega) r1 (by rw [Hm1.out, (dat_xs e1).1]) (by omega) (by intro i hi; rw [(dat_xs e1).2 i]; exact HLL1.out i (by rw [← (dat_xs e1).1]; exact hi)) q1
    rw [HDD.out M0 e0 M1 e1] at h
    exact h)
  have HIM := Lib.hid (fun (W : World) (tb : Tab W) (tw : 0 < W.heap.size) (C0 : Option Addr) (r0 : Rd W C0 (iv xs0)) (E0 : Option Addr) (M0 : List Row) (e0 : dat M0 = dat L0) (q0 : RdR W E0 M0) (C1 : Option Addr) (r1 : Rd W C1 (iv xs1)) (E1 : Option Addr) (M1 : List Row) (e1 : dat M1 = dat L1) (q1 : RdR W E1 M1) => show Calls Tryz.prog 13 #[.agg #[.slice C0 n0 n0, .slice E0 m0 m0], .agg #[.slice C1 n1 n1, .slice E1 m1 m1]] W (ResR rr W) from by
    have h : Calls Tryz.prog 13 #[.agg #[.slice C0 n0 n0, .slice E0 m0 m0], .agg #[.slice C1 n1 n1, .slice E1 m1 m1]] W (ResR (isomorphismOfOf xs0 M0 xs1 M1) W) := implIsomorphismOf_any C0 n0 n0 xs0 E0 m0 m0 M0 C1 n1 n1 xs1 E1 m1 m1 M1 W tb tw Hn0.out (by omega) r0 (by rw [Hm0.out, (dat_xs e0).1]) (by omega) (by intro i hi; rw [(dat_xs e0).2 i]; exact HLL0.out i (by rw [← (dat_xs e0).1]; exact hi)) q0 Hn1.out (by omega) r1 (by rw [Hm1.out, (dat_xs e1).1]) (by omega) (by intro i hi; rw [(dat_xs e1).2 i]; exact HLL1.out i (by rw [← (dat_xs e1).1]; exact hi)) q1
    rw [HDD.out M0 e0 M1 e1] at h
    exact h)
  go_wp2_with fail
  clear hz0 hy0 hi0 hs0 ht0 hz1 hy1 hi1 hs1 ht1
  have KS2 := Lib.hid (fun w' (hb : Below w2.heap.size w2 w') => show w'.cell? ⟨w.heap.size, 0, none⟩ = some (.slice A0 n0 c0) ∧ w'.cell? ⟨w.heap.size, 1, none⟩ = some (.slice B0 m0 d0) ∧ w'.cell? ⟨w.heap.size + 1, 0, none⟩ = some (.slice A1 n1 c1) ∧ w'.cell? ⟨w.heap.size + 1, 1, none⟩ = some (.slice B1 m1 d1) from by
    have J := I2.out.step hb
    exact ⟨(blk2cells (J.box 1 rfl)).1, (blk2cells (J.box 1 rfl)).2.1, (blk2cells (J.box 0 rfl)).1, (blk2cells (J.box 0 rfl)).2.1⟩)
  have HB_0 := Lib.hid (Below.drew (Below.refl w2.heap.size w2))
  have I3 := Lib.hid I2.out.drew
  clear u_a0_2 v_a0_2 x_a0_2 y_a0_2 z_a0_2 u_a1_2 v_a1_2 x_a1_2 y_a1_2 z_a1_2
  go_region_held3 (fun w' => w'.cell? ⟨w.heap.size, 0, none⟩ = some (.slice A0 n0 c0) ∧ w'.cell? ⟨w.heap.size, 1, none⟩ = some (.slice B0 m0 d0) ∧ w'.cell? ⟨w.heap.size + 1, 0, none⟩ = some (.slice A1 n1 c1) ∧ w'.cell? ⟨w.heap.size + 1, 1, none⟩ = some (.slice B1 m1 d1))
      (first | exact KS2.out _ HB_0.out | exact KS2.out _ HB_1.out | exact KS2.out _ HB_2.out | exact KS2.out _ HB_3.out)
      (first
        | (go_at_call 12; (with_reducible refine (HTO0.out _ I3.out.bel).mono ?_); (rintro e w3 ⟨gs0, hs0, Ms0, rfl, hd, ho, hb⟩; have I4 := Lib.hid (I3.out.pushMod hb ho); have HDs0 := Lib.hid hd; clear hd; have HB_1 := Lib.hid (HB_0.out.trans (hb.mono HB_0.out.size)); clear ho hb))
        | (go_at_call 12; (with_reducible refine (HTO1.out _ I4.out.bel).mono ?_); (rintro e w4 ⟨gs1, hs1, Ms1, rfl, hd, ho, hb⟩; have I5 := Lib.hid (I4.out.pushMod hb ho); have HDs1 := Lib.hid hd; clear hd; have HB_2 := Lib.hid (HB_1.out.trans (hb.mono HB_1.out.size)); clear ho hb))
        | (go_at_call 11; (with_reducible refine (HSP.out _ _ (owns_Rd (by have h := (I5.out.mod 1 rfl).deg; rw [← Hn0.out] at h; exact h)) _ _ HDs0.out ((I5.out.mod 1 rfl).act.rd (by rw [Hm0.out, (dat_xs HDs0.out).1])) _ (owns_Rd (by have h := (I5.out.mod 0 rfl).deg; rw [← Hn1.out] at h; exact h)) _ _ HDs1.out ((I5.out.mod 0 rfl).act.rd (by rw [Hm1.out, (dat_xs HDs1.out).1]))).mono ?_); (rintro e w5 ⟨vs, Ns, rfl, hd, ho, hb⟩; have HB_3 := Lib.hid (HB_2.out.trans (hb.mono HB_2.out.size)); have I6 := Lib.hid (I5.out.pushRows hb ho); have HDs := Lib.hid hd; clear ho hb hd; obtain ⟨As, ks, rfl, _, _, _⟩ := owns_shape (I6.out.rows 0 rfl).out; have HZs := Lib.hid (rows_small HDs.out hlen); have z1s := HZs.out.1; have z2s := HZs.out.2.1)))
  clear HB_0 HB_1 HB_2 HB_3 KS2
  obtain ⟨u_a0_6, v_a0_6, x_a0_6, y_a0_6, z_a0_6⟩ := blk2cells (I6.out.box 4 rfl)
  obtain ⟨u_a1_6, v_a1_6, x_a1_6, y_a1_6, z_a1_6⟩ := blk2cells (I6.out.box 3 rfl)
  go_wp2_with fail
  refine (HTO0.out _ I6.out.bel).mono ?_
  rintro e w6 ⟨gx0, hx0, Mx0, rfl, hd, ho, hb⟩
  have I7 := Lib.hid (I6.out.pushMod hb ho)
  have HDx0 := Lib.hid hd
  clear hd
  clear ho hb
  clear u_a0_6 v_a0_6 x_a0_6 y_a0_6 z_a0_6 u_a1_6 v_a1_6 x_a1_6 y_a1_6 z_a1_6
  obtain ⟨u_a0_7, v_a0_7, x_a0_7, y_a0_7, z_a0_7⟩ := blk2cells (I7.out.box 5 rfl)
  obtain ⟨u_a1_7, v_a1_7, x_a1_7, y_a1_7, z_a1_7⟩ := blk2cells (I7.out.box 4 rfl)
  go_wp2_with fail
  have hI := I7.out.allocBox #[.slice (some ⟨gx0, 0, none⟩) n0 n0, .slice (some ⟨hx0, 0, none⟩) m0 m0] 29
  refine (HTO1.out _ hI.bel).mono ?_
  rintro e w7 ⟨gx1, hx1, Mx1, rfl, hd, ho, hb⟩
  have I8 := Lib.hid (hI.pushMod hb ho)
  have HDx1 := Lib.hid hd
  clear hd
  clear ho hb
  clear hI
  clear u_a0_7 v_a0_7 x_a0_7 y_a0_7 z_a0_7 u_a1_7 v_a1_7 x_a1_7 y_a1_7 z_a1_7
  obtain ⟨u_a0_8, v_a0_8, x_a0_8, y_a0_8, z_a0_8⟩ := blk2cells (I8.out.box 7 rfl)
  obtain ⟨u_a1_8, v_a1_8, x_a1_8, y_a1_8, z_a1_8⟩ := blk2cells (I8.out.box 6 rfl)
  obtain ⟨u_b0_8, v_b0_8, x_b0_8, y_b0_8, z_b0_8⟩ := blk2cells (I8.out.box 1 rfl)
  go_wp2_with fail
  have hI := I8.out.allocBox #[.slice (some ⟨gx1, 0, none⟩) n1 n1, .slice (some ⟨hx1, 0, none⟩) m1 m1] 29
  refine (HIM.out _ (HT.out.below hI.bel hw) (by have := hI.size; omega) _ (owns_Rd (by have h := (hI.mod 3 rfl).deg; rw [← Hn0.out] at h; exact h)) _ _ HDx0.out ((hI.mod 3 rfl).act.rd (by rw [Hm0.out, (dat_xs HDx0.out).1])) _ (owns_Rd (by have h := (hI.mod 1 rfl).deg; rw [← Hn1.out] at h; exact h)) _ _ HDx1.out ((hI.mod 1 rfl).act.rd (by rw [Hm1.out, (dat_xs HDx1.out).1]))).mono ?_
  rintro e w8 ⟨vg, Ng, rfl, hd, ho, hb⟩
  have I9 := Lib.hid (hI.pushRows hb ho)
  have HDg := Lib.hid hd
  clear ho hb hd
  obtain ⟨Ag, kg, rfl, _, _, _⟩ := owns_shape (I9.out.rows 0 rfl).out
  have HZg := Lib.hid (rows_small HDg.out hlen)
  have z1g := HZg.out.1
  have z2g := HZg.out.2.1
  clear hI
  clear u_a0_8 v_a0_8 x_a0_8 y_a0_8 z_a0_8 u_a1_8 v_a1_8 x_a1_8 y_a1_8 z_a1_8 u_b0_8 v_b0_8 x_b0_8 y_b0_8 z_b0_8
  obtain ⟨u_a0_9, v_a0_9, x_a0_9, y_a0_9, z_a0_9⟩ := blk2cells (I9.out.box 9 rfl)
  obtain ⟨u_a1_9, v_a1_9, x_a1_9, y_a1_9, z_a1_9⟩ := blk2cells (I9.out.box 8 rfl)
  obtain ⟨u_b0_9, v_b0_9, x_b0_9, y_b0_9, z_b0_9⟩ := blk2cells (I9.out.box 3 rfl)
  obtain ⟨u_b1_9, v_b1_9, x_b1_9, y_b1_9, z_b1_9⟩ := blk2cells (I9.out.box 1 rfl)
  go_wp2_with fail
  refine (eqRowsB_any _ _ _ _ _ _ _ _ _ rfl rfl (by omega) (fun i hi => Nat.le_trans (HZg.out.2.2 i hi) (by omega)) (HDs.out.trans HDg.out.symm) ((I9.out.rows 0 rfl).rd rfl) ((I9.out.rows 5 rfl).rd rfl)).mono ?_
  rintro e w9 ⟨rfl, hb⟩
  have I10 := Lib.hid (I9.out.step hb)
  clear hb
  clear u_a0_9 v_a0_9 x_a0_9 y_a0_9 z_a0_9 u_a1_9 v_a1_9 x_a1_9 y_a1_9 z_a1_9 u_b0_9 v_b0_9 x_b0_9 y_b0_9 z_b0_9 u_b1_9 v_b1_9 x_b1_9 y_b1_9 z_b1_9
  obtain ⟨u_a0_10, v_a0_10, x_a0_10, y_a0_10, z_a0_10⟩ := blk2cells (I10.out.box 9 rfl)
  obtain ⟨u_a1_10, v_a1_10, x_a1_10, y_a1_10, z_a1_10⟩ := blk2cells (I10.out.box 8 rfl)
  obtain ⟨u_b0_10, v_b0_10, x_b0_10, y_b0_10, z_b0_10⟩ := blk2cells (I10.out.box 3 rfl)
  obtain ⟨u_b1_10, v_b1_10, x_b1_10, y_b1_10, z_b1_10⟩ := blk2cells (I10.out.box 1 rfl)
  go_wp2_with fail
  have KS := Lib.hid (fun w' (hb : Below w9.heap.size w9 w') => show w'.cell? ⟨w6.heap.size, 0, none⟩ = some (.slice (some ⟨gx0, 0, none⟩) n0 n0) ∧ w'.cell? ⟨w6.heap.size, 1, none⟩ = some (.slice (some ⟨hx0, 0, none⟩) m0 m0) ∧ w'.cell? ⟨w.heap.size, 0, none⟩ = some (.slice A0 n0 c0) ∧ w'.cell? ⟨w.heap.size, 1, none⟩ = some (.slice B0 m0 d0) from by
    have J := I10.out.step hb
    exact ⟨(blk2cells (J.box 3 rfl)).1, (blk2cells (J.box 3 rfl)).2.1, (blk2cells (J.box 9 rfl)).1, (blk2cells (J.box 9 rfl)).2.1⟩)
  have HB_0 := Lib.hid (Below.drew (Below.refl w9.heap.size w9))
  have I11 := Lib.hid I10.out.drew
  clear u_a0_10 v_a0_10 x_a0_10 y_a0_10 z_a0_10 u_a1_10 v_a1_10 x_a1_10 y_a1_10 z_a1_10 u_b0_10 v_b0_10 x_b0_10 y_b0_10 z_b0_10 u_b1_10 v_b1_10 x_b1_10 y_b1_10 z_b1_10
  go_region_held3 (fun w' => w'.cell? ⟨w6.heap.size, 0, none⟩ = some (.slice (some ⟨gx0, 0, none⟩) n0 n0) ∧ w'.cell? ⟨w6.heap.size, 1, none⟩ = some (.slice (some ⟨hx0, 0, none⟩) m0 m0) ∧ w'.cell? ⟨w.heap.size, 0, none⟩ = some (.slice A0 n0 c0) ∧ w'.cell? ⟨w.heap.size, 1, none⟩ = some (.slice B0 m0 d0))
      (first | exact KS.out _ HB_0.out | exact KS.out _ HB_1.out | exact KS.out _ HB_2.out)
      (first
        | (go_at_call 12; (with_reducible refine (HTO0.out _ I11.out.bel).mono ?_); (rintro e w10 ⟨ge0, he0, Me0, rfl, hd, ho, hb⟩; have I12 := Lib.hid (I11.out.pushMod hb ho); have HDe0 := Lib.hid hd; have HB_1 := Lib.hid (HB_0.out.trans (hb.mono HB_0.out.size)); clear ho hb hd))
        | (go_at_call 15; (with_reducible refine (eqModule_any _ _ _ _ n0 n0 n0 m0 m0 m0 xs0 _ _ _ Hn0.out (by omega) (by rw [Hm0.out, (dat_xs HDx0.out).1]) (by omega) (by intro i hi; rw [(dat_xs HDx0.out).2 i]; exact HLL0.out i (by rw [← (dat_xs HDx0.out).1]; exact hi)) (HDe0.out.trans HDx0.out.symm) (owns_Rd (by have h := (I12.out.mod 5 rfl).deg; rw [← Hn0.out] at h; exact h)) (owns_Rd (by have h := (I12.out.mod 0 rfl).deg; rw [← Hn0.out] at h; exact h)) ((I12.out.mod 5 rfl).act.rd (by rw [Hm0.out, (dat_xs HDx0.out).1])) ((I12.out.mod 0 rfl).act.rd (by rw [Hm0.out, (dat_xs HDe0.out).1]))).mono ?_); (rintro e w11 ⟨rfl, hb⟩; have I13 := Lib.hid (I12.out.step hb); have HB_2 := Lib.hid (HB_1.out.trans (hb.mono HB_1.out.size)); clear hb)))
  clear HB_0 HB_1 HB_2 KS
  obtain ⟨u_a0_13, v_a0_13, x_a0_13, y_a0_13, z_a0_13⟩ := blk2cells (I13.out.box 10 rfl)
  obtain ⟨u_a1_13, v_a1_13, x_a1_13, y_a1_13, z_a1_13⟩ := blk2cells (I13.out.box 9 rfl)
  obtain ⟨u_b0_13, v_b0_13, x_b0_13, y_b0_13, z_b0_13⟩ := blk2cells (I13.out.box 4 rfl)
  obtain ⟨u_b1_13, v_b1_13, x_b1_13, y_b1_13, z_b1_13⟩ := blk2cells (I13.out.box 2 rfl)
  go_wp2_with fail
  have KS := Lib.hid (fun w' (hb : Below w11.heap.size w11 w') => show w'.cell? ⟨w7.heap.size, 0, none⟩ = some (.slice (some ⟨gx1, 0, none⟩) n1 n1) ∧ w'.cell? ⟨w7.heap.size, 1, none⟩ = some (.slice (some ⟨hx1, 0, none⟩) m1 m1) ∧ w'.cell? ⟨w.heap.size + 1, 0, none⟩ = some (.slice A1 n1 c1) ∧ w'.cell? ⟨w.heap.size + 1, 1, none⟩ = some (.slice B1 m1 d1) from by
    have J := I13.out.step hb
    exact ⟨(blk2cells (J.box 2 rfl)).1, (blk2cells (J.box 2 rfl)).2.1, (blk2cells (J.box 9 rfl)).1, (blk2cells (J.box 9 rfl)).2.1⟩)
  have HB_0 := Lib.hid (Below.drew (Below.refl w11.heap.size w11))
  have I14 := Lib.hid I13.out.drew
  clear u_a0_13 v_a0_13 x_a0_13 y_a0_13 z_a0_13 u_a1_13 v_a1_13 x_a1_13 y_a1_13 z_a1_13 u_b0_13 v_b0_13 x_b0_13 y_b0_13 z_b0_13 u_b1_13 v_b1_13 x_b1_13 y_b1_13 z_b1_13
  go_region_held3 (fun w' => w'.cell? ⟨w7.heap.size, 0, none⟩ = some (.slice (some ⟨gx1, 0, none⟩) n1 n1) ∧ w'.cell? ⟨w7.heap.size, 1, none⟩ = some (.slice (some ⟨hx1, 0, none⟩) m1 m1) ∧ w'.cell? ⟨w.heap.size + 1, 0, none⟩ = some (.slice A1 n1 c1) ∧ w'.cell? ⟨w.heap.size + 1, 1, none⟩ = some (.slice B1 m1 d1))
      (first | exact KS.out _ HB_0.out | exact KS.out _ HB_1.out | exact KS.out _ HB_2.out)
      (first
        | (go_at_call 12; (with_reducible refine (HTO1.out _ I14.out.bel).mono ?_); (rintro e w12 ⟨ge1, he1, Me1, rfl, hd, ho, hb⟩; have I15 := Lib.hid (I14.out.pushMod hb ho); have HDe1 := Lib.hid hd; have HB_1 := Lib.hid (HB_0.out.trans (hb.mono HB_0.out.size)); clear ho hb hd))
        | (go_at_call 15; (with_reducible refine (eqModule_any _ _ _ _ n1 n1 n1 m1 m1 m1 xs1 _ _ _ Hn1.out (by omega) (by rw [Hm1.out, (dat_xs HDx1.out).1]) (by omega) (by intro i hi; rw [(dat_xs HDx1.out).2 i]; exact HLL1.out i (by rw [← (dat_xs HDx1.out).1]; exact hi)) (HDe1.out.trans HDx1.out.symm) (owns_Rd (by have h := (I15.out.mod 4 rfl).deg; rw [← Hn1.out] at h; exact h)) (owns_Rd (by have h := (I15.out.mod 0 rfl).deg; rw [← Hn1.out] at h; exact h)) ((I15.out.mod 4 rfl).act.rd (by rw [Hm1.out, (dat_xs HDx1.out).1])) ((I15.out.mod 0 rfl).act.rd (by rw [Hm1.out, (dat_xs HDe1.out).1]))).mono ?_); (rintro e w13 ⟨rfl, hb⟩; have I16 := Lib.hid (I15.out.step hb); have HB_2 := Lib.hid (HB_1.out.trans (hb.mono HB_1.out.size)); clear hb)))
  clear HB_0 HB_1 HB_2 KS
  obtain ⟨u_a0_16, v_a0_16, x_a0_16, y_a0_16, z_a0_16⟩ := blk2cells (I16.out.box 11 rfl)
  obtain ⟨u_a1_16, v_a1_16, x_a1_16, y_a1_16, z_a1_16⟩ := blk2cells (I16.out.box 10 rfl)
  obtain ⟨u_b0_16, v_b0_16, x_b0_16, y_b0_16, z_b0_16⟩ := blk2cells (I16.out.box 5 rfl)
  obtain ⟨u_b1_16, v_b1_16, x_b1_16, y_b1_16, z_b1_16⟩ := blk2cells (I16.out.box 3 rfl)
  go_wp2_with fail
  have HKB0 := Lib.hid (show (0 : Int) ≤ 1 ∧ (1 : Int) ≤ 1 from ⟨by decide, by decide⟩)
  have hxl0 : xs0.length ≤ 1048576 := by rw [← Hn0.out]; exact hnb0
  have hqx0 : tot Mx0 = tot L0 := tot_dat HDx0.out
  have htx0 : tot Mx0 ≤ 1048576 := by rw [hqx0]; exact hk0
  clear hqx0
  have hBx0 := (I16.out.mod 6 rfl).deg.lt gx0 rfl
  refine (markModule_any _ _ _ _ xs0 Mx0 (1) _ (Nat.le_trans hBx0.1 (Nat.le_of_lt hBx0.2)) (I16.out.mod 6 rfl) (I16.out.modUp 6 rfl) (Nat.le_trans hxl0 (by decide)) (by rw [(dat_xs HDx0.out).1, ← Hm0.out]; exact Nat.le_trans hmb0 (by decide)) (Nat.le_trans htx0 (by decide)) HKB0.out.1 (Int.le_trans HKB0.out.2 (by decide))).mono ?_
  clear hBx0
  rintro e w14 ⟨rfl, ho, hk⟩
  have I17 := Lib.hid (I16.out.markMod 6 rfl hk ho)
  clear ho hk
  have HKB1 : Hid (0 ≤ (1 + xs0.length + tot Mx0 : Int) ∧ (1 + xs0.length + tot Mx0 : Int) ≤ 2097153) := Lib.hid (kb_add2 HKB0.out hxl0 htx0)
  clear u_a0_16 v_a0_16 x_a0_16 y_a0_16 z_a0_16 u_a1_16 v_a1_16 x_a1_16 y_a1_16 z_a1_16 u_b0_16 v_b0_16 x_b0_16 y_b0_16 z_b0_16 u_b1_16 v_b1_16 x_b1_16 y_b1_16 z_b1_16
  obtain ⟨u_a0_17, v_a0_17, x_a0_17, y_a0_17, z_a0_17⟩ := blk2cells (I17.out.box 11 rfl)
  obtain ⟨u_a1_17, v_a1_17, x_a1_17, y_a1_17, z_a1_17⟩ := blk2cells (I17.out.box 10 rfl)
  obtain ⟨u_b0_17, v_b0_17, x_b0_17, y_b0_17, z_b0_17⟩ := blk2cells (I17.out.box 5 rfl)
  obtain ⟨u_b1_17, v_b1_17, x_b1_17, y_b1_17, z_b1_17⟩ := blk2cells (I17.out.box 3 rfl)
  have hnn0 : ¬ (1 + xs0.length + tot Mx0 : Int) < 0 := Int.not_lt.2 HKB1.out.1
  go_wp2_with fail
  have hxl1 : xs1.length ≤ 1048576 := by rw [← Hn1.out]; exact hnb1
  have hqx1 : tot Mx1 = tot L1 := tot_dat HDx1.out
  have htx1 : tot Mx1 ≤ 1048576 := by rw [hqx1]; exact hk1
  clear hqx1
  have hBx1 := (I17.out.mod 4 rfl).deg.lt gx1 rfl
  refine (markModule_any _ _ _ _ xs1 Mx1 (1 + xs0.length + tot Mx0) _ (Nat.le_trans hBx1.1 (Nat.le_of_lt hBx1.2)) (I17.out.mod 4 rfl) (I17.out.modUp 4 rfl) (Nat.le_trans hxl1 (by decide)) (by rw [(dat_xs HDx1.out).1, ← Hm1.out]; exact Nat.le_trans hmb1 (by decide)) (Nat.le_trans htx1 (by decide)) HKB1.out.1 (Int.le_trans HKB1.out.2 (by decide))).mono ?_
  clear hBx1
  rintro e w15 ⟨rfl, ho, hk⟩
  have I18 := Lib.hid (I17.out.markMod 4 rfl hk ho)
  clear ho hk
  have HKB2 : Hid (0 ≤ (1 + xs0.length + tot Mx0 + xs1.length + tot Mx1 : Int) ∧ (1 + xs0.length + tot Mx0 + xs1.length + tot Mx1 : Int) ≤ 4194305) := Lib.hid (kb_add2 HKB1.out hxl1 htx1)
  clear u_a0_17 v_a0_17 x_a0_17 y_a0_17 z_a0_17 u_a1_17 v_a1_17 x_a1_17 y_a1_17 z_a1_17 u_b0_17 v_b0_17 x_b0_17 y_b0_17 z_b0_17 u_b1_17 v_b1_17 x_b1_17 y_b1_17 z_b1_17
  obtain ⟨u_a0_18, v_a0_18, x_a0_18, y_a0_18, z_a0_18⟩ := blk2cells (I18.out.box 11 rfl)
  obtain ⟨u_a1_18, v_a1_18, x_a1_18, y_a1_18, z_a1_18⟩ := blk2cells (I18.out.box 10 rfl)
  obtain ⟨u_b0_18, v_b0_18, x_b0_18, y_b0_18, z_b0_18⟩ := blk2cells (I18.out.box 5 rfl)
  obtain ⟨u_b1_18, v_b1_18, x_b1_18, y_b1_18, z_b1_18⟩ := blk2cells (I18.out.box 3 rfl)
  have hnn1 : ¬ (1 + xs0.length + tot Mx0 + xs1.length + tot Mx1 : Int) < 0 := Int.not_lt.2 HKB2.out.1
  go_wp2_with fail
  refine (eqRowsB_any _ _ _ _ _ _ _ _ _ rfl rfl (by omega) (fun i hi => Nat.le_trans (HZg.out.2.2 i hi) (by omega)) (HDs.out.trans HDg.out.symm) ((I18.out.rows 2 rfl).rd rfl) ((I18.out.rows 7 rfl).rd rfl)).mono ?_
  rintro e w16 ⟨rfl, hb⟩
  have I19 := Lib.hid (I18.out.step hb)
  clear hb
  clear u_a0_18 v_a0_18 x_a0_18 y_a0_18 z_a0_18 u_a1_18 v_a1_18 x_a1_18 y_a1_18 z_a1_18 u_b0_18 v_b0_18 x_b0_18 y_b0_18 z_b0_18 u_b1_18 v_b1_18 x_b1_18 y_b1_18 z_b1_18
  obtain ⟨u_a0_19, v_a0_19, x_a0_19, y_a0_19, z_a0_19⟩ := blk2cells (I19.out.box 11 rfl)
  obtain ⟨u_a1_19, v_a1_19, x_a1_19, y_a1_19, z_a1_19⟩ := blk2cells (I19.out.box 10 rfl)
  obtain ⟨u_b0_19, v_b0_19, x_b0_19, y_b0_19, z_b0_19⟩ := blk2cells (I19.out.box 5 rfl)
  obtain ⟨u_b1_19, v_b1_19, x_b1_19, y_b1_19, z_b1_19⟩ := blk2cells (I19.out.box 3 rfl)
  go_wp2_with fail
  refine (markRows_any _ _ _ Ng 1 _ (I19.out.rows 2 rfl) (by omega) (by omega) (by omega) (by omega) (I19.out.rowsUp 2 rfl).2).mono ?_
  rintro e w17 ⟨rfl, ho, hk⟩
  have I20 := Lib.hid (I19.out.markRows 2 rfl hk ho)
  clear ho hk
  clear u_a0_19 v_a0_19 x_a0_19 y_a0_19 z_a0_19 u_a1_19 v_a1_19 x_a1_19 y_a1_19 z_a1_19 u_b0_19 v_b0_19 x_b0_19 y_b0_19 z_b0_19 u_b1_19 v_b1_19 x_b1_19 y_b1_19 z_b1_19
  obtain ⟨u_a0_20, v_a0_20, x_a0_20, y_a0_20, z_a0_20⟩ := blk2cells (I20.out.box 11 rfl)
  obtain ⟨u_a1_20, v_a1_20, x_a1_20, y_a1_20, z_a1_20⟩ := blk2cells (I20.out.box 10 rfl)
  obtain ⟨u_b0_20, v_b0_20, x_b0_20, y_b0_20, z_b0_20⟩ := blk2cells (I20.out.box 5 rfl)
  obtain ⟨u_b1_20, v_b1_20, x_b1_20, y_b1_20, z_b1_20⟩ := blk2cells (I20.out.box 3 rfl)
  go_wp2_with fail
  refine (heldRows_any _ Ng.length _ Ng 1 _ rfl ((I20.out.rows 2 rfl).rd (by rw [marksR_length])) (by omega) (by omega) (by omega) (by omega)).mono ?_
  rintro e w' ⟨rfl, rfl⟩
  go_wp2_with fail
  have KS20 := Lib.hid (fun w' (hb : Below w17.heap.size w17 w') => show w'.cell? ⟨w.heap.size, 0, none⟩ = some (.slice A0 n0 c0) ∧ w'.cell? ⟨w.heap.size, 1, none⟩ = some (.slice B0 m0 d0) ∧ w'.cell? ⟨w.heap.size + 1, 0, none⟩ = some (.slice A1 n1 c1) ∧ w'.cell? ⟨w.heap.size + 1, 1, none⟩ = some (.slice B1 m1 d1) from by
    have J := I20.out.step hb
    exact ⟨(blk2cells (J.box 11 rfl)).1, (blk2cells (J.box 11 rfl)).2.1, (blk2cells (J.box 10 rfl)).1, (blk2cells (J.box 10 rfl)).2.1⟩)
  have HB_0 := Lib.hid (Below.drew (Below.refl w17.heap.size w17))
  have I21 := Lib.hid I20.out.drew
  clear u_a0_20 v_a0_20 x_a0_20 y_a0_20 z_a0_20 u_a1_20 v_a1_20 x_a1_20 y_a1_20 z_a1_20 u_b0_20 v_b0_20 x_b0_20 y_b0_20 z_b0_20 u_b1_20 v_b1_20 x_b1_20 y_b1_20 z_b1_20
  go_region_held3 (fun w' => w'.cell? ⟨w.heap.size, 0, none⟩ = some (.slice A0 n0 c0) ∧ w'.cell? ⟨w.heap.size, 1, none⟩ = some (.slice B0 m0 d0) ∧ w'.cell? ⟨w.heap.size + 1, 0, none⟩ = some (.slice A1 n1 c1) ∧ w'.cell? ⟨w.heap.size + 1, 1, none⟩ = some (.slice B1 m1 d1))
      (first | exact KS20.out _ HB_0.out | exact KS20.out _ HB_1.out | exact KS20.out _ HB_2.out | exact KS20.out _ HB_3.out)
      (first
        | (go_at_call 12; (with_reducible refine (HTO0.out _ I21.out.bel).mono ?_); (rintro e w18 ⟨gh0, hh0, Mh0, rfl, hd, ho, hb⟩; have I22 := Lib.hid (I21.out.pushMod hb ho); have HDh0 := Lib.hid hd; clear hd; have HB_1 := Lib.hid (HB_0.out.trans (hb.mono HB_0.out.size)); clear ho hb))
        | (go_at_call 12; (with_reducible refine (HTO1.out _ I22.out.bel).mono ?_); (rintro e w19 ⟨gh1, hh1, Mh1, rfl, hd, ho, hb⟩; have I23 := Lib.hid (I22.out.pushMod hb ho); have HDh1 := Lib.hid hd; clear hd; have HB_2 := Lib.hid (HB_1.out.trans (hb.mono HB_1.out.size)); clear ho hb))
        | (go_at_call 13; (with_reducible refine (HIM.out _ (HT.out.below I23.out.bel hw) (by have := I23.out.size; omega) _ (owns_Rd (by have h := (I23.out.mod 1 rfl).deg; rw [← Hn0.out] at h; exact h)) _ _ HDh0.out ((I23.out.mod 1 rfl).act.rd (by rw [Hm0.out, (dat_xs HDh0.out).1])) _ (owns_Rd (by have h := (I23.out.mod 0 rfl).deg; rw [← Hn1.out] at h; exact h)) _ _ HDh1.out ((I23.out.mod 0 rfl).act.rd (by rw [Hm1.out, (dat_xs HDh1.out).1]))).mono ?_); (rintro e w20 ⟨vh, Nh, rfl, hd, ho, hb⟩; have HB_3 := Lib.hid (HB_2.out.trans (hb.mono HB_2.out.size)); have I24 := Lib.hid (I23.out.pushRows hb ho); have HDh := Lib.hid hd; clear ho hb hd; obtain ⟨Ah, kh, rfl, _, _, _⟩ := owns_shape (I24.out.rows 0 rfl).out; have HZh := Lib.hid (rows_small HDh.out hlen); have z1h := HZh.out.1; have z2h := HZh.out.2.1)))
  clear HB_0 HB_1 HB_2 HB_3 KS20
  obtain ⟨u_a0_24, v_a0_24, x_a0_24, y_a0_24, z_a0_24⟩ := blk2cells (I24.out.box 14 rfl)
  obtain ⟨u_a1_24, v_a1_24, x_a1_24, y_a1_24, z_a1_24⟩ := blk2cells (I24.out.box 13 rfl)
  obtain ⟨u_b0_24, v_b0_24, x_b0_24, y_b0_24, z_b0_24⟩ := blk2cells (I24.out.box 8 rfl)
  obtain ⟨u_b1_24, v_b1_24, x_b1_24, y_b1_24, z_b1_24⟩ := blk2cells (I24.out.box 6 rfl)
  go_wp2_with fail
  refine (eqRowsB_any _ _ _ _ _ _ _ _ _ rfl rfl (by omega) (fun i hi => Nat.le_trans (HZh.out.2.2 i hi) (by omega)) (HDs.out.trans HDh.out.symm) ((I24.out.rows 0 rfl).rd rfl) ((I24.out.rows 10 rfl).rd rfl)).mono ?_
  rintro e w21 ⟨rfl, hb⟩
  have I25 := Lib.hid (I24.out.step hb)
  clear hb
  clear u_a0_24 v_a0_24 x_a0_24 y_a0_24 z_a0_24 u_a1_24 v_a1_24 x_a1_24 y_a1_24 z_a1_24 u_b0_24 v_b0_24 x_b0_24 y_b0_24 z_b0_24 u_b1_24 v_b1_24 x_b1_24 y_b1_24 z_b1_24
  obtain ⟨u_a0_25, v_a0_25, x_a0_25, y_a0_25, z_a0_25⟩ := blk2cells (I25.out.box 14 rfl)
  obtain ⟨u_a1_25, v_a1_25, x_a1_25, y_a1_25, z_a1_25⟩ := blk2cells (I25.out.box 13 rfl)
  obtain ⟨u_b0_25, v_b0_25, x_b0_25, y_b0_25, z_b0_25⟩ := blk2cells (I25.out.box 8 rfl)
  obtain ⟨u_b1_25, v_b1_25, x_b1_25, y_b1_25, z_b1_25⟩ := blk2cells (I25.out.box 6 rfl)
  go_wp2_with fail
  refine (heldRows_any _ Ng.length _ Ng 1 _ rfl ((I25.out.rows 5 rfl).rd (by rw [marksR_length])) (by omega) (by omega) (by omega) (by omega)).mono ?_
  rintro e w' ⟨rfl, rfl⟩
  go_wp2_with fail
  go_ret
  exact ⟨rfl, I25.out.bel⟩
end Go.Proofs.YtpchigdhnnkpcaaGreatDoor
