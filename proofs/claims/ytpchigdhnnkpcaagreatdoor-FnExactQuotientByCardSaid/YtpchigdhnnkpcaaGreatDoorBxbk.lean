/- FnExactQuotientBy: the walk of the law (printed by mkl2.py) -/
import Derived.Test.YtpchigdhnnkpcaaGreatDoorBxab
import Derived.Test.YtpchigdhnnkpcaaGreatDoorBxat
import Derived.Test.YtpchigdhnnkpcaaGreatDoorBxbd
import Derived.Test.YtpchigdhnnkpcaaGreatDoorBxbi
import Derived.Deep.RegionHeld3
set_option linter.all false
namespace Go.Proofs.YtpchigdhnnkpcaaGreatDoor
open Go.RowKit

set_option maxRecDepth 100000 in
set_option maxHeartbeats 8000000 in
theorem lawQuotientBy_any (A0 : Option Addr) (n0 c0 : Nat) (xs0 : List Int) (B0 : Option Addr) (m0 d0 : Nat) (L0 : List Row) (A1 : Option Addr) (n1 c1 : Nat) (L1 : List Row) (w : World) (hT : Tab w) (hw : 0 < w.heap.size) (hn0 : n0 = xs0.length) (hs0 : n0 ≤ 9223372036854775807) (hR0 : Rd w A0 (iv xs0)) (hm0 : m0 = L0.length) (ht0 : m0 ≤ 9223372036854775807) (hl0 : ∀ i, i < L0.length → (rg L0 i).xs.length ≤ 9223372036854775807) (hQ0 : RdR w B0 L0) (hn1 : n1 = L1.length) (hs1 : n1 ≤ 9223372036854775807) (hl1 : ∀ i, i < L1.length → (rg L1 i).xs.length ≤ 9223372036854775807) (hR1 : RdR w A1 L1) :
    Calls Tryz.prog 9 #[.agg #[.slice A0 n0 c0, .slice B0 m0 d0], .slice A1 n1 c1] w fun e w' => e = .returned (.bool true) ∧ Below w.heap.size w w' := by
  have hI := (Inw.start w).allocBox #[.slice A0 n0 c0, .slice B0 m0 d0] 25
  have I0 := Lib.hid hI
  clear hI
  have HT := Lib.hid hT
  clear hT
  have Hn0 := Lib.hid hn0
  have HR0 := Lib.hid hR0
  have Hm0 := Lib.hid hm0
  have HL0 := Lib.hid hl0
  have HQ0 := Lib.hid hQ0
  clear hn0 hR0 hm0 hl0 hQ0
  have Hn1 := Lib.hid hn1
  have HR1 := Lib.hid hR1
  have HL1 := Lib.hid hl1
  clear hn1 hR1 hl1
  go_enter Tryz.func9, Tryz.ntmps9
  go_wp2_with fail
  refine (szModule_any A0 B0 n0 c0 m0 d0 L0 (1048576) _ hs0 Hm0.out ht0 HL0.out (by omega) (by omega) (HQ0.out.below I0.out.bel)).mono ?_
  rintro e w1 ⟨z0, rfl, hz, hb⟩
  have I1 := Lib.hid (I0.out.step hb)
  clear hb
  obtain ⟨u_a0_1, v_a0_1, x_a0_1, y_a0_1, z_a0_1⟩ := blk2cells (I1.out.box 0 rfl)
  rcases hz with rfl | ⟨hz0, hy0⟩
  · go_wp2_with fail
    go_ret
    exact ⟨rfl, I1.out.bel⟩
  have hi0 : ¬ z0 < 0 := by omega
  have hk0 : tot L0 ≤ 1048576 := by omega
  have HLL0 := Lib.hid (fun i (hi : i < L0.length) => Nat.le_trans (len_le_tot hi) hk0)
  go_wp2_with fail
  refine (szRows_any A1 n1 c1 L1 (z0) _ Hn1.out hs1 HL1.out (by omega) (by omega) (HR1.out.below I1.out.bel)).mono ?_
  rintro e w2 ⟨z1, rfl, hz, rfl⟩
  rcases hz with rfl | ⟨hz1, hy1⟩
  · go_wp2_with fail
    go_ret
    exact ⟨rfl, I1.out.bel⟩
  have hi1 : ¬ z1 < 0 := by omega
  have hk1 : tot L1 ≤ 1048576 := by omega
  have HLL1 := Lib.hid (fun i (hi : i < L1.length) => Nat.le_trans (len_le_tot hi) hk1)
  have HTO0 := Lib.hid (fun W (hb : Below w.heap.size w W) => toModule_any A0 B0 n0 c0 m0 d0 xs0 L0 W Hn0.out (by omega) (HR0.out.below hb) Hm0.out (by omega) HLL0.out (HQ0.out.below hb))
  have HTO1 := Lib.hid (fun W (hb : Below w.heap.size w W) => toRows_any A1 n1 c1 L1 W Hn1.out (by omega) HLL1.out (HR1.out.below hb))
  obtain ⟨rr, hrr⟩ : ∃ rr, quotientByOf xs0 L0 L1 = rr := ⟨_, rfl⟩
  have hlen := quotientByOf_len xs0 L0 L1
  rw [hrr] at hlen
  have HLEN : Hid (PLen rr) := Lib.hid hlen
  have hl1 := HLEN.out.1
  have HDD := Lib.hid (fun (M0 : List Row) (e0 : dat M0 = dat L0) (M1 : List Row) (e1 : dat M1 = dat L1) => (quotientByOf_dat e0 e1).trans hrr)
  clear hrr
  have hnb0 : n0 ≤ 1048576 := by omega
  have hmb0 : m0 ≤ 1048576 := by omega
  have hnb1 : n1 ≤ 1048576 := by omega
  have HSP := Lib.hid (fun (W : World) (C0 : Option Addr) (r0 : Rd W C0 (iv xs0)) (E0 : Option Addr) (M0 : List Row) (e0 : dat M0 = dat L0) (q0 : RdR W E0 M0) (C1 : Option Addr) (M1 : List Row) (e1 : dat M1 = dat L1) (r1 : RdR W C1 M1) => show Calls Tryz.prog 35 #[.agg #[.slice C0 n0 n0, .slice E0 m0 m0], .slice C1 n1 n1] W (ResRd rr W) from by
    have h : Calls Tryz.prog 35 #[.agg #[.slice C0 n0 n0, .slice E0 m0 m0], .slice C1 n1 n1] W (ResRd (quotientByOf xs0 M0 M1) W) := specQuotientBy_any C0 n0 n0 xs0 E0 m0 m0 M0 C1 n1 n1 M1 W Hn0.out (by omega) r0 (by rw [Hm0.out, (dat_xs e0).1]) (by omega) (by intro i hi; rw [(dat_xs e0).2 i]; exact HLL0.out i (by rw [← (dat_xs e0).1]; exact hi)) q0 (by rw [Hn1.out, (dat_xs e1).1]) (by omega) (by intro i hi; rw [(dat_xs e1).2 i]; exact HLL1.out i (by rw [← (dat_xs e1).1]; exact hi)) r1
    rw [HDD.out M0 e0 M1 e1] at h
    exact h)
  have HIM := Lib.hid (fun (W : World) (tb : Tab W) (tw : 0 < W.heap.size) (C0 : Option Addr) (r0 : Rd W C0 (iv xs0)) (E0 : Option Addr) (M0 : List Row) (e0 : dat M0 = dat L0) (q0 : RdR W E0 M0) (C1 : Option Addr) (M1 : List Row) (e1 : dat M1 = dat L1) (r1 : RdR W C1 M1) => show Calls Tryz.prog 36 #[.agg #[.slice C0 n0 n0, .slice E0 m0 m0], .slice C1 n1 n1] W (ResMR rr W) from by
    have h : Calls Tryz.prog 36 #[.agg #[.slice C0 n0 n0, .slice E0 m0 m0], .slice C1 n1 n1] W (ResMR (quotientByOf xs0 M0 M1) W) := implQuotientBy_any C0 n0 n0 xs0 E0 m0 m0 M0 C1 n1 n1 M1 W tb tw Hn0.out (by omega) r0 (by rw [Hm0.out, (dat_xs e0).1]) (by omega) (by intro i hi; rw [(dat_xs e0).2 i]; exact HLL0.out i (by rw [← (dat_xs e0).1]; exact hi)) q0 (by rw [Hn1.out, (dat_xs e1).1]) (by omega) (by intro i hi; rw [(dat_xs e1).2 i]; exact HLL1.out i (by rw [← (dat_xs e1).1]; exact hi)) r1
    rw [HDD.out M0 e0 M1 e1] at h
    exact h)
  go_wp2_with fail
  clear hz0 hy0 hi0 hs0 ht0 hz1 hy1 hi1 hs1
  refine (HTO0.out _ I1.out.bel).mono ?_
  rintro e w3 ⟨gs0, hs0, Ms0, rfl, hd, ho, hb⟩
  have I2 := Lib.hid (I1.out.pushMod hb ho)
  have HDs0 := Lib.hid hd
  clear hd
  clear ho hb
  clear u_a0_1 v_a0_1 x_a0_1 y_a0_1 z_a0_1
  obtain ⟨u_a0_2, v_a0_2, x_a0_2, y_a0_2, z_a0_2⟩ := blk2cells (I2.out.box 1 rfl)
  go_wp2_with fail
  refine (HTO1.out _ I2.out.bel).mono ?_
  rintro e w4 ⟨gs1, Ms1, rfl, hd, ho, hb⟩
  have I3 := Lib.hid (I2.out.pushRows hb ho)
  have HDs1 := Lib.hid hd
  clear hd
  clear ho hb
  clear u_a0_2 v_a0_2 x_a0_2 y_a0_2 z_a0_2
  obtain ⟨u_a0_3, v_a0_3, x_a0_3, y_a0_3, z_a0_3⟩ := blk2cells (I3.out.box 2 rfl)
  go_wp2_with fail
  refine (HSP.out _ _ (owns_Rd (by have h := (I3.out.mod 1 rfl).deg; rw [← Hn0.out] at h; exact h)) _ _ HDs0.out ((I3.out.mod 1 rfl).act.rd (by rw [Hm0.out, (dat_xs HDs0.out).1])) _ _ HDs1.out ((I3.out.rows 0 rfl).rd (by rw [Hn1.out, (dat_xs HDs1.out).1]))).mono ?_
  rintro e w5 ⟨As, ks, Bs, ls, Rs, Cs, qs, Ms, rfl, hdR, hd3, ho, hb⟩
  have I4 := Lib.hid (I3.out.pushQ hb ho)
  have HDs := Lib.hid hd3
  have HDsm := Lib.hid hdR
  clear hd3 hdR ho hb
  have HZs := Lib.hid (rows_small HDs.out HLEN.out.2.2)
  have HZsm := Lib.hid (rows_small2 HDsm.out HLEN.out.2.1)
  have z1s := HZs.out.1
  have z2s := HZs.out.2.1
  have z1sm := HZsm.out.1
  have z2sm := HZsm.out.2.1
  clear u_a0_3 v_a0_3 x_a0_3 y_a0_3 z_a0_3
  obtain ⟨u_a0_4, v_a0_4, x_a0_4, y_a0_4, z_a0_4⟩ := blk2cells (I4.out.box 3 rfl)
  go_wp2_with fail
  have hI := I4.out.allocBox #[.slice As rr.1.1.length ks, .slice Bs rr.1.2.length ls] 29
  refine (HTO0.out _ hI.bel).mono ?_
  rintro e w6 ⟨gx0, hx0, Mx0, rfl, hd, ho, hb⟩
  have I5 := Lib.hid (hI.pushMod hb ho)
  have HDx0 := Lib.hid hd
  clear hd
  clear ho hb
  clear hI
  clear u_a0_4 v_a0_4 x_a0_4 y_a0_4 z_a0_4
  obtain ⟨u_a0_5, v_a0_5, x_a0_5, y_a0_5, z_a0_5⟩ := blk2cells (I5.out.box 5 rfl)
  obtain ⟨u_rs_5, v_rs_5, x_rs_5, y_rs_5, z_rs_5⟩ := blk2cells (I5.out.box 1 rfl)
  go_wp2_with fail
  have hI := I5.out.allocBox #[.slice (some ⟨gx0, 0, none⟩) n0 n0, .slice (some ⟨hx0, 0, none⟩) m0 m0] 29
  refine (HTO1.out _ hI.bel).mono ?_
  rintro e w7 ⟨gx1, Mx1, rfl, hd, ho, hb⟩
  have I6 := Lib.hid (hI.pushRows hb ho)
  have HDx1 := Lib.hid hd
  clear hd
  clear ho hb
  clear hI
  clear u_a0_5 v_a0_5 x_a0_5 y_a0_5 z_a0_5 u_rs_5 v_rs_5 x_rs_5 y_rs_5 z_rs_5
  obtain ⟨u_a0_6, v_a0_6, x_a0_6, y_a0_6, z_a0_6⟩ := blk2cells (I6.out.box 7 rfl)
  obtain ⟨u_b0_6, v_b0_6, x_b0_6, y_b0_6, z_b0_6⟩ := blk2cells (I6.out.box 1 rfl)
  obtain ⟨u_rs_6, v_rs_6, x_rs_6, y_rs_6, z_rs_6⟩ := blk2cells (I6.out.box 3 rfl)
  go_wp2_with fail
  refine (HIM.out _ (HT.out.below I6.out.bel hw) (by have := I6.out.size; omega) _ (owns_Rd (by have h := (I6.out.mod 2 rfl).deg; rw [← Hn0.out] at h; exact h)) _ _ HDx0.out ((I6.out.mod 2 rfl).act.rd (by rw [Hm0.out, (dat_xs HDx0.out).1])) _ _ HDx1.out ((I6.out.rows 0 rfl).rd (by rw [Hn1.out, (dat_xs HDx1.out).1]))).mono ?_
  rintro e w8 ⟨vg, ug, Mg, Hg, hH, rfl, hmo, hd3, ho3, hb⟩
  obtain ⟨Ag, kg, Bg, lg, Rg, Cg, qg, hg, rfl, rfl, hdR, _, hI2⟩ := I6.out.pushMR hH hmo ho3 hb
  have I7 := Lib.hid hI2
  have HDg := Lib.hid hd3
  have HDgm := Lib.hid hdR
  clear hI2 hd3 hdR hmo ho3 hb hH
  have HZg := Lib.hid (rows_small HDg.out HLEN.out.2.2)
  have HZgm := Lib.hid (rows_small2 HDgm.out HLEN.out.2.1)
  have z1g := HZg.out.1
  have z2g := HZg.out.2.1
  have z1gm := HZgm.out.1
  have z2gm := HZgm.out.2.1
  clear u_a0_6 v_a0_6 x_a0_6 y_a0_6 z_a0_6 u_b0_6 v_b0_6 x_b0_6 y_b0_6 z_b0_6 u_rs_6 v_rs_6 x_rs_6 y_rs_6 z_rs_6
  obtain ⟨u_a0_7, v_a0_7, x_a0_7, y_a0_7, z_a0_7⟩ := blk2cells (I7.out.box 9 rfl)
  obtain ⟨u_b0_7, v_b0_7, x_b0_7, y_b0_7, z_b0_7⟩ := blk2cells (I7.out.box 3 rfl)
  obtain ⟨u_rs_7, v_rs_7, x_rs_7, y_rs_7, z_rs_7⟩ := blk2cells (I7.out.box 5 rfl)
  go_wp2_with fail
  have hI := I7.out.allocBox #[.slice Ag rr.1.1.length kg, .slice Bg rr.1.2.length lg] 29
  refine (eqModQ (hI.mod 2 rfl) HDgm.out (hI.q 7 rfl) HDsm.out HLEN.out.1 HLEN.out.2.1).mono ?_
  rintro e w9 ⟨rfl, hb⟩
  have I8 := Lib.hid (hI.step hb)
  clear hb
  clear hI
  clear u_a0_7 v_a0_7 x_a0_7 y_a0_7 z_a0_7 u_b0_7 v_b0_7 x_b0_7 y_b0_7 z_b0_7 u_rs_7 v_rs_7 x_rs_7 y_rs_7 z_rs_7
  obtain ⟨u_a0_8, v_a0_8, x_a0_8, y_a0_8, z_a0_8⟩ := blk2cells (I8.out.box 10 rfl)
  obtain ⟨u_b0_8, v_b0_8, x_b0_8, y_b0_8, z_b0_8⟩ := blk2cells (I8.out.box 4 rfl)
  obtain ⟨u_rs_8, v_rs_8, x_rs_8, y_rs_8, z_rs_8⟩ := blk2cells (I8.out.box 6 rfl)
  obtain ⟨u_rg_8, v_rg_8, x_rg_8, y_rg_8, z_rg_8⟩ := blk2cells (I8.out.box 0 rfl)
  go_wp2_with fail
  refine (eqRowsB_any _ _ _ _ _ _ _ _ _ rfl (by rw [← HDs.out, dat_length]) (by omega) (fun i hi => Nat.le_trans (HZg.out.2.2 i hi) (by omega)) (HDs.out.trans HDg.out.symm) ((I8.out.rows 1 rfl).rd rfl) ((I8.out.q 7 rfl).rows.rd (by rw [← HDs.out, dat_length]))).mono ?_
  rintro e w10 ⟨rfl, hb⟩
  have I9 := Lib.hid (I8.out.step hb)
  clear hb
  clear u_a0_8 v_a0_8 x_a0_8 y_a0_8 z_a0_8 u_b0_8 v_b0_8 x_b0_8 y_b0_8 z_b0_8 u_rs_8 v_rs_8 x_rs_8 y_rs_8 z_rs_8 u_rg_8 v_rg_8 x_rg_8 y_rg_8 z_rg_8
  obtain ⟨u_a0_9, v_a0_9, x_a0_9, y_a0_9, z_a0_9⟩ := blk2cells (I9.out.box 10 rfl)
  obtain ⟨u_b0_9, v_b0_9, x_b0_9, y_b0_9, z_b0_9⟩ := blk2cells (I9.out.box 4 rfl)
  obtain ⟨u_rs_9, v_rs_9, x_rs_9, y_rs_9, z_rs_9⟩ := blk2cells (I9.out.box 6 rfl)
  obtain ⟨u_rg_9, v_rg_9, x_rg_9, y_rg_9, z_rg_9⟩ := blk2cells (I9.out.box 0 rfl)
  go_wp2_with fail
  have KS := Lib.hid (fun w' (hb : Below w10.heap.size w10 w') => show w'.cell? ⟨w6.heap.size, 0, none⟩ = some (.slice (some ⟨gx0, 0, none⟩) n0 n0) ∧ w'.cell? ⟨w6.heap.size, 1, none⟩ = some (.slice (some ⟨hx0, 0, none⟩) m0 m0) ∧ w'.cell? ⟨w.heap.size, 0, none⟩ = some (.slice A0 n0 c0) ∧ w'.cell? ⟨w.heap.size, 1, none⟩ = some (.slice B0 m0 d0) from by
    have J := I9.out.step hb
    exact ⟨(blk2cells (J.box 4 rfl)).1, (blk2cells (J.box 4 rfl)).2.1, (blk2cells (J.box 10 rfl)).1, (blk2cells (J.box 10 rfl)).2.1⟩)
  have HB_0 := Lib.hid (Below.drew (Below.refl w10.heap.size w10))
  have I10 := Lib.hid I9.out.drew
  clear u_a0_9 v_a0_9 x_a0_9 y_a0_9 z_a0_9 u_b0_9 v_b0_9 x_b0_9 y_b0_9 z_b0_9 u_rs_9 v_rs_9 x_rs_9 y_rs_9 z_rs_9 u_rg_9 v_rg_9 x_rg_9 y_rg_9 z_rg_9
  go_region_held3 (fun w' => w'.cell? ⟨w6.heap.size, 0, none⟩ = some (.slice (some ⟨gx0, 0, none⟩) n0 n0) ∧ w'.cell? ⟨w6.heap.size, 1, none⟩ = some (.slice (some ⟨hx0, 0, none⟩) m0 m0) ∧ w'.cell? ⟨w.heap.size, 0, none⟩ = some (.slice A0 n0 c0) ∧ w'.cell? ⟨w.heap.size, 1, none⟩ = some (.slice B0 m0 d0))
      (first | exact KS.out _ HB_0.out | exact KS.out _ HB_1.out | exact KS.out _ HB_2.out)
      (first
        | (go_at_call 12; (with_reducible refine (HTO0.out _ I10.out.bel).mono ?_); (rintro e w11 ⟨ge0, he0, Me0, rfl, hd, ho, hb⟩; have I11 := Lib.hid (I10.out.pushMod hb ho); have HDe0 := Lib.hid hd; have HB_1 := Lib.hid (HB_0.out.trans (hb.mono HB_0.out.size)); clear ho hb hd))
        | (go_at_call 15; (with_reducible refine (eqModule_any _ _ _ _ n0 n0 n0 m0 m0 m0 xs0 _ _ _ Hn0.out (by omega) (by rw [Hm0.out, (dat_xs HDx0.out).1]) (by omega) (by intro i hi; rw [(dat_xs HDx0.out).2 i]; exact HLL0.out i (by rw [← (dat_xs HDx0.out).1]; exact hi)) (HDe0.out.trans HDx0.out.symm) (owns_Rd (by have h := (I11.out.mod 6 rfl).deg; rw [← Hn0.out] at h; exact h)) (owns_Rd (by have h := (I11.out.mod 0 rfl).deg; rw [← Hn0.out] at h; exact h)) ((I11.out.mod 6 rfl).act.rd (by rw [Hm0.out, (dat_xs HDx0.out).1])) ((I11.out.mod 0 rfl).act.rd (by rw [Hm0.out, (dat_xs HDe0.out).1]))).mono ?_); (rintro e w12 ⟨rfl, hb⟩; have I12 := Lib.hid (I11.out.step hb); have HB_2 := Lib.hid (HB_1.out.trans (hb.mono HB_1.out.size)); clear hb)))
  clear HB_0 HB_1 HB_2 KS
  obtain ⟨u_a0_12, v_a0_12, x_a0_12, y_a0_12, z_a0_12⟩ := blk2cells (I12.out.box 11 rfl)
  obtain ⟨u_b0_12, v_b0_12, x_b0_12, y_b0_12, z_b0_12⟩ := blk2cells (I12.out.box 5 rfl)
  obtain ⟨u_rs_12, v_rs_12, x_rs_12, y_rs_12, z_rs_12⟩ := blk2cells (I12.out.box 7 rfl)
  obtain ⟨u_rg_12, v_rg_12, x_rg_12, y_rg_12, z_rg_12⟩ := blk2cells (I12.out.box 1 rfl)
  go_wp2_with fail
  refine (HTO1.out _ I12.out.bel).mono ?_
  rintro e w13 ⟨ge1, Me1, rfl, hd, ho, hb⟩
  have I13 := Lib.hid (I12.out.pushRows hb ho)
  have HDe1 := Lib.hid hd
  clear hd
  clear ho hb
  clear u_a0_12 v_a0_12 x_a0_12 y_a0_12 z_a0_12 u_b0_12 v_b0_12 x_b0_12 y_b0_12 z_b0_12 u_rs_12 v_rs_12 x_rs_12 y_rs_12 z_rs_12 u_rg_12 v_rg_12 x_rg_12 y_rg_12 z_rg_12
  obtain ⟨u_a0_13, v_a0_13, x_a0_13, y_a0_13, z_a0_13⟩ := blk2cells (I13.out.box 12 rfl)
  obtain ⟨u_b0_13, v_b0_13, x_b0_13, y_b0_13, z_b0_13⟩ := blk2cells (I13.out.box 6 rfl)
  obtain ⟨u_rs_13, v_rs_13, x_rs_13, y_rs_13, z_rs_13⟩ := blk2cells (I13.out.box 8 rfl)
  obtain ⟨u_rg_13, v_rg_13, x_rg_13, y_rg_13, z_rg_13⟩ := blk2cells (I13.out.box 2 rfl)
  go_wp2_with fail
  refine (eqRowsB_any _ _ n1 n1 _ _ _ _ _ (by rw [Hn1.out, (dat_xs HDx1.out).1]) (by rw [Hn1.out, (dat_xs HDe1.out).1]) (by omega) (by intro i hi; rw [(dat_xs HDx1.out).2 i]; exact Nat.le_trans (HLL1.out i (by rw [← (dat_xs HDx1.out).1]; exact hi)) (by omega)) (HDe1.out.trans HDx1.out.symm) ((I13.out.rows 5 rfl).rd (by rw [Hn1.out, (dat_xs HDx1.out).1])) ((I13.out.rows 0 rfl).rd (by rw [Hn1.out, (dat_xs HDe1.out).1]))).mono ?_
  rintro e w14 ⟨rfl, hb⟩
  have I14 := Lib.hid (I13.out.step hb)
  clear hb
  clear u_a0_13 v_a0_13 x_a0_13 y_a0_13 z_a0_13 u_b0_13 v_b0_13 x_b0_13 y_b0_13 z_b0_13 u_rs_13 v_rs_13 x_rs_13 y_rs_13 z_rs_13 u_rg_13 v_rg_13 x_rg_13 y_rg_13 z_rg_13
  obtain ⟨u_a0_14, v_a0_14, x_a0_14, y_a0_14, z_a0_14⟩ := blk2cells (I14.out.box 12 rfl)
  obtain ⟨u_b0_14, v_b0_14, x_b0_14, y_b0_14, z_b0_14⟩ := blk2cells (I14.out.box 6 rfl)
  obtain ⟨u_rs_14, v_rs_14, x_rs_14, y_rs_14, z_rs_14⟩ := blk2cells (I14.out.box 8 rfl)
  obtain ⟨u_rg_14, v_rg_14, x_rg_14, y_rg_14, z_rg_14⟩ := blk2cells (I14.out.box 2 rfl)
  go_wp2_with fail
  have HKB0 := Lib.hid (show (0 : Int) ≤ 1 ∧ (1 : Int) ≤ 1 from ⟨by decide, by decide⟩)
  have hxl0 : xs0.length ≤ 1048576 := by rw [← Hn0.out]; exact hnb0
  have hqx0 : tot Mx0 = tot L0 := tot_dat HDx0.out
  have htx0 : tot Mx0 ≤ 1048576 := by rw [hqx0]; exact hk0
  clear hqx0
  have hBx0 := (I14.out.mod 7 rfl).deg.lt gx0 rfl
  refine (markModule_any _ _ _ _ xs0 Mx0 (1) _ (Nat.le_trans hBx0.1 (Nat.le_of_lt hBx0.2)) (I14.out.mod 7 rfl) (I14.out.modUp 7 rfl) (Nat.le_trans hxl0 (by decide)) (by rw [(dat_xs HDx0.out).1, ← Hm0.out]; exact Nat.le_trans hmb0 (by decide)) (Nat.le_trans htx0 (by decide)) HKB0.out.1 (Int.le_trans HKB0.out.2 (by decide))).mono ?_
  clear hBx0
  rintro e w15 ⟨rfl, ho, hk⟩
  have I15 := Lib.hid (I14.out.markMod 7 rfl hk ho)
  clear ho hk
  have HKB1 : Hid (0 ≤ (1 + xs0.length + tot Mx0 : Int) ∧ (1 + xs0.length + tot Mx0 : Int) ≤ 2097153) := Lib.hid (kb_add2 HKB0.out hxl0 htx0)
  clear u_a0_14 v_a0_14 x_a0_14 y_a0_14 z_a0_14 u_b0_14 v_b0_14 x_b0_14 y_b0_14 z_b0_14 u_rs_14 v_rs_14 x_rs_14 y_rs_14 z_rs_14 u_rg_14 v_rg_14 x_rg_14 y_rg_14 z_rg_14
  obtain ⟨u_a0_15, v_a0_15, x_a0_15, y_a0_15, z_a0_15⟩ := blk2cells (I15.out.box 12 rfl)
  obtain ⟨u_b0_15, v_b0_15, x_b0_15, y_b0_15, z_b0_15⟩ := blk2cells (I15.out.box 6 rfl)
  obtain ⟨u_rs_15, v_rs_15, x_rs_15, y_rs_15, z_rs_15⟩ := blk2cells (I15.out.box 8 rfl)
  obtain ⟨u_rg_15, v_rg_15, x_rg_15, y_rg_15, z_rg_15⟩ := blk2cells (I15.out.box 2 rfl)
  have hnn0 : ¬ (1 + xs0.length + tot Mx0 : Int) < 0 := Int.not_lt.2 HKB1.out.1
  go_wp2_with fail
  have hxl1 : L1.length ≤ 1048576 := by rw [← Hn1.out]; exact hnb1
  have hqx1 : tot Mx1 = tot L1 := tot_dat HDx1.out
  have htx1 : tot Mx1 ≤ 1048576 := by rw [hqx1]; exact hk1
  clear hqx1
  refine (markRows_any _ _ _ Mx1 (1 + xs0.length + tot Mx0) _ (I15.out.rows 5 rfl) (by rw [(dat_xs HDx1.out).1, ← Hn1.out]; exact hnb1) htx1 HKB1.out.1 (Int.le_trans HKB1.out.2 (by decide)) (I15.out.rowsUp 5 rfl).2).mono ?_
  rintro e w16 ⟨rfl, ho, hk⟩
  have I16 := Lib.hid (I15.out.markRows 5 rfl hk ho)
  clear ho hk
  have HKB2 : Hid (0 ≤ (1 + xs0.length + tot Mx0 + tot Mx1 : Int) ∧ (1 + xs0.length + tot Mx0 + tot Mx1 : Int) ≤ 3145729) := Lib.hid (kb_add1 HKB1.out htx1)
  clear u_a0_15 v_a0_15 x_a0_15 y_a0_15 z_a0_15 u_b0_15 v_b0_15 x_b0_15 y_b0_15 z_b0_15 u_rs_15 v_rs_15 x_rs_15 y_rs_15 z_rs_15 u_rg_15 v_rg_15 x_rg_15 y_rg_15 z_rg_15
  obtain ⟨u_a0_16, v_a0_16, x_a0_16, y_a0_16, z_a0_16⟩ := blk2cells (I16.out.box 12 rfl)
  obtain ⟨u_b0_16, v_b0_16, x_b0_16, y_b0_16, z_b0_16⟩ := blk2cells (I16.out.box 6 rfl)
  obtain ⟨u_rs_16, v_rs_16, x_rs_16, y_rs_16, z_rs_16⟩ := blk2cells (I16.out.box 8 rfl)
  obtain ⟨u_rg_16, v_rg_16, x_rg_16, y_rg_16, z_rg_16⟩ := blk2cells (I16.out.box 2 rfl)
  have hnn1 : ¬ (1 + xs0.length + tot Mx0 + tot Mx1 : Int) < 0 := Int.not_lt.2 HKB2.out.1
  go_wp2_with fail
  refine (eqModQ (I16.out.mod 4 rfl) HDgm.out (I16.out.q 9 rfl) HDsm.out HLEN.out.1 HLEN.out.2.1).mono ?_
  rintro e w17 ⟨rfl, hb⟩
  have I17 := Lib.hid (I16.out.step hb)
  clear hb
  clear u_a0_16 v_a0_16 x_a0_16 y_a0_16 z_a0_16 u_b0_16 v_b0_16 x_b0_16 y_b0_16 z_b0_16 u_rs_16 v_rs_16 x_rs_16 y_rs_16 z_rs_16 u_rg_16 v_rg_16 x_rg_16 y_rg_16 z_rg_16
  obtain ⟨u_a0_17, v_a0_17, x_a0_17, y_a0_17, z_a0_17⟩ := blk2cells (I17.out.box 12 rfl)
  obtain ⟨u_b0_17, v_b0_17, x_b0_17, y_b0_17, z_b0_17⟩ := blk2cells (I17.out.box 6 rfl)
  obtain ⟨u_rs_17, v_rs_17, x_rs_17, y_rs_17, z_rs_17⟩ := blk2cells (I17.out.box 8 rfl)
  obtain ⟨u_rg_17, v_rg_17, x_rg_17, y_rg_17, z_rg_17⟩ := blk2cells (I17.out.box 2 rfl)
  go_wp2_with fail
  refine (eqRowsB_any _ _ _ _ _ _ _ _ _ rfl (by rw [← HDs.out, dat_length]) (by omega) (fun i hi => Nat.le_trans (HZg.out.2.2 i hi) (by omega)) (HDs.out.trans HDg.out.symm) ((I17.out.rows 3 rfl).rd rfl) ((I17.out.q 9 rfl).rows.rd (by rw [← HDs.out, dat_length]))).mono ?_
  rintro e w18 ⟨rfl, hb⟩
  have I18 := Lib.hid (I17.out.step hb)
  clear hb
  clear u_a0_17 v_a0_17 x_a0_17 y_a0_17 z_a0_17 u_b0_17 v_b0_17 x_b0_17 y_b0_17 z_b0_17 u_rs_17 v_rs_17 x_rs_17 y_rs_17 z_rs_17 u_rg_17 v_rg_17 x_rg_17 y_rg_17 z_rg_17
  obtain ⟨u_a0_18, v_a0_18, x_a0_18, y_a0_18, z_a0_18⟩ := blk2cells (I18.out.box 12 rfl)
  obtain ⟨u_b0_18, v_b0_18, x_b0_18, y_b0_18, z_b0_18⟩ := blk2cells (I18.out.box 6 rfl)
  obtain ⟨u_rs_18, v_rs_18, x_rs_18, y_rs_18, z_rs_18⟩ := blk2cells (I18.out.box 8 rfl)
  obtain ⟨u_rg_18, v_rg_18, x_rg_18, y_rg_18, z_rg_18⟩ := blk2cells (I18.out.box 2 rfl)
  go_wp2_with fail
  refine (markModule_free _ _ _ _ rr.1.1 Rg 1 _ (I18.out.mod 4 rfl) (I18.out.modUp 4 rfl) (by omega) (by omega) (by omega) (by omega) (by omega)).mono ?_
  rintro e w19 ⟨rfl, ho, hk⟩
  have I19 := Lib.hid (I18.out.markMod 4 rfl hk ho)
  clear ho hk
  have hq0 : (0 : Int) ≤ 1 + rr.1.1.length + tot Rg := by omega
  have hq1 : (1 : Int) + rr.1.1.length + tot Rg ≤ 2000000 := by omega
  have hq2 : ¬ ((1 : Int) + rr.1.1.length + tot Rg < 0) := by omega
  have hq3 : ¬ ((1 : Int) + rr.1.1.length + tot Rg + tot Mg < 0) := by omega
  clear u_a0_18 v_a0_18 x_a0_18 y_a0_18 z_a0_18 u_b0_18 v_b0_18 x_b0_18 y_b0_18 z_b0_18 u_rs_18 v_rs_18 x_rs_18 y_rs_18 z_rs_18 u_rg_18 v_rg_18 x_rg_18 y_rg_18 z_rg_18
  obtain ⟨u_a0_19, v_a0_19, x_a0_19, y_a0_19, z_a0_19⟩ := blk2cells (I19.out.box 12 rfl)
  obtain ⟨u_b0_19, v_b0_19, x_b0_19, y_b0_19, z_b0_19⟩ := blk2cells (I19.out.box 6 rfl)
  obtain ⟨u_rs_19, v_rs_19, x_rs_19, y_rs_19, z_rs_19⟩ := blk2cells (I19.out.box 8 rfl)
  obtain ⟨u_rg_19, v_rg_19, x_rg_19, y_rg_19, z_rg_19⟩ := blk2cells (I19.out.box 2 rfl)
  go_wp2_with fail
  refine (markRows_any _ _ _ Mg (1 + rr.1.1.length + tot Rg) _ (I19.out.rows 3 rfl) (by omega) (by omega) (by omega) (by omega) (I19.out.rowsUp 3 rfl).2).mono ?_
  rintro e w20 ⟨rfl, ho, hk⟩
  have I20 := Lib.hid (I19.out.markRows 3 rfl hk ho)
  clear ho hk
  clear u_a0_19 v_a0_19 x_a0_19 y_a0_19 z_a0_19 u_b0_19 v_b0_19 x_b0_19 y_b0_19 z_b0_19 u_rs_19 v_rs_19 x_rs_19 y_rs_19 z_rs_19 u_rg_19 v_rg_19 x_rg_19 y_rg_19 z_rg_19
  obtain ⟨u_a0_20, v_a0_20, x_a0_20, y_a0_20, z_a0_20⟩ := blk2cells (I20.out.box 12 rfl)
  obtain ⟨u_b0_20, v_b0_20, x_b0_20, y_b0_20, z_b0_20⟩ := blk2cells (I20.out.box 6 rfl)
  obtain ⟨u_rs_20, v_rs_20, x_rs_20, y_rs_20, z_rs_20⟩ := blk2cells (I20.out.box 8 rfl)
  obtain ⟨u_rg_20, v_rg_20, x_rg_20, y_rg_20, z_rg_20⟩ := blk2cells (I20.out.box 2 rfl)
  go_wp2_with fail
  refine (heldModP (I20.out.mod 4 rfl) HDgm.out HLEN.out.1 HLEN.out.2.1).mono ?_
  rintro e w21 ⟨rfl, hb⟩
  have I21 := Lib.hid (I20.out.step hb)
  clear hb
  clear u_a0_20 v_a0_20 x_a0_20 y_a0_20 z_a0_20 u_b0_20 v_b0_20 x_b0_20 y_b0_20 z_b0_20 u_rs_20 v_rs_20 x_rs_20 y_rs_20 z_rs_20 u_rg_20 v_rg_20 x_rg_20 y_rg_20 z_rg_20
  obtain ⟨u_a0_21, v_a0_21, x_a0_21, y_a0_21, z_a0_21⟩ := blk2cells (I21.out.box 12 rfl)
  obtain ⟨u_b0_21, v_b0_21, x_b0_21, y_b0_21, z_b0_21⟩ := blk2cells (I21.out.box 6 rfl)
  obtain ⟨u_rs_21, v_rs_21, x_rs_21, y_rs_21, z_rs_21⟩ := blk2cells (I21.out.box 8 rfl)
  obtain ⟨u_rg_21, v_rg_21, x_rg_21, y_rg_21, z_rg_21⟩ := blk2cells (I21.out.box 2 rfl)
  go_wp2_with fail
  refine (heldRows_any _ Mg.length _ Mg (1 + rr.1.1.length + tot Rg) _ rfl ((I21.out.rows 3 rfl).rd (by rw [marksR_length])) (by omega) (by omega) (by omega) (by omega)).mono ?_
  rintro e w' ⟨rfl, rfl⟩
  go_wp2_with fail
  refine (HTO0.out _ I21.out.bel).mono ?_
  rintro e w22 ⟨gh0, hh0, Mh0, rfl, hd, ho, hb⟩
  have I22 := Lib.hid (I21.out.pushMod hb ho)
  have HDh0 := Lib.hid hd
  clear hd
  clear ho hb
  clear u_a0_21 v_a0_21 x_a0_21 y_a0_21 z_a0_21 u_b0_21 v_b0_21 x_b0_21 y_b0_21 z_b0_21 u_rs_21 v_rs_21 x_rs_21 y_rs_21 z_rs_21 u_rg_21 v_rg_21 x_rg_21 y_rg_21 z_rg_21
  obtain ⟨u_a0_22, v_a0_22, x_a0_22, y_a0_22, z_a0_22⟩ := blk2cells (I22.out.box 13 rfl)
  obtain ⟨u_b0_22, v_b0_22, x_b0_22, y_b0_22, z_b0_22⟩ := blk2cells (I22.out.box 7 rfl)
  obtain ⟨u_rs_22, v_rs_22, x_rs_22, y_rs_22, z_rs_22⟩ := blk2cells (I22.out.box 9 rfl)
  obtain ⟨u_rg_22, v_rg_22, x_rg_22, y_rg_22, z_rg_22⟩ := blk2cells (I22.out.box 3 rfl)
  go_wp2_with fail
  refine (HTO1.out _ I22.out.bel).mono ?_
  rintro e w23 ⟨gh1, Mh1, rfl, hd, ho, hb⟩
  have I23 := Lib.hid (I22.out.pushRows hb ho)
  have HDh1 := Lib.hid hd
  clear hd
  clear ho hb
  clear u_a0_22 v_a0_22 x_a0_22 y_a0_22 z_a0_22 u_b0_22 v_b0_22 x_b0_22 y_b0_22 z_b0_22 u_rs_22 v_rs_22 x_rs_22 y_rs_22 z_rs_22 u_rg_22 v_rg_22 x_rg_22 y_rg_22 z_rg_22
  obtain ⟨u_a0_23, v_a0_23, x_a0_23, y_a0_23, z_a0_23⟩ := blk2cells (I23.out.box 14 rfl)
  obtain ⟨u_b0_23, v_b0_23, x_b0_23, y_b0_23, z_b0_23⟩ := blk2cells (I23.out.box 8 rfl)
  obtain ⟨u_rs_23, v_rs_23, x_rs_23, y_rs_23, z_rs_23⟩ := blk2cells (I23.out.box 10 rfl)
  obtain ⟨u_rg_23, v_rg_23, x_rg_23, y_rg_23, z_rg_23⟩ := blk2cells (I23.out.box 4 rfl)
  go_wp2_with fail
  refine (HIM.out _ (HT.out.below I23.out.bel hw) (by have := I23.out.size; omega) _ (owns_Rd (by have h := (I23.out.mod 1 rfl).deg; rw [← Hn0.out] at h; exact h)) _ _ HDh0.out ((I23.out.mod 1 rfl).act.rd (by rw [Hm0.out, (dat_xs HDh0.out).1])) _ _ HDh1.out ((I23.out.rows 0 rfl).rd (by rw [Hn1.out, (dat_xs HDh1.out).1]))).mono ?_
  rintro e w24 ⟨vh, uh, Mh, Hh, hH, rfl, hmo, hd3, ho3, hb⟩
  obtain ⟨Ah, kh, Bh, lh, Rh, Ch, qh, hh, rfl, rfl, hdR, _, hI2⟩ := I23.out.pushMR hH hmo ho3 hb
  have I24 := Lib.hid hI2
  have HDh := Lib.hid hd3
  have HDhm := Lib.hid hdR
  clear hI2 hd3 hdR hmo ho3 hb hH
  have HZh := Lib.hid (rows_small HDh.out HLEN.out.2.2)
  have HZhm := Lib.hid (rows_small2 HDhm.out HLEN.out.2.1)
  have z1h := HZh.out.1
  have z2h := HZh.out.2.1
  have z1hm := HZhm.out.1
  have z2hm := HZhm.out.2.1
  clear u_a0_23 v_a0_23 x_a0_23 y_a0_23 z_a0_23 u_b0_23 v_b0_23 x_b0_23 y_b0_23 z_b0_23 u_rs_23 v_rs_23 x_rs_23 y_rs_23 z_rs_23 u_rg_23 v_rg_23 x_rg_23 y_rg_23 z_rg_23
  obtain ⟨u_a0_24, v_a0_24, x_a0_24, y_a0_24, z_a0_24⟩ := blk2cells (I24.out.box 16 rfl)
  obtain ⟨u_b0_24, v_b0_24, x_b0_24, y_b0_24, z_b0_24⟩ := blk2cells (I24.out.box 10 rfl)
  obtain ⟨u_rs_24, v_rs_24, x_rs_24, y_rs_24, z_rs_24⟩ := blk2cells (I24.out.box 12 rfl)
  obtain ⟨u_rg_24, v_rg_24, x_rg_24, y_rg_24, z_rg_24⟩ := blk2cells (I24.out.box 6 rfl)
  go_wp2_with fail
  have hI := I24.out.allocBox #[.slice Ah rr.1.1.length kh, .slice Bh rr.1.2.length lh] 29
  refine (eqModQ (hI.mod 2 rfl) HDhm.out (hI.q 14 rfl) HDsm.out HLEN.out.1 HLEN.out.2.1).mono ?_
  rintro e w25 ⟨rfl, hb⟩
  have I25 := Lib.hid (hI.step hb)
  clear hb
  clear hI
  clear u_a0_24 v_a0_24 x_a0_24 y_a0_24 z_a0_24 u_b0_24 v_b0_24 x_b0_24 y_b0_24 z_b0_24 u_rs_24 v_rs_24 x_rs_24 y_rs_24 z_rs_24 u_rg_24 v_rg_24 x_rg_24 y_rg_24 z_rg_24
  obtain ⟨u_a0_25, v_a0_25, x_a0_25, y_a0_25, z_a0_25⟩ := blk2cells (I25.out.box 17 rfl)
  obtain ⟨u_b0_25, v_b0_25, x_b0_25, y_b0_25, z_b0_25⟩ := blk2cells (I25.out.box 11 rfl)
  obtain ⟨u_rs_25, v_rs_25, x_rs_25, y_rs_25, z_rs_25⟩ := blk2cells (I25.out.box 13 rfl)
  obtain ⟨u_rg_25, v_rg_25, x_rg_25, y_rg_25, z_rg_25⟩ := blk2cells (I25.out.box 7 rfl)
  obtain ⟨u_rh_25, v_rh_25, x_rh_25, y_rh_25, z_rh_25⟩ := blk2cells (I25.out.box 0 rfl)
  go_wp2_with fail
  refine (eqRowsB_any _ _ _ _ _ _ _ _ _ rfl (by rw [← HDs.out, dat_length]) (by omega) (fun i hi => Nat.le_trans (HZh.out.2.2 i hi) (by omega)) (HDs.out.trans HDh.out.symm) ((I25.out.rows 1 rfl).rd rfl) ((I25.out.q 14 rfl).rows.rd (by rw [← HDs.out, dat_length]))).mono ?_
  rintro e w26 ⟨rfl, hb⟩
  have I26 := Lib.hid (I25.out.step hb)
  clear hb
  clear u_a0_25 v_a0_25 x_a0_25 y_a0_25 z_a0_25 u_b0_25 v_b0_25 x_b0_25 y_b0_25 z_b0_25 u_rs_25 v_rs_25 x_rs_25 y_rs_25 z_rs_25 u_rg_25 v_rg_25 x_rg_25 y_rg_25 z_rg_25 u_rh_25 v_rh_25 x_rh_25 y_rh_25 z_rh_25
  obtain ⟨u_a0_26, v_a0_26, x_a0_26, y_a0_26, z_a0_26⟩ := blk2cells (I26.out.box 17 rfl)
  obtain ⟨u_b0_26, v_b0_26, x_b0_26, y_b0_26, z_b0_26⟩ := blk2cells (I26.out.box 11 rfl)
  obtain ⟨u_rs_26, v_rs_26, x_rs_26, y_rs_26, z_rs_26⟩ := blk2cells (I26.out.box 13 rfl)
  obtain ⟨u_rg_26, v_rg_26, x_rg_26, y_rg_26, z_rg_26⟩ := blk2cells (I26.out.box 7 rfl)
  obtain ⟨u_rh_26, v_rh_26, x_rh_26, y_rh_26, z_rh_26⟩ := blk2cells (I26.out.box 0 rfl)
  go_wp2_with fail
  refine (heldModP (I26.out.mod 9 rfl) HDgm.out HLEN.out.1 HLEN.out.2.1).mono ?_
  rintro e w27 ⟨rfl, hb⟩
  have I27 := Lib.hid (I26.out.step hb)
  clear hb
  clear u_a0_26 v_a0_26 x_a0_26 y_a0_26 z_a0_26 u_b0_26 v_b0_26 x_b0_26 y_b0_26 z_b0_26 u_rs_26 v_rs_26 x_rs_26 y_rs_26 z_rs_26 u_rg_26 v_rg_26 x_rg_26 y_rg_26 z_rg_26 u_rh_26 v_rh_26 x_rh_26 y_rh_26 z_rh_26
  obtain ⟨u_a0_27, v_a0_27, x_a0_27, y_a0_27, z_a0_27⟩ := blk2cells (I27.out.box 17 rfl)
  obtain ⟨u_b0_27, v_b0_27, x_b0_27, y_b0_27, z_b0_27⟩ := blk2cells (I27.out.box 11 rfl)
  obtain ⟨u_rs_27, v_rs_27, x_rs_27, y_rs_27, z_rs_27⟩ := blk2cells (I27.out.box 13 rfl)
  obtain ⟨u_rg_27, v_rg_27, x_rg_27, y_rg_27, z_rg_27⟩ := blk2cells (I27.out.box 7 rfl)
  obtain ⟨u_rh_27, v_rh_27, x_rh_27, y_rh_27, z_rh_27⟩ := blk2cells (I27.out.box 0 rfl)
  go_wp2_with fail
  refine (heldRows_any _ Mg.length _ Mg (1 + rr.1.1.length + tot Rg) _ rfl ((I27.out.rows 8 rfl).rd (by rw [marksR_length])) (by omega) (by omega) (by omega) (by omega)).mono ?_
  rintro e w' ⟨rfl, rfl⟩
  go_wp2_with fail
  go_ret
  exact ⟨rfl, I27.out.bel⟩
end Go.Proofs.YtpchigdhnnkpcaaGreatDoor
