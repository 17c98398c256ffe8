/- FnExactCokernelOfMap: the walk of the law (printed by mkl2.py) -/
import Derived.Test.YtpchigdhnnkpcaaGreatDoorBxab
import Derived.Test.YtpchigdhnnkpcaaGreatDoorBxat
import Derived.Test.YtpchigdhnnkpcaaGreatDoorBxbd
import Derived.Deep.RegionHeld3
set_option linter.all false
namespace Go.Proofs.YtpchigdhnnkpcaaGreatDoor
open Go.RowKit

set_option maxRecDepth 100000 in
set_option maxHeartbeats 8000000 in
theorem lawCokernelOfMap_any (A0 : Option Addr) (n0 c0 : Nat) (xs0 : List Int) (B0 : Option Addr) (m0 d0 : Nat) (L0 : List Row) (A1 : Option Addr) (n1 c1 : Nat) (xs1 : List Int) (B1 : Option Addr) (m1 d1 : Nat) (L1 : List Row) (A2 : Option Addr) (n2 c2 : Nat) (L2 : List Row) (w : World) (hT : Tab w) (hw : 0 < w.heap.size) (hn0 : n0 = xs0.length) (hs0 : n0 ≤ 9223372036854775807) (hR0 : Rd w A0 (iv xs0)) (hm0 : m0 = L0.length) (ht0 : m0 ≤ 9223372036854775807) (hl0 : ∀ i, i < L0.length → (rg L0 i).xs.length ≤ 9223372036854775807) (hQ0 : RdR w B0 L0) (hn1 : n1 = xs1.length) (hs1 : n1 ≤ 9223372036854775807) (hR1 : Rd w A1 (iv xs1)) (hm1 : m1 = L1.length) (ht1 : m1 ≤ 9223372036854775807) (hl1 : ∀ i, i < L1.length → (rg L1 i).xs.length ≤ 9223372036854775807) (hQ1 : RdR w B1 L1) (hn2 : n2 = L2.length) (hs2 : n2 ≤ 9223372036854775807) (hl2 : ∀ i, i < L2.length → (rg L2 i).xs.length ≤ 9223372036854775807) (hR2 : RdR w A2 L2) :
    Calls Tryz.prog 7 #[.agg #[.slice A0 n0 c0, .slice B0 m0 d0], .agg #[.slice A1 n1 c1, .slice B1 m1 d1], .slice A2 n2 c2] w fun e w' => e = .returned (.bool true) ∧ Below w.heap.size w w' := by
  have hI := ((Inw.start w).allocBox #[.slice A0 n0 c0, .slice B0 m0 d0] 25).allocBox #[.slice A1 n1 c1, .slice B1 m1 d1] 25
  simp only [World.size_alloc] at hI
  have I0 := Lib.hid hI
  clear hI
  have HT := Lib.hid hT
  clear hT
  have Hn0 := Lib.hid hn0
  have HR0 := Lib.hid hR0
  have Hm0 := Lib.hid hm0
  have HL0 := Lib.hid hl0
  have HQ0 := Lib.hid hQ0
  clear hn0 hR0 hm0 hl0 hQ0
  have Hn1 := Lib.hid hn1
  have HR1 := Lib.hid hR1
  have Hm1 := Lib.hid hm1
  have HL1 := Lib.hid hl1
  have HQ1 := Lib.hid hQ1
  clear hn1 hR1 hm1 hl1 hQ1
  have Hn2 := Lib.hid hn2
  have HR2 := Lib.hid hR2
  have HL2 := Lib.hid hl2
  clear hn2 hR2 hl2
  go_enter Tryz.func7, Tryz.ntmps7
  go_wp2_with fail
  refine (szModule_any A0 B0 n0 c0 m0 d0 L0 (1048576) _ hs0 Hm0.out ht0 HL0.out (by omega) (by omega) (HQ0.out.below I0.out.bel)).mono ?_
  rintro e w1 ⟨z0, rfl, hz, hb⟩
  have I1 := Lib.hid (I0.out.step hb)
  clear hb
  obtain ⟨u_a0_1, v_a0_1, x_a0_1, y_a0_1, z_a0_1⟩ := blk2cells (I1.out.box 1 rfl)
  obtain ⟨u_a1_1, v_a1_1, x_a1_1, y_a1_1, z_a1_1⟩ := blk2cells (I1.out.box 0 rfl)
  rcases hz with rfl | ⟨hz0, hy0⟩
  · go_wp2_with fail
    go_ret
    exact ⟨rfl, I1.out.bel⟩
  have hi0 : ¬ z0 < 0 := by omega
  have hk0 : tot L0 ≤ 1048576 := by omega
  have HLL0 := Lib.hid (fun i (hi : i < L0.length) => Nat.le_trans (len_le_tot hi) hk0)
  go_wp2_with fail
  refine (szModule_any A1 B1 n1 c1 m1 d1 L1 (z0) _ hs1 Hm1.out ht1 HL1.out (by omega) (by omega) (HQ1.out.below I1.out.bel)).mono ?_
  rintro e w2 ⟨z1, rfl, hz, hb⟩
  have I2 := Lib.hid (I1.out.step hb)
  clear hb
  clear u_a0_1 v_a0_1 x_a0_1 y_a0_1 z_a0_1 u_a1_1 v_a1_1 x_a1_1 y_a1_1 z_a1_1
  obtain ⟨u_a0_2, v_a0_2, x_a0_2, y_a0_2, z_a0_2⟩ := blk2cells (I2.out.box 1 rfl)
  obtain ⟨u_a1_2, v_a1_2, x_a1_2, y_a1_2, z_a1_2⟩ := blk2cells (I2.out.box 0 rfl)
  rcases hz with rfl | ⟨hz1, hy1⟩
  · go_wp2_with fail
    go_ret
    exact ⟨rfl, I2.out.bel⟩
  have hi1 : ¬ z1 < 0 := by omega
  have hk1 : tot L1 ≤ 1048576 := by omega
  have HLL1 := Lib.hid (fun i (hi : i < L1.length) => Nat.le_trans (len_le_tot hi) hk1)
  go_wp2_with fail
  refine (szRows_any A2 n2 c2 L2 (z1) _ Hn2.out hs2 HL2.out (by omega) (by omega) (HR2.out.below I2.out.bel)).mono ?_
  rintro e w3 ⟨z2, rfl, hz, rfl⟩
  rcases hz with rfl | ⟨hz2, hy2⟩
  · go_wp2_with fail
    go_ret
    exact ⟨rfl, I2.out.bel⟩
  have hi2 : ¬ z2 < 0 := by omega
  have hk2 : tot L2 ≤ 1048576 := by omega
  have HLL2 := Lib.hid (fun i (hi : i < L2.length) => Nat.le_trans (len_le_tot hi) hk2)
  have HTO0 := Lib.hid (fun W (hb : Below w.heap.size w W) => toModule_any A0 B0 n0 c0 m0 d0 xs0 L0 W Hn0.out (by omega) (HR0.out.below hb) Hm0.out (by omega) HLL0.out (HQ0.out.below hb))
  have HTO1 := Lib.hid (fun W (hb : Below w.heap.size w W) => toModule_any A1 B1 n1 c1 m1 d1 xs1 L1 W Hn1.out (by omega) (HR1.out.below hb) Hm1.out (by omega) HLL1.out (HQ1.out.below hb))
  have HTO2 := Lib.hid (fun W (hb : Below w.heap.size w W) => toRows_any A2 n2 c2 L2 W Hn2.out (by omega) HLL2.out (HR2.out.below hb))
  obtain ⟨rr, hrr⟩ : ∃ rr, cokernelOfMapOf xs0 L0 xs1 L1 L2 = rr := ⟨_, rfl⟩
  have hlen := cokernelOfMapOf_len xs0 L0 xs1 L1 L2
  rw [hrr] at hlen
  have HLEN : Hid (PLen rr) := Lib.hid hlen
  have hl1 := HLEN.out.1
  have HDD := Lib.hid (fun (M0 : List Row) (e0 : dat M0 = dat L0) (M1 : List Row) (e1 : dat M1 = dat L1) (M2 : List Row) (e2 : dat M2 = dat L2) => (cokernelOfMapOf_dat e0 e1 e2).trans hrr)
  clear hrr
  have hnb0 : n0 ≤ 1048576 := by omega
  have hmb0 : m0 ≤ 1048576 := by omega
  have hnb1 : n1 ≤ 1048576 := by omega
  have hmb1 : m1 ≤ 1048576 := by omega
  have hnb2 : n2 ≤ 1048576 := by omega
  have HSP := Lib.hid (fun (W : World) (C0 : Option Addr) (r0 : Rd W C0 (iv xs0)) (E0 : Option Addr) (M0 : List Row) (e0 : dat M0 = dat L0) (q0 : RdR W E0 M0) (C1 : Option Addr) (r1 : Rd W C1 (iv xs1)) (E1 : Option Addr) (M1 : List Row) (e1 : dat M1 = dat L1) (q1 : RdR W E1 M1) (C2 : Option Addr) (M2 : List Row) (e2 : dat M2 = dat L2) (r2 : RdR W C2 M2) => show Calls Tryz.prog 31 #[.agg #[.slice C0 n0 n0, .slice E0 m0 m0], .agg #[.slice C1 n1 n1, .slice E1 m1 m1], .slice C2 n2 n2] W (ResRd rr W) from by
    have h : Calls Tryz.prog 31 #[.agg #[.slice C0 n0 n0, .slice E0 m0 m0], .agg #[.slice C1 n1 n1, .slice E1 m1 m1], .slice C2 n2 n2] W (ResRd (cokernelOfMapOf xs0 M0 xs1 M1 M2) W) := specCokernelOfMap_any C0 n0 n0 xs0 E0 m0 m0 M0 C1 n1 n1 xs1 E1 m1 m1 M1 C2 n2 n2 M2 W Hn0.out (by omega) r0 (by rw [Hm0.out, (dat_xs e0).1]) (by omega) (by intro i hi; rw [(dat_xs e0).2 i]; exact HLL0.out i (by rw [← (dat_xs e0).1]; exact hi)) q0 Hn1.out (by omega) r1 (by rw [Hm1.out, (dat_xs e1).1]) (by omega) (by intro i hi; rw [(dat_xs e1).2 i]; exact HLL1.out i (by rw [← (dat_xs e1).1]; exact hi)) q1 (by rw [Hn2.out, (dat_xs e2).1]) (by omega) (by intro i hi; rw [(dat_xs e2).2 i]; exact HLL2.out i (by rw [← (dat_xs e2).1]; exact hi)) r2
    rw [HDD.out M0 e0 M1 e1 M2 e2] at h
    exact h)
  have HIM := Lib.hid (fun (W : World) (tb : Tab W) (tw : 0 < W.heap.size) (C0 : Option Addr) (r0 : Rd W C0 (iv xs0)) (E0 : Option Addr) (M0 : List Row) (e0 : dat M0 = dat L0) (q0 : RdR W E0 M0) (C1 : Option Addr) (r1 : Rd W C1 (iv xs1)) (E1 : Option Addr) (M1 : List Row) (e1 : dat M1 = dat L1) (q1 : RdR W E1 M1) (C2 : Option Addr) (M2 : List Row) (e2 : dat M2 = dat L2) (r2 : RdR W C2 M2) => show Calls Tryz.prog 32 #[.agg #[.slice C0 n0 n0, .slice E0 m0 m0], .agg #[.slice C1 n1 n1, .slice E1 m1 m1], .slice C2 n2 n2] W (ResMR rr W) from by
    have h : Calls Tryz.prog 32 #[.agg #[.slice C0 n0 n0, .slice E0 m0 m0], .agg #[.slice C1 n1 n1, .slice E1 m1 m1], .slice C2 n2 n2] W (ResMR (cokernelOfMapOf xs0 M0 xs1 M1 M2) W) := implCokernelOfMap_any C0 n0 n0 xs0 E0 m0 m0 M0 C1 n1 n1 xs1 E1 m1 m1 M1 C2 n2 n2 M2 W tb tw Hn0.out (by omega) r0 (by rw [Hm0.out, (dat_xs e0).1]) (by omega) (by intro i hi; rw [(dat_xs e0).2 i]; exact HLL0.out i (by rw [← (dat_xs e0).1]; exact hi)) q0 Hn1.out (by omega) r1 (by rw [Hm1.out, (dat_xs e1).1]) (by omega) (by intro i hi; rw [(dat_xs e1).2 i]; exact HLL1.out i (by rw [← (dat_xs e1).1]; exact hi)) q1 (by rw [Hn2.out, (dat_xs e2).1]) (by omega) (by intro i hi; rw [(dat_xs e2).2 i]; exact HLL2.out i (by rw [← (dat_xs e2).1]; exact hi)) r2
    rw [HDD.out M0 e0 M1 e1 M2 e2] at h
    exact h)
  go_wp2_with fail
  clear hz0 hy0 hi0 hs0 ht0 hz1 hy1 hi1 hs1 ht1 hz2 hy2 hi2 hs2
  go_cut [8, 9, 10] (fun o8 o9 o10 wx => QOut w2 wx rr.1.1 rr.1.2 rr.2.1 o8 o9 ∧ o10 = .int .i64 rr.2.2)
  case first =>
    have KS := Lib.hid (fun w' (hb : Below w2.heap.size w2 w') => show w'.cell? ⟨w.heap.size, 0, none⟩ = some (.slice A0 n0 c0) ∧ w'.cell? ⟨w.heap.size, 1, none⟩ = some (.slice B0 m0 d0) ∧ w'.cell? ⟨w.heap.size + 1, 0, none⟩ = some (.slice A1 n1 c1) ∧ w'.cell? ⟨w.heap.size + 1, 1, none⟩ = some (.slice B1 m1 d1) from by
      have J := I2.out.step hb
      exact ⟨(blk2cells (J.box 1 rfl)).1, (blk2cells (J.box 1 rfl)).2.1, (blk2cells (J.box 0 rfl)).1, (blk2cells (J.box 0 rfl)).2.1⟩)
    have HTW0 := Lib.hid (fun (W' : World) (hb : Below w2.heap.size w2 W') => HTO0.out W' (I2.out.step hb).bel)
    have HTW1 := Lib.hid (fun (W' : World) (hb : Below w2.heap.size w2 W') => HTO1.out W' (I2.out.step hb).bel)
    have HTW2 := Lib.hid (fun (W' : World) (hb : Below w2.heap.size w2 W') => HTO2.out W' (I2.out.step hb).bel)
    have HJ0 := Lib.hid (Inw.start w2).drew
    have HJz := Lib.hid ((Inw.start w2).allocBox #[.slice none 0 0, .slice none 0 0] 29).drew
    go_region_held3 (fun w' => w'.cell? ⟨w.heap.size, 0, none⟩ = some (.slice A0 n0 c0) ∧ w'.cell? ⟨w.heap.size, 1, none⟩ = some (.slice B0 m0 d0) ∧ w'.cell? ⟨w.heap.size + 1, 0, none⟩ = some (.slice A1 n1 c1) ∧ w'.cell? ⟨w.heap.size + 1, 1, none⟩ = some (.slice B1 m1 d1))
        (first | exact KS.out _ HJ0.out.bel | exact KS.out _ HJz.out.bel | exact KS.out _ HJ1.out.bel | exact KS.out _ HJ2.out.bel | exact KS.out _ HJ3.out.bel | exact KS.out _ HJ4.out.bel | exact KS.out _ (HJ1.out.bel.alloc HJ1.out.bel.size _) | exact KS.out _ (HJ2.out.bel.alloc HJ2.out.bel.size _) | exact KS.out _ (HJ3.out.bel.alloc HJ3.out.bel.size _) | exact KS.out _ (HJ4.out.bel.alloc HJ4.out.bel.size _) | exact KS.out _ ((HJ4.out.bel.setCell hzg _).setCell hzg _))
        (first
          | (go_at_call 12; (first | (with_reducible refine (HTW0.out _ HJ0.out.bel).mono ?_) | (with_reducible refine (HTW0.out _ HJz.out.bel).mono ?_)); (rintro e x1 ⟨gs0, hs0, Ms0, rfl, hd, ho, hb⟩; (first | have HJ1 := Lib.hid (HJ0.out.pushMod hb ho) | have HJ1 := Lib.hid (HJz.out.pushMod hb ho)); have HDs0 := Lib.hid hd; clear hd; clear ho hb))
          | (go_at_call 12; (first | (with_reducible refine (HTW1.out _ HJ1.out.bel).mono ?_) | (with_reducible refine (HTW1.out _ (HJ1.out.allocBox #[.slice none 0 0, .slice none 0 0] 29).bel).mono ?_)); (rintro e x2 ⟨gs1, hs1, Ms1, rfl, hd, ho, hb⟩; (first | have HJ2 := Lib.hid (HJ1.out.pushMod hb ho) | have HJ2 := Lib.hid ((HJ1.out.allocBox #[.slice none 0 0, .slice none 0 0] 29).pushMod hb ho)); have HDs1 := Lib.hid hd; clear hd; clear ho hb))
          | (go_at_call 26; (first | (with_reducible refine (HTW2.out _ HJ2.out.bel).mono ?_) | (with_reducible refine (HTW2.out _ (HJ2.out.allocBox #[.slice none 0 0, .slice none 0 0] 29).bel).mono ?_)); (rintro e x3 ⟨gs2, Ms2, rfl, hd, ho, hb⟩; (first | have HJ3 := Lib.hid (HJ2.out.pushRows hb ho) | have HJ3 := Lib.hid ((HJ2.out.allocBox #[.slice none 0 0, .slice none 0 0] 29).pushRows hb ho)); have HDs2 := Lib.hid hd; clear hd; clear ho hb))
          | (go_at_call 31; (first | (with_reducible refine (HSP.out _ _ (by first | (have h := (HJ3.out.mod 0 rfl).deg; rw [← Hn0.out] at h; exact owns_Rd h) | (have h := (HJ3.out.mod 1 rfl).deg; rw [← Hn0.out] at h; exact owns_Rd h) | (have h := (HJ3.out.mod 2 rfl).deg; rw [← Hn0.out] at h; exact owns_Rd h) | (have h := (HJ3.out.mod 3 rfl).deg; rw [← Hn0.out] at h; exact owns_Rd h)) _ _ HDs0.out (by first | exact (HJ3.out.mod 0 rfl).act.rd (by rw [Hm0.out, (dat_xs HDs0.out).1]) | exact (HJ3.out.mod 1 rfl).act.rd (by rw [Hm0.out, (dat_xs HDs0.out).1]) | exact (HJ3.out.mod 2 rfl).act.rd (by rw [Hm0.out, (dat_xs HDs0.out).1]) | exact (HJ3.out.mod 3 rfl).act.rd (by rw [Hm0.out, (dat_xs HDs0.out).1])) _ (by first | (have h := (HJ3.out.mod 0 rfl).deg; rw [← Hn1.out] at h; exact owns_Rd h) | (have h := (HJ3.out.mod 1 rfl).deg; rw [← Hn1.out] at h; exact owns_Rd h) | (have h := (HJ3.out.mod 2 rfl).deg; rw [← Hn1.out] at h; exact owns_Rd h) | (have h := (HJ3.out.mod 3 rfl).deg; rw [← Hn1.out] at h; exact owns_Rd h)) _ _ HDs1.out (by first | exact (HJ3.out.mod 0 rfl).act.rd (by rw [Hm1.out, (dat_xs HDs1.out).1]) | exact (HJ3.out.mod 1 rfl).act.rd (by rw [Hm1.out, (dat_xs HDs1.out).1]) | exact (HJ3.out.mod 2 rfl).act.rd (by rw [Hm1.out, (dat_xs HDs1.out).1]) | exact (HJ3.out.mod 3 rfl).act.rd (by rw [Hm1.out, (dat_xs HDs1.out).1])) _ _ HDs2.out (by first | exact (HJ3.out.rows 0 rfl).rd (by rw [Hn2.out, (dat_xs HDs2.out).1]) | exact (HJ3.out.rows 1 rfl).rd (by rw [Hn2.out, (dat_xs HDs2.out).1]) | exact (HJ3.out.rows 2 rfl).rd (by rw [Hn2.out, (dat_xs HDs2.out).1]) | exact (HJ3.out.rows 3 rfl).rd (by rw [Hn2.out, (dat_xs HDs2.out).1]))).mono ?_) | (with_reducible refine (HSP.out _ _ (by first | (have h := ((HJ3.out.allocBox #[.slice none 0 0, .slice none 0 0] 29).mod 0 rfl).deg; rw [← Hn0.out] at h; exact owns_Rd h) | (have h := ((HJ3.out.allocBox #[.slice none 0 0, .slice none 0 0] 29).mod 1 rfl).deg; rw [← Hn0.out] at h; exact owns_Rd h) | (have h := ((HJ3.out.allocBox #[.slice none 0 0, .slice none 0 0] 29).mod 2 rfl).deg; rw [← Hn0.out] at h; exact owns_Rd h) | (have h := ((HJ3.out.allocBox #[.slice none 0 0, .slice none 0 0] 29).mod 3 rfl).deg; rw [← Hn0.out] at h; exact owns_Rd h)) _ _ HDs0.out (by first | exact ((HJ3.out.allocBox #[.slice none 0 0, .slice none 0 0] 29).mod 0 rfl).act.rd (by rw [Hm0.out, (dat_xs HDs0.out).1]) | exact ((HJ3.out.allocBox #[.slice none 0 0, .slice none 0 0] 29).mod 1 rfl).act.rd (by rw [Hm0.out, (dat_xs HDs0.out).1]) | exact ((HJ3.out.allocBox #[.slice none 0 0, .slice none 0 0] 29).mod 2 rfl).act.rd (by rw [Hm0.out, (dat_xs HDs0.out).1]) | exact ((HJ3.out.allocBox #[.slice none 0 0, .slice none 0 0] 29).mod 3 rfl).act.rd (by rw [Hm0.out, (dat_xs HDs0.out).1])) _ (by first | (have h := ((HJ3.out.allocBox #[.slice none 0 0, .slice none 0 0] 29).mod 0 rfl).deg; rw [← Hn1.out] at h; exact owns_Rd h) | (have h := ((HJ3.out.allocBox #[.slice none 0 0, .slice none 0 0] 29).mod 1 rfl).deg; rw [← Hn1.out] at h; exact owns_Rd h) | (have h := ((HJ3.out.allocBox #[.slice none 0 0, .slice none 0 0] 29).mod 2 rfl).deg; rw [← Hn1.out] at h; exact owns_Rd h) | (have h := ((HJ3.out.allocBox #[.slice none 0 0, .slice none 0 0] 29).mod 3 rfl).deg; rw [← Hn1.out] at h; exact owns_Rd h)) _ _ HDs1.out (by first | exact ((HJ3.out.allocBox #[.slice none 0 0, .slice none 0 0] 29).mod 0 rfl).act.rd (by rw [Hm1.out, (dat_xs HDs1.out).1]) | exact ((HJ3.out.allocBox #[.slice none 0 0, .slice none 0 0] 29).mod 1 rfl).act.rd (by rw [Hm1.out, (dat_xs HDs1.out).1]) | exact ((HJ3.out.allocBox #[.slice none 0 0, .slice none 0 0] 29).mod 2 rfl).act.rd (by rw [Hm1.out, (dat_xs HDs1.out).1]) | exact ((HJ3.out.allocBox #[.slice none 0 0, .slice none 0 0] 29).mod 3 rfl).act.rd (by rw [Hm1.out, (dat_xs HDs1.out).1])) _ _ HDs2.out (by first | exact ((HJ3.out.allocBox #[.slice none 0 0, .slice none 0 0] 29).rows 0 rfl).rd (by rw [Hn2.out, (dat_xs HDs2.out).1]) | exact ((HJ3.out.allocBox #[.slice none 0 0, .slice none 0 0] 29).rows 1 rfl).rd (by rw [Hn2.out, (dat_xs HDs2.out).1]) | exact ((HJ3.out.allocBox #[.slice none 0 0, .slice none 0 0] 29).rows 2 rfl).rd (by rw [Hn2.out, (dat_xs HDs2.out).1]) | exact ((HJ3.out.allocBox #[.slice none 0 0, .slice none 0 0] 29).rows 3 rfl).rd (by rw [Hn2.out, (dat_xs HDs2.out).1]))).mono ?_)); (rintro e x4 ⟨As, ks, Bs, ls, Rs, Cs, qs, Ms, rfl, hdR, hd3, ho, hb⟩; (first | have HJ4 := Lib.hid (HJ3.out.pushQ hb ho) | have HJ4 := Lib.hid ((HJ3.out.allocBox #[.slice none 0 0, .slice none 0 0] 29).pushQ hb ho)); have HDs := Lib.hid hd3; have HDsm := Lib.hid hdR; clear hd3 hdR ho hb; (try (have hbx := HJ4.out.box 1 rfl; have hzg : w2.heap.size ≤ _ := HJ4.out.lo 1 rfl; have hcc := blk2cells hbx; obtain ⟨zz0, zz1, zz2, zz3, zz4⟩ := hcc; clear hbx)); (try (have hbx := HJ4.out.box 2 rfl; have hzg : w2.heap.size ≤ _ := HJ4.out.lo 2 rfl; have hcc := blk2cells hbx; obtain ⟨zz0, zz1, zz2, zz3, zz4⟩ := hcc; clear hbx)); (try (have hbx := HJ4.out.box 3 rfl; have hzg : w2.heap.size ≤ _ := HJ4.out.lo 3 rfl; have hcc := blk2cells hbx; obtain ⟨zz0, zz1, zz2, zz3, zz4⟩ := hcc; clear hbx)); (try (have hbx := HJ4.out.box 4 rfl; have hzg : w2.heap.size ≤ _ := HJ4.out.lo 4 rfl; have hcc := blk2cells hbx; obtain ⟨zz0, zz1, zz2, zz3, zz4⟩ := hcc; clear hbx)))))
    all_goals go_wp2_with fail
    all_goals go_meet
    all_goals (first | exact ⟨QOut.alloc HJ4.out HDsm.out HDs.out, rfl⟩ | exact ⟨QOut.set HJ4.out 0 rfl HDsm.out HDs.out, rfl⟩ | exact ⟨QOut.set HJ4.out 1 rfl HDsm.out HDs.out, rfl⟩ | exact ⟨QOut.set HJ4.out 2 rfl HDsm.out HDs.out, rfl⟩ | exact ⟨QOut.set HJ4.out 3 rfl HDsm.out HDs.out, rfl⟩)
  case rest =>
  obtain ⟨⟨bs, As, ks, Bs, ls, Rs, Cs, qs, Ms, _, _, rfl, rfl, hdR, hd3, hI2⟩, rfl⟩ := hcut
  have I3 := Lib.hid (I2.out.join hI2)
  have HDs := Lib.hid hd3
  have HDsm := Lib.hid hdR
  clear hI2 hd3 hdR
  simp only [List.cons_append, List.nil_append] at I3
  have HZs := Lib.hid (rows_small HDs.out HLEN.out.2.2)
  have HZsm := Lib.hid (rows_small2 HDsm.out HLEN.out.2.1)
  have z1s := HZs.out.1
  have z2s := HZs.out.2.1
  have z1sm := HZsm.out.1
  have z2sm := HZsm.out.2.1
  clear u_a0_2 v_a0_2 x_a0_2 y_a0_2 z_a0_2 u_a1_2 v_a1_2 x_a1_2 y_a1_2 z_a1_2
  obtain ⟨u_a0_3, v_a0_3, x_a0_3, y_a0_3, z_a0_3⟩ := blk2cells (I3.out.box 3 rfl)
  obtain ⟨u_a1_3, v_a1_3, x_a1_3, y_a1_3, z_a1_3⟩ := blk2cells (I3.out.box 2 rfl)
  obtain ⟨u_rs_3, v_rs_3, x_rs_3, y_rs_3, z_rs_3⟩ := blk2cells (I3.out.box 0 rfl)
  go_wp2_with fail
  refine (HTO0.out _ I3.out.bel).mono ?_
  rintro e w5 ⟨gx0, hx0, Mx0, rfl, hd, ho, hb⟩
  have I4 := Lib.hid (I3.out.pushMod hb ho)
  have HDx0 := Lib.hid hd
  clear hd
  clear ho hb
  clear u_a0_3 v_a0_3 x_a0_3 y_a0_3 z_a0_3 u_a1_3 v_a1_3 x_a1_3 y_a1_3 z_a1_3 u_rs_3 v_rs_3 x_rs_3 y_rs_3 z_rs_3
  obtain ⟨u_a0_4, v_a0_4, x_a0_4, y_a0_4, z_a0_4⟩ := blk2cells (I4.out.box 4 rfl)
  obtain ⟨u_a1_4, v_a1_4, x_a1_4, y_a1_4, z_a1_4⟩ := blk2cells (I4.out.box 3 rfl)
  obtain ⟨u_rs_4, v_rs_4, x_rs_4, y_rs_4, z_rs_4⟩ := blk2cells (I4.out.box 1 rfl)
  go_wp2_with fail
  have hI := I4.out.allocBox #[.slice (some ⟨gx0, 0, none⟩) n0 n0, .slice (some ⟨hx0, 0, none⟩) m0 m0] 29
  refine (HTO1.out _ hI.bel).mono ?_
  rintro e w6 ⟨gx1, hx1, Mx1, rfl, hd, ho, hb⟩
  have I5 := Lib.hid (hI.pushMod hb ho)
  have HDx1 := Lib.hid hd
  clear hd
  clear ho hb
  clear hI
  clear u_a0_4 v_a0_4 x_a0_4 y_a0_4 z_a0_4 u_a1_4 v_a1_4 x_a1_4 y_a1_4 z_a1_4 u_rs_4 v_rs_4 x_rs_4 y_rs_4 z_rs_4
  obtain ⟨u_a0_5, v_a0_5, x_a0_5, y_a0_5, z_a0_5⟩ := blk2cells (I5.out.box 6 rfl)
  obtain ⟨u_a1_5, v_a1_5, x_a1_5, y_a1_5, z_a1_5⟩ := blk2cells (I5.out.box 5 rfl)
  obtain ⟨u_b0_5, v_b0_5, x_b0_5, y_b0_5, z_b0_5⟩ := blk2cells (I5.out.box 1 rfl)
  obtain ⟨u_rs_5, v_rs_5, x_rs_5, y_rs_5, z_rs_5⟩ := blk2cells (I5.out.box 3 rfl)
  go_wp2_with fail
  have hI := I5.out.allocBox #[.slice (some ⟨gx1, 0, none⟩) n1 n1, .slice (some ⟨hx1, 0, none⟩) m1 m1] 29
  refine (HTO2.out _ hI.bel).mono ?_
  rintro e w7 ⟨gx2, Mx2, rfl, hd, ho, hb⟩
  have I6 := Lib.hid (hI.pushRows hb ho)
  have HDx2 := Lib.hid hd
  clear hd
  clear ho hb
  clear hI
  clear u_a0_5 v_a0_5 x_a0_5 y_a0_5 z_a0_5 u_a1_5 v_a1_5 x_a1_5 y_a1_5 z_a1_5 u_b0_5 v_b0_5 x_b0_5 y_b0_5 z_b0_5 u_rs_5 v_rs_5 x_rs_5 y_rs_5 z_rs_5
  obtain ⟨u_a0_6, v_a0_6, x_a0_6, y_a0_6, z_a0_6⟩ := blk2cells (I6.out.box 8 rfl)
  obtain ⟨u_a1_6, v_a1_6, x_a1_6, y_a1_6, z_a1_6⟩ := blk2cells (I6.out.box 7 rfl)
  obtain ⟨u_b0_6, v_b0_6, x_b0_6, y_b0_6, z_b0_6⟩ := blk2cells (I6.out.box 3 rfl)
  obtain ⟨u_b1_6, v_b1_6, x_b1_6, y_b1_6, z_b1_6⟩ := blk2cells (I6.out.box 1 rfl)
  obtain ⟨u_rs_6, v_rs_6, x_rs_6, y_rs_6, z_rs_6⟩ := blk2cells (I6.out.box 5 rfl)
  go_wp2_with fail
  refine (HIM.out _ (HT.out.below I6.out.bel hw) (by have := I6.out.size; omega) _ (owns_Rd (by have h := (I6.out.mod 4 rfl).deg; rw [← Hn0.out] at h; exact h)) _ _ HDx0.out ((I6.out.mod 4 rfl).act.rd (by rw [Hm0.out, (dat_xs HDx0.out).1])) _ (owns_Rd (by have h := (I6.out.mod 2 rfl).deg; rw [← Hn1.out] at h; exact h)) _ _ HDx1.out ((I6.out.mod 2 rfl).act.rd (by rw [Hm1.out, (dat_xs HDx1.out).1])) _ _ HDx2.out ((I6.out.rows 0 rfl).rd (by rw [Hn2.out, (dat_xs HDx2.out).1]))).mono ?_
  rintro e w8 ⟨vg, ug, Mg, Hg, hH, rfl, hmo, hd3, ho3, hb⟩
  obtain ⟨Ag, kg, Bg, lg, Rg, Cg, qg, hg, rfl, rfl, hdR, _, hI2⟩ := I6.out.pushMR hH hmo ho3 hb
  have I7 := Lib.hid hI2
  have HDg := Lib.hid hd3
  have HDgm := Lib.hid hdR
  clear hI2 hd3 hdR hmo ho3 hb hH
  have HZg := Lib.hid (rows_small HDg.out HLEN.out.2.2)
  have HZgm := Lib.hid (rows_small2 HDgm.out HLEN.out.2.1)
  have z1g := HZg.out.1
  have z2g := HZg.out.2.1
  have z1gm := HZgm.out.1
  have z2gm := HZgm.out.2.1
  clear u_a0_6 v_a0_6 x_a0_6 y_a0_6 z_a0_6 u_a1_6 v_a1_6 x_a1_6 y_a1_6 z_a1_6 u_b0_6 v_b0_6 x_b0_6 y_b0_6 z_b0_6 u_b1_6 v_b1_6 x_b1_6 y_b1_6 z_b1_6 u_rs_6 v_rs_6 x_rs_6 y_rs_6 z_rs_6
  obtain ⟨u_a0_7, v_a0_7, x_a0_7, y_a0_7, z_a0_7⟩ := blk2cells (I7.out.box 10 rfl)
  obtain ⟨u_a1_7, v_a1_7, x_a1_7, y_a1_7, z_a1_7⟩ := blk2cells (I7.out.box 9 rfl)
  obtain ⟨u_b0_7, v_b0_7, x_b0_7, y_b0_7, z_b0_7⟩ := blk2cells (I7.out.box 5 rfl)
  obtain ⟨u_b1_7, v_b1_7, x_b1_7, y_b1_7, z_b1_7⟩ := blk2cells (I7.out.box 3 rfl)
  obtain ⟨u_rs_7, v_rs_7, x_rs_7, y_rs_7, z_rs_7⟩ := blk2cells (I7.out.box 7 rfl)
  go_wp2_with fail
  have hI := I7.out.allocBox #[.slice Ag rr.1.1.length kg, .slice Bg rr.1.2.length lg] 29
  refine (eqModQ (hI.mod 2 rfl) HDgm.out (hI.q 9 rfl) HDsm.out HLEN.out.1 HLEN.out.2.1).mono ?_
  rintro e w9 ⟨rfl, hb⟩
  have I8 := Lib.hid (hI.step hb)
  clear hb
  clear hI
  clear u_a0_7 v_a0_7 x_a0_7 y_a0_7 z_a0_7 u_a1_7 v_a1_7 x_a1_7 y_a1_7 z_a1_7 u_b0_7 v_b0_7 x_b0_7 y_b0_7 z_b0_7 u_b1_7 v_b1_7 x_b1_7 y_b1_7 z_b1_7 u_rs_7 v_rs_7 x_rs_7 y_rs_7 z_rs_7
  obtain ⟨u_a0_8, v_a0_8, x_a0_8, y_a0_8, z_a0_8⟩ := blk2cells (I8.out.box 11 rfl)
  obtain ⟨u_a1_8, v_a1_8, x_a1_8, y_a1_8, z_a1_8⟩ := blk2cells (I8.out.box 10 rfl)
  obtain ⟨u_b0_8, v_b0_8, x_b0_8, y_b0_8, z_b0_8⟩ := blk2cells (I8.out.box 6 rfl)
  obtain ⟨u_b1_8, v_b1_8, x_b1_8, y_b1_8, z_b1_8⟩ := blk2cells (I8.out.box 4 rfl)
  obtain ⟨u_rs_8, v_rs_8, x_rs_8, y_rs_8, z_rs_8⟩ := blk2cells (I8.out.box 8 rfl)
  obtain ⟨u_rg_8, v_rg_8, x_rg_8, y_rg_8, z_rg_8⟩ := blk2cells (I8.out.box 0 rfl)
  go_wp2_with fail
  refine (eqRowsB_any _ _ _ _ _ _ _ _ _ rfl (by rw [← HDs.out, dat_length]) (by omega) (fun i hi => Nat.le_trans (HZg.out.2.2 i hi) (by omega)) (HDs.out.trans HDg.out.symm) ((I8.out.rows 1 rfl).rd rfl) ((I8.out.q 9 rfl).rows.rd (by rw [← HDs.out, dat_length]))).mono ?_
  rintro e w10 ⟨rfl, hb⟩
  have I9 := Lib.hid (I8.out.step hb)
  clear hb
  clear u_a0_8 v_a0_8 x_a0_8 y_a0_8 z_a0_8 u_a1_8 v_a1_8 x_a1_8 y_a1_8 z_a1_8 u_b0_8 v_b0_8 x_b0_8 y_b0_8 z_b0_8 u_b1_8 v_b1_8 x_b1_8 y_b1_8 z_b1_8 u_rs_8 v_rs_8 x_rs_8 y_rs_8 z_rs_8 u_rg_8 v_rg_8 x_rg_8 y_rg_8 z_rg_8
  obtain ⟨u_a0_9, v_a0_9, x_a0_9, y_a0_9, z_a0_9⟩ := blk2cells (I9.out.box 11 rfl)
  obtain ⟨u_a1_9, v_a1_9, x_a1_9, y_a1_9, z_a1_9⟩ := blk2cells (I9.out.box 10 rfl)
  obtain ⟨u_b0_9, v_b0_9, x_b0_9, y_b0_9, z_b0_9⟩ := blk2cells (I9.out.box 6 rfl)
  obtain ⟨u_b1_9, v_b1_9, x_b1_9, y_b1_9, z_b1_9⟩ := blk2cells (I9.out.box 4 rfl)
  obtain ⟨u_rs_9, v_rs_9, x_rs_9, y_rs_9, z_rs_9⟩ := blk2cells (I9.out.box 8 rfl)
  obtain ⟨u_rg_9, v_rg_9, x_rg_9, y_rg_9, z_rg_9⟩ := blk2cells (I9.out.box 0 rfl)
  go_wp2_with fail
  have KS := Lib.hid (fun w' (hb : Below w10.heap.size w10 w') => show w'.cell? ⟨w5.heap.size, 0, none⟩ = some (.slice (some ⟨gx0, 0, none⟩) n0 n0) ∧ w'.cell? ⟨w5.heap.size, 1, none⟩ = some (.slice (some ⟨hx0, 0, none⟩) m0 m0) ∧ w'.cell? ⟨w.heap.size, 0, none⟩ = some (.slice A0 n0 c0) ∧ w'.cell? ⟨w.heap.size, 1, none⟩ = some (.slice B0 m0 d0) from by
    have J := I9.out.step hb
    exact ⟨(blk2cells (J.box 6 rfl)).1, (blk2cells (J.box 6 rfl)).2.1, (blk2cells (J.box 11 rfl)).1, (blk2cells (J.box 11 rfl)).2.1⟩)
  have HB_0 := Lib.hid (Below.drew (Below.refl w10.heap.size w10))
  have I10 := Lib.hid I9.out.drew
  clear u_a0_9 v_a0_9 x_a0_9 y_a0_9 z_a0_9 u_a1_9 v_a1_9 x_a1_9 y_a1_9 z_a1_9 u_b0_9 v_b0_9 x_b0_9 y_b0_9 z_b0_9 u_b1_9 v_b1_9 x_b1_9 y_b1_9 z_b1_9 u_rs_9 v_rs_9 x_rs_9 y_rs_9 z_rs_9 u_rg_9 v_rg_9 x_rg_9 y_rg_9 z_rg_9
  go_region_held3 (fun w' => w'.cell? ⟨w5.heap.size, 0, none⟩ = some (.slice (some ⟨gx0, 0, none⟩) n0 n0) ∧ w'.cell? ⟨w5.heap.size, 1, none⟩ = some (.slice (some ⟨hx0, 0, none⟩) m0 m0) ∧ w'.cell? ⟨w.heap.size, 0, none⟩ = some (.slice A0 n0 c0) ∧ w'.cell? ⟨w.heap.size, 1, none⟩ = some (.slice B0 m0 d0))
      (first | exact KS.out _ HB_0.out | exact KS.out _ HB_1.out | exact KS.out _ HB_2.out)
      (first
        | (go_at_call 12; (with_reducible refine (HTO0.out _ I10.out.bel).mono ?_); (rintro e w11 ⟨ge0, he0, Me0, rfl, hd, ho, hb⟩; have I11 := Lib.hid (I10.out.pushMod hb ho); have HDe0 := Lib.hid hd; have HB_1 := Lib.hid (HB_0.out.trans (hb.mono HB_0.out.size)); clear ho hb hd))
        | (go_at_call 15; (with_reducible refine (eqModule_any _ _ _ _ n0 n0 n0 m0 m0 m0 xs0 _ _ _ Hn0.out (by omega) (by rw [Hm0.out, (dat_xs HDx0.out).1]) (by omega) (by intro i hi; rw [(dat_xs HDx0.out).2 i]; exact HLL0.out i (by rw [← (dat_xs HDx0.out).1]; exact hi)) (HDe0.out.trans HDx0.out.symm) (owns_Rd (by have h := (I11.out.mod 8 rfl).deg; rw [← Hn0.out] at h; exact h)) (owns_Rd (by have h := (I11.out.mod 0 rfl).deg; rw [← Hn0.out] at h; exact h)) ((I11.out.mod 8 rfl).act.rd (by rw [Hm0.out, (dat_xs HDx0.out).1])) ((I11.out.mod 0 rfl).act.rd (by rw [Hm0.out, (dat_xs HDe0.out).1]))).mono ?_); (rintro e w12 ⟨rfl, hb⟩; have I12 := Lib.hid (I11.out.step hb); have HB_2 := Lib.hid (HB_1.out.trans (hb.mono HB_1.out.size)); clear hb)))
  clear HB_0 HB_1 HB_2 KS
  obtain ⟨u_a0_12, v_a0_12, x_a0_12, y_a0_12, z_a0_12⟩ := blk2cells (I12.out.box 12 rfl)
  obtain ⟨u_a1_12, v_a1_12, x_a1_12, y_a1_12, z_a1_12⟩ := blk2cells (I12.out.box 11 rfl)
  obtain ⟨u_b0_12, v_b0_12, x_b0_12, y_b0_12, z_b0_12⟩ := blk2cells (I12.out.box 7 rfl)
  obtain ⟨u_b1_12, v_b1_12, x_b1_12, y_b1_12, z_b1_12⟩ := blk2cells (I12.out.box 5 rfl)
  obtain ⟨u_rs_12, v_rs_12, x_rs_12, y_rs_12, z_rs_12⟩ := blk2cells (I12.out.box 9 rfl)
  obtain ⟨u_rg_12, v_rg_12, x_rg_12, y_rg_12, z_rg_12⟩ := blk2cells (I12.out.box 1 rfl)
  go_wp2_with fail
  have KS := Lib.hid (fun w' (hb : Below w12.heap.size w12 w') => show w'.cell? ⟨w6.heap.size, 0, none⟩ = some (.slice (some ⟨gx1, 0, none⟩) n1 n1) ∧ w'.cell? ⟨w6.heap.size, 1, none⟩ = some (.slice (some ⟨hx1, 0, none⟩) m1 m1) ∧ w'.cell? ⟨w.heap.size + 1, 0, none⟩ = some (.slice A1 n1 c1) ∧ w'.cell? ⟨w.heap.size + 1, 1, none⟩ = some (.slice B1 m1 d1) from by
    have J := I12.out.step hb
    exact ⟨(blk2cells (J.box 5 rfl)).1, (blk2cells (J.box 5 rfl)).2.1, (blk2cells (J.box 11 rfl)).1, (blk2cells (J.box 11 rfl)).2.1⟩)
  have HB_0 := Lib.hid (Below.drew (Below.refl w12.heap.size w12))
  have I13 := Lib.hid I12.out.drew
  clear u_a0_12 v_a0_12 x_a0_12 y_a0_12 z_a0_12 u_a1_12 v_a1_12 x_a1_12 y_a1_12 z_a1_12 u_b0_12 v_b0_12 x_b0_12 y_b0_12 z_b0_12 u_b1_12 v_b1_12 x_b1_12 y_b1_12 z_b1_12 u_rs_12 v_rs_12 x_rs_12 y_rs_12 z_rs_12 u_rg_12 v_rg_12 x_rg_12 y_rg_12 z_rg_12
  go_region_held3 (fun w' => w'.cell? ⟨w6.heap.size, 0, none⟩ = some (.slice (some ⟨gx1, 0, none⟩) n1 n1) ∧ w'.cell? ⟨w6.heap.size, 1, none⟩ = some (.slice (some ⟨hx1, 0, none⟩) m1 m1) ∧ w'.cell? ⟨w.heap.size + 1, 0, none⟩ = some (.slice A1 n1 c1) ∧ w'.cell? ⟨w.heap.size + 1, 1, none⟩ = some (.slice B1 m1 d1))
      (first | exact KS.out _ HB_0.out | exact KS.out _ HB_1.out | exact KS.out _ HB_2.out)
      (first
        | (go_at_call 12; (with_reducible refine (HTO1.out _ I13.out.bel).mono ?_); (rintro e w13 ⟨ge1, he1, Me1, rfl, hd, ho, hb⟩; have I14 := Lib.hid (I13.out.pushMod hb ho); have HDe1 := Lib.hid hd; have HB_1 := Lib.hid (HB_0.out.trans (hb.mono HB_0.out.size)); clear ho hb hd))
        | (go_at_call 15; (with_reducible refine (eqModule_any _ _ _ _ n1 n1 n1 m1 m1 m1 xs1 _ _ _ Hn1.out (by omega) (by rw [Hm1.out, (dat_xs HDx1.out).1]) (by omega) (by intro i hi; rw [(dat_xs HDx1.out).2 i]; exact HLL1.out i (by rw [← (dat_xs HDx1.out).1]; exact hi)) (HDe1.out.trans HDx1.out.symm) (owns_Rd (by have h := (I14.out.mod 7 rfl).deg; rw [← Hn1.out] at h; exact h)) (owns_Rd (by have h := (I14.out.mod 0 rfl).deg; rw [← Hn1.out] at h; exact h)) ((I14.out.mod 7 rfl).act.rd (by rw [Hm1.out, (dat_xs HDx1.out).1])) ((I14.out.mod 0 rfl).act.rd (by rw [Hm1.out, (dat_xs HDe1.out).1]))).mono ?_); (rintro e w14 ⟨rfl, hb⟩; have I15 := Lib.hid (I14.out.step hb); have HB_2 := Lib.hid (HB_1.out.trans (hb.mono HB_1.out.size)); clear hb)))
  clear HB_0 HB_1 HB_2 KS
  obtain ⟨u_a0_15, v_a0_15, x_a0_15, y_a0_15, z_a0_15⟩ := blk2cells (I15.out.box 13 rfl)
  obtain ⟨u_a1_15, v_a1_15, x_a1_15, y_a1_15, z_a1_15⟩ := blk2cells (I15.out.box 12 rfl)
  obtain ⟨u_b0_15, v_b0_15, x_b0_15, y_b0_15, z_b0_15⟩ := blk2cells (I15.out.box 8 rfl)
  obtain ⟨u_b1_15, v_b1_15, x_b1_15, y_b1_15, z_b1_15⟩ := blk2cells (I15.out.box 6 rfl)
  obtain ⟨u_rs_15, v_rs_15, x_rs_15, y_rs_15, z_rs_15⟩ := blk2cells (I15.out.box 10 rfl)
  obtain ⟨u_rg_15, v_rg_15, x_rg_15, y_rg_15, z_rg_15⟩ := blk2cells (I15.out.box 2 rfl)
  go_wp2_with fail
  refine (HTO2.out _ I15.out.bel).mono ?_
  rintro e w15 ⟨ge2, Me2, rfl, hd, ho, hb⟩
  have I16 := Lib.hid (I15.out.pushRows hb ho)
  have HDe2 := Lib.hid hd
  clear hd
  clear ho hb
  clear u_a0_15 v_a0_15 x_a0_15 y_a0_15 z_a0_15 u_a1_15 v_a1_15 x_a1_15 y_a1_15 z_a1_15 u_b0_15 v_b0_15 x_b0_15 y_b0_15 z_b0_15 u_b1_15 v_b1_15 x_b1_15 y_b1_15 z_b1_15 u_rs_15 v_rs_15 x_rs_15 y_rs_15 z_rs_15 u_rg_15 v_rg_15 x_rg_15 y_rg_15 z_rg_15
  obtain ⟨u_a0_16, v_a0_16, x_a0_16, y_a0_16, z_a0_16⟩ := blk2cells (I16.out.box 14 rfl)
  obtain ⟨u_a1_16, v_a1_16, x_a1_16, y_a1_16, z_a1_16⟩ := blk2cells (I16.out.box 13 rfl)
  obtain ⟨u_b0_16, v_b0_16, x_b0_16, y_b0_16, z_b0_16⟩ := blk2cells (I16.out.box 9 rfl)
  obtain ⟨u_b1_16, v_b1_16, x_b1_16, y_b1_16, z_b1_16⟩ := blk2cells (I16.out.box 7 rfl)
  obtain ⟨u_rs_16, v_rs_16, x_rs_16, y_rs_16, z_rs_16⟩ := blk2cells (I16.out.box 11 rfl)
  obtain ⟨u_rg_16, v_rg_16, x_rg_16, y_rg_16, z_rg_16⟩ := blk2cells (I16.out.box 3 rfl)
  go_wp2_with fail
  refine (eqRowsB_any _ _ n2 n2 _ _ _ _ _ (by rw [Hn2.out, (dat_xs HDx2.out).1]) (by rw [Hn2.out, (dat_xs HDe2.out).1]) (by omega) (by intro i hi; rw [(dat_xs HDx2.out).2 i]; exact Nat.le_trans (HLL2.out i (by rw [← (dat_xs HDx2.out).1]; exact hi)) (by omega)) (HDe2.out.trans HDx2.out.symm) ((I16.out.rows 6 rfl).rd (by rw [Hn2.out, (dat_xs HDx2.out).1])) ((I16.out.rows 0 rfl).rd (by rw [Hn2.out, (dat_xs HDe2.out).1]))).mono ?_
  rintro e w16 ⟨rfl, hb⟩
  have I17 := Lib.hid (I16.out.step hb)
  clear hb
  clear u_a0_16 v_a0_16 x_a0_16 y_a0_16 z_a0_16 u_a1_16 v_a1_16 x_a1_16 y_a1_16 z_a1_16 u_b0_16 v_b0_16 x_b0_16 y_b0_16 z_b0_16 u_b1_16 v_b1_16 x_b1_16 y_b1_16 z_b1_16 u_rs_16 v_rs_16 x_rs_16 y_rs_16 z_rs_16 u_rg_16 v_rg_16 x_rg_16 y_rg_16 z_rg_16
  obtain ⟨u_a0_17, v_a0_17, x_a0_17, y_a0_17, z_a0_17⟩ := blk2cells (I17.out.box 14 rfl)
  obtain ⟨u_a1_17, v_a1_17, x_a1_17, y_a1_17, z_a1_17⟩ := blk2cells (I17.out.box 13 rfl)
  obtain ⟨u_b0_17, v_b0_17, x_b0_17, y_b0_17, z_b0_17⟩ := blk2cells (I17.out.box 9 rfl)
  obtain ⟨u_b1_17, v_b1_17, x_b1_17, y_b1_17, z_b1_17⟩ := blk2cells (I17.out.box 7 rfl)
  obtain ⟨u_rs_17, v_rs_17, x_rs_17, y_rs_17, z_rs_17⟩ := blk2cells (I17.out.box 11 rfl)
  obtain ⟨u_rg_17, v_rg_17, x_rg_17, y_rg_17, z_rg_17⟩ := blk2cells (I17.out.box 3 rfl)
  go_wp2_with fail
  have HKB0 := Lib.hid (show (0 : Int) ≤ 1 ∧ (1 : Int) ≤ 1 from ⟨by decide, by decide⟩)
  have hxl0 : xs0.length ≤ 1048576 := by rw [← Hn0.out]; exact hnb0
  have hqx0 : tot Mx0 = tot L0 := tot_dat HDx0.out
  have htx0 : tot Mx0 ≤ 1048576 := by rw [hqx0]; exact hk0
  clear hqx0
  have hBx0 := (I17.out.mod 10 rfl).deg.lt gx0 rfl
  refine (markModule_any _ _ _ _ xs0 Mx0 (1) _ (Nat.le_trans hBx0.1 (Nat.le_of_lt hBx0.2)) (I17.out.mod 10 rfl) (I17.out.modUp 10 rfl) (Nat.le_trans hxl0 (by decide)) (by rw [(dat_xs HDx0.out).1, ← Hm0.out]; exact Nat.le_trans hmb0 (by decide)) (Nat.le_trans htx0 (by decide)) HKB0.out.1 (Int.le_trans HKB0.out.2 (by decide))).mono ?_
  clear hBx0
  rintro e w17 ⟨rfl, ho, hk⟩
  have I18 := Lib.hid (I17.out.markMod 10 rfl hk ho)
  clear ho hk
  have HKB1 : Hid (0 ≤ (1 + xs0.length + tot Mx0 : Int) ∧ (1 + xs0.length + tot Mx0 : Int) ≤ 2097153) := Lib.hid (kb_add2 HKB0.out hxl0 htx0)
  clear u_a0_17 v_a0_17 x_a0_17 y_a0_17 z_a0_17 u_a1_17 v_a1_17 x_a1_17 y_a1_17 z_a1_17 u_b0_17 v_b0_17 x_b0_17 y_b0_17 z_b0_17 u_b1_17 v_b1_17 x_b1_17 y_b1_17 z_b1_17 u_rs_17 v_rs_17 x_rs_17 y_rs_17 z_rs_17 u_rg_17 v_rg_17 x_rg_17 y_rg_17 z_rg_17
  obtain ⟨u_a0_18, v_a0_18, x_a0_18, y_a0_18, z_a0_18⟩ := blk2cells (I18.out.box 14 rfl)
  obtain ⟨u_a1_18, v_a1_18, x_a1_18, y_a1_18, z_a1_18⟩ := blk2cells (I18.out.box 13 rfl)
  obtain ⟨u_b0_18, v_b0_18, x_b0_18, y_b0_18, z_b0_18⟩ := blk2cells (I18.out.box 9 rfl)
  obtain ⟨u_b1_18, v_b1_18, x_b1_18, y_b1_18, z_b1_18⟩ := blk2cells (I18.out.box 7 rfl)
  obtain ⟨u_rs_18, v_rs_18, x_rs_18, y_rs_18, z_rs_18⟩ := blk2cells (I18.out.box 11 rfl)
  obtain ⟨u_rg_18, v_rg_18, x_rg_18, y_rg_18, z_rg_18⟩ := blk2cells (I18.out.box 3 rfl)
  have hnn0 : ¬ (1 + xs0.length + tot Mx0 : Int) < 0 := Int.not_lt.2 HKB1.out.1
  go_wp2_with fail
  have hxl1 : xs1.length ≤ 1048576 := by rw [← Hn1.out]; exact hnb1
  have hqx1 : tot Mx1 = tot L1 := tot_dat HDx1.out
  have htx1 : tot Mx1 ≤ 1048576 := by rw [hqx1]; exact hk1
  clear hqx1
  have hBx1 := (I18.out.mod 8 rfl).deg.lt gx1 rfl
  refine (markModule_any _ _ _ _ xs1 Mx1 (1 + xs0.length + tot Mx0) _ (Nat.le_trans hBx1.1 (Nat.le_of_lt hBx1.2)) (I18.out.mod 8 rfl) (I18.out.modUp 8 rfl) (Nat.le_trans hxl1 (by decide)) (by rw [(dat_xs HDx1.out).1, ← Hm1.out]; exact Nat.le_trans hmb1 (by decide)) (Nat.le_trans htx1 (by decide)) HKB1.out.1 (Int.le_trans HKB1.out.2 (by decide))).mono ?_
  clear hBx1
  rintro e w18 ⟨rfl, ho, hk⟩
  have I19 := Lib.hid (I18.out.markMod 8 rfl hk ho)
  clear ho hk
  have HKB2 : Hid (0 ≤ (1 + xs0.length + tot Mx0 + xs1.length + tot Mx1 : Int) ∧ (1 + xs0.length + tot Mx0 + xs1.length + tot Mx1 : Int) ≤ 4194305) := Lib.hid (kb_add2 HKB1.out hxl1 htx1)
  clear u_a0_18 v_a0_18 x_a0_18 y_a0_18 z_a0_18 u_a1_18 v_a1_18 x_a1_18 y_a1_18 z_a1_18 u_b0_18 v_b0_18 x_b0_18 y_b0_18 z_b0_18 u_b1_18 v_b1_18 x_b1_18 y_b1_18 z_b1_18 u_rs_18 v_rs_18 x_rs_18 y_rs_18 z_rs_18 u_rg_18 v_rg_18 x_rg_18 y_rg_18 z_rg_18
  obtain ⟨u_a0_19, v_a0_19, x_a0_19, y_a0_19, z_a0_19⟩ := blk2cells (I19.out.box 14 rfl)
  obtain ⟨u_a1_19, v_a1_19, x_a1_19, y_a1_19, z_a1_19⟩ := blk2cells (I19.out.box 13 rfl)
  obtain ⟨u_b0_19, v_b0_19, x_b0_19, y_b0_19, z_b0_19⟩ := blk2cells (I19.out.box 9 rfl)
  obtain ⟨u_b1_19, v_b1_19, x_b1_19, y_b1_19, z_b1_19⟩ := blk2cells (I19.out.box 7 rfl)
  obtain ⟨u_rs_19, v_rs_19, x_rs_19, y_rs_19, z_rs_19⟩ := blk2cells (I19.out.box 11 rfl)
  obtain ⟨u_rg_19, v_rg_19, x_rg_19, y_rg_19, z_rg_19⟩ := blk2cells (I19.out.box 3 rfl)
  have hnn1 : ¬ (1 + xs0.length + tot Mx0 + xs1.length + tot Mx1 : Int) < 0 := Int.not_lt.2 HKB2.out.1
  go_wp2_with fail
  have hxl2 : L2.length ≤ 1048576 := by rw [← Hn2.out]; exact hnb2
  have hqx2 : tot Mx2 = tot L2 := tot_dat HDx2.out
  have htx2 : tot Mx2 ≤ 1048576 := by rw [hqx2]; exact hk2
  clear hqx2
  refine (markRows_any _ _ _ Mx2 (1 + xs0.length + tot Mx0 + xs1.length + tot Mx1) _ (I19.out.rows 6 rfl) (by rw [(dat_xs HDx2.out).1, ← Hn2.out]; exact hnb2) htx2 HKB2.out.1 (Int.le_trans HKB2.out.2 (by decide)) (I19.out.rowsUp 6 rfl).2).mono ?_
  rintro e w19 ⟨rfl, ho, hk⟩
  have I20 := Lib.hid (I19.out.markRows 6 rfl hk ho)
  clear ho hk
  have HKB3 : Hid (0 ≤ (1 + xs0.length + tot Mx0 + xs1.length + tot Mx1 + tot Mx2 : Int) ∧ (1 + xs0.length + tot Mx0 + xs1.length + tot Mx1 + tot Mx2 : Int) ≤ 5242881) := Lib.hid (kb_add1 HKB2.out htx2)
  clear u_a0_19 v_a0_19 x_a0_19 y_a0_19 z_a0_19 u_a1_19 v_a1_19 x_a1_19 y_a1_19 z_a1_19 u_b0_19 v_b0_19 x_b0_19 y_b0_19 z_b0_19 u_b1_19 v_b1_19 x_b1_19 y_b1_19 z_b1_19 u_rs_19 v_rs_19 x_rs_19 y_rs_19 z_rs_19 u_rg_19 v_rg_19 x_rg_19 y_rg_19 z_rg_19
  obtain ⟨u_a0_20, v_a0_20, x_a0_20, y_a0_20, z_a0_20⟩ := blk2cells (I20.out.box 14 rfl)
  obtain ⟨u_a1_20, v_a1_20, x_a1_20, y_a1_20, z_a1_20⟩ := blk2cells (I20.out.box 13 rfl)
  obtain ⟨u_b0_20, v_b0_20, x_b0_20, y_b0_20, z_b0_20⟩ := blk2cells (I20.out.box 9 rfl)
  obtain ⟨u_b1_20, v_b1_20, x_b1_20, y_b1_20, z_b1_20⟩ := blk2cells (I20.out.box 7 rfl)
  obtain ⟨u_rs_20, v_rs_20, x_rs_20, y_rs_20, z_rs_20⟩ := blk2cells (I20.out.box 11 rfl)
  obtain ⟨u_rg_20, v_rg_20, x_rg_20, y_rg_20, z_rg_20⟩ := blk2cells (I20.out.box 3 rfl)
  have hnn2 : ¬ (1 + xs0.length + tot Mx0 + xs1.length + tot Mx1 + tot Mx2 : Int) < 0 := Int.not_lt.2 HKB3.out.1
  go_wp2_with fail
  refine (eqModQ (I20.out.mod 5 rfl) HDgm.out (I20.out.q 12 rfl) HDsm.out HLEN.out.1 HLEN.out.2.1).mono ?_
  rintro e w20 ⟨rfl, hb⟩
  have I21 := Lib.hid (I20.out.step hb)
  clear hb
  clear u_a0_20 v_a0_20 x_a0_20 y_a0_20 z_a0_20 u_a1_20 v_a1_20 x_a1_20 y_a1_20 z_a1_20 u_b0_20 v_b0_20 x_b0_20 y_b0_20 z_b0_20 u_b1_20 v_b1_20 x_b1_20 y_b1_20 z_b1_20 u_rs_20 v_rs_20 x_rs_20 y_rs_20 z_rs_20 u_rg_20 v_rg_20 x_rg_20 y_rg_20 z_rg_20
  obtain ⟨u_a0_21, v_a0_21, x_a0_21, y_a0_21, z_a0_21⟩ := blk2cells (I21.out.box 14 rfl)
  obtain ⟨u_a1_21, v_a1_21, x_a1_21, y_a1_21, z_a1_21⟩ := blk2cells (I21.out.box 13 rfl)
  obtain ⟨u_b0_21, v_b0_21, x_b0_21, y_b0_21, z_b0_21⟩ := blk2cells (I21.out.box 9 rfl)
  obtain ⟨u_b1_21, v_b1_21, x_b1_21, y_b1_21, z_b1_21⟩ := blk2cells (I21.out.box 7 rfl)
  obtain ⟨u_rs_21, v_rs_21, x_rs_21, y_rs_21, z_rs_21⟩ := blk2cells (I21.out.box 11 rfl)
  obtain ⟨u_rg_21, v_rg_21, x_rg_21, y_rg_21, z_rg_21⟩ := blk2cells (I21.out.box 3 rfl)
  go_wp2_with fail
  refine (eqRowsB_any _ _ _ _ _ _ _ _ _ rfl (by rw [← HDs.out, dat_length]) (by omega) (fun i hi => Nat.le_trans (HZg.out.2.2 i hi) (by omega)) (HDs.out.trans HDg.out.symm) ((I21.out.rows 4 rfl).rd rfl) ((I21.out.q 12 rfl).rows.rd (by rw [← HDs.out, dat_length]))).mono ?_
  rintro e w21 ⟨rfl, hb⟩
  have I22 := Lib.hid (I21.out.step hb)
  clear hb
  clear u_a0_21 v_a0_21 x_a0_21 y_a0_21 z_a0_21 u_a1_21 v_a1_21 x_a1_21 y_a1_21 z_a1_21 u_b0_21 v_b0_21 x_b0_21 y_b0_21 z_b0_21 u_b1_21 v_b1_21 x_b1_21 y_b1_21 z_b1_21 u_rs_21 v_rs_21 x_rs_21 y_rs_21 z_rs_21 u_rg_21 v_rg_21 x_rg_21 y_rg_21 z_rg_21
  obtain ⟨u_a0_22, v_a0_22, x_a0_22, y_a0_22, z_a0_22⟩ := blk2cells (I22.out.box 14 rfl)
  obtain ⟨u_a1_22, v_a1_22, x_a1_22, y_a1_22, z_a1_22⟩ := blk2cells (I22.out.box 13 rfl)
  obtain ⟨u_b0_22, v_b0_22, x_b0_22, y_b0_22, z_b0_22⟩ := blk2cells (I22.out.box 9 rfl)
  obtain ⟨u_b1_22, v_b1_22, x_b1_22, y_b1_22, z_b1_22⟩ := blk2cells (I22.out.box 7 rfl)
  obtain ⟨u_rs_22, v_rs_22, x_rs_22, y_rs_22, z_rs_22⟩ := blk2cells (I22.out.box 11 rfl)
  obtain ⟨u_rg_22, v_rg_22, x_rg_22, y_rg_22, z_rg_22⟩ := blk2cells (I22.out.box 3 rfl)
  go_wp2_with fail
  refine (markModule_free _ _ _ _ rr.1.1 Rg 1 _ (I22.out.mod 5 rfl) (I22.out.modUp 5 rfl) (by omega) (by omega) (by omega) (by omega) (by omega)).mono ?_
  rintro e w22 ⟨rfl, ho, hk⟩
  have I23 := Lib.hid (I22.out.markMod 5 rfl hk ho)
  clear ho hk
  have hq0 : (0 : Int) ≤ 1 + rr.1.1.length + tot Rg := by omega
  have hq1 : (1 : Int) + rr.1.1.length + tot Rg ≤ 2000000 := by omega
  have hq2 : ¬ ((1 : Int) + rr.1.1.length + tot Rg < 0) := by omega
  have hq3 : ¬ ((1 : Int) + rr.1.1.length + tot Rg + tot Mg < 0) := by omega
  clear u_a0_22 v_a0_22 x_a0_22 y_a0_22 z_a0_22 u_a1_22 v_a1_22 x_a1_22 y_a1_22 z_a1_22 u_b0_22 v_b0_22 x_b0_22 y_b0_22 z_b0_22 u_b1_22 v_b1_22 x_b1_22 y_b1_22 z_b1_22 u_rs_22 v_rs_22 x_rs_22 y_rs_22 z_rs_22 u_rg_22 v_rg_22 x_rg_22 y_rg_22 z_rg_22
  obtain ⟨u_a0_23, v_a0_23, x_a0_23, y_a0_23, z_a0_23⟩ := blk2cells (I23.out.box 14 rfl)
  obtain ⟨u_a1_23, v_a1_23, x_a1_23, y_a1_23, z_a1_23⟩ := blk2cells (I23.out.box 13 rfl)
  obtain ⟨u_b0_23, v_b0_23, x_b0_23, y_b0_23, z_b0_23⟩ := blk2cells (I23.out.box 9 rfl)
  obtain ⟨u_b1_23, v_b1_23, x_b1_23, y_b1_23, z_b1_23⟩ := blk2cells (I23.out.box 7 rfl)
  obtain ⟨u_rs_23, v_rs_23, x_rs_23, y_rs_23, z_rs_23⟩ := blk2cells (I23.out.box 11 rfl)
  obtain ⟨u_rg_23, v_rg_23, x_rg_23, y_rg_23, z_rg_23⟩ := blk2cells (I23.out.box 3 rfl)
  go_wp2_with fail
  refine (markRows_any _ _ _ Mg (1 + rr.1.1.length + tot Rg) _ (I23.out.rows 4 rfl) (by omega) (by omega) (by omega) (by omega) (I23.out.rowsUp 4 rfl).2).mono ?_
  rintro e w23 ⟨rfl, ho, hk⟩
  have I24 := Lib.hid (I23.out.markRows 4 rfl hk ho)
  clear ho hk
  clear u_a0_23 v_a0_23 x_a0_23 y_a0_23 z_a0_23 u_a1_23 v_a1_23 x_a1_23 y_a1_23 z_a1_23 u_b0_23 v_b0_23 x_b0_23 y_b0_23 z_b0_23 u_b1_23 v_b1_23 x_b1_23 y_b1_23 z_b1_23 u_rs_23 v_rs_23 x_rs_23 y_rs_23 z_rs_23 u_rg_23 v_rg_23 x_rg_23 y_rg_23 z_rg_23
  obtain ⟨u_a0_24, v_a0_24, x_a0_24, y_a0_24, z_a0_24⟩ := blk2cells (I24.out.box 14 rfl)
  obtain ⟨u_a1_24, v_a1_24, x_a1_24, y_a1_24, z_a1_24⟩ := blk2cells (I24.out.box 13 rfl)
  obtain ⟨u_b0_24, v_b0_24, x_b0_24, y_b0_24, z_b0_24⟩ := blk2cells (I24.out.box 9 rfl)
  obtain ⟨u_b1_24, v_b1_24, x_b1_24, y_b1_24, z_b1_24⟩ := blk2cells (I24.out.box 7 rfl)
  obtain ⟨u_rs_24, v_rs_24, x_rs_24, y_rs_24, z_rs_24⟩ := blk2cells (I24.out.box 11 rfl)
  obtain ⟨u_rg_24, v_rg_24, x_rg_24, y_rg_24, z_rg_24⟩ := blk2cells (I24.out.box 3 rfl)
  go_wp2_with fail
  refine (heldModP (I24.out.mod 5 rfl) HDgm.out HLEN.out.1 HLEN.out.2.1).mono ?_
  rintro e w24 ⟨rfl, hb⟩
  have I25 := Lib.hid (I24.out.step hb)
  clear hb
  clear u_a0_24 v_a0_24 x_a0_24 y_a0_24 z_a0_24 u_a1_24 v_a1_24 x_a1_24 y_a1_24 z_a1_24 u_b0_24 v_b0_24 x_b0_24 y_b0_24 z_b0_24 u_b1_24 v_b1_24 x_b1_24 y_b1_24 z_b1_24 u_rs_24 v_rs_24 x_rs_24 y_rs_24 z_rs_24 u_rg_24 v_rg_24 x_rg_24 y_rg_24 z_rg_24
  obtain ⟨u_a0_25, v_a0_25, x_a0_25, y_a0_25, z_a0_25⟩ := blk2cells (I25.out.box 14 rfl)
  obtain ⟨u_a1_25, v_a1_25, x_a1_25, y_a1_25, z_a1_25⟩ := blk2cells (I25.out.box 13 rfl)
  obtain ⟨u_b0_25, v_b0_25, x_b0_25, y_b0_25, z_b0_25⟩ := blk2cells (I25.out.box 9 rfl)
  obtain ⟨u_b1_25, v_b1_25, x_b1_25, y_b1_25, z_b1_25⟩ := blk2cells (I25.out.box 7 rfl)
  obtain ⟨u_rs_25, v_rs_25, x_rs_25, y_rs_25, z_rs_25⟩ := blk2cells (I25.out.box 11 rfl)
  obtain ⟨u_rg_25, v_rg_25, x_rg_25, y_rg_25, z_rg_25⟩ := blk2cells (I25.out.box 3 rfl)
  go_wp2_with fail
  refine (heldRows_any _ Mg.length _ Mg (1 + rr.1.1.length + tot Rg) _ rfl ((I25.out.rows 4 rfl).rd (by rw [marksR_length])) (by omega) (by omega) (by omega) (by omega)).mono ?_
  rintro e w' ⟨rfl, rfl⟩
  go_wp2_with fail
  go_cut [20, 21, 22] (fun o8 o9 o10 wx => MROut w24 wx rr o8 o9 o10)
  case first =>
    have KS := Lib.hid (fun w' (hb : Below w24.heap.size w24 w') => show w'.cell? ⟨w.heap.size, 0, none⟩ = some (.slice A0 n0 c0) ∧ w'.cell? ⟨w.heap.size, 1, none⟩ = some (.slice B0 m0 d0) ∧ w'.cell? ⟨w.heap.size + 1, 0, none⟩ = some (.slice A1 n1 c1) ∧ w'.cell? ⟨w.heap.size + 1, 1, none⟩ = some (.slice B1 m1 d1) from by
      have J := I25.out.step hb
      exact ⟨(blk2cells (J.box 14 rfl)).1, (blk2cells (J.box 14 rfl)).2.1, (blk2cells (J.box 13 rfl)).1, (blk2cells (J.box 13 rfl)).2.1⟩)
    have HTW0 := Lib.hid (fun (W' : World) (hb : Below w24.heap.size w24 W') => HTO0.out W' (I25.out.step hb).bel)
    have HTW1 := Lib.hid (fun (W' : World) (hb : Below w24.heap.size w24 W') => HTO1.out W' (I25.out.step hb).bel)
    have HTW2 := Lib.hid (fun (W' : World) (hb : Below w24.heap.size w24 W') => HTO2.out W' (I25.out.step hb).bel)
    have HTB := Lib.hid (fun (W' : World) (hb : Below w24.heap.size w24 W') => HT.out.below (I25.out.step hb).bel hw)
    have HSZ : Hid (0 < w24.heap.size) := Lib.hid (by have := I25.out.size; omega)
    have HJ0 := Lib.hid (Inw.start w24).drew
    have HJz := Lib.hid ((Inw.start w24).allocBox #[.slice none 0 0, .slice none 0 0] 29).drew
    go_region_held3 (fun w' => w'.cell? ⟨w.heap.size, 0, none⟩ = some (.slice A0 n0 c0) ∧ w'.cell? ⟨w.heap.size, 1, none⟩ = some (.slice B0 m0 d0) ∧ w'.cell? ⟨w.heap.size + 1, 0, none⟩ = some (.slice A1 n1 c1) ∧ w'.cell? ⟨w.heap.size + 1, 1, none⟩ = some (.slice B1 m1 d1))
        (first | exact KS.out _ HJ0.out.bel | exact KS.out _ HJz.out.bel | exact KS.out _ HJ1.out.bel | exact KS.out _ HJ2.out.bel | exact KS.out _ HJ3.out.bel | exact KS.out _ HJ4.out.bel | exact KS.out _ (HJ1.out.bel.alloc HJ1.out.bel.size _) | exact KS.out _ (HJ2.out.bel.alloc HJ2.out.bel.size _) | exact KS.out _ (HJ3.out.bel.alloc HJ3.out.bel.size _) | exact KS.out _ (HJ4.out.bel.alloc HJ4.out.bel.size _) | exact KS.out _ ((HJ4.out.bel.setCell hzg _).setCell hzg _))
        (first
          | (go_at_call 12; (first | (with_reducible refine (HTW0.out _ HJ0.out.bel).mono ?_) | (with_reducible refine (HTW0.out _ HJz.out.bel).mono ?_)); (rintro e x1 ⟨gh0, hh0, Mh0, rfl, hd, ho, hb⟩; (first | have HJ1 := Lib.hid (HJ0.out.pushMod hb ho) | have HJ1 := Lib.hid (HJz.out.pushMod hb ho)); have HDh0 := Lib.hid hd; clear hd; clear ho hb))
          | (go_at_call 12; (first | (with_reducible refine (HTW1.out _ HJ1.out.bel).mono ?_) | (with_reducible refine (HTW1.out _ (HJ1.out.allocBox #[.slice none 0 0, .slice none 0 0] 29).bel).mono ?_)); (rintro e x2 ⟨gh1, hh1, Mh1, rfl, hd, ho, hb⟩; (first | have HJ2 := Lib.hid (HJ1.out.pushMod hb ho) | have HJ2 := Lib.hid ((HJ1.out.allocBox #[.slice none 0 0, .slice none 0 0] 29).pushMod hb ho)); have HDh1 := Lib.hid hd; clear hd; clear ho hb))
          | (go_at_call 26; (first | (with_reducible refine (HTW2.out _ HJ2.out.bel).mono ?_) | (with_reducible refine (HTW2.out _ (HJ2.out.allocBox #[.slice none 0 0, .slice none 0 0] 29).bel).mono ?_)); (rintro e x3 ⟨gh2, Mh2, rfl, hd, ho, hb⟩; (first | have HJ3 := Lib.hid (HJ2.out.pushRows hb ho) | have HJ3 := Lib.hid ((HJ2.out.allocBox #[.slice none 0 0, .slice none 0 0] 29).pushRows hb ho)); have HDh2 := Lib.hid hd; clear hd; clear ho hb))
          | (go_at_call 32; (first | (with_reducible refine (HIM.out _ (HTB.out _ HJ3.out.bel) (Nat.lt_of_lt_of_le HSZ.out HJ3.out.bel.size) _ (by first | (have h := (HJ3.out.mod 0 rfl).deg; rw [← Hn0.out] at h; exact owns_Rd h) | (have h := (HJ3.out.mod 1 rfl).deg; rw [← Hn0.out] at h; exact owns_Rd h) | (have h := (HJ3.out.mod 2 rfl).deg; rw [← Hn0.out] at h; exact owns_Rd h) | (have h := (HJ3.out.mod 3 rfl).deg; rw [← Hn0.out] at h; exact owns_Rd h)) _ _ HDh0.out (by first | exact (HJ3.out.mod 0 rfl).act.rd (by rw [Hm0.out, (dat_xs HDh0.out).1]) | exact (HJ3.out.mod 1 rfl).act.rd (by rw [Hm0.out, (dat_xs HDh0.out).1]) | exact (HJ3.out.mod 2 rfl).act.rd (by rw [Hm0.out, (dat_xs HDh0.out).1]) | exact (HJ3.out.mod 3 rfl).act.rd (by rw [Hm0.out, (dat_xs HDh0.out).1])) _ (by first | (have h := (HJ3.out.mod 0 rfl).deg; rw [← Hn1.out] at h; exact owns_Rd h) | (have h := (HJ3.out.mod 1 rfl).deg; rw [← Hn1.out] at h; exact owns_Rd h) | (have h := (HJ3.out.mod 2 rfl).deg; rw [← Hn1.out] at h; exact owns_Rd h) | (have h := (HJ3.out.mod 3 rfl).deg; rw [← Hn1.out] at h; exact owns_Rd h)) _ _ HDh1.out (by first | exact (HJ3.out.mod 0 rfl).act.rd (by rw [Hm1.out, (dat_xs HDh1.out).1]) | exact (HJ3.out.mod 1 rfl).act.rd (by rw [Hm1.out, (dat_xs HDh1.out).1]) | exact (HJ3.out.mod 2 rfl).act.rd (by rw [Hm1.out, (dat_xs HDh1.out).1]) | exact (HJ3.out.mod 3 rfl).act.rd (by rw [Hm1.out, (dat_xs HDh1.out).1])) _ _ HDh2.out (by first | exact (HJ3.out.rows 0 rfl).rd (by rw [Hn2.out, (dat_xs HDh2.out).1]) | exact (HJ3.out.rows 1 rfl).rd (by rw [Hn2.out, (dat_xs HDh2.out).1]) | exact (HJ3.out.rows 2 rfl).rd (by rw [Hn2.out, (dat_xs HDh2.out).1]) | exact (HJ3.out.rows 3 rfl).rd (by rw [Hn2.out, (dat_xs HDh2.out).1]))).mono ?_) | (with_reducible refine (HIM.out _ (HTB.out _ (HJ3.out.allocBox #[.slice none 0 0, .slice none 0 0] 29).bel) (Nat.lt_of_lt_of_le HSZ.out (HJ3.out.allocBox #[.slice none 0 0, .slice none 0 0] 29).bel.size) _ (by first | (have h := ((HJ3.out.allocBox #[.slice none 0 0, .slice none 0 0] 29).mod 0 rfl).deg; rw [← Hn0.out] at h; exact owns_Rd h) | (have h := ((HJ3.out.allocBox #[.slice none 0 0, .slice none 0 0] 29).mod 1 rfl).deg; rw [← Hn0.out] at h; exact owns_Rd h) | (have h := ((HJ3.out.allocBox #[.slice none 0 0, .slice none 0 0] 29).mod 2 rfl).deg; rw [← Hn0.out] at h; exact owns_Rd h) | (have h := ((HJ3.out.allocBox #[.slice none 0 0, .slice none 0 0] 29).mod 3 rfl).deg; rw [← Hn0.out] at h; exact owns_Rd h)) _ _ HDh0.out (by first | exact ((HJ3.out.allocBox #[.slice none 0 0, .slice none 0 0] 29).mod 0 rfl).act.rd (by rw [Hm0.out, (dat_xs HDh0.out).1]) | exact ((HJ3.out.allocBox #[.slice none 0 0, .slice none 0 0] 29).mod 1 rfl).act.rd (by rw [Hm0.out, (dat_xs HDh0.out).1]) | exact ((HJ3.out.allocBox #[.slice none 0 0, .slice none 0 0] 29).mod 2 rfl).act.rd (by rw [Hm0.out, (dat_xs HDh0.out).1]) | exact ((HJ3.out.allocBox #[.slice none 0 0, .slice none 0 0] 29).mod 3 rfl).act.rd (by rw [Hm0.out, (dat_xs HDh0.out).1])) _ (by first | (have h := ((HJ3.out.allocBox #[.slice none 0 0, .slice none 0 0] 29).mod 0 rfl).deg; rw [← Hn1.out] at h; exact owns_Rd h) | (have h := ((HJ3.out.allocBox #[.slice none 0 0, .slice none 0 0] 29).mod 1 rfl).deg; rw [← Hn1.out] at h; exact owns_Rd h) | (have h := ((HJ3.out.allocBox #[.slice none 0 0, .slice none 0 0] 29).mod 2 rfl).deg; rw [← Hn1.out] at h; exact owns_Rd h) | (have h := ((HJ3.out.allocBox #[.slice none 0 0, .slice none 0 0] 29).mod 3 rfl).deg; rw [← Hn1.out] at h; exact owns_Rd h)) _ _ HDh1.out (by first | exact ((HJ3.out.allocBox #[.slice none 0 0, .slice none 0 0] 29).mod 0 rfl).act.rd (by rw [Hm1.out, (dat_xs HDh1.out).1]) | exact ((HJ3.out.allocBox #[.slice none 0 0, .slice none 0 0] 29).mod 1 rfl).act.rd (by rw [Hm1.out, (dat_xs HDh1.out).1]) | exact ((HJ3.out.allocBox #[.slice none 0 0, .slice none 0 0] 29).mod 2 rfl).act.rd (by rw [Hm1.out, (dat_xs HDh1.out).1]) | exact ((HJ3.out.allocBox #[.slice none 0 0, .slice none 0 0] 29).mod 3 rfl).act.rd (by rw [Hm1.out, (dat_xs HDh1.out).1])) _ _ HDh2.out (by first | exact ((HJ3.out.allocBox #[.slice none 0 0, .slice none 0 0] 29).rows 0 rfl).rd (by rw [Hn2.out, (dat_xs HDh2.out).1]) | exact ((HJ3.out.allocBox #[.slice none 0 0, .slice none 0 0] 29).rows 1 rfl).rd (by rw [Hn2.out, (dat_xs HDh2.out).1]) | exact ((HJ3.out.allocBox #[.slice none 0 0, .slice none 0 0] 29).rows 2 rfl).rd (by rw [Hn2.out, (dat_xs HDh2.out).1]) | exact ((HJ3.out.allocBox #[.slice none 0 0, .slice none 0 0] 29).rows 3 rfl).rd (by rw [Hn2.out, (dat_xs HDh2.out).1]))).mono ?_)); (rintro e x4 ⟨vh, uh, Mh, Hh, hH, rfl, hmo, hd3, ho3, hb⟩; (first | obtain ⟨Ah, kh, Bh, lh, Rh, Ch, qh, hh, rfl, rfl, hdR, _, hI2⟩ := HJ3.out.pushMR hH hmo ho3 hb | obtain ⟨Ah, kh, Bh, lh, Rh, Ch, qh, hh, rfl, rfl, hdR, _, hI2⟩ := (HJ3.out.allocBox #[.slice none 0 0, .slice none 0 0] 29).pushMR hH hmo ho3 hb); have HJ4 := Lib.hid hI2; have HDh := Lib.hid hd3; have HDhm := Lib.hid hdR; have hxs : _ ≤ x4.heap.size := hb.size; clear hI2 hd3 hdR hmo ho3 hb hH; (try (have hbx := HJ4.out.box 2 rfl; have hzg : w24.heap.size ≤ _ := HJ4.out.lo 2 rfl; have hcc := blk2cells hbx; obtain ⟨zz0, zz1, zz2, zz3, zz4⟩ := hcc; clear hbx)); (try (have hbx := HJ4.out.box 3 rfl; have hzg : w24.heap.size ≤ _ := HJ4.out.lo 3 rfl; have hcc := blk2cells hbx; obtain ⟨zz0, zz1, zz2, zz3, zz4⟩ := hcc; clear hbx)); (try (have hbx := HJ4.out.box 4 rfl; have hzg : w24.heap.size ≤ _ := HJ4.out.lo 4 rfl; have hcc := blk2cells hbx; obtain ⟨zz0, zz1, zz2, zz3, zz4⟩ := hcc; clear hbx)); (try (have hbx := HJ4.out.box 5 rfl; have hzg : w24.heap.size ≤ _ := HJ4.out.lo 5 rfl; have hcc := blk2cells hbx; obtain ⟨zz0, zz1, zz2, zz3, zz4⟩ := hcc; clear hbx)))))
    all_goals go_wp2_with fail
    all_goals go_meet
    all_goals (first | exact MROut.alloc HJ4.out HDhm.out HDh.out hxs | exact MROut.set HJ4.out 0 rfl HDhm.out HDh.out hxs | exact MROut.set HJ4.out 1 rfl HDhm.out HDh.out hxs | exact MROut.set HJ4.out 2 rfl HDhm.out HDh.out hxs | exact MROut.set HJ4.out 3 rfl HDhm.out HDh.out hxs)
  case rest =>
  obtain ⟨bh, Ah, kh, Bh, lh, Rh, Ch, qh, Mh, _, _, _, _, rfl, rfl, rfl, hdR, hd3, _, hI2⟩ := hcut
  have I26 := Lib.hid (I25.out.join hI2)
  have HDh := Lib.hid hd3
  have HDhm := Lib.hid hdR
  clear hI2 hd3 hdR
  simp only [List.cons_append, List.nil_append] at I26
  have HZh := Lib.hid (rows_small HDh.out HLEN.out.2.2)
  have HZhm := Lib.hid (rows_small2 HDhm.out HLEN.out.2.1)
  have z1h := HZh.out.1
  have z2h := HZh.out.2.1
  have z1hm := HZhm.out.1
  have z2hm := HZhm.out.2.1
  clear u_a0_25 v_a0_25 x_a0_25 y_a0_25 z_a0_25 u_a1_25 v_a1_25 x_a1_25 y_a1_25 z_a1_25 u_b0_25 v_b0_25 x_b0_25 y_b0_25 z_b0_25 u_b1_25 v_b1_25 x_b1_25 y_b1_25 z_b1_25 u_rs_25 v_rs_25 x_rs_25 y_rs_25 z_rs_25 u_rg_25 v_rg_25 x_rg_25 y_rg_25 z_rg_25
  obtain ⟨u_a0_26, v_a0_26, x_a0_26, y_a0_26, z_a0_26⟩ := blk2cells (I26.out.box 17 rfl)
  obtain ⟨u_a1_26, v_a1_26, x_a1_26, y_a1_26, z_a1_26⟩ := blk2cells (I26.out.box 16 rfl)
  obtain ⟨u_b0_26, v_b0_26, x_b0_26, y_b0_26, z_b0_26⟩ := blk2cells (I26.out.box 12 rfl)
  obtain ⟨u_b1_26, v_b1_26, x_b1_26, y_b1_26, z_b1_26⟩ := blk2cells (I26.out.box 10 rfl)
  obtain ⟨u_rs_26, v_rs_26, x_rs_26, y_rs_26, z_rs_26⟩ := blk2cells (I26.out.box 14 rfl)
  obtain ⟨u_rg_26, v_rg_26, x_rg_26, y_rg_26, z_rg_26⟩ := blk2cells (I26.out.box 6 rfl)
  obtain ⟨u_rh_26, v_rh_26, x_rh_26, y_rh_26, z_rh_26⟩ := blk2cells (I26.out.box 0 rfl)
  go_wp2_with fail
  refine (eqModQ (I26.out.mod 2 rfl) HDhm.out (I26.out.q 15 rfl) HDsm.out HLEN.out.1 HLEN.out.2.1).mono ?_
  rintro e w26 ⟨rfl, hb⟩
  have I27 := Lib.hid (I26.out.step hb)
  clear hb
  clear u_a0_26 v_a0_26 x_a0_26 y_a0_26 z_a0_26 u_a1_26 v_a1_26 x_a1_26 y_a1_26 z_a1_26 u_b0_26 v_b0_26 x_b0_26 y_b0_26 z_b0_26 u_b1_26 v_b1_26 x_b1_26 y_b1_26 z_b1_26 u_rs_26 v_rs_26 x_rs_26 y_rs_26 z_rs_26 u_rg_26 v_rg_26 x_rg_26 y_rg_26 z_rg_26 u_rh_26 v_rh_26 x_rh_26 y_rh_26 z_rh_26
  obtain ⟨u_a0_27, v_a0_27, x_a0_27, y_a0_27, z_a0_27⟩ := blk2cells (I27.out.box 17 rfl)
  obtain ⟨u_a1_27, v_a1_27, x_a1_27, y_a1_27, z_a1_27⟩ := blk2cells (I27.out.box 16 rfl)
  obtain ⟨u_b0_27, v_b0_27, x_b0_27, y_b0_27, z_b0_27⟩ := blk2cells (I27.out.box 12 rfl)
  obtain ⟨u_b1_27, v_b1_27, x_b1_27, y_b1_27, z_b1_27⟩ := blk2cells (I27.out.box 10 rfl)
  obtain ⟨u_rs_27, v_rs_27, x_rs_27, y_rs_27, z_rs_27⟩ := blk2cells (I27.out.box 14 rfl)
  obtain ⟨u_rg_27, v_rg_27, x_rg_27, y_rg_27, z_rg_27⟩ := blk2cells (I27.out.box 6 rfl)
  obtain ⟨u_rh_27, v_rh_27, x_rh_27, y_rh_27, z_rh_27⟩ := blk2cells (I27.out.box 0 rfl)
  go_wp2_with fail
  refine (eqRowsB_any _ _ _ _ _ _ _ _ _ rfl (by rw [← HDs.out, dat_length]) (by omega) (fun i hi => Nat.le_trans (HZh.out.2.2 i hi) (by omega)) (HDs.out.trans HDh.out.symm) ((I27.out.rows 1 rfl).rd rfl) ((I27.out.q 15 rfl).rows.rd (by rw [← HDs.out, dat_length]))).mono ?_
  rintro e w27 ⟨rfl, hb⟩
  have I28 := Lib.hid (I27.out.step hb)
  clear hb
  clear u_a0_27 v_a0_27 x_a0_27 y_a0_27 z_a0_27 u_a1_27 v_a1_27 x_a1_27 y_a1_27 z_a1_27 u_b0_27 v_b0_27 x_b0_27 y_b0_27 z_b0_27 u_b1_27 v_b1_27 x_b1_27 y_b1_27 z_b1_27 u_rs_27 v_rs_27 x_rs_27 y_rs_27 z_rs_27 u_rg_27 v_rg_27 x_rg_27 y_rg_27 z_rg_27 u_rh_27 v_rh_27 x_rh_27 y_rh_27 z_rh_27
  obtain ⟨u_a0_28, v_a0_28, x_a0_28, y_a0_28, z_a0_28⟩ := blk2cells (I28.out.box 17 rfl)
  obtain ⟨u_a1_28, v_a1_28, x_a1_28, y_a1_28, z_a1_28⟩ := blk2cells (I28.out.box 16 rfl)
  obtain ⟨u_b0_28, v_b0_28, x_b0_28, y_b0_28, z_b0_28⟩ := blk2cells (I28.out.box 12 rfl)
  obtain ⟨u_b1_28, v_b1_28, x_b1_28, y_b1_28, z_b1_28⟩ := blk2cells (I28.out.box 10 rfl)
  obtain ⟨u_rs_28, v_rs_28, x_rs_28, y_rs_28, z_rs_28⟩ := blk2cells (I28.out.box 14 rfl)
  obtain ⟨u_rg_28, v_rg_28, x_rg_28, y_rg_28, z_rg_28⟩ := blk2cells (I28.out.box 6 rfl)
  obtain ⟨u_rh_28, v_rh_28, x_rh_28, y_rh_28, z_rh_28⟩ := blk2cells (I28.out.box 0 rfl)
  go_wp2_with fail
  refine (heldModP (I28.out.mod 8 rfl) HDgm.out HLEN.out.1 HLEN.out.2.1).mono ?_
  rintro e w28 ⟨rfl, hb⟩
  have I29 := Lib.hid (I28.out.step hb)
  clear hb
  clear u_a0_28 v_a0_28 x_a0_28 y_a0_28 z_a0_28 u_a1_28 v_a1_28 x_a1_28 y_a1_28 z_a1_28 u_b0_28 v_b0_28 x_b0_28 y_b0_28 z_b0_28 u_b1_28 v_b1_28 x_b1_28 y_b1_28 z_b1_28 u_rs_28 v_rs_28 x_rs_28 y_rs_28 z_rs_28 u_rg_28 v_rg_28 x_rg_28 y_rg_28 z_rg_28 u_rh_28 v_rh_28 x_rh_28 y_rh_28 z_rh_28
  obtain ⟨u_a0_29, v_a0_29, x_a0_29, y_a0_29, z_a0_29⟩ := blk2cells (I29.out.box 17 rfl)
  obtain ⟨u_a1_29, v_a1_29, x_a1_29, y_a1_29, z_a1_29⟩ := blk2cells (I29.out.box 16 rfl)
  obtain ⟨u_b0_29, v_b0_29, x_b0_29, y_b0_29, z_b0_29⟩ := blk2cells (I29.out.box 12 rfl)
  obtain ⟨u_b1_29, v_b1_29, x_b1_29, y_b1_29, z_b1_29⟩ := blk2cells (I29.out.box 10 rfl)
  obtain ⟨u_rs_29, v_rs_29, x_rs_29, y_rs_29, z_rs_29⟩ := blk2cells (I29.out.box 14 rfl)
  obtain ⟨u_rg_29, v_rg_29, x_rg_29, y_rg_29, z_rg_29⟩ := blk2cells (I29.out.box 6 rfl)
  obtain ⟨u_rh_29, v_rh_29, x_rh_29, y_rh_29, z_rh_29⟩ := blk2cells (I29.out.box 0 rfl)
  go_wp2_with fail
  refine (heldRows_any _ Mg.length _ Mg (1 + rr.1.1.length + tot Rg) _ rfl ((I29.out.rows 7 rfl).rd (by rw [marksR_length])) (by omega) (by omega) (by omega) (by omega)).mono ?_
  rintro e w' ⟨rfl, rfl⟩
  go_wp2_with fail
  go_ret
  exact ⟨rfl, I29.out.bel⟩
end Go.Proofs.YtpchigdhnnkpcaaGreatDoor
