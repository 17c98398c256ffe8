/- FnExactEulerNumber: the walk of the law (printed by mkl2.py) -/
import Derived.Test.YtocllmhkppkfoaaLw2
import Derived.Test.YtocllmhkppkfoaaEn
import Derived.Deep.RegionHeld3
namespace Go.Proofs.Ytocllmhkppkfoaa
open Go.RowKit

set_option maxRecDepth 100000 in
set_option maxHeartbeats 8000000 in
theorem lawEulerNumber_any (A0 : Option Addr) (n0 c0 : Nat) (xs0 : List Int) (B0 : Option Addr) (m0 d0 : Nat) (L0 : List Row) (w : World) (hn0 : n0 = xs0.length) (hs0 : n0 ≤ 9223372036854775807) (hR0 : Rd w A0 (iv xs0)) (hm0 : m0 = L0.length) (ht0 : m0 ≤ 9223372036854775807) (hl0 : ∀ i, i < L0.length → (rg L0 i).xs.length ≤ 9223372036854775807) (hQ0 : RdR w B0 L0) :
    Calls Try.prog 5 #[.agg #[.slice A0 n0 c0, .slice B0 m0 d0]] w fun e w' => e = .returned (.bool true) ∧ Below w.heap.size w w' := by
  have hI := (Inw.start w).allocBox #[.slice A0 n0 c0, .slice B0 m0 d0] 41
  have I0 := Lib.hid hI
  clear hI
  have Hn0 := Lib.hid hn0
  have HR0 := Lib.hid hR0
  have Hm0 := Lib.hid hm0
  have HL0 := Lib.hid hl0
  have HQ0 := Lib.hid hQ0
  clear hn0 hR0 hm0 hl0 hQ0
  go_enter Try.func5, Try.ntmps5
  go_wp2_with fail
  refine (szModule_any A0 B0 n0 c0 m0 d0 L0 (1048576) _ hs0 Hm0.out ht0 HL0.out (by omega) (by omega) (HQ0.out.below I0.out.bel)).mono ?_
  rintro e w1 ⟨z0, rfl, hz, hb⟩
  have I1 := Lib.hid (I0.out.step hb)
  clear hb
  obtain ⟨u_a0_1, v_a0_1, x_a0_1, y_a0_1, z_a0_1⟩ := blk2cells (I1.out.box 0 rfl)
  rcases hz with rfl | ⟨hz0, hy0⟩
  · go_wp2_with fail
    go_ret
    exact ⟨rfl, I1.out.bel⟩
  have hi0 : ¬ z0 < 0 := by omega
  have hk0 : tot L0 ≤ 1048576 := by omega
  have HLL0 := Lib.hid (fun i (hi : i < L0.length) => Nat.le_trans (len_le_tot hi) hk0)
  have HTO0 := Lib.hid (fun W (hb : Below w.heap.size w W) => toModule_any A0 B0 n0 c0 m0 d0 xs0 L0 W Hn0.out (by omega) (HR0.out.below hb) Hm0.out (by omega) HLL0.out (HQ0.out.below hb))
  obtain ⟨rr, hrr⟩ : ∃ rr, eulerNumberOf xs0 L0 = rr := ⟨_, rfl⟩
  have HDD := Lib.hid (fun (M0 : List Row) (e0 : dat M0 = dat L0) => (eulerNumberOf_dat e0).trans hrr)
  clear hrr
  have HSP := Lib.hid (fun (W : World) (C0 : Option Addr) (r0 : Rd W C0 (iv xs0)) (E0 : Option Addr) (M0 : List Row) (e0 : dat M0 = dat L0) (q0 : RdR W E0 M0) => show Calls Try.prog 25 #[.agg #[.slice C0 n0 n0, .slice E0 m0 m0]] W (ResI rr W) from by
    have h : Calls Try.prog 25 #[.agg #[.slice C0 n0 n0, .slice E0 m0 m0]] W (ResI (eulerNumberOf xs0 M0) W) := specEulerNumber_any C0 n0 n0 xs0 E0 m0 m0 M0 W Hn0.out (by omega) r0 (by rw [Hm0.out, (dat_xs e0).1]) (by omega) (by intro i hi; rw [(dat_xs e0).2 i]; exact HLL0.out i (by rw [← (dat_xs e0).1]; exact hi)) q0
    rw [HDD.out M0 e0] at h
    exact h)
  have HIM := Lib.hid (fun (W : World) (C0 : Option Addr) (r0 : Rd W C0 (iv xs0)) (E0 : Option Addr) (M0 : List Row) (e0 : dat M0 = dat L0) (q0 : RdR W E0 M0) => show Calls Try.prog 27 #[.agg #[.slice C0 n0 n0, .slice E0 m0 m0]] W (ResI rr W) from by
    have h : Calls Try.prog 27 #[.agg #[.slice C0 n0 n0, .slice E0 m0 m0]] W (ResI (eulerNumberOf xs0 M0) W) := implEulerNumber_any C0 n0 n0 xs0 E0 m0 m0 M0 W Hn0.out (by omega) r0 (by rw [Hm0.out, (dat_xs e0).1]) (by omega) (by intro i hi; rw [(dat_xs e0).2 i]; exact HLL0.out i (by rw [← (dat_xs e0).1]; exact hi)) q0
    rw [HDD.out M0 e0] at h
    exact h)
  go_wp2_with fail
  refine (HTO0.out _ I1.out.bel).mono ?_
  rintro e w2 ⟨gs0, hs0, Ms0, rfl, hd, ho, hb⟩
  have I2 := Lib.hid (I1.out.pushMod hb ho)
  have HDs0 := Lib.hid hd
  clear hd
  clear ho hb
  clear u_a0_1 v_a0_1 x_a0_1 y_a0_1 z_a0_1
  obtain ⟨u_a0_2, v_a0_2, x_a0_2, y_a0_2, z_a0_2⟩ := blk2cells (I2.out.box 1 rfl)
  go_wp2_with fail
  refine (HSP.out _ _ (owns_Rd (by have h := (I2.out.mod 0 rfl).deg; rw [← Hn0.out] at h; exact h)) _ _ HDs0.out ((I2.out.mod 0 rfl).act.rd (by rw [Hm0.out, (dat_xs HDs0.out).1]))).mono ?_
  rintro e w3 ⟨rfl, hb⟩
  have I3 := Lib.hid (I2.out.step hb)
  clear hb
  clear u_a0_2 v_a0_2 x_a0_2 y_a0_2 z_a0_2
  obtain ⟨u_a0_3, v_a0_3, x_a0_3, y_a0_3, z_a0_3⟩ := blk2cells (I3.out.box 1 rfl)
  go_wp2_with fail
  refine (HTO0.out _ I3.out.bel).mono ?_
  rintro e w4 ⟨gx0, hx0, Mx0, rfl, hd, ho, hb⟩
  have I4 := Lib.hid (I3.out.pushMod hb ho)
  have HDx0 := Lib.hid hd
  clear hd
  clear ho hb
  clear u_a0_3 v_a0_3 x_a0_3 y_a0_3 z_a0_3
  obtain ⟨u_a0_4, v_a0_4, x_a0_4, y_a0_4, z_a0_4⟩ := blk2cells (I4.out.box 2 rfl)
  go_wp2_with fail
  have hI := I4.out.allocBox #[.slice (some ⟨gx0, 0, none⟩) n0 n0, .slice (some ⟨hx0, 0, none⟩) m0 m0] 45
  refine (HIM.out _ _ (owns_Rd (by have h := (hI.mod 1 rfl).deg; rw [← Hn0.out] at h; exact h)) _ _ HDx0.out ((hI.mod 1 rfl).act.rd (by rw [Hm0.out, (dat_xs HDx0.out).1]))).mono ?_
  rintro e w5 ⟨rfl, hb⟩
  have I5 := Lib.hid (hI.step hb)
  clear hb
  clear hI
  clear u_a0_4 v_a0_4 x_a0_4 y_a0_4 z_a0_4
  obtain ⟨u_a0_5, v_a0_5, x_a0_5, y_a0_5, z_a0_5⟩ := blk2cells (I5.out.box 3 rfl)
  obtain ⟨u_b0_5, v_b0_5, x_b0_5, y_b0_5, z_b0_5⟩ := blk2cells (I5.out.box 0 rfl)
  go_wp2_with fail
  have KS := Lib.hid (fun w' (hb : Below w5.heap.size w5 w') => show w'.cell? ⟨w4.heap.size, 0, none⟩ = some (.slice (some ⟨gx0, 0, none⟩) n0 n0) ∧ w'.cell? ⟨w4.heap.size, 1, none⟩ = some (.slice (some ⟨hx0, 0, none⟩) m0 m0) ∧ w'.cell? ⟨w.heap.size, 0, none⟩ = some (.slice A0 n0 c0) ∧ w'.cell? ⟨w.heap.size, 1, none⟩ = some (.slice B0 m0 d0) from by
    have J := I5.out.step hb
    exact ⟨(blk2cells (J.box 0 rfl)).1, (blk2cells (J.box 0 rfl)).2.1, (blk2cells (J.box 3 rfl)).1, (blk2cells (J.box 3 rfl)).2.1⟩)
  have HB_0 := Lib.hid (Below.drew (Below.refl w5.heap.size w5))
  have I6 := Lib.hid I5.out.drew
  clear u_a0_5 v_a0_5 x_a0_5 y_a0_5 z_a0_5 u_b0_5 v_b0_5 x_b0_5 y_b0_5 z_b0_5
  go_region_held3 (fun w' => w'.cell? ⟨w4.heap.size, 0, none⟩ = some (.slice (some ⟨gx0, 0, none⟩) n0 n0) ∧ w'.cell? ⟨w4.heap.size, 1, none⟩ = some (.slice (some ⟨hx0, 0, none⟩) m0 m0) ∧ w'.cell? ⟨w.heap.size, 0, none⟩ = some (.slice A0 n0 c0) ∧ w'.cell? ⟨w.heap.size, 1, none⟩ = some (.slice B0 m0 d0))
      (first | exact KS.out _ HB_0.out | exact KS.out _ HB_1.out | exact KS.out _ HB_2.out)
      (first
        | (go_at_call 26; (with_reducible refine (HTO0.out _ I6.out.bel).mono ?_); (rintro e w6 ⟨ge0, he0, Me0, rfl, hd, ho, hb⟩; have I7 := Lib.hid (I6.out.pushMod hb ho); have HDe0 := Lib.hid hd; have HB_1 := Lib.hid (HB_0.out.trans (hb.mono HB_0.out.size)); clear ho hb hd))
        | (go_at_call 28; (with_reducible refine (eqModule_any _ _ _ _ n0 n0 n0 m0 m0 m0 xs0 _ _ _ Hn0.out (by omega) (by rw [Hm0.out, (dat_xs HDx0.out).1]) (by omega) (by intro i hi; rw [(dat_xs HDx0.out).2 i]; exact HLL0.out i (by rw [← (dat_xs HDx0.out).1]; exact hi)) (HDe0.out.trans HDx0.out.symm) (owns_Rd (by have h := (I7.out.mod 2 rfl).deg; rw [← Hn0.out] at h; exact h)) (owns_Rd (by have h := (I7.out.mod 0 rfl).deg; rw [← Hn0.out] at h; exact h)) ((I7.out.mod 2 rfl).act.rd (by rw [Hm0.out, (dat_xs HDx0.out).1])) ((I7.out.mod 0 rfl).act.rd (by rw [Hm0.out, (dat_xs HDe0.out).1]))).mono ?_); (rintro e w7 ⟨rfl, hb⟩; have I8 := Lib.hid (I7.out.step hb); have HB_2 := Lib.hid (HB_1.out.trans (hb.mono HB_1.out.size)); clear hb)))
  clear HB_0 HB_1 HB_2 KS
  obtain ⟨u_a0_8, v_a0_8, x_a0_8, y_a0_8, z_a0_8⟩ := blk2cells (I8.out.box 4 rfl)
  obtain ⟨u_b0_8, v_b0_8, x_b0_8, y_b0_8, z_b0_8⟩ := blk2cells (I8.out.box 1 rfl)
  go_wp2_with fail
  go_ret
  exact ⟨rfl, I8.out.bel⟩
end Go.Proofs.Ytocllmhkppkfoaa
