/- the program's GeneratorCounts · FnExactGeneratorCounts: the walk of the law (printed by mkl2.py) -/
import Derived.Test.YtocllmhkppkfoaaDoorZaq
import Derived.Test.YtocllmhkppkfoaaDoorZau
import Derived.Test.YtocllmhkppkfoaaDoorZax
import Derived.Test.YtocllmhkppkfoaaDoorZae
import Derived.Deep.RegionHeld3
namespace Go.Proofs.YtocllmhkppkfoaaDoor
open Go.RowKit

theorem sqAll_lt {xs : List Int} {Q : List (List Int)} (h : Shp xs Q) {k : Nat} : ∀ r ∈ sqAll Q xs.length k, r < 2 ^ xs.length := fun r hr => by
  obtain ⟨n, i, hn, hi, rfl⟩ := (mem_sqAll k).1 hr
  rw [sqOr_act h]; exact act_lt h (pow_lt_len hi) _
theorem sp_lt {S : List Nat} {n : Nat} (h : ∀ r ∈ S, r < 2 ^ n) {v : Nat} (hv : Sp S v) : v < 2 ^ n := by
  induction hv with
  | zero => exact Nat.two_pow_pos _
  | add hm _ ih => exact xr_lt (h _ hm) ih
/-- reduced rows of masks: no 0, pivots below the number of digits -/
theorem reduce_pv {S : List Nat} {n : Nat} (hS : ∀ r ∈ S, Sm r) (h : ∀ r ∈ S, r < 2 ^ n) : ∀ r ∈ reduceS S, r ≠ 0 ∧ Sm r ∧ pv r < n := fun r hr => by
  have h1 := (red_reduce hS).ne r hr
  exact ⟨h1.1, h1.2, pv_lt h1.1 h1.2 (sp_lt h ((sp_reduce hS r).1 (.mem hr)))⟩
theorem gen_less {xs : List Int} {Q : List (List Int)} (h : Shp xs Q) : lessP xs (degL xs (reduceS (sqAll Q xs.length 20))) (reduceS (sqAll Q xs.length 20)).length = genP xs Q 21 := by
  refine list_ext_getD (lessP_length _ _ _) (genP_length _ _ _) fun d hd => ?_
  rw [lessP_getD _ _ _ hd, genP_getD _ _ _ hd, if_pos hd, List.take_of_length_le (by rw [degL_length]; exact Nat.le_refl _)]
  unfold degL
  rw [cnt_ofDeg, gen_law h d (by omega)]

set_option maxRecDepth 100000 in
set_option maxHeartbeats 8000000 in
theorem implGeneratorCounts_any (A : Option Addr) (n c : Nat) (xs : List Int) (A' : Option Addr) (m c' : Nat) (L : List Row) (w : World) (hT : Tab w) (hw : 0 < w.heap.size) (hn : n = xs.length) (hsm : n ≤ 1048576) (hR : Rd w A (iv xs)) (hm : m = L.length) (hm1 : m ≤ 1048576) (hl : ∀ i, i < L.length → (rg L i).xs.length ≤ 1048576) (hR' : RdR w A' L) :
    Calls Tryd.prog 11 #[.agg #[.slice A n c, .slice A' m c']] w (ResS (generatorCountsOf xs L) w) := by
  have hb0 : Below w.heap.size w (w.alloc (.cells #[.slice A n c, .slice A' m c'] 29)) := (Below.refl _ _).alloc (Nat.le_refl _) _
  have hk0 := blk_new w (.cells #[.slice A n c, .slice A' m c'] 29)
  obtain ⟨x0, x1, xf0, xf1, lx⟩ := blk2cells hk0
  have HM := Lib.hid (isModule_any A A' n c m c' xs L _ hn hsm (hR.below hb0) hm hm1 hl (hR'.below hb0))
  have HB0 := Lib.hid hb0
  have HK0 := Lib.hid hk0
  cases hmod : modB xs (dat L)
  · rw [hmod] at HM
    have HF := Lib.hid (generatorCountsOf_no hmod)
    clear hb0 hk0 hn hR hm hl hR' hmod hT
    go_enter Tryd.func11, Tryd.ntmps11
    go_wp2_with (go_at_call 72; refine HM.out.mono ?_; rintro e w1 ⟨rfl, hb⟩; have HB1 := Lib.hid (HB0.out.trans (hb.mono HB0.out.size)); clear hb)
    go_ret2
    exact ⟨.slice none 0 0, by rw [HF.out]; rfl, by rw [HF.out]; exact World.ownsRow_nil _ _ _ _, HB1.out⟩
  · rw [hmod] at HM
    have hshp := (modB_iff.1 hmod).shp
    have h16 : n ≤ 16 := by rw [hn]; exact hshp.len
    have HD := Lib.hid hshp.deg
    have HSH := Lib.hid hshp
    have HF := Lib.hid (generatorCountsOf_yes hmod)
    have HGL : Hid (lessP xs (degL xs (reduceS (sqAll (dat L) n 20))) (reduceS (sqAll (dat L) n 20)).length = genP xs (dat L) 21) := Lib.hid (by rw [hn]; exact gen_less hshp)
    have HRS : Hid (∀ r ∈ sqAll (dat L) n 20, Sm r) := Lib.hid (by rw [hn]; exact sqAll_sm hshp)
    have HRP : Hid (∀ r ∈ reduceS (sqAll (dat L) n 20), r ≠ 0 ∧ Sm r ∧ pv r < n) := Lib.hid (by rw [hn]; exact reduce_pv (sqAll_sm hshp) (sqAll_lt hshp))
    have HTO := Lib.hid (fun W (hb : Below w.heap.size w W) => tableOf_any A A' n c m c' xs L W hn hm hm1 hshp (hR'.below hb))
    have HLC := Lib.hid (fun (V : Option Addr) (k cv : Nat) (S : List Nat) W (hb : Below w.heap.size w W) hk hk1 hS hV => lessCounts_any A A' V n c m c' k cv xs S W (hT.below hb hw) (by have := hb.size; omega) hn hsm hshp.deg hk hk1 hS (hR.below hb) hV)
    have HTB := Lib.hid (fun W (hb : Below w.heap.size w W) => hT.below hb hw)
    have Hn := Lib.hid hn
    clear hb0 hk0 hn hR hm hl hR' hmod hshp hT
    go_enter Tryd.func11, Tryd.ntmps11
    go_wp2_with fail
    refine HM.out.mono ?_
    rintro e w1 ⟨rfl, hb⟩
    have HB1 := Lib.hid (HB0.out.trans (hb.mono HB0.out.size))
    have HK1 := Lib.hid (blk_kept HK0.out hb)
    clear hb x0 x1 xf0 xf1 lx
    have HB2 : Hid (Below w.heap.size w (w1.alloc (.cells #[] 2))) := Lib.hid (HB1.out.alloc HB1.out.size _)
    have HO2 : Hid ((w1.alloc (.cells #[] 2)).ownsRow w1.heap.size 2 1 (.slice (some ⟨w1.heap.size, 0, none⟩) 0 0) 0 (nv [])) := Lib.hid (World.ownsRow_made w1 #[] 0 (Nat.le_refl _) (by decide) (by simp))
    obtain ⟨x0, x1, xf0, xf1, lx⟩ := blk2cells (blk_alloc HK1.out (.cells #[] 2))
    go_wp2_with fail
    refine (HTO.out _ HB2.out).mono ?_
    rintro e w3 ⟨g, h, rfl, ht⟩
    have HK3 := Lib.hid (blk_below (blk_alloc HK1.out (.cells #[] 2)) ht.bel lx)
    have HB3 := Lib.hid (HB2.out.trans (ht.bel.mono HB2.out.size))
    have HO3 : Hid (w3.ownsRow w1.heap.size 2 1 (.slice (some ⟨w1.heap.size, 0, none⟩) 0 0) 0 (nv (sqAll (dat L) n 0))) := Lib.hid (owns_keeps HO2.out (Keeps.of_below ht.bel) (.inr (by simp)))
    have hge := ht.ge
    have hgh : ∀ k, k < 21 → w1.heap.size + 1 ≤ h k := fun k hk => by
      have := ((ht.own k hk).lt (h k) rfl).1
      simpa using this
    have HGH := Lib.hid hgh
    have hge' : w1.heap.size + 1 ≤ g := by simpa using hge
    have hs01 : w.heap.size ≤ w1.heap.size := HB1.out.size
    have HTM := Lib.hid ht
    clear x0 x1 xf0 xf1 lx hge ht hgh
    obtain ⟨x0, x1, xf0, xf1, lx⟩ := blk2cells HK3.out
    go_wp2_with fail
    go_loopw [4, 17] (fun q i wr => ∃ (k : Nat) (v : Value), k ≤ 20 ∧ i = .int .i64 k ∧ q = v ∧ wr.ownsRow w1.heap.size 2 1 v (k * n) (nv (sqAll (dat L) n k)) ∧ (v.ownBlock = some w1.heap.size ∨ ∃ j, v.ownBlock = some j ∧ w3.heap.size ≤ j) ∧ Keeps w3 wr [some w1.heap.size]) (fun _ i _ => 20 - (intOf i).toNat)
    case atStart => exact ⟨0, _, by omega, rfl, rfl, by rw [Nat.zero_mul]; exact HO3.out, .inl rfl, Keeps.refl _ _⟩
    case round =>
      obtain ⟨k, v, hk, rfl, rfl, hown, hvb, hkp⟩ := hrel
      have HO := Lib.hid hown
      have HV := Lib.hid hvb
      have HKP := Lib.hid hkp
      have hs3 := hkp.size
      have hs2 := HB3.out.size
      have hs13 : w1.heap.size + 1 ≤ w3.heap.size := by have := HTM.out.bel.size; simpa using this
      have hblk : ∀ i, w.heap.size + i ≠ w1.heap.size ∨ True := fun _ => .inr trivial
      by_cases hlt : k < 20
      · have hki : (k : Int) < 20 := by omega
        have hcell : wr.cell? ⟨g, 2 + k, none⟩ = some (.slice (some ⟨h (k + 1), 0, none⟩) n n) := by
          have := hkp.cellSome (HTM.out.cell (k := k + 1) (by omega)) (by simp; omega)
          rw [show 2 + k = 1 + (k + 1) by omega]; exact this
        have HRW : Hid (Rd wr (some ⟨h (k + 1), 0, none⟩) (nv (sqRow (dat L) n (k + 1)))) := Lib.hid ((owns_Rd (HTM.out.own (k + 1) (by omega))).keeps hkp (by
          rintro a ⟨⟩
          have := HGH.out (k + 1) (by omega)
          simp; omega))
        have hkn : k * n ≤ 320 := Nat.le_trans (Nat.mul_le_mul (by omega : k ≤ 20) h16) (by omega)
        obtain ⟨Av, cv, rfl, _⟩ := owns_shape hown
        clear hown hvb hkp hblk
        go_wp2_with (at_builtin; refine wpList_appR _ _ _ _ _ etI (by rfl) (by rfl) w1.heap.size (.slice Av (k * n) cv) (k * n) (nv (sqAll (dat L) n k)) (by rfl) HO.out (some ⟨h (k + 1), 0, none⟩) n n (nv (sqRow (dat L) n (k + 1))) (by rfl) (by rw [nv_length, sqRow_length]) HRW.out (nv_one _) (by omega) (by omega) ?_; (intro v' w4 hown' hg' hat'; have HO' := Lib.hid hown'; have HG' := Lib.hid hg'; have HA' := Lib.hid hat'; clear hown' hg' hat'))
        go_roundw
        case rel =>
          refine ⟨k + 1, v', by omega, by go_num, rfl, ?_, ?_, HKP.out.trans (Keeps.of_grown HG'.out) ?_⟩
          · rw [Nat.succ_mul]
            have e : nv (sqAll (dat L) n (k + 1)) = nv (sqAll (dat L) n k) ++ nv (sqRow (dat L) n (k + 1)) := by simp [sqAll, nv]
            rw [e]; exact HO'.out
          · rcases HA'.out with e | e
            · rw [e]; exact HV.out
            · exact .inr ⟨_, e, hs3⟩
          · intro j hj hm
            rcases hm with hm | hm
            · exact hm
            · rcases HV.out with e | ⟨q, e, hq⟩
              · rw [e] at hm; exact hm
              · rw [e] at hm
                simp only [List.mem_singleton, Option.some.injEq] at hm
                omega
        case measure => simp [intOf]; omega
      · obtain rfl : k = 20 := by omega
        have hk20 : ((20 : Nat) : Int) = 20 := rfl
        obtain ⟨Av, cv, rfl, _⟩ := owns_shape hown
        have HBR := Lib.hid (hkp.to_below (B := w1.heap.size) (by omega) (by intro j hj; simp only [List.mem_singleton, Option.some.injEq] at hj; omega))
        have HBW : Hid (Below w.heap.size w wr) := Lib.hid (HB3.out.trans (HBR.out.mono hs01))
        have HRR := Lib.hid (owns_Rd hown)
        have HKW := Lib.hid (blk_below HK3.out (hkp.to_below (B := w1.heap.size) (by omega) (by intro j hj; simp only [List.mem_singleton, Option.some.injEq] at hj; omega)) (by have := HK1.out; exact (Array.getElem?_eq_some_iff.1 HK1.out).1))
        have hkn : 20 * n ≤ 320 := by omega
        have KS := Lib.hid (fun w' (hb : Below wr.heap.size wr w') => show w'.cell? ⟨w.heap.size, 0, none⟩ = some (.slice A n c) ∧ w'.cell? ⟨w.heap.size, 1, none⟩ = some (.slice A' m c') from by
          have J := blk2cells (blk_kept HKW.out hb)
          exact ⟨J.1, J.2.1⟩)
        have HB_0 := Lib.hid (Below.drew (Below.refl wr.heap.size wr))
        have hswr : w.heap.size ≤ wr.heap.size := HBW.out.size
        have HRED := Lib.hid (fun W (hb : Below wr.heap.size wr W) => reduced_any Av (20 * n) cv (sqAll (dat L) n 20) W (HTB.out _ (HBW.out.trans (hb.mono hswr))) (by have := hb.size; omega) (sqAll_length _ _ _).symm (by omega) HRS.out (HRR.out.below hb))
        have HLN : Hid ((reduceS (sqAll (dat L) n 20)).length ≤ 320) := Lib.hid (by
          have := reduceS_length_le (sqAll (dat L) n 20)
          rw [sqAll_length] at this; omega)
        generalize sqAll (dat L) n 20 = Z at *
        clear hown hvb hkp hblk x0 x1 xf0 xf1 lx
        go_wp2_with fail
        go_region_held3 (fun w' => w'.cell? ⟨w.heap.size, 0, none⟩ = some (.slice A n c) ∧ w'.cell? ⟨w.heap.size, 1, none⟩ = some (.slice A' m c'))
          (first | exact KS.out _ HB_0.out | exact KS.out _ HB_1.out | exact KS.out _ HB_2.out)
          (first
            | (go_at_call 75; (with_reducible refine (HRED.out _ HB_0.out).mono ?_); (rintro e w5 ⟨v5, rfl, ho, hb⟩; obtain ⟨A5, c5, rfl, _⟩ := owns_shape ho; have HR5 := Lib.hid (owns_Rd ho); have HB_1 := Lib.hid (HB_0.out.trans (hb.mono HB_0.out.size)); clear ho hb))
            | (go_at_call 74; (with_reducible refine (HLC.out _ _ _ (reduceS Z) _ (HBW.out.trans (HB_1.out.mono hswr)) rfl (by have := HLN.out; omega) HRP.out HR5.out).mono ?_); (rintro e w6 ⟨g6, rfl, ho, hb⟩; have HO6 := Lib.hid ho; have HB_2 := Lib.hid (HB_1.out.trans (hb.mono HB_1.out.size)); clear ho hb)))
        have HO7 := Lib.hid (HO6.out.mono (Nat.le_trans hswr HB_1.out.size))
        go_wp2_with fail
        go_ret2
        exact ⟨_, by rw [HF.out]; rfl, by rw [HF.out]; simp only [genP_length]; rw [← HGL.out]; exact HO7.out, HBW.out.trans (HB_2.out.mono hswr)⟩
end Go.Proofs.YtocllmhkppkfoaaDoor

namespace Go.Proofs.YtocllmhkppkfoaaDoor
open Go.RowKit

set_option maxRecDepth 100000 in
set_option maxHeartbeats 8000000 in
theorem lawGeneratorCounts_any (A0 : Option Addr) (n0 c0 : Nat) (xs0 : List Int) (B0 : Option Addr) (m0 d0 : Nat) (L0 : List Row) (w : World) (hT : Tab w) (hw : 0 < w.heap.size) (hn0 : n0 = xs0.length) (hs0 : n0 ≤ 9223372036854775807) (hR0 : Rd w A0 (iv xs0)) (hm0 : m0 = L0.length) (ht0 : m0 ≤ 9223372036854775807) (hl0 : ∀ i, i < L0.length → (rg L0 i).xs.length ≤ 9223372036854775807) (hQ0 : RdR w B0 L0) :
    Calls Tryd.prog 3 #[.agg #[.slice A0 n0 c0, .slice B0 m0 d0]] w fun e w' => e = .returned (.bool true) ∧ Below w.heap.size w w' := by
  have hI := (Inw.start w).allocBox #[.slice A0 n0 c0, .slice B0 m0 d0] 25
  have I0 := Lib.hid hI
  clear hI
  have HT := Lib.hid hT
  clear hT
  have Hn0 := Lib.hid hn0
  have HR0 := Lib.hid hR0
  have Hm0 := Lib.hid hm0
  have HL0 := Lib.hid hl0
  have HQ0 := Lib.hid hQ0
  clear hn0 hR0 hm0 hl0 hQ0
  go_enter Tryd.func3, Tryd.ntmps3
  go_wp2_with fail
  refine (szModule_any A0 B0 n0 c0 m0 d0 L0 (1048576) _ hs0 Hm0.out ht0 HL0.out (by omega) (by omega) (HQ0.out.below I0.out.bel)).mono ?_
  rintro e w1 ⟨z0, rfl, hz, hb⟩
  have I1 := Lib.hid (I0.out.step hb)
  clear hb
  obtain ⟨u_a0_1, v_a0_1, x_a0_1, y_a0_1, z_a0_1⟩ := blk2cells (I1.out.box 0 rfl)
  rcases hz with rfl | ⟨hz0, hy0⟩
  · go_wp2_with fail
    go_ret
    exact ⟨rfl, I1.out.bel⟩
  have hi0 : ¬ z0 < 0 := by omega
  have hk0 : tot L0 ≤ 1048576 := by omega
  have HLL0 := Lib.hid (fun i (hi : i < L0.length) => Nat.le_trans (len_le_tot hi) hk0)
  have HTO0 := Lib.hid (fun W (hb : Below w.heap.size w W) => toModule_any A0 B0 n0 c0 m0 d0 xs0 L0 W Hn0.out (by omega) (HR0.out.below hb) Hm0.out (by omega) HLL0.out (HQ0.out.below hb))
  obtain ⟨rr, hrr⟩ : ∃ rr, generatorCountsOf xs0 L0 = rr := ⟨_, rfl⟩
  have hlen := generatorCountsOf_len xs0 L0
  rw [hrr] at hlen
  have HDD := Lib.hid (fun (M0 : List Row) (e0 : dat M0 = dat L0) => (generatorCountsOf_dat e0).trans hrr)
  clear hrr
  have hnb0 : n0 ≤ 1048576 := by omega
  have hmb0 : m0 ≤ 1048576 := by omega
  have HSP := Lib.hid (fun (W : World) (C0 : Option Addr) (r0 : Rd W C0 (iv xs0)) (E0 : Option Addr) (M0 : List Row) (e0 : dat M0 = dat L0) (q0 : RdR W E0 M0) => show Calls Tryd.prog 9 #[.agg #[.slice C0 n0 n0, .slice E0 m0 m0]] W (ResS rr W) from by
    have h : Calls Tryd.prog 9 #[.agg #[.slice C0 n0 n0, .slice E0 m0 m0]] W (ResS (generatorCountsOf xs0 M0) W) := specGeneratorCounts_any C0 n0 n0 xs0 E0 m0 m0 M0 W Hn0.out (by omega) r0 (by rw [Hm0.out, (dat_xs e0).1]) (by omega) (by intro i hi; rw [(dat_xs e0).2 i]; exact HLL0.out i (by rw [← (dat_xs e0).1]; exact hi)) q0
    rw [HDD.out M0 e0] at h
    exact h)
  have HIM := Lib.hid (fun (W : World) (tb : Tab W) (tw : 0 < W.heap.size) (C0 : Option Addr) (r0 : Rd W C0 (iv xs0)) (E0 : Option Addr) (M0 : List Row) (e0 : dat M0 = dat L0) (q0 : RdR W E0 M0) => show Calls Tryd.prog 11 #[.agg #[.slice C0 n0 n0, .slice E0 m0 m0]] W (ResS rr W) from by
    have h : Calls Tryd.prog 11 #[.agg #[.slice C0 n0 n0, .slice E0 m0 m0]] W (ResS (generatorCountsOf xs0 M0) W) := implGeneratorCounts_any C0 n0 n0 xs0 E0 m0 m0 M0 W tb tw Hn0.out (by omega) r0 (by rw [Hm0.out, (dat_xs e0).1]) (by omega) (by intro i hi; rw [(dat_xs e0).2 i]; exact HLL0.out i (by rw [← (dat_xs e0).1]; exact hi)) q0
    rw [HDD.out M0 e0] at h
    exact h)
  go_wp2_with fail
  clear hz0 hy0 hi0 hs0 ht0
  refine (HTO0.out _ I1.out.bel).mono ?_
  rintro e w2 ⟨gs0, hs0, Ms0, rfl, hd, ho, hb⟩
  have I2 := Lib.hid (I1.out.pushMod hb ho)
  have HDs0 := Lib.hid hd
  clear hd
  clear ho hb
  clear u_a0_1 v_a0_1 x_a0_1 y_a0_1 z_a0_1
  obtain ⟨u_a0_2, v_a0_2, x_a0_2, y_a0_2, z_a0_2⟩ := blk2cells (I2.out.box 1 rfl)
  go_wp2_with fail
  refine (HSP.out _ _ (owns_Rd (by have h := (I2.out.mod 0 rfl).deg; rw [← Hn0.out] at h; exact h)) _ _ HDs0.out ((I2.out.mod 0 rfl).act.rd (by rw [Hm0.out, (dat_xs HDs0.out).1]))).mono ?_
  rintro e w3 ⟨vs, rfl, ho, hb⟩
  have I3 := Lib.hid (I2.out.pushOwn hb ho)
  clear ho hb
  obtain ⟨As, ks, rfl, _, _, _⟩ := owns_shape (I3.out.own 0 rfl)
  clear u_a0_2 v_a0_2 x_a0_2 y_a0_2 z_a0_2
  obtain ⟨u_a0_3, v_a0_3, x_a0_3, y_a0_3, z_a0_3⟩ := blk2cells (I3.out.box 2 rfl)
  go_wp2_with fail
  refine (HTO0.out _ I3.out.bel).mono ?_
  rintro e w4 ⟨gx0, hx0, Mx0, rfl, hd, ho, hb⟩
  have I4 := Lib.hid (I3.out.pushMod hb ho)
  have HDx0 := Lib.hid hd
  clear hd
  clear ho hb
  clear u_a0_3 v_a0_3 x_a0_3 y_a0_3 z_a0_3
  obtain ⟨u_a0_4, v_a0_4, x_a0_4, y_a0_4, z_a0_4⟩ := blk2cells (I4.out.box 3 rfl)
  go_wp2_with fail
  have hI := I4.out.allocBox #[.slice (some ⟨gx0, 0, none⟩) n0 n0, .slice (some ⟨hx0, 0, none⟩) m0 m0] 29
  refine (HIM.out _ (HT.out.below hI.bel hw) (by have := hI.size; omega) _ (owns_Rd (by have h := (hI.mod 1 rfl).deg; rw [← Hn0.out] at h; exact h)) _ _ HDx0.out ((hI.mod 1 rfl).act.rd (by rw [Hm0.out, (dat_xs HDx0.out).1]))).mono ?_
  rintro e w5 ⟨vg, rfl, ho, hb⟩
  have I5 := Lib.hid (hI.pushOwn hb ho)
  clear ho hb
  obtain ⟨Ag, kg, rfl, _, _, _⟩ := owns_shape (I5.out.own 0 rfl)
  clear hI
  clear u_a0_4 v_a0_4 x_a0_4 y_a0_4 z_a0_4
  obtain ⟨u_a0_5, v_a0_5, x_a0_5, y_a0_5, z_a0_5⟩ := blk2cells (I5.out.box 5 rfl)
  obtain ⟨u_b0_5, v_b0_5, x_b0_5, y_b0_5, z_b0_5⟩ := blk2cells (I5.out.box 1 rfl)
  go_wp2_with fail
  refine (eqIntsB_any _ _ _ _ _ rr.1 _ rfl (by omega) (owns_Rd (I5.out.own 0 rfl)) (owns_Rd (I5.out.own 3 rfl))).mono ?_
  rintro e w6 ⟨rfl, hb⟩
  have I6 := Lib.hid (I5.out.step hb)
  clear hb
  clear u_a0_5 v_a0_5 x_a0_5 y_a0_5 z_a0_5 u_b0_5 v_b0_5 x_b0_5 y_b0_5 z_b0_5
  obtain ⟨u_a0_6, v_a0_6, x_a0_6, y_a0_6, z_a0_6⟩ := blk2cells (I6.out.box 5 rfl)
  obtain ⟨u_b0_6, v_b0_6, x_b0_6, y_b0_6, z_b0_6⟩ := blk2cells (I6.out.box 1 rfl)
  go_wp2_with fail
  have KS := Lib.hid (fun w' (hb : Below w6.heap.size w6 w') => show w'.cell? ⟨w4.heap.size, 0, none⟩ = some (.slice (some ⟨gx0, 0, none⟩) n0 n0) ∧ w'.cell? ⟨w4.heap.size, 1, none⟩ = some (.slice (some ⟨hx0, 0, none⟩) m0 m0) ∧ w'.cell? ⟨w.heap.size, 0, none⟩ = some (.slice A0 n0 c0) ∧ w'.cell? ⟨w.heap.size, 1, none⟩ = some (.slice B0 m0 d0) from by
    have J := I6.out.step hb
    exact ⟨(blk2cells (J.box 1 rfl)).1, (blk2cells (J.box 1 rfl)).2.1, (blk2cells (J.box 5 rfl)).1, (blk2cells (J.box 5 rfl)).2.1⟩)
  have HB_0 := Lib.hid (Below.drew (Below.refl w6.heap.size w6))
  have I7 := Lib.hid I6.out.drew
  clear u_a0_6 v_a0_6 x_a0_6 y_a0_6 z_a0_6 u_b0_6 v_b0_6 x_b0_6 y_b0_6 z_b0_6
  go_region_held3 (fun w' => w'.cell? ⟨w4.heap.size, 0, none⟩ = some (.slice (some ⟨gx0, 0, none⟩) n0 n0) ∧ w'.cell? ⟨w4.heap.size, 1, none⟩ = some (.slice (some ⟨hx0, 0, none⟩) m0 m0) ∧ w'.cell? ⟨w.heap.size, 0, none⟩ = some (.slice A0 n0 c0) ∧ w'.cell? ⟨w.heap.size, 1, none⟩ = some (.slice B0 m0 d0))
      (first | exact KS.out _ HB_0.out | exact KS.out _ HB_1.out | exact KS.out _ HB_2.out)
      (first
        | (go_at_call 10; (with_reducible refine (HTO0.out _ I7.out.bel).mono ?_); (rintro e w7 ⟨ge0, he0, Me0, rfl, hd, ho, hb⟩; have I8 := Lib.hid (I7.out.pushMod hb ho); have HDe0 := Lib.hid hd; have HB_1 := Lib.hid (HB_0.out.trans (hb.mono HB_0.out.size)); clear ho hb hd))
        | (go_at_call 13; (with_reducible refine (eqModule_any _ _ _ _ n0 n0 n0 m0 m0 m0 xs0 _ _ _ Hn0.out (by omega) (by rw [Hm0.out, (dat_xs HDx0.out).1]) (by omega) (by intro i hi; rw [(dat_xs HDx0.out).2 i]; exact HLL0.out i (by rw [← (dat_xs HDx0.out).1]; exact hi)) (HDe0.out.trans HDx0.out.symm) (owns_Rd (by have h := (I8.out.mod 3 rfl).deg; rw [← Hn0.out] at h; exact h)) (owns_Rd (by have h := (I8.out.mod 0 rfl).deg; rw [← Hn0.out] at h; exact h)) ((I8.out.mod 3 rfl).act.rd (by rw [Hm0.out, (dat_xs HDx0.out).1])) ((I8.out.mod 0 rfl).act.rd (by rw [Hm0.out, (dat_xs HDe0.out).1]))).mono ?_); (rintro e w8 ⟨rfl, hb⟩; have I9 := Lib.hid (I8.out.step hb); have HB_2 := Lib.hid (HB_1.out.trans (hb.mono HB_1.out.size)); clear hb)))
  clear HB_0 HB_1 HB_2 KS
  obtain ⟨u_a0_9, v_a0_9, x_a0_9, y_a0_9, z_a0_9⟩ := blk2cells (I9.out.box 6 rfl)
  obtain ⟨u_b0_9, v_b0_9, x_b0_9, y_b0_9, z_b0_9⟩ := blk2cells (I9.out.box 2 rfl)
  go_wp2_with fail
  have HKB0 := Lib.hid (show (0 : Int) ≤ 1 ∧ (1 : Int) ≤ 1 from ⟨by decide, by decide⟩)
  have hxl0 : xs0.length ≤ 1048576 := by rw [← Hn0.out]; exact hnb0
  have hqx0 : tot Mx0 = tot L0 := tot_dat HDx0.out
  have htx0 : tot Mx0 ≤ 1048576 := by rw [hqx0]; exact hk0
  clear hqx0
  have hBx0 := (I9.out.mod 3 rfl).deg.lt gx0 rfl
  refine (markModule_any _ _ _ _ xs0 Mx0 (1) _ (Nat.le_trans hBx0.1 (Nat.le_of_lt hBx0.2)) (I9.out.mod 3 rfl) (I9.out.modUp 3 rfl) (Nat.le_trans hxl0 (by decide)) (by rw [(dat_xs HDx0.out).1, ← Hm0.out]; exact Nat.le_trans hmb0 (by decide)) (Nat.le_trans htx0 (by decide)) HKB0.out.1 (Int.le_trans HKB0.out.2 (by decide))).mono ?_
  clear hBx0
  rintro e w9 ⟨rfl, ho, hk⟩
  have I10 := Lib.hid (I9.out.markMod 3 rfl hk ho)
  clear ho hk
  have HKB1 : Hid (0 ≤ (1 + xs0.length + tot Mx0 : Int) ∧ (1 + xs0.length + tot Mx0 : Int) ≤ 2097153) := Lib.hid (kb_add2 HKB0.out hxl0 htx0)
  clear u_a0_9 v_a0_9 x_a0_9 y_a0_9 z_a0_9 u_b0_9 v_b0_9 x_b0_9 y_b0_9 z_b0_9
  obtain ⟨u_a0_10, v_a0_10, x_a0_10, y_a0_10, z_a0_10⟩ := blk2cells (I10.out.box 6 rfl)
  obtain ⟨u_b0_10, v_b0_10, x_b0_10, y_b0_10, z_b0_10⟩ := blk2cells (I10.out.box 2 rfl)
  have hnn0 : ¬ (1 + xs0.length + tot Mx0 : Int) < 0 := Int.not_lt.2 HKB1.out.1
  go_wp2_with fail
  refine (eqIntsB_any _ _ _ _ _ rr.1 _ rfl (by omega) (owns_Rd (I10.out.own 1 rfl)) (owns_Rd (I10.out.own 4 rfl))).mono ?_
  rintro e w10 ⟨rfl, hb⟩
  have I11 := Lib.hid (I10.out.step hb)
  clear hb
  clear u_a0_10 v_a0_10 x_a0_10 y_a0_10 z_a0_10 u_b0_10 v_b0_10 x_b0_10 y_b0_10 z_b0_10
  obtain ⟨u_a0_11, v_a0_11, x_a0_11, y_a0_11, z_a0_11⟩ := blk2cells (I11.out.box 6 rfl)
  obtain ⟨u_b0_11, v_b0_11, x_b0_11, y_b0_11, z_b0_11⟩ := blk2cells (I11.out.box 2 rfl)
  go_wp2_with fail
  refine (markInts_any _ _ rr.1.length rr.1 1 _ (I11.out.own 1 rfl) (by omega) (by omega) (by omega)).mono ?_
  rintro e w11 ⟨rfl, ho, hk⟩
  have I12 := Lib.hid (I11.out.markOwn 1 rfl hk ho)
  clear ho hk
  clear u_a0_11 v_a0_11 x_a0_11 y_a0_11 z_a0_11 u_b0_11 v_b0_11 x_b0_11 y_b0_11 z_b0_11
  obtain ⟨u_a0_12, v_a0_12, x_a0_12, y_a0_12, z_a0_12⟩ := blk2cells (I12.out.box 6 rfl)
  obtain ⟨u_b0_12, v_b0_12, x_b0_12, y_b0_12, z_b0_12⟩ := blk2cells (I12.out.box 2 rfl)
  go_wp2_with fail
  refine (heldInts_any _ rr.1.length _ 1 _ (owns_Rd (I12.out.own 1 rfl)) (by omega) (by omega) (by omega)).mono ?_
  rintro e w' ⟨rfl, rfl⟩
  go_wp2_with fail
  refine (HTO0.out _ I12.out.bel).mono ?_
  rintro e w12 ⟨gh0, hh0, Mh0, rfl, hd, ho, hb⟩
  have I13 := Lib.hid (I12.out.pushMod hb ho)
  have HDh0 := Lib.hid hd
  clear hd
  clear ho hb
  clear u_a0_12 v_a0_12 x_a0_12 y_a0_12 z_a0_12 u_b0_12 v_b0_12 x_b0_12 y_b0_12 z_b0_12
  obtain ⟨u_a0_13, v_a0_13, x_a0_13, y_a0_13, z_a0_13⟩ := blk2cells (I13.out.box 7 rfl)
  obtain ⟨u_b0_13, v_b0_13, x_b0_13, y_b0_13, z_b0_13⟩ := blk2cells (I13.out.box 3 rfl)
  go_wp2_with fail
  refine (HIM.out _ (HT.out.below I13.out.bel hw) (by have := I13.out.size; omega) _ (owns_Rd (by have h := (I13.out.mod 0 rfl).deg; rw [← Hn0.out] at h; exact h)) _ _ HDh0.out ((I13.out.mod 0 rfl).act.rd (by rw [Hm0.out, (dat_xs HDh0.out).1]))).mono ?_
  rintro e w13 ⟨vh, rfl, ho, hb⟩
  have I14 := Lib.hid (I13.out.pushOwn hb ho)
  clear ho hb
  obtain ⟨Ah, kh, rfl, _, _, _⟩ := owns_shape (I14.out.own 0 rfl)
  clear u_a0_13 v_a0_13 x_a0_13 y_a0_13 z_a0_13 u_b0_13 v_b0_13 x_b0_13 y_b0_13 z_b0_13
  obtain ⟨u_a0_14, v_a0_14, x_a0_14, y_a0_14, z_a0_14⟩ := blk2cells (I14.out.box 8 rfl)
  obtain ⟨u_b0_14, v_b0_14, x_b0_14, y_b0_14, z_b0_14⟩ := blk2cells (I14.out.box 4 rfl)
  go_wp2_with fail
  refine (eqIntsB_any _ _ _ _ _ rr.1 _ rfl (by omega) (owns_Rd (I14.out.own 0 rfl)) (owns_Rd (I14.out.own 6 rfl))).mono ?_
  rintro e w14 ⟨rfl, hb⟩
  have I15 := Lib.hid (I14.out.step hb)
  clear hb
  clear u_a0_14 v_a0_14 x_a0_14 y_a0_14 z_a0_14 u_b0_14 v_b0_14 x_b0_14 y_b0_14 z_b0_14
  obtain ⟨u_a0_15, v_a0_15, x_a0_15, y_a0_15, z_a0_15⟩ := blk2cells (I15.out.box 8 rfl)
  obtain ⟨u_b0_15, v_b0_15, x_b0_15, y_b0_15, z_b0_15⟩ := blk2cells (I15.out.box 4 rfl)
  go_wp2_with fail
  refine (heldInts_any _ rr.1.length _ 1 _ (owns_Rd (I15.out.own 3 rfl)) (by omega) (by omega) (by omega)).mono ?_
  rintro e w' ⟨rfl, rfl⟩
  go_wp2_with fail
  go_ret
  exact ⟨rfl, I15.out.bel⟩
end Go.Proofs.YtocllmhkppkfoaaDoor
