/- the program's counts, degreesOf, lessCounts · the program's kernel -/
import Derived.Test.YtocllmhkppkfoaaDoorZap
import Derived.Test.YtocllmhkppkfoaaDoorZaj
import Derived.Test.YtocllmhkppkfoaaDoorZau
import Derived.Deep.RegionHeld3
import Derived.Test.YtocllmhkppkfoaaDoorZah
namespace Go.Proofs.YtocllmhkppkfoaaDoor
open Go.RowKit

set_option maxRecDepth 100000 in
set_option maxHeartbeats 1000000 in
theorem counts_any (A : Option Addr) (n c : Nat) (xs : List Int) (w : World) (hn : n = xs.length) (hsm : n ≤ 1048576) (hd : ∀ i, i < xs.length → 0 ≤ xs.getD i 0 ∧ xs.getD i 0 ≤ 20) (hR : Rd w A (iv xs)) :
    Calls Tryd.prog 80 #[.slice A n c] w fun e w' => ∃ g, e = .returned (.slice (some ⟨g, 0, none⟩) 21 21) ∧ w'.ownsRow w.heap.size 2 1 (.slice (some ⟨g, 0, none⟩) 21 21) 21 (iv (cntL xs)) ∧ Below w.heap.size w w' := by
  have hmk : ∀ w : World, (Instr.makeSlice 22 (.int .i64 21) (.int .i64 21)).run Tryd.prog w = .ok (.slice (some ⟨w.heap.size, 0, none⟩) 21 21) (w.alloc (.cells (madeCells #[.int .i64 0] 21) 2)) := run_make_row' (P := Tryd.prog) 22 2 (.int .i64 0) 8 Tryd.underlying22 infoI rfl .i64 .i64 21 (by omega) (by omega)
  have HO0 := Lib.hid (made_own w w.heap.size 21 (Nat.le_refl _) (by omega))
  have HB0 : Hid (Below w.heap.size w (w.alloc (.cells (madeCells #[.int .i64 0] 21) 2))) := Lib.hid ((Below.refl _ _).alloc (Nat.le_refl _) _)
  have HR := Lib.hid hR
  have Hn := Lib.hid hn
  have HD := Lib.hid hd
  clear hR hn hd
  go_enter Tryd.func80, Tryd.ntmps80
  go_wp2_with fail
  clear hmk
  go_loopw [9] (fun i wr => ∃ k : Nat, k ≤ n ∧ i = .int .i64 k ∧ wr.ownsRow w.heap.size 2 1 (.slice (some ⟨w.heap.size, 0, none⟩) 21 21) 21 (iv (cntL (xs.take k))) ∧ Below w.heap.size w wr) (fun i _ => n - (intOf i).toNat)
  case atStart => exact ⟨0, by omega, rfl, by rw [List.take_zero, cntL_nil]; exact HO0.out, HB0.out⟩
  case round =>
    obtain ⟨k, hk, rfl, hown, hbel⟩ := hrel
    have HO := Lib.hid hown
    have HB := Lib.hid hbel
    by_cases hlt : k < n
    · have hkL : k < xs.length := by rw [← Hn.out]; exact hlt
      obtain ⟨b, o, rfl, hc⟩ := (HR.out.below hbel).atI hkL
      obtain ⟨h0, h1⟩ := HD.out k hkL
      obtain ⟨d, hde⟩ := Int.eq_ofNat_of_zero_le h0
      have hd21 : d < 21 := by omega
      have HST := Lib.hid (cntL_succ hkL hde hd21)
      have hcb := cnt_le (xs.take k) (d : Int)
      rw [List.length_take] at hcb
      rw [hde] at hc
      have hoc := owns_getD hown hd21
      rw [cntL_getD _ hd21] at hoc
      have fz := hown.frozenAt d
      have HSTO := Lib.hid ((World.ownsRow.stored hown d (.int .i64 (((cnt (xs.take k) (d : Int) : Nat) : Int) + 1))).1)
      rw [← iv_set] at HSTO
      have hcn : cnt (xs.take k) (d : Int) ≤ 1048576 := by omega
      generalize cnt (xs.take k) (d : Int) = q at *
      clear hown hbel h0 h1 hde hcb
      go_wp2_with fail
      go_roundw
      case rel => exact ⟨k + 1, by omega, by go_num, by rw [HST.out]; exact HSTO.out, HB.out.setCell (p := ⟨w.heap.size, d, none⟩) (Nat.le_refl _) _⟩
      case measure => simp [intOf]; omega
    · obtain rfl : k = n := by omega
      have he : xs.take k = xs := List.take_of_length_le (by rw [← Hn.out]; exact Nat.le_refl _)
      rw [he] at HO
      clear hown hbel he
      go_wp2_with fail
      go_ret
      exact ⟨w.heap.size, rfl, HO.out, HB.out⟩

/-- the degrees of masks, by their pivots -/
def degL (xs : List Int) (S : List Nat) : List Int := S.map fun r => xs.getD (pv r) 0
theorem degL_length (xs : List Int) (S : List Nat) : (degL xs S).length = S.length := by simp [degL]
theorem degL_getD (xs : List Int) {S : List Nat} {k : Nat} (h : k < S.length) : (degL xs S).getD k 0 = xs.getD (pv (S.getD k 0)) 0 := by simp [degL, List.getD, h]
set_option maxRecDepth 100000 in
set_option maxHeartbeats 2000000 in
theorem degreesOf_any (A A' V : Option Addr) (n c m c' k cv : Nat) (xs : List Int) (S : List Nat) (w : World) (hT : Tab w) (hw : 0 < w.heap.size) (hn : n = xs.length) (hsm : n ≤ 1048576) (hk : k = S.length) (hk1 : k ≤ 1048576) (hS : ∀ r ∈ S, r ≠ 0 ∧ Sm r ∧ pv r < n) (hR : Rd w A (iv xs)) (hV : Rd w V (nv S)) :
    Calls Tryd.prog 81 #[.agg #[.slice A n c, .slice A' m c'], .slice V k cv] w fun e w' => ∃ g cap, e = .returned (.slice (some ⟨g, 0, none⟩) k cap) ∧ w'.ownsRow w.heap.size 2 1 (.slice (some ⟨g, 0, none⟩) k cap) k (iv (degL xs S)) ∧ Below w.heap.size w w' := by
  have HR := Lib.hid hR
  have HV := Lib.hid hV
  have Hn := Lib.hid hn
  have Hk := Lib.hid hk
  have HS := Lib.hid hS
  have HT := Lib.hid hT
  have hk0 := blk_new w (.cells #[.slice A n c, .slice A' m c'] 29)
  have hb0 : Below w.heap.size w (w.alloc (.cells #[.slice A n c, .slice A' m c'] 29)) := (Below.refl _ _).alloc (Nat.le_refl _) _
  have hz0 : (w.alloc (.cells #[.slice A n c, .slice A' m c'] 29)).heap.size = w.heap.size + 1 := by simp
  clear hR hV hn hk hS hT
  go_enter Tryd.func81, Tryd.ntmps81
  go_wp2_with fail
  generalize w.alloc (.cells #[.slice A n c, .slice A' m c'] 29) = w0 at *
  have HK0 := Lib.hid hk0
  have HB0 := Lib.hid hb0
  have hs0 : w.heap.size ≤ w0.heap.size := hb0.size
  rw [← hz0]
  clear hk0 hb0 hz0
  go_loopw [5, 11] (fun q i wr => ∃ j g cap : Nat, j ≤ k ∧ i = .int .i64 j ∧ q = .slice (some ⟨g, 0, none⟩) j cap ∧ wr.ownsRow w0.heap.size 2 1 (.slice (some ⟨g, 0, none⟩) j cap) j (iv ((degL xs S).take j)) ∧ Below w0.heap.size w0 wr) (fun _ i _ => k - (intOf i).toNat)
  case atStart => exact ⟨0, w0.heap.size, 0, by omega, rfl, rfl, World.ownsRow_made w0 #[] 0 (Nat.le_refl _) (by decide) (by simp), (Below.refl _ _).alloc (Nat.le_refl _) _⟩
  case round =>
    obtain ⟨j, g, cap, hj, rfl, rfl, hown, hbel⟩ := hrel
    have HO := Lib.hid hown
    have HB := Lib.hid hbel
    have hsz := hbel.size
    by_cases hlt : j < k
    · have hjS : j < S.length := by rw [← Hk.out]; exact hlt
      obtain ⟨b, o, rfl, hc⟩ := (HV.out.below (HB0.out.trans (hbel.mono hs0))).atN hjS
      obtain ⟨p1, p2, p3⟩ := HS.out _ (getD_mem hjS)
      have HTS : Hid ((degL xs S).take (j + 1) = (degL xs S).take j ++ [xs.getD (pv (S.getD j 0)) 0]) := Lib.hid (by
        rw [take_succ_getD (by rw [degL_length]; exact hjS), degL_getD xs hjS])
      generalize S.getD j 0 = r at *
      have hpl : pv r < xs.length := by rw [← Hn.out]; exact p3
      obtain ⟨bx, ox, rfl, hcx⟩ := (HR.out.below HB0.out).atI (k := pv r) hpl
      have HPI := Lib.hid (fun W hT => pivot_any r p1 p2 W hT)
      have KS := Lib.hid (fun w' (hb : Below w0.heap.size w0 w') => show w'.cell? ⟨w.heap.size, 0, none⟩ = some (.slice (some ⟨bx, ox, none⟩) n c) ∧ w'.cell? ⟨bx, ox + pv r, none⟩ = some (.int .i64 (xs.getD (pv r) 0)) from ⟨(blk2cells (blk_kept HK0.out hb)).1, cell_keep hcx hb⟩)
      have HTW := Lib.hid (fun w' (hb : Below w0.heap.size w0 w') => HT.out.below (HB0.out.trans (hb.mono hs0)) hw)
      have HX_0 := Lib.hid (Below.drew HB.out)
      have hpn : ((pv r : Nat) : Int) < (n : Int) := by omega
      generalize xs.getD (pv r) 0 = y at *
      clear hown hbel hjS p1 p2 hpl hcx
      go_wp2_with fail
      go_region_held3 (fun w' => w'.cell? ⟨w.heap.size, 0, none⟩ = some (.slice (some ⟨bx, ox, none⟩) n c) ∧ w'.cell? ⟨bx, ox + pv r, none⟩ = some (.int .i64 y))
        (first | exact KS.out _ HX_0.out | exact KS.out _ (HB.out.alloc hsz _).drew | exact KS.out _ HX_1.out)
        (first
          | (go_at_call 120; (with_reducible refine (HPI.out _ (HTW.out _ HX_0.out)).mono ?_); (rintro e w' ⟨rfl, rfl⟩))
          | (refine step_app1 _ _ _ _ _ etI (by rfl) (by rfl) w0.heap.size (.slice (some ⟨g, 0, none⟩) j cap) j (iv ((degL xs S).take j)) (by rfl) ?_ _ (.int .i64 y) (by rfl) ?_ (by rfl) ?_ ?_ ?_; exact (HO.out.alloc _).drew; exact drew_cell (new_cell _ _ _); omega; (simp; omega); (intro g1 cap1 w1 hown1 hgrow1 hat1 hlt1; have HO1 := Lib.hid hown1; have HX_1 := Lib.hid (below_app2d HB.out hsz HO.out hgrow1); clear hown1 hgrow1 hat1 hlt1)))
      go_wp2_with fail
      go_roundw
      case rel =>
        exact ⟨j + 1, g1, cap1, by omega, by go_num, rfl, by rw [HTS.out, iv_append]; exact HO1.out, HX_1.out⟩
      case measure => simp [intOf]; omega
    · obtain rfl : j = k := by omega
      have he : (degL xs S).take j = degL xs S := List.take_of_length_le (by rw [degL_length, ← Hk.out]; exact Nat.le_refl _)
      rw [he] at HO
      clear hown hbel he
      go_wp2_with fail
      go_ret
      exact ⟨g, cap, rfl, HO.out.mono hs0, HB0.out.trans (HB.out.mono hs0)⟩

/-- the counts, less those of the first k degrees of a list -/
def lessP (xs D : List Int) (k : Nat) : List Int := (List.range 21).map fun (d : Nat) => ((cnt xs (d : Int) : Nat) : Int) - ((cnt (D.take k) (d : Int) : Nat) : Int)
theorem lessP_length (xs D : List Int) (k : Nat) : (lessP xs D k).length = 21 := by simp [lessP]
theorem lessP_getD (xs D : List Int) (k : Nat) {d : Nat} (h : d < 21) : (lessP xs D k).getD d 0 = ((cnt xs (d : Int) : Nat) : Int) - ((cnt (D.take k) (d : Int) : Nat) : Int) := by simp [lessP, List.getD, h]
theorem lessP_zero (xs D : List Int) : lessP xs D 0 = cntL xs := by
  unfold lessP cntL
  apply List.map_congr_left
  intro d _
  rw [List.take_zero]; simp [cnt]
theorem lessP_succ {xs D : List Int} {k d : Nat} (h : k < D.length) (hd : D.getD k 0 = (d : Int)) (h21 : d < 21) : lessP xs D (k + 1) = (lessP xs D k).set d (((cnt xs (d : Int) : Nat) : Int) - ((cnt (D.take k) (d : Int) : Nat) : Int) - 1) := by
  refine list_ext_getD (lessP_length _ _ _) (by rw [List.length_set]; exact lessP_length _ _ _) fun i hi => ?_
  rw [lessP_getD _ _ _ hi, set_getD _ _ _ _ (by rw [lessP_length]; exact h21), lessP_getD _ _ _ hi, cnt_take h, hd]
  by_cases e : i = d
  · subst e; rw [if_pos rfl, if_pos rfl]; omega
  · rw [if_neg (by omega), if_neg e]; rfl
set_option maxRecDepth 100000 in
set_option maxHeartbeats 2000000 in
theorem lessCounts_any (A A' V : Option Addr) (n c m c' k cv : Nat) (xs : List Int) (S : List Nat) (w : World) (hT : Tab w) (hw : 0 < w.heap.size) (hn : n = xs.length) (hsm : n ≤ 1048576) (hd : ∀ i, i < xs.length → 0 ≤ xs.getD i 0 ∧ xs.getD i 0 ≤ 20) (hk : k = S.length) (hk1 : k ≤ 1048576) (hS : ∀ r ∈ S, r ≠ 0 ∧ Sm r ∧ pv r < n) (hR : Rd w A (iv xs)) (hV : Rd w V (nv S)) :
    Calls Tryd.prog 74 #[.agg #[.slice A n c, .slice A' m c'], .slice V k cv] w fun e w' => ∃ g, e = .returned (.slice (some ⟨g, 0, none⟩) 21 21) ∧ w'.ownsRow w.heap.size 2 1 (.slice (some ⟨g, 0, none⟩) 21 21) 21 (iv (lessP xs (degL xs S) k)) ∧ Below w.heap.size w w' := by
  have hk0 := blk_new w (.cells #[.slice A n c, .slice A' m c'] 29)
  have hb0 : Below w.heap.size w (w.alloc (.cells #[.slice A n c, .slice A' m c'] 29)) := (Below.refl _ _).alloc (Nat.le_refl _) _
  obtain ⟨x0, x1, xf0, xf1, lx⟩ := blk2cells hk0
  have HCN := Lib.hid (fun W (hb : Below w.heap.size w W) => counts_any A n c xs W hn hsm hd (hR.below hb))
  have HDG := Lib.hid (fun W (hb : Below w.heap.size w W) => degreesOf_any A A' V n c m c' k cv xs S W (hT.below hb hw) (by have := hb.size; omega) hn hsm hk hk1 hS (hR.below hb) (hV.below hb))
  have HDD : Hid (∀ j, j < k → 0 ≤ (degL xs S).getD j 0 ∧ (degL xs S).getD j 0 ≤ 20) := Lib.hid (fun j hj => by
    rw [degL_getD xs (by omega)]
    have := hS _ (getD_mem (S := S) (k := j) (by omega))
    exact hd _ (by omega))
  have HLD : Hid ((degL xs S).length = k) := Lib.hid (by rw [degL_length, hk])
  have HK0 := Lib.hid hk0
  have HB0 := Lib.hid hb0
  have hcx : ∀ d : Int, cnt xs d ≤ 1048576 := fun d => by have := cnt_le xs d; omega
  have HCX := Lib.hid hcx
  clear hk0 hT hw hn hd hk hS hR hV hcx hb0
  go_enter Tryd.func74, Tryd.ntmps74
  go_wp2_with fail
  refine (HCN.out _ HB0.out).mono ?_
  rintro e w1 ⟨g, rfl, ho, hb⟩
  have HO1 := Lib.hid (ho.mono HB0.out.size)
  have hgw := (ho.lt g rfl).1
  have HB1 := Lib.hid (HB0.out.trans (hb.mono HB0.out.size))
  have HK1 := Lib.hid (blk_kept HK0.out hb)
  have hgw1 : w.heap.size ≤ g := by have := HB0.out.size; omega
  clear ho hb x0 x1 xf0 xf1 lx hgw
  obtain ⟨x0, x1, xf0, xf1, lx⟩ := blk2cells HK1.out
  go_wp2_with fail
  refine (HDG.out _ HB1.out).mono ?_
  rintro e w2 ⟨gd, cd, rfl, ho, hb⟩
  have HD2 := Lib.hid (owns_Rd ho)
  have hgd := (ho.lt gd rfl).1
  have HO2 : Hid (w2.ownsRow w.heap.size 2 1 (.slice (some ⟨g, 0, none⟩) 21 21) 21 (iv (lessP xs (degL xs S) 0))) := Lib.hid (by rw [lessP_zero]; exact owns_keeps HO1.out (Keeps.of_below hb) (.inr (by simp)))
  have hg1 := (HO1.out.lt g rfl).2
  have HB2 := Lib.hid (HB1.out.trans (hb.mono HB1.out.size))
  have hne : gd ≠ g := by omega
  clear ho hb x0 x1 xf0 xf1 lx hgd hg1
  go_wp2_with fail
  go_loopw [15] (fun i wr => ∃ j : Nat, j ≤ k ∧ i = .int .i64 j ∧ wr.ownsRow w.heap.size 2 1 (.slice (some ⟨g, 0, none⟩) 21 21) 21 (iv (lessP xs (degL xs S) j)) ∧ Rd wr (some ⟨gd, 0, none⟩) (iv (degL xs S)) ∧ Below w.heap.size w wr) (fun i _ => k - (intOf i).toNat)
  case atStart => exact ⟨0, by omega, rfl, HO2.out, HD2.out, HB2.out⟩
  case round =>
    obtain ⟨j, hj, rfl, hown, hrd, hbel⟩ := hrel
    have HO := Lib.hid hown
    have HB := Lib.hid hbel
    have HRD := Lib.hid hrd
    by_cases hlt : j < k
    · have hjl : j < (degL xs S).length := by rw [HLD.out]; exact hlt
      have hc := hrd.cellI hjl
      rw [Nat.zero_add] at hc
      obtain ⟨h0, h1⟩ := HDD.out j hlt
      obtain ⟨d, hde⟩ := Int.eq_ofNat_of_zero_le h0
      have hd21 : d < 21 := by omega
      have HST := Lib.hid (lessP_succ (xs := xs) hjl hde hd21)
      rw [hde] at hc
      have hoc := owns_getD hown hd21
      rw [lessP_getD _ _ _ hd21] at hoc
      have fz := hown.frozenAt d
      have hq1 := HCX.out (d : Int)
      have hq2 := cnt_le ((degL xs S).take j) (d : Int)
      rw [List.length_take, HLD.out] at hq2
      have hq3 : cnt ((degL xs S).take j) (d : Int) ≤ 1048576 := by omega
      have HSTO := Lib.hid (fun z : Int => (World.ownsRow.stored hown d (.int .i64 z)).1)
      generalize cnt xs (d : Int) = p at *
      generalize cnt ((degL xs S).take j) (d : Int) = q at *
      clear hown hbel hrd h0 h1 hde hjl hq2
      go_wp2_with fail
      go_roundw
      case rel => exact ⟨j + 1, by omega, by go_num, by rw [HST.out, iv_set]; exact HSTO.out _, HRD.out.keeps ((Keeps.refl _ [some g]).setCell (p := ⟨g, d, none⟩) (by simp) _) (by rintro a ⟨⟩; simp [hne]), HB.out.setCell (p := ⟨g, d, none⟩) hgw1 _⟩
      case measure => simp [intOf]; omega
    · obtain rfl : j = k := by omega
      clear hown hbel hrd
      go_wp2_with fail
      go_ret
      exact ⟨g, rfl, HO.out, HB.out⟩
end Go.Proofs.YtocllmhkppkfoaaDoor

namespace Go.Proofs.YtocllmhkppkfoaaDoor
open Go.RowKit

theorem sm_two {p : Nat} (h : p ≤ 62) : Sm (2 ^ p) := by
  unfold Sm
  have : 2 ^ p ≤ 2 ^ 62 := Nat.pow_le_pow_right (by omega) h
  have e : (2 ^ 62 : Nat) = 4611686018427387904 := by decide
  omega
theorem shl_two {k : Nat} (h : k ≤ 60) : wrap64 ((2 : Int) ^ k) = ((2 ^ k : Nat) : Int) := by
  have h1 : (2 : Nat) ^ k ≤ 2 ^ 60 := Nat.pow_le_pow_right (by omega) h
  have e : (2 ^ 60 : Nat) = 1152921504606846976 := by decide
  have h2 : ((2 ^ k : Nat) : Int) = (2 : Int) ^ k := by rw [Int.natCast_pow]; rfl
  rw [← h2]
  generalize (2 ^ k : Nat) = z at *
  unfold wrap64; omega
set_option maxRecDepth 100000 in
set_option maxHeartbeats 2000000 in
theorem kernel_anyS (A : Option Addr) (n c : Nat) (S : List Nat) (w : World) (hT : Tab w) (hw : 0 < w.heap.size) (hn : n = S.length) (hsmall : n ≤ 60) (hS : ∀ r ∈ S, Sm r) (hR : Rd w A (nv S)) :
    Calls Tryd.prog 79 #[.slice A n c] w fun e w' => ∃ v, e = .returned v ∧ w'.ownsRow w.heap.size 2 1 v (reduceS (kerS S S.length)).length (nv (reduceS (kerS S S.length))) ∧ Below w.heap.size w w' := by
  have HKS := Lib.hid ((kerG_span hS (by omega)).sm (by omega))
  have HSM := Lib.hid (us_sm hS (by omega))
  have Hn := Lib.hid hn
  have HR := Lib.hid hR
  have HS := Lib.hid hS
  have HT := Lib.hid hT
  have HSP0 := Lib.hid (SpanAt.new w)
  clear hn hR hS hT
  go_enter Tryd.func79, Tryd.ntmps79
  go_wp2_with fail
  go_loopw [4, 14] (fun o i wr => ∃ k : Nat, k ≤ n ∧ i = .int .i64 k ∧ wr.ownsRow w.heap.size 2 1 o (kerS S k).length (nv (kerS S k)) ∧
      (∃ v1 v2, SpanAt wr w.heap.size w.heap.size v1 v2 (spanL ((us 0 S).take k)) ∧ o.ownBlock ≠ v1.ownBlock ∧ o.ownBlock ≠ v2.ownBlock) ∧ Below w.heap.size w wr) (fun _ i _ => n - (intOf i).toNat)
  case atStart =>
    refine ⟨0, by omega, rfl, ?_, ⟨_, _, HSP0.out.keeps ((Keeps.refl _ []).alloc _) (by simp) (.inr (by simp)) (.inr (by simp)), by simp [Value.ownBlock], by simp [Value.ownBlock]⟩, ((Below.refl _ _).alloc (Nat.le_refl _) _).alloc (by simp) _⟩
    have := World.ownsRow_made (w.alloc (.cells #[.slice none 0 0, .slice none 0 0] 90)) #[] 0 (base := w.heap.size) (e := 2) (size := 1) (by simp) (by decide) (by simp)
    simp only [World.size_alloc] at this
    exact this
  case round =>
    obtain ⟨k, hk, rfl, hoo, ⟨v1, v2, hsp, hne1, hne2⟩, hbel⟩ := hrel
    have hsz : w.heap.size ≤ wr.heap.size := hbel.size
    have hko := kerOut_length (fun k => spanL ((us 0 S).take k)) S k
    change (kerS S k).length ≤ k at hko
    by_cases hlt : k < n
    · have hkL : k < S.length := by rw [← Hn.out]; exact hlt
      obtain ⟨b, o', rfl, hc⟩ := (HR.out.below hbel).atN hkL
      have hx := HS.out _ (getD_mem hkL)
      have hp2 : Sm (2 ^ k) := by exact sm_two (by omega)
      have Hs : Hid (spanL ((us 0 S).take (k + 1)) = addL (spanL ((us 0 S).take k)) (S.getD k 0, 2 ^ k)) := by
        show _ = _; rw [spanL_take_succ (us 0 S) k (by rw [us_length]; exact hkL), us_getD0 hkL]
      have Hk := Lib.hid (kerS_succ S k)
      have hl := spanL_length_le ((us 0 S).take k)
      rw [List.length_take] at hl
      have hg := (spanL_perm ((us 0 S).take k) (fun p hp => HSM.out p (List.mem_of_mem_take hp))).2.2
      generalize spanL ((us 0 S).take k) = L at *
      generalize kerS S k = O at *
      generalize S.getD k 0 = x at *
      have ha := add_any w.heap.size w.heap.size v1 v2 L x (2 ^ k) wr (HT.out.below hbel hw) hw hsz hsp (by omega) hx hp2 hg
      rw [← shl_two (by omega)] at ha
      have hks : kerStep L (x, 2 ^ k) O = if (leftN L (x, 2 ^ k)).1 = 0 then O ++ [(leftN L (x, 2 ^ k)).2] else O := rfl
      obtain ⟨F, cf, rfl, _, hF, _⟩ := owns_shape hoo
      have HSQ := Lib.hid hsp
      have HOO := Lib.hid hoo
      have HN1 := Lib.hid hne1
      have HN2 := Lib.hid hne2
      have HB := Lib.hid hbel
      by_cases h0 : (leftN L (x, 2 ^ k)).1 = 0
      · have hv : AddRes L (x, 2 ^ k) = .tuple #[.int .i64 ((leftN L (x, 2 ^ k)).2 : Nat), .bool false] := by simp [AddRes, h0]
        rw [hv] at ha
        rw [if_pos h0] at hks
        have HA := Lib.hid ha
        have HKS' := Lib.hid hks
        clear ha hv h0 hks hsp hoo hne1 hne2 hbel hg hF
        generalize (leftN L (x, 2 ^ k)).2 = z at *
        go_wp2_with (first | (go_at_call 90; refine HA.out.mono ?_; (rintro e w3 ⟨rfl, hpost⟩; obtain ⟨q1, u1, u2, q2, q3, q4⟩ := span_own_add HSQ.out HOO.out HN1.out HN2.out hpost; have hb3 := hpost.below HSQ.out hsz; have HQ1 := Lib.hid q1; have HQ2 := Lib.hid q2; have HQ3 := Lib.hid q3; have HQ4 := Lib.hid q4; have HB3 := Lib.hid (HB.out.trans (hb3.mono (Nat.le_refl _))); have hsz3 : w.heap.size ≤ w3.heap.size := HB3.out.size; clear hpost q1 q2 q3 q4 hb3)) | (at_builtin; refine wpList_app1 _ _ _ _ _ etI (by rfl) (by rfl) w.heap.size (.slice F O.length cf) O.length (nv O) (by rfl) ?_ _ (.int .i64 (z : Int)) (by rfl) ?_ (by rfl) ?_ ?_ ?_; exact HQ1.out.alloc _; exact new_cell _ _ _; omega; (simp; omega); (intro g2 cap2 w4 hown2 hgrow2 hat2 hlt2; have HO2' : Hid (w4.ownsRow w.heap.size 2 1 (.slice (some ⟨g2, 0, none⟩) (O.length + 1) cap2) (O.length + 1) (nv (O ++ [z]))) := (by rw [← nv_snoc2]; exact hown2); have HG2 := Lib.hid hgrow2; have HA2 := Lib.hid hat2; clear hown2 hgrow2 hat2 hlt2)))
        go_roundw
        case rel =>
          obtain ⟨t1, t2, t3⟩ := span_own_app HQ2.out (own_ne HQ1.out HQ2.out.blk (by decide)) HQ3.out HQ4.out HG2.out HA2.out
          exact ⟨k + 1, by omega, by go_num, by rw [Hk.out, HKS'.out]; exact own_cast2 HO2'.out (by simp) rfl, ⟨u1, u2, by rw [Hs.out]; exact t1, t2, t3⟩, below_app2 HB3.out hsz3 HQ1.out HG2.out⟩
        case measure => simp [intOf]; omega
      · have hv : AddRes L (x, 2 ^ k) = .tuple #[.int .i64 0, .bool true] := by simp [AddRes, h0]
        rw [hv] at ha
        rw [if_neg h0] at hks
        have HA := Lib.hid ha
        have HKS' := Lib.hid hks
        clear ha hv h0 hks hsp hoo hne1 hne2 hbel hg hF
        go_wp2_with (go_at_call 90; refine HA.out.mono ?_; rintro e w3 ⟨rfl, hpost⟩; have HP := Lib.hid hpost; clear hpost)
        go_roundw
        case rel =>
          obtain ⟨q1, u1, u2, q2, q3, q4⟩ := span_own_add HSQ.out HOO.out HN1.out HN2.out HP.out
          exact ⟨k + 1, by omega, by go_num, by rw [Hk.out, HKS'.out]; exact q1, ⟨u1, u2, by rw [Hs.out]; exact q2, q3, q4⟩, HB.out.trans (HP.out.below HSQ.out hsz)⟩
        case measure => simp [intOf]; omega
    · have ek : k = S.length := by rw [← Hn.out]; omega
      subst ek
      obtain ⟨F, cf, rfl, _, hF, _⟩ := owns_shape hoo
      have hr := reduced_any F (kerS S S.length).length cf (kerS S S.length) wr (HT.out.below hbel hw) (by omega) rfl (by omega) HKS.out (owns_Rd hoo)
      have HRR := Lib.hid hr
      have HB := Lib.hid hbel
      clear hoo hne1 hne2 hsp hbel hF hr
      go_wp2_with fail
      refine HRR.out.mono ?_
      rintro e w2 ⟨v, rfl, ho, hb⟩
      have HO2 := Lib.hid ho
      have HB2 := Lib.hid hb
      clear ho hb
      go_wp2_with fail
      go_ret
      exact ⟨v, rfl, HO2.out.mono hsz, HB.out.trans (HB2.out.mono hsz)⟩

end Go.Proofs.YtocllmhkppkfoaaDoor
