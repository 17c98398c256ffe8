/- the program's counts, degreesOf, lessCounts · impl's times, tableOf -/
import Derived.Test.YtocllmhkppkfoaaDoorZap
import Derived.Test.YtocllmhkppkfoaaDoorZaj
import Derived.Test.YtocllmhkppkfoaaDoorZat
import Derived.Deep.RegionHeld3
import Derived.Test.YtocllmhkppkfoaaDoorZag
import Derived.Test.YtocllmhkppkfoaaDoorZae
import Derived.StillTailTactics
import Derived.Deep.DeepCutAuto
namespace Go.Proofs.YtocllmhkppkfoaaDoor
open Go.RowKit

set_option maxRecDepth 100000 in
set_option maxHeartbeats 1000000 in
theorem counts_any (A : Option Addr) (n c : Nat) (xs : List Int) (w : World) (hn : n = xs.length) (hsm : n ≤ 1048576) (hd : ∀ i, i < xs.length → 0 ≤ xs.getD i 0 ∧ xs.getD i 0 ≤ 20) (hR : Rd w A (iv xs)) :
    Calls Tryd.prog 80 #[.slice A n c] w fun e w' => ∃ g, e = .returned (.slice (some ⟨g, 0, none⟩) 21 21) ∧ w'.ownsRow w.heap.size 2 1 (.slice (some ⟨g, 0, none⟩) 21 21) 21 (iv (cntL xs)) ∧ Below w.heap.size w w' := by
  have hmk : ∀ w : World, (Instr.makeSlice 22 (.int .i64 21) (.int .i64 21)).run Tryd.prog w = .ok (.slice (some ⟨w.heap.size, 0, none⟩) 21 21) (w.alloc (.cells (madeCells #[.int .i64 0] 21) 2)) := run_make_row' (P := Tryd.prog) 22 2 (.int .i64 0) 8 Tryd.underlying22 infoI rfl .i64 .i64 21 (by omega) (by omega)
  have HO0 := Lib.hid (made_own w w.heap.size 21 (Nat.le_refl _) (by omega))
  have HB0 : Hid (Below w.heap.size w (w.alloc (.cells (madeCells #[.int .i64 0] 21) 2))) := Lib.hid ((Below.refl _ _).alloc (Nat.le_refl _) _)
  have HR := Lib.hid hR
  have Hn := Lib.hid hn
  have HD := Lib.hid hd
  clear hR hn hd
  go_enter Tryd.func80, Tryd.ntmps80
  go_wp2_with fail
  clear hmk
  go_loopw [9] (fun i wr => ∃ k : Nat, k ≤ n ∧ i = .int .i64 k ∧ wr.ownsRow w.heap.size 2 1 (.slice (some ⟨w.heap.size, 0, none⟩) 21 21) 21 (iv (cntL (xs.take k))) ∧ Below w.heap.size w wr) (fun i _ => n - (intOf i).toNat)
  case atStart => exact ⟨0, by omega, rfl, by rw [List.take_zero, cntL_nil]; exact HO0.out, HB0.out⟩
  case round =>
    obtain ⟨k, hk, rfl, hown, hbel⟩ := hrel
    have HO := Lib.hid hown
    have HB := Lib.hid hbel
    by_cases hlt : k < n
    · have hkL : k < xs.length := by rw [← Hn.out]; exact hlt
      obtain ⟨b, o, rfl, hc⟩ := (HR.out.below hbel).atI hkL
      obtain ⟨h0, h1⟩ := HD.out k hkL
      obtain ⟨d, hde⟩ := Int.eq_ofNat_of_zero_le h0
      have hd21 : d < 21 := by omega
      have HST := Lib.hid (cntL_succ hkL hde hd21)
      have hcb := cnt_le (xs.take k) (d : Int)
      rw [List.length_take] at hcb
      rw [hde] at hc
      have hoc := owns_getD hown hd21
      rw [cntL_getD _ hd21] at hoc
      have fz := hown.frozenAt d
      have HSTO := Lib.hid ((World.ownsRow.stored hown d (.int .i64 (((cnt (xs.take k) (d : Int) : Nat) : Int) + 1))).1)
      rw [← iv_set] at HSTO
      have hcn : cnt (xs.take k) (d : Int) ≤ 1048576 := by omega
      generalize cnt (xs.take k) (d : Int) = q at *
      clear hown hbel h0 h1 hde hcb
      go_wp2_with fail
      go_roundw
      case rel => exact ⟨k + 1, by omega, by go_num, by rw [HST.out]; exact HSTO.out, HB.out.setCell (p := ⟨w.heap.size, d, none⟩) (Nat.le_refl _) _⟩
      case measure => simp [intOf]; omega
    · obtain rfl : k = n := by omega
      have he : xs.take k = xs := List.take_of_length_le (by rw [← Hn.out]; exact Nat.le_refl _)
      rw [he] at HO
      clear hown hbel he
      go_wp2_with fail
      go_ret
      exact ⟨w.heap.size, rfl, HO.out, HB.out⟩

/-- the degrees of masks, by their pivots -/
def degL (xs : List Int) (S : List Nat) : List Int := S.map fun r => xs.getD (pv r) 0
theorem degL_length (xs : List Int) (S : List Nat) : (degL xs S).length = S.length := by simp [degL]
theorem degL_getD (xs : List Int) {S : List Nat} {k : Nat} (h : k < S.length) : (degL xs S).getD k 0 = xs.getD (pv (S.getD k 0)) 0 := by simp [degL, List.getD, h]
set_option maxRecDepth 100000 in
set_option maxHeartbeats 2000000 in
theorem degreesOf_any (A A' V : Option Addr) (n c m c' k cv : Nat) (xs : List Int) (S : List Nat) (w : World) (hT : Tab w) (hw : 0 < w.heap.size) (hn : n = xs.length) (hsm : n ≤ 1048576) (hk : k = S.length) (hk1 : k ≤ 1048576) (hS : ∀ r ∈ S, r ≠ 0 ∧ Sm r ∧ pv r < n) (hR : Rd w A (iv xs)) (hV : Rd w V (nv S)) :
    Calls Tryd.prog 81 #[.agg #[.slice A n c, .slice A' m c'], .slice V k cv] w fun e w' => ∃ g cap, e = .returned (.slice (some ⟨g, 0, none⟩) k cap) ∧ w'.ownsRow w.heap.size 2 1 (.slice (some ⟨g, 0, none⟩) k cap) k (iv (degL xs S)) ∧ Below w.heap.size w w' := by
  have HR := Lib.hid hR
  have HV := Lib.hid hV
  have Hn := Lib.hid hn
  have Hk := Lib.hid hk
  have HS := Lib.hid hS
  have HT := Lib.hid hT
  have hk0 := blk_new w (.cells #[.slice A n c, .slice A' m c'] 29)
  have hb0 : Below w.heap.size w (w.alloc (.cells #[.slice A n c, .slice A' m c'] 29)) := (Below.refl _ _).alloc (Nat.le_refl _) _
  have hz0 : (w.alloc (.cells #[.slice A n c, .slice A' m c'] 29)).heap.size = w.heap.size + 1 := by simp
  clear hR hV hn hk hS hT
  go_enter Tryd.func81, Tryd.ntmps81
  go_wp2_with fail
  generalize w.alloc (.cells #[.slice A n c, .slice A' m c'] 29) = w0 at *
  have HK0 := Lib.hid hk0
  have HB0 := Lib.hid hb0
  have hs0 : w.heap.size ≤ w0.heap.size := hb0.size
  rw [← hz0]
  clear hk0 hb0 hz0
  go_loopw [5, 11] (fun q i wr => ∃ j g cap : Nat, j ≤ k ∧ i = .int .i64 j ∧ q = .slice (some ⟨g, 0, none⟩) j cap ∧ wr.ownsRow w0.heap.size 2 1 (.slice (some ⟨g, 0, none⟩) j cap) j (iv ((degL xs S).take j)) ∧ Below w0.heap.size w0 wr) (fun _ i _ => k - (intOf i).toNat)
  case atStart => exact ⟨0, w0.heap.size, 0, by omega, rfl, rfl, World.ownsRow_made w0 #[] 0 (Nat.le_refl _) (by decide) (by simp), (Below.refl _ _).alloc (Nat.le_refl _) _⟩
  case round =>
    obtain ⟨j, g, cap, hj, rfl, rfl, hown, hbel⟩ := hrel
    have HO := Lib.hid hown
    have HB := Lib.hid hbel
    have hsz := hbel.size
    by_cases hlt : j < k
    · have hjS : j < S.length := by rw [← Hk.out]; exact hlt
      obtain ⟨b, o, rfl, hc⟩ := (HV.out.below (HB0.out.trans (hbel.mono hs0))).atN hjS
      obtain ⟨p1, p2, p3⟩ := HS.out _ (getD_mem hjS)
      have HTS : Hid ((degL xs S).take (j + 1) = (degL xs S).take j ++ [xs.getD (pv (S.getD j 0)) 0]) := Lib.hid (by
        rw [take_succ_getD (by rw [degL_length]; exact hjS), degL_getD xs hjS])
      generalize S.getD j 0 = r at *
      have hpl : pv r < xs.length := by rw [← Hn.out]; exact p3
      obtain ⟨bx, ox, rfl, hcx⟩ := (HR.out.below HB0.out).atI (k := pv r) hpl
      have HPI := Lib.hid (fun W hT => pivot_any r p1 p2 W hT)
      have KS := Lib.hid (fun w' (hb : Below w0.heap.size w0 w') => show w'.cell? ⟨w.heap.size, 0, none⟩ = some (.slice (some ⟨bx, ox, none⟩) n c) ∧ w'.cell? ⟨bx, ox + pv r, none⟩ = some (.int .i64 (xs.getD (pv r) 0)) from ⟨(blk2cells (blk_kept HK0.out hb)).1, cell_keep hcx hb⟩)
      have HTW := Lib.hid (fun w' (hb : Below w0.heap.size w0 w') => HT.out.below (HB0.out.trans (hb.mono hs0)) hw)
      have HX_0 := Lib.hid (Below.drew HB.out)
      have hpn : ((pv r : Nat) : Int) < (n : Int) := by omega
      generalize xs.getD (pv r) 0 = y at *
      clear hown hbel hjS p1 p2 hpl hcx
      go_wp2_with fail
      go_region_held3 (fun w' => w'.cell? ⟨w.heap.size, 0, none⟩ = some (.slice (some ⟨bx, ox, none⟩) n c) ∧ w'.cell? ⟨bx, ox + pv r, none⟩ = some (.int .i64 y))
        (first | exact KS.out _ HX_0.out | exact KS.out _ (HB.out.alloc hsz _).drew | exact KS.out _ HX_1.out)
        (first
          | (go_at_call 120; (with_reducible refine (HPI.out _ (HTW.out _ HX_0.out)).mono ?_); (rintro e w' ⟨rfl, rfl⟩))
          | (refine step_app1 _ _ _ _ _ etI (by rfl) (by rfl) w0.heap.size (.slice (some ⟨g, 0, none⟩) j cap) j (iv ((degL xs S).take j)) (by rfl) ?_ _ (.int .i64 y) (by rfl) ?_ (by rfl) ?_ ?_ ?_; exact (HO.out.alloc _).drew; exact drew_cell (new_cell _ _ _); omega; (simp; omega); (intro g1 cap1 w1 hown1 hgrow1 hat1 hlt1; have HO1 := Lib.hid hown1; have HX_1 := Lib.hid (below_app2d HB.out hsz HO.out hgrow1); clear hown1 hgrow1 hat1 hlt1)))
      go_wp2_with fail
      go_roundw
      case rel =>
        exact ⟨j + 1, g1, cap1, by omega, by go_num, rfl, by rw [HTS.out, iv_append]; exact HO1.out, HX_1.out⟩
      case measure => simp [intOf]; omega
    · obtain rfl : j = k := by omega
      have he : (degL xs S).take j = degL xs S := List.take_of_length_le (by rw [degL_length, ← Hk.out]; exact Nat.le_refl _)
      rw [he] at HO
      clear hown hbel he
      go_wp2_with fail
      go_ret
      exact ⟨g, cap, rfl, HO.out.mono hs0, HB0.out.trans (HB.out.mono hs0)⟩

/-- the counts, less those of the first k degrees of a list -/
def lessP (xs D : List Int) (k : Nat) : List Int := (List.range 21).map fun (d : Nat) => ((cnt xs (d : Int) : Nat) : Int) - ((cnt (D.take k) (d : Int) : Nat) : Int)
theorem lessP_length (xs D : List Int) (k : Nat) : (lessP xs D k).length = 21 := by simp [lessP]
theorem lessP_getD (xs D : List Int) (k : Nat) {d : Nat} (h : d < 21) : (lessP xs D k).getD d 0 = ((cnt xs (d : Int) : Nat) : Int) - ((cnt (D.take k) (d : Int) : Nat) : Int) := by simp [lessP, List.getD, h]
theorem lessP_zero (xs D : List Int) : lessP xs D 0 = cntL xs := by
  unfold lessP cntL
  apply List.map_congr_left
  intro d _
  rw [List.take_zero]; simp [cnt]
theorem lessP_succ {xs D : List Int} {k d : Nat} (h : k < D.length) (hd : D.getD k 0 = (d : Int)) (h21 : d < 21) : lessP xs D (k + 1) = (lessP xs D k).set d (((cnt xs (d : Int) : Nat) : Int) - ((cnt (D.take k) (d : Int) : Nat) : Int) - 1) := by
  refine list_ext_getD (lessP_length _ _ _) (by rw [List.length_set]; exact lessP_length _ _ _) fun i hi => ?_
  rw [lessP_getD _ _ _ hi, set_getD _ _ _ _ (by rw [lessP_length]; exact h21), lessP_getD _ _ _ hi, cnt_take h, hd]
  by_cases e : i = d
  · subst e; rw [if_pos rfl, if_pos rfl]; omega
  · rw [if_neg (by omega), if_neg e]; rfl
set_option maxRecDepth 100000 in
set_option maxHeartbeats 2000000 in
theorem lessCounts_any (A A' V : Option Addr) (n c m c' k cv : Nat) (xs : List Int) (S : List Nat) (w : World) (hT : Tab w) (hw : 0 < w.heap.size) (hn : n = xs.length) (hsm : n ≤ 1048576) (hd : ∀ i, i < xs.length → 0 ≤ xs.getD i 0 ∧ xs.getD i 0 ≤ 20) (hk : k = S.length) (hk1 : k ≤ 1048576) (hS : ∀ r ∈ S, r ≠ 0 ∧ Sm r ∧ pv r < n) (hR : Rd w A (iv xs)) (hV : Rd w V (nv S)) :
    Calls Tryd.prog 74 #[.agg #[.slice A n c, .slice A' m c'], .slice V k cv] w fun e w' => ∃ g, e = .returned (.slice (some ⟨g, 0, none⟩) 21 21) ∧ w'.ownsRow w.heap.size 2 1 (.slice (some ⟨g, 0, none⟩) 21 21) 21 (iv (lessP xs (degL xs S) k)) ∧ Below w.heap.size w w' := by
  have hk0 := blk_new w (.cells #[.slice A n c, .slice A' m c'] 29)
  have hb0 : Below w.heap.size w (w.alloc (.cells #[.slice A n c, .slice A' m c'] 29)) := (Below.refl _ _).alloc (Nat.le_refl _) _
  obtain ⟨x0, x1, xf0, xf1, lx⟩ := blk2cells hk0
  have HCN := Lib.hid (fun W (hb : Below w.heap.size w W) => counts_any A n c xs W hn hsm hd (hR.below hb))
  have HDG := Lib.hid (fun W (hb : Below w.heap.size w W) => degreesOf_any A A' V n c m c' k cv xs S W (hT.below hb hw) (by have := hb.size; omega) hn hsm hk hk1 hS (hR.below hb) (hV.below hb))
  have HDD : Hid (∀ j, j < k → 0 ≤ (degL xs S).getD j 0 ∧ (degL xs S).getD j 0 ≤ 20) := Lib.hid (fun j hj => by
    rw [degL_getD xs (by omega)]
    have := hS _ (getD_mem (S := S) (k := j) (by omega))
    exact hd _ (by omega))
  have HLD : Hid ((degL xs S).length = k) := Lib.hid (by rw [degL_length, hk])
  have HK0 := Lib.hid hk0
  have HB0 := Lib.hid hb0
  have hcx : ∀ d : Int, cnt xs d ≤ 1048576 := fun d => by have := cnt_le xs d; omega
  have HCX := Lib.hid hcx
  clear hk0 hT hw hn hd hk hS hR hV hcx hb0
  go_enter Tryd.func74, Tryd.ntmps74
  go_wp2_with fail
  refine (HCN.out _ HB0.out).mono ?_
  rintro e w1 ⟨g, rfl, ho, hb⟩
  have HO1 := Lib.hid (ho.mono HB0.out.size)
  have hgw := (ho.lt g rfl).1
  have HB1 := Lib.hid (HB0.out.trans (hb.mono HB0.out.size))
  have HK1 := Lib.hid (blk_kept HK0.out hb)
  have hgw1 : w.heap.size ≤ g := by have := HB0.out.size; omega
  clear ho hb x0 x1 xf0 xf1 lx hgw
  obtain ⟨x0, x1, xf0, xf1, lx⟩ := blk2cells HK1.out
  go_wp2_with fail
  refine (HDG.out _ HB1.out).mono ?_
  rintro e w2 ⟨gd, cd, rfl, ho, hb⟩
  have HD2 := Lib.hid (owns_Rd ho)
  have hgd := (ho.lt gd rfl).1
  have HO2 : Hid (w2.ownsRow w.heap.size 2 1 (.slice (some ⟨g, 0, none⟩) 21 21) 21 (iv (lessP xs (degL xs S) 0))) := Lib.hid (by rw [lessP_zero]; exact owns_keeps HO1.out (Keeps.of_below hb) (.inr (by simp)))
  have hg1 := (HO1.out.lt g rfl).2
  have HB2 := Lib.hid (HB1.out.trans (hb.mono HB1.out.size))
  have hne : gd ≠ g := by omega
  clear ho hb x0 x1 xf0 xf1 lx hgd hg1
  go_wp2_with fail
  go_loopw [15] (fun i wr => ∃ j : Nat, j ≤ k ∧ i = .int .i64 j ∧ wr.ownsRow w.heap.size 2 1 (.slice (some ⟨g, 0, none⟩) 21 21) 21 (iv (lessP xs (degL xs S) j)) ∧ Rd wr (some ⟨gd, 0, none⟩) (iv (degL xs S)) ∧ Below w.heap.size w wr) (fun i _ => k - (intOf i).toNat)
  case atStart => exact ⟨0, by omega, rfl, HO2.out, HD2.out, HB2.out⟩
  case round =>
    obtain ⟨j, hj, rfl, hown, hrd, hbel⟩ := hrel
    have HO := Lib.hid hown
    have HB := Lib.hid hbel
    have HRD := Lib.hid hrd
    by_cases hlt : j < k
    · have hjl : j < (degL xs S).length := by rw [HLD.out]; exact hlt
      have hc := hrd.cellI hjl
      rw [Nat.zero_add] at hc
      obtain ⟨h0, h1⟩ := HDD.out j hlt
      obtain ⟨d, hde⟩ := Int.eq_ofNat_of_zero_le h0
      have hd21 : d < 21 := by omega
      have HST := Lib.hid (lessP_succ (xs := xs) hjl hde hd21)
      rw [hde] at hc
      have hoc := owns_getD hown hd21
      rw [lessP_getD _ _ _ hd21] at hoc
      have fz := hown.frozenAt d
      have hq1 := HCX.out (d : Int)
      have hq2 := cnt_le ((degL xs S).take j) (d : Int)
      rw [List.length_take, HLD.out] at hq2
      have hq3 : cnt ((degL xs S).take j) (d : Int) ≤ 1048576 := by omega
      have HSTO := Lib.hid (fun z : Int => (World.ownsRow.stored hown d (.int .i64 z)).1)
      generalize cnt xs (d : Int) = p at *
      generalize cnt ((degL xs S).take j) (d : Int) = q at *
      clear hown hbel hrd h0 h1 hde hjl hq2
      go_wp2_with fail
      go_roundw
      case rel => exact ⟨j + 1, by omega, by go_num, by rw [HST.out, iv_set]; exact HSTO.out _, HRD.out.keeps ((Keeps.refl _ [some g]).setCell (p := ⟨g, d, none⟩) (by simp) _) (by rintro a ⟨⟩; simp [hne]), HB.out.setCell (p := ⟨g, d, none⟩) hgw1 _⟩
      case measure => simp [intOf]; omega
    · obtain rfl : j = k := by omega
      clear hown hbel hrd
      go_wp2_with fail
      go_ret
      exact ⟨g, rfl, HO.out, HB.out⟩
end Go.Proofs.YtocllmhkppkfoaaDoor

namespace Go.Proofs.YtocllmhkppkfoaaDoor
open Go.RowKit

theorem comb_snoc : ∀ (S : List Nat) (r i x : Nat), comb (S ++ [r]) i x = xr (comb S i x) (if tb x (i + S.length) = true then r else 0)
  | [], r, i, x => by simp [comb, xr_zero, zero_xr]
  | s :: S, r, i, x => by
    simp only [List.cons_append, comb, comb_snoc S r (i + 1) x, List.length_cons, xr_assoc]
    rw [show i + 1 + S.length = i + (S.length + 1) by omega]
theorem comb_succ (S : List Nat) (x : Nat) {k : Nat} (h : k < S.length) : comb (S.take (k + 1)) 0 x = xr (comb (S.take k) 0 x) (if tb x k = true then S.getD k 0 else 0) := by
  rw [List.take_succ_eq_append_getElem h, comb_snoc, List.length_take, Nat.min_eq_left (Nat.le_of_lt h), Nat.zero_add]
  simp [List.getD, h]
theorem comb_sm : ∀ (S : List Nat) (i x : Nat), (∀ r ∈ S, Sm r) → Sm (comb S i x)
  | [], _, _, _ => Sm.zero
  | r :: S, i, x, h => by
    simp only [comb]
    refine Sm.xr ?_ (comb_sm S (i + 1) x fun s hs => h s (List.mem_cons_of_mem _ hs))
    split
    · exact h r (List.mem_cons_self ..)
    · exact Sm.zero
attribute [local go_sem] i64_xor_nat i64_bit_test in
set_option maxHeartbeats 1000000 in
theorem times_any (A : Option Addr) (n c : Nat) (S : List Nat) (x : Nat) (w : World) (hn : n = S.length) (hsm : n ≤ 64) (hx : Sm x) (hS : ∀ r ∈ S, Sm r) (hR : Rd w A (nv S)) :
    Calls Tryd.prog 107 #[.int .i64 x, .slice A n c] w fun e w' => e = .returned (.int .i64 (comb S 0 x : Nat)) ∧ w = w' := by
  have HR := Lib.hid hR
  have Hn := Lib.hid hn
  have HS := Lib.hid hS
  clear hR hn hS
  go_enter Tryd.func107, Tryd.ntmps107
  go_wp2_with fail
  go_loop [5, 10] (fun t i => ∃ k : Nat, k ≤ n ∧ i = .int .i64 k ∧ t = .int .i64 (comb (S.take k) 0 x : Nat)) (fun _ i => n - (intOf i).toNat)
  case atStart => exact ⟨0, by omega, rfl, rfl⟩
  case round =>
    obtain ⟨k, hk, rfl, rfl⟩ := hrel
    by_cases hlt : k < n
    · have hkL : k < S.length := by rw [← Hn.out]; exact hlt
      obtain ⟨b, o, rfl, hc⟩ := HR.out.atN hkL
      have HC := Lib.hid (comb_succ S x hkL)
      have h1 : Sm (comb (S.take k) 0 x) := comb_sm _ _ _ fun r hr => HS.out r (List.mem_of_mem_take hr)
      have h2 : Sm (S.getD k 0) := HS.out _ (by simp [List.getD, hkL])
      generalize comb (S.take k) 0 x = p at *
      generalize S.getD k 0 = q at *
      have hmin : min k 64 = k := by omega
      cases hb : tb x k
      · have HE := Lib.hid (HC.out.trans (by rw [hb]; simp [xr_zero] : _ = p))
        go_wp2_with fail
        go_round
        case rel => exact ⟨k + 1, by omega, by go_num, by rw [HE.out]⟩
        case measure => simp [intOf]; omega
      · have HE := Lib.hid (HC.out.trans (by rw [hb]; simp : _ = xr p q))
        go_wp2_with fail
        go_round
        case rel => exact ⟨k + 1, by omega, by go_num, by rw [HE.out]⟩
        case measure => simp [intOf]; omega
    · have e : S.take k = S := List.take_of_length_le (by rw [← Hn.out]; omega)
      rw [e]
      clear e
      go_wp2_with fail
      go_ret
      exact ⟨rfl, rfl⟩

/-- the table of a module under way: the block of the table, m rows made, their numbers -/
structure TbM (w0 w : World) (g : Nat) (A : Option Addr) (n c : Nat) (h : Nat → Nat) (m : Nat) (S : Nat → List Nat) : Prop where
  blk : ∃ cs : Array Value, w.heap[g]? = some (.cells cs 77 (0, 0)) ∧ cs.size = 22 ∧ cs[0]? = some (.slice A n c) ∧ ∀ k, k < m → cs[1 + k]? = some (.slice (some ⟨h k, 0, none⟩) n n)
  own : ∀ k, k < m → w.ownsRow w0.heap.size 2 1 (.slice (some ⟨h k, 0, none⟩) n n) n (nv (S k))
  inj : ∀ k j, k < m → j < m → k ≠ j → h k ≠ h j
  ge : w0.heap.size ≤ g
  bel : Below w0.heap.size w0 w
section
variable {w0 w : World} {g : Nat} {A : Option Addr} {n c : Nat} {h : Nat → Nat} {m : Nat} {S : Nat → List Nat}
theorem TbM.cell (t : TbM w0 w g A n c h m S) {k : Nat} (hk : k < m) : w.cell? ⟨g, 1 + k, none⟩ = some (.slice (some ⟨h k, 0, none⟩) n n) := by
  obtain ⟨cs, hb, _, _, hc⟩ := t.blk
  rw [cell_of_row w g (1 + k) cs _ _ hb]; exact hc k hk
theorem TbM.cell0 (t : TbM w0 w g A n c h m S) : w.cell? ⟨g, 0, none⟩ = some (.slice A n c) := by
  obtain ⟨cs, hb, _, h0, _⟩ := t.blk
  rw [cell_of_row w g 0 cs _ _ hb]; exact h0
theorem TbM.frozen (t : TbM w0 w g A n c h m S) (i : Nat) : w.frozen? ⟨g, i, none⟩ = false := by
  obtain ⟨cs, hb, _⟩ := t.blk
  simp [World.frozen?, hb]
theorem TbM.old (t : TbM w0 w g A n c h m S) {i : Nat} (hi : i < 22) : ∃ v, w.cell? ⟨g, i, none⟩ = some v := by
  obtain ⟨cs, hb, hs, _⟩ := t.blk
  rw [cell_of_row w g i cs _ _ hb]
  exact ⟨cs[i], by simp [hs, hi]⟩
theorem TbM.lt (t : TbM w0 w g A n c h m S) : g < w.heap.size := by
  obtain ⟨cs, hb, _⟩ := t.blk
  exact (Array.getElem?_eq_some_iff.1 hb).1
theorem TbM.ne (t : TbM w0 w g A n c h m S) {k : Nat} (hk : k < m) : h k ≠ g := by
  obtain ⟨cs, hb, _⟩ := t.blk
  have := own_ne_blk (t.own k hk) hb (by decide)
  simpa [Value.ownBlock] using this
theorem TbM.congr {S' : Nat → List Nat} (t : TbM w0 w g A n c h m S) (e : ∀ k, k < m → S k = S' k) : TbM w0 w g A n c h m S' :=
  ⟨t.blk, fun k hk => by rw [← e k hk]; exact t.own k hk, t.inj, t.ge, t.bel⟩
theorem TbM.below {w' : World} (t : TbM w0 w g A n c h m S) (hb : Below w.heap.size w w') : TbM w0 w' g A n c h m S := by
  obtain ⟨cs, hk, rest⟩ := t.blk
  exact ⟨⟨cs, blk_kept hk hb, rest⟩, fun k hk => owns_keeps (t.own k hk) (Keeps.of_below hb) (.inr (by simp)), t.inj, t.ge, t.bel.trans (hb.mono t.bel.size)⟩
/-- a number stored into a row -/
theorem TbM.store (t : TbM w0 w g A n c h m S) {k : Nat} (hk : k < m) (b x : Nat) : TbM w0 (w.setCell ⟨h k, b, none⟩ (.int .i64 (x : Int))) g A n c h m (fun j => if j = k then (S k).set b x else S j) := by
  have ks : Keeps w (w.setCell ⟨h k, b, none⟩ (.int .i64 (x : Int))) [some (h k)] := (Keeps.refl w [some (h k)]).setCell (p := ⟨h k, b, none⟩) (by simp) _
  obtain ⟨cs, hb, rest⟩ := t.blk
  refine ⟨⟨cs, blk_seto hb _ (t.ne hk) _, rest⟩, fun j hj => ?_, t.inj, t.ge, t.bel.setCell (p := ⟨h k, b, none⟩) ((t.own k hk).lt (h k) rfl).1 _⟩
  by_cases e : j = k
  · subst e
    rw [if_pos rfl]
    have := (World.ownsRow.stored (t.own j hk) b (.int .i64 (x : Int))).1
    have e2 : nv ((S j).set b x) = (nv (S j)).set b (.int .i64 (x : Int)) := by simp [nv, List.map_set]
    rw [e2]; exact this
  · rw [if_neg e]
    exact owns_keeps (t.own j hj) ks (.inr (by simp only [Value.ownBlock, List.mem_singleton, Option.some.injEq]; exact t.inj j k hj hk e))
/-- one more row made -/
theorem TbM.make (t : TbM w0 w g A n c h m S) (hm : m < 21) (hn : n ≤ 1099511627776) : TbM w0 ((w.alloc (.cells (madeCells #[.int .i64 0] n) 2)).setCell ⟨g, 1 + m, none⟩ (.slice (some ⟨w.heap.size, 0, none⟩) n n)) g A n c (fun k => if k = m then w.heap.size else h k) (m + 1) (fun k => if k = m then List.replicate n 0 else S k) := by
  have hlt := t.lt
  have t1 := t.below ((Below.refl _ _).alloc (Nat.le_refl _) (.cells (madeCells #[.int .i64 0] n) 2))
  have ho := made_own w w0.heap.size n t.bel.size hn
  have ks : Keeps (w.alloc (.cells (madeCells #[.int .i64 0] n) 2)) ((w.alloc (.cells (madeCells #[.int .i64 0] n) 2)).setCell ⟨g, 1 + m, none⟩ (.slice (some ⟨w.heap.size, 0, none⟩) n n)) [some g] := (Keeps.refl _ [some g]).setCell (p := ⟨g, 1 + m, none⟩) (by simp) _
  obtain ⟨cs, hb, hs, h0, hc⟩ := t1.blk
  refine ⟨⟨cs.setIfInBounds (1 + m) (.slice (some ⟨w.heap.size, 0, none⟩) n n), heap_setCell_same _ _ _ _ _ _ hb, by simp [hs], ?_, ?_⟩, ?_, ?_, t.ge, t1.bel.setCell (p := ⟨g, 1 + m, none⟩) t.ge _⟩
  · rw [Array.getElem?_setIfInBounds]; rw [if_neg (by omega)]; exact h0
  · intro k hk
    rw [Array.getElem?_setIfInBounds]
    by_cases e : k = m
    · subst e; rw [if_pos rfl, if_pos (by rw [hs]; omega)]; simp
    · rw [if_neg (by omega)]; simp only [if_neg e]; exact hc k (by omega)
  · intro k hk
    by_cases e : k = m
    · subst e
      simp only [if_true]
      have e2 : nv (List.replicate n 0) = iv (List.replicate n 0) := by simp [nv, iv]
      rw [e2]
      exact owns_keeps ho ks (.inr (by simp [Value.ownBlock]; omega))
    · simp only [if_neg e]
      exact owns_keeps (t1.own k (by omega)) ks (.inr (by simp only [Value.ownBlock, List.mem_singleton, Option.some.injEq]; exact t.ne (k := k) (by omega)))
  · intro k j hk hj hne
    have hl : ∀ i, i < m → h i < w.heap.size := fun i hi => ((t.own i hi).lt (h i) rfl).2
    by_cases e : k = m
    · by_cases e2 : j = m
      · omega
      · simp only [if_pos e, if_neg e2]; have := hl j (by omega); omega
    · by_cases e2 : j = m
      · simp only [if_neg e, if_pos e2]; have := hl k (by omega); omega
      · simp only [if_neg e, if_neg e2]; exact t.inj k j (by omega) (by omega) hne
theorem TbM.drew (t : TbM w0 w g A n c h m S) : TbM w0 w.drew g A n c h m S := t.below (Below.drew (Below.refl _ _))
end
end Go.Proofs.YtocllmhkppkfoaaDoor
