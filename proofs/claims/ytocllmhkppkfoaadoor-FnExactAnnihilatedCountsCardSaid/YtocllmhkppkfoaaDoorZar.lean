/- the reference's AnnihilatedCounts -/
import Derived.Test.YtocllmhkppkfoaaDoorZaq
namespace Go.Proofs.YtocllmhkppkfoaaDoor
open Go.RowKit

/-- the counts, less some numbers in the degrees below k -/
def subP (xs : List Int) (f : Nat → Nat) (k : Nat) : List Int := (List.range 21).map fun (d : Nat) => ((cnt xs (d : Int) : Nat) : Int) - if d < k then ((f d : Nat) : Int) else 0
theorem subP_length (xs : List Int) (f : Nat → Nat) (k : Nat) : (subP xs f k).length = 21 := by simp [subP]
theorem subP_getD (xs : List Int) (f : Nat → Nat) (k : Nat) {d : Nat} (h : d < 21) : (subP xs f k).getD d 0 = ((cnt xs (d : Int) : Nat) : Int) - if d < k then ((f d : Nat) : Int) else 0 := by simp [subP, List.getD, h]
theorem subP_zero (xs : List Int) (f : Nat → Nat) : subP xs f 0 = cntL xs := by
  unfold subP cntL
  apply List.map_congr_left
  intro d _
  rw [if_neg (by omega), Int.sub_zero]
theorem subP_succ (xs : List Int) (f : Nat → Nat) {k : Nat} (h : k < 21) : subP xs f (k + 1) = (subP xs f k).set k (((cnt xs (k : Int) : Nat) : Int) - ((f k : Nat) : Int)) := by
  refine list_ext_getD (subP_length _ _ _) (by rw [List.length_set]; exact subP_length _ _ _) fun i hi => ?_
  rw [subP_getD _ _ _ hi, set_getD _ _ _ _ (by rw [subP_length]; exact h), subP_getD _ _ _ hi]
  by_cases e : i = k
  · subst e; rw [if_pos rfl, if_pos (by omega)]
  · rw [if_neg e]
    by_cases e2 : i < k
    · rw [if_pos e2, if_pos (by omega)]
    · rw [if_neg e2, if_neg (by omega)]
noncomputable def annF (xs : List Int) (Q : List (List Int)) (d : Nat) : Nat := rkS (annRows xs Q (d : Int))
noncomputable def annihilatedCountsOf (xs : List Int) (L : List Row) : List Int × Int := if modB xs (dat L) = true then (subP xs (annF xs (dat L)) 21, 0) else ([], 1)
theorem annihilatedCountsOf_dat {xs : List Int} {L M : List Row} (h : dat M = dat L) : annihilatedCountsOf xs M = annihilatedCountsOf xs L := by unfold annihilatedCountsOf; rw [h]
theorem annihilatedCountsOf_yes {xs : List Int} {L : List Row} (h : modB xs (dat L) = true) : annihilatedCountsOf xs L = (subP xs (annF xs (dat L)) 21, 0) := by unfold annihilatedCountsOf; rw [if_pos h]
theorem annihilatedCountsOf_no {xs : List Int} {L : List Row} (h : modB xs (dat L) = false) : annihilatedCountsOf xs L = ([], 1) := by unfold annihilatedCountsOf; rw [if_neg (by rw [h]; simp)]
theorem annihilatedCountsOf_len (xs : List Int) (L : List Row) : (annihilatedCountsOf xs L).1.length ≤ 1000 := by
  cases h : modB xs (dat L)
  · rw [annihilatedCountsOf_no h]; simp
  · rw [annihilatedCountsOf_yes h, subP_length]; omega
theorem annTo_len (xs : List Int) (Q : List (List Int)) (d : Int) : ∀ k, (annTo xs Q d k).length ≤ k := by
  intro k
  unfold annTo
  rw [List.length_map]
  exact Nat.le_trans (List.length_filter_le _ _) (by simp)

set_option maxRecDepth 100000 in
set_option maxHeartbeats 8000000 in
theorem specAnnihilatedCounts_any (A : Option Addr) (n c : Nat) (xs : List Int) (A' : Option Addr) (m c' : Nat) (L : List Row) (w : World) (hn : n = xs.length) (hsm : n ≤ 1048576) (hR : Rd w A (iv xs)) (hm : m = L.length) (hm1 : m ≤ 1048576) (hl : ∀ i, i < L.length → (rg L i).xs.length ≤ 1048576) (hR' : RdR w A' L) :
    Calls Tryd.prog 17 #[.agg #[.slice A n c, .slice A' m c']] w (ResS (annihilatedCountsOf xs L) w) := by
  have hb0 : Below w.heap.size w (w.alloc (.cells #[.slice A n c, .slice A' m c'] 29)) := (Below.refl _ _).alloc (Nat.le_refl _) _
  have hk0 := blk_new w (.cells #[.slice A n c, .slice A' m c'] 29)
  obtain ⟨x0, x1, xf0, xf1, lx⟩ := blk2cells hk0
  have HM := Lib.hid (l11Is_any A A' n c m c' xs L _ hn hsm (hR.below hb0) hm hm1 hl (hR'.below hb0))
  have HB0 := Lib.hid hb0
  have HK0 := Lib.hid hk0
  cases hmod : modB xs (dat L)
  · rw [hmod] at HM
    have HF := Lib.hid (annihilatedCountsOf_no hmod)
    clear hb0 hk0 hn hR hm hl hR' hmod
    go_enter Tryd.func17, Tryd.ntmps17
    go_wp2_with (go_at_call 65; refine HM.out.mono ?_; rintro e w1 ⟨rfl, hb⟩; have HB1 := Lib.hid (HB0.out.trans (hb.mono HB0.out.size)); clear hb)
    go_ret2
    exact ⟨.slice none 0 0, by rw [HF.out]; rfl, by rw [HF.out]; exact World.ownsRow_nil _ _ _ _, HB1.out⟩
  · rw [hmod] at HM
    have hshp := (modB_iff.1 hmod).shp
    have h16 : n ≤ 16 := by rw [hn]; exact hshp.len
    have HD := Lib.hid hshp.deg
    have HSH := Lib.hid hshp
    have HF := Lib.hid (annihilatedCountsOf_yes hmod)
    have Hn := Lib.hid hn
    have HCN := Lib.hid (fun W (hb : Below w.heap.size w W) => l11Counts_any A n c xs W hn hsm hshp.deg (hR.below hb))
    have HUN := Lib.hid (fun (v : Nat) (hv : v < n) W => l11Unit_any n v W hv (by omega))
    have HAC := Lib.hid (fun (V : Option Addr) (cv : Nat) (z : Int) (v : Nat) W (hb : Below w.heap.size w W) (hV : Rd W V (iv (bitsL v n))) => l11Act_any A A' V n c m c' cv xs L z v W hn hm hshp hm1 (hR'.below hb) hV)
    have HBG : Hid (∀ v k, v < n → bitsL (bigR (dat L) n (2 ^ v) (k + 1)) ((k + 1) * n) = bitsL (bigR (dat L) n (2 ^ v) k) (k * n) ++ bitsL (act (dat L) ((k + 1 : Nat) : Int) (2 ^ v)) n) := Lib.hid (fun v k hv => by
      rw [hn]; exact bigR_bits hshp (pow_lt_len (by rw [← hn]; exact hv)) k)
    have HR := Lib.hid hR
    clear hb0 hk0 hn hR hm hl hR' hmod hshp
    go_enter Tryd.func17, Tryd.ntmps17
    go_wp2_with fail
    refine HM.out.mono ?_
    rintro e w1 ⟨rfl, hb⟩
    have HB1 := Lib.hid (HB0.out.trans (hb.mono HB0.out.size))
    have HK1 := Lib.hid (blk_kept HK0.out hb)
    clear hb x0 x1 xf0 xf1 lx
    have KS := Lib.hid (fun w' (hb : Below w1.heap.size w1 w') => show w'.cell? ⟨w.heap.size, 0, none⟩ = some (.slice A n c) from (blk2cells (blk_kept HK1.out hb)).1)
    have HB_0 := Lib.hid (Below.drew (Below.refl w1.heap.size w1))
    have HT_0 := Lib.hid (HB1.out.trans (HB_0.out.mono HB1.out.size))
    obtain ⟨x0, x1, xf0, xf1, lx⟩ := blk2cells HK1.out
    go_wp2_with fail
    go_region_held3 (fun w' => w'.cell? ⟨w.heap.size, 0, none⟩ = some (.slice A n c))
      (first | exact KS.out _ HB_0.out | exact KS.out _ HB_1.out)
      ((go_at_call 66; (with_reducible refine (HCN.out _ HT_0.out).mono ?_); (rintro e w2 ⟨g, rfl, ho, hb⟩; have HO2 := Lib.hid ho; have HB_1 := Lib.hid (HB_0.out.trans (hb.mono HB_0.out.size)); clear ho hb)))
    have HB2 := Lib.hid (HB1.out.trans (HB_1.out.mono HB1.out.size))
    have HK2 := Lib.hid (blk_kept HK1.out HB_1.out)
    have HBC := HB_1
    have hs12 : w1.heap.size ≤ w2.heap.size := HB_1.out.size
    have hs01 : w.heap.size ≤ w1.heap.size := HB1.out.size
    have hd0 : w1.drew.heap.size = w1.heap.size := rfl
    have hgw : w1.heap.size ≤ g := by have := (HO2.out.lt g rfl).1; omega
    have HO2' : Hid (w2.ownsRow w1.heap.size 2 1 (.slice (some ⟨g, 0, none⟩) 21 21) 21 (iv (subP xs (annF xs (dat L)) 0))) := Lib.hid (by rw [subP_zero]; exact HO2.out)
    clear HO2 HB_0 HT_0 HB_1 KS x0 x1 xf0 xf1 lx
    go_wp2_with fail
    go_loopw [6] (fun i wr => ∃ d : Nat, d ≤ 21 ∧ i = .int .i64 d ∧ wr.ownsRow w1.heap.size 2 1 (.slice (some ⟨g, 0, none⟩) 21 21) 21 (iv (subP xs (annF xs (dat L)) d)) ∧ Below w1.heap.size w1 wr) (fun i _ => 21 - (intOf i).toNat)
    case atStart => exact ⟨0, by omega, rfl, HO2'.out, HBC.out⟩
    case round =>
      obtain ⟨d, hd, rfl, hown, hbel⟩ := hrel
      obtain ⟨w3, hw3⟩ : ∃ w3, w3 = wr := ⟨_, rfl⟩
      subst hw3
      have HOW := Lib.hid hown
      have HBL := Lib.hid hbel
      have hs3 := hbel.size
      have HK3 := Lib.hid (blk_kept HK1.out hbel)
      have HB3 := Lib.hid (HB1.out.trans (hbel.mono HB1.out.size))
      by_cases hlt : d < 21
      · have hd20 : (d : Int) ≤ 20 := by omega
        clear hown hbel
        go_wp2_with fail
        go_loopw [7, 8] (fun q i wr => ∃ (v : Nat) (R : List Row) (A1 : Option Addr) (c1 : Nat), v ≤ n ∧ i = .int .i64 v ∧ q = .slice A1 R.length c1 ∧ Hid (dat R = (annTo xs (dat L) (d : Int) v).map fun r => bitsL r (20 * n)) ∧ OwnR wr w3.heap.size (.slice A1 R.length c1) R ∧ Below w3.heap.size w3 wr) (fun _ i _ => n - (intOf i).toNat)
        case atStart => exact ⟨0, [], some ⟨w3.heap.size, 0, none⟩, 0, by omega, rfl, rfl, Lib.hid rfl, OwnR.made w3 (Nat.le_refl _), (Below.refl _ _).alloc (Nat.le_refl _) _⟩
        case round =>
          obtain ⟨v, R, A1, c1, hvn', rfl, rfl, HDR, hown, hbel⟩ := hrel
          obtain ⟨wv, hwv⟩ : ∃ wv, wv = wr := ⟨_, rfl⟩
          subst hwv
          have HO := Lib.hid hown
          have HB := Lib.hid hbel
          have hs4 := hbel.size
          have hRl : R.length ≤ n := by
            have h1 := congrArg List.length HDR.out
            rw [dat_length, List.length_map] at h1
            have h2 := annTo_len xs (dat L) (d : Int) v
            omega
          have hq : R.length < 1099511627776 := by omega
          have HT := Lib.hid (HB3.out.trans (hbel.mono HB3.out.size))
          by_cases hvn : v < n
          · obtain ⟨b, o, rfl, hc⟩ := (HR.out.below HT.out).atI (k := v) (by rw [← Hn.out]; exact hvn)
            obtain ⟨d1, d2⟩ := HD.out v (by rw [← Hn.out]; exact hvn)
            obtain ⟨x0, x1, xf0, xf1, lx⟩ := blk2cells (blk_kept HK3.out hbel)
            have hGS := annTo_succ xs (dat L) (d : Int) v
            by_cases hxd : xs.getD v 0 = (d : Int)
            · rw [if_pos hxd, ← Hn.out] at hGS
              have HGS := Lib.hid hGS
              have KS := Lib.hid (fun w' (hb : Below wv.heap.size wv w') => show w'.cell? ⟨w.heap.size, 0, none⟩ = some (.slice (some ⟨b, o, none⟩) n c) ∧ w'.cell? ⟨w.heap.size, 1, none⟩ = some (.slice A' m c') from by
                have J := blk2cells (blk_kept HK3.out (HB.out.trans (hb.mono hs4)))
                exact ⟨J.1, J.2.1⟩)
              have HUNv := Lib.hid (HUN.out v hvn)
              have HBGv := Lib.hid (fun k => HBG.out v k hvn)
              rw [hxd] at hc
              clear hown hbel hGS hxd d1 d2
              go_wp2_with fail
              go_loopw [9, 10] (fun q i wr => ∃ (k : Nat) (u : Value), k ≤ 20 ∧ i = .int .i64 ((k : Int) + 1) ∧ q = u ∧ wr.ownsRow wv.heap.size 2 1 u (k * n) (iv (bitsL (bigR (dat L) n (2 ^ v) k) (k * n))) ∧ Below wv.heap.size wv wr) (fun _ i _ => 21 - (intOf i).toNat)
              case atStart =>
                refine ⟨0, .slice (some ⟨wv.heap.size, 0, none⟩) 0 0, by omega, rfl, rfl, ?_, (Below.refl _ _).alloc (Nat.le_refl _) _⟩
                have h := World.ownsRow_made wv #[] 0 (base := wv.heap.size) (e := 2) (size := 1) (Nat.le_refl _) (by decide) (by simp)
                rw [Nat.zero_mul]; exact h
              case round =>
                obtain ⟨k, u, hk, rfl, rfl, hown, hbel⟩ := hrel
                have HOr := Lib.hid hown
                have HBr := Lib.hid hbel
                have hs5 := hbel.size
                have hkn : k * n ≤ 320 := Nat.le_trans (Nat.mul_le_mul (by omega : k ≤ 20) h16) (by omega)
                obtain ⟨Au, cu, rfl, _, hpos, _⟩ := owns_shape hown
                obtain ⟨x0, x1, xf0, xf1, lx⟩ := blk2cells (blk_kept HK3.out (HB.out.trans (hbel.mono hs4)))
                by_cases hk20 : k < 20
                · have hki : (k : Int) + 1 ≤ 20 := by omega
                  have HB_0 := Lib.hid (Below.drew (Below.refl wr.heap.size wr))
                  have HX_0 := Lib.hid (HBr.out.trans (HB_0.out.mono hs5))
                  have HBGk := Lib.hid (HBGv.out k)
                  have HEK : Hid (((k + 1 : Nat) : Int) = (k : Int) + 1) := Lib.hid (by omega)
                  clear hown hbel hpos
                  go_wp2_with fail
                  go_region_held3 (fun w' => w'.cell? ⟨w.heap.size, 0, none⟩ = some (.slice (some ⟨b, o, none⟩) n c) ∧ w'.cell? ⟨w.heap.size, 1, none⟩ = some (.slice A' m c'))
                    (first | exact KS.out _ HX_0.out | exact KS.out _ HX_1.out | exact KS.out _ HX_2.out | exact KS.out _ HX_3.out)
                    (first
                      | (go_at_call 68; (with_reducible refine (HUNv.out _).mono ?_); (rintro e w4 ⟨gu, cu', rfl, ho, hb⟩; have HU := Lib.hid (owns_Rd ho); have HB_1 := Lib.hid (HB_0.out.trans (hb.mono HB_0.out.size)); have HX_1 := Lib.hid (HBr.out.trans (HB_1.out.mono hs5)); clear ho hb))
                      | (go_at_call 67; (with_reducible refine (HAC.out _ _ _ _ _ (HT.out.trans (HX_1.out.mono HT.out.size)) HU.out).mono ?_); (rintro e w5 ⟨ga, ca, rfl, ho, hb⟩; have HOA := Lib.hid (owns_Rd ho); have HB_2 := Lib.hid (HB_1.out.trans (hb.mono HB_1.out.size)); have HX_2 := Lib.hid (HBr.out.trans (HB_2.out.mono hs5)); clear ho hb))
                      | (refine step_appR _ _ _ _ _ etI (by rfl) (by rfl) wv.heap.size (.slice Au (k * n) cu) (k * n) (iv (bitsL (bigR (dat L) n (2 ^ v) k) (k * n))) (by rfl) ?_ (some ⟨ga, 0, none⟩) n ca (iv (bitsL (act (dat L) ((k : Int) + 1) (2 ^ v)) n)) (by rfl) (by rw [iv_length, bitsL_length]) ?_ (iv_one _) ?_ ?_ ?_; exact owns_keeps HOr.out (Keeps.of_below HB_2.out) (.inr (by simp)); exact HOA.out; omega; exact HX_2.out.size; (intro u' w6 hown2 hg2 hat2; have HN := Lib.hid hown2; have HX_3 := Lib.hid (HX_2.out.grown hg2 HX_2.out.size (fun q hq => (HOr.out.lt q hq).1)); clear hown2 hg2 hat2)))
                  go_wp2_with fail
                  go_roundw
                  case rel =>
                    refine ⟨k + 1, u', by omega, by go_num, rfl, ?_, HX_3.out⟩
                    rw [HBGk.out, iv_append, Nat.succ_mul, HEK.out]; exact HN.out
                  case measure => simp [intOf]; omega
                · obtain rfl : k = 20 := by omega
                  have hki : ((20 : Nat) : Int) + 1 = 21 := rfl
                  obtain ⟨gr, rfl, _⟩ := hpos (by omega)
                  have HLb : Hid ((bitsL (bigR (dat L) n (2 ^ v) 20) (20 * n)).length = 20 * n) := Lib.hid (bitsL_length _ _)
                  clear hown hbel hpos hkn
                  go_wp2_with (at_builtin; refine wpList_app1 _ _ _ _ _ etS (by rfl) (by rfl) w3.heap.size (.slice A1 R.length c1) R.length (hv R) (by rfl) ((HO.out.later HBr.out).out.alloc _) _ (.slice (some ⟨gr, 0, none⟩) (20 * n) cu) (by rfl) (new_cell _ _ _) (by rfl) hq (Nat.le_trans (Nat.le_trans hs4 hs5) (Nat.le_of_lt (by simp))) ?_; (intro g2 c2 w7 hown3 hg3 hat3 hlt3; have HN := Lib.hid (OwnR.push HO.out HBr.out HOr.out HLb.out.symm hs4 hown3 hg3); have HX3 := Lib.hid (below_app2 (HB.out.trans (HBr.out.mono hs4)) (Nat.le_trans hs4 hs5) (HO.out.later HBr.out).out hg3); clear hown3 hg3 hat3 hlt3))
                  go_roundw
                  case rel =>
                    refine ⟨v + 1, R ++ [⟨some ⟨gr, 0, none⟩, cu, bitsL (bigR (dat L) n (2 ^ v) 20) (20 * n)⟩], some ⟨g2, 0, none⟩, c2, by omega, by go_num, by simp, Lib.hid ?_, by simpa using HN.out, HX3.out⟩
                    rw [dat_append1, HDR.out, HGS.out, List.map_append]; rfl
                  case measure => simp [intOf]; omega
            · rw [if_neg hxd, List.append_nil] at hGS
              have HDR' : Hid (dat R = (annTo xs (dat L) (d : Int) (v + 1)).map fun r => bitsL r (20 * n)) := Lib.hid (by rw [hGS]; exact HDR.out)
              generalize xs.getD v 0 = y at *
              have hyb : (y != (d : Int)) = true := by simpa using hxd
              clear hown hbel hGS hxd
              go_wp2_with fail
              go_roundw
              case rel => exact ⟨v + 1, R, A1, c1, by omega, by go_num, rfl, HDR', HO.out, HB.out⟩
              case measure => simp [intOf]; omega
          · obtain rfl : v = n := by omega
            have HGN : Hid (annTo xs (dat L) (d : Int) v = annRows xs (dat L) (d : Int)) := Lib.hid (by unfold annRows; rw [← Hn.out])
            have hlen : R.length = (annRows xs (dat L) (d : Int)).length := by
              have h1 := congrArg List.length HDR.out
              rwa [dat_length, List.length_map, HGN.out] at h1
            have HRK := Lib.hid (fun W (hb : Below wv.heap.size wv W) => l11Rank_any (20 * v) A1 R.length c1 (annRows xs (dat L) (d : Int)) R W hlen (by omega) (by omega) (fun r hr => by
              have := annTo_lt HSH.out (Nat.le_refl _) hr; rwa [← Hn.out] at this) (by rw [HDR.out, HGN.out]) ((HO.out.later hb).rd rfl))
            have hrk : annF xs (dat L) d ≤ 16 := by have := rkS_le (annRows xs (dat L) (d : Int)); unfold annF; omega
            have hcn : cnt xs (d : Int) ≤ 16 := by have := cnt_le xs (d : Int); have := Hn.out; omega
            have HGP := Lib.hid (subP_succ xs (annF xs (dat L)) hlt)
            have HOX := Lib.hid (fun W (hb : Below wv.heap.size wv W) => owns_keeps HOW.out (Keeps.of_below (HB.out.trans (hb.mono hs4))) (.inr (by simp)))
            have HCX : Hid (∀ W, Below wv.heap.size wv W → W.cell? ⟨g, d, none⟩ = some (.int .i64 (cnt xs (d : Int) : Nat)) ∧ W.frozen? ⟨g, d, none⟩ = false) := Lib.hid (fun W hb => by
              have h1 := owns_getD (HOX.out W hb) hlt
              rw [subP_getD _ _ _ hlt, if_neg (by omega), Int.sub_zero] at h1
              exact ⟨h1, (HOX.out W hb).frozenAt d⟩)
            have HSTO := Lib.hid (fun W (hb : Below wv.heap.size wv W) (z : Int) => (World.ownsRow.stored (HOX.out W hb) d (.int .i64 z)).1)
            have HRK' : Hid (∀ W, Below wv.heap.size wv W → Calls Tryd.prog 69 #[.slice A1 R.length c1] W fun e w' => e = .returned (.int .i64 ((annF xs (dat L) d : Nat) : Int)) ∧ Below W.heap.size W w') := Lib.hid (fun W hb => HRK.out W hb)
            clear HRK
            generalize annF xs (dat L) d = rq at *
            generalize cnt xs (d : Int) = cq at *
            have hlti : (d : Int) < 21 := by omega
            have hcell := (HCX.out wv (Below.refl _ _)).1
            have HB_0 := Lib.hid (Below.drew (Below.refl wv.heap.size wv))
            have HX_0 := Lib.hid (HBL.out.trans ((HB.out.trans (HB_0.out.mono hs4)).mono hs3))
            clear hown hbel hlen hRl hq hvn hvn'
            go_wp2_with fail
            refine wp_region_any (by kernel_rfl) ?_
            try (change wpAny _ _ _ _ _ _ _ (World.drew _))
            refine wpAny_take (i := 0) (oi := ?oio1_1) (v := ?vo1_1) ?ho1_1 (by kernel_rfl) (by kernel_rfl) (by kernel_rfl) ?qo1_1 (Or.inl ⟨?wo1_1, ?yo1_1⟩) ?ro1_1
            case ho1_1 => (simp only [List.getElem?_toArray, List.getElem?_cons_succ, List.getElem?_cons_zero]; rfl)
            case qo1_1 => exact fun _ _ _ h => h
            case wo1_1 => rfl
            case yo1_1 => (intro w; go_simp <;> with_reducible rfl)
            try simp only [Act.put, List.setIfInBounds_toArray, List.set_cons_zero, List.set_cons_succ]
            refine wpAny_take (i := 1) (oi := ?oio1_2) (v := ?vo1_2) ?ho1_2 (by kernel_rfl) (by kernel_rfl) (by kernel_rfl) ?qo1_2 (Or.inl ⟨?wo1_2, ?yo1_2⟩) ?ro1_2
            case ho1_2 => (simp only [List.getElem?_toArray, List.getElem?_cons_succ, List.getElem?_cons_zero]; rfl)
            case qo1_2 => exact fun _ _ _ h => h
            case wo1_2 => rfl
            case yo1_2 => (intro w; go_simp <;> with_reducible rfl)
            try simp only [Act.put, List.setIfInBounds_toArray, List.set_cons_zero, List.set_cons_succ]
            refine wpAny_take (i := 2) (oi := ?oio1_3) (v := ?vo1_3) ?ho1_3 (by kernel_rfl) (by kernel_rfl) (by kernel_rfl) ?qo1_3 (Or.inl ⟨?wo1_3, ?yo1_3⟩) ?ro1_3
            case ho1_3 => (simp only [List.getElem?_toArray, List.getElem?_cons_succ, List.getElem?_cons_zero]; rfl)
            case qo1_3 => exact fun _ _ _ h => h
            case wo1_3 => rfl
            case yo1_3 => (intro w; go_simp <;> with_reducible rfl)
            try simp only [Act.put, List.setIfInBounds_toArray, List.set_cons_zero, List.set_cons_succ]
            refine wpAny_take (i := 3) (oi := ?oio1_4) (v := ?vo1_4) ?ho1_4 (by kernel_rfl) (by kernel_rfl) (by kernel_rfl) ?qo1_4 (Or.inl ⟨?wo1_4, ?yo1_4⟩) ?ro1_4
            case ho1_4 => (simp only [List.getElem?_toArray, List.getElem?_cons_succ, List.getElem?_cons_zero]; rfl)
            case qo1_4 => exact fun _ _ _ h => h
            case wo1_4 => rfl
            case yo1_4 => (intro w; go_simp <;> with_reducible rfl)
            try simp only [Act.put, List.setIfInBounds_toArray, List.set_cons_zero, List.set_cons_succ]
            refine wpAny_take (i := 4) (oi := ?oio1_5) (v := ?vo1_5) ?ho1_5 (by kernel_rfl) (by kernel_rfl) (by kernel_rfl) ?qo1_5 (Or.inl ⟨?wo1_5, ?yo1_5⟩) ?ro1_5
            case ho1_5 => (simp only [List.getElem?_toArray, List.getElem?_cons_succ, List.getElem?_cons_zero]; rfl)
            case qo1_5 => exact fun _ _ _ h => h
            case wo1_5 => rfl
            case yo1_5 => (intro w; go_simp <;> with_reducible rfl)
            try simp only [Act.put, List.setIfInBounds_toArray, List.set_cons_zero, List.set_cons_succ]
            refine wpAny_take (i := 6) (oi := ?oio1_6) (v := ?vo1_6) ?ho1_6 (by kernel_rfl) (by kernel_rfl) (by kernel_rfl) ?qo1_6 (Or.inl ⟨?wo1_6, ?yo1_6⟩) ?ro1_6
            case ho1_6 => (simp only [List.getElem?_toArray, List.getElem?_cons_succ, List.getElem?_cons_zero]; rfl)
            case qo1_6 => exact fun _ _ _ h => h
            case wo1_6 => rfl
            case yo1_6 => (intro w; go_simp <;> with_reducible rfl)
            try simp only [Act.put, List.setIfInBounds_toArray, List.set_cons_zero, List.set_cons_succ]
            refine wpAny_ready (rs := [5, 7]) (by kernel_rfl) (by simp) ?_
            refine AllReady.cons (o := ?oio1_7) ?ho1_7 (fun K hK => ?ko1_7) ?mo1_7
            case ho1_7 => (simp only [List.getElem?_toArray, List.getElem?_cons_succ, List.getElem?_cons_zero]; rfl)
            case ko1_7 =>
              go_simp
              refine hK _ _ ?_
              clear hK K
              try simp only [Act.put, List.setIfInBounds_toArray, List.set_cons_zero, List.set_cons_succ]
              refine wpAny_ready (rs := [7]) (by kernel_rfl) (by simp) ?_
              refine AllReady.cons (o := ?oio1_8) ?ho1_8 (fun K hK => ?ko1_8) ?mo1_8
              case ho1_8 => (simp only [List.getElem?_toArray, List.getElem?_cons_succ, List.getElem?_cons_zero]; rfl)
              case ko1_8 =>
                go_simp
                (go_at_call 69; refine (HRK'.out _ HB_0.out).mono ?_; rintro e w7 ⟨rfl, hb⟩; have HB_1 := Lib.hid (HB_0.out.trans (hb.mono HB_0.out.size)); have hcell7 := (HCX.out _ HB_1.out).1; have fz7 := (HCX.out _ HB_1.out).2; clear hb)
                refine hK _ _ ?_
                clear hK K
                try simp only [Act.put, List.setIfInBounds_toArray, List.set_cons_zero, List.set_cons_succ]
                refine wpAny_take (i := 8) (oi := ?oio1_9) (v := ?vo1_9) ?ho1_9 (by kernel_rfl) (by kernel_rfl) (by kernel_rfl) ?qo1_9 (Or.inl ⟨?wo1_9, ?yo1_9⟩) ?ro1_9
                case ho1_9 => (simp only [List.getElem?_toArray, List.getElem?_cons_succ, List.getElem?_cons_zero]; rfl)
                case qo1_9 => exact fun _ _ _ h => h
                case wo1_9 => rfl
                case yo1_9 => (intro w; go_simp <;> with_reducible rfl)
                try simp only [Act.put, List.setIfInBounds_toArray, List.set_cons_zero, List.set_cons_succ]
                refine wpAny_take (i := 9) (oi := ?oio1_10) (v := ?vo1_10) ?ho1_10 (by kernel_rfl) (by kernel_rfl) (by kernel_rfl) ?qo1_10 (Or.inl ⟨?wo1_10, ?yo1_10⟩) ?ro1_10
                case ho1_10 => (simp only [List.getElem?_toArray, List.getElem?_cons_succ, List.getElem?_cons_zero]; rfl)
                case qo1_10 => exact fun _ _ _ h => h
                case wo1_10 => rfl
                case yo1_10 => (intro w; go_simp <;> with_reducible rfl)
                try simp only [Act.put, List.setIfInBounds_toArray, List.set_cons_zero, List.set_cons_succ]
                refine wpAny_ready (rs := [10]) (by kernel_rfl) (by simp) ?_
                refine AllReady.cons (o := ?oio1_11) ?ho1_11 (fun K hK => ?ko1_11) ?mo1_11
                case ho1_11 => (simp only [List.getElem?_toArray, List.getElem?_cons_succ, List.getElem?_cons_zero]; rfl)
                case ko1_11 =>
                  go_simp
                  refine hK _ _ ?_
                  clear hK K
                  try simp only [Act.put, List.setIfInBounds_toArray, List.set_cons_zero, List.set_cons_succ]
                  refine wpAny_done (by kernel_rfl) ?_ _
                  go_wp2_with fail
                  go_roundw
                  case rel => exact ⟨d + 1, by omega, by go_num, by rw [HGP.out, iv_set]; exact HSTO.out _ HB_1.out _, (HBL.out.trans ((HB.out.trans (HB_1.out.mono hs4)).mono hs3)).setCell (p := ⟨g, d, none⟩) hgw _⟩
                  case measure => simp [intOf]; omega
                exact AllReady.nil
              exact AllReady.nil
            refine AllReady.cons (o := ?oio1_12) ?ho1_12 (fun K hK => ?ko1_12) ?mo1_12
            case ho1_12 => (simp only [List.getElem?_toArray, List.getElem?_cons_succ, List.getElem?_cons_zero]; rfl)
            case ko1_12 =>
              go_simp
              (go_at_call 69; refine (HRK'.out _ HB_0.out).mono ?_; rintro e w7 ⟨rfl, hb⟩; have HB_1 := Lib.hid (HB_0.out.trans (hb.mono HB_0.out.size)); have hcell7 := (HCX.out _ HB_1.out).1; have fz7 := (HCX.out _ HB_1.out).2; clear hb)
              refine hK _ _ ?_
              clear hK K
              try simp only [Act.put, List.setIfInBounds_toArray, List.set_cons_zero, List.set_cons_succ]
              refine wpAny_ready (rs := [5]) (by kernel_rfl) (by simp) ?_
              refine AllReady.cons (o := ?oio1_13) ?ho1_13 (fun K hK => ?ko1_13) ?mo1_13
              case ho1_13 => (simp only [List.getElem?_toArray, List.getElem?_cons_succ, List.getElem?_cons_zero]; rfl)
              case ko1_13 =>
                go_simp
                refine hK _ _ ?_
                clear hK K
                try simp only [Act.put, List.setIfInBounds_toArray, List.set_cons_zero, List.set_cons_succ]
                refine wpAny_take (i := 8) (oi := ?oio1_14) (v := ?vo1_14) ?ho1_14 (by kernel_rfl) (by kernel_rfl) (by kernel_rfl) ?qo1_14 (Or.inl ⟨?wo1_14, ?yo1_14⟩) ?ro1_14
                case ho1_14 => (simp only [List.getElem?_toArray, List.getElem?_cons_succ, List.getElem?_cons_zero]; rfl)
                case qo1_14 => exact fun _ _ _ h => h
                case wo1_14 => rfl
                case yo1_14 => (intro w; go_simp <;> with_reducible rfl)
                try simp only [Act.put, List.setIfInBounds_toArray, List.set_cons_zero, List.set_cons_succ]
                refine wpAny_take (i := 9) (oi := ?oio1_15) (v := ?vo1_15) ?ho1_15 (by kernel_rfl) (by kernel_rfl) (by kernel_rfl) ?qo1_15 (Or.inl ⟨?wo1_15, ?yo1_15⟩) ?ro1_15
                case ho1_15 => (simp only [List.getElem?_toArray, List.getElem?_cons_succ, List.getElem?_cons_zero]; rfl)
                case qo1_15 => exact fun _ _ _ h => h
                case wo1_15 => rfl
                case yo1_15 => (intro w; go_simp <;> with_reducible rfl)
                try simp only [Act.put, List.setIfInBounds_toArray, List.set_cons_zero, List.set_cons_succ]
                refine wpAny_ready (rs := [10]) (by kernel_rfl) (by simp) ?_
                refine AllReady.cons (o := ?oio1_16) ?ho1_16 (fun K hK => ?ko1_16) ?mo1_16
                case ho1_16 => (simp only [List.getElem?_toArray, List.getElem?_cons_succ, List.getElem?_cons_zero]; rfl)
                case ko1_16 =>
                  go_simp
                  refine hK _ _ ?_
                  clear hK K
                  try simp only [Act.put, List.setIfInBounds_toArray, List.set_cons_zero, List.set_cons_succ]
                  refine wpAny_done (by kernel_rfl) ?_ _
                  go_wp2_with fail
                  go_roundw
                  case rel => exact ⟨d + 1, by omega, by go_num, by rw [HGP.out, iv_set]; exact HSTO.out _ HB_1.out _, (HBL.out.trans ((HB.out.trans (HB_1.out.mono hs4)).mono hs3)).setCell (p := ⟨g, d, none⟩) hgw _⟩
                  case measure => simp [intOf]; omega
                exact AllReady.nil
              exact AllReady.nil
            exact AllReady.nil
      · obtain rfl : d = 21 := by omega
        have hd21 : ((21 : Nat) : Int) = 21 := rfl
        have HOB := Lib.hid (HOW.out.mono hs01)
        clear hown hbel
        go_wp2_with fail
        go_ret2
        exact ⟨_, by rw [HF.out]; rfl, by rw [HF.out]; simp only [subP_length]; exact HOB.out, HB3.out⟩
end Go.Proofs.YtocllmhkppkfoaaDoor
