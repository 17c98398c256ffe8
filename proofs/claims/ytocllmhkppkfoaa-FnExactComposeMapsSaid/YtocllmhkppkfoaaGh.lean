/- impl's isMap, mapped, IsModuleMap, ApplyMap -/
import Derived.Test.YtocllmhkppkfoaaGg
import Derived.Test.YtocllmhkppkfoaaGe
import Derived.Test.YtocllmhkppkfoaaPj
namespace Go.Proofs.Ytocllmhkppkfoaa
open Go.RowKit

theorem ModIn.isM {w : World} {A A' : Option Addr} {n m : Nat} {xs : List Int} {L : List Row} (h : ModIn w A n A' m xs L) (c c' : Nat) (W : World) (hb : Below w.heap.size w W) :
    Calls Try.prog 49 #[.agg #[.slice A n c, .slice A' m c']] W fun e w' => e = .returned (.bool (modB xs (dat L))) ∧ Below W.heap.size W w' :=
  isModule_any A A' n c m c' xs L W h.r.hn h.hsm (h.r.deg.below hb) h.r.hm h.r.hm1 h.hl (h.r.act.below hb)
theorem ModR.table {w : World} {A A' : Option Addr} {n m : Nat} {xs : List Int} {L : List Row} (h : ModR w A n A' m xs L) (hs : Shp xs (dat L)) (c c' : Nat) (W : World) (hb : Below w.heap.size w W) :
    Calls Try.prog 77 #[.agg #[.slice A n c, .slice A' m c']] W fun e w' => ∃ g, e = .returned (.pointer (some ⟨g, 0, none⟩)) ∧ TblAt w' g A n c (dat L) ∧ Below W.heap.size W w' :=
  (tableOf_any A A' n c m c' xs L W h.hn h.hm h.hm1 hs (h.act.below hb)).mono fun _ _ ⟨g, _, he, ht⟩ => ⟨g, he, ht.rd, ht.bel⟩

set_option maxRecDepth 100000 in
set_option maxHeartbeats 8000000 in
theorem isMap_any (A A' B B' W : Option Addr) (n c m c' p d q d' k cw : Nat) (xs ys : List Int) (L M P : List Row) (w : World)
    (hM : ModR w A n A' m xs L) (hs : Shp xs (dat L)) (hN : ModR w B p B' q ys M) (ht : Shp ys (dat M)) (hk : k = P.length) (hk1 : k ≤ 1048576) (hv : ∀ i, i < P.length → vecB p (rg P i).xs = true) (hP : Rd w W (nv ((dat P).map mk))) :
    Calls Try.prog 82 #[.agg #[.slice A n c, .slice A' m c'], .agg #[.slice B p d, .slice B' q d'], .slice W k cw] w fun e w' => e = .returned (.bool (mapB xs (dat L) ys (dat M) (dat P))) ∧ Below w.heap.size w w' := by
  have hn16 : n ≤ 16 := by rw [hM.hn]; exact hs.len
  have hp16 : p ≤ 16 := by rw [hN.hn]; exact ht.len
  obtain ⟨hb0, hk1', hk2'⟩ := box_two w A A' B B' n c m c' p d q d'
  have HK1 := Lib.hid hk1'
  have HK2 := Lib.hid hk2'
  have HB0 := Lib.hid hb0
  have HT1 := Lib.hid (hM.table hs c c')
  have HT2 := Lib.hid (hN.table ht d d')
  have HM := Lib.hid hM
  have HN := Lib.hid hN
  have HS := Lib.hid hs
  have HT := Lib.hid ht
  have HP := Lib.hid hP
  have Hk := Lib.hid hk
  have HV := Lib.hid hv
  have Hn := Lib.hid hM.hn
  have Hp := Lib.hid hN.hn
  have HLEN : Hid (((dat P).map mk).length = k) := Lib.hid (by rw [List.length_map, dat_length, hk])
  have HLTM : Hid (∀ r ∈ (dat P).map mk, r < 2 ^ p) := Lib.hid (mks_lt (fun t ht => by rw [dat_getD]; exact hv t (by rw [← dat_length]; exact ht)))
  clear hM hN hs ht hP hk hv hb0 hk1' hk2'
  obtain ⟨x0, x1, xf0, xf1, lx⟩ := blk2cells HK1.out
  by_cases hkn : k = n
  · subst hkn
    have KS := Lib.hid (fun w' (hb : Below ((w.alloc (.cells #[.slice A k c, .slice A' m c'] 45)).alloc (.cells #[.slice B p d, .slice B' q d'] 45)).heap.size ((w.alloc (.cells #[.slice A k c, .slice A' m c'] 45)).alloc (.cells #[.slice B p d, .slice B' q d'] 45)) w') => show w'.cell? ⟨w.heap.size, 0, none⟩ = some (.slice A k c) ∧ w'.cell? ⟨w.heap.size, 1, none⟩ = some (.slice A' m c') ∧ w'.cell? ⟨w.heap.size + 1, 0, none⟩ = some (.slice B p d) ∧ w'.cell? ⟨w.heap.size + 1, 1, none⟩ = some (.slice B' q d') from by
      obtain ⟨x0, x1, _⟩ := blk2cells (blk_kept HK1.out hb)
      obtain ⟨y0, y1, _⟩ := blk2cells (blk_kept HK2.out hb)
      exact ⟨x0, x1, y0, y1⟩)
    have HB_0 := Lib.hid (Below.drew (Below.refl ((w.alloc (.cells #[.slice A k c, .slice A' m c'] 45)).alloc (.cells #[.slice B p d, .slice B' q d'] 45)).heap.size ((w.alloc (.cells #[.slice A k c, .slice A' m c'] 45)).alloc (.cells #[.slice B p d, .slice B' q d'] 45))))
    have HW_0 := Lib.hid (HB0.out.trans (HB_0.out.mono HB0.out.size))
    go_enter Try.func82, Try.ntmps82
    go_wp2_with fail
    clear x0 x1 xf0 xf1 lx
    go_region_held3 (fun w' => w'.cell? ⟨w.heap.size, 0, none⟩ = some (.slice A k c) ∧ w'.cell? ⟨w.heap.size, 1, none⟩ = some (.slice A' m c') ∧ w'.cell? ⟨w.heap.size + 1, 0, none⟩ = some (.slice B p d) ∧ w'.cell? ⟨w.heap.size + 1, 1, none⟩ = some (.slice B' q d'))
      (first | exact KS.out _ HB_0.out | exact KS.out _ HB_1.out | exact KS.out _ HB_2.out)
      (first
        | (go_at_call 77; (with_reducible refine (HT1.out _ HW_0.out).mono ?_); (rintro e w1 ⟨g1, rfl, ht, hb⟩; have HG1 := Lib.hid ht; have HB_1 := Lib.hid (HB_0.out.trans (hb.mono HB_0.out.size)); have HW_1 := Lib.hid (HB0.out.trans (HB_1.out.mono HB0.out.size)); clear ht hb))
        | (go_at_call 77; (with_reducible refine (HT2.out _ HW_1.out).mono ?_); (rintro e w2 ⟨g2, rfl, ht, hb⟩; have HG2 := Lib.hid ht; have HG1b := Lib.hid (HG1.out.below hb); have HB_2 := Lib.hid (HB_1.out.trans (hb.mono HB_1.out.size)); have HW_2 := Lib.hid (HB0.out.trans (HB_2.out.mono HB0.out.size)); clear ht hb)))
    have HK1a := Lib.hid (blk_kept HK1.out HB_2.out)
    have HK2a := Lib.hid (blk_kept HK2.out HB_2.out)
    clear KS HB_0 HB_1 HW_0 HW_1 HG1
    go_wp2_with fail
    go_loopw [24] (fun s24 wr => ∃ i : Nat, i ≤ k ∧ s24 = .int .i64 i ∧ Hid (∀ t, t < i → Hom ys (xs.getD t 0) (mk (rg P t).xs) ∧ ∀ j : Nat, 1 ≤ j → j ≤ 20 → comb ((dat P).map mk) 0 (act (dat L) (j : Int) (2 ^ t)) = act (dat M) (j : Int) (mk ((dat P).getD t []))) ∧ Below w2.heap.size w2 wr) (fun s _ => k - (intOf s).toNat)
    case atStart => exact ⟨0, by omega, rfl, Lib.hid (fun t ht => by omega), Below.refl _ _⟩
    case round =>
      obtain ⟨i, hi, rfl, HQ, hbel⟩ := hrel
      have HBL := Lib.hid hbel
      have HB1 := Lib.hid (HW_2.out.trans (hbel.mono HW_2.out.size))
      have HK1b := Lib.hid (blk_kept HK1a.out hbel)
      have HK2b := Lib.hid (blk_kept HK2a.out hbel)
      by_cases hlt : i < k
      · have hiP : i < P.length := by rw [← Hk.out]; exact hlt
        obtain ⟨b2, o2, rfl, hc2⟩ := (HM.out.deg.below HB1.out).atI (k := i) (by rw [← Hn.out]; exact hlt)
        have hcm := (HP.out.below HB1.out).atN (k := i) (by rw [HLEN.out]; exact hlt)
        rw [mks_rg hiP] at hcm
        obtain ⟨bm, om, rfl, hcm⟩ := hcm
        have HEQ : Hid ((dat P).getD i [] = (rg P i).xs) := Lib.hid (dat_getD P i)
        have e3 := (vec_row (HV.out i hiP)).2.2
        generalize hmv : mk (rg P i).xs = v at *
        have HMV := Lib.hid hmv
        generalize hdd : xs.getD i 0 = dd at *
        have HDD := Lib.hid hdd
        clear hdd hmv
        have HDE := Lib.hid (fun W' (hb : Below wr.heap.size wr W') => inDegree_any B B' p d q d' ys dd W' Hp.out (by omega) ((HN.out.deg.below HB1.out).below hb))
        have hand := i64_andnot_nat (sm16 hp16 e3) (sm16 HT.out.len (dmask_lt ys dd))
        have HH : Hid (nt v (dmask ys dd) = 0 ↔ Hom ys dd v) := Lib.hid nt_hom
        generalize dmask ys dd = u at *
        generalize nt v u = z at *
        have HHF : Hid (z ≠ 0 → mapB xs (dat L) ys (dat M) (dat P) = false) := Lib.hid (fun hz => mapB_no (fun h => by
          have h1 := h.hom i (by rw [dat_length]; exact hiP)
          rw [dat_getD, HDD.out] at h1
          simp only [HMV.out] at h1
          exact hz (HH.out.2 h1)))
        have KS := Lib.hid (fun w' (hb : Below wr.heap.size wr w') => show w'.cell? ⟨w.heap.size + 1, 0, none⟩ = some (.slice B p d) ∧ w'.cell? ⟨w.heap.size + 1, 1, none⟩ = some (.slice B' q d') ∧ w'.cell? ⟨w.heap.size, 0, none⟩ = some (.slice (some ⟨b2, o2, none⟩) k c) ∧ w'.cell? ⟨b2, o2 + i, none⟩ = some (.int .i64 dd) from by
          obtain ⟨x0, x1, _⟩ := blk2cells (blk_kept HK1b.out hb)
          obtain ⟨y0, y1, _⟩ := blk2cells (blk_kept HK2b.out hb)
          exact ⟨y0, y1, x0, cell_keep hc2 hb⟩)
        have HB_0 := Lib.hid (Below.drew (Below.refl wr.heap.size wr))
        clear hbel hc2
        go_wp2_with fail
        clear hcm
        go_region_held3 (fun w' => w'.cell? ⟨w.heap.size + 1, 0, none⟩ = some (.slice B p d) ∧ w'.cell? ⟨w.heap.size + 1, 1, none⟩ = some (.slice B' q d') ∧ w'.cell? ⟨w.heap.size, 0, none⟩ = some (.slice (some ⟨b2, o2, none⟩) k c) ∧ w'.cell? ⟨b2, o2 + i, none⟩ = some (.int .i64 dd))
          (first | exact KS.out _ HB_0.out | exact KS.out _ HB_1.out)
          ((go_at_call 106; (with_reducible refine (HDE.out _ HB_0.out).mono ?_); (rintro e w3 ⟨rfl, hb⟩; have HB_1 := Lib.hid (HB_0.out.trans (hb.mono HB_0.out.size)); clear hb)))
        have HBI := Lib.hid (HBL.out.trans (HB_1.out.mono HBL.out.size))
        by_cases hz : z = 0
        · have HOK := Lib.hid (HH.out.1 hz)
          have hzb : ((z : Int) != 0) = false := by simp [hz]
          have HG1c := Lib.hid (HG1b.out.below HBI.out)
          have HG2c := Lib.hid (HG2.out.below HBI.out)
          have HPc := Lib.hid (HP.out.below (HW_2.out.trans (HBI.out.mono HW_2.out.size)))
          clear hz KS HB_0
          rw [hzb]
          go_wp2_with fail
          go_loop [11] (fun s11 => ∃ j : Nat, 1 ≤ j ∧ j ≤ 21 ∧ s11 = .int .i64 j ∧ Hid (∀ j' : Nat, 1 ≤ j' → j' < j → comb ((dat P).map mk) 0 (act (dat L) (j' : Int) (2 ^ i)) = act (dat M) (j' : Int) (mk ((dat P).getD i [])))) (fun s => 21 - (intOf s).toNat)
          case atStart => exact ⟨1, by omega, by omega, rfl, Lib.hid (fun j' h1 h2 => by omega)⟩
          case round =>
            obtain ⟨j, hj1, hj2, rfl, HJ⟩ := hrel
            by_cases hlt3 : j ≤ 20
            · obtain ⟨hh, hrow, hrd⟩ := HG1c.out.row j (by omega)
              have hsq := hrd.atN (k := i) (by rw [sqRow_length]; exact hlt)
              rw [sqRow_getD _ hlt, sqOr_act HS.out] at hsq
              obtain ⟨bs, os, hes, hcs⟩ := hsq
              injection hes with hes
              injection hes with hes1 hes2 _
              subst hes1
              subst hes2
              rw [Nat.zero_add] at hcs
              have hlt2t : 2 ^ i < 2 ^ xs.length := pow_lt_pow (by rw [← Hn.out]; exact hlt)
              have HSM : Hid (∀ r ∈ (dat P).map mk, Sm r) := Lib.hid (fun r hr => sm16 hp16 (HLTM.out r hr))
              have HTI := Lib.hid (times_any (some ⟨bm, om, none⟩) k cw ((dat P).map mk) (act (dat L) (j : Int) (2 ^ i)) w3 HLEN.out.symm (by omega) (sm16 HS.out.len (act_lt HS.out hlt2t _)) HSM.out HPc.out)
              have HSQ := Lib.hid (square_any g2 B p d ys (dat M) (j : Int) (v : Int) v w3 Hp.out HT.out (by omega) rfl (by rw [← Hp.out]; exact e3) HG2c.out)
              have hHJ1 : Hid (comb ((dat P).map mk) 0 (act (dat L) (j : Int) (2 ^ i)) = act (dat M) (j : Int) v → ∀ j' : Nat, 1 ≤ j' → j' < j + 1 → comb ((dat P).map mk) 0 (act (dat L) (j' : Int) (2 ^ i)) = act (dat M) (j' : Int) (mk ((dat P).getD i []))) := Lib.hid (fun he j' h1 h2 => by
                by_cases e : j' = j
                · subst e; rw [HEQ.out, HMV.out]; exact he
                · exact HJ.out j' h1 (by omega))
              have hHJ2 : Hid (comb ((dat P).map mk) 0 (act (dat L) (j : Int) (2 ^ i)) ≠ act (dat M) (j : Int) v → mapB xs (dat L) ys (dat M) (dat P) = false) := Lib.hid (fun hne => mapB_no (fun h => hne (by
                have h1 := h.eqn i (by rw [dat_length]; exact hiP) j hj1 hlt3
                rw [HEQ.out, HMV.out] at h1; exact h1)))
              generalize act (dat L) (j : Int) (2 ^ i) = u1 at *
              generalize comb ((dat P).map mk) 0 u1 = z1 at *
              generalize act (dat M) (j : Int) v = z2 at *
              have hj21 : (j : Int) < 21 := by omega
              clear hrd hlt2t
              go_wp2_with fail
              refine HTI.out.mono ?_
              rintro e w' ⟨rfl, rfl⟩
              go_wp2_with fail
              refine HSQ.out.mono ?_
              rintro e w' ⟨rfl, rfl⟩
              by_cases hz : z1 = z2
              · have HYES := Lib.hid (hHJ1.out hz)
                have hzb : ((z1 : Int) != (z2 : Int)) = false := by simp [hz]
                clear hz
                go_wp2_with fail
                go_round
                case rel => exact ⟨j + 1, by omega, by omega, by go_num, HYES⟩
                case measure => simp [intOf]; omega
              · have HF := Lib.hid (hHJ2.out hz)
                have hzb : ((z1 : Int) != (z2 : Int)) = true := by simp; omega
                clear hz
                go_wp2_with fail
                go_ret
                exact ⟨by rw [HF.out]; rfl, HW_2.out.trans (HBI.out.mono HW_2.out.size)⟩
            · obtain rfl : j = 21 := by omega
              go_wp2_with fail
              go_roundw
              case rel =>
                refine ⟨i + 1, by omega, by go_num, Lib.hid (fun t' ht' => ?_), HBI.out⟩
                by_cases e : t' = i
                · subst e; exact ⟨by rw [HDD.out, HMV.out]; exact HOK.out, fun j' h1 h2 => HJ.out j' h1 (by omega)⟩
                · exact HQ.out t' (by omega)
              case measure => simp [intOf]; omega
        · have HF := Lib.hid (HHF.out hz)
          have hzb : ((z : Int) != 0) = true := by simp [hz]
          clear hz
          go_wp2_with fail
          go_ret
          exact ⟨by rw [HF.out]; rfl, HW_2.out.trans (HBI.out.mono HW_2.out.size)⟩
      · obtain rfl : i = k := by omega
        have HYES : Hid (mapB xs (dat L) ys (dat M) (dat P) = true) := Lib.hid (mapB_yes ⟨by rw [dat_length, ← Hk.out, Hn.out], fun i hi => by rw [dat_getD, ← Hp.out]; exact HV.out i (by rw [← dat_length]; exact hi), fun i hi => by rw [dat_getD]; exact (HQ.out i (by rw [Hk.out, ← dat_length]; exact hi)).1, fun i hi j h1 h2 => (HQ.out i (by rw [Hk.out, ← dat_length]; exact hi)).2 j h1 h2⟩)
        clear hbel
        go_wp2_with fail
        go_ret
        exact ⟨by rw [HYES.out]; rfl, HB1.out⟩
  · have hkb : ((k : Int) != (n : Int)) = true := by simp; omega
    have HF : Hid (mapB xs (dat L) ys (dat M) (dat P) = false) := Lib.hid (mapB_no (fun h => hkn (by rw [Hk.out, Hn.out, ← dat_length]; exact h.len)))
    clear hkn
    go_enter Try.func82, Try.ntmps82
    go_wp2_with fail
    go_ret
    exact ⟨by rw [HF.out]; rfl, HB0.out⟩
end Go.Proofs.Ytocllmhkppkfoaa
