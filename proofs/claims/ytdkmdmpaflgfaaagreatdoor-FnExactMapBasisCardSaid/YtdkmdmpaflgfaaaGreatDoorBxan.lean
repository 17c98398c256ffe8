/- the reference's l12Solutions · the reference's l12Maps, CountMaps · MapBasis: the reference · what the law's walk asks of rows of rows of rows · rows of []int of the call's own (written by mkownq.py from texts Rw, My) · the walks of the span · span.left -/
import Derived.Test.YtdkmdmpaflgfaaaGreatDoorBxal
import Derived.OwnWalk
import Derived.Test.YtdkmdmpaflgfaaaGreatDoorBxac
import Derived.Test.YtdkmdmpaflgfaaaGreatDoorBxam
import Derived.Test.YtdkmdmpaflgfaaaGreatDoorBxah
import Derived.Test.YtdkmdmpaflgfaaaGreatDoorBxak
import Derived.Test.YtdkmdmpaflgfaaaGreatDoorBxaa
import Derived.Test.YtdkmdmpaflgfaaaGreatDoorBxad
set_option linter.all false
namespace Go.Proofs.YtdkmdmpaflgfaaaGreatDoor
open Go.RowKit

def pivTo (C : List Nat) : Nat → Nat
  | 0 => 0
  | k + 1 => orr (pivTo C k) (2 ^ pv (C.getD k 0))
theorem tb_pivTo (C : List Nat) (u : Nat) : ∀ k, k ≤ C.length → tb (pivTo C k) u = (C.take k).any fun r => decide (pv r = u)
  | 0, _ => by simp [pivTo, tb_zero]
  | k + 1, h => by
    unfold pivTo
    rw [tb_orr, tb_pow, tb_pivTo C u k (by omega), List.take_succ_eq_append_getElem (show k < C.length by omega), List.any_append]
    simp [List.getD, show k < C.length by omega]
theorem pivTo_all (C : List Nat) (u : Nat) : tb (pivTo C C.length) u = isPv C u := by
  rw [tb_pivTo C u _ (Nat.le_refl _), List.take_of_length_le (Nat.le_refl _)]; rfl
theorem pivTo_lt {C : List Nat} {U : Nat} (h : ∀ r ∈ C, pv r < U) (k : Nat) (hk : k ≤ C.length) : pivTo C k < 2 ^ U := lt_of_tb fun m hm => by
  rw [tb_pivTo C m k hk, List.any_eq_false]
  intro r hr
  have := h r (List.mem_of_mem_take hr)
  simp; omega
theorem ownTo_lt {C : List Nat} {U u : Nat} (h : ∀ r ∈ C, pv r < U) (hu : u < U) (k : Nat) (hk : k ≤ C.length) : ownTo C u k < 2 ^ U := lt_of_tb fun m hm => by
  cases hb : tb (ownTo C u k) m with
  | false => rfl
  | true =>
    rcases (tb_ownTo C u k m).1 hb with h1 | ⟨i, hi, _, h1⟩
    · omega
    · have := h _ (getD_mem (S := C) (k := i) (by omega)); omega
theorem and_two {v p : Nat} (hv : Sm v) (hp : p ≤ 62) : (bits .and .i64 (v : Int) ((2 : Int) ^ p) != 0) = tb v p := by
  have := and_pw_ne hv hp
  rwa [show ((pw p : Nat) : Int) = (2 : Int) ^ p by unfold pw; simp] at this

set_option maxRecDepth 100000 in
set_option maxHeartbeats 8000000 in
theorem l12Solutions_any (A : Option Addr) (n c U : Nat) (C : List Nat) (w : World) (hn : n = C.length) (hU : U ≤ 60) (hC : Red C) (hlt : ∀ r ∈ C, r < 2 ^ U) (hR : Rd w A (nv C)) :
    Calls Tryz.prog 78 #[.slice A n c, .int .i64 U] w fun e w' => ∃ v, e = .returned v ∧ w'.ownsRow w.heap.size 2 1 v (reduceS (solsTo C U)).length (nv (reduceS (solsTo C U))) ∧ Below w.heap.size w w' := by
  have hpv : ∀ r ∈ C, pv r < U := fun r hr => pv_lt (hC.ne r hr).1 (hC.ne r hr).2 (hlt r hr)
  have hnU : n ≤ U := by rw [hn]; exact red_len hC hlt
  have HR := Lib.hid hR
  have Hn := Lib.hid hn
  have HNE := Lib.hid hC.ne
  have HPS : Hid (∀ k, k ≤ C.length → Sm (pivTo C k)) := Lib.hid (fun k hk => sm_of_lt (a := U) (by omega) (pivTo_lt hpv k hk))
  have HOS : Hid (∀ u k, u < U → k ≤ C.length → Sm (ownTo C u k)) := Lib.hid (fun u k hu hk => sm_of_lt (a := U) (by omega) (ownTo_lt hpv hu k hk))
  have HSL : Hid (∀ k, k ≤ U → ∀ r ∈ solsTo C k, r < 2 ^ U) := Lib.hid (fun k hk r hr => by
    obtain ⟨u, hu, _, rfl⟩ := mem_solsTo.1 hr
    exact ownU_lt hC hlt (by omega))
  have HPV : Hid (∀ r ∈ C, pv r ≤ 62) := Lib.hid (fun r hr => by have := hpv r hr; omega)
  clear hC hlt hR hn hpv
  go_enter Tryz.func78, Tryz.ntmps78
  go_wp2_with fail
  go_loopw [5, 6] (fun q i wr => ∃ k : Nat, k ≤ n ∧ i = .int .i64 k ∧ q = .int .i64 (pivTo C k : Nat) ∧ w = wr) (fun _ i _ => n - (intOf i).toNat)
  case atStart => exact ⟨0, by omega, rfl, rfl, rfl⟩
  case round =>
    obtain ⟨k, hk, rfl, rfl, rfl⟩ := hrel
    by_cases hlt : k < n
    · have hkC : k < C.length := by rw [← Hn.out]; exact hlt
      obtain ⟨b, o, rfl, hc⟩ := HR.out.atN hkC
      obtain ⟨h0, h1⟩ := HNE.out _ (getD_mem hkC)
      have hp62 := HPV.out _ (getD_mem hkC)
      have hs1 := HPS.out k (by omega)
      have HP1 : Hid (pivTo C (k + 1) = orr (pivTo C k) (2 ^ pv (C.getD k 0))) := Lib.hid rfl
      have hor := i64_or_nat hs1 (pw_sm hp62)
      rw [show pw (pv (C.getD k 0)) = 2 ^ pv (C.getD k 0) from rfl] at hor
      have HLW := Lib.hid (low_any (C.getD k 0) h0 h1 w)
      rw [show pw (pv (C.getD k 0)) = 2 ^ pv (C.getD k 0) from rfl] at HLW
      generalize C.getD k 0 = r at *
      generalize pivTo C k = p at *
      generalize 2 ^ pv r = l at *
      clear h0 h1 hp62 hs1
      go_wp2_with fail
      refine HLW.out.mono ?_
      rintro e w' ⟨rfl, rfl⟩
      go_wp2_with fail
      go_roundw
      case rel => exact ⟨k + 1, by omega, by go_num, by rw [HP1.out], trivial⟩
      case measure => simp [intOf]; omega
    · obtain rfl : k = n := by omega
      have HPA : Hid (∀ u, tb (pivTo C k) u = isPv C u) := Lib.hid (fun u => by rw [Hn.out]; exact pivTo_all C u)
      have HPSk := Lib.hid (HPS.out k (by rw [Hn.out]; exact Nat.le_refl _))
      generalize pivTo C k = pm at *
      clear HPS
      go_wp2_with fail
      go_loopw [7, 8] (fun o i wr => ∃ u : Nat, u ≤ U ∧ i = .int .i64 u ∧ wr.ownsRow w.heap.size 2 1 o (reduceS (solsTo C u)).length (nv (reduceS (solsTo C u))) ∧ Below w.heap.size w wr) (fun _ i _ => U - (intOf i).toNat)
      case atStart => exact ⟨0, by omega, rfl, World.ownsRow_made w #[] 0 (Nat.le_refl _) (by decide) (by simp), (Below.refl _ _).alloc (Nat.le_refl _) _⟩
      case round =>
        obtain ⟨u, hu, rfl, hown, hbel⟩ := hrel
        obtain ⟨w3, hw3⟩ : ∃ w3, w3 = wr := ⟨_, rfl⟩
        subst hw3
        have HO := Lib.hid hown
        have HB := Lib.hid hbel
        have hsz := hbel.size
        by_cases huU : u < U
        · have hmin : min u 64 = u := by omega
          obtain ⟨pb1, pb2⟩ := pow62 (d := u) (by omega)
          have hand := and_two HPSk.out (p := u) (by omega)
          rw [HPA.out u] at hand
          have hSS := solsTo_succ C u
          have HRW := Lib.hid (HR.out.below hbel)
          obtain ⟨Ao, co, rfl, _⟩ := owns_shape hown
          cases hip : isPv C u
          · rw [hip] at hand hSS
            have HSS : Hid (reduceS (solsTo C (u + 1)) = putS (reduceS (solsTo C u)) (ownU C u)) := Lib.hid (by rw [hSS]; exact reduce_snoc _ _)
            have HOU : Hid (ownTo C u k = ownU C u) := Lib.hid (by rw [Hn.out]; rfl)
            have h2p : ((2 ^ u : Nat) : Int) = (2 : Int) ^ u := by simp
            have H0 : Hid (((ownTo C u 0 : Nat) : Int) = (2 : Int) ^ u) := Lib.hid h2p
            obtain ⟨rr1, rr2⟩ := redK (HSL.out u hu) hU
            have HPU := Lib.hid (fun x (hx : Sm x) => put_any w.heap.size _ _ x w3 hsz hown (by omega) hx rr1)
            have HOSu := Lib.hid (fun i hi => HOS.out u i huU hi)
            clear hown hbel hSS hip h2p rr1 rr2
            go_wp2_with fail
            clear hand
            go_loopw [10, 11] (fun q i wr => ∃ j : Nat, j ≤ k ∧ i = .int .i64 j ∧ q = .int .i64 (ownTo C u j : Nat) ∧ w3 = wr) (fun _ i _ => k - (intOf i).toNat)
            case atStart => exact ⟨0, by omega, rfl, by rw [← H0.out], rfl⟩
            case round =>
              obtain ⟨j, hj, rfl, rfl, rfl⟩ := hrel
              by_cases hjk : j < k
              · have hjC : j < C.length := by rw [← Hn.out]; exact hjk
                obtain ⟨b, o, rfl, hc⟩ := HRW.out.atN hjC
                obtain ⟨h0, h1⟩ := HNE.out _ (getD_mem hjC)
                have hp62 := HPV.out _ (getD_mem hjC)
                have hs1 := HOSu.out j (by omega)
                have hand := and_two h1 (p := u) (by omega)
                have HP1 : Hid (ownTo C u (j + 1) = if tb (C.getD j 0) u = true then orr (ownTo C u j) (2 ^ pv (C.getD j 0)) else ownTo C u j) := Lib.hid rfl
                have hor := i64_or_nat hs1 (pw_sm hp62)
                rw [show pw (pv (C.getD j 0)) = 2 ^ pv (C.getD j 0) from rfl] at hor
                have HLW := Lib.hid (low_any (C.getD j 0) h0 h1 w3)
                rw [show pw (pv (C.getD j 0)) = 2 ^ pv (C.getD j 0) from rfl] at HLW
                generalize C.getD j 0 = r at *
                generalize ownTo C u j = p at *
                generalize 2 ^ pv r = l at *
                cases hbt : tb r u
                · rw [hbt] at hand
                  have HP2 : Hid (ownTo C u (j + 1) = p) := Lib.hid (by rw [HP1.out, hbt]; simp)
                  clear h0 h1 hp62 hs1 hbt hor
                  go_wp2_with fail
                  go_roundw
                  case rel => exact ⟨j + 1, by omega, by go_num, by rw [HP2.out], trivial⟩
                  case measure => simp [intOf]; omega
                · rw [hbt] at hand
                  have HP2 : Hid (ownTo C u (j + 1) = orr p l) := Lib.hid (by rw [HP1.out, hbt]; simp)
                  clear h0 h1 hp62 hs1 hbt
                  go_wp2_with fail
                  refine HLW.out.mono ?_
                  rintro e w' ⟨rfl, rfl⟩
                  go_wp2_with fail
                  go_roundw
                  case rel => exact ⟨j + 1, by omega, by go_num, by rw [HP2.out], trivial⟩
                  case measure => simp [intOf]; omega
              · obtain rfl : j = k := by omega
                have hs1 := HOSu.out j (by rw [Hn.out]; exact Nat.le_refl _)
                rw [HOU.out] at hs1 ⊢
                have hpu := HPU.out _ hs1
                rw [← HSS.out] at hpu
                have HPX := Lib.hid hpu
                generalize ownU C u = x at *
                clear hs1 hpu
                go_wp2_with fail
                refine HPX.out.mono ?_
                rintro e w6 ⟨v6, rfl, ho, hb, _⟩
                have HO6 := Lib.hid ho
                have HB6 := Lib.hid (HB.out.trans (hb.mono hsz))
                clear ho hb
                go_wp2_with fail
                go_roundw
                case rel => exact ⟨u + 1, by omega, by go_num, HO6.out, HB6.out⟩
                case measure => simp [intOf]; omega
          · rw [hip] at hand hSS
            have HSS : Hid (solsTo C (u + 1) = solsTo C u) := Lib.hid (by rw [hSS]; simp)
            clear hown hbel hSS hip
            go_wp2_with fail
            go_roundw
            case rel => exact ⟨u + 1, by omega, by go_num, by rw [HSS.out]; exact HO.out, HB.out⟩
            case measure => simp [intOf]; omega
        · obtain rfl : u = U := by omega
          clear hown hbel
          go_wp2_with fail
          go_ret
          exact ⟨_, rfl, HO.out, HB.out⟩
end Go.Proofs.YtdkmdmpaflgfaaaGreatDoor

namespace Go.Proofs.YtdkmdmpaflgfaaaGreatDoor
open Go.RowKit

theorem two01Y (a b : Bool) : twoC a b = 1 ∨ (twoC a b = 0 ∧ a = true ∧ b = true) := by cases a <;> cases b <;> simp [twoC]
/-- what l12Maps leaves -/
def MapsOut (B : Nat) (xs : List Int) (Q : List (List Int)) (ys : List Int) (R : List (List Int)) (e : Ending) (w' : World) : Prop :=
  (¬ (modB xs Q = true ∧ modB ys R = true) ∧ e = .returned (.tuple #[.slice none 0 0, .slice none 0 0, .int .i64 1])) ∨
  ((modB xs Q = true ∧ modB ys R = true) ∧ ¬ (unk xs ys).length ≤ 60 ∧ e = .returned (.tuple #[.slice none 0 0, .slice none 0 0, .int .i64 3])) ∨
  ((modB xs Q = true ∧ modB ys R = true) ∧ (unk xs ys).length ≤ 60 ∧ ∃ A1 c1 N A2 c2, e = .returned (.tuple #[.slice A1 N.length c1, .slice A2 (mapsL xs Q ys R).length c2, .int .i64 0]) ∧ dat N = (unk xs ys).map pairI ∧ OwnR w' B (.slice A1 N.length c1) N ∧ w'.ownsRow B 2 1 (.slice A2 (mapsL xs Q ys R).length c2) (mapsL xs Q ys R).length (nv (mapsL xs Q ys R)))

set_option maxRecDepth 100000 in
set_option maxHeartbeats 8000000 in
theorem l12Maps_any (A A' B B' : Option Addr) (n c m c' p d q d' : Nat) (xs ys : List Int) (L M : List Row) (w : World) (hM : ModIn w A n A' m xs L) (hN : ModIn w B p B' q ys M) :
    Calls Tryz.prog 46 #[.agg #[.slice A n c, .slice A' m c'], .agg #[.slice B p d, .slice B' q d']] w fun e w' => MapsOut w.heap.size xs (dat L) ys (dat M) e w' ∧ Below w.heap.size w w' := by
  obtain ⟨hb0, hk1, hk2⟩ := box_two w A A' B B' n c m c' p d q d'
  have HB0 := Lib.hid hb0
  have HK1 := Lib.hid hk1
  have HK2 := Lib.hid hk2
  have HTW := Lib.hid (l12Two_any A A' B B' n c m c' p d q d' xs ys L M _ (hM.below hb0) (hN.below hb0))
  have HM := Lib.hid hM
  have HN := Lib.hid hN
  clear hb0 hk1 hk2 hM hN
  obtain ⟨x0, x1, xf0, xf1, lx⟩ := blk2cells HK1.out
  obtain ⟨y0, y1, yf0, yf1, ly⟩ := blk2cells HK2.out
  go_enter Tryz.func46, Tryz.ntmps46
  go_wp2_with fail
  refine HTW.out.mono ?_
  rintro e w1 ⟨rfl, hb⟩
  have HB1 := Lib.hid (HB0.out.trans (hb.mono HB0.out.size))
  have HK1a := Lib.hid (blk_kept HK1.out hb)
  have HK2a := Lib.hid (blk_kept HK2.out hb)
  clear hb x0 x1 xf0 xf1 lx y0 y1 yf0 yf1 ly
  obtain ⟨x0, x1, xf0, xf1, lx⟩ := blk2cells HK1a.out
  obtain ⟨y0, y1, yf0, yf1, ly⟩ := blk2cells HK2a.out
  rcases two01Y (modB xs (dat L)) (modB ys (dat M)) with h | ⟨h, h1, h2⟩
  · have HNO : Hid (¬ (modB xs (dat L) = true ∧ modB ys (dat M) = true)) := Lib.hid (fun hh => by unfold twoC at h; rw [if_pos hh] at h; cases h)
    rw [h]
    clear h
    go_wp2_with fail
    go_ret3
    exact ⟨.inl ⟨HNO.out, rfl⟩, HB1.out⟩
  · have HYES : Hid (modB xs (dat L) = true ∧ modB ys (dat M) = true) := Lib.hid ⟨h1, h2⟩
    have s1 := (modB_iff.1 h1).shp
    have s2 := (modB_iff.1 h2).shp
    have hn16 : n ≤ 16 := by rw [HM.out.r.hn]; exact s1.len
    have hp16 : p ≤ 16 := by rw [HN.out.r.hn]; exact s2.len
    have HUK := Lib.hid (l12Unknowns_any A A' B B' n c m c' p d q d' xs ys w1 HM.out.r.hn HN.out.r.hn hn16 hp16 (HM.out.r.deg.below HB1.out) (HN.out.r.deg.below HB1.out))
    have HS1 := Lib.hid s1
    have HS2 := Lib.hid s2
    rw [h]
    clear h h1 h2 s1 s2
    go_wp2_with fail
    refine HUK.out.mono ?_
    rintro e w2 ⟨A1, c1, N, rfl, hd, ho, hb⟩
    have HD := Lib.hid hd
    have HO2 := Lib.hid (ho.mono HB1.out.size)
    have HB2 := Lib.hid (HB1.out.trans (hb.mono HB1.out.size))
    have HK1b := Lib.hid (blk_kept HK1a.out hb)
    have HK2b := Lib.hid (blk_kept HK2a.out hb)
    have hNl : N.length = (unk xs ys).length := by have := congrArg List.length hd; rwa [dat_length, List.length_map] at this
    clear hd ho hb x0 x1 xf0 xf1 lx y0 y1 yf0 yf1 ly
    obtain ⟨x0, x1, xf0, xf1, lx⟩ := blk2cells HK1b.out
    obtain ⟨y0, y1, yf0, yf1, ly⟩ := blk2cells HK2b.out
    by_cases h60 : N.length ≤ 60
    · have h60i : ¬ (60 < (N.length : Int)) := by omega
      have HEQ := Lib.hid (l12Equations_any A A' B B' A1 n c m c' p d q d' c1 xs ys L M N w2 (HM.out.r.below HB2.out) (HN.out.r.below HB2.out) HS1.out HS2.out HD.out h60 (HO2.out.rd rfl))
      have H60 : Hid ((unk xs ys).length ≤ 60) := Lib.hid (by omega)
      have HNL := Lib.hid hNl
      have HLT : Hid (∀ r ∈ eqSI (unk xs ys) (dat L) (dat M) p n, r < 2 ^ (unk xs ys).length) := Lib.hid eqSI_lt
      have HML : Hid (mapsL xs (dat L) ys (dat M) = reduceS (solsTo (reduceS (eqSI (unk xs ys) (dat L) (dat M) p n)) (unk xs ys).length)) := Lib.hid (by unfold mapsL; rw [← HM.out.r.hn, ← HN.out.r.hn])
      have hsm : ∀ r ∈ eqSI (unk xs ys) (dat L) (dat M) p n, Sm r := fun r hr => sm_of_lt (a := (unk xs ys).length) (by omega) (HLT.out r hr)
      have HSL := Lib.hid (fun (V : Option Addr) (cV : Nat) W (hV : Rd W V (nv (reduceS (eqSI (unk xs ys) (dat L) (dat M) p n)))) => l12Solutions_any V _ cV (unk xs ys).length (reduceS (eqSI (unk xs ys) (dat L) (dat M) p n)) W rfl (by omega) (red_reduce hsm) (fun r hr => sp_lt HLT.out ((sp_reduce hsm r).1 (.mem hr))) hV)
      generalize eqSI (unk xs ys) (dat L) (dat M) p n = T at *
      clear hNl hsm HLT
      go_wp2_with fail
      refine HEQ.out.mono ?_
      rintro e w3 ⟨v3, rfl, ho, hb⟩
      obtain ⟨A3, c3, rfl, _⟩ := owns_shape ho
      have HR3 := Lib.hid (owns_Rd ho)
      have HB3 := Lib.hid (HB2.out.trans (hb.mono HB2.out.size))
      have HO3 := Lib.hid (HO2.out.later hb)
      clear ho hb x0 x1 xf0 xf1 lx y0 y1 yf0 yf1 ly
      have HSL' := Lib.hid (HSL.out A3 c3 w3 HR3.out)
      rw [← HNL.out] at HSL'
      go_wp2_with fail
      refine HSL'.out.mono ?_
      rintro e w4 ⟨v4, rfl, ho, hb⟩
      rw [HNL.out, ← HML.out] at ho
      obtain ⟨A4, c4, rfl, _⟩ := owns_shape ho
      have HO4 := Lib.hid (ho.mono HB3.out.size)
      have HB4 := Lib.hid (HB3.out.trans (hb.mono HB3.out.size))
      have HN4 := Lib.hid (HO3.out.later hb)
      clear ho hb
      go_wp2_with fail
      go_ret3
      exact ⟨.inr (.inr ⟨HYES.out, H60.out, A1, c1, N, A4, c4, rfl, HD.out, HN4.out, HO4.out⟩), HB4.out⟩
    · have h60i : 60 < (N.length : Int) := by omega
      have H60 : Hid (¬ (unk xs ys).length ≤ 60) := Lib.hid (by omega)
      clear hNl
      go_wp2_with fail
      go_ret3
      exact ⟨.inr (.inl ⟨HYES.out, H60.out, rfl⟩), HB2.out⟩

noncomputable def countMapsOf (xs : List Int) (L : List Row) (ys : List Int) (M : List Row) : Int × Int :=
  if modB xs (dat L) = true ∧ modB ys (dat M) = true then (if (unk xs ys).length ≤ 60 then ((2 : Int) ^ (mapsL xs (dat L) ys (dat M)).length, 0) else (0, 3)) else (0, 1)
theorem countMapsOf_dat {xs : List Int} {L L' : List Row} {ys : List Int} {M M' : List Row} (h1 : dat L' = dat L) (h2 : dat M' = dat M) : countMapsOf xs L' ys M' = countMapsOf xs L ys M := by unfold countMapsOf; rw [h1, h2]
theorem mapsL_len {xs ys : List Int} {Q R : List (List Int)} (h : (unk xs ys).length ≤ 60) : (mapsL xs Q ys R).length ≤ 60 := by
  have hs : ∀ r ∈ eqSI (unk xs ys) Q R ys.length xs.length, Sm r := fun r hr => sm_of_lt (a := (unk xs ys).length) (by omega) (eqSI_lt r hr)
  have hC := red_reduce hs
  have hlt : ∀ r ∈ reduceS (eqSI (unk xs ys) Q R ys.length xs.length), r < 2 ^ (unk xs ys).length := fun r hr => sp_lt eqSI_lt ((sp_reduce hs r).1 (.mem hr))
  exact (redK (U := (unk xs ys).length) (fun r hr => ((sols_sp hC hlt r).1 (.mem hr)).1) h).2

end Go.Proofs.YtdkmdmpaflgfaaaGreatDoor

namespace Go.Proofs.YtdkmdmpaflgfaaaGreatDoor
open Go.RowKit

theorem etC : ET Tryz.prog 27 23 24 := ET.mk' (z := .slice none 0 0) Tryz.underlying27 (by kernel_rfl) (by decide) (by decide)
/-- the maps of the basis, each as vectors -/
noncomputable def mapBasisOf (xs : List Int) (L : List Row) (ys : List Int) (M : List Row) : List (List (List Int)) × Int :=
  if modB xs (dat L) = true ∧ modB ys (dat M) = true then (if (unk xs ys).length ≤ 60 then ((mapsL xs (dat L) ys (dat M)).map (fun x => (imgs (unk xs ys) xs.length x).map (fun v => bitsL v ys.length)), 0) else ([], 3)) else ([], 1)
theorem mapBasisOf_dat {xs : List Int} {L L' : List Row} {ys : List Int} {M M' : List Row} (h1 : dat L' = dat L) (h2 : dat M' = dat M) : mapBasisOf xs L' ys M' = mapBasisOf xs L ys M := by unfold mapBasisOf; rw [h1, h2]
theorem mapBasisOf_1 {xs ys : List Int} {L M : List Row} (h : ¬ (modB xs (dat L) = true ∧ modB ys (dat M) = true)) : mapBasisOf xs L ys M = ([], 1) := by unfold mapBasisOf; rw [if_neg h]
theorem mapBasisOf_2 {xs ys : List Int} {L M : List Row} (h : modB xs (dat L) = true ∧ modB ys (dat M) = true) (h2 : ¬ (unk xs ys).length ≤ 60) : mapBasisOf xs L ys M = ([], 3) := by unfold mapBasisOf; rw [if_pos h, if_neg h2]
theorem mapBasisOf_0 {xs ys : List Int} {L M : List Row} (h : modB xs (dat L) = true ∧ modB ys (dat M) = true) (h2 : (unk xs ys).length ≤ 60) : mapBasisOf xs L ys M = ((mapsL xs (dat L) ys (dat M)).map (fun x => (imgs (unk xs ys) xs.length x).map (fun v => bitsL v ys.length)), 0) := by unfold mapBasisOf; rw [if_pos h, if_pos h2]
/-- at most 60 maps, of at most 16 vectors of at most 16 numbers -/
def CLen (r : List (List (List Int)) × Int) : Prop := r.1.length ≤ 60 ∧ ∀ x ∈ r.1, x.length ≤ 16 ∧ ∀ y ∈ x, y.length ≤ 16
theorem mapBasisOf_len (xs : List Int) (L : List Row) (ys : List Int) (M : List Row) : CLen (mapBasisOf xs L ys M) := by
  unfold mapBasisOf
  by_cases h : modB xs (dat L) = true ∧ modB ys (dat M) = true
  · rw [if_pos h]
    by_cases h2 : (unk xs ys).length ≤ 60
    · rw [if_pos h2]
      refine ⟨by simpa using mapsL_len h2, fun x hx => ?_⟩
      obtain ⟨z, _, rfl⟩ := List.mem_map.1 hx
      refine ⟨by rw [List.length_map, imgs_len]; exact (modB_iff.1 h.1).shp.len, fun y hy => ?_⟩
      obtain ⟨v, _, rfl⟩ := List.mem_map.1 hy
      rw [bitsL_length]; exact (modB_iff.1 h.2).shp.len
    · rw [if_neg h2]; exact ⟨by simp, by simp⟩
  · rw [if_neg h]; exact ⟨by simp, by simp⟩
/-- results that are rows of rows of rows, and a code -/
def ResC (r : List (List (List Int)) × Int) (w : World) (e : Ending) (w' : World) : Prop := ∃ v M lo hi, e = .returned (.tuple #[v, .int .i64 r.2]) ∧ cdat M = r.1 ∧ OwnC w' w.heap.size w'.heap.size v M lo hi ∧ Below w.heap.size w w'
theorem OwnC.later {w w' : World} {B H : Nat} {v : Value} {L : List Cub} {lo hi : Nat → Nat} (h : OwnC w B H v L lo hi) (hb : Below w.heap.size w w') (hH : H ≤ w.heap.size) : OwnC w' B H v L lo hi := OwnC.same (fun k _ h2 => hb.block k (Nat.lt_of_lt_of_le h2 hH)) h
theorem OwnC.mono' {w : World} {B B' H H' : Nat} {v : Value} {L : List Cub} {lo hi : Nat → Nat} (h : OwnC w B H v L lo hi) (hB : B' ≤ B) (hH : H ≤ H') : OwnC w B' H' v L lo hi :=
  ⟨h.out.mono hB, h.inn, h.up, fun i hi' => ⟨Nat.le_trans hB (h.low i hi').1, Nat.le_trans (h.low i hi').2 hH⟩, h.off, fun g hg => ⟨Nat.lt_of_lt_of_le (h.apart g hg).1 hH, (h.apart g hg).2⟩⟩
theorem cdat_append1 (L : List Cub) (x : Cub) : cdat (L ++ [x]) = cdat L ++ [dat x.rows] := by simp [cdat]
theorem cvs_append1 (L : List Cub) (x : Cub) : cvs (L ++ [x]) = cvs L ++ [x.val] := by simp [cvs]
theorem OwnC.made (w : World) {B : Nat} (hB : B ≤ w.heap.size) (lo hi : Nat → Nat) : OwnC (w.alloc (.cells #[] 23)) B (w.alloc (.cells #[] 23)).heap.size (.slice (some ⟨w.heap.size, 0, Option.none⟩) 0 0) [] lo hi := by
  refine ⟨World.ownsRow_made w #[] 0 hB (by decide) (by simp [cvs]), fun i hi => (by cases hi), fun i hi => (by cases hi), fun i hi => (by cases hi), fun i j _ hj => (by cases hj), fun g hg => ⟨?_, fun i hi => (by cases hi)⟩⟩
  have : w.heap.size = g := by simpa [Value.ownBlock] using hg
  subst this; simp

set_option maxRecDepth 100000 in
set_option maxHeartbeats 8000000 in
theorem specMapBasis' (A A' B B' : Option Addr) (n c m c' p d q d' : Nat) (xs ys : List Int) (L M : List Row) (w : World) (hM : ModIn w A n A' m xs L) (hN : ModIn w B p B' q ys M) :
    Calls Tryz.prog 12 #[.agg #[.slice A n c, .slice A' m c'], .agg #[.slice B p d, .slice B' q d']] w (ResC (mapBasisOf xs L ys M) w) := by
  obtain ⟨hb0, hk1, hk2⟩ := box_two w A A' B B' n c m c' p d q d'
  have HB0 := Lib.hid hb0
  have HK1 := Lib.hid hk1
  have HK2 := Lib.hid hk2
  have HMP := Lib.hid (l12Maps_any A A' B B' n c m c' p d q d' xs ys L M _ (hM.below hb0) (hN.below hb0))
  have Hn := Lib.hid hM.r.hn
  have Hp := Lib.hid hN.r.hn
  obtain ⟨x0, x1, xf0, xf1, lx⟩ := blk2cells hk1
  obtain ⟨y0, y1, yf0, yf1, ly⟩ := blk2cells hk2
  clear hb0 hk1 hk2 hM hN
  go_enter Tryz.func12, Tryz.ntmps12
  go_wp2_with fail
  refine HMP.out.mono ?_
  rintro e w1 ⟨ho, hb⟩
  have HB1 := Lib.hid (HB0.out.trans (hb.mono HB0.out.size))
  have HK1a := Lib.hid (blk_kept HK1.out hb)
  have HK2a := Lib.hid (blk_kept HK2.out hb)
  clear hb x0 x1 xf0 xf1 lx y0 y1 yf0 yf1 ly
  rcases ho with ⟨hno, rfl⟩ | ⟨hy, h60, rfl⟩ | ⟨hy, h60, A1, c1, N, A2, c2, rfl, hd, hon, hob⟩
  · have HF : Hid (mapBasisOf xs L ys M = ([], 1)) := Lib.hid (mapBasisOf_1 hno)
    clear hno
    go_wp2_with fail
    go_ret2
    exact ⟨.slice none 0 0, [], fun _ => 0, fun _ => 0, by rw [HF.out]; rfl, by rw [HF.out]; rfl, OwnC.none _ _ _ _ _, HB1.out⟩
  · have HF : Hid (mapBasisOf xs L ys M = ([], 3)) := Lib.hid (mapBasisOf_2 hy h60)
    clear hy h60
    go_wp2_with fail
    go_ret2
    exact ⟨.slice none 0 0, [], fun _ => 0, fun _ => 0, by rw [HF.out]; rfl, by rw [HF.out]; rfl, OwnC.none _ _ _ _ _, HB1.out⟩
  have hn16 : n ≤ 16 := by rw [Hn.out]; exact (modB_iff.1 hy.1).shp.len
  have hp16 : p ≤ 16 := by rw [Hp.out]; exact (modB_iff.1 hy.2).shp.len
  have HV := Lib.hid (hon.rd rfl)
  have HR := Lib.hid (owns_Rd hob)
  have HD := Lib.hid hd
  have hKl := mapsL_lt (Q := dat L) (R := dat M) h60
  have HKS : Hid (∀ r ∈ mapsL xs (dat L) ys (dat M), Sm r) := Lib.hid (fun r hr => sm_of_lt (a := (unk xs ys).length) (by omega) (hKl r hr))
  have HUN := Lib.hid h60
  have HNL : Hid (N.length = (unk xs ys).length) := Lib.hid (by have := congrArg List.length hd; rwa [dat_length, List.length_map] at this)
  have HIN : Hid (∀ u, u < (unk xs ys).length → ((unk xs ys).getD u (0, 0)).1 < n ∧ ((unk xs ys).getD u (0, 0)).2 < p) := Lib.hid (fun u hu => by rw [Hn.out, Hp.out]; exact unk_in u hu)
  have HF0 := Lib.hid (mapBasisOf_0 hy h60)
  have hK60 : (mapsL xs (dat L) ys (dat M)).length ≤ 60 := mapsL_len h60
  generalize mapBasisOf xs L ys M = rr at *
  generalize mapsL xs (dat L) ys (dat M) = K at *
  generalize unk xs ys = P at *
  rw [← Hn.out, ← Hp.out] at HF0
  clear hy h60 hd hon hob hKl
  go_wp2_with fail
  go_loopw [9, 10] (fun s9 s10 wr => ∃ X : List Cub, ∃ A9 c9 lo hi, X.length ≤ K.length ∧ s10 = .int .i64 (X.length : Nat) ∧ s9 = .slice A9 X.length c9 ∧ Hid (cdat X = (K.take X.length).map (fun x => (imgs P n x).map (fun v => bitsL v p))) ∧ OwnC wr w1.heap.size wr.heap.size (.slice A9 X.length c9) X lo hi ∧ Below w1.heap.size w1 wr) (fun _ s _ => K.length - (intOf s).toNat)
  case atStart => exact ⟨[], _, _, fun _ => 0, fun _ => 0, by simp, rfl, rfl, Lib.hid rfl, OwnC.made w1 (Nat.le_refl _) _ _, (Below.refl _ _).alloc (Nat.le_refl _) _⟩
  case round =>
    obtain ⟨X, A9, c9, lo, hi, hX, rfl, rfl, HCD, hown, hbel⟩ := hrel
    have HO := Lib.hid hown
    have HBL := Lib.hid hbel
    have hs1 := hbel.size
    by_cases hxK : X.length < K.length
    · have hxi : (X.length : Int) < (K.length : Int) := by omega
      obtain ⟨b, o, rfl, hc⟩ := HR.out.atN hxK
      have hs : Sm (K.getD X.length 0) := HKS.out _ (by simp [List.getD, hxK])
      have HTS : Hid ((K.take (X.length + 1)).map (fun x => (imgs P n x).map (fun v => bitsL v p)) = (K.take X.length).map (fun x => (imgs P n x).map (fun v => bitsL v p)) ++ [(imgs P n (K.getD X.length 0)).map (fun v => bitsL v p)]) := Lib.hid (by
        rw [List.take_succ_eq_append_getElem hxK, List.map_append]; simp [List.getD, hxK])
      generalize K.getD X.length 0 = z at *
      have HTO := Lib.hid (fun (W : World) (hb : Below wr.heap.size wr W) => l12Told_any A1 A A' B B' c1 n c m c' p d q d' N P z W hn16 hp16 HD.out (by rw [HNL.out]; exact HUN.out) HIN.out hs (HV.out.below (hbel.trans (hb.mono hbel.size))))
      have KS := Lib.hid (fun w' (hb : Below w1.heap.size w1 w') => show w'.cell? ⟨w.heap.size, 0, none⟩ = some (.slice A n c) ∧ w'.cell? ⟨w.heap.size, 1, none⟩ = some (.slice A' m c') ∧ w'.cell? ⟨w.heap.size + 1, 0, none⟩ = some (.slice B p d) ∧ w'.cell? ⟨w.heap.size + 1, 1, none⟩ = some (.slice B' q d') ∧ w'.cell? ⟨b, o + X.length, none⟩ = some (.int .i64 z) from by
        obtain ⟨x0, x1, _⟩ := blk2cells (blk_kept HK1a.out hb)
        obtain ⟨y0, y1, _⟩ := blk2cells (blk_kept HK2a.out hb)
        exact ⟨x0, x1, y0, y1, cell_keep hc hb⟩)
      have HB_0 := Lib.hid (Below.drew (Below.refl wr.heap.size wr))
      have HX_0 := Lib.hid (Below.drew hbel)
      clear hbel hown hc hs
      go_wp2_with fail
      go_region_held3 (fun w' => w'.cell? ⟨w.heap.size, 0, none⟩ = some (.slice A n c) ∧ w'.cell? ⟨w.heap.size, 1, none⟩ = some (.slice A' m c') ∧ w'.cell? ⟨w.heap.size + 1, 0, none⟩ = some (.slice B p d) ∧ w'.cell? ⟨w.heap.size + 1, 1, none⟩ = some (.slice B' q d') ∧ w'.cell? ⟨b, o + X.length, none⟩ = some (.int .i64 z))
        (first | exact KS.out _ HX_0.out | exact KS.out _ HX_1.out | exact KS.out _ (HX_1.out.alloc (Nat.le_trans hs1 HB_1.out.size) _) | exact KS.out _ HX_2.out)
        (first
          | (go_at_call 47; (with_reducible refine (HTO.out _ HB_0.out).mono ?_); (rintro e w5 ⟨A5, c5, R5, rfl, hRl, hRd, ho, hb⟩; have HR1 := Lib.hid hRl; have HR2 := Lib.hid hRd; have HO5 := Lib.hid ho; have HB_1 := Lib.hid (HB_0.out.trans (hb.mono HB_0.out.size)); have HX_1 := Lib.hid (HBL.out.trans (HB_1.out.mono hs1)); clear hRl hRd ho hb))
          | (refine step_app1 _ _ _ _ _ etC (by rfl) (by rfl) w1.heap.size (.slice A9 X.length c9) X.length (cvs X) (by rfl) ?_ _ (.slice A5 n c5) (by rfl) ?_ (by rfl) ?_ ?_ ?_; exact ((HO.out.later HB_1.out (Nat.le_refl _)).out.alloc _); exact (new_cell _ _ _); omega; (have := HB_1.out.size; simp; omega); (intro g6 c6 w6 hown6 hg6 hat6 hlt6; have HN := Lib.hid (OwnC.push (x := ⟨A5, c5, R5⟩) HO.out (Nat.le_refl _) hs1 HB_1.out (by have h := HO5.out; rw [show Cub.val ⟨A5, c5, R5⟩ = .slice A5 n c5 from by rw [← HR1.out]; rfl]; exact h) (by rw [show Cub.val ⟨A5, c5, R5⟩ = .slice A5 n c5 from by rw [← HR1.out]; rfl]; exact hown6) hg6 hat6 hlt6); have HX_2 := Lib.hid (below_app2 HX_1.out (Nat.le_trans hs1 HB_1.out.size) (HO.out.later HB_1.out (Nat.le_refl _)).out hg6); clear hown6 hg6 hat6 hlt6)))
      go_wp2_with fail
      go_roundw
      case rel =>
        refine ⟨X ++ [⟨A5, c5, R5⟩], some ⟨g6, 0, none⟩, c6, _, _, by simp; omega, by simp, by simp, Lib.hid ?_, by simpa using HN.out, HX_2.out⟩
        rw [cdat_append1, HCD.out, List.length_append, List.length_singleton, HTS.out, HR2.out]
      case measure => simp [intOf]; omega
    · obtain he : X.length = K.length := by omega
      have hxi : ¬ (X.length : Int) < (K.length : Int) := by omega
      have HE : Hid (cdat X = K.map (fun x => (imgs P n x).map (fun v => bitsL v p))) := Lib.hid (by rw [HCD.out, he, List.take_length])
      clear hbel hown he
      go_wp2_with fail
      go_ret2
      exact ⟨_, X, lo, hi, by rw [HF0.out]; rfl, by rw [HF0.out, HE.out], HO.out.mono' HB1.out.size (Nat.le_refl _), HB1.out.trans (HBL.out.mono HB1.out.size)⟩
end Go.Proofs.YtdkmdmpaflgfaaaGreatDoor

namespace Go.Proofs.YtdkmdmpaflgfaaaGreatDoor
open Go.RowKit

theorem eqCubsB_any (A A' : Option Addr) (n n' c c' : Nat) (L M : List Cub) (w : World) (hn : n = L.length) (hn' : n' = M.length) (hsm : n ≤ 1048576) (hl : ∀ i, i < L.length → (cg L i).rows.length ≤ 1048576 ∧ ∀ j, j < (cg L i).rows.length → (rg (cg L i).rows j).xs.length ≤ 1048576) (hd : cdat M = cdat L) (hR : RdC w A L) (hR' : RdC w A' M) :
    Calls Tryz.prog 15 #[.slice A n c, .slice A' n' c'] w fun e w' => e = .returned (.bool true) ∧ Below w.heap.size w w' := by
  have e : n' = n := by rw [hn', hn]; exact (cdat_rows hd).1
  subst e
  exact eqCubs_any A A' _ c c' L M w hn hsm hl hd hR hR'
theorem cg_mem {L : List Cub} {i : Nat} (h : i < L.length) : cg L i ∈ L := by rw [cg_of h]; exact List.getElem_mem h
theorem totC_le {L : List Cub} {k : Nat} (h : ∀ i, i < L.length → tot (cg L i).rows ≤ k) : totC L ≤ k * L.length := by
  have : ∀ j, j ≤ L.length → totC (L.take j) ≤ k * j := by
    intro j
    induction j with
    | zero => intro _; simp [totC]
    | succ j ih =>
      intro hj
      rw [totC_succ (by omega : j < L.length), Nat.mul_succ]
      exact Nat.add_le_add (ih (by omega)) (h j (by omega))
  have h2 := this L.length (Nat.le_refl _)
  rwa [List.take_length] at h2
theorem cubs_small {M : List Cub} {rr : List (List (List Int)) × Int} (hd : cdat M = rr.1) (h : CLen rr) : M.length ≤ 60 ∧ totC M ≤ 15360 ∧ ∀ i, i < M.length → (cg M i).rows.length ≤ 1048576 ∧ ∀ j, j < (cg M i).rows.length → (rg (cg M i).rows j).xs.length ≤ 1048576 := by
  have hl : M.length ≤ 60 := by rw [← cdat_length, hd]; exact h.1
  have hi : ∀ i, i < M.length → (cg M i).rows.length ≤ 16 ∧ ∀ j, j < (cg M i).rows.length → (rg (cg M i).rows j).xs.length ≤ 16 := by
    intro i hi
    have hm : dat (cg M i).rows ∈ rr.1 := by rw [← hd]; exact List.mem_map.2 ⟨_, cg_mem hi, rfl⟩
    obtain ⟨h1, h2⟩ := h.2 _ hm
    rw [dat_length] at h1
    exact ⟨h1, fun j hj => h2 _ (List.mem_map.2 ⟨_, rg_mem hj, rfl⟩)⟩
  refine ⟨hl, ?_, fun i h0 => ⟨Nat.le_trans (hi i h0).1 (by omega), fun j hj => Nat.le_trans ((hi i h0).2 j hj) (by omega)⟩⟩
  have := totC_le (L := M) (k := 256) (fun i h0 => Nat.le_trans (tot_le (hi i h0).2) (by have := (hi i h0).1; omega))
  omega
theorem Inw.cubHi {w0 w : World} {L : List Piece} (h : Inw w0 w L) (i : Nat) {lo hi : Nat} {v : Value} {M : List Cub} {f g : Nat → Nat} (hi' : L[i]? = some (cubP lo hi v M f g)) : hi ≤ w.heap.size := (h.all _ (List.mem_of_getElem? hi')).2.1

theorem specMapBasis_any (A0 : Option Addr) (n0 c0 : Nat) (xs0 : List Int) (B0 : Option Addr) (m0 d0 : Nat) (L0 : List Row) (A1 : Option Addr) (n1 c1 : Nat) (xs1 : List Int) (B1 : Option Addr) (m1 d1 : Nat) (L1 : List Row) (w : World) (hn0 : n0 = xs0.length) (hs0 : n0 ≤ 1048576) (hR0 : Rd w A0 (iv xs0)) (hm0 : m0 = L0.length) (ht0 : m0 ≤ 1048576) (hl0 : ∀ i, i < L0.length → (rg L0 i).xs.length ≤ 1048576) (hQ0 : RdR w B0 L0) (hn1 : n1 = xs1.length) (hs1 : n1 ≤ 1048576) (hR1 : Rd w A1 (iv xs1)) (hm1 : m1 = L1.length) (ht1 : m1 ≤ 1048576) (hl1 : ∀ i, i < L1.length → (rg L1 i).xs.length ≤ 1048576) (hQ1 : RdR w B1 L1) :
    Calls Tryz.prog 12 #[.agg #[.slice A0 n0 c0, .slice B0 m0 d0], .agg #[.slice A1 n1 c1, .slice B1 m1 d1]] w (ResC (mapBasisOf xs0 L0 xs1 L1) w) :=
  specMapBasis' A0 B0 A1 B1 n0 c0 m0 d0 n1 c1 m1 d1 xs0 xs1 L0 L1 w ⟨⟨hn0, hR0, hm0, ht0, hQ0⟩, hs0, hl0⟩ ⟨⟨hn1, hR1, hm1, ht1, hQ1⟩, hs1, hl1⟩
end Go.Proofs.YtdkmdmpaflgfaaaGreatDoor

namespace Go.Proofs.YtdkmdmpaflgfaaaGreatDoor
open Go.RowKit

theorem etQ : ET Tryz.prog 63 92 24 := ET.mk' (z := .slice none 0 0) Tryz.underlying63 (by kernel_rfl) (by decide) (by decide)
theorem own_twoQ (w : World) (B : Nat) (hB : B ≤ w.heap.size) (x y : Int) : (w.alloc (.cells #[.int .i64 x, .int .i64 y] 3)).ownsRow B 3 1 (.slice (some ⟨w.heap.size, 0, none⟩) 2 2) 2 (iv [x, y]) :=
  ⟨by simp [iv], .inr ⟨w.heap.size, 2, _, rfl, hB, blk_new w _, Nat.le_refl _, by unfold maxLen; omega, rfl, by simp [iv]⟩⟩
/-- Rows of rows of the call's own: the outer one, the inner ones, no two of these in one block. -/
structure OwnQ (w : World) (B : Nat) (v : Value) (L : List Row) : Prop where
  out : w.ownsRow B 92 1 v L.length (hv L)
  inn : ∀ i, i < L.length → w.ownsRow B 3 1 (rg L i).val (rg L i).xs.length (iv (rg L i).xs)
  dis : ∀ i j, i < L.length → j < L.length → i ≠ j → (rg L i).val.ownBlock = none ∨ (rg L i).val.ownBlock ≠ (rg L j).val.ownBlock

section
variable {w w' : World} {B : Nat} {v : Value} {L : List Row}
theorem OwnQ.rd {A : Option Addr} {n c : Nat} (h : OwnQ w B (.slice A n c) L) (hn : n = L.length) : RdR w A L := by
  subst hn
  exact ⟨owns_Rd h.out, fun i hi => owns_Rd (h.inn i hi), fun i hi => owns_cap (h.inn i hi)⟩
theorem OwnQ.oi (h : OwnQ w B v L) {i : Nat} (hi : i < L.length) : v.ownBlock = none ∨ v.ownBlock ≠ (rg L i).val.ownBlock := own_ne2 h.out (h.inn i hi) (by decide)
theorem OwnQ.io (h : OwnQ w B v L) {i : Nat} (hi : i < L.length) : (rg L i).val.ownBlock = none ∨ (rg L i).val.ownBlock ≠ v.ownBlock := own_ne2 (h.inn i hi) h.out (by decide)
theorem OwnQ.keeps {S : List (Option Nat)} (h : OwnQ w B v L) (hk : Keeps w w' S) (h1 : v.ownBlock = none ∨ v.ownBlock ∉ S) (h2 : ∀ i, i < L.length → (rg L i).val.ownBlock = none ∨ (rg L i).val.ownBlock ∉ S) : OwnQ w' B v L :=
  ⟨owns_keeps h.out hk h1, fun i hi => owns_keeps (h.inn i hi) hk (h2 i hi), h.dis⟩
theorem OwnQ.later (h : OwnQ w B v L) (hb : Below w.heap.size w w') : OwnQ w' B v L := h.keeps (Keeps.of_below hb) (.inr (by simp)) (fun _ _ => .inr (by simp))
theorem OwnQ.mono {B' : Nat} (h : OwnQ w B v L) (hB : B' ≤ B) : OwnQ w B' v L := ⟨h.out.mono hB, fun i hi => (h.inn i hi).mono hB, h.dis⟩
theorem OwnQ.drewN (h : OwnQ w B v L) (m : Nat) : OwnQ (w.drewN m) B v L := h.keeps (S := []) (Keeps.ofDrewN w m) (.inr (by simp)) (fun _ _ => .inr (by simp))
/-- an inner row stored at place j of the outer one -/
theorem OwnQ.put {g n c j : Nat} {r : Row} (h : OwnQ w B (.slice (some ⟨g, 0, none⟩) n c) L) (hn : n = L.length) (hj : j < L.length) (hr : w.ownsRow B 3 1 r.val r.xs.length (iv r.xs))
    (hd : ∀ i, i < L.length → i ≠ j → r.val.ownBlock = none ∨ r.val.ownBlock ≠ (rg L i).val.ownBlock) :
    OwnQ (w.setCell ⟨g, j, none⟩ r.val) B (.slice (some ⟨g, 0, none⟩) n c) (L.set j r) := by
  subst hn
  have ks : Keeps w (w.setCell ⟨g, j, none⟩ r.val) [some g] := (Keeps.refl w [some g]).setCell (p := ⟨g, j, none⟩) (by simp) _
  have hrg : r.val.ownBlock = none ∨ r.val.ownBlock ∉ [some g] := by
    have := own_ne2 hr h.out (by decide)
    simpa [Value.ownBlock] using this
  refine ⟨?_, ?_, ?_⟩
  · have := (World.ownsRow.stored h.out j r.val).1
    rw [List.length_set]
    have e : hv (L.set j r) = (hv L).set j r.val := by simp [hv, List.map_set]
    rw [e]; exact this
  · intro i hi
    rw [List.length_set] at hi
    rw [rg_set hj]
    split
    · exact owns_keeps hr ks hrg
    · exact owns_keeps (h.inn i hi) ks (by have := h.io hi; simpa [Value.ownBlock] using this)
  · intro i i' hi hi' hne
    rw [List.length_set] at hi hi'
    rw [rg_set hj, rg_set hj]
    by_cases e1 : i = j
    · by_cases e2 : i' = j
      · omega
      · rw [if_pos e1, if_neg e2]; exact hd i' hi' e2
    · by_cases e2 : i' = j
      · rw [if_neg e1, if_pos e2]; exact none_or_symm (hd i hi e1)
      · rw [if_neg e1, if_neg e2]; exact h.dis i i' hi hi' hne
/-- an inner row written, the others as they were -/
theorem OwnQ.inset {j : Nat} {ys : List Int} (h : OwnQ w B v L) (hj : j < L.length) (hl : ys.length = (rg L j).xs.length) (hk : Keeps w w' [(rg L j).val.ownBlock])
    (hr : w'.ownsRow B 3 1 (rg L j).val (rg L j).xs.length (iv ys)) : OwnQ w' B v (L.set j ⟨(rg L j).A, (rg L j).c, ys⟩) := by
  have ev : Row.val ⟨(rg L j).A, (rg L j).c, ys⟩ = (rg L j).val := by simp [Row.val, hl]
  refine ⟨?_, ?_, ?_⟩
  · rw [List.length_set]
    have e : hv (L.set j ⟨(rg L j).A, (rg L j).c, ys⟩) = hv L := by
      unfold hv
      rw [List.map_set, ev, rg_of hj]
      apply List.ext_getElem?
      intro i
      rw [List.getElem?_set]
      split
      · rename_i e; subst e; simp [hj]
      · rfl
    rw [e]
    exact owns_keeps h.out hk (by have := h.oi hj; simpa using this)
  · intro i hi
    rw [List.length_set] at hi
    rw [rg_set hj]
    split
    · rw [ev]; simp only [hl]; exact hr
    · rename_i hne
      exact owns_keeps (h.inn i hi) hk (by have := h.dis i j hi hj hne; simpa using this)
  · intro i i' hi hi' hne
    rw [List.length_set] at hi hi'
    rw [rg_set hj, rg_set hj]
    by_cases e1 : i = j
    · by_cases e2 : i' = j
      · omega
      · rw [if_pos e1, if_neg e2, ev, ← e1]; exact h.dis i i' hi hi' hne
    · by_cases e2 : i' = j
      · rw [if_neg e1, if_pos e2, ev, ← e2]; exact h.dis i i' hi hi' hne
      · rw [if_neg e1, if_neg e2]; exact h.dis i i' hi hi' hne
/-- an inner row appended -/
theorem OwnQ.app {g c : Nat} {o : Obj} {r : Row} (h : OwnQ w B v L) (hr : w.ownsRow B 3 1 r.val r.xs.length (iv r.xs)) (hd : ∀ i, i < L.length → r.val.ownBlock = none ∨ r.val.ownBlock ≠ (rg L i).val.ownBlock)
    (hown : w'.ownsRow B 92 1 (.slice (some ⟨g, 0, none⟩) (L.length + 1) c) (L.length + 1) (hv L ++ [r.val])) (hg : (w.alloc o).grownBy w' v.ownBlock) :
    OwnQ w' B (.slice (some ⟨g, 0, none⟩) (L.length + 1) c) (L ++ [r]) := by
  have hk : Keeps w w' [v.ownBlock] := ((Keeps.refl w []).alloc o).trans (Keeps.of_grown hg) (by simp)
  have hrv : r.val.ownBlock = none ∨ r.val.ownBlock ≠ v.ownBlock := own_ne2 hr h.out (by decide)
  have e0 : ∀ i, i < L.length → rg (L ++ [r]) i = rg L i := fun i hi => by simp [rg, List.getD, List.getElem?_append, hi]
  have e1 : rg (L ++ [r]) L.length = r := by simp [rg, List.getD]
  refine ⟨?_, ?_, ?_⟩
  · rw [List.length_append]; simpa [hv] using hown
  · intro i hi
    rw [List.length_append] at hi
    simp only [List.length_singleton] at hi
    by_cases h1 : i < L.length
    · rw [e0 i h1]; exact owns_keeps (h.inn i h1) hk (by have := h.io h1; simpa using this)
    · have : i = L.length := by omega
      subst this
      rw [e1]; exact owns_keeps hr hk (by simpa using hrv)
  · intro i j hi hj hne
    rw [List.length_append] at hi hj
    simp only [List.length_singleton] at hi hj
    by_cases h1 : i < L.length
    · by_cases h2 : j < L.length
      · rw [e0 i h1, e0 j h2]; exact h.dis i j h1 h2 hne
      · have : j = L.length := by omega
        subst this
        rw [e0 i h1, e1]; exact none_or_symm (hd i h1)
    · have : i = L.length := by omega
      subst this
      rw [e1, e0 j (by omega)]; exact hd j (by omega)
theorem OwnQ.cell {g n c k : Nat} (h : OwnQ w B (.slice (some ⟨g, 0, none⟩) n c) L) (hn : n = L.length) (hk : k < L.length) : w.cell? ⟨g, k, none⟩ = some (rg L k).val ∧ w.frozen? ⟨g, k, none⟩ = false := by
  subst hn
  exact ⟨by rw [h.out.cellAt k (by omega)]; exact hv_get hk, h.out.frozenAt k⟩
theorem OwnQ.nil (w : World) (B : Nat) : OwnQ w B (.slice none 0 0) [] := ⟨World.ownsRow_nil _ _ _ _, (fun i hi => by cases hi), (fun i j hi => by cases hi)⟩
theorem OwnQ.made (w : World) (hB : B ≤ w.heap.size) : OwnQ (w.alloc (.cells #[] 92)) B (.slice (some ⟨w.heap.size, 0, none⟩) 0 0) [] :=
  ⟨World.ownsRow_made w #[] 0 hB (by decide) (by simp), (fun i hi => by cases hi), (fun i j hi => by cases hi)⟩
end
theorem OwnQ.push {wr w1 : World} {B g cap n : Nat} {v : Value} {R : List Row} {ws : List Int} (hR : OwnQ wr B v R) (hb : Below wr.heap.size wr w1) (ho : w1.ownsRow wr.heap.size 3 1 (.slice (some ⟨g, 0, none⟩) n cap) n (iv ws)) (hn : n = ws.length) (hB : B ≤ wr.heap.size)
    {o : Obj} {g2 c2 : Nat} {w3 : World} (hown : w3.ownsRow B 92 1 (.slice (some ⟨g2, 0, none⟩) (R.length + 1) c2) (R.length + 1) (hv R ++ [.slice (some ⟨g, 0, none⟩) n cap])) (hg : (w1.alloc o).grownBy w3 v.ownBlock) :
    OwnQ w3 B (.slice (some ⟨g2, 0, none⟩) (R.length + 1) c2) (R ++ [⟨some ⟨g, 0, none⟩, cap, ws⟩]) := by
  subst hn
  refine (hR.later hb).app (r := ⟨some ⟨g, 0, none⟩, cap, ws⟩) (ho.mono hB) ?_ hown hg
  intro i hi
  refine .inr fun e => ?_
  have h1 := (ho.lt g rfl).1
  have h2 := ((hR.inn i hi).lt g (by rw [← e]; rfl)).2
  omega

end Go.Proofs.YtdkmdmpaflgfaaaGreatDoor

namespace Go.Proofs.YtdkmdmpaflgfaaaGreatDoor
open Go.RowKit

/-- the table of trailing zeros lies where the program's start lays it -/
def Tab (w : World) : Prop := ∀ j, j < 64 → w.cell? ⟨0, j, none⟩ = some (.int .u8 ((Lib.deBruijn64tab.getD j 0 : Nat) : Int))

set_option maxHeartbeats 1000000 in
theorem tz64_core (x k idx : Nat) (w : World) (hx0 : ((x : Int) == 0) = false)
    (key : IntKind.u64.wrap (bits BinOp.and IntKind.u64 (x : Int) (IntKind.u64.wrap (-(x : Int))) * 285870213051353865) / 288230376151711744 = (idx : Int))
    (hi : idx < 64) (hk : k < 64) (hcell : w.cell? ⟨0, idx, none⟩ = some (.int .u8 k)) :
    Calls Tryz.prog 137 #[.int .u64 x] w fun e w' => e = .returned (.int .i64 k) ∧ w = w' := by
  go_enter Tryz.func137, Tryz.ntmps137
  go_wp2_with (simp only [key])
  go_ret
  exact ⟨rfl, rfl⟩

theorem tz64_key (x a : Nat) (hx : x < 18446744073709551616) (hx0 : x ≠ 0) (hlow : x &&& (18446744073709551616 - x) = a) :
    IntKind.u64.wrap (bits BinOp.and IntKind.u64 (x : Int) (IntKind.u64.wrap (-(x : Int))) * 285870213051353865) / 288230376151711744 = ((a * 285870213051353865 % 18446744073709551616 / 288230376151711744 : Nat) : Int) := by
  have e1 : IntKind.u64.wrap (-(x : Int)) = ((18446744073709551616 - x : Nat) : Int) := by rw [IntKind.wrap_u64]; omega
  rw [e1, bits_and_u64_nat x _ hx (by omega), hlow, IntKind.wrap_u64]
  omega

theorem tz64 (x : Nat) (hx0 : x ≠ 0) (hx : Sm x) (w : World) (hT : Tab w) :
    Calls Tryz.prog 137 #[.int .u64 x] w fun e w' => e = .returned (.int .i64 (pv x)) ∧ w = w' := by
  unfold Sm at hx
  obtain ⟨hlow, hk⟩ := Lib.lowest_bit 64 x hx0 (by omega)
  obtain ⟨hi, htab⟩ := Lib.deBruijn64_at _ hk
  have hcell := hT _ hi
  rw [htab] at hcell
  exact tz64_core x _ _ w (by simp; omega) (tz64_key x _ (by omega) hx0 hlow) hi hk hcell

theorem u64_of_sm {x : Nat} (h : Sm x) : IntKind.u64.wrap (x : Int) = x := by unfold Sm at h; rw [IntKind.wrap_u64]; omega

set_option maxHeartbeats 400000 in
theorem pivot_any (x : Nat) (hx0 : x ≠ 0) (hx : Sm x) (w : World) (hT : Tab w) :
    Calls Tryz.prog 95 #[.int .i64 x] w fun e w' => e = .returned (.int .i64 (pv x)) ∧ w = w' := by
  have hc := u64_of_sm hx
  go_enter Tryz.func95, Tryz.ntmps95
  go_wp2_with (go_at_call 137; refine (tz64 x hx0 hx _ hT).mono ?_; rintro e w' ⟨rfl, rfl⟩)
  go_ret
  exact ⟨rfl, rfl⟩
end Go.Proofs.YtdkmdmpaflgfaaaGreatDoor

namespace Go.Proofs.YtdkmdmpaflgfaaaGreatDoor
open Go.RowKit

attribute [local go_sem] i64_xor_nat i64_bit_test in
set_option maxHeartbeats 1000000 in
theorem left_any (bs : Nat) (A A' : Option Addr) (n c c' : Nat) (L : List (Nat × Nat)) (x y : Nat) (w : World) (hT : Tab w) (hn : n = L.length) (hsmall : n ≤ 1000000)
    (hx : Sm x) (hy : Sm y) (hg : Good L)
    (h0 : w.cell? ⟨bs, 0, none⟩ = some (.slice A n c)) (h1 : w.cell? ⟨bs, 1, none⟩ = some (.slice A' n c'))
    (hA : Rd w A (nv (r1 L))) (hA' : Rd w A' (nv (r2 L))) :
    Calls Tryz.prog 111 #[.pointer (some ⟨bs, 0, none⟩), .int .i64 x, .int .i64 y] w fun e w' =>
      e = .returned (.tuple #[.int .i64 (leftN L (x, y)).1, .int .i64 (leftN L (x, y)).2]) ∧ ∃ m, w' = w.drewN m := by
  have Hn := Lib.hid hn; clear hn
  go_enter Tryz.func111, Tryz.ntmps111
  go_wp2_with fail
  go_loopw [1, 2, 15] (fun v u i wr => ∃ k : Nat, k ≤ n ∧ i = .int .i64 k ∧ (∃ m, wr = w.drewN m) ∧ v = .int .i64 (leftN (L.take k) (x, y)).1 ∧ u = .int .i64 (leftN (L.take k) (x, y)).2) (fun _ _ i _ => n - (intOf i).toNat)
  case atStart => exact ⟨0, by omega, rfl, ⟨0, rfl⟩, rfl, rfl⟩
  case round =>
    obtain ⟨k, hk, rfl, ⟨m, rfl⟩, rfl, rfl⟩ := hrel
    by_cases hlt : k < n
    · have hkL : k < L.length := by rw [← Hn.out]; exact hlt
      obtain ⟨b, o, rfl, hc⟩ := hA.atN (k := k) (by rw [r1_length]; exact hkL)
      obtain ⟨b', o', rfl, hc'⟩ := hA'.atN (k := k) (by rw [r2_length]; exact hkL)
      rw [r1_getD] at hc; rw [r2_getD] at hc'
      obtain ⟨g0, g1, g2⟩ := hg.at_ hkL
      have Hs := Lib.hid (fold_take_succ leftStep (x, y) L k (0, 0) hkL)
      have hp : SmP (leftN (L.take k) (x, y)) := SmP.foldl (hg.take k) ⟨hx, hy⟩
      obtain ⟨p1, p2⟩ := hp
      have hpv := pv_le g0 g1
      generalize hP : leftN (L.take k) (x, y) = p at *
      generalize hR : L.getD k (0, 0) = r at *
      have HP := Lib.hid hP; clear hP
      have HR := Lib.hid hR; clear hR hA hA' hg
      have hpiv := fun (W : World) (hT : Tab W) => pivot_any r.1 g0 g1 W hT
      have HV := Lib.hid hpiv; clear hpiv
      cases hb : tb p.1 (pv r.1)
      · go_wp2_with (go_at_call 95; refine (HV.out _ (by exact hT)).mono ?_; rintro e w' ⟨rfl, rfl⟩)
        go_roundw
        case rel => exact ⟨k + 1, by omega, by go_num, ⟨m, rfl⟩, by unfold leftN at *; rw [Hs.out, HP.out]; simp [leftStep, hb], by unfold leftN at *; rw [Hs.out, HP.out]; simp [leftStep, hb]⟩
        case measure => simp [intOf]; omega
      · go_wp2_with (go_at_call 95; refine (HV.out _ (by exact hT)).mono ?_; rintro e w' ⟨rfl, rfl⟩)
        go_quiet (fail)
        go_wp2_with fail
        go_roundw
        case rel => exact ⟨k + 1, by omega, by go_num, ⟨_, rfl⟩, by unfold leftN at *; rw [Hs.out, HP.out]; simp [leftStep, hb], by unfold leftN at *; rw [Hs.out, HP.out]; simp [leftStep, hb]⟩
        case measure => simp [intOf]; omega
    · go_wp2_with fail
      go_ret2
      have e : L.take k = L := List.take_of_length_le (by rw [← Hn.out]; omega)
      rw [e]
      exact ⟨rfl, m, rfl⟩
end Go.Proofs.YtdkmdmpaflgfaaaGreatDoor
