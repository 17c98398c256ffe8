/- the reference's l12Solutions · the reference's l12Maps, CountMaps · the reference's l02Reduce -/
import Derived.Test.YtpchigdhnnkpcaaGreatDoorZar
import Derived.OwnWalk
import Derived.Test.YtpchigdhnnkpcaaGreatDoorZaq
import Derived.Test.YtpchigdhnnkpcaaGreatDoorZae
namespace Go.Proofs.YtpchigdhnnkpcaaGreatDoor
open Go.RowKit

def pivTo (C : List Nat) : Nat → Nat
  | 0 => 0
  | k + 1 => orr (pivTo C k) (2 ^ pv (C.getD k 0))
theorem tb_pivTo (C : List Nat) (u : Nat) : ∀ k, k ≤ C.length → tb (pivTo C k) u = (C.take k).any fun r => decide (pv r = u)
  | 0, _ => by simp [pivTo, tb_zero]
  | k + 1, h => by
    unfold pivTo
    rw [tb_orr, tb_pow, tb_pivTo C u k (by omega), List.take_succ_eq_append_getElem (show k < C.length by omega), List.any_append]
    simp [List.getD, show k < C.length by omega]
theorem pivTo_all (C : List Nat) (u : Nat) : tb (pivTo C C.length) u = isPv C u := by
  rw [tb_pivTo C u _ (Nat.le_refl _), List.take_of_length_le (Nat.le_refl _)]; rfl
theorem pivTo_lt {C : List Nat} {U : Nat} (h : ∀ r ∈ C, pv r < U) (k : Nat) (hk : k ≤ C.length) : pivTo C k < 2 ^ U := lt_of_tb fun m hm => by
  rw [tb_pivTo C m k hk, List.any_eq_false]
  intro r hr
  have := h r (List.mem_of_mem_take hr)
  simp; omega
theorem ownTo_lt {C : List Nat} {U u : Nat} (h : ∀ r ∈ C, pv r < U) (hu : u < U) (k : Nat) (hk : k ≤ C.length) : ownTo C u k < 2 ^ U := lt_of_tb fun m hm => by
  cases hb : tb (ownTo C u k) m with
  | false => rfl
  | true =>
    rcases (tb_ownTo C u k m).1 hb with h1 | ⟨i, hi, _, h1⟩
    · omega
    · have := h _ (getD_mem (S := C) (k := i) (by omega)); omega
theorem and_two {v p : Nat} (hv : Sm v) (hp : p ≤ 62) : (bits .and .i64 (v : Int) ((2 : Int) ^ p) != 0) = tb v p := by
  have := and_pw_ne hv hp
  rwa [show ((pw p : Nat) : Int) = (2 : Int) ^ p by unfold pw; simp] at this

set_option maxRecDepth 100000 in
set_option maxHeartbeats 8000000 in
theorem l12Solutions_any (A : Option Addr) (n c U : Nat) (C : List Nat) (w : World) (hn : n = C.length) (hU : U ≤ 60) (hC : Red C) (hlt : ∀ r ∈ C, r < 2 ^ U) (hR : Rd w A (nv C)) :
    Calls Tryz.prog 67 #[.slice A n c, .int .i64 U] w fun e w' => ∃ v, e = .returned v ∧ w'.ownsRow w.heap.size 2 1 v (reduceS (solsTo C U)).length (nv (reduceS (solsTo C U))) ∧ Below w.heap.size w w' := by
  have hpv : ∀ r ∈ C, pv r < U := fun r hr => pv_lt (hC.ne r hr).1 (hC.ne r hr).2 (hlt r hr)
  have hnU : n ≤ U := by rw [hn]; exact red_len hC hlt
  have HR := Lib.hid hR
  have Hn := Lib.hid hn
  have HNE := Lib.hid hC.ne
  have HPS : Hid (∀ k, k ≤ C.length → Sm (pivTo C k)) := Lib.hid (fun k hk => sm_of_lt (a := U) (by omega) (pivTo_lt hpv k hk))
  have HOS : Hid (∀ u k, u < U → k ≤ C.length → Sm (ownTo C u k)) := Lib.hid (fun u k hu hk => sm_of_lt (a := U) (by omega) (ownTo_lt hpv hu k hk))
  have HSL : Hid (∀ k, k ≤ U → ∀ r ∈ solsTo C k, r < 2 ^ U) := Lib.hid (fun k hk r hr => by
    obtain ⟨u, hu, _, rfl⟩ := mem_solsTo.1 hr
    exact ownU_lt hC hlt (by omega))
  have HPV : Hid (∀ r ∈ C, pv r ≤ 62) := Lib.hid (fun r hr => by have := hpv r hr; omega)
  clear hC hlt hR hn hpv
  go_enter Tryz.func67, Tryz.ntmps67
  go_wp2_with fail
  go_loopw [5, 6] (fun q i wr => ∃ k : Nat, k ≤ n ∧ i = .int .i64 k ∧ q = .int .i64 (pivTo C k : Nat) ∧ w = wr) (fun _ i _ => n - (intOf i).toNat)
  case atStart => exact ⟨0, by omega, rfl, rfl, rfl⟩
  case round =>
    obtain ⟨k, hk, rfl, rfl, rfl⟩ := hrel
    by_cases hlt : k < n
    · have hkC : k < C.length := by rw [← Hn.out]; exact hlt
      obtain ⟨b, o, rfl, hc⟩ := HR.out.atN hkC
      obtain ⟨h0, h1⟩ := HNE.out _ (getD_mem hkC)
      have hp62 := HPV.out _ (getD_mem hkC)
      have hs1 := HPS.out k (by omega)
      have HP1 : Hid (pivTo C (k + 1) = orr (pivTo C k) (2 ^ pv (C.getD k 0))) := Lib.hid rfl
      have hor := i64_or_nat hs1 (pw_sm hp62)
      rw [show pw (pv (C.getD k 0)) = 2 ^ pv (C.getD k 0) from rfl] at hor
      have HLW := Lib.hid (low_any (C.getD k 0) h0 h1 w)
      rw [show pw (pv (C.getD k 0)) = 2 ^ pv (C.getD k 0) from rfl] at HLW
      generalize C.getD k 0 = r at *
      generalize pivTo C k = p at *
      generalize 2 ^ pv r = l at *
      clear h0 h1 hp62 hs1
      go_wp2_with fail
      refine HLW.out.mono ?_
      rintro e w' ⟨rfl, rfl⟩
      go_wp2_with fail
      go_roundw
      case rel => exact ⟨k + 1, by omega, by go_num, by rw [HP1.out], trivial⟩
      case measure => simp [intOf]; omega
    · obtain rfl : k = n := by omega
      have HPA : Hid (∀ u, tb (pivTo C k) u = isPv C u) := Lib.hid (fun u => by rw [Hn.out]; exact pivTo_all C u)
      have HPSk := Lib.hid (HPS.out k (by rw [Hn.out]; exact Nat.le_refl _))
      generalize pivTo C k = pm at *
      clear HPS
      go_wp2_with fail
      go_loopw [7, 8] (fun o i wr => ∃ u : Nat, u ≤ U ∧ i = .int .i64 u ∧ wr.ownsRow w.heap.size 2 1 o (reduceS (solsTo C u)).length (nv (reduceS (solsTo C u))) ∧ Below w.heap.size w wr) (fun _ i _ => U - (intOf i).toNat)
      case atStart => exact ⟨0, by omega, rfl, World.ownsRow_made w #[] 0 (Nat.le_refl _) (by decide) (by simp), (Below.refl _ _).alloc (Nat.le_refl _) _⟩
      case round =>
        obtain ⟨u, hu, rfl, hown, hbel⟩ := hrel
        obtain ⟨w3, hw3⟩ : ∃ w3, w3 = wr := ⟨_, rfl⟩
        subst hw3
        have HO := Lib.hid hown
        have HB := Lib.hid hbel
        have hsz := hbel.size
        by_cases huU : u < U
        · have hmin : min u 64 = u := by omega
          obtain ⟨pb1, pb2⟩ := pow62 (d := u) (by omega)
          have hand := and_two HPSk.out (p := u) (by omega)
          rw [HPA.out u] at hand
          have hSS := solsTo_succ C u
          have HRW := Lib.hid (HR.out.below hbel)
          obtain ⟨Ao, co, rfl, _⟩ := owns_shape hown
          cases hip : isPv C u
          · rw [hip] at hand hSS
            have HSS : Hid (reduceS (solsTo C (u + 1)) = putS (reduceS (solsTo C u)) (ownU C u)) := Lib.hid (by rw [hSS]; exact reduce_snoc _ _)
            have HOU : Hid (ownTo C u k = ownU C u) := Lib.hid (by rw [Hn.out]; rfl)
            have h2p : ((2 ^ u : Nat) : Int) = (2 : Int) ^ u := by simp
            have H0 : Hid (((ownTo C u 0 : Nat) : Int) = (2 : Int) ^ u) := Lib.hid h2p
            obtain ⟨rr1, rr2⟩ := redK (HSL.out u hu) hU
            have HPU := Lib.hid (fun x (hx : Sm x) => put_any w.heap.size _ _ x w3 hsz hown (by omega) hx rr1)
            have HOSu := Lib.hid (fun i hi => HOS.out u i huU hi)
            clear hown hbel hSS hip h2p rr1 rr2
            go_wp2_with fail
            clear hand
            go_loopw [10, 11] (fun q i wr => ∃ j : Nat, j ≤ k ∧ i = .int .i64 j ∧ q = .int .i64 (ownTo C u j : Nat) ∧ w3 = wr) (fun _ i _ => k - (intOf i).toNat)
            case atStart => exact ⟨0, by omega, rfl, by rw [← H0.out], rfl⟩
            case round =>
              obtain ⟨j, hj, rfl, rfl, rfl⟩ := hrel
              by_cases hjk : j < k
              · have hjC : j < C.length := by rw [← Hn.out]; exact hjk
                obtain ⟨b, o, rfl, hc⟩ := HRW.out.atN hjC
                obtain ⟨h0, h1⟩ := HNE.out _ (getD_mem hjC)
                have hp62 := HPV.out _ (getD_mem hjC)
                have hs1 := HOSu.out j (by omega)
                have hand := and_two h1 (p := u) (by omega)
                have HP1 : Hid (ownTo C u (j + 1) = if tb (C.getD j 0) u = true then orr (ownTo C u j) (2 ^ pv (C.getD j 0)) else ownTo C u j) := Lib.hid rfl
                have hor := i64_or_nat hs1 (pw_sm hp62)
                rw [show pw (pv (C.getD j 0)) = 2 ^ pv (C.getD j 0) from rfl] at hor
                have HLW := Lib.hid (low_any (C.getD j 0) h0 h1 w3)
                rw [show pw (pv (C.getD j 0)) = 2 ^ pv (C.getD j 0) from rfl] at HLW
                generalize C.getD j 0 = r at *
                generalize ownTo C u j = p at *
                generalize 2 ^ pv r = l at *
                cases hbt : tb r u
                · rw [hbt] at hand
                  have HP2 : Hid (ownTo C u (j + 1) = p) := Lib.hid (by rw [HP1.out, hbt]; simp)
                  clear h0 h1 hp62 hs1 hbt hor
                  go_wp2_with fail
                  go_roundw
                  case rel => exact ⟨j + 1, by omega, by go_num, by rw [HP2.out], trivial⟩
                  case measure => simp [intOf]; omega
                · rw [hbt] at hand
                  have HP2 : Hid (ownTo C u (j + 1) = orr p l) := Lib.hid (by rw [HP1.out, hbt]; simp)
                  clear h0 h1 hp62 hs1 hbt
                  go_wp2_with fail
                  refine HLW.out.mono ?_
                  rintro e w' ⟨rfl, rfl⟩
                  go_wp2_with fail
                  go_roundw
                  case rel => exact ⟨j + 1, by omega, by go_num, by rw [HP2.out], trivial⟩
                  case measure => simp [intOf]; omega
              · obtain rfl : j = k := by omega
                have hs1 := HOSu.out j (by rw [Hn.out]; exact Nat.le_refl _)
                rw [HOU.out] at hs1 ⊢
                have hpu := HPU.out _ hs1
                rw [← HSS.out] at hpu
                have HPX := Lib.hid hpu
                generalize ownU C u = x at *
                clear hs1 hpu
                go_wp2_with fail
                refine HPX.out.mono ?_
                rintro e w6 ⟨v6, rfl, ho, hb, _⟩
                have HO6 := Lib.hid ho
                have HB6 := Lib.hid (HB.out.trans (hb.mono hsz))
                clear ho hb
                go_wp2_with fail
                go_roundw
                case rel => exact ⟨u + 1, by omega, by go_num, HO6.out, HB6.out⟩
                case measure => simp [intOf]; omega
          · rw [hip] at hand hSS
            have HSS : Hid (solsTo C (u + 1) = solsTo C u) := Lib.hid (by rw [hSS]; simp)
            clear hown hbel hSS hip
            go_wp2_with fail
            go_roundw
            case rel => exact ⟨u + 1, by omega, by go_num, by rw [HSS.out]; exact HO.out, HB.out⟩
            case measure => simp [intOf]; omega
        · obtain rfl : u = U := by omega
          clear hown hbel
          go_wp2_with fail
          go_ret
          exact ⟨_, rfl, HO.out, HB.out⟩
end Go.Proofs.YtpchigdhnnkpcaaGreatDoor

namespace Go.Proofs.YtpchigdhnnkpcaaGreatDoor
open Go.RowKit

theorem two01Y (a b : Bool) : twoC a b = 1 ∨ (twoC a b = 0 ∧ a = true ∧ b = true) := by cases a <;> cases b <;> simp [twoC]
/-- what l12Maps leaves -/
def MapsOut (B : Nat) (xs : List Int) (Q : List (List Int)) (ys : List Int) (R : List (List Int)) (e : Ending) (w' : World) : Prop :=
  (¬ (modB xs Q = true ∧ modB ys R = true) ∧ e = .returned (.tuple #[.slice none 0 0, .slice none 0 0, .int .i64 1])) ∨
  ((modB xs Q = true ∧ modB ys R = true) ∧ ¬ (unk xs ys).length ≤ 60 ∧ e = .returned (.tuple #[.slice none 0 0, .slice none 0 0, .int .i64 3])) ∨
  ((modB xs Q = true ∧ modB ys R = true) ∧ (unk xs ys).length ≤ 60 ∧ ∃ A1 c1 N A2 c2, e = .returned (.tuple #[.slice A1 N.length c1, .slice A2 (mapsL xs Q ys R).length c2, .int .i64 0]) ∧ dat N = (unk xs ys).map pairI ∧ OwnR w' B (.slice A1 N.length c1) N ∧ w'.ownsRow B 2 1 (.slice A2 (mapsL xs Q ys R).length c2) (mapsL xs Q ys R).length (nv (mapsL xs Q ys R)))

set_option maxRecDepth 100000 in
set_option maxHeartbeats 8000000 in
theorem l12Maps_any (A A' B B' : Option Addr) (n c m c' p d q d' : Nat) (xs ys : List Int) (L M : List Row) (w : World) (hM : ModIn w A n A' m xs L) (hN : ModIn w B p B' q ys M) :
    Calls Tryz.prog 38 #[.agg #[.slice A n c, .slice A' m c'], .agg #[.slice B p d, .slice B' q d']] w fun e w' => MapsOut w.heap.size xs (dat L) ys (dat M) e w' ∧ Below w.heap.size w w' := by
  obtain ⟨hb0, hk1, hk2⟩ := box_two w A A' B B' n c m c' p d q d'
  have HB0 := Lib.hid hb0
  have HK1 := Lib.hid hk1
  have HK2 := Lib.hid hk2
  have HTW := Lib.hid (l12Two_any A A' B B' n c m c' p d q d' xs ys L M _ (hM.below hb0) (hN.below hb0))
  have HM := Lib.hid hM
  have HN := Lib.hid hN
  clear hb0 hk1 hk2 hM hN
  obtain ⟨x0, x1, xf0, xf1, lx⟩ := blk2cells HK1.out
  obtain ⟨y0, y1, yf0, yf1, ly⟩ := blk2cells HK2.out
  go_enter Tryz.func38, Tryz.ntmps38
  go_wp2_with fail
  refine HTW.out.mono ?_
  rintro e w1 ⟨rfl, hb⟩
  have HB1 := Lib.hid (HB0.out.trans (hb.mono HB0.out.size))
  have HK1a := Lib.hid (blk_kept HK1.out hb)
  have HK2a := Lib.hid (blk_kept HK2.out hb)
  clear hb x0 x1 xf0 xf1 lx y0 y1 yf0 yf1 ly
  obtain ⟨x0, x1, xf0, xf1, lx⟩ := blk2cells HK1a.out
  obtain ⟨y0, y1, yf0, yf1, ly⟩ := blk2cells HK2a.out
  rcases two01Y (modB xs (dat L)) (modB ys (dat M)) with h | ⟨h, h1, h2⟩
  · have HNO : Hid (¬ (modB xs (dat L) = true ∧ modB ys (dat M) = true)) := Lib.hid (fun hh => by unfold twoC at h; rw [if_pos hh] at h; cases h)
    rw [h]
    clear h
    go_wp2_with fail
    go_ret3
    exact ⟨.inl ⟨HNO.out, rfl⟩, HB1.out⟩
  · have HYES : Hid (modB xs (dat L) = true ∧ modB ys (dat M) = true) := Lib.hid ⟨h1, h2⟩
    have s1 := (modB_iff.1 h1).shp
    have s2 := (modB_iff.1 h2).shp
    have hn16 : n ≤ 16 := by rw [HM.out.r.hn]; exact s1.len
    have hp16 : p ≤ 16 := by rw [HN.out.r.hn]; exact s2.len
    have HUK := Lib.hid (l12Unknowns_any A A' B B' n c m c' p d q d' xs ys w1 HM.out.r.hn HN.out.r.hn hn16 hp16 (HM.out.r.deg.below HB1.out) (HN.out.r.deg.below HB1.out))
    have HS1 := Lib.hid s1
    have HS2 := Lib.hid s2
    rw [h]
    clear h h1 h2 s1 s2
    go_wp2_with fail
    refine HUK.out.mono ?_
    rintro e w2 ⟨A1, c1, N, rfl, hd, ho, hb⟩
    have HD := Lib.hid hd
    have HO2 := Lib.hid (ho.mono HB1.out.size)
    have HB2 := Lib.hid (HB1.out.trans (hb.mono HB1.out.size))
    have HK1b := Lib.hid (blk_kept HK1a.out hb)
    have HK2b := Lib.hid (blk_kept HK2a.out hb)
    have hNl : N.length = (unk xs ys).length := by have := congrArg List.length hd; rwa [dat_length, List.length_map] at this
    clear hd ho hb x0 x1 xf0 xf1 lx y0 y1 yf0 yf1 ly
    obtain ⟨x0, x1, xf0, xf1, lx⟩ := blk2cells HK1b.out
    obtain ⟨y0, y1, yf0, yf1, ly⟩ := blk2cells HK2b.out
    by_cases h60 : N.length ≤ 60
    · have h60i : ¬ (60 < (N.length : Int)) := by omega
      have HEQ := Lib.hid (l12Equations_any A A' B B' A1 n c m c' p d q d' c1 xs ys L M N w2 (HM.out.r.below HB2.out) (HN.out.r.below HB2.out) HS1.out HS2.out HD.out h60 (HO2.out.rd rfl))
      have H60 : Hid ((unk xs ys).length ≤ 60) := Lib.hid (by omega)
      have HNL := Lib.hid hNl
      have HLT : Hid (∀ r ∈ eqSI (unk xs ys) (dat L) (dat M) p n, r < 2 ^ (unk xs ys).length) := Lib.hid eqSI_lt
      have HML : Hid (mapsL xs (dat L) ys (dat M) = reduceS (solsTo (reduceS (eqSI (unk xs ys) (dat L) (dat M) p n)) (unk xs ys).length)) := Lib.hid (by unfold mapsL; rw [← HM.out.r.hn, ← HN.out.r.hn])
      have hsm : ∀ r ∈ eqSI (unk xs ys) (dat L) (dat M) p n, Sm r := fun r hr => sm_of_lt (a := (unk xs ys).length) (by omega) (HLT.out r hr)
      have HSL := Lib.hid (fun (V : Option Addr) (cV : Nat) W (hV : Rd W V (nv (reduceS (eqSI (unk xs ys) (dat L) (dat M) p n)))) => l12Solutions_any V _ cV (unk xs ys).length (reduceS (eqSI (unk xs ys) (dat L) (dat M) p n)) W rfl (by omega) (red_reduce hsm) (fun r hr => sp_lt HLT.out ((sp_reduce hsm r).1 (.mem hr))) hV)
      generalize eqSI (unk xs ys) (dat L) (dat M) p n = T at *
      clear hNl hsm HLT
      go_wp2_with fail
      refine HEQ.out.mono ?_
      rintro e w3 ⟨v3, rfl, ho, hb⟩
      obtain ⟨A3, c3, rfl, _⟩ := owns_shape ho
      have HR3 := Lib.hid (owns_Rd ho)
      have HB3 := Lib.hid (HB2.out.trans (hb.mono HB2.out.size))
      have HO3 := Lib.hid (HO2.out.later hb)
      clear ho hb x0 x1 xf0 xf1 lx y0 y1 yf0 yf1 ly
      have HSL' := Lib.hid (HSL.out A3 c3 w3 HR3.out)
      rw [← HNL.out] at HSL'
      go_wp2_with fail
      refine HSL'.out.mono ?_
      rintro e w4 ⟨v4, rfl, ho, hb⟩
      rw [HNL.out, ← HML.out] at ho
      obtain ⟨A4, c4, rfl, _⟩ := owns_shape ho
      have HO4 := Lib.hid (ho.mono HB3.out.size)
      have HB4 := Lib.hid (HB3.out.trans (hb.mono HB3.out.size))
      have HN4 := Lib.hid (HO3.out.later hb)
      clear ho hb
      go_wp2_with fail
      go_ret3
      exact ⟨.inr (.inr ⟨HYES.out, H60.out, A1, c1, N, A4, c4, rfl, HD.out, HN4.out, HO4.out⟩), HB4.out⟩
    · have h60i : 60 < (N.length : Int) := by omega
      have H60 : Hid (¬ (unk xs ys).length ≤ 60) := Lib.hid (by omega)
      clear hNl
      go_wp2_with fail
      go_ret3
      exact ⟨.inr (.inl ⟨HYES.out, H60.out, rfl⟩), HB2.out⟩

noncomputable def countMapsOf (xs : List Int) (L : List Row) (ys : List Int) (M : List Row) : Int × Int :=
  if modB xs (dat L) = true ∧ modB ys (dat M) = true then (if (unk xs ys).length ≤ 60 then ((2 : Int) ^ (mapsL xs (dat L) ys (dat M)).length, 0) else (0, 3)) else (0, 1)
theorem countMapsOf_dat {xs : List Int} {L L' : List Row} {ys : List Int} {M M' : List Row} (h1 : dat L' = dat L) (h2 : dat M' = dat M) : countMapsOf xs L' ys M' = countMapsOf xs L ys M := by unfold countMapsOf; rw [h1, h2]
theorem mapsL_len {xs ys : List Int} {Q R : List (List Int)} (h : (unk xs ys).length ≤ 60) : (mapsL xs Q ys R).length ≤ 60 := by
  have hs : ∀ r ∈ eqSI (unk xs ys) Q R ys.length xs.length, Sm r := fun r hr => sm_of_lt (a := (unk xs ys).length) (by omega) (eqSI_lt r hr)
  have hC := red_reduce hs
  have hlt : ∀ r ∈ reduceS (eqSI (unk xs ys) Q R ys.length xs.length), r < 2 ^ (unk xs ys).length := fun r hr => sp_lt eqSI_lt ((sp_reduce hs r).1 (.mem hr))
  exact (redK (U := (unk xs ys).length) (fun r hr => ((sols_sp hC hlt r).1 (.mem hr)).1) h).2

end Go.Proofs.YtpchigdhnnkpcaaGreatDoor

namespace Go.Proofs.YtpchigdhnnkpcaaGreatDoor
open Go.RowKit

set_option maxHeartbeats 1000000 in
theorem reduce_any (A : Option Addr) (n c : Nat) (rows : List Nat) (w : World) (hn : n = rows.length) (hsmall : n ≤ 1000000) (hS : ∀ r ∈ rows, Sm r) (hR : Rd w A (nv rows)) :
    Calls Tryz.prog 41 #[.slice A n c] w fun e w' => ∃ v', e = .returned v' ∧ w'.ownsRow w.heap.size 2 1 v' (reduceS rows).length (nv (reduceS rows)) ∧ Below w.heap.size w w' := by
  have Hn := Lib.hid hn
  have HR := Lib.hid hR
  have HS := Lib.hid hS
  clear hn hR hS
  go_enter Tryz.func41, Tryz.ntmps41
  go_wp2_with fail
  go_loopw [3, 4] (fun o i wr => ∃ k : Nat, k ≤ n ∧ i = .int .i64 k ∧ wr.ownsRow w.heap.size 2 1 o (reduceS (rows.take k)).length (nv (reduceS (rows.take k))) ∧ Below w.heap.size w wr) (fun _ i _ => n - (intOf i).toNat)
  case atStart => exact ⟨0, by omega, rfl, World.ownsRow_made w #[] 0 (Nat.le_refl _) (by decide) (by simp), (Below.refl _ _).alloc (Nat.le_refl _) _⟩
  case round =>
    obtain ⟨k, hk, rfl, hown, hbel⟩ := hrel
    have hsz : w.heap.size ≤ wr.heap.size := hbel.size
    by_cases hlt : k < n
    · have hkL : k < rows.length := by rw [← Hn.out]; exact hlt
      obtain ⟨b, o, rfl, hc⟩ := (HR.out.below hbel).atN hkL
      have hm : rows.getD k 0 ∈ rows := by simp [List.getD, hkL]
      have g1 := HS.out _ hm
      have Hs := Lib.hid (reduceS_take_succ rows k hkL)
      have hl := reduceS_length_le (rows.take k)
      rw [List.length_take] at hl
      have hred := red_reduce (rows := rows.take k) (fun r hr => HS.out r (List.mem_of_mem_take hr))
      generalize reduceS (rows.take k) = T at *
      generalize rows.getD k 0 = r at *
      have hp := put_any w.heap.size _ T r wr hsz hown (by omega) g1 hred
      have HP := Lib.hid hp
      have HB := Lib.hid hbel
      clear hp hown hbel hred hm
      go_wp2_with (go_at_call 69; refine HP.out.mono ?_; rintro e w1 ⟨v1, rfl, hown1, hb1, _⟩)
      go_roundw
      case rel => exact ⟨k + 1, by omega, by go_num, by rw [Hs.out]; exact hown1, HB.out.trans (hb1.mono hsz)⟩
      case measure => simp [intOf]; omega
    · have ek : rows.take k = rows := List.take_of_length_le (by rw [← Hn.out]; omega)
      rw [ek] at hown
      have HO := Lib.hid hown
      have HB := Lib.hid hbel
      clear hown hbel
      go_wp2_with fail
      go_ret
      exact ⟨_, rfl, HO.out, HB.out⟩

/-- the numbers of a list of masks -/
def toN (xs : List Int) : List Nat := xs.map Int.toNat
end Go.Proofs.YtpchigdhnnkpcaaGreatDoor
