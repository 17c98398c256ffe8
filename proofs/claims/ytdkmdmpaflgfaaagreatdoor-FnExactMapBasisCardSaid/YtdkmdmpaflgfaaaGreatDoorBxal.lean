/- the reference's l12Equations -/
import Derived.Test.YtdkmdmpaflgfaaaGreatDoorBxak
set_option linter.all false
namespace Go.Proofs.YtdkmdmpaflgfaaaGreatDoor
open Go.RowKit

theorem nv_setY (S : List Nat) (k v : Nat) : nv (S.set k v) = (nv S).set k (.int .i64 (v : Int)) := by simp [nv, List.map_set]
theorem nat_extY {x y : List Nat} {n : Nat} (hx : x.length = n) (hy : y.length = n) (h : ∀ i, i < n → x.getD i 0 = y.getD i 0) : x = y := by
  apply List.ext_getElem (by omega)
  intro i h1 h2
  have := h i (by omega)
  simpa [List.getD, h1, h2] using this
/-- a list by a function of the place -/
def mapR (p : Nat) (f : Nat → Nat) : List Nat := (List.range p).map f
theorem mapR_length (p : Nat) (f : Nat → Nat) : (mapR p f).length = p := by simp [mapR]
theorem mapR_getD {p c : Nat} (f : Nat → Nat) (h : c < p) : (mapR p f).getD c 0 = f c := by simp [mapR, List.getD, h]
theorem mapR_congr {p : Nat} {f g : Nat → Nat} (h : ∀ c, c < p → f c = g c) : mapR p f = mapR p g := by
  unfold mapR; exact List.map_congr_left fun c hc => h c (List.mem_range.1 hc)
theorem mapR_set {p c : Nat} (f : Nat → Nat) (v : Nat) (h : c < p) : (mapR p f).set c v = mapR p fun x => if x = c then v else f x := by
  refine nat_extY (n := p) (by rw [List.length_set, mapR_length]) (mapR_length _ _) fun i hi => ?_
  rw [mapR_getD _ hi]
  simp only [List.getD, List.getElem?_set]
  by_cases e : c = i
  · subst e; simp [mapR_length, h]
  · rw [if_neg e, if_neg (fun h => e h.symm)]
    have := mapR_getD f hi
    simpa [List.getD] using this
theorem mapR_take {p k : Nat} (f : Nat → Nat) (h : k ≤ p) : (mapR p f).take k = mapR k f := by
  unfold mapR; rw [← List.map_take, List.take_range, Nat.min_eq_left h]
theorem mapR_zero (p : Nat) : nv (mapR p fun _ => 0) = iv (List.replicate p 0) := by
  unfold mapR nv iv
  apply List.ext_getElem
  · simp
  · intro i h1 h2; simp
theorem redK {T : List Nat} {U : Nat} (h : ∀ r ∈ T, r < 2 ^ U) (hU : U ≤ 60) : Red (reduceS T) ∧ (reduceS T).length ≤ 60 := by
  have hs : ∀ r ∈ T, Sm r := fun r hr => sm_of_lt (a := U) (by omega) (h r hr)
  refine ⟨red_reduce hs, Nat.le_trans (red_len (red_reduce hs) fun r hr => sp_lt h ((sp_reduce hs r).1 (.mem hr))) hU⟩
theorem own_nv_getD {w : World} {B g n c k : Nat} {S : List Nat} (h : w.ownsRow B 2 1 (.slice (some ⟨g, 0, none⟩) n c) n (nv S)) (hk : k < n) : w.cell? ⟨g, k, none⟩ = some (.int .i64 (S.getD k 0 : Nat)) := by
  have hl : S.length = n := by have := h.1; simpa [nv] using this
  rw [h.cellAt k (by omega)]; simp [nv, List.getD, show k < S.length by omega]
theorem xor_two {a t : Nat} (ha : Sm a) (ht : t ≤ 60) : bits .xor .i64 (a : Int) ((2 : Int) ^ t) = ((xr a (2 ^ t) : Nat) : Int) := by
  have h2 : Sm (2 ^ t) := sm_of_lt (a := t + 1) (by omega) (pow_lt_succ t)
  have := i64_xor_nat ha h2
  rwa [show ((2 ^ t : Nat) : Int) = (2 : Int) ^ t by simp] at this

attribute [local go_sem] i64_bit_test in
set_option maxRecDepth 100000 in
set_option maxHeartbeats 16000000 in
theorem l12Equations_any (A A' B B' V : Option Addr) (n c m c' p d q d' cV : Nat) (xs ys : List Int) (L M LP : List Row) (w : World) (hM : ModR w A n A' m xs L) (hN : ModR w B p B' q ys M) (s1 : Shp xs (dat L)) (s2 : Shp ys (dat M)) (hP : dat LP = (unk xs ys).map pairI) (hU : LP.length ≤ 60) (hV : RdR w V LP) :
    Calls Tryz.prog 79 #[.agg #[.slice A n c, .slice A' m c'], .agg #[.slice B p d, .slice B' q d'], .slice V LP.length cV] w fun e w' => ∃ v, e = .returned v ∧ w'.ownsRow w.heap.size 2 1 v (reduceS (eqSI (unk xs ys) (dat L) (dat M) p n)).length (nv (reduceS (eqSI (unk xs ys) (dat L) (dat M) p n))) ∧ Below w.heap.size w w' := by
  obtain ⟨hb0, hk1, hk2⟩ := box_two w A A' B B' n c m c' p d q d'
  have hz0 : ((w.alloc (.cells #[.slice A n c, .slice A' m c'] 30)).alloc (.cells #[.slice B p d, .slice B' q d'] 30)).heap.size = w.heap.size + 1 + 1 := by simp
  have hn16 : n ≤ 16 := by rw [hM.hn]; exact s1.len
  have hp16 : p ≤ 16 := by rw [hN.hn]; exact s2.len
  have hUl : LP.length = (unk xs ys).length := by have := congrArg List.length hP; rwa [dat_length, List.length_map] at this
  have HPM : Hid (∀ u, u < LP.length → (rg LP u).xs = pairI ((unk xs ys).getD u (0, 0)) ∧ ((unk xs ys).getD u (0, 0)).1 < n ∧ ((unk xs ys).getD u (0, 0)).2 < p) := by
    show ∀ u, u < LP.length → _
    intro u hu
    have hu' : u < (unk xs ys).length := by omega
    have hm : (unk xs ys).getD u (0, 0) ∈ unkI xs ys xs.length := by
      show _ ∈ unk xs ys
      simp [List.getD, hu']
    have h2 := unkI_mem hm
    refine ⟨?_, by rw [hM.hn]; exact h2.1, by rw [hN.hn]; exact h2.2.1⟩
    rw [← dat_getD, hP]
    simp [List.getD, hu']
  have HA1 := Lib.hid (fun (z y : Int) (v : Nat) W (hb : Below w.heap.size w W) hy hv => l12Act_any A A' n c m c' xs L z y v W (hM.below hb) s1 hy hv)
  have HA2 := Lib.hid (fun (z y : Int) (v : Nat) W (hb : Below w.heap.size w W) hy hv => l12Act_any B B' p d q d' ys M z y v W (hN.below hb) s2 hy hv)
  have Hn := Lib.hid hM.hn
  have Hp := Lib.hid hN.hn
  have HV := Lib.hid hV
  have HSA : Hid (∀ (z : Int) (v : Nat), v < 2 ^ n → Sm (act (dat L) z v)) := Lib.hid (fun z v hv => s1.sm (act_lt s1 (by rw [← hM.hn]; exact hv) z))
  have HSB : Hid (∀ (z : Int) (v : Nat), v < 2 ^ p → Sm (act (dat M) z v)) := Lib.hid (fun z v hv => s2.sm (act_lt s2 (by rw [← hN.hn]; exact hv) z))
  have hUU : (unk xs ys).length ≤ 60 := by omega
  have hmk := run_make_row' (P := Tryz.prog) 22 2 (.int .i64 0) 8 Tryz.underlying22 infoI rfl .i64 .i64 p (by omega) (by omega)
  have HMK := Lib.hid hmk
  have HLP : Hid (LP.length = (unk xs ys).length) := Lib.hid hUl
  clear hM hN s1 s2 hP hV hUl hmk
  generalize hPe : unk xs ys = P at *
  clear hPe
  generalize dat L = Q at *
  generalize dat M = R at *
  have HRD := Lib.hid (fun (T : List Nat) (hT : ∀ r ∈ T, r < 2 ^ P.length) => redK hT hUU)
  go_enter Tryz.func79, Tryz.ntmps79
  go_wp2_with fail
  generalize (w.alloc (.cells #[.slice A n c, .slice A' m c'] 30)).alloc (.cells #[.slice B p d, .slice B' q d'] 30) = w0 at *
  have HB0 := Lib.hid hb0
  have HK1 := Lib.hid hk1
  have HK2 := Lib.hid hk2
  have hs0 := hb0.size
  rw [← hz0]
  clear hb0 hk1 hk2 hz0
  go_loopw [7, 8] (fun o i wr => ∃ (i' : Nat), i' ≤ n ∧ i = .int .i64 i' ∧ wr.ownsRow w0.heap.size 2 1 o (reduceS (eqSI P Q R p i')).length (nv (reduceS (eqSI P Q R p i'))) ∧ Below w0.heap.size w0 wr) (fun _ i _ => n - (intOf i).toNat)
  case atStart => exact ⟨0, by omega, rfl, World.ownsRow_made w0 #[] 0 (Nat.le_refl _) (by decide) (by simp), (Below.refl _ _).alloc (Nat.le_refl _) _⟩
  case round =>
    obtain ⟨i, hi, rfl, hown, hbel⟩ := hrel
    have HO := Lib.hid hown
    have HB := Lib.hid hbel
    obtain ⟨x0, x1, xf0, xf1, lx⟩ := blk2cells (blk_kept HK1.out hbel)
    by_cases hin : i < n
    · clear hown hbel
      go_wp2_with fail
      clear x0 x1 xf0 xf1 lx
      go_loopw [7, 9] (fun o jj wr => ∃ (j : Nat), j ≤ 20 ∧ jj = .int .i64 ((j : Int) + 1) ∧ wr.ownsRow w0.heap.size 2 1 o (reduceS (eqSI P Q R p i ++ eqSJ P Q R p i j)).length (nv (reduceS (eqSI P Q R p i ++ eqSJ P Q R p i j))) ∧ Below w0.heap.size w0 wr) (fun _ i _ => 21 - (intOf i).toNat)
      case atStart => exact ⟨0, by omega, rfl, by simp only [eqSJ, List.append_nil]; exact HO.out, HB.out⟩
      case round =>
        obtain ⟨j, hj, rfl, hown, hbel⟩ := hrel
        have HO := Lib.hid hown
        have HB := Lib.hid hbel
        have hsz := hbel.size
        obtain ⟨x0, x1, xf0, xf1, lx⟩ := blk2cells (blk_kept HK1.out hbel)
        by_cases hj20 : j < 20
        · have hji : (j : Int) + 1 ≤ 20 := by omega
          have HJ : Hid (((j + 1 : Nat) : Int) = (j : Int) + 1) := Lib.hid (by omega)
          have hpi : (2 : Nat) ^ i < 2 ^ n := pow_lt_pow hin
          obtain ⟨pb1, pb2⟩ := pow62 (d := i) (by omega)
          have hmin : min i 64 = i := by omega
          have HAC := Lib.hid (HA1.out ((j : Int) + 1) ((2 : Int) ^ i) (2 ^ i) _ (HB0.out.trans (hbel.mono hs0)) (by simp) (by rw [← Hn.out]; exact hpi))
          have HSM := HSA.out ((j : Int) + 1) (2 ^ i) hpi
          have HMV : Hid (act Q ((j : Int) + 1) (2 ^ i) = act Q (((j + 1 : Nat)) : Int) (2 ^ i)) := Lib.hid (by rw [HJ.out])
          obtain ⟨Ao, co, rfl, _⟩ := owns_shape hown
          clear hown hbel
          go_wp2_with fail
          refine HAC.out.mono ?_
          rintro e w3 ⟨rfl, hb⟩
          have HB3 := Lib.hid (HB.out.trans (hb.mono hsz))
          have HO3 := Lib.hid (owns_keeps HO.out (Keeps.of_below hb) (.inr (by simp)))
          have hs3 := HB3.out.size
          generalize hmv : act Q ((j : Int) + 1) (2 ^ i) = mv at *
          clear hb x0 x1 xf0 xf1 lx hmv
          obtain ⟨y0, y1, yf0, yf1, ly⟩ := blk2cells (blk_kept HK2.out HB3.out)
          have hmk := HMK.out
          have HSU0 : Hid ((w3.alloc (.cells (madeCells #[.int .i64 0] p) 2)).ownsRow w3.heap.size 2 1 (.slice (some ⟨w3.heap.size, 0, none⟩) p p) p (nv (mapR p fun c => eqM P Q R i (j + 1) c 0))) := Lib.hid (by
            have h := made_own w3 w3.heap.size p (Nat.le_refl _) (by omega)
            rw [← mapR_zero] at h; exact h)
          go_wp2_with fail
          clear hmk y0 y1 yf0 yf1 ly
          go_loopw [12] (fun uu wr => ∃ (u : Nat), u ≤ LP.length ∧ uu = .int .i64 u ∧ wr.ownsRow w3.heap.size 2 1 (.slice (some ⟨w3.heap.size, 0, none⟩) p p) p (nv (mapR p fun c => eqM P Q R i (j + 1) c u)) ∧ Below w3.heap.size w3 wr) (fun uu _ => LP.length - (intOf uu).toNat)
          case atStart => exact ⟨0, by omega, rfl, HSU0.out, (Below.refl _ _).alloc (Nat.le_refl _) _⟩
          case round =>
            obtain ⟨u, hu, rfl, hsum, hbel⟩ := hrel
            by_cases huU : u < LP.length
            · obtain ⟨hrow, ho1, ho2⟩ := HPM.out u huU
              have hb4 := HB0.out.trans ((HB3.out.trans (hbel.mono hs3)).mono hs0)
              have hrd := HV.out.below hb4
              obtain ⟨b, o, rfl, hcell⟩ := hrd.at_ huU
              have hin2 := hrd.inn u huU
              rw [hrow] at hin2 hcell
              have hlen2 : (pairI (P.getD u (0, 0))).length = 2 := rfl
              rw [hlen2] at hcell
              obtain ⟨br, or', hAr, hc0⟩ := hin2.atI (k := 0) (by rw [hlen2]; omega)
              rw [hAr] at hcell hin2
              have hc1 := hin2.cellI (k := 1) (by rw [hlen2]; omega)
              rw [Nat.add_zero] at hc0
              have hp0 : (pairI (P.getD u (0, 0))).getD 0 0 = (((P.getD u (0, 0)).1 : Nat) : Int) := rfl
              have hp1 : (pairI (P.getD u (0, 0))).getD 1 0 = (((P.getD u (0, 0)).2 : Nat) : Int) := rfl
              rw [hp0] at hc0
              rw [hp1] at hc1
              have HE : Hid (∀ c, eqM P Q R i (j + 1) c (u + 1) = xr (xr (eqM P Q R i (j + 1) c u) (if tb mv (P.getD u (0, 0)).1 = true ∧ (P.getD u (0, 0)).2 = c then 2 ^ u else 0)) (if (P.getD u (0, 0)).1 = i ∧ tb (act R ((j : Int) + 1) (2 ^ (P.getD u (0, 0)).2)) c = true then 2 ^ u else 0)) := Lib.hid (fun c => by
                show xr (xr _ (if tb (act Q (((j + 1 : Nat)) : Int) (2 ^ i)) _ = true ∧ _ then _ else _)) (if _ ∧ tb (act R (((j + 1 : Nat)) : Int) _) c = true then _ else _) = _
                rw [← HMV.out, HJ.out])
              have HLT : Hid (∀ c, Sm (eqM P Q R i (j + 1) c u)) := Lib.hid (fun c => sm_of_lt (a := u) (by omega) (eqM_lt P Q R i (j + 1) c u))
              obtain ⟨f, hf⟩ : ∃ f : Nat → Nat, f = fun c => eqM P Q R i (j + 1) c u := ⟨_, rfl⟩
              have HSM2 := Lib.hid (fun nq => show (wr.drewN nq).ownsRow w3.heap.size 2 1 (.slice (some ⟨w3.heap.size, 0, none⟩) p p) p (nv (mapR p f)) from by rw [hf]; exact owns_keeps hsum (Keeps.ofDrewN (S := []) wr nq) (.inr (by simp)))
              have HE' : Hid (∀ c, eqM P Q R i (j + 1) c (u + 1) = xr (xr (f c) (if tb mv (P.getD u (0, 0)).1 = true ∧ (P.getD u (0, 0)).2 = c then 2 ^ u else 0)) (if (P.getD u (0, 0)).1 = i ∧ tb (act R ((j : Int) + 1) (2 ^ (P.getD u (0, 0)).2)) c = true then 2 ^ u else 0)) := Lib.hid (fun c => by rw [HE.out, hf])
              have HLF : Hid (∀ c, Sm (f c)) := Lib.hid (fun c => by rw [hf]; exact HLT.out c)
              have HBX := Lib.hid (fun nq => below_drewN hbel nq)
              clear HE HLT hf hsum hbel hb4 hrd hin2 hrow hAr hp0 hp1
              generalize (P.getD u (0, 0)).1 = o1 at *
              generalize (P.getD u (0, 0)).2 = o2 at *
              have hmo1 : min o1 64 = o1 := by omega
              have hmu : min u 64 = u := by omega
              obtain ⟨pu1, pu2⟩ := pow62 (d := u) (by omega)
              obtain ⟨pc1, pc2⟩ := pow62 (d := o2) (by omega)
              have hmo2 : min o2 64 = o2 := by omega
              have ho2i : (o2 : Int) < (p : Int) := by omega
              go_wp2_with fail
              go_quiet (fail)
              have HSM2 := Lib.hid (HSM2.out nq)
              have HBX := Lib.hid (HBX.out nq)
              generalize wr.drewN nq = wd at *
              clear hcell hc0 hc1
              cases hbm : tb mv o1
              · have HEA : Hid (∀ c, eqM P Q R i (j + 1) c (u + 1) = xr (f c) (if o1 = i ∧ tb (act R ((j : Int) + 1) (2 ^ o2)) c = true then 2 ^ u else 0)) := Lib.hid (fun c => by rw [HE'.out, hbm]; simp [xr_zero])
                by_cases hoi : o1 = i
                · have hoib : ((o1 : Int) == (i : Int)) = true := by simp [hoi]
                  obtain ⟨y0, y1, yf0, yf1, ly⟩ := blk2cells (blk_kept HK2.out (HB3.out.trans (HBX.out.mono hs3)))
                  have HAC2 := Lib.hid (HA2.out ((j : Int) + 1) ((2 : Int) ^ o2) (2 ^ o2) wd (HB0.out.trans ((HB3.out.trans (HBX.out.mono hs3)).mono hs0)) (by simp) (by rw [← Hp.out]; exact pow_lt_pow ho2))
                  have HSB2 := HSB.out ((j : Int) + 1) (2 ^ o2) (pow_lt_pow ho2)
                  have HEI : Hid (∀ c, eqM P Q R i (j + 1) c (u + 1) = xr (f c) (if tb (act R ((j : Int) + 1) (2 ^ o2)) c = true then 2 ^ u else 0)) := Lib.hid (fun c => by rw [HEA.out]; simp [hoi])
                  generalize act R ((j : Int) + 1) (2 ^ o2) = aft at *
                  clear HEA hoi
                  go_wp2_with fail
                  refine HAC2.out.mono ?_
                  rintro e w5 ⟨rfl, hb⟩
                  have HS5 := Lib.hid (owns_keeps HSM2.out (Keeps.of_below hb) (.inr (by simp)))
                  have HB5 := Lib.hid (HBX.out.trans (hb.mono HBX.out.size))
                  clear hb y0 y1 yf0 yf1 ly HSM2 HBX
                  go_wp2_with fail
                  go_loopw [16] (fun kk wr => ∃ (k : Nat), k ≤ p ∧ kk = .int .i64 k ∧ wr.ownsRow w3.heap.size 2 1 (.slice (some ⟨w3.heap.size, 0, none⟩) p p) p (nv (mapR p fun c => xr (f c) (if c < k ∧ tb aft c = true then 2 ^ u else 0))) ∧ Below w3.heap.size w3 wr) (fun kk _ => p - (intOf kk).toNat)
                  case atStart => exact ⟨0, by omega, rfl, by rw [mapR_congr (g := f) (fun c _ => by rw [if_neg (by omega), xr_zero])]; exact HS5.out, HB5.out⟩
                  case round =>
                    obtain ⟨k, hk, rfl, hs, hb⟩ := hrel
                    have HSk := Lib.hid hs
                    have HBk := Lib.hid hb
                    by_cases hkp : k < p
                    · have hmk' : min k 64 = k := by omega
                      have hkpi : (k : Int) < (p : Int) := by omega
                      cases hbk : tb aft k
                      · have HEQ : Hid (mapR p (fun c => xr (f c) (if c < k + 1 ∧ tb aft c = true then 2 ^ u else 0)) = mapR p (fun c => xr (f c) (if c < k ∧ tb aft c = true then 2 ^ u else 0))) := Lib.hid (mapR_congr fun c _ => by
                          by_cases e : c = k
                          · subst e; simp [hbk]
                          · have h2 : c < k + 1 ↔ c < k := by omega
                            simp only [h2])
                        clear hs hb
                        go_wp2_with fail
                        go_roundw
                        case rel => exact ⟨k + 1, by omega, by go_num, by rw [HEQ.out]; exact HSk.out, HBk.out⟩
                        case measure => simp [intOf]; omega
                      · have HEQ : Hid (mapR p (fun c => xr (f c) (if c < k + 1 ∧ tb aft c = true then 2 ^ u else 0)) = (mapR p (fun c => xr (f c) (if c < k ∧ tb aft c = true then 2 ^ u else 0))).set k (xr (f k) (2 ^ u))) := Lib.hid (by
                          rw [mapR_set _ _ hkp]
                          refine mapR_congr fun c _ => ?_
                          by_cases e : c = k
                          · subst e; simp [hbk]
                          · have h2 : c < k + 1 ↔ c < k := by omega
                            rw [if_neg e]; simp only [h2])
                        have hcs := own_nv_getD hs hkp
                        rw [mapR_getD _ hkp, if_neg (by omega), xr_zero] at hcs
                        have fz := hs.frozenAt k
                        have hx := xor_two (HLF.out k) (t := u) (by omega)
                        have HSTO := Lib.hid ((World.ownsRow.stored hs k (.int .i64 ((xr (f k) (2 ^ u) : Nat) : Int))).1)
                        rw [← nv_setY] at HSTO
                        clear hs hb
                        go_wp2_with fail
                        go_roundw
                        case rel => exact ⟨k + 1, by omega, by go_num, by rw [HEQ.out]; exact HSTO.out, HBk.out.setCell (p := ⟨w3.heap.size, k, none⟩) (Nat.le_refl _) _⟩
                        case measure => simp [intOf]; omega
                    · obtain rfl : k = p := by omega
                      have HFIN : Hid (mapR k (fun c => xr (f c) (if c < k ∧ tb aft c = true then 2 ^ u else 0)) = mapR k (fun c => eqM P Q R i (j + 1) c (u + 1))) := Lib.hid (mapR_congr fun c hc => by rw [HEI.out]; simp [hc])
                      clear hs hb
                      go_wp2_with fail
                      go_roundw
                      case rel => exact ⟨u + 1, by omega, by go_num, by rw [← HFIN.out]; exact HSk.out, HBk.out⟩
                      case measure => simp [intOf]; omega
                · have hoib : ((o1 : Int) == (i : Int)) = false := by simp; omega
                  have HFIN : Hid (mapR p f = mapR p (fun c => eqM P Q R i (j + 1) c (u + 1))) := Lib.hid (mapR_congr fun c _ => by rw [HEA.out]; simp [hoi, xr_zero])
                  clear hoi
                  go_wp2_with fail
                  go_roundw
                  case rel => exact ⟨u + 1, by omega, by go_num, by rw [← HFIN.out]; exact HSM2.out, HBX.out⟩
                  case measure => simp [intOf]; omega
              · have HEA0 : Hid (∀ c, eqM P Q R i (j + 1) c (u + 1) = xr (if c = o2 then xr (f o2) (2 ^ u) else f c) (if o1 = i ∧ tb (act R ((j : Int) + 1) (2 ^ o2)) c = true then 2 ^ u else 0)) := Lib.hid (fun c => by
                  rw [HE'.out, hbm]
                  by_cases e : c = o2
                  · subst e; simp
                  · rw [if_neg e, if_neg (fun h => e h.2.symm), xr_zero])
                have hcs := own_nv_getD HSM2.out ho2
                rw [mapR_getD _ ho2] at hcs
                have fz := HSM2.out.frozenAt o2
                have hx := xor_two (HLF.out o2) (t := u) (by omega)
                have HST : Hid ((wd.setCell ⟨w3.heap.size, o2, none⟩ (.int .i64 ((xr (f o2) (2 ^ u) : Nat) : Int))).ownsRow w3.heap.size 2 1 (.slice (some ⟨w3.heap.size, 0, none⟩) p p) p (nv (mapR p fun c => if c = o2 then xr (f o2) (2 ^ u) else f c))) := Lib.hid (by
                  rw [← mapR_set _ _ ho2, nv_setY]; exact (World.ownsRow.stored HSM2.out o2 _).1)
                have HBS : Hid (Below w3.heap.size w3 (wd.setCell ⟨w3.heap.size, o2, none⟩ (.int .i64 ((xr (f o2) (2 ^ u) : Nat) : Int)))) := Lib.hid (HBX.out.setCell (p := ⟨w3.heap.size, o2, none⟩) (Nat.le_refl _) _)
                have HLF0 : Hid (∀ c, Sm (if c = o2 then xr (f o2) (2 ^ u) else f c)) := Lib.hid (fun c => by
                  split
                  · exact (HLF.out o2).xr (sm_of_lt (a := u + 1) (by omega) (pow_lt_succ u))
                  · exact HLF.out c)
                clear HLF HSM2 HBX HE'
                obtain ⟨f', hf'⟩ : ∃ f' : Nat → Nat, f' = fun c => if c = o2 then xr (f o2) (2 ^ u) else f c := ⟨_, rfl⟩
                have HEA : Hid (∀ c, eqM P Q R i (j + 1) c (u + 1) = xr (f' c) (if o1 = i ∧ tb (act R ((j : Int) + 1) (2 ^ o2)) c = true then 2 ^ u else 0)) := Lib.hid (fun c => by rw [HEA0.out, hf'])
                have HLF : Hid (∀ c, Sm (f' c)) := Lib.hid (fun c => by rw [hf']; exact HLF0.out c)
                have HSM2 := HST
                have HBX := HBS
                rw [← hf'] at HSM2
                clear HEA0 HLF0 HST HBS hf'
                by_cases hoi : o1 = i
                · have hoib : ((o1 : Int) == (i : Int)) = true := by simp [hoi]
                  obtain ⟨y0, y1, yf0, yf1, ly⟩ := blk2cells (blk_kept HK2.out (HB3.out.trans (HBX.out.mono hs3)))
                  have HAC2 := Lib.hid (HA2.out ((j : Int) + 1) ((2 : Int) ^ o2) (2 ^ o2) (wd.setCell ⟨w3.heap.size, o2, none⟩ (.int .i64 ((xr (f o2) (2 ^ u) : Nat) : Int))) (HB0.out.trans ((HB3.out.trans (HBX.out.mono hs3)).mono hs0)) (by simp) (by rw [← Hp.out]; exact pow_lt_pow ho2))
                  have HSB2 := HSB.out ((j : Int) + 1) (2 ^ o2) (pow_lt_pow ho2)
                  have HEI : Hid (∀ c, eqM P Q R i (j + 1) c (u + 1) = xr (f' c) (if tb (act R ((j : Int) + 1) (2 ^ o2)) c = true then 2 ^ u else 0)) := Lib.hid (fun c => by rw [HEA.out]; simp [hoi])
                  generalize act R ((j : Int) + 1) (2 ^ o2) = aft at *
                  clear HEA hoi
                  go_wp2_with fail
                  refine HAC2.out.mono ?_
                  rintro e w5 ⟨rfl, hb⟩
                  have HS5 := Lib.hid (owns_keeps HSM2.out (Keeps.of_below hb) (.inr (by simp)))
                  have HB5 := Lib.hid (HBX.out.trans (hb.mono HBX.out.size))
                  clear hb y0 y1 yf0 yf1 ly HSM2 HBX
                  go_wp2_with fail
                  go_loopw [16] (fun kk wr => ∃ (k : Nat), k ≤ p ∧ kk = .int .i64 k ∧ wr.ownsRow w3.heap.size 2 1 (.slice (some ⟨w3.heap.size, 0, none⟩) p p) p (nv (mapR p fun c => xr (f' c) (if c < k ∧ tb aft c = true then 2 ^ u else 0))) ∧ Below w3.heap.size w3 wr) (fun kk _ => p - (intOf kk).toNat)
                  case atStart => exact ⟨0, by omega, rfl, by rw [mapR_congr (g := f') (fun c _ => by rw [if_neg (by omega), xr_zero])]; exact HS5.out, HB5.out⟩
                  case round =>
                    obtain ⟨k, hk, rfl, hs, hb⟩ := hrel
                    have HSk := Lib.hid hs
                    have HBk := Lib.hid hb
                    by_cases hkp : k < p
                    · have hmk' : min k 64 = k := by omega
                      have hkpi : (k : Int) < (p : Int) := by omega
                      cases hbk : tb aft k
                      · have HEQ : Hid (mapR p (fun c => xr (f' c) (if c < k + 1 ∧ tb aft c = true then 2 ^ u else 0)) = mapR p (fun c => xr (f' c) (if c < k ∧ tb aft c = true then 2 ^ u else 0))) := Lib.hid (mapR_congr fun c _ => by
                          by_cases e : c = k
                          · subst e; simp [hbk]
                          · have h2 : c < k + 1 ↔ c < k := by omega
                            simp only [h2])
                        clear hs hb
                        go_wp2_with fail
                        go_roundw
                        case rel => exact ⟨k + 1, by omega, by go_num, by rw [HEQ.out]; exact HSk.out, HBk.out⟩
                        case measure => simp [intOf]; omega
                      · have HEQ : Hid (mapR p (fun c => xr (f' c) (if c < k + 1 ∧ tb aft c = true then 2 ^ u else 0)) = (mapR p (fun c => xr (f' c) (if c < k ∧ tb aft c = true then 2 ^ u else 0))).set k (xr (f' k) (2 ^ u))) := Lib.hid (by
                          rw [mapR_set _ _ hkp]
                          refine mapR_congr fun c _ => ?_
                          by_cases e : c = k
                          · subst e; simp [hbk]
                          · have h2 : c < k + 1 ↔ c < k := by omega
                            rw [if_neg e]; simp only [h2])
                        have hcs := own_nv_getD hs hkp
                        rw [mapR_getD _ hkp, if_neg (by omega), xr_zero] at hcs
                        have fz := hs.frozenAt k
                        have hx := xor_two (HLF.out k) (t := u) (by omega)
                        have HSTO := Lib.hid ((World.ownsRow.stored hs k (.int .i64 ((xr (f' k) (2 ^ u) : Nat) : Int))).1)
                        rw [← nv_setY] at HSTO
                        clear hs hb
                        go_wp2_with fail
                        go_roundw
                        case rel => exact ⟨k + 1, by omega, by go_num, by rw [HEQ.out]; exact HSTO.out, HBk.out.setCell (p := ⟨w3.heap.size, k, none⟩) (Nat.le_refl _) _⟩
                        case measure => simp [intOf]; omega
                    · obtain rfl : k = p := by omega
                      have HFIN : Hid (mapR k (fun c => xr (f' c) (if c < k ∧ tb aft c = true then 2 ^ u else 0)) = mapR k (fun c => eqM P Q R i (j + 1) c (u + 1))) := Lib.hid (mapR_congr fun c hc => by rw [HEI.out]; simp [hc])
                      clear hs hb
                      go_wp2_with fail
                      go_roundw
                      case rel => exact ⟨u + 1, by omega, by go_num, by rw [← HFIN.out]; exact HSk.out, HBk.out⟩
                      case measure => simp [intOf]; omega
                · have hoib : ((o1 : Int) == (i : Int)) = false := by simp; omega
                  have HFIN : Hid (mapR p f' = mapR p (fun c => eqM P Q R i (j + 1) c (u + 1))) := Lib.hid (mapR_congr fun c _ => by rw [HEA.out]; simp [hoi, xr_zero])
                  clear hoi
                  go_wp2_with fail
                  go_roundw
                  case rel => exact ⟨u + 1, by omega, by go_num, by rw [← HFIN.out]; exact HSM2.out, HBX.out⟩
                  case measure => simp [intOf]; omega
            · obtain rfl : u = LP.length := by omega
              have HSF : Hid (Rd wr (some ⟨w3.heap.size, 0, none⟩) (nv (mapR p fun c => eqR P Q R i (j + 1) c))) := Lib.hid (by
                have h := owns_Rd hsum
                rw [HLP.out] at h; exact h)
              have HBU := Lib.hid (HB3.out.trans (hbel.mono hs3))
              have HOU := Lib.hid (owns_keeps HO3.out (Keeps.of_below hbel) (.inr (by simp)))
              have HTL : Hid (∀ k, ∀ r ∈ (eqSI P Q R p i ++ eqSJ P Q R p i j) ++ eqK' P Q R i (j + 1) k, r < 2 ^ P.length) := Lib.hid (fun k r hr => by
                rcases List.mem_append.1 hr with hr | hr
                · rcases List.mem_append.1 hr with hr | hr
                  · exact eqSI_lt r hr
                  · obtain ⟨_, _, _, _, rfl⟩ := mem_eqSJ.1 hr; exact eqM_lt _ _ _ _ _ _ _
                · obtain ⟨_, _, rfl⟩ := mem_eqK'.1 hr; exact eqM_lt _ _ _ _ _ _ _)
              have HEL : Hid (∀ c, Sm (eqR P Q R i (j + 1) c)) := Lib.hid (fun c => sm_of_lt (a := P.length) (by omega) (eqM_lt P Q R i (j + 1) c P.length))
              have HNX : Hid (eqSJ P Q R p i (j + 1) = eqSJ P Q R p i j ++ eqK' P Q R i (j + 1) p) := Lib.hid rfl
              clear hsum hbel
              go_wp2_with fail
              go_loopw [7, 17] (fun o kk wr => ∃ (k : Nat), k ≤ p ∧ kk = .int .i64 k ∧ wr.ownsRow w0.heap.size 2 1 o (reduceS ((eqSI P Q R p i ++ eqSJ P Q R p i j) ++ eqK' P Q R i (j + 1) k)).length (nv (reduceS ((eqSI P Q R p i ++ eqSJ P Q R p i j) ++ eqK' P Q R i (j + 1) k))) ∧ Rd wr (some ⟨w3.heap.size, 0, none⟩) (nv (mapR p fun c => eqR P Q R i (j + 1) c)) ∧ Below w0.heap.size w0 wr) (fun _ kk _ => p - (intOf kk).toNat)
              case atStart => exact ⟨0, by omega, rfl, by simp only [eqK', List.range_zero, List.map_nil, List.append_nil]; exact HOU.out, HSF.out, HBU.out⟩
              case round =>
                obtain ⟨k, hk, rfl, hown, hrd, hbel⟩ := hrel
                have HOk := Lib.hid hown
                have HRk := Lib.hid hrd
                have HBk := Lib.hid hbel
                have hsz2 := hbel.size
                by_cases hkp : k < p
                · have hml : k < (mapR p fun c => eqR P Q R i (j + 1) c).length := by rw [mapR_length]; exact hkp
                  obtain ⟨b, o, hA, hc⟩ := hrd.atN hml
                  injection hA with hA
                  injection hA with e1 e2 _
                  subst e1
                  subst e2
                  rw [Nat.zero_add, mapR_getD _ hkp] at hc
                  obtain ⟨r1', r2'⟩ := HRD.out _ (HTL.out k)
                  have hpu := put_any w0.heap.size _ _ (eqR P Q R i (j + 1) k) wr hsz2 hown (by omega) (HEL.out k) r1'
                  rw [← reduce_snoc, List.append_assoc, ← eqK'_succ] at hpu
                  obtain ⟨T2, hT2⟩ : ∃ T2, T2 = reduceS ((eqSI P Q R p i ++ eqSJ P Q R p i j) ++ eqK' P Q R i (j + 1) (k + 1)) := ⟨_, rfl⟩
                  rw [← hT2] at hpu
                  have HT2 := Lib.hid hT2
                  have HPU := Lib.hid hpu
                  have hkpi : (k : Int) < (p : Int) := by omega
                  obtain ⟨Ak, ck, rfl, _⟩ := owns_shape hown
                  generalize eqR P Q R i (j + 1) k = x at *
                  generalize reduceS ((eqSI P Q R p i ++ eqSJ P Q R p i j) ++ eqK' P Q R i (j + 1) k) = T1 at *
                  clear hown hrd hbel hpu hml r1' r2' hT2
                  go_wp2_with fail
                  refine HPU.out.mono ?_
                  rintro e w6 ⟨v6, rfl, ho, hb, _⟩
                  have HO6 := Lib.hid ho
                  have HR6 := Lib.hid (HRk.out.below hb)
                  have HB6 := Lib.hid (HBk.out.trans (hb.mono hsz2))
                  clear ho hb hc
                  go_wp2_with fail
                  go_roundw
                  case rel => exact ⟨k + 1, by omega, by go_num, by rw [← HT2.out]; exact HO6.out, HR6.out, HB6.out⟩
                  case measure => simp [intOf]; omega
                · obtain rfl : k = p := by omega
                  clear hown hrd hbel
                  go_wp2_with fail
                  go_roundw
                  case rel => exact ⟨j + 1, by omega, by go_num, by rw [HNX.out, ← List.append_assoc]; exact HOk.out, HBk.out⟩
                  case measure => simp [intOf]; omega
        · obtain rfl : j = 20 := by omega
          have hj21 : ((20 : Nat) : Int) + 1 = 21 := rfl
          clear hown hbel
          go_wp2_with fail
          go_roundw
          case rel => exact ⟨i + 1, by omega, by go_num, HO.out, HB.out⟩
          case measure => simp [intOf]; omega
    · obtain rfl : i = n := by omega
      clear hown hbel
      go_wp2_with fail
      go_ret
      exact ⟨_, rfl, HO.out.mono hs0, HB0.out.trans (HB.out.mono hs0)⟩
end Go.Proofs.YtdkmdmpaflgfaaaGreatDoor
