/- IsomorphismOf: the program; both sides flattened for mkl2.py -/
import Derived.Test.YtpchigdhnnkpcaaGreatDoorZav
import Derived.Test.YtpchigdhnnkpcaaGreatDoorZbc
import Derived.Test.YtpchigdhnnkpcaaGreatDoorZbd
namespace Go.Proofs.YtpchigdhnnkpcaaGreatDoor
open Go.RowKit

set_option maxRecDepth 100000 in
set_option maxHeartbeats 8000000 in
theorem implIsomorphismOf' (A A' B B' : Option Addr) (n c m c' p d q d' : Nat) (xs ys : List Int) (L M : List Row) (w : World) (hT : Tab w) (hw : 0 < w.heap.size) (hM : ModIn w A n A' m xs L) (hN : ModIn w B p B' q ys M) :
    Calls Tryz.prog 13 #[.agg #[.slice A n c, .slice A' m c'], .agg #[.slice B p d, .slice B' q d']] w (ResR (isomorphismOfOf xs L ys M) w) := by
  obtain ⟨hb0, hk1, hk2⟩ := box_two w A A' B B' n c m c' p d q d'
  have HB0 := Lib.hid hb0
  have HK1 := Lib.hid hk1
  have HK2 := Lib.hid hk2
  have HMP := Lib.hid (mapsOf_any A A' B B' n c m c' p d q d' xs ys L M _ (hT.below hb0 hw) (Nat.lt_of_lt_of_le hw hb0.size) (hM.below hb0) (hN.below hb0))
  have HT := Lib.hid hT
  have Hn := Lib.hid hM.r.hn
  have Hp := Lib.hid hN.r.hn
  obtain ⟨x0, x1, xf0, xf1, lx⟩ := blk2cells hk1
  obtain ⟨y0, y1, yf0, yf1, ly⟩ := blk2cells hk2
  clear hb0 hk1 hk2 hM hN hT
  go_enter Tryz.func13, Tryz.ntmps13
  go_wp2_with fail
  refine HMP.out.mono ?_
  rintro e w0 ⟨ho, hb⟩
  have HB0' := Lib.hid (HB0.out.trans (hb.mono HB0.out.size))
  have HK1' := Lib.hid (blk_kept HK1.out hb)
  have HK2' := Lib.hid (blk_kept HK2.out hb)
  clear hb x0 x1 xf0 xf1 lx y0 y1 yf0 yf1 ly
  rcases ho with ⟨hno, rfl⟩ | ⟨hy, h60, rfl⟩ | ⟨hy, h60, A1, c1, N, A2, c2, rfl, hd, hon, hob⟩
  · have HF : Hid (isomorphismOfOf xs L ys M = ([], 1)) := Lib.hid (isoOf_1 hno)
    clear hno
    go_wp2_with fail
    go_ret2
    exact ⟨.slice none 0 0, [], by rw [HF.out]; rfl, by rw [HF.out]; rfl, OwnR.nil _ _, HB0'.out.alloc HB0'.out.size _⟩
  · have HF : Hid (isomorphismOfOf xs L ys M = ([], 3)) := Lib.hid (isoOf_2 hy h60)
    clear hy h60
    go_wp2_with fail
    go_ret2
    exact ⟨.slice none 0 0, [], by rw [HF.out]; rfl, by rw [HF.out]; rfl, OwnR.nil _ _, HB0'.out.alloc HB0'.out.size _⟩
  have hn16 : n ≤ 16 := by rw [Hn.out]; exact (modB_iff.1 hy.1).shp.len
  have hp16 : p ≤ 16 := by rw [Hp.out]; exact (modB_iff.1 hy.2).shp.len
  have hbz : Below w0.heap.size w0 (w0.alloc (.cells #[.slice A1 N.length c1, .slice A2 (mapsL xs (dat L) ys (dat M)).length c2] 57)) := (Below.refl _ _).alloc (Nat.le_refl _) _
  have HB1 := Lib.hid (HB0'.out.trans (hbz.mono HB0'.out.size))
  have HK1a := Lib.hid (blk_kept HK1'.out hbz)
  have HK2a := Lib.hid (blk_kept HK2'.out hbz)
  have HK3a := Lib.hid (blk_new w0 (.cells #[.slice A1 N.length c1, .slice A2 (mapsL xs (dat L) ys (dat M)).length c2] 57))
  have HV := Lib.hid (((hon.later hbz).rd rfl))
  have HR := Lib.hid ((owns_Rd hob).below hbz)
  have HD := Lib.hid hd
  have hKl := mapsL_lt (Q := dat L) (R := dat M) h60
  have HKS : Hid (∀ r ∈ mapsL xs (dat L) ys (dat M), Sm r) := Lib.hid (fun r hr => sm_of_lt (a := (unk xs ys).length) (by omega) (hKl r hr))
  have HUN := Lib.hid h60
  have HNL : Hid (N.length = (unk xs ys).length) := Lib.hid (by have := congrArg List.length hd; rwa [dat_length, List.length_map] at this)
  have HIN : Hid (∀ u, u < (unk xs ys).length → ((unk xs ys).getD u (0, 0)).1 < n ∧ ((unk xs ys).getD u (0, 0)).2 < p) := Lib.hid (fun u hu => by rw [Hn.out, Hp.out]; exact unk_in u hu)
  have HF3 : Hid (¬ (mapsL xs (dat L) ys (dat M)).length ≤ 12 → isomorphismOfOf xs L ys M = ([], 3)) := Lib.hid (fun h => isoOf_3 hy h60 h)
  have HF4 : Hid ((mapsL xs (dat L) ys (dat M)).length ≤ 12 → xs.length ≠ ys.length → isomorphismOfOf xs L ys M = ([], 4)) := Lib.hid (fun h h2 => isoOf_4 hy h60 h h2)
  have HF5 : Hid ((mapsL xs (dat L) ys (dat M)).length ≤ 12 → xs.length = ys.length → (∀ y, y < 2 ^ (mapsL xs (dat L) ys (dat M)).length → isoB (unk xs ys) (mapsL xs (dat L) ys (dat M)) xs.length ys.length y = false) → isomorphismOfOf xs L ys M = ([], 4)) := Lib.hid (fun h h2 h3 => isoOf_5 hy h60 h h2 h3)
  have HF0 : Hid ((mapsL xs (dat L) ys (dat M)).length ≤ 12 → xs.length = ys.length → ∀ x, x < 2 ^ (mapsL xs (dat L) ys (dat M)).length → (∀ y, y < x → isoB (unk xs ys) (mapsL xs (dat L) ys (dat M)) xs.length ys.length y = false) → isoB (unk xs ys) (mapsL xs (dat L) ys (dat M)) xs.length ys.length x = true → isomorphismOfOf xs L ys M = ((imgs (unk xs ys) xs.length (comb (mapsL xs (dat L) ys (dat M)) 0 x)).map (fun v => bitsL v ys.length), 0)) := Lib.hid (fun h h2 x hx h3 h4 => isoOf_0 hy h60 h h2 hx h3 h4)
  generalize isomorphismOfOf xs L ys M = rr at *
  generalize mapsL xs (dat L) ys (dat M) = K at *
  generalize unk xs ys = P at *
  rw [← Hn.out, ← Hp.out] at HF4 HF5 HF0
  clear hy h60 hd hon hob hKl hbz
  by_cases hk12 : K.length ≤ 12
  · have hk12i : ¬ (12 < (K.length : Int)) := by omega
    by_cases hnp : n = p
    · have hnpb : ((n : Int) != (p : Int)) = false := by simp [hnp]
      have HF5 := Lib.hid (HF5.out hk12 hnp)
      have HF0 := Lib.hid (HF0.out hk12 hnp)
      obtain ⟨x0, x1, xf0, xf1, lx⟩ := blk2cells HK1'.out
      obtain ⟨y0, y1, yf0, yf1, ly⟩ := blk2cells HK2'.out
      have hmin : min K.length 64 = K.length := by omega
      obtain ⟨pk1, pk2⟩ := pow62 (d := K.length) (by omega)
      have hpk : ((2 ^ K.length : Nat) : Int) = (2 : Int) ^ K.length := by simp
      have hpkn : (2 : Nat) ^ K.length ≤ 2 ^ 12 := Nat.pow_le_pow_right (by omega) hk12
      have e12 : (2 : Nat) ^ 12 = 4096 := by decide
      clear HF3 HF4 hnp
      go_wp2_with fail
      clear x0 x1 xf0 xf1 lx y0 y1 yf0 yf1 ly
      generalize w0.alloc (.cells #[.slice A1 N.length c1, .slice A2 K.length c2] 57) = w1 at *
      generalize w0.heap.size = b0 at *
      go_loopw [37] (fun s37 wr => ∃ x : Nat, x ≤ 2 ^ K.length ∧ s37 = .int .i64 x ∧ Hid (∀ y, y < x → isoB P K n p y = false) ∧ Below w1.heap.size w1 wr) (fun s _ => 2 ^ K.length - (intOf s).toNat)
      case atStart => exact ⟨0, by omega, rfl, Lib.hid (fun y hy => by omega), Below.refl _ _⟩
      case round =>
        obtain ⟨x, hx, rfl, HLO, hbel⟩ := hrel
        have HBL := Lib.hid hbel
        have HBW := Lib.hid (HB1.out.trans (hbel.mono HB1.out.size))
        by_cases hxK : x < 2 ^ K.length
        · have hxi : (x : Int) < (2 : Int) ^ K.length := by rw [← hpk]; omega
          have hsx : Sm x := sm_of_lt (a := 12) (by omega) (by omega)
          have HTM := Lib.hid (fun (W : World) (hb : Below wr.heap.size wr W) => times_any A2 K.length c2 K x W rfl (by omega) hsx HKS.out (HR.out.below (hbel.trans (hb.mono hbel.size))))
          have HTO := Lib.hid (fun (W : World) (hb : Below wr.heap.size wr W) => images_any A1 A2 A A' c1 K.length c2 n c m c' p N P (comb K 0 x) W hn16 hp16 HD.out (by rw [HNL.out]; exact HUN.out) HIN.out (comb_sm K 0 x HKS.out) (HV.out.below (hbel.trans (hb.mono hbel.size))))
          have HIB : Hid (isoB P K n p x = decide ((reduceS (imgs P n (comb K 0 x))).length = p)) := Lib.hid rfl
          have HIL : Hid (∀ r ∈ imgs P n (comb K 0 x), r < 2 ^ p) := Lib.hid (imgs_lt (fun u hu => (HIN.out u hu).2))
          have HGN : Hid (n = (imgs P n (comb K 0 x)).length) := Lib.hid (imgs_len P n _).symm
          have HF0x := Lib.hid (HF0.out x hxK HLO.out)
          generalize imgs P n (comb K 0 x) = G at *
          generalize comb K 0 x = z at *
          have HGS : Hid (∀ r ∈ G, Sm r) := Lib.hid (fun r hr => sm_of_lt (a := p) (by omega) (HIL.out r hr))
          have KS := Lib.hid (fun w' (hb : Below wr.heap.size wr w') => show w'.cell? ⟨w.heap.size, 0, none⟩ = some (.slice A n c) ∧ w'.cell? ⟨w.heap.size, 1, none⟩ = some (.slice A' m c') ∧ w'.cell? ⟨b0, 0, none⟩ = some (.slice A1 N.length c1) ∧ w'.cell? ⟨b0, 1, none⟩ = some (.slice A2 K.length c2) from by
            obtain ⟨x0, x1, _⟩ := blk2cells (blk_kept HK1a.out (hbel.trans (hb.mono hbel.size)))
            obtain ⟨y0, y1, _⟩ := blk2cells (blk_kept HK3a.out (hbel.trans (hb.mono hbel.size)))
            exact ⟨x0, x1, y0, y1⟩)
          have HB_0 := Lib.hid (Below.drew (Below.refl wr.heap.size wr))
          clear hbel hpk
          go_wp2_with fail
          go_region_held3 (fun w' => w'.cell? ⟨w.heap.size, 0, none⟩ = some (.slice A n c) ∧ w'.cell? ⟨w.heap.size, 1, none⟩ = some (.slice A' m c') ∧ w'.cell? ⟨b0, 0, none⟩ = some (.slice A1 N.length c1) ∧ w'.cell? ⟨b0, 1, none⟩ = some (.slice A2 K.length c2))
            (first | exact KS.out _ HB_0.out | exact KS.out _ HB_2.out)
            (first
              | (go_at_call 46; (with_reducible refine (HTM.out _ HB_0.out).mono ?_); (rintro e w4 ⟨rfl, rfl⟩))
              | (go_at_call 45; (with_reducible refine (HTO.out _ HB_0.out).mono ?_); (rintro e w5 ⟨v5, rfl, ho, hb⟩; obtain ⟨A5, c5, rfl, _⟩ := owns_shape ho; have HO5 := Lib.hid (owns_Rd ho); have HB_2 := Lib.hid (HB_0.out.trans (hb.mono HB_0.out.size)); clear ho hb)))
          have HC5 := Lib.hid (HBL.out.trans (HB_2.out.mono HBL.out.size))
          have HT5 := Lib.hid (HT.out.below (HB1.out.trans (HC5.out.mono HB1.out.size)) hw)
          have h5 := HC5.out.size
          have h1w := HB1.out.size
          have HC_0 := Lib.hid (Below.drew (Below.refl w5.heap.size w5))
          have HSO := Lib.hid (spanOf_any A5 n c5 G w5.drew (HT5.out.below HC_0.out (by omega)) (show 0 < w5.heap.size by omega) HGN.out (by omega) HGS.out (HO5.out.below HC_0.out))
          have hsl : (spanL (zs G)).length = (reduceS G).length := by
            have h := (spanL_perm (zs G) (fun q hq => by obtain ⟨r, hr, rfl⟩ := List.mem_map.1 hq; exact ⟨HGS.out r hr, Sm.zero⟩)).1
            rw [r1_zs] at h
            rw [← h.length_eq, r1_length]
          have HSL := Lib.hid hsl
          have HK2d := Lib.hid (blk_kept (blk_kept HK2a.out HC5.out) HC_0.out)
          obtain ⟨y0, y1, yf0, yf1, ly⟩ := blk2cells HK2d.out
          have HVEC := Lib.hid (fun (W : World) (hb : Below w5.heap.size w5 W) => vectorsOf_any B B' A5 p d q d' n c5 G W HGN.out (by omega) (by omega) HGS.out (HO5.out.below hb))
          clear hsl KS
          go_wp2_with fail
          refine wp_region_any (by kernel_rfl) ?_
          try (change wpAny _ _ _ _ _ _ _ (World.drew _))
          refine wpAny_take (i := 0) (oi := ?oio1_1) (v := ?vo1_1) ?ho1_1 (by kernel_rfl) (by kernel_rfl) (by kernel_rfl) ?qo1_1 (Or.inl ⟨?wo1_1, ?yo1_1⟩) ?ro1_1
          case ho1_1 => (simp only [List.getElem?_toArray, List.getElem?_cons_succ, List.getElem?_cons_zero]; rfl)
          case qo1_1 => exact fun _ _ _ h => h
          case wo1_1 => rfl
          case yo1_1 => (intro w; go_simp <;> with_reducible rfl)
          try simp only [Act.put, List.setIfInBounds_toArray, List.set_cons_zero, List.set_cons_succ]
          refine wpAny_take (i := 6) (oi := ?oio1_2) (v := ?vo1_2) ?ho1_2 (by kernel_rfl) (by kernel_rfl) (by kernel_rfl) ?qo1_2 (Or.inl ⟨?wo1_2, ?yo1_2⟩) ?ro1_2
          case ho1_2 => (simp only [List.getElem?_toArray, List.getElem?_cons_succ, List.getElem?_cons_zero]; rfl)
          case qo1_2 => exact fun _ _ _ h => h
          case wo1_2 => rfl
          case yo1_2 => (intro w; go_simp <;> with_reducible rfl)
          try simp only [Act.put, List.setIfInBounds_toArray, List.set_cons_zero, List.set_cons_succ]
          refine wpAny_ready (rs := [1, 7]) (by kernel_rfl) (by simp) ?_
          refine AllReady.cons (o := ?oio1_3) ?ho1_3 (fun K hK => ?ko1_3) ?mo1_3
          case ho1_3 => (simp only [List.getElem?_toArray, List.getElem?_cons_succ, List.getElem?_cons_zero]; rfl)
          case ko1_3 =>
            go_simp
            go_at_call 47; refine HSO.out.mono ?_; rintro e w6 ⟨rfl, ⟨v1, v2, hsp⟩, hb⟩; obtain ⟨A6, c6, rfl, _⟩ := owns_shape hsp.own1; obtain ⟨s0, s1, _, _, _⟩ := blk2cells hsp.blk; rw [HSL.out] at s0; have s0' : w6.cell? ⟨w5.heap.size, 0, none⟩ = some (.slice A6 (reduceS G).length c6) := s0; have HC_1 := Lib.hid (HC_0.out.trans (hb.mono HC_0.out.size)); have HK2e := Lib.hid (blk_kept HK2d.out hb); clear hb hsp y0 y1 yf0 yf1 ly; obtain ⟨y0, y1, yf0, yf1, ly⟩ := blk2cells HK2e.out
            refine hK _ _ ?_
            clear hK K
            try simp only [Act.put, List.setIfInBounds_toArray, List.set_cons_zero, List.set_cons_succ]
            refine wpAny_take (i := 2) (oi := ?oio1_4) (v := ?vo1_4) ?ho1_4 (by kernel_rfl) (by kernel_rfl) (by kernel_rfl) ?qo1_4 (Or.inl ⟨?wo1_4, ?yo1_4⟩) ?ro1_4
            case ho1_4 => (simp only [List.getElem?_toArray, List.getElem?_cons_succ, List.getElem?_cons_zero]; rfl)
            case qo1_4 => exact fun _ _ _ h => h
            case wo1_4 => rfl
            case yo1_4 => (intro w; go_simp <;> with_reducible rfl)
            try simp only [Act.put, List.setIfInBounds_toArray, List.set_cons_zero, List.set_cons_succ]
            refine wpAny_take (i := 3) (oi := ?oio1_5) (v := ?vo1_5) ?ho1_5 (by kernel_rfl) (by kernel_rfl) (by kernel_rfl) ?qo1_5 (Or.inl ⟨?wo1_5, ?yo1_5⟩) ?ro1_5
            case ho1_5 => (simp only [List.getElem?_toArray, List.getElem?_cons_succ, List.getElem?_cons_zero]; rfl)
            case qo1_5 => exact fun _ _ _ h => h
            case wo1_5 => rfl
            case yo1_5 => (intro w; go_simp <;> with_reducible rfl)
            try simp only [Act.put, List.setIfInBounds_toArray, List.set_cons_zero, List.set_cons_succ]
            refine wpAny_ready (rs := [4, 7]) (by kernel_rfl) (by simp) ?_
            refine AllReady.cons (o := ?oio1_6) ?ho1_6 (fun K hK => ?ko1_6) ?mo1_6
            case ho1_6 => (simp only [List.getElem?_toArray, List.getElem?_cons_succ, List.getElem?_cons_zero]; rfl)
            case ko1_6 =>
              go_simp
              refine hK _ _ ?_
              clear hK K
              try simp only [Act.put, List.setIfInBounds_toArray, List.set_cons_zero, List.set_cons_succ]
              refine wpAny_ready (rs := [5, 7]) (by kernel_rfl) (by simp) ?_
              refine AllReady.cons (o := ?oio1_7) ?ho1_7 (fun K hK => ?ko1_7) ?mo1_7
              case ho1_7 => (simp only [List.getElem?_toArray, List.getElem?_cons_succ, List.getElem?_cons_zero]; rfl)
              case ko1_7 =>
                go_simp
                refine hK _ _ ?_
                clear hK K
                try simp only [Act.put, List.setIfInBounds_toArray, List.set_cons_zero, List.set_cons_succ]
                refine wpAny_ready (rs := [7]) (by kernel_rfl) (by simp) ?_
                refine AllReady.cons (o := ?oio1_8) ?ho1_8 (fun K hK => ?ko1_8) ?mo1_8
                case ho1_8 => (simp only [List.getElem?_toArray, List.getElem?_cons_succ, List.getElem?_cons_zero]; rfl)
                case ko1_8 =>
                  go_simp
                  refine hK _ _ ?_
                  clear hK K
                  try simp only [Act.put, List.setIfInBounds_toArray, List.set_cons_zero, List.set_cons_succ]
                  refine wpAny_ready (rs := [8]) (by kernel_rfl) (by simp) ?_
                  refine AllReady.cons (o := ?oio1_9) ?ho1_9 (fun K hK => ?ko1_9) ?mo1_9
                  case ho1_9 => (simp only [List.getElem?_toArray, List.getElem?_cons_succ, List.getElem?_cons_zero]; rfl)
                  case ko1_9 =>
                    go_simp
                    refine hK _ _ ?_
                    clear hK K
                    try simp only [Act.put, List.setIfInBounds_toArray, List.set_cons_zero, List.set_cons_succ]
                    refine wpAny_take (i := 9) (oi := ?oio1_10) (v := ?vo1_10) ?ho1_10 (by kernel_rfl) (by kernel_rfl) (by kernel_rfl) ?qo1_10 (Or.inl ⟨?wo1_10, ?yo1_10⟩) ?ro1_10
                    case ho1_10 => (simp only [List.getElem?_toArray, List.getElem?_cons_succ, List.getElem?_cons_zero]; rfl)
                    case qo1_10 => exact fun _ _ _ h => h
                    case wo1_10 => rfl
                    case yo1_10 => (intro w; go_simp <;> with_reducible rfl)
                    try simp only [Act.put, List.setIfInBounds_toArray, List.set_cons_zero, List.set_cons_succ]
                    refine wpAny_done (by kernel_rfl) ?_ _
                    have HB7 := Lib.hid (HC5.out.trans (HC_1.out.mono HC5.out.size))
                    generalize hgl : (reduceS G).length = gl at *
                    have HIB2 : Hid (isoB P K n p x = decide (gl = p)) := Lib.hid HIB.out
                    by_cases hgp : gl = p
                    · have hgpb : ((gl : Int) == (p : Int)) = true := by simp [hgp]
                      have HF := Lib.hid (HF0x.out (by rw [HIB2.out]; simpa using hgp))
                      have HVC := Lib.hid (HVEC.out w6 HC_1.out)
                      clear hgp hgl
                      go_wp2_with fail
                      refine HVC.out.mono ?_
                      rintro e w8 ⟨A8, c8, R8, rfl, hRl, hRd, ho, hb⟩
                      have HR1 := Lib.hid hRl
                      have HR2 := Lib.hid hRd
                      have HO8 := Lib.hid (ho.mono (B' := w.heap.size) (Nat.le_trans h1w HB7.out.size))
                      have HB8 := Lib.hid (HB7.out.trans (hb.mono HB7.out.size))
                      clear hRl hRd ho hb
                      go_wp2_with fail
                      go_ret2
                      exact ⟨_, R8, by rw [HF.out]; rfl, by rw [HF.out, HR2.out, Hp.out], HO8.out, HB1.out.trans (HB8.out.mono HB1.out.size)⟩
                    · have hgpb : ((gl : Int) == (p : Int)) = false := by simp; omega
                      have HLO2 : Hid (∀ y, y < x + 1 → isoB P K n p y = false) := Lib.hid (fun y hy => by
                        by_cases e : y = x
                        · subst e; rw [HIB2.out]; simpa using hgp
                        · exact HLO.out y (by omega))
                      clear hgp hgl
                      go_wp2_with fail
                      go_roundw
                      case rel => exact ⟨x + 1, by omega, by go_num, HLO2, HB7.out⟩
                      case measure => simp [intOf]; omega
                  exact AllReady.nil
                exact AllReady.nil
              refine AllReady.cons (o := ?oio1_11) ?ho1_11 (fun K hK => ?ko1_11) ?mo1_11
              case ho1_11 => (simp only [List.getElem?_toArray, List.getElem?_cons_succ, List.getElem?_cons_zero]; rfl)
              case ko1_11 =>
                go_simp
                refine hK _ _ ?_
                clear hK K
                try simp only [Act.put, List.setIfInBounds_toArray, List.set_cons_zero, List.set_cons_succ]
                refine wpAny_ready (rs := [5, 8]) (by kernel_rfl) (by simp) ?_
                refine AllReady.cons (o := ?oio1_12) ?ho1_12 (fun K hK => ?ko1_12) ?mo1_12
                case ho1_12 => (simp only [List.getElem?_toArray, List.getElem?_cons_succ, List.getElem?_cons_zero]; rfl)
                case ko1_12 =>
                  go_simp
                  refine hK _ _ ?_
                  clear hK K
                  try simp only [Act.put, List.setIfInBounds_toArray, List.set_cons_zero, List.set_cons_succ]
                  refine wpAny_ready (rs := [8]) (by kernel_rfl) (by simp) ?_
                  refine AllReady.cons (o := ?oio1_13) ?ho1_13 (fun K hK => ?ko1_13) ?mo1_13
                  case ho1_13 => (simp only [List.getElem?_toArray, List.getElem?_cons_succ, List.getElem?_cons_zero]; rfl)
                  case ko1_13 =>
                    go_simp
                    refine hK _ _ ?_
                    clear hK K
                    try simp only [Act.put, List.setIfInBounds_toArray, List.set_cons_zero, List.set_cons_succ]
                    refine wpAny_take (i := 9) (oi := ?oio1_14) (v := ?vo1_14) ?ho1_14 (by kernel_rfl) (by kernel_rfl) (by kernel_rfl) ?qo1_14 (Or.inl ⟨?wo1_14, ?yo1_14⟩) ?ro1_14
                    case ho1_14 => (simp only [List.getElem?_toArray, List.getElem?_cons_succ, List.getElem?_cons_zero]; rfl)
                    case qo1_14 => exact fun _ _ _ h => h
                    case wo1_14 => rfl
                    case yo1_14 => (intro w; go_simp <;> with_reducible rfl)
                    try simp only [Act.put, List.setIfInBounds_toArray, List.set_cons_zero, List.set_cons_succ]
                    refine wpAny_done (by kernel_rfl) ?_ _
                    have HB7 := Lib.hid (HC5.out.trans (HC_1.out.mono HC5.out.size))
                    generalize hgl : (reduceS G).length = gl at *
                    have HIB2 : Hid (isoB P K n p x = decide (gl = p)) := Lib.hid HIB.out
                    by_cases hgp : gl = p
                    · have hgpb : ((gl : Int) == (p : Int)) = true := by simp [hgp]
                      have HF := Lib.hid (HF0x.out (by rw [HIB2.out]; simpa using hgp))
                      have HVC := Lib.hid (HVEC.out w6 HC_1.out)
                      clear hgp hgl
                      go_wp2_with fail
                      refine HVC.out.mono ?_
                      rintro e w8 ⟨A8, c8, R8, rfl, hRl, hRd, ho, hb⟩
                      have HR1 := Lib.hid hRl
                      have HR2 := Lib.hid hRd
                      have HO8 := Lib.hid (ho.mono (B' := w.heap.size) (Nat.le_trans h1w HB7.out.size))
                      have HB8 := Lib.hid (HB7.out.trans (hb.mono HB7.out.size))
                      clear hRl hRd ho hb
                      go_wp2_with fail
                      go_ret2
                      exact ⟨_, R8, by rw [HF.out]; rfl, by rw [HF.out, HR2.out, Hp.out], HO8.out, HB1.out.trans (HB8.out.mono HB1.out.size)⟩
                    · have hgpb : ((gl : Int) == (p : Int)) = false := by simp; omega
                      have HLO2 : Hid (∀ y, y < x + 1 → isoB P K n p y = false) := Lib.hid (fun y hy => by
                        by_cases e : y = x
                        · subst e; rw [HIB2.out]; simpa using hgp
                        · exact HLO.out y (by omega))
                      clear hgp hgl
                      go_wp2_with fail
                      go_roundw
                      case rel => exact ⟨x + 1, by omega, by go_num, HLO2, HB7.out⟩
                      case measure => simp [intOf]; omega
                  exact AllReady.nil
                refine AllReady.cons (o := ?oio1_15) ?ho1_15 (fun K hK => ?ko1_15) ?mo1_15
                case ho1_15 => (simp only [List.getElem?_toArray, List.getElem?_cons_succ, List.getElem?_cons_zero]; rfl)
                case ko1_15 =>
                  go_simp
                  refine hK _ _ ?_
                  clear hK K
                  try simp only [Act.put, List.setIfInBounds_toArray, List.set_cons_zero, List.set_cons_succ]
                  refine wpAny_ready (rs := [5]) (by kernel_rfl) (by simp) ?_
                  refine AllReady.cons (o := ?oio1_16) ?ho1_16 (fun K hK => ?ko1_16) ?mo1_16
                  case ho1_16 => (simp only [List.getElem?_toArray, List.getElem?_cons_succ, List.getElem?_cons_zero]; rfl)
                  case ko1_16 =>
                    go_simp
                    refine hK _ _ ?_
                    clear hK K
                    try simp only [Act.put, List.setIfInBounds_toArray, List.set_cons_zero, List.set_cons_succ]
                    refine wpAny_take (i := 9) (oi := ?oio1_17) (v := ?vo1_17) ?ho1_17 (by kernel_rfl) (by kernel_rfl) (by kernel_rfl) ?qo1_17 (Or.inl ⟨?wo1_17, ?yo1_17⟩) ?ro1_17
                    case ho1_17 => (simp only [List.getElem?_toArray, List.getElem?_cons_succ, List.getElem?_cons_zero]; rfl)
                    case qo1_17 => exact fun _ _ _ h => h
                    case wo1_17 => rfl
                    case yo1_17 => (intro w; go_simp <;> with_reducible rfl)
                    try simp only [Act.put, List.setIfInBounds_toArray, List.set_cons_zero, List.set_cons_succ]
                    refine wpAny_done (by kernel_rfl) ?_ _
                    have HB7 := Lib.hid (HC5.out.trans (HC_1.out.mono HC5.out.size))
                    generalize hgl : (reduceS G).length = gl at *
                    have HIB2 : Hid (isoB P K n p x = decide (gl = p)) := Lib.hid HIB.out
                    by_cases hgp : gl = p
                    · have hgpb : ((gl : Int) == (p : Int)) = true := by simp [hgp]
                      have HF := Lib.hid (HF0x.out (by rw [HIB2.out]; simpa using hgp))
                      have HVC := Lib.hid (HVEC.out w6 HC_1.out)
                      clear hgp hgl
                      go_wp2_with fail
                      refine HVC.out.mono ?_
                      rintro e w8 ⟨A8, c8, R8, rfl, hRl, hRd, ho, hb⟩
                      have HR1 := Lib.hid hRl
                      have HR2 := Lib.hid hRd
                      have HO8 := Lib.hid (ho.mono (B' := w.heap.size) (Nat.le_trans h1w HB7.out.size))
                      have HB8 := Lib.hid (HB7.out.trans (hb.mono HB7.out.size))
                      clear hRl hRd ho hb
                      go_wp2_with fail
                      go_ret2
                      exact ⟨_, R8, by rw [HF.out]; rfl, by rw [HF.out, HR2.out, Hp.out], HO8.out, HB1.out.trans (HB8.out.mono HB1.out.size)⟩
                    · have hgpb : ((gl : Int) == (p : Int)) = false := by simp; omega
                      have HLO2 : Hid (∀ y, y < x + 1 → isoB P K n p y = false) := Lib.hid (fun y hy => by
                        by_cases e : y = x
                        · subst e; rw [HIB2.out]; simpa using hgp
                        · exact HLO.out y (by omega))
                      clear hgp hgl
                      go_wp2_with fail
                      go_roundw
                      case rel => exact ⟨x + 1, by omega, by go_num, HLO2, HB7.out⟩
                      case measure => simp [intOf]; omega
                  exact AllReady.nil
                exact AllReady.nil
              exact AllReady.nil
            refine AllReady.cons (o := ?oio1_18) ?ho1_18 (fun K hK => ?ko1_18) ?mo1_18
            case ho1_18 => (simp only [List.getElem?_toArray, List.getElem?_cons_succ, List.getElem?_cons_zero]; rfl)
            case ko1_18 =>
              go_simp
              refine hK _ _ ?_
              clear hK K
              try simp only [Act.put, List.setIfInBounds_toArray, List.set_cons_zero, List.set_cons_succ]
              refine wpAny_ready (rs := [4, 8]) (by kernel_rfl) (by simp) ?_
              refine AllReady.cons (o := ?oio1_19) ?ho1_19 (fun K hK => ?ko1_19) ?mo1_19
              case ho1_19 => (simp only [List.getElem?_toArray, List.getElem?_cons_succ, List.getElem?_cons_zero]; rfl)
              case ko1_19 =>
                go_simp
                refine hK _ _ ?_
                clear hK K
                try simp only [Act.put, List.setIfInBounds_toArray, List.set_cons_zero, List.set_cons_succ]
                refine wpAny_ready (rs := [5, 8]) (by kernel_rfl) (by simp) ?_
                refine AllReady.cons (o := ?oio1_20) ?ho1_20 (fun K hK => ?ko1_20) ?mo1_20
                case ho1_20 => (simp only [List.getElem?_toArray, List.getElem?_cons_succ, List.getElem?_cons_zero]; rfl)
                case ko1_20 =>
                  go_simp
                  refine hK _ _ ?_
                  clear hK K
                  try simp only [Act.put, List.setIfInBounds_toArray, List.set_cons_zero, List.set_cons_succ]
                  refine wpAny_ready (rs := [8]) (by kernel_rfl) (by simp) ?_
                  refine AllReady.cons (o := ?oio1_21) ?ho1_21 (fun K hK => ?ko1_21) ?mo1_21
                  case ho1_21 => (simp only [List.getElem?_toArray, List.getElem?_cons_succ, List.getElem?_cons_zero]; rfl)
                  case ko1_21 =>
                    go_simp
                    refine hK _ _ ?_
                    clear hK K
                    try simp only [Act.put, List.setIfInBounds_toArray, List.set_cons_zero, List.set_cons_succ]
                    refine wpAny_take (i := 9) (oi := ?oio1_22) (v := ?vo1_22) ?ho1_22 (by kernel_rfl) (by kernel_rfl) (by kernel_rfl) ?qo1_22 (Or.inl ⟨?wo1_22, ?yo1_22⟩) ?ro1_22
                    case ho1_22 => (simp only [List.getElem?_toArray, List.getElem?_cons_succ, List.getElem?_cons_zero]; rfl)
                    case qo1_22 => exact fun _ _ _ h => h
                    case wo1_22 => rfl
                    case yo1_22 => (intro w; go_simp <;> with_reducible rfl)
                    try simp only [Act.put, List.setIfInBounds_toArray, List.set_cons_zero, List.set_cons_succ]
                    refine wpAny_done (by kernel_rfl) ?_ _
                    have HB7 := Lib.hid (HC5.out.trans (HC_1.out.mono HC5.out.size))
                    generalize hgl : (reduceS G).length = gl at *
                    have HIB2 : Hid (isoB P K n p x = decide (gl = p)) := Lib.hid HIB.out
                    by_cases hgp : gl = p
                    · have hgpb : ((gl : Int) == (p : Int)) = true := by simp [hgp]
                      have HF := Lib.hid (HF0x.out (by rw [HIB2.out]; simpa using hgp))
                      have HVC := Lib.hid (HVEC.out w6 HC_1.out)
                      clear hgp hgl
                      go_wp2_with fail
                      refine HVC.out.mono ?_
                      rintro e w8 ⟨A8, c8, R8, rfl, hRl, hRd, ho, hb⟩
                      have HR1 := Lib.hid hRl
                      have HR2 := Lib.hid hRd
                      have HO8 := Lib.hid (ho.mono (B' := w.heap.size) (Nat.le_trans h1w HB7.out.size))
                      have HB8 := Lib.hid (HB7.out.trans (hb.mono HB7.out.size))
                      clear hRl hRd ho hb
                      go_wp2_with fail
                      go_ret2
                      exact ⟨_, R8, by rw [HF.out]; rfl, by rw [HF.out, HR2.out, Hp.out], HO8.out, HB1.out.trans (HB8.out.mono HB1.out.size)⟩
                    · have hgpb : ((gl : Int) == (p : Int)) = false := by simp; omega
                      have HLO2 : Hid (∀ y, y < x + 1 → isoB P K n p y = false) := Lib.hid (fun y hy => by
                        by_cases e : y = x
                        · subst e; rw [HIB2.out]; simpa using hgp
                        · exact HLO.out y (by omega))
                      clear hgp hgl
                      go_wp2_with fail
                      go_roundw
                      case rel => exact ⟨x + 1, by omega, by go_num, HLO2, HB7.out⟩
                      case measure => simp [intOf]; omega
                  exact AllReady.nil
                refine AllReady.cons (o := ?oio1_23) ?ho1_23 (fun K hK => ?ko1_23) ?mo1_23
                case ho1_23 => (simp only [List.getElem?_toArray, List.getElem?_cons_succ, List.getElem?_cons_zero]; rfl)
                case ko1_23 =>
                  go_simp
                  refine hK _ _ ?_
                  clear hK K
                  try simp only [Act.put, List.setIfInBounds_toArray, List.set_cons_zero, List.set_cons_succ]
                  refine wpAny_ready (rs := [5]) (by kernel_rfl) (by simp) ?_
                  refine AllReady.cons (o := ?oio1_24) ?ho1_24 (fun K hK => ?ko1_24) ?mo1_24
                  case ho1_24 => (simp only [List.getElem?_toArray, List.getElem?_cons_succ, List.getElem?_cons_zero]; rfl)
                  case ko1_24 =>
                    go_simp
                    refine hK _ _ ?_
                    clear hK K
                    try simp only [Act.put, List.setIfInBounds_toArray, List.set_cons_zero, List.set_cons_succ]
                    refine wpAny_take (i := 9) (oi := ?oio1_25) (v := ?vo1_25) ?ho1_25 (by kernel_rfl) (by kernel_rfl) (by kernel_rfl) ?qo1_25 (Or.inl ⟨?wo1_25, ?yo1_25⟩) ?ro1_25
                    case ho1_25 => (simp only [List.getElem?_toArray, List.getElem?_cons_succ, List.getElem?_cons_zero]; rfl)
                    case qo1_25 => exact fun _ _ _ h => h
                    case wo1_25 => rfl
                    case yo1_25 => (intro w; go_simp <;> with_reducible rfl)
                    try simp only [Act.put, List.setIfInBounds_toArray, List.set_cons_zero, List.set_cons_succ]
                    refine wpAny_done (by kernel_rfl) ?_ _
                    have HB7 := Lib.hid (HC5.out.trans (HC_1.out.mono HC5.out.size))
                    generalize hgl : (reduceS G).length = gl at *
                    have HIB2 : Hid (isoB P K n p x = decide (gl = p)) := Lib.hid HIB.out
                    by_cases hgp : gl = p
                    · have hgpb : ((gl : Int) == (p : Int)) = true := by simp [hgp]
                      have HF := Lib.hid (HF0x.out (by rw [HIB2.out]; simpa using hgp))
                      have HVC := Lib.hid (HVEC.out w6 HC_1.out)
                      clear hgp hgl
                      go_wp2_with fail
                      refine HVC.out.mono ?_
                      rintro e w8 ⟨A8, c8, R8, rfl, hRl, hRd, ho, hb⟩
                      have HR1 := Lib.hid hRl
                      have HR2 := Lib.hid hRd
                      have HO8 := Lib.hid (ho.mono (B' := w.heap.size) (Nat.le_trans h1w HB7.out.size))
                      have HB8 := Lib.hid (HB7.out.trans (hb.mono HB7.out.size))
                      clear hRl hRd ho hb
                      go_wp2_with fail
                      go_ret2
                      exact ⟨_, R8, by rw [HF.out]; rfl, by rw [HF.out, HR2.out, Hp.out], HO8.out, HB1.out.trans (HB8.out.mono HB1.out.size)⟩
                    · have hgpb : ((gl : Int) == (p : Int)) = false := by simp; omega
                      have HLO2 : Hid (∀ y, y < x + 1 → isoB P K n p y = false) := Lib.hid (fun y hy => by
                        by_cases e : y = x
                        · subst e; rw [HIB2.out]; simpa using hgp
                        · exact HLO.out y (by omega))
                      clear hgp hgl
                      go_wp2_with fail
                      go_roundw
                      case rel => exact ⟨x + 1, by omega, by go_num, HLO2, HB7.out⟩
                      case measure => simp [intOf]; omega
                  exact AllReady.nil
                exact AllReady.nil
              refine AllReady.cons (o := ?oio1_26) ?ho1_26 (fun K hK => ?ko1_26) ?mo1_26
              case ho1_26 => (simp only [List.getElem?_toArray, List.getElem?_cons_succ, List.getElem?_cons_zero]; rfl)
              case ko1_26 =>
                go_simp
                refine hK _ _ ?_
                clear hK K
                try simp only [Act.put, List.setIfInBounds_toArray, List.set_cons_zero, List.set_cons_succ]
                refine wpAny_ready (rs := [4]) (by kernel_rfl) (by simp) ?_
                refine AllReady.cons (o := ?oio1_27) ?ho1_27 (fun K hK => ?ko1_27) ?mo1_27
                case ho1_27 => (simp only [List.getElem?_toArray, List.getElem?_cons_succ, List.getElem?_cons_zero]; rfl)
                case ko1_27 =>
                  go_simp
                  refine hK _ _ ?_
                  clear hK K
                  try simp only [Act.put, List.setIfInBounds_toArray, List.set_cons_zero, List.set_cons_succ]
                  refine wpAny_ready (rs := [5]) (by kernel_rfl) (by simp) ?_
                  refine AllReady.cons (o := ?oio1_28) ?ho1_28 (fun K hK => ?ko1_28) ?mo1_28
                  case ho1_28 => (simp only [List.getElem?_toArray, List.getElem?_cons_succ, List.getElem?_cons_zero]; rfl)
                  case ko1_28 =>
                    go_simp
                    refine hK _ _ ?_
                    clear hK K
                    try simp only [Act.put, List.setIfInBounds_toArray, List.set_cons_zero, List.set_cons_succ]
                    refine wpAny_take (i := 9) (oi := ?oio1_29) (v := ?vo1_29) ?ho1_29 (by kernel_rfl) (by kernel_rfl) (by kernel_rfl) ?qo1_29 (Or.inl ⟨?wo1_29, ?yo1_29⟩) ?ro1_29
                    case ho1_29 => (simp only [List.getElem?_toArray, List.getElem?_cons_succ, List.getElem?_cons_zero]; rfl)
                    case qo1_29 => exact fun _ _ _ h => h
                    case wo1_29 => rfl
                    case yo1_29 => (intro w; go_simp <;> with_reducible rfl)
                    try simp only [Act.put, List.setIfInBounds_toArray, List.set_cons_zero, List.set_cons_succ]
                    refine wpAny_done (by kernel_rfl) ?_ _
                    have HB7 := Lib.hid (HC5.out.trans (HC_1.out.mono HC5.out.size))
                    generalize hgl : (reduceS G).length = gl at *
                    have HIB2 : Hid (isoB P K n p x = decide (gl = p)) := Lib.hid HIB.out
                    by_cases hgp : gl = p
                    · have hgpb : ((gl : Int) == (p : Int)) = true := by simp [hgp]
                      have HF := Lib.hid (HF0x.out (by rw [HIB2.out]; simpa using hgp))
                      have HVC := Lib.hid (HVEC.out w6 HC_1.out)
                      clear hgp hgl
                      go_wp2_with fail
                      refine HVC.out.mono ?_
                      rintro e w8 ⟨A8, c8, R8, rfl, hRl, hRd, ho, hb⟩
                      have HR1 := Lib.hid hRl
                      have HR2 := Lib.hid hRd
                      have HO8 := Lib.hid (ho.mono (B' := w.heap.size) (Nat.le_trans h1w HB7.out.size))
                      have HB8 := Lib.hid (HB7.out.trans (hb.mono HB7.out.size))
                      clear hRl hRd ho hb
                      go_wp2_with fail
                      go_ret2
                      exact ⟨_, R8, by rw [HF.out]; rfl, by rw [HF.out, HR2.out, Hp.out], HO8.out, HB1.out.trans (HB8.out.mono HB1.out.size)⟩
                    · have hgpb : ((gl : Int) == (p : Int)) = false := by simp; omega
                      have HLO2 : Hid (∀ y, y < x + 1 → isoB P K n p y = false) := Lib.hid (fun y hy => by
                        by_cases e : y = x
                        · subst e; rw [HIB2.out]; simpa using hgp
                        · exact HLO.out y (by omega))
                      clear hgp hgl
                      go_wp2_with fail
                      go_roundw
                      case rel => exact ⟨x + 1, by omega, by go_num, HLO2, HB7.out⟩
                      case measure => simp [intOf]; omega
                  exact AllReady.nil
                exact AllReady.nil
              exact AllReady.nil
            exact AllReady.nil
          refine AllReady.cons (o := ?oio1_30) ?ho1_30 (fun K hK => ?ko1_30) ?mo1_30
          case ho1_30 => (simp only [List.getElem?_toArray, List.getElem?_cons_succ, List.getElem?_cons_zero]; rfl)
          case ko1_30 =>
            go_simp
            refine hK _ _ ?_
            clear hK K
            try simp only [Act.put, List.setIfInBounds_toArray, List.set_cons_zero, List.set_cons_succ]
            refine wpAny_ready (rs := [1, 8]) (by kernel_rfl) (by simp) ?_
            refine AllReady.cons (o := ?oio1_31) ?ho1_31 (fun K hK => ?ko1_31) ?mo1_31
            case ho1_31 => (simp only [List.getElem?_toArray, List.getElem?_cons_succ, List.getElem?_cons_zero]; rfl)
            case ko1_31 =>
              go_simp
              go_at_call 47; refine HSO.out.mono ?_; rintro e w6 ⟨rfl, ⟨v1, v2, hsp⟩, hb⟩; obtain ⟨A6, c6, rfl, _⟩ := owns_shape hsp.own1; obtain ⟨s0, s1, _, _, _⟩ := blk2cells hsp.blk; rw [HSL.out] at s0; have s0' : w6.cell? ⟨w5.heap.size, 0, none⟩ = some (.slice A6 (reduceS G).length c6) := s0; have HC_1 := Lib.hid (HC_0.out.trans (hb.mono HC_0.out.size)); have HK2e := Lib.hid (blk_kept HK2d.out hb); clear hb hsp y0 y1 yf0 yf1 ly; obtain ⟨y0, y1, yf0, yf1, ly⟩ := blk2cells HK2e.out
              refine hK _ _ ?_
              clear hK K
              try simp only [Act.put, List.setIfInBounds_toArray, List.set_cons_zero, List.set_cons_succ]
              refine wpAny_take (i := 2) (oi := ?oio1_32) (v := ?vo1_32) ?ho1_32 (by kernel_rfl) (by kernel_rfl) (by kernel_rfl) ?qo1_32 (Or.inl ⟨?wo1_32, ?yo1_32⟩) ?ro1_32
              case ho1_32 => (simp only [List.getElem?_toArray, List.getElem?_cons_succ, List.getElem?_cons_zero]; rfl)
              case qo1_32 => exact fun _ _ _ h => h
              case wo1_32 => rfl
              case yo1_32 => (intro w; go_simp <;> with_reducible rfl)
              try simp only [Act.put, List.setIfInBounds_toArray, List.set_cons_zero, List.set_cons_succ]
              refine wpAny_take (i := 3) (oi := ?oio1_33) (v := ?vo1_33) ?ho1_33 (by kernel_rfl) (by kernel_rfl) (by kernel_rfl) ?qo1_33 (Or.inl ⟨?wo1_33, ?yo1_33⟩) ?ro1_33
              case ho1_33 => (simp only [List.getElem?_toArray, List.getElem?_cons_succ, List.getElem?_cons_zero]; rfl)
              case qo1_33 => exact fun _ _ _ h => h
              case wo1_33 => rfl
              case yo1_33 => (intro w; go_simp <;> with_reducible rfl)
              try simp only [Act.put, List.setIfInBounds_toArray, List.set_cons_zero, List.set_cons_succ]
              refine wpAny_ready (rs := [4, 8]) (by kernel_rfl) (by simp) ?_
              refine AllReady.cons (o := ?oio1_34) ?ho1_34 (fun K hK => ?ko1_34) ?mo1_34
              case ho1_34 => (simp only [List.getElem?_toArray, List.getElem?_cons_succ, List.getElem?_cons_zero]; rfl)
              case ko1_34 =>
                go_simp
                refine hK _ _ ?_
                clear hK K
                try simp only [Act.put, List.setIfInBounds_toArray, List.set_cons_zero, List.set_cons_succ]
                refine wpAny_ready (rs := [5, 8]) (by kernel_rfl) (by simp) ?_
                refine AllReady.cons (o := ?oio1_35) ?ho1_35 (fun K hK => ?ko1_35) ?mo1_35
                case ho1_35 => (simp only [List.getElem?_toArray, List.getElem?_cons_succ, List.getElem?_cons_zero]; rfl)
                case ko1_35 =>
                  go_simp
                  refine hK _ _ ?_
                  clear hK K
                  try simp only [Act.put, List.setIfInBounds_toArray, List.set_cons_zero, List.set_cons_succ]
                  refine wpAny_ready (rs := [8]) (by kernel_rfl) (by simp) ?_
                  refine AllReady.cons (o := ?oio1_36) ?ho1_36 (fun K hK => ?ko1_36) ?mo1_36
                  case ho1_36 => (simp only [List.getElem?_toArray, List.getElem?_cons_succ, List.getElem?_cons_zero]; rfl)
                  case ko1_36 =>
                    go_simp
                    refine hK _ _ ?_
                    clear hK K
                    try simp only [Act.put, List.setIfInBounds_toArray, List.set_cons_zero, List.set_cons_succ]
                    refine wpAny_take (i := 9) (oi := ?oio1_37) (v := ?vo1_37) ?ho1_37 (by kernel_rfl) (by kernel_rfl) (by kernel_rfl) ?qo1_37 (Or.inl ⟨?wo1_37, ?yo1_37⟩) ?ro1_37
                    case ho1_37 => (simp only [List.getElem?_toArray, List.getElem?_cons_succ, List.getElem?_cons_zero]; rfl)
                    case qo1_37 => exact fun _ _ _ h => h
                    case wo1_37 => rfl
                    case yo1_37 => (intro w; go_simp <;> with_reducible rfl)
                    try simp only [Act.put, List.setIfInBounds_toArray, List.set_cons_zero, List.set_cons_succ]
                    refine wpAny_done (by kernel_rfl) ?_ _
                    have HB7 := Lib.hid (HC5.out.trans (HC_1.out.mono HC5.out.size))
                    generalize hgl : (reduceS G).length = gl at *
                    have HIB2 : Hid (isoB P K n p x = decide (gl = p)) := Lib.hid HIB.out
                    by_cases hgp : gl = p
                    · have hgpb : ((gl : Int) == (p : Int)) = true := by simp [hgp]
                      have HF := Lib.hid (HF0x.out (by rw [HIB2.out]; simpa using hgp))
                      have HVC := Lib.hid (HVEC.out w6 HC_1.out)
                      clear hgp hgl
                      go_wp2_with fail
                      refine HVC.out.mono ?_
                      rintro e w8 ⟨A8, c8, R8, rfl, hRl, hRd, ho, hb⟩
                      have HR1 := Lib.hid hRl
                      have HR2 := Lib.hid hRd
                      have HO8 := Lib.hid (ho.mono (B' := w.heap.size) (Nat.le_trans h1w HB7.out.size))
                      have HB8 := Lib.hid (HB7.out.trans (hb.mono HB7.out.size))
                      clear hRl hRd ho hb
                      go_wp2_with fail
                      go_ret2
                      exact ⟨_, R8, by rw [HF.out]; rfl, by rw [HF.out, HR2.out, Hp.out], HO8.out, HB1.out.trans (HB8.out.mono HB1.out.size)⟩
                    · have hgpb : ((gl : Int) == (p : Int)) = false := by simp; omega
                      have HLO2 : Hid (∀ y, y < x + 1 → isoB P K n p y = false) := Lib.hid (fun y hy => by
                        by_cases e : y = x
                        · subst e; rw [HIB2.out]; simpa using hgp
                        · exact HLO.out y (by omega))
                      clear hgp hgl
                      go_wp2_with fail
                      go_roundw
                      case rel => exact ⟨x + 1, by omega, by go_num, HLO2, HB7.out⟩
                      case measure => simp [intOf]; omega
                  exact AllReady.nil
                refine AllReady.cons (o := ?oio1_38) ?ho1_38 (fun K hK => ?ko1_38) ?mo1_38
                case ho1_38 => (simp only [List.getElem?_toArray, List.getElem?_cons_succ, List.getElem?_cons_zero]; rfl)
                case ko1_38 =>
                  go_simp
                  refine hK _ _ ?_
                  clear hK K
                  try simp only [Act.put, List.setIfInBounds_toArray, List.set_cons_zero, List.set_cons_succ]
                  refine wpAny_ready (rs := [5]) (by kernel_rfl) (by simp) ?_
                  refine AllReady.cons (o := ?oio1_39) ?ho1_39 (fun K hK => ?ko1_39) ?mo1_39
                  case ho1_39 => (simp only [List.getElem?_toArray, List.getElem?_cons_succ, List.getElem?_cons_zero]; rfl)
                  case ko1_39 =>
                    go_simp
                    refine hK _ _ ?_
                    clear hK K
                    try simp only [Act.put, List.setIfInBounds_toArray, List.set_cons_zero, List.set_cons_succ]
                    refine wpAny_take (i := 9) (oi := ?oio1_40) (v := ?vo1_40) ?ho1_40 (by kernel_rfl) (by kernel_rfl) (by kernel_rfl) ?qo1_40 (Or.inl ⟨?wo1_40, ?yo1_40⟩) ?ro1_40
                    case ho1_40 => (simp only [List.getElem?_toArray, List.getElem?_cons_succ, List.getElem?_cons_zero]; rfl)
                    case qo1_40 => exact fun _ _ _ h => h
                    case wo1_40 => rfl
                    case yo1_40 => (intro w; go_simp <;> with_reducible rfl)
                    try simp only [Act.put, List.setIfInBounds_toArray, List.set_cons_zero, List.set_cons_succ]
                    refine wpAny_done (by kernel_rfl) ?_ _
                    have HB7 := Lib.hid (HC5.out.trans (HC_1.out.mono HC5.out.size))
                    generalize hgl : (reduceS G).length = gl at *
                    have HIB2 : Hid (isoB P K n p x = decide (gl = p)) := Lib.hid HIB.out
                    by_cases hgp : gl = p
                    · have hgpb : ((gl : Int) == (p : Int)) = true := by simp [hgp]
                      have HF := Lib.hid (HF0x.out (by rw [HIB2.out]; simpa using hgp))
                      have HVC := Lib.hid (HVEC.out w6 HC_1.out)
                      clear hgp hgl
                      go_wp2_with fail
                      refine HVC.out.mono ?_
                      rintro e w8 ⟨A8, c8, R8, rfl, hRl, hRd, ho, hb⟩
                      have HR1 := Lib.hid hRl
                      have HR2 := Lib.hid hRd
                      have HO8 := Lib.hid (ho.mono (B' := w.heap.size) (Nat.le_trans h1w HB7.out.size))
                      have HB8 := Lib.hid (HB7.out.trans (hb.mono HB7.out.size))
                      clear hRl hRd ho hb
                      go_wp2_with fail
                      go_ret2
                      exact ⟨_, R8, by rw [HF.out]; rfl, by rw [HF.out, HR2.out, Hp.out], HO8.out, HB1.out.trans (HB8.out.mono HB1.out.size)⟩
                    · have hgpb : ((gl : Int) == (p : Int)) = false := by simp; omega
                      have HLO2 : Hid (∀ y, y < x + 1 → isoB P K n p y = false) := Lib.hid (fun y hy => by
                        by_cases e : y = x
                        · subst e; rw [HIB2.out]; simpa using hgp
                        · exact HLO.out y (by omega))
                      clear hgp hgl
                      go_wp2_with fail
                      go_roundw
                      case rel => exact ⟨x + 1, by omega, by go_num, HLO2, HB7.out⟩
                      case measure => simp [intOf]; omega
                  exact AllReady.nil
                exact AllReady.nil
              refine AllReady.cons (o := ?oio1_41) ?ho1_41 (fun K hK => ?ko1_41) ?mo1_41
              case ho1_41 => (simp only [List.getElem?_toArray, List.getElem?_cons_succ, List.getElem?_cons_zero]; rfl)
              case ko1_41 =>
                go_simp
                refine hK _ _ ?_
                clear hK K
                try simp only [Act.put, List.setIfInBounds_toArray, List.set_cons_zero, List.set_cons_succ]
                refine wpAny_ready (rs := [4]) (by kernel_rfl) (by simp) ?_
                refine AllReady.cons (o := ?oio1_42) ?ho1_42 (fun K hK => ?ko1_42) ?mo1_42
                case ho1_42 => (simp only [List.getElem?_toArray, List.getElem?_cons_succ, List.getElem?_cons_zero]; rfl)
                case ko1_42 =>
                  go_simp
                  refine hK _ _ ?_
                  clear hK K
                  try simp only [Act.put, List.setIfInBounds_toArray, List.set_cons_zero, List.set_cons_succ]
                  refine wpAny_ready (rs := [5]) (by kernel_rfl) (by simp) ?_
                  refine AllReady.cons (o := ?oio1_43) ?ho1_43 (fun K hK => ?ko1_43) ?mo1_43
                  case ho1_43 => (simp only [List.getElem?_toArray, List.getElem?_cons_succ, List.getElem?_cons_zero]; rfl)
                  case ko1_43 =>
                    go_simp
                    refine hK _ _ ?_
                    clear hK K
                    try simp only [Act.put, List.setIfInBounds_toArray, List.set_cons_zero, List.set_cons_succ]
                    refine wpAny_take (i := 9) (oi := ?oio1_44) (v := ?vo1_44) ?ho1_44 (by kernel_rfl) (by kernel_rfl) (by kernel_rfl) ?qo1_44 (Or.inl ⟨?wo1_44, ?yo1_44⟩) ?ro1_44
                    case ho1_44 => (simp only [List.getElem?_toArray, List.getElem?_cons_succ, List.getElem?_cons_zero]; rfl)
                    case qo1_44 => exact fun _ _ _ h => h
                    case wo1_44 => rfl
                    case yo1_44 => (intro w; go_simp <;> with_reducible rfl)
                    try simp only [Act.put, List.setIfInBounds_toArray, List.set_cons_zero, List.set_cons_succ]
                    refine wpAny_done (by kernel_rfl) ?_ _
                    have HB7 := Lib.hid (HC5.out.trans (HC_1.out.mono HC5.out.size))
                    generalize hgl : (reduceS G).length = gl at *
                    have HIB2 : Hid (isoB P K n p x = decide (gl = p)) := Lib.hid HIB.out
                    by_cases hgp : gl = p
                    · have hgpb : ((gl : Int) == (p : Int)) = true := by simp [hgp]
                      have HF := Lib.hid (HF0x.out (by rw [HIB2.out]; simpa using hgp))
                      have HVC := Lib.hid (HVEC.out w6 HC_1.out)
                      clear hgp hgl
                      go_wp2_with fail
                      refine HVC.out.mono ?_
                      rintro e w8 ⟨A8, c8, R8, rfl, hRl, hRd, ho, hb⟩
                      have HR1 := Lib.hid hRl
                      have HR2 := Lib.hid hRd
                      have HO8 := Lib.hid (ho.mono (B' := w.heap.size) (Nat.le_trans h1w HB7.out.size))
                      have HB8 := Lib.hid (HB7.out.trans (hb.mono HB7.out.size))
                      clear hRl hRd ho hb
                      go_wp2_with fail
                      go_ret2
                      exact ⟨_, R8, by rw [HF.out]; rfl, by rw [HF.out, HR2.out, Hp.out], HO8.out, HB1.out.trans (HB8.out.mono HB1.out.size)⟩
                    · have hgpb : ((gl : Int) == (p : Int)) = false := by simp; omega
                      have HLO2 : Hid (∀ y, y < x + 1 → isoB P K n p y = false) := Lib.hid (fun y hy => by
                        by_cases e : y = x
                        · subst e; rw [HIB2.out]; simpa using hgp
                        · exact HLO.out y (by omega))
                      clear hgp hgl
                      go_wp2_with fail
                      go_roundw
                      case rel => exact ⟨x + 1, by omega, by go_num, HLO2, HB7.out⟩
                      case measure => simp [intOf]; omega
                  exact AllReady.nil
                exact AllReady.nil
              exact AllReady.nil
            refine AllReady.cons (o := ?oio1_45) ?ho1_45 (fun K hK => ?ko1_45) ?mo1_45
            case ho1_45 => (simp only [List.getElem?_toArray, List.getElem?_cons_succ, List.getElem?_cons_zero]; rfl)
            case ko1_45 =>
              go_simp
              refine hK _ _ ?_
              clear hK K
              try simp only [Act.put, List.setIfInBounds_toArray, List.set_cons_zero, List.set_cons_succ]
              refine wpAny_ready (rs := [1]) (by kernel_rfl) (by simp) ?_
              refine AllReady.cons (o := ?oio1_46) ?ho1_46 (fun K hK => ?ko1_46) ?mo1_46
              case ho1_46 => (simp only [List.getElem?_toArray, List.getElem?_cons_succ, List.getElem?_cons_zero]; rfl)
              case ko1_46 =>
                go_simp
                go_at_call 47; refine HSO.out.mono ?_; rintro e w6 ⟨rfl, ⟨v1, v2, hsp⟩, hb⟩; obtain ⟨A6, c6, rfl, _⟩ := owns_shape hsp.own1; obtain ⟨s0, s1, _, _, _⟩ := blk2cells hsp.blk; rw [HSL.out] at s0; have s0' : w6.cell? ⟨w5.heap.size, 0, none⟩ = some (.slice A6 (reduceS G).length c6) := s0; have HC_1 := Lib.hid (HC_0.out.trans (hb.mono HC_0.out.size)); have HK2e := Lib.hid (blk_kept HK2d.out hb); clear hb hsp y0 y1 yf0 yf1 ly; obtain ⟨y0, y1, yf0, yf1, ly⟩ := blk2cells HK2e.out
                refine hK _ _ ?_
                clear hK K
                try simp only [Act.put, List.setIfInBounds_toArray, List.set_cons_zero, List.set_cons_succ]
                refine wpAny_take (i := 2) (oi := ?oio1_47) (v := ?vo1_47) ?ho1_47 (by kernel_rfl) (by kernel_rfl) (by kernel_rfl) ?qo1_47 (Or.inl ⟨?wo1_47, ?yo1_47⟩) ?ro1_47
                case ho1_47 => (simp only [List.getElem?_toArray, List.getElem?_cons_succ, List.getElem?_cons_zero]; rfl)
                case qo1_47 => exact fun _ _ _ h => h
                case wo1_47 => rfl
                case yo1_47 => (intro w; go_simp <;> with_reducible rfl)
                try simp only [Act.put, List.setIfInBounds_toArray, List.set_cons_zero, List.set_cons_succ]
                refine wpAny_take (i := 3) (oi := ?oio1_48) (v := ?vo1_48) ?ho1_48 (by kernel_rfl) (by kernel_rfl) (by kernel_rfl) ?qo1_48 (Or.inl ⟨?wo1_48, ?yo1_48⟩) ?ro1_48
                case ho1_48 => (simp only [List.getElem?_toArray, List.getElem?_cons_succ, List.getElem?_cons_zero]; rfl)
                case qo1_48 => exact fun _ _ _ h => h
                case wo1_48 => rfl
                case yo1_48 => (intro w; go_simp <;> with_reducible rfl)
                try simp only [Act.put, List.setIfInBounds_toArray, List.set_cons_zero, List.set_cons_succ]
                refine wpAny_ready (rs := [4]) (by kernel_rfl) (by simp) ?_
                refine AllReady.cons (o := ?oio1_49) ?ho1_49 (fun K hK => ?ko1_49) ?mo1_49
                case ho1_49 => (simp only [List.getElem?_toArray, List.getElem?_cons_succ, List.getElem?_cons_zero]; rfl)
                case ko1_49 =>
                  go_simp
                  refine hK _ _ ?_
                  clear hK K
                  try simp only [Act.put, List.setIfInBounds_toArray, List.set_cons_zero, List.set_cons_succ]
                  refine wpAny_ready (rs := [5]) (by kernel_rfl) (by simp) ?_
                  refine AllReady.cons (o := ?oio1_50) ?ho1_50 (fun K hK => ?ko1_50) ?mo1_50
                  case ho1_50 => (simp only [List.getElem?_toArray, List.getElem?_cons_succ, List.getElem?_cons_zero]; rfl)
                  case ko1_50 =>
                    go_simp
                    refine hK _ _ ?_
                    clear hK K
                    try simp only [Act.put, List.setIfInBounds_toArray, List.set_cons_zero, List.set_cons_succ]
                    refine wpAny_take (i := 9) (oi := ?oio1_51) (v := ?vo1_51) ?ho1_51 (by kernel_rfl) (by kernel_rfl) (by kernel_rfl) ?qo1_51 (Or.inl ⟨?wo1_51, ?yo1_51⟩) ?ro1_51
                    case ho1_51 => (simp only [List.getElem?_toArray, List.getElem?_cons_succ, List.getElem?_cons_zero]; rfl)
                    case qo1_51 => exact fun _ _ _ h => h
                    case wo1_51 => rfl
                    case yo1_51 => (intro w; go_simp <;> with_reducible rfl)
                    try simp only [Act.put, List.setIfInBounds_toArray, List.set_cons_zero, List.set_cons_succ]
                    refine wpAny_done (by kernel_rfl) ?_ _
                    have HB7 := Lib.hid (HC5.out.trans (HC_1.out.mono HC5.out.size))
                    generalize hgl : (reduceS G).length = gl at *
                    have HIB2 : Hid (isoB P K n p x = decide (gl = p)) := Lib.hid HIB.out
                    by_cases hgp : gl = p
                    · have hgpb : ((gl : Int) == (p : Int)) = true := by simp [hgp]
                      have HF := Lib.hid (HF0x.out (by rw [HIB2.out]; simpa using hgp))
                      have HVC := Lib.hid (HVEC.out w6 HC_1.out)
                      clear hgp hgl
                      go_wp2_with fail
                      refine HVC.out.mono ?_
                      rintro e w8 ⟨A8, c8, R8, rfl, hRl, hRd, ho, hb⟩
                      have HR1 := Lib.hid hRl
                      have HR2 := Lib.hid hRd
                      have HO8 := Lib.hid (ho.mono (B' := w.heap.size) (Nat.le_trans h1w HB7.out.size))
                      have HB8 := Lib.hid (HB7.out.trans (hb.mono HB7.out.size))
                      clear hRl hRd ho hb
                      go_wp2_with fail
                      go_ret2
                      exact ⟨_, R8, by rw [HF.out]; rfl, by rw [HF.out, HR2.out, Hp.out], HO8.out, HB1.out.trans (HB8.out.mono HB1.out.size)⟩
                    · have hgpb : ((gl : Int) == (p : Int)) = false := by simp; omega
                      have HLO2 : Hid (∀ y, y < x + 1 → isoB P K n p y = false) := Lib.hid (fun y hy => by
                        by_cases e : y = x
                        · subst e; rw [HIB2.out]; simpa using hgp
                        · exact HLO.out y (by omega))
                      clear hgp hgl
                      go_wp2_with fail
                      go_roundw
                      case rel => exact ⟨x + 1, by omega, by go_num, HLO2, HB7.out⟩
                      case measure => simp [intOf]; omega
                  exact AllReady.nil
                exact AllReady.nil
              exact AllReady.nil
            exact AllReady.nil
          exact AllReady.nil
        · obtain rfl : x = 2 ^ K.length := by omega
          have HF := Lib.hid (HF5.out HLO.out)
          have hxi : ¬ (((2 ^ K.length : Nat) : Int) < (2 : Int) ^ K.length) := by rw [hpk]; omega
          clear hbel
          go_wp2_with fail
          go_ret2
          exact ⟨.slice none 0 0, [], by rw [HF.out]; rfl, by rw [HF.out]; rfl, OwnR.nil _ _, HBW.out⟩
    · have hnpb : ((n : Int) != (p : Int)) = true := by simp; omega
      have HF := Lib.hid (HF4.out hk12 hnp)
      obtain ⟨x0, x1, xf0, xf1, lx⟩ := blk2cells HK1'.out
      obtain ⟨y0, y1, yf0, yf1, ly⟩ := blk2cells HK2'.out
      clear hnp
      go_wp2_with fail
      go_ret2
      exact ⟨.slice none 0 0, [], by rw [HF.out]; rfl, by rw [HF.out]; rfl, OwnR.nil _ _, HB1.out⟩
  · have hk12i : 12 < (K.length : Int) := by omega
    have HF := Lib.hid (HF3.out hk12)
    clear hk12
    go_wp2_with fail
    go_ret2
    exact ⟨.slice none 0 0, [], by rw [HF.out]; rfl, by rw [HF.out]; rfl, OwnR.nil _ _, HB1.out⟩

theorem specIsomorphismOf_any (A0 : Option Addr) (n0 c0 : Nat) (xs0 : List Int) (B0 : Option Addr) (m0 d0 : Nat) (L0 : List Row) (A1 : Option Addr) (n1 c1 : Nat) (xs1 : List Int) (B1 : Option Addr) (m1 d1 : Nat) (L1 : List Row) (w : World) (hn0 : n0 = xs0.length) (hs0 : n0 ≤ 1048576) (hR0 : Rd w A0 (iv xs0)) (hm0 : m0 = L0.length) (ht0 : m0 ≤ 1048576) (hl0 : ∀ i, i < L0.length → (rg L0 i).xs.length ≤ 1048576) (hQ0 : RdR w B0 L0) (hn1 : n1 = xs1.length) (hs1 : n1 ≤ 1048576) (hR1 : Rd w A1 (iv xs1)) (hm1 : m1 = L1.length) (ht1 : m1 ≤ 1048576) (hl1 : ∀ i, i < L1.length → (rg L1 i).xs.length ≤ 1048576) (hQ1 : RdR w B1 L1) :
    Calls Tryz.prog 11 #[.agg #[.slice A0 n0 c0, .slice B0 m0 d0], .agg #[.slice A1 n1 c1, .slice B1 m1 d1]] w (ResR (isomorphismOfOf xs0 L0 xs1 L1) w) :=
  specIsomorphismOf' A0 B0 A1 B1 n0 c0 m0 d0 n1 c1 m1 d1 xs0 xs1 L0 L1 w ⟨⟨hn0, hR0, hm0, ht0, hQ0⟩, hs0, hl0⟩ ⟨⟨hn1, hR1, hm1, ht1, hQ1⟩, hs1, hl1⟩
theorem implIsomorphismOf_any (A0 : Option Addr) (n0 c0 : Nat) (xs0 : List Int) (B0 : Option Addr) (m0 d0 : Nat) (L0 : List Row) (A1 : Option Addr) (n1 c1 : Nat) (xs1 : List Int) (B1 : Option Addr) (m1 d1 : Nat) (L1 : List Row) (w : World) (hT : Tab w) (hw : 0 < w.heap.size) (hn0 : n0 = xs0.length) (hs0 : n0 ≤ 1048576) (hR0 : Rd w A0 (iv xs0)) (hm0 : m0 = L0.length) (ht0 : m0 ≤ 1048576) (hl0 : ∀ i, i < L0.length → (rg L0 i).xs.length ≤ 1048576) (hQ0 : RdR w B0 L0) (hn1 : n1 = xs1.length) (hs1 : n1 ≤ 1048576) (hR1 : Rd w A1 (iv xs1)) (hm1 : m1 = L1.length) (ht1 : m1 ≤ 1048576) (hl1 : ∀ i, i < L1.length → (rg L1 i).xs.length ≤ 1048576) (hQ1 : RdR w B1 L1) :
    Calls Tryz.prog 13 #[.agg #[.slice A0 n0 c0, .slice B0 m0 d0], .agg #[.slice A1 n1 c1, .slice B1 m1 d1]] w (ResR (isomorphismOfOf xs0 L0 xs1 L1) w) :=
  implIsomorphismOf' A0 B0 A1 B1 n0 c0 m0 d0 n1 c1 m1 d1 xs0 xs1 L0 L1 w hT hw ⟨⟨hn0, hR0, hm0, ht0, hQ0⟩, hs0, hl0⟩ ⟨⟨hn1, hR1, hm1, ht1, hQ1⟩, hs1, hl1⟩
end Go.Proofs.YtpchigdhnnkpcaaGreatDoor
