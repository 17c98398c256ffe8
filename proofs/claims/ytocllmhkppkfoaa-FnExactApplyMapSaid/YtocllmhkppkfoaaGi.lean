/- impl's mapped, IsModuleMap, ApplyMap, ComposeMaps -/
import Derived.Test.YtocllmhkppkfoaaGh
import Derived.Test.YtocllmhkppkfoaaGf
namespace Go.Proofs.Ytocllmhkppkfoaa
open Go.RowKit

/-- the masks of a map, or the code -/
def MappedP (cd : Int) (P : List Row) (w : World) (e : Ending) (w' : World) : Prop :=
  ((cd = 0 ∧ ∃ g cap, e = .returned (.tuple #[.slice (some ⟨g, 0, none⟩) P.length cap, .int .i64 0]) ∧ w'.ownsRow w.heap.size 2 1 (.slice (some ⟨g, 0, none⟩) P.length cap) P.length (nv ((dat P).map mk))) ∨
   (cd ≠ 0 ∧ e = .returned (.tuple #[.slice none 0 0, .int .i64 cd]))) ∧ Below w.heap.size w w'
theorem mapC_novec {xs : List Int} {Q : List (List Int)} {ys : List Int} {R : List (List Int)} {P : List Row} (h1 : modB xs Q = true) (h2 : modB ys R = true) (h : (P.all fun r => vecB ys.length r.xs) = false) : mapC xs Q ys R (dat P) = 2 :=
  mapC_2 h1 h2 (mapB_no fun hm => by rw [all_rg (mapP_vec hm)] at h; cases h)
theorem all_rg_iff {P : List Row} {f : Row → Bool} (h : P.all f = true) : ∀ i, i < P.length → f (rg P i) = true := fun i hi => List.all_eq_true.1 h _ (rg_mem hi)

set_option maxHeartbeats 4000000 in
theorem mapped_any (A A' B B' W : Option Addr) (n c m c' p d q d' k cw : Nat) (xs ys : List Int) (L M P : List Row) (w : World) (hM : ModIn w A n A' m xs L) (hN : ModIn w B p B' q ys M) (hP : RowsIn w W k P) :
    Calls Try.prog 52 #[.agg #[.slice A n c, .slice A' m c'], .agg #[.slice B p d, .slice B' q d'], .slice W k cw] w (MappedP (mapC xs (dat L) ys (dat M) (dat P)) P w) := by
  obtain ⟨hb0, hk1, hk2⟩ := box_two w A A' B B' n c m c' p d q d'
  have HB0 := Lib.hid hb0
  have HK1 := Lib.hid hk1
  have HK2 := Lib.hid hk2
  have HIM := Lib.hid (hM.isM c c')
  have HIN := Lib.hid (hN.isM d d')
  have HM := Lib.hid hM
  have HN := Lib.hid hN
  have HP := Lib.hid hP
  clear hb0 hk1 hk2 hM hN hP
  obtain ⟨x0, x1, xf0, xf1, lx⟩ := blk2cells HK1.out
  go_enter Try.func52, Try.ntmps52
  go_wp2_with fail
  refine (HIM.out _ HB0.out).mono ?_
  rintro e w1 ⟨rfl, hb⟩
  have HB1 := Lib.hid (HB0.out.trans (hb.mono HB0.out.size))
  have HK1a := Lib.hid (blk_kept HK1.out hb)
  have HK2a := Lib.hid (blk_kept HK2.out hb)
  clear hb x0 x1 xf0 xf1 lx
  cases h1 : modB xs (dat L)
  · have HR : Hid (mapC xs (dat L) ys (dat M) (dat P) = 1) := Lib.hid (mapC_1 (by rw [h1]; rfl))
    clear h1
    go_wp2_with fail
    go_ret2
    exact ⟨.inr ⟨by rw [HR.out]; omega, by rw [HR.out]; rfl⟩, HB1.out⟩
  obtain ⟨y0, y1, yf0, yf1, ly⟩ := blk2cells HK2a.out
  go_wp2_with fail
  refine (HIN.out _ HB1.out).mono ?_
  rintro e w2 ⟨rfl, hb⟩
  have HB2 := Lib.hid (HB1.out.trans (hb.mono HB1.out.size))
  have HK1b := Lib.hid (blk_kept HK1a.out hb)
  have HK2b := Lib.hid (blk_kept HK2a.out hb)
  clear hb y0 y1 yf0 yf1 ly
  cases h2 : modB ys (dat M)
  · have HR : Hid (mapC xs (dat L) ys (dat M) (dat P) = 1) := Lib.hid (mapC_1 (by rw [h1, h2]; rfl))
    clear h2 h1
    go_wp2_with fail
    go_ret2
    exact ⟨.inr ⟨by rw [HR.out]; omega, by rw [HR.out]; rfl⟩, HB2.out⟩
  have s1 := (modB_iff.1 h1).shp
  have s2 := (modB_iff.1 h2).shp
  have hp16 : p ≤ 16 := by rw [HN.out.r.hn]; exact s2.len
  have HMK := Lib.hid (masksOf_any B B' W p d q d' k cw P w2 (by omega) HP.out.hk HP.out.hk1 HP.out.hl (HP.out.rd.below HB2.out))
  have HIS := Lib.hid (fun (X : Option Addr) (cx : Nat) W' (hb : Below w.heap.size w W') hv hX => isMap_any A A' B B' X n c m c' p d q d' P.length cx xs ys L M P W' (HM.out.r.below hb) s1 (HN.out.r.below hb) s2 rfl (by rw [← HP.out.hk]; exact HP.out.hk1) hv hX)
  have H1 := Lib.hid h1
  have H2 := Lib.hid h2
  clear h1 h2 s1 s2
  obtain ⟨y0, y1, yf0, yf1, ly⟩ := blk2cells HK2b.out
  go_wp2_with fail
  refine HMK.out.mono ?_
  rintro e w3 ⟨hor, hb⟩
  have HB3 := Lib.hid (HB2.out.trans (hb.mono HB2.out.size))
  have HK1c := Lib.hid (blk_kept HK1b.out hb)
  have HK2c := Lib.hid (blk_kept HK2b.out hb)
  have hsz2 := HB2.out.size
  clear hb y0 y1 yf0 yf1 ly
  rcases hor with ⟨hall, g, cap, rfl, ho⟩ | ⟨hall, rfl⟩
  · have HO := Lib.hid ho
    have HISP := HIS.out (some ⟨g, 0, none⟩) cap w3 HB3.out (all_rg_iff hall) (owns_Rd ho)
    clear ho hall
    obtain ⟨x0, x1, xf0, xf1, lx⟩ := blk2cells HK1c.out
    obtain ⟨y0, y1, yf0, yf1, ly⟩ := blk2cells HK2c.out
    cases hm : mapB xs (dat L) ys (dat M) (dat P)
    · have HR : Hid (mapC xs (dat L) ys (dat M) (dat P) = 2) := Lib.hid (mapC_2 H1.out H2.out hm)
      rw [hm] at HISP
      have HC := Lib.hid HISP
      clear HISP hm
      go_wp2_with (go_at_call 82; refine HC.out.mono ?_; rintro e w4 ⟨rfl, hb⟩; have HB4 := Lib.hid (HB3.out.trans (hb.mono HB3.out.size)); clear hb)
      go_ret2
      exact ⟨.inr ⟨by rw [HR.out]; omega, by rw [HR.out]; rfl⟩, HB4.out⟩
    · have HR : Hid (mapC xs (dat L) ys (dat M) (dat P) = 0) := Lib.hid (mapC_0 H1.out H2.out hm)
      rw [hm] at HISP
      have HC := Lib.hid HISP
      clear HISP hm
      go_wp2_with (go_at_call 82; refine HC.out.mono ?_; rintro e w4 ⟨rfl, hb⟩; have HB4 := Lib.hid (HB3.out.trans (hb.mono HB3.out.size)); have HO4 := Lib.hid (owns_keeps HO.out (Keeps.of_below hb) (.inr (by simp))); clear hb)
      go_ret2
      exact ⟨.inl ⟨HR.out, g, cap, rfl, HO4.out.mono hsz2⟩, HB4.out⟩
  · have HR : Hid (mapC xs (dat L) ys (dat M) (dat P) = 2) := Lib.hid (mapC_novec H1.out H2.out (by rw [← HN.out.r.hn]; exact hall))
    clear hall
    go_wp2_with fail
    go_ret2
    exact ⟨.inr ⟨by rw [HR.out]; omega, by rw [HR.out]; rfl⟩, HB3.out⟩

set_option maxHeartbeats 2000000 in
theorem implIsModuleMap' (A A' B B' W : Option Addr) (n c m c' p d q d' k cw : Nat) (xs ys : List Int) (L M P : List Row) (w : World) (hM : ModIn w A n A' m xs L) (hN : ModIn w B p B' q ys M) (hP : RowsIn w W k P) :
    Calls Try.prog 30 #[.agg #[.slice A n c, .slice A' m c'], .agg #[.slice B p d, .slice B' q d'], .slice W k cw] w (ResB (isModuleMapOf xs L ys M P) w) := by
  obtain ⟨hb0, hk1, hk2⟩ := box_two w A A' B B' n c m c' p d q d'
  have HB0 := Lib.hid hb0
  have HTW := Lib.hid (mapped_any A A' B B' W n c m c' p d q d' k cw xs ys L M P _ (hM.below hb0) (hN.below hb0) (hP.below hb0))
  obtain ⟨x0, x1, xf0, xf1, lx⟩ := blk2cells hk1
  obtain ⟨y0, y1, yf0, yf1, ly⟩ := blk2cells hk2
  clear hb0 hk1 hk2 hM hN hP
  go_enter Try.func30, Try.ntmps30
  go_wp2_with fail
  refine HTW.out.mono ?_
  rintro e w1 ⟨hor, hb⟩
  have HB1 := Lib.hid (HB0.out.trans (hb.mono HB0.out.size))
  clear hb
  rcases hor with ⟨hcd, g, cap, rfl, ho⟩ | ⟨hcd, rfl⟩
  · have HF : Hid (isModuleMapOf xs L ys M P = (true, 0)) := Lib.hid (by unfold isModuleMapOf; rw [if_neg (by omega), hcd]; rfl)
    clear ho hcd
    go_wp2_with fail
    go_ret2
    exact ⟨by rw [HF.out]; rfl, HB1.out⟩
  · rcases mapC_cases xs (dat L) ys (dat M) (dat P) with h | h | ⟨h, _⟩
    · have HF : Hid (isModuleMapOf xs L ys M P = (false, 1)) := Lib.hid (by unfold isModuleMapOf; rw [if_pos h])
      rw [h]
      clear hcd h
      go_wp2_with fail
      go_ret2
      exact ⟨by rw [HF.out]; rfl, HB1.out⟩
    · have HF : Hid (isModuleMapOf xs L ys M P = (false, 0)) := Lib.hid (by unfold isModuleMapOf; rw [if_neg (by omega), h]; rfl)
      rw [h]
      clear hcd h
      go_wp2_with fail
      go_ret2
      exact ⟨by rw [HF.out]; rfl, HB1.out⟩
    · exact absurd h hcd
set_option maxRecDepth 100000 in
set_option maxHeartbeats 4000000 in
theorem implApplyMap' (A A' B B' W V : Option Addr) (n c m c' p d q d' k cw l cv : Nat) (xs ys : List Int) (L M P : List Row) (v : List Int) (w : World) (hM : ModIn w A n A' m xs L) (hN : ModIn w B p B' q ys M) (hP : RowsIn w W k P) (hl : l = v.length) (hl1 : l ≤ 1048576) (hV : Rd w V (iv v)) :
    Calls Try.prog 32 #[.agg #[.slice A n c, .slice A' m c'], .agg #[.slice B p d, .slice B' q d'], .slice W k cw, .slice V l cv] w (ResS (applyMapOf xs L ys M P v) w) := by
  obtain ⟨hb0, hk1, hk2⟩ := box_two w A A' B B' n c m c' p d q d'
  have HB0 := Lib.hid hb0
  have HK1 := Lib.hid hk1
  have HK2 := Lib.hid hk2
  have HTW := Lib.hid (mapped_any A A' B B' W n c m c' p d q d' k cw xs ys L M P _ (hM.below hb0) (hN.below hb0) (hP.below hb0))
  obtain ⟨x0, x1, xf0, xf1, lx⟩ := blk2cells hk1
  obtain ⟨y0, y1, yf0, yf1, ly⟩ := blk2cells hk2
  have HP := Lib.hid hP
  have HV := Lib.hid hV
  have Hl := Lib.hid hl
  have Hn := Lib.hid hM.r.hn
  have Hp := Lib.hid hN.r.hn
  clear hb0 hk1 hk2 hM hN hP hV hl
  go_enter Try.func32, Try.ntmps32
  go_wp2_with fail
  refine HTW.out.mono ?_
  rintro e w1 ⟨hor, hb⟩
  have HB1 := Lib.hid (HB0.out.trans (hb.mono HB0.out.size))
  have HK1a := Lib.hid (blk_kept HK1.out hb)
  have HK2a := Lib.hid (blk_kept HK2.out hb)
  clear hb x0 x1 xf0 xf1 lx y0 y1 yf0 yf1 ly
  rcases hor with ⟨hcd, gm, capm, rfl, hom⟩ | ⟨hcd, rfl⟩
  · have HOM := Lib.hid hom
    obtain ⟨h1, h2, h3⟩ : modB xs (dat L) = true ∧ modB ys (dat M) = true ∧ MapP xs (dat L) ys (dat M) (dat P) := by
      rcases mapC_cases xs (dat L) ys (dat M) (dat P) with h | h | ⟨_, h1, h2, h3⟩
      · omega
      · omega
      · exact ⟨h1, h2, h3⟩
    have HVE := Lib.hid (isVector_any A A' V n c m c' l cv v w1 Hl.out (by omega) (HV.out.below HB1.out))
    have H16 : n ≤ 16 := by rw [Hn.out]; exact (modB_iff.1 h1).shp.len
    have Hp16 : p ≤ 16 := by rw [Hp.out]; exact (modB_iff.1 h2).shp.len
    obtain ⟨x0, x1, xf0, xf1, lx⟩ := blk2cells HK1a.out
    cases hv : vecB n v
    · rw [hv] at HVE
      have HF := Lib.hid (applyMapOf_2 (M := M) hcd (by rw [← Hn.out]; exact hv))
      clear hcd h1 h2 h3 hv hom
      go_wp2_with (go_at_call 59; refine HVE.out.mono ?_; rintro e w2 ⟨rfl, hb⟩; have HB2 := Lib.hid (HB1.out.trans (hb.mono HB1.out.size)); clear hb)
      go_ret2
      exact ⟨.slice none 0 0, by rw [HF.out]; rfl, by rw [HF.out]; exact World.ownsRow_nil _ _ _ _, HB2.out⟩
    · rw [hv] at HVE
      obtain ⟨e1, e2, e3⟩ := vec_row hv
      have HF := Lib.hid (applyMapOf_yes (M := M) hcd (by rw [← Hn.out]; exact hv))
      have hln : l = n := by rw [Hl.out, e1]
      have HLEN : Hid (P.length = ((dat P).map mk).length) := Lib.hid (by rw [List.length_map, dat_length])
      have HLT : Hid (∀ r ∈ (dat P).map mk, r < 2 ^ p) := Lib.hid (by rw [Hp.out]; exact mapP_lt h3)
      have hk64 : P.length ≤ 64 := by rw [mapP_len h3, ← Hn.out]; omega
      have HCL : Hid (comb ((dat P).map mk) 0 (mk v) < 2 ^ p) := Lib.hid (comb_lt HLT.out _ _)
      have HSV : Hid (Sm (mk v)) := Lib.hid (sm16 H16 e3)
      have HVV : Hid (Rd w V (iv (bitsL (mk v) n))) := Lib.hid (by rw [← e2]; exact HV.out)
      have HVM := Lib.hid (fun W' (hb : Below w.heap.size w W') => maskOf_any V n cv (mk v) W' (by omega) e3 (HVV.out.below hb))
      have HSMS : Hid (∀ r ∈ (dat P).map mk, Sm r) := Lib.hid (sm_mks Hp16 HLT.out)
      subst hln
      clear hcd h1 h2 h3 hv e1 e2 e3 hom
      go_wp2_with fail
      refine HVE.out.mono ?_
      rintro e w2 ⟨rfl, hb⟩
      have HB2 := Lib.hid (HB1.out.trans (hb.mono HB1.out.size))
      have HK2b := Lib.hid (blk_kept HK2a.out hb)
      have HRM := Lib.hid ((owns_Rd HOM.out).below hb)
      clear hb x0 x1 xf0 xf1 lx
      have KS := Lib.hid (fun w' (hb : Below w2.heap.size w2 w') => show w'.cell? ⟨w.heap.size + 1, 0, none⟩ = some (.slice B p d) ∧ w'.cell? ⟨w.heap.size + 1, 1, none⟩ = some (.slice B' q d') from ⟨(blk2cells (blk_kept HK2b.out hb)).1, (blk2cells (blk_kept HK2b.out hb)).2.1⟩)
      have HB_0 := Lib.hid (Below.drew (Below.refl w2.heap.size w2))
      have HT_0 := Lib.hid (HB2.out.trans (HB_0.out.mono HB2.out.size))
      go_wp2_with fail
      go_region_held3 (fun w' => w'.cell? ⟨w.heap.size + 1, 0, none⟩ = some (.slice B p d) ∧ w'.cell? ⟨w.heap.size + 1, 1, none⟩ = some (.slice B' q d'))
        (first | exact KS.out _ HB_0.out | exact KS.out _ HB_1.out)
        (first
          | (go_at_call 62; (with_reducible refine (HVM.out _ HT_0.out).mono ?_); (rintro e w4 ⟨rfl, rfl⟩))
          | (go_at_call 61; (with_reducible refine (times_any _ _ _ ((dat P).map mk) (mk v) _ HLEN.out hk64 HSV.out HSMS.out (HRM.out.below HB_0.out)).mono ?_); (rintro e w5 ⟨rfl, rfl⟩))
          | (go_at_call 60; (with_reducible refine (vectorOf_any B B' p d q d' (comb ((dat P).map mk) 0 (mk v)) _ (by omega) (sm16 Hp16 HCL.out)).mono ?_); (rintro e w6 ⟨g6, c6, rfl, ho, hb⟩; have HO6 := Lib.hid (ho.mono HT_0.out.size); have HB_1 := Lib.hid (HB_0.out.trans (hb.mono HB_0.out.size)); have HT_1 := Lib.hid (HB2.out.trans (HB_1.out.mono HB2.out.size)); clear ho hb)))
      go_wp2_with fail
      go_ret2
      exact ⟨_, by rw [HF.out]; rfl, by rw [HF.out]; simp only [bitsL_length]; rw [← Hp.out]; exact HO6.out, HT_1.out⟩
  · have HF := Lib.hid (applyMapOf_no (v := v) hcd)
    have hnb : (mapC xs (dat L) ys (dat M) (dat P) != 0) = true := by simpa using hcd
    generalize mapC xs (dat L) ys (dat M) (dat P) = cd at *
    clear hcd
    go_wp2_with fail
    go_ret2
    exact ⟨.slice none 0 0, by rw [HF.out]; rfl, by rw [HF.out]; exact World.ownsRow_nil _ _ _ _, HB1.out⟩
set_option maxRecDepth 100000 in
set_option maxHeartbeats 8000000 in
theorem implComposeMaps' (A A' B B' C C' V W : Option Addr) (n c m c' p d q d' r e s e' k cv l cw : Nat) (xs ys zs : List Int) (L M N F G : List Row) (w : World) (hM : ModIn w A n A' m xs L) (hN : ModIn w B p B' q ys M) (hO : ModIn w C r C' s zs N) (hF : RowsIn w V k F) (hG : RowsIn w W l G) :
    Calls Try.prog 35 #[.agg #[.slice A n c, .slice A' m c'], .agg #[.slice B p d, .slice B' q d'], .agg #[.slice C r e, .slice C' s e'], .slice V k cv, .slice W l cw] w (ResR (composeMapsOf xs L ys M zs N F G) w) := by
  obtain ⟨hb0, hk1, hk2⟩ := box_two w A A' B B' n c m c' p d q d'
  have hk1' := blk_alloc hk1 (.cells #[.slice C r e, .slice C' s e'] 45)
  have hk2' := blk_alloc hk2 (.cells #[.slice C r e, .slice C' s e'] 45)
  have hk3 := blk_new2 w (.cells #[.slice A n c, .slice A' m c'] 45) (.cells #[.slice B p d, .slice B' q d'] 45) (.cells #[.slice C r e, .slice C' s e'] 45)
  have hb0' := hb0.alloc (by simp; omega) (.cells #[.slice C r e, .slice C' s e'] 45)
  have HB0 := Lib.hid hb0'
  have HK1 := Lib.hid hk1'
  have HK2 := Lib.hid hk2'
  have HK3 := Lib.hid hk3
  have HIM := Lib.hid (hM.isM c c')
  have HIN := Lib.hid (hN.isM d d')
  have HIO := Lib.hid (hO.isM e e')
  have HM := Lib.hid hM
  have HN := Lib.hid hN
  have HO := Lib.hid hO
  have HF := Lib.hid hF
  have HG := Lib.hid hG
  clear hb0 hk1 hk2 hk1' hk2' hk3 hb0' hM hN hO hF hG
  obtain ⟨x0, x1, xf0, xf1, lx⟩ := blk2cells HK1.out
  go_enter Try.func35, Try.ntmps35
  go_wp2_with fail
  refine (HIM.out _ HB0.out).mono ?_
  rintro e w1 ⟨rfl, hb⟩
  have HB1 := Lib.hid (HB0.out.trans (hb.mono HB0.out.size))
  have HK1a := Lib.hid (blk_kept HK1.out hb)
  have HK2a := Lib.hid (blk_kept HK2.out hb)
  have HK3a := Lib.hid (blk_kept HK3.out hb)
  clear hb x0 x1 xf0 xf1 lx
  cases h1 : modB xs (dat L)
  · have HR : Hid (composeMapsOf xs L ys M zs N F G = ([], 1)) := Lib.hid (composeMapsOf_1 (by rw [h1]; simp))
    clear h1
    go_wp2_with fail
    go_ret2
    exact ⟨.slice none 0 0, [], by rw [HR.out]; rfl, by rw [HR.out]; rfl, OwnR.nil _ _, HB1.out⟩
  obtain ⟨y0, y1, yf0, yf1, ly⟩ := blk2cells HK2a.out
  go_wp2_with fail
  refine (HIN.out _ HB1.out).mono ?_
  rintro e w2 ⟨rfl, hb⟩
  have HB2 := Lib.hid (HB1.out.trans (hb.mono HB1.out.size))
  have HK1b := Lib.hid (blk_kept HK1a.out hb)
  have HK2b := Lib.hid (blk_kept HK2a.out hb)
  have HK3b := Lib.hid (blk_kept HK3a.out hb)
  clear hb y0 y1 yf0 yf1 ly
  cases h2 : modB ys (dat M)
  · have HR : Hid (composeMapsOf xs L ys M zs N F G = ([], 1)) := Lib.hid (composeMapsOf_1 (by rw [h2]; simp))
    clear h2
    go_wp2_with fail
    go_ret2
    exact ⟨.slice none 0 0, [], by rw [HR.out]; rfl, by rw [HR.out]; rfl, OwnR.nil _ _, HB2.out⟩
  obtain ⟨z0, z1, zf0, zf1, lz⟩ := blk2cells HK3b.out
  go_wp2_with fail
  refine (HIO.out _ HB2.out).mono ?_
  rintro e w3 ⟨rfl, hb⟩
  have HB3 := Lib.hid (HB2.out.trans (hb.mono HB2.out.size))
  have HK1c := Lib.hid (blk_kept HK1b.out hb)
  have HK2c := Lib.hid (blk_kept HK2b.out hb)
  have HK3c := Lib.hid (blk_kept HK3b.out hb)
  clear hb z0 z1 zf0 zf1 lz
  cases h3 : modB zs (dat N)
  · have HR : Hid (composeMapsOf xs L ys M zs N F G = ([], 1)) := Lib.hid (composeMapsOf_1 (by rw [h3]; simp))
    clear h3
    go_wp2_with fail
    go_ret2
    exact ⟨.slice none 0 0, [], by rw [HR.out]; rfl, by rw [HR.out]; rfl, OwnR.nil _ _, HB3.out⟩
  have HMOD : Hid (modB xs (dat L) = true ∧ modB ys (dat M) = true ∧ modB zs (dat N) = true) := Lib.hid ⟨h1, h2, h3⟩
  have HI1 := Lib.hid (mapped_any A A' B B' V n c m c' p d q d' k cv xs ys L M F w3 (HM.out.below HB3.out) (HN.out.below HB3.out) (HF.out.below HB3.out))
  have HI2 := Lib.hid (fun W' (hb : Below w.heap.size w W') => mapped_any B B' C C' W p d q d' r e s e' l cw ys zs M N G W' (HN.out.below hb) (HO.out.below hb) (HG.out.below hb))
  have hp16 : p ≤ 16 := by rw [HN.out.r.hn]; exact (modB_iff.1 h2).shp.len
  have hr16 : r ≤ 16 := by rw [HO.out.r.hn]; exact (modB_iff.1 h3).shp.len
  have hxs16 : xs.length ≤ 16 := (modB_iff.1 h1).shp.len
  clear h1 h2 h3
  have HNO1 : Hid (mapC xs (dat L) ys (dat M) (dat F) ≠ 0 → mapC xs (dat L) ys (dat M) (dat F) = 2 ∧ composeMapsOf xs L ys M zs N F G = ([], 2)) := Lib.hid (fun h => by
    cases hm : mapB xs (dat L) ys (dat M) (dat F)
    · exact ⟨mapC_2 HMOD.out.1 HMOD.out.2.1 hm, composeMapsOf_2 HMOD.out (by rw [hm]; simp)⟩
    · exact absurd (mapC_0 HMOD.out.1 HMOD.out.2.1 hm) h)
  have HNO2 : Hid (mapC ys (dat M) zs (dat N) (dat G) ≠ 0 → mapC ys (dat M) zs (dat N) (dat G) = 2 ∧ composeMapsOf xs L ys M zs N F G = ([], 2)) := Lib.hid (fun h => by
    cases hm : mapB ys (dat M) zs (dat N) (dat G)
    · exact ⟨mapC_2 HMOD.out.2.1 HMOD.out.2.2 hm, composeMapsOf_2 HMOD.out (by rw [hm]; simp)⟩
    · exact absurd (mapC_0 HMOD.out.2.1 HMOD.out.2.2 hm) h)
  have HYES : Hid (mapC xs (dat L) ys (dat M) (dat F) = 0 → MapP xs (dat L) ys (dat M) (dat F)) := Lib.hid (fun h => by
    rcases mapC_cases xs (dat L) ys (dat M) (dat F) with h' | h' | ⟨_, _, _, h3⟩
    · omega
    · omega
    · exact h3)
  have HYES2 : Hid (mapC ys (dat M) zs (dat N) (dat G) = 0 → MapP ys (dat M) zs (dat N) (dat G)) := Lib.hid (fun h => by
    rcases mapC_cases ys (dat M) zs (dat N) (dat G) with h' | h' | ⟨_, _, _, h3⟩
    · omega
    · omega
    · exact h3)
  obtain ⟨x0, x1, xf0, xf1, lx⟩ := blk2cells HK1c.out
  obtain ⟨y0, y1, yf0, yf1, ly⟩ := blk2cells HK2c.out
  go_wp2_with fail
  refine HI1.out.mono ?_
  rintro e w4 ⟨hor, hb⟩
  have HB4 := Lib.hid (HB3.out.trans (hb.mono HB3.out.size))
  have HK2d := Lib.hid (blk_kept HK2c.out hb)
  have HK3d := Lib.hid (blk_kept HK3c.out hb)
  clear hb x0 x1 xf0 xf1 lx y0 y1 yf0 yf1 ly
  rcases hor with ⟨hcd, g6, c6, rfl, hom⟩ | ⟨hcd, rfl⟩
  case inr =>
    obtain ⟨h2, hr⟩ := HNO1.out hcd
    have HR := Lib.hid hr
    rw [h2]
    clear hcd h2 hr
    go_wp2_with fail
    go_ret2
    exact ⟨.slice none 0 0, [], by rw [HR.out]; rfl, by rw [HR.out]; rfl, OwnR.nil _ _, HB4.out⟩
  have HP1 := Lib.hid (HYES.out hcd)
  have HRF := Lib.hid (owns_Rd hom)
  clear hom hcd
  obtain ⟨y0, y1, yf0, yf1, ly⟩ := blk2cells HK2d.out
  obtain ⟨z0, z1, zf0, zf1, lz⟩ := blk2cells HK3d.out
  go_wp2_with fail
  refine (HI2.out _ HB4.out).mono ?_
  rintro e w7 ⟨hor, hb⟩
  have HB7 := Lib.hid (HB4.out.trans (hb.mono HB4.out.size))
  have HK3e := Lib.hid (blk_kept HK3d.out hb)
  have HRF7 := Lib.hid (HRF.out.below hb)
  clear hb y0 y1 yf0 yf1 ly z0 z1 zf0 zf1 lz
  rcases hor with ⟨hcd, g7, c7, rfl, hom⟩ | ⟨hcd, rfl⟩
  case inr =>
    obtain ⟨h2, hr⟩ := HNO2.out hcd
    have HR := Lib.hid hr
    rw [h2]
    clear hcd h2 hr
    go_wp2_with fail
    go_ret2
    exact ⟨.slice none 0 0, [], by rw [HR.out]; rfl, by rw [HR.out]; rfl, OwnR.nil _ _, HB7.out⟩
  have HP2 := Lib.hid (HYES2.out hcd)
  have HRG := Lib.hid (owns_Rd hom)
  clear hom hcd
  have HR := Lib.hid (composeMapsOf_0 HMOD.out ⟨mapB_iff.2 HP1.out, mapB_iff.2 HP2.out⟩)
  have hk16 : F.length ≤ 16 := by rw [mapP_len HP1.out]; exact hxs16
  have hl16 : G.length ≤ 16 := by have h := mapP_len HP2.out; have h2 := HN.out.r.hn; omega
  have HLF : Hid (F.length = ((dat F).map mk).length) := Lib.hid (by rw [List.length_map, dat_length])
  have HLG : Hid (G.length = ((dat G).map mk).length) := Lib.hid (by rw [List.length_map, dat_length])
  have HLTF : Hid (∀ r ∈ (dat F).map mk, Sm r) := Lib.hid (sm_mks (n := ys.length) (by rw [← HN.out.r.hn]; exact hp16) (mapP_lt HP1.out))
  have HLTG : Hid (∀ x ∈ (dat G).map mk, x < 2 ^ r) := Lib.hid (by rw [HO.out.r.hn]; exact mapP_lt HP2.out)
  have HLTG2 : Hid (∀ r ∈ (dat G).map mk, Sm r) := Lib.hid (sm_mks hr16 HLTG.out)
  have HZ := Lib.hid HO.out.r.hn
  generalize (dat F).map mk = SF at *
  generalize (dat G).map mk = SG at *
  generalize hkk : F.length = kk at *
  generalize hll : G.length = ll at *
  clear hkk hll
  have hsz := HB7.out.size
  go_wp2_with fail
  go_loopw [15, 54] (fun vv i wr => ∃ j g cap : Nat, j ≤ kk ∧ i = .int .i64 j ∧ vv = .slice (some ⟨g, 0, none⟩) j cap ∧ wr.ownsRow w7.heap.size 2 1 (.slice (some ⟨g, 0, none⟩) j cap) j (nv ((SF.map (comb SG 0)).take j)) ∧ Below w7.heap.size w7 wr) (fun _ i _ => kk - (intOf i).toNat)
  case atStart => exact ⟨0, w7.heap.size, 0, by omega, rfl, rfl, World.ownsRow_made w7 #[] 0 (Nat.le_refl _) (by decide) (by simp), (Below.refl _ _).alloc (Nat.le_refl _) _⟩
  case round =>
    obtain ⟨j, g, cap, hj, rfl, rfl, hown, hbel⟩ := hrel
    have HOW := Lib.hid hown
    have HBL := Lib.hid hbel
    have hsz2 := hbel.size
    by_cases hlt : j < kk
    · have hjF : j < SF.length := by rw [← HLF.out]; exact hlt
      obtain ⟨b, o, rfl2, hc⟩ := (HRF7.out.below hbel).atN hjF
      injection rfl2 with rfl2
      injection rfl2 with e1 e2 _
      subst e1
      subst e2
      rw [Nat.zero_add] at hc
      have hs := HLTF.out (SF.getD j 0) (by simp [List.getD, hjF])
      have HTS : Hid ((SF.map (comb SG 0)).take (j + 1) = (SF.map (comb SG 0)).take j ++ [comb SG 0 (SF.getD j 0)]) := Lib.hid (by
        rw [List.take_succ_eq_append_getElem (by rw [List.length_map]; exact hjF), List.getElem_map]; simp [List.getD, hjF])
      generalize SF.getD j 0 = x at *
      have HC := Lib.hid (times_any (some ⟨g7, 0, none⟩) ll c7 SG x wr HLG.out (by omega) hs HLTG2.out (HRG.out.below hbel))
      clear hown hbel hs hjF
      go_wp2_with fail
      refine HC.out.mono ?_
      rintro e w' ⟨rfl, rfl⟩
      go_wp2_with (at_builtin; refine wpList_app1 _ _ _ _ _ etI (by rfl) (by rfl) w7.heap.size (.slice (some ⟨g, 0, none⟩) j cap) j (nv ((SF.map (comb SG 0)).take j)) (by rfl) (HOW.out.alloc _) _ (.int .i64 (comb SG 0 x : Nat)) (by rfl) (new_cell _ _ _) (by rfl) (by omega) (Nat.le_trans hsz2 (Nat.le_of_lt (by simp))) ?_; (intro g1 cap1 w8 hown1 hgrow1 hat1 hlt1; have HO1 := Lib.hid hown1; have HB8 := Lib.hid (below_app2 HBL.out hsz2 HOW.out hgrow1); clear hown1 hgrow1 hat1 hlt1))
      go_roundw
      case rel => exact ⟨j + 1, g1, cap1, by omega, by go_num, rfl, by rw [HTS.out, nv_append]; exact HO1.out, HB8.out⟩
      case measure => simp [intOf]; omega
    · obtain rfl : j = kk := by omega
      have he : (SF.map (comb SG 0)).take j = SF.map (comb SG 0) := List.take_of_length_le (by rw [List.length_map, ← HLF.out]; exact Nat.le_refl _)
      rw [he] at HOW
      have HVC := Lib.hid (vectorsOf_any C C' (some ⟨g, 0, none⟩) r e s e' j cap (SF.map (comb SG 0)) wr (by rw [List.length_map]; exact HLF.out) (by omega) (by omega) (fun y hy => by
        obtain ⟨x, _, rfl⟩ := List.mem_map.1 hy
        exact comb_sm _ _ _ HLTG2.out) (owns_Rd HOW.out))
      have HK3h := Lib.hid (blk_kept HK3e.out hbel)
      have HB8 := Lib.hid (HB7.out.trans (hbel.mono hsz))
      clear hown hbel he
      obtain ⟨z0, z1, zf0, zf1, lz⟩ := blk2cells HK3h.out
      go_wp2_with fail
      refine HVC.out.mono ?_
      rintro e w9 ⟨A9, c9, R9, rfl, hl9, hd9, ho9, hb9⟩
      have HL9 := Lib.hid hl9
      have HD9 := Lib.hid hd9
      have HO9 := Lib.hid (ho9.mono (Nat.le_trans hsz hsz2))
      have HB9 := Lib.hid (HB8.out.trans (hb9.mono HB8.out.size))
      clear hl9 hd9 ho9 hb9 z0 z1 zf0 zf1 lz
      go_wp2_with fail
      go_ret2
      exact ⟨_, R9, by rw [HR.out]; rfl, by rw [HR.out, HD9.out, ← HZ.out], HO9.out, HB9.out⟩
end Go.Proofs.Ytocllmhkppkfoaa
