/- the reference's ApplyMap, ComposeMaps -/
import Derived.Test.YtocllmhkppkfoaaGe
namespace Go.Proofs.Ytocllmhkppkfoaa
open Go.RowKit

theorem sm_mks {P : List (List Int)} {n : Nat} (hn : n ≤ 16) (h : ∀ r ∈ P.map mk, r < 2 ^ n) : ∀ r ∈ P.map mk, Sm r := fun r hr => sm16 hn (h r hr)
set_option maxRecDepth 100000 in
set_option maxHeartbeats 4000000 in
theorem specApplyMap' (A A' B B' W V : Option Addr) (n c m c' p d q d' k cw l cv : Nat) (xs ys : List Int) (L M P : List Row) (v : List Int) (w : World) (hM : ModIn w A n A' m xs L) (hN : ModIn w B p B' q ys M) (hP : RowsIn w W k P) (hl : l = v.length) (hl1 : l ≤ 1048576) (hV : Rd w V (iv v)) :
    Calls Try.prog 31 #[.agg #[.slice A n c, .slice A' m c'], .agg #[.slice B p d, .slice B' q d'], .slice W k cw, .slice V l cv] w (ResS (applyMapOf xs L ys M P v) w) := by
  obtain ⟨hb0, hk1, hk2⟩ := box_two w A A' B B' n c m c' p d q d'
  have HB0 := Lib.hid hb0
  have HK1 := Lib.hid hk1
  have HK2 := Lib.hid hk2
  have HTW := Lib.hid (l12Code_any A A' B B' W n c m c' p d q d' k cw xs ys L M P _ (hM.below hb0) (hN.below hb0) (hP.below hb0))
  obtain ⟨x0, x1, xf0, xf1, lx⟩ := blk2cells hk1
  obtain ⟨y0, y1, yf0, yf1, ly⟩ := blk2cells hk2
  have HM := Lib.hid hM
  have HN := Lib.hid hN
  have HP := Lib.hid hP
  have HV := Lib.hid hV
  have Hl := Lib.hid hl
  have Hn := Lib.hid hM.r.hn
  have Hp := Lib.hid hN.r.hn
  clear hb0 hk1 hk2 hM hN hP hV hl
  go_enter Try.func31, Try.ntmps31
  go_wp2_with fail
  refine HTW.out.mono ?_
  rintro e w1 ⟨rfl, hb⟩
  have HB1 := Lib.hid (HB0.out.trans (hb.mono HB0.out.size))
  have HK1a := Lib.hid (blk_kept HK1.out hb)
  have HK2a := Lib.hid (blk_kept HK2.out hb)
  clear hb x0 x1 xf0 xf1 lx y0 y1 yf0 yf1 ly
  obtain ⟨x0, x1, xf0, xf1, lx⟩ := blk2cells HK1a.out
  obtain ⟨y0, y1, yf0, yf1, ly⟩ := blk2cells HK2a.out
  rcases mapC_cases xs (dat L) ys (dat M) (dat P) with h | h | ⟨h, h1, h2, h3⟩
  · have HF := Lib.hid (applyMapOf_no (v := v) (by omega : mapC xs (dat L) ys (dat M) (dat P) ≠ 0))
    rw [h] at HF ⊢
    clear h
    go_wp2_with fail
    go_ret2
    exact ⟨.slice none 0 0, by rw [HF.out]; rfl, by rw [HF.out]; exact World.ownsRow_nil _ _ _ _, HB1.out⟩
  · have HF := Lib.hid (applyMapOf_no (v := v) (by omega : mapC xs (dat L) ys (dat M) (dat P) ≠ 0))
    rw [h] at HF ⊢
    clear h
    go_wp2_with fail
    go_ret2
    exact ⟨.slice none 0 0, by rw [HF.out]; rfl, by rw [HF.out]; exact World.ownsRow_nil _ _ _ _, HB1.out⟩
  · have HVE := Lib.hid (l11Vector_any A A' V n c m c' l cv v w1 Hl.out (by omega) (HV.out.below HB1.out))
    have H16 : n ≤ 16 := by rw [Hn.out]; exact (modB_iff.1 h1).shp.len
    have Hp16 : p ≤ 16 := by rw [Hp.out]; exact (modB_iff.1 h2).shp.len
    cases hv : vecB n v
    · rw [hv] at HVE
      have HF := Lib.hid (applyMapOf_2 h (by rw [← Hn.out]; exact hv))
      rw [h]
      clear h h1 h2 h3 hv
      go_wp2_with (go_at_call 54; refine HVE.out.mono ?_; rintro e w2 ⟨rfl, hb⟩; have HB2 := Lib.hid (HB1.out.trans (hb.mono HB1.out.size)); clear hb)
      go_ret2
      exact ⟨.slice none 0 0, by rw [HF.out]; rfl, by rw [HF.out]; exact World.ownsRow_nil _ _ _ _, HB2.out⟩
    · rw [hv] at HVE
      obtain ⟨e1, e2, e3⟩ := vec_row hv
      have HF := Lib.hid (applyMapOf_yes h (by rw [← Hn.out]; exact hv))
      have HMS := Lib.hid (fun W' (hb : Below w.heap.size w W') => l12Masks_any p W k cw P W' HP.out.hk HP.out.hk1 (by omega) (by rw [Hp.out]; exact mapP_vec h3) (HP.out.rd.below hb))
      have HVV : Hid (Rd w V (iv (bitsL (mk v) n))) := Lib.hid (by rw [← e2]; exact HV.out)
      have hln : l = n := by rw [Hl.out, e1]
      have HLEN : Hid (k = ((dat P).map mk).length) := Lib.hid (by rw [List.length_map, dat_length, ← HP.out.hk])
      have HLT : Hid (∀ r ∈ (dat P).map mk, r < 2 ^ p) := Lib.hid (by rw [Hp.out]; exact mapP_lt h3)
      have hk64 : k ≤ 64 := by rw [HP.out.hk, mapP_len h3, ← Hn.out]; omega
      have HCL : Hid (comb ((dat P).map mk) 0 (mk v) < 2 ^ p) := Lib.hid (comb_lt HLT.out _ _)
      have HSV : Hid (Sm (mk v)) := Lib.hid (sm16 H16 e3)
      have HVM := Lib.hid (fun W' (hb : Below w.heap.size w W') => l12Mask_any V n cv (mk v) W' (by omega) e3 (HVV.out.below hb))
      have HSMS : Hid (∀ r ∈ (dat P).map mk, Sm r) := Lib.hid (sm_mks Hp16 HLT.out)
      rw [h]
      subst hln
      clear h h1 h2 h3 hv e1 e2 e3
      go_wp2_with fail
      refine HVE.out.mono ?_
      rintro e w2 ⟨rfl, hb⟩
      have HB2 := Lib.hid (HB1.out.trans (hb.mono HB1.out.size))
      have HK2b := Lib.hid (blk_kept HK2a.out hb)
      clear hb x0 x1 xf0 xf1 lx y0 y1 yf0 yf1 ly
      have KS := Lib.hid (fun w' (hb : Below w2.heap.size w2 w') => show w'.cell? ⟨w.heap.size + 1, 0, none⟩ = some (.slice B p d) from (blk2cells (blk_kept HK2b.out hb)).1)
      have HB_0 := Lib.hid (Below.drew (Below.refl w2.heap.size w2))
      have HT_0 := Lib.hid (HB2.out.trans (HB_0.out.mono HB2.out.size))
      go_wp2_with fail
      go_region_held3 (fun w' => w'.cell? ⟨w.heap.size + 1, 0, none⟩ = some (.slice B p d))
        (first | exact KS.out _ HB_0.out | exact KS.out _ HB_1.out | exact KS.out _ HB_2.out)
        (first
          | (go_at_call 57; (with_reducible refine (HMS.out _ HT_0.out).mono ?_); (rintro e w3 ⟨g3, c3, rfl, ho, hb⟩; have HO3 := Lib.hid ho; have HB_1 := Lib.hid (HB_0.out.trans (hb.mono HB_0.out.size)); have HT_1 := Lib.hid (HB2.out.trans (HB_1.out.mono HB2.out.size)); clear ho hb))
          | (go_at_call 58; (with_reducible refine (HVM.out _ HT_1.out).mono ?_); (rintro e w4 ⟨rfl, rfl⟩))
          | (go_at_call 56; (with_reducible refine (l12Image_any _ _ _ ((dat P).map mk) (mk v) _ HLEN.out hk64 HSV.out HSMS.out (owns_Rd HO3.out)).mono ?_); (rintro e w5 ⟨rfl, rfl⟩))
          | (go_at_call 55; (with_reducible refine (l12Vector_any p (comb ((dat P).map mk) 0 (mk v)) _ (by omega) (sm16 Hp16 HCL.out)).mono ?_); (rintro e w6 ⟨g6, c6, rfl, ho, hb⟩; have HO6 := Lib.hid (ho.mono HT_1.out.size); have HB_2 := Lib.hid (HB_1.out.trans (hb.mono HB_1.out.size)); have HT_2 := Lib.hid (HB2.out.trans (HB_2.out.mono HB2.out.size)); clear ho hb)))
      go_wp2_with fail
      go_ret2
      exact ⟨_, by rw [HF.out]; rfl, by rw [HF.out]; simp only [bitsL_length]; rw [← Hp.out]; exact HO6.out, HT_2.out⟩
noncomputable def composeMapsOf (xs : List Int) (L : List Row) (ys : List Int) (M : List Row) (zs : List Int) (N F G : List Row) : List (List Int) × Int :=
  if modB xs (dat L) = true ∧ modB ys (dat M) = true ∧ modB zs (dat N) = true then
    (if mapB xs (dat L) ys (dat M) (dat F) = true ∧ mapB ys (dat M) zs (dat N) (dat G) = true then ((((dat F).map mk).map (comb ((dat G).map mk) 0)).map (fun v => bitsL v zs.length), 0) else ([], 2))
  else ([], 1)
theorem composeMapsOf_dat {xs : List Int} {L L' : List Row} {ys : List Int} {M M' : List Row} {zs : List Int} {N N' F F' G G' : List Row} (h1 : dat L' = dat L) (h2 : dat M' = dat M) (h3 : dat N' = dat N) (h4 : dat F' = dat F) (h5 : dat G' = dat G) : composeMapsOf xs L' ys M' zs N' F' G' = composeMapsOf xs L ys M zs N F G := by
  unfold composeMapsOf; rw [h1, h2, h3, h4, h5]
section
variable {xs : List Int} {L : List Row} {ys : List Int} {M : List Row} {zs : List Int} {N F G : List Row}
theorem composeMapsOf_1 (h : ¬ (modB xs (dat L) = true ∧ modB ys (dat M) = true ∧ modB zs (dat N) = true)) : composeMapsOf xs L ys M zs N F G = ([], 1) := by unfold composeMapsOf; rw [if_neg h]
theorem composeMapsOf_2 (h : modB xs (dat L) = true ∧ modB ys (dat M) = true ∧ modB zs (dat N) = true) (h2 : ¬ (mapB xs (dat L) ys (dat M) (dat F) = true ∧ mapB ys (dat M) zs (dat N) (dat G) = true)) : composeMapsOf xs L ys M zs N F G = ([], 2) := by unfold composeMapsOf; rw [if_pos h, if_neg h2]
theorem composeMapsOf_0 (h : modB xs (dat L) = true ∧ modB ys (dat M) = true ∧ modB zs (dat N) = true) (h2 : mapB xs (dat L) ys (dat M) (dat F) = true ∧ mapB ys (dat M) zs (dat N) (dat G) = true) : composeMapsOf xs L ys M zs N F G = ((((dat F).map mk).map (comb ((dat G).map mk) 0)).map (fun v => bitsL v zs.length), 0) := by unfold composeMapsOf; rw [if_pos h, if_pos h2]
end
theorem composeMapsOf_len (xs : List Int) (L : List Row) (ys : List Int) (M : List Row) (zs : List Int) (N F G : List Row) : (composeMapsOf xs L ys M zs N F G).1.length ≤ 1000 ∧ ∀ x ∈ (composeMapsOf xs L ys M zs N F G).1, x.length ≤ 1000 := by
  by_cases h : modB xs (dat L) = true ∧ modB ys (dat M) = true ∧ modB zs (dat N) = true
  · by_cases h2 : mapB xs (dat L) ys (dat M) (dat F) = true ∧ mapB ys (dat M) zs (dat N) (dat G) = true
    · rw [composeMapsOf_0 h h2]
      constructor
      · simp only [List.length_map, dat_length]
        have h3 := mapP_len (mapB_iff.1 h2.1)
        have := (modB_iff.1 h.1).shp.len
        omega
      · intro x hx
        obtain ⟨v, _, rfl⟩ := List.mem_map.1 hx
        rw [bitsL_length]; have := (modB_iff.1 h.2.2).shp.len; omega
    · rw [composeMapsOf_2 h h2]; simp
  · rw [composeMapsOf_1 h]; simp

set_option maxRecDepth 100000 in
set_option maxHeartbeats 8000000 in
theorem specComposeMaps' (A A' B B' C C' V W : Option Addr) (n c m c' p d q d' r e s e' k cv l cw : Nat) (xs ys zs : List Int) (L M N F G : List Row) (w : World) (hM : ModIn w A n A' m xs L) (hN : ModIn w B p B' q ys M) (hO : ModIn w C r C' s zs N) (hF : RowsIn w V k F) (hG : RowsIn w W l G) :
    Calls Try.prog 34 #[.agg #[.slice A n c, .slice A' m c'], .agg #[.slice B p d, .slice B' q d'], .agg #[.slice C r e, .slice C' s e'], .slice V k cv, .slice W l cw] w (ResR (composeMapsOf xs L ys M zs N F G) w) := by
  obtain ⟨hb0, hk1, hk2⟩ := box_two w A A' B B' n c m c' p d q d'
  have hk1' := blk_alloc hk1 (.cells #[.slice C r e, .slice C' s e'] 45)
  have hk2' := blk_alloc hk2 (.cells #[.slice C r e, .slice C' s e'] 45)
  have hk3 := blk_new2 w (.cells #[.slice A n c, .slice A' m c'] 45) (.cells #[.slice B p d, .slice B' q d'] 45) (.cells #[.slice C r e, .slice C' s e'] 45)
  have hb0' := hb0.alloc (by simp; omega) (.cells #[.slice C r e, .slice C' s e'] 45)
  have HB0 := Lib.hid hb0'
  have HK1 := Lib.hid hk1'
  have HK2 := Lib.hid hk2'
  have HK3 := Lib.hid hk3
  have HIM := Lib.hid (hM.is c c')
  have HIN := Lib.hid (hN.is d d')
  have HIO := Lib.hid (hO.is e e')
  have HM := Lib.hid hM
  have HN := Lib.hid hN
  have HO := Lib.hid hO
  have HF := Lib.hid hF
  have HG := Lib.hid hG
  clear hb0 hk1 hk2 hk1' hk2' hk3 hb0' hM hN hO hF hG
  obtain ⟨x0, x1, xf0, xf1, lx⟩ := blk2cells HK1.out
  go_enter Try.func34, Try.ntmps34
  go_wp2_with fail
  refine (HIM.out _ HB0.out).mono ?_
  rintro e w1 ⟨rfl, hb⟩
  have HB1 := Lib.hid (HB0.out.trans (hb.mono HB0.out.size))
  have HK1a := Lib.hid (blk_kept HK1.out hb)
  have HK2a := Lib.hid (blk_kept HK2.out hb)
  have HK3a := Lib.hid (blk_kept HK3.out hb)
  clear hb x0 x1 xf0 xf1 lx
  cases h1 : modB xs (dat L)
  · have HR : Hid (composeMapsOf xs L ys M zs N F G = ([], 1)) := Lib.hid (composeMapsOf_1 (by rw [h1]; simp))
    clear h1
    go_wp2_with fail
    go_ret2
    exact ⟨.slice none 0 0, [], by rw [HR.out]; rfl, by rw [HR.out]; rfl, OwnR.nil _ _, HB1.out⟩
  obtain ⟨y0, y1, yf0, yf1, ly⟩ := blk2cells HK2a.out
  go_wp2_with fail
  refine (HIN.out _ HB1.out).mono ?_
  rintro e w2 ⟨rfl, hb⟩
  have HB2 := Lib.hid (HB1.out.trans (hb.mono HB1.out.size))
  have HK1b := Lib.hid (blk_kept HK1a.out hb)
  have HK2b := Lib.hid (blk_kept HK2a.out hb)
  have HK3b := Lib.hid (blk_kept HK3a.out hb)
  clear hb y0 y1 yf0 yf1 ly
  cases h2 : modB ys (dat M)
  · have HR : Hid (composeMapsOf xs L ys M zs N F G = ([], 1)) := Lib.hid (composeMapsOf_1 (by rw [h2]; simp))
    clear h2
    go_wp2_with fail
    go_ret2
    exact ⟨.slice none 0 0, [], by rw [HR.out]; rfl, by rw [HR.out]; rfl, OwnR.nil _ _, HB2.out⟩
  obtain ⟨z0, z1, zf0, zf1, lz⟩ := blk2cells HK3b.out
  go_wp2_with fail
  refine (HIO.out _ HB2.out).mono ?_
  rintro e w3 ⟨rfl, hb⟩
  have HB3 := Lib.hid (HB2.out.trans (hb.mono HB2.out.size))
  have HK1c := Lib.hid (blk_kept HK1b.out hb)
  have HK2c := Lib.hid (blk_kept HK2b.out hb)
  have HK3c := Lib.hid (blk_kept HK3b.out hb)
  clear hb z0 z1 zf0 zf1 lz
  cases h3 : modB zs (dat N)
  · have HR : Hid (composeMapsOf xs L ys M zs N F G = ([], 1)) := Lib.hid (composeMapsOf_1 (by rw [h3]; simp))
    clear h3
    go_wp2_with fail
    go_ret2
    exact ⟨.slice none 0 0, [], by rw [HR.out]; rfl, by rw [HR.out]; rfl, OwnR.nil _ _, HB3.out⟩
  have s1 := (modB_iff.1 h1).shp
  have s2 := (modB_iff.1 h2).shp
  have s3 := (modB_iff.1 h3).shp
  have HMOD : Hid (modB xs (dat L) = true ∧ modB ys (dat M) = true ∧ modB zs (dat N) = true) := Lib.hid ⟨h1, h2, h3⟩
  have HI1 := Lib.hid (l12Is_any A A' B B' V n c m c' p d q d' k cv xs ys L M F w3 (HM.out.r.below HB3.out) s1 (HN.out.r.below HB3.out) s2 HF.out.hk HF.out.hk1 HF.out.hl (HF.out.rd.below HB3.out))
  have HI2 := Lib.hid (fun W' (hb : Below w.heap.size w W') => l12Is_any B B' C C' W p d q d' r e s e' l cw ys zs M N G W' (HN.out.r.below hb) s2 (HO.out.r.below hb) s3 HG.out.hk HG.out.hk1 HG.out.hl (HG.out.rd.below hb))
  have hn16 : n ≤ 16 := by rw [HM.out.r.hn]; exact s1.len
  have hp16 : p ≤ 16 := by rw [HN.out.r.hn]; exact s2.len
  have hr16 : r ≤ 16 := by rw [HO.out.r.hn]; exact s3.len
  clear h1 h2 h3 s1 s2 s3
  obtain ⟨x0, x1, xf0, xf1, lx⟩ := blk2cells HK1c.out
  obtain ⟨y0, y1, yf0, yf1, ly⟩ := blk2cells HK2c.out
  go_wp2_with fail
  refine HI1.out.mono ?_
  rintro e w4 ⟨rfl, hb⟩
  have HB4 := Lib.hid (HB3.out.trans (hb.mono HB3.out.size))
  have HK2d := Lib.hid (blk_kept HK2c.out hb)
  have HK3d := Lib.hid (blk_kept HK3c.out hb)
  clear hb x0 x1 xf0 xf1 lx y0 y1 yf0 yf1 ly
  cases h4 : mapB xs (dat L) ys (dat M) (dat F)
  · have HR : Hid (composeMapsOf xs L ys M zs N F G = ([], 2)) := Lib.hid (composeMapsOf_2 HMOD.out (by rw [h4]; simp))
    clear h4
    go_wp2_with fail
    go_ret2
    exact ⟨.slice none 0 0, [], by rw [HR.out]; rfl, by rw [HR.out]; rfl, OwnR.nil _ _, HB4.out⟩
  have HP1 := Lib.hid (mapB_iff.1 h4)
  clear h4
  obtain ⟨y0, y1, yf0, yf1, ly⟩ := blk2cells HK2d.out
  obtain ⟨z0, z1, zf0, zf1, lz⟩ := blk2cells HK3d.out
  go_wp2_with fail
  refine (HI2.out _ HB4.out).mono ?_
  rintro e w5 ⟨rfl, hb⟩
  have HB5 := Lib.hid (HB4.out.trans (hb.mono HB4.out.size))
  have HK3e := Lib.hid (blk_kept HK3d.out hb)
  clear hb y0 y1 yf0 yf1 ly z0 z1 zf0 zf1 lz
  cases h5 : mapB ys (dat M) zs (dat N) (dat G)
  · have HR : Hid (composeMapsOf xs L ys M zs N F G = ([], 2)) := Lib.hid (composeMapsOf_2 HMOD.out (by rw [h5]; simp))
    clear h5
    go_wp2_with fail
    go_ret2
    exact ⟨.slice none 0 0, [], by rw [HR.out]; rfl, by rw [HR.out]; rfl, OwnR.nil _ _, HB5.out⟩
  have HP2 := Lib.hid (mapB_iff.1 h5)
  have HR := Lib.hid (composeMapsOf_0 HMOD.out ⟨mapB_iff.2 HP1.out, h5⟩)
  clear h5
  have HMF := Lib.hid (l12Masks_any p V k cv F w5 HF.out.hk HF.out.hk1 (by omega) (by rw [HN.out.r.hn]; exact mapP_vec HP1.out) (HF.out.rd.below HB5.out))
  have HMG := Lib.hid (fun W' (hb : Below w.heap.size w W') => l12Masks_any r W l cw G W' HG.out.hk HG.out.hk1 (by omega) (by rw [HO.out.r.hn]; exact mapP_vec HP2.out) (HG.out.rd.below hb))
  go_wp2_with fail
  refine HMF.out.mono ?_
  rintro e w6 ⟨g6, c6, rfl, ho, hb⟩
  have HB6 := Lib.hid (HB5.out.trans (hb.mono HB5.out.size))
  have HRF := Lib.hid (owns_Rd ho)
  have HK3f := Lib.hid (blk_kept HK3e.out hb)
  clear ho hb
  go_wp2_with fail
  refine (HMG.out _ HB6.out).mono ?_
  rintro e w7 ⟨g7, c7, rfl, ho, hb⟩
  have HB7 := Lib.hid (HB6.out.trans (hb.mono HB6.out.size))
  have HRG := Lib.hid (owns_Rd ho)
  have HRF7 := Lib.hid (HRF.out.below hb)
  have HK3g := Lib.hid (blk_kept HK3f.out hb)
  clear ho hb
  have hk16 : k ≤ 16 := by have h := mapP_len HP1.out; have h2 := HM.out.r.hn; have h3 := HF.out.hk; omega
  have hl16 : l ≤ 16 := by have h := mapP_len HP2.out; have h2 := HN.out.r.hn; have h3 := HG.out.hk; omega
  have HLF : Hid (k = ((dat F).map mk).length) := Lib.hid (by rw [List.length_map, dat_length]; exact HF.out.hk)
  have HLG : Hid (l = ((dat G).map mk).length) := Lib.hid (by rw [List.length_map, dat_length]; exact HG.out.hk)
  have HLTF : Hid (∀ r ∈ (dat F).map mk, Sm r) := Lib.hid (sm_mks (n := ys.length) (by rw [← HN.out.r.hn]; exact hp16) (mapP_lt HP1.out))
  have HLTG : Hid (∀ x ∈ (dat G).map mk, x < 2 ^ r) := Lib.hid (by rw [HO.out.r.hn]; exact mapP_lt HP2.out)
  have HLTG2 : Hid (∀ r ∈ (dat G).map mk, Sm r) := Lib.hid (sm_mks hr16 HLTG.out)
  have HZ := Lib.hid HO.out.r.hn
  generalize (dat F).map mk = SF at *
  generalize (dat G).map mk = SG at *
  have HS7 := Lib.hid HB7.out.size
  have hsz := HB7.out.size
  go_wp2_with fail
  go_loopw [14, 15] (fun vv i wr => ∃ j g cap : Nat, j ≤ k ∧ i = .int .i64 j ∧ vv = .slice (some ⟨g, 0, none⟩) j cap ∧ wr.ownsRow w7.heap.size 2 1 (.slice (some ⟨g, 0, none⟩) j cap) j (nv ((SF.map (comb SG 0)).take j)) ∧ Below w7.heap.size w7 wr) (fun _ i _ => k - (intOf i).toNat)
  case atStart => exact ⟨0, w7.heap.size, 0, by omega, rfl, rfl, World.ownsRow_made w7 #[] 0 (Nat.le_refl _) (by decide) (by simp), (Below.refl _ _).alloc (Nat.le_refl _) _⟩
  case round =>
    obtain ⟨j, g, cap, hj, rfl, rfl, hown, hbel⟩ := hrel
    have HOW := Lib.hid hown
    have HBL := Lib.hid hbel
    have hsz2 := hbel.size
    by_cases hlt : j < k
    · have hjF : j < SF.length := by rw [← HLF.out]; exact hlt
      obtain ⟨b, o, rfl2, hc⟩ := (HRF7.out.below hbel).atN hjF
      injection rfl2 with rfl2
      injection rfl2 with e1 e2 _
      subst e1
      subst e2
      rw [Nat.zero_add] at hc
      have hs := HLTF.out (SF.getD j 0) (by simp [List.getD, hjF])
      have HTS : Hid ((SF.map (comb SG 0)).take (j + 1) = (SF.map (comb SG 0)).take j ++ [comb SG 0 (SF.getD j 0)]) := Lib.hid (by
        rw [List.take_succ_eq_append_getElem (by rw [List.length_map]; exact hjF), List.getElem_map]; simp [List.getD, hjF])
      generalize SF.getD j 0 = x at *
      have HC := Lib.hid (l12Image_any (some ⟨g7, 0, none⟩) l c7 SG x wr HLG.out (by omega) hs HLTG2.out (HRG.out.below hbel))
      clear hown hbel hs hjF
      go_wp2_with fail
      refine HC.out.mono ?_
      rintro e w' ⟨rfl, rfl⟩
      go_wp2_with (at_builtin; refine wpList_app1 _ _ _ _ _ etI (by rfl) (by rfl) w7.heap.size (.slice (some ⟨g, 0, none⟩) j cap) j (nv ((SF.map (comb SG 0)).take j)) (by rfl) (HOW.out.alloc _) _ (.int .i64 (comb SG 0 x : Nat)) (by rfl) (new_cell _ _ _) (by rfl) (by omega) (Nat.le_trans hsz2 (Nat.le_of_lt (by simp))) ?_; (intro g1 cap1 w8 hown1 hgrow1 hat1 hlt1; have HO1 := Lib.hid hown1; have HB8 := Lib.hid (below_app2 HBL.out hsz2 HOW.out hgrow1); clear hown1 hgrow1 hat1 hlt1))
      go_roundw
      case rel => exact ⟨j + 1, g1, cap1, by omega, by go_num, rfl, by rw [HTS.out, nv_append]; exact HO1.out, HB8.out⟩
      case measure => simp [intOf]; omega
    · obtain rfl : j = k := by omega
      have he : (SF.map (comb SG 0)).take j = SF.map (comb SG 0) := List.take_of_length_le (by rw [List.length_map, ← HLF.out]; exact Nat.le_refl _)
      rw [he] at HOW
      have HVC := Lib.hid (l12Vectors_any r (some ⟨g, 0, none⟩) j cap (SF.map (comb SG 0)) wr (by rw [List.length_map]; exact HLF.out) (by omega) (by omega) (fun y hy => by
        obtain ⟨x, _, rfl⟩ := List.mem_map.1 hy
        exact comb_sm _ _ _ HLTG2.out) (owns_Rd HOW.out))
      have HK3h := Lib.hid (blk_kept HK3g.out hbel)
      have HB8 := Lib.hid (HB7.out.trans (hbel.mono hsz))
      clear hown hbel he
      obtain ⟨z0, z1, zf0, zf1, lz⟩ := blk2cells HK3h.out
      go_wp2_with fail
      refine HVC.out.mono ?_
      rintro e w9 ⟨A9, c9, R9, rfl, hl9, hd9, ho9, hb9⟩
      have HL9 := Lib.hid hl9
      have HD9 := Lib.hid hd9
      have HO9 := Lib.hid (ho9.mono (Nat.le_trans hsz hsz2))
      have HB9 := Lib.hid (HB8.out.trans (hb9.mono HB8.out.size))
      clear hl9 hd9 ho9 hb9 z0 z1 zf0 zf1 lz
      go_wp2_with fail
      go_ret2
      exact ⟨_, R9, by rw [HR.out]; rfl, by rw [HR.out, HD9.out, ← HZ.out], HO9.out, HB9.out⟩
end Go.Proofs.Ytocllmhkppkfoaa
