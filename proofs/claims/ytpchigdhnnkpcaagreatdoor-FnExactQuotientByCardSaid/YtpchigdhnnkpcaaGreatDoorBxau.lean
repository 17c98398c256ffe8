/- the reference's ImageOfMap, KernelOfMap (written by mkzp.py) · library functions: cmp.Less, cmp.Compare, slices.IsSorted, slices.Compare; impl's rising · slices.IndexFunc, ContainsFunc and impl's all over rows of rows · impl's isTable · impl's isTable: the function -/
import Derived.Test.YtpchigdhnnkpcaaGreatDoorBxas
import Derived.Test.YtpchigdhnnkpcaaGreatDoorBxah
import Derived.Test.YtpchigdhnnkpcaaGreatDoorBxaa
import Derived.Test.YtpchigdhnnkpcaaGreatDoorBxaj
import Derived.Test.YtpchigdhnnkpcaaGreatDoorBxab
set_option linter.all false
namespace Go.Proofs.YtpchigdhnnkpcaaGreatDoor
open Go.RowKit

theorem map_hom {xs ys : List Int} {Q R P : List (List Int)} (hp : MapP xs Q ys R P) (hs : Shp xs Q) : ∀ r ∈ P.map mk, r < 2 ^ ys.length ∧ ∃ d : Nat, d < 21 ∧ Hom ys (d : Int) r := fun r hr => by
  obtain ⟨i, hi, e⟩ := List.getElem_of_mem hr
  rw [List.length_map] at hi
  have h1 := hp.hom i hi
  have e2 : mk (P.getD i []) = r := by rw [← e]; simp [List.getD, hi]
  rw [e2] at h1
  have h2 := hs.deg i (by rw [← hp.len]; exact hi)
  refine ⟨h1.lt, (xs.getD i 0).toNat, by omega, ?_⟩
  rw [Int.toNat_of_nonneg h2.1]; exact h1
theorem cell_set2 {w : World} {a : Addr} {v : Value} {g : Nat} (h : w.cell? a = some v) (hne : g ≠ a.block) (x y : Value) : ((w.setCell ⟨g, 0, none⟩ x).setCell ⟨g, 1, none⟩ y).cell? a = some v := by
  have h1 : (w.setCell ⟨g, 0, none⟩ x).cell? a = some v := (World.cell?_of_block (Below.heap_setCell w ⟨g, 0, none⟩ x a.block (Ne.symm hne))).trans h
  exact (World.cell?_of_block (Below.heap_setCell _ ⟨g, 1, none⟩ y a.block (Ne.symm hne))).trans h1

set_option maxRecDepth 100000 in
set_option maxHeartbeats 8000000 in
theorem specImageOfMap' (A A' B B' W : Option Addr) (n c m c' p d q d' k cw : Nat) (xs ys : List Int) (L M P : List Row) (w : World) (hM : ModIn w A n A' m xs L) (hN : ModIn w B p B' q ys M) (hP : RowsIn w W k P) :
    Calls Tryz.prog 29 #[.agg #[.slice A n c, .slice A' m c'], .agg #[.slice B p d, .slice B' q d'], .slice W k cw] w (ResMR (imageOfMapOf xs L ys M P) w) := by
  obtain ⟨hb0, hk1, hk2⟩ := box_two w A A' B B' n c m c' p d q d'
  have hk1' := blk_alloc hk1 (.cells #[.slice none 0 0, .slice none 0 0] 29)
  have hk2' := blk_alloc hk2 (.cells #[.slice none 0 0, .slice none 0 0] 29)
  have hk3 := blk_new2 w (.cells #[.slice A n c, .slice A' m c'] 29) (.cells #[.slice B p d, .slice B' q d'] 29) (.cells #[.slice none 0 0, .slice none 0 0] 29)
  have hb0' := hb0.alloc (by simp; omega) (.cells #[.slice none 0 0, .slice none 0 0] 29)
  have HB0 := Lib.hid hb0'
  have HK1 := Lib.hid hk1'
  have HK2 := Lib.hid hk2'
  have HK3 := Lib.hid hk3
  have HCD := Lib.hid (l12Code_any A A' B B' W n c m c' p d q d' k cw xs ys L M P _ (hM.below hb0') (hN.below hb0') (hP.below hb0'))
  have HM := Lib.hid hM
  have HN := Lib.hid hN
  have HP := Lib.hid hP
  clear hb0 hk1 hk2 hk1' hk2' hk3 hb0' hM hN hP
  obtain ⟨x0, x1, xf0, xf1, lx⟩ := blk2cells HK1.out
  obtain ⟨y0, y1, yf0, yf1, ly⟩ := blk2cells HK2.out
  go_enter Tryz.func29, Tryz.ntmps29
  go_wp2_with fail
  refine HCD.out.mono ?_
  rintro e w1 ⟨rfl, hb⟩
  have HB1 := Lib.hid (HB0.out.trans (hb.mono HB0.out.size))
  have HK1a := Lib.hid (blk_kept HK1.out hb)
  have HK2a := Lib.hid (blk_kept HK2.out hb)
  have HK3a := Lib.hid (blk_kept HK3.out hb)
  clear hb x0 x1 xf0 xf1 lx y0 y1 yf0 yf1 ly
  obtain ⟨z0, z1, zf0, zf1, lz⟩ := blk2cells HK3a.out
  rcases mapC_cases xs (dat L) ys (dat M) (dat P) with h | h | ⟨h, h1, h2, h3⟩
  · have HF : Hid (imageOfMapOf xs L ys M P = (([], []), [], 1)) := Lib.hid (by unfold imageOfMapOf; rw [if_neg (by rw [h]; decide), h])
    rw [h]
    clear h
    go_wp2_with fail
    (try simp only [Exit.inBlock, Exit.then])
    refine ret_mr rfl rfl rfl (blk2set1' (blk2set0' HK3a.out _) _) ?_
    exact ⟨_, .slice none 0 0, [], w.heap.size, Nat.le_refl _, by rw [HF.out]; rfl, by rw [HF.out]; exact ModOutH.nil _ _ _, by rw [HF.out]; rfl, OwnR.nil _ _, (HB1.out.setCell (p := ⟨w.heap.size + 1 + 1, 0, none⟩) (by show w.heap.size ≤ w.heap.size + 1 + 1; omega) _).setCell (p := ⟨w.heap.size + 1 + 1, 1, none⟩) (by show w.heap.size ≤ w.heap.size + 1 + 1; omega) _⟩
  · have HF : Hid (imageOfMapOf xs L ys M P = (([], []), [], 2)) := Lib.hid (by unfold imageOfMapOf; rw [if_neg (by rw [h]; decide), h])
    rw [h]
    clear h
    go_wp2_with fail
    (try simp only [Exit.inBlock, Exit.then])
    refine ret_mr rfl rfl rfl (blk2set1' (blk2set0' HK3a.out _) _) ?_
    exact ⟨_, .slice none 0 0, [], w.heap.size, Nat.le_refl _, by rw [HF.out]; rfl, by rw [HF.out]; exact ModOutH.nil _ _ _, by rw [HF.out]; rfl, OwnR.nil _ _, (HB1.out.setCell (p := ⟨w.heap.size + 1 + 1, 0, none⟩) (by show w.heap.size ≤ w.heap.size + 1 + 1; omega) _).setCell (p := ⟨w.heap.size + 1 + 1, 1, none⟩) (by show w.heap.size ≤ w.heap.size + 1 + 1; omega) _⟩
  have hs1 := (modB_iff.1 h1).shp
  have hs2 := (modB_iff.1 h2).shp
  have HS1 := Lib.hid hs1
  have HS2 := Lib.hid hs2
  have hn16 : n ≤ 16 := by rw [HM.out.r.hn]; exact hs1.len
  have hp16 : p ≤ 16 := by rw [HN.out.r.hn]; exact hs2.len
  have hkn : k = n := by rw [HP.out.hk, HM.out.r.hn, ← dat_length]; exact h3.len
  have hk16 : k ≤ 16 := by omega
  have HKN := Lib.hid hkn
  clear hkn
  have HTH := Lib.hid (map_hom h3 hs1)
  have HTS : Hid (∀ r ∈ (dat P).map mk, Sm r) := Lib.hid (fun r hr => sm_of_lt (a := ys.length) (by have := hs2.len; omega) (HTH.out r hr).1)
  have HTL : Hid (((dat P).map mk).length = k) := Lib.hid (by rw [List.length_map, dat_length, ← HP.out.hk])
  have HMS := Lib.hid (fun (W' : World) (hb : Below w1.heap.size w1 W') => l12Masks_any p W k cw P W' HP.out.hk HP.out.hk1 (by omega) (by rw [HN.out.r.hn]; exact mapP_vec h3) (HP.out.rd.below (HB1.out.trans (hb.mono HB1.out.size))))
  obtain ⟨S0, hS0⟩ : ∃ S0, S0 = (dat P).map mk := ⟨_, rfl⟩
  have HS0 : Hid (∀ r ∈ S0, r < 2 ^ ys.length) := Lib.hid (fun r hr => by rw [hS0] at hr; exact (HTH.out r hr).1)
  have HS0H : Hid (∀ r ∈ S0, r ≠ 0 → ∃ d : Nat, d < 21 ∧ Hom ys (d : Int) r) := Lib.hid (fun r hr _ => by rw [hS0] at hr; exact (HTH.out r hr).2)
  obtain ⟨S, hS⟩ : ∃ S, S = byDeg ys S0 21 := ⟨_, rfl⟩
  have HSD : Hid (byDeg ys S0 21 = S) := Lib.hid hS.symm
  have HSE : Hid (reduceS ((dat P).map mk) = S) := Lib.hid (by rw [hS, ← hS0]; exact (byDeg_eq hs2.srtL (fun r hr => HTS.out r (by rw [← hS0]; exact hr)) HS0H.out).symm)
  have HIN := Lib.hid (fun (C : Option Addr) (cc : Nat) (W' : World) (hb : Below w.heap.size w W') (hC : Rd W' C (nv ((dat P).map mk))) => l12Basis_any B B' C p d q d' k cc ys S0 W' HN.out.r.hn hp16 hs2.srtL (HN.out.r.deg.below hb) (by rw [hS0]; exact HTL.out.symm) (by omega) (by rw [HN.out.r.hn]; exact HS0.out) (by rw [hS0]; exact hC))
  clear hS hS0
  have HF : Hid (imageOfMapOf xs L ys M P = partMR ys (dat M) S) := Lib.hid (by unfold imageOfMapOf; rw [if_pos h, HSE.out])
  have HSL : Hid (S.length ≤ 16) := Lib.hid (by
    have h5 := byDeg_len (xs := ys) (S := S0) (HS2.out.srtL) (by have := HS2.out.len; omega) HS0.out 21
    rw [HSD.out] at h5; have := HS2.out.len; omega)
  have HSP : Hid (∀ r ∈ S, r ≠ 0 ∧ r < 2 ^ ys.length ∧ ∃ d, Hom ys d r) := Lib.hid (by
    rw [← HSD.out]; exact red_homP HS2.out.srtL (fun r hr => sm_of_lt (a := ys.length) (by have := HS2.out.len; omega) (HS0.out r hr)) HS0H.out)
  have HMD := Lib.hid (fun (C : Option Addr) (cc : Nat) (W' : World) (hb : Below w.heap.size w W') (hC : Rd W' C (nv S)) => l12Module_any B B' C p d q d' S.length cc ys M S W' (HN.out.r.below hb) HS2.out rfl HSL.out HSP.out hC)
  have HVC := Lib.hid (fun (C : Option Addr) (cc : Nat) (W' : World) (hC : Rd W' C (nv S)) => l12Vectors_any p C S.length cc S W' rfl (by have := HSL.out; omega) (by omega) (fun r hr => sm_of_lt (a := ys.length) (by have := HS2.out.len; omega) (HSP.out r hr).2.1) hC)
  have Hnx : Hid (p = ys.length) := Lib.hid HN.out.r.hn
  rw [h]
  clear h h1 h2 h3 hs1 hs2
  have KS := Lib.hid (fun w' (hb : Below w1.heap.size w1 w') => show w'.cell? ⟨w.heap.size + 1, 0, none⟩ = some (.slice B p d) ∧ w'.cell? ⟨w.heap.size + 1, 1, none⟩ = some (.slice B' q d') from by
    obtain ⟨x0, x1, _⟩ := blk2cells (blk_kept HK2a.out hb)
    exact ⟨x0, x1⟩)
  have HB_0 := Lib.hid (Below.drew (Below.refl w1.heap.size w1))
  have HW_0 := Lib.hid (HB1.out.trans (HB_0.out.mono HB1.out.size))
  clear z0 z1 zf0 zf1 lz
  go_wp2_with fail
  go_region_held3 (fun w' => w'.cell? ⟨w.heap.size + 1, 0, none⟩ = some (.slice B p d) ∧ w'.cell? ⟨w.heap.size + 1, 1, none⟩ = some (.slice B' q d'))
    (first | exact KS.out _ HB_0.out | exact KS.out _ HB_1.out | exact KS.out _ HB_2.out)
    (first
      | (go_at_call 42; (with_reducible refine (HMS.out _ HB_0.out).mono ?_); (rintro e w2 ⟨g2, c2, rfl, ho, hb⟩; have HR2 := Lib.hid (owns_Rd ho); have HB_1 := Lib.hid (HB_0.out.trans (hb.mono HB_0.out.size)); have HW_1 := Lib.hid (HB1.out.trans (HB_1.out.mono HB1.out.size)); clear ho hb))
      | (go_at_call 59; (with_reducible refine (HIN.out _ _ _ HW_1.out HR2.out).mono ?_); (rintro e w3 ⟨v3, rfl, ho, hb⟩; rw [HSD.out] at ho; obtain ⟨A3, c3, rfl, _⟩ := owns_shape ho; have HR3 := Lib.hid (owns_Rd ho); have HB_2 := Lib.hid (HB_1.out.trans (hb.mono HB_1.out.size)); clear ho hb)))
  have HB3 := Lib.hid (HB1.out.trans (HB_2.out.mono HB1.out.size))
  have HK3b := Lib.hid (blk_kept HK3a.out HB_2.out)
  have HKb := Lib.hid (blk_kept HK2a.out HB_2.out)
  clear KS HB_0 HB_1 HB_2 HW_0 HW_1 HR2 HMS HIN
  have KS := Lib.hid (fun w' (hb : Below w3.heap.size w3 w') => show w'.cell? ⟨w.heap.size + 1, 0, none⟩ = some (.slice B p d) ∧ w'.cell? ⟨w.heap.size + 1, 1, none⟩ = some (.slice B' q d') from by
    obtain ⟨x0, x1, _⟩ := blk2cells (blk_kept HKb.out hb)
    exact ⟨x0, x1⟩)
  have HB_0 := Lib.hid (Below.drew (Below.refl w3.heap.size w3))
  have HW_0 := Lib.hid (HB3.out.trans (HB_0.out.mono HB3.out.size))
  go_wp2_with fail
  go_region_held3 (fun w' => w'.cell? ⟨w.heap.size + 1, 0, none⟩ = some (.slice B p d) ∧ w'.cell? ⟨w.heap.size + 1, 1, none⟩ = some (.slice B' q d'))
    (first | exact KS.out _ HB_0.out | exact KS.out _ HB_1.out | exact KS.out _ HB_2.out | exact ⟨KS3.out _ _, KS4.out _ _⟩)
    (first
      | (go_at_call 54; (with_reducible refine (HMD.out _ _ _ HW_0.out (HR3.out.below HB_0.out)).mono ?_); (rintro e w6 ⟨v6, rfl, ho, hb⟩; have hu := ho.up; obtain ⟨Ad, cd, A1, c1, R, rfl, _⟩ := ho; have HMO := Lib.hid hu; have HB_1 := Lib.hid (HB_0.out.trans (hb.mono HB_0.out.size)); clear hu hb))
      | (go_at_call 55; (with_reducible refine (HVC.out _ _ _ (HR3.out.below HB_1.out)).mono ?_); (rintro e w7 ⟨A7, c7, R7, rfl, hRl, hRd, ho, hb⟩; have HRD := Lib.hid hRd; have HO7 := Lib.hid ho; have HK7 := Lib.hid (Keeps.of_below hb); have HB_2 := Lib.hid (HB_1.out.trans (hb.mono HB_1.out.size)); have HZ7 := Lib.hid (blk_kept HK3b.out HB_2.out); obtain ⟨z0, z1, zf0, zf1, lz⟩ := blk2cells HZ7.out; have hx7 := (KS.out _ HB_2.out); have KS3 := Lib.hid (fun (a b : Value) => cell_set2 hx7.1 (g := w.heap.size + 1 + 1) (by show w.heap.size + 1 + 1 ≠ w.heap.size + 1; omega) a b); have KS4 := Lib.hid (fun (a b : Value) => cell_set2 hx7.2 (g := w.heap.size + 1 + 1) (by show w.heap.size + 1 + 1 ≠ w.heap.size + 1; omega) a b); clear hRl hRd ho hb hx7)))
  go_wp2_with fail
  (try simp only [Exit.inBlock, Exit.then])
  refine ret_mr rfl rfl rfl (blk2set1' (blk2set0' HZ7.out _) _) ?_
  have hs3 := HB3.out.size
  have hl3 := (blk2cells HK3b.out).2.2.2.2
  have hs7 := HB_2.out.size
  have hs6 := HB_1.out.size
  have hkk : Keeps w7 ((w7.setCell ⟨w.heap.size + 1 + 1, 0, none⟩ (.slice Ad (partD ys S).length cd)).setCell ⟨w.heap.size + 1 + 1, 1, none⟩ (.slice A1 R.length c1)) [some (w.heap.size + 1 + 1)] := ((Keeps.refl w7 _).setCell (p := ⟨w.heap.size + 1 + 1, 0, none⟩) (by simp) _).setCell (p := ⟨w.heap.size + 1 + 1, 1, none⟩) (by simp) _
  refine ⟨_, _, R7, w6.heap.size, Nat.le_trans hs3 hs6, by rw [HF.out]; rfl, ?_, by rw [HF.out, HRD.out, Hnx.out]; rfl, ?_, ?_⟩
  · rw [HF.out]
    exact ((HMO.out.keeps HK7.out (fun j hj => by cases hj)).keeps hkk (fun j hj => by
      have : j = w.heap.size + 1 + 1 := by simpa using hj
      left; show j < w3.drew.heap.size; show j < w3.heap.size; omega)).mono (show w.heap.size ≤ w3.heap.size by omega)
  · exact HO7.out.keeps hkk (not_in (B := w6.heap.size) (H := w7.heap.size) (fun j hj => by
      have : j = w.heap.size + 1 + 1 := by simpa using hj
      left; omega) fun g hg => HO7.out.out.lt g hg) (fun i hi => not_in (B := w6.heap.size) (H := w7.heap.size) (fun j hj => by
      have : j = w.heap.size + 1 + 1 := by simpa using hj
      left; omega) fun g hg => (HO7.out.inn i hi).lt g hg)
  · exact ((HB3.out.trans (HB_2.out.mono hs3)).setCell (p := ⟨w.heap.size + 1 + 1, 0, none⟩) (by show w.heap.size ≤ w.heap.size + 1 + 1; omega) _).setCell (p := ⟨w.heap.size + 1 + 1, 1, none⟩) (by show w.heap.size ≤ w.heap.size + 1 + 1; omega) _

set_option maxRecDepth 100000 in
set_option maxHeartbeats 8000000 in
theorem specKernelOfMap' (A A' B B' W : Option Addr) (n c m c' p d q d' k cw : Nat) (xs ys : List Int) (L M P : List Row) (w : World) (hM : ModIn w A n A' m xs L) (hN : ModIn w B p B' q ys M) (hP : RowsIn w W k P) :
    Calls Tryz.prog 25 #[.agg #[.slice A n c, .slice A' m c'], .agg #[.slice B p d, .slice B' q d'], .slice W k cw] w (ResMR (kernelOfMapOf xs L ys M P) w) := by
  obtain ⟨hb0, hk1, hk2⟩ := box_two w A A' B B' n c m c' p d q d'
  have hk1' := blk_alloc hk1 (.cells #[.slice none 0 0, .slice none 0 0] 29)
  have hk2' := blk_alloc hk2 (.cells #[.slice none 0 0, .slice none 0 0] 29)
  have hk3 := blk_new2 w (.cells #[.slice A n c, .slice A' m c'] 29) (.cells #[.slice B p d, .slice B' q d'] 29) (.cells #[.slice none 0 0, .slice none 0 0] 29)
  have hb0' := hb0.alloc (by simp; omega) (.cells #[.slice none 0 0, .slice none 0 0] 29)
  have HB0 := Lib.hid hb0'
  have HK1 := Lib.hid hk1'
  have HK2 := Lib.hid hk2'
  have HK3 := Lib.hid hk3
  have HCD := Lib.hid (l12Code_any A A' B B' W n c m c' p d q d' k cw xs ys L M P _ (hM.below hb0') (hN.below hb0') (hP.below hb0'))
  have HM := Lib.hid hM
  have HN := Lib.hid hN
  have HP := Lib.hid hP
  clear hb0 hk1 hk2 hk1' hk2' hk3 hb0' hM hN hP
  obtain ⟨x0, x1, xf0, xf1, lx⟩ := blk2cells HK1.out
  obtain ⟨y0, y1, yf0, yf1, ly⟩ := blk2cells HK2.out
  go_enter Tryz.func25, Tryz.ntmps25
  go_wp2_with fail
  refine HCD.out.mono ?_
  rintro e w1 ⟨rfl, hb⟩
  have HB1 := Lib.hid (HB0.out.trans (hb.mono HB0.out.size))
  have HK1a := Lib.hid (blk_kept HK1.out hb)
  have HK2a := Lib.hid (blk_kept HK2.out hb)
  have HK3a := Lib.hid (blk_kept HK3.out hb)
  clear hb x0 x1 xf0 xf1 lx y0 y1 yf0 yf1 ly
  obtain ⟨z0, z1, zf0, zf1, lz⟩ := blk2cells HK3a.out
  rcases mapC_cases xs (dat L) ys (dat M) (dat P) with h | h | ⟨h, h1, h2, h3⟩
  · have HF : Hid (kernelOfMapOf xs L ys M P = (([], []), [], 1)) := Lib.hid (by unfold kernelOfMapOf; rw [if_neg (by rw [h]; decide), h])
    rw [h]
    clear h
    go_wp2_with fail
    (try simp only [Exit.inBlock, Exit.then])
    refine ret_mr rfl rfl rfl (blk2set1' (blk2set0' HK3a.out _) _) ?_
    exact ⟨_, .slice none 0 0, [], w.heap.size, Nat.le_refl _, by rw [HF.out]; rfl, by rw [HF.out]; exact ModOutH.nil _ _ _, by rw [HF.out]; rfl, OwnR.nil _ _, (HB1.out.setCell (p := ⟨w.heap.size + 1 + 1, 0, none⟩) (by show w.heap.size ≤ w.heap.size + 1 + 1; omega) _).setCell (p := ⟨w.heap.size + 1 + 1, 1, none⟩) (by show w.heap.size ≤ w.heap.size + 1 + 1; omega) _⟩
  · have HF : Hid (kernelOfMapOf xs L ys M P = (([], []), [], 2)) := Lib.hid (by unfold kernelOfMapOf; rw [if_neg (by rw [h]; decide), h])
    rw [h]
    clear h
    go_wp2_with fail
    (try simp only [Exit.inBlock, Exit.then])
    refine ret_mr rfl rfl rfl (blk2set1' (blk2set0' HK3a.out _) _) ?_
    exact ⟨_, .slice none 0 0, [], w.heap.size, Nat.le_refl _, by rw [HF.out]; rfl, by rw [HF.out]; exact ModOutH.nil _ _ _, by rw [HF.out]; rfl, OwnR.nil _ _, (HB1.out.setCell (p := ⟨w.heap.size + 1 + 1, 0, none⟩) (by show w.heap.size ≤ w.heap.size + 1 + 1; omega) _).setCell (p := ⟨w.heap.size + 1 + 1, 1, none⟩) (by show w.heap.size ≤ w.heap.size + 1 + 1; omega) _⟩
  have hs1 := (modB_iff.1 h1).shp
  have hs2 := (modB_iff.1 h2).shp
  have HS1 := Lib.hid hs1
  have HS2 := Lib.hid hs2
  have hn16 : n ≤ 16 := by rw [HM.out.r.hn]; exact hs1.len
  have hp16 : p ≤ 16 := by rw [HN.out.r.hn]; exact hs2.len
  have hkn : k = n := by rw [HP.out.hk, HM.out.r.hn, ← dat_length]; exact h3.len
  have hk16 : k ≤ 16 := by omega
  have HKN := Lib.hid hkn
  clear hkn
  have HTH := Lib.hid (map_hom h3 hs1)
  have HTS : Hid (∀ r ∈ (dat P).map mk, Sm r) := Lib.hid (fun r hr => sm_of_lt (a := ys.length) (by have := hs2.len; omega) (HTH.out r hr).1)
  have HTL : Hid (((dat P).map mk).length = k) := Lib.hid (by rw [List.length_map, dat_length, ← HP.out.hk])
  have HMS := Lib.hid (fun (W' : World) (hb : Below w1.heap.size w1 W') => l12Masks_any p W k cw P W' HP.out.hk HP.out.hk1 (by omega) (by rw [HN.out.r.hn]; exact mapP_vec h3) (HP.out.rd.below (HB1.out.trans (hb.mono HB1.out.size))))
  have hFh : ∀ i, i < ((dat P).map mk).length → Hom ys (xs.getD i 0) (((dat P).map mk).getD i 0) := fun i hi => by
    rw [List.length_map] at hi
    have := h3.hom i hi
    simpa [List.getD, hi] using this
  have hFl : ((dat P).map mk).length = xs.length := by rw [List.length_map]; exact h3.len
  obtain ⟨S0, hS0⟩ : ∃ S0, S0 = kerAll xs ((dat P).map mk) 21 := ⟨_, rfl⟩
  have hkh := kerAll_hom (xs := xs) (k := 21) HTS.out (by have := hs1.len; omega)
  have HS0 : Hid (∀ r ∈ S0, r < 2 ^ xs.length) := Lib.hid (fun r hr => by rw [hS0] at hr; obtain ⟨_, _, h, _⟩ := hkh r hr; exact h.lt)
  have HS0H : Hid (∀ r ∈ S0, r ≠ 0 → ∃ d : Nat, d < 21 ∧ Hom xs (d : Int) r) := Lib.hid (fun r hr _ => by rw [hS0] at hr; obtain ⟨d, h, h', _⟩ := hkh r hr; exact ⟨d, h, h'⟩)
  obtain ⟨S, hS⟩ : ∃ S, S = byDeg xs S0 21 := ⟨_, rfl⟩
  have HSD : Hid (byDeg xs S0 21 = S) := Lib.hid hS.symm
  have HSE : Hid (kerR ((dat P).map mk) = S) := Lib.hid (by rw [hS, hS0]; exact (kerAll_eq hs1 hFl hFh HTS.out hs1.srtL).symm)
  have HIN := Lib.hid (fun (C : Option Addr) (cc : Nat) (W' : World) (hb : Below w.heap.size w W') (hC : Rd W' C (nv ((dat P).map mk))) => (by
    have h := l12Kernel_any A A' C n c m c' cc xs ((dat P).map mk) W' HM.out.r.hn hn16 hs1.srtL (HM.out.r.deg.below hb) (by rw [HTL.out]; exact HKN.out.symm) HTS.out hC
    rw [← hS0] at h
    rw [HKN.out]; exact h : Calls Tryz.prog 53 #[.agg #[.slice A n c, .slice A' m c'], .slice C k cc] W' fun e w' => ∃ v, e = .returned v ∧ w'.ownsRow W'.heap.size 2 1 v (byDeg xs S0 21).length (nv (byDeg xs S0 21)) ∧ Below W'.heap.size W' w'))
  clear hS hS0 hkh hFh hFl
  have HF : Hid (kernelOfMapOf xs L ys M P = partMR xs (dat L) S) := Lib.hid (by unfold kernelOfMapOf; rw [if_pos h, HSE.out])
  have HSL : Hid (S.length ≤ 16) := Lib.hid (by
    have h5 := byDeg_len (xs := xs) (S := S0) (HS1.out.srtL) (by have := HS1.out.len; omega) HS0.out 21
    rw [HSD.out] at h5; have := HS1.out.len; omega)
  have HSP : Hid (∀ r ∈ S, r ≠ 0 ∧ r < 2 ^ xs.length ∧ ∃ d, Hom xs d r) := Lib.hid (by
    rw [← HSD.out]; exact red_homP HS1.out.srtL (fun r hr => sm_of_lt (a := xs.length) (by have := HS1.out.len; omega) (HS0.out r hr)) HS0H.out)
  have HMD := Lib.hid (fun (C : Option Addr) (cc : Nat) (W' : World) (hb : Below w.heap.size w W') (hC : Rd W' C (nv S)) => l12Module_any A A' C n c m c' S.length cc xs L S W' (HM.out.r.below hb) HS1.out rfl HSL.out HSP.out hC)
  have HVC := Lib.hid (fun (C : Option Addr) (cc : Nat) (W' : World) (hC : Rd W' C (nv S)) => l12Vectors_any n C S.length cc S W' rfl (by have := HSL.out; omega) (by omega) (fun r hr => sm_of_lt (a := xs.length) (by have := HS1.out.len; omega) (HSP.out r hr).2.1) hC)
  have Hnx : Hid (n = xs.length) := Lib.hid HM.out.r.hn
  rw [h]
  clear h h1 h2 h3 hs1 hs2
  have KS := Lib.hid (fun w' (hb : Below w1.heap.size w1 w') => show w'.cell? ⟨w.heap.size, 0, none⟩ = some (.slice A n c) ∧ w'.cell? ⟨w.heap.size, 1, none⟩ = some (.slice A' m c') from by
    obtain ⟨x0, x1, _⟩ := blk2cells (blk_kept HK1a.out hb)
    exact ⟨x0, x1⟩)
  have HB_0 := Lib.hid (Below.drew (Below.refl w1.heap.size w1))
  have HW_0 := Lib.hid (HB1.out.trans (HB_0.out.mono HB1.out.size))
  clear z0 z1 zf0 zf1 lz
  go_wp2_with fail
  go_region_held3 (fun w' => w'.cell? ⟨w.heap.size, 0, none⟩ = some (.slice A n c) ∧ w'.cell? ⟨w.heap.size, 1, none⟩ = some (.slice A' m c'))
    (first | exact KS.out _ HB_0.out | exact KS.out _ HB_1.out | exact KS.out _ HB_2.out)
    (first
      | (go_at_call 42; (with_reducible refine (HMS.out _ HB_0.out).mono ?_); (rintro e w2 ⟨g2, c2, rfl, ho, hb⟩; have HR2 := Lib.hid (owns_Rd ho); have HB_1 := Lib.hid (HB_0.out.trans (hb.mono HB_0.out.size)); have HW_1 := Lib.hid (HB1.out.trans (HB_1.out.mono HB1.out.size)); clear ho hb))
      | (go_at_call 53; (with_reducible refine (HIN.out _ _ _ HW_1.out HR2.out).mono ?_); (rintro e w3 ⟨v3, rfl, ho, hb⟩; rw [HSD.out] at ho; obtain ⟨A3, c3, rfl, _⟩ := owns_shape ho; have HR3 := Lib.hid (owns_Rd ho); have HB_2 := Lib.hid (HB_1.out.trans (hb.mono HB_1.out.size)); clear ho hb)))
  have HB3 := Lib.hid (HB1.out.trans (HB_2.out.mono HB1.out.size))
  have HK3b := Lib.hid (blk_kept HK3a.out HB_2.out)
  have HKb := Lib.hid (blk_kept HK1a.out HB_2.out)
  clear KS HB_0 HB_1 HB_2 HW_0 HW_1 HR2 HMS HIN
  have KS := Lib.hid (fun w' (hb : Below w3.heap.size w3 w') => show w'.cell? ⟨w.heap.size, 0, none⟩ = some (.slice A n c) ∧ w'.cell? ⟨w.heap.size, 1, none⟩ = some (.slice A' m c') from by
    obtain ⟨x0, x1, _⟩ := blk2cells (blk_kept HKb.out hb)
    exact ⟨x0, x1⟩)
  have HB_0 := Lib.hid (Below.drew (Below.refl w3.heap.size w3))
  have HW_0 := Lib.hid (HB3.out.trans (HB_0.out.mono HB3.out.size))
  go_wp2_with fail
  go_region_held3 (fun w' => w'.cell? ⟨w.heap.size, 0, none⟩ = some (.slice A n c) ∧ w'.cell? ⟨w.heap.size, 1, none⟩ = some (.slice A' m c'))
    (first | exact KS.out _ HB_0.out | exact KS.out _ HB_1.out | exact KS.out _ HB_2.out | exact ⟨KS3.out _ _, KS4.out _ _⟩)
    (first
      | (go_at_call 54; (with_reducible refine (HMD.out _ _ _ HW_0.out (HR3.out.below HB_0.out)).mono ?_); (rintro e w6 ⟨v6, rfl, ho, hb⟩; have hu := ho.up; obtain ⟨Ad, cd, A1, c1, R, rfl, _⟩ := ho; have HMO := Lib.hid hu; have HB_1 := Lib.hid (HB_0.out.trans (hb.mono HB_0.out.size)); clear hu hb))
      | (go_at_call 55; (with_reducible refine (HVC.out _ _ _ (HR3.out.below HB_1.out)).mono ?_); (rintro e w7 ⟨A7, c7, R7, rfl, hRl, hRd, ho, hb⟩; have HRD := Lib.hid hRd; have HO7 := Lib.hid ho; have HK7 := Lib.hid (Keeps.of_below hb); have HB_2 := Lib.hid (HB_1.out.trans (hb.mono HB_1.out.size)); have HZ7 := Lib.hid (blk_kept HK3b.out HB_2.out); obtain ⟨z0, z1, zf0, zf1, lz⟩ := blk2cells HZ7.out; have hx7 := (KS.out _ HB_2.out); have KS3 := Lib.hid (fun (a b : Value) => cell_set2 hx7.1 (g := w.heap.size + 1 + 1) (by show w.heap.size + 1 + 1 ≠ w.heap.size; omega) a b); have KS4 := Lib.hid (fun (a b : Value) => cell_set2 hx7.2 (g := w.heap.size + 1 + 1) (by show w.heap.size + 1 + 1 ≠ w.heap.size; omega) a b); clear hRl hRd ho hb hx7)))
  go_wp2_with fail
  (try simp only [Exit.inBlock, Exit.then])
  refine ret_mr rfl rfl rfl (blk2set1' (blk2set0' HZ7.out _) _) ?_
  have hs3 := HB3.out.size
  have hl3 := (blk2cells HK3b.out).2.2.2.2
  have hs7 := HB_2.out.size
  have hs6 := HB_1.out.size
  have hkk : Keeps w7 ((w7.setCell ⟨w.heap.size + 1 + 1, 0, none⟩ (.slice Ad (partD xs S).length cd)).setCell ⟨w.heap.size + 1 + 1, 1, none⟩ (.slice A1 R.length c1)) [some (w.heap.size + 1 + 1)] := ((Keeps.refl w7 _).setCell (p := ⟨w.heap.size + 1 + 1, 0, none⟩) (by simp) _).setCell (p := ⟨w.heap.size + 1 + 1, 1, none⟩) (by simp) _
  refine ⟨_, _, R7, w6.heap.size, Nat.le_trans hs3 hs6, by rw [HF.out]; rfl, ?_, by rw [HF.out, HRD.out, Hnx.out]; rfl, ?_, ?_⟩
  · rw [HF.out]
    exact ((HMO.out.keeps HK7.out (fun j hj => by cases hj)).keeps hkk (fun j hj => by
      have : j = w.heap.size + 1 + 1 := by simpa using hj
      left; show j < w3.drew.heap.size; show j < w3.heap.size; omega)).mono (show w.heap.size ≤ w3.heap.size by omega)
  · exact HO7.out.keeps hkk (not_in (B := w6.heap.size) (H := w7.heap.size) (fun j hj => by
      have : j = w.heap.size + 1 + 1 := by simpa using hj
      left; omega) fun g hg => HO7.out.out.lt g hg) (fun i hi => not_in (B := w6.heap.size) (H := w7.heap.size) (fun j hj => by
      have : j = w.heap.size + 1 + 1 := by simpa using hj
      left; omega) fun g hg => (HO7.out.inn i hi).lt g hg)
  · exact ((HB3.out.trans (HB_2.out.mono hs3)).setCell (p := ⟨w.heap.size + 1 + 1, 0, none⟩) (by show w.heap.size ≤ w.heap.size + 1 + 1; omega) _).setCell (p := ⟨w.heap.size + 1 + 1, 1, none⟩) (by show w.heap.size ≤ w.heap.size + 1 + 1; omega) _
end Go.Proofs.YtpchigdhnnkpcaaGreatDoor

namespace Go.Proofs.YtpchigdhnnkpcaaGreatDoor
open Go.RowKit

theorem isNaN_any (x : Int) (w : World) : Calls Tryz.prog 154 #[.int .i64 x] w fun e w' => e = .returned (.bool false) ∧ w = w' := by
  go_enter Tryz.func154, Tryz.ntmps154
  go_wp2
  go_ret
  exact ⟨rfl, rfl⟩
theorem cmpLess_any (x y : Int) (w : World) : Calls Tryz.prog 137 #[.int .i64 x, .int .i64 y] w fun e w' => e = .returned (.bool (decide (x < y))) ∧ w = w' := by
  have HN := Lib.hid (fun W => isNaN_any x W)
  go_enter Tryz.func137, Tryz.ntmps137
  go_wp2_with (go_at_call 154; refine (HN.out _).mono ?_; rintro e w' ⟨rfl, rfl⟩)
  go_ret
  exact ⟨rfl, rfl⟩
def SrtP (xs : List Int) : Prop := ∀ i, i + 1 < xs.length → xs.getD i 0 ≤ xs.getD (i + 1) 0
noncomputable def srtB (xs : List Int) : Bool := @decide (SrtP xs) (Classical.propDecidable _)
theorem srtB_true {xs : List Int} (h : SrtP xs) : srtB xs = true := by unfold srtB; simp [h]
theorem srtB_false {xs : List Int} (h : ¬ SrtP xs) : srtB xs = false := by unfold srtB; simp [h]
theorem srtB_iff {xs : List Int} : srtB xs = true ↔ SrtP xs := by unfold srtB; simp

set_option maxHeartbeats 1000000 in
theorem isSorted_any (A : Option Addr) (n c : Nat) (xs : List Int) (w : World) (hn : n = xs.length) (hsm : n ≤ 1099511627776) (hR : Rd w A (iv xs)) :
    Calls Tryz.prog 119 #[.slice A n c] w fun e w' => e = .returned (.bool (srtB xs)) ∧ ∃ m, w.drewN m = w' := by
  have HR := Lib.hid hR
  have Hn := Lib.hid hn
  clear hR hn
  go_enter Tryz.func119, Tryz.ntmps119
  go_wp2_with fail
  go_loopw [3] (fun i wr => ∃ k j : Nat, k ≤ n ∧ i = .int .i64 ((k : Int) - 1) ∧ wr = w.drewN j ∧ Hid (∀ t, k ≤ t + 1 → t + 1 < n → xs.getD t 0 ≤ xs.getD (t + 1) 0)) (fun i _ => (intOf i + 1).toNat)
  case atStart => exact ⟨n, 0, by omega, rfl, rfl, Lib.hid (fun t h1 h2 => by omega)⟩
  case round =>
    obtain ⟨k, j, hk, rfl, rfl, HQ⟩ := hrel
    by_cases h2 : 2 ≤ k
    · obtain ⟨q, rfl⟩ : ∃ q, k = q + 2 := ⟨k - 2, by omega⟩
      have e1 : (((q + 2 : Nat) : Int) - 1) = (q : Int) + 1 := by omega
      rw [e1]
      clear e1
      obtain ⟨b, o, rfl, hc0⟩ := HR.out.atI (k := q) (by rw [← Hn.out]; omega)
      have hc1 := HR.out.cellI (k := q + 1) (by rw [← Hn.out]; omega)
      have hw1 : IntKind.i64.wrap ((q : Int) + 1 - 1) = (q : Int) := by rw [IntKind.wrap_i64]; omega
      have hi0 : (q : Int) < (n : Int) := by omega
      have hi1 : (q : Int) + 1 < (n : Int) := by omega
      have hi2 : 0 < (q : Int) + 1 := by omega
      have hi3 : 0 ≤ (q : Int) + 1 := by omega
      have hi4 : ((q : Int) + 1).toNat = q + 1 := by omega
      have HL := Lib.hid (fun W => cmpLess_any (xs.getD (q + 1) 0) (xs.getD q 0) W)
      by_cases hlt : xs.getD (q + 1) 0 < xs.getD q 0
      · have HF := Lib.hid (srtB_false (xs := xs) (fun h => by have := h q (by rw [← Hn.out]; omega); omega))
        rw [decide_eq_true hlt] at HL
        clear hlt
        generalize xs.getD (q + 1) 0 = x at *
        generalize xs.getD q 0 = y at *
        go_wp2_with fail
        go_big_quiet ((go_at_call 137; first | exact quiet_add_left (HL.out _) | exact quiet_left (HL.out _)))
        go_wp2_with fail
        go_ret
        exact ⟨by rw [HF.out]; rfl, _, by rw [World.drewN_drewN]⟩
      · have HQ2 : Hid (∀ t, q + 1 ≤ t + 1 → t + 1 < n → xs.getD t 0 ≤ xs.getD (t + 1) 0) := Lib.hid (fun t h1 h2 => by
          by_cases e : t = q
          · subst e; omega
          · exact HQ.out t (by omega) h2)
        rw [decide_eq_false hlt] at HL
        clear hlt
        generalize xs.getD (q + 1) 0 = x at *
        generalize xs.getD q 0 = y at *
        go_wp2_with fail
        go_big_quiet ((go_at_call 137; first | exact quiet_add_left (HL.out _) | exact quiet_left (HL.out _)))
        clear hw1 hi0 hi1 hi2 hi3 hi4
        go_wp2_with fail
        go_roundw
        case rel => exact ⟨q + 1, _, by omega, congrArg (Value.int .i64) (by omega), rfl, HQ2⟩
        case measure => simp [intOf]; omega
    · have hi1 : ¬ (0 : Int) < (k : Int) - 1 := by omega
      have HT := Lib.hid (srtB_true (xs := xs) (fun t ht => HQ.out t (by omega) (by rw [Hn.out]; exact ht)))
      go_wp2_with fail
      go_ret
      exact ⟨by rw [HT.out]; rfl, j, rfl⟩

def cmpI (x y : Int) : Int := if x < y then -1 else if y < x then 1 else 0
theorem cmpCompare_any (x y : Int) (w : World) : Calls Tryz.prog 155 #[.int .i64 x, .int .i64 y] w fun e w' => e = .returned (.int .i64 (cmpI x y)) ∧ w = w' := by
  have HN := Lib.hid (fun z W => isNaN_any z W)
  by_cases h : x < y
  · have HE : Hid (cmpI x y = -1) := Lib.hid (by unfold cmpI; rw [if_pos h])
    go_enter Tryz.func155, Tryz.ntmps155
    go_wp2_with (go_at_call 154; refine (HN.out _ _).mono ?_; rintro e w' ⟨rfl, rfl⟩)
    go_ret
    exact ⟨by rw [HE.out]; rfl, rfl⟩
  · by_cases h' : y < x
    · have HE : Hid (cmpI x y = 1) := Lib.hid (by unfold cmpI; rw [if_neg h, if_pos h'])
      go_enter Tryz.func155, Tryz.ntmps155
      go_wp2_with (go_at_call 154; refine (HN.out _ _).mono ?_; rintro e w' ⟨rfl, rfl⟩)
      go_ret
      exact ⟨by rw [HE.out]; rfl, rfl⟩
    · have HE : Hid (cmpI x y = 0) := Lib.hid (by unfold cmpI; rw [if_neg h, if_neg h'])
      go_enter Tryz.func155, Tryz.ntmps155
      go_wp2_with (go_at_call 154; refine (HN.out _ _).mono ?_; rintro e w' ⟨rfl, rfl⟩)
      go_ret
      exact ⟨by rw [HE.out]; rfl, rfl⟩

/-- the order of lists as a number -/
def cmpL (x y : List Int) : Int := if lexLt x y = true then -1 else if x = y then 0 else 1
set_option maxHeartbeats 1000000 in
theorem slCompare_any (A B : Option Addr) (n n' c c' : Nat) (x y : List Int) (w : World) (hn : n = x.length) (hn' : n' = y.length) (hsm : n ≤ 1099511627776) (hsm' : n' ≤ 1099511627776) (hA : Rd w A (iv x)) (hB : Rd w B (iv y)) :
    Calls Tryz.prog 138 #[.slice A n c, .slice B n' c'] w fun e w' => e = .returned (.int .i64 (cmpL x y)) ∧ w = w' := by
  have HA := Lib.hid hA
  have HB := Lib.hid hB
  have Hn := Lib.hid hn
  have Hn' := Lib.hid hn'
  clear hA hB hn hn'
  go_enter Tryz.func138, Tryz.ntmps138
  go_wp2_with fail
  go_loop [11] (fun i => ∃ k : Nat, k ≤ n ∧ k ≤ n' ∧ i = .int .i64 k ∧ Hid (∀ t, t < k → x.getD t 0 = y.getD t 0)) (fun i => n - (intOf i).toNat)
  case atStart => exact ⟨0, by omega, by omega, rfl, Lib.hid (fun t ht => by omega)⟩
  case round =>
    obtain ⟨k, hk, hk', rfl, HQ⟩ := hrel
    by_cases hlt : k < n
    · have hx : k < x.length := by rw [← Hn.out]; exact hlt
      obtain ⟨b1, o1, rfl, hc1⟩ := HA.out.atI hx
      by_cases hlt' : k < n'
      · have hy : k < y.length := by rw [← Hn'.out]; exact hlt'
        obtain ⟨b2, o2, rfl, hc2⟩ := HB.out.atI hy
        have HAT := Lib.hid (fun hne => lexLt_at hx hy HQ.out hne)
        have HC := Lib.hid (fun W => cmpCompare_any (x.getD k 0) (y.getD k 0) W)
        clear hx hy
        generalize hp : x.getD k 0 = p at *
        generalize hq : y.getD k 0 = q at *
        have HP := Lib.hid hp
        have HQ' := Lib.hid hq
        clear hp hq
        rcases Int.lt_trichotomy p q with h | h | h
        · have HE : Hid (cmpI p q = -1) := Lib.hid (by unfold cmpI; rw [if_pos h])
          have HF : Hid (cmpL x y = -1) := Lib.hid (by unfold cmpL; rw [HAT.out (by omega), if_pos (by simpa using h)])
          rw [HE.out] at HC
          clear h
          go_wp2_with (go_at_call 155; refine (HC.out _).mono ?_; rintro e w' ⟨rfl, rfl⟩)
          go_ret
          exact ⟨by rw [HF.out]; rfl, rfl⟩
        · have HE : Hid (cmpI p q = 0) := Lib.hid (by unfold cmpI; rw [if_neg (by omega), if_neg (by omega)])
          rw [HE.out] at HC
          have HPQ := Lib.hid h
          clear h
          go_wp2_with (go_at_call 155; refine (HC.out _).mono ?_; rintro e w' ⟨rfl, rfl⟩)
          go_round
          case rel =>
            refine ⟨k + 1, by omega, by omega, by go_num, Lib.hid (fun t ht => ?_)⟩
            by_cases e : t = k
            · subst e; rw [HP.out, HQ'.out, HPQ.out]
            · exact HQ.out t (by omega)
          case measure => simp [intOf]; omega
        · have HE : Hid (cmpI p q = 1) := Lib.hid (by unfold cmpI; rw [if_neg (by omega), if_pos h])
          have HF : Hid (cmpL x y = 1) := Lib.hid (by
            unfold cmpL
            rw [HAT.out (by omega), if_neg (by simp; omega), if_neg]
            intro e; subst e
            have := HP.out.symm.trans HQ'.out
            omega)
          rw [HE.out] at HC
          clear h
          go_wp2_with (go_at_call 155; refine (HC.out _).mono ?_; rintro e w' ⟨rfl, rfl⟩)
          go_ret
          exact ⟨by rw [HF.out]; rfl, rfl⟩
      · have HF : Hid (cmpL x y = 1) := Lib.hid (by
          have h1 := lexLt_end (by rw [← Hn.out]; omega) (by rw [← Hn'.out]; omega) HQ.out (.inr (by rw [← Hn'.out]; omega))
          rw [← Hn.out, ← Hn'.out, decide_eq_false (by omega)] at h1
          unfold cmpL
          rw [h1, if_neg (by simp), if_neg]
          intro e; subst e
          have := Hn.out.trans Hn'.out.symm
          omega)
        go_wp2_with fail
        go_ret
        exact ⟨by rw [HF.out]; rfl, rfl⟩
    · have h1 := lexLt_end (by rw [← Hn.out]; omega) (by rw [← Hn'.out]; omega) HQ.out (.inl (by rw [← Hn.out]; omega))
      rw [← Hn.out, ← Hn'.out] at h1
      by_cases hnn : n < n'
      · have HF : Hid (cmpL x y = -1) := Lib.hid (by unfold cmpL; rw [h1, if_pos (by simpa using hnn)])
        clear h1
        go_wp2_with fail
        go_ret
        exact ⟨by rw [HF.out]; rfl, rfl⟩
      · have HF : Hid (cmpL x y = 0) := Lib.hid (by
          unfold cmpL
          rw [h1, if_neg (by simpa using hnn), if_pos]
          exact list_ext_getD Hn.out.symm (by rw [← Hn'.out]; omega) (fun i hi => HQ.out i (by omega)))
        clear h1
        go_wp2_with fail
        go_ret
        exact ⟨by rw [HF.out]; rfl, rfl⟩
theorem cmpL_lt {x y : List Int} (h : lexLt x y = true) : cmpL x y = -1 := by unfold cmpL; rw [if_pos h]
theorem cmpL_ge {x y : List Int} (h : lexLt x y = false) : 0 ≤ cmpL x y ∧ cmpL x y ≤ 1 := by unfold cmpL; rw [if_neg (by rw [h]; simp)]; split <;> omega

set_option maxHeartbeats 1000000 in
theorem rising_any (A : Option Addr) (n c : Nat) (L : List Row) (w : World) (hn : n = L.length) (hsm : n ≤ 1099511627776) (hl : ∀ i, i < L.length → (rg L i).xs.length ≤ 1099511627776) (hR : RdR w A L) :
    Calls Tryz.prog 120 #[.slice A n c] w fun e w' => e = .returned (.bool (ascB (dat L))) ∧ ∃ m, w.drewN m = w' := by
  have HR := Lib.hid hR
  have Hn := Lib.hid hn
  have HL := Lib.hid hl
  clear hR hn hl
  go_enter Tryz.func120, Tryz.ntmps120
  go_wp2_with fail
  go_loopw [3] (fun i wr => ∃ k j : Nat, k ≤ n ∧ i = .int .i64 ((k : Int) + 1) ∧ wr = w.drewN j ∧ Hid (∀ t, t < k → lexLt ((dat L).getD t []) ((dat L).getD (t + 1) []) = true)) (fun i _ => n + 1 - (intOf i).toNat)
  case atStart => exact ⟨0, 0, by omega, rfl, rfl, Lib.hid (fun t ht => by omega)⟩
  case round =>
    obtain ⟨k, j, hk, rfl, rfl, HQ⟩ := hrel
    by_cases hlt : k + 1 < n
    · have hk0 : k < L.length := by rw [← Hn.out]; omega
      have hk1 : k + 1 < L.length := by rw [← Hn.out]; omega
      have hi1 : (k : Int) + 1 < (n : Int) := by omega
      have hi2 : 0 ≤ (k : Int) + 1 := by omega
      have hi3 : ((k : Int) + 1).toNat = k + 1 := by omega
      obtain ⟨b, o, rfl, hc0⟩ := HR.out.at_ hk0
      have hc1 := HR.out.cell hk1
      have h0 := HR.out.inn k hk0
      have h1 := HR.out.inn (k + 1) hk1
      have l0 := HL.out k hk0
      have l1 := HL.out (k + 1) hk1
      have HE : Hid (lexLt ((dat L).getD k []) ((dat L).getD (k + 1) []) = lexLt (rg L k).xs (rg L (k + 1)).xs) := Lib.hid (by rw [dat_getD, dat_getD])
      generalize rg L k = r at *
      generalize rg L (k + 1) = s at *
      obtain ⟨rA, rc, rx⟩ := r
      obtain ⟨sA, sc, sx⟩ := s
      simp only at hc0 hc1 h0 h1 l0 l1 HE
      have HC := Lib.hid (fun W hb => slCompare_any rA sA rx.length sx.length rc sc rx sx W rfl rfl l0 l1 (Rd.below h0 hb) (Rd.below h1 hb))
      clear h0 h1
      cases hb : lexLt rx sx
      · have hz := cmpL_ge hb
        have HF := Lib.hid (ascB_false (Q := dat L) (fun h => by have := h k (by rw [dat_length]; exact hk1); rw [HE.out, hb] at this; cases this))
        generalize cmpL rx sx = z at *
        obtain ⟨hz1, hz2⟩ := hz
        clear hb
        go_wp2_with fail
        go_big_quiet ((go_at_call 138; first | exact quiet_add_left (HC.out _ (below_drewN (Below.refl _ _) _)) | exact quiet_left (HC.out _ (below_drewN (Below.refl _ _) _))))
        go_wp2_with fail
        go_ret
        exact ⟨by rw [HF.out]; rfl, _, by rw [World.drewN_drewN]⟩
      · rw [cmpL_lt hb] at HC
        have HB := Lib.hid hb
        clear hb
        go_wp2_with fail
        go_big_quiet ((go_at_call 138; first | exact quiet_add_left (HC.out _ (below_drewN (Below.refl _ _) _)) | exact quiet_left (HC.out _ (below_drewN (Below.refl _ _) _))))
        go_wp2_with fail
        go_roundw
        case rel =>
          refine ⟨k + 1, _, by omega, by go_num, rfl, Lib.hid (fun t ht => ?_)⟩
          by_cases e : t = k
          · subst e; rw [HE.out]; exact HB.out
          · exact HQ.out t (by omega)
        case measure => simp [intOf]; omega
    · have hi1 : ¬ (k : Int) + 1 < (n : Int) := by omega
      have HT := Lib.hid (ascB_true (Q := dat L) (fun i hi => HQ.out i (by rw [dat_length, ← Hn.out] at hi; omega)))
      go_wp2_with fail
      go_ret
      exact ⟨by rw [HT.out]; rfl, j, rfl⟩
end Go.Proofs.YtpchigdhnnkpcaaGreatDoor

namespace Go.Proofs.YtpchigdhnnkpcaaGreatDoor
open Go.RowKit

set_option maxHeartbeats 400000 in
theorem indexFuncR_any (A : Option Addr) (n c : Nat) (L : List Row) (fn : FuncId) (cv : Value) (p : Row → Bool) (w : World) (hcf : Ent fn) (hn : n = L.length) (hsm : n ≤ 1099511627776) (hR : Rd w A (hv L))
    (hf : ∀ r ∈ L, Asks Tryz.prog fn cv w r.val (p r)) :
    Calls Tryz.prog 156 #[.slice A n c, .func (.func fn) #[] #[cv]] w fun e w' =>
      e = .returned (.int .i64 (placeOf (L.findIdx? p))) ∧ ∃ m, w.drewN m = w' := by
  have Hn := Lib.hid hn; clear hn
  have HF := Lib.hid hf; clear hf
  have HR := Lib.hid hR; clear hR
  unfold Ent at hcf
  go_enter Tryz.func156, Tryz.ntmps156
  go_wp2_with fail
  go_loopw [8] (fun i wr => ∃ k : Nat, k ≤ n ∧ i = .int .i64 k ∧ (∃ m, wr = w.drewN m) ∧ (L.take k).findIdx? p = none) (fun i _ => n - (intOf i).toNat)
  case atStart => exact ⟨0, by omega, rfl, ⟨0, rfl⟩, by simp⟩
  case round =>
    obtain ⟨k, hk, rfl, ⟨m, rfl⟩, hp⟩ := hrel
    have HP := Lib.hid hp; clear hp
    by_cases hlt : k < n
    · have hkL : k < L.length := by rw [← Hn.out]; exact hlt
      obtain ⟨b, o, rfl, hc⟩ : ∃ b o, A = some ⟨b, o, none⟩ ∧ w.cell? ⟨b, o + k, none⟩ = some (rg L k).val := by
        rcases HR.out with h' | ⟨b, o, rfl, h'⟩
        · have := congrArg List.length h'; simp [hv_length] at this; subst this; simp at hkL
        · exact ⟨b, o, rfl, h' k _ (hv_get hkL)⟩
      have ha := HF.out _ (rg_mem hkL) m
      have HX := Lib.hid (rg_of hkL)
      generalize rg L k = x at *
      have HA := Lib.hid ha; clear ha
      generalize hv : x.val = v at *
      clear hv
      cases hb : p x
      · rw [hb] at HA
        go_wp2_with fail
        refine HA.out.mono ?_
        rintro e w' ⟨rfl, m', rfl⟩
        go_wp2_with fail
        go_roundw
        case rel => exact ⟨k + 1, by omega, by go_num, ⟨m', rfl⟩, by rw [List.take_succ_eq_append_getElem hkL, List.findIdx?_append, HP.out, ← HX.out]; simp [hb]⟩
        case measure => simp [intOf]; omega
      · rw [hb] at HA
        go_wp2_with fail
        refine HA.out.mono ?_
        rintro e w' ⟨rfl, m', rfl⟩
        go_wp2_with fail
        go_ret
        refine ⟨?_, m', rfl⟩
        have e : L.findIdx? p = some k := by
          rw [← List.take_append_drop k L, List.findIdx?_append, HP.out, List.drop_eq_getElem_cons hkL, ← HX.out]
          simp [hb, Nat.min_eq_left (Nat.le_of_lt hkL), List.findIdx?_cons]
        rw [e]
        rfl
    · have ek : L.take k = L := List.take_of_length_le (by rw [← Hn.out]; omega)
      go_wp2_with fail
      go_ret
      refine ⟨?_, m, rfl⟩
      have e : L.findIdx? p = none := by rw [← ek, HP.out]
      rw [e]
      rfl

set_option maxHeartbeats 400000 in
theorem containsFuncR_any (A : Option Addr) (n c : Nat) (L : List Row) (fn : FuncId) (cv : Value) (p : Row → Bool) (w : World) (hcf : Ent fn) (hn : n = L.length) (hsm : n ≤ 1099511627776) (hR : Rd w A (hv L))
    (hf : ∀ r ∈ L, Asks Tryz.prog fn cv w r.val (p r)) :
    Calls Tryz.prog 139 #[.slice A n c, .func (.func fn) #[] #[cv]] w fun e w' =>
      e = .returned (.bool (L.any p)) ∧ ∃ m, w.drewN m = w' := by
  have HC := Lib.hid (indexFuncR_any A n c L fn cv p w hcf hn hsm hR hf)
  clear hn hR hf hsm
  cases h : L.findIdx? p with
  | none =>
    rw [h] at HC
    have e : L.any p = false := by rw [List.any_eq_false]; rw [findIdx_none] at h; simpa using h
    have HE := Lib.hid e; clear e h
    go_enter Tryz.func139, Tryz.ntmps139
    go_wp2_with (go_at_call 156; refine HC.out.mono ?_; rintro e w' ⟨rfl, m', rfl⟩)
    go_ret
    exact ⟨by rw [HE.out]; rfl, m', rfl⟩
  | some k =>
    rw [h] at HC
    have e : L.any p = true := by
      cases ha : L.any p with
      | true => rfl
      | false =>
        rw [List.any_eq_false] at ha
        have : L.findIdx? p = none := by rw [findIdx_none]; simpa using ha
        rw [this] at h; cases h
    have HE := Lib.hid e; clear e h
    have hk : ¬ (k : Int) < 0 := by omega
    go_enter Tryz.func139, Tryz.ntmps139
    go_wp2_with (go_at_call 156; refine HC.out.mono ?_; rintro e w' ⟨rfl, m', rfl⟩)
    go_ret
    exact ⟨by rw [HE.out]; simp [placeOf], m', rfl⟩

/-- What a predicate's closure of several captured variables answers. -/
def AsksN (P : Program) (fn : FuncId) (cvs : Array Value) (w : World) (x : Value) (b : Bool) : Prop :=
  ∀ m, Calls P fn (#[x] ++ cvs) (w.drewN m) fun e w' => e = .returned (.bool b) ∧ ∃ m', w.drewN m' = w'
set_option maxHeartbeats 400000 in
/-- all(lists, holds), 'holds' a closure that only looks. -/
theorem allR_any (A : Option Addr) (n c : Nat) (L : List Row) (fn : FuncId) (cvs : Array Value) (p : Row → Bool) (w : World) (hcf : Ent fn) (hn : n = L.length) (hsm : n ≤ 1099511627776) (hR : Rd w A (hv L))
    (hf : ∀ r ∈ L, ∀ o, AsksN Tryz.prog fn cvs (w.alloc o) r.val (p r)) :
    Calls Tryz.prog 121 #[.slice A n c, .func (.func fn) #[] cvs] w fun e w' =>
      e = .returned (.bool (L.all p)) ∧ Below w.heap.size w w' := by
  have key : ∀ r ∈ L, Asks Tryz.prog 140 (.pointer (some ⟨w.heap.size, 0, none⟩)) (w.alloc (.cells #[.func (.func fn) #[] cvs] 120)) r.val (!(p r)) := by
    intro r hr m
    have HF := Lib.hid (hf r hr (.cells #[.func (.func fn) #[] cvs] 120) m)
    clear hf hR
    unfold Ent at hcf
    have hc : (w.alloc (.cells #[.func (.func fn) #[] cvs] 120)).cell? ⟨w.heap.size, 0, none⟩ = some (.func (.func fn) #[] cvs) := new_cell _ _ _
    generalize r.val = v at *
    go_enter Tryz.func140, Tryz.ntmps140
    go_wp2_with fail
    refine HF.out.mono ?_
    rintro e w' ⟨rfl, m', rfl⟩
    go_wp2_with fail
    go_ret
    exact ⟨rfl, m', rfl⟩
  have hR' : Rd (w.alloc (.cells #[.func (.func fn) #[] cvs] 120)) A (hv L) := hR.alloc _
  have HC := Lib.hid (containsFuncR_any A n c L _ _ _ _ (fun args w => Tryz.call140 args w) hn hsm hR' key)
  have e : (!(L.any fun x => !(p x))) = L.all p := by simp [List.all_eq_not_any_not]
  have HE := Lib.hid e; clear e key hR' hR hf hn hsm
  go_enter Tryz.func121, Tryz.ntmps121
  go_wp2_with (go_at_call 139; refine HC.out.mono ?_; rintro e w' ⟨rfl, m', rfl⟩)
  go_ret
  exact ⟨by rw [← HE.out]; rfl, below_drewN ((Below.refl _ _).alloc (Nat.le_refl _) _) m'⟩
end Go.Proofs.YtpchigdhnnkpcaaGreatDoor

namespace Go.Proofs.YtpchigdhnnkpcaaGreatDoor
open Go.RowKit

noncomputable def entB (xs e : List Int) : Bool := @decide (EntM xs e) (Classical.propDecidable _)
theorem entB_true {xs e : List Int} (h : EntM xs e) : entB xs e = true := by unfold entB; simp [h]
theorem entB_false {xs e : List Int} (h : ¬ EntM xs e) : entB xs e = false := by unfold entB; simp [h]
theorem entB_iff {xs e : List Int} : entB xs e = true ↔ EntM xs e := by unfold entB; simp

theorem isStem_any (x : Int) (w : World) : Calls Tryz.prog 118 #[.int .i64 x] w fun e w' => e = .returned (.bool (inB x 0 20)) ∧ w = w' := by
  have HI := Lib.hid (fun W => in_any x 0 20 W)
  go_enter Tryz.func118, Tryz.ntmps118
  go_wp2_with (go_at_call 123; refine (HI.out _).mono ?_; rintro e w' ⟨rfl, rfl⟩)
  go_ret
  exact ⟨rfl, rfl⟩

set_option maxRecDepth 100000 in
set_option maxHeartbeats 2000000 in
theorem entAsk (wc : World) (lb mb n c : Nat) (A : Option Addr) (xs : List Int) (r : Row) (hn : n = xs.length) (hn16 : n ≤ 16) (hd : ∀ i, i < xs.length → 0 ≤ xs.getD i 0 ∧ xs.getD i 0 ≤ 20)
    (hlc : wc.cell? ⟨lb, 0, none⟩ = some (.int .i64 ((n : Int) - 1))) (hmc : wc.cell? ⟨mb, 0, none⟩ = some (.slice A n c)) (hR : Rd wc A (iv xs)) (hr : Rd wc r.A (iv r.xs)) (hle : r.xs.length ≤ 1048576) :
    AsksN Tryz.prog 122 #[.pointer (some ⟨lb, 0, none⟩), .pointer (some ⟨mb, 0, none⟩)] wc r.val (entB xs r.xs) := by
  intro q
  obtain ⟨rA, rc, rx⟩ := r
  simp only [Row.val] at hr hle ⊢
  show Calls Tryz.prog 122 #[.slice rA rx.length rc, .pointer (some ⟨lb, 0, none⟩), .pointer (some ⟨mb, 0, none⟩)] (wc.drewN q) _
  have HNO := Lib.hid (fun (h : ¬ EntM xs rx) => entB_false h)
  have Hn := Lib.hid hn
  have HD := Lib.hid hd
  by_cases h3 : rx.length = 3
  · have HR := Lib.hid hR
    obtain ⟨b1, o1, rfl, hy0⟩ := hr.atI (k := 0) (by omega)
    rw [Nat.add_zero] at hy0
    have hy1 := hr.cellI (k := 1) (by omega)
    have hy2 := hr.cellI (k := 2) (by omega)
    have HI0 := Lib.hid (fun W => in_any (rx.getD 0 0) 1 20 W)
    have HI1 := Lib.hid (fun W => in_any (rx.getD 1 0) 0 ((n : Int) - 1) W)
    have HI2 := Lib.hid (fun W => in_any (rx.getD 2 0) 0 ((n : Int) - 1) W)
    have HM := Lib.hid (fun (g0 : 1 ≤ rx.getD 0 0) g1 g2 g3 g4 g5 => entB_true (⟨h3, g0, g1, g2, g3, g4, g5⟩ : EntM xs rx))
    have HN0 := Lib.hid (fun (h : ¬ (1 ≤ rx.getD 0 0 ∧ rx.getD 0 0 ≤ 20)) => HNO.out (fun e => h ⟨e.pos, e.le20 hd⟩))
    have HN1 := Lib.hid (fun (h : ¬ (0 ≤ rx.getD 1 0 ∧ rx.getD 1 0 ≤ (n : Int) - 1)) => HNO.out (fun e => h ⟨e.lo1, by have := e.hi1; omega⟩))
    have HN2 := Lib.hid (fun (h : ¬ (0 ≤ rx.getD 2 0 ∧ rx.getD 2 0 ≤ (n : Int) - 1)) => HNO.out (fun e => h ⟨e.lo2, by have := e.hi2; omega⟩))
    have HN3 := Lib.hid (fun (h : ¬ xs.getD (rx.getD 2 0).toNat 0 = xs.getD (rx.getD 1 0).toNat 0 + rx.getD 0 0) => HNO.out (fun e => h e.dg))
    rw [h3]
    clear hr hle hn hd hR HNO h3
    generalize rx.getD 0 0 = e0 at *
    generalize rx.getD 1 0 = e1 at *
    generalize rx.getD 2 0 = e2 at *
    cases hb0 : inB e0 1 20
    · rw [hb0] at HI0
      have HF := Lib.hid (HN0.out (inB_not hb0))
      clear hb0
      go_enter Tryz.func122, Tryz.ntmps122
      go_wp2_with fail
      go_big_quiet ((go_at_call 123; first | with_reducible exact quiet_add_left (HI0.out _) | with_reducible exact quiet_left (HI0.out _)))
      go_wp2_with fail
      go_ret
      exact ⟨by rw [HF.out]; rfl, _, by rw [World.drewN_drewN]⟩
    · rw [hb0] at HI0
      obtain ⟨hlo0, hhi0⟩ := inB_true2 hb0
      clear hb0
      cases hb1 : inB e1 0 ((n : Int) - 1)
      · rw [hb1] at HI1
        have HF := Lib.hid (HN1.out (inB_not hb1))
        clear hb1
        go_enter Tryz.func122, Tryz.ntmps122
        go_wp2_with fail
        go_big_quiet ((go_at_call 123; first | with_reducible exact quiet_add_left (HI0.out _) | with_reducible exact quiet_left (HI0.out _) | with_reducible exact quiet_add_left (HI1.out _) | with_reducible exact quiet_left (HI1.out _)))
        go_wp2_with fail
        go_ret
        exact ⟨by rw [HF.out]; rfl, _, by rw [World.drewN_drewN]⟩
      · rw [hb1] at HI1
        obtain ⟨hlo1, hhi1⟩ := inB_true2 hb1
        clear hb1
        cases hb2 : inB e2 0 ((n : Int) - 1)
        · rw [hb2] at HI2
          have HF := Lib.hid (HN2.out (inB_not hb2))
          clear hb2
          go_enter Tryz.func122, Tryz.ntmps122
          go_wp2_with fail
          go_big_quiet ((go_at_call 123; first | with_reducible exact quiet_add_left (HI0.out _) | with_reducible exact quiet_left (HI0.out _) | with_reducible exact quiet_add_left (HI1.out _) | with_reducible exact quiet_left (HI1.out _) | with_reducible exact quiet_add_left (HI2.out _) | with_reducible exact quiet_left (HI2.out _)))
          go_wp2_with fail
          go_ret
          exact ⟨by rw [HF.out]; rfl, _, by rw [World.drewN_drewN]⟩
        · rw [hb2] at HI2
          obtain ⟨hlo2, hhi2⟩ := inB_true2 hb2
          clear hb2
          obtain ⟨i1, rfl⟩ := Int.eq_ofNat_of_zero_le hlo1
          obtain ⟨i2, rfl⟩ := Int.eq_ofNat_of_zero_le hlo2
          rw [Int.toNat_natCast, Int.toNat_natCast] at HN3 HM
          have hi1 : i1 < n := by omega
          have hi2 : i2 < n := by omega
          obtain ⟨b3, o3, rfl, hd1⟩ := HR.out.atI (k := i1) (by rw [← Hn.out]; exact hi1)
          have hd2 := HR.out.cellI (k := i2) (by rw [← Hn.out]; exact hi2)
          have hbd1 := HD.out i1 (by rw [← Hn.out]; exact hi1)
          have hbd2 := HD.out i2 (by rw [← Hn.out]; exact hi2)
          have hi1' : (i1 : Int) < (n : Int) := by omega
          have hi2' : (i2 : Int) < (n : Int) := by omega
          generalize xs.getD i1 0 = d1 at *
          generalize xs.getD i2 0 = d2 at *
          obtain ⟨g1, g2⟩ := hbd1
          obtain ⟨g3, g4⟩ := hbd2
          have hw2 : IntKind.i64.wrap (d1 + e0) = d1 + e0 := by rw [IntKind.wrap_i64]; omega
          by_cases heq : d2 = d1 + e0
          · have HEN := Lib.hid (HM.out (by omega) (by omega) (by rw [← Hn.out]; exact hi1') (by omega) (by rw [← Hn.out]; exact hi2') (by omega))
            have heb : (d2 == d1 + e0) = true := by simpa using heq
            clear heq
            go_enter Tryz.func122, Tryz.ntmps122
            go_wp2_with fail
            go_big_quiet ((go_at_call 123; first | with_reducible exact quiet_add_left (HI0.out _) | with_reducible exact quiet_left (HI0.out _) | with_reducible exact quiet_add_left (HI1.out _) | with_reducible exact quiet_left (HI1.out _) | with_reducible exact quiet_add_left (HI2.out _) | with_reducible exact quiet_left (HI2.out _)))
            go_wp2_with fail
            go_big_quiet (fail)
            go_wp2_with fail
            go_ret
            exact ⟨by rw [HEN.out]; rfl, _, by rw [World.drewN_drewN, World.drewN_drewN]⟩
          · have HF := Lib.hid (HN3.out (by omega))
            have heb : (d2 == d1 + e0) = false := by simpa using heq
            clear heq
            go_enter Tryz.func122, Tryz.ntmps122
            go_wp2_with fail
            go_big_quiet ((go_at_call 123; first | with_reducible exact quiet_add_left (HI0.out _) | with_reducible exact quiet_left (HI0.out _) | with_reducible exact quiet_add_left (HI1.out _) | with_reducible exact quiet_left (HI1.out _) | with_reducible exact quiet_add_left (HI2.out _) | with_reducible exact quiet_left (HI2.out _)))
            go_wp2_with fail
            go_big_quiet (fail)
            go_wp2_with fail
            go_ret
            exact ⟨by rw [HF.out]; rfl, _, by rw [World.drewN_drewN, World.drewN_drewN]⟩
  · have hrb : ((rx.length : Int) != 3) = true := by simp; omega
    have HF := Lib.hid (HNO.out (fun e => h3 e.len))
    clear hr hn hd hR HNO h3
    go_enter Tryz.func122, Tryz.ntmps122
    go_wp2_with fail
    go_big_quiet (fail)
    go_wp2_with fail
    go_ret
    exact ⟨by rw [HF.out]; rfl, _, by rw [World.drewN_drewN]⟩
end Go.Proofs.YtpchigdhnnkpcaaGreatDoor

namespace Go.Proofs.YtpchigdhnnkpcaaGreatDoor
open Go.RowKit

theorem stem_closure (w : World) (x : Int) : Asks0 Tryz.prog 118 w (.int .i64 x) (inB x 0 20) := by
  intro m
  exact (isStem_any x (w.drewN m)).mono fun e w' ⟨he, hw⟩ => ⟨he, m, hw⟩

theorem all_shp {xs : List Int} {L : List Row} (h1 : xs.length ≤ 16) (h2 : ∀ i, i < xs.length → 0 ≤ xs.getD i 0 ∧ xs.getD i 0 ≤ 20) (h3 : SrtP xs) (h4 : AscP (dat L)) : (L.all fun r => entB xs r.xs) = shpB xs (dat L) := by
  rw [Bool.eq_iff_iff, List.all_eq_true, show shpB xs (dat L) = true ↔ Shp xs (dat L) by unfold shpB; simp]
  constructor
  · intro h
    refine ⟨h1, h2, h3, h4, fun k hk => ?_⟩
    rw [dat_length] at hk
    rw [dat_getD]
    exact entB_iff.1 (h _ (rg_mem hk))
  · intro h r hr
    obtain ⟨i, hi, rfl⟩ := List.getElem_of_mem hr
    have := h.ent i (by rw [dat_length]; exact hi)
    rw [dat_getD, rg_of hi] at this
    exact entB_true this

set_option maxRecDepth 100000 in
set_option maxHeartbeats 2000000 in
theorem isTable_any (A A' : Option Addr) (n c m c' : Nat) (xs : List Int) (L : List Row) (w : World) (hn : n = xs.length) (hsm : n ≤ 1048576) (hR : Rd w A (iv xs)) (hm : m = L.length) (hm1 : m ≤ 1048576) (hl : ∀ i, i < L.length → (rg L i).xs.length ≤ 1048576) (hR' : RdR w A' L) :
    Calls Tryz.prog 101 #[.agg #[.slice A n c, .slice A' m c']] w fun e w' => e = .returned (.bool (shpB xs (dat L))) ∧ Below w.heap.size w w' := by
  have hb0 : Below w.heap.size w (w.alloc (.cells #[.slice A n c, .slice A' m c'] 29)) := (Below.refl _ _).alloc (Nat.le_refl _) _
  have hk0 := blk_new w (.cells #[.slice A n c, .slice A' m c'] 29)
  obtain ⟨x0, x1, xf0, xf1, lx⟩ := blk2cells hk0
  have HB0 := Lib.hid hb0
  have HK0 := Lib.hid hk0
  by_cases h16 : n ≤ 16
  · have h16b : decide ((16 : Int) < (n : Int)) = false := by simp; omega
    have HAL := Lib.hid (all0_any A n c xs 118 (fun x => inB x 0 20) _ (fun args w => Tryz.call118 args w) hn (by omega) (hR.below hb0) (fun x _ o => stem_closure _ x))
    have HSO := Lib.hid (fun W (hb : Below w.heap.size w W) => isSorted_any A n c xs W hn (by omega) (hR.below hb))
    have HRI := Lib.hid (fun W (hb : Below w.heap.size w W) => rising_any A' m c' L W hm (by omega) (fun i hi => Nat.le_trans (hl i hi) (by omega)) (hR'.below hb))
    have HR := Lib.hid hR
    have HR' := Lib.hid hR'
    have Hn := Lib.hid hn
    have Hm := Lib.hid hm
    have HL := Lib.hid hl
    clear hb0 hk0 hn hR hm hl hR'
    cases hall : xs.all fun x => inB x 0 20
    · rw [hall] at HAL
      have HF := Lib.hid (shpB_false (xs := xs) (Q := dat L) (fun h => by
        have := (all_getD (xs := xs) (p := fun x => inB x 0 20)).2 fun t ht => inB_eq_true (h.deg t ht).1 (h.deg t ht).2
        rw [this] at hall; cases hall))
      clear hall
      go_enter Tryz.func101, Tryz.ntmps101
      go_wp2_with (go_at_call 117; refine HAL.out.mono ?_; rintro e w1 ⟨rfl, hb⟩; have HB1 := Lib.hid (HB0.out.trans (hb.mono HB0.out.size)); clear hb)
      go_ret
      exact ⟨by rw [HF.out]; rfl, HB1.out⟩
    · rw [hall] at HAL
      have HD := Lib.hid (fun t (ht : t < xs.length) => inB_true2 (all_getD.1 hall t ht))
      clear hall
      go_enter Tryz.func101, Tryz.ntmps101
      go_wp2_with fail
      refine HAL.out.mono ?_
      rintro e w1 ⟨rfl, hb⟩
      have HB1 := Lib.hid (HB0.out.trans (hb.mono HB0.out.size))
      have HK1 := Lib.hid (blk_kept HK0.out hb)
      clear hb x0 x1 xf0 xf1 lx HAL HK0 HB0
      obtain ⟨x0, x1, xf0, xf1, lx⟩ := blk2cells HK1.out
      have hsz := HB1.out.size
      have HS1 := Lib.hid (HSO.out _ HB1.out)
      cases hsrt : srtB xs
      · rw [hsrt] at HS1
        have HF := Lib.hid (shpB_false (xs := xs) (Q := dat L) (fun h => by rw [srtB_true h.srt] at hsrt; cases hsrt))
        clear hsrt
        go_wp2_with (go_at_call 119; refine HS1.out.mono ?_; rintro e w2 ⟨rfl, j, rfl⟩)
        go_ret
        exact ⟨by rw [HF.out]; rfl, below_drewN HB1.out _⟩
      · rw [hsrt] at HS1
        have HSR := Lib.hid (srtB_iff.1 hsrt)
        clear hsrt
        have HRI1 := Lib.hid (fun j => HRI.out _ (below_drewN HB1.out j))
        cases hasc : ascB (dat L)
        · rw [hasc] at HRI1
          have HF := Lib.hid (shpB_false (xs := xs) (Q := dat L) (fun h => by rw [ascB_true h.asc] at hasc; cases hasc))
          clear hasc
          go_wp2_with (first | (go_at_call 119; refine HS1.out.mono ?_; rintro e w2 ⟨rfl, j, rfl⟩) | (go_at_call 120; refine (HRI1.out _).mono ?_; rintro e w2 ⟨rfl, j2, rfl⟩))
          go_ret
          exact ⟨by rw [HF.out]; rfl, below_drewN HB1.out _⟩
        · rw [hasc] at HRI1
          have HAS := Lib.hid (ascB_iff.1 hasc)
          clear hasc
          go_wp2_with fail
          refine HS1.out.mono ?_
          rintro e w2 ⟨rfl, j, hw⟩
          have HB2 : Hid (Below w.heap.size w w2) := Lib.hid (hw ▸ below_drewN HB1.out j)
          have HK2 : Hid (w2.heap[w.heap.size]? = some (.cells #[.slice A n c, .slice A' m c'] 29 (0, 0))) := Lib.hid (hw ▸ HK1.out)
          have HRI2 := Lib.hid (hw ▸ HRI1.out j)
          clear hw x0 x1 xf0 xf1 lx
          obtain ⟨x0, x1, xf0, xf1, lx⟩ := blk2cells HK2.out
          go_wp2_with fail
          refine HRI2.out.mono ?_
          rintro e w3 ⟨rfl, j2, hw⟩
          have HB3 : Hid (Below w.heap.size w w3) := Lib.hid (hw ▸ below_drewN HB2.out j2)
          have HK3 : Hid (w3.heap[w.heap.size]? = some (.cells #[.slice A n c, .slice A' m c'] 29 (0, 0))) := Lib.hid (hw ▸ HK2.out)
          clear hw x0 x1 xf0 xf1 lx
          obtain ⟨x0, x1, xf0, xf1, lx⟩ := blk2cells HK3.out
          have hsz3 := HB3.out.size
          have HALL := Lib.hid (allR_any A' m c' L 122 #[.pointer (some ⟨w3.heap.size, 0, none⟩), .pointer (some ⟨w.heap.size, 0, none⟩)] (fun r => entB xs r.xs) (w3.alloc (.cells #[.int .i64 ((n : Int) - 1)] 2)) (fun args w => Tryz.call122 args w) Hm.out (by omega) ((HR'.out.below (HB3.out.alloc hsz3 _)).out) (fun r hr o => by
            obtain ⟨i, hi, rfl⟩ := List.getElem_of_mem hr
            have hbo : Below w.heap.size w ((w3.alloc (.cells #[.int .i64 ((n : Int) - 1)] 2)).alloc o) := (HB3.out.alloc hsz3 _).alloc (by simp; omega) o
            have hin := (HR'.out.below hbo).inn i hi
            have hle := HL.out i hi
            rw [rg_of hi] at hin hle
            refine entAsk _ w3.heap.size w.heap.size n c A xs L[i] Hn.out h16 HD.out ?_ ?_ (HR.out.below hbo) hin hle
            · exact new_cell2 _ _ _ _
            · exact cell_keep x0 (((Below.refl _ _).alloc (Nat.le_refl _) _).alloc (by simp) o)))
          have HFIN := Lib.hid (all_shp (xs := xs) (L := L) (by rw [← Hn.out]; exact h16) HD.out HSR.out HAS.out)
          clear HRI HRI1 HSO HS1 HRI2
          go_wp2_with fail
          refine HALL.out.mono ?_
          rintro e w4 ⟨rfl, hb⟩
          have HB4 := Lib.hid ((HB3.out.alloc hsz3 (.cells #[.int .i64 ((n : Int) - 1)] 2)).trans (hb.mono (by simp; omega)))
          clear hb
          rw [HFIN.out]
          go_wp2_with fail
          go_ret
          exact ⟨rfl, HB4.out⟩
  · have HF := Lib.hid (shpB_false (xs := xs) (Q := dat L) (fun h => by have := h.len; omega))
    clear hR hR' hn hm hl hb0 hk0
    go_enter Tryz.func101, Tryz.ntmps101
    go_wp2_with fail
    go_ret
    exact ⟨by rw [HF.out]; rfl, HB0.out⟩
end Go.Proofs.YtpchigdhnnkpcaaGreatDoor
