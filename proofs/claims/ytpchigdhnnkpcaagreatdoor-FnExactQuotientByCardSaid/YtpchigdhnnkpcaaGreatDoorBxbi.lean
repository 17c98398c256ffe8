/- the program's SubmoduleOf, QuotientBy (written by mkqu.py) · the reference's SubmoduleOf, QuotientBy · SubmoduleOf, QuotientBy: both sides flattened for mkl3.py -/
import Derived.Test.YtpchigdhnnkpcaaGreatDoorBxbh
import Derived.Test.YtpchigdhnnkpcaaGreatDoorBxbd
import Derived.Test.YtpchigdhnnkpcaaGreatDoorBxav
import Derived.Test.YtpchigdhnnkpcaaGreatDoorBxbb
set_option linter.all false
namespace Go.Proofs.YtpchigdhnnkpcaaGreatDoor
open Go.RowKit

theorem SI.fin {xs : List Int} {Q : List (List Int)} {T : List Nat} (hs : Shp xs Q) (k : Nat) : ∀ b, SI xs Q T b → 16 - b.length ≤ k → ∃ S, IsGen Q T S ∧ SI xs Q T S := by
  induction k with
  | zero =>
    intro b h hk
    have hst := h.step hs
    generalize byDeg xs (moreT Q b b.length) 21 = N at hst
    obtain ⟨s1, s2, s3⟩ := hst
    have l1 := s1.len hs
    exact ⟨b, s3 (by omega), h⟩
  | succ k ih =>
    intro b h hk
    have hst := h.step hs
    generalize byDeg xs (moreT Q b b.length) 21 = N at hst
    obtain ⟨s1, s2, s3⟩ := hst
    have l1 := s1.len hs
    by_cases e : N.length = b.length
    · exact ⟨b, s3 e, h⟩
    · exact ih N s1 (by omega)
theorem genR_ok {xs : List Int} {Q : List (List Int)} {T : List Nat} (hs : Shp xs Q) (h : ∀ r ∈ T, r < 2 ^ xs.length ∧ ∃ d : Nat, d < 21 ∧ Hom xs (d : Int) r) :
    (genR Q T).length ≤ 16 ∧ (∀ r ∈ genR Q T, r ≠ 0 ∧ r < 2 ^ xs.length ∧ ∃ d, Hom xs d r) ∧ Red (genR Q T) := by
  have h0 := SI.of hs (fun r hr => (h r hr).1) (fun r hr _ => (h r hr).2) (T := T) (fun r hr => .mem hr) (fun r hr => .mem hr)
  obtain ⟨S, g, s⟩ := SI.fin hs 16 _ h0 (by omega)
  rw [← g.eq]
  exact ⟨s.len hs, fun r hr => ⟨(s.hom r hr).1, (s.hom r hr).2.1, by obtain ⟨d, _, h⟩ := (s.hom r hr).2.2; exact ⟨d, h⟩⟩, s.red⟩
theorem genC_inv {xs : List Int} {Q P : List (List Int)} (h : genC xs Q P = 0) : modB xs Q = true ∧ P.length ≤ 20 ∧ okB xs P = true ∧ genV xs Q P = genR Q (P.map mk) := by
  cases hm : modB xs Q
  · rw [(genC_1 hm).1] at h; cases h
  · by_cases h2 : P.length ≤ 20 ∧ okB xs P = true
    · exact ⟨rfl, h2.1, h2.2, (genC_0 hm h2.1 h2.2).2⟩
    · rw [(genC_2 hm h2).1] at h; cases h
noncomputable def submoduleOfOf (xs : List Int) (L P : List Row) : (List Int × List (List Int)) × List (List Int) × Int :=
  if genC xs (dat L) (dat P) = 0 then partMR xs (dat L) (genR (dat L) ((dat P).map mk)) else (([], []), [], genC xs (dat L) (dat P))
noncomputable def quotientByOf (xs : List Int) (L P : List Row) : (List Int × List (List Int)) × List (List Int) × Int :=
  if genC xs (dat L) (dat P) = 0 then quotMR xs (dat L) (genR (dat L) ((dat P).map mk)) else (([], []), [], genC xs (dat L) (dat P))
theorem box_mr (w : World) (A A' : Option Addr) (n c m c' : Nat) :
    Below w.heap.size w ((w.alloc (.cells #[.slice A n c, .slice A' m c'] 29)).alloc (.cells #[.slice none 0 0, .slice none 0 0] 29)) ∧
    ((w.alloc (.cells #[.slice A n c, .slice A' m c'] 29)).alloc (.cells #[.slice none 0 0, .slice none 0 0] 29)).heap[w.heap.size]? = some (.cells #[.slice A n c, .slice A' m c'] 29 (0, 0)) ∧
    ((w.alloc (.cells #[.slice A n c, .slice A' m c'] 29)).alloc (.cells #[.slice none 0 0, .slice none 0 0] 29)).heap[w.heap.size + 1]? = some (.cells #[.slice none 0 0, .slice none 0 0] 29 (0, 0)) := by
  refine ⟨((Below.refl _ _).alloc (Nat.le_refl _) _).alloc (by simp) _, blk_alloc (blk_new w _) _, ?_⟩
  have := blk_new (w.alloc (.cells #[.slice A n c, .slice A' m c'] 29)) (.cells #[.slice none 0 0, .slice none 0 0] 29)
  simpa using this

set_option maxRecDepth 100000 in
set_option maxHeartbeats 8000000 in
theorem implSubmoduleOf' (A A' W : Option Addr) (n c m c' k cw : Nat) (xs : List Int) (L P : List Row) (w : World) (hT : Tab w) (hw : 0 < w.heap.size) (hM : ModIn w A n A' m xs L) (hP : RowsIn w W k P) :
    Calls Tryz.prog 34 #[.agg #[.slice A n c, .slice A' m c'], .slice W k cw] w (ResMR (submoduleOfOf xs L P) w) := by
  obtain ⟨hb0, hk1, hk3⟩ := box_mr w A A' n c m c'
  have HGP := Lib.hid (generated_any A A' W n c m c' k cw xs L P _ (hT.below hb0 hw) (by simp) (hM.below hb0) (hP.below hb0))
  have HM := Lib.hid hM
  have HT := Lib.hid hT
  have HB0 := Lib.hid hb0
  have HK1 := Lib.hid hk1
  have HK3 := Lib.hid hk3
  obtain ⟨x0, x1, xf0, xf1, lx⟩ := blk2cells hk1
  clear hb0 hk1 hk3 hM hT hP
  go_enter Tryz.func34, Tryz.ntmps34
  go_wp2_with fail
  refine HGP.out.mono ?_
  rintro e w1 ⟨v0, rfl, ho, hb⟩
  have HB1 := Lib.hid (HB0.out.trans (hb.mono HB0.out.size))
  have HK1a := Lib.hid (blk_kept HK1.out hb)
  have HK3a := Lib.hid (blk_kept HK3.out hb)
  have HO := Lib.hid ho
  clear hb ho x0 x1 xf0 xf1 lx HGP
  obtain ⟨x0, x1, xf0, xf1, lx⟩ := blk2cells HK1a.out
  obtain ⟨z0, z1, zf0, zf1, lz⟩ := blk2cells HK3a.out
  by_cases h : genC xs (dat L) (dat P) = 0
  · obtain ⟨h1, h2, h3, h4⟩ := genC_inv h
    have hs1 := (modB_iff.1 h1).shp
    obtain ⟨S, hS⟩ : ∃ S, S = genR (dat L) ((dat P).map mk) := ⟨_, rfl⟩
    have hok := genR_ok hs1 (okB_mem h3)
    rw [← hS] at hok
    have HSL := Lib.hid hok.1
    have HSQ := Lib.hid hok.2.1
    have HRED := Lib.hid hok.2.2
    have hT := HT.out
    have hM := HM.out
    have HPC := Lib.hid (fun (C : Option Addr) (cc : Nat) (W' : World) (hb : Below w.heap.size w W') (hC : Rd W' C (nv S)) => partOf_any A A' C n c m c' S.length cc xs L S W' (hT.below hb hw) (Nat.lt_of_lt_of_le hw hb.size) (hM.below hb) hs1 rfl HSL.out (fun r hr => ⟨(HSQ.out r hr).1, (HSQ.out r hr).2.1⟩) hC)
    have HF : Hid (submoduleOfOf xs L P = partMR xs (dat L) S) := Lib.hid (by unfold submoduleOfOf; rw [if_pos h, ← hS])
    rw [h4, ← hS] at HO
    obtain ⟨A2, c2, rfl, _⟩ := owns_shape HO.out
    have HR2 := Lib.hid (owns_Rd HO.out)
    have HPW := Lib.hid (HPC.out A2 c2 w1 HB1.out HR2.out)
    rw [h]
    clear h h1 h2 h3 h4 hs1 hok hS hT hM
    go_wp2_with fail
    refine HPW.out.mono ?_
    rintro e w3 ⟨v, v3, M3, H, hH, rfl, hmo, hd3, ho3, hb⟩
    have HMO := Lib.hid hmo
    obtain ⟨Ad, cd, A5, c5, R, rfl, _⟩ := hmo
    have HD3 := Lib.hid hd3
    have HO3 := Lib.hid ho3
    have HB_2 := Lib.hid hb
    have HZ := Lib.hid (blk_kept HK3a.out hb)
    have hl1 := lz
    clear hd3 ho3 hb x0 x1 xf0 xf1 lx z0 z1 zf0 zf1 lz
    obtain ⟨z0, z1, zf0, zf1, lz⟩ := blk2cells HZ.out
    go_wp2_with fail
    (try simp only [Exit.inBlock, Exit.then])
    refine ret_mr rfl rfl rfl (blk2set1' (blk2set0' HZ.out _) _) ?_
    have hs1 := HB1.out.size
    have hkk : Keeps w3 ((w3.setCell ⟨w.heap.size + 1, 0, none⟩ (.slice Ad (partMR xs (dat L) S).1.1.length cd)).setCell ⟨w.heap.size + 1, 1, none⟩ (.slice A5 R.length c5)) [some (w.heap.size + 1)] := ((Keeps.refl w3 _).setCell (p := ⟨w.heap.size + 1, 0, none⟩) (by simp) _).setCell (p := ⟨w.heap.size + 1, 1, none⟩) (by simp) _
    refine ⟨_, _, M3, H, Nat.le_trans hs1 hH, by rw [HF.out]; rfl, ?_, by rw [HF.out]; exact HD3.out, ?_, ?_⟩
    · rw [HF.out]
      exact (HMO.out.keeps hkk (fun j hj => by
        have : j = w.heap.size + 1 := by simpa using hj
        left; omega)).mono hs1
    · exact HO3.out.keeps hkk (not_in (B := H) (H := w3.heap.size) (fun j hj => by
        have : j = w.heap.size + 1 := by simpa using hj
        left; omega) fun g hg => HO3.out.out.lt g hg) (fun i hi => not_in (B := H) (H := w3.heap.size) (fun j hj => by
        have : j = w.heap.size + 1 := by simpa using hj
        left; omega) fun g hg => (HO3.out.inn i hi).lt g hg)
    · exact ((HB1.out.trans (HB_2.out.mono hs1)).setCell (p := ⟨w.heap.size + 1, 0, none⟩) (by show w.heap.size ≤ w.heap.size + 1; omega) _).setCell (p := ⟨w.heap.size + 1, 1, none⟩) (by show w.heap.size ≤ w.heap.size + 1; omega) _
  · have HF : Hid (submoduleOfOf xs L P = (([], []), [], genC xs (dat L) (dat P))) := Lib.hid (by unfold submoduleOfOf; rw [if_neg h])
    have hcb : (genC xs (dat L) (dat P) != 0) = true := by simpa using h
    obtain ⟨A2, c2, rfl, _⟩ := owns_shape HO.out
    generalize genC xs (dat L) (dat P) = cd at *
    clear h
    go_wp2_with fail
    (try simp only [Exit.inBlock, Exit.then])
    refine ret_mr rfl rfl rfl (blk2set1' (blk2set0' HK3a.out _) _) ?_
    exact ⟨_, .slice none 0 0, [], w.heap.size, Nat.le_refl _, by rw [HF.out]; rfl, by rw [HF.out]; exact ModOutH.nil _ _ _, by rw [HF.out]; rfl, OwnR.nil _ _, (HB1.out.setCell (p := ⟨w.heap.size + 1, 0, none⟩) (by show w.heap.size ≤ w.heap.size + 1; omega) _).setCell (p := ⟨w.heap.size + 1, 1, none⟩) (by show w.heap.size ≤ w.heap.size + 1; omega) _⟩

set_option maxRecDepth 100000 in
set_option maxHeartbeats 8000000 in
theorem implQuotientBy' (A A' W : Option Addr) (n c m c' k cw : Nat) (xs : List Int) (L P : List Row) (w : World) (hT : Tab w) (hw : 0 < w.heap.size) (hM : ModIn w A n A' m xs L) (hP : RowsIn w W k P) :
    Calls Tryz.prog 36 #[.agg #[.slice A n c, .slice A' m c'], .slice W k cw] w (ResMR (quotientByOf xs L P) w) := by
  obtain ⟨hb0, hk1, hk3⟩ := box_mr w A A' n c m c'
  have HGP := Lib.hid (generated_any A A' W n c m c' k cw xs L P _ (hT.below hb0 hw) (by simp) (hM.below hb0) (hP.below hb0))
  have HM := Lib.hid hM
  have HT := Lib.hid hT
  have HB0 := Lib.hid hb0
  have HK1 := Lib.hid hk1
  have HK3 := Lib.hid hk3
  obtain ⟨x0, x1, xf0, xf1, lx⟩ := blk2cells hk1
  clear hb0 hk1 hk3 hM hT hP
  go_enter Tryz.func36, Tryz.ntmps36
  go_wp2_with fail
  refine HGP.out.mono ?_
  rintro e w1 ⟨v0, rfl, ho, hb⟩
  have HB1 := Lib.hid (HB0.out.trans (hb.mono HB0.out.size))
  have HK1a := Lib.hid (blk_kept HK1.out hb)
  have HK3a := Lib.hid (blk_kept HK3.out hb)
  have HO := Lib.hid ho
  clear hb ho x0 x1 xf0 xf1 lx HGP
  obtain ⟨x0, x1, xf0, xf1, lx⟩ := blk2cells HK1a.out
  obtain ⟨z0, z1, zf0, zf1, lz⟩ := blk2cells HK3a.out
  by_cases h : genC xs (dat L) (dat P) = 0
  · obtain ⟨h1, h2, h3, h4⟩ := genC_inv h
    have hs1 := (modB_iff.1 h1).shp
    obtain ⟨S, hS⟩ : ∃ S, S = genR (dat L) ((dat P).map mk) := ⟨_, rfl⟩
    have hok := genR_ok hs1 (okB_mem h3)
    rw [← hS] at hok
    have HSL := Lib.hid hok.1
    have HSQ := Lib.hid hok.2.1
    have HRED := Lib.hid hok.2.2
    have hT := HT.out
    have hM := HM.out
    have HPC := Lib.hid (fun (C : Option Addr) (cc : Nat) (W' : World) (hb : Below w.heap.size w W') (hC : Rd W' C (nv S)) => quotientOf_any A A' C n c m c' S.length cc xs L S W' (hT.below hb hw) (Nat.lt_of_lt_of_le hw hb.size) (hM.below hb) hs1 rfl HSL.out (fun r hr => ⟨(HSQ.out r hr).1, (HSQ.out r hr).2.1⟩) HRED.out hC)
    have HF : Hid (quotientByOf xs L P = quotMR xs (dat L) S) := Lib.hid (by unfold quotientByOf; rw [if_pos h, ← hS])
    rw [h4, ← hS] at HO
    obtain ⟨A2, c2, rfl, _⟩ := owns_shape HO.out
    have HR2 := Lib.hid (owns_Rd HO.out)
    have HPW := Lib.hid (HPC.out A2 c2 w1 HB1.out HR2.out)
    rw [h]
    clear h h1 h2 h3 h4 hs1 hok hS hT hM
    go_wp2_with fail
    refine HPW.out.mono ?_
    rintro e w3 ⟨v, v3, M3, H, hH, rfl, hmo, hd3, ho3, hb⟩
    have HMO := Lib.hid hmo
    obtain ⟨Ad, cd, A5, c5, R, rfl, _⟩ := hmo
    have HD3 := Lib.hid hd3
    have HO3 := Lib.hid ho3
    have HB_2 := Lib.hid hb
    have HZ := Lib.hid (blk_kept HK3a.out hb)
    have hl1 := lz
    clear hd3 ho3 hb x0 x1 xf0 xf1 lx z0 z1 zf0 zf1 lz
    obtain ⟨z0, z1, zf0, zf1, lz⟩ := blk2cells HZ.out
    go_wp2_with fail
    (try simp only [Exit.inBlock, Exit.then])
    refine ret_mr rfl rfl rfl (blk2set1' (blk2set0' HZ.out _) _) ?_
    have hs1 := HB1.out.size
    have hkk : Keeps w3 ((w3.setCell ⟨w.heap.size + 1, 0, none⟩ (.slice Ad (quotMR xs (dat L) S).1.1.length cd)).setCell ⟨w.heap.size + 1, 1, none⟩ (.slice A5 R.length c5)) [some (w.heap.size + 1)] := ((Keeps.refl w3 _).setCell (p := ⟨w.heap.size + 1, 0, none⟩) (by simp) _).setCell (p := ⟨w.heap.size + 1, 1, none⟩) (by simp) _
    refine ⟨_, _, M3, H, Nat.le_trans hs1 hH, by rw [HF.out]; rfl, ?_, by rw [HF.out]; exact HD3.out, ?_, ?_⟩
    · rw [HF.out]
      exact (HMO.out.keeps hkk (fun j hj => by
        have : j = w.heap.size + 1 := by simpa using hj
        left; omega)).mono hs1
    · exact HO3.out.keeps hkk (not_in (B := H) (H := w3.heap.size) (fun j hj => by
        have : j = w.heap.size + 1 := by simpa using hj
        left; omega) fun g hg => HO3.out.out.lt g hg) (fun i hi => not_in (B := H) (H := w3.heap.size) (fun j hj => by
        have : j = w.heap.size + 1 := by simpa using hj
        left; omega) fun g hg => (HO3.out.inn i hi).lt g hg)
    · exact ((HB1.out.trans (HB_2.out.mono hs1)).setCell (p := ⟨w.heap.size + 1, 0, none⟩) (by show w.heap.size ≤ w.heap.size + 1; omega) _).setCell (p := ⟨w.heap.size + 1, 1, none⟩) (by show w.heap.size ≤ w.heap.size + 1; omega) _
  · have HF : Hid (quotientByOf xs L P = (([], []), [], genC xs (dat L) (dat P))) := Lib.hid (by unfold quotientByOf; rw [if_neg h])
    have hcb : (genC xs (dat L) (dat P) != 0) = true := by simpa using h
    obtain ⟨A2, c2, rfl, _⟩ := owns_shape HO.out
    generalize genC xs (dat L) (dat P) = cd at *
    clear h
    go_wp2_with fail
    (try simp only [Exit.inBlock, Exit.then])
    refine ret_mr rfl rfl rfl (blk2set1' (blk2set0' HK3a.out _) _) ?_
    exact ⟨_, .slice none 0 0, [], w.heap.size, Nat.le_refl _, by rw [HF.out]; rfl, by rw [HF.out]; exact ModOutH.nil _ _ _, by rw [HF.out]; rfl, OwnR.nil _ _, (HB1.out.setCell (p := ⟨w.heap.size + 1, 0, none⟩) (by show w.heap.size ≤ w.heap.size + 1; omega) _).setCell (p := ⟨w.heap.size + 1, 1, none⟩) (by show w.heap.size ≤ w.heap.size + 1; omega) _⟩
end Go.Proofs.YtpchigdhnnkpcaaGreatDoor

namespace Go.Proofs.YtpchigdhnnkpcaaGreatDoor
open Go.RowKit

set_option maxRecDepth 100000 in
set_option maxHeartbeats 8000000 in
theorem specSubmoduleOf' (A A' W : Option Addr) (n c m c' k cw : Nat) (xs : List Int) (L P : List Row) (w : World) (hM : ModIn w A n A' m xs L) (hP : RowsIn w W k P) :
    Calls Tryz.prog 33 #[.agg #[.slice A n c, .slice A' m c'], .slice W k cw] w (ResMR (submoduleOfOf xs L P) w) := by
  obtain ⟨hb0, hk1, hk3⟩ := box_mr w A A' n c m c'
  have HGP := Lib.hid (l12Part_any A A' W n c m c' k cw xs L P _ (hM.below hb0) (hP.below hb0))
  have HM := Lib.hid hM
  have HB0 := Lib.hid hb0
  have HK1 := Lib.hid hk1
  have HK3 := Lib.hid hk3
  obtain ⟨x0, x1, xf0, xf1, lx⟩ := blk2cells hk1
  clear hb0 hk1 hk3 hM hP
  go_enter Tryz.func33, Tryz.ntmps33
  go_wp2_with fail
  refine HGP.out.mono ?_
  rintro e w1 ⟨v0, rfl, ho, hb⟩
  have HB1 := Lib.hid (HB0.out.trans (hb.mono HB0.out.size))
  have HK1a := Lib.hid (blk_kept HK1.out hb)
  have HK3a := Lib.hid (blk_kept HK3.out hb)
  have HO := Lib.hid ho
  clear hb ho x0 x1 xf0 xf1 lx HGP
  by_cases h : genC xs (dat L) (dat P) = 0
  · obtain ⟨h1, h2, h3, h4⟩ := genC_inv h
    have hs1 := (modB_iff.1 h1).shp
    obtain ⟨S, hS⟩ : ∃ S, S = genR (dat L) ((dat P).map mk) := ⟨_, rfl⟩
    have hok := genR_ok hs1 (okB_mem h3)
    rw [← hS] at hok
    have HSL := Lib.hid hok.1
    have HSQ := Lib.hid hok.2.1
    have HSH := Lib.hid hs1
    have Hnx : Hid (n = xs.length) := Lib.hid HM.out.r.hn
    have hn16 : n ≤ 16 := by rw [Hnx.out]; exact hs1.len
    have HMD := Lib.hid (fun (C : Option Addr) (cc : Nat) (W' : World) (hb : Below w.heap.size w W') (hC : Rd W' C (nv S)) => l12Module_any A A' C n c m c' S.length cc xs L S W' (HM.out.r.below hb) HSH.out rfl HSL.out HSQ.out hC)
    have HVC := Lib.hid (fun (C : Option Addr) (cc : Nat) (W' : World) (hC : Rd W' C (nv S)) => l12Vectors_any n C S.length cc S W' rfl (by have := HSL.out; omega) (by omega) (fun r hr => HSH.out.sml (HSQ.out r hr).2.1) hC)
    have HF : Hid (submoduleOfOf xs L P = partMR xs (dat L) S) := Lib.hid (by unfold submoduleOfOf; rw [if_pos h, ← hS])
    rw [h4, ← hS] at HO
    obtain ⟨A3, c3, rfl, _⟩ := owns_shape HO.out
    have HR3 := Lib.hid (owns_Rd HO.out)
    rw [h]
    clear h h1 h2 h3 h4 hs1 hok hS
    have KS := Lib.hid (fun w' (hb : Below w1.heap.size w1 w') => show w'.cell? ⟨w.heap.size, 0, none⟩ = some (.slice A n c) ∧ w'.cell? ⟨w.heap.size, 1, none⟩ = some (.slice A' m c') from by
      obtain ⟨x0, x1, _⟩ := blk2cells (blk_kept HK1a.out hb)
      exact ⟨x0, x1⟩)
    have HB_0 := Lib.hid (Below.drew (Below.refl w1.heap.size w1))
    have HW_0 := Lib.hid (HB1.out.trans (HB_0.out.mono HB1.out.size))
    go_wp2_with fail
    go_region_held3 (fun w' => w'.cell? ⟨w.heap.size, 0, none⟩ = some (.slice A n c) ∧ w'.cell? ⟨w.heap.size, 1, none⟩ = some (.slice A' m c'))
      (first | exact KS.out _ HB_0.out | exact KS.out _ HB_1.out | exact KS.out _ HB_2.out | exact ⟨KS3.out _ _, KS4.out _ _⟩)
      (first
        | (go_at_call 54; (with_reducible refine (HMD.out _ _ _ HW_0.out (HR3.out.below HB_0.out)).mono ?_); (rintro e w6 ⟨v6, rfl, ho, hb⟩; have hu := ho.up; obtain ⟨Ad, cd, A1, c1, R, rfl, _⟩ := ho; have HMO := Lib.hid hu; have HB_1 := Lib.hid (HB_0.out.trans (hb.mono HB_0.out.size)); clear hu hb))
        | (go_at_call 55; (with_reducible refine (HVC.out _ _ _ (HR3.out.below HB_1.out)).mono ?_); (rintro e w7 ⟨A7, c7, R7, rfl, hRl, hRd, ho, hb⟩; have HRD := Lib.hid hRd; have HO7 := Lib.hid ho; have HK7 := Lib.hid (Keeps.of_below hb); have HB_2 := Lib.hid (HB_1.out.trans (hb.mono HB_1.out.size)); have HZ7 := Lib.hid (blk_kept HK3a.out HB_2.out); obtain ⟨z0, z1, zf0, zf1, lz⟩ := blk2cells HZ7.out; have hx7 := (KS.out _ HB_2.out); have KS3 := Lib.hid (fun (a b : Value) => cell_set2 hx7.1 (g := w.heap.size + 1) (by show w.heap.size + 1 ≠ w.heap.size; omega) a b); have KS4 := Lib.hid (fun (a b : Value) => cell_set2 hx7.2 (g := w.heap.size + 1) (by show w.heap.size + 1 ≠ w.heap.size; omega) a b); clear hRl hRd ho hb hx7)))
    go_wp2_with fail
    (try simp only [Exit.inBlock, Exit.then])
    refine ret_mr rfl rfl rfl (blk2set1' (blk2set0' HZ7.out _) _) ?_
    have hs3 := HB1.out.size
    have hl3 := (blk2cells HK3a.out).2.2.2.2
    have hs7 := HB_2.out.size
    have hs6 := HB_1.out.size
    have hkk : Keeps w7 ((w7.setCell ⟨w.heap.size + 1, 0, none⟩ (.slice Ad (partD xs S).length cd)).setCell ⟨w.heap.size + 1, 1, none⟩ (.slice A1 R.length c1)) [some (w.heap.size + 1)] := ((Keeps.refl w7 _).setCell (p := ⟨w.heap.size + 1, 0, none⟩) (by simp) _).setCell (p := ⟨w.heap.size + 1, 1, none⟩) (by simp) _
    refine ⟨_, _, R7, w6.heap.size, Nat.le_trans hs3 hs6, by rw [HF.out]; rfl, ?_, by rw [HF.out, HRD.out, Hnx.out]; rfl, ?_, ?_⟩
    · rw [HF.out]
      exact ((HMO.out.keeps HK7.out (fun j hj => by cases hj)).keeps hkk (fun j hj => by
        have : j = w.heap.size + 1 := by simpa using hj
        left; show j < w1.drew.heap.size; show j < w1.heap.size; omega)).mono (show w.heap.size ≤ w1.heap.size by omega)
    · exact HO7.out.keeps hkk (not_in (B := w6.heap.size) (H := w7.heap.size) (fun j hj => by
        have : j = w.heap.size + 1 := by simpa using hj
        left; omega) fun g hg => HO7.out.out.lt g hg) (fun i hi => not_in (B := w6.heap.size) (H := w7.heap.size) (fun j hj => by
        have : j = w.heap.size + 1 := by simpa using hj
        left; omega) fun g hg => (HO7.out.inn i hi).lt g hg)
    · exact ((HB1.out.trans (HB_2.out.mono hs3)).setCell (p := ⟨w.heap.size + 1, 0, none⟩) (by show w.heap.size ≤ w.heap.size + 1; omega) _).setCell (p := ⟨w.heap.size + 1, 1, none⟩) (by show w.heap.size ≤ w.heap.size + 1; omega) _
  · obtain ⟨z0, z1, zf0, zf1, lz⟩ := blk2cells HK3a.out
    have HF : Hid (submoduleOfOf xs L P = (([], []), [], genC xs (dat L) (dat P))) := Lib.hid (by unfold submoduleOfOf; rw [if_neg h])
    have hcb : (genC xs (dat L) (dat P) != 0) = true := by simpa using h
    obtain ⟨A2, c2, rfl, _⟩ := owns_shape HO.out
    generalize genC xs (dat L) (dat P) = cd at *
    clear h
    go_wp2_with fail
    (try simp only [Exit.inBlock, Exit.then])
    refine ret_mr rfl rfl rfl (blk2set1' (blk2set0' HK3a.out _) _) ?_
    exact ⟨_, .slice none 0 0, [], w.heap.size, Nat.le_refl _, by rw [HF.out]; rfl, by rw [HF.out]; exact ModOutH.nil _ _ _, by rw [HF.out]; rfl, OwnR.nil _ _, (HB1.out.setCell (p := ⟨w.heap.size + 1, 0, none⟩) (by show w.heap.size ≤ w.heap.size + 1; omega) _).setCell (p := ⟨w.heap.size + 1, 1, none⟩) (by show w.heap.size ≤ w.heap.size + 1; omega) _⟩

set_option maxRecDepth 100000 in
set_option maxHeartbeats 8000000 in
theorem specQuotientBy' (A A' W : Option Addr) (n c m c' k cw : Nat) (xs : List Int) (L P : List Row) (w : World) (hM : ModIn w A n A' m xs L) (hP : RowsIn w W k P) :
    Calls Tryz.prog 35 #[.agg #[.slice A n c, .slice A' m c'], .slice W k cw] w (ResRd (quotientByOf xs L P) w) := by
  obtain ⟨hb0, hk1, hk3⟩ := box_mr w A A' n c m c'
  have HGP := Lib.hid (l12Part_any A A' W n c m c' k cw xs L P _ (hM.below hb0) (hP.below hb0))
  have HM := Lib.hid hM
  have HB0 := Lib.hid hb0
  have HK1 := Lib.hid hk1
  have HK3 := Lib.hid hk3
  obtain ⟨x0, x1, xf0, xf1, lx⟩ := blk2cells hk1
  clear hb0 hk1 hk3 hM hP
  go_enter Tryz.func35, Tryz.ntmps35
  go_wp2_with fail
  refine HGP.out.mono ?_
  rintro e w1 ⟨v0, rfl, ho, hb⟩
  have HB1 := Lib.hid (HB0.out.trans (hb.mono HB0.out.size))
  have HK1a := Lib.hid (blk_kept HK1.out hb)
  have HK3a := Lib.hid (blk_kept HK3.out hb)
  have HO := Lib.hid ho
  clear hb ho x0 x1 xf0 xf1 lx HGP
  obtain ⟨x0, x1, xf0, xf1, lx⟩ := blk2cells HK1a.out
  obtain ⟨z0, z1, zf0, zf1, lz⟩ := blk2cells HK3a.out
  by_cases h : genC xs (dat L) (dat P) = 0
  · obtain ⟨h1, h2, h3, h4⟩ := genC_inv h
    have hs1 := (modB_iff.1 h1).shp
    obtain ⟨S, hS⟩ : ∃ S, S = genR (dat L) ((dat P).map mk) := ⟨_, rfl⟩
    have hok := genR_ok hs1 (okB_mem h3)
    rw [← hS] at hok
    have HF : Hid (quotientByOf xs L P = quotMR xs (dat L) S) := Lib.hid (by unfold quotientByOf; rw [if_pos h, ← hS])
    rw [h4, ← hS] at HO
    obtain ⟨A3, c3, rfl, _⟩ := owns_shape HO.out
    have HQU := Lib.hid (l12Quotient_any A A' A3 n c m c' S.length c3 xs L S w1 (HM.out.r.below HB1.out) hs1 rfl hok.1 (fun r hr => ⟨(hok.2.1 r hr).1, (hok.2.1 r hr).2.1⟩) hok.2.2 (owns_Rd HO.out))
    rw [h]
    clear h h1 h2 h3 h4 hs1 hok hS
    go_wp2_with fail
    refine HQU.out.mono ?_
    rintro e x3 ⟨Ad, cd, A1, c1, R, A4, c4, M3, rfl, ho1, hdR, ho2, hd3, ho3, hb⟩
    have HDR := Lib.hid hdR
    have HD3 := Lib.hid hd3
    have HQ0 := Lib.hid (OwnQ.mk ho1 ho2 ho3)
    have HK3b := Lib.hid (blk_kept HK3a.out hb)
    have HBw := Lib.hid (HB1.out.trans (hb.mono HB1.out.size))
    have hl1 := (blk2cells HK3a.out).2.2.2.2
    have hbz := hb.size
    clear ho1 hdR ho2 hd3 ho3 hb x0 x1 xf0 xf1 lx z0 z1 zf0 zf1 lz
    have hlx : w.heap.size + 1 < x3.heap.size := by omega
    have hk4 := blk_new x3 (.cells #[.slice none 0 0, .slice none 0 0] 29)
    obtain ⟨y0, y1, yf0, yf1, ly⟩ := blk2cells hk4
    obtain ⟨a0, a1, af0, af1, la⟩ := blk2cells HK3b.out
    go_wp2_with fail
    (try simp only [Exit.inBlock, Exit.then])
    refine ret_mr rfl rfl rfl (blk_alloc (blk2set1' (blk2set0' HK3b.out _) _) _) ?_
    have h1w := HB1.out.size
    have hk0 := blk2set0' HK3b.out (.slice Ad (quoD xs S).length cd)
    have hbf := (HBw.out.setCell (p := ⟨w.heap.size + 1, 0, none⟩) (by show w.heap.size ≤ w.heap.size + 1; omega) (.slice Ad (quoD xs S).length cd)).setCell (p := ⟨w.heap.size + 1, 1, none⟩) (by show w.heap.size ≤ w.heap.size + 1; omega) (.slice A1 (quoA xs (dat L) S).length c1)
    refine ⟨Ad, cd, A1, c1, R, A4, c4, M3, by rw [HF.out]; rfl, by rw [HF.out]; exact HDR.out, by rw [HF.out]; exact HD3.out, ?_, hbf.alloc hbf.size _⟩
    rw [HF.out]
    exact OwnQ.later ⟨(own_setBoxZ (k := 1) (own_setBoxZ (k := 0) HQ0.out.deg HK3b.out (by decide) _) hk0 (by decide) _).mono h1w, (OwnR.setBoxZ (k := 1) (OwnR.setBoxZ (k := 0) HQ0.out.act HK3b.out (by decide) (by decide) _) hk0 (by decide) (by decide) _).mono h1w, (OwnR.setBoxZ (k := 1) (OwnR.setBoxZ (k := 0) HQ0.out.rows HK3b.out (by decide) (by decide) _) hk0 (by decide) (by decide) _).mono h1w⟩ ((Below.refl _ _).alloc (Nat.le_refl _) _)
  · have HF : Hid (quotientByOf xs L P = (([], []), [], genC xs (dat L) (dat P))) := Lib.hid (by unfold quotientByOf; rw [if_neg h])
    have hcb : (genC xs (dat L) (dat P) != 0) = true := by simpa using h
    obtain ⟨A2, c2, rfl, _⟩ := owns_shape HO.out
    generalize genC xs (dat L) (dat P) = cd at *
    clear h
    go_wp2_with fail
    (try simp only [Exit.inBlock, Exit.then])
    refine ret_mr rfl rfl rfl (blk2set1' (blk2set0' HK3a.out _) _) ?_
    exact ⟨none, 0, none, 0, [], none, 0, [], by rw [HF.out]; rfl, by rw [HF.out]; rfl, by rw [HF.out]; rfl, by rw [HF.out]; exact OwnQ.nil _ _, (HB1.out.setCell (p := ⟨w.heap.size + 1, 0, none⟩) (by show w.heap.size ≤ w.heap.size + 1; omega) _).setCell (p := ⟨w.heap.size + 1, 1, none⟩) (by show w.heap.size ≤ w.heap.size + 1; omega) _⟩
end Go.Proofs.YtpchigdhnnkpcaaGreatDoor

namespace Go.Proofs.YtpchigdhnnkpcaaGreatDoor
open Go.RowKit

theorem submoduleOfOf_dat {xs : List Int} {L L' P P' : List Row} (h1 : dat L' = dat L) (h2 : dat P' = dat P) : submoduleOfOf xs L' P' = submoduleOfOf xs L P := by unfold submoduleOfOf; rw [h1, h2]
theorem submoduleOfOf_len (xs : List Int) (L : List Row) (P : List Row) : PLen (submoduleOfOf xs L P) := by
  unfold submoduleOfOf
  by_cases h : genC xs (dat L) (dat P) = 0
  · rw [if_pos h]
    obtain ⟨h1, h2, h3, h4⟩ := genC_inv h
    have hs := (modB_iff.1 h1).shp
    have hok := genR_ok hs (okB_mem h3)
    exact plen_part hs.len hok.1
  · rw [if_neg h]; exact plen_none _
theorem specSubmoduleOf_any (A0 : Option Addr) (n0 c0 : Nat) (xs0 : List Int) (B0 : Option Addr) (m0 d0 : Nat) (L0 : List Row) (A1 : Option Addr) (n1 c1 : Nat) (L1 : List Row) (w : World) (hn0 : n0 = xs0.length) (hs0 : n0 ≤ 1048576) (hR0 : Rd w A0 (iv xs0)) (hm0 : m0 = L0.length) (ht0 : m0 ≤ 1048576) (hl0 : ∀ i, i < L0.length → (rg L0 i).xs.length ≤ 1048576) (hQ0 : RdR w B0 L0) (hn1 : n1 = L1.length) (hs1 : n1 ≤ 1048576) (hl1 : ∀ i, i < L1.length → (rg L1 i).xs.length ≤ 1048576) (hR1 : RdR w A1 L1) :
    Calls Tryz.prog 33 #[.agg #[.slice A0 n0 c0, .slice B0 m0 d0], .slice A1 n1 c1] w (ResMR (submoduleOfOf xs0 L0 L1) w) :=
  specSubmoduleOf' A0 B0 A1 n0 c0 m0 d0 n1 c1 xs0 L0 L1 w ⟨⟨hn0, hR0, hm0, ht0, hQ0⟩, hs0, hl0⟩ ⟨hn1, hs1, hl1, hR1⟩
theorem implSubmoduleOf_any (A0 : Option Addr) (n0 c0 : Nat) (xs0 : List Int) (B0 : Option Addr) (m0 d0 : Nat) (L0 : List Row) (A1 : Option Addr) (n1 c1 : Nat) (L1 : List Row) (w : World) (hT : Tab w) (hw : 0 < w.heap.size) (hn0 : n0 = xs0.length) (hs0 : n0 ≤ 1048576) (hR0 : Rd w A0 (iv xs0)) (hm0 : m0 = L0.length) (ht0 : m0 ≤ 1048576) (hl0 : ∀ i, i < L0.length → (rg L0 i).xs.length ≤ 1048576) (hQ0 : RdR w B0 L0) (hn1 : n1 = L1.length) (hs1 : n1 ≤ 1048576) (hl1 : ∀ i, i < L1.length → (rg L1 i).xs.length ≤ 1048576) (hR1 : RdR w A1 L1) :
    Calls Tryz.prog 34 #[.agg #[.slice A0 n0 c0, .slice B0 m0 d0], .slice A1 n1 c1] w (ResMR (submoduleOfOf xs0 L0 L1) w) :=
  implSubmoduleOf' A0 B0 A1 n0 c0 m0 d0 n1 c1 xs0 L0 L1 w hT hw ⟨⟨hn0, hR0, hm0, ht0, hQ0⟩, hs0, hl0⟩ ⟨hn1, hs1, hl1, hR1⟩

theorem quotientByOf_dat {xs : List Int} {L L' P P' : List Row} (h1 : dat L' = dat L) (h2 : dat P' = dat P) : quotientByOf xs L' P' = quotientByOf xs L P := by unfold quotientByOf; rw [h1, h2]
theorem quotientByOf_len (xs : List Int) (L : List Row) (P : List Row) : PLen (quotientByOf xs L P) := by
  unfold quotientByOf
  by_cases h : genC xs (dat L) (dat P) = 0
  · rw [if_pos h]
    obtain ⟨h1, h2, h3, h4⟩ := genC_inv h
    have hs := (modB_iff.1 h1).shp
    have hok := genR_ok hs (okB_mem h3)
    exact plen_quot hs.len
  · rw [if_neg h]; exact plen_none _
theorem specQuotientBy_any (A0 : Option Addr) (n0 c0 : Nat) (xs0 : List Int) (B0 : Option Addr) (m0 d0 : Nat) (L0 : List Row) (A1 : Option Addr) (n1 c1 : Nat) (L1 : List Row) (w : World) (hn0 : n0 = xs0.length) (hs0 : n0 ≤ 1048576) (hR0 : Rd w A0 (iv xs0)) (hm0 : m0 = L0.length) (ht0 : m0 ≤ 1048576) (hl0 : ∀ i, i < L0.length → (rg L0 i).xs.length ≤ 1048576) (hQ0 : RdR w B0 L0) (hn1 : n1 = L1.length) (hs1 : n1 ≤ 1048576) (hl1 : ∀ i, i < L1.length → (rg L1 i).xs.length ≤ 1048576) (hR1 : RdR w A1 L1) :
    Calls Tryz.prog 35 #[.agg #[.slice A0 n0 c0, .slice B0 m0 d0], .slice A1 n1 c1] w (ResRd (quotientByOf xs0 L0 L1) w) :=
  specQuotientBy' A0 B0 A1 n0 c0 m0 d0 n1 c1 xs0 L0 L1 w ⟨⟨hn0, hR0, hm0, ht0, hQ0⟩, hs0, hl0⟩ ⟨hn1, hs1, hl1, hR1⟩
theorem implQuotientBy_any (A0 : Option Addr) (n0 c0 : Nat) (xs0 : List Int) (B0 : Option Addr) (m0 d0 : Nat) (L0 : List Row) (A1 : Option Addr) (n1 c1 : Nat) (L1 : List Row) (w : World) (hT : Tab w) (hw : 0 < w.heap.size) (hn0 : n0 = xs0.length) (hs0 : n0 ≤ 1048576) (hR0 : Rd w A0 (iv xs0)) (hm0 : m0 = L0.length) (ht0 : m0 ≤ 1048576) (hl0 : ∀ i, i < L0.length → (rg L0 i).xs.length ≤ 1048576) (hQ0 : RdR w B0 L0) (hn1 : n1 = L1.length) (hs1 : n1 ≤ 1048576) (hl1 : ∀ i, i < L1.length → (rg L1 i).xs.length ≤ 1048576) (hR1 : RdR w A1 L1) :
    Calls Tryz.prog 36 #[.agg #[.slice A0 n0 c0, .slice B0 m0 d0], .slice A1 n1 c1] w (ResMR (quotientByOf xs0 L0 L1) w) :=
  implQuotientBy' A0 B0 A1 n0 c0 m0 d0 n1 c1 xs0 L0 L1 w hT hw ⟨⟨hn0, hR0, hm0, ht0, hQ0⟩, hs0, hl0⟩ ⟨hn1, hs1, hl1, hR1⟩
end Go.Proofs.YtpchigdhnnkpcaaGreatDoor
