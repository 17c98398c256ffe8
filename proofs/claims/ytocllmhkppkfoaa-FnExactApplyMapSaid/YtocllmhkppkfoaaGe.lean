/- the reference's l12Two, l12Code, IsModuleMap, ApplyMap -/
import Derived.Test.YtocllmhkppkfoaaGd
import Derived.Test.YtocllmhkppkfoaaLi
namespace Go.Proofs.Ytocllmhkppkfoaa
open Go.RowKit

/-- a module that has come in -/
structure ModIn (w : World) (A : Option Addr) (n : Nat) (A' : Option Addr) (m : Nat) (xs : List Int) (L : List Row) : Prop where
  r : ModR w A n A' m xs L
  hsm : n ≤ 1048576
  hl : ∀ i, i < L.length → (rg L i).xs.length ≤ 1048576
theorem ModIn.below {w w' : World} {A A' : Option Addr} {n m : Nat} {xs : List Int} {L : List Row} (h : ModIn w A n A' m xs L) (hb : Below w.heap.size w w') : ModIn w' A n A' m xs L := ⟨h.r.below hb, h.hsm, h.hl⟩
theorem ModIn.is {w : World} {A A' : Option Addr} {n m : Nat} {xs : List Int} {L : List Row} (h : ModIn w A n A' m xs L) (c c' : Nat) (W : World) (hb : Below w.heap.size w W) :
    Calls Try.prog 48 #[.agg #[.slice A n c, .slice A' m c']] W fun e w' => e = .returned (.bool (modB xs (dat L))) ∧ Below W.heap.size W w' :=
  l11Is_any A A' n c m c' xs L W h.r.hn h.hsm (h.r.deg.below hb) h.r.hm h.r.hm1 h.hl (h.r.act.below hb)
/-- rows that have come in -/
structure RowsIn (w : World) (A : Option Addr) (k : Nat) (P : List Row) : Prop where
  hk : k = P.length
  hk1 : k ≤ 1048576
  hl : ∀ i, i < P.length → (rg P i).xs.length ≤ 1048576
  rd : RdR w A P
theorem RowsIn.below {w w' : World} {A : Option Addr} {k : Nat} {P : List Row} (h : RowsIn w A k P) (hb : Below w.heap.size w w') : RowsIn w' A k P := ⟨h.hk, h.hk1, h.hl, h.rd.below hb⟩

def twoC (a b : Bool) : Int := if a = true ∧ b = true then 0 else 1
theorem twoC_ff (b : Bool) : twoC false b = 1 := rfl
theorem twoC_tf : twoC true false = 1 := rfl
theorem twoC_tt : twoC true true = 0 := rfl
/-- two boxes of modules -/
theorem box_two (w : World) (A A' B B' : Option Addr) (n c m c' p d q d' : Nat) :
    Below w.heap.size w ((w.alloc (.cells #[.slice A n c, .slice A' m c'] 45)).alloc (.cells #[.slice B p d, .slice B' q d'] 45)) ∧
    ((w.alloc (.cells #[.slice A n c, .slice A' m c'] 45)).alloc (.cells #[.slice B p d, .slice B' q d'] 45)).heap[w.heap.size]? = some (.cells #[.slice A n c, .slice A' m c'] 45 (0, 0)) ∧
    ((w.alloc (.cells #[.slice A n c, .slice A' m c'] 45)).alloc (.cells #[.slice B p d, .slice B' q d'] 45)).heap[w.heap.size + 1]? = some (.cells #[.slice B p d, .slice B' q d'] 45 (0, 0)) :=
  ⟨((Below.refl _ _).alloc (Nat.le_refl _) _).alloc (by simp) _, blk_alloc (blk_new w _) _, blk_new1 w _ _⟩

set_option maxHeartbeats 2000000 in
theorem l12Two_any (A A' B B' : Option Addr) (n c m c' p d q d' : Nat) (xs ys : List Int) (L M : List Row) (w : World) (hM : ModIn w A n A' m xs L) (hN : ModIn w B p B' q ys M) :
    Calls Try.prog 50 #[.agg #[.slice A n c, .slice A' m c'], .agg #[.slice B p d, .slice B' q d']] w fun e w' => e = .returned (.int .i64 (twoC (modB xs (dat L)) (modB ys (dat M)))) ∧ Below w.heap.size w w' := by
  obtain ⟨hb0, hk1, hk2⟩ := box_two w A A' B B' n c m c' p d q d'
  have HB0 := Lib.hid hb0
  have HK1 := Lib.hid hk1
  have HK2 := Lib.hid hk2
  have HM := Lib.hid (hM.is c c')
  have HN := Lib.hid (hN.is d d')
  clear hb0 hk1 hk2 hM hN
  obtain ⟨x0, x1, xf0, xf1, lx⟩ := blk2cells HK1.out
  go_enter Try.func50, Try.ntmps50
  cases h1 : modB xs (dat L)
  · rw [h1] at HM
    clear h1
    go_wp2_with (go_at_call 48; refine (HM.out _ HB0.out).mono ?_; rintro e w1 ⟨rfl, hb⟩; have HB1 := Lib.hid (HB0.out.trans (hb.mono HB0.out.size)); clear hb)
    go_ret
    exact ⟨by rw [twoC_ff]; rfl, HB1.out⟩
  · rw [h1] at HM
    clear h1
    cases h2 : modB ys (dat M)
    all_goals
      rw [h2] at HN
      clear h2
      go_wp2_with fail
      refine (HM.out _ HB0.out).mono ?_
      rintro e w1 ⟨rfl, hb⟩
      have HB1 := Lib.hid (HB0.out.trans (hb.mono HB0.out.size))
      have HK2a := Lib.hid (blk_kept HK2.out hb)
      clear hb x0 x1 xf0 xf1 lx
      obtain ⟨y0, y1, yf0, yf1, ly⟩ := blk2cells HK2a.out
      go_wp2_with (go_at_call 48; refine (HN.out _ HB1.out).mono ?_; rintro e w2 ⟨rfl, hb⟩; have HB2 := Lib.hid (HB1.out.trans (hb.mono HB1.out.size)); clear hb)
      go_ret
    · exact ⟨by rw [twoC_tf]; rfl, HB2.out⟩
    · exact ⟨by rw [twoC_tt]; rfl, HB2.out⟩

noncomputable def mapC (xs : List Int) (Q : List (List Int)) (ys : List Int) (R P : List (List Int)) : Int := if modB xs Q = true ∧ modB ys R = true then (if mapB xs Q ys R P = true then 0 else 2) else 1
theorem mapC_1 {xs : List Int} {Q : List (List Int)} {ys : List Int} {R P : List (List Int)} (h : twoC (modB xs Q) (modB ys R) = 1) : mapC xs Q ys R P = 1 := by
  unfold mapC; rw [if_neg]; intro h2; rw [h2.1, h2.2] at h; cases h
theorem two01 (a b : Bool) : twoC a b = 1 ∨ (twoC a b = 0 ∧ a = true ∧ b = true) := by cases a <;> cases b <;> simp [twoC]
theorem mapC_2 {xs : List Int} {Q : List (List Int)} {ys : List Int} {R P : List (List Int)} (h1 : modB xs Q = true) (h2 : modB ys R = true) (h : mapB xs Q ys R P = false) : mapC xs Q ys R P = 2 := by
  unfold mapC; rw [if_pos ⟨h1, h2⟩, if_neg (by rw [h]; simp)]
theorem mapC_0 {xs : List Int} {Q : List (List Int)} {ys : List Int} {R P : List (List Int)} (h1 : modB xs Q = true) (h2 : modB ys R = true) (h : mapB xs Q ys R P = true) : mapC xs Q ys R P = 0 := by
  unfold mapC; rw [if_pos ⟨h1, h2⟩, if_pos h]
theorem mapC_cases (xs : List Int) (Q : List (List Int)) (ys : List Int) (R P : List (List Int)) : mapC xs Q ys R P = 1 ∨ mapC xs Q ys R P = 2 ∨ (mapC xs Q ys R P = 0 ∧ modB xs Q = true ∧ modB ys R = true ∧ MapP xs Q ys R P) := by
  unfold mapC
  by_cases h : modB xs Q = true ∧ modB ys R = true
  · rw [if_pos h]
    by_cases h2 : mapB xs Q ys R P = true
    · rw [if_pos h2]; exact .inr (.inr ⟨rfl, h.1, h.2, mapB_iff.1 h2⟩)
    · rw [if_neg h2]; exact .inr (.inl rfl)
  · rw [if_neg h]; exact .inl rfl

set_option maxHeartbeats 2000000 in
theorem l12Code_any (A A' B B' W : Option Addr) (n c m c' p d q d' k cw : Nat) (xs ys : List Int) (L M P : List Row) (w : World) (hM : ModIn w A n A' m xs L) (hN : ModIn w B p B' q ys M) (hP : RowsIn w W k P) :
    Calls Try.prog 53 #[.agg #[.slice A n c, .slice A' m c'], .agg #[.slice B p d, .slice B' q d'], .slice W k cw] w fun e w' => e = .returned (.int .i64 (mapC xs (dat L) ys (dat M) (dat P))) ∧ Below w.heap.size w w' := by
  obtain ⟨hb0, hk1, hk2⟩ := box_two w A A' B B' n c m c' p d q d'
  have HB0 := Lib.hid hb0
  have HK1 := Lib.hid hk1
  have HK2 := Lib.hid hk2
  have HTW := Lib.hid (l12Two_any A A' B B' n c m c' p d q d' xs ys L M _ (hM.below hb0) (hN.below hb0))
  obtain ⟨x0, x1, xf0, xf1, lx⟩ := blk2cells hk1
  obtain ⟨y0, y1, yf0, yf1, ly⟩ := blk2cells hk2
  have HM := Lib.hid hM
  have HN := Lib.hid hN
  have HP := Lib.hid hP
  clear hb0 hk1 hk2 hM hN hP
  go_enter Try.func53, Try.ntmps53
  go_wp2_with fail
  refine HTW.out.mono ?_
  rintro e w1 ⟨rfl, hb⟩
  have HB1 := Lib.hid (HB0.out.trans (hb.mono HB0.out.size))
  have HK1a := Lib.hid (blk_kept HK1.out hb)
  have HK2a := Lib.hid (blk_kept HK2.out hb)
  clear hb x0 x1 xf0 xf1 lx y0 y1 yf0 yf1 ly
  obtain ⟨x0, x1, xf0, xf1, lx⟩ := blk2cells HK1a.out
  obtain ⟨y0, y1, yf0, yf1, ly⟩ := blk2cells HK2a.out
  rcases two01 (modB xs (dat L)) (modB ys (dat M)) with h | ⟨h, h1, h2⟩
  · have HF := Lib.hid (mapC_1 (P := dat P) h)
    rw [h]
    clear h
    go_wp2_with fail
    go_ret
    exact ⟨by rw [HF.out]; rfl, HB1.out⟩
  · rw [h]
    have HIS := Lib.hid (l12Is_any A A' B B' W n c m c' p d q d' k cw xs ys L M P w1 (HM.out.r.below HB1.out) (modB_iff.1 h1).shp (HN.out.r.below HB1.out) (modB_iff.1 h2).shp HP.out.hk HP.out.hk1 HP.out.hl (HP.out.rd.below HB1.out))
    cases hm : mapB xs (dat L) ys (dat M) (dat P)
    · rw [hm] at HIS
      have HF := Lib.hid (mapC_2 h1 h2 hm)
      clear h h1 h2 hm
      go_wp2_with (go_at_call 51; refine HIS.out.mono ?_; rintro e w2 ⟨rfl, hb⟩; have HB2 := Lib.hid (HB1.out.trans (hb.mono HB1.out.size)); clear hb)
      go_ret
      exact ⟨by rw [HF.out]; rfl, HB2.out⟩
    · rw [hm] at HIS
      have HF := Lib.hid (mapC_0 h1 h2 hm)
      clear h h1 h2 hm
      go_wp2_with (go_at_call 51; refine HIS.out.mono ?_; rintro e w2 ⟨rfl, hb⟩; have HB2 := Lib.hid (HB1.out.trans (hb.mono HB1.out.size)); clear hb)
      go_ret
      exact ⟨by rw [HF.out]; rfl, HB2.out⟩

noncomputable def isModuleMapOf (xs : List Int) (L : List Row) (ys : List Int) (M P : List Row) : Bool × Int := if mapC xs (dat L) ys (dat M) (dat P) = 1 then (false, 1) else (decide (mapC xs (dat L) ys (dat M) (dat P) = 0), 0)
theorem isModuleMapOf_dat {xs : List Int} {L L' : List Row} {ys : List Int} {M M' P P' : List Row} (h1 : dat L' = dat L) (h2 : dat M' = dat M) (h3 : dat P' = dat P) : isModuleMapOf xs L' ys M' P' = isModuleMapOf xs L ys M P := by
  unfold isModuleMapOf; rw [h1, h2, h3]

set_option maxHeartbeats 2000000 in
theorem specIsModuleMap' (A A' B B' W : Option Addr) (n c m c' p d q d' k cw : Nat) (xs ys : List Int) (L M P : List Row) (w : World) (hM : ModIn w A n A' m xs L) (hN : ModIn w B p B' q ys M) (hP : RowsIn w W k P) :
    Calls Try.prog 29 #[.agg #[.slice A n c, .slice A' m c'], .agg #[.slice B p d, .slice B' q d'], .slice W k cw] w (ResB (isModuleMapOf xs L ys M P) w) := by
  obtain ⟨hb0, hk1, hk2⟩ := box_two w A A' B B' n c m c' p d q d'
  have HB0 := Lib.hid hb0
  have HK1 := Lib.hid hk1
  have HK2 := Lib.hid hk2
  have HTW := Lib.hid (l12Two_any A A' B B' n c m c' p d q d' xs ys L M _ (hM.below hb0) (hN.below hb0))
  obtain ⟨x0, x1, xf0, xf1, lx⟩ := blk2cells hk1
  obtain ⟨y0, y1, yf0, yf1, ly⟩ := blk2cells hk2
  have HM := Lib.hid hM
  have HN := Lib.hid hN
  have HP := Lib.hid hP
  clear hb0 hk1 hk2 hM hN hP
  go_enter Try.func29, Try.ntmps29
  go_wp2_with fail
  refine HTW.out.mono ?_
  rintro e w1 ⟨rfl, hb⟩
  have HB1 := Lib.hid (HB0.out.trans (hb.mono HB0.out.size))
  have HK1a := Lib.hid (blk_kept HK1.out hb)
  have HK2a := Lib.hid (blk_kept HK2.out hb)
  clear hb x0 x1 xf0 xf1 lx y0 y1 yf0 yf1 ly
  obtain ⟨x0, x1, xf0, xf1, lx⟩ := blk2cells HK1a.out
  obtain ⟨y0, y1, yf0, yf1, ly⟩ := blk2cells HK2a.out
  rcases two01 (modB xs (dat L)) (modB ys (dat M)) with h | ⟨h, h1, h2⟩
  · have HF : Hid (isModuleMapOf xs L ys M P = (false, 1)) := Lib.hid (by unfold isModuleMapOf; rw [if_pos (mapC_1 h)])
    rw [h]
    clear h
    go_wp2_with fail
    go_ret2
    exact ⟨by rw [HF.out]; rfl, HB1.out⟩
  · rw [h]
    have HIS := Lib.hid (l12Is_any A A' B B' W n c m c' p d q d' k cw xs ys L M P w1 (HM.out.r.below HB1.out) (modB_iff.1 h1).shp (HN.out.r.below HB1.out) (modB_iff.1 h2).shp HP.out.hk HP.out.hk1 HP.out.hl (HP.out.rd.below HB1.out))
    have HF : Hid (isModuleMapOf xs L ys M P = (mapB xs (dat L) ys (dat M) (dat P), 0)) := Lib.hid (by
      unfold isModuleMapOf
      cases hm : mapB xs (dat L) ys (dat M) (dat P)
      · rw [mapC_2 h1 h2 hm]; rfl
      · rw [mapC_0 h1 h2 hm]; rfl)
    clear h h1 h2
    go_wp2_with (go_at_call 51; refine HIS.out.mono ?_; rintro e w2 ⟨rfl, hb⟩; have HB2 := Lib.hid (HB1.out.trans (hb.mono HB1.out.size)); clear hb)
    go_ret2
    exact ⟨by rw [HF.out]; rfl, HB2.out⟩

noncomputable def applyMapOf (xs : List Int) (L : List Row) (ys : List Int) (M P : List Row) (v : List Int) : List Int × Int :=
  if mapC xs (dat L) ys (dat M) (dat P) = 0 then (if vecB xs.length v = true then (bitsL (comb ((dat P).map mk) 0 (mk v)) ys.length, 0) else ([], 2)) else ([], mapC xs (dat L) ys (dat M) (dat P))
theorem applyMapOf_dat {xs : List Int} {L L' : List Row} {ys : List Int} {M M' P P' : List Row} {v : List Int} (h1 : dat L' = dat L) (h2 : dat M' = dat M) (h3 : dat P' = dat P) : applyMapOf xs L' ys M' P' v = applyMapOf xs L ys M P v := by
  unfold applyMapOf; rw [h1, h2, h3]
theorem applyMapOf_no {xs : List Int} {L : List Row} {ys : List Int} {M P : List Row} {v : List Int} (h : mapC xs (dat L) ys (dat M) (dat P) ≠ 0) : applyMapOf xs L ys M P v = ([], mapC xs (dat L) ys (dat M) (dat P)) := by unfold applyMapOf; rw [if_neg h]
theorem applyMapOf_2 {xs : List Int} {L : List Row} {ys : List Int} {M P : List Row} {v : List Int} (h : mapC xs (dat L) ys (dat M) (dat P) = 0) (hv : vecB xs.length v = false) : applyMapOf xs L ys M P v = ([], 2) := by unfold applyMapOf; rw [if_pos h, if_neg (by rw [hv]; simp)]
theorem applyMapOf_yes {xs : List Int} {L : List Row} {ys : List Int} {M P : List Row} {v : List Int} (h : mapC xs (dat L) ys (dat M) (dat P) = 0) (hv : vecB xs.length v = true) : applyMapOf xs L ys M P v = (bitsL (comb ((dat P).map mk) 0 (mk v)) ys.length, 0) := by unfold applyMapOf; rw [if_pos h, if_pos hv]
theorem applyMapOf_len (xs : List Int) (L : List Row) (ys : List Int) (M P : List Row) (v : List Int) : (applyMapOf xs L ys M P v).1.length ≤ 1000 := by
  rcases mapC_cases xs (dat L) ys (dat M) (dat P) with h | h | ⟨h, _, h2, _⟩
  · rw [applyMapOf_no (by omega)]; simp
  · rw [applyMapOf_no (by omega)]; simp
  · cases hv : vecB xs.length v
    · rw [applyMapOf_2 h hv]; simp
    · rw [applyMapOf_yes h hv]; simp only [bitsL_length]; have := (modB_iff.1 h2).shp.len; omega
theorem mapP_vec {xs : List Int} {Q : List (List Int)} {ys : List Int} {R : List (List Int)} {P : List Row} (h : MapP xs Q ys R (dat P)) : ∀ i, i < P.length → vecB ys.length (rg P i).xs = true := fun i hi => by
  have := h.vec i (by rw [dat_length]; exact hi)
  rwa [dat_getD] at this
theorem mapP_lt {xs : List Int} {Q : List (List Int)} {ys : List Int} {R : List (List Int)} {P : List Row} (h : MapP xs Q ys R (dat P)) : ∀ r ∈ (dat P).map mk, r < 2 ^ ys.length := mks_lt h.vec
theorem mapP_len {xs : List Int} {Q : List (List Int)} {ys : List Int} {R : List (List Int)} {P : List Row} (h : MapP xs Q ys R (dat P)) : P.length = xs.length := by have := h.len; rwa [dat_length] at this
end Go.Proofs.Ytocllmhkppkfoaa
