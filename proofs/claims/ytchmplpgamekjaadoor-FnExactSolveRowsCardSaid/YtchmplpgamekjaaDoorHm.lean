/- HasMask: both sides -/
import Derived.Test.YtchmplpgamekjaaDoorN
namespace Go.Proofs.YtchmplpgamekjaaDoor
open Go.RowKit

/-- What HasMask answers. -/
def hasOf (c : Int) (xs : List Int) (v : Int) : Bool × Int :=
  if isMat c xs then (if maskB v c.toNat then (decide (leftS (reduceS (toN xs)) v.toNat = 0), 0) else (false, 2)) else (false, 1)

theorem l02Mask_any (v : Int) (d : Nat) (hd : d ≤ 60) (w : World) : Calls Tryd.prog 72 #[.int .i64 v, .int .i64 d] w fun e w' => e = .returned (.bool (maskB v d)) ∧ w = w' := by
  have h1 := fun W => l01In_any d 0 60 W
  have h2 := fun W => l01In_any v 0 (2 ^ d - 1) W
  rw [show inB (d : Int) 0 60 = true by simp [inB]; omega] at h1
  have e : inB v 0 (2 ^ d - 1) = maskB v d := rfl
  rw [e] at h2
  have H1 := Lib.hid h1
  have H2 := Lib.hid h2
  have p1 := pow60 hd
  have p2 := pow_pos' d
  clear h1 h2 e
  go_enter Tryd.func72, Tryd.ntmps72
  go_wp2_with fail
  refine (H1.out _).mono ?_
  rintro e w' ⟨rfl, rfl⟩
  go_wp2_with fail
  refine (H2.out _).mono ?_
  rintro e w' ⟨rfl, rfl⟩
  go_wp2_with fail
  go_ret
  exact ⟨rfl, rfl⟩

theorem has_any (B bs : Nat) (v1 v2 : Value) (L : List (Nat × Nat)) (x : Nat) (w : World) (hT : Tab w) (hs : SpanAt w B bs v1 v2 L) (hsmall : L.length ≤ 1000000) (hx : Sm x) (hg : Good L) :
    Calls Tryd.prog 75 #[.pointer (some ⟨bs, 0, none⟩), .int .i64 x] w fun e w' => e = .returned (.bool (decide (leftS (r1 L) x = 0))) ∧ ∃ m, w.drewN m = w' := by
  obtain ⟨A1, c1, rfl, _, _, _⟩ := owns_shape hs.own1
  obtain ⟨A2, c2, rfl, _, _, _⟩ := owns_shape hs.own2
  have hl := left_any bs A1 A2 L.length c1 c2 L x 0 w hT rfl hsmall hx Sm.zero hg hs.c0 hs.c1 (owns_Rd hs.own1) (owns_Rd hs.own2)
  have e : (leftN L (x, 0)).1 = leftS (r1 L) x := leftN_fst L (x, 0)
  rw [e] at hl
  generalize leftS (r1 L) x = y at *
  generalize (leftN L (x, 0)).2 = z at *
  have HL := Lib.hid hl
  clear hl hg hs e
  by_cases h0 : y = 0
  · subst h0
    go_enter Tryd.func75, Tryd.ntmps75
    go_wp2_with (go_at_call 112; refine HL.out.mono ?_; rintro e w' ⟨rfl, m, rfl⟩)
    go_ret
    exact ⟨rfl, m, rfl⟩
  · have hb : ((y : Int) == 0) = false := by simp; exact h0
    have HD : Hid (decide (y = 0) = false) := by show _ = _; simpa using h0
    clear h0
    go_enter Tryd.func75, Tryd.ntmps75
    go_wp2_with (go_at_call 112; refine HL.out.mono ?_; rintro e w' ⟨rfl, m, rfl⟩)
    go_ret
    exact ⟨by rw [HD.out]; rfl, m, rfl⟩

theorem maskB_sm {v : Int} {d : Nat} (hd : d ≤ 60) (h : maskB v d = true) : 0 ≤ v ∧ Sm v.toNat := by
  have hm := inB_true h
  have hp := pow60 hd
  unfold Sm; omega
theorem isMat_cols {c : Int} {xs : List Int} (h : isMat c xs = true) : ∃ d : Nat, c = d ∧ d ≤ 60 := by
  unfold isMat at h
  simp only [Bool.and_eq_true] at h
  obtain ⟨h0, h1⟩ := inB_true h.1
  exact ⟨c.toNat, by omega, by omega⟩
theorem isMat_sm {c : Int} {xs : List Int} (h : isMat c xs = true) : ∀ r ∈ toN xs, Sm r := by
  intro r hr; obtain ⟨x, hx, rfl⟩ := List.mem_map.1 hr; exact (isMat_nonneg h x hx).2
theorem span_zs {c : Int} {xs : List Int} (h : isMat c xs = true) : (r1 (spanL (zs (toN xs)))).Perm (reduceS (toN xs)) ∧ Red (r1 (spanL (zs (toN xs)))) ∧ Good (spanL (zs (toN xs))) := by
  have := spanL_perm (zs (toN xs)) (fun p hp => by obtain ⟨r, hr, rfl⟩ := List.mem_map.1 hp; exact ⟨isMat_sm h r hr, Sm.zero⟩)
  rwa [r1_zs] at this

set_option maxRecDepth 100000 in
set_option maxHeartbeats 1000000 in
theorem specHas_any (c : Int) (A : Option Addr) (n cap : Nat) (xs : List Int) (v : Int) (w : World) (hn : n = xs.length) (hsm : n ≤ 1099511627776) (hR : Rd w A (iv xs)) :
    Calls Tryd.prog 20 #[.agg #[.int .i64 c, .slice A n cap], .int .i64 v] w fun e w' => e = .returned (.tuple #[.bool (hasOf c xs v).1, .int .i64 (hasOf c xs v).2]) ∧ Below w.heap.size w w' := by
  have hb := blk_new w (.cells #[.int .i64 c, .slice A n cap] 28)
  have hR1 := hR.alloc (.cells #[.int .i64 c, .slice A n cap] 28)
  have his := l02Is_any c A n cap xs _ hn hsm hR1
  cases hi : isMat c xs with
  | false =>
    rw [hi] at his
    have HE : Hid (hasOf c xs v = (false, 1)) := by show _ = _; simp [hasOf, hi]
    have HI := Lib.hid his
    clear his hR hR1 hb hn hi
    go_enter Tryd.func20, Tryd.ntmps20
    go_wp2_with (go_at_call 68; refine HI.out.mono ?_; rintro e w1 ⟨rfl, hb1⟩)
    go_ret2
    exact ⟨by rw [HE.out]; rfl, ((Below.refl _ _).alloc (Nat.le_refl _) _).trans (hb1.mono (by simp))⟩
  | true =>
    rw [hi] at his
    obtain ⟨d, rfl, hd⟩ := isMat_cols hi
    have hmk := fun W => l02Mask_any v d hd W
    cases hm : maskB v d with
    | false =>
      rw [hm] at hmk
      have HE : Hid (hasOf d xs v = (false, 2)) := by show _ = _; simp [hasOf, hi, hm]
      have HI := Lib.hid his
      have HM := Lib.hid hmk
      have HK := Lib.hid hb
      clear his hmk hR hR1 hb hn hi hm
      go_enter Tryd.func20, Tryd.ntmps20
      go_wp2_with fail
      refine HI.out.mono ?_
      rintro e w1 ⟨rfl, hb1⟩
      obtain ⟨d0, d1, _, _, hsz⟩ := blk2cells (blk_below HK.out hb1 (by simp))
      have HB := Lib.hid hb1
      clear hb1
      go_wp2_with (go_at_call 72; refine (HM.out _).mono ?_; rintro e w2 ⟨rfl, rfl⟩)
      go_ret2
      exact ⟨by rw [HE.out]; rfl, ((Below.refl _ _).alloc (Nat.le_refl _) _).trans (HB.out.mono (by simp))⟩
    | true =>
      rw [hm] at hmk
      have hlen := isMat_len hi
      have hnn := isMat_nonneg hi
      have hS := isMat_sm hi
      obtain ⟨hv0, hv1⟩ := maskB_sm hd hm
      have hred := red_reduce hS
      rw [iv_toN (fun x hx => (hnn x hx).1)] at hR1
      have HE : Hid (hasOf d xs v = (decide (leftS (reduceS (toN xs)) v.toNat = 0), 0)) := by show _ = _; simp [hasOf, hi, hm]
      obtain ⟨x, rfl⟩ := Int.eq_ofNat_of_zero_le hv0
      rw [Int.toNat_natCast] at HE hv1
      have hl := reduceS_length_le (toN xs)
      rw [show (toN xs).length = xs.length by simp [toN]] at hl
      have HI := Lib.hid his
      have HM := Lib.hid hmk
      have HK := Lib.hid hb
      have HR := Lib.hid hR1
      have Hn := Lib.hid hn
      have HS := Lib.hid hS
      have HRed := Lib.hid hred
      clear his hmk hR hR1 hb hn hi hm hnn hS hred hv0
      go_enter Tryd.func20, Tryd.ntmps20
      go_wp2_with fail
      refine HI.out.mono ?_
      rintro e w1 ⟨rfl, hb1⟩
      obtain ⟨d0, d1, _, _, hsz⟩ := blk2cells (blk_below HK.out hb1 (by simp))
      have hr := reduce_any A n cap (toN xs) w1 (by rw [Hn.out]; simp [toN]) (by rw [Hn.out]; omega) HS.out (HR.out.below hb1)
      have HRD := Lib.hid hr
      have HB := Lib.hid hb1
      clear hr hb1
      go_wp2_with (go_at_call 72; refine (HM.out _).mono ?_; rintro e w2 ⟨rfl, rfl⟩)
      refine HRD.out.mono ?_
      rintro e w2 ⟨v2, rfl, hown2, hb2⟩
      obtain ⟨A2, c2, rfl, _, _, _⟩ := owns_shape hown2
      have hwo := without_any A2 _ c2 (reduceS (toN xs)) x w2 rfl (by omega) hv1 HRed.out.ne (owns_Rd hown2)
      have HW := Lib.hid hwo
      have HB2 := Lib.hid hb2
      have hfin : Below w.heap.size w w2 := ((Below.refl _ _).alloc (Nat.le_refl _) _).trans ((HB.out.mono (by simp)).trans (HB2.out.mono (by have := HB.out.size; simp at this; omega)))
      have HF := Lib.hid hfin
      clear hwo hb2 hown2 hfin
      generalize leftS (reduceS (toN xs)) x = y at *
      by_cases h0 : y = 0
      · subst h0
        go_wp2_with fail
        refine HW.out.mono ?_
        rintro e w3 ⟨rfl, rfl⟩
        go_wp2_with fail
        go_ret2
        exact ⟨by rw [HE.out]; rfl, HF.out⟩
      · have hyb : ((y : Int) == 0) = false := by simp; exact h0
        have HD : Hid (decide (y = 0) = false) := by show _ = _; simpa using h0
        clear h0
        go_wp2_with fail
        refine HW.out.mono ?_
        rintro e w3 ⟨rfl, rfl⟩
        go_wp2_with fail
        go_ret2
        exact ⟨by rw [HE.out, HD.out]; rfl, HF.out⟩

set_option maxRecDepth 100000 in
set_option maxHeartbeats 1000000 in
theorem implHas_any (c : Int) (A : Option Addr) (n cap : Nat) (xs : List Int) (v : Int) (w : World) (hT : Tab w) (hw : 0 < w.heap.size) (hn : n = xs.length) (hsm : n ≤ 1099511627776) (hR : Rd w A (iv xs)) :
    Calls Tryd.prog 21 #[.agg #[.int .i64 c, .slice A n cap], .int .i64 v] w fun e w' => e = .returned (.tuple #[.bool (hasOf c xs v).1, .int .i64 (hasOf c xs v).2]) ∧ Below w.heap.size w w' := by
  have hb := blk_new w (.cells #[.int .i64 c, .slice A n cap] 28)
  have hR1 := hR.alloc (.cells #[.int .i64 c, .slice A n cap] 28)
  have his := isMatrix_any c A n cap xs _ hn hsm hR1
  have hT1 : Tab (w.alloc (.cells #[.int .i64 c, .slice A n cap] 28)) := hT.below ((Below.refl _ _).alloc (Nat.le_refl _) _) hw
  cases hi : isMat c xs with
  | false =>
    rw [hi] at his
    have HE : Hid (hasOf c xs v = (false, 1)) := by show _ = _; simp [hasOf, hi]
    have HI := Lib.hid his
    clear his hR hR1 hb hn hi hT hT1
    go_enter Tryd.func21, Tryd.ntmps21
    go_wp2_with (go_at_call 49; refine HI.out.mono ?_; rintro e w1 ⟨rfl, hb1⟩)
    go_ret2
    exact ⟨by rw [HE.out]; rfl, ((Below.refl _ _).alloc (Nat.le_refl _) _).trans (hb1.mono (by simp))⟩
  | true =>
    rw [hi] at his
    obtain ⟨d, rfl, hd⟩ := isMat_cols hi
    have hmk := fun W => isMask_any v d (by omega) W
    cases hm : maskB v d with
    | false =>
      rw [hm] at hmk
      have HE : Hid (hasOf d xs v = (false, 2)) := by show _ = _; simp [hasOf, hi, hm]
      have HI := Lib.hid his
      have HM := Lib.hid hmk
      have HK := Lib.hid hb
      clear his hmk hR hR1 hb hn hi hm hT hT1
      go_enter Tryd.func21, Tryd.ntmps21
      go_wp2_with fail
      refine HI.out.mono ?_
      rintro e w1 ⟨rfl, hb1⟩
      obtain ⟨d0, d1, _, _, hsz⟩ := blk2cells (blk_below HK.out hb1 (by simp))
      have HB := Lib.hid hb1
      clear hb1
      go_wp2_with (go_at_call 74; refine (HM.out _).mono ?_; rintro e w2 ⟨rfl, rfl⟩)
      go_ret2
      exact ⟨by rw [HE.out]; rfl, ((Below.refl _ _).alloc (Nat.le_refl _) _).trans (HB.out.mono (by simp))⟩
    | true =>
      rw [hm] at hmk
      have hlen := isMat_len hi
      have hnn := isMat_nonneg hi
      have hS := isMat_sm hi
      have hsp := span_zs hi
      obtain ⟨hv0, hv1⟩ := maskB_sm hd hm
      rw [iv_toN (fun x hx => (hnn x hx).1)] at hR1
      have HE0 : hasOf d xs v = (decide (leftS (reduceS (toN xs)) v.toNat = 0), 0) := by simp [hasOf, hi, hm]
      rw [← leftS_perm hsp.2.1 hsp.1] at HE0
      have HE := Lib.hid HE0
      clear HE0
      obtain ⟨x, rfl⟩ := Int.eq_ofNat_of_zero_le hv0
      rw [Int.toNat_natCast] at HE hv1
      have hl := spanL_length_le (zs (toN xs))
      rw [zs_length, show (toN xs).length = xs.length by simp [toN]] at hl
      have HI := Lib.hid his
      have HM := Lib.hid hmk
      have HK := Lib.hid hb
      have HR := Lib.hid hR1
      have Hn := Lib.hid hn
      have HS := Lib.hid hS
      have HG := Lib.hid hsp.2.2
      have HT := Lib.hid hT1
      clear his hmk hR hR1 hb hn hi hm hnn hS hsp hv0 hT hT1
      go_enter Tryd.func21, Tryd.ntmps21
      go_wp2_with fail
      refine HI.out.mono ?_
      rintro e w1 ⟨rfl, hb1⟩
      obtain ⟨d0, d1, _, _, hsz⟩ := blk2cells (blk_below HK.out hb1 (by simp))
      have hr := spanOf_any A n cap (toN xs) w1 (HT.out.below hb1 (by simp)) (by omega) (by rw [Hn.out]; simp [toN]) (by rw [Hn.out]; omega) HS.out (HR.out.below hb1)
      have HTb := Lib.hid (HT.out.below hb1 (by simp))
      have HRD := Lib.hid hr
      have HB := Lib.hid hb1
      clear hr hb1
      go_wp2_with (go_at_call 74; refine (HM.out _).mono ?_; rintro e w2 ⟨rfl, rfl⟩)
      refine HRD.out.mono ?_
      rintro e w2 ⟨rfl, ⟨u1, u2, hsp⟩, hb2⟩
      have hh := has_any _ _ u1 u2 _ x w2 (HTb.out.below hb2 (by omega)) hsp (by omega) hv1 HG.out
      have HW := Lib.hid hh
      have HB2 := Lib.hid hb2
      have hfin : Below w.heap.size w w2 := ((Below.refl _ _).alloc (Nat.le_refl _) _).trans ((HB.out.mono (by simp)).trans (HB2.out.mono (by have := HB.out.size; simp at this; omega)))
      have HF := Lib.hid hfin
      clear hh hb2 hsp hfin
      generalize decide (leftS (r1 (spanL (zs (toN xs)))) x = 0) = y at *
      go_wp2_with fail
      refine HW.out.mono ?_
      rintro e w3 ⟨rfl, m, rfl⟩
      go_wp2_with fail
      go_ret2
      exact ⟨by rw [HE.out]; rfl, below_drewN HF.out m⟩
end Go.Proofs.YtchmplpgamekjaaDoor
