/- SolveRows on both sides -/
import Derived.Test.YtchmplpgamekjaaDoorLv
import Derived.Test.YtchmplpgamekjaaDoorKd
namespace Go.Proofs.YtchmplpgamekjaaDoor
open Go.RowKit

/-- What SolveRows answers. -/
def solvOf (c : Int) (xs : List Int) (v : Int) : Int × Int :=
  if fewOf c xs = 0 then (if maskB v c.toNat then (if (solL (toN xs) v.toNat).1 = 0 then (((lsolOf (toN xs) v.toNat : Nat) : Int), 0) else (0, 4)) else (0, 2)) else (0, fewOf c xs)
theorem fewOf_two {c : Int} {xs : List Int} (h : fewOf c xs ≠ 0) (h' : fewOf c xs ≠ 1) : isMat c xs = true ∧ fewOf c xs = 2 := by
  unfold fewOf at *
  by_cases hi : isMat c xs = true
  · rw [if_pos hi] at *
    refine ⟨hi, ?_⟩
    split at h
    · rename_i hl; rw [if_pos hl]
    · exact absurd rfl h
  · rw [if_neg hi] at h'; exact absurd rfl h'
theorem isMat_lt {c : Int} {xs : List Int} (hi : isMat c xs = true) : ∀ r ∈ toN xs, r < 2 ^ c.toNat := by
  intro r hr
  obtain ⟨x, hx, rfl⟩ := List.mem_map.1 hr
  unfold isMat at hi
  simp only [Bool.and_eq_true, List.all_eq_true] at hi
  have h1 := inB_true (hi.2.2 x hx)
  have e : ((2 ^ c.toNat : Nat) : Int) = (2 : Int) ^ c.toNat := by rw [Int.natCast_pow]; rfl
  generalize (2 : Int) ^ c.toNat = z at *
  omega
theorem maskB_lt {u d : Nat} (h : maskB (u : Int) d = true) : u < 2 ^ d := by
  have h1 := inB_true h
  have e : ((2 ^ d : Nat) : Int) = (2 : Int) ^ d := by rw [Int.natCast_pow]; rfl
  generalize (2 : Int) ^ d = z at *
  omega

set_option maxRecDepth 100000 in
set_option maxHeartbeats 2000000 in
theorem specSolv_any (c : Int) (A : Option Addr) (n cap : Nat) (xs : List Int) (v : Int) (w : World) (hn : n = xs.length) (hsm : n ≤ 1099511627776) (hR : Rd w A (iv xs)) :
    Calls Tryd.prog 31 #[.agg #[.int .i64 c, .slice A n cap], .int .i64 v] w fun e w' => e = .returned (.tuple #[.int .i64 (solvOf c xs v).1, .int .i64 (solvOf c xs v).2]) ∧ Below w.heap.size w w' := by
  have hb := blk_new w (.cells #[.int .i64 c, .slice A n cap] 28)
  have hbel : Below w.heap.size w (w.alloc (.cells #[.int .i64 c, .slice A n cap] 28)) := (Below.refl _ _).alloc (Nat.le_refl _) _
  have h1 := l02Few_any c A n cap xs _ hn hsm (hR.below hbel)
  have HK := Lib.hid hb
  have HB := Lib.hid hbel
  have HR := Lib.hid hR
  have Hn := Lib.hid hn
  clear hb hbel hR hn
  by_cases h0 : fewOf c xs = 0
  · obtain ⟨hi, hlx⟩ := fewOf_zero h0
    rw [h0] at h1
    have H1 := Lib.hid h1
    have hlt := isMat_lt hi
    have HSx := Lib.hid (isMat_sm hi)
    have HRx : Hid (Rd w A (nv (toN xs))) := by have := HR.out; rw [iv_toN (fun x hx => (isMat_nonneg hi x hx).1)] at this; exact this
    have lx : (toN xs).length = xs.length := by simp [toN]
    have Lx := Lib.hid lx
    have hn60 : n ≤ 60 := by rw [Hn.out]; exact hlx
    obtain ⟨d, rfl, hd⟩ := isMat_cols hi
    have hmk := fun W => l02Mask_any v d hd W
    cases hm : maskB v d with
    | false =>
      rw [hm] at hmk
      have HE : Hid (solvOf d xs v = (0, 2)) := by show _ = _; unfold solvOf; rw [if_pos h0, Int.toNat_natCast, if_neg (by rw [hm]; simp)]
      have HM := Lib.hid hmk
      clear h1 hmk hi hm h0 hlt lx hlx
      go_enter Tryd.func31, Tryd.ntmps31
      go_wp2_with fail
      refine H1.out.mono ?_
      rintro e w1 ⟨rfl, hb⟩
      obtain ⟨x0, x1, _, _, _⟩ := blk2cells (blk_keep HK.out hb)
      have HB1 := Lib.hid (HB.out.trans (hb.mono HB.out.size))
      clear hb
      go_wp2_with (go_at_call 72; refine (HM.out _).mono ?_; rintro e w' ⟨rfl, rfl⟩)
      go_ret2
      exact ⟨by rw [HE.out]; rfl, HB1.out⟩
    | true =>
      rw [hm] at hmk
      obtain ⟨hv0, hvs⟩ := maskB_sm hd hm
      obtain ⟨u, rfl⟩ := Int.eq_ofNat_of_zero_le hv0
      rw [Int.toNat_natCast] at hvs
      have hs := fun W (hW : Rd W A (nv (toN xs))) => solve_any A n cap (toN xs) u W (by rw [Hn.out, Lx.out]) hn60 hvs HSx.out hW
      have HM := Lib.hid hmk
      by_cases hz : (solL (toN xs) u).1 = 0
      · have HE : Hid (solvOf d xs u = (((lsolOf (toN xs) u : Nat) : Int), 0)) := by
          show _ = _; unfold solvOf; rw [if_pos h0, Int.toNat_natCast, if_pos hm, Int.toNat_natCast, if_pos hz]
        simp only [hz, decide_true] at hs
        have HS := Lib.hid hs
        have hsx : Sm (solL (toN xs) u).2 := by
          rw [Int.toNat_natCast] at hlt
          have := sol_lt hlt (maskB_lt hm)
          exact sm_of_lt (by rw [lx, ← Hn.out]; omega) this
        have HKS := Lib.hid ((kerG_sol HSx.out).sm (by rw [lx, ← Hn.out]; omega))
        have HLS : Hid (lsolOf (toN xs) u = leftT (topsOf (reduceS (kerK (toN xs) (toN xs).length))) (solL (toN xs) u).2) := Lib.hid rfl
        have hkl : (reduceS (kerK (toN xs) (toN xs).length)).length ≤ 60 := by
          have h2 := reduceS_length_le (kerK (toN xs) (toN xs).length)
          have h3 := kerOut_length (fun k => solK (toN xs) k) (toN xs) (toN xs).length
          change (kerK (toN xs) (toN xs).length).length ≤ _ at h3
          have h4 : (toN xs).length ≤ 60 := by rw [lx, ← Hn.out]; exact hn60
          omega
        have HRK : Hid (∀ r ∈ reduceS (kerK (toN xs) (toN xs).length), Sm r) := fun r hr => ((red_reduce HKS.out).ne r hr).2
        have HKC := Lib.hid (fun W (hW : Rd W A (nv (toN xs))) => l02Kernel_any A n cap (toN xs) W (by rw [Hn.out, Lx.out]) hn60 HSx.out hW)
        clear h1 hmk hi hm h0 hlt lx hlx hs hz hv0
        generalize (solL (toN xs) u).2 = y at *
        generalize reduceS (kerK (toN xs) (toN xs).length) = K at *
        go_enter Tryd.func31, Tryd.ntmps31
        go_wp2_with fail
        refine H1.out.mono ?_
        rintro e w1 ⟨rfl, hb⟩
        have HK1 := Lib.hid (blk_keep HK.out hb)
        obtain ⟨x0, x1, _, _, _⟩ := blk2cells HK1.out
        have HB1 := Lib.hid (HB.out.trans (hb.mono HB.out.size))
        clear hb
        go_wp2_with (go_at_call 72; refine (HM.out _).mono ?_; rintro e w' ⟨rfl, rfl⟩)
        refine (HS.out _ (HRx.out.below HB1.out)).mono ?_
        rintro e w2 ⟨rfl, hb⟩
        have HK2 := Lib.hid (blk_keep HK1.out hb)
        obtain ⟨y0, y1, _, _, _⟩ := blk2cells HK2.out
        have HB2 := Lib.hid (HB1.out.trans (hb.mono HB1.out.size))
        clear hb x0 x1
        go_wp2_with fail
        refine (HKC.out _ (HRx.out.below HB2.out)).mono ?_
        rintro e w3 ⟨vk, rfl, ho, hb⟩
        obtain ⟨Vk, ck, rfl, _, hVk, hVk'⟩ := owns_shape ho
        have HB3 := Lib.hid (HB2.out.trans (hb.mono HB2.out.size))
        have HRk := Lib.hid (owns_Rd ho)
        clear hb ho y0 y1 hVk hVk'
        go_wp2_with fail
        refine (l02Least_any Vk K.length ck K y _ rfl (by omega) HRK.out hsx HRk.out).mono ?_
        rintro e w4 ⟨rfl, hb⟩
        have HB4 := Lib.hid (HB3.out.trans (hb.mono HB3.out.size))
        clear hb
        go_wp2_with fail
        go_ret2
        exact ⟨by rw [HE.out, HLS.out]; rfl, HB4.out⟩
      · have HE : Hid (solvOf d xs u = (0, 4)) := by
          show _ = _; unfold solvOf; rw [if_pos h0, Int.toNat_natCast, if_pos hm, Int.toNat_natCast, if_neg hz]
        simp only [hz, decide_false] at hs
        have HS := Lib.hid hs
        clear h1 hmk hi hm h0 hlt lx hlx hs hz hv0
        generalize (solL (toN xs) u).2 = y at *
        go_enter Tryd.func31, Tryd.ntmps31
        go_wp2_with fail
        refine H1.out.mono ?_
        rintro e w1 ⟨rfl, hb⟩
        have HK1 := Lib.hid (blk_keep HK.out hb)
        obtain ⟨x0, x1, _, _, _⟩ := blk2cells HK1.out
        have HB1 := Lib.hid (HB.out.trans (hb.mono HB.out.size))
        clear hb
        go_wp2_with (go_at_call 72; refine (HM.out _).mono ?_; rintro e w' ⟨rfl, rfl⟩)
        refine (HS.out _ (HRx.out.below HB1.out)).mono ?_
        rintro e w2 ⟨rfl, hb⟩
        have HB2 := Lib.hid (HB1.out.trans (hb.mono HB1.out.size))
        clear hb x0 x1
        go_wp2_with fail
        go_ret2
        exact ⟨by rw [HE.out]; rfl, HB2.out⟩
  · by_cases h1' : fewOf c xs = 1
    · have HE : Hid (solvOf c xs v = (0, 1)) := by show _ = _; unfold solvOf; rw [if_neg h0, h1']
      rw [h1'] at h1
      have H1 := Lib.hid h1
      clear h1 h0 h1'
      go_enter Tryd.func31, Tryd.ntmps31
      go_wp2_with fail
      refine H1.out.mono ?_
      rintro e w1 ⟨rfl, hb⟩
      have HB1 := Lib.hid (HB.out.trans (hb.mono HB.out.size))
      clear hb
      go_wp2_with fail
      go_ret2
      exact ⟨by rw [HE.out]; rfl, HB1.out⟩
    · obtain ⟨hi, h2⟩ := fewOf_two h0 h1'
      have HE : Hid (solvOf c xs v = (0, 2)) := by show _ = _; unfold solvOf; rw [if_neg h0, h2]
      rw [h2] at h1
      have H1 := Lib.hid h1
      obtain ⟨d, rfl, hd⟩ := isMat_cols hi
      have hmk := fun W => l02Mask_any v d hd W
      clear h1 h0 h1' h2 hi
      cases hm : maskB v d
      all_goals
        rw [hm] at hmk
        have HM := Lib.hid hmk
        clear hmk hm
        go_enter Tryd.func31, Tryd.ntmps31
        go_wp2_with fail
        refine H1.out.mono ?_
        rintro e w1 ⟨rfl, hb⟩
        obtain ⟨x0, x1, _, _, _⟩ := blk2cells (blk_keep HK.out hb)
        have HB1 := Lib.hid (HB.out.trans (hb.mono HB.out.size))
        clear hb
        go_wp2_with (go_at_call 72; refine (HM.out _).mono ?_; rintro e w' ⟨rfl, rfl⟩)
        go_ret2
        exact ⟨by rw [HE.out]; rfl, HB1.out⟩

set_option maxRecDepth 100000 in
set_option maxHeartbeats 2000000 in
theorem implSolv_any (c : Int) (A : Option Addr) (n cap : Nat) (xs : List Int) (v : Int) (w : World) (hT : Tab w) (hw : 0 < w.heap.size) (hn : n = xs.length) (hsm : n ≤ 1099511627776) (hR : Rd w A (iv xs)) :
    Calls Tryd.prog 32 #[.agg #[.int .i64 c, .slice A n cap], .int .i64 v] w fun e w' => e = .returned (.tuple #[.int .i64 (solvOf c xs v).1, .int .i64 (solvOf c xs v).2]) ∧ Below w.heap.size w w' := by
  have hb := blk_new w (.cells #[.int .i64 c, .slice A n cap] 28)
  have hbel : Below w.heap.size w (w.alloc (.cells #[.int .i64 c, .slice A n cap] 28)) := (Below.refl _ _).alloc (Nat.le_refl _) _
  have h1 := narrow_any c A n cap xs _ hn hsm (hR.below hbel)
  have HK := Lib.hid hb
  have HB := Lib.hid hbel
  have HR := Lib.hid hR
  have HT := Lib.hid hT
  have Hn := Lib.hid hn
  clear hb hbel hR hn hT
  by_cases h0 : fewOf c xs = 0
  · obtain ⟨hi, hlx⟩ := fewOf_zero h0
    rw [h0] at h1
    have H1 := Lib.hid h1
    have hlt := isMat_lt hi
    have HSx := Lib.hid (isMat_sm hi)
    have HRx : Hid (Rd w A (nv (toN xs))) := by have := HR.out; rw [iv_toN (fun x hx => (isMat_nonneg hi x hx).1)] at this; exact this
    have lx : (toN xs).length = xs.length := by simp [toN]
    have Lx := Lib.hid lx
    have hn60 : n ≤ 60 := by rw [Hn.out]; exact hlx
    obtain ⟨d, rfl, hd⟩ := isMat_cols hi
    have hmk := fun W => isMask_any v d (by omega) W
    cases hm : maskB v d with
    | false =>
      rw [hm] at hmk
      have HE : Hid (solvOf d xs v = (0, 2)) := by show _ = _; unfold solvOf; rw [if_pos h0, Int.toNat_natCast, if_neg (by rw [hm]; simp)]
      have HM := Lib.hid hmk
      clear h1 hmk hi hm h0 hlt lx hlx
      go_enter Tryd.func32, Tryd.ntmps32
      go_wp2_with fail
      refine H1.out.mono ?_
      rintro e w1 ⟨rfl, hb⟩
      obtain ⟨x0, x1, _, _, _⟩ := blk2cells (blk_keep HK.out hb)
      have HB1 := Lib.hid (HB.out.trans (hb.mono HB.out.size))
      clear hb
      go_wp2_with (go_at_call 74; refine (HM.out _).mono ?_; rintro e w' ⟨rfl, rfl⟩)
      go_ret2
      exact ⟨by rw [HE.out]; rfl, HB1.out⟩
    | true =>
      rw [hm] at hmk
      obtain ⟨hv0, hvs⟩ := maskB_sm hd hm
      obtain ⟨u, rfl⟩ := Int.eq_ofNat_of_zero_le hv0
      rw [Int.toNat_natCast] at hvs hlt
      have hs := fun W (hT : Tab W) (hw : 0 < W.heap.size) (hW : Rd W A (nv (toN xs))) => solve_impl_any A n cap (toN xs) u W hT hw (by rw [Hn.out, Lx.out]) hn60 HSx.out hvs hW
        (fun h => solve_both hlt hd (by rw [lx, ← Hn.out]; exact hn60) (maskB_lt hm) h)
      have HM := Lib.hid hmk
      by_cases hz : (solL (toN xs) u).1 = 0
      · have HE : Hid (solvOf d xs u = (((lsolOf (toN xs) u : Nat) : Int), 0)) := by
          show _ = _; unfold solvOf; rw [if_pos h0, Int.toNat_natCast, if_pos hm, Int.toNat_natCast, if_pos hz]
        have hr : solveRes (toN xs) u = .tuple #[.int .i64 ((lsolOf (toN xs) u : Nat) : Int), .bool true] := by unfold solveRes; rw [if_pos hz, decide_eq_true hz]
        rw [hr] at hs
        have HS := Lib.hid hs
        clear h1 hmk hi hm h0 hlt lx hlx hs hz hv0 hr
        generalize lsolOf (toN xs) u = y at *
        go_enter Tryd.func32, Tryd.ntmps32
        go_wp2_with fail
        refine H1.out.mono ?_
        rintro e w1 ⟨rfl, hb⟩
        have HK1 := Lib.hid (blk_keep HK.out hb)
        obtain ⟨x0, x1, _, _, _⟩ := blk2cells HK1.out
        have HB1 := Lib.hid (HB.out.trans (hb.mono HB.out.size))
        clear hb
        go_wp2_with (go_at_call 74; refine (HM.out _).mono ?_; rintro e w' ⟨rfl, rfl⟩)
        refine (HS.out _ (HT.out.below HB1.out hw) (by have := HB1.out.size; omega) (HRx.out.below HB1.out)).mono ?_
        rintro e w2 ⟨rfl, hb⟩
        have HB2 := Lib.hid (HB1.out.trans (hb.mono HB1.out.size))
        clear hb x0 x1
        go_wp2_with fail
        go_ret2
        exact ⟨by rw [HE.out]; rfl, HB2.out⟩
      · have HE : Hid (solvOf d xs u = (0, 4)) := by
          show _ = _; unfold solvOf; rw [if_pos h0, Int.toNat_natCast, if_pos hm, Int.toNat_natCast, if_neg hz]
        have hr : solveRes (toN xs) u = .tuple #[.int .i64 0, .bool false] := by unfold solveRes; rw [if_neg hz, decide_eq_false hz]; rfl
        rw [hr] at hs
        have HS := Lib.hid hs
        clear h1 hmk hi hm h0 hlt lx hlx hs hz hv0 hr
        go_enter Tryd.func32, Tryd.ntmps32
        go_wp2_with fail
        refine H1.out.mono ?_
        rintro e w1 ⟨rfl, hb⟩
        have HK1 := Lib.hid (blk_keep HK.out hb)
        obtain ⟨x0, x1, _, _, _⟩ := blk2cells HK1.out
        have HB1 := Lib.hid (HB.out.trans (hb.mono HB.out.size))
        clear hb
        go_wp2_with (go_at_call 74; refine (HM.out _).mono ?_; rintro e w' ⟨rfl, rfl⟩)
        refine (HS.out _ (HT.out.below HB1.out hw) (by have := HB1.out.size; omega) (HRx.out.below HB1.out)).mono ?_
        rintro e w2 ⟨rfl, hb⟩
        have HB2 := Lib.hid (HB1.out.trans (hb.mono HB1.out.size))
        clear hb x0 x1
        go_wp2_with fail
        go_ret2
        exact ⟨by rw [HE.out]; rfl, HB2.out⟩
  · have HE : Hid (solvOf c xs v = (0, fewOf c xs)) := by show _ = _; unfold solvOf; rw [if_neg h0]
    have hcb : (fewOf c xs != 0) = true := by simpa using h0
    generalize fewOf c xs = code at *
    have H1 := Lib.hid h1
    clear h1 h0
    go_enter Tryd.func32, Tryd.ntmps32
    go_wp2_with fail
    refine H1.out.mono ?_
    rintro e w1 ⟨rfl, hb⟩
    have HB1 := Lib.hid (HB.out.trans (hb.mono HB.out.size))
    clear hb
    go_wp2_with fail
    go_ret2
    exact ⟨by rw [HE.out]; rfl, HB1.out⟩
end Go.Proofs.YtchmplpgamekjaaDoor
