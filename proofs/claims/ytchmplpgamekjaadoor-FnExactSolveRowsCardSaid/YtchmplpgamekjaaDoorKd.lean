/- KernelOf on both sides -/
import Derived.Test.YtchmplpgamekjaaDoorKc
import Derived.Test.YtchmplpgamekjaaDoorX
namespace Go.Proofs.YtchmplpgamekjaaDoor
open Go.RowKit

/-- What KernelOf answers. -/
def kerOf (c : Int) (xs : List Int) : Int × List Nat × Int := if fewOf c xs = 0 then ((xs.length : Int), reduceS (kerK (toN xs) (toN xs).length), 0) else (0, [], fewOf c xs)
theorem fewOf_zero {c : Int} {xs : List Int} (h : fewOf c xs = 0) : isMat c xs = true ∧ xs.length ≤ 60 := by
  unfold fewOf at h
  split at h
  · split at h
    · cases h
    · exact ⟨by assumption, by omega⟩
  · cases h
theorem kerOf_len (c : Int) (xs : List Int) : (kerOf c xs).2.1.length ≤ 1000 := by
  unfold kerOf
  split
  · rename_i h
    have h1 := (fewOf_zero h).2
    have h2 := reduceS_length_le (kerK (toN xs) (toN xs).length)
    have h3 := kerOut_length (fun k => solK (toN xs) k) (toN xs) (toN xs).length
    change (kerK (toN xs) (toN xs).length).length ≤ _ at h3
    have h4 : (toN xs).length = xs.length := by simp [toN]
    simp only
    omega
  · simp
set_option maxRecDepth 100000 in
set_option maxHeartbeats 2000000 in
theorem specKer_any (c : Int) (A : Option Addr) (n cap : Nat) (xs : List Int) (w : World) (hn : n = xs.length) (hsm : n ≤ 1099511627776) (hR : Rd w A (iv xs)) :
    Calls Tryd.prog 37 #[.agg #[.int .i64 c, .slice A n cap]] w fun e w' =>
      ∃ v, e = .returned (.tuple #[.agg #[.int .i64 (kerOf c xs).1, v], .int .i64 (kerOf c xs).2.2]) ∧ w'.ownsRow w.heap.size 2 1 v (kerOf c xs).2.1.length (nv (kerOf c xs).2.1) ∧ Below w.heap.size w w' := by
  have hb1 := blk_alloc (blk_new w (.cells #[.int .i64 c, .slice A n cap] 28)) (.cells #[.int .i64 0, .slice none 0 0] 28)
  have hb2 := blk_new1 w (.cells #[.int .i64 c, .slice A n cap] 28) (.cells #[.int .i64 0, .slice none 0 0] 28)
  have hbel : Below w.heap.size w ((w.alloc (.cells #[.int .i64 c, .slice A n cap] 28)).alloc (.cells #[.int .i64 0, .slice none 0 0] 28)) := ((Below.refl _ _).alloc (Nat.le_refl _) _).alloc (by simp) _
  have h1 := l02Few_any c A n cap xs _ hn hsm (hR.below hbel)
  have HK1 := Lib.hid hb1
  have HK2 := Lib.hid hb2
  have HB := Lib.hid hbel
  have HR := Lib.hid hR
  have Hn := Lib.hid hn
  clear hb1 hb2 hbel hR hn
  by_cases h0 : fewOf c xs = 0
  · obtain ⟨hi, hlx⟩ := fewOf_zero h0
    rw [h0] at h1
    have H1 := Lib.hid h1
    have HSx := Lib.hid (isMat_sm hi)
    have HRx : Hid (Rd w A (nv (toN xs))) := by have := HR.out; rw [iv_toN (fun x hx => (isMat_nonneg hi x hx).1)] at this; exact this
    have lx : (toN xs).length = xs.length := by simp [toN]
    have Lx := Lib.hid lx
    have HE : Hid (kerOf c xs = ((n : Int), reduceS (kerK (toN xs) (toN xs).length), 0)) := by show _ = _; unfold kerOf; rw [if_pos h0, Hn.out]
    have hn60 : n ≤ 60 := by rw [Hn.out]; exact hlx
    clear h1 lx hi hlx h0
    go_enter Tryd.func37, Tryd.ntmps37
    go_wp2_with fail
    refine H1.out.mono ?_
    rintro e w1 ⟨rfl, hb⟩
    have HB1 := Lib.hid (HB.out.trans (hb.mono HB.out.size))
    have hs1 := HB1.out.size
    have HK := Lib.hid (two_keep (blk_keep HK1.out hb) (blk_keep HK2.out hb))
    obtain ⟨x0, x1, f0, f1, lx⟩ := blk2cells (blk_keep HK1.out hb)
    have HC := Lib.hid (fun W (hbW : Below w1.heap.size w1 W) => l02Kernel_any A n cap (toN xs) W (by rw [Hn.out, Lx.out]) hn60 HSx.out (HRx.out.below (HB1.out.trans (hbW.mono hs1))))
    clear hb
    go_wp2_with fail
    go_region_held3 (fun w' => w'.cell? ⟨w.heap.size, 0, none⟩ = some (.int .i64 c) ∧ w'.cell? ⟨w.heap.size, 1, none⟩ = some (.slice A n cap))
      (first | exact ⟨x0, x1⟩ | exact ⟨p0, p1⟩ | exact ⟨cell_set (cell_set p0 (by simp)) (by simp), cell_set (cell_set p1 (by simp)) (by simp)⟩)
      (first | (go_at_call 84; (with_reducible refine (HC.out _ (Below.drew (Below.refl _ _))).mono ?_); (rintro e w2 ⟨v, rfl, ho, hb⟩; obtain ⟨Av, cv, rfl, _, _, _⟩ := owns_shape ho; have HO := Lib.hid ho; have HB2 := Lib.hid ((Below.drew (Below.refl w1.heap.size w1)).trans hb); clear ho hb; obtain ⟨p0, p1, _, _, p4⟩ := blk2cells (HK.out _ HB2.out).1; obtain ⟨q0, q1, q2, q3, q4⟩ := blk2cells (HK.out _ HB2.out).2)))
    go_wp2_with fail
    refine bodyPost_ret (v := .tuple #[.agg #[.int .i64 n, .slice Av (reduceS (kerK (toN xs) (toN xs).length)).length cv], .int .i64 0]) ?_ rfl ⟨_, by rw [HE.out], ?_, ?_⟩
    · simp [results, Tryd.results37, go_sem, q0, q1]
    · rw [HE.out]
      exact (owns_keeps HO.out (((Keeps.refl w2 [some (w.heap.size + 1)]).setCell (p := ⟨w.heap.size + 1, 0, none⟩) (by simp) _).setCell (p := ⟨w.heap.size + 1, 1, none⟩) (by simp) _) (.inr (by simp only [List.mem_singleton]; exact own_ne HO.out ((HK.out _ HB2.out).2) (by decide)))).mono hs1
    · exact ((HB1.out.trans (HB2.out.mono hs1)).setCell (p := ⟨w.heap.size + 1, 0, none⟩) (by simp) _).setCell (p := ⟨w.heap.size + 1, 1, none⟩) (by simp) _
  · have HE : Hid (kerOf c xs = (0, [], fewOf c xs)) := by show _ = _; unfold kerOf; rw [if_neg h0]
    have hcb : (fewOf c xs != 0) = true := by simpa using h0
    generalize fewOf c xs = code at *
    have H1 := Lib.hid h1
    clear h1 h0
    go_enter Tryd.func37, Tryd.ntmps37
    go_wp2_with fail
    refine H1.out.mono ?_
    rintro e w1 ⟨rfl, hb⟩
    have HB1 := Lib.hid (HB.out.trans (hb.mono HB.out.size))
    obtain ⟨z0, z1, z2, z3, lz⟩ := blk2cells (blk_keep HK2.out hb)
    clear hb
    go_wp2_with fail
    refine bodyPost_ret (v := .tuple #[.agg #[.int .i64 0, .slice none 0 0], .int .i64 code]) ?_ rfl ⟨_, by rw [HE.out], by rw [HE.out]; exact World.ownsRow_nil _ _ _ _, ?_⟩
    · simp [results, Tryd.results37, go_sem, z0, z1]
    · exact (HB1.out.setCell (p := ⟨w.heap.size + 1, 0, none⟩) (by simp) _).setCell (p := ⟨w.heap.size + 1, 1, none⟩) (by simp) _
set_option maxRecDepth 100000 in
set_option maxHeartbeats 2000000 in
theorem implKer_any (c : Int) (A : Option Addr) (n cap : Nat) (xs : List Int) (w : World) (hT : Tab w) (hw : 0 < w.heap.size) (hn : n = xs.length) (hsm : n ≤ 1099511627776) (hR : Rd w A (iv xs)) :
    Calls Tryd.prog 38 #[.agg #[.int .i64 c, .slice A n cap]] w fun e w' =>
      ∃ v, e = .returned (.tuple #[.agg #[.int .i64 (kerOf c xs).1, v], .int .i64 (kerOf c xs).2.2]) ∧ w'.ownsRow w.heap.size 2 1 v (kerOf c xs).2.1.length (nv (kerOf c xs).2.1) ∧ Below w.heap.size w w' := by
  have hb1 := blk_alloc (blk_new w (.cells #[.int .i64 c, .slice A n cap] 28)) (.cells #[.int .i64 0, .slice none 0 0] 28)
  have hb2 := blk_new1 w (.cells #[.int .i64 c, .slice A n cap] 28) (.cells #[.int .i64 0, .slice none 0 0] 28)
  have hbel : Below w.heap.size w ((w.alloc (.cells #[.int .i64 c, .slice A n cap] 28)).alloc (.cells #[.int .i64 0, .slice none 0 0] 28)) := ((Below.refl _ _).alloc (Nat.le_refl _) _).alloc (by simp) _
  have h1 := narrow_any c A n cap xs _ hn hsm (hR.below hbel)
  have HK1 := Lib.hid hb1
  have HK2 := Lib.hid hb2
  have HB := Lib.hid hbel
  have HR := Lib.hid hR
  have Hn := Lib.hid hn
  have HT := Lib.hid hT
  clear hT
  clear hb1 hb2 hbel hR hn
  by_cases h0 : fewOf c xs = 0
  · obtain ⟨hi, hlx⟩ := fewOf_zero h0
    rw [h0] at h1
    have H1 := Lib.hid h1
    have HSx := Lib.hid (isMat_sm hi)
    have HRx : Hid (Rd w A (nv (toN xs))) := by have := HR.out; rw [iv_toN (fun x hx => (isMat_nonneg hi x hx).1)] at this; exact this
    have lx : (toN xs).length = xs.length := by simp [toN]
    have Lx := Lib.hid lx
    have HE : Hid (kerOf c xs = ((n : Int), reduceS (kerK (toN xs) (toN xs).length), 0)) := by show _ = _; unfold kerOf; rw [if_pos h0, Hn.out]
    have hn60 : n ≤ 60 := by rw [Hn.out]; exact hlx
    clear h1 lx hi hlx h0
    go_enter Tryd.func38, Tryd.ntmps38
    go_wp2_with fail
    refine H1.out.mono ?_
    rintro e w1 ⟨rfl, hb⟩
    have HB1 := Lib.hid (HB.out.trans (hb.mono HB.out.size))
    have hs1 := HB1.out.size
    have HK := Lib.hid (two_keep (blk_keep HK1.out hb) (blk_keep HK2.out hb))
    obtain ⟨x0, x1, f0, f1, lx⟩ := blk2cells (blk_keep HK1.out hb)
    have HC := Lib.hid (fun W (hbW : Below w1.heap.size w1 W) => kernel_any A n cap (toN xs) W (HT.out.below (HB1.out.trans (hbW.mono hs1)) hw) (by have := hbW.size; omega) (by rw [Hn.out, Lx.out]) hn60 HSx.out (HRx.out.below (HB1.out.trans (hbW.mono hs1))))
    clear hb
    go_wp2_with fail
    go_region_held3 (fun w' => w'.cell? ⟨w.heap.size, 0, none⟩ = some (.int .i64 c) ∧ w'.cell? ⟨w.heap.size, 1, none⟩ = some (.slice A n cap))
      (first | exact ⟨x0, x1⟩ | exact ⟨p0, p1⟩ | exact ⟨cell_set (cell_set p0 (by simp)) (by simp), cell_set (cell_set p1 (by simp)) (by simp)⟩)
      (first | (go_at_call 89; (with_reducible refine (HC.out _ (Below.drew (Below.refl _ _))).mono ?_); (rintro e w2 ⟨v, rfl, ho, hb⟩; obtain ⟨Av, cv, rfl, _, _, _⟩ := owns_shape ho; have HO := Lib.hid ho; have HB2 := Lib.hid ((Below.drew (Below.refl w1.heap.size w1)).trans hb); clear ho hb; obtain ⟨p0, p1, _, _, p4⟩ := blk2cells (HK.out _ HB2.out).1; obtain ⟨q0, q1, q2, q3, q4⟩ := blk2cells (HK.out _ HB2.out).2)))
    go_wp2_with fail
    refine bodyPost_ret (v := .tuple #[.agg #[.int .i64 n, .slice Av (reduceS (kerK (toN xs) (toN xs).length)).length cv], .int .i64 0]) ?_ rfl ⟨_, by rw [HE.out], ?_, ?_⟩
    · simp [results, Tryd.results38, go_sem, q0, q1]
    · rw [HE.out]
      exact (owns_keeps HO.out (((Keeps.refl w2 [some (w.heap.size + 1)]).setCell (p := ⟨w.heap.size + 1, 0, none⟩) (by simp) _).setCell (p := ⟨w.heap.size + 1, 1, none⟩) (by simp) _) (.inr (by simp only [List.mem_singleton]; exact own_ne HO.out ((HK.out _ HB2.out).2) (by decide)))).mono hs1
    · exact ((HB1.out.trans (HB2.out.mono hs1)).setCell (p := ⟨w.heap.size + 1, 0, none⟩) (by simp) _).setCell (p := ⟨w.heap.size + 1, 1, none⟩) (by simp) _
  · have HE : Hid (kerOf c xs = (0, [], fewOf c xs)) := by show _ = _; unfold kerOf; rw [if_neg h0]
    have hcb : (fewOf c xs != 0) = true := by simpa using h0
    generalize fewOf c xs = code at *
    have H1 := Lib.hid h1
    clear h1 h0
    go_enter Tryd.func38, Tryd.ntmps38
    go_wp2_with fail
    refine H1.out.mono ?_
    rintro e w1 ⟨rfl, hb⟩
    have HB1 := Lib.hid (HB.out.trans (hb.mono HB.out.size))
    obtain ⟨z0, z1, z2, z3, lz⟩ := blk2cells (blk_keep HK2.out hb)
    clear hb
    go_wp2_with fail
    refine bodyPost_ret (v := .tuple #[.agg #[.int .i64 0, .slice none 0 0], .int .i64 code]) ?_ rfl ⟨_, by rw [HE.out], by rw [HE.out]; exact World.ownsRow_nil _ _ _ _, ?_⟩
    · simp [results, Tryd.results38, go_sem, z0, z1]
    · exact (HB1.out.setCell (p := ⟨w.heap.size + 1, 0, none⟩) (by simp) _).setCell (p := ⟨w.heap.size + 1, 1, none⟩) (by simp) _

end Go.Proofs.YtchmplpgamekjaaDoor
