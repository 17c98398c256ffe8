/- MeetOfSpaces on both sides -/
import Derived.Test.YtchmplpgamekjaaDoorMf
import Derived.Test.YtchmplpgamekjaaDoorMg
import Derived.Test.YtchmplpgamekjaaDoorX
namespace Go.Proofs.YtchmplpgamekjaaDoor
open Go.RowKit

/-- What MeetOfSpaces answers. -/
def meetOf (c : Int) (xs : List Int) (c' : Int) (ys : List Int) : Int × List Nat × Int := if bothOf c xs c' ys = 0 then (c, meetS (toN xs) (toN ys), 0) else (0, [], bothOf c xs c' ys)
theorem meetOf_len (c : Int) (xs : List Int) (c' : Int) (ys : List Int) : (meetOf c xs c' ys).2.1.length ≤ 1000 := by
  unfold meetOf
  split
  · rename_i h
    obtain ⟨hi, hj, _⟩ := bothOf_zero h
    have h2 := isMat_len hj
    have h3 := reduceS_length_le (meetK (toN xs) (toN ys) (toN ys).length)
    have h4 := meetOut_length (fun k => spanL (dup (toN xs) ++ zs ((toN ys).take k))) (toN ys) (toN ys).length
    change (meetK (toN xs) (toN ys) (toN ys).length).length ≤ _ at h4
    have h5 : (toN ys).length = ys.length := by simp [toN]
    rw [meetS_K]
    simp only
    omega
  · simp
set_option maxRecDepth 100000 in
set_option maxHeartbeats 2000000 in
theorem specMeet_any (c c' : Int) (A A' : Option Addr) (n n' cap cap' : Nat) (xs ys : List Int) (w : World) (hn : n = xs.length) (hn' : n' = ys.length) (hsm : n ≤ 1099511627776) (hsm' : n' ≤ 1099511627776) (hR : Rd w A (iv xs)) (hR' : Rd w A' (iv ys)) :
    Calls Tryd.prog 39 #[.agg #[.int .i64 c, .slice A n cap], .agg #[.int .i64 c', .slice A' n' cap']] w fun e w' =>
      ∃ v, e = .returned (.tuple #[.agg #[.int .i64 (meetOf c xs c' ys).1, v], .int .i64 (meetOf c xs c' ys).2.2]) ∧ w'.ownsRow w.heap.size 2 1 v (meetOf c xs c' ys).2.1.length (nv (meetOf c xs c' ys).2.1) ∧ Below w.heap.size w w' := by
  have hb1 := blk_alloc (blk_alloc (blk_new w (.cells #[.int .i64 c, .slice A n cap] 28)) (.cells #[.int .i64 c', .slice A' n' cap'] 28)) (.cells #[.int .i64 0, .slice none 0 0] 28)
  have hb2 := blk_alloc (blk_new1 w (.cells #[.int .i64 c, .slice A n cap] 28) (.cells #[.int .i64 c', .slice A' n' cap'] 28)) (.cells #[.int .i64 0, .slice none 0 0] 28)
  have hb3 := blk_new2 w (.cells #[.int .i64 c, .slice A n cap] 28) (.cells #[.int .i64 c', .slice A' n' cap'] 28) (.cells #[.int .i64 0, .slice none 0 0] 28)
  have hbel : Below w.heap.size w (((w.alloc (.cells #[.int .i64 c, .slice A n cap] 28)).alloc (.cells #[.int .i64 c', .slice A' n' cap'] 28)).alloc (.cells #[.int .i64 0, .slice none 0 0] 28)) := (((Below.refl _ _).alloc (Nat.le_refl _) _).alloc (by simp) _).alloc (by simp; omega) _
  have h1 := l02Both_any c c' A A' n n' cap cap' xs ys _ hn hn' hsm hsm' (hR.below hbel) (hR'.below hbel)
  have HK := Lib.hid (three_keep hb1 hb2 hb3)
  have HB := Lib.hid hbel
  have HR := Lib.hid hR
  have HR' := Lib.hid hR'
  have Hn := Lib.hid hn
  have Hn' := Lib.hid hn'
  clear hb1 hb2 hb3 hbel hR hR' hn hn'
  by_cases h0 : bothOf c xs c' ys = 0
  · obtain ⟨hi, hj, hc⟩ := bothOf_zero h0
    rw [h0] at h1
    have H1 := Lib.hid h1
    have HE : Hid (meetOf c xs c' ys = (c, meetS (toN xs) (toN ys), 0)) := by show _ = _; unfold meetOf; rw [if_pos h0]
    have hlx := isMat_len hi
    have hly := isMat_len hj
    have HSx := Lib.hid (isMat_sm hi)
    have HSy := Lib.hid (isMat_sm hj)
    have HRx : Hid (Rd w A (nv (toN xs))) := by have := HR.out; rw [iv_toN (fun x hx => (isMat_nonneg hi x hx).1)] at this; exact this
    have HRy : Hid (Rd w A' (nv (toN ys))) := by have := HR'.out; rw [iv_toN (fun x hx => (isMat_nonneg hj x hx).1)] at this; exact this
    have lx : (toN xs).length = xs.length := by simp [toN]
    have ly : (toN ys).length = ys.length := by simp [toN]
    have hlxN : n ≤ 200 := by rw [Hn.out]; exact hlx
    have hlyN : n' ≤ 200 := by rw [Hn'.out]; exact hly
    have Lx := Lib.hid lx
    have Ly := Lib.hid ly
    clear h1 h0 hi hj hc lx ly hlx hly
    go_enter Tryd.func39, Tryd.ntmps39
    go_wp2_with fail
    refine H1.out.mono ?_
    rintro e w1 ⟨rfl, hb⟩
    have HB1 := Lib.hid (HB.out.trans (hb.mono HB.out.size))
    have hs1 := HB1.out.size
    have hka := HK.out _ hb
    have HKa := Lib.hid (three_keep hka.1 hka.2.1 hka.2.2)
    obtain ⟨x0, x1, _, _, lx⟩ := blk2cells hka.1
    obtain ⟨y0, y1, _, _, ly⟩ := blk2cells hka.2.1
    have HC := Lib.hid (fun W (hbW : Below w1.heap.size w1 W) => l02Meet_any A A' n n' cap cap' (toN xs) (toN ys) W (by rw [Hn.out, Lx.out]) (by rw [Hn'.out, Ly.out]) hlxN hlyN HSx.out HSy.out (HRx.out.below (HB1.out.trans (hbW.mono hs1))) (HRy.out.below (HB1.out.trans (hbW.mono hs1))))
    clear hb hka
    go_wp2_with fail
    go_region_held3 (fun w' => w'.cell? ⟨w.heap.size, 0, none⟩ = some (.int .i64 c) ∧ w'.cell? ⟨w.heap.size, 1, none⟩ = some (.slice A n cap) ∧ w'.cell? ⟨w.heap.size + 1, 1, none⟩ = some (.slice A' n' cap'))
      (first | exact ⟨x0, x1, y1⟩ | exact ⟨q0, q1, q2⟩ | exact ⟨cell_set (cell_set q0 (by simp <;> omega)) (by simp <;> omega), cell_set (cell_set q1 (by simp <;> omega)) (by simp <;> omega), cell_set (cell_set q2 (by simp <;> omega)) (by simp <;> omega)⟩)
      (first
        | (go_at_call 90; (with_reducible refine (HC.out _ (Below.drew (Below.refl _ _))).mono ?_); (rintro e w3 ⟨v, rfl, ho, hb⟩; obtain ⟨Aw, cw, rfl, _, _, _⟩ := owns_shape ho; have HB3 := Lib.hid ((Below.drew (Below.refl w1.heap.size w1)).trans hb); have HO3 := Lib.hid ho; clear ho hb; obtain ⟨q0, q1, _, _, _⟩ := blk2cells (HKa.out _ HB3.out).1; obtain ⟨_, q2, _, _, _⟩ := blk2cells (HKa.out _ HB3.out).2.1; obtain ⟨z0, z1, z2, z3, z4⟩ := blk2cells (HKa.out _ HB3.out).2.2)))
    go_wp2_with fail
    refine bodyPost_ret (v := .tuple #[.agg #[.int .i64 c, .slice Aw (meetS (toN xs) (toN ys)).length cw], .int .i64 0]) ?_ rfl ⟨_, by rw [HE.out], ?_, ?_⟩
    · simp [results, Tryd.results39, go_sem, z0, z1]
    · rw [HE.out]
      exact (owns_keeps HO3.out (((Keeps.refl w3 [some (w.heap.size + 1 + 1)]).setCell (p := ⟨w.heap.size + 1 + 1, 0, none⟩) (by simp) _).setCell (p := ⟨w.heap.size + 1 + 1, 1, none⟩) (by simp) _) (.inr (by simp only [List.mem_singleton]; exact own_ne HO3.out ((HKa.out _ HB3.out).2.2) (by decide)))).mono hs1
    · exact ((HB1.out.trans (HB3.out.mono hs1)).setCell (p := ⟨w.heap.size + 1 + 1, 0, none⟩) (by simp; omega) _).setCell (p := ⟨w.heap.size + 1 + 1, 1, none⟩) (by simp; omega) _
  · have HE : Hid (meetOf c xs c' ys = (0, [], bothOf c xs c' ys)) := by show _ = _; unfold meetOf; rw [if_neg h0]
    have hcb : (bothOf c xs c' ys != 0) = true := by simpa using h0
    generalize bothOf c xs c' ys = code at *
    have H1 := Lib.hid h1
    clear h1 h0
    go_enter Tryd.func39, Tryd.ntmps39
    go_wp2_with fail
    refine H1.out.mono ?_
    rintro e w1 ⟨rfl, hb⟩
    have HB1 := Lib.hid (HB.out.trans (hb.mono HB.out.size))
    obtain ⟨z0, z1, z2, z3, lz⟩ := blk2cells (HK.out _ hb).2.2
    clear hb
    go_wp2_with fail
    refine bodyPost_ret (v := .tuple #[.agg #[.int .i64 0, .slice none 0 0], .int .i64 code]) ?_ rfl ⟨_, by rw [HE.out], by rw [HE.out]; exact World.ownsRow_nil _ _ _ _, ?_⟩
    · simp [results, Tryd.results39, go_sem, z0, z1]
    · exact (HB1.out.setCell (p := ⟨w.heap.size + 1 + 1, 0, none⟩) (by simp; omega) _).setCell (p := ⟨w.heap.size + 1 + 1, 1, none⟩) (by simp; omega) _
set_option maxRecDepth 100000 in
set_option maxHeartbeats 2000000 in
theorem implMeet_any (c c' : Int) (A A' : Option Addr) (n n' cap cap' : Nat) (xs ys : List Int) (w : World) (hT : Tab w) (hw : 0 < w.heap.size) (hn : n = xs.length) (hn' : n' = ys.length) (hsm : n ≤ 1099511627776) (hsm' : n' ≤ 1099511627776) (hR : Rd w A (iv xs)) (hR' : Rd w A' (iv ys)) :
    Calls Tryd.prog 40 #[.agg #[.int .i64 c, .slice A n cap], .agg #[.int .i64 c', .slice A' n' cap']] w fun e w' =>
      ∃ v, e = .returned (.tuple #[.agg #[.int .i64 (meetOf c xs c' ys).1, v], .int .i64 (meetOf c xs c' ys).2.2]) ∧ w'.ownsRow w.heap.size 2 1 v (meetOf c xs c' ys).2.1.length (nv (meetOf c xs c' ys).2.1) ∧ Below w.heap.size w w' := by
  have hb1 := blk_alloc (blk_alloc (blk_new w (.cells #[.int .i64 c, .slice A n cap] 28)) (.cells #[.int .i64 c', .slice A' n' cap'] 28)) (.cells #[.int .i64 0, .slice none 0 0] 28)
  have hb2 := blk_alloc (blk_new1 w (.cells #[.int .i64 c, .slice A n cap] 28) (.cells #[.int .i64 c', .slice A' n' cap'] 28)) (.cells #[.int .i64 0, .slice none 0 0] 28)
  have hb3 := blk_new2 w (.cells #[.int .i64 c, .slice A n cap] 28) (.cells #[.int .i64 c', .slice A' n' cap'] 28) (.cells #[.int .i64 0, .slice none 0 0] 28)
  have hbel : Below w.heap.size w (((w.alloc (.cells #[.int .i64 c, .slice A n cap] 28)).alloc (.cells #[.int .i64 c', .slice A' n' cap'] 28)).alloc (.cells #[.int .i64 0, .slice none 0 0] 28)) := (((Below.refl _ _).alloc (Nat.le_refl _) _).alloc (by simp) _).alloc (by simp; omega) _
  have h1 := equalColumns_any c c' A A' n n' cap cap' xs ys _ hn hn' hsm hsm' (hR.below hbel) (hR'.below hbel)
  have HK := Lib.hid (three_keep hb1 hb2 hb3)
  have HB := Lib.hid hbel
  have HR := Lib.hid hR
  have HR' := Lib.hid hR'
  have HT := Lib.hid hT
  clear hT
  have Hn := Lib.hid hn
  have Hn' := Lib.hid hn'
  clear hb1 hb2 hb3 hbel hR hR' hn hn'
  by_cases h0 : bothOf c xs c' ys = 0
  · obtain ⟨hi, hj, hc⟩ := bothOf_zero h0
    rw [h0] at h1
    have H1 := Lib.hid h1
    have HE : Hid (meetOf c xs c' ys = (c, meetS (toN xs) (toN ys), 0)) := by show _ = _; unfold meetOf; rw [if_pos h0]
    have hlx := isMat_len hi
    have hly := isMat_len hj
    have HSx := Lib.hid (isMat_sm hi)
    have HSy := Lib.hid (isMat_sm hj)
    have HRx : Hid (Rd w A (nv (toN xs))) := by have := HR.out; rw [iv_toN (fun x hx => (isMat_nonneg hi x hx).1)] at this; exact this
    have HRy : Hid (Rd w A' (nv (toN ys))) := by have := HR'.out; rw [iv_toN (fun x hx => (isMat_nonneg hj x hx).1)] at this; exact this
    have lx : (toN xs).length = xs.length := by simp [toN]
    have ly : (toN ys).length = ys.length := by simp [toN]
    have hlxN : n ≤ 200 := by rw [Hn.out]; exact hlx
    have hlyN : n' ≤ 200 := by rw [Hn'.out]; exact hly
    have Lx := Lib.hid lx
    have Ly := Lib.hid ly
    clear h1 h0 hi hj hc lx ly hlx hly
    go_enter Tryd.func40, Tryd.ntmps40
    go_wp2_with fail
    refine H1.out.mono ?_
    rintro e w1 ⟨rfl, hb⟩
    have HB1 := Lib.hid (HB.out.trans (hb.mono HB.out.size))
    have hs1 := HB1.out.size
    have hka := HK.out _ hb
    have HKa := Lib.hid (three_keep hka.1 hka.2.1 hka.2.2)
    obtain ⟨x0, x1, _, _, lx⟩ := blk2cells hka.1
    obtain ⟨y0, y1, _, _, ly⟩ := blk2cells hka.2.1
    have HC := Lib.hid (fun W (hbW : Below w1.heap.size w1 W) => meet_any A A' n n' cap cap' (toN xs) (toN ys) W (HT.out.below (HB1.out.trans (hbW.mono hs1)) hw) (by have := hbW.size; omega) (by rw [Hn.out, Lx.out]) (by rw [Hn'.out, Ly.out]) hlxN hlyN HSx.out HSy.out (HRx.out.below (HB1.out.trans (hbW.mono hs1))) (HRy.out.below (HB1.out.trans (hbW.mono hs1))))
    clear hb hka
    go_wp2_with fail
    go_region_held3 (fun w' => w'.cell? ⟨w.heap.size, 0, none⟩ = some (.int .i64 c) ∧ w'.cell? ⟨w.heap.size, 1, none⟩ = some (.slice A n cap) ∧ w'.cell? ⟨w.heap.size + 1, 1, none⟩ = some (.slice A' n' cap'))
      (first | exact ⟨x0, x1, y1⟩ | exact ⟨q0, q1, q2⟩ | exact ⟨cell_set (cell_set q0 (by simp <;> omega)) (by simp <;> omega), cell_set (cell_set q1 (by simp <;> omega)) (by simp <;> omega), cell_set (cell_set q2 (by simp <;> omega)) (by simp <;> omega)⟩)
      (first
        | (go_at_call 91; (with_reducible refine (HC.out _ (Below.drew (Below.refl _ _))).mono ?_); (rintro e w3 ⟨v, rfl, ho, hb⟩; obtain ⟨Aw, cw, rfl, _, _, _⟩ := owns_shape ho; have HB3 := Lib.hid ((Below.drew (Below.refl w1.heap.size w1)).trans hb); have HO3 := Lib.hid ho; clear ho hb; obtain ⟨q0, q1, _, _, _⟩ := blk2cells (HKa.out _ HB3.out).1; obtain ⟨_, q2, _, _, _⟩ := blk2cells (HKa.out _ HB3.out).2.1; obtain ⟨z0, z1, z2, z3, z4⟩ := blk2cells (HKa.out _ HB3.out).2.2)))
    go_wp2_with fail
    refine bodyPost_ret (v := .tuple #[.agg #[.int .i64 c, .slice Aw (meetS (toN xs) (toN ys)).length cw], .int .i64 0]) ?_ rfl ⟨_, by rw [HE.out], ?_, ?_⟩
    · simp [results, Tryd.results40, go_sem, z0, z1]
    · rw [HE.out]
      exact (owns_keeps HO3.out (((Keeps.refl w3 [some (w.heap.size + 1 + 1)]).setCell (p := ⟨w.heap.size + 1 + 1, 0, none⟩) (by simp) _).setCell (p := ⟨w.heap.size + 1 + 1, 1, none⟩) (by simp) _) (.inr (by simp only [List.mem_singleton]; exact own_ne HO3.out ((HKa.out _ HB3.out).2.2) (by decide)))).mono hs1
    · exact ((HB1.out.trans (HB3.out.mono hs1)).setCell (p := ⟨w.heap.size + 1 + 1, 0, none⟩) (by simp; omega) _).setCell (p := ⟨w.heap.size + 1 + 1, 1, none⟩) (by simp; omega) _
  · have HE : Hid (meetOf c xs c' ys = (0, [], bothOf c xs c' ys)) := by show _ = _; unfold meetOf; rw [if_neg h0]
    have hcb : (bothOf c xs c' ys != 0) = true := by simpa using h0
    generalize bothOf c xs c' ys = code at *
    have H1 := Lib.hid h1
    clear h1 h0
    go_enter Tryd.func40, Tryd.ntmps40
    go_wp2_with fail
    refine H1.out.mono ?_
    rintro e w1 ⟨rfl, hb⟩
    have HB1 := Lib.hid (HB.out.trans (hb.mono HB.out.size))
    obtain ⟨z0, z1, z2, z3, lz⟩ := blk2cells (HK.out _ hb).2.2
    clear hb
    go_wp2_with fail
    refine bodyPost_ret (v := .tuple #[.agg #[.int .i64 0, .slice none 0 0], .int .i64 code]) ?_ rfl ⟨_, by rw [HE.out], by rw [HE.out]; exact World.ownsRow_nil _ _ _ _, ?_⟩
    · simp [results, Tryd.results40, go_sem, z0, z1]
    · exact (HB1.out.setCell (p := ⟨w.heap.size + 1 + 1, 0, none⟩) (by simp; omega) _).setCell (p := ⟨w.heap.size + 1 + 1, 1, none⟩) (by simp; omega) _
end Go.Proofs.YtchmplpgamekjaaDoor
