/- impl.reduced; ReducedForm on both sides -/
import Derived.Test.YtchmplpgamekjaaDoorSs
import Derived.Test.YtchmplpgamekjaaDoorX
namespace Go.Proofs.YtchmplpgamekjaaDoor
open Go.RowKit

set_option maxHeartbeats 1000000 in
/-- impl.reduced: the reduced rows, as a new own row -/
theorem reduced_any (A : Option Addr) (n c : Nat) (rows : List Nat) (w : World) (hT : Tab w) (hw : 0 < w.heap.size) (hn : n = rows.length) (hsmall : n ≤ 1000000) (hS : ∀ r ∈ rows, Sm r) (hR : Rd w A (nv rows)) :
    Calls Tryd.prog 87 #[.slice A n c] w fun e w' => ∃ v, e = .returned v ∧ w'.ownsRow w.heap.size 2 1 v (reduceS rows).length (nv (reduceS rows)) ∧ Below w.heap.size w w' := by
  have h1 := spanOf_any A n c rows w hT hw hn hsmall hS hR
  have H1 := Lib.hid h1
  have HT := Lib.hid hT
  have hsp := spanL_perm (zs rows) (fun p hp => by obtain ⟨r, hr, rfl⟩ := List.mem_map.1 hp; exact ⟨hS r hr, Sm.zero⟩)
  rw [r1_zs] at hsp
  have HSP := Lib.hid hsp
  have HA := Lib.hid (asc_reduce hS)
  have hl := spanL_length_le (zs rows)
  rw [zs_length, ← hn] at hl
  clear h1 hT hn hS hR hsp
  go_enter Tryd.func87, Tryd.ntmps87
  go_wp2_with fail
  refine H1.out.mono ?_
  rintro e w1 ⟨rfl, ⟨v1, v2, hs⟩, hb⟩
  have h2 := spanReduced_any w.heap.size w.heap.size v1 v2 _ (reduceS rows) w1 (HT.out.below hb hw) (by have := hb.size; omega) hs (by omega) HSP.out.2.1 HA.out HSP.out.1
  have H2 := Lib.hid h2
  have HB := Lib.hid hb
  clear h2 hs hb
  go_wp2_with fail
  refine H2.out.mono ?_
  rintro e w2 ⟨v, rfl, ho, hb⟩
  have HO := Lib.hid ho
  have HB2 := Lib.hid hb
  clear ho hb
  go_wp2_with fail
  go_ret
  exact ⟨v, rfl, HO.out.mono HB.out.size, HB.out.trans (HB2.out.mono HB.out.size)⟩

theorem cell_set {w : World} {a p : Addr} {v u : Value} (h : w.cell? a = some v) (hne : a.block ≠ p.block) : (w.setCell p u).cell? a = some v :=
  (World.cell?_of_block (a := a) (Below.heap_setCell w p u a.block hne)).trans h
theorem three_keep {w : World} {g g' g'' : Nat} {x x' x'' : Obj} (h : w.heap[g]? = some x) (h' : w.heap[g']? = some x') (h'' : w.heap[g'']? = some x'') : ∀ w', Below w.heap.size w w' → w'.heap[g]? = some x ∧ w'.heap[g']? = some x' ∧ w'.heap[g'']? = some x'' :=
  fun _ hb => ⟨blk_keep h hb, blk_keep h' hb, blk_keep h'' hb⟩
/-- What ReducedForm answers. -/
def redOf (c : Int) (xs : List Int) : Int × List Nat × Int := if isMat c xs then (c, reduceS (toN xs), 0) else (0, [], 1)
theorem redOf_len (c : Int) (xs : List Int) : (redOf c xs).2.1.length ≤ 1000 := by
  unfold redOf
  split
  · rename_i h
    have h1 := isMat_len h
    have h2 := reduceS_length_le (toN xs)
    simp [toN] at h2 ⊢; omega
  · simp

set_option maxRecDepth 100000 in
set_option maxHeartbeats 2000000 in
theorem specRed_any (c : Int) (A : Option Addr) (n cap : Nat) (xs : List Int) (w : World) (hn : n = xs.length) (hsm : n ≤ 1099511627776) (hR : Rd w A (iv xs)) :
    Calls Tryd.prog 33 #[.agg #[.int .i64 c, .slice A n cap]] w fun e w' =>
      ∃ v, e = .returned (.tuple #[.agg #[.int .i64 (redOf c xs).1, v], .int .i64 (redOf c xs).2.2]) ∧ w'.ownsRow w.heap.size 2 1 v (redOf c xs).2.1.length (nv (redOf c xs).2.1) ∧ Below w.heap.size w w' := by
  have hb1 := blk_alloc (blk_new w (.cells #[.int .i64 c, .slice A n cap] 28)) (.cells #[.int .i64 0, .slice none 0 0] 28)
  have hb2 := blk_new1 w (.cells #[.int .i64 c, .slice A n cap] 28) (.cells #[.int .i64 0, .slice none 0 0] 28)
  have hbel : Below w.heap.size w ((w.alloc (.cells #[.int .i64 c, .slice A n cap] 28)).alloc (.cells #[.int .i64 0, .slice none 0 0] 28)) := ((Below.refl _ _).alloc (Nat.le_refl _) _).alloc (by simp) _
  have h1 := l02Is_any c A n cap xs _ hn hsm (hR.below hbel)
  have HK1 := Lib.hid hb1
  have HK2 := Lib.hid hb2
  have HB := Lib.hid hbel
  have HR := Lib.hid hR
  have Hn := Lib.hid hn
  clear hb1 hb2 hbel hR hn
  cases hi : isMat c xs with
  | false =>
    rw [hi] at h1
    have HE : Hid (redOf c xs = (0, [], 1)) := by show _ = _; simp [redOf, hi]
    have H1 := Lib.hid h1
    clear h1 hi
    go_enter Tryd.func33, Tryd.ntmps33
    go_wp2_with fail
    refine H1.out.mono ?_
    rintro e w1 ⟨rfl, hb⟩
    have HB1 := Lib.hid (HB.out.trans (hb.mono HB.out.size))
    obtain ⟨x0, x1, f0, f1, lx⟩ := blk2cells (blk_keep HK2.out hb)
    clear hb
    go_wp2_with fail
    refine bodyPost_ret (v := .tuple #[.agg #[.int .i64 0, .slice none 0 0], .int .i64 1]) ?_ rfl ⟨_, by rw [HE.out], by rw [HE.out]; exact World.ownsRow_nil _ _ _ _, ?_⟩
    · simp [results, Tryd.results33, go_sem, x0, x1]
    · exact (HB1.out.setCell (p := ⟨w.heap.size + 1, 0, none⟩) (by simp) _).setCell (p := ⟨w.heap.size + 1, 1, none⟩) (by simp) _
  | true =>
    rw [hi] at h1
    have H1 := Lib.hid h1
    have HSx := Lib.hid (isMat_sm hi)
    have hlx := isMat_len hi
    have HRx : Hid (Rd w A (nv (toN xs))) := by have := HR.out; rw [iv_toN (fun x hx => (isMat_nonneg hi x hx).1)] at this; exact this
    have lx : (toN xs).length = xs.length := by simp [toN]
    have Lx := Lib.hid lx
    have HE : Hid (redOf c xs = (c, reduceS (toN xs), 0)) := by show _ = _; simp [redOf, hi]
    have hn200 : n ≤ 200 := by rw [Hn.out]; exact hlx
    clear h1 lx hi hlx
    go_enter Tryd.func33, Tryd.ntmps33
    go_wp2_with fail
    refine H1.out.mono ?_
    rintro e w1 ⟨rfl, hb⟩
    have HB1 := Lib.hid (HB.out.trans (hb.mono HB.out.size))
    have hs1 := HB1.out.size
    have HK := Lib.hid (two_keep (blk_keep HK1.out hb) (blk_keep HK2.out hb))
    have HK2a := Lib.hid (blk_keep HK2.out hb)
    obtain ⟨x0, x1, f0, f1, lx⟩ := blk2cells (blk_keep HK1.out hb)
    obtain ⟨y0, y1, g0, g1, ly⟩ := blk2cells HK2a.out
    have HC := Lib.hid (fun W (hbW : Below w1.heap.size w1 W) => reduce_any A n cap (toN xs) W (by rw [Hn.out, Lx.out]) (by omega) HSx.out (HRx.out.below (HB1.out.trans (hbW.mono hs1))))
    clear hb
    go_wp2_with fail
    go_region_held3 (fun w' => w'.cell? ⟨w.heap.size, 0, none⟩ = some (.int .i64 c) ∧ w'.cell? ⟨w.heap.size, 1, none⟩ = some (.slice A n cap))
      (first | exact ⟨x0, x1⟩ | exact ⟨p0, p1⟩ | exact ⟨cell_set p0 (by simp), cell_set p1 (by simp)⟩ | exact ⟨cell_set (cell_set p0 (by simp)) (by simp), cell_set (cell_set p1 (by simp)) (by simp)⟩)
      (first | (go_at_call 69; (with_reducible refine (HC.out _ (Below.drew (Below.refl _ _))).mono ?_); (rintro e w2 ⟨v, rfl, ho, hb⟩; obtain ⟨Av, cv, rfl, _, _, _⟩ := owns_shape ho; have HO := Lib.hid ho; have HB2 := Lib.hid ((Below.drew (Below.refl w1.heap.size w1)).trans hb); clear ho hb; obtain ⟨p0, p1, _, _, p4⟩ := blk2cells (HK.out _ HB2.out).1; obtain ⟨q0, q1, q2, q3, q4⟩ := blk2cells (HK.out _ HB2.out).2)))
    go_wp2_with fail
    refine bodyPost_ret (v := .tuple #[.agg #[.int .i64 c, .slice Av (reduceS (toN xs)).length cv], .int .i64 0]) ?_ rfl ⟨_, by rw [HE.out], ?_, ?_⟩
    · simp [results, Tryd.results33, go_sem, q0, q1]
    · rw [HE.out]
      exact (owns_keeps HO.out (((Keeps.refl w2 [some (w.heap.size + 1)]).setCell (p := ⟨w.heap.size + 1, 0, none⟩) (by simp) _).setCell (p := ⟨w.heap.size + 1, 1, none⟩) (by simp) _) (.inr (by simp only [List.mem_singleton]; exact own_ne HO.out ((HK.out _ HB2.out).2) (by decide)))).mono hs1
    · exact ((HB1.out.trans (HB2.out.mono hs1)).setCell (p := ⟨w.heap.size + 1, 0, none⟩) (by simp) _).setCell (p := ⟨w.heap.size + 1, 1, none⟩) (by simp) _

set_option maxRecDepth 100000 in
set_option maxHeartbeats 2000000 in
theorem implRed_any (c : Int) (A : Option Addr) (n cap : Nat) (xs : List Int) (w : World) (hT : Tab w) (hw : 0 < w.heap.size) (hn : n = xs.length) (hsm : n ≤ 1099511627776) (hR : Rd w A (iv xs)) :
    Calls Tryd.prog 34 #[.agg #[.int .i64 c, .slice A n cap]] w fun e w' =>
      ∃ v, e = .returned (.tuple #[.agg #[.int .i64 (redOf c xs).1, v], .int .i64 (redOf c xs).2.2]) ∧ w'.ownsRow w.heap.size 2 1 v (redOf c xs).2.1.length (nv (redOf c xs).2.1) ∧ Below w.heap.size w w' := by
  have hb1 := blk_alloc (blk_new w (.cells #[.int .i64 c, .slice A n cap] 28)) (.cells #[.int .i64 0, .slice none 0 0] 28)
  have hb2 := blk_new1 w (.cells #[.int .i64 c, .slice A n cap] 28) (.cells #[.int .i64 0, .slice none 0 0] 28)
  have hbel : Below w.heap.size w ((w.alloc (.cells #[.int .i64 c, .slice A n cap] 28)).alloc (.cells #[.int .i64 0, .slice none 0 0] 28)) := ((Below.refl _ _).alloc (Nat.le_refl _) _).alloc (by simp) _
  have h1 := isMatrix_any c A n cap xs _ hn hsm (hR.below hbel)
  have HK1 := Lib.hid hb1
  have HK2 := Lib.hid hb2
  have HB := Lib.hid hbel
  have HR := Lib.hid hR
  have Hn := Lib.hid hn
  have HT := Lib.hid hT
  clear hT
  clear hb1 hb2 hbel hR hn
  cases hi : isMat c xs with
  | false =>
    rw [hi] at h1
    have HE : Hid (redOf c xs = (0, [], 1)) := by show _ = _; simp [redOf, hi]
    have H1 := Lib.hid h1
    clear h1 hi
    go_enter Tryd.func34, Tryd.ntmps34
    go_wp2_with fail
    refine H1.out.mono ?_
    rintro e w1 ⟨rfl, hb⟩
    have HB1 := Lib.hid (HB.out.trans (hb.mono HB.out.size))
    obtain ⟨x0, x1, f0, f1, lx⟩ := blk2cells (blk_keep HK2.out hb)
    clear hb
    go_wp2_with fail
    refine bodyPost_ret (v := .tuple #[.agg #[.int .i64 0, .slice none 0 0], .int .i64 1]) ?_ rfl ⟨_, by rw [HE.out], by rw [HE.out]; exact World.ownsRow_nil _ _ _ _, ?_⟩
    · simp [results, Tryd.results34, go_sem, x0, x1]
    · exact (HB1.out.setCell (p := ⟨w.heap.size + 1, 0, none⟩) (by simp) _).setCell (p := ⟨w.heap.size + 1, 1, none⟩) (by simp) _
  | true =>
    rw [hi] at h1
    have H1 := Lib.hid h1
    have HSx := Lib.hid (isMat_sm hi)
    have hlx := isMat_len hi
    have HRx : Hid (Rd w A (nv (toN xs))) := by have := HR.out; rw [iv_toN (fun x hx => (isMat_nonneg hi x hx).1)] at this; exact this
    have lx : (toN xs).length = xs.length := by simp [toN]
    have Lx := Lib.hid lx
    have HE : Hid (redOf c xs = (c, reduceS (toN xs), 0)) := by show _ = _; simp [redOf, hi]
    have hn200 : n ≤ 200 := by rw [Hn.out]; exact hlx
    clear h1 lx hi hlx
    go_enter Tryd.func34, Tryd.ntmps34
    go_wp2_with fail
    refine H1.out.mono ?_
    rintro e w1 ⟨rfl, hb⟩
    have HB1 := Lib.hid (HB.out.trans (hb.mono HB.out.size))
    have hs1 := HB1.out.size
    have HK := Lib.hid (two_keep (blk_keep HK1.out hb) (blk_keep HK2.out hb))
    have HK2a := Lib.hid (blk_keep HK2.out hb)
    obtain ⟨x0, x1, f0, f1, lx⟩ := blk2cells (blk_keep HK1.out hb)
    obtain ⟨y0, y1, g0, g1, ly⟩ := blk2cells HK2a.out
    have HC := Lib.hid (fun W (hbW : Below w1.heap.size w1 W) => reduced_any A n cap (toN xs) W (HT.out.below (HB1.out.trans (hbW.mono hs1)) hw) (by have := hbW.size; omega) (by rw [Hn.out, Lx.out]) (by omega) HSx.out (HRx.out.below (HB1.out.trans (hbW.mono hs1))))
    clear hb
    go_wp2_with fail
    go_region_held3 (fun w' => w'.cell? ⟨w.heap.size, 0, none⟩ = some (.int .i64 c) ∧ w'.cell? ⟨w.heap.size, 1, none⟩ = some (.slice A n cap))
      (first | exact ⟨x0, x1⟩ | exact ⟨p0, p1⟩ | exact ⟨cell_set p0 (by simp), cell_set p1 (by simp)⟩ | exact ⟨cell_set (cell_set p0 (by simp)) (by simp), cell_set (cell_set p1 (by simp)) (by simp)⟩)
      (first | (go_at_call 87; (with_reducible refine (HC.out _ (Below.drew (Below.refl _ _))).mono ?_); (rintro e w2 ⟨v, rfl, ho, hb⟩; obtain ⟨Av, cv, rfl, _, _, _⟩ := owns_shape ho; have HO := Lib.hid ho; have HB2 := Lib.hid ((Below.drew (Below.refl w1.heap.size w1)).trans hb); clear ho hb; obtain ⟨p0, p1, _, _, p4⟩ := blk2cells (HK.out _ HB2.out).1; obtain ⟨q0, q1, q2, q3, q4⟩ := blk2cells (HK.out _ HB2.out).2)))
    go_wp2_with fail
    refine bodyPost_ret (v := .tuple #[.agg #[.int .i64 c, .slice Av (reduceS (toN xs)).length cv], .int .i64 0]) ?_ rfl ⟨_, by rw [HE.out], ?_, ?_⟩
    · simp [results, Tryd.results34, go_sem, q0, q1]
    · rw [HE.out]
      exact (owns_keeps HO.out (((Keeps.refl w2 [some (w.heap.size + 1)]).setCell (p := ⟨w.heap.size + 1, 0, none⟩) (by simp) _).setCell (p := ⟨w.heap.size + 1, 1, none⟩) (by simp) _) (.inr (by simp only [List.mem_singleton]; exact own_ne HO.out ((HK.out _ HB2.out).2) (by decide)))).mono hs1
    · exact ((HB1.out.trans (HB2.out.mono hs1)).setCell (p := ⟨w.heap.size + 1, 0, none⟩) (by simp) _).setCell (p := ⟨w.heap.size + 1, 1, none⟩) (by simp) _

end Go.Proofs.YtchmplpgamekjaaDoor
