/- l02Both, equalColumns; ComplementRows on both sides -/
import Derived.Test.YtchmplpgamekjaaDoorHm
namespace Go.Proofs.YtchmplpgamekjaaDoor
open Go.RowKit

/-- a block that a call keeps -/
theorem blk_keep {w w' : World} {g : Nat} {x : Obj} (h : w.heap[g]? = some x) (hb : Below w.heap.size w w') : w'.heap[g]? = some x := (hb.block g (Array.getElem?_eq_some_iff.1 h).1).trans h

def bothOf (c : Int) (xs : List Int) (c' : Int) (ys : List Int) : Int := if isMat c xs && isMat c' ys then (if c = c' then 0 else 2) else 1

section
variable (c c' : Int) (A A' : Option Addr) (n n' cap cap' : Nat) (xs ys : List Int) (w : World)
set_option maxHeartbeats 1000000 in
theorem l02Both_any (hn : n = xs.length) (hn' : n' = ys.length) (hsm : n ≤ 1099511627776) (hsm' : n' ≤ 1099511627776) (hR : Rd w A (iv xs)) (hR' : Rd w A' (iv ys)) :
    Calls Tryd.prog 79 #[.agg #[.int .i64 c, .slice A n cap], .agg #[.int .i64 c', .slice A' n' cap']] w fun e w' => e = .returned (.int .i64 (bothOf c xs c' ys)) ∧ Below w.heap.size w w' := by
  have hb1 := blk_alloc (blk_new w (.cells #[.int .i64 c, .slice A n cap] 28)) (.cells #[.int .i64 c', .slice A' n' cap'] 28)
  have hb2 := blk_new1 w (.cells #[.int .i64 c, .slice A n cap] 28) (.cells #[.int .i64 c', .slice A' n' cap'] 28)
  have hbel : Below w.heap.size w ((w.alloc (.cells #[.int .i64 c, .slice A n cap] 28)).alloc (.cells #[.int .i64 c', .slice A' n' cap'] 28)) := ((Below.refl _ _).alloc (Nat.le_refl _) _).alloc (by simp) _
  have h1 := l02Is_any c A n cap xs _ hn hsm (hR.below hbel)
  have HK1 := Lib.hid hb1
  have HK2 := Lib.hid hb2
  have HB := Lib.hid hbel
  have HR' := Lib.hid (hR'.below hbel)
  have Hn' := Lib.hid hn'
  clear hb1 hb2 hbel hR hR' hn hn'
  cases hi : isMat c xs with
  | false =>
    rw [hi] at h1
    have HE : Hid (bothOf c xs c' ys = 1) := by show _ = _; simp [bothOf, hi]
    have H1 := Lib.hid h1
    clear h1 hi
    go_enter Tryd.func79, Tryd.ntmps79
    go_wp2_with fail
    refine H1.out.mono ?_
    rintro e w1 ⟨rfl, hb⟩
    have HB1 := Lib.hid hb
    clear hb
    go_wp2_with fail
    go_ret
    exact ⟨by rw [HE.out]; rfl, HB.out.trans (HB1.out.mono HB.out.size)⟩
  | true =>
    rw [hi] at h1
    have H1 := Lib.hid h1
    clear h1
    go_enter Tryd.func79, Tryd.ntmps79
    go_wp2_with fail
    refine H1.out.mono ?_
    rintro e w1 ⟨rfl, hb⟩
    have hk1 := blk_keep HK1.out hb
    have hk2 := blk_keep HK2.out hb
    have h2 := l02Is_any c' A' n' cap' ys w1 Hn'.out hsm' (HR'.out.below hb)
    obtain ⟨x0, x1, _, _, _⟩ := blk2cells hk1
    obtain ⟨y0, y1, _, _, _⟩ := blk2cells hk2
    have HB1 := Lib.hid (HB.out.trans (hb.mono HB.out.size))
    have HK1' := Lib.hid hk1
    have HK2' := Lib.hid hk2
    clear hb hk1 hk2
    cases hj : isMat c' ys with
    | false =>
      rw [hj] at h2
      have HE : Hid (bothOf c xs c' ys = 1) := by show _ = _; simp [bothOf, hj]
      have H2 := Lib.hid h2
      clear h2 hj hi
      go_wp2_with fail
      refine H2.out.mono ?_
      rintro e w2 ⟨rfl, hb⟩
      have HB2 := Lib.hid hb
      clear hb
      go_wp2_with fail
      go_ret
      exact ⟨by rw [HE.out]; rfl, HB1.out.trans (HB2.out.mono HB1.out.size)⟩
    | true =>
      rw [hj] at h2
      have H2 := Lib.hid h2
      clear h2
      by_cases hc : c = c'
      · subst hc
        have HE : Hid (bothOf c xs c ys = 0) := by show _ = _; simp [bothOf, hi, hj]
        clear hi hj
        go_wp2_with fail
        refine H2.out.mono ?_
        rintro e w2 ⟨rfl, hb⟩
        obtain ⟨x0', x1', _, _, _⟩ := blk2cells (blk_keep HK1'.out hb)
        obtain ⟨y0', y1', _, _, _⟩ := blk2cells (blk_keep HK2'.out hb)
        have HB2 := Lib.hid hb
        clear hb
        go_wp2_with fail
        go_ret
        exact ⟨by rw [HE.out]; rfl, HB1.out.trans (HB2.out.mono HB1.out.size)⟩
      · have HE : Hid (bothOf c xs c' ys = 2) := by show _ = _; simp [bothOf, hi, hj, hc]
        have hcb : (c != c') = true := by simpa using hc
        clear hi hj hc
        go_wp2_with fail
        refine H2.out.mono ?_
        rintro e w2 ⟨rfl, hb⟩
        obtain ⟨x0', x1', _, _, _⟩ := blk2cells (blk_keep HK1'.out hb)
        obtain ⟨y0', y1', _, _, _⟩ := blk2cells (blk_keep HK2'.out hb)
        have HB2 := Lib.hid hb
        clear hb
        go_wp2_with fail
        go_ret
        exact ⟨by rw [HE.out]; rfl, HB1.out.trans (HB2.out.mono HB1.out.size)⟩

set_option maxHeartbeats 1000000 in
theorem equalColumns_any (hn : n = xs.length) (hn' : n' = ys.length) (hsm : n ≤ 1099511627776) (hsm' : n' ≤ 1099511627776) (hR : Rd w A (iv xs)) (hR' : Rd w A' (iv ys)) :
    Calls Tryd.prog 81 #[.agg #[.int .i64 c, .slice A n cap], .agg #[.int .i64 c', .slice A' n' cap']] w fun e w' => e = .returned (.int .i64 (bothOf c xs c' ys)) ∧ Below w.heap.size w w' := by
  have hb1 := blk_alloc (blk_new w (.cells #[.int .i64 c, .slice A n cap] 28)) (.cells #[.int .i64 c', .slice A' n' cap'] 28)
  have hb2 := blk_new1 w (.cells #[.int .i64 c, .slice A n cap] 28) (.cells #[.int .i64 c', .slice A' n' cap'] 28)
  have hbel : Below w.heap.size w ((w.alloc (.cells #[.int .i64 c, .slice A n cap] 28)).alloc (.cells #[.int .i64 c', .slice A' n' cap'] 28)) := ((Below.refl _ _).alloc (Nat.le_refl _) _).alloc (by simp) _
  have h1 := isMatrix_any c A n cap xs _ hn hsm (hR.below hbel)
  have HK1 := Lib.hid hb1
  have HK2 := Lib.hid hb2
  have HB := Lib.hid hbel
  have HR' := Lib.hid (hR'.below hbel)
  have Hn' := Lib.hid hn'
  clear hb1 hb2 hbel hR hR' hn hn'
  cases hi : isMat c xs with
  | false =>
    rw [hi] at h1
    have HE : Hid (bothOf c xs c' ys = 1) := by show _ = _; simp [bothOf, hi]
    have H1 := Lib.hid h1
    clear h1 hi
    go_enter Tryd.func81, Tryd.ntmps81
    go_wp2_with fail
    refine H1.out.mono ?_
    rintro e w1 ⟨rfl, hb⟩
    have HB1 := Lib.hid hb
    clear hb
    go_wp2_with fail
    go_ret
    exact ⟨by rw [HE.out]; rfl, HB.out.trans (HB1.out.mono HB.out.size)⟩
  | true =>
    rw [hi] at h1
    have H1 := Lib.hid h1
    clear h1
    go_enter Tryd.func81, Tryd.ntmps81
    go_wp2_with fail
    refine H1.out.mono ?_
    rintro e w1 ⟨rfl, hb⟩
    have hk1 := blk_keep HK1.out hb
    have hk2 := blk_keep HK2.out hb
    have h2 := isMatrix_any c' A' n' cap' ys w1 Hn'.out hsm' (HR'.out.below hb)
    obtain ⟨x0, x1, _, _, _⟩ := blk2cells hk1
    obtain ⟨y0, y1, _, _, _⟩ := blk2cells hk2
    have HB1 := Lib.hid (HB.out.trans (hb.mono HB.out.size))
    have HK1' := Lib.hid hk1
    have HK2' := Lib.hid hk2
    clear hb hk1 hk2
    cases hj : isMat c' ys with
    | false =>
      rw [hj] at h2
      have HE : Hid (bothOf c xs c' ys = 1) := by show _ = _; simp [bothOf, hj]
      have H2 := Lib.hid h2
      clear h2 hj hi
      go_wp2_with fail
      refine H2.out.mono ?_
      rintro e w2 ⟨rfl, hb⟩
      have HB2 := Lib.hid hb
      clear hb
      go_wp2_with fail
      go_ret
      exact ⟨by rw [HE.out]; rfl, HB1.out.trans (HB2.out.mono HB1.out.size)⟩
    | true =>
      rw [hj] at h2
      have H2 := Lib.hid h2
      clear h2
      by_cases hc : c = c'
      · subst hc
        have HE : Hid (bothOf c xs c ys = 0) := by show _ = _; simp [bothOf, hi, hj]
        clear hi hj
        go_wp2_with fail
        refine H2.out.mono ?_
        rintro e w2 ⟨rfl, hb⟩
        obtain ⟨x0', x1', _, _, _⟩ := blk2cells (blk_keep HK1'.out hb)
        obtain ⟨y0', y1', _, _, _⟩ := blk2cells (blk_keep HK2'.out hb)
        have HB2 := Lib.hid hb
        clear hb
        go_wp2_with fail
        go_ret
        exact ⟨by rw [HE.out]; rfl, HB1.out.trans (HB2.out.mono HB1.out.size)⟩
      · have HE : Hid (bothOf c xs c' ys = 2) := by show _ = _; simp [bothOf, hi, hj, hc]
        have hcb : (c != c') = true := by simpa using hc
        clear hi hj hc
        go_wp2_with fail
        refine H2.out.mono ?_
        rintro e w2 ⟨rfl, hb⟩
        obtain ⟨x0', x1', _, _, _⟩ := blk2cells (blk_keep HK1'.out hb)
        obtain ⟨y0', y1', _, _, _⟩ := blk2cells (blk_keep HK2'.out hb)
        have HB2 := Lib.hid hb
        clear hb
        go_wp2_with fail
        go_ret
        exact ⟨by rw [HE.out]; rfl, HB1.out.trans (HB2.out.mono HB1.out.size)⟩

end
end Go.Proofs.YtchmplpgamekjaaDoor
