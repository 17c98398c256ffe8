/- eqMatrix; the program's RankOf -/
import Derived.Test.YtchmplpgamekjaaDoorL
import Derived.Test.YtchmplpgamekjaaDoorJ
namespace Go.Proofs.YtchmplpgamekjaaDoor
open Go.RowKit

def eqMat (c : Int) (xs : List Int) (c' : Int) (ys : List Int) : Bool := c == c' && eqI xs ys
set_option maxHeartbeats 1000000 in
theorem eqMatrix_any (c c' : Int) (A A' : Option Addr) (n n' cap cap' : Nat) (xs ys : List Int) (w : World) (hn : n = xs.length) (hn' : n' = ys.length) (hsm : n ≤ 1099511627776) (hsm' : n' ≤ 1099511627776) (hR : Rd w A (iv xs)) (hR' : Rd w A' (iv ys)) :
    Calls Tryd.prog 19 #[.agg #[.int .i64 c, .slice A n cap], .agg #[.int .i64 c', .slice A' n' cap']] w fun e w' => e = .returned (.bool (eqMat c xs c' ys)) ∧ Below w.heap.size w w' := by
  have hb1 := blk2cells (blk_alloc (blk_new w (.cells #[.int .i64 c, .slice A n cap] 28)) (.cells #[.int .i64 c', .slice A' n' cap'] 28))
  have hb2 := blk2cells (blk_new1 w (.cells #[.int .i64 c, .slice A n cap] 28) (.cells #[.int .i64 c', .slice A' n' cap'] 28))
  have he := eqInts_any A A' n n' cap cap' xs ys ((w.alloc (.cells #[.int .i64 c, .slice A n cap] 28)).alloc (.cells #[.int .i64 c', .slice A' n' cap'] 28)) hn hn' hsm hsm' ((hR.alloc _).alloc _) ((hR'.alloc _).alloc _)
  obtain ⟨x0, x1, _, _, _⟩ := hb1
  obtain ⟨y0, y1, _, _, _⟩ := hb2
  by_cases hc : c = c'
  · subst hc
    have e : eqMat c xs c ys = eqI xs ys := by simp [eqMat]
    have HE := Lib.hid e
    have HQ := Lib.hid he
    clear e he hR hR' hn hn'
    cases hq : eqI xs ys
    all_goals
      rw [hq] at HQ HE
      go_enter Tryd.func19, Tryd.ntmps19
      go_wp2_with (go_at_call 28; refine HQ.out.mono ?_; rintro e w' ⟨rfl, m, rfl⟩)
      go_ret
      exact ⟨by rw [HE.out]; rfl, below_drewN (((Below.refl _ _).alloc (Nat.le_refl _) _).alloc (by simp) _) m⟩
  · have e : eqMat c xs c' ys = false := by simp [eqMat, hc]
    have hb : (c != c') = true := by simpa using hc
    have HE := Lib.hid e
    clear e he hR hR' hn hn' hc
    go_enter Tryd.func19, Tryd.ntmps19
    go_wp2_with fail
    go_ret
    exact ⟨by rw [HE.out]; rfl, ((Below.refl _ _).alloc (Nat.le_refl _) _).alloc (by simp) _⟩

set_option maxHeartbeats 1000000 in
theorem implRank_any (c : Int) (A : Option Addr) (n cap : Nat) (xs : List Int) (w : World) (hT : Tab w) (hw : 0 < w.heap.size) (hn : n = xs.length) (hsm : n ≤ 1099511627776) (hR : Rd w A (iv xs)) :
    Calls Tryd.prog 18 #[.agg #[.int .i64 c, .slice A n cap]] w fun e w' => e = .returned (.tuple #[.int .i64 (rankOf c xs).1, .int .i64 (rankOf c xs).2]) ∧ Below w.heap.size w w' := by
  have hb := blk_new w (.cells #[.int .i64 c, .slice A n cap] 28)
  have hR1 := hR.alloc (.cells #[.int .i64 c, .slice A n cap] 28)
  have his := isMatrix_any c A n cap xs _ hn hsm hR1
  have hT1 : Tab (w.alloc (.cells #[.int .i64 c, .slice A n cap] 28)) := hT.below ((Below.refl _ _).alloc (Nat.le_refl _) _) hw
  cases hi : isMat c xs with
  | false =>
    rw [hi] at his
    have e : rankOf c xs = (0, 1) := by simp [rankOf, hi]
    have HI := Lib.hid his
    have HE := Lib.hid e
    clear his e hR hR1 hb hn hi hT hT1
    go_enter Tryd.func18, Tryd.ntmps18
    go_wp2_with (go_at_call 49; refine HI.out.mono ?_; rintro e w1 ⟨rfl, hb1⟩)
    go_ret2
    exact ⟨by rw [HE.out]; rfl, ((Below.refl _ _).alloc (Nat.le_refl _) _).trans (hb1.mono (by simp))⟩
  | true =>
    rw [hi] at his
    have hnn := isMat_nonneg hi
    have hlen := isMat_len hi
    rw [iv_toN (fun x hx => (hnn x hx).1)] at hR1
    have hS : ∀ r ∈ toN xs, Sm r := by
      intro r hr; obtain ⟨x, hx, rfl⟩ := List.mem_map.1 hr; exact (hnn x hx).2
    have hlen2 : (spanL (zs (toN xs))).length = (reduceS (toN xs)).length := by
      have h := (spanL_perm (zs (toN xs)) (fun p hp => by obtain ⟨r, hr, rfl⟩ := List.mem_map.1 hp; exact ⟨hS r hr, Sm.zero⟩)).1.length_eq
      rw [r1_length, r1_zs] at h; exact h
    have e : rankOf c xs = (((spanL (zs (toN xs))).length : Int), 0) := by simp [rankOf, hi, hlen2]
    have HI := Lib.hid his
    have HE := Lib.hid e
    have HR := Lib.hid hR1
    have Hn := Lib.hid hn
    have HS := Lib.hid hS
    have HT := Lib.hid hT1
    have HK := Lib.hid hb
    clear his e hR hR1 hn hi hnn hS hT hT1 hb hlen2
    go_enter Tryd.func18, Tryd.ntmps18
    go_wp2_with fail
    refine HI.out.mono ?_
    rintro e w1 ⟨rfl, hb1⟩
    obtain ⟨d0, d1, _, _, hsz⟩ := blk2cells (blk_below HK.out hb1 (by simp))
    have hr := spanOf_any A n cap (toN xs) w1 (HT.out.below hb1 (by simp)) (by omega) (by rw [Hn.out]; simp [toN]) (by rw [Hn.out]; omega) HS.out (HR.out.below hb1)
    have HRD := Lib.hid hr
    have HB := Lib.hid hb1
    clear hr hb1
    go_wp2_with fail
    refine HRD.out.mono ?_
    rintro e w2 ⟨rfl, ⟨v1, v2, hsp⟩, hb2⟩
    have hown := hsp.own1
    obtain ⟨A2, c2, rfl, _, _, _⟩ := owns_shape hown
    have s0 := hsp.c0
    have HB2 := Lib.hid hb2
    clear hb2 hown hsp
    go_wp2_with fail
    go_ret2
    refine ⟨by rw [HE.out]; rfl, ((Below.refl _ _).alloc (Nat.le_refl _) _).trans ((HB.out.mono (by simp)).trans (HB2.out.mono ?_))⟩
    have := HB.out.size; simp at this; omega
end Go.Proofs.YtchmplpgamekjaaDoor
