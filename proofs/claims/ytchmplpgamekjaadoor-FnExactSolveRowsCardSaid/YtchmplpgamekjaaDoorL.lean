/- the laws' own helpers at matrices -/
import Derived.Test.YtchmplpgamekjaaDoorK
import Derived.Deep.Onto
namespace Go.Proofs.YtchmplpgamekjaaDoor
open Go.RowKit

theorem szMatrix_any (c : Int) (A : Option Addr) (n cap : Nat) (left : Int) (w : World) (hsm : n ≤ 9223372036854775807) (h0 : 0 ≤ left) (h1 : left ≤ 1048576) :
    Calls Tryd.prog 15 #[.agg #[.int .i64 c, .slice A n cap], .int .i64 left] w fun e w' => e = .returned (.int .i64 (szV n left)) ∧ Below w.heap.size w w' := by
  have hb := box2 w (.int .i64 c) (.slice A n cap) 24
  obtain ⟨b0, b1⟩ := hb
  by_cases h : left - n < 0
  · have hs := fun W => szInts_any A n cap left W hsm h0 h1
    rw [show szV n left = -1 by unfold szV; rw [if_pos h]] at *
    have HS := Lib.hid hs
    clear hs
    go_enter Tryd.func15, Tryd.ntmps15
    go_wp2_with (go_at_call 67; refine (HS.out _).mono ?_; rintro e w' ⟨rfl, rfl⟩)
    go_ret
    exact ⟨rfl, (Below.refl _ _).alloc (Nat.le_refl _) _⟩
  · have hs := fun W => szInts_any A n cap left W hsm h0 h1
    rw [show szV n left = left - n by unfold szV; rw [if_neg h]] at *
    have HS := Lib.hid hs
    clear hs
    go_enter Tryd.func15, Tryd.ntmps15
    go_wp2_with (go_at_call 67; refine (HS.out _).mono ?_; rintro e w' ⟨rfl, rfl⟩)
    go_ret
    exact ⟨rfl, (Below.refl _ _).alloc (Nat.le_refl _) _⟩

set_option maxHeartbeats 1000000 in
theorem toMatrix_any (c : Int) (A : Option Addr) (n cap : Nat) (xs : List Int) (w : World) (hn : n = xs.length) (hsm : n ≤ 1048576) (hR : Rd w A (iv xs)) :
    Calls Tryd.prog 17 #[.agg #[.int .i64 c, .slice A n cap]] w fun e w' => ∃ g, e = .returned (.agg #[.int .i64 c, .slice (some ⟨g, 0, none⟩) n n]) ∧ w'.ownsRow w.heap.size 2 1 (.slice (some ⟨g, 0, none⟩) n n) n (iv xs) ∧ Below w.heap.size w w' := by
  have hR' := fun o1 o2 o3 => (((hR.alloc o1).alloc o2).alloc o3)
  have HR := Lib.hid hR'
  have Hn := Lib.hid hn
  clear hR hR' hn
  go_enter Tryd.func17, Tryd.ntmps17
  go_wp2_with fail
  refine (toInts_any A n cap xs _ Hn.out hsm (HR.out _ _ _)).mono ?_
  rintro e w1 ⟨g, rfl, hown, hb⟩
  have hg := (hown.lt g rfl).1
  have hsz := hb.size
  simp at hg hsz
  obtain ⟨x0, x1, x2, x3, _⟩ := blk2cells (blk_below (blk_alloc (blk_new1 w (.cells #[.int .i64 c, .slice A n cap] 24) (.cells #[.int .i64 0, .slice none 0 0] 28)) (.cells #[.int .i64 c, .slice none 0 0] 28)) hb (by simp))
  obtain ⟨y0, y1, y2, y3, _⟩ := blk2cells (blk_below (blk_new2 w (.cells #[.int .i64 c, .slice A n cap] 24) (.cells #[.int .i64 0, .slice none 0 0] 28) (.cells #[.int .i64 c, .slice none 0 0] 28)) hb (by simp))
  have HO := Lib.hid hown
  have HB := Lib.hid hb
  clear hown hb
  go_wp2_with fail
  refine bodyPost_ret (v := .agg #[.int .i64 c, .slice (some ⟨g, 0, none⟩) n n]) ?_ rfl ⟨g, rfl, ?_, ?_⟩
  · simp [results, Tryd.results17, go_sem, x0, x1]
  · have k := ((((Keeps.refl w1 [some (w.heap.size + 1), some (w.heap.size + 1 + 1)]).setCell (p := ⟨w.heap.size + 1 + 1, 1, none⟩) (by simp) (.slice (some ⟨g, 0, none⟩) n n)).setCell (p := ⟨w.heap.size + 1, 0, none⟩) (by simp) (.int .i64 c)).setCell (p := ⟨w.heap.size + 1, 1, none⟩) (by simp) (.slice (some ⟨g, 0, none⟩) n n))
    exact (owns_keeps HO.out k (.inr (by simp [Value.ownBlock]; omega))).mono (by simp; omega)
  · refine Below.setCell (Below.setCell (Below.setCell ?_ (p := ⟨w.heap.size + 1 + 1, 1, none⟩) (by simp; omega) _) (p := ⟨w.heap.size + 1, 0, none⟩) (by simp) _) (p := ⟨w.heap.size + 1, 1, none⟩) (by simp) _
    exact ((((Below.refl _ _).alloc (Nat.le_refl _) _).alloc (by simp) _).alloc (by simp; omega) _).trans (HB.out.mono (by simp; omega))

/-- two lists of ints are equal -/
def eqI (xs ys : List Int) : Bool := xs == ys
set_option maxHeartbeats 1000000 in
theorem eqInts_any (A A' : Option Addr) (n n' c c' : Nat) (xs ys : List Int) (w : World) (hn : n = xs.length) (hn' : n' = ys.length) (hsm : n ≤ 1099511627776) (hsm' : n' ≤ 1099511627776) (hR : Rd w A (iv xs)) (hR' : Rd w A' (iv ys)) :
    Calls Tryd.prog 28 #[.slice A n c, .slice A' n' c'] w fun e w' => e = .returned (.bool (eqI xs ys)) ∧ ∃ m, w.drewN m = w' := by
  by_cases hl : n = n'
  · subst hl
    have Hn := Lib.hid hn
    have Hn' := Lib.hid hn'
    clear hn hn'
    go_enter Tryd.func28, Tryd.ntmps28
    go_wp2_with fail
    go_loopw [5] (fun i wr => ∃ k : Nat, k ≤ n ∧ i = .int .i64 k ∧ (∃ m, wr = w.drewN m) ∧ xs.take k = ys.take k) (fun i _ => n - (intOf i).toNat)
    case atStart => exact ⟨0, by omega, rfl, ⟨0, rfl⟩, by simp⟩
    case round =>
      obtain ⟨k, hk, rfl, ⟨m, rfl⟩, hp⟩ := hrel
      have HP := Lib.hid hp; clear hp
      by_cases hlt : k < n
      · have hkL : k < xs.length := by rw [← Hn.out]; exact hlt
        have hkL' : k < ys.length := by rw [← Hn'.out]; exact hlt
        obtain ⟨b, o, rfl, hc⟩ := hR.atI hkL
        obtain ⟨b', o', rfl, hc'⟩ := hR'.atI hkL'
        have hx : xs[k] = xs.getD k 0 := by simp [List.getD, hkL]
        have hy : ys[k] = ys.getD k 0 := by simp [List.getD, hkL']
        have HX := Lib.hid hx; have HY := Lib.hid hy; clear hx hy hR hR'
        generalize xs.getD k 0 = x at *
        generalize ys.getD k 0 = y at *
        by_cases hxy : x = y
        · subst hxy
          go_wp2_with fail
          go_quiet (fail)
          go_wp2_with fail
          go_roundw
          case rel => exact ⟨k + 1, by omega, by go_num, ⟨_, rfl⟩, by rw [List.take_succ_eq_append_getElem hkL, List.take_succ_eq_append_getElem hkL', HP.out, HX.out, HY.out]⟩
          case measure => simp [intOf]; omega
        · have hb : (x != y) = true := by simpa using hxy
          have HXY := Lib.hid hxy; clear hxy
          go_wp2_with fail
          go_quiet (fail)
          go_wp2_with fail
          go_ret
          have e : eqI xs ys = false := by
            unfold eqI
            rw [beq_eq_false_iff_ne]
            intro e; subst e
            exact HXY.out (HX.out.symm.trans HY.out)
          exact ⟨by rw [e]; rfl, m + nq, by rw [World.drewN_drewN]⟩
      · have ek : xs.take k = xs := List.take_of_length_le (by rw [← Hn.out]; omega)
        have ek' : ys.take k = ys := List.take_of_length_le (by rw [← Hn'.out]; omega)
        have e : eqI xs ys = true := by
          unfold eqI; rw [beq_iff_eq, ← ek, ← ek']; exact HP.out
        have HE := Lib.hid e; clear e ek ek'
        go_wp2_with fail
        go_ret
        exact ⟨by rw [HE.out]; rfl, m, rfl⟩
  · have e : eqI xs ys = false := by
      unfold eqI; rw [beq_eq_false_iff_ne]; intro e; subst e; omega
    have hb : ((n : Int) != (n' : Int)) = true := by simp; omega
    have HE := Lib.hid e; clear e hn hn' hl hR hR'
    go_enter Tryd.func28, Tryd.ntmps28
    go_wp2_with fail
    go_ret
    exact ⟨by rw [HE.out]; rfl, 0, rfl⟩
end Go.Proofs.YtchmplpgamekjaaDoor
