/- IsMatrix and the reference's l02Is -/
import Derived.Test.YtchmplpgamekjaaDoorD
namespace Go.Proofs.YtchmplpgamekjaaDoor
open Go.RowKit

def isMat (c : Int) (xs : List Int) : Bool := inB c 0 60 && (decide (xs.length ≤ 200) && xs.all fun x => maskB x c.toNat)
theorem inB_true {n lo hi : Int} (h : inB n lo hi = true) : lo ≤ n ∧ n ≤ hi := by simpa [inB] using h

theorem isMatrix_closure (c : Int) (hc0 : 0 ≤ c) (hc1 : c ≤ 60) (mb : Nat) (w : World) (hm : w.cell? ⟨mb, 0, none⟩ = some (.int .i64 c)) (x : Int) :
    Asks Tryd.prog 98 (.pointer (some ⟨mb, 0, none⟩)) w (.int .i64 x) (maskB x c.toNat) := by
  intro m
  obtain ⟨d, rfl⟩ := Int.eq_ofNat_of_zero_le hc0
  rw [Int.toNat_natCast]
  go_enter Tryd.func98, Tryd.ntmps98
  go_wp2_with (go_at_call 74; refine (isMask_any x d (by omega) _).mono ?_; rintro e w' ⟨rfl, rfl⟩)
  go_ret
  exact ⟨rfl, m, rfl⟩

set_option maxHeartbeats 400000 in
theorem isMatrix_any (c : Int) (A : Option Addr) (n cap : Nat) (xs : List Int) (w : World) (hn : n = xs.length) (hsm : n ≤ 1099511627776) (hR : Rd w A (iv xs)) :
    Calls Tryd.prog 49 #[.agg #[.int .i64 c, .slice A n cap]] w fun e w' => e = .returned (.bool (isMat c xs)) ∧ Below w.heap.size w w' := by
  have hin := fun W => in_any c 0 60 W
  cases hi : inB c 0 60 with
  | false =>
    rw [hi] at hin
    have e : isMat c xs = false := by simp [isMat, hi]
    have HE := Lib.hid e
    have HI := Lib.hid hin
    clear e hi hin hR hn
    go_enter Tryd.func49, Tryd.ntmps49
    go_wp2_with (go_at_call 96; refine (HI.out _).mono ?_; rintro e w' ⟨rfl, rfl⟩)
    go_ret
    exact ⟨by rw [HE.out]; rfl, (Below.refl _ _).alloc (Nat.le_refl _) _⟩
  | true =>
    rw [hi] at hin
    obtain ⟨hc0, hc1⟩ := inB_true hi
    by_cases hl : n ≤ 200
    · have e : isMat c xs = xs.all fun x => maskB x c.toNat := by simp [isMat, hi, ← hn, hl]
      have hb := box2 w (.int .i64 c) (.slice A n cap) 28
      have ha := all_any A n cap xs 98 (.pointer (some ⟨w.heap.size, 0, none⟩)) (fun x => maskB x c.toNat) (w.alloc (.cells #[.int .i64 c, .slice A n cap] 28)) (fun args w => Tryd.call98 args w) hn hsm
        (hR.alloc _) (fun x _ o => isMatrix_closure c hc0 hc1 w.heap.size _ (by rw [World.cell?_alloc_lt _ _ _ (by simp)]; exact hb.1) x)
      have HE := Lib.hid e
      have HI := Lib.hid hin
      have HA := Lib.hid ha
      clear e hi hin hR hn ha hc0 hc1 hb
      go_enter Tryd.func49, Tryd.ntmps49
      go_wp2_with (first | (go_at_call 96; refine (HI.out _).mono ?_; rintro e w' ⟨rfl, rfl⟩) | (go_at_call 97; refine HA.out.mono ?_; rintro e w' ⟨rfl, hb1⟩))
      go_ret
      exact ⟨by rw [HE.out]; rfl, ((Below.refl _ _).alloc (Nat.le_refl _) _).trans (hb1.mono (by simp))⟩
    · have e : isMat c xs = false := by simp [isMat, ← hn]; omega
      have HE := Lib.hid e
      have HI := Lib.hid hin
      clear e hi hin hR hn hc0 hc1
      go_enter Tryd.func49, Tryd.ntmps49
      go_wp2_with (go_at_call 96; refine (HI.out _).mono ?_; rintro e w' ⟨rfl, rfl⟩)
      go_ret
      exact ⟨by rw [HE.out]; rfl, (Below.refl _ _).alloc (Nat.le_refl _) _⟩
end Go.Proofs.YtchmplpgamekjaaDoor
