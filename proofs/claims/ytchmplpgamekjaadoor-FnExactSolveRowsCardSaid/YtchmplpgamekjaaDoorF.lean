/- the reference's l02Is -/
import Derived.Test.YtchmplpgamekjaaDoorE
namespace Go.Proofs.YtchmplpgamekjaaDoor
open Go.RowKit

theorem pow60 {d : Nat} (h : d ≤ 60) : (2 : Int) ^ d ≤ 1152921504606846976 := by
  have h1 : 2 ^ d ≤ 2 ^ 60 := Nat.pow_le_pow_right (by omega) h
  have h2 : (2 ^ 60 : Nat) = 1152921504606846976 := by decide
  rw [h2] at h1
  have h3 : ((2 ^ d : Nat) : Int) ≤ 1152921504606846976 := by omega
  rwa [Int.natCast_pow] at h3
theorem pow_pos' (d : Nat) : (1 : Int) ≤ 2 ^ d := by
  have h1 : 1 ≤ 2 ^ d := Nat.one_le_two_pow
  have h3 : (1 : Int) ≤ ((2 ^ d : Nat) : Int) := by omega
  rwa [Int.natCast_pow] at h3

set_option maxHeartbeats 400000 in
theorem l02Is_any (c : Int) (A : Option Addr) (n cap : Nat) (xs : List Int) (w : World) (hn : n = xs.length) (hsm : n ≤ 1099511627776) (hR : Rd w A (iv xs)) :
    Calls Tryd.prog 68 #[.agg #[.int .i64 c, .slice A n cap]] w fun e w' => e = .returned (.bool (isMat c xs)) ∧ Below w.heap.size w w' := by
  have hin := fun W => l01In_any c 0 60 W
  cases hi : inB c 0 60 with
  | false =>
    rw [hi] at hin
    have e : isMat c xs = false := by simp [isMat, hi]
    have HE := Lib.hid e
    have HI := Lib.hid hin
    clear e hi hin hR hn
    go_enter Tryd.func68, Tryd.ntmps68
    go_wp2_with (go_at_call 103; refine (HI.out _).mono ?_; rintro e w' ⟨rfl, rfl⟩)
    go_ret
    exact ⟨by rw [HE.out]; rfl, (Below.refl _ _).alloc (Nat.le_refl _) _⟩
  | true =>
    rw [hi] at hin
    obtain ⟨hc0, hc1⟩ := inB_true hi
    by_cases hl : n ≤ 200
    · obtain ⟨d, rfl⟩ := Int.eq_ofNat_of_zero_le hc0
      have hd : d ≤ 60 := by omega
      have e : isMat d xs = xs.all fun x => maskB x d := by simp [isMat, hi, ← hn, hl]
      have hb := box2 w (.int .i64 d) (.slice A n cap) 28
      have hR1 := hR.alloc (.cells #[.int .i64 d, .slice A n cap] 28)
      have HE := Lib.hid e
      have HI := Lib.hid hin
      have Hn := Lib.hid hn
      have p1 := pow60 hd
      have p2 := pow_pos' d
      clear e hi hin hR hn hc0 hc1
      obtain ⟨b0, b1⟩ := hb
      go_enter Tryd.func68, Tryd.ntmps68
      go_wp2_with (go_at_call 103; refine (HI.out _).mono ?_; rintro e w' ⟨rfl, rfl⟩)
      go_loopw [3] (fun i wr => ∃ k : Nat, k ≤ n ∧ i = .int .i64 k ∧ (∃ m, wr = (w.alloc (.cells #[.int .i64 d, .slice A n cap] 28)).drewN m) ∧ ((xs.take k).all fun x => maskB x d) = true) (fun i _ => n - (intOf i).toNat)
      case atStart => exact ⟨0, by omega, rfl, ⟨0, rfl⟩, by simp⟩
      case round =>
        obtain ⟨k, hk, rfl, ⟨m, rfl⟩, hp⟩ := hrel
        have HP := Lib.hid hp; clear hp
        by_cases hlt : k < n
        · have hkL : k < xs.length := by rw [← Hn.out]; exact hlt
          obtain ⟨b, o, rfl, hc⟩ := hR1.atI hkL
          have hx : xs[k] = xs.getD k 0 := by simp [List.getD, hkL]
          have HX := Lib.hid hx; clear hx hR1
          generalize xs.getD k 0 = x at *
          have HC := Lib.hid (fun W => l01In_any x 0 (2 ^ d - 1) W)
          cases hb : maskB x d
          · have HB : Hid (inB x 0 (2 ^ d - 1) = false) := hb
            rw [HB.out] at HC
            go_wp2_with fail
            go_quiet ((go_at_call 103; first | exact quiet_add_left (HC.out _) | exact quiet_left (HC.out _)))
            go_wp2_with fail
            go_ret
            have ha : (xs.all fun x => maskB x d) = false := by
              rw [List.all_eq_false]; exact ⟨x, by rw [← HX.out]; exact List.getElem_mem hkL, by simp [hb]⟩
            exact ⟨by rw [HE.out, ha]; rfl, by (repeat (first | apply below_drewN | apply Below.drew)); exact (Below.refl _ _).alloc (Nat.le_refl _) _⟩
          · have HB : Hid (inB x 0 (2 ^ d - 1) = true) := hb
            rw [HB.out] at HC
            go_wp2_with fail
            go_quiet ((go_at_call 103; first | exact quiet_add_left (HC.out _) | exact quiet_left (HC.out _)))
            go_wp2_with fail
            go_roundw
            case rel => exact ⟨k + 1, by omega, by go_num, ⟨_, rfl⟩, by rw [List.take_succ_eq_append_getElem hkL, List.all_append, HP.out, HX.out]; simp [hb]⟩
            case measure => simp [intOf]; omega
        · have ek : xs.take k = xs := List.take_of_length_le (by rw [← Hn.out]; omega)
          go_wp2_with fail
          go_ret
          have ha : (xs.all fun x => maskB x d) = true := by rw [← HP.out, ek]
          exact ⟨by rw [HE.out, ha]; rfl, below_drewN ((Below.refl _ _).alloc (Nat.le_refl _) _) _⟩
    · have e : isMat c xs = false := by simp [isMat, ← hn]; omega
      have HE := Lib.hid e
      have HI := Lib.hid hin
      clear e hi hin hR hn hc0 hc1
      go_enter Tryd.func68, Tryd.ntmps68
      go_wp2_with (go_at_call 103; refine (HI.out _).mono ?_; rintro e w' ⟨rfl, rfl⟩)
      go_ret
      exact ⟨by rw [HE.out]; rfl, (Below.refl _ _).alloc (Nat.le_refl _) _⟩
end Go.Proofs.YtchmplpgamekjaaDoor
