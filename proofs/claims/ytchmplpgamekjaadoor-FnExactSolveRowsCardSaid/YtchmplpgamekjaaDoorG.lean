/- the reference's l02Low, l02Without -/
import Derived.Test.YtchmplpgamekjaaDoorM
import Derived.Test.YtchmplpgamekjaaDoorP
namespace Go.Proofs.YtchmplpgamekjaaDoor
open Go.RowKit

def pw (p : Nat) : Nat := 2 ^ p
theorem low_val {a : Nat} (h0 : a ≠ 0) (h : Sm a) : bits .and .i64 (a : Int) (wrap64 (-(a : Int))) = ((pw (pv a) : Nat) : Int) := by
  unfold Sm at h
  obtain ⟨hl, hk⟩ := Lib.lowest_bit 64 a h0 (by omega)
  have e : wrap64 (-(a : Int)) = -(a : Int) := by unfold wrap64; omega
  have hp : 2 ^ pv a ≤ a := by
    have : a &&& (2 ^ 64 - a) ≤ a := Nat.and_le_left
    unfold pv; omega
  rw [e]
  show IntKind.i64.wrap ((BitVec.ofInt 64 (a : Int) &&& BitVec.ofInt 64 (-(a : Int))).toNat : Int) = _
  have e2 : (BitVec.ofInt 64 (-(a : Int))).toNat = 2 ^ 64 - a := by
    rw [BitVec.toNat_ofInt]
    omega
  rw [BitVec.toNat_and, ofInt64_nat a (by omega), e2, hl, IntKind.wrap_i64]
  unfold pw pv at *
  omega
theorem pw_sm {p : Nat} (h : p ≤ 62) : Sm (pw p) := by
  unfold Sm pw
  have : 2 ^ p ≤ 2 ^ 62 := Nat.pow_le_pow_right (by omega) h
  have e : (2 ^ 62 : Nat) = 4611686018427387904 := by decide
  omega
theorem and_pw (v p : Nat) : an v (pw p) = if tb v p then pw p else 0 := by
  apply Nat.eq_of_testBit_eq
  intro i
  unfold an pw tb
  rw [Nat.testBit_and, Nat.testBit_two_pow]
  by_cases h : p = i
  · subst h
    cases hb : v.testBit p <;> simp
  · split
    · rw [Nat.testBit_two_pow]; simp [h]
    · simp [h]
theorem and_pw_ne {v p : Nat} (hv : Sm v) (hp : p ≤ 62) : (bits .and .i64 (v : Int) ((pw p : Nat) : Int) != 0) = tb v p := by
  rw [i64_and_nat hv (pw_sm hp), and_pw]
  cases tb v p with
  | true => exact bne_iff_ne.2 (fun e => Nat.ne_of_gt (Nat.two_pow_pos p) (Int.ofNat_eq_zero.1 e))
  | false => rfl
theorem pw_lt (p q : Nat) : (((pw p : Nat) : Int) < ((pw q : Nat) : Int)) = (p < q) := by
  unfold pw
  rw [Int.ofNat_lt]
  exact propext (Nat.pow_lt_pow_iff_right (by omega))

theorem pw_ltN (p q : Nat) : (pw p < pw q) = (p < q) := by
  unfold pw; exact propext (Nat.pow_lt_pow_iff_right (by omega))

set_option maxHeartbeats 400000 in
theorem low_any (x : Nat) (h0 : x ≠ 0) (hx : Sm x) (w : World) : Calls Tryd.prog 111 #[.int .i64 x] w fun e w' => e = .returned (.int .i64 (pw (pv x))) ∧ w = w' := by
  have hl := low_val h0 hx
  go_enter Tryd.func111, Tryd.ntmps111
  go_wp2
  go_ret
  exact ⟨rfl, rfl⟩

theorem leftS_take_succ (S : List Nat) (x k : Nat) (h : k < S.length) : leftS (S.take (k + 1)) x = if tb (leftS (S.take k) x) (pv (S.getD k 0)) then xr (leftS (S.take k) x) (S.getD k 0) else leftS (S.take k) x := by
  unfold leftS; rw [fold_take_succ _ _ _ _ 0 h]

attribute [local go_sem] i64_xor_nat and_pw_ne in
set_option maxHeartbeats 1000000 in
theorem without_any (A : Option Addr) (n c : Nat) (S : List Nat) (x : Nat) (w : World) (hn : n = S.length) (hsmall : n ≤ 1000000) (hx : Sm x) (hS : ∀ r ∈ S, r ≠ 0 ∧ Sm r) (hA : Rd w A (nv S)) :
    Calls Tryd.prog 73 #[.slice A n c, .int .i64 x] w fun e w' => e = .returned (.int .i64 (leftS S x)) ∧ w = w' := by
  have Hn := Lib.hid hn; clear hn
  go_enter Tryd.func73, Tryd.ntmps73
  go_wp2_with fail
  go_loop [1, 5] (fun v i => ∃ k : Nat, k ≤ n ∧ i = .int .i64 k ∧ v = .int .i64 (leftS (S.take k) x)) (fun _ i => n - (intOf i).toNat)
  case atStart => exact ⟨0, by omega, rfl, rfl⟩
  case round =>
    obtain ⟨k, hk, rfl, rfl⟩ := hrel
    by_cases hlt : k < n
    · have hkL : k < S.length := by rw [← Hn.out]; exact hlt
      obtain ⟨b, o, rfl, hc⟩ := hA.atN hkL
      have hm : S.getD k 0 ∈ S := by simp [List.getD, hkL]
      obtain ⟨g0, g1⟩ := hS _ hm
      have Hs := Lib.hid (leftS_take_succ S x k hkL)
      have hp : Sm (leftS (S.take k) x) := leftS_sm (fun r hr => hS r (List.mem_of_mem_take hr)) hx
      generalize leftS (S.take k) x = v at *
      generalize S.getD k 0 = r at *
      have hpv := pv_le g0 g1
      have HL := Lib.hid (fun W => low_any r g0 g1 W)
      clear hA hS hm
      cases hb : tb v (pv r)
      all_goals
        go_wp2_with (go_at_call 111; refine (HL.out _).mono ?_; rintro e w' ⟨rfl, rfl⟩)
        go_round
        case rel => exact ⟨k + 1, by omega, by go_num, by rw [Hs.out, hb]; rfl⟩
        case measure => simp [intOf]; omega
    · have ek : S.take k = S := List.take_of_length_le (by rw [← Hn.out]; omega)
      rw [ek]
      go_wp2_with fail
      go_ret
      exact ⟨rfl, rfl⟩
end Go.Proofs.YtchmplpgamekjaaDoor
