/- the laws' own helpers at matrices -/
import Derived.Test.YtocllmhkppkfoaaK
import Derived.Deep.Onto
namespace Go.Proofs.Ytocllmhkppkfoaa
open Go.RowKit

/-- two lists of ints are equal -/
def eqI (xs ys : List Int) : Bool := xs == ys
set_option maxHeartbeats 1000000 in
theorem eqInts_any (A A' : Option Addr) (n n' c c' : Nat) (xs ys : List Int) (w : World) (hn : n = xs.length) (hn' : n' = ys.length) (hsm : n ≤ 1099511627776) (hsm' : n' ≤ 1099511627776) (hR : Rd w A (iv xs)) (hR' : Rd w A' (iv ys)) :
    Calls Try.prog 13 #[.slice A n c, .slice A' n' c'] w fun e w' => e = .returned (.bool (eqI xs ys)) ∧ ∃ m, w.drewN m = w' := by
  by_cases hl : n = n'
  · subst hl
    have Hn := Lib.hid hn
    have Hn' := Lib.hid hn'
    clear hn hn'
    go_enter Try.func13, Try.ntmps13
    go_wp2_with fail
    go_loopw [5] (fun i wr => ∃ k : Nat, k ≤ n ∧ i = .int .i64 k ∧ (∃ m, wr = w.drewN m) ∧ xs.take k = ys.take k) (fun i _ => n - (intOf i).toNat)
    case atStart => exact ⟨0, by omega, rfl, ⟨0, rfl⟩, by simp⟩
    case round =>
      obtain ⟨k, hk, rfl, ⟨m, rfl⟩, hp⟩ := hrel
      have HP := Lib.hid hp; clear hp
      by_cases hlt : k < n
      · have hkL : k < xs.length := by rw [← Hn.out]; exact hlt
        have hkL' : k < ys.length := by rw [← Hn'.out]; exact hlt
        obtain ⟨b, o, rfl, hc⟩ := hR.atI hkL
        obtain ⟨b', o', rfl, hc'⟩ := hR'.atI hkL'
        have hx : xs[k] = xs.getD k 0 := by simp [List.getD, hkL]
        have hy : ys[k] = ys.getD k 0 := by simp [List.getD, hkL']
        have HX := Lib.hid hx; have HY := Lib.hid hy; clear hx hy hR hR'
        generalize xs.getD k 0 = x at *
        generalize ys.getD k 0 = y at *
        by_cases hxy : x = y
        · subst hxy
          go_wp2_with fail
          go_quiet (fail)
          go_wp2_with fail
          go_roundw
          case rel => exact ⟨k + 1, by omega, by go_num, ⟨_, rfl⟩, by rw [List.take_succ_eq_append_getElem hkL, List.take_succ_eq_append_getElem hkL', HP.out, HX.out, HY.out]⟩
          case measure => simp [intOf]; omega
        · have hb : (x != y) = true := by simpa using hxy
          have HXY := Lib.hid hxy; clear hxy
          go_wp2_with fail
          go_quiet (fail)
          go_wp2_with fail
          go_ret
          have e : eqI xs ys = false := by
            unfold eqI
            rw [beq_eq_false_iff_ne]
            intro e; subst e
            exact HXY.out (HX.out.symm.trans HY.out)
          exact ⟨by rw [e]; rfl, m + nq, by rw [World.drewN_drewN]⟩
      · have ek : xs.take k = xs := List.take_of_length_le (by rw [← Hn.out]; omega)
        have ek' : ys.take k = ys := List.take_of_length_le (by rw [← Hn'.out]; omega)
        have e : eqI xs ys = true := by
          unfold eqI; rw [beq_iff_eq, ← ek, ← ek']; exact HP.out
        have HE := Lib.hid e; clear e ek ek'
        go_wp2_with fail
        go_ret
        exact ⟨by rw [HE.out]; rfl, m, rfl⟩
  · have e : eqI xs ys = false := by
      unfold eqI; rw [beq_eq_false_iff_ne]; intro e; subst e; omega
    have hb : ((n : Int) != (n' : Int)) = true := by simp; omega
    have HE := Lib.hid e; clear e hn hn' hl hR hR'
    go_enter Try.func13, Try.ntmps13
    go_wp2_with fail
    go_ret
    exact ⟨by rw [HE.out]; rfl, 0, rfl⟩
end Go.Proofs.Ytocllmhkppkfoaa
