/- impl's isTable -/
import Derived.Test.YtocllmhkppkfoaaPa
import Derived.Test.YtocllmhkppkfoaaPb
import Derived.Test.YtocllmhkppkfoaaMw
namespace Go.Proofs.Ytocllmhkppkfoaa
open Go.RowKit

noncomputable def entB (xs e : List Int) : Bool := @decide (EntM xs e) (Classical.propDecidable _)
theorem entB_true {xs e : List Int} (h : EntM xs e) : entB xs e = true := by unfold entB; simp [h]
theorem entB_false {xs e : List Int} (h : ¬ EntM xs e) : entB xs e = false := by unfold entB; simp [h]
theorem entB_iff {xs e : List Int} : entB xs e = true ↔ EntM xs e := by unfold entB; simp

theorem isStem_any (x : Int) (w : World) : Calls Try.prog 98 #[.int .i64 x] w fun e w' => e = .returned (.bool (inB x 0 20)) ∧ w = w' := by
  have HI := Lib.hid (fun W => in_any x 0 20 W)
  go_enter Try.func98, Try.ntmps98
  go_wp2_with (go_at_call 40; refine (HI.out _).mono ?_; rintro e w' ⟨rfl, rfl⟩)
  go_ret
  exact ⟨rfl, rfl⟩

set_option maxRecDepth 100000 in
set_option maxHeartbeats 2000000 in
theorem entAsk (wc : World) (lb mb n c : Nat) (A : Option Addr) (xs : List Int) (r : Row) (hn : n = xs.length) (hn16 : n ≤ 16) (hd : ∀ i, i < xs.length → 0 ≤ xs.getD i 0 ∧ xs.getD i 0 ≤ 20)
    (hlc : wc.cell? ⟨lb, 0, none⟩ = some (.int .i64 ((n : Int) - 1))) (hmc : wc.cell? ⟨mb, 0, none⟩ = some (.slice A n c)) (hR : Rd wc A (iv xs)) (hr : Rd wc r.A (iv r.xs)) (hle : r.xs.length ≤ 1048576) :
    AsksN Try.prog 102 #[.pointer (some ⟨lb, 0, none⟩), .pointer (some ⟨mb, 0, none⟩)] wc r.val (entB xs r.xs) := by
  intro q
  obtain ⟨rA, rc, rx⟩ := r
  simp only [Row.val] at hr hle ⊢
  show Calls Try.prog 102 #[.slice rA rx.length rc, .pointer (some ⟨lb, 0, none⟩), .pointer (some ⟨mb, 0, none⟩)] (wc.drewN q) _
  have HNO := Lib.hid (fun (h : ¬ EntM xs rx) => entB_false h)
  have Hn := Lib.hid hn
  have HD := Lib.hid hd
  by_cases h3 : rx.length = 3
  · have HR := Lib.hid hR
    obtain ⟨b1, o1, rfl, hy0⟩ := hr.atI (k := 0) (by omega)
    rw [Nat.add_zero] at hy0
    have hy1 := hr.cellI (k := 1) (by omega)
    have hy2 := hr.cellI (k := 2) (by omega)
    have HI0 := Lib.hid (fun W => in_any (rx.getD 0 0) 1 20 W)
    have HI1 := Lib.hid (fun W => in_any (rx.getD 1 0) 0 ((n : Int) - 1) W)
    have HI2 := Lib.hid (fun W => in_any (rx.getD 2 0) 0 ((n : Int) - 1) W)
    have HM := Lib.hid (fun (g0 : 1 ≤ rx.getD 0 0) g1 g2 g3 g4 g5 => entB_true (⟨h3, g0, g1, g2, g3, g4, g5⟩ : EntM xs rx))
    have HN0 := Lib.hid (fun (h : ¬ (1 ≤ rx.getD 0 0 ∧ rx.getD 0 0 ≤ 20)) => HNO.out (fun e => h ⟨e.pos, e.le20 hd⟩))
    have HN1 := Lib.hid (fun (h : ¬ (0 ≤ rx.getD 1 0 ∧ rx.getD 1 0 ≤ (n : Int) - 1)) => HNO.out (fun e => h ⟨e.lo1, by have := e.hi1; omega⟩))
    have HN2 := Lib.hid (fun (h : ¬ (0 ≤ rx.getD 2 0 ∧ rx.getD 2 0 ≤ (n : Int) - 1)) => HNO.out (fun e => h ⟨e.lo2, by have := e.hi2; omega⟩))
    have HN3 := Lib.hid (fun (h : ¬ xs.getD (rx.getD 2 0).toNat 0 = xs.getD (rx.getD 1 0).toNat 0 + rx.getD 0 0) => HNO.out (fun e => h e.dg))
    rw [h3]
    clear hr hle hn hd hR HNO h3
    generalize rx.getD 0 0 = e0 at *
    generalize rx.getD 1 0 = e1 at *
    generalize rx.getD 2 0 = e2 at *
    cases hb0 : inB e0 1 20
    · rw [hb0] at HI0
      have HF := Lib.hid (HN0.out (inB_not hb0))
      clear hb0
      go_enter Try.func102, Try.ntmps102
      go_wp2_with fail
      go_big_quiet ((go_at_call 40; first | with_reducible exact quiet_add_left (HI0.out _) | with_reducible exact quiet_left (HI0.out _)))
      go_wp2_with fail
      go_ret
      exact ⟨by rw [HF.out]; rfl, _, by rw [World.drewN_drewN]⟩
    · rw [hb0] at HI0
      obtain ⟨hlo0, hhi0⟩ := inB_true2 hb0
      clear hb0
      cases hb1 : inB e1 0 ((n : Int) - 1)
      · rw [hb1] at HI1
        have HF := Lib.hid (HN1.out (inB_not hb1))
        clear hb1
        go_enter Try.func102, Try.ntmps102
        go_wp2_with fail
        go_big_quiet ((go_at_call 40; first | with_reducible exact quiet_add_left (HI0.out _) | with_reducible exact quiet_left (HI0.out _) | with_reducible exact quiet_add_left (HI1.out _) | with_reducible exact quiet_left (HI1.out _)))
        go_wp2_with fail
        go_ret
        exact ⟨by rw [HF.out]; rfl, _, by rw [World.drewN_drewN]⟩
      · rw [hb1] at HI1
        obtain ⟨hlo1, hhi1⟩ := inB_true2 hb1
        clear hb1
        cases hb2 : inB e2 0 ((n : Int) - 1)
        · rw [hb2] at HI2
          have HF := Lib.hid (HN2.out (inB_not hb2))
          clear hb2
          go_enter Try.func102, Try.ntmps102
          go_wp2_with fail
          go_big_quiet ((go_at_call 40; first | with_reducible exact quiet_add_left (HI0.out _) | with_reducible exact quiet_left (HI0.out _) | with_reducible exact quiet_add_left (HI1.out _) | with_reducible exact quiet_left (HI1.out _) | with_reducible exact quiet_add_left (HI2.out _) | with_reducible exact quiet_left (HI2.out _)))
          go_wp2_with fail
          go_ret
          exact ⟨by rw [HF.out]; rfl, _, by rw [World.drewN_drewN]⟩
        · rw [hb2] at HI2
          obtain ⟨hlo2, hhi2⟩ := inB_true2 hb2
          clear hb2
          obtain ⟨i1, rfl⟩ := Int.eq_ofNat_of_zero_le hlo1
          obtain ⟨i2, rfl⟩ := Int.eq_ofNat_of_zero_le hlo2
          rw [Int.toNat_natCast, Int.toNat_natCast] at HN3 HM
          have hi1 : i1 < n := by omega
          have hi2 : i2 < n := by omega
          obtain ⟨b3, o3, rfl, hd1⟩ := HR.out.atI (k := i1) (by rw [← Hn.out]; exact hi1)
          have hd2 := HR.out.cellI (k := i2) (by rw [← Hn.out]; exact hi2)
          have hbd1 := HD.out i1 (by rw [← Hn.out]; exact hi1)
          have hbd2 := HD.out i2 (by rw [← Hn.out]; exact hi2)
          have hi1' : (i1 : Int) < (n : Int) := by omega
          have hi2' : (i2 : Int) < (n : Int) := by omega
          generalize xs.getD i1 0 = d1 at *
          generalize xs.getD i2 0 = d2 at *
          obtain ⟨g1, g2⟩ := hbd1
          obtain ⟨g3, g4⟩ := hbd2
          have hw2 : IntKind.i64.wrap (d1 + e0) = d1 + e0 := by rw [IntKind.wrap_i64]; omega
          by_cases heq : d2 = d1 + e0
          · have HEN := Lib.hid (HM.out (by omega) (by omega) (by rw [← Hn.out]; exact hi1') (by omega) (by rw [← Hn.out]; exact hi2') (by omega))
            have heb : (d2 == d1 + e0) = true := by simpa using heq
            clear heq
            go_enter Try.func102, Try.ntmps102
            go_wp2_with fail
            go_big_quiet ((go_at_call 40; first | with_reducible exact quiet_add_left (HI0.out _) | with_reducible exact quiet_left (HI0.out _) | with_reducible exact quiet_add_left (HI1.out _) | with_reducible exact quiet_left (HI1.out _) | with_reducible exact quiet_add_left (HI2.out _) | with_reducible exact quiet_left (HI2.out _)))
            go_wp2_with fail
            go_big_quiet (fail)
            go_wp2_with fail
            go_ret
            exact ⟨by rw [HEN.out]; rfl, _, by rw [World.drewN_drewN, World.drewN_drewN]⟩
          · have HF := Lib.hid (HN3.out (by omega))
            have heb : (d2 == d1 + e0) = false := by simpa using heq
            clear heq
            go_enter Try.func102, Try.ntmps102
            go_wp2_with fail
            go_big_quiet ((go_at_call 40; first | with_reducible exact quiet_add_left (HI0.out _) | with_reducible exact quiet_left (HI0.out _) | with_reducible exact quiet_add_left (HI1.out _) | with_reducible exact quiet_left (HI1.out _) | with_reducible exact quiet_add_left (HI2.out _) | with_reducible exact quiet_left (HI2.out _)))
            go_wp2_with fail
            go_big_quiet (fail)
            go_wp2_with fail
            go_ret
            exact ⟨by rw [HF.out]; rfl, _, by rw [World.drewN_drewN, World.drewN_drewN]⟩
  · have hrb : ((rx.length : Int) != 3) = true := by simp; omega
    have HF := Lib.hid (HNO.out (fun e => h3 e.len))
    clear hr hn hd hR HNO h3
    go_enter Try.func102, Try.ntmps102
    go_wp2_with fail
    go_big_quiet (fail)
    go_wp2_with fail
    go_ret
    exact ⟨by rw [HF.out]; rfl, _, by rw [World.drewN_drewN]⟩
end Go.Proofs.Ytocllmhkppkfoaa
