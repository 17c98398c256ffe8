/- the reference's l03Left at one admissible word -/
import Derived.Test.YtocllmhkppkfoaaMy
namespace Go.Proofs.Ytocllmhkppkfoaa
open Go.RowKit

theorem frontL_len (i : Int) (ws : List Int) : (frontL i ws).length ≤ ws.length + 1 := by unfold frontL; split <;> simp
theorem rows_one {M : List Row} {x : List Int} (h : dat M = [x]) : ∃ r, M = [r] ∧ r.xs = x := by
  match M, h with
  | [r], h => exact ⟨r, rfl, by simpa [dat] using h⟩

set_option maxRecDepth 100000 in
set_option maxHeartbeats 1000000 in
theorem left_put (i : Int) (A X : Option Addr) (c cX : Nat) (ws : List Int) (w : World) (hi : 0 ≤ i) (hi2 : i ≤ 1000) (hl : ws.length ≤ 1000) (hw : 0 ≤ ws.getD 0 0 ∧ ws.getD 0 0 ≤ 1000) (hc : i = 0 ∨ ws = [] ∨ 2 * ws.getD 0 0 ≤ i) (hR : RdR w A [⟨X, cX, ws⟩]) :
    Calls Try.prog 108 #[.int .i64 i, .slice A 1 c] w (ResRows [frontL i ws] w) := by
  have HR := Lib.hid hR
  obtain ⟨hw1, hw2⟩ := hw
  have HC := Lib.hid hc
  clear hR hc
  go_enter Try.func108, Try.ntmps108
  go_wp2_with fail
  go_loopw [5, 6] (fun v s6 wr => ∃ k : Nat, ∃ M : List Row, ∃ A1 c1, k ≤ 1 ∧ s6 = .int .i64 k ∧ v = .slice A1 k c1 ∧ Hid (dat M = if k = 0 then [] else [frontL i ws]) ∧ Hid (k = 0 → A1 = some ⟨w.heap.size, 0, none⟩ ∧ c1 = 0) ∧ OwnR wr w.heap.size (.slice A1 k c1) M ∧ Below w.heap.size w wr) (fun _ i _ => 1 - (intOf i).toNat)
  case atStart => exact ⟨0, [], some ⟨w.heap.size, 0, none⟩, 0, by omega, rfl, rfl, Lib.hid rfl, Lib.hid (fun _ => ⟨rfl, rfl⟩), OwnR.made w (Nat.le_refl _), (Below.refl _ _).alloc (Nat.le_refl _) _⟩
  case round =>
    obtain ⟨k, M, A1, c1, hk, rfl, rfl, HD, HZ, hown, hbel⟩ := hrel
    have HBL := Lib.hid hbel
    have hsz := hbel.size
    rcases (show k = 0 ∨ k = 1 by omega) with rfl | rfl
    · obtain ⟨e1, e2⟩ := HZ.out rfl
      subst e1
      subst e2
      have hR1 := HR.out.below hbel
      obtain ⟨b, o, rfl, hcell⟩ := hR1.at_ (k := 0) (by simp)
      have hin := HR.out.inn 0 (by simp)
      rw [Nat.add_zero, rg_cons_zero] at hcell
      rw [rg_cons_zero] at hin
      simp only at hcell hin
      have HF := Lib.hid (fun W (hb : Below w.heap.size w W) => l03Front_any i X ws.length cX ws W rfl (by omega) (hin.below hb))
      clear hR1 hown
      by_cases h0 : i = 0
      · have h0b : (i == 0) = true := by simpa using h0
        clear hin hbel h0
        go_wp2_with fail
        refine (HF.out _ HBL.out).mono ?_
        rintro e w1 ⟨g, kk, cap, rfl, hkk, ho, hb⟩
        have HKK := Lib.hid hkk.out
        have hk6 : kk ≤ 1000000 := by have := frontL_len i ws; rw [hkk.out]; omega
        have HB1 := Lib.hid hb
        have HP := Lib.hid (l01PutNil_any w.heap.size (some ⟨g, 0, none⟩) kk cap (frontL i ws) w1 hkk.out hk6 (owns_Rd ho))
        clear ho hb hkk
        go_wp2_with fail
        refine HP.out.mono ?_
        rintro e w2 ⟨v, M2, rfl, hd2, ho2, hb2⟩
        obtain ⟨r2, rfl, hr2⟩ := rows_one hd2
        obtain ⟨A2, c2, rfl, _, himp, heq⟩ := owns_shape ho2.out
        clear himp heq
        have HD2 := Lib.hid hd2
        have HO2 := Lib.hid (ho2.mono (Nat.le_trans hsz HB1.out.size))
        have HB2 := Lib.hid ((HBL.out.trans (HB1.out.mono hsz)).trans (hb2.mono (Nat.le_trans hsz HB1.out.size)))
        clear ho2 hb2 hd2 hr2
        go_wp2_with fail
        go_roundw
        case rel => exact ⟨1, [r2], A2, c2, by omega, rfl, rfl, Lib.hid (by rw [HD2.out]; rfl), Lib.hid (fun h => by omega), HO2.out, HB2.out⟩
        case measure => simp [intOf]
      · have h0b : (i == 0) = false := by simpa using h0
        by_cases h1 : ws = []
        · have hlb : ((ws.length : Int) == 0) = true := by rw [h1]; rfl
          clear hin hbel h0 h1
          go_wp2_with fail
          refine (HF.out _ HBL.out).mono ?_
          rintro e w1 ⟨g, kk, cap, rfl, hkk, ho, hb⟩
          have HKK := Lib.hid hkk.out
          have hk6 : kk ≤ 1000000 := by have := frontL_len i ws; rw [hkk.out]; omega
          have HB1 := Lib.hid hb
          have HP := Lib.hid (l01PutNil_any w.heap.size (some ⟨g, 0, none⟩) kk cap (frontL i ws) w1 hkk.out hk6 (owns_Rd ho))
          clear ho hb hkk
          go_wp2_with fail
          refine HP.out.mono ?_
          rintro e w2 ⟨v, M2, rfl, hd2, ho2, hb2⟩
          obtain ⟨r2, rfl, hr2⟩ := rows_one hd2
          obtain ⟨A2, c2, rfl, _, himp, heq⟩ := owns_shape ho2.out
          clear himp heq
          have HD2 := Lib.hid hd2
          have HO2 := Lib.hid (ho2.mono (Nat.le_trans hsz HB1.out.size))
          have HB2 := Lib.hid ((HBL.out.trans (HB1.out.mono hsz)).trans (hb2.mono (Nat.le_trans hsz HB1.out.size)))
          clear ho2 hb2 hd2 hr2
          go_wp2_with fail
          go_roundw
          case rel => exact ⟨1, [r2], A2, c2, by omega, rfl, rfl, Lib.hid (by rw [HD2.out]; rfl), Lib.hid (fun h => by omega), HO2.out, HB2.out⟩
          case measure => simp [intOf]
        · have hlp : 0 < ws.length := by cases ws with | nil => exact absurd rfl h1 | cons a l => simp
          have hlb : ((ws.length : Int) == 0) = false := by simp; omega
          have hge : 2 * ws.getD 0 0 ≤ i := by rcases HC.out with h | h | h; exact absurd h h0; exact absurd h h1; exact h
          obtain ⟨b1, o1, rfl, hx⟩ := (hin.below hbel).atI hlp
          rw [Nat.add_zero] at hx
          clear hin hbel h0 h1
          generalize hx0 : ws.getD 0 0 = x at *
          have HX0 := Lib.hid hx0
          clear hx0
          go_wp2_with fail
          refine (HF.out _ HBL.out).mono ?_
          rintro e w1 ⟨g, kk, cap, rfl, hkk, ho, hb⟩
          have HKK := Lib.hid hkk.out
          have hk6 : kk ≤ 1000000 := by have := frontL_len i ws; rw [hkk.out]; omega
          have HB1 := Lib.hid hb
          have HP := Lib.hid (l01PutNil_any w.heap.size (some ⟨g, 0, none⟩) kk cap (frontL i ws) w1 hkk.out hk6 (owns_Rd ho))
          clear ho hb hkk
          go_wp2_with fail
          refine HP.out.mono ?_
          rintro e w2 ⟨v, M2, rfl, hd2, ho2, hb2⟩
          obtain ⟨r2, rfl, hr2⟩ := rows_one hd2
          obtain ⟨A2, c2, rfl, _, himp, heq⟩ := owns_shape ho2.out
          clear himp heq
          have HD2 := Lib.hid hd2
          have HO2 := Lib.hid (ho2.mono (Nat.le_trans hsz HB1.out.size))
          have HB2 := Lib.hid ((HBL.out.trans (HB1.out.mono hsz)).trans (hb2.mono (Nat.le_trans hsz HB1.out.size)))
          clear ho2 hb2 hd2 hr2
          go_wp2_with fail
          go_roundw
          case rel => exact ⟨1, [r2], A2, c2, by omega, rfl, rfl, Lib.hid (by rw [HD2.out]; rfl), Lib.hid (fun h => by omega), HO2.out, HB2.out⟩
          case measure => simp [intOf]
    · have HO := Lib.hid hown
      have HD1 : Hid (dat M = [frontL i ws]) := Lib.hid (by rw [HD.out]; rfl)
      clear hown hbel
      go_wp2_with fail
      go_ret
      exact ⟨_, M, rfl, HD1.out, HO.out, HBL.out⟩
end Go.Proofs.Ytocllmhkppkfoaa
