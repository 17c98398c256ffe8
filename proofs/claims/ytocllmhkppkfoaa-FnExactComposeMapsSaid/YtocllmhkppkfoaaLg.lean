/- the reference's l03Form at two squares, l11Fault, l11Is -/
import Derived.Test.YtocllmhkppkfoaaLf
import Derived.Test.YtocllmhkppkfoaaMu
import Derived.Test.YtocllmhkppkfoaaMw
namespace Go.Proofs.Ytocllmhkppkfoaa
open Go.RowKit

def formK (a b k : Nat) : List (List Int) := if k = 2 then [[]] else if k = 1 then [[(b : Int)]] else ademF a b
theorem row0_own (w : World) : OwnR ((w.alloc (.cells #[] 2)).alloc (.cells #[.slice (some ⟨w.heap.size, 0, none⟩) 0 0] 24)) w.heap.size (.slice (some ⟨w.heap.size + 1, 0, none⟩) 1 1) [⟨some ⟨w.heap.size, 0, none⟩, 0, []⟩] := by
  refine OwnR.one ?_ ?_
  · have := row_cell (w.alloc (.cells #[] 2)) (.slice (some ⟨w.heap.size, 0, none⟩) 0 0) (B := w.heap.size) (by simp)
    rw [show (w.alloc (.cells #[] 2)).heap.size = w.heap.size + 1 by simp] at this
    exact this
  · exact (World.ownsRow_made w #[] 0 (Nat.le_refl _) (by decide) (by simp)).alloc _

set_option maxRecDepth 100000 in
set_option maxHeartbeats 2000000 in
theorem form_any (a b : Nat) (A : Option Addr) (c : Nat) (w : World) (ha : 1 ≤ a) (hab : a < 2 * b) (hb1 : a + b ≤ 100) (hR : Rd w A (iv [(a : Int), (b : Int)])) :
    Calls Try.prog 93 #[.slice A 2 c] w (ResRows (ademF a b) w) := by
  obtain ⟨bA, oA, rfl, hx0⟩ := hR.atI (k := 0) (by simp)
  have hx1 := hR.cellI (k := 1) (by simp)
  rw [Nat.add_zero] at hx0
  simp only [List.getD_cons_zero, List.getD_cons_succ] at hx0 hx1
  have HKP := Lib.hid (fun w' (h : Below w.heap.size w w') => show w'.cell? ⟨bA, oA, none⟩ = some (.int .i64 a) ∧ w'.cell? ⟨bA, oA + 1, none⟩ = some (.int .i64 b) from ⟨cell_keep hx0 h, cell_keep hx1 h⟩)
  have HR0 := Lib.hid (row0_own w)
  clear hR hx0 hx1
  go_enter Try.func93, Try.ntmps93
  go_wp2_with fail
  go_loopw [3, 4] (fun v s4 wr => ∃ k : Nat, ∃ A1 c1, ∃ r : Row, ∃ M : List Row, k ≤ 2 ∧ s4 = .int .i64 ((k : Int) - 1) ∧ v = .slice A1 M.length c1 ∧ Hid (k ≠ 0 → M = [r] ∧ r.xs.length ≤ r.c) ∧ Hid (dat M = formK a b k) ∧ OwnR wr w.heap.size (.slice A1 M.length c1) M ∧ Below w.heap.size w wr) (fun _ i _ => (intOf i + 1).toNat)
  case atStart => exact ⟨2, some ⟨w.heap.size + 1, 0, none⟩, 1, _, [⟨some ⟨w.heap.size, 0, none⟩, 0, []⟩], by omega, rfl, rfl, Lib.hid (fun _ => ⟨rfl, by simp⟩), Lib.hid rfl, HR0.out, ((Below.refl _ _).alloc (Nat.le_refl _) _).alloc (by simp) _⟩
  case round =>
    obtain ⟨k, A1, c1, r, M, hk, rfl, rfl, HZ, HD, hown, hbel⟩ := hrel
    have HBL := Lib.hid hbel
    have hsz := hbel.size
    obtain ⟨y0, y1⟩ := HKP.out wr hbel
    rcases (show k = 0 ∨ k = 1 ∨ k = 2 by omega) with rfl | rfl | rfl
    · have HO := Lib.hid hown
      have HD1 : Hid (dat M = ademF a b) := Lib.hid HD.out
      clear hown hbel
      go_wp2_with fail
      go_ret
      exact ⟨_, M, rfl, HD1.out, HO.out, HBL.out⟩
    · obtain ⟨rfl, hcap⟩ := HZ.out (by omega)
      obtain ⟨rA, rc, rx⟩ := r
      have hrx : rx = [(b : Int)] := by have := HD.out; simpa [dat, formK] using this
      subst hrx
      have HC := Lib.hid (left_adem a b A1 rA c1 rc wr ha hab hb1 hcap (hown.rd rfl))
      clear hown hbel hcap
      go_wp2_with fail
      refine HC.out.mono ?_
      rintro e w1 ⟨v1, M1, rfl, hd1, ho1, hb1'⟩
      obtain ⟨A3, c3, rfl, _, himp, heq⟩ := owns_shape ho1.out
      clear himp heq
      have HD3 : Hid (dat M1 = formK a b 0) := Lib.hid hd1
      have HO3 := Lib.hid (ho1.mono hsz)
      have HB3 := Lib.hid (HBL.out.trans (hb1'.mono hsz))
      clear hd1 ho1 hb1'
      go_wp2_with fail
      go_roundw
      case rel => exact ⟨0, A3, c3, ⟨none, 0, []⟩, M1, by omega, rfl, rfl, Lib.hid (fun h => absurd rfl h), HD3, HO3.out, HB3.out⟩
      case measure => simp [intOf]
    · obtain ⟨rfl, hcap⟩ := HZ.out (by omega)
      obtain ⟨rA, rc, rx⟩ := r
      have hrx : rx = [] := by have := HD.out; simpa [dat, formK] using this
      subst hrx
      have HC := Lib.hid (left_put (b : Int) A1 rA c1 rc [] wr (by omega) (by omega) (by simp) (by simp) (.inr (.inl rfl)) (hown.rd rfl))
      have HFB : Hid (frontL (b : Int) [] = [(b : Int)]) := Lib.hid (by unfold frontL; rw [if_neg (by omega)])
      rw [HFB.out] at HC
      clear hown hbel hcap
      go_wp2_with fail
      refine HC.out.mono ?_
      rintro e w1 ⟨v1, M1, rfl, hd1, ho1, hb1'⟩
      obtain ⟨r1, rfl, hr1⟩ := rows_one hd1
      obtain ⟨A3, c3, rfl, _, himp, heq⟩ := owns_shape ho1.out
      clear himp heq
      have HD3 : Hid (dat [r1] = formK a b 1) := Lib.hid hd1
      have HCAP := Lib.hid ((ho1.rd (n := 1) rfl).cap 0 (by simp))
      have HO3 := Lib.hid (ho1.mono hsz)
      have HB3 := Lib.hid (HBL.out.trans (hb1'.mono hsz))
      clear hd1 ho1 hb1' hr1
      go_wp2_with fail
      go_roundw
      case rel => exact ⟨1, A3, c3, r1, [r1], by omega, rfl, rfl, Lib.hid (fun _ => ⟨rfl, HCAP.out⟩), HD3, HO3.out, HB3.out⟩
      case measure => simp [intOf]
end Go.Proofs.Ytocllmhkppkfoaa
