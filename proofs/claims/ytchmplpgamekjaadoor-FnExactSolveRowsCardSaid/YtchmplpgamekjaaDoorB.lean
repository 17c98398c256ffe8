/- span.left -/
import Derived.Test.YtchmplpgamekjaaDoorA
namespace Go.Proofs.YtchmplpgamekjaaDoor
open Go.RowKit

/-- one row of a span taken off a mask and its companion, where the mask has the row's pivot -/
def leftStep (p : Nat × Nat) (r : Nat × Nat) : Nat × Nat := if tb p.1 (pv r.1) then (xr p.1 r.1, xr p.2 r.2) else p
def leftN (L : List (Nat × Nat)) (p : Nat × Nat) : Nat × Nat := L.foldl leftStep p
def SmP (p : Nat × Nat) : Prop := Sm p.1 ∧ Sm p.2
/-- rows that are no 0, and all small -/
def Good (L : List (Nat × Nat)) : Prop := ∀ r ∈ L, r.1 ≠ 0 ∧ Sm r.1 ∧ Sm r.2

theorem Good.at_ {L : List (Nat × Nat)} (h : Good L) {k : Nat} (hk : k < L.length) : (L.getD k (0, 0)).1 ≠ 0 ∧ Sm (L.getD k (0, 0)).1 ∧ Sm (L.getD k (0, 0)).2 := by
  have : L.getD k (0, 0) = L[k] := by simp [List.getD, hk]
  rw [this]; exact h _ (List.getElem_mem hk)
theorem SmP.step {p r : Nat × Nat} (hp : SmP p) (hr : Sm r.1 ∧ Sm r.2) : SmP (leftStep p r) := by
  unfold leftStep; split
  · exact ⟨hp.1.xr hr.1, hp.2.xr hr.2⟩
  · exact hp
theorem SmP.foldl {L : List (Nat × Nat)} (hg : Good L) : ∀ {p : Nat × Nat}, SmP p → SmP (leftN L p) := by
  unfold leftN
  induction L with
  | nil => intro p hp; exact hp
  | cons r L ih => intro p hp; exact ih (fun x hx => hg x (List.mem_cons_of_mem _ hx)) (hp.step (hg r (List.mem_cons_self ..)).2)
theorem Good.take {L : List (Nat × Nat)} (h : Good L) (k : Nat) : Good (L.take k) := fun r hr => h r (List.mem_of_mem_take hr)

def r1 (L : List (Nat × Nat)) : List Nat := L.map (·.1)
def r2 (L : List (Nat × Nat)) : List Nat := L.map (·.2)
theorem r1_getD (L : List (Nat × Nat)) (k : Nat) : (r1 L).getD k 0 = (L.getD k (0, 0)).1 := by
  simp only [r1, List.getD, List.getElem?_map]; cases L[k]? <;> rfl
theorem r2_getD (L : List (Nat × Nat)) (k : Nat) : (r2 L).getD k 0 = (L.getD k (0, 0)).2 := by
  simp only [r2, List.getD, List.getElem?_map]; cases L[k]? <;> rfl
theorem r1_length (L : List (Nat × Nat)) : (r1 L).length = L.length := by simp [r1]
theorem r2_length (L : List (Nat × Nat)) : (r2 L).length = L.length := by simp [r2]

attribute [local go_sem] i64_xor_nat i64_bit_test in
set_option maxHeartbeats 1000000 in
theorem left_any (bs : Nat) (A A' : Option Addr) (n c c' : Nat) (L : List (Nat × Nat)) (x y : Nat) (w : World) (hT : Tab w) (hn : n = L.length) (hsmall : n ≤ 1000000)
    (hx : Sm x) (hy : Sm y) (hg : Good L)
    (h0 : w.cell? ⟨bs, 0, none⟩ = some (.slice A n c)) (h1 : w.cell? ⟨bs, 1, none⟩ = some (.slice A' n c'))
    (hA : Rd w A (nv (r1 L))) (hA' : Rd w A' (nv (r2 L))) :
    Calls Tryd.prog 112 #[.pointer (some ⟨bs, 0, none⟩), .int .i64 x, .int .i64 y] w fun e w' =>
      e = .returned (.tuple #[.int .i64 (leftN L (x, y)).1, .int .i64 (leftN L (x, y)).2]) ∧ ∃ m, w' = w.drewN m := by
  have Hn := Lib.hid hn; clear hn
  go_enter Tryd.func112, Tryd.ntmps112
  go_wp2_with fail
  go_loopw [1, 2, 15] (fun v u i wr => ∃ k : Nat, k ≤ n ∧ i = .int .i64 k ∧ (∃ m, wr = w.drewN m) ∧ v = .int .i64 (leftN (L.take k) (x, y)).1 ∧ u = .int .i64 (leftN (L.take k) (x, y)).2) (fun _ _ i _ => n - (intOf i).toNat)
  case atStart => exact ⟨0, by omega, rfl, ⟨0, rfl⟩, rfl, rfl⟩
  case round =>
    obtain ⟨k, hk, rfl, ⟨m, rfl⟩, rfl, rfl⟩ := hrel
    by_cases hlt : k < n
    · have hkL : k < L.length := by rw [← Hn.out]; exact hlt
      obtain ⟨b, o, rfl, hc⟩ := hA.atN (k := k) (by rw [r1_length]; exact hkL)
      obtain ⟨b', o', rfl, hc'⟩ := hA'.atN (k := k) (by rw [r2_length]; exact hkL)
      rw [r1_getD] at hc; rw [r2_getD] at hc'
      obtain ⟨g0, g1, g2⟩ := hg.at_ hkL
      have Hs := Lib.hid (fold_take_succ leftStep (x, y) L k (0, 0) hkL)
      have hp : SmP (leftN (L.take k) (x, y)) := SmP.foldl (hg.take k) ⟨hx, hy⟩
      obtain ⟨p1, p2⟩ := hp
      have hpv := pv_le g0 g1
      generalize hP : leftN (L.take k) (x, y) = p at *
      generalize hR : L.getD k (0, 0) = r at *
      have HP := Lib.hid hP; clear hP
      have HR := Lib.hid hR; clear hR hA hA' hg
      have hpiv := fun (W : World) (hT : Tab W) => pivot_any r.1 g0 g1 W hT
      have HV := Lib.hid hpiv; clear hpiv
      cases hb : tb p.1 (pv r.1)
      · go_wp2_with (go_at_call 78; refine (HV.out _ (by exact hT)).mono ?_; rintro e w' ⟨rfl, rfl⟩)
        go_roundw
        case rel => exact ⟨k + 1, by omega, by go_num, ⟨m, rfl⟩, by unfold leftN at *; rw [Hs.out, HP.out]; simp [leftStep, hb], by unfold leftN at *; rw [Hs.out, HP.out]; simp [leftStep, hb]⟩
        case measure => simp [intOf]; omega
      · go_wp2_with (go_at_call 78; refine (HV.out _ (by exact hT)).mono ?_; rintro e w' ⟨rfl, rfl⟩)
        go_quiet (fail)
        go_wp2_with fail
        go_roundw
        case rel => exact ⟨k + 1, by omega, by go_num, ⟨_, rfl⟩, by unfold leftN at *; rw [Hs.out, HP.out]; simp [leftStep, hb], by unfold leftN at *; rw [Hs.out, HP.out]; simp [leftStep, hb]⟩
        case measure => simp [intOf]; omega
    · go_wp2_with fail
      go_ret2
      have e : L.take k = L := List.take_of_length_le (by rw [← Hn.out]; omega)
      rw [e]
      exact ⟨rfl, m, rfl⟩
end Go.Proofs.YtchmplpgamekjaaDoor
