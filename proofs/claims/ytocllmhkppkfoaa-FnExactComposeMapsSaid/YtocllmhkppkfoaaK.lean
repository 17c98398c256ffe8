/- the laws' own helpers: sizes, copies, comparisons of slices of ints -/
import Derived.Test.YtocllmhkppkfoaaP
import Derived.Test.YtocllmhkppkfoaaD
namespace Go.Proofs.Ytocllmhkppkfoaa
open Go.RowKit

def szV (n : Nat) (left : Int) : Int := if left - n < 0 then -1 else left - n
theorem szInts_any (A : Option Addr) (n c : Nat) (left : Int) (w : World) (hsm : n ≤ 9223372036854775807) (h0 : 0 ≤ left) (h1 : left ≤ 1048576) :
    Calls Try.prog 37 #[.slice A n c, .int .i64 left] w fun e w' => e = .returned (.int .i64 (szV n left)) ∧ w = w' := by
  by_cases h : left - n < 0
  · have HE : Hid (szV n left = -1) := by show _ = _; unfold szV; rw [if_pos h]
    go_enter Try.func37, Try.ntmps37
    go_wp2
    go_ret
    exact ⟨by rw [HE.out]; rfl, rfl⟩
  · have HE : Hid (szV n left = left - n) := by show _ = _; unfold szV; rw [if_neg h]
    go_enter Try.func37, Try.ntmps37
    go_wp2
    go_ret
    exact ⟨by rw [HE.out]; rfl, rfl⟩

theorem iv_set (xs : List Int) (k : Nat) (x : Int) : iv (xs.set k x) = (iv xs).set k (.int .i64 x) := by simp [iv, List.map_set]
theorem take_set_succ {ys xs : List Int} {k : Nat} (hk : k < ys.length) (hk' : k < xs.length) (h : ys.take k = xs.take k) : (ys.set k (xs.getD k 0)).take (k + 1) = xs.take (k + 1) := by
  rw [List.take_succ_eq_append_getElem (by simpa using hk), List.take_succ_eq_append_getElem hk', List.take_set, List.set_eq_of_length_le (by simp; omega), h]
  simp [List.getD, hk']

theorem iv_replicate (n : Nat) : (madeCells #[Value.int .i64 0] n).toList = iv (List.replicate n 0) := by
  simp [iv, madeCells]
  apply List.ext_getElem?
  intro i
  by_cases h : i < n
  · simp [h, Nat.mod_one]
  · simp [h]

set_option maxRecDepth 100000 in
set_option maxHeartbeats 1000000 in
theorem toInts_any (A : Option Addr) (n c : Nat) (xs : List Int) (w : World) (hn : n = xs.length) (hsm : n ≤ 1048576) (hR : Rd w A (iv xs)) :
    Calls Try.prog 19 #[.slice A n c] w fun e w' => ∃ g, e = .returned (.slice (some ⟨g, 0, none⟩) n n) ∧ w'.ownsRow w.heap.size 2 1 (.slice (some ⟨g, 0, none⟩) n n) n (iv xs) ∧ Below w.heap.size w w' := by
  obtain ⟨i0, hi0, hz0, hz1, hz2⟩ := info_parts infoI
  have Hn := Lib.hid hn
  have HR := Lib.hid hR
  clear hn hR
  go_enter Try.func19, Try.ntmps19
  go_wp2_with (at_make; refine wpList_make_full _ rfl _ _ 24 rfl w.heap.size 2 i0 _ 1 Try.underlying24 hi0 hz0 hz1 _ _ _ _ n rfl rfl rfl rfl ?b1 ?b2 ?b3 ?_)
  case b1 => rw [hz2]; omega
  case b2 => unfold maxLen; omega
  case b3 => exact Nat.le_refl _
  intro w1 hown hgrow
  have HG := Lib.hid (Below.grown (Below.refl w.heap.size w) hgrow (Nat.le_refl _) (by intro k h; cases h))
  have HO : Hid (w1.ownsRow w.heap.size 2 1 (.slice (some ⟨w.heap.size, 0, none⟩) n n) n (iv (List.replicate n 0))) := by rw [← iv_replicate]; exact hown
  clear hown hgrow hi0 hz0 hz1 hz2
  go_wp2_with fail
  go_loopw [4] (fun i wr => ∃ k : Nat, k ≤ n ∧ i = .int .i64 k ∧ (∃ ys : List Int, ys.length = n ∧ ys.take k = xs.take k ∧ wr.ownsRow w.heap.size 2 1 (.slice (some ⟨w.heap.size, 0, none⟩) n n) n (iv ys)) ∧ Below w.heap.size w wr) (fun i _ => n - (intOf i).toNat)
  case atStart => exact ⟨0, by omega, rfl, ⟨_, by simp, by simp, HO.out⟩, HG.out⟩
  case round =>
    obtain ⟨k, hk, rfl, ⟨ys, hyl, hyt, hown⟩, hbel⟩ := hrel
    have hsz : w.heap.size ≤ wr.heap.size := hbel.size
    by_cases hlt : k < n
    · have hkL : k < xs.length := by rw [← Hn.out]; exact hlt
      obtain ⟨b, o, rfl, hc⟩ := (HR.out.below hbel).atI hkL
      have hcell : wr.cell? ⟨w.heap.size, k, none⟩ = some (.int .i64 (ys.getD k 0)) := by
        rw [hown.cellAt k (by omega)]; simp [iv, List.getD, show k < ys.length by omega]
      have hfz := hown.frozenAt k
      have HT := Lib.hid (take_set_succ (by omega) hkL hyt)
      generalize xs.getD k 0 = x at *
      generalize ys.getD k 0 = y at *
      have HO := Lib.hid hown
      have HB := Lib.hid hbel
      have HY := Lib.hid hyl
      clear hown hbel hyl hyt
      go_wp2_with fail
      go_roundw
      case rel =>
        refine ⟨k + 1, by omega, by go_num, ⟨ys.set k x, by rw [List.length_set]; exact HY.out, HT.out, ?_⟩, HB.out.setCell (p := ⟨w.heap.size, k, none⟩) (Nat.le_refl _) _⟩
        rw [iv_set]; exact (World.ownsRow.stored HO.out k _).1
      case measure => simp [intOf]; omega
    · have ek : xs.take k = xs := List.take_of_length_le (by rw [← Hn.out]; omega)
      have ek2 : ys.take k = ys := List.take_of_length_le (by omega)
      have e : ys = xs := by rw [← ek, ← ek2]; exact hyt
      rw [e] at hown
      have HO := Lib.hid hown
      have HB := Lib.hid hbel
      clear hown hbel e hyt hyl ek ek2
      go_wp2_with fail
      go_ret
      exact ⟨w.heap.size, rfl, HO.out, HB.out⟩
end Go.Proofs.Ytocllmhkppkfoaa
