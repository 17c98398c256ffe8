/- counts of partitions up to 14, on both sides -/
import Derived.Test.YtocllmhkppkfoaaRw
import Derived.Deep.OwnRows
namespace Go.Proofs.Ytocllmhkppkfoaa
open Go.RowKit

def cntIn (x m : Nat) (ys : List Int) : List Int := ys.set m (wrap64 (ys.getD m 0 + ys.getD (m - x) 0))
def cntRow (x : Nat) : Nat → List Int → List Int
  | 0, ys => ys
  | j + 1, ys => cntIn x (x + j) (cntRow x j ys)
def cntW (s : Nat) : Nat := 2 ^ (s + 1) - 1
def cntAll : Nat → List Int
  | 0 => 1 :: List.replicate 14 0
  | s + 1 => cntRow (cntW s) (15 - cntW s) (cntAll s)
def cnt14 : List Int := cntAll 3
theorem cnt14_len : cnt14.length = 15 := by decide +kernel
theorem cnt14_bd : ∀ i, i < 15 → 0 ≤ cnt14.getD i 0 ∧ cnt14.getD i 0 ≤ 1000 := by decide +kernel
theorem cntW_lt : ∀ s, s < 3 → 1 ≤ cntW s ∧ cntW s ≤ 14 ∧ cntW (s + 1) = 2 * cntW s + 1 := by decide
theorem cntW_le : ∀ s, s < 3 → 2 * cntW s + 1 ≤ 15 := by decide
theorem made_own (w : World) (B n : Nat) (hB : B ≤ w.heap.size) (hn : n ≤ 1099511627776) : (w.alloc (.cells (madeCells #[.int .i64 0] n) 2)).ownsRow B 2 1 (.slice (some ⟨w.heap.size, 0, none⟩) n n) n (iv (List.replicate n 0)) := by
  refine ⟨by simp [iv], .inr ⟨w.heap.size, n, _, rfl, hB, blk_new w _, Nat.le_refl _, by unfold maxLen; omega, by simp [madeCells], ?_⟩⟩
  rw [← iv_replicate, List.take_of_length_le (by simp [madeCells])]
theorem made_own1 (w : World) : (w.alloc (.cells ((madeCells #[.int .i64 0] 15).setIfInBounds 0 (.int .i64 1)) 2)).ownsRow w.heap.size 2 1 (.slice (some ⟨w.heap.size, 0, none⟩) 15 15) 15 (iv (cntAll 0)) := by
  have h := (World.ownsRow.stored (made_own w w.heap.size 15 (Nat.le_refl _) (by omega)) 0 (.int .i64 1)).1
  rw [World.setCell_alloc_at _ _ _ _ _ rfl] at h
  exact h
set_option maxRecDepth 100000 in
set_option maxHeartbeats 2000000 in
theorem l01Count_any (w : World) :
    Calls Try.prog 39 #[.int .i64 14] w fun e w' => ∃ g, e = .returned (.slice (some ⟨g, 0, none⟩) 15 15) ∧ w'.ownsRow w.heap.size 2 1 (.slice (some ⟨g, 0, none⟩) 15 15) 15 (iv cnt14) ∧ Below w.heap.size w w' := by
  have hmk : ∀ w : World, (Instr.makeSlice 24 (.int .i64 15) (.int .i64 15)).run Try.prog w = .ok (.slice (some ⟨w.heap.size, 0, none⟩) 15 15) (w.alloc (.cells (madeCells #[.int .i64 0] 15) 2)) := run_make_row' (P := Try.prog) 24 2 (.int .i64 0) 8 Try.underlying24 infoI rfl .i64 .i64 15 (by omega) (by omega)
  have hO := made_own w w.heap.size 15 (Nat.le_refl _) (by omega)
  have hB : Below w.heap.size w (w.alloc (.cells (madeCells #[.int .i64 0] 15) 2)) := (Below.refl _ _).alloc (Nat.le_refl _) _
  have hc := owns_getD hO (k := 0) (by omega)
  have hf := hO.frozenAt 0
  clear hB hO
  go_enter Try.func39, Try.ntmps39
  go_wp2_with fail
  clear hmk hc hf
  go_loopw [4, 5] (fun x _ wr => ∃ s q : Nat, s ≤ 3 ∧ Hid (q = cntW s) ∧ 1 ≤ q ∧ q ≤ 15 ∧ x = .int .i64 q ∧ wr.ownsRow w.heap.size 2 1 (.slice (some ⟨w.heap.size, 0, none⟩) 15 15) 15 (iv (cntAll s)) ∧ Below w.heap.size w wr) (fun x _ _ => 15 - (intOf x).toNat)
  case atStart => exact ⟨0, 1, by omega, Lib.hid rfl, by omega, by omega, rfl, made_own1 w, (Below.refl _ _).alloc (Nat.le_refl _) _⟩
  case round =>
    obtain ⟨s, q, hs, HQ, hq0, hq1, rfl, hown, hbel⟩ := hrel
    have HO' := Lib.hid hown
    have HB' := Lib.hid hbel
    clear hown hbel
    by_cases h3 : s < 3
    · have HW := Lib.hid (cntW_lt s h3)
      have hq14 : q ≤ 14 := by rw [HQ.out]; exact HW.out.2.1
      have hq15 : 2 * q + 1 ≤ 15 := by rw [HQ.out]; exact cntW_le s h3
      have hq14' : (q : Int) ≤ 14 := by omega
      go_wp2_with fail
      go_loopw [5] (fun i wq => ∃ m ys, q ≤ m ∧ m ≤ 15 ∧ i = .int .i64 m ∧ Hid (ys = cntRow q (m - q) (cntAll s)) ∧ wq.ownsRow w.heap.size 2 1 (.slice (some ⟨w.heap.size, 0, none⟩) 15 15) 15 (iv ys) ∧ Below w.heap.size w wq) (fun i _ => 15 - (intOf i).toNat)
      case atStart => exact ⟨q, cntAll s, by omega, by omega, rfl, Lib.hid (by rw [Nat.sub_self]; rfl), HO'.out, HB'.out⟩
      case round =>
        obtain ⟨m, ys, hm0, hm1, rfl, HY, hown, hbel⟩ := hrel
        by_cases hlt : m ≤ 14
        · have c1 := owns_getD hown (k := m) (by omega)
          have c2 := owns_getD hown (k := m - q) (by omega)
          have fz := hown.frozenAt m
          have hwa : IntKind.i64.wrap ((m : Int) - q) = (m : Int) - q := by rw [IntKind.wrap_i64]; omega
          have hwb : wrap64 ((m : Int) - q) = (m : Int) - q := by unfold wrap64; omega
          have hi0 : 0 ≤ (m : Int) - q := by omega
          have hi1 : (m : Int) - q < 15 := by omega
          have hi2 : ((m : Int) - q).toNat = m - q := by omega
          have hi3 : (m : Int) < 15 := by omega
          have hi5 : (m : Int) ≤ 14 := by omega
          have hi4 : (q : Int) ≤ (m : Int) := by omega
          have HO2 := Lib.hid hown
          have HB2 := Lib.hid hbel
          generalize hy1 : ys.getD m 0 = y1 at *
          generalize hy2 : ys.getD (m - q) 0 = y2 at *
          have HY1 := Lib.hid hy1
          have HY2 := Lib.hid hy2
          clear hown hbel hy1 hy2
          go_wp2_with fail
          go_region_law (fail)
          all_goals
            go_wp2_with fail
            go_roundw
            case rel =>
              refine ⟨m + 1, ys.set m (wrap64 (y1 + y2)), by omega, by omega, by go_num, Lib.hid ?_, ?_, (HB2.out.setCell (p := ⟨w.heap.size, m, none⟩) (Nat.le_refl _) _).drew⟩
              · rw [show m + 1 - q = (m - q) + 1 by omega]
                show _ = cntIn q (q + (m - q)) (cntRow q (m - q) (cntAll s))
                rw [← HY.out, show q + (m - q) = m by omega]
                unfold cntIn
                rw [HY1.out, HY2.out]
              · rw [iv_set]; exact (World.ownsRow.stored HO2.out m _).1
            case measure => simp [intOf]; omega
        · obtain rfl : m = 15 := by omega
          have HO2 := Lib.hid hown
          have HB2 := Lib.hid hbel
          clear hown hbel
          go_wp2_with fail
          go_roundw
          case rel =>
            exact ⟨s + 1, 2 * q + 1, by omega, Lib.hid (by rw [HQ.out]; exact HW.out.2.2.symm), by omega, hq15, by simp, by rw [HQ.out] at HY; rw [show cntAll (s + 1) = ys by rw [HY.out]; rfl]; exact HO2.out, HB2.out⟩
          case measure => simp [intOf]; omega
    · obtain rfl : s = 3 := by omega
      have hq15 : q = 15 := HQ.out
      subst hq15
      go_wp2_with fail
      go_ret
      exact ⟨w.heap.size, rfl, HO'.out, HB'.out⟩
set_option maxRecDepth 100000 in
set_option maxHeartbeats 2000000 in
theorem countPartitions_any (w : World) :
    Calls Try.prog 43 #[.int .i64 14] w fun e w' => ∃ g, e = .returned (.slice (some ⟨g, 0, none⟩) 15 15) ∧ w'.ownsRow w.heap.size 2 1 (.slice (some ⟨g, 0, none⟩) 15 15) 15 (iv cnt14) ∧ Below w.heap.size w w' := by
  have hmk : ∀ w : World, (Instr.makeSlice 24 (.int .i64 15) (.int .i64 15)).run Try.prog w = .ok (.slice (some ⟨w.heap.size, 0, none⟩) 15 15) (w.alloc (.cells (madeCells #[.int .i64 0] 15) 2)) := run_make_row' (P := Try.prog) 24 2 (.int .i64 0) 8 Try.underlying24 infoI rfl .i64 .i64 15 (by omega) (by omega)
  have hO := made_own w w.heap.size 15 (Nat.le_refl _) (by omega)
  have hB : Below w.heap.size w (w.alloc (.cells (madeCells #[.int .i64 0] 15) 2)) := (Below.refl _ _).alloc (Nat.le_refl _) _
  have hc := owns_getD hO (k := 0) (by omega)
  have hf := hO.frozenAt 0
  clear hB hO
  go_enter Try.func43, Try.ntmps43
  go_wp2_with fail
  clear hmk hc hf
  go_loopw [4, 5] (fun x _ wr => ∃ s q : Nat, s ≤ 3 ∧ Hid (q = cntW s) ∧ 1 ≤ q ∧ q ≤ 15 ∧ x = .int .i64 q ∧ wr.ownsRow w.heap.size 2 1 (.slice (some ⟨w.heap.size, 0, none⟩) 15 15) 15 (iv (cntAll s)) ∧ Below w.heap.size w wr) (fun x _ _ => 15 - (intOf x).toNat)
  case atStart => exact ⟨0, 1, by omega, Lib.hid rfl, by omega, by omega, rfl, made_own1 w, (Below.refl _ _).alloc (Nat.le_refl _) _⟩
  case round =>
    obtain ⟨s, q, hs, HQ, hq0, hq1, rfl, hown, hbel⟩ := hrel
    have HO' := Lib.hid hown
    have HB' := Lib.hid hbel
    clear hown hbel
    by_cases h3 : s < 3
    · have HW := Lib.hid (cntW_lt s h3)
      have hq14 : q ≤ 14 := by rw [HQ.out]; exact HW.out.2.1
      have hq15 : 2 * q + 1 ≤ 15 := by rw [HQ.out]; exact cntW_le s h3
      have hq14' : (q : Int) ≤ 14 := by omega
      go_wp2_with fail
      go_loopw [5] (fun i wq => ∃ m ys, q ≤ m ∧ m ≤ 15 ∧ i = .int .i64 m ∧ Hid (ys = cntRow q (m - q) (cntAll s)) ∧ wq.ownsRow w.heap.size 2 1 (.slice (some ⟨w.heap.size, 0, none⟩) 15 15) 15 (iv ys) ∧ Below w.heap.size w wq) (fun i _ => 15 - (intOf i).toNat)
      case atStart => exact ⟨q, cntAll s, by omega, by omega, rfl, Lib.hid (by rw [Nat.sub_self]; rfl), HO'.out, HB'.out⟩
      case round =>
        obtain ⟨m, ys, hm0, hm1, rfl, HY, hown, hbel⟩ := hrel
        by_cases hlt : m ≤ 14
        · have c1 := owns_getD hown (k := m) (by omega)
          have c2 := owns_getD hown (k := m - q) (by omega)
          have fz := hown.frozenAt m
          have hwa : IntKind.i64.wrap ((m : Int) - q) = (m : Int) - q := by rw [IntKind.wrap_i64]; omega
          have hwb : wrap64 ((m : Int) - q) = (m : Int) - q := by unfold wrap64; omega
          have hi0 : 0 ≤ (m : Int) - q := by omega
          have hi1 : (m : Int) - q < 15 := by omega
          have hi2 : ((m : Int) - q).toNat = m - q := by omega
          have hi3 : (m : Int) < 15 := by omega
          have hi5 : (m : Int) ≤ 14 := by omega
          have hi4 : (q : Int) ≤ (m : Int) := by omega
          have HO2 := Lib.hid hown
          have HB2 := Lib.hid hbel
          generalize hy1 : ys.getD m 0 = y1 at *
          generalize hy2 : ys.getD (m - q) 0 = y2 at *
          have HY1 := Lib.hid hy1
          have HY2 := Lib.hid hy2
          clear hown hbel hy1 hy2
          go_wp2_with fail
          go_region_law (fail)
          all_goals
            go_wp2_with fail
            go_roundw
            case rel =>
              refine ⟨m + 1, ys.set m (wrap64 (y1 + y2)), by omega, by omega, by go_num, Lib.hid ?_, ?_, (HB2.out.setCell (p := ⟨w.heap.size, m, none⟩) (Nat.le_refl _) _).drew⟩
              · rw [show m + 1 - q = (m - q) + 1 by omega]
                show _ = cntIn q (q + (m - q)) (cntRow q (m - q) (cntAll s))
                rw [← HY.out, show q + (m - q) = m by omega]
                unfold cntIn
                rw [HY1.out, HY2.out]
              · rw [iv_set]; exact (World.ownsRow.stored HO2.out m _).1
            case measure => simp [intOf]; omega
        · obtain rfl : m = 15 := by omega
          have HO2 := Lib.hid hown
          have HB2 := Lib.hid hbel
          clear hown hbel
          go_wp2_with fail
          go_roundw
          case rel =>
            exact ⟨s + 1, 2 * q + 1, by omega, Lib.hid (by rw [HQ.out]; exact HW.out.2.2.symm), by omega, hq15, by simp, by rw [HQ.out] at HY; rw [show cntAll (s + 1) = ys by rw [HY.out]; rfl]; exact HO2.out, HB2.out⟩
          case measure => simp [intOf]; omega
    · obtain rfl : s = 3 := by omega
      have hq15 : q = 15 := HQ.out
      subst hq15
      go_wp2_with fail
      go_ret
      exact ⟨w.heap.size, rfl, HO'.out, HB'.out⟩
end Go.Proofs.Ytocllmhkppkfoaa
