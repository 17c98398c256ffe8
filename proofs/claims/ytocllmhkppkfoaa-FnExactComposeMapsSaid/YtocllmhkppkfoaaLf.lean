/- the reference's l03Left and l03Form at two squares: Adem's relation -/
import Derived.Test.YtocllmhkppkfoaaMz
import Derived.Test.YtocllmhkppkfoaaMo
import Derived.Deep.DeepCutAuto
namespace Go.Proofs.Ytocllmhkppkfoaa
open Go.RowKit

def ademP (a b j : Nat) : List (List Int) := (((List.range j).filter (relB a b)).reverse).map (ademW a b)
theorem ademP_yes {a b j : Nat} (h : relB a b j = true) : ademP a b (j + 1) = ademW a b j :: ademP a b j := by
  unfold ademP; rw [List.range_succ, List.filter_append]; simp [h]
theorem ademP_no {a b j : Nat} (h : relB a b j = false) : ademP a b (j + 1) = ademP a b j := by
  unfold ademP; rw [List.range_succ, List.filter_append]; simp [h]
theorem ademP_len (a b j : Nat) : (ademP a b j).length ≤ j := by
  unfold ademP
  rw [List.length_map, List.length_reverse]
  exact Nat.le_trans (List.length_filter_le _ _) (by simp)
theorem ademP_all (a b : Nat) : ademP a b (a / 2 + 1) = ademF a b := rfl
theorem lexLt_head {a b : Int} {x y : List Int} (h : a < b) : lexLt (a :: x) (b :: y) = true := by
  simp only [lexLt]; rw [if_neg (by omega)]; simpa using h
theorem ademW_lt {a b i j : Nat} (hij : i < j) (hj : 2 * j ≤ a) : lexLt (ademW a b j) (ademW a b i) = true := by
  unfold ademW
  rw [if_neg (show j ≠ 0 by omega)]
  split
  · exact lexLt_head (by omega)
  · exact lexLt_head (by omega)
theorem lexLt_asymm {x y : List Int} (h : lexLt x y = true) : lexLt y x = false := by
  cases h2 : lexLt y x with
  | false => rfl
  | true => have := lexLt_trans h h2; rw [lexLt_irrefl] at this; cases this
theorem sumR_front (x : List Int) : ∀ (Q : List (List Int)), (∀ y ∈ Q, lexLt x y = true) → sumR Q [x] = x :: Q
  | [], _ => by rw [sumR]
  | y :: Q, h => by
    rw [sumR, if_neg (by rw [lexLt_asymm (h y (List.mem_cons_self ..))]; simp), if_pos (h y (List.mem_cons_self ..)), sumR_nil]
theorem ademP_sum {a b j : Nat} (hj : 2 * j ≤ a) : sumR (ademP a b j) [ademW a b j] = ademW a b j :: ademP a b j := by
  apply sumR_front
  intro y hy
  unfold ademP at hy
  rw [List.mem_map] at hy
  obtain ⟨i, hi, rfl⟩ := hy
  rw [List.mem_reverse, List.mem_filter, List.mem_range] at hi
  exact ademW_lt hi.1 hj
theorem front_adem (a b j : Nat) (hj : 2 * j ≤ a) (ha : 1 ≤ a) : frontL ((a + b - j : Nat) : Int) (frontL (j : Int) []) = ademW a b j := by
  unfold frontL ademW
  rw [if_neg (show ((a + b - j : Nat) : Int) ≠ 0 by omega)]
  by_cases h : j = 0
  · subst h; rfl
  · rw [if_neg (by omega), if_neg h]
theorem row_getD_len {M : List Row} {Q : List (List Int)} (h : dat M = Q) {k : Nat} (hq : ∀ x ∈ Q, x.length ≤ k) : ∀ i, i < M.length → (rg M i).xs.length ≤ k := fun i hi =>
  hq _ (by rw [← h]; exact List.mem_map_of_mem (rg_mem hi))
theorem ademW_len (a b j : Nat) : (ademW a b j).length ≤ 2 := by unfold ademW; split <;> simp
theorem ademP_row (a b j : Nat) : ∀ x ∈ ademP a b j, x.length ≤ 2 := by
  intro x hx
  unfold ademP at hx
  rw [List.mem_map] at hx
  obtain ⟨i, _, rfl⟩ := hx
  exact ademW_len a b i

theorem frontL_ok {a b j : Nat} (h2 : 2 * j ≤ a) (hab : a < 2 * b) (hb1 : a + b ≤ 100) : (frontL (j : Int) []).length ≤ 1000 ∧ (0 ≤ (frontL (j : Int) []).getD 0 0 ∧ (frontL (j : Int) []).getD 0 0 ≤ 1000) ∧ (((a + b - j : Nat) : Int) = 0 ∨ frontL (j : Int) [] = [] ∨ 2 * (frontL (j : Int) []).getD 0 0 ≤ ((a + b - j : Nat) : Int)) ∧ True := by
  unfold frontL
  by_cases h : j = 0
  · subst h; simp
  · rw [if_neg (by omega)]
    refine ⟨by simp, ?_, .inr (.inr ?_), trivial⟩
    · simp only [List.getD_cons_zero]; omega
    · simp only [List.getD_cons_zero]; omega
theorem row_read (w : World) (X : Option Addr) (c : Nat) : RdR (w.alloc (.cells #[.slice X 0 c] 24)).drew (some ⟨w.heap.size, 0, none⟩) [⟨X, c, []⟩] := by
  refine ⟨owns_Rd (row_cell w _ (Nat.le_refl _)), fun i hi => ?_, fun i hi => ?_⟩
  · obtain rfl : i = 0 := by simp at hi; omega
    exact .inl rfl
  · obtain rfl : i = 0 := by simp at hi; omega
    exact Nat.zero_le _
set_option maxRecDepth 100000 in
set_option maxHeartbeats 2000000 in
theorem left_adem (a b : Nat) (A X : Option Addr) (c cX : Nat) (w : World) (ha : 1 ≤ a) (hab : a < 2 * b) (hb1 : a + b ≤ 100) (hcX : 1 ≤ cX) (hR : RdR w A [⟨X, cX, [(b : Int)]⟩]) :
    Calls Try.prog 108 #[.int .i64 a, .slice A 1 c] w (ResRows (ademF a b) w) := by
  obtain ⟨bA, oA, rfl, hcell0⟩ := hR.at_ (k := 0) (by simp)
  have hin0 := hR.inn 0 (by simp)
  rw [Nat.add_zero, rg_cons_zero] at hcell0
  rw [rg_cons_zero] at hin0
  simp only [List.length_singleton] at hcell0 hin0
  obtain ⟨b1, o1, rfl, hx0⟩ := hin0.atI (k := 0) (by simp)
  rw [Nat.add_zero, List.getD_cons_zero] at hx0
  have hkeep : ∀ w', Below w.heap.size w w' → w'.cell? ⟨bA, oA, none⟩ = some (.slice (some ⟨b1, o1, none⟩) 1 cX) ∧ w'.cell? ⟨b1, o1, none⟩ = some (.int .i64 b) := fun w' h => ⟨cell_keep hcell0 h, cell_keep hx0 h⟩
  have HKP := Lib.hid hkeep
  have ha0 : ((a : Int) == 0) = false := by simp; omega
  have hge : ¬ 2 * (b : Int) ≤ (a : Int) := by omega
  have hgeb : decide (2 * (b : Int) ≤ (a : Int)) = false := by simp; omega
  clear hcell0 hin0 hx0 hR hkeep
  go_enter Try.func108, Try.ntmps108
  go_wp2_with fail
  go_loopw [5, 6] (fun v s6 wr => ∃ k : Nat, ∃ M : List Row, ∃ A1 c1, k ≤ 1 ∧ s6 = .int .i64 k ∧ v = .slice A1 M.length c1 ∧ Hid (k = 0 → M = []) ∧ Hid (k = 1 → dat M = ademF a b) ∧ OwnR wr w.heap.size (.slice A1 M.length c1) M ∧ Below w.heap.size w wr) (fun _ i _ => 1 - (intOf i).toNat)
  case atStart => exact ⟨0, [], some ⟨w.heap.size, 0, none⟩, 0, by omega, rfl, rfl, Lib.hid (fun _ => rfl), Lib.hid (fun h => by omega), OwnR.made w (Nat.le_refl _), (Below.refl _ _).alloc (Nat.le_refl _) _⟩
  case round =>
    obtain ⟨k, M, A1, c1, hk, rfl, rfl, HZ, HD, hown, hbel⟩ := hrel
    have HBL := Lib.hid hbel
    have HO := Lib.hid hown
    have hsz := hbel.size
    rcases (show k = 0 ∨ k = 1 by omega) with rfl | rfl
    · obtain rfl := HZ.out rfl
      obtain ⟨hcell, hx⟩ := HKP.out wr hbel
      clear hown hbel
      go_wp2_with fail
      go_cut [8, 9] (fun s8 s9 wx => ∃ WX g X' c', WX = wx ∧ s8 = .int .i64 b ∧ s9 = .slice (some ⟨g, 0, none⟩) 1 1 ∧ RdR wx (some ⟨g, 0, none⟩) [⟨X', c', []⟩] ∧ Below wr.heap.size wr wx)
      case first =>
        have HBa := Lib.hid (Below.drew (Below.refl wr.heap.size wr))
        by_cases hc1 : cX = 1
        · subst hc1
          go_region_held3 (fun w' => w'.cell? ⟨b1, o1, none⟩ = some (.int .i64 b)) (first | exact hx | exact cell_keep hx HBa.out | exact cell_keep hx (HBa.out.alloc (Nat.le_refl _) _)) (fail)
          go_wp2_with fail
          go_meet
          exact ⟨_, _, _, _, rfl, rfl, rfl, row_read wr _ _, ((Below.refl _ _).alloc (Nat.le_refl _) _).drew⟩
        · have h1 : 1 < cX := by omega
          go_region_held3 (fun w' => w'.cell? ⟨b1, o1, none⟩ = some (.int .i64 b)) (first | exact hx | exact cell_keep hx HBa.out | exact cell_keep hx (HBa.out.alloc (Nat.le_refl _) _)) (fail)
          go_wp2_with fail
          go_meet
          exact ⟨_, _, _, _, rfl, rfl, rfl, row_read wr _ _, ((Below.refl _ _).alloc (Nat.le_refl _) _).drew⟩
      case rest =>
        obtain ⟨WX, g, X', c', rfl, rfl, rfl, hrr, hbx⟩ := hcut
        have HR1 := Lib.hid hrr
        have HBX := Lib.hid (HBL.out.trans (hbx.mono hsz))
        have hszx := HBX.out.size
        have HOX := Lib.hid (HO.out.later hbx)
        clear hrr hbx hcell hx HO
        go_wp2_with fail
        go_loopw [5, 10] (fun v s10 wr => ∃ j : Nat, ∃ M : List Row, ∃ A2 c2, j ≤ a / 2 + 1 ∧ s10 = .int .i64 j ∧ v = .slice A2 M.length c2 ∧ Hid (dat M = ademP a b j) ∧ OwnR wr w.heap.size (.slice A2 M.length c2) M ∧ Below WX.heap.size WX wr) (fun _ i _ => a / 2 + 1 - (intOf i).toNat)
        case atStart => exact ⟨0, [], A1, c1, by omega, rfl, rfl, Lib.hid rfl, HOX.out, Below.refl _ _⟩
        case round =>
          obtain ⟨j, M, A2, c2, hj, rfl, rfl, HM, hown, hbel⟩ := hrel
          have HO := Lib.hid hown
          have HB2 := Lib.hid hbel
          have hsz2 := hbel.size
          have hMl : M.length ≤ j := by have := ademP_len a b j; rw [← HM.out, dat_length] at this; exact this
          clear hown hbel
          by_cases h2 : 2 * j ≤ a
          · have h2' : 2 * (j : Int) ≤ (a : Int) := by omega
            have HP := Lib.hid (fun W => l01Parity_any (b - j - 1) (a - 2 * j) W (by omega) (by omega))
            have e1 : ((b - j - 1 : Nat) : Int) = (b : Int) - j - 1 := by omega
            have e2 : ((a - 2 * j : Nat) : Int) = (a : Int) - 2 * j := by omega
            rw [e1, e2] at HP
            clear e1 e2
            cases hrel : relB a b j
            · have HPV : Hid (parV (b - j - 1) (a - 2 * j) = 0) := Lib.hid (by unfold relB at hrel; unfold parV; rw [beq_eq_false_iff_ne] at hrel; rw [if_neg hrel])
              rw [HPV.out] at HP
              have HM2 := Lib.hid (HM.out.trans (ademP_no hrel).symm)
              clear hrel
              go_wp2_with (go_at_call 116; (with_reducible refine (HP.out _).mono ?_); (rintro e w' ⟨rfl, rfl⟩))
              go_roundw
              case rel => exact ⟨j + 1, M, A2, c2, by omega, by go_num, rfl, HM2, HO.out, HB2.out⟩
              case measure => simp [intOf]; omega
            · have HPV : Hid (parV (b - j - 1) (a - 2 * j) = 1) := Lib.hid (by unfold relB at hrel; unfold parV; rw [beq_iff_eq] at hrel; rw [if_pos hrel])
              rw [HPV.out] at HP
              have HM2 := Lib.hid (ademP_yes hrel)
              have HSM := Lib.hid (ademP_sum (a := a) (b := b) h2)
              clear hrel
              have HL1 := Lib.hid (left_put (j : Int) (some ⟨g, 0, none⟩) X' 1 c' [] wr (by omega) (by omega) (by simp) (by simp) (.inr (.inl rfl)) (HR1.out.below HB2.out))
              go_wp2_with (go_at_call 116; (with_reducible refine (HP.out _).mono ?_); (rintro e w' ⟨rfl, rfl⟩))
              refine HL1.out.mono ?_
              rintro e w1 ⟨v1, M1, rfl, hd1, ho1, hb1'⟩
              obtain ⟨⟨rA, rc, rx⟩, rfl, hr1⟩ := rows_one hd1
              simp only at hr1
              obtain ⟨A3, c3, rfl, _, himp, heq⟩ := owns_shape ho1.out
              clear himp heq
              have hrd1 := ho1.rd (n := 1) rfl
              subst hr1
              obtain ⟨f1, f2, f3, f4⟩ := frontL_ok (a := a) (b := b) h2 hab hb1
              have HL2 := Lib.hid (left_put ((a + b - j : Nat) : Int) A3 rA c3 rc (frontL (j : Int) []) w1 (by omega) (by omega) f1 f2 f3 hrd1)
              have HB3 := Lib.hid hb1'
              have e3 : ((a + b - j : Nat) : Int) = (a : Int) + b - j := by omega
              have HFA := Lib.hid (front_adem a b j h2 ha)
              rw [e3] at HL2 HFA
              clear hd1 ho1 hb1' hrd1 f1 f2 f3 f4 e3
              go_wp2_with fail
              refine HL2.out.mono ?_
              rintro e w2 ⟨v2, M2, rfl, hd2, ho2, hb2⟩
              rw [HFA.out] at hd2
              obtain ⟨r2, rfl, hr2⟩ := rows_one hd2
              obtain ⟨A4, c4, rfl, _, himp, heq⟩ := owns_shape ho2.out
              clear himp heq
              have hB23 : Below wr.heap.size wr w2 := HB3.out.trans (hb2.mono HB3.out.size)
              have HSU := Lib.hid (l01Sum_any A2 A4 M.length 1 c2 c4 M [r2] w2 rfl rfl (by omega) (by omega) (row_getD_len HM.out (fun x hx => Nat.le_trans (ademP_row a b j x hx) (by omega))) (row_getD_len hd2 (fun x hx => by rw [List.mem_singleton] at hx; subst hx; exact Nat.le_trans (ademW_len a b j) (by omega))) ((HO.out.later hB23).rd rfl) (ho2.rd rfl))
              rw [HM.out, hd2, HSM.out] at HSU
              have HB4 := Lib.hid hB23
              clear hd2 ho2 hb2 hB23 hr2
              go_wp2_with fail
              refine HSU.out.mono ?_
              rintro e w3 ⟨v3, M3, rfl, hd3, ho3, hb3⟩
              obtain ⟨A5, c5, rfl, _, himp, heq⟩ := owns_shape ho3.out
              clear himp heq
              have HD3 := Lib.hid (hd3.trans HM2.out.symm)
              have hB5 : Below wr.heap.size wr w3 := HB4.out.trans (hb3.mono HB4.out.size)
              have HB6 := Lib.hid (HB2.out.trans (hB5.mono hsz2))
              have HO3 := Lib.hid (ho3.mono (Nat.le_trans hszx (Nat.le_trans hsz2 HB4.out.size)))
              clear hd3 ho3 hb3 hB5
              go_wp2_with fail
              go_roundw
              case rel => exact ⟨j + 1, M3, A5, c5, by omega, by go_num, rfl, HD3, HO3.out, HB6.out⟩
              case measure => simp [intOf]; omega
          · have hjq : j = a / 2 + 1 := by omega
            have h2b : decide (2 * (j : Int) ≤ (a : Int)) = false := by simp; omega
            have h2c : ¬ 2 * (j : Int) ≤ (a : Int) := by omega
            have HF := Lib.hid (HM.out.trans (hjq ▸ ademP_all a b))
            have HB6 := Lib.hid (HBX.out.trans (HB2.out.mono hszx))
            have hj100 : j ≤ 100 := by omega
            clear hjq h2 hj
            go_wp2_with fail
            go_roundw
            case rel => exact ⟨1, M, A2, c2, by omega, rfl, rfl, Lib.hid (fun h => by omega), Lib.hid (fun _ => HF.out), HO.out, HB6.out⟩
            case measure => simp [intOf]
    · have HD1 := Lib.hid (HD.out rfl)
      clear hown hbel
      go_wp2_with fail
      go_ret
      exact ⟨_, M, rfl, HD1.out, HO.out, HBL.out⟩
end Go.Proofs.Ytocllmhkppkfoaa
