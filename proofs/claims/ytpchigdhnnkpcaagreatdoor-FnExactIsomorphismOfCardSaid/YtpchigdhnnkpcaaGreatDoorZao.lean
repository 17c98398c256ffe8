/- the reference's l03Left and l03Form at two squares: Adem's relation · the reference's vectors: l11Word, l11Words · the reference's l03Form at two squares, l11Fault, l11Is -/
import Derived.Test.YtpchigdhnnkpcaaGreatDoorZan
import Derived.Test.YtpchigdhnnkpcaaGreatDoorZaf
import Derived.Deep.DeepCutAuto
import Derived.Test.YtpchigdhnnkpcaaGreatDoorZak
namespace Go.Proofs.YtpchigdhnnkpcaaGreatDoor
open Go.RowKit

def ademP (a b j : Nat) : List (List Int) := (((List.range j).filter (relB a b)).reverse).map (ademW a b)
theorem ademP_yes {a b j : Nat} (h : relB a b j = true) : ademP a b (j + 1) = ademW a b j :: ademP a b j := by
  unfold ademP; rw [List.range_succ, List.filter_append]; simp [h]
theorem ademP_no {a b j : Nat} (h : relB a b j = false) : ademP a b (j + 1) = ademP a b j := by
  unfold ademP; rw [List.range_succ, List.filter_append]; simp [h]
theorem ademP_len (a b j : Nat) : (ademP a b j).length ≤ j := by
  unfold ademP
  rw [List.length_map, List.length_reverse]
  exact Nat.le_trans (List.length_filter_le _ _) (by simp)
theorem ademP_all (a b : Nat) : ademP a b (a / 2 + 1) = ademF a b := rfl
theorem lexLt_head {a b : Int} {x y : List Int} (h : a < b) : lexLt (a :: x) (b :: y) = true := by
  simp only [lexLt]; rw [if_neg (by omega)]; simpa using h
theorem ademW_lt {a b i j : Nat} (hij : i < j) (hj : 2 * j ≤ a) : lexLt (ademW a b j) (ademW a b i) = true := by
  unfold ademW
  rw [if_neg (show j ≠ 0 by omega)]
  split
  · exact lexLt_head (by omega)
  · exact lexLt_head (by omega)
theorem lexLt_asymm {x y : List Int} (h : lexLt x y = true) : lexLt y x = false := by
  cases h2 : lexLt y x with
  | false => rfl
  | true => have := lexLt_trans h h2; rw [lexLt_irrefl] at this; cases this
theorem sumR_front (x : List Int) : ∀ (Q : List (List Int)), (∀ y ∈ Q, lexLt x y = true) → sumR Q [x] = x :: Q
  | [], _ => by rw [sumR]
  | y :: Q, h => by
    rw [sumR, if_neg (by rw [lexLt_asymm (h y (List.mem_cons_self ..))]; simp), if_pos (h y (List.mem_cons_self ..)), sumR_nil]
theorem ademP_sum {a b j : Nat} (hj : 2 * j ≤ a) : sumR (ademP a b j) [ademW a b j] = ademW a b j :: ademP a b j := by
  apply sumR_front
  intro y hy
  unfold ademP at hy
  rw [List.mem_map] at hy
  obtain ⟨i, hi, rfl⟩ := hy
  rw [List.mem_reverse, List.mem_filter, List.mem_range] at hi
  exact ademW_lt hi.1 hj
theorem front_adem (a b j : Nat) (hj : 2 * j ≤ a) (ha : 1 ≤ a) : frontL ((a + b - j : Nat) : Int) (frontL (j : Int) []) = ademW a b j := by
  unfold frontL ademW
  rw [if_neg (show ((a + b - j : Nat) : Int) ≠ 0 by omega)]
  by_cases h : j = 0
  · subst h; rfl
  · rw [if_neg (by omega), if_neg h]
theorem row_getD_len {M : List Row} {Q : List (List Int)} (h : dat M = Q) {k : Nat} (hq : ∀ x ∈ Q, x.length ≤ k) : ∀ i, i < M.length → (rg M i).xs.length ≤ k := fun i hi =>
  hq _ (by rw [← h]; exact List.mem_map_of_mem (rg_mem hi))
theorem ademW_len (a b j : Nat) : (ademW a b j).length ≤ 2 := by unfold ademW; split <;> simp
theorem ademP_row (a b j : Nat) : ∀ x ∈ ademP a b j, x.length ≤ 2 := by
  intro x hx
  unfold ademP at hx
  rw [List.mem_map] at hx
  obtain ⟨i, _, rfl⟩ := hx
  exact ademW_len a b i

theorem frontL_ok {a b j : Nat} (h2 : 2 * j ≤ a) (hab : a < 2 * b) (hb1 : a + b ≤ 100) : (frontL (j : Int) []).length ≤ 1000 ∧ (0 ≤ (frontL (j : Int) []).getD 0 0 ∧ (frontL (j : Int) []).getD 0 0 ≤ 1000) ∧ (((a + b - j : Nat) : Int) = 0 ∨ frontL (j : Int) [] = [] ∨ 2 * (frontL (j : Int) []).getD 0 0 ≤ ((a + b - j : Nat) : Int)) ∧ True := by
  unfold frontL
  by_cases h : j = 0
  · subst h; simp
  · rw [if_neg (by omega)]
    refine ⟨by simp, ?_, .inr (.inr ?_), trivial⟩
    · simp only [List.getD_cons_zero]; omega
    · simp only [List.getD_cons_zero]; omega
theorem row_read (w : World) (X : Option Addr) (c : Nat) : RdR (w.alloc (.cells #[.slice X 0 c] 22)).drew (some ⟨w.heap.size, 0, none⟩) [⟨X, c, []⟩] := by
  refine ⟨owns_Rd (row_cell w _ (Nat.le_refl _)), fun i hi => ?_, fun i hi => ?_⟩
  · obtain rfl : i = 0 := by simp at hi; omega
    exact .inl rfl
  · obtain rfl : i = 0 := by simp at hi; omega
    exact Nat.zero_le _
set_option maxRecDepth 100000 in
set_option maxHeartbeats 2000000 in
theorem left_adem (a b : Nat) (A X : Option Addr) (c cX : Nat) (w : World) (ha : 1 ≤ a) (hab : a < 2 * b) (hb1 : a + b ≤ 100) (hcX : 1 ≤ cX) (hR : RdR w A [⟨X, cX, [(b : Int)]⟩]) :
    Calls Tryz.prog 152 #[.int .i64 a, .slice A 1 c] w (ResRows (ademF a b) w) := by
  obtain ⟨bA, oA, rfl, hcell0⟩ := hR.at_ (k := 0) (by simp)
  have hin0 := hR.inn 0 (by simp)
  rw [Nat.add_zero, rg_cons_zero] at hcell0
  rw [rg_cons_zero] at hin0
  simp only [List.length_singleton] at hcell0 hin0
  obtain ⟨b1, o1, rfl, hx0⟩ := hin0.atI (k := 0) (by simp)
  rw [Nat.add_zero, List.getD_cons_zero] at hx0
  have hkeep : ∀ w', Below w.heap.size w w' → w'.cell? ⟨bA, oA, none⟩ = some (.slice (some ⟨b1, o1, none⟩) 1 cX) ∧ w'.cell? ⟨b1, o1, none⟩ = some (.int .i64 b) := fun w' h => ⟨cell_keep hcell0 h, cell_keep hx0 h⟩
  have HKP := Lib.hid hkeep
  have ha0 : ((a : Int) == 0) = false := by simp; omega
  have hge : ¬ 2 * (b : Int) ≤ (a : Int) := by omega
  have hgeb : decide (2 * (b : Int) ≤ (a : Int)) = false := by simp; omega
  clear hcell0 hin0 hx0 hR hkeep
  go_enter Tryz.func152, Tryz.ntmps152
  go_wp2_with fail
  go_loopw [5, 6] (fun v s6 wr => ∃ k : Nat, ∃ M : List Row, ∃ A1 c1, k ≤ 1 ∧ s6 = .int .i64 k ∧ v = .slice A1 M.length c1 ∧ Hid (k = 0 → M = []) ∧ Hid (k = 1 → dat M = ademF a b) ∧ OwnR wr w.heap.size (.slice A1 M.length c1) M ∧ Below w.heap.size w wr) (fun _ i _ => 1 - (intOf i).toNat)
  case atStart => exact ⟨0, [], some ⟨w.heap.size, 0, none⟩, 0, by omega, rfl, rfl, Lib.hid (fun _ => rfl), Lib.hid (fun h => by omega), OwnR.made w (Nat.le_refl _), (Below.refl _ _).alloc (Nat.le_refl _) _⟩
  case round =>
    obtain ⟨k, M, A1, c1, hk, rfl, rfl, HZ, HD, hown, hbel⟩ := hrel
    have HBL := Lib.hid hbel
    have HO := Lib.hid hown
    have hsz := hbel.size
    rcases (show k = 0 ∨ k = 1 by omega) with rfl | rfl
    · obtain rfl := HZ.out rfl
      obtain ⟨hcell, hx⟩ := HKP.out wr hbel
      clear hown hbel
      go_wp2_with fail
      go_cut [8, 9] (fun s8 s9 wx => ∃ WX g X' c', WX = wx ∧ s8 = .int .i64 b ∧ s9 = .slice (some ⟨g, 0, none⟩) 1 1 ∧ RdR wx (some ⟨g, 0, none⟩) [⟨X', c', []⟩] ∧ Below wr.heap.size wr wx)
      case first =>
        have HBa := Lib.hid (Below.drew (Below.refl wr.heap.size wr))
        by_cases hc1 : cX = 1
        · subst hc1
          go_region_held3 (fun w' => w'.cell? ⟨b1, o1, none⟩ = some (.int .i64 b)) (first | exact hx | exact cell_keep hx HBa.out | exact cell_keep hx (HBa.out.alloc (Nat.le_refl _) _)) (fail)
          go_wp2_with fail
          go_meet
          exact ⟨_, _, _, _, rfl, rfl, rfl, row_read wr _ _, ((Below.refl _ _).alloc (Nat.le_refl _) _).drew⟩
        · have h1 : 1 < cX := by omega
          go_region_held3 (fun w' => w'.cell? ⟨b1, o1, none⟩ = some (.int .i64 b)) (first | exact hx | exact cell_keep hx HBa.out | exact cell_keep hx (HBa.out.alloc (Nat.le_refl _) _)) (fail)
          go_wp2_with fail
          go_meet
          exact ⟨_, _, _, _, rfl, rfl, rfl, row_read wr _ _, ((Below.refl _ _).alloc (Nat.le_refl _) _).drew⟩
      case rest =>
        obtain ⟨WX, g, X', c', rfl, rfl, rfl, hrr, hbx⟩ := hcut
        have HR1 := Lib.hid hrr
        have HBX := Lib.hid (HBL.out.trans (hbx.mono hsz))
        have hszx := HBX.out.size
        have HOX := Lib.hid (HO.out.later hbx)
        clear hrr hbx hcell hx HO
        go_wp2_with fail
        go_loopw [5, 10] (fun v s10 wr => ∃ j : Nat, ∃ M : List Row, ∃ A2 c2, j ≤ a / 2 + 1 ∧ s10 = .int .i64 j ∧ v = .slice A2 M.length c2 ∧ Hid (dat M = ademP a b j) ∧ OwnR wr w.heap.size (.slice A2 M.length c2) M ∧ Below WX.heap.size WX wr) (fun _ i _ => a / 2 + 1 - (intOf i).toNat)
        case atStart => exact ⟨0, [], A1, c1, by omega, rfl, rfl, Lib.hid rfl, HOX.out, Below.refl _ _⟩
        case round =>
          obtain ⟨j, M, A2, c2, hj, rfl, rfl, HM, hown, hbel⟩ := hrel
          have HO := Lib.hid hown
          have HB2 := Lib.hid hbel
          have hsz2 := hbel.size
          have hMl : M.length ≤ j := by have := ademP_len a b j; rw [← HM.out, dat_length] at this; exact this
          clear hown hbel
          by_cases h2 : 2 * j ≤ a
          · have h2' : 2 * (j : Int) ≤ (a : Int) := by omega
            have HP := Lib.hid (fun W => l01Parity_any (b - j - 1) (a - 2 * j) W (by omega) (by omega))
            have e1 : ((b - j - 1 : Nat) : Int) = (b : Int) - j - 1 := by omega
            have e2 : ((a - 2 * j : Nat) : Int) = (a : Int) - 2 * j := by omega
            rw [e1, e2] at HP
            clear e1 e2
            cases hrel : relB a b j
            · have HPV : Hid (parV (b - j - 1) (a - 2 * j) = 0) := Lib.hid (by unfold relB at hrel; unfold parV; rw [beq_eq_false_iff_ne] at hrel; rw [if_neg hrel])
              rw [HPV.out] at HP
              have HM2 := Lib.hid (HM.out.trans (ademP_no hrel).symm)
              clear hrel
              go_wp2_with (go_at_call 164; (with_reducible refine (HP.out _).mono ?_); (rintro e w' ⟨rfl, rfl⟩))
              go_roundw
              case rel => exact ⟨j + 1, M, A2, c2, by omega, by go_num, rfl, HM2, HO.out, HB2.out⟩
              case measure => simp [intOf]; omega
            · have HPV : Hid (parV (b - j - 1) (a - 2 * j) = 1) := Lib.hid (by unfold relB at hrel; unfold parV; rw [beq_iff_eq] at hrel; rw [if_pos hrel])
              rw [HPV.out] at HP
              have HM2 := Lib.hid (ademP_yes hrel)
              have HSM := Lib.hid (ademP_sum (a := a) (b := b) h2)
              clear hrel
              have HL1 := Lib.hid (left_put (j : Int) (some ⟨g, 0, none⟩) X' 1 c' [] wr (by omega) (by omega) (by simp) (by simp) (.inr (.inl rfl)) (HR1.out.below HB2.out))
              go_wp2_with (go_at_call 164; (with_reducible refine (HP.out _).mono ?_); (rintro e w' ⟨rfl, rfl⟩))
              refine HL1.out.mono ?_
              rintro e w1 ⟨v1, M1, rfl, hd1, ho1, hb1'⟩
              obtain ⟨⟨rA, rc, rx⟩, rfl, hr1⟩ := rows_one hd1
              simp only at hr1
              obtain ⟨A3, c3, rfl, _, himp, heq⟩ := owns_shape ho1.out
              clear himp heq
              have hrd1 := ho1.rd (n := 1) rfl
              subst hr1
              obtain ⟨f1, f2, f3, f4⟩ := frontL_ok (a := a) (b := b) h2 hab hb1
              have HL2 := Lib.hid (left_put ((a + b - j : Nat) : Int) A3 rA c3 rc (frontL (j : Int) []) w1 (by omega) (by omega) f1 f2 f3 hrd1)
              have HB3 := Lib.hid hb1'
              have e3 : ((a + b - j : Nat) : Int) = (a : Int) + b - j := by omega
              have HFA := Lib.hid (front_adem a b j h2 ha)
              rw [e3] at HL2 HFA
              clear hd1 ho1 hb1' hrd1 f1 f2 f3 f4 e3
              go_wp2_with fail
              refine HL2.out.mono ?_
              rintro e w2 ⟨v2, M2, rfl, hd2, ho2, hb2⟩
              rw [HFA.out] at hd2
              obtain ⟨r2, rfl, hr2⟩ := rows_one hd2
              obtain ⟨A4, c4, rfl, _, himp, heq⟩ := owns_shape ho2.out
              clear himp heq
              have hB23 : Below wr.heap.size wr w2 := HB3.out.trans (hb2.mono HB3.out.size)
              have HSU := Lib.hid (l01Sum_any A2 A4 M.length 1 c2 c4 M [r2] w2 rfl rfl (by omega) (by omega) (row_getD_len HM.out (fun x hx => Nat.le_trans (ademP_row a b j x hx) (by omega))) (row_getD_len hd2 (fun x hx => by rw [List.mem_singleton] at hx; subst hx; exact Nat.le_trans (ademW_len a b j) (by omega))) ((HO.out.later hB23).rd rfl) (ho2.rd rfl))
              rw [HM.out, hd2, HSM.out] at HSU
              have HB4 := Lib.hid hB23
              clear hd2 ho2 hb2 hB23 hr2
              go_wp2_with fail
              refine HSU.out.mono ?_
              rintro e w3 ⟨v3, M3, rfl, hd3, ho3, hb3⟩
              obtain ⟨A5, c5, rfl, _, himp, heq⟩ := owns_shape ho3.out
              clear himp heq
              have HD3 := Lib.hid (hd3.trans HM2.out.symm)
              have hB5 : Below wr.heap.size wr w3 := HB4.out.trans (hb3.mono HB4.out.size)
              have HB6 := Lib.hid (HB2.out.trans (hB5.mono hsz2))
              have HO3 := Lib.hid (ho3.mono (Nat.le_trans hszx (Nat.le_trans hsz2 HB4.out.size)))
              clear hd3 ho3 hb3 hB5
              go_wp2_with fail
              go_roundw
              case rel => exact ⟨j + 1, M3, A5, c5, by omega, by go_num, rfl, HD3, HO3.out, HB6.out⟩
              case measure => simp [intOf]; omega
          · have hjq : j = a / 2 + 1 := by omega
            have h2b : decide (2 * (j : Int) ≤ (a : Int)) = false := by simp; omega
            have h2c : ¬ 2 * (j : Int) ≤ (a : Int) := by omega
            have HF := Lib.hid (HM.out.trans (hjq ▸ ademP_all a b))
            have HB6 := Lib.hid (HBX.out.trans (HB2.out.mono hszx))
            have hj100 : j ≤ 100 := by omega
            clear hjq h2 hj
            go_wp2_with fail
            go_roundw
            case rel => exact ⟨1, M, A2, c2, by omega, rfl, rfl, Lib.hid (fun h => by omega), Lib.hid (fun _ => HF.out), HO.out, HB6.out⟩
            case measure => simp [intOf]
    · have HD1 := Lib.hid (HD.out rfl)
      clear hown hbel
      go_wp2_with fail
      go_ret
      exact ⟨_, M, rfl, HD1.out, HO.out, HBL.out⟩
end Go.Proofs.YtpchigdhnnkpcaaGreatDoor

namespace Go.Proofs.YtpchigdhnnkpcaaGreatDoor
open Go.RowKit

theorem wordM_drop (Q : List (List Int)) (ws : List Int) (v : Nat) {k : Nat} (hk : k < ws.length) : wordM Q (ws.drop k) v = act Q (ws.getD k 0) (wordM Q (ws.drop (k + 1)) v) := by
  rw [List.drop_eq_getElem_cons hk]
  simp only [wordM, List.foldr_cons, List.getD, List.getElem?_eq_getElem hk, Option.getD_some]

set_option maxRecDepth 100000 in
set_option maxHeartbeats 2000000 in
theorem l11Word_any (A A' V W : Option Addr) (n c m c' cv nw cw : Nat) (xs ws : List Int) (L : List Row) (v : Nat) (w : World) (hn : n = xs.length) (hm : m = L.length) (hs : Shp xs (dat L)) (hm1 : m ≤ 1048576) (hnw : nw = ws.length) (hw1 : nw ≤ 1048576) (hR : RdR w A' L) (hV : Rd w V (iv (bitsL v n))) (hW : Rd w W (iv ws)) :
    Calls Tryz.prog 134 #[.agg #[.slice A n c, .slice A' m c'], .slice W nw cw, .slice V n cv] w fun e w' => ∃ G cap, e = .returned (.slice G n cap) ∧ Rd w' G (iv (bitsL (wordM (dat L) ws v) n)) ∧ Below w.heap.size w w' := by
  have HACT := Lib.hid (fun (z : Int) (V : Option Addr) (cv v : Nat) W (hb : Below w.heap.size w W) hV => l11Act_any A A' V n c m c' cv xs L z v W hn hm hs hm1 (hR.below hb) hV)
  have HV := Lib.hid hV
  have HW := Lib.hid hW
  have Hnw := Lib.hid hnw
  clear hn hm hs hR hV hW hnw
  obtain ⟨x0, x1, xf0, xf1, lx⟩ := blk2cells (blk_new w (.cells #[.slice A n c, .slice A' m c'] 29))
  go_enter Tryz.func134, Tryz.ntmps134
  go_wp2_with fail
  clear x0 x1 xf0 xf1 lx
  go_loopw [2, 7] (fun vv i wr => ∃ k : Nat, ∃ V' cv', k ≤ nw ∧ i = .int .i64 ((k : Int) - 1) ∧ vv = .slice V' n cv' ∧ Rd wr V' (iv (bitsL (wordM (dat L) (ws.drop k) v) n)) ∧ wr.heap[w.heap.size]? = some (.cells #[.slice A n c, .slice A' m c'] 29 (0, 0)) ∧ Below w.heap.size w wr) (fun _ i _ => (intOf i + 1).toNat)
  case atStart =>
    refine ⟨nw, V, cv, by omega, rfl, rfl, ?_, blk_new w _, (Below.refl _ _).alloc (Nat.le_refl _) _⟩
    rw [List.drop_of_length_le (by rw [Hnw.out]; exact Nat.le_refl _)]
    exact HV.out.alloc _
  case round =>
    obtain ⟨k, V', cv', hk, rfl, rfl, hv, hblk, hbel⟩ := hrel
    have HB := Lib.hid hbel
    have HK := Lib.hid hblk
    have hsz := hbel.size
    cases k with
    | zero =>
      have HV' := Lib.hid hv
      rw [List.drop_zero] at HV'
      clear hbel hblk hv
      go_wp2_with fail
      go_ret
      exact ⟨V', cv', rfl, HV'.out, HB.out⟩
    | succ j =>
      have hj : j < ws.length := by rw [← Hnw.out]; omega
      have e1 : (((j + 1 : Nat) : Int) - 1) = (j : Int) := by omega
      rw [e1]
      obtain ⟨b1, o1, rfl, hc1⟩ := (HW.out.below hbel).atI (k := j) hj
      have HD := Lib.hid (wordM_drop (dat L) ws v hj)
      obtain ⟨x0, x1, xf0, xf1, lx⟩ := blk2cells hblk
      have HC := Lib.hid (HACT.out (ws.getD j 0) V' cv' _ wr.drew hbel.drew hv)
      have hj0 : j < nw := by omega
      generalize ws.getD j 0 = z at *
      clear hbel hblk hv e1
      go_wp2_with fail
      go_region_held3 (fun w' => w'.cell? ⟨w.heap.size, 0, none⟩ = some (.slice A n c) ∧ w'.cell? ⟨w.heap.size, 1, none⟩ = some (.slice A' m c') ∧ w'.cell? ⟨b1, o1 + j, none⟩ = some (.int .i64 z))
        (first | exact ⟨x0, x1, hc1⟩ | exact ⟨cell_keep (w := wr.drew) x0 HB1.out, cell_keep (w := wr.drew) x1 HB1.out, cell_keep (w := wr.drew) hc1 HB1.out⟩)
        ((go_at_call 109; (with_reducible refine (HC.out).mono ?_); (rintro e w1 ⟨g, cap, rfl, ho, hb⟩; have HO := Lib.hid (owns_Rd ho); have HB1 := Lib.hid hb; clear ho hb)))
      have HB2 := Lib.hid (HB.out.drew.trans (HB1.out.mono hsz))
      have HK2 := Lib.hid (blk_kept (w := wr.drew) HK.out HB1.out)
      clear x0 x1 xf0 xf1 lx hc1
      go_wp2_with fail
      go_roundw
      case rel => exact ⟨j, some ⟨g, 0, none⟩, cap, by omega, rfl, rfl, by rw [HD.out]; exact HO.out, HK2.out, HB2.out⟩
      case measure => simp [intOf]

set_option maxRecDepth 100000 in
set_option maxHeartbeats 2000000 in
theorem l11Words_any (A A' V W : Option Addr) (n c m c' cv nw cw : Nat) (xs : List Int) (L M : List Row) (v : Nat) (w : World) (hn : n = xs.length) (hm : m = L.length) (hs : Shp xs (dat L)) (hm1 : m ≤ 1048576) (hnw : nw = M.length) (hw1 : nw ≤ 1048576) (hwl : ∀ i, i < M.length → (rg M i).xs.length ≤ 1048576) (hR : RdR w A' L) (hV : Rd w V (iv (bitsL v n))) (hW : RdR w W M) :
    Calls Tryz.prog 135 #[.agg #[.slice A n c, .slice A' m c'], .slice W nw cw, .slice V n cv] w fun e w' => ∃ g cap, e = .returned (.slice (some ⟨g, 0, none⟩) n cap) ∧ w'.ownsRow w.heap.size 2 1 (.slice (some ⟨g, 0, none⟩) n cap) n (iv (bitsL (xsumf (fun u => wordM (dat L) u v) (dat M)) n)) ∧ Below w.heap.size w w' := by
  have hn16 : n ≤ 16 := by rw [hn]; exact hs.len
  have HWD := Lib.hid (fun (X : Option Addr) (k cx : Nat) (ws : List Int) W' (hb : Below w.heap.size w W') hk hk1 hX => l11Word_any A A' V X n c m c' cv k cx xs ws L v W' hn hm hs hm1 hk hk1 (hR.below hb) (hV.below hb) hX)
  have HPL := Lib.hid (fun (X Y : Option Addr) (cx cy a b : Nat) W' hX hY => l11Plus_any X Y n cx cy a b W' (by omega) hX hY)
  have hmk := run_make_row' (P := Tryz.prog) 22 2 (.int .i64 0) 8 Tryz.underlying22 infoI rfl .i64 .i64 n (by omega) (by omega)
  have HW := Lib.hid hW
  have Hnw := Lib.hid hnw
  have HL := Lib.hid hwl
  clear hn hm hs hR hV hW hnw hwl
  obtain ⟨x0, x1, xf0, xf1, lx⟩ := blk2cells (blk_new w (.cells #[.slice A n c, .slice A' m c'] 29))
  go_enter Tryz.func135, Tryz.ntmps135
  go_wp2_with fail
  clear x0 x1 xf0 xf1 lx hmk
  go_loopw [7, 8] (fun vv i wr => ∃ k g cap : Nat, k ≤ nw ∧ i = .int .i64 k ∧ vv = .slice (some ⟨g, 0, none⟩) n cap ∧ wr.ownsRow w.heap.size 2 1 (.slice (some ⟨g, 0, none⟩) n cap) n (iv (bitsL (xsumf (fun u => wordM (dat L) u v) ((dat M).take k)) n)) ∧ wr.heap[w.heap.size]? = some (.cells #[.slice A n c, .slice A' m c'] 29 (0, 0)) ∧ Below w.heap.size w wr) (fun _ i _ => nw - (intOf i).toNat)
  case atStart =>
    refine ⟨0, w.heap.size + 1, n, by omega, rfl, rfl, ?_, blk_alloc (blk_new w _) _, ((Below.refl _ _).alloc (Nat.le_refl _) _).alloc (by simp) _⟩
    have := made_own (w.alloc (.cells #[.slice A n c, .slice A' m c'] 29)) w.heap.size n (by simp) (by omega)
    rw [← bitsL_zero] at this
    rw [show xsumf (fun u => wordM (dat L) u v) ((dat M).take 0) = 0 from rfl]
    simpa using this
  case round =>
    obtain ⟨k, g, cap, hk, rfl, rfl, hown, hblk, hbel⟩ := hrel
    have HO := Lib.hid hown
    have HB := Lib.hid hbel
    have HK := Lib.hid hblk
    have hsz := hbel.size
    by_cases hlt : k < nw
    · have hkM : k < M.length := by rw [← Hnw.out]; exact hlt
      have hR1 := HW.out.below hbel
      obtain ⟨b1, o1, rfl, hc1⟩ := hR1.at_ hkM
      have hin := hR1.inn k hkM
      have hle := HL.out k hkM
      have hst : (dat M).take (k + 1) = (dat M).take k ++ [(rg M k).xs] := by
        rw [← dat_getD, List.take_succ_eq_append_getElem (by rw [dat_length]; exact hkM)]; simp [List.getD, hkM, dat]
      have HSX : Hid (xsumf (fun u => wordM (dat L) u v) ((dat M).take (k + 1)) = xr (xsumf (fun u => wordM (dat L) u v) ((dat M).take k)) (wordM (dat L) (rg M k).xs v)) := Lib.hid (by
        rw [hst, xsumf_append, xsumf_cons]; congr 1; exact xr_zero _)
      clear hR1 hst
      generalize rg M k = r at *
      obtain ⟨rA, rc, rx⟩ := r
      simp only at hc1 hin hle HSX
      have HC := Lib.hid (HWD.out rA rx.length rc rx wr.drew hbel.drew rfl hle hin)
      obtain ⟨x0, x1, xf0, xf1, lx⟩ := blk2cells hblk
      clear hown hbel hblk hin
      go_wp2_with fail
      go_region_held3 (fun w' => w'.cell? ⟨w.heap.size, 0, none⟩ = some (.slice A n c) ∧ w'.cell? ⟨w.heap.size, 1, none⟩ = some (.slice A' m c') ∧ w'.cell? ⟨b1, o1 + k, none⟩ = some (.slice rA rx.length rc))
        (first | exact ⟨x0, x1, hc1⟩ | exact ⟨cell_keep (w := wr.drew) x0 HB1.out, cell_keep (w := wr.drew) x1 HB1.out, cell_keep (w := wr.drew) hc1 HB1.out⟩ | exact ⟨cell_keep (w := wr.drew) x0 HB3.out, cell_keep (w := wr.drew) x1 HB3.out, cell_keep (w := wr.drew) hc1 HB3.out⟩)
        (first
          | (go_at_call 134; (with_reducible refine (HC.out).mono ?_); (rintro e w1 ⟨G, cap1, rfl, ho, hb⟩; have HR1 := Lib.hid ho; have HB1 := Lib.hid hb; have HO1 := Lib.hid (owns_keeps HO.out.drew (Keeps.of_below hb) (.inr (by simp))); clear ho hb))
          | (go_at_call 153; (with_reducible refine (HPL.out _ _ _ _ _ _ _ (owns_Rd HO1.out) HR1.out).mono ?_); (rintro e w2 ⟨g2, cap2, rfl, ho, hb⟩; have HO2 := Lib.hid (ho.mono (Nat.le_trans hsz HB1.out.size)); have HB3 := Lib.hid (HB1.out.trans (hb.mono HB1.out.size)); clear ho hb)))
      have HB4 := Lib.hid (HB.out.drew.trans (HB3.out.mono hsz))
      have HK2 := Lib.hid (blk_kept (w := wr.drew) HK.out HB3.out)
      clear x0 x1 xf0 xf1 lx hc1
      go_wp2_with fail
      go_roundw
      case rel => exact ⟨k + 1, g2, cap2, by omega, by go_num, rfl, by rw [HSX.out]; exact HO2.out, HK2.out, HB4.out⟩
      case measure => simp [intOf]; omega
    · obtain rfl : k = nw := by omega
      have he : (dat M).take k = dat M := List.take_of_length_le (by rw [dat_length, ← Hnw.out]; exact Nat.le_refl _)
      rw [he] at HO
      clear hown hbel hblk he
      go_wp2_with fail
      go_ret
      exact ⟨g, cap, rfl, HO.out, HB.out⟩
end Go.Proofs.YtpchigdhnnkpcaaGreatDoor

namespace Go.Proofs.YtpchigdhnnkpcaaGreatDoor
open Go.RowKit

def formK (a b k : Nat) : List (List Int) := if k = 2 then [[]] else if k = 1 then [[(b : Int)]] else ademF a b
theorem row0_own (w : World) : OwnR ((w.alloc (.cells #[] 2)).alloc (.cells #[.slice (some ⟨w.heap.size, 0, none⟩) 0 0] 22)) w.heap.size (.slice (some ⟨w.heap.size + 1, 0, none⟩) 1 1) [⟨some ⟨w.heap.size, 0, none⟩, 0, []⟩] := by
  refine OwnR.one ?_ ?_
  · have := row_cell (w.alloc (.cells #[] 2)) (.slice (some ⟨w.heap.size, 0, none⟩) 0 0) (B := w.heap.size) (by simp)
    rw [show (w.alloc (.cells #[] 2)).heap.size = w.heap.size + 1 by simp] at this
    exact this
  · exact (World.ownsRow_made w #[] 0 (Nat.le_refl _) (by decide) (by simp)).alloc _

set_option maxRecDepth 100000 in
set_option maxHeartbeats 2000000 in
theorem form_any (a b : Nat) (A : Option Addr) (c : Nat) (w : World) (ha : 1 ≤ a) (hab : a < 2 * b) (hb1 : a + b ≤ 100) (hR : Rd w A (iv [(a : Int), (b : Int)])) :
    Calls Tryz.prog 131 #[.slice A 2 c] w (ResRows (ademF a b) w) := by
  obtain ⟨bA, oA, rfl, hx0⟩ := hR.atI (k := 0) (by simp)
  have hx1 := hR.cellI (k := 1) (by simp)
  rw [Nat.add_zero] at hx0
  simp only [List.getD_cons_zero, List.getD_cons_succ] at hx0 hx1
  have HKP := Lib.hid (fun w' (h : Below w.heap.size w w') => show w'.cell? ⟨bA, oA, none⟩ = some (.int .i64 a) ∧ w'.cell? ⟨bA, oA + 1, none⟩ = some (.int .i64 b) from ⟨cell_keep hx0 h, cell_keep hx1 h⟩)
  have HR0 := Lib.hid (row0_own w)
  clear hR hx0 hx1
  go_enter Tryz.func131, Tryz.ntmps131
  go_wp2_with fail
  go_loopw [3, 4] (fun v s4 wr => ∃ k : Nat, ∃ A1 c1, ∃ r : Row, ∃ M : List Row, k ≤ 2 ∧ s4 = .int .i64 ((k : Int) - 1) ∧ v = .slice A1 M.length c1 ∧ Hid (k ≠ 0 → M = [r] ∧ r.xs.length ≤ r.c) ∧ Hid (dat M = formK a b k) ∧ OwnR wr w.heap.size (.slice A1 M.length c1) M ∧ Below w.heap.size w wr) (fun _ i _ => (intOf i + 1).toNat)
  case atStart => exact ⟨2, some ⟨w.heap.size + 1, 0, none⟩, 1, _, [⟨some ⟨w.heap.size, 0, none⟩, 0, []⟩], by omega, rfl, rfl, Lib.hid (fun _ => ⟨rfl, by simp⟩), Lib.hid rfl, HR0.out, ((Below.refl _ _).alloc (Nat.le_refl _) _).alloc (by simp) _⟩
  case round =>
    obtain ⟨k, A1, c1, r, M, hk, rfl, rfl, HZ, HD, hown, hbel⟩ := hrel
    have HBL := Lib.hid hbel
    have hsz := hbel.size
    obtain ⟨y0, y1⟩ := HKP.out wr hbel
    rcases (show k = 0 ∨ k = 1 ∨ k = 2 by omega) with rfl | rfl | rfl
    · have HO := Lib.hid hown
      have HD1 : Hid (dat M = ademF a b) := Lib.hid HD.out
      clear hown hbel
      go_wp2_with fail
      go_ret
      exact ⟨_, M, rfl, HD1.out, HO.out, HBL.out⟩
    · obtain ⟨rfl, hcap⟩ := HZ.out (by omega)
      obtain ⟨rA, rc, rx⟩ := r
      have hrx : rx = [(b : Int)] := by have := HD.out; simpa [dat, formK] using this
      subst hrx
      have HC := Lib.hid (left_adem a b A1 rA c1 rc wr ha hab hb1 hcap (hown.rd rfl))
      clear hown hbel hcap
      go_wp2_with fail
      refine HC.out.mono ?_
      rintro e w1 ⟨v1, M1, rfl, hd1, ho1, hb1'⟩
      obtain ⟨A3, c3, rfl, _, himp, heq⟩ := owns_shape ho1.out
      clear himp heq
      have HD3 : Hid (dat M1 = formK a b 0) := Lib.hid hd1
      have HO3 := Lib.hid (ho1.mono hsz)
      have HB3 := Lib.hid (HBL.out.trans (hb1'.mono hsz))
      clear hd1 ho1 hb1'
      go_wp2_with fail
      go_roundw
      case rel => exact ⟨0, A3, c3, ⟨none, 0, []⟩, M1, by omega, rfl, rfl, Lib.hid (fun h => absurd rfl h), HD3, HO3.out, HB3.out⟩
      case measure => simp [intOf]
    · obtain ⟨rfl, hcap⟩ := HZ.out (by omega)
      obtain ⟨rA, rc, rx⟩ := r
      have hrx : rx = [] := by have := HD.out; simpa [dat, formK] using this
      subst hrx
      have HC := Lib.hid (left_put (b : Int) A1 rA c1 rc [] wr (by omega) (by omega) (by simp) (by simp) (.inr (.inl rfl)) (hown.rd rfl))
      have HFB : Hid (frontL (b : Int) [] = [(b : Int)]) := Lib.hid (by unfold frontL; rw [if_neg (by omega)])
      rw [HFB.out] at HC
      clear hown hbel hcap
      go_wp2_with fail
      refine HC.out.mono ?_
      rintro e w1 ⟨v1, M1, rfl, hd1, ho1, hb1'⟩
      obtain ⟨r1, rfl, hr1⟩ := rows_one hd1
      obtain ⟨A3, c3, rfl, _, himp, heq⟩ := owns_shape ho1.out
      clear himp heq
      have HD3 : Hid (dat [r1] = formK a b 1) := Lib.hid hd1
      have HCAP := Lib.hid ((ho1.rd (n := 1) rfl).cap 0 (by simp))
      have HO3 := Lib.hid (ho1.mono hsz)
      have HB3 := Lib.hid (HBL.out.trans (hb1'.mono hsz))
      clear hd1 ho1 hb1' hr1
      go_wp2_with fail
      go_roundw
      case rel => exact ⟨1, A3, c3, r1, [r1], by omega, rfl, rfl, Lib.hid (fun _ => ⟨rfl, HCAP.out⟩), HD3, HO3.out, HB3.out⟩
      case measure => simp [intOf]
end Go.Proofs.YtpchigdhnnkpcaaGreatDoor
