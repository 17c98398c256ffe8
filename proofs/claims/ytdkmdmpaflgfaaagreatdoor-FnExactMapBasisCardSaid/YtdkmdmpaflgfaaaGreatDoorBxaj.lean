/- the reference's l12Act, l12Is · the reference's l03Left at one admissible word · the reference's l03Left and l03Form at two squares: Adem's relation · the reference's vectors: l11Word, l11Words · the reference's l03Form at two squares, l11Fault, l11Is · the reference's l11Fault, l11Is · the reference's l11Is -/
import Derived.Test.YtdkmdmpaflgfaaaGreatDoorBxah
import Derived.Test.YtdkmdmpaflgfaaaGreatDoorBxai
import Derived.Test.YtdkmdmpaflgfaaaGreatDoorBxae
import Derived.Deep.DeepCutAuto
import Derived.Test.YtdkmdmpaflgfaaaGreatDoorBxag
set_option linter.all false
namespace Go.Proofs.YtdkmdmpaflgfaaaGreatDoor
open Go.RowKit

theorem i64_andnot_nat {a b : Nat} (ha : Sm a) (hb : Sm b) : bits .andNot .i64 (a : Int) (b : Int) = ((nt a b : Nat) : Int) := by
  have hx : Sm (nt a b) := ha.xr ha.an
  have e : ∀ x y : BitVec 64, x &&& ~~~y = x ^^^ (x &&& y) := by
    intro x y; ext i; simp; cases x[i] <;> cases y[i] <;> rfl
  unfold Sm at *
  show IntKind.i64.wrap ((BitVec.ofInt 64 (a : Int) &&& ~~~BitVec.ofInt 64 (b : Int)).toNat : Int) = _
  rw [e, BitVec.toNat_xor, BitVec.toNat_and, ofInt64_nat a (by omega), ofInt64_nat b (by omega), IntKind.wrap_i64]
  unfold nt at *
  omega

/-- a module to be read -/
structure ModR (w : World) (A : Option Addr) (n : Nat) (A' : Option Addr) (m : Nat) (xs : List Int) (L : List Row) : Prop where
  hn : n = xs.length
  deg : Rd w A (iv xs)
  hm : m = L.length
  hm1 : m ≤ 1048576
  act : RdR w A' L
theorem ModR.below {w w' : World} {A A' : Option Addr} {n m : Nat} {xs : List Int} {L : List Row} (h : ModR w A n A' m xs L) (hb : Below w.heap.size w w') : ModR w' A n A' m xs L :=
  ⟨h.hn, h.deg.below hb, h.hm, h.hm1, h.act.below hb⟩

set_option maxRecDepth 100000 in
set_option maxHeartbeats 2000000 in
theorem l12Act_any (A A' : Option Addr) (n c m c' : Nat) (xs : List Int) (L : List Row) (z y : Int) (v : Nat) (w : World) (hM : ModR w A n A' m xs L) (hs : Shp xs (dat L)) (hy : y = (v : Int)) (hv : v < 2 ^ xs.length) :
    Calls Tryz.prog 109 #[.agg #[.slice A n c, .slice A' m c'], .int .i64 z, .int .i64 y] w fun e w' => e = .returned (.int .i64 (act (dat L) z v : Nat)) ∧ Below w.heap.size w w' := by
  subst hy
  have hn16 : n ≤ 16 := by rw [hM.hn]; exact hs.len
  have hb0 : Below w.heap.size w (w.alloc (.cells #[.slice A n c, .slice A' m c'] 30)) := (Below.refl _ _).alloc (Nat.le_refl _) _
  have hk0 := blk_new w (.cells #[.slice A n c, .slice A' m c'] 30)
  have HSM : Hid (Sm v) := Lib.hid (sm_pow (n := 16) (by omega) (Nat.lt_of_lt_of_le hv (Nat.pow_le_pow_right (by omega) hs.len)))
  have HLT : Hid (act (dat L) z v < 2 ^ n) := Lib.hid (by rw [hM.hn]; exact act_lt hs hv z)
  have HA := Lib.hid (fun (V : Option Addr) (cv : Nat) W (hb : Below w.heap.size w W) hV => l11Act_any A A' V n c m c' cv xs L z v W hM.hn hM.hm hs hM.hm1 (hM.act.below hb) hV)
  have HB0 := Lib.hid hb0
  have KS := Lib.hid (fun w' (hb : Below (w.alloc (.cells #[.slice A n c, .slice A' m c'] 30)).heap.size (w.alloc (.cells #[.slice A n c, .slice A' m c'] 30)) w') => show w'.cell? ⟨w.heap.size, 0, none⟩ = some (.slice A n c) ∧ w'.cell? ⟨w.heap.size, 1, none⟩ = some (.slice A' m c') from by
    obtain ⟨x0, x1, _⟩ := blk2cells (blk_kept hk0 hb)
    exact ⟨x0, x1⟩)
  have HB_0 := Lib.hid (Below.drew (Below.refl (w.alloc (.cells #[.slice A n c, .slice A' m c'] 30)).heap.size (w.alloc (.cells #[.slice A n c, .slice A' m c'] 30))))
  clear hM hs hv hb0 hk0
  go_enter Tryz.func109, Tryz.ntmps109
  go_wp2_with fail
  go_region_held3 (fun w' => w'.cell? ⟨w.heap.size, 0, none⟩ = some (.slice A n c) ∧ w'.cell? ⟨w.heap.size, 1, none⟩ = some (.slice A' m c'))
    (first | exact KS.out _ HB_0.out | exact KS.out _ HB_1.out | exact KS.out _ HB_2.out)
    (first
      | (go_at_call 110; (with_reducible refine (l12Vector_any n v _ (by omega) HSM.out).mono ?_); (rintro e w1 ⟨g1, c1, rfl, ho, hb⟩; have HO1 := Lib.hid ho; have HB_1 := Lib.hid (HB_0.out.trans (hb.mono HB_0.out.size)); clear ho hb))
      | (go_at_call 159; (with_reducible refine (HA.out _ _ _ (HB0.out.trans (HB_1.out.mono HB0.out.size)) (owns_Rd HO1.out)).mono ?_); (rintro e w2 ⟨g2, c2, rfl, ho, hb⟩; have HO2 := Lib.hid ho; have HB_2 := Lib.hid (HB_1.out.trans (hb.mono HB_1.out.size)); clear ho hb))
      | (go_at_call 119; (with_reducible refine (l12Mask_any _ n _ _ _ (by omega) HLT.out (owns_Rd HO2.out)).mono ?_); (rintro e w3 ⟨rfl, rfl⟩)))
  go_wp2_with fail
  go_ret
  exact ⟨rfl, HB0.out.trans (HB_2.out.mono HB0.out.size)⟩
end Go.Proofs.YtdkmdmpaflgfaaaGreatDoor

namespace Go.Proofs.YtdkmdmpaflgfaaaGreatDoor
open Go.RowKit

theorem frontL_len (i : Int) (ws : List Int) : (frontL i ws).length ≤ ws.length + 1 := by unfold frontL; split <;> simp
theorem rows_one {M : List Row} {x : List Int} (h : dat M = [x]) : ∃ r, M = [r] ∧ r.xs = x := by
  match M, h with
  | [r], h => exact ⟨r, rfl, by simpa [dat] using h⟩

set_option maxRecDepth 100000 in
set_option maxHeartbeats 1000000 in
theorem left_put (i : Int) (A X : Option Addr) (c cX : Nat) (ws : List Int) (w : World) (hi : 0 ≤ i) (hi2 : i ≤ 1000) (hl : ws.length ≤ 1000) (hw : 0 ≤ ws.getD 0 0 ∧ ws.getD 0 0 ≤ 1000) (hc : i = 0 ∨ ws = [] ∨ 2 * ws.getD 0 0 ≤ i) (hR : RdR w A [⟨X, cX, ws⟩]) :
    Calls Tryz.prog 211 #[.int .i64 i, .slice A 1 c] w (ResRows [frontL i ws] w) := by
  have HR := Lib.hid hR
  obtain ⟨hw1, hw2⟩ := hw
  have HC := Lib.hid hc
  clear hR hc
  go_enter Tryz.func211, Tryz.ntmps211
  go_wp2_with fail
  go_loopw [5, 6] (fun v s6 wr => ∃ k : Nat, ∃ M : List Row, ∃ A1 c1, k ≤ 1 ∧ s6 = .int .i64 k ∧ v = .slice A1 k c1 ∧ Hid (dat M = if k = 0 then [] else [frontL i ws]) ∧ Hid (k = 0 → A1 = some ⟨w.heap.size, 0, none⟩ ∧ c1 = 0) ∧ OwnR wr w.heap.size (.slice A1 k c1) M ∧ Below w.heap.size w wr) (fun _ i _ => 1 - (intOf i).toNat)
  case atStart => exact ⟨0, [], some ⟨w.heap.size, 0, none⟩, 0, by omega, rfl, rfl, Lib.hid rfl, Lib.hid (fun _ => ⟨rfl, rfl⟩), OwnR.made w (Nat.le_refl _), (Below.refl _ _).alloc (Nat.le_refl _) _⟩
  case round =>
    obtain ⟨k, M, A1, c1, hk, rfl, rfl, HD, HZ, hown, hbel⟩ := hrel
    have HBL := Lib.hid hbel
    have hsz := hbel.size
    rcases (show k = 0 ∨ k = 1 by omega) with rfl | rfl
    · obtain ⟨e1, e2⟩ := HZ.out rfl
      subst e1
      subst e2
      have hR1 := HR.out.below hbel
      obtain ⟨b, o, rfl, hcell⟩ := hR1.at_ (k := 0) (by simp)
      have hin := HR.out.inn 0 (by simp)
      rw [Nat.add_zero, rg_cons_zero] at hcell
      rw [rg_cons_zero] at hin
      simp only at hcell hin
      have HF := Lib.hid (fun W (hb : Below w.heap.size w W) => l03Front_any i X ws.length cX ws W rfl (by omega) (hin.below hb))
      clear hR1 hown
      by_cases h0 : i = 0
      · have h0b : (i == 0) = true := by simpa using h0
        clear hin hbel h0
        go_wp2_with fail
        refine (HF.out _ HBL.out).mono ?_
        rintro e w1 ⟨g, kk, cap, rfl, hkk, ho, hb⟩
        have HKK := Lib.hid hkk.out
        have hk6 : kk ≤ 1000000 := by have := frontL_len i ws; rw [hkk.out]; omega
        have HB1 := Lib.hid hb
        have HP := Lib.hid (l01PutNil_any w.heap.size (some ⟨g, 0, none⟩) kk cap (frontL i ws) w1 hkk.out hk6 (owns_Rd ho))
        clear ho hb hkk
        go_wp2_with fail
        refine HP.out.mono ?_
        rintro e w2 ⟨v, M2, rfl, hd2, ho2, hb2⟩
        obtain ⟨r2, rfl, hr2⟩ := rows_one hd2
        obtain ⟨A2, c2, rfl, _, himp, heq⟩ := owns_shape ho2.out
        clear himp heq
        have HD2 := Lib.hid hd2
        have HO2 := Lib.hid (ho2.mono (Nat.le_trans hsz HB1.out.size))
        have HB2 := Lib.hid ((HBL.out.trans (HB1.out.mono hsz)).trans (hb2.mono (Nat.le_trans hsz HB1.out.size)))
        clear ho2 hb2 hd2 hr2
        go_wp2_with fail
        go_roundw
        case rel => exact ⟨1, [r2], A2, c2, by omega, rfl, rfl, Lib.hid (by rw [HD2.out]; rfl), Lib.hid (fun h => by omega), HO2.out, HB2.out⟩
        case measure => simp [intOf]
      · have h0b : (i == 0) = false := by simpa using h0
        by_cases h1 : ws = []
        · have hlb : ((ws.length : Int) == 0) = true := by rw [h1]; rfl
          clear hin hbel h0 h1
          go_wp2_with fail
          refine (HF.out _ HBL.out).mono ?_
          rintro e w1 ⟨g, kk, cap, rfl, hkk, ho, hb⟩
          have HKK := Lib.hid hkk.out
          have hk6 : kk ≤ 1000000 := by have := frontL_len i ws; rw [hkk.out]; omega
          have HB1 := Lib.hid hb
          have HP := Lib.hid (l01PutNil_any w.heap.size (some ⟨g, 0, none⟩) kk cap (frontL i ws) w1 hkk.out hk6 (owns_Rd ho))
          clear ho hb hkk
          go_wp2_with fail
          refine HP.out.mono ?_
          rintro e w2 ⟨v, M2, rfl, hd2, ho2, hb2⟩
          obtain ⟨r2, rfl, hr2⟩ := rows_one hd2
          obtain ⟨A2, c2, rfl, _, himp, heq⟩ := owns_shape ho2.out
          clear himp heq
          have HD2 := Lib.hid hd2
          have HO2 := Lib.hid (ho2.mono (Nat.le_trans hsz HB1.out.size))
          have HB2 := Lib.hid ((HBL.out.trans (HB1.out.mono hsz)).trans (hb2.mono (Nat.le_trans hsz HB1.out.size)))
          clear ho2 hb2 hd2 hr2
          go_wp2_with fail
          go_roundw
          case rel => exact ⟨1, [r2], A2, c2, by omega, rfl, rfl, Lib.hid (by rw [HD2.out]; rfl), Lib.hid (fun h => by omega), HO2.out, HB2.out⟩
          case measure => simp [intOf]
        · have hlp : 0 < ws.length := by cases ws with | nil => exact absurd rfl h1 | cons a l => simp
          have hlb : ((ws.length : Int) == 0) = false := by simp; omega
          have hge : 2 * ws.getD 0 0 ≤ i := by rcases HC.out with h | h | h; exact absurd h h0; exact absurd h h1; exact h
          obtain ⟨b1, o1, rfl, hx⟩ := (hin.below hbel).atI hlp
          rw [Nat.add_zero] at hx
          clear hin hbel h0 h1
          generalize hx0 : ws.getD 0 0 = x at *
          have HX0 := Lib.hid hx0
          clear hx0
          go_wp2_with fail
          refine (HF.out _ HBL.out).mono ?_
          rintro e w1 ⟨g, kk, cap, rfl, hkk, ho, hb⟩
          have HKK := Lib.hid hkk.out
          have hk6 : kk ≤ 1000000 := by have := frontL_len i ws; rw [hkk.out]; omega
          have HB1 := Lib.hid hb
          have HP := Lib.hid (l01PutNil_any w.heap.size (some ⟨g, 0, none⟩) kk cap (frontL i ws) w1 hkk.out hk6 (owns_Rd ho))
          clear ho hb hkk
          go_wp2_with fail
          refine HP.out.mono ?_
          rintro e w2 ⟨v, M2, rfl, hd2, ho2, hb2⟩
          obtain ⟨r2, rfl, hr2⟩ := rows_one hd2
          obtain ⟨A2, c2, rfl, _, himp, heq⟩ := owns_shape ho2.out
          clear himp heq
          have HD2 := Lib.hid hd2
          have HO2 := Lib.hid (ho2.mono (Nat.le_trans hsz HB1.out.size))
          have HB2 := Lib.hid ((HBL.out.trans (HB1.out.mono hsz)).trans (hb2.mono (Nat.le_trans hsz HB1.out.size)))
          clear ho2 hb2 hd2 hr2
          go_wp2_with fail
          go_roundw
          case rel => exact ⟨1, [r2], A2, c2, by omega, rfl, rfl, Lib.hid (by rw [HD2.out]; rfl), Lib.hid (fun h => by omega), HO2.out, HB2.out⟩
          case measure => simp [intOf]
    · have HO := Lib.hid hown
      have HD1 : Hid (dat M = [frontL i ws]) := Lib.hid (by rw [HD.out]; rfl)
      clear hown hbel
      go_wp2_with fail
      go_ret
      exact ⟨_, M, rfl, HD1.out, HO.out, HBL.out⟩
end Go.Proofs.YtdkmdmpaflgfaaaGreatDoor

namespace Go.Proofs.YtdkmdmpaflgfaaaGreatDoor
open Go.RowKit

def ademP (a b j : Nat) : List (List Int) := (((List.range j).filter (relB a b)).reverse).map (ademW a b)
theorem ademP_yes {a b j : Nat} (h : relB a b j = true) : ademP a b (j + 1) = ademW a b j :: ademP a b j := by
  unfold ademP; rw [List.range_succ, List.filter_append]; simp [h]
theorem ademP_no {a b j : Nat} (h : relB a b j = false) : ademP a b (j + 1) = ademP a b j := by
  unfold ademP; rw [List.range_succ, List.filter_append]; simp [h]
theorem ademP_len (a b j : Nat) : (ademP a b j).length ≤ j := by
  unfold ademP
  rw [List.length_map, List.length_reverse]
  exact Nat.le_trans (List.length_filter_le _ _) (by simp)
theorem ademP_all (a b : Nat) : ademP a b (a / 2 + 1) = ademF a b := rfl
theorem lexLt_head {a b : Int} {x y : List Int} (h : a < b) : lexLt (a :: x) (b :: y) = true := by
  simp only [lexLt]; rw [if_neg (by omega)]; simpa using h
theorem ademW_lt {a b i j : Nat} (hij : i < j) (hj : 2 * j ≤ a) : lexLt (ademW a b j) (ademW a b i) = true := by
  unfold ademW
  rw [if_neg (show j ≠ 0 by omega)]
  split
  · exact lexLt_head (by omega)
  · exact lexLt_head (by omega)
theorem lexLt_asymm {x y : List Int} (h : lexLt x y = true) : lexLt y x = false := by
  cases h2 : lexLt y x with
  | false => rfl
  | true => have := lexLt_trans h h2; rw [lexLt_irrefl] at this; cases this
theorem sumR_front (x : List Int) : ∀ (Q : List (List Int)), (∀ y ∈ Q, lexLt x y = true) → sumR Q [x] = x :: Q
  | [], _ => by rw [sumR]
  | y :: Q, h => by
    rw [sumR, if_neg (by rw [lexLt_asymm (h y (List.mem_cons_self ..))]; simp), if_pos (h y (List.mem_cons_self ..)), sumR_nil]
theorem ademP_sum {a b j : Nat} (hj : 2 * j ≤ a) : sumR (ademP a b j) [ademW a b j] = ademW a b j :: ademP a b j := by
  apply sumR_front
  intro y hy
  unfold ademP at hy
  rw [List.mem_map] at hy
  obtain ⟨i, hi, rfl⟩ := hy
  rw [List.mem_reverse, List.mem_filter, List.mem_range] at hi
  exact ademW_lt hi.1 hj
theorem front_adem (a b j : Nat) (hj : 2 * j ≤ a) (ha : 1 ≤ a) : frontL ((a + b - j : Nat) : Int) (frontL (j : Int) []) = ademW a b j := by
  unfold frontL ademW
  rw [if_neg (show ((a + b - j : Nat) : Int) ≠ 0 by omega)]
  by_cases h : j = 0
  · subst h; rfl
  · rw [if_neg (by omega), if_neg h]
theorem row_getD_len {M : List Row} {Q : List (List Int)} (h : dat M = Q) {k : Nat} (hq : ∀ x ∈ Q, x.length ≤ k) : ∀ i, i < M.length → (rg M i).xs.length ≤ k := fun i hi =>
  hq _ (by rw [← h]; exact List.mem_map_of_mem (rg_mem hi))
theorem ademW_len (a b j : Nat) : (ademW a b j).length ≤ 2 := by unfold ademW; split <;> simp
theorem ademP_row (a b j : Nat) : ∀ x ∈ ademP a b j, x.length ≤ 2 := by
  intro x hx
  unfold ademP at hx
  rw [List.mem_map] at hx
  obtain ⟨i, _, rfl⟩ := hx
  exact ademW_len a b i

theorem frontL_ok {a b j : Nat} (h2 : 2 * j ≤ a) (hab : a < 2 * b) (hb1 : a + b ≤ 100) : (frontL (j : Int) []).length ≤ 1000 ∧ (0 ≤ (frontL (j : Int) []).getD 0 0 ∧ (frontL (j : Int) []).getD 0 0 ≤ 1000) ∧ (((a + b - j : Nat) : Int) = 0 ∨ frontL (j : Int) [] = [] ∨ 2 * (frontL (j : Int) []).getD 0 0 ≤ ((a + b - j : Nat) : Int)) ∧ True := by
  unfold frontL
  by_cases h : j = 0
  · subst h; simp
  · rw [if_neg (by omega)]
    refine ⟨by simp, ?_, .inr (.inr ?_), trivial⟩
    · simp only [List.getD_cons_zero]; omega
    · simp only [List.getD_cons_zero]; omega
theorem row_read (w : World) (X : Option Addr) (c : Nat) : RdR (w.alloc (.cells #[.slice X 0 c] 22)).drew (some ⟨w.heap.size, 0, none⟩) [⟨X, c, []⟩] := by
  refine ⟨owns_Rd (row_cell w _ (Nat.le_refl _)), fun i hi => ?_, fun i hi => ?_⟩
  · obtain rfl : i = 0 := by simp at hi; omega
    exact .inl rfl
  · obtain rfl : i = 0 := by simp at hi; omega
    exact Nat.zero_le _
set_option maxRecDepth 100000 in
set_option maxHeartbeats 2000000 in
theorem left_adem (a b : Nat) (A X : Option Addr) (c cX : Nat) (w : World) (ha : 1 ≤ a) (hab : a < 2 * b) (hb1 : a + b ≤ 100) (hcX : 1 ≤ cX) (hR : RdR w A [⟨X, cX, [(b : Int)]⟩]) :
    Calls Tryz.prog 211 #[.int .i64 a, .slice A 1 c] w (ResRows (ademF a b) w) := by
  obtain ⟨bA, oA, rfl, hcell0⟩ := hR.at_ (k := 0) (by simp)
  have hin0 := hR.inn 0 (by simp)
  rw [Nat.add_zero, rg_cons_zero] at hcell0
  rw [rg_cons_zero] at hin0
  simp only [List.length_singleton] at hcell0 hin0
  obtain ⟨b1, o1, rfl, hx0⟩ := hin0.atI (k := 0) (by simp)
  rw [Nat.add_zero, List.getD_cons_zero] at hx0
  have hkeep : ∀ w', Below w.heap.size w w' → w'.cell? ⟨bA, oA, none⟩ = some (.slice (some ⟨b1, o1, none⟩) 1 cX) ∧ w'.cell? ⟨b1, o1, none⟩ = some (.int .i64 b) := fun w' h => ⟨cell_keep hcell0 h, cell_keep hx0 h⟩
  have HKP := Lib.hid hkeep
  have ha0 : ((a : Int) == 0) = false := by simp; omega
  have hge : ¬ 2 * (b : Int) ≤ (a : Int) := by omega
  have hgeb : decide (2 * (b : Int) ≤ (a : Int)) = false := by simp; omega
  clear hcell0 hin0 hx0 hR hkeep
  go_enter Tryz.func211, Tryz.ntmps211
  go_wp2_with fail
  go_loopw [5, 6] (fun v s6 wr => ∃ k : Nat, ∃ M : List Row, ∃ A1 c1, k ≤ 1 ∧ s6 = .int .i64 k ∧ v = .slice A1 M.length c1 ∧ Hid (k = 0 → M = []) ∧ Hid (k = 1 → dat M = ademF a b) ∧ OwnR wr w.heap.size (.slice A1 M.length c1) M ∧ Below w.heap.size w wr) (fun _ i _ => 1 - (intOf i).toNat)
  case atStart => exact ⟨0, [], some ⟨w.heap.size, 0, none⟩, 0, by omega, rfl, rfl, Lib.hid (fun _ => rfl), Lib.hid (fun h => by omega), OwnR.made w (Nat.le_refl _), (Below.refl _ _).alloc (Nat.le_refl _) _⟩
  case round =>
    obtain ⟨k, M, A1, c1, hk, rfl, rfl, HZ, HD, hown, hbel⟩ := hrel
    have HBL := Lib.hid hbel
    have HO := Lib.hid hown
    have hsz := hbel.size
    rcases (show k = 0 ∨ k = 1 by omega) with rfl | rfl
    · obtain rfl := HZ.out rfl
      obtain ⟨hcell, hx⟩ := HKP.out wr hbel
      clear hown hbel
      go_wp2_with fail
      go_cut [8, 9] (fun s8 s9 wx => ∃ WX g X' c', WX = wx ∧ s8 = .int .i64 b ∧ s9 = .slice (some ⟨g, 0, none⟩) 1 1 ∧ RdR wx (some ⟨g, 0, none⟩) [⟨X', c', []⟩] ∧ Below wr.heap.size wr wx)
      case first =>
        have HBa := Lib.hid (Below.drew (Below.refl wr.heap.size wr))
        by_cases hc1 : cX = 1
        · subst hc1
          go_region_held3 (fun w' => w'.cell? ⟨b1, o1, none⟩ = some (.int .i64 b)) (first | exact hx | exact cell_keep hx HBa.out | exact cell_keep hx (HBa.out.alloc (Nat.le_refl _) _)) (fail)
          go_wp2_with fail
          go_meet
          exact ⟨_, _, _, _, rfl, rfl, rfl, row_read wr _ _, ((Below.refl _ _).alloc (Nat.le_refl _) _).drew⟩
        · have h1 : 1 < cX := by omega
          go_region_held3 (fun w' => w'.cell? ⟨b1, o1, none⟩ = some (.int .i64 b)) (first | exact hx | exact cell_keep hx HBa.out | exact cell_keep hx (HBa.out.alloc (Nat.le_refl _) _)) (fail)
          go_wp2_with fail
          go_meet
          exact ⟨_, _, _, _, rfl, rfl, rfl, row_read wr _ _, ((Below.refl _ _).alloc (Nat.le_refl _) _).drew⟩
      case rest =>
        obtain ⟨WX, g, X', c', rfl, rfl, rfl, hrr, hbx⟩ := hcut
        have HR1 := Lib.hid hrr
        have HBX := Lib.hid (HBL.out.trans (hbx.mono hsz))
        have hszx := HBX.out.size
        have HOX := Lib.hid (HO.out.later hbx)
        clear hrr hbx hcell hx HO
        go_wp2_with fail
        go_loopw [5, 10] (fun v s10 wr => ∃ j : Nat, ∃ M : List Row, ∃ A2 c2, j ≤ a / 2 + 1 ∧ s10 = .int .i64 j ∧ v = .slice A2 M.length c2 ∧ Hid (dat M = ademP a b j) ∧ OwnR wr w.heap.size (.slice A2 M.length c2) M ∧ Below WX.heap.size WX wr) (fun _ i _ => a / 2 + 1 - (intOf i).toNat)
        case atStart => exact ⟨0, [], A1, c1, by omega, rfl, rfl, Lib.hid rfl, HOX.out, Below.refl _ _⟩
        case round =>
          obtain ⟨j, M, A2, c2, hj, rfl, rfl, HM, hown, hbel⟩ := hrel
          have HO := Lib.hid hown
          have HB2 := Lib.hid hbel
          have hsz2 := hbel.size
          have hMl : M.length ≤ j := by have := ademP_len a b j; rw [← HM.out, dat_length] at this; exact this
          clear hown hbel
          by_cases h2 : 2 * j ≤ a
          · have h2' : 2 * (j : Int) ≤ (a : Int) := by omega
            have HP := Lib.hid (fun W => l01Parity_any (b - j - 1) (a - 2 * j) W (by omega) (by omega))
            have e1 : ((b - j - 1 : Nat) : Int) = (b : Int) - j - 1 := by omega
            have e2 : ((a - 2 * j : Nat) : Int) = (a : Int) - 2 * j := by omega
            rw [e1, e2] at HP
            clear e1 e2
            cases hrel : relB a b j
            · have HPV : Hid (parV (b - j - 1) (a - 2 * j) = 0) := Lib.hid (by unfold relB at hrel; unfold parV; rw [beq_eq_false_iff_ne] at hrel; rw [if_neg hrel])
              rw [HPV.out] at HP
              have HM2 := Lib.hid (HM.out.trans (ademP_no hrel).symm)
              clear hrel
              go_wp2_with (go_at_call 234; (with_reducible refine (HP.out _).mono ?_); (rintro e w' ⟨rfl, rfl⟩))
              go_roundw
              case rel => exact ⟨j + 1, M, A2, c2, by omega, by go_num, rfl, HM2, HO.out, HB2.out⟩
              case measure => simp [intOf]; omega
            · have HPV : Hid (parV (b - j - 1) (a - 2 * j) = 1) := Lib.hid (by unfold relB at hrel; unfold parV; rw [beq_iff_eq] at hrel; rw [if_pos hrel])
              rw [HPV.out] at HP
              have HM2 := Lib.hid (ademP_yes hrel)
              have HSM := Lib.hid (ademP_sum (a := a) (b := b) h2)
              clear hrel
              have HL1 := Lib.hid (left_put (j : Int) (some ⟨g, 0, none⟩) X' 1 c' [] wr (by omega) (by omega) (by simp) (by simp) (.inr (.inl rfl)) (HR1.out.below HB2.out))
              go_wp2_with (go_at_call 234; (with_reducible refine (HP.out _).mono ?_); (rintro e w' ⟨rfl, rfl⟩))
              refine HL1.out.mono ?_
              rintro e w1 ⟨v1, M1, rfl, hd1, ho1, hb1'⟩
              obtain ⟨⟨rA, rc, rx⟩, rfl, hr1⟩ := rows_one hd1
              simp only at hr1
              obtain ⟨A3, c3, rfl, _, himp, heq⟩ := owns_shape ho1.out
              clear himp heq
              have hrd1 := ho1.rd (n := 1) rfl
              subst hr1
              obtain ⟨f1, f2, f3, f4⟩ := frontL_ok (a := a) (b := b) h2 hab hb1
              have HL2 := Lib.hid (left_put ((a + b - j : Nat) : Int) A3 rA c3 rc (frontL (j : Int) []) w1 (by omega) (by omega) f1 f2 f3 hrd1)
              have HB3 := Lib.hid hb1'
              have e3 : ((a + b - j : Nat) : Int) = (a : Int) + b - j := by omega
              have HFA := Lib.hid (front_adem a b j h2 ha)
              rw [e3] at HL2 HFA
              clear hd1 ho1 hb1' hrd1 f1 f2 f3 f4 e3
              go_wp2_with fail
              refine HL2.out.mono ?_
              rintro e w2 ⟨v2, M2, rfl, hd2, ho2, hb2⟩
              rw [HFA.out] at hd2
              obtain ⟨r2, rfl, hr2⟩ := rows_one hd2
              obtain ⟨A4, c4, rfl, _, himp, heq⟩ := owns_shape ho2.out
              clear himp heq
              have hB23 : Below wr.heap.size wr w2 := HB3.out.trans (hb2.mono HB3.out.size)
              have HSU := Lib.hid (l01Sum_any A2 A4 M.length 1 c2 c4 M [r2] w2 rfl rfl (by omega) (by omega) (row_getD_len HM.out (fun x hx => Nat.le_trans (ademP_row a b j x hx) (by omega))) (row_getD_len hd2 (fun x hx => by rw [List.mem_singleton] at hx; subst hx; exact Nat.le_trans (ademW_len a b j) (by omega))) ((HO.out.later hB23).rd rfl) (ho2.rd rfl))
              rw [HM.out, hd2, HSM.out] at HSU
              have HB4 := Lib.hid hB23
              clear hd2 ho2 hb2 hB23 hr2
              go_wp2_with fail
              refine HSU.out.mono ?_
              rintro e w3 ⟨v3, M3, rfl, hd3, ho3, hb3⟩
              obtain ⟨A5, c5, rfl, _, himp, heq⟩ := owns_shape ho3.out
              clear himp heq
              have HD3 := Lib.hid (hd3.trans HM2.out.symm)
              have hB5 : Below wr.heap.size wr w3 := HB4.out.trans (hb3.mono HB4.out.size)
              have HB6 := Lib.hid (HB2.out.trans (hB5.mono hsz2))
              have HO3 := Lib.hid (ho3.mono (Nat.le_trans hszx (Nat.le_trans hsz2 HB4.out.size)))
              clear hd3 ho3 hb3 hB5
              go_wp2_with fail
              go_roundw
              case rel => exact ⟨j + 1, M3, A5, c5, by omega, by go_num, rfl, HD3, HO3.out, HB6.out⟩
              case measure => simp [intOf]; omega
          · have hjq : j = a / 2 + 1 := by omega
            have h2b : decide (2 * (j : Int) ≤ (a : Int)) = false := by simp; omega
            have h2c : ¬ 2 * (j : Int) ≤ (a : Int) := by omega
            have HF := Lib.hid (HM.out.trans (hjq ▸ ademP_all a b))
            have HB6 := Lib.hid (HBX.out.trans (HB2.out.mono hszx))
            have hj100 : j ≤ 100 := by omega
            clear hjq h2 hj
            go_wp2_with fail
            go_roundw
            case rel => exact ⟨1, M, A2, c2, by omega, rfl, rfl, Lib.hid (fun h => by omega), Lib.hid (fun _ => HF.out), HO.out, HB6.out⟩
            case measure => simp [intOf]
    · have HD1 := Lib.hid (HD.out rfl)
      clear hown hbel
      go_wp2_with fail
      go_ret
      exact ⟨_, M, rfl, HD1.out, HO.out, HBL.out⟩
end Go.Proofs.YtdkmdmpaflgfaaaGreatDoor

namespace Go.Proofs.YtdkmdmpaflgfaaaGreatDoor
open Go.RowKit

theorem wordM_drop (Q : List (List Int)) (ws : List Int) (v : Nat) {k : Nat} (hk : k < ws.length) : wordM Q (ws.drop k) v = act Q (ws.getD k 0) (wordM Q (ws.drop (k + 1)) v) := by
  rw [List.drop_eq_getElem_cons hk]
  simp only [wordM, List.foldr_cons, List.getD, List.getElem?_eq_getElem hk, Option.getD_some]

set_option maxRecDepth 100000 in
set_option maxHeartbeats 2000000 in
theorem l11Word_any (A A' V W : Option Addr) (n c m c' cv nw cw : Nat) (xs ws : List Int) (L : List Row) (v : Nat) (w : World) (hn : n = xs.length) (hm : m = L.length) (hs : Shp xs (dat L)) (hm1 : m ≤ 1048576) (hnw : nw = ws.length) (hw1 : nw ≤ 1048576) (hR : RdR w A' L) (hV : Rd w V (iv (bitsL v n))) (hW : Rd w W (iv ws)) :
    Calls Tryz.prog 166 #[.agg #[.slice A n c, .slice A' m c'], .slice W nw cw, .slice V n cv] w fun e w' => ∃ G cap, e = .returned (.slice G n cap) ∧ Rd w' G (iv (bitsL (wordM (dat L) ws v) n)) ∧ Below w.heap.size w w' := by
  have HACT := Lib.hid (fun (z : Int) (V : Option Addr) (cv v : Nat) W (hb : Below w.heap.size w W) hV => l11Act_any A A' V n c m c' cv xs L z v W hn hm hs hm1 (hR.below hb) hV)
  have HV := Lib.hid hV
  have HW := Lib.hid hW
  have Hnw := Lib.hid hnw
  clear hn hm hs hR hV hW hnw
  obtain ⟨x0, x1, xf0, xf1, lx⟩ := blk2cells (blk_new w (.cells #[.slice A n c, .slice A' m c'] 30))
  go_enter Tryz.func166, Tryz.ntmps166
  go_wp2_with fail
  clear x0 x1 xf0 xf1 lx
  go_loopw [2, 7] (fun vv i wr => ∃ k : Nat, ∃ V' cv', k ≤ nw ∧ i = .int .i64 ((k : Int) - 1) ∧ vv = .slice V' n cv' ∧ Rd wr V' (iv (bitsL (wordM (dat L) (ws.drop k) v) n)) ∧ wr.heap[w.heap.size]? = some (.cells #[.slice A n c, .slice A' m c'] 30 (0, 0)) ∧ Below w.heap.size w wr) (fun _ i _ => (intOf i + 1).toNat)
  case atStart =>
    refine ⟨nw, V, cv, by omega, rfl, rfl, ?_, blk_new w _, (Below.refl _ _).alloc (Nat.le_refl _) _⟩
    rw [List.drop_of_length_le (by rw [Hnw.out]; exact Nat.le_refl _)]
    exact HV.out.alloc _
  case round =>
    obtain ⟨k, V', cv', hk, rfl, rfl, hv, hblk, hbel⟩ := hrel
    have HB := Lib.hid hbel
    have HK := Lib.hid hblk
    have hsz := hbel.size
    cases k with
    | zero =>
      have HV' := Lib.hid hv
      rw [List.drop_zero] at HV'
      clear hbel hblk hv
      go_wp2_with fail
      go_ret
      exact ⟨V', cv', rfl, HV'.out, HB.out⟩
    | succ j =>
      have hj : j < ws.length := by rw [← Hnw.out]; omega
      have e1 : (((j + 1 : Nat) : Int) - 1) = (j : Int) := by omega
      rw [e1]
      obtain ⟨b1, o1, rfl, hc1⟩ := (HW.out.below hbel).atI (k := j) hj
      have HD := Lib.hid (wordM_drop (dat L) ws v hj)
      obtain ⟨x0, x1, xf0, xf1, lx⟩ := blk2cells hblk
      have HC := Lib.hid (HACT.out (ws.getD j 0) V' cv' _ wr.drew hbel.drew hv)
      have hj0 : j < nw := by omega
      generalize ws.getD j 0 = z at *
      clear hbel hblk hv e1
      go_wp2_with fail
      go_region_held3 (fun w' => w'.cell? ⟨w.heap.size, 0, none⟩ = some (.slice A n c) ∧ w'.cell? ⟨w.heap.size, 1, none⟩ = some (.slice A' m c') ∧ w'.cell? ⟨b1, o1 + j, none⟩ = some (.int .i64 z))
        (first | exact ⟨x0, x1, hc1⟩ | exact ⟨cell_keep (w := wr.drew) x0 HB1.out, cell_keep (w := wr.drew) x1 HB1.out, cell_keep (w := wr.drew) hc1 HB1.out⟩)
        ((go_at_call 159; (with_reducible refine (HC.out).mono ?_); (rintro e w1 ⟨g, cap, rfl, ho, hb⟩; have HO := Lib.hid (owns_Rd ho); have HB1 := Lib.hid hb; clear ho hb)))
      have HB2 := Lib.hid (HB.out.drew.trans (HB1.out.mono hsz))
      have HK2 := Lib.hid (blk_kept (w := wr.drew) HK.out HB1.out)
      clear x0 x1 xf0 xf1 lx hc1
      go_wp2_with fail
      go_roundw
      case rel => exact ⟨j, some ⟨g, 0, none⟩, cap, by omega, rfl, rfl, by rw [HD.out]; exact HO.out, HK2.out, HB2.out⟩
      case measure => simp [intOf]

set_option maxRecDepth 100000 in
set_option maxHeartbeats 2000000 in
theorem l11Words_any (A A' V W : Option Addr) (n c m c' cv nw cw : Nat) (xs : List Int) (L M : List Row) (v : Nat) (w : World) (hn : n = xs.length) (hm : m = L.length) (hs : Shp xs (dat L)) (hm1 : m ≤ 1048576) (hnw : nw = M.length) (hw1 : nw ≤ 1048576) (hwl : ∀ i, i < M.length → (rg M i).xs.length ≤ 1048576) (hR : RdR w A' L) (hV : Rd w V (iv (bitsL v n))) (hW : RdR w W M) :
    Calls Tryz.prog 167 #[.agg #[.slice A n c, .slice A' m c'], .slice W nw cw, .slice V n cv] w fun e w' => ∃ g cap, e = .returned (.slice (some ⟨g, 0, none⟩) n cap) ∧ w'.ownsRow w.heap.size 2 1 (.slice (some ⟨g, 0, none⟩) n cap) n (iv (bitsL (xsumf (fun u => wordM (dat L) u v) (dat M)) n)) ∧ Below w.heap.size w w' := by
  have hn16 : n ≤ 16 := by rw [hn]; exact hs.len
  have HWD := Lib.hid (fun (X : Option Addr) (k cx : Nat) (ws : List Int) W' (hb : Below w.heap.size w W') hk hk1 hX => l11Word_any A A' V X n c m c' cv k cx xs ws L v W' hn hm hs hm1 hk hk1 (hR.below hb) (hV.below hb) hX)
  have HPL := Lib.hid (fun (X Y : Option Addr) (cx cy a b : Nat) W' hX hY => l11Plus_any X Y n cx cy a b W' (by omega) hX hY)
  have hmk := run_make_row' (P := Tryz.prog) 22 2 (.int .i64 0) 8 Tryz.underlying22 infoI rfl .i64 .i64 n (by omega) (by omega)
  have HW := Lib.hid hW
  have Hnw := Lib.hid hnw
  have HL := Lib.hid hwl
  clear hn hm hs hR hV hW hnw hwl
  obtain ⟨x0, x1, xf0, xf1, lx⟩ := blk2cells (blk_new w (.cells #[.slice A n c, .slice A' m c'] 30))
  go_enter Tryz.func167, Tryz.ntmps167
  go_wp2_with fail
  clear x0 x1 xf0 xf1 lx hmk
  go_loopw [7, 8] (fun vv i wr => ∃ k g cap : Nat, k ≤ nw ∧ i = .int .i64 k ∧ vv = .slice (some ⟨g, 0, none⟩) n cap ∧ wr.ownsRow w.heap.size 2 1 (.slice (some ⟨g, 0, none⟩) n cap) n (iv (bitsL (xsumf (fun u => wordM (dat L) u v) ((dat M).take k)) n)) ∧ wr.heap[w.heap.size]? = some (.cells #[.slice A n c, .slice A' m c'] 30 (0, 0)) ∧ Below w.heap.size w wr) (fun _ i _ => nw - (intOf i).toNat)
  case atStart =>
    refine ⟨0, w.heap.size + 1, n, by omega, rfl, rfl, ?_, blk_alloc (blk_new w _) _, ((Below.refl _ _).alloc (Nat.le_refl _) _).alloc (by simp) _⟩
    have := made_own (w.alloc (.cells #[.slice A n c, .slice A' m c'] 30)) w.heap.size n (by simp) (by omega)
    rw [← bitsL_zero] at this
    rw [show xsumf (fun u => wordM (dat L) u v) ((dat M).take 0) = 0 from rfl]
    simpa using this
  case round =>
    obtain ⟨k, g, cap, hk, rfl, rfl, hown, hblk, hbel⟩ := hrel
    have HO := Lib.hid hown
    have HB := Lib.hid hbel
    have HK := Lib.hid hblk
    have hsz := hbel.size
    by_cases hlt : k < nw
    · have hkM : k < M.length := by rw [← Hnw.out]; exact hlt
      have hR1 := HW.out.below hbel
      obtain ⟨b1, o1, rfl, hc1⟩ := hR1.at_ hkM
      have hin := hR1.inn k hkM
      have hle := HL.out k hkM
      have hst : (dat M).take (k + 1) = (dat M).take k ++ [(rg M k).xs] := by
        rw [← dat_getD, List.take_succ_eq_append_getElem (by rw [dat_length]; exact hkM)]; simp [List.getD, hkM, dat]
      have HSX : Hid (xsumf (fun u => wordM (dat L) u v) ((dat M).take (k + 1)) = xr (xsumf (fun u => wordM (dat L) u v) ((dat M).take k)) (wordM (dat L) (rg M k).xs v)) := Lib.hid (by
        rw [hst, xsumf_append, xsumf_cons]; congr 1; exact xr_zero _)
      clear hR1 hst
      generalize rg M k = r at *
      obtain ⟨rA, rc, rx⟩ := r
      simp only at hc1 hin hle HSX
      have HC := Lib.hid (HWD.out rA rx.length rc rx wr.drew hbel.drew rfl hle hin)
      obtain ⟨x0, x1, xf0, xf1, lx⟩ := blk2cells hblk
      clear hown hbel hblk hin
      go_wp2_with fail
      go_region_held3 (fun w' => w'.cell? ⟨w.heap.size, 0, none⟩ = some (.slice A n c) ∧ w'.cell? ⟨w.heap.size, 1, none⟩ = some (.slice A' m c') ∧ w'.cell? ⟨b1, o1 + k, none⟩ = some (.slice rA rx.length rc))
        (first | exact ⟨x0, x1, hc1⟩ | exact ⟨cell_keep (w := wr.drew) x0 HB1.out, cell_keep (w := wr.drew) x1 HB1.out, cell_keep (w := wr.drew) hc1 HB1.out⟩ | exact ⟨cell_keep (w := wr.drew) x0 HB3.out, cell_keep (w := wr.drew) x1 HB3.out, cell_keep (w := wr.drew) hc1 HB3.out⟩)
        (first
          | (go_at_call 166; (with_reducible refine (HC.out).mono ?_); (rintro e w1 ⟨G, cap1, rfl, ho, hb⟩; have HR1 := Lib.hid ho; have HB1 := Lib.hid hb; have HO1 := Lib.hid (owns_keeps HO.out.drew (Keeps.of_below hb) (.inr (by simp))); clear ho hb))
          | (go_at_call 185; (with_reducible refine (HPL.out _ _ _ _ _ _ _ (owns_Rd HO1.out) HR1.out).mono ?_); (rintro e w2 ⟨g2, cap2, rfl, ho, hb⟩; have HO2 := Lib.hid (ho.mono (Nat.le_trans hsz HB1.out.size)); have HB3 := Lib.hid (HB1.out.trans (hb.mono HB1.out.size)); clear ho hb)))
      have HB4 := Lib.hid (HB.out.drew.trans (HB3.out.mono hsz))
      have HK2 := Lib.hid (blk_kept (w := wr.drew) HK.out HB3.out)
      clear x0 x1 xf0 xf1 lx hc1
      go_wp2_with fail
      go_roundw
      case rel => exact ⟨k + 1, g2, cap2, by omega, by go_num, rfl, by rw [HSX.out]; exact HO2.out, HK2.out, HB4.out⟩
      case measure => simp [intOf]; omega
    · obtain rfl : k = nw := by omega
      have he : (dat M).take k = dat M := List.take_of_length_le (by rw [dat_length, ← Hnw.out]; exact Nat.le_refl _)
      rw [he] at HO
      clear hown hbel hblk he
      go_wp2_with fail
      go_ret
      exact ⟨g, cap, rfl, HO.out, HB.out⟩
end Go.Proofs.YtdkmdmpaflgfaaaGreatDoor

namespace Go.Proofs.YtdkmdmpaflgfaaaGreatDoor
open Go.RowKit

def formK (a b k : Nat) : List (List Int) := if k = 2 then [[]] else if k = 1 then [[(b : Int)]] else ademF a b
theorem row0_own (w : World) : OwnR ((w.alloc (.cells #[] 2)).alloc (.cells #[.slice (some ⟨w.heap.size, 0, none⟩) 0 0] 22)) w.heap.size (.slice (some ⟨w.heap.size + 1, 0, none⟩) 1 1) [⟨some ⟨w.heap.size, 0, none⟩, 0, []⟩] := by
  refine OwnR.one ?_ ?_
  · have := row_cell (w.alloc (.cells #[] 2)) (.slice (some ⟨w.heap.size, 0, none⟩) 0 0) (B := w.heap.size) (by simp)
    rw [show (w.alloc (.cells #[] 2)).heap.size = w.heap.size + 1 by simp] at this
    exact this
  · exact (World.ownsRow_made w #[] 0 (Nat.le_refl _) (by decide) (by simp)).alloc _

set_option maxRecDepth 100000 in
set_option maxHeartbeats 2000000 in
theorem form_any (a b : Nat) (A : Option Addr) (c : Nat) (w : World) (ha : 1 ≤ a) (hab : a < 2 * b) (hb1 : a + b ≤ 100) (hR : Rd w A (iv [(a : Int), (b : Int)])) :
    Calls Tryz.prog 164 #[.slice A 2 c] w (ResRows (ademF a b) w) := by
  obtain ⟨bA, oA, rfl, hx0⟩ := hR.atI (k := 0) (by simp)
  have hx1 := hR.cellI (k := 1) (by simp)
  rw [Nat.add_zero] at hx0
  simp only [List.getD_cons_zero, List.getD_cons_succ] at hx0 hx1
  have HKP := Lib.hid (fun w' (h : Below w.heap.size w w') => show w'.cell? ⟨bA, oA, none⟩ = some (.int .i64 a) ∧ w'.cell? ⟨bA, oA + 1, none⟩ = some (.int .i64 b) from ⟨cell_keep hx0 h, cell_keep hx1 h⟩)
  have HR0 := Lib.hid (row0_own w)
  clear hR hx0 hx1
  go_enter Tryz.func164, Tryz.ntmps164
  go_wp2_with fail
  go_loopw [3, 4] (fun v s4 wr => ∃ k : Nat, ∃ A1 c1, ∃ r : Row, ∃ M : List Row, k ≤ 2 ∧ s4 = .int .i64 ((k : Int) - 1) ∧ v = .slice A1 M.length c1 ∧ Hid (k ≠ 0 → M = [r] ∧ r.xs.length ≤ r.c) ∧ Hid (dat M = formK a b k) ∧ OwnR wr w.heap.size (.slice A1 M.length c1) M ∧ Below w.heap.size w wr) (fun _ i _ => (intOf i + 1).toNat)
  case atStart => exact ⟨2, some ⟨w.heap.size + 1, 0, none⟩, 1, _, [⟨some ⟨w.heap.size, 0, none⟩, 0, []⟩], by omega, rfl, rfl, Lib.hid (fun _ => ⟨rfl, by simp⟩), Lib.hid rfl, HR0.out, ((Below.refl _ _).alloc (Nat.le_refl _) _).alloc (by simp) _⟩
  case round =>
    obtain ⟨k, A1, c1, r, M, hk, rfl, rfl, HZ, HD, hown, hbel⟩ := hrel
    have HBL := Lib.hid hbel
    have hsz := hbel.size
    obtain ⟨y0, y1⟩ := HKP.out wr hbel
    rcases (show k = 0 ∨ k = 1 ∨ k = 2 by omega) with rfl | rfl | rfl
    · have HO := Lib.hid hown
      have HD1 : Hid (dat M = ademF a b) := Lib.hid HD.out
      clear hown hbel
      go_wp2_with fail
      go_ret
      exact ⟨_, M, rfl, HD1.out, HO.out, HBL.out⟩
    · obtain ⟨rfl, hcap⟩ := HZ.out (by omega)
      obtain ⟨rA, rc, rx⟩ := r
      have hrx : rx = [(b : Int)] := by have := HD.out; simpa [dat, formK] using this
      subst hrx
      have HC := Lib.hid (left_adem a b A1 rA c1 rc wr ha hab hb1 hcap (hown.rd rfl))
      clear hown hbel hcap
      go_wp2_with fail
      refine HC.out.mono ?_
      rintro e w1 ⟨v1, M1, rfl, hd1, ho1, hb1'⟩
      obtain ⟨A3, c3, rfl, _, himp, heq⟩ := owns_shape ho1.out
      clear himp heq
      have HD3 : Hid (dat M1 = formK a b 0) := Lib.hid hd1
      have HO3 := Lib.hid (ho1.mono hsz)
      have HB3 := Lib.hid (HBL.out.trans (hb1'.mono hsz))
      clear hd1 ho1 hb1'
      go_wp2_with fail
      go_roundw
      case rel => exact ⟨0, A3, c3, ⟨none, 0, []⟩, M1, by omega, rfl, rfl, Lib.hid (fun h => absurd rfl h), HD3, HO3.out, HB3.out⟩
      case measure => simp [intOf]
    · obtain ⟨rfl, hcap⟩ := HZ.out (by omega)
      obtain ⟨rA, rc, rx⟩ := r
      have hrx : rx = [] := by have := HD.out; simpa [dat, formK] using this
      subst hrx
      have HC := Lib.hid (left_put (b : Int) A1 rA c1 rc [] wr (by omega) (by omega) (by simp) (by simp) (.inr (.inl rfl)) (hown.rd rfl))
      have HFB : Hid (frontL (b : Int) [] = [(b : Int)]) := Lib.hid (by unfold frontL; rw [if_neg (by omega)])
      rw [HFB.out] at HC
      clear hown hbel hcap
      go_wp2_with fail
      refine HC.out.mono ?_
      rintro e w1 ⟨v1, M1, rfl, hd1, ho1, hb1'⟩
      obtain ⟨r1, rfl, hr1⟩ := rows_one hd1
      obtain ⟨A3, c3, rfl, _, himp, heq⟩ := owns_shape ho1.out
      clear himp heq
      have HD3 : Hid (dat [r1] = formK a b 1) := Lib.hid hd1
      have HCAP := Lib.hid ((ho1.rd (n := 1) rfl).cap 0 (by simp))
      have HO3 := Lib.hid (ho1.mono hsz)
      have HB3 := Lib.hid (HBL.out.trans (hb1'.mono hsz))
      clear hd1 ho1 hb1' hr1
      go_wp2_with fail
      go_roundw
      case rel => exact ⟨1, A3, c3, r1, [r1], by omega, rfl, rfl, Lib.hid (fun _ => ⟨rfl, HCAP.out⟩), HD3, HO3.out, HB3.out⟩
      case measure => simp [intOf]
end Go.Proofs.YtdkmdmpaflgfaaaGreatDoor

namespace Go.Proofs.YtdkmdmpaflgfaaaGreatDoor
open Go.RowKit

theorem two_ints (w : World) (a b : Int) : Rd (w.alloc (.cells #[.int .i64 a, .int .i64 b] 2)) (some ⟨w.heap.size, 0, none⟩) (iv [a, b]) := by
  have h : (w.alloc (.cells #[.int .i64 a, .int .i64 b] 2)).ownsRow w.heap.size 2 1 (.slice (some ⟨w.heap.size, 0, none⟩) 2 2) 2 (iv [a, b]) :=
    ⟨by simp [iv], .inr ⟨w.heap.size, 2, _, rfl, Nat.le_refl _, blk_new w _, Nat.le_refl _, by decide, by simp, by simp [iv]⟩⟩
  exact owns_Rd h
/-- no fault: no list -/
def FaultPost (ok : Prop) (w : World) (e : Ending) (w' : World) : Prop := ∃ A k cap, e = .returned (.slice A k cap) ∧ (k = 0 ↔ ok) ∧ Below w.heap.size w w'
theorem bits_same (x y n : Nat) (hx : x < 2 ^ n) (hy : y < 2 ^ n) : (bitsL x n == bitsL y n) = decide (x = y) := by
  rw [Bool.eq_iff_iff, beq_iff_eq, decide_eq_true_eq]
  exact ⟨bitsL_inj hx hy, fun h => by rw [h]⟩
theorem wordM_lt {xs : List Int} {Q : List (List Int)} (h : Shp xs Q) {v : Nat} (hv : v < 2 ^ xs.length) : ∀ ws, wordM Q ws v < 2 ^ xs.length
  | [] => hv
  | z :: ws => act_lt h (wordM_lt h hv ws) z
theorem xsumf_lt {α : Type} {n : Nat} (f : α → Nat) : ∀ (l : List α), (∀ a ∈ l, f a < 2 ^ n) → xsumf f l < 2 ^ n
  | [], _ => Nat.two_pow_pos _
  | a :: l, h => by rw [xsumf_cons]; exact xr_lt (h a (List.mem_cons_self ..)) (xsumf_lt f l fun b hb => h b (List.mem_cons_of_mem _ hb))
theorem ademF_row (a b : Nat) : ∀ x ∈ ademF a b, x.length ≤ 2 := ademP_row a b (a / 2 + 1)
theorem ademF_len (a b : Nat) : (ademF a b).length ≤ a / 2 + 1 := ademP_len a b (a / 2 + 1)
theorem wordM2 (Q : List (List Int)) (a b v : Nat) : wordM Q [(a : Int), (b : Int)] v = act Q a (act Q b v) := rfl

set_option maxRecDepth 100000 in
set_option maxHeartbeats 4000000 in
theorem l11Fault_any (A A' : Option Addr) (n c m c' : Nat) (xs : List Int) (L : List Row) (w : World) (hn : n = xs.length) (hR : Rd w A (iv xs)) (hm : m = L.length) (hm1 : m ≤ 1048576) (hR' : RdR w A' L) (hs : Shp xs (dat L)) :
    Calls Tryz.prog 118 #[.agg #[.slice A n c, .slice A' m c']] w (FaultPost (IsMod xs (dat L)) w) := by
  have hn16 : n ≤ 16 := by rw [hn]; exact hs.len
  by_cases h0 : n = 0
  · have h0b : ((n : Int) == 0) = true := by rw [h0]; rfl
    have HOK : Hid (IsMod xs (dat L)) := Lib.hid ⟨hs, fun a b _ _ _ i hi => by omega⟩
    clear hR hm hR' hs hn h0
    go_enter Tryz.func118, Tryz.ntmps118
    go_wp2_with fail
    go_ret
    exact ⟨none, 0, 0, rfl, ⟨fun _ => HOK.out, fun _ => rfl⟩, (Below.refl _ _).alloc (Nat.le_refl _) _⟩
  · have h0b : ((n : Int) == 0) = false := by simp; omega
    obtain ⟨bA, oA, rfl, hc0⟩ := hR.atI (k := 0) (by omega)
    have hc1 := hR.cellI (k := n - 1) (by omega)
    rw [Nat.add_zero] at hc0
    obtain ⟨p1, p2⟩ := hs.deg 0 (by omega)
    obtain ⟨q1, q2⟩ := hs.deg (n - 1) (by omega)
    have hmn := hs.mono' (i := 0) (j := n - 1) (by omega) (by omega)
    obtain ⟨S, hS⟩ : ∃ S : Nat, (S : Int) = xs.getD (n - 1) 0 - xs.getD 0 0 := ⟨(xs.getD (n - 1) 0 - xs.getD 0 0).toNat, by omega⟩
    have HSP := Lib.hid hS
    have HFAR := Lib.hid (fun (a b i : Nat) (hi : i < n) (hab : a < 2 * b) (hf : S < a + b) => far_ok hs (a := a) (b := b) (i := i) (by omega) hab (fun j hj => by
      have h1 := hs.mono' (i := j) (j := n - 1) (by omega) (by omega)
      have h2 := hs.mono' (i := 0) (j := i) (by omega) (by omega)
      omega))
    have HNX := Lib.hid (show n = xs.length from hn)
    have hwi : IntKind.i64.wrap ((n : Int) - 1) = (n : Int) - 1 := by rw [IntKind.wrap_i64]; omega
    have hwi2 : ((n : Int) - 1).toNat = n - 1 := by omega
    have hwi3 : 0 ≤ (n : Int) - 1 := by omega
    have hwi4 : (n : Int) - 1 < (n : Int) := by omega
    have hwd : IntKind.i64.wrap (xs.getD (n - 1) 0 - xs.getD 0 0) = S := by rw [IntKind.wrap_i64]; omega
    have hS20 : S ≤ 20 := by omega
    have HS := Lib.hid hs
    have HWORD := Lib.hid (fun (V X : Option Addr) (cv cx : Nat) (ws : List Int) (v : Nat) W' (hb : Below w.heap.size w W') hk hV hX => l11Word_any (some ⟨bA, oA, none⟩) A' V X n c m c' cv 2 cx xs ws L v W' hn hm hs hm1 hk (by omega) (hR'.below hb) hV hX)
    have HWORDS := Lib.hid (fun (V X : Option Addr) (cv k cx : Nat) (M : List Row) (v : Nat) W' (hb : Below w.heap.size w W') hk hk1 hwl hV hX => l11Words_any (some ⟨bA, oA, none⟩) A' V X n c m c' cv k cx xs L M v W' hn hm hs hm1 hk hk1 hwl (hR'.below hb) hV hX)
    obtain ⟨x0, x1, xf0, xf1, lx⟩ := blk2cells (blk_new w (.cells #[.slice (some ⟨bA, oA, none⟩) n c, .slice A' m c'] 30))
    have hb0 : Below w.heap.size w (w.alloc (.cells #[.slice (some ⟨bA, oA, none⟩) n c, .slice A' m c'] 30)) := (Below.refl _ _).alloc (Nat.le_refl _) _
    have hcc0 := cell_keep hc0 hb0
    have hcc1 := cell_keep hc1 hb0
    generalize xs.getD 0 0 = d0 at *
    generalize xs.getD (n - 1) 0 = d1 at *
    clear hR hm hR' hs hn h0 hS hc0 hc1 hb0 hmn
    go_enter Tryz.func118, Tryz.ntmps118
    go_wp2_with fail
    go_big_quiet (fail)
    have HB0 : Hid (Below w.heap.size w ((w.alloc (.cells #[.slice (some ⟨bA, oA, none⟩) n c, .slice A' m c'] 30)).drewN nq)) := Lib.hid (below_drewN ((Below.refl _ _).alloc (Nat.le_refl _) _) _)
    have HK0 : Hid (((w.alloc (.cells #[.slice (some ⟨bA, oA, none⟩) n c, .slice A' m c'] 30)).drewN nq).heap[w.heap.size]? = some (.cells #[.slice (some ⟨bA, oA, none⟩) n c, .slice A' m c'] 30 (0, 0))) := Lib.hid (blk_new w _)
    generalize (w.alloc (.cells #[.slice (some ⟨bA, oA, none⟩) n c, .slice A' m c'] 30)).drewN nq = W0 at *
    clear hwi hwi2 hwi3 hwi4 hwd x0 x1 xf0 xf1 lx hcc0 hcc1 HSP p1 p2 q1 q2 h0b
    go_wp2_with fail
    go_loopw [5] (fun s5 wr => ∃ a : Nat, 1 ≤ a ∧ a ≤ S + 1 ∧ s5 = .int .i64 a ∧ Hid (∀ a' b i : Nat, 1 ≤ a' → a' < a → a' < 2 * b → i < n → OkAt (dat L) a' b (2 ^ i)) ∧ wr.heap[w.heap.size]? = some (.cells #[.slice (some ⟨bA, oA, none⟩) n c, .slice A' m c'] 30 (0, 0)) ∧ Below w.heap.size w wr) (fun i _ => S + 1 - (intOf i).toNat)
    case atStart => exact ⟨1, by omega, by omega, rfl, Lib.hid (fun a' b i h1 h2 => by omega), HK0.out, HB0.out⟩
    case round =>
      obtain ⟨a, ha1, haS, rfl, HOA, hblk, hbel⟩ := hrel
      have HBL := Lib.hid hbel
      have HBK := Lib.hid hblk
      by_cases hlt : a ≤ S
      · have HDV : Hid (a / 2 + a / 2 ≤ a ∧ a < 2 * (a / 2 + 1)) := Lib.hid (by omega)
        clear hblk hbel
        go_wp2_with fail
        go_loopw [6] (fun s6 wr => ∃ b : Nat, a < 2 * b ∧ b ≤ S + 1 ∧ s6 = .int .i64 b ∧ Hid (∀ b' i : Nat, a < 2 * b' → b' < b → i < n → OkAt (dat L) a b' (2 ^ i)) ∧ wr.heap[w.heap.size]? = some (.cells #[.slice (some ⟨bA, oA, none⟩) n c, .slice A' m c'] 30 (0, 0)) ∧ Below w.heap.size w wr) (fun i _ => S + 1 - (intOf i).toNat)
        case atStart => exact ⟨a / 2 + 1, by omega, by omega, congrArg (Value.int .i64) (by omega), Lib.hid (fun b' i h1 h2 => by omega), HBK.out, HBL.out⟩
        case round =>
          obtain ⟨b, hb2, hbS, rfl, HOB, hblk, hbel⟩ := hrel
          have HBL := Lib.hid hbel
          have HBK := Lib.hid hblk
          have hsz := hbel.size
          by_cases hlt2 : a + b ≤ S
          · have hlt2' : (a : Int) + b ≤ (S : Int) := by omega
            have HF := Lib.hid (form_any a b (some ⟨wr.heap.size, 0, none⟩) 2 (wr.alloc (.cells #[.int .i64 a, .int .i64 b] 2)) ha1 hb2 (by omega) (two_ints wr a b))
            obtain ⟨WR, rfl⟩ : ∃ WR, WR = wr := ⟨wr, rfl⟩
            clear hblk hbel
            go_wp2_with fail
            refine HF.out.mono ?_
            rintro e w1 ⟨v1, M1, rfl, hd1, ho1, hb1⟩
            obtain ⟨A3, c3, rfl, _, himp, heq⟩ := owns_shape ho1.out
            clear himp heq
            have HB1 := Lib.hid (HBL.out.trans ((((Below.refl WR.heap.size WR).alloc (Nat.le_refl _) (.cells #[.int .i64 a, .int .i64 b] 2)).trans (hb1.mono (by simp))).mono hsz))
            have HK1 := Lib.hid (blk_kept (blk_kept HBK.out ((Below.refl WR.heap.size WR).alloc (Nat.le_refl _) (.cells #[.int .i64 a, .int .i64 b] 2))) hb1)
            have HD1 := Lib.hid hd1
            have HRW := Lib.hid (ho1.rd rfl)
            have hMl : M1.length ≤ 100 := by have := ademF_len a b; rw [← hd1, dat_length] at this; omega
            have HWL := Lib.hid (row_getD_len hd1 (fun x hx => Nat.le_trans (ademF_row a b x hx) (show 2 ≤ 1048576 by omega)))
            clear hd1 ho1 hb1
            go_wp2_with fail
            go_loopw [8] (fun s8 wr => ∃ v : Nat, v ≤ n ∧ s8 = .int .i64 v ∧ Hid (∀ i : Nat, i < v → OkAt (dat L) a b (2 ^ i)) ∧ Below w1.heap.size w1 wr) (fun i _ => n - (intOf i).toNat)
            case atStart => exact ⟨0, by omega, rfl, Lib.hid (fun i h => by omega), Below.refl _ _⟩
            case round =>
              obtain ⟨v, hv, rfl, HOV, hbel⟩ := hrel
              by_cases hlt3 : v < n
              · have HU := Lib.hid (l11Unit_any n v wr hlt3 (by omega))
                have HBV := Lib.hid hbel
                clear hbel
                go_wp2_with fail
                refine HU.out.mono ?_
                rintro e w2 ⟨gu, cu, rfl, ho, hb⟩
                have HB2 := Lib.hid (HBV.out.trans (hb.mono HBV.out.size))
                have HUR := Lib.hid (owns_Rd ho)
                clear ho hb
                go_wp2_with fail
                have HBz := Lib.hid (HB1.out.trans (HB2.out.mono HB1.out.size))
                have HKz := Lib.hid (blk_kept HK1.out HB2.out)
                have HRz := Lib.hid (HRW.out.below HB2.out)
                have hszz := HBz.out.size
                have HXW : Hid (wordM (dat L) [(a : Int), (b : Int)] (2 ^ v) < 2 ^ n) := Lib.hid (by have := wordM_lt HS.out (v := 2 ^ v) (pow_lt_pow (by rw [← HNX.out]; exact hlt3)) [(a : Int), (b : Int)]; rw [← HNX.out] at this; exact this)
                have HXS : Hid (adem (dat L) a b (2 ^ v) < 2 ^ n) := Lib.hid (by
                  rw [← adem_form]
                  refine xsumf_lt _ _ fun u _ => ?_
                  have := wordM_lt HS.out (v := 2 ^ v) (pow_lt_pow (by rw [← HNX.out]; exact hlt3)) u
                  rw [← HNX.out] at this; exact this)
                have HOKA : Hid (OkAt (dat L) a b (2 ^ v) ↔ wordM (dat L) [(a : Int), (b : Int)] (2 ^ v) = adem (dat L) a b (2 ^ v)) := Lib.hid Iff.rfl
                have HW96 := Lib.hid (fun W' X (hb : Below w2.heap.size w2 W') hX => HWORD.out (some ⟨gu, 0, none⟩) X cu 2 [(a : Int), (b : Int)] (2 ^ v) W' (HBz.out.trans (hb.mono hszz)) rfl (HUR.out.below hb) hX)
                have HW97 := Lib.hid (fun W' (hb : Below w2.heap.size w2 W') => HWORDS.out (some ⟨gu, 0, none⟩) A3 cu M1.length c3 M1 (2 ^ v) W' (HBz.out.trans (hb.mono hszz)) rfl (by omega) HWL.out (HUR.out.below hb) (HRz.out.below hb))
                rw [HD1.out] at HW97
                simp only [adem_form] at HW97
                generalize wordM (dat L) [(a : Int), (b : Int)] (2 ^ v) = XW at *
                generalize adem (dat L) a b (2 ^ v) = XS at *
                have HW95 := Lib.hid (fun W' G G' c1 c2 hX hY => l01Same_any G G' n n c1 c2 (bitsL XW n) (bitsL XS n) W' (bitsL_length _ _).symm (bitsL_length _ _).symm (by omega) (by omega) hX hY)
                rw [bits_same XW XS n HXW.out HXS.out] at HW95
                have KS := Lib.hid (fun w' (hb : Below w2.heap.size w2 w') => show w'.cell? ⟨w.heap.size, 0, none⟩ = some (.slice (some ⟨bA, oA, none⟩) n c) ∧ w'.cell? ⟨w.heap.size, 1, none⟩ = some (.slice A' m c') from ⟨(blk2cells (blk_kept HKz.out hb)).1, (blk2cells (blk_kept HKz.out hb)).2.1⟩)
                have HBd := Lib.hid (Below.drew (Below.refl w2.heap.size w2))
                have HBa : Hid (Below w2.heap.size w2 (w2.alloc (.cells #[.int .i64 a, .int .i64 b] 2)).drew) := Lib.hid ((Below.refl _ _).alloc (Nat.le_refl _) _).drew
                have HXa : Hid (Rd (w2.alloc (.cells #[.int .i64 a, .int .i64 b] 2)).drew (some ⟨w2.heap.size, 0, none⟩) (iv [(a : Int), (b : Int)])) := Lib.hid (two_ints w2 a b)
                have HT := Lib.hid (fun (h : OkAt (dat L) a b (2 ^ v)) (i : Nat) (hi : i < v + 1) => show OkAt (dat L) a b (2 ^ i) from by
                  by_cases e : i = v
                  · subst e; exact h
                  · exact HOV.out i (by omega))
                have HNO := Lib.hid (fun (h : ¬ OkAt (dat L) a b (2 ^ v)) => show ¬ IsMod xs (dat L) from fun hm => h (hm.ok a b ha1 hb2 (by omega) v (by rw [← HNX.out]; exact hlt3)))
                have hba : a + b ≤ 20 := by omega
                clear HWORD HWORDS HF HFAR HOA HOB HOV
                cases hdec : decide (XW = XS)
                all_goals
                  rw [hdec] at HW95
                  have HDEC := Lib.hid hdec
                  clear hdec
                  go_region_held3 (fun w' => w'.cell? ⟨w.heap.size, 0, none⟩ = some (.slice (some ⟨bA, oA, none⟩) n c) ∧ w'.cell? ⟨w.heap.size, 1, none⟩ = some (.slice A' m c'))
                    (first | exact KS.out _ HBa.out | exact KS.out _ HBd.out | exact KS.out _ HB3.out | exact KS.out _ HB4.out | exact KS.out _ HB5.out | exact KS.out _ (HB5.out.alloc HB5.out.size _) | exact KS.out _ (below_drewN HB4.out _))
                    (first
                      | (go_at_call 166; (with_reducible refine (HW96.out _ _ HBa.out HXa.out).mono ?_); (rintro e w3 ⟨G, cg, rfl, ho, hb⟩; have HG := Lib.hid ho; have HB3 := Lib.hid (HBa.out.trans (hb.mono HBa.out.size)); clear ho hb))
                      | (go_at_call 167; (with_reducible refine (HW97.out _ HB3.out).mono ?_); (rintro e w4 ⟨gs, cs, rfl, ho, hb⟩; have HGS := Lib.hid (owns_Rd ho); have HG2 := Lib.hid (HG.out.below hb); have HB4 := Lib.hid (HB3.out.trans (hb.mono HB3.out.size)); clear ho hb))
                      | (go_at_call 167; (with_reducible refine (HW97.out _ HBa.out).mono ?_); (rintro e w3 ⟨gs, cs, rfl, ho, hb⟩; have HGS3 := Lib.hid (owns_Rd ho); have HX3 := Lib.hid (HXa.out.below hb); have HB3' := Lib.hid (HBa.out.trans (hb.mono HBa.out.size)); have HB3 := HB3'; clear ho hb))
                      | (go_at_call 166; (with_reducible refine (HW96.out _ _ HB3'.out HX3.out).mono ?_); (rintro e w4 ⟨G, cg, rfl, ho, hb⟩; have HG2 := Lib.hid ho; have HGS := Lib.hid (HGS3.out.below hb); have HB4 := Lib.hid (HB3'.out.trans (hb.mono HB3'.out.size)); clear ho hb))
                      | (go_at_call 167; (with_reducible refine (HW97.out _ HBd.out).mono ?_); (rintro e w3 ⟨gs, cs, rfl, ho, hb⟩; have HGS5 := Lib.hid (owns_Rd ho); have HB5 := Lib.hid (HBd.out.trans (hb.mono HBd.out.size)); clear ho hb))
                      | (go_at_call 166; (with_reducible refine (HW96.out _ _ (HB5.out.alloc HB5.out.size _) (two_ints w3 a b)).mono ?_); (rintro e w4 ⟨G, cg, rfl, ho, hb⟩; have HG2 := Lib.hid ho; have HGS := Lib.hid ((HGS5.out.alloc _).below hb); have HB4 := Lib.hid ((HB5.out.alloc HB5.out.size _).trans (hb.mono (HB5.out.alloc HB5.out.size _).size)); clear ho hb))
                      | (go_at_call 165; (with_reducible refine (HW95.out _ _ _ _ _ HG2.out HGS.out).mono ?_); (rintro e w5 ⟨rfl, mm, rfl⟩)))
                · all_goals
                    have HF := Lib.hid (HNO.out (fun h => absurd (HOKA.out.1 h) (of_decide_eq_false HDEC.out)))
                    go_wp2_with fail
                    go_ret
                    exact ⟨_, 3, 3, rfl, ⟨fun h => by omega, fun h => absurd h HF.out⟩, ((below_drewN (HBz.out.trans (HB4.out.mono hszz)) _).alloc (by have := HB4.out.size; show _ ≤ w4.heap.size; omega) _)⟩
                · all_goals
                    have HF := Lib.hid (HT.out (HOKA.out.2 (of_decide_eq_true HDEC.out)))
                    go_wp2_with fail
                    go_roundw
                    case rel => exact ⟨v + 1, by omega, by go_num, HF, below_drewN (HB2.out.trans (HB4.out.mono HB2.out.size)) _⟩
                    case measure => simp [intOf]; omega
              · obtain rfl : v = n := by omega
                have HB2 := Lib.hid (HB1.out.trans (hbel.mono HB1.out.size))
                have HK2 := Lib.hid (blk_kept HK1.out hbel)
                clear hbel
                go_wp2_with fail
                go_roundw
                case rel =>
                  refine ⟨b + 1, by omega, by omega, by go_num, Lib.hid (fun b' i h1 h2 hi => ?_), HK2.out, HB2.out⟩
                  by_cases e : b' = b
                  · subst e; exact HOV.out i hi
                  · exact HOB.out b' i h1 (by omega) hi
                case measure => simp [intOf]; omega
          · have hlt2' : ¬ (a : Int) + b ≤ (S : Int) := by omega
            clear hblk hbel
            go_wp2_with fail
            go_roundw
            case rel =>
              refine ⟨a + 1, by omega, by omega, by go_num, Lib.hid (fun a' b' i h1 h2 h3 hi => ?_), HBK.out, HBL.out⟩
              by_cases e : a' = a
              · subst e
                by_cases e2 : b' < b
                · exact HOB.out b' i h3 e2 hi
                · exact HFAR.out _ b' i hi h3 (by omega)
              · exact HOA.out a' b' i h1 (by omega) h3 hi
            case measure => simp [intOf]; omega
      · have HEND := Lib.hid (fun (a' b i : Nat) (h1 : 1 ≤ a') (h2 : a' < 2 * b) (hi : i < n) => show OkAt (dat L) a' b (2 ^ i) from by
          by_cases h : a' < a
          · exact HOA.out a' b i h1 h h2 hi
          · exact HFAR.out a' b i hi h2 (by omega))
        have HOK : Hid (IsMod xs (dat L)) := Lib.hid ⟨HS.out, fun a' b h1 h2 _ i hi => HEND.out a' b i h1 h2 (by rw [HNX.out]; exact hi)⟩
        clear hblk hbel
        go_wp2_with fail
        go_ret
        exact ⟨none, 0, 0, rfl, ⟨fun _ => HOK.out, fun _ => rfl⟩, HBL.out⟩
end Go.Proofs.YtdkmdmpaflgfaaaGreatDoor

namespace Go.Proofs.YtdkmdmpaflgfaaaGreatDoor
open Go.RowKit

theorem modB_yes {xs : List Int} {Q : List (List Int)} (h : IsMod xs Q) : modB xs Q = true := modB_iff.2 h
theorem modB_no {xs : List Int} {Q : List (List Int)} (h : ¬ IsMod xs Q) : modB xs Q = false := modB_false.2 h
theorem shpB_iff {xs : List Int} {Q : List (List Int)} : shpB xs Q = true ↔ Shp xs Q := by unfold shpB; simp
theorem shpB_not {xs : List Int} {Q : List (List Int)} (h : shpB xs Q = false) : ¬ Shp xs Q := fun h' => by rw [shpB_true h'] at h; cases h

set_option maxHeartbeats 1000000 in
theorem l11Is_any (A A' : Option Addr) (n c m c' : Nat) (xs : List Int) (L : List Row) (w : World) (hn : n = xs.length) (hsm : n ≤ 1048576) (hR : Rd w A (iv xs)) (hm : m = L.length) (hm1 : m ≤ 1048576) (hl : ∀ i, i < L.length → (rg L i).xs.length ≤ 1048576) (hR' : RdR w A' L) :
    Calls Tryz.prog 86 #[.agg #[.slice A n c, .slice A' m c']] w fun e w' => e = .returned (.bool (modB xs (dat L))) ∧ Below w.heap.size w w' := by
  have hb0 : Below w.heap.size w (w.alloc (.cells #[.slice A n c, .slice A' m c'] 30)) := (Below.refl _ _).alloc (Nat.le_refl _) _
  have hk0 := blk_new w (.cells #[.slice A n c, .slice A' m c'] 30)
  obtain ⟨x0, x1, xf0, xf1, lx⟩ := blk2cells hk0
  have HSH := Lib.hid (l11Shape_any A A' n c m c' xs L _ hn hsm (hR.below hb0) hm hm1 hl (hR'.below hb0))
  have HB0 := Lib.hid hb0
  have HK0 := Lib.hid hk0
  cases hs : shpB xs (dat L)
  · rw [hs] at HSH
    have HF := Lib.hid (modB_no (fun h => shpB_not hs h.shp))
    clear hb0 hk0 hn hR hm hl hR' hs
    go_enter Tryz.func86, Tryz.ntmps86
    go_wp2_with (go_at_call 117; refine HSH.out.mono ?_; rintro e w1 ⟨rfl, hb⟩; have HB1 := Lib.hid (HB0.out.trans (hb.mono HB0.out.size)); clear hb)
    go_ret
    exact ⟨by rw [HF.out]; rfl, HB1.out⟩
  · rw [hs] at HSH
    have HFA := Lib.hid (fun W (hb : Below w.heap.size w W) => l11Fault_any A A' n c m c' xs L W hn (hR.below hb) hm hm1 (hR'.below hb) (shpB_iff.1 hs))
    clear hb0 hk0 hn hR hm hl hR' hs
    go_enter Tryz.func86, Tryz.ntmps86
    go_wp2_with fail
    refine HSH.out.mono ?_
    rintro e w1 ⟨rfl, hb⟩
    have HB1 := Lib.hid (HB0.out.trans (hb.mono HB0.out.size))
    have HK1 := Lib.hid (blk_kept HK0.out hb)
    clear hb x0 x1 xf0 xf1 lx
    obtain ⟨x0, x1, xf0, xf1, lx⟩ := blk2cells HK1.out
    go_wp2_with fail
    refine (HFA.out _ HB1.out).mono ?_
    rintro e w2 ⟨F, k, cap, rfl, hiff, hb⟩
    have HB2 := Lib.hid (HB1.out.trans (hb.mono HB1.out.size))
    have HI := Lib.hid hiff
    clear hb hiff
    by_cases hk : k = 0
    · have HT := Lib.hid (modB_yes (HI.out.1 hk))
      have hkb : ((k : Int) == 0) = true := by rw [hk]; rfl
      clear hk
      go_wp2_with fail
      go_ret
      exact ⟨by rw [HT.out]; rfl, HB2.out⟩
    · have HT := Lib.hid (modB_no (fun h => hk (HI.out.2 h)))
      have hkb : ((k : Int) == 0) = false := by simp; omega
      clear hk
      go_wp2_with fail
      go_ret
      exact ⟨by rw [HT.out]; rfl, HB2.out⟩
end Go.Proofs.YtdkmdmpaflgfaaaGreatDoor
