/- the reference's l03Form at two squares, l11Fault, l11Is · the reference's l11Fault, l11Is · the reference's l11Is · the reference's l11Counts, l01Index, l01Own2 · plain: the greatest term of the element of an admissible word; words are independent · plain: elements as sums of admissible words: there is one way, and the elimination finds it · plain: the order from the right as the program compares; how many lists of a degree, how long products · contracts of slices.SortFunc and cmp.Compare, laid at this dump (printed by lay.sh, turned into a template by mksl.py) -/
import Derived.Test.YtdkmdmpaflgfaaaGreatDoorBxai
import Derived.Test.YtdkmdmpaflgfaaaGreatDoorBxaj
import Derived.Test.YtdkmdmpaflgfaaaGreatDoorBxad
import Derived.Shelf.SlicesE.Reverse
import Derived.Shelf.SlicesE.Equal
import Derived.Test.YtdkmdmpaflgfaaaGreatDoorProg
set_option linter.all false
namespace Go.Proofs.YtdkmdmpaflgfaaaGreatDoor
open Go.RowKit

def formK (a b k : Nat) : List (List Int) := if k = 2 then [[]] else if k = 1 then [[(b : Int)]] else ademF a b
theorem row0_own (w : World) : OwnR ((w.alloc (.cells #[] 2)).alloc (.cells #[.slice (some ⟨w.heap.size, 0, none⟩) 0 0] 22)) w.heap.size (.slice (some ⟨w.heap.size + 1, 0, none⟩) 1 1) [⟨some ⟨w.heap.size, 0, none⟩, 0, []⟩] := by
  refine OwnR.one ?_ ?_
  · have := row_cell (w.alloc (.cells #[] 2)) (.slice (some ⟨w.heap.size, 0, none⟩) 0 0) (B := w.heap.size) (by simp)
    rw [show (w.alloc (.cells #[] 2)).heap.size = w.heap.size + 1 by simp] at this
    exact this
  · exact (World.ownsRow_made w #[] 0 (Nat.le_refl _) (by decide) (by simp)).alloc _

set_option maxRecDepth 100000 in
set_option maxHeartbeats 2000000 in
theorem form_any (a b : Nat) (A : Option Addr) (c : Nat) (w : World) (ha : 1 ≤ a) (hab : a < 2 * b) (hb1 : a + b ≤ 100) (hR : Rd w A (iv [(a : Int), (b : Int)])) :
    Calls Tryz.prog 164 #[.slice A 2 c] w (ResRows (ademF a b) w) := by
  obtain ⟨bA, oA, rfl, hx0⟩ := hR.atI (k := 0) (by simp)
  have hx1 := hR.cellI (k := 1) (by simp)
  rw [Nat.add_zero] at hx0
  simp only [List.getD_cons_zero, List.getD_cons_succ] at hx0 hx1
  have HKP := Lib.hid (fun w' (h : Below w.heap.size w w') => show w'.cell? ⟨bA, oA, none⟩ = some (.int .i64 a) ∧ w'.cell? ⟨bA, oA + 1, none⟩ = some (.int .i64 b) from ⟨cell_keep hx0 h, cell_keep hx1 h⟩)
  have HR0 := Lib.hid (row0_own w)
  clear hR hx0 hx1
  go_enter Tryz.func164, Tryz.ntmps164
  go_wp2_with fail
  go_loopw [3, 4] (fun v s4 wr => ∃ k : Nat, ∃ A1 c1, ∃ r : Row, ∃ M : List Row, k ≤ 2 ∧ s4 = .int .i64 ((k : Int) - 1) ∧ v = .slice A1 M.length c1 ∧ Hid (k ≠ 0 → M = [r] ∧ r.xs.length ≤ r.c) ∧ Hid (dat M = formK a b k) ∧ OwnR wr w.heap.size (.slice A1 M.length c1) M ∧ Below w.heap.size w wr) (fun _ i _ => (intOf i + 1).toNat)
  case atStart => exact ⟨2, some ⟨w.heap.size + 1, 0, none⟩, 1, _, [⟨some ⟨w.heap.size, 0, none⟩, 0, []⟩], by omega, rfl, rfl, Lib.hid (fun _ => ⟨rfl, by simp⟩), Lib.hid rfl, HR0.out, ((Below.refl _ _).alloc (Nat.le_refl _) _).alloc (by simp) _⟩
  case round =>
    obtain ⟨k, A1, c1, r, M, hk, rfl, rfl, HZ, HD, hown, hbel⟩ := hrel
    have HBL := Lib.hid hbel
    have hsz := hbel.size
    obtain ⟨y0, y1⟩ := HKP.out wr hbel
    rcases (show k = 0 ∨ k = 1 ∨ k = 2 by omega) with rfl | rfl | rfl
    · have HO := Lib.hid hown
      have HD1 : Hid (dat M = ademF a b) := Lib.hid HD.out
      clear hown hbel
      go_wp2_with fail
      go_ret
      exact ⟨_, M, rfl, HD1.out, HO.out, HBL.out⟩
    · obtain ⟨rfl, hcap⟩ := HZ.out (by omega)
      obtain ⟨rA, rc, rx⟩ := r
      have hrx : rx = [(b : Int)] := by have := HD.out; simpa [dat, formK] using this
      subst hrx
      have HC := Lib.hid (left_adem a b A1 rA c1 rc wr ha hab hb1 hcap (hown.rd rfl))
      clear hown hbel hcap
      go_wp2_with fail
      refine HC.out.mono ?_
      rintro e w1 ⟨v1, M1, rfl, hd1, ho1, hb1'⟩
      obtain ⟨A3, c3, rfl, _, himp, heq⟩ := owns_shape ho1.out
      clear himp heq
      have HD3 : Hid (dat M1 = formK a b 0) := Lib.hid hd1
      have HO3 := Lib.hid (ho1.mono hsz)
      have HB3 := Lib.hid (HBL.out.trans (hb1'.mono hsz))
      clear hd1 ho1 hb1'
      go_wp2_with fail
      go_roundw
      case rel => exact ⟨0, A3, c3, ⟨none, 0, []⟩, M1, by omega, rfl, rfl, Lib.hid (fun h => absurd rfl h), HD3, HO3.out, HB3.out⟩
      case measure => simp [intOf]
    · obtain ⟨rfl, hcap⟩ := HZ.out (by omega)
      obtain ⟨rA, rc, rx⟩ := r
      have hrx : rx = [] := by have := HD.out; simpa [dat, formK] using this
      subst hrx
      have HC := Lib.hid (left_put (b : Int) A1 rA c1 rc [] wr (by omega) (by omega) (by simp) (by simp) (.inr (.inl rfl)) (hown.rd rfl))
      have HFB : Hid (frontL (b : Int) [] = [(b : Int)]) := Lib.hid (by unfold frontL; rw [if_neg (by omega)])
      rw [HFB.out] at HC
      clear hown hbel hcap
      go_wp2_with fail
      refine HC.out.mono ?_
      rintro e w1 ⟨v1, M1, rfl, hd1, ho1, hb1'⟩
      obtain ⟨r1, rfl, hr1⟩ := rows_one hd1
      obtain ⟨A3, c3, rfl, _, himp, heq⟩ := owns_shape ho1.out
      clear himp heq
      have HD3 : Hid (dat [r1] = formK a b 1) := Lib.hid hd1
      have HCAP := Lib.hid ((ho1.rd (n := 1) rfl).cap 0 (by simp))
      have HO3 := Lib.hid (ho1.mono hsz)
      have HB3 := Lib.hid (HBL.out.trans (hb1'.mono hsz))
      clear hd1 ho1 hb1' hr1
      go_wp2_with fail
      go_roundw
      case rel => exact ⟨1, A3, c3, r1, [r1], by omega, rfl, rfl, Lib.hid (fun _ => ⟨rfl, HCAP.out⟩), HD3, HO3.out, HB3.out⟩
      case measure => simp [intOf]
end Go.Proofs.YtdkmdmpaflgfaaaGreatDoor

namespace Go.Proofs.YtdkmdmpaflgfaaaGreatDoor
open Go.RowKit

theorem two_ints (w : World) (a b : Int) : Rd (w.alloc (.cells #[.int .i64 a, .int .i64 b] 2)) (some ⟨w.heap.size, 0, none⟩) (iv [a, b]) := by
  have h : (w.alloc (.cells #[.int .i64 a, .int .i64 b] 2)).ownsRow w.heap.size 2 1 (.slice (some ⟨w.heap.size, 0, none⟩) 2 2) 2 (iv [a, b]) :=
    ⟨by simp [iv], .inr ⟨w.heap.size, 2, _, rfl, Nat.le_refl _, blk_new w _, Nat.le_refl _, by decide, by simp, by simp [iv]⟩⟩
  exact owns_Rd h
/-- no fault: no list -/
def FaultPost (ok : Prop) (w : World) (e : Ending) (w' : World) : Prop := ∃ A k cap, e = .returned (.slice A k cap) ∧ (k = 0 ↔ ok) ∧ Below w.heap.size w w'
theorem bits_same (x y n : Nat) (hx : x < 2 ^ n) (hy : y < 2 ^ n) : (bitsL x n == bitsL y n) = decide (x = y) := by
  rw [Bool.eq_iff_iff, beq_iff_eq, decide_eq_true_eq]
  exact ⟨bitsL_inj hx hy, fun h => by rw [h]⟩
theorem wordM_lt {xs : List Int} {Q : List (List Int)} (h : Shp xs Q) {v : Nat} (hv : v < 2 ^ xs.length) : ∀ ws, wordM Q ws v < 2 ^ xs.length
  | [] => hv
  | z :: ws => act_lt h (wordM_lt h hv ws) z
theorem xsumf_lt {α : Type} {n : Nat} (f : α → Nat) : ∀ (l : List α), (∀ a ∈ l, f a < 2 ^ n) → xsumf f l < 2 ^ n
  | [], _ => Nat.two_pow_pos _
  | a :: l, h => by rw [xsumf_cons]; exact xr_lt (h a (List.mem_cons_self ..)) (xsumf_lt f l fun b hb => h b (List.mem_cons_of_mem _ hb))
theorem ademF_row (a b : Nat) : ∀ x ∈ ademF a b, x.length ≤ 2 := ademP_row a b (a / 2 + 1)
theorem ademF_len (a b : Nat) : (ademF a b).length ≤ a / 2 + 1 := ademP_len a b (a / 2 + 1)
theorem wordM2 (Q : List (List Int)) (a b v : Nat) : wordM Q [(a : Int), (b : Int)] v = act Q a (act Q b v) := rfl

set_option maxRecDepth 100000 in
set_option maxHeartbeats 4000000 in
theorem l11Fault_any (A A' : Option Addr) (n c m c' : Nat) (xs : List Int) (L : List Row) (w : World) (hn : n = xs.length) (hR : Rd w A (iv xs)) (hm : m = L.length) (hm1 : m ≤ 1048576) (hR' : RdR w A' L) (hs : Shp xs (dat L)) :
    Calls Tryz.prog 118 #[.agg #[.slice A n c, .slice A' m c']] w (FaultPost (IsMod xs (dat L)) w) := by
  have hn16 : n ≤ 16 := by rw [hn]; exact hs.len
  by_cases h0 : n = 0
  · have h0b : ((n : Int) == 0) = true := by rw [h0]; rfl
    have HOK : Hid (IsMod xs (dat L)) := Lib.hid ⟨hs, fun a b _ _ _ i hi => by omega⟩
    clear hR hm hR' hs hn h0
    go_enter Tryz.func118, Tryz.ntmps118
    go_wp2_with fail
    go_ret
    exact ⟨none, 0, 0, rfl, ⟨fun _ => HOK.out, fun _ => rfl⟩, (Below.refl _ _).alloc (Nat.le_refl _) _⟩
  · have h0b : ((n : Int) == 0) = false := by simp; omega
    obtain ⟨bA, oA, rfl, hc0⟩ := hR.atI (k := 0) (by omega)
    have hc1 := hR.cellI (k := n - 1) (by omega)
    rw [Nat.add_zero] at hc0
    obtain ⟨p1, p2⟩ := hs.deg 0 (by omega)
    obtain ⟨q1, q2⟩ := hs.deg (n - 1) (by omega)
    have hmn := hs.mono' (i := 0) (j := n - 1) (by omega) (by omega)
    obtain ⟨S, hS⟩ : ∃ S : Nat, (S : Int) = xs.getD (n - 1) 0 - xs.getD 0 0 := ⟨(xs.getD (n - 1) 0 - xs.getD 0 0).toNat, by omega⟩
    have HSP := Lib.hid hS
    have HFAR := Lib.hid (fun (a b i : Nat) (hi : i < n) (hab : a < 2 * b) (hf : S < a + b) => far_ok hs (a := a) (b := b) (i := i) (by omega) hab (fun j hj => by
      have h1 := hs.mono' (i := j) (j := n - 1) (by omega) (by omega)
      have h2 := hs.mono' (i := 0) (j := i) (by omega) (by omega)
      omega))
    have HNX := Lib.hid (show n = xs.length from hn)
    have hwi : IntKind.i64.wrap ((n : Int) - 1) = (n : Int) - 1 := by rw [IntKind.wrap_i64]; omega
    have hwi2 : ((n : Int) - 1).toNat = n - 1 := by omega
    have hwi3 : 0 ≤ (n : Int) - 1 := by omega
    have hwi4 : (n : Int) - 1 < (n : Int) := by omega
    have hwd : IntKind.i64.wrap (xs.getD (n - 1) 0 - xs.getD 0 0) = S := by rw [IntKind.wrap_i64]; omega
    have hS20 : S ≤ 20 := by omega
    have HS := Lib.hid hs
    have HWORD := Lib.hid (fun (V X : Option Addr) (cv cx : Nat) (ws : List Int) (v : Nat) W' (hb : Below w.heap.size w W') hk hV hX => l11Word_any (some ⟨bA, oA, none⟩) A' V X n c m c' cv 2 cx xs ws L v W' hn hm hs hm1 hk (by omega) (hR'.below hb) hV hX)
    have HWORDS := Lib.hid (fun (V X : Option Addr) (cv k cx : Nat) (M : List Row) (v : Nat) W' (hb : Below w.heap.size w W') hk hk1 hwl hV hX => l11Words_any (some ⟨bA, oA, none⟩) A' V X n c m c' cv k cx xs L M v W' hn hm hs hm1 hk hk1 hwl (hR'.below hb) hV hX)
    obtain ⟨x0, x1, xf0, xf1, lx⟩ := blk2cells (blk_new w (.cells #[.slice (some ⟨bA, oA, none⟩) n c, .slice A' m c'] 30))
    have hb0 : Below w.heap.size w (w.alloc (.cells #[.slice (some ⟨bA, oA, none⟩) n c, .slice A' m c'] 30)) := (Below.refl _ _).alloc (Nat.le_refl _) _
    have hcc0 := cell_keep hc0 hb0
    have hcc1 := cell_keep hc1 hb0
    generalize xs.getD 0 0 = d0 at *
    generalize xs.getD (n - 1) 0 = d1 at *
    clear hR hm hR' hs hn h0 hS hc0 hc1 hb0 hmn
    go_enter Tryz.func118, Tryz.ntmps118
    go_wp2_with fail
    go_big_quiet (fail)
    have HB0 : Hid (Below w.heap.size w ((w.alloc (.cells #[.slice (some ⟨bA, oA, none⟩) n c, .slice A' m c'] 30)).drewN nq)) := Lib.hid (below_drewN ((Below.refl _ _).alloc (Nat.le_refl _) _) _)
    have HK0 : Hid (((w.alloc (.cells #[.slice (some ⟨bA, oA, none⟩) n c, .slice A' m c'] 30)).drewN nq).heap[w.heap.size]? = some (.cells #[.slice (some ⟨bA, oA, none⟩) n c, .slice A' m c'] 30 (0, 0))) := Lib.hid (blk_new w _)
    generalize (w.alloc (.cells #[.slice (some ⟨bA, oA, none⟩) n c, .slice A' m c'] 30)).drewN nq = W0 at *
    clear hwi hwi2 hwi3 hwi4 hwd x0 x1 xf0 xf1 lx hcc0 hcc1 HSP p1 p2 q1 q2 h0b
    go_wp2_with fail
    go_loopw [5] (fun s5 wr => ∃ a : Nat, 1 ≤ a ∧ a ≤ S + 1 ∧ s5 = .int .i64 a ∧ Hid (∀ a' b i : Nat, 1 ≤ a' → a' < a → a' < 2 * b → i < n → OkAt (dat L) a' b (2 ^ i)) ∧ wr.heap[w.heap.size]? = some (.cells #[.slice (some ⟨bA, oA, none⟩) n c, .slice A' m c'] 30 (0, 0)) ∧ Below w.heap.size w wr) (fun i _ => S + 1 - (intOf i).toNat)
    case atStart => exact ⟨1, by omega, by omega, rfl, Lib.hid (fun a' b i h1 h2 => by omega), HK0.out, HB0.out⟩
    case round =>
      obtain ⟨a, ha1, haS, rfl, HOA, hblk, hbel⟩ := hrel
      have HBL := Lib.hid hbel
      have HBK := Lib.hid hblk
      by_cases hlt : a ≤ S
      · have HDV : Hid (a / 2 + a / 2 ≤ a ∧ a < 2 * (a / 2 + 1)) := Lib.hid (by omega)
        clear hblk hbel
        go_wp2_with fail
        go_loopw [6] (fun s6 wr => ∃ b : Nat, a < 2 * b ∧ b ≤ S + 1 ∧ s6 = .int .i64 b ∧ Hid (∀ b' i : Nat, a < 2 * b' → b' < b → i < n → OkAt (dat L) a b' (2 ^ i)) ∧ wr.heap[w.heap.size]? = some (.cells #[.slice (some ⟨bA, oA, none⟩) n c, .slice A' m c'] 30 (0, 0)) ∧ Below w.heap.size w wr) (fun i _ => S + 1 - (intOf i).toNat)
        case atStart => exact ⟨a / 2 + 1, by omega, by omega, congrArg (Value.int .i64) (by omega), Lib.hid (fun b' i h1 h2 => by omega), HBK.out, HBL.out⟩
        case round =>
          obtain ⟨b, hb2, hbS, rfl, HOB, hblk, hbel⟩ := hrel
          have HBL := Lib.hid hbel
          have HBK := Lib.hid hblk
          have hsz := hbel.size
          by_cases hlt2 : a + b ≤ S
          · have hlt2' : (a : Int) + b ≤ (S : Int) := by omega
            have HF := Lib.hid (form_any a b (some ⟨wr.heap.size, 0, none⟩) 2 (wr.alloc (.cells #[.int .i64 a, .int .i64 b] 2)) ha1 hb2 (by omega) (two_ints wr a b))
            obtain ⟨WR, rfl⟩ : ∃ WR, WR = wr := ⟨wr, rfl⟩
            clear hblk hbel
            go_wp2_with fail
            refine HF.out.mono ?_
            rintro e w1 ⟨v1, M1, rfl, hd1, ho1, hb1⟩
            obtain ⟨A3, c3, rfl, _, himp, heq⟩ := owns_shape ho1.out
            clear himp heq
            have HB1 := Lib.hid (HBL.out.trans ((((Below.refl WR.heap.size WR).alloc (Nat.le_refl _) (.cells #[.int .i64 a, .int .i64 b] 2)).trans (hb1.mono (by simp))).mono hsz))
            have HK1 := Lib.hid (blk_kept (blk_kept HBK.out ((Below.refl WR.heap.size WR).alloc (Nat.le_refl _) (.cells #[.int .i64 a, .int .i64 b] 2))) hb1)
            have HD1 := Lib.hid hd1
            have HRW := Lib.hid (ho1.rd rfl)
            have hMl : M1.length ≤ 100 := by have := ademF_len a b; rw [← hd1, dat_length] at this; omega
            have HWL := Lib.hid (row_getD_len hd1 (fun x hx => Nat.le_trans (ademF_row a b x hx) (show 2 ≤ 1048576 by omega)))
            clear hd1 ho1 hb1
            go_wp2_with fail
            go_loopw [8] (fun s8 wr => ∃ v : Nat, v ≤ n ∧ s8 = .int .i64 v ∧ Hid (∀ i : Nat, i < v → OkAt (dat L) a b (2 ^ i)) ∧ Below w1.heap.size w1 wr) (fun i _ => n - (intOf i).toNat)
            case atStart => exact ⟨0, by omega, rfl, Lib.hid (fun i h => by omega), Below.refl _ _⟩
            case round =>
              obtain ⟨v, hv, rfl, HOV, hbel⟩ := hrel
              by_cases hlt3 : v < n
              · have HU := Lib.hid (l11Unit_any n v wr hlt3 (by omega))
                have HBV := Lib.hid hbel
                clear hbel
                go_wp2_with fail
                refine HU.out.mono ?_
                rintro e w2 ⟨gu, cu, rfl, ho, hb⟩
                have HB2 := Lib.hid (HBV.out.trans (hb.mono HBV.out.size))
                have HUR := Lib.hid (owns_Rd ho)
                clear ho hb
                go_wp2_with fail
                have HBz := Lib.hid (HB1.out.trans (HB2.out.mono HB1.out.size))
                have HKz := Lib.hid (blk_kept HK1.out HB2.out)
                have HRz := Lib.hid (HRW.out.below HB2.out)
                have hszz := HBz.out.size
                have HXW : Hid (wordM (dat L) [(a : Int), (b : Int)] (2 ^ v) < 2 ^ n) := Lib.hid (by have := wordM_lt HS.out (v := 2 ^ v) (pow_lt_pow (by rw [← HNX.out]; exact hlt3)) [(a : Int), (b : Int)]; rw [← HNX.out] at this; exact this)
                have HXS : Hid (adem (dat L) a b (2 ^ v) < 2 ^ n) := Lib.hid (by
                  rw [← adem_form]
                  refine xsumf_lt _ _ fun u _ => ?_
                  have := wordM_lt HS.out (v := 2 ^ v) (pow_lt_pow (by rw [← HNX.out]; exact hlt3)) u
                  rw [← HNX.out] at this; exact this)
                have HOKA : Hid (OkAt (dat L) a b (2 ^ v) ↔ wordM (dat L) [(a : Int), (b : Int)] (2 ^ v) = adem (dat L) a b (2 ^ v)) := Lib.hid Iff.rfl
                have HW96 := Lib.hid (fun W' X (hb : Below w2.heap.size w2 W') hX => HWORD.out (some ⟨gu, 0, none⟩) X cu 2 [(a : Int), (b : Int)] (2 ^ v) W' (HBz.out.trans (hb.mono hszz)) rfl (HUR.out.below hb) hX)
                have HW97 := Lib.hid (fun W' (hb : Below w2.heap.size w2 W') => HWORDS.out (some ⟨gu, 0, none⟩) A3 cu M1.length c3 M1 (2 ^ v) W' (HBz.out.trans (hb.mono hszz)) rfl (by omega) HWL.out (HUR.out.below hb) (HRz.out.below hb))
                rw [HD1.out] at HW97
                simp only [adem_form] at HW97
                generalize wordM (dat L) [(a : Int), (b : Int)] (2 ^ v) = XW at *
                generalize adem (dat L) a b (2 ^ v) = XS at *
                have HW95 := Lib.hid (fun W' G G' c1 c2 hX hY => l01Same_any G G' n n c1 c2 (bitsL XW n) (bitsL XS n) W' (bitsL_length _ _).symm (bitsL_length _ _).symm (by omega) (by omega) hX hY)
                rw [bits_same XW XS n HXW.out HXS.out] at HW95
                have KS := Lib.hid (fun w' (hb : Below w2.heap.size w2 w') => show w'.cell? ⟨w.heap.size, 0, none⟩ = some (.slice (some ⟨bA, oA, none⟩) n c) ∧ w'.cell? ⟨w.heap.size, 1, none⟩ = some (.slice A' m c') from ⟨(blk2cells (blk_kept HKz.out hb)).1, (blk2cells (blk_kept HKz.out hb)).2.1⟩)
                have HBd := Lib.hid (Below.drew (Below.refl w2.heap.size w2))
                have HBa : Hid (Below w2.heap.size w2 (w2.alloc (.cells #[.int .i64 a, .int .i64 b] 2)).drew) := Lib.hid ((Below.refl _ _).alloc (Nat.le_refl _) _).drew
                have HXa : Hid (Rd (w2.alloc (.cells #[.int .i64 a, .int .i64 b] 2)).drew (some ⟨w2.heap.size, 0, none⟩) (iv [(a : Int), (b : Int)])) := Lib.hid (two_ints w2 a b)
                have HT := Lib.hid (fun (h : OkAt (dat L) a b (2 ^ v)) (i : Nat) (hi : i < v + 1) => show OkAt (dat L) a b (2 ^ i) from by
                  by_cases e : i = v
                  · subst e; exact h
                  · exact HOV.out i (by omega))
                have HNO := Lib.hid (fun (h : ¬ OkAt (dat L) a b (2 ^ v)) => show ¬ IsMod xs (dat L) from fun hm => h (hm.ok a b ha1 hb2 (by omega) v (by rw [← HNX.out]; exact hlt3)))
                have hba : a + b ≤ 20 := by omega
                clear HWORD HWORDS HF HFAR HOA HOB HOV
                cases hdec : decide (XW = XS)
                all_goals
                  rw [hdec] at HW95
                  have HDEC := Lib.hid hdec
                  clear hdec
                  go_region_held3 (fun w' => w'.cell? ⟨w.heap.size, 0, none⟩ = some (.slice (some ⟨bA, oA, none⟩) n c) ∧ w'.cell? ⟨w.heap.size, 1, none⟩ = some (.slice A' m c'))
                    (first | exact KS.out _ HBa.out | exact KS.out _ HBd.out | exact KS.out _ HB3.out | exact KS.out _ HB4.out | exact KS.out _ HB5.out | exact KS.out _ (HB5.out.alloc HB5.out.size _) | exact KS.out _ (below_drewN HB4.out _))
                    (first
                      | (go_at_call 166; (with_reducible refine (HW96.out _ _ HBa.out HXa.out).mono ?_); (rintro e w3 ⟨G, cg, rfl, ho, hb⟩; have HG := Lib.hid ho; have HB3 := Lib.hid (HBa.out.trans (hb.mono HBa.out.size)); clear ho hb))
                      | (go_at_call 167; (with_reducible refine (HW97.out _ HB3.out).mono ?_); (rintro e w4 ⟨gs, cs, rfl, ho, hb⟩; have HGS := Lib.hid (owns_Rd ho); have HG2 := Lib.hid (HG.out.below hb); have HB4 := Lib.hid (HB3.out.trans (hb.mono HB3.out.size)); clear ho hb))
                      | (go_at_call 167; (with_reducible refine (HW97.out _ HBa.out).mono ?_); (rintro e w3 ⟨gs, cs, rfl, ho, hb⟩; have HGS3 := Lib.hid (owns_Rd ho); have HX3 := Lib.hid (HXa.out.below hb); have HB3' := Lib.hid (HBa.out.trans (hb.mono HBa.out.size)); have HB3 := HB3'; clear ho hb))
                      | (go_at_call 166; (with_reducible refine (HW96.out _ _ HB3'.out HX3.out).mono ?_); (rintro e w4 ⟨G, cg, rfl, ho, hb⟩; have HG2 := Lib.hid ho; have HGS := Lib.hid (HGS3.out.below hb); have HB4 := Lib.hid (HB3'.out.trans (hb.mono HB3'.out.size)); clear ho hb))
                      | (go_at_call 167; (with_reducible refine (HW97.out _ HBd.out).mono ?_); (rintro e w3 ⟨gs, cs, rfl, ho, hb⟩; have HGS5 := Lib.hid (owns_Rd ho); have HB5 := Lib.hid (HBd.out.trans (hb.mono HBd.out.size)); clear ho hb))
                      | (go_at_call 166; (with_reducible refine (HW96.out _ _ (HB5.out.alloc HB5.out.size _) (two_ints w3 a b)).mono ?_); (rintro e w4 ⟨G, cg, rfl, ho, hb⟩; have HG2 := Lib.hid ho; have HGS := Lib.hid ((HGS5.out.alloc _).below hb); have HB4 := Lib.hid ((HB5.out.alloc HB5.out.size _).trans (hb.mono (HB5.out.alloc HB5.out.size _).size)); clear ho hb))
                      | (go_at_call 165; (with_reducible refine (HW95.out _ _ _ _ _ HG2.out HGS.out).mono ?_); (rintro e w5 ⟨rfl, mm, rfl⟩)))
                · all_goals
                    have HF := Lib.hid (HNO.out (fun h => absurd (HOKA.out.1 h) (of_decide_eq_false HDEC.out)))
                    go_wp2_with fail
                    go_ret
                    exact ⟨_, 3, 3, rfl, ⟨fun h => by omega, fun h => absurd h HF.out⟩, ((below_drewN (HBz.out.trans (HB4.out.mono hszz)) _).alloc (by have := HB4.out.size; show _ ≤ w4.heap.size; omega) _)⟩
                · all_goals
                    have HF := Lib.hid (HT.out (HOKA.out.2 (of_decide_eq_true HDEC.out)))
                    go_wp2_with fail
                    go_roundw
                    case rel => exact ⟨v + 1, by omega, by go_num, HF, below_drewN (HB2.out.trans (HB4.out.mono HB2.out.size)) _⟩
                    case measure => simp [intOf]; omega
              · obtain rfl : v = n := by omega
                have HB2 := Lib.hid (HB1.out.trans (hbel.mono HB1.out.size))
                have HK2 := Lib.hid (blk_kept HK1.out hbel)
                clear hbel
                go_wp2_with fail
                go_roundw
                case rel =>
                  refine ⟨b + 1, by omega, by omega, by go_num, Lib.hid (fun b' i h1 h2 hi => ?_), HK2.out, HB2.out⟩
                  by_cases e : b' = b
                  · subst e; exact HOV.out i hi
                  · exact HOB.out b' i h1 (by omega) hi
                case measure => simp [intOf]; omega
          · have hlt2' : ¬ (a : Int) + b ≤ (S : Int) := by omega
            clear hblk hbel
            go_wp2_with fail
            go_roundw
            case rel =>
              refine ⟨a + 1, by omega, by omega, by go_num, Lib.hid (fun a' b' i h1 h2 h3 hi => ?_), HBK.out, HBL.out⟩
              by_cases e : a' = a
              · subst e
                by_cases e2 : b' < b
                · exact HOB.out b' i h3 e2 hi
                · exact HFAR.out _ b' i hi h3 (by omega)
              · exact HOA.out a' b' i h1 (by omega) h3 hi
            case measure => simp [intOf]; omega
      · have HEND := Lib.hid (fun (a' b i : Nat) (h1 : 1 ≤ a') (h2 : a' < 2 * b) (hi : i < n) => show OkAt (dat L) a' b (2 ^ i) from by
          by_cases h : a' < a
          · exact HOA.out a' b i h1 h h2 hi
          · exact HFAR.out a' b i hi h2 (by omega))
        have HOK : Hid (IsMod xs (dat L)) := Lib.hid ⟨HS.out, fun a' b h1 h2 _ i hi => HEND.out a' b i h1 h2 (by rw [HNX.out]; exact hi)⟩
        clear hblk hbel
        go_wp2_with fail
        go_ret
        exact ⟨none, 0, 0, rfl, ⟨fun _ => HOK.out, fun _ => rfl⟩, HBL.out⟩
end Go.Proofs.YtdkmdmpaflgfaaaGreatDoor

namespace Go.Proofs.YtdkmdmpaflgfaaaGreatDoor
open Go.RowKit

theorem modB_yes {xs : List Int} {Q : List (List Int)} (h : IsMod xs Q) : modB xs Q = true := modB_iff.2 h
theorem modB_no {xs : List Int} {Q : List (List Int)} (h : ¬ IsMod xs Q) : modB xs Q = false := modB_false.2 h
theorem shpB_iff {xs : List Int} {Q : List (List Int)} : shpB xs Q = true ↔ Shp xs Q := by unfold shpB; simp
theorem shpB_not {xs : List Int} {Q : List (List Int)} (h : shpB xs Q = false) : ¬ Shp xs Q := fun h' => by rw [shpB_true h'] at h; cases h

set_option maxHeartbeats 1000000 in
theorem l11Is_any (A A' : Option Addr) (n c m c' : Nat) (xs : List Int) (L : List Row) (w : World) (hn : n = xs.length) (hsm : n ≤ 1048576) (hR : Rd w A (iv xs)) (hm : m = L.length) (hm1 : m ≤ 1048576) (hl : ∀ i, i < L.length → (rg L i).xs.length ≤ 1048576) (hR' : RdR w A' L) :
    Calls Tryz.prog 86 #[.agg #[.slice A n c, .slice A' m c']] w fun e w' => e = .returned (.bool (modB xs (dat L))) ∧ Below w.heap.size w w' := by
  have hb0 : Below w.heap.size w (w.alloc (.cells #[.slice A n c, .slice A' m c'] 30)) := (Below.refl _ _).alloc (Nat.le_refl _) _
  have hk0 := blk_new w (.cells #[.slice A n c, .slice A' m c'] 30)
  obtain ⟨x0, x1, xf0, xf1, lx⟩ := blk2cells hk0
  have HSH := Lib.hid (l11Shape_any A A' n c m c' xs L _ hn hsm (hR.below hb0) hm hm1 hl (hR'.below hb0))
  have HB0 := Lib.hid hb0
  have HK0 := Lib.hid hk0
  cases hs : shpB xs (dat L)
  · rw [hs] at HSH
    have HF := Lib.hid (modB_no (fun h => shpB_not hs h.shp))
    clear hb0 hk0 hn hR hm hl hR' hs
    go_enter Tryz.func86, Tryz.ntmps86
    go_wp2_with (go_at_call 117; refine HSH.out.mono ?_; rintro e w1 ⟨rfl, hb⟩; have HB1 := Lib.hid (HB0.out.trans (hb.mono HB0.out.size)); clear hb)
    go_ret
    exact ⟨by rw [HF.out]; rfl, HB1.out⟩
  · rw [hs] at HSH
    have HFA := Lib.hid (fun W (hb : Below w.heap.size w W) => l11Fault_any A A' n c m c' xs L W hn (hR.below hb) hm hm1 (hR'.below hb) (shpB_iff.1 hs))
    clear hb0 hk0 hn hR hm hl hR' hs
    go_enter Tryz.func86, Tryz.ntmps86
    go_wp2_with fail
    refine HSH.out.mono ?_
    rintro e w1 ⟨rfl, hb⟩
    have HB1 := Lib.hid (HB0.out.trans (hb.mono HB0.out.size))
    have HK1 := Lib.hid (blk_kept HK0.out hb)
    clear hb x0 x1 xf0 xf1 lx
    obtain ⟨x0, x1, xf0, xf1, lx⟩ := blk2cells HK1.out
    go_wp2_with fail
    refine (HFA.out _ HB1.out).mono ?_
    rintro e w2 ⟨F, k, cap, rfl, hiff, hb⟩
    have HB2 := Lib.hid (HB1.out.trans (hb.mono HB1.out.size))
    have HI := Lib.hid hiff
    clear hb hiff
    by_cases hk : k = 0
    · have HT := Lib.hid (modB_yes (HI.out.1 hk))
      have hkb : ((k : Int) == 0) = true := by rw [hk]; rfl
      clear hk
      go_wp2_with fail
      go_ret
      exact ⟨by rw [HT.out]; rfl, HB2.out⟩
    · have HT := Lib.hid (modB_no (fun h => hk (HI.out.2 h)))
      have hkb : ((k : Int) == 0) = false := by simp; omega
      clear hk
      go_wp2_with fail
      go_ret
      exact ⟨by rw [HT.out]; rfl, HB2.out⟩
end Go.Proofs.YtdkmdmpaflgfaaaGreatDoor

namespace Go.Proofs.YtdkmdmpaflgfaaaGreatDoor
open Go.RowKit

/-- the numbers of the degrees 0 .. 20 -/
def cntL (xs : List Int) : List Int := (List.range 21).map fun (d : Nat) => ((cnt xs (d : Int) : Nat) : Int)
theorem cntL_length (xs : List Int) : (cntL xs).length = 21 := by simp [cntL]
theorem cntL_getD (xs : List Int) {d : Nat} (h : d < 21) : (cntL xs).getD d 0 = ((cnt xs (d : Int) : Nat) : Int) := by simp [cntL, List.getD, h]
theorem cntL_nil : cntL [] = List.replicate 21 0 := by decide
theorem cntL_succ {xs : List Int} {k d : Nat} (h : k < xs.length) (hd : xs.getD k 0 = (d : Int)) (h21 : d < 21) : cntL (xs.take (k + 1)) = (cntL (xs.take k)).set d ((cnt (xs.take k) (d : Int) : Nat) + 1 : Int) := by
  refine list_ext_getD (cntL_length _) (by rw [List.length_set]; exact cntL_length _) fun i hi => ?_
  rw [cntL_getD _ hi, set_getD _ _ _ _ (by rw [cntL_length]; exact h21), cntL_getD _ hi, cnt_take h, hd]
  by_cases e : i = d
  · subst e; rw [if_pos rfl, if_pos rfl]; rfl
  · rw [if_neg (by omega), if_neg e]; rfl
theorem cnt_le (xs : List Int) (d : Int) : cnt xs d ≤ xs.length := List.countP_le_length

/-- the place of a number in a list, or -1 -/
def IxAt (xs : List Int) (x r : Int) : Prop := (r = -1 ∧ ∀ i, i < xs.length → xs.getD i 0 ≠ x) ∨ ∃ k : Nat, k < xs.length ∧ r = k ∧ xs.getD k 0 = x ∧ ∀ i, i < k → xs.getD i 0 ≠ x
set_option maxRecDepth 100000 in
set_option maxHeartbeats 1000000 in
theorem l01Index_any (A : Option Addr) (n c : Nat) (xs : List Int) (x : Int) (w : World) (hn : n = xs.length) (hsm : n ≤ 1048576) (hR : Rd w A (iv xs)) :
    Calls Tryz.prog 184 #[.slice A n c, .int .i64 x] w fun e w' => (∃ r, e = .returned (.int .i64 r) ∧ IxAt xs x r) ∧ w = w' := by
  have HR := Lib.hid hR
  have Hn := Lib.hid hn
  clear hR hn
  go_enter Tryz.func184, Tryz.ntmps184
  go_wp2_with fail
  go_loop [5] (fun i => ∃ k : Nat, k ≤ n ∧ i = .int .i64 k ∧ Hid (∀ t, t < k → xs.getD t 0 ≠ x)) (fun i => n - (intOf i).toNat)
  case atStart => exact ⟨0, by omega, rfl, Lib.hid (fun t ht => by omega)⟩
  case round =>
    obtain ⟨k, hk, rfl, HQ⟩ := hrel
    by_cases hlt : k < n
    · have hkL : k < xs.length := by rw [← Hn.out]; exact hlt
      obtain ⟨b, o, rfl, hc⟩ := HR.out.atI hkL
      obtain ⟨y, hy⟩ : ∃ y, xs.getD k 0 = y := ⟨_, rfl⟩
      rw [hy] at hc
      by_cases e : y = x
      · subst e
        have HIX : Hid (IxAt xs y (k : Int)) := Lib.hid (.inr ⟨k, hkL, rfl, hy, HQ.out⟩)
        clear hy
        go_wp2_with fail
        go_ret
        exact ⟨⟨_, rfl, HIX.out⟩, rfl⟩
      · have heb : (y == x) = false := by simpa using e
        have HQ' : Hid (∀ t, t < k + 1 → xs.getD t 0 ≠ x) := Lib.hid (fun t ht => by
          by_cases et : t = k
          · subst et; rw [hy]; exact e
          · exact HQ.out t (by omega))
        clear hy e
        go_wp2_with fail
        go_round
        case rel => exact ⟨k + 1, by omega, by go_num, HQ'⟩
        case measure => simp [intOf]; omega
    · obtain rfl : k = n := by omega
      have HIX : Hid (IxAt xs x (-1)) := Lib.hid (.inl ⟨rfl, fun i hi => HQ.out i (by rw [Hn.out]; exact hi)⟩)
      go_wp2_with fail
      go_ret
      exact ⟨⟨_, rfl, HIX.out⟩, rfl⟩
/-- in the digits of a mask that is not 0 the first 1 stands at its least digit -/
theorem ix_lo {v n : Nat} {r : Int} (hv : v < 2 ^ n) (h : IxAt (bitsL v n) 1 r) : (v = 0 ∧ r = -1) ∨ (v ≠ 0 ∧ lo v < n ∧ r = (lo v : Nat)) := by
  rcases h with ⟨rfl, h⟩ | ⟨k, hk, rfl, h1, h2⟩
  · left
    refine ⟨eq_zero_of_tb fun i => ?_, rfl⟩
    rcases Nat.lt_or_ge i n with hi | hi
    · have := h i (by rw [bitsL_length]; exact hi)
      rw [bitsL_getD _ hi] at this
      cases hb : tb v i with
      | false => rfl
      | true => exact absurd (bit_one hb) this
    · exact tb_of_lt hv hi
  · right
    rw [bitsL_length] at hk
    rw [bitsL_getD _ hk, bit_iff] at h1
    have h0 : v ≠ 0 := by rintro rfl; rw [tb_zero] at h1; cases h1
    obtain ⟨a1, a2⟩ := lo_spec h0
    have e : lo v = k := by
      rcases Nat.lt_trichotomy (lo v) k with h3 | h3 | h3
      · have := h2 (lo v) h3
        rw [bitsL_getD _ (by omega)] at this
        exact absurd (bit_one a1) this
      · exact h3
      · rw [a2 k h3] at h1; cases h1
    rw [e]; exact ⟨h0, hk, rfl⟩

set_option maxRecDepth 100000 in
set_option maxHeartbeats 1000000 in
/-- copies of rows of rows -/
theorem l01Own2_any (A : Option Addr) (n c : Nat) (L : List Row) (w : World) (hn : n = L.length) (hsm : n ≤ 1048576) (hl : ∀ i, i < L.length → (rg L i).xs.length ≤ 1048576) (hR : RdR w A L) :
    Calls Tryz.prog 148 #[.slice A n c] w fun e w' => ∃ A1 c1 R, e = .returned (.slice A1 n c1) ∧ R.length = n ∧ dat R = dat L ∧ OwnR w' w.heap.size (.slice A1 n c1) R ∧ Below w.heap.size w w' := by
  have HR := Lib.hid hR
  have Hn := Lib.hid hn
  have HL := Lib.hid hl
  clear hR hn hl
  go_enter Tryz.func148, Tryz.ntmps148
  go_wp2_with fail
  go_loopw [3, 4] (fun vv i wr => ∃ R : List Row, ∃ A1 c1, R.length ≤ n ∧ i = .int .i64 (R.length : Nat) ∧ vv = .slice A1 R.length c1 ∧ Hid (dat R = (dat L).take R.length) ∧ OwnR wr w.heap.size (.slice A1 R.length c1) R ∧ Below w.heap.size w wr) (fun _ i _ => n - (intOf i).toNat)
  case atStart => exact ⟨[], some ⟨w.heap.size, 0, none⟩, 0, by simp, rfl, rfl, Lib.hid rfl, OwnR.made w (Nat.le_refl _), (Below.refl _ _).alloc (Nat.le_refl _) _⟩
  case round =>
    obtain ⟨R, A1, c1, hj, rfl, rfl, HD, hown, hbel⟩ := hrel
    have HO := Lib.hid hown
    have HB := Lib.hid hbel
    have hsz := hbel.size
    have hq : R.length < 1099511627776 := by omega
    by_cases hlt : R.length < n
    · have hjL : R.length < L.length := by rw [← Hn.out]; exact hlt
      have hR1 := HR.out.below hbel
      obtain ⟨b, o, rfl, hc⟩ := hR1.at_ hjL
      have hin := hR1.inn _ hjL
      have hl2 := HL.out _ hjL
      have HTS : Hid ((dat L).take (R.length + 1) = (dat L).take R.length ++ [(rg L R.length).xs]) := Lib.hid (by
        rw [List.take_succ_eq_append_getElem (by rw [dat_length]; exact hjL), ← dat_getD]; simp [List.getD, hjL, dat_length])
      generalize rg L R.length = r at *
      obtain ⟨rA, rc, rx⟩ := r
      simp only at hc hin hl2 HTS
      have HC := Lib.hid (l01Own_any rA rx.length rc (iv rx) wr (by rw [iv_length]) (by omega) (iv_one _) hin)
      clear hown hbel hR1 hin hjL
      go_wp2_with fail
      refine HC.out.mono ?_
      rintro e w1 ⟨g, cap, rfl, ho, hb⟩
      have HO1 := Lib.hid ho
      have HB1 := Lib.hid hb
      clear ho hb
      go_wp2_with (at_builtin; refine wpList_app1 _ _ _ _ _ etS (by rfl) (by rfl) w.heap.size (.slice A1 R.length c1) R.length (hv R) (by rfl) ((HO.out.later HB1.out).out.alloc _) _ (.slice (some ⟨g, 0, none⟩) rx.length cap) (by rfl) (new_cell _ _ _) (by rfl) hq (Nat.le_trans (Nat.le_trans hsz HB1.out.size) (Nat.le_of_lt (by simp))) ?_; (intro g2 c2 w3 hown3 hg3 hat3 hlt3; have HN := Lib.hid (OwnR.push HO.out HB1.out HO1.out rfl hsz hown3 hg3); have HB3 := Lib.hid (below_app2 (HB.out.trans (HB1.out.mono hsz)) (Nat.le_trans hsz HB1.out.size) (HO.out.later HB1.out).out hg3); clear hown3 hg3 hat3 hlt3))
      go_roundw
      case rel =>
        refine ⟨R ++ [⟨some ⟨g, 0, none⟩, cap, rx⟩], some ⟨g2, 0, none⟩, c2, by simp; omega, by simp, by simp, Lib.hid ?_, by simpa using HN.out, HB3.out⟩
        rw [dat_append1, HD.out, List.length_append, List.length_singleton, HTS.out]
      case measure => simp [intOf]; omega
    · obtain rfl : n = R.length := by omega
      have he : (dat L).take R.length = dat L := List.take_of_length_le (by rw [dat_length, ← Hn.out]; exact Nat.le_refl _)
      rw [he] at HD
      clear hown hbel he
      go_wp2_with fail
      go_ret
      exact ⟨A1, c1, R, rfl, rfl, HD.out, HO.out, HB.out⟩
end Go.Proofs.YtdkmdmpaflgfaaaGreatDoor

namespace Go.Proofs.YtdkmdmpaflgfaaaGreatDoor

/-! ### trimmed lists -/
def Tr : List Int → Prop
  | [] => True
  | x :: t => (t = [] → x ≠ 0) ∧ Tr t
theorem tr_last : ∀ {t : List Int}, (∀ k, t.length = k + 1 → t.getD k 0 ≠ 0) → Tr t
  | [], _ => trivial
  | x :: t, h => ⟨fun e => by subst e; exact h 0 rfl, tr_last fun k hk => by
      have := h (k + 1) (by simp [hk]); simpa using this⟩
theorem tr_last' : ∀ {t : List Int}, Tr t → ∀ k, t.length = k + 1 → t.getD k 0 ≠ 0
  | [], _, k, hk => by simp at hk
  | [x], h, k, hk => by
    have : k = 0 := by simpa using hk.symm
    subst this; exact h.1 rfl
  | x :: y :: t, h, k, hk => by
    cases k with
    | zero => simp at hk
    | succ k => have := tr_last' h.2 k (by simpa using hk); simpa using this
theorem trimN_spec (t : List Int) : ∀ n, n ≤ t.length → t.take n = t.take (trimN t n) ++ List.replicate (n - trimN t n) 0 ∧ (∀ k, trimN t n = k + 1 → t.getD k 0 ≠ 0) := by
  intro n
  induction n with
  | zero => intro _; exact ⟨by simp [trimN], fun k h => by simp [trimN] at h⟩
  | succ n ih =>
    intro hn
    obtain ⟨h1, h2⟩ := ih (by omega)
    have hle := trimN_le t n
    unfold trimN
    split
    · rename_i h0
      refine ⟨?_, h2⟩
      rw [List.take_succ_eq_append_getElem (by omega), h1, List.append_assoc, show n + 1 - trimN t n = (n - trimN t n) + 1 by omega, List.replicate_succ']
      congr 2
      rw [← getD_eq_getElem' (by omega), h0]
    · rename_i h0
      exact ⟨by simp, fun k hk => by have : k = n := by omega
                                     subst this; exact h0⟩
theorem trim_split (t : List Int) : t = trimL t ++ List.replicate (t.length - (trimL t).length) 0 ∧ Tr (trimL t) := by
  obtain ⟨h1, h2⟩ := trimN_spec t t.length (Nat.le_refl _)
  have hle := trimN_le t t.length
  have hl : (trimL t).length = trimN t t.length := by unfold trimL; rw [List.length_take]; omega
  refine ⟨?_, tr_last fun k hk => ?_⟩
  · rw [hl]; unfold trimL
    rw [List.take_length] at h1
    exact h1
  · rw [hl] at hk
    have := h2 k hk
    unfold trimL
    rw [show (t.take (trimN t t.length)).getD k 0 = t.getD k 0 from by simp [List.getD, List.getElem?_take, show k < trimN t t.length by omega]]
    exact this
theorem trim_id {t : List Int} (h : Tr t) : trimL t = t := by
  obtain ⟨h1, _⟩ := trim_split t
  by_cases e : t.length - (trimL t).length = 0
  · rw [e] at h1; simpa using h1.symm
  · obtain ⟨m, hm⟩ : ∃ m, t.length - (trimL t).length = m + 1 := ⟨t.length - (trimL t).length - 1, by omega⟩
    have hl : t.length = (trimL t).length + m + 1 := by omega
    have := tr_last' h ((trimL t).length + m) hl
    rw [hm] at h1
    generalize trimL t = u at *
    have h3 : t.getD (u.length + m) 0 = 0 := by rw [h1, List.replicate_succ', ← List.append_assoc]; simp [List.getD]
    exact absurd h3 this
theorem val_app0 : ∀ (u : List Int) (n : Nat), val (u ++ List.replicate n 0) = val u
  | [], n => by
    induction n with
    | zero => rfl
    | succ n ih => rw [List.replicate_succ]; simp only [List.nil_append, val] at ih ⊢; omega
  | x :: u, n => by simp only [List.cons_append, val]; rw [val_app0 u n]
theorem deg_app0 : ∀ (j : Nat) (u : List Int) (n : Nat), degW j (u ++ List.replicate n 0) = degW j u
  | j, [], n => by
    induction n generalizing j with
    | zero => rfl
    | succ n ih => rw [List.replicate_succ]; have := ih (j + 1); simp only [List.nil_append, degW] at this ⊢; omega
  | j, x :: u, n => by simp only [List.cons_append, degW]; rw [deg_app0 (j + 1) u n]
theorem val_trim (t : List Int) : val (trimL t) = val t := by conv => rhs; rw [(trim_split t).1, val_app0]
theorem deg_trim (j : Nat) (t : List Int) : degW j (trimL t) = degW j t := by conv => rhs; rw [(trim_split t).1, deg_app0]
theorem mem_trim {t : List Int} {x : Int} (h : x ∈ trimL t) : x ∈ t := by rw [(trim_split t).1]; exact List.mem_append_left _ h

/-! ### exponent lists of a degree -/
def Nn (t : List Int) : Prop := ∀ x ∈ t, 0 ≤ x
structure Ex (d : Int) (t : List Int) : Prop where
  nn : Nn t
  tr : Tr t
  deg : degW 0 t = d
theorem Nn.tail {x : Int} {t : List Int} (h : Nn (x :: t)) : Nn t := fun y hy => h y (List.mem_cons_of_mem _ hy)
theorem Nn.head {x : Int} {t : List Int} (h : Nn (x :: t)) : 0 ≤ x := h x (List.mem_cons_self ..)
theorem pow_ge1 (j : Nat) : (2 : Int) ≤ 2 ^ (j + 1) := by
  have h : (0 : Int) < 2 ^ j := Int.pow_pos (by omega)
  rw [Int.pow_succ]; omega
theorem deg_nn : ∀ (j : Nat) {t : List Int}, Nn t → 0 ≤ degW j t
  | _, [], _ => Int.le_refl _
  | j, x :: t, h => by
    have h1 := deg_nn (j + 1) h.tail
    have h2 := pow_ge1 j
    have h3 := Int.mul_nonneg h.head (by omega : (0 : Int) ≤ 2 ^ (j + 1) - 1)
    simp only [degW]; omega
theorem mem_deg : ∀ (j : Nat) {t : List Int}, Nn t → ∀ x ∈ t, x ≤ degW j t
  | _, [], _, x, hx => by cases hx
  | j, y :: t, h, x, hx => by
    have h1 := deg_nn (j + 1) h.tail
    have h2 := pow_ge1 j
    have h3 := Int.mul_nonneg h.head (by omega : (0 : Int) ≤ 2 ^ (j + 1) - 1)
    have h4 := Int.mul_nonneg h.head (by omega : (0 : Int) ≤ 2 ^ (j + 1) - 2)
    simp only [degW]
    rcases List.mem_cons.1 hx with e | hx
    · have : y * (2 ^ (j + 1) - 1) = y * (2 ^ (j + 1) - 2) + y := by rw [Int.mul_sub, Int.mul_sub]; omega
      omega
    · have := mem_deg (j + 1) h.tail x hx; omega
theorem val_nn : ∀ {t : List Int}, Nn t → 0 ≤ val t
  | [], _ => Int.le_refl _
  | x :: t, h => by have := val_nn h.tail; have := h.head; simp only [val]; omega
theorem val_pos : ∀ {t : List Int}, Nn t → Tr t → t ≠ [] → 0 < val t
  | [], _, _, h => absurd rfl h
  | x :: t, hn, ht, _ => by
    have h0 := hn.head
    simp only [val]
    by_cases e : t = []
    · have := ht.1 e
      subst e; simp only [val]; omega
    · have := val_pos hn.tail ht.2 e; omega
theorem val_inj : ∀ {t u : List Int}, Nn t → Tr t → (∀ x ∈ t, x ≤ 63) → Nn u → Tr u → (∀ x ∈ u, x ≤ 63) → val t = val u → t = u
  | [], [], _, _, _, _, _, _, _ => rfl
  | [], y :: u, _, _, _, h1, h2, _, e => by have := val_pos h1 h2 (by simp); rw [← e] at this; simp [val] at this
  | x :: t, [], h1, h2, _, _, _, _, e => by have := val_pos h1 h2 (by simp); rw [e] at this; simp [val] at this
  | x :: t, y :: u, h1, h2, h3, k1, k2, k3, e => by
    simp only [val] at e
    have a1 := h1.head
    have a2 := h3 x (List.mem_cons_self ..)
    have a3 := k1.head
    have a4 := k3 y (List.mem_cons_self ..)
    have : x = y := by omega
    subst this
    rw [val_inj h1.tail h2.2 (fun z hz => h3 z (List.mem_cons_of_mem _ hz)) k1.tail k2.2 (fun z hz => k3 z (List.mem_cons_of_mem _ hz)) (by omega)]
theorem Ex.le {d : Int} {t : List Int} (h : Ex d t) (x : Int) (hx : x ∈ t) : x ≤ d := by rw [← h.deg]; exact mem_deg 0 h.nn x hx
theorem Ex.inj {d : Int} {t u : List Int} (hd : d ≤ 63) (h : Ex d t) (k : Ex d u) (e : val t = val u) : t = u :=
  val_inj h.nn h.tr (fun x hx => Int.le_trans (h.le x hx) hd) k.nn k.tr (fun x hx => Int.le_trans (k.le x hx) hd) e
theorem deg_succ : ∀ (j : Nat) (t : List Int), degW (j + 1) t = degW j t + wX j t
  | _, [] => rfl
  | j, x :: t => by
    simp only [degW, wX]
    rw [deg_succ (j + 1) t]
    have h2 : (2 : Int) ^ (j + 1 + 1) = 2 * 2 ^ (j + 1) := by rw [Int.pow_succ]; omega
    rw [h2]
    generalize (2 : Int) ^ (j + 1) = p
    have e1 : x * (2 * p - 1) = 2 * (x * p) - x := by rw [Int.mul_sub, Int.mul_one, Int.mul_left_comm]
    have e2 : x * (p - 1) = x * p - x := by rw [Int.mul_sub, Int.mul_one]
    have e3 : p * x = x * p := Int.mul_comm _ _
    rw [e1, e2, e3]; omega

/-! ### the word that belongs to an exponent list -/
def leadW : List Int → List Int
  | [] => []
  | x :: t => (x + 2 * (leadW t).headD 0) :: leadW t
theorem leadW_len : ∀ t : List Int, (leadW t).length = t.length
  | [] => rfl
  | x :: t => by simp [leadW, leadW_len t]
theorem wX_lead : ∀ (j : Nat) (t : List Int), wX j t = 2 ^ (j + 1) * (leadW t).headD 0
  | _, [] => by simp [wX, leadW]
  | j, x :: t => by
    simp only [wX, leadW, List.headD_cons]
    rw [wX_lead (j + 1) t, Int.pow_succ (2 : Int) (j + 1), Int.mul_add, Int.mul_assoc]
theorem lead_deg : ∀ t : List Int, (leadW t).sum = degW 0 t
  | [] => rfl
  | x :: t => by
    simp only [leadW, List.sum_cons, degW]
    rw [lead_deg t, deg_succ, wX_lead]
    simp only [Nat.zero_add, Int.pow_one]
    omega
theorem lead_nn : ∀ {t : List Int}, Nn t → Nn (leadW t)
  | [], h => h
  | x :: t, h => by
    have h2 := lead_nn h.tail
    have h3 : 0 ≤ (leadW t).headD 0 := by
      cases e : leadW t with
      | nil => simp
      | cons y u => rw [e] at h2; simpa using h2.head
    intro y hy
    rcases List.mem_cons.1 hy with e | hy
    · have := h.head; omega
    · exact h2 y hy
theorem headD_nn {t : List Int} (h : Nn t) : 0 ≤ t.headD 0 := by
  cases t with
  | nil => simp
  | cons y u => simpa using h.head
theorem count_flat {L : LL} {f : List Int → LL} {r y : List Int} (hn : L.Nodup) (hy : y ∈ L) (h : ∀ x ∈ L, x ≠ y → r ∉ f x) : (L.flatMap f).count r = (f y).count r := by
  induction L with
  | nil => cases hy
  | cons x L ih =>
    obtain ⟨hx, hn'⟩ := List.nodup_cons.1 hn
    rw [List.flatMap_cons, List.count_append]
    rcases List.mem_cons.1 hy with e | hy
    · subst e
      have : (L.flatMap f).count r = 0 := List.count_eq_zero.2 fun hm => by
        obtain ⟨z, hz, hr⟩ := List.mem_flatMap.1 hm
        exact h z (List.mem_cons_of_mem _ hz) (fun e => hx (e ▸ hz)) hr
      omega
    · have h0 : (f x).count r = 0 := List.count_eq_zero.2 (h x (List.mem_cons_self ..) (fun e => hx (e ▸ hy)))
      rw [h0, ih hn' hy fun z hz => h z (List.mem_cons_of_mem _ hz)]; omega
theorem tot1_nn : ∀ {c : Int} {s X : List Int}, 0 ≤ c → LeT s X → Nn (tot1 c s X)
  | c, [], [], hc, _ => fun y hy => by simp [tot1] at hy; omega
  | c, [], _ :: _, _, h => h.elim
  | c, _ :: _, [], _, h => h.elim
  | c, s0 :: s, x :: X, hc, h => by
    obtain ⟨h0, h1, h2⟩ := h
    intro y hy
    simp only [tot1] at hy
    rcases List.mem_cons.1 hy with e | hy
    · omega
    · exact tot1_nn h0 h2 y hy
theorem tot1_self : ∀ (c : Int) (s : List Int), tot1 c s s = c :: s
  | c, [] => rfl
  | c, s0 :: s => by simp only [tot1]; rw [tot1_self s0 s]; congr 1; omega
theorem LeT.len : ∀ {s X : List Int}, LeT s X → X.length = s.length
  | [], [], _ => rfl
  | [], _ :: _, h => h.elim
  | _ :: _, [], h => h.elim
  | _ :: _, _ :: _, h => by simp [LeT.len h.2.2]
/-- what a table of one row leaves: of the degree, and its tail at most what was there -/
theorem prod_one {a d : Int} {s t : List Int} (ha : 0 ≤ a) (hs : Ex d s) (h : t ∈ prodE [a] s) :
    Ex (a + d) t ∧ ∃ X, LeT s X ∧ wX 0 X ≤ a ∧ t = trimL (tot1 (a - wX 0 X) s X) := by
  rw [prodE_one] at h
  obtain ⟨X, hX, ht⟩ := List.mem_flatMap.1 h
  obtain ⟨h1, h2⟩ := enumT_le s a 0 X hs.nn ha hX
  have e := finT_mem h1.len ht
  refine ⟨⟨fun x hx => ?_, ?_, ?_⟩, X, h1, h2, e⟩
  · rw [e] at hx; exact tot1_nn (by omega) h1 x (mem_trim hx)
  · rw [e]; exact (trim_split _).2
  · rw [e, deg_trim, tot1_deg 0 _ s X h1.len, hs.deg]
    simp only [Nat.zero_add, Int.pow_one]; omega
theorem mulE_one (a : Int) (W : LL) : mulE [[a]] W = nf (W.flatMap (prodE [a])) := by simp [mulE]
/-- the greatest term of the element of a word, and all others -/
theorem tri : ∀ {r : List Int}, Nn r → Tr r → degW 0 r ≤ 63 → r ∈ wordE (leadW r) ∧ ∀ t ∈ wordE (leadW r), Ex (degW 0 r) t ∧ (t = r ∨ val t < val r)
  | [], _, _, _ => by
    refine ⟨by simp [wordE, leadW], fun t ht => ?_⟩
    have : t = [] := by simpa [wordE, leadW] using ht
    subst this
    exact ⟨⟨fun x hx => (by cases hx), trivial, rfl⟩, .inl rfl⟩
  | x :: r, hn, ht, hd => by
    have hn' := hn.tail
    have hx0 := hn.head
    have hh := headD_nn (lead_nn hn')
    have hw : wX 0 r = 2 * (leadW r).headD 0 := by rw [wX_lead]; simp
    have hdeg : degW 0 (x :: r) = (x + 2 * (leadW r).headD 0) + degW 0 r := by
      simp only [degW]; rw [deg_succ, hw]; simp only [Nat.zero_add, Int.pow_one]; omega
    have hd0 := deg_nn 0 hn'
    obtain ⟨i1, i2⟩ := tri hn' ht.2 (by omega)
    simp only [leadW, wordE]
    rw [mulE_one, hdeg]
    have ha : 0 ≤ x + 2 * (leadW r).headD 0 := by omega
    have hda : (x + 2 * (leadW r).headD 0) + degW 0 r ≤ 63 := by omega
    have hax : (x + 2 * (leadW r).headD 0) - wX 0 r = x := by omega
    generalize hA : x + 2 * (leadW r).headD 0 = a at *
    -- each result
    have key : ∀ s ∈ wordE (leadW r), ∀ X, LeT s X → wX 0 X ≤ a → trimL (tot1 (a - wX 0 X) s X) = x :: r ∧ s = r ∧ X = s ∨ val (trimL (tot1 (a - wX 0 X) s X)) < val (x :: r) := by
      intro s hs X hX hXa
      obtain ⟨e1, e2⟩ := i2 s hs
      have htop : ∀ y tl, tot1 (a - wX 0 X) s X = y :: tl → y ≤ 63 := fun y tl e => by
        have h1 := tot1_nn (c := a - wX 0 X) (by omega) hX
        have h2 := tot1_deg 0 (a - wX 0 X) s X hX.len
        have h3 := mem_deg 0 h1 y (by rw [e]; exact List.mem_cons_self ..)
        rw [h2, e1.deg] at h3
        simp only [Nat.zero_add, Int.pow_one] at h3
        omega
      by_cases eX : X = s
      · rcases e2 with e2 | e2
        · subst e2; subst eX
          refine .inl ⟨?_, rfl, rfl⟩
          rw [tot1_self, hax]; exact trim_id ht
        · right
          rw [val_trim, eX, tot1_self]
          have := htop (a - wX 0 X) s (by rw [eX, tot1_self])
          rw [eX] at this
          simp only [val]; omega
      · right
        obtain ⟨y, tl, h1, h2⟩ := tot1_tail (a - wX 0 X) s X hX eX
        have := htop y tl h1
        rw [val_trim, h1]
        simp only [val]
        rcases e2 with e2 | e2
        · subst e2; omega
        · omega
    have hflat : ∀ t ∈ (wordE (leadW r)).flatMap (prodE [a]), Ex (a + degW 0 r) t ∧ (t = x :: r ∨ val t < val (x :: r)) := by
      intro t ht'
      obtain ⟨s, hs, hp⟩ := List.mem_flatMap.1 ht'
      obtain ⟨e1, X, hX, hXa, e⟩ := prod_one ha (i2 s hs).1 hp
      refine ⟨e1, ?_⟩
      rw [e]
      rcases key s hs X hX hXa with h | h
      · exact .inl h.1
      · exact .inr h
    refine ⟨?_, fun t ht' => hflat t (nf_sub ht')⟩
    rw [mem_nf]
    have hnd : (wordE (leadW r)).Nodup := by
      have : As (wordE (leadW r)) := by
        cases leadW r with
        | nil => simp [wordE, As]
        | cons b w => exact as_nf _
      exact this.imp lexLt_ne
    rw [count_flat (y := r) hnd i1, prodE_one, count_flat (y := r) (enumT_nodup _ _ _) (enumT_has _ _ _ hn' (by omega))]
    · rw [finT_self, hax, tot1_self, trim_id ht]; simp
    · intro X hX hne hm
      obtain ⟨h1, h2⟩ := enumT_le r a 0 X hn' ha hX
      have e := finT_mem h1.len hm
      rcases key r i1 X h1 h2 with h | h
      · exact hne h.2.2
      · rw [← e] at h; omega
    · intro s hs hne hm
      obtain ⟨_, X, hX, hXa, e⟩ := prod_one ha (i2 s hs).1 hm
      rcases key s hs X hX hXa with h | h
      · exact hne h.2.1
      · rw [← e] at h; omega
end Go.Proofs.YtdkmdmpaflgfaaaGreatDoor

namespace Go.Proofs.YtdkmdmpaflgfaaaGreatDoor

theorem flat_put {f : List Int → LL} (z : List Int) : ∀ (Q : LL) (x : List Int), ((putR Q x).flatMap f).count z % 2 = ((Q.flatMap f).count z + (f x).count z) % 2
  | [], x => by simp [putR]
  | y :: Q, x => by
    unfold putR
    split
    · rw [List.flatMap_cons, List.flatMap_cons, List.count_append, List.count_append]
      have := flat_put (f := f) z Q x
      omega
    · split
      · rename_i e
        subst e
        rw [List.flatMap_cons, List.count_append]; omega
      · simp only [List.flatMap_cons, List.count_append]; omega
theorem flat_fold {f : List Int → LL} (z : List Int) : ∀ (L Q : LL), ((L.foldl putR Q).flatMap f).count z % 2 = ((Q.flatMap f).count z + (L.flatMap f).count z) % 2
  | [], Q => by simp
  | x :: L, Q => by
    rw [List.foldl_cons, flat_fold z L (putR Q x), List.flatMap_cons, List.count_append]
    have := flat_put (f := f) z Q x
    omega
theorem flat_nf {f : List Int → LL} (L : LL) (z : List Int) : ((nf L).flatMap f).count z % 2 = (L.flatMap f).count z % 2 := by
  have := flat_fold (f := f) z L []
  simpa [nf] using this
/-- the sum of the elements of words -/
def evalW (S : LL) : LL := nf (S.flatMap wordE)
theorem evalW_nf (S : LL) : evalW (nf S) = evalW S := nf_congr (flat_nf S)
theorem evalW_app (S T : LL) : evalW (S ++ T) = nf (evalW S ++ evalW T) := by
  unfold evalW; rw [nf_app, List.flatMap_append]
theorem as_evalW (S : LL) : As (evalW S) := as_nf _
theorem evalW_sum {S T : LL} (hS : As S) (hT : As T) : evalW (sumR S T) = sumR (evalW S) (evalW T) := by
  rw [sumR_nf hS hT, evalW_nf, evalW_app, sumR_nf (as_evalW _) (as_evalW _)]
/-- an admissible word of degree d -/
def IsW (d : Int) (w : List Int) : Prop := ∃ r, Ex d r ∧ w = leadW r
theorem lead_inj : ∀ {r s : List Int}, leadW r = leadW s → r = s
  | [], [], _ => rfl
  | [], _ :: _, h => by simp [leadW] at h
  | _ :: _, [], h => by simp [leadW] at h
  | x :: r, y :: s, h => by
    simp only [leadW] at h
    injection h with h1 h2
    have := lead_inj h2
    subst this
    congr 1; omega
theorem max_val {d : Int} : ∀ (S : LL), S ≠ [] → (∀ w ∈ S, IsW d w) → ∃ r, Ex d r ∧ leadW r ∈ S ∧ ∀ s, Ex d s → leadW s ∈ S → val s ≤ val r
  | [], h, _ => absurd rfl h
  | [w], _, h => by
    obtain ⟨r, hr, rfl⟩ := h w (List.mem_cons_self ..)
    refine ⟨r, hr, List.mem_cons_self .., fun s _ hm => ?_⟩
    rw [lead_inj (List.mem_singleton.1 hm)]; exact Int.le_refl _
  | w :: v :: S, _, h => by
    obtain ⟨q, hq, rfl⟩ := h w (List.mem_cons_self ..)
    obtain ⟨r, hr, h1, h2⟩ := max_val (v :: S) (by simp) fun u hu => h u (List.mem_cons_of_mem _ hu)
    by_cases hv : val r ≤ val q
    · refine ⟨q, hq, List.mem_cons_self .., fun s hs hm => ?_⟩
      rcases List.mem_cons.1 hm with e | hm
      · rw [lead_inj e]; exact Int.le_refl _
      · exact Int.le_trans (h2 s hs hm) hv
    · refine ⟨r, hr, List.mem_cons_of_mem _ h1, fun s hs hm => ?_⟩
      rcases List.mem_cons.1 hm with e | hm
      · rw [lead_inj e]; omega
      · exact h2 s hs hm
/-- words are independent -/
theorem evalW_ne {d : Int} (hd : d ≤ 63) {S : LL} (hn : As S) (h0 : S ≠ []) (h : ∀ w ∈ S, IsW d w) : evalW S ≠ [] := by
  obtain ⟨r, hr, h1, h2⟩ := max_val S h0 h
  have ht := tri hr.nn hr.tr (by rw [hr.deg]; exact hd)
  have hc : (S.flatMap wordE).count r = (wordE (leadW r)).count r := by
    refine count_flat (hn.imp lexLt_ne) h1 fun w hw hne hm => ?_
    obtain ⟨s, hs, rfl⟩ := h w hw
    have hs2 := tri hs.nn hs.tr (by rw [hs.deg]; exact hd)
    rcases (hs2.2 r hm).2 with e | e
    · exact hne (by rw [e])
    · have := h2 s hs hw; omega
  have hasw : As (wordE (leadW r)) := by
    cases leadW r with
    | nil => simp [wordE, As]
    | cons b w => exact as_nf _
  have hmem : r ∈ evalW S := by
    unfold evalW
    rw [mem_nf, hc, count_as hasw, if_pos ht.1]
  intro e; rw [e] at hmem; cases hmem
/-- the words of an element -/
structure IsSq (d : Int) (T P : LL) : Prop where
  asc : As P
  ws : ∀ w ∈ P, IsW d w
  ev : evalW P = T
theorem IsSq.unique {d : Int} {T P Q : LL} (hd : d ≤ 63) (h : IsSq d T P) (k : IsSq d T Q) : P = Q := by
  have h0 : sumR P Q = [] := by
    refine Classical.byContradiction fun hne => ?_
    refine evalW_ne hd (as_sumR h.asc k.asc) hne (fun w hw => ?_) ?_
    · rcases ((sumR_as P Q h.asc k.asc).2 w).1 hw with ⟨h1, _⟩ | ⟨_, h1⟩
      · exact h.ws w h1
      · exact k.ws w h1
    · rw [evalW_sum h.asc k.asc, h.ev, k.ev]
      have hT : As T := by rw [← h.ev]; exact as_evalW _
      rw [sumR_nf hT hT]
      refine as_unique (as_nf _) as_nil fun z => ?_
      rw [mem_nf, List.count_append]; simp; omega
  refine as_unique h.asc k.asc fun z => ?_
  have := (sumR_as P Q h.asc k.asc).2 z
  rw [h0] at this
  by_cases a : z ∈ P <;> by_cases b : z ∈ Q <;> simp [a, b] at this ⊢
/-! ### taking away the greatest -/
theorem wordE_as (w : List Int) : As (wordE w) := by
  cases w with
  | nil => simp [wordE, As]
  | cons b w => exact as_nf _
/-- one step: the greatest from the right is gone, and nothing greater has come -/
theorem sq_step {d : Int} (hd : d ≤ 63) {T : LL} (hT : As T) (hE : ∀ t ∈ T, Ex d t) {r : List Int} (hr : r ∈ T) (hmax : ∀ t ∈ T, val t ≤ val r) :
    As (sumR T (wordE (leadW r))) ∧ (∀ t ∈ sumR T (wordE (leadW r)), Ex d t ∧ val t < val r) := by
  have h := hE r hr
  have ht := tri h.nn h.tr (by rw [h.deg]; exact hd)
  rw [h.deg] at ht
  refine ⟨as_sumR hT (wordE_as _), fun t hm => ?_⟩
  rcases ((sumR_as T _ hT (wordE_as _)).2 t).1 hm with ⟨h1, h2⟩ | ⟨h1, h2⟩
  · refine ⟨hE t h1, ?_⟩
    have h3 := hmax t h1
    rcases Int.lt_or_eq_of_le h3 with h4 | h4
    · exact h4
    · have := (hE t h1).inj hd h h4
      subst this; exact absurd ht.1 h2
  · obtain ⟨e1, e2⟩ := ht.2 t h2
    refine ⟨e1, ?_⟩
    rcases e2 with e2 | e2
    · subst e2; exact absurd hr h1
    · exact e2
theorem sq_ev {T W O : LL} {w : List Int} (hT : As T) (h : nf (evalW O ++ T) = W) : nf (evalW (O ++ [w]) ++ sumR T (wordE w)) = W := by
  rw [← h, sumR_nf hT (wordE_as w), evalW_app, nf_app_l, nf_app_r]
  have e : evalW [w] = wordE w := by unfold evalW; simp [nf_of_as (wordE_as w)]
  rw [e]
  refine nf_congr fun z => ?_
  simp only [List.count_append]; omega
theorem exists_max {T : LL} (h : T ≠ []) : ∃ r ∈ T, ∀ t ∈ T, val t ≤ val r := by
  induction T with
  | nil => exact absurd rfl h
  | cons x T ih =>
    by_cases e : T = []
    · subst e; exact ⟨x, List.mem_cons_self .., fun t ht => by rw [List.mem_singleton.1 ht]; exact Int.le_refl _⟩
    · obtain ⟨r, hr, hm⟩ := ih e
      by_cases hx : val r ≤ val x
      · refine ⟨x, List.mem_cons_self .., fun t ht => ?_⟩
        rcases List.mem_cons.1 ht with e | ht
        · rw [e]; exact Int.le_refl _
        · exact Int.le_trans (hm t ht) hx
      · refine ⟨r, List.mem_cons_of_mem _ hr, fun t ht => ?_⟩
        rcases List.mem_cons.1 ht with e | ht
        · rw [e]; omega
        · exact hm t ht
theorem sq_exists' {d : Int} (hd : d ≤ 63) : ∀ (n : Nat) (T : LL), As T → (∀ t ∈ T, Ex d t) → (∀ t ∈ T, val t < n) → ∃ O : LL, (∀ w ∈ O, IsW d w) ∧ nf (evalW O ++ T) = [] := by
  intro n
  induction n with
  | zero =>
    intro T hT hE hv
    have : T = [] := by
      cases T with
      | nil => rfl
      | cons x T => have h1 := hv x (List.mem_cons_self ..); have h2 := val_nn (hE x (List.mem_cons_self ..)).nn; omega
    subst this
    exact ⟨[], fun w hw => (by cases hw), rfl⟩
  | succ n ih =>
    intro T hT hE hv
    by_cases e : T = []
    · subst e; exact ⟨[], fun w hw => (by cases hw), rfl⟩
    · obtain ⟨r, hr, hm⟩ := exists_max e
      obtain ⟨h1, h2⟩ := sq_step hd hT hE hr hm
      have hrn := hv r hr
      obtain ⟨O, hO, he⟩ := ih (sumR T (wordE (leadW r))) h1 (fun t ht => (h2 t ht).1) (fun t ht => by have := (h2 t ht).2; omega)
      refine ⟨leadW r :: O, fun w hw => ?_, ?_⟩
      · rcases List.mem_cons.1 hw with e | hw
        · exact ⟨r, hE r hr, e⟩
        · exact hO w hw
      · rw [← he, sumR_nf hT (wordE_as _), show leadW r :: O = [leadW r] ++ O from rfl, evalW_app, nf_app_l, nf_app_r]
        have e2 : evalW [leadW r] = wordE (leadW r) := by unfold evalW; simp [nf_of_as (wordE_as _)]
        rw [e2]
        refine nf_congr fun z => ?_
        simp only [List.count_append]; omega
theorem nf_nil_eq {L M : LL} (h : nf (L ++ M) = []) : nf L = nf M := nf_congr fun z => by
  have := mem_nf (L := L ++ M) (z := z)
  rw [h, List.count_append] at this
  simp only [List.not_mem_nil, false_iff] at this
  omega
/-- what the words of an element must bear is enough -/
theorem isSq_of {d : Int} {T O : LL} (hT : As T) (hO : ∀ w ∈ O, IsW d w) (h : nf (evalW O ++ T) = []) : IsSq d T (nf O) :=
  ⟨as_nf _, fun w hw => hO w (nf_sub hw), by
    have := nf_nil_eq h
    rw [nf_of_as (as_evalW _), nf_of_as hT] at this
    rw [evalW_nf, this]⟩
theorem sq_exists {d : Int} (hd : d ≤ 63) {T : LL} (hT : As T) (hE : ∀ t ∈ T, Ex d t) : ∃ P, IsSq d T P := by
  have hb : ∃ n : Nat, ∀ t ∈ T, val t < n := by
    by_cases e : T = []
    · subst e; exact ⟨0, fun t ht => (by cases ht)⟩
    · obtain ⟨r, _, hm⟩ := exists_max e
      exact ⟨(val r).toNat + 1, fun t ht => by have := hm t ht; omega⟩
  obtain ⟨n, hn⟩ := hb
  obtain ⟨O, h1, h2⟩ := sq_exists' hd n T hT hE hn
  exact ⟨_, isSq_of hT h1 h2⟩
/-! ### elimination -/
/-- rows and what they are made of, taken from an element -/
def redP (RS : List (LL × LL)) (x : LL × LL) : LL × LL := RS.foldl (fun x R => if R.1.headD [] ∈ x.1 then (sumR x.1 R.1, sumR x.2 R.2) else x) x
def buildP (W : LL) : List (LL × LL) := W.foldl (fun RS w => RS ++ [redP RS (wordE w, [w])]) []
structure PairOk (d : Int) (R : LL × LL) : Prop where
  a1 : As R.1
  a2 : As R.2
  ws : ∀ w ∈ R.2, IsW d w
  ev : R.1 = evalW R.2
theorem redP_as {d : Int} {RS : List (LL × LL)} : ∀ {x : LL × LL}, (∀ R ∈ RS, PairOk d R) → As x.1 → As x.2 → (∀ w ∈ x.2, IsW d w) →
    As (redP RS x).1 ∧ As (redP RS x).2 ∧ (∀ w ∈ (redP RS x).2, IsW d w) ∧ ∀ C, nf (x.1 ++ C) = evalW x.2 → nf ((redP RS x).1 ++ C) = evalW (redP RS x).2 := by
  induction RS with
  | nil => intro x _ h1 h2 h3; exact ⟨h1, h2, h3, fun C h => h⟩
  | cons R RS ih =>
    intro x h h1 h2 h3
    have hR := h R (List.mem_cons_self ..)
    have hRS := fun Q hQ => h Q (List.mem_cons_of_mem _ hQ)
    simp only [redP, List.foldl_cons]
    split
    · obtain ⟨i1, i2, i3, i4⟩ := ih (x := (sumR x.1 R.1, sumR x.2 R.2)) hRS (as_sumR h1 hR.a1) (as_sumR h2 hR.a2) (fun w hw => by
        rcases ((sumR_as _ _ h2 hR.a2).2 w).1 hw with ⟨k, _⟩ | ⟨_, k⟩
        · exact h3 w k
        · exact hR.ws w k)
      refine ⟨i1, i2, i3, fun C hC => i4 C ?_⟩
      show nf (sumR x.1 R.1 ++ C) = evalW (sumR x.2 R.2)
      rw [evalW_sum h2 hR.a2, ← hC, ← hR.ev, sumR_nf (as_nf _) hR.a1, sumR_nf h1 hR.a1, nf_app_l, nf_app_l]
      refine nf_congr fun z => ?_
      simp only [List.count_append]; omega
    · exact ih hRS h1 h2 h3
/-- no row's first term is in a later row -/
def Piv (RS : List (LL × LL)) : Prop := RS.Pairwise fun R Q => R.1.headD [] ∉ Q.1
theorem redP_piv {RS : List (LL × LL)} : ∀ {x : LL × LL}, Piv RS → (∀ R ∈ RS, As R.1) → As x.1 → (∀ R ∈ RS, R.1 ≠ []) → ∀ R ∈ RS, R.1.headD [] ∉ (redP RS x).1 := by
  have keep : ∀ (RS : List (LL × LL)) (x : LL × LL) (p : List Int), (∀ R ∈ RS, As R.1) → As x.1 → (∀ R ∈ RS, p ∉ R.1) → p ∉ x.1 → p ∉ (redP RS x).1 := by
    intro RS
    induction RS with
    | nil => intro x p _ _ _ h; exact h
    | cons R RS ih =>
      intro x p hA hx hp h
      simp only [redP, List.foldl_cons]
      split
      · refine ih _ p (fun Q hQ => hA Q (List.mem_cons_of_mem _ hQ)) (as_sumR hx (hA R (List.mem_cons_self ..))) (fun Q hQ => hp Q (List.mem_cons_of_mem _ hQ)) ?_
        intro hm
        rcases ((sumR_as _ _ hx (hA R (List.mem_cons_self ..))).2 p).1 hm with ⟨k, _⟩ | ⟨_, k⟩
        · exact h k
        · exact hp R (List.mem_cons_self ..) k
      · exact ih _ p (fun Q hQ => hA Q (List.mem_cons_of_mem _ hQ)) hx (fun Q hQ => hp Q (List.mem_cons_of_mem _ hQ)) h
  induction RS with
  | nil => intro x _ _ _ _ R hR; cases hR
  | cons R RS ih =>
    intro x hp hA hx hne Q hQ
    obtain ⟨h1, h2⟩ := List.pairwise_cons.1 hp
    have hAR := hA R (List.mem_cons_self ..)
    have hARS := fun Q hQ => hA Q (List.mem_cons_of_mem _ hQ)
    have hne' := fun Q hQ => hne Q (List.mem_cons_of_mem _ hQ)
    have hhead : R.1.headD [] ∈ R.1 := by
      cases e : R.1 with
      | nil => exact absurd e (hne R (List.mem_cons_self ..))
      | cons y t => simp
    rcases List.mem_cons.1 hQ with e | hQ
    · subst e
      simp only [redP, List.foldl_cons]
      split
      · rename_i hm
        refine keep RS _ _ hARS (as_sumR hx hAR) h1 ?_
        intro hk
        rcases ((sumR_as _ _ hx hAR).2 _).1 hk with ⟨_, k⟩ | ⟨k, _⟩
        · exact k hhead
        · exact k hm
      · rename_i hm
        exact keep RS _ _ hARS hx h1 hm
    · simp only [redP, List.foldl_cons]
      split
      · exact ih h2 hARS (as_sumR hx hAR) hne' Q hQ
      · exact ih h2 hARS hx hne' Q hQ
/-- the rows that come of words -/
structure RowsOk (d : Int) (W : LL) (RS : List (LL × LL)) : Prop where
  len : RS.length = W.length
  ok : ∀ R ∈ RS, PairOk d R
  ne : ∀ R ∈ RS, R.1 ≠ []
  piv : Piv RS
  top : ∀ k (h : k < W.length) (h' : k < RS.length), W[k] ∈ RS[k].2 ∧ ∀ w ∈ RS[k].2, w ∈ W.take (k + 1)
theorem redP_words {W : LL} {RS : List (LL × LL)} : ∀ {x : LL × LL}, (∀ R ∈ RS, As R.2 ∧ ∀ w ∈ R.2, w ∈ W) → As x.2 → ∀ v, v ∉ W → (v ∈ (redP RS x).2 ↔ v ∈ x.2) := by
  induction RS with
  | nil => intro x _ _ v _; exact Iff.rfl
  | cons R RS ih =>
    intro x h hx v hv
    have hR := h R (List.mem_cons_self ..)
    simp only [redP, List.foldl_cons]
    split
    · refine (ih (fun Q hQ => h Q (List.mem_cons_of_mem _ hQ)) (as_sumR hx hR.1) v hv).trans ?_
      have hn : v ∉ R.2 := fun hm => hv (hR.2 v hm)
      rw [(sumR_as _ _ hx hR.1).2 v]; simp [hn]
    · exact ih (fun Q hQ => h Q (List.mem_cons_of_mem _ hQ)) hx v hv
theorem RowsOk.nil (d : Int) : RowsOk d [] [] := ⟨rfl, fun R h => (by cases h), fun R h => (by cases h), List.Pairwise.nil, fun k h => (by cases h)⟩
theorem RowsOk.add {d : Int} (hd : d ≤ 63) {W : LL} {RS : List (LL × LL)} {w : List Int} (h : RowsOk d W RS) (hw : IsW d w) (hn : w ∉ W) : RowsOk d (W ++ [w]) (RS ++ [redP RS (wordE w, [w])]) := by
  have ha1 : As [w] := by simp [As]
  obtain ⟨i1, i2, i3, i4⟩ := redP_as (x := (wordE w, [w])) h.ok (wordE_as w) ha1 (fun v hv => by rw [List.mem_singleton.1 hv]; exact hw)
  have hwords : ∀ R ∈ RS, As R.2 ∧ ∀ v ∈ R.2, v ∈ W := by
    intro R hR
    obtain ⟨k, hk, rfl⟩ := List.mem_iff_getElem.1 hR
    exact ⟨(h.ok _ hR).a2, fun v hv => List.mem_of_mem_take ((h.top k (by rw [← h.len]; exact hk) hk).2 v hv)⟩
  have hwin : w ∈ (redP RS (wordE w, [w])).2 := (redP_words hwords ha1 w hn).2 (by simp)
  have hev : (redP RS (wordE w, [w])).1 = evalW (redP RS (wordE w, [w])).2 := by
    have := i4 [] (by unfold evalW; simp)
    rw [List.append_nil, nf_of_as i1] at this; exact this
  have hok : PairOk d (redP RS (wordE w, [w])) := ⟨i1, i2, i3, hev⟩
  have hne : (redP RS (wordE w, [w])).1 ≠ [] := by
    rw [hev]; exact evalW_ne hd i2 (fun e => by rw [e] at hwin; cases hwin) i3
  refine ⟨by simp [h.len], fun R hR => ?_, fun R hR => ?_, ?_, fun k hk hk' => ?_⟩
  · rcases List.mem_append.1 hR with hR | hR
    · exact h.ok R hR
    · rw [List.mem_singleton.1 hR]; exact hok
  · rcases List.mem_append.1 hR with hR | hR
    · exact h.ne R hR
    · rw [List.mem_singleton.1 hR]; exact hne
  · unfold Piv
    rw [List.pairwise_append]
    refine ⟨h.piv, by simp, fun R hR Q hQ => ?_⟩
    rw [List.mem_singleton.1 hQ]
    exact redP_piv h.piv (fun Q hQ => (h.ok Q hQ).a1) (wordE_as w) h.ne R hR
  · by_cases hkl : k < W.length
    · have hkr : k < RS.length := by rw [h.len]; exact hkl
      rw [List.getElem_append_left hkl, List.getElem_append_left hkr]
      obtain ⟨t1, t2⟩ := h.top k hkl hkr
      exact ⟨t1, fun v hv => by rw [List.take_append_of_le_length (by omega)]; exact t2 v hv⟩
    · have hke : k = W.length := by simp at hk; omega
      subst hke
      rw [List.getElem_append_right (Nat.le_refl _), List.getElem_append_right (by rw [h.len]; exact Nat.le_refl _)]
      simp only [Nat.sub_self, h.len, List.getElem_singleton]
      refine ⟨hwin, fun v hv => ?_⟩
      rw [List.take_of_length_le (by simp)]
      by_cases hvW : v ∈ W
      · exact List.mem_append_left _ hvW
      · have := (redP_words hwords ha1 v hvW).1 hv
        exact List.mem_append_right _ this
theorem buildP_snoc (W : LL) (w : List Int) : buildP (W ++ [w]) = buildP W ++ [redP (buildP W) (wordE w, [w])] := by simp [buildP, List.foldl_append]
theorem rowsOk_take {d : Int} (hd : d ≤ 63) {W : LL} (hW : ∀ w ∈ W, IsW d w) (hn : W.Nodup) : ∀ k, k ≤ W.length → RowsOk d (W.take k) (buildP (W.take k)) := by
  intro k
  induction k with
  | zero => intro _; exact RowsOk.nil d
  | succ k ih =>
    intro hk
    have hk' : k < W.length := by omega
    rw [List.take_succ_eq_append_getElem hk', buildP_snoc]
    refine (ih (by omega)).add hd (hW _ (List.getElem_mem hk')) fun hm => ?_
    obtain ⟨j, hj, e⟩ := List.mem_iff_getElem.1 hm
    simp only [List.length_take] at hj
    rw [List.getElem_take] at e
    exact List.pairwise_iff_getElem.1 hn j k (by omega) hk' (by omega) e
/-- some row's first term is in the sum of words that are not none -/
theorem piv_in {d : Int} {W : LL} {RS : List (LL × LL)} (h : RowsOk d W RS) : ∀ (n : Nat), n ≤ W.length → ∀ (U : LL), As U → U ≠ [] → (∀ w ∈ U, w ∈ W.take n) → ∃ k, ∃ hk : k < RS.length, k < n ∧ (RS[k].1).headD [] ∈ evalW U := by
  intro n
  induction n with
  | zero =>
    intro _ U _ hne hU
    cases U with
    | nil => exact absurd rfl hne
    | cons x U => have := hU x (List.mem_cons_self ..); simp at this
  | succ n ih =>
    intro hn U hA hne hU
    have hnW : n < W.length := by omega
    have hnR : n < RS.length := by rw [h.len]; exact hnW
    by_cases hm : W[n] ∈ U
    · obtain ⟨t1, t2⟩ := h.top n hnW hnR
      have hRo := h.ok _ (List.getElem_mem hnR)
      have hA1 := as_sumR hA hRo.a2
      by_cases e : sumR U RS[n].2 = []
      · refine ⟨n, hnR, by omega, ?_⟩
        have hUe : U = RS[n].2 := by
          refine as_unique hA hRo.a2 fun z => ?_
          have := (sumR_as _ _ hA hRo.a2).2 z
          rw [e] at this
          by_cases a : z ∈ U <;> by_cases b : z ∈ RS[n].2 <;> simp [a, b] at this ⊢
        rw [hUe, ← hRo.ev]
        cases e2 : RS[n].1 with
        | nil => exact absurd e2 (h.ne _ (List.getElem_mem hnR))
        | cons y t => simp
      · have hsub : ∀ w ∈ sumR U RS[n].2, w ∈ W.take n := by
          intro w hw
          have hw1 : w ∈ W.take (n + 1) ∧ w ≠ W[n] := by
            rcases ((sumR_as _ _ hA hRo.a2).2 w).1 hw with ⟨a, b⟩ | ⟨a, b⟩
            · exact ⟨hU w a, fun e => b (e ▸ t1)⟩
            · exact ⟨t2 w b, fun e => a (e ▸ hm)⟩
          rw [List.take_succ_eq_append_getElem hnW] at hw1
          rcases List.mem_append.1 hw1.1 with a | a
          · exact a
          · exact absurd (List.mem_singleton.1 a) hw1.2
        obtain ⟨k, hk, hkn, hin⟩ := ih (by omega) _ hA1 e hsub
        refine ⟨k, hk, by omega, ?_⟩
        rw [evalW_sum hA hRo.a2, ← hRo.ev] at hin
        rcases ((sumR_as _ _ (as_evalW _) hRo.a1).2 _).1 hin with ⟨a, _⟩ | ⟨_, a⟩
        · exact a
        · exact absurd a (List.pairwise_iff_getElem.1 h.piv k n hk hnR hkn)
    · obtain ⟨k, hk, hkn, hin⟩ := ih (by omega) U hA hne (fun w hw => by
        have := hU w hw
        rw [List.take_succ_eq_append_getElem hnW] at this
        rcases List.mem_append.1 this with a | a
        · exact a
        · exact absurd (List.mem_singleton.1 a ▸ hw) hm)
      exact ⟨k, hk, by omega, hin⟩
/-- the elimination finds the words -/
theorem elim_sq {d : Int} (hd : d ≤ 63) {W : LL} (hW : ∀ w, w ∈ W ↔ IsW d w) (hn : W.Nodup) {T : LL} (hT : As T) (hE : ∀ t ∈ T, Ex d t) : IsSq d T (redP (buildP W) (T, [])).2 := by
  have hro := rowsOk_take hd (fun w hw => (hW w).1 hw) hn W.length (Nat.le_refl _)
  rw [List.take_length] at hro
  obtain ⟨P, hP⟩ := sq_exists hd hT hE
  obtain ⟨i1, i2, i3, i4⟩ := redP_as (x := (T, [])) hro.ok hT as_nil (fun w hw => (by cases hw))
  have hpiv := redP_piv (x := (T, [])) hro.piv (fun Q hQ => (hro.ok Q hQ).a1) hT hro.ne
  have hev := i4 T (by
    show nf (T ++ T) = evalW []
    show nf (T ++ T) = nf []
    exact nf_congr fun z => by rw [List.count_append, List.count_nil]; omega)
  generalize redP (buildP W) (T, []) = x at *
  -- what is left is a sum of words
  have hleft : x.1 = evalW (sumR x.2 P) := by
    rw [evalW_sum i2 hP.asc, hP.ev, ← hev, sumR_nf (as_nf _) hT, nf_app_l]
    refine (nf_of_as i1).symm.trans (nf_congr fun z => ?_)
    simp only [List.count_append]; omega
  have h0 : sumR x.2 P = [] := by
    refine Classical.byContradiction fun hne => ?_
    obtain ⟨k, hk, _, hin⟩ := piv_in hro W.length (Nat.le_refl _) _ (as_sumR i2 hP.asc) hne (fun w hw => by
      rw [List.take_length, hW w]
      rcases ((sumR_as _ _ i2 hP.asc).2 w).1 hw with ⟨a, _⟩ | ⟨_, a⟩
      · exact i3 w a
      · exact hP.ws w a)
    rw [← hleft] at hin
    exact hpiv _ (List.getElem_mem hk) hin
  have : x.2 = P := by
    refine as_unique i2 hP.asc fun z => ?_
    have := (sumR_as _ _ i2 hP.asc).2 z
    rw [h0] at this
    by_cases a : z ∈ x.2 <;> by_cases b : z ∈ P <;> simp [a, b] at this ⊢
  rw [this]; exact hP
end Go.Proofs.YtdkmdmpaflgfaaaGreatDoor

namespace Go.Proofs.YtdkmdmpaflgfaaaGreatDoor

theorem val_lt : ∀ {t : List Int}, (∀ x ∈ t, 0 ≤ x ∧ x ≤ 63) → val t < 64 ^ t.length
  | [], _ => by simp [val]
  | x :: t, h => by
    have h1 := val_lt (t := t) fun y hy => h y (List.mem_cons_of_mem _ hy)
    have h2 := h x (List.mem_cons_self ..)
    simp only [val, List.length_cons]
    rw [Int.pow_succ]
    omega
theorem val_ge : ∀ {t : List Int}, Nn t → Tr t → t ≠ [] → (64 : Int) ^ (t.length - 1) ≤ val t
  | [], _, _, h => absurd rfl h
  | [x], hn, ht, _ => by
    have h0 := hn.head
    have h1 := ht.1 rfl
    simp [val]; omega
  | x :: y :: t, hn, ht, _ => by
    have h0 := hn.head
    have h1 := val_ge hn.tail ht.2 (by simp)
    simp only [List.length_cons, Nat.add_sub_cancel] at h1 ⊢
    rw [Int.pow_succ]
    simp only [val] at h1 ⊢
    omega
theorem Ex.bd {d : Int} (hd : d ≤ 63) {t : List Int} (h : Ex d t) : ∀ x ∈ t, 0 ≤ x ∧ x ≤ 63 := fun x hx => ⟨h.nn x hx, Int.le_trans (h.le x hx) hd⟩
theorem val_len {d : Int} (hd : d ≤ 63) {t u : List Int} (h : Ex d t) (k : Ex d u) (hl : t.length < u.length) : val t < val u := by
  have h1 := val_lt (h.bd hd)
  have h2 := val_ge k.nn k.tr (by intro e; rw [e] at hl; simp at hl)
  have h3 : (64 : Int) ^ t.length ≤ 64 ^ (u.length - 1) := by
    have : (64 : Nat) ^ t.length ≤ 64 ^ (u.length - 1) := Nat.pow_le_pow_right (by omega) (by omega)
    have e1 : ((64 ^ t.length : Nat) : Int) = (64 : Int) ^ t.length := by simp
    have e2 : ((64 ^ (u.length - 1) : Nat) : Int) = (64 : Int) ^ (u.length - 1) := by simp
    rw [← e1, ← e2]; omega
  omega
/-- read from the left -/
def valL : List Int → Int
  | [] => 0
  | x :: t => x * 64 ^ t.length + valL t
theorem valL_snoc : ∀ (t : List Int) (x : Int), valL (t ++ [x]) = x + 64 * valL t
  | [], x => by simp [valL]
  | y :: t, x => by
    simp only [List.cons_append, valL, List.length_append, List.length_singleton]
    rw [valL_snoc t x, Int.pow_succ, ← Int.mul_assoc]; omega
theorem valL_rev : ∀ t : List Int, valL t.reverse = val t
  | [] => rfl
  | x :: t => by rw [List.reverse_cons, valL_snoc, valL_rev t]; rfl
theorem valL_bd : ∀ {t : List Int}, (∀ x ∈ t, 0 ≤ x ∧ x ≤ 63) → 0 ≤ valL t ∧ valL t < 64 ^ t.length
  | [], _ => by simp [valL]
  | x :: t, h => by
    have h1 := valL_bd (t := t) fun y hy => h y (List.mem_cons_of_mem _ hy)
    have h2 := h x (List.mem_cons_self ..)
    have hp : (0 : Int) < 64 ^ t.length := Int.pow_pos (by omega)
    have h3 := Int.mul_nonneg h2.1 (Int.le_of_lt hp)
    have h4 := Int.mul_le_mul_of_nonneg_right h2.2 (Int.le_of_lt hp)
    simp only [valL, List.length_cons]
    rw [Int.pow_succ]
    omega
theorem lexLt_valL : ∀ {t u : List Int}, t.length = u.length → (∀ x ∈ t, 0 ≤ x ∧ x ≤ 63) → (∀ x ∈ u, 0 ≤ x ∧ x ≤ 63) → (lexLt t u = true ↔ valL t < valL u)
  | [], [], _, _, _ => by simp [lexLt, valL]
  | x :: t, y :: u, hl, h, k => by
    have hl' : t.length = u.length := by simpa using hl
    have h1 := valL_bd (t := t) fun z hz => h z (List.mem_cons_of_mem _ hz)
    have h2 := valL_bd (t := u) fun z hz => k z (List.mem_cons_of_mem _ hz)
    have ih := lexLt_valL hl' (fun z hz => h z (List.mem_cons_of_mem _ hz)) fun z hz => k z (List.mem_cons_of_mem _ hz)
    simp only [lexLt, valL]
    rw [hl'] at h1 ⊢
    have hp : (0 : Int) < 64 ^ u.length := Int.pow_pos (by omega)
    by_cases e : x = y
    · subst e; rw [if_pos rfl, ih]; omega
    · rw [if_neg e, decide_eq_true_eq]
      generalize (64 : Int) ^ u.length = p at *
      constructor
      · intro hxy
        have := Int.mul_le_mul_of_nonneg_right (show x + 1 ≤ y by omega) (Int.le_of_lt hp)
        rw [Int.add_mul, Int.one_mul] at this
        omega
      · intro hv
        refine Classical.byContradiction fun hxy => ?_
        have := Int.mul_le_mul_of_nonneg_right (show y + 1 ≤ x by omega) (Int.le_of_lt hp)
        rw [Int.add_mul, Int.one_mul] at this
        omega
/-- the program's comparison from the right -/
def frI (r s : List Int) : Int := if r.length = s.length then cmpL r.reverse s.reverse else (r.length : Int) - s.length
theorem frI_pos {d : Int} (hd : d ≤ 63) {r s : List Int} (hr : Ex d r) (hs : Ex d s) : 0 < frI r s ↔ val s < val r := by
  unfold frI
  by_cases e : r.length = s.length
  · rw [if_pos e]
    have hl : r.reverse.length = s.reverse.length := by simpa using e
    have b1 : ∀ x ∈ r.reverse, 0 ≤ x ∧ x ≤ 63 := fun x hx => hr.bd hd x (List.mem_reverse.1 hx)
    have b2 : ∀ x ∈ s.reverse, 0 ≤ x ∧ x ≤ 63 := fun x hx => hs.bd hd x (List.mem_reverse.1 hx)
    have h1 := lexLt_valL hl b1 b2
    rw [valL_rev, valL_rev] at h1
    unfold cmpL
    by_cases c1 : lexLt r.reverse s.reverse = true
    · rw [if_pos c1]
      have := h1.1 c1
      omega
    · rw [if_neg c1]
      have c2 : ¬ val r < val s := fun h => c1 (h1.2 h)
      by_cases c3 : r.reverse = s.reverse
      · rw [if_pos c3]
        have : r = s := by simpa using c3
        subst this; omega
      · rw [if_neg c3]
        have : val r ≠ val s := fun h => c3 (by rw [hr.inj hd hs h])
        omega
  · rw [if_neg e]
    rcases Nat.lt_or_gt_of_ne e with h | h
    · have := val_len hd hr hs h; omega
    · have := val_len hd hs hr h; omega

/-! ### how many lists of a degree there are -/
theorem deg_pos : ∀ (j : Nat) {t : List Int}, Nn t → Tr t → t ≠ [] → (2 : Int) ^ (j + t.length) - 1 ≤ degW j t
  | _, [], _, _, h => absurd rfl h
  | j, [x], hn, ht, _ => by
    have h0 := hn.head
    have h1 := ht.1 rfl
    have h2 := pow_ge1 j
    simp only [degW, List.length_cons, List.length_nil, Nat.zero_add, Int.add_zero]
    have := Int.mul_le_mul_of_nonneg_right (show (1 : Int) ≤ x by omega) (show (0 : Int) ≤ 2 ^ (j + 1) - 1 by omega)
    omega
  | j, x :: y :: t, hn, ht, _ => by
    have h0 := hn.head
    have h1 := deg_pos (j + 1) hn.tail ht.2 (by simp)
    have h2 := pow_ge1 j
    have h3 := Int.mul_nonneg h0 (show (0 : Int) ≤ 2 ^ (j + 1) - 1 by omega)
    rw [show j + (x :: y :: t).length = j + 1 + (y :: t).length by simp; omega]
    simp only [degW] at h1 ⊢
    omega
theorem Ex.len5 {d : Int} (hd : d ≤ 40) {t : List Int} (h : Ex d t) : t.length ≤ 5 := by
  refine Classical.byContradiction fun hn => ?_
  have h1 := deg_pos 0 h.nn h.tr (by intro e; rw [e] at hn; simp at hn)
  rw [h.deg, Nat.zero_add] at h1
  have h2 : (2 : Nat) ^ 6 ≤ 2 ^ t.length := Nat.pow_le_pow_right (by omega) (by omega)
  have e1 : ((2 ^ t.length : Nat) : Int) = (2 : Int) ^ t.length := by simp
  rw [← e1] at h1
  omega
def codeN (t : List Int) : Nat := ((t.getD 1 0) + 16 * t.getD 2 0 + 128 * t.getD 3 0 + 512 * t.getD 4 0).toNat
theorem Ex.form {d : Int} (hd : d ≤ 40) {t : List Int} (h : Ex d t) : ∃ a b c e f : Int, 0 ≤ a ∧ 0 ≤ b ∧ 0 ≤ c ∧ 0 ≤ e ∧ 0 ≤ f ∧ a + 3 * b + 7 * c + 15 * e + 31 * f = d ∧ val t = a + 64 * (b + 64 * (c + 64 * (e + 64 * f))) ∧ codeN t = (b + 16 * c + 128 * e + 512 * f).toNat := by
  have hl := h.len5 hd
  have hn := h.nn
  have hdg := h.deg
  match t, hl, hn, hdg with
  | [], _, _, hdg => exact ⟨0, 0, 0, 0, 0, by omega, by omega, by omega, by omega, by omega, by simp [degW] at hdg; omega, by simp [val], by simp [codeN]⟩
  | [a], _, hn, hdg => exact ⟨a, 0, 0, 0, 0, hn a (by simp), by omega, by omega, by omega, by omega, by simp [degW] at hdg; omega, by simp [val], by simp [codeN]⟩
  | [a, b], _, hn, hdg => exact ⟨a, b, 0, 0, 0, hn a (by simp), hn b (by simp), by omega, by omega, by omega, by simp [degW] at hdg; omega, by simp [val], by simp [codeN]⟩
  | [a, b, c], _, hn, hdg => exact ⟨a, b, c, 0, 0, hn a (by simp), hn b (by simp), hn c (by simp), by omega, by omega, by simp [degW] at hdg; omega, by simp [val], by simp [codeN]⟩
  | [a, b, c, e], _, hn, hdg => exact ⟨a, b, c, e, 0, hn a (by simp), hn b (by simp), hn c (by simp), hn e (by simp), by omega, by simp [degW] at hdg; omega, by simp [val], by simp [codeN]⟩
  | [a, b, c, e, f], _, hn, hdg => exact ⟨a, b, c, e, f, hn a (by simp), hn b (by simp), hn c (by simp), hn e (by simp), hn f (by simp), by simp [degW] at hdg; omega, by simp [val], by simp [codeN]⟩
theorem filter_split {α : Type} (p : α → Bool) : ∀ L : List α, L.length = (L.filter p).length + (L.filter fun x => !(p x)).length
  | [] => rfl
  | x :: L => by
    have ih := filter_split p L
    cases h : p x
    · simp [h]; omega
    · simp [h]; omega
theorem nat_nodup_len : ∀ (N : Nat) (L : List Nat), L.Nodup → (∀ x ∈ L, x < N) → L.length ≤ N
  | 0, L, _, h => by
    cases L with
    | nil => simp
    | cons x L => have := h x (List.mem_cons_self ..); omega
  | N + 1, L, hn, h => by
    have h1 := nat_nodup_len N (L.filter (· != N)) (hn.filter _) (fun x hx => by
      have h2 := h x (List.mem_filter.1 hx).1
      have h3 := (List.mem_filter.1 hx).2
      have : x ≠ N := by simpa using h3
      omega)
    have h2 : L.length ≤ (L.filter (· != N)).length + 1 := by
      have h3 := filter_split (fun x => x != N) L
      have h4 : (L.filter fun x => !(x != N)).length ≤ 1 := by
        have h5 : ∀ y ∈ L.filter (fun x => !(x != N)), y = N := fun y hy => by have := (List.mem_filter.1 hy).2; simpa using this
        have h6 := hn.filter (fun x => !(x != N))
        generalize L.filter (fun x => !(x != N)) = M at *
        match M, h5, h6 with
        | [], _, _ => simp
        | [_], _, _ => simp
        | a :: b :: M, h5, h6 =>
          have e1 := h5 a (by simp)
          have e2 := h5 b (by simp)
          have := (List.nodup_cons.1 h6).1
          rw [e1, e2] at this
          exact absurd (List.mem_cons_self ..) this
      omega
    omega
/-- there are few lists of a degree -/
theorem ex_count {d : Int} (hd : d ≤ 40) {Q : LL} (hQ : As Q) (hE : ∀ t ∈ Q, Ex d t) : Q.length ≤ 2000 := by
  have h1 : (Q.map codeN).Nodup := by
    unfold List.Nodup
    rw [List.pairwise_map]
    refine List.Pairwise.imp_of_mem (R := fun x y => lexLt x y = true) (fun {t u} ht hu hlt e => ?_) hQ
    obtain ⟨a, b, c, e1, f, p1, p2, p3, p4, p5, p6, p7, p8⟩ := (hE t ht).form hd
    obtain ⟨a', b', c', e1', f', q1, q2, q3, q4, q5, q6, q7, q8⟩ := (hE u hu).form hd
    rw [p8, q8] at e
    have hv : val t = val u := by
      have b1 : b ≤ 13 ∧ c ≤ 5 ∧ e1 ≤ 2 ∧ f ≤ 1 := by omega
      have b2 : b' ≤ 13 ∧ c' ≤ 5 ∧ e1' ≤ 2 ∧ f' ≤ 1 := by omega
      have e9 : b + 16 * c + 128 * e1 + 512 * f = b' + 16 * c' + 128 * e1' + 512 * f' := by omega
      have hf : f = f' := by omega
      subst hf
      have he : e1 = e1' := by omega
      subst he
      have hc : c = c' := by omega
      subst hc
      have hb : b = b' := by omega
      subst hb
      have : a = a' := by omega
      subst this
      rw [p7, q7]
    exact lexLt_ne hlt ((hE t ht).inj (by omega) (hE u hu) hv)
  have h2 := nat_nodup_len 2000 (Q.map codeN) h1 (fun x hx => by
    obtain ⟨t, ht, rfl⟩ := List.mem_map.1 hx
    obtain ⟨a, b, c, e1, f, p1, p2, p3, p4, p5, p6, p7, p8⟩ := (hE t ht).form hd
    rw [p8]; omega)
  simpa using h2
/-! ### how long a product can be -/
theorem flat_len_le {α : Type} {L : List α} {f : α → LL} {k : Nat} (h : ∀ x ∈ L, (f x).length ≤ k) : (L.flatMap f).length ≤ L.length * k := by
  induction L with
  | nil => simp
  | cons x L ih =>
    rw [List.flatMap_cons, List.length_append, List.length_cons, Nat.succ_mul]
    have := h x (List.mem_cons_self ..)
    have := ih fun y hy => h y (List.mem_cons_of_mem _ hy)
    omega
theorem enumT_count : ∀ (s : List Int) (a : Int) (j : Nat), a ≤ 40 → (enumT s a j).length ≤ 41 ^ s.length
  | [], _, _, _ => by simp [enumT]
  | s0 :: s, a, j, ha => by
    unfold enumT
    have hp := pow_ge1 j
    have h1 := flat_len_le (L := List.range ((min (a / 2 ^ (j + 1)) s0).toNat + 1)) (f := fun (x : Nat) => (enumT s (a - 2 ^ (j + 1) * x) (j + 1)).map ((x : Int) :: ·)) (k := 41 ^ s.length) (fun x _ => by
      rw [List.length_map]
      have := Int.mul_nonneg (show (0 : Int) ≤ 2 ^ (j + 1) by omega) (show (0 : Int) ≤ (x : Int) by omega)
      exact enumT_count s _ _ (by omega))
    rw [List.length_range] at h1
    have h2 : (min (a / 2 ^ (j + 1)) s0).toNat + 1 ≤ 41 := by
      have : a / 2 ^ (j + 1) ≤ 40 := Int.le_trans (Int.ediv_le_ediv (by omega) ha) (Int.ediv_le_self _ (by omega))
      omega
    rw [List.length_cons, Nat.pow_succ, Nat.mul_comm (41 ^ s.length)]
    exact Nat.le_trans h1 (Nat.mul_le_mul_right _ h2)
theorem prodE_count {a d : Int} (ha : a ≤ 40) (hd : d ≤ 40) {s : List Int} (hs : Ex d s) : (prodE [a] s).length ≤ 115856201 := by
  rw [prodE_one]
  have h1 := flat_len_le (L := enumT s a 0) (f := fun X => finT a s X) (k := 1) (fun X _ => by
    unfold finT resT; split <;> simp)
  have h2 := enumT_count s a 0 ha
  have h3 : (41 : Nat) ^ s.length ≤ 41 ^ 5 := Nat.pow_le_pow_right (by omega) (hs.len5 hd)
  have : (41 : Nat) ^ 5 = 115856201 := by decide
  omega
theorem mul_count {a d : Int} (ha : a ≤ 40) (hd : d ≤ 40) {W : LL} (hW : As W) (hE : ∀ s ∈ W, Ex d s) : ([[a]].flatMap fun r => W.flatMap fun s => prodE r s).length ≤ 500000000000 := by
  have h1 := flat_len_le (L := W) (f := fun s => prodE [a] s) (k := 115856201) (fun s hs => prodE_count ha hd (hE s hs))
  have h2 := ex_count hd hW hE
  simp only [List.flatMap_cons, List.flatMap_nil, List.append_nil]
  have : W.length * 115856201 ≤ 2000 * 115856201 := Nat.mul_le_mul_right _ h2
  omega
end Go.Proofs.YtdkmdmpaflgfaaaGreatDoor

namespace Go.Proofs
open Go.Shelf
def Tryz.revI_ren : Go.Shelf.Ren := ⟨fun | 35 => 176 | n => n, fun | 22 => 22 | 23 => 2 | 3 => 3 | 4 => 4 | 0 => 0 | n => n, fun | n => n⟩
theorem Tryz.revI : Go.Proofs.SlLaysE.n35 Tryz.prog Tryz.revI_ren := {
  mixed := by kernel_rfl
  f35 := ⟨Tryz.f176.name, by decide, Tryz.func176.trans (congrArg some (by kernel_rfl))⟩
  t0 := Tryz.underlying0
  a0 := Tryz.isAgg0
  z0 := Tryz.sizeOf0
  v0 := Tryz.zeroValue0
  t3 := Tryz.underlying3
  a3 := Tryz.isAgg3
  z3 := Tryz.sizeOf3
  v3 := Tryz.zeroValue3
  t4 := Tryz.underlying4
  a4 := Tryz.isAgg4
  z4 := Tryz.sizeOf4
  v4 := Tryz.zeroValue4
  t22 := Tryz.underlying22
  a22 := Tryz.isAgg22
  z22 := Tryz.sizeOf22
  v22 := Tryz.zeroValue22
  a23 := Tryz.isAgg2
  z23 := Tryz.sizeOf2 }
def Tryz.eqlI_ren : Go.Shelf.Ren := ⟨fun | 33 => 181 | n => n, fun | 22 => 22 | 23 => 2 | 4 => 4 | 3 => 3 | 0 => 0 | n => n, fun | n => n⟩
theorem Tryz.eqlI : Go.Proofs.SlLaysE.n33 Tryz.prog Tryz.eqlI_ren := {
  mixed := by kernel_rfl
  f33 := ⟨Tryz.f181.name, by decide, Tryz.func181.trans (congrArg some (by kernel_rfl))⟩
  t0 := Tryz.underlying0
  a0 := Tryz.isAgg0
  z0 := Tryz.sizeOf0
  v0 := Tryz.zeroValue0
  t3 := Tryz.underlying3
  a3 := Tryz.isAgg3
  z3 := Tryz.sizeOf3
  v3 := Tryz.zeroValue3
  t4 := Tryz.underlying4
  a4 := Tryz.isAgg4
  z4 := Tryz.sizeOf4
  v4 := Tryz.zeroValue4
  t22 := Tryz.underlying22
  a22 := Tryz.isAgg22
  z22 := Tryz.sizeOf22
  v22 := Tryz.zeroValue22
  a23 := Tryz.isAgg2
  z23 := Tryz.sizeOf2 }
end Go.Proofs
