/- the reference's l03Form at two squares, l11Fault, l11Is · the reference's l11Fault, l11Is · the reference's l11Is · the reference's l11Counts, l01Index, l01Own2 · plain: the greatest term of the element of an admissible word; words are independent · plain: elements as sums of admissible words: there is one way, and the elimination finds it · plain: the order from the right as the program compares; how many lists of a degree, how long products · contracts of slices.SortFunc and cmp.Compare, laid at this dump (printed by lay.sh, turned into a template by mksl.py) · the program: the order from the right, the greatest term, the word that leads · the reference: fill · the program: the leading word, the element of a word, the words of an element · the program: the element of a word; the words of an element · the reference: products of basis elements, of elements; the element of a word · the reference: products of elements; the element of a word · the reference: the element of a word · plain: the list of the admissible words of a degree · the reference: the list of the admissible words of a degree · the reference: all admissible words of a degree; the place of a list -/
import Derived.Test.YtnffpjdlpjkioaaBxag
import Derived.Test.YtnffpjdlpjkioaaBxah
import Derived.Test.YtnffpjdlpjkioaaBxad
import Derived.Shelf.SlicesE.Reverse
import Derived.Shelf.SlicesE.Equal
import Derived.Test.YtnffpjdlpjkioaaProg
import Derived.StillTailTactics
import Derived.Test.YtnffpjdlpjkioaaBxae
set_option linter.all false
namespace Go.Proofs.Ytnffpjdlpjkioaa
open Go.RowKit

def formK (a b k : Nat) : List (List Int) := if k = 2 then [[]] else if k = 1 then [[(b : Int)]] else ademF a b
theorem row0_own (w : World) : OwnR ((w.alloc (.cells #[] 2)).alloc (.cells #[.slice (some ⟨w.heap.size, 0, none⟩) 0 0] 30)) w.heap.size (.slice (some ⟨w.heap.size + 1, 0, none⟩) 1 1) [⟨some ⟨w.heap.size, 0, none⟩, 0, []⟩] := by
  refine OwnR.one ?_ ?_
  · have := row_cell (w.alloc (.cells #[] 2)) (.slice (some ⟨w.heap.size, 0, none⟩) 0 0) (B := w.heap.size) (by simp)
    rw [show (w.alloc (.cells #[] 2)).heap.size = w.heap.size + 1 by simp] at this
    exact this
  · exact (World.ownsRow_made w #[] 0 (Nat.le_refl _) (by decide) (by simp)).alloc _

end Go.Proofs.Ytnffpjdlpjkioaa

namespace Go.Proofs.Ytnffpjdlpjkioaa
open Go.RowKit

theorem two_ints (w : World) (a b : Int) : Rd (w.alloc (.cells #[.int .i64 a, .int .i64 b] 2)) (some ⟨w.heap.size, 0, none⟩) (iv [a, b]) := by
  have h : (w.alloc (.cells #[.int .i64 a, .int .i64 b] 2)).ownsRow w.heap.size 2 1 (.slice (some ⟨w.heap.size, 0, none⟩) 2 2) 2 (iv [a, b]) :=
    ⟨by simp [iv], .inr ⟨w.heap.size, 2, _, rfl, Nat.le_refl _, blk_new w _, Nat.le_refl _, by decide, by simp, by simp [iv]⟩⟩
  exact owns_Rd h
/-- no fault: no list -/
def FaultPost (ok : Prop) (w : World) (e : Ending) (w' : World) : Prop := ∃ A k cap, e = .returned (.slice A k cap) ∧ (k = 0 ↔ ok) ∧ Below w.heap.size w w'
theorem bits_same (x y n : Nat) (hx : x < 2 ^ n) (hy : y < 2 ^ n) : (bitsL x n == bitsL y n) = decide (x = y) := by
  rw [Bool.eq_iff_iff, beq_iff_eq, decide_eq_true_eq]
  exact ⟨bitsL_inj hx hy, fun h => by rw [h]⟩
theorem wordM_lt {xs : List Int} {Q : List (List Int)} (h : Shp xs Q) {v : Nat} (hv : v < 2 ^ xs.length) : ∀ ws, wordM Q ws v < 2 ^ xs.length
  | [] => hv
  | z :: ws => act_lt h (wordM_lt h hv ws) z
theorem xsumf_lt {α : Type} {n : Nat} (f : α → Nat) : ∀ (l : List α), (∀ a ∈ l, f a < 2 ^ n) → xsumf f l < 2 ^ n
  | [], _ => Nat.two_pow_pos _
  | a :: l, h => by rw [xsumf_cons]; exact xr_lt (h a (List.mem_cons_self ..)) (xsumf_lt f l fun b hb => h b (List.mem_cons_of_mem _ hb))
theorem ademF_row (a b : Nat) : ∀ x ∈ ademF a b, x.length ≤ 2 := ademP_row a b (a / 2 + 1)
theorem ademF_len (a b : Nat) : (ademF a b).length ≤ a / 2 + 1 := ademP_len a b (a / 2 + 1)
theorem wordM2 (Q : List (List Int)) (a b v : Nat) : wordM Q [(a : Int), (b : Int)] v = act Q a (act Q b v) := rfl

end Go.Proofs.Ytnffpjdlpjkioaa

namespace Go.Proofs.Ytnffpjdlpjkioaa
open Go.RowKit

theorem modB_yes {xs : List Int} {Q : List (List Int)} (h : IsMod xs Q) : modB xs Q = true := modB_iff.2 h
theorem modB_no {xs : List Int} {Q : List (List Int)} (h : ¬ IsMod xs Q) : modB xs Q = false := modB_false.2 h
theorem shpB_iff {xs : List Int} {Q : List (List Int)} : shpB xs Q = true ↔ Shp xs Q := by unfold shpB; simp
theorem shpB_not {xs : List Int} {Q : List (List Int)} (h : shpB xs Q = false) : ¬ Shp xs Q := fun h' => by rw [shpB_true h'] at h; cases h

end Go.Proofs.Ytnffpjdlpjkioaa

namespace Go.Proofs.Ytnffpjdlpjkioaa
open Go.RowKit

/-- the numbers of the degrees 0 .. 20 -/
def cntL (xs : List Int) : List Int := (List.range 21).map fun (d : Nat) => ((cnt xs (d : Int) : Nat) : Int)
theorem cntL_length (xs : List Int) : (cntL xs).length = 21 := by simp [cntL]
theorem cntL_getD (xs : List Int) {d : Nat} (h : d < 21) : (cntL xs).getD d 0 = ((cnt xs (d : Int) : Nat) : Int) := by simp [cntL, List.getD, h]
theorem cntL_nil : cntL [] = List.replicate 21 0 := by decide
theorem cntL_succ {xs : List Int} {k d : Nat} (h : k < xs.length) (hd : xs.getD k 0 = (d : Int)) (h21 : d < 21) : cntL (xs.take (k + 1)) = (cntL (xs.take k)).set d ((cnt (xs.take k) (d : Int) : Nat) + 1 : Int) := by
  refine list_ext_getD (cntL_length _) (by rw [List.length_set]; exact cntL_length _) fun i hi => ?_
  rw [cntL_getD _ hi, set_getD _ _ _ _ (by rw [cntL_length]; exact h21), cntL_getD _ hi, cnt_take h, hd]
  by_cases e : i = d
  · subst e; rw [if_pos rfl, if_pos rfl]; rfl
  · rw [if_neg (by omega), if_neg e]; rfl
theorem cnt_le (xs : List Int) (d : Int) : cnt xs d ≤ xs.length := List.countP_le_length

/-- the place of a number in a list, or -1 -/
def IxAt (xs : List Int) (x r : Int) : Prop := (r = -1 ∧ ∀ i, i < xs.length → xs.getD i 0 ≠ x) ∨ ∃ k : Nat, k < xs.length ∧ r = k ∧ xs.getD k 0 = x ∧ ∀ i, i < k → xs.getD i 0 ≠ x
/-- in the digits of a mask that is not 0 the first 1 stands at its least digit -/
theorem ix_lo {v n : Nat} {r : Int} (hv : v < 2 ^ n) (h : IxAt (bitsL v n) 1 r) : (v = 0 ∧ r = -1) ∨ (v ≠ 0 ∧ lo v < n ∧ r = (lo v : Nat)) := by
  rcases h with ⟨rfl, h⟩ | ⟨k, hk, rfl, h1, h2⟩
  · left
    refine ⟨eq_zero_of_tb fun i => ?_, rfl⟩
    rcases Nat.lt_or_ge i n with hi | hi
    · have := h i (by rw [bitsL_length]; exact hi)
      rw [bitsL_getD _ hi] at this
      cases hb : tb v i with
      | false => rfl
      | true => exact absurd (bit_one hb) this
    · exact tb_of_lt hv hi
  · right
    rw [bitsL_length] at hk
    rw [bitsL_getD _ hk, bit_iff] at h1
    have h0 : v ≠ 0 := by rintro rfl; rw [tb_zero] at h1; cases h1
    obtain ⟨a1, a2⟩ := lo_spec h0
    have e : lo v = k := by
      rcases Nat.lt_trichotomy (lo v) k with h3 | h3 | h3
      · have := h2 (lo v) h3
        rw [bitsL_getD _ (by omega)] at this
        exact absurd (bit_one a1) this
      · exact h3
      · rw [a2 k h3] at h1; cases h1
    rw [e]; exact ⟨h0, hk, rfl⟩

set_option maxRecDepth 100000 in
set_option maxHeartbeats 1000000 in
/-- copies of rows of rows -/
theorem l01Own2_any (A : Option Addr) (n c : Nat) (L : List Row) (w : World) (hn : n = L.length) (hsm : n ≤ 1048576) (hl : ∀ i, i < L.length → (rg L i).xs.length ≤ 1048576) (hR : RdR w A L) :
    Calls Try.prog 41 #[.slice A n c] w fun e w' => ∃ A1 c1 R, e = .returned (.slice A1 n c1) ∧ R.length = n ∧ dat R = dat L ∧ OwnR w' w.heap.size (.slice A1 n c1) R ∧ Below w.heap.size w w' := by
  have HR := Lib.hid hR
  have Hn := Lib.hid hn
  have HL := Lib.hid hl
  clear hR hn hl
  go_enter Try.func41, Try.ntmps41
  go_wp2_with fail
  go_loopw [3, 4] (fun vv i wr => ∃ R : List Row, ∃ A1 c1, R.length ≤ n ∧ i = .int .i64 (R.length : Nat) ∧ vv = .slice A1 R.length c1 ∧ Hid (dat R = (dat L).take R.length) ∧ OwnR wr w.heap.size (.slice A1 R.length c1) R ∧ Below w.heap.size w wr) (fun _ i _ => n - (intOf i).toNat)
  case atStart => exact ⟨[], some ⟨w.heap.size, 0, none⟩, 0, by simp, rfl, rfl, Lib.hid rfl, OwnR.made w (Nat.le_refl _), (Below.refl _ _).alloc (Nat.le_refl _) _⟩
  case round =>
    obtain ⟨R, A1, c1, hj, rfl, rfl, HD, hown, hbel⟩ := hrel
    have HO := Lib.hid hown
    have HB := Lib.hid hbel
    have hsz := hbel.size
    have hq : R.length < 1099511627776 := by omega
    by_cases hlt : R.length < n
    · have hjL : R.length < L.length := by rw [← Hn.out]; exact hlt
      have hR1 := HR.out.below hbel
      obtain ⟨b, o, rfl, hc⟩ := hR1.at_ hjL
      have hin := hR1.inn _ hjL
      have hl2 := HL.out _ hjL
      have HTS : Hid ((dat L).take (R.length + 1) = (dat L).take R.length ++ [(rg L R.length).xs]) := Lib.hid (by
        rw [List.take_succ_eq_append_getElem (by rw [dat_length]; exact hjL), ← dat_getD]; simp [List.getD, hjL, dat_length])
      generalize rg L R.length = r at *
      obtain ⟨rA, rc, rx⟩ := r
      simp only at hc hin hl2 HTS
      have HC := Lib.hid (l01Own_any rA rx.length rc (iv rx) wr (by rw [iv_length]) (by omega) (iv_one _) hin)
      clear hown hbel hR1 hin hjL
      go_wp2_with fail
      refine HC.out.mono ?_
      rintro e w1 ⟨g, cap, rfl, ho, hb⟩
      have HO1 := Lib.hid ho
      have HB1 := Lib.hid hb
      clear ho hb
      go_wp2_with (at_builtin; refine wpList_app1 _ _ _ _ _ etS (by rfl) (by rfl) w.heap.size (.slice A1 R.length c1) R.length (hv R) (by rfl) ((HO.out.later HB1.out).out.alloc _) _ (.slice (some ⟨g, 0, none⟩) rx.length cap) (by rfl) (new_cell _ _ _) (by rfl) hq (Nat.le_trans (Nat.le_trans hsz HB1.out.size) (Nat.le_of_lt (by simp))) ?_; (intro g2 c2 w3 hown3 hg3 hat3 hlt3; have HN := Lib.hid (OwnR.push HO.out HB1.out HO1.out rfl hsz hown3 hg3); have HB3 := Lib.hid (below_app2 (HB.out.trans (HB1.out.mono hsz)) (Nat.le_trans hsz HB1.out.size) (HO.out.later HB1.out).out hg3); clear hown3 hg3 hat3 hlt3))
      go_roundw
      case rel =>
        refine ⟨R ++ [⟨some ⟨g, 0, none⟩, cap, rx⟩], some ⟨g2, 0, none⟩, c2, by simp; omega, by simp, by simp, Lib.hid ?_, by simpa using HN.out, HB3.out⟩
        rw [dat_append1, HD.out, List.length_append, List.length_singleton, HTS.out]
      case measure => simp [intOf]; omega
    · obtain rfl : n = R.length := by omega
      have he : (dat L).take R.length = dat L := List.take_of_length_le (by rw [dat_length, ← Hn.out]; exact Nat.le_refl _)
      rw [he] at HD
      clear hown hbel he
      go_wp2_with fail
      go_ret
      exact ⟨A1, c1, R, rfl, rfl, HD.out, HO.out, HB.out⟩
end Go.Proofs.Ytnffpjdlpjkioaa

namespace Go.Proofs.Ytnffpjdlpjkioaa

/-! ### trimmed lists -/
def Tr : List Int → Prop
  | [] => True
  | x :: t => (t = [] → x ≠ 0) ∧ Tr t
theorem tr_last : ∀ {t : List Int}, (∀ k, t.length = k + 1 → t.getD k 0 ≠ 0) → Tr t
  | [], _ => trivial
  | x :: t, h => ⟨fun e => by subst e; exact h 0 rfl, tr_last fun k hk => by
      have := h (k + 1) (by simp [hk]); simpa using this⟩
theorem tr_last' : ∀ {t : List Int}, Tr t → ∀ k, t.length = k + 1 → t.getD k 0 ≠ 0
  | [], _, k, hk => by simp at hk
  | [x], h, k, hk => by
    have : k = 0 := by simpa using hk.symm
    subst this; exact h.1 rfl
  | x :: y :: t, h, k, hk => by
    cases k with
    | zero => simp at hk
    | succ k => have := tr_last' h.2 k (by simpa using hk); simpa using this
theorem trimN_spec (t : List Int) : ∀ n, n ≤ t.length → t.take n = t.take (trimN t n) ++ List.replicate (n - trimN t n) 0 ∧ (∀ k, trimN t n = k + 1 → t.getD k 0 ≠ 0) := by
  intro n
  induction n with
  | zero => intro _; exact ⟨by simp [trimN], fun k h => by simp [trimN] at h⟩
  | succ n ih =>
    intro hn
    obtain ⟨h1, h2⟩ := ih (by omega)
    have hle := trimN_le t n
    unfold trimN
    split
    · rename_i h0
      refine ⟨?_, h2⟩
      rw [List.take_succ_eq_append_getElem (by omega), h1, List.append_assoc, show n + 1 - trimN t n = (n - trimN t n) + 1 by omega, List.replicate_succ']
      congr 2
      rw [← getD_eq_getElem' (by omega), h0]
    · rename_i h0
      exact ⟨by simp, fun k hk => by have : k = n := by omega
                                     subst this; exact h0⟩
theorem trim_split (t : List Int) : t = trimL t ++ List.replicate (t.length - (trimL t).length) 0 ∧ Tr (trimL t) := by
  obtain ⟨h1, h2⟩ := trimN_spec t t.length (Nat.le_refl _)
  have hle := trimN_le t t.length
  have hl : (trimL t).length = trimN t t.length := by unfold trimL; rw [List.length_take]; omega
  refine ⟨?_, tr_last fun k hk => ?_⟩
  · rw [hl]; unfold trimL
    rw [List.take_length] at h1
    exact h1
  · rw [hl] at hk
    have := h2 k hk
    unfold trimL
    rw [show (t.take (trimN t t.length)).getD k 0 = t.getD k 0 from by simp [List.getD, List.getElem?_take, show k < trimN t t.length by omega]]
    exact this
theorem trim_id {t : List Int} (h : Tr t) : trimL t = t := by
  obtain ⟨h1, _⟩ := trim_split t
  by_cases e : t.length - (trimL t).length = 0
  · rw [e] at h1; simpa using h1.symm
  · obtain ⟨m, hm⟩ : ∃ m, t.length - (trimL t).length = m + 1 := ⟨t.length - (trimL t).length - 1, by omega⟩
    have hl : t.length = (trimL t).length + m + 1 := by omega
    have := tr_last' h ((trimL t).length + m) hl
    rw [hm] at h1
    generalize trimL t = u at *
    have h3 : t.getD (u.length + m) 0 = 0 := by rw [h1, List.replicate_succ', ← List.append_assoc]; simp [List.getD]
    exact absurd h3 this
theorem val_app0 : ∀ (u : List Int) (n : Nat), val (u ++ List.replicate n 0) = val u
  | [], n => by
    induction n with
    | zero => rfl
    | succ n ih => rw [List.replicate_succ]; simp only [List.nil_append, val] at ih ⊢; omega
  | x :: u, n => by simp only [List.cons_append, val]; rw [val_app0 u n]
theorem deg_app0 : ∀ (j : Nat) (u : List Int) (n : Nat), degW j (u ++ List.replicate n 0) = degW j u
  | j, [], n => by
    induction n generalizing j with
    | zero => rfl
    | succ n ih => rw [List.replicate_succ]; have := ih (j + 1); simp only [List.nil_append, degW] at this ⊢; omega
  | j, x :: u, n => by simp only [List.cons_append, degW]; rw [deg_app0 (j + 1) u n]
theorem val_trim (t : List Int) : val (trimL t) = val t := by conv => rhs; rw [(trim_split t).1, val_app0]
theorem deg_trim (j : Nat) (t : List Int) : degW j (trimL t) = degW j t := by conv => rhs; rw [(trim_split t).1, deg_app0]
theorem mem_trim {t : List Int} {x : Int} (h : x ∈ trimL t) : x ∈ t := by rw [(trim_split t).1]; exact List.mem_append_left _ h

/-! ### exponent lists of a degree -/
def Nn (t : List Int) : Prop := ∀ x ∈ t, 0 ≤ x
structure Ex (d : Int) (t : List Int) : Prop where
  nn : Nn t
  tr : Tr t
  deg : degW 0 t = d
theorem Nn.tail {x : Int} {t : List Int} (h : Nn (x :: t)) : Nn t := fun y hy => h y (List.mem_cons_of_mem _ hy)
theorem Nn.head {x : Int} {t : List Int} (h : Nn (x :: t)) : 0 ≤ x := h x (List.mem_cons_self ..)
theorem pow_ge1 (j : Nat) : (2 : Int) ≤ 2 ^ (j + 1) := by
  have h : (0 : Int) < 2 ^ j := Int.pow_pos (by omega)
  rw [Int.pow_succ]; omega
theorem deg_nn : ∀ (j : Nat) {t : List Int}, Nn t → 0 ≤ degW j t
  | _, [], _ => Int.le_refl _
  | j, x :: t, h => by
    have h1 := deg_nn (j + 1) h.tail
    have h2 := pow_ge1 j
    have h3 := Int.mul_nonneg h.head (by omega : (0 : Int) ≤ 2 ^ (j + 1) - 1)
    simp only [degW]; omega
theorem mem_deg : ∀ (j : Nat) {t : List Int}, Nn t → ∀ x ∈ t, x ≤ degW j t
  | _, [], _, x, hx => by cases hx
  | j, y :: t, h, x, hx => by
    have h1 := deg_nn (j + 1) h.tail
    have h2 := pow_ge1 j
    have h3 := Int.mul_nonneg h.head (by omega : (0 : Int) ≤ 2 ^ (j + 1) - 1)
    have h4 := Int.mul_nonneg h.head (by omega : (0 : Int) ≤ 2 ^ (j + 1) - 2)
    simp only [degW]
    rcases List.mem_cons.1 hx with e | hx
    · have : y * (2 ^ (j + 1) - 1) = y * (2 ^ (j + 1) - 2) + y := by rw [Int.mul_sub, Int.mul_sub]; omega
      omega
    · have := mem_deg (j + 1) h.tail x hx; omega
theorem val_nn : ∀ {t : List Int}, Nn t → 0 ≤ val t
  | [], _ => Int.le_refl _
  | x :: t, h => by have := val_nn h.tail; have := h.head; simp only [val]; omega
theorem val_pos : ∀ {t : List Int}, Nn t → Tr t → t ≠ [] → 0 < val t
  | [], _, _, h => absurd rfl h
  | x :: t, hn, ht, _ => by
    have h0 := hn.head
    simp only [val]
    by_cases e : t = []
    · have := ht.1 e
      subst e; simp only [val]; omega
    · have := val_pos hn.tail ht.2 e; omega
theorem val_inj : ∀ {t u : List Int}, Nn t → Tr t → (∀ x ∈ t, x ≤ 63) → Nn u → Tr u → (∀ x ∈ u, x ≤ 63) → val t = val u → t = u
  | [], [], _, _, _, _, _, _, _ => rfl
  | [], y :: u, _, _, _, h1, h2, _, e => by have := val_pos h1 h2 (by simp); rw [← e] at this; simp [val] at this
  | x :: t, [], h1, h2, _, _, _, _, e => by have := val_pos h1 h2 (by simp); rw [e] at this; simp [val] at this
  | x :: t, y :: u, h1, h2, h3, k1, k2, k3, e => by
    simp only [val] at e
    have a1 := h1.head
    have a2 := h3 x (List.mem_cons_self ..)
    have a3 := k1.head
    have a4 := k3 y (List.mem_cons_self ..)
    have : x = y := by omega
    subst this
    rw [val_inj h1.tail h2.2 (fun z hz => h3 z (List.mem_cons_of_mem _ hz)) k1.tail k2.2 (fun z hz => k3 z (List.mem_cons_of_mem _ hz)) (by omega)]
theorem Ex.le {d : Int} {t : List Int} (h : Ex d t) (x : Int) (hx : x ∈ t) : x ≤ d := by rw [← h.deg]; exact mem_deg 0 h.nn x hx
theorem Ex.inj {d : Int} {t u : List Int} (hd : d ≤ 63) (h : Ex d t) (k : Ex d u) (e : val t = val u) : t = u :=
  val_inj h.nn h.tr (fun x hx => Int.le_trans (h.le x hx) hd) k.nn k.tr (fun x hx => Int.le_trans (k.le x hx) hd) e
theorem deg_succ : ∀ (j : Nat) (t : List Int), degW (j + 1) t = degW j t + wX j t
  | _, [] => rfl
  | j, x :: t => by
    simp only [degW, wX]
    rw [deg_succ (j + 1) t]
    have h2 : (2 : Int) ^ (j + 1 + 1) = 2 * 2 ^ (j + 1) := by rw [Int.pow_succ]; omega
    rw [h2]
    generalize (2 : Int) ^ (j + 1) = p
    have e1 : x * (2 * p - 1) = 2 * (x * p) - x := by rw [Int.mul_sub, Int.mul_one, Int.mul_left_comm]
    have e2 : x * (p - 1) = x * p - x := by rw [Int.mul_sub, Int.mul_one]
    have e3 : p * x = x * p := Int.mul_comm _ _
    rw [e1, e2, e3]; omega

/-! ### the word that belongs to an exponent list -/
def leadW : List Int → List Int
  | [] => []
  | x :: t => (x + 2 * (leadW t).headD 0) :: leadW t
theorem leadW_len : ∀ t : List Int, (leadW t).length = t.length
  | [] => rfl
  | x :: t => by simp [leadW, leadW_len t]
theorem wX_lead : ∀ (j : Nat) (t : List Int), wX j t = 2 ^ (j + 1) * (leadW t).headD 0
  | _, [] => by simp [wX, leadW]
  | j, x :: t => by
    simp only [wX, leadW, List.headD_cons]
    rw [wX_lead (j + 1) t, Int.pow_succ (2 : Int) (j + 1), Int.mul_add, Int.mul_assoc]
theorem lead_deg : ∀ t : List Int, (leadW t).sum = degW 0 t
  | [] => rfl
  | x :: t => by
    simp only [leadW, List.sum_cons, degW]
    rw [lead_deg t, deg_succ, wX_lead]
    simp only [Nat.zero_add, Int.pow_one]
    omega
theorem lead_nn : ∀ {t : List Int}, Nn t → Nn (leadW t)
  | [], h => h
  | x :: t, h => by
    have h2 := lead_nn h.tail
    have h3 : 0 ≤ (leadW t).headD 0 := by
      cases e : leadW t with
      | nil => simp
      | cons y u => rw [e] at h2; simpa using h2.head
    intro y hy
    rcases List.mem_cons.1 hy with e | hy
    · have := h.head; omega
    · exact h2 y hy
theorem headD_nn {t : List Int} (h : Nn t) : 0 ≤ t.headD 0 := by
  cases t with
  | nil => simp
  | cons y u => simpa using h.head
theorem count_flat {L : LL} {f : List Int → LL} {r y : List Int} (hn : L.Nodup) (hy : y ∈ L) (h : ∀ x ∈ L, x ≠ y → r ∉ f x) : (L.flatMap f).count r = (f y).count r := by
  induction L with
  | nil => cases hy
  | cons x L ih =>
    obtain ⟨hx, hn'⟩ := List.nodup_cons.1 hn
    rw [List.flatMap_cons, List.count_append]
    rcases List.mem_cons.1 hy with e | hy
    · subst e
      have : (L.flatMap f).count r = 0 := List.count_eq_zero.2 fun hm => by
        obtain ⟨z, hz, hr⟩ := List.mem_flatMap.1 hm
        exact h z (List.mem_cons_of_mem _ hz) (fun e => hx (e ▸ hz)) hr
      omega
    · have h0 : (f x).count r = 0 := List.count_eq_zero.2 (h x (List.mem_cons_self ..) (fun e => hx (e ▸ hy)))
      rw [h0, ih hn' hy fun z hz => h z (List.mem_cons_of_mem _ hz)]; omega
theorem tot1_nn : ∀ {c : Int} {s X : List Int}, 0 ≤ c → LeT s X → Nn (tot1 c s X)
  | c, [], [], hc, _ => fun y hy => by simp [tot1] at hy; omega
  | c, [], _ :: _, _, h => h.elim
  | c, _ :: _, [], _, h => h.elim
  | c, s0 :: s, x :: X, hc, h => by
    obtain ⟨h0, h1, h2⟩ := h
    intro y hy
    simp only [tot1] at hy
    rcases List.mem_cons.1 hy with e | hy
    · omega
    · exact tot1_nn h0 h2 y hy
theorem tot1_self : ∀ (c : Int) (s : List Int), tot1 c s s = c :: s
  | c, [] => rfl
  | c, s0 :: s => by simp only [tot1]; rw [tot1_self s0 s]; congr 1; omega
theorem LeT.len : ∀ {s X : List Int}, LeT s X → X.length = s.length
  | [], [], _ => rfl
  | [], _ :: _, h => h.elim
  | _ :: _, [], h => h.elim
  | _ :: _, _ :: _, h => by simp [LeT.len h.2.2]
/-- what a table of one row leaves: of the degree, and its tail at most what was there -/
theorem prod_one {a d : Int} {s t : List Int} (ha : 0 ≤ a) (hs : Ex d s) (h : t ∈ prodE [a] s) :
    Ex (a + d) t ∧ ∃ X, LeT s X ∧ wX 0 X ≤ a ∧ t = trimL (tot1 (a - wX 0 X) s X) := by
  rw [prodE_one] at h
  obtain ⟨X, hX, ht⟩ := List.mem_flatMap.1 h
  obtain ⟨h1, h2⟩ := enumT_le s a 0 X hs.nn ha hX
  have e := finT_mem h1.len ht
  refine ⟨⟨fun x hx => ?_, ?_, ?_⟩, X, h1, h2, e⟩
  · rw [e] at hx; exact tot1_nn (by omega) h1 x (mem_trim hx)
  · rw [e]; exact (trim_split _).2
  · rw [e, deg_trim, tot1_deg 0 _ s X h1.len, hs.deg]
    simp only [Nat.zero_add, Int.pow_one]; omega
theorem mulE_one (a : Int) (W : LL) : mulE [[a]] W = nf (W.flatMap (prodE [a])) := by simp [mulE]
/-- the greatest term of the element of a word, and all others -/
theorem tri : ∀ {r : List Int}, Nn r → Tr r → degW 0 r ≤ 63 → r ∈ wordE (leadW r) ∧ ∀ t ∈ wordE (leadW r), Ex (degW 0 r) t ∧ (t = r ∨ val t < val r)
  | [], _, _, _ => by
    refine ⟨by simp [wordE, leadW], fun t ht => ?_⟩
    have : t = [] := by simpa [wordE, leadW] using ht
    subst this
    exact ⟨⟨fun x hx => (by cases hx), trivial, rfl⟩, .inl rfl⟩
  | x :: r, hn, ht, hd => by
    have hn' := hn.tail
    have hx0 := hn.head
    have hh := headD_nn (lead_nn hn')
    have hw : wX 0 r = 2 * (leadW r).headD 0 := by rw [wX_lead]; simp
    have hdeg : degW 0 (x :: r) = (x + 2 * (leadW r).headD 0) + degW 0 r := by
      simp only [degW]; rw [deg_succ, hw]; simp only [Nat.zero_add, Int.pow_one]; omega
    have hd0 := deg_nn 0 hn'
    obtain ⟨i1, i2⟩ := tri hn' ht.2 (by omega)
    simp only [leadW, wordE]
    rw [mulE_one, hdeg]
    have ha : 0 ≤ x + 2 * (leadW r).headD 0 := by omega
    have hda : (x + 2 * (leadW r).headD 0) + degW 0 r ≤ 63 := by omega
    have hax : (x + 2 * (leadW r).headD 0) - wX 0 r = x := by omega
    generalize hA : x + 2 * (leadW r).headD 0 = a at *
    -- each result
    have key : ∀ s ∈ wordE (leadW r), ∀ X, LeT s X → wX 0 X ≤ a → trimL (tot1 (a - wX 0 X) s X) = x :: r ∧ s = r ∧ X = s ∨ val (trimL (tot1 (a - wX 0 X) s X)) < val (x :: r) := by
      intro s hs X hX hXa
      obtain ⟨e1, e2⟩ := i2 s hs
      have htop : ∀ y tl, tot1 (a - wX 0 X) s X = y :: tl → y ≤ 63 := fun y tl e => by
        have h1 := tot1_nn (c := a - wX 0 X) (by omega) hX
        have h2 := tot1_deg 0 (a - wX 0 X) s X hX.len
        have h3 := mem_deg 0 h1 y (by rw [e]; exact List.mem_cons_self ..)
        rw [h2, e1.deg] at h3
        simp only [Nat.zero_add, Int.pow_one] at h3
        omega
      by_cases eX : X = s
      · rcases e2 with e2 | e2
        · subst e2; subst eX
          refine .inl ⟨?_, rfl, rfl⟩
          rw [tot1_self, hax]; exact trim_id ht
        · right
          rw [val_trim, eX, tot1_self]
          have := htop (a - wX 0 X) s (by rw [eX, tot1_self])
          rw [eX] at this
          simp only [val]; omega
      · right
        obtain ⟨y, tl, h1, h2⟩ := tot1_tail (a - wX 0 X) s X hX eX
        have := htop y tl h1
        rw [val_trim, h1]
        simp only [val]
        rcases e2 with e2 | e2
        · subst e2; omega
        · omega
    have hflat : ∀ t ∈ (wordE (leadW r)).flatMap (prodE [a]), Ex (a + degW 0 r) t ∧ (t = x :: r ∨ val t < val (x :: r)) := by
      intro t ht'
      obtain ⟨s, hs, hp⟩ := List.mem_flatMap.1 ht'
      obtain ⟨e1, X, hX, hXa, e⟩ := prod_one ha (i2 s hs).1 hp
      refine ⟨e1, ?_⟩
      rw [e]
      rcases key s hs X hX hXa with h | h
      · exact .inl h.1
      · exact .inr h
    refine ⟨?_, fun t ht' => hflat t (nf_sub ht')⟩
    rw [mem_nf]
    have hnd : (wordE (leadW r)).Nodup := by
      have : As (wordE (leadW r)) := by
        cases leadW r with
        | nil => simp [wordE, As]
        | cons b w => exact as_nf _
      exact this.imp lexLt_ne
    rw [count_flat (y := r) hnd i1, prodE_one, count_flat (y := r) (enumT_nodup _ _ _) (enumT_has _ _ _ hn' (by omega))]
    · rw [finT_self, hax, tot1_self, trim_id ht]; simp
    · intro X hX hne hm
      obtain ⟨h1, h2⟩ := enumT_le r a 0 X hn' ha hX
      have e := finT_mem h1.len hm
      rcases key r i1 X h1 h2 with h | h
      · exact hne h.2.2
      · rw [← e] at h; omega
    · intro s hs hne hm
      obtain ⟨_, X, hX, hXa, e⟩ := prod_one ha (i2 s hs).1 hm
      rcases key s hs X hX hXa with h | h
      · exact hne h.2.1
      · rw [← e] at h; omega
end Go.Proofs.Ytnffpjdlpjkioaa

namespace Go.Proofs.Ytnffpjdlpjkioaa

theorem flat_put {f : List Int → LL} (z : List Int) : ∀ (Q : LL) (x : List Int), ((putR Q x).flatMap f).count z % 2 = ((Q.flatMap f).count z + (f x).count z) % 2
  | [], x => by simp [putR]
  | y :: Q, x => by
    unfold putR
    split
    · rw [List.flatMap_cons, List.flatMap_cons, List.count_append, List.count_append]
      have := flat_put (f := f) z Q x
      omega
    · split
      · rename_i e
        subst e
        rw [List.flatMap_cons, List.count_append]; omega
      · simp only [List.flatMap_cons, List.count_append]; omega
theorem flat_fold {f : List Int → LL} (z : List Int) : ∀ (L Q : LL), ((L.foldl putR Q).flatMap f).count z % 2 = ((Q.flatMap f).count z + (L.flatMap f).count z) % 2
  | [], Q => by simp
  | x :: L, Q => by
    rw [List.foldl_cons, flat_fold z L (putR Q x), List.flatMap_cons, List.count_append]
    have := flat_put (f := f) z Q x
    omega
theorem flat_nf {f : List Int → LL} (L : LL) (z : List Int) : ((nf L).flatMap f).count z % 2 = (L.flatMap f).count z % 2 := by
  have := flat_fold (f := f) z L []
  simpa [nf] using this
/-- the sum of the elements of words -/
def evalW (S : LL) : LL := nf (S.flatMap wordE)
theorem evalW_nf (S : LL) : evalW (nf S) = evalW S := nf_congr (flat_nf S)
theorem evalW_app (S T : LL) : evalW (S ++ T) = nf (evalW S ++ evalW T) := by
  unfold evalW; rw [nf_app, List.flatMap_append]
theorem as_evalW (S : LL) : As (evalW S) := as_nf _
theorem evalW_sum {S T : LL} (hS : As S) (hT : As T) : evalW (sumR S T) = sumR (evalW S) (evalW T) := by
  rw [sumR_nf hS hT, evalW_nf, evalW_app, sumR_nf (as_evalW _) (as_evalW _)]
/-- an admissible word of degree d -/
def IsW (d : Int) (w : List Int) : Prop := ∃ r, Ex d r ∧ w = leadW r
theorem lead_inj : ∀ {r s : List Int}, leadW r = leadW s → r = s
  | [], [], _ => rfl
  | [], _ :: _, h => by simp [leadW] at h
  | _ :: _, [], h => by simp [leadW] at h
  | x :: r, y :: s, h => by
    simp only [leadW] at h
    injection h with h1 h2
    have := lead_inj h2
    subst this
    congr 1; omega
theorem max_val {d : Int} : ∀ (S : LL), S ≠ [] → (∀ w ∈ S, IsW d w) → ∃ r, Ex d r ∧ leadW r ∈ S ∧ ∀ s, Ex d s → leadW s ∈ S → val s ≤ val r
  | [], h, _ => absurd rfl h
  | [w], _, h => by
    obtain ⟨r, hr, rfl⟩ := h w (List.mem_cons_self ..)
    refine ⟨r, hr, List.mem_cons_self .., fun s _ hm => ?_⟩
    rw [lead_inj (List.mem_singleton.1 hm)]; exact Int.le_refl _
  | w :: v :: S, _, h => by
    obtain ⟨q, hq, rfl⟩ := h w (List.mem_cons_self ..)
    obtain ⟨r, hr, h1, h2⟩ := max_val (v :: S) (by simp) fun u hu => h u (List.mem_cons_of_mem _ hu)
    by_cases hv : val r ≤ val q
    · refine ⟨q, hq, List.mem_cons_self .., fun s hs hm => ?_⟩
      rcases List.mem_cons.1 hm with e | hm
      · rw [lead_inj e]; exact Int.le_refl _
      · exact Int.le_trans (h2 s hs hm) hv
    · refine ⟨r, hr, List.mem_cons_of_mem _ h1, fun s hs hm => ?_⟩
      rcases List.mem_cons.1 hm with e | hm
      · rw [lead_inj e]; omega
      · exact h2 s hs hm
/-- words are independent -/
theorem evalW_ne {d : Int} (hd : d ≤ 63) {S : LL} (hn : As S) (h0 : S ≠ []) (h : ∀ w ∈ S, IsW d w) : evalW S ≠ [] := by
  obtain ⟨r, hr, h1, h2⟩ := max_val S h0 h
  have ht := tri hr.nn hr.tr (by rw [hr.deg]; exact hd)
  have hc : (S.flatMap wordE).count r = (wordE (leadW r)).count r := by
    refine count_flat (hn.imp lexLt_ne) h1 fun w hw hne hm => ?_
    obtain ⟨s, hs, rfl⟩ := h w hw
    have hs2 := tri hs.nn hs.tr (by rw [hs.deg]; exact hd)
    rcases (hs2.2 r hm).2 with e | e
    · exact hne (by rw [e])
    · have := h2 s hs hw; omega
  have hasw : As (wordE (leadW r)) := by
    cases leadW r with
    | nil => simp [wordE, As]
    | cons b w => exact as_nf _
  have hmem : r ∈ evalW S := by
    unfold evalW
    rw [mem_nf, hc, count_as hasw, if_pos ht.1]
  intro e; rw [e] at hmem; cases hmem
/-- the words of an element -/
structure IsSq (d : Int) (T P : LL) : Prop where
  asc : As P
  ws : ∀ w ∈ P, IsW d w
  ev : evalW P = T
theorem IsSq.unique {d : Int} {T P Q : LL} (hd : d ≤ 63) (h : IsSq d T P) (k : IsSq d T Q) : P = Q := by
  have h0 : sumR P Q = [] := by
    refine Classical.byContradiction fun hne => ?_
    refine evalW_ne hd (as_sumR h.asc k.asc) hne (fun w hw => ?_) ?_
    · rcases ((sumR_as P Q h.asc k.asc).2 w).1 hw with ⟨h1, _⟩ | ⟨_, h1⟩
      · exact h.ws w h1
      · exact k.ws w h1
    · rw [evalW_sum h.asc k.asc, h.ev, k.ev]
      have hT : As T := by rw [← h.ev]; exact as_evalW _
      rw [sumR_nf hT hT]
      refine as_unique (as_nf _) as_nil fun z => ?_
      rw [mem_nf, List.count_append]; simp; omega
  refine as_unique h.asc k.asc fun z => ?_
  have := (sumR_as P Q h.asc k.asc).2 z
  rw [h0] at this
  by_cases a : z ∈ P <;> by_cases b : z ∈ Q <;> simp [a, b] at this ⊢
/-! ### taking away the greatest -/
theorem wordE_as (w : List Int) : As (wordE w) := by
  cases w with
  | nil => simp [wordE, As]
  | cons b w => exact as_nf _
/-- one step: the greatest from the right is gone, and nothing greater has come -/
theorem sq_step {d : Int} (hd : d ≤ 63) {T : LL} (hT : As T) (hE : ∀ t ∈ T, Ex d t) {r : List Int} (hr : r ∈ T) (hmax : ∀ t ∈ T, val t ≤ val r) :
    As (sumR T (wordE (leadW r))) ∧ (∀ t ∈ sumR T (wordE (leadW r)), Ex d t ∧ val t < val r) := by
  have h := hE r hr
  have ht := tri h.nn h.tr (by rw [h.deg]; exact hd)
  rw [h.deg] at ht
  refine ⟨as_sumR hT (wordE_as _), fun t hm => ?_⟩
  rcases ((sumR_as T _ hT (wordE_as _)).2 t).1 hm with ⟨h1, h2⟩ | ⟨h1, h2⟩
  · refine ⟨hE t h1, ?_⟩
    have h3 := hmax t h1
    rcases Int.lt_or_eq_of_le h3 with h4 | h4
    · exact h4
    · have := (hE t h1).inj hd h h4
      subst this; exact absurd ht.1 h2
  · obtain ⟨e1, e2⟩ := ht.2 t h2
    refine ⟨e1, ?_⟩
    rcases e2 with e2 | e2
    · subst e2; exact absurd hr h1
    · exact e2
theorem sq_ev {T W O : LL} {w : List Int} (hT : As T) (h : nf (evalW O ++ T) = W) : nf (evalW (O ++ [w]) ++ sumR T (wordE w)) = W := by
  rw [← h, sumR_nf hT (wordE_as w), evalW_app, nf_app_l, nf_app_r]
  have e : evalW [w] = wordE w := by unfold evalW; simp [nf_of_as (wordE_as w)]
  rw [e]
  refine nf_congr fun z => ?_
  simp only [List.count_append]; omega
theorem exists_max {T : LL} (h : T ≠ []) : ∃ r ∈ T, ∀ t ∈ T, val t ≤ val r := by
  induction T with
  | nil => exact absurd rfl h
  | cons x T ih =>
    by_cases e : T = []
    · subst e; exact ⟨x, List.mem_cons_self .., fun t ht => by rw [List.mem_singleton.1 ht]; exact Int.le_refl _⟩
    · obtain ⟨r, hr, hm⟩ := ih e
      by_cases hx : val r ≤ val x
      · refine ⟨x, List.mem_cons_self .., fun t ht => ?_⟩
        rcases List.mem_cons.1 ht with e | ht
        · rw [e]; exact Int.le_refl _
        · exact Int.le_trans (hm t ht) hx
      · refine ⟨r, List.mem_cons_of_mem _ hr, fun t ht => ?_⟩
        rcases List.mem_cons.1 ht with e | ht
        · rw [e]; omega
        · exact hm t ht
theorem sq_exists' {d : Int} (hd : d ≤ 63) : ∀ (n : Nat) (T : LL), As T → (∀ t ∈ T, Ex d t) → (∀ t ∈ T, val t < n) → ∃ O : LL, (∀ w ∈ O, IsW d w) ∧ nf (evalW O ++ T) = [] := by
  intro n
  induction n with
  | zero =>
    intro T hT hE hv
    have : T = [] := by
      cases T with
      | nil => rfl
      | cons x T => have h1 := hv x (List.mem_cons_self ..); have h2 := val_nn (hE x (List.mem_cons_self ..)).nn; omega
    subst this
    exact ⟨[], fun w hw => (by cases hw), rfl⟩
  | succ n ih =>
    intro T hT hE hv
    by_cases e : T = []
    · subst e; exact ⟨[], fun w hw => (by cases hw), rfl⟩
    · obtain ⟨r, hr, hm⟩ := exists_max e
      obtain ⟨h1, h2⟩ := sq_step hd hT hE hr hm
      have hrn := hv r hr
      obtain ⟨O, hO, he⟩ := ih (sumR T (wordE (leadW r))) h1 (fun t ht => (h2 t ht).1) (fun t ht => by have := (h2 t ht).2; omega)
      refine ⟨leadW r :: O, fun w hw => ?_, ?_⟩
      · rcases List.mem_cons.1 hw with e | hw
        · exact ⟨r, hE r hr, e⟩
        · exact hO w hw
      · rw [← he, sumR_nf hT (wordE_as _), show leadW r :: O = [leadW r] ++ O from rfl, evalW_app, nf_app_l, nf_app_r]
        have e2 : evalW [leadW r] = wordE (leadW r) := by unfold evalW; simp [nf_of_as (wordE_as _)]
        rw [e2]
        refine nf_congr fun z => ?_
        simp only [List.count_append]; omega
theorem nf_nil_eq {L M : LL} (h : nf (L ++ M) = []) : nf L = nf M := nf_congr fun z => by
  have := mem_nf (L := L ++ M) (z := z)
  rw [h, List.count_append] at this
  simp only [List.not_mem_nil, false_iff] at this
  omega
/-- what the words of an element must bear is enough -/
theorem isSq_of {d : Int} {T O : LL} (hT : As T) (hO : ∀ w ∈ O, IsW d w) (h : nf (evalW O ++ T) = []) : IsSq d T (nf O) :=
  ⟨as_nf _, fun w hw => hO w (nf_sub hw), by
    have := nf_nil_eq h
    rw [nf_of_as (as_evalW _), nf_of_as hT] at this
    rw [evalW_nf, this]⟩
theorem sq_exists {d : Int} (hd : d ≤ 63) {T : LL} (hT : As T) (hE : ∀ t ∈ T, Ex d t) : ∃ P, IsSq d T P := by
  have hb : ∃ n : Nat, ∀ t ∈ T, val t < n := by
    by_cases e : T = []
    · subst e; exact ⟨0, fun t ht => (by cases ht)⟩
    · obtain ⟨r, _, hm⟩ := exists_max e
      exact ⟨(val r).toNat + 1, fun t ht => by have := hm t ht; omega⟩
  obtain ⟨n, hn⟩ := hb
  obtain ⟨O, h1, h2⟩ := sq_exists' hd n T hT hE hn
  exact ⟨_, isSq_of hT h1 h2⟩
/-! ### elimination -/
/-- rows and what they are made of, taken from an element -/
def redP (RS : List (LL × LL)) (x : LL × LL) : LL × LL := RS.foldl (fun x R => if R.1.headD [] ∈ x.1 then (sumR x.1 R.1, sumR x.2 R.2) else x) x
def buildP (W : LL) : List (LL × LL) := W.foldl (fun RS w => RS ++ [redP RS (wordE w, [w])]) []
structure PairOk (d : Int) (R : LL × LL) : Prop where
  a1 : As R.1
  a2 : As R.2
  ws : ∀ w ∈ R.2, IsW d w
  ev : R.1 = evalW R.2
theorem redP_as {d : Int} {RS : List (LL × LL)} : ∀ {x : LL × LL}, (∀ R ∈ RS, PairOk d R) → As x.1 → As x.2 → (∀ w ∈ x.2, IsW d w) →
    As (redP RS x).1 ∧ As (redP RS x).2 ∧ (∀ w ∈ (redP RS x).2, IsW d w) ∧ ∀ C, nf (x.1 ++ C) = evalW x.2 → nf ((redP RS x).1 ++ C) = evalW (redP RS x).2 := by
  induction RS with
  | nil => intro x _ h1 h2 h3; exact ⟨h1, h2, h3, fun C h => h⟩
  | cons R RS ih =>
    intro x h h1 h2 h3
    have hR := h R (List.mem_cons_self ..)
    have hRS := fun Q hQ => h Q (List.mem_cons_of_mem _ hQ)
    simp only [redP, List.foldl_cons]
    split
    · obtain ⟨i1, i2, i3, i4⟩ := ih (x := (sumR x.1 R.1, sumR x.2 R.2)) hRS (as_sumR h1 hR.a1) (as_sumR h2 hR.a2) (fun w hw => by
        rcases ((sumR_as _ _ h2 hR.a2).2 w).1 hw with ⟨k, _⟩ | ⟨_, k⟩
        · exact h3 w k
        · exact hR.ws w k)
      refine ⟨i1, i2, i3, fun C hC => i4 C ?_⟩
      show nf (sumR x.1 R.1 ++ C) = evalW (sumR x.2 R.2)
      rw [evalW_sum h2 hR.a2, ← hC, ← hR.ev, sumR_nf (as_nf _) hR.a1, sumR_nf h1 hR.a1, nf_app_l, nf_app_l]
      refine nf_congr fun z => ?_
      simp only [List.count_append]; omega
    · exact ih hRS h1 h2 h3
/-- no row's first term is in a later row -/
def Piv (RS : List (LL × LL)) : Prop := RS.Pairwise fun R Q => R.1.headD [] ∉ Q.1
theorem redP_piv {RS : List (LL × LL)} : ∀ {x : LL × LL}, Piv RS → (∀ R ∈ RS, As R.1) → As x.1 → (∀ R ∈ RS, R.1 ≠ []) → ∀ R ∈ RS, R.1.headD [] ∉ (redP RS x).1 := by
  have keep : ∀ (RS : List (LL × LL)) (x : LL × LL) (p : List Int), (∀ R ∈ RS, As R.1) → As x.1 → (∀ R ∈ RS, p ∉ R.1) → p ∉ x.1 → p ∉ (redP RS x).1 := by
    intro RS
    induction RS with
    | nil => intro x p _ _ _ h; exact h
    | cons R RS ih =>
      intro x p hA hx hp h
      simp only [redP, List.foldl_cons]
      split
      · refine ih _ p (fun Q hQ => hA Q (List.mem_cons_of_mem _ hQ)) (as_sumR hx (hA R (List.mem_cons_self ..))) (fun Q hQ => hp Q (List.mem_cons_of_mem _ hQ)) ?_
        intro hm
        rcases ((sumR_as _ _ hx (hA R (List.mem_cons_self ..))).2 p).1 hm with ⟨k, _⟩ | ⟨_, k⟩
        · exact h k
        · exact hp R (List.mem_cons_self ..) k
      · exact ih _ p (fun Q hQ => hA Q (List.mem_cons_of_mem _ hQ)) hx (fun Q hQ => hp Q (List.mem_cons_of_mem _ hQ)) h
  induction RS with
  | nil => intro x _ _ _ _ R hR; cases hR
  | cons R RS ih =>
    intro x hp hA hx hne Q hQ
    obtain ⟨h1, h2⟩ := List.pairwise_cons.1 hp
    have hAR := hA R (List.mem_cons_self ..)
    have hARS := fun Q hQ => hA Q (List.mem_cons_of_mem _ hQ)
    have hne' := fun Q hQ => hne Q (List.mem_cons_of_mem _ hQ)
    have hhead : R.1.headD [] ∈ R.1 := by
      cases e : R.1 with
      | nil => exact absurd e (hne R (List.mem_cons_self ..))
      | cons y t => simp
    rcases List.mem_cons.1 hQ with e | hQ
    · subst e
      simp only [redP, List.foldl_cons]
      split
      · rename_i hm
        refine keep RS _ _ hARS (as_sumR hx hAR) h1 ?_
        intro hk
        rcases ((sumR_as _ _ hx hAR).2 _).1 hk with ⟨_, k⟩ | ⟨k, _⟩
        · exact k hhead
        · exact k hm
      · rename_i hm
        exact keep RS _ _ hARS hx h1 hm
    · simp only [redP, List.foldl_cons]
      split
      · exact ih h2 hARS (as_sumR hx hAR) hne' Q hQ
      · exact ih h2 hARS hx hne' Q hQ
/-- the rows that come of words -/
structure RowsOk (d : Int) (W : LL) (RS : List (LL × LL)) : Prop where
  len : RS.length = W.length
  ok : ∀ R ∈ RS, PairOk d R
  ne : ∀ R ∈ RS, R.1 ≠ []
  piv : Piv RS
  top : ∀ k (h : k < W.length) (h' : k < RS.length), W[k] ∈ RS[k].2 ∧ ∀ w ∈ RS[k].2, w ∈ W.take (k + 1)
theorem redP_words {W : LL} {RS : List (LL × LL)} : ∀ {x : LL × LL}, (∀ R ∈ RS, As R.2 ∧ ∀ w ∈ R.2, w ∈ W) → As x.2 → ∀ v, v ∉ W → (v ∈ (redP RS x).2 ↔ v ∈ x.2) := by
  induction RS with
  | nil => intro x _ _ v _; exact Iff.rfl
  | cons R RS ih =>
    intro x h hx v hv
    have hR := h R (List.mem_cons_self ..)
    simp only [redP, List.foldl_cons]
    split
    · refine (ih (fun Q hQ => h Q (List.mem_cons_of_mem _ hQ)) (as_sumR hx hR.1) v hv).trans ?_
      have hn : v ∉ R.2 := fun hm => hv (hR.2 v hm)
      rw [(sumR_as _ _ hx hR.1).2 v]; simp [hn]
    · exact ih (fun Q hQ => h Q (List.mem_cons_of_mem _ hQ)) hx v hv
theorem RowsOk.nil (d : Int) : RowsOk d [] [] := ⟨rfl, fun R h => (by cases h), fun R h => (by cases h), List.Pairwise.nil, fun k h => (by cases h)⟩
theorem RowsOk.add {d : Int} (hd : d ≤ 63) {W : LL} {RS : List (LL × LL)} {w : List Int} (h : RowsOk d W RS) (hw : IsW d w) (hn : w ∉ W) : RowsOk d (W ++ [w]) (RS ++ [redP RS (wordE w, [w])]) := by
  have ha1 : As [w] := by simp [As]
  obtain ⟨i1, i2, i3, i4⟩ := redP_as (x := (wordE w, [w])) h.ok (wordE_as w) ha1 (fun v hv => by rw [List.mem_singleton.1 hv]; exact hw)
  have hwords : ∀ R ∈ RS, As R.2 ∧ ∀ v ∈ R.2, v ∈ W := by
    intro R hR
    obtain ⟨k, hk, rfl⟩ := List.mem_iff_getElem.1 hR
    exact ⟨(h.ok _ hR).a2, fun v hv => List.mem_of_mem_take ((h.top k (by rw [← h.len]; exact hk) hk).2 v hv)⟩
  have hwin : w ∈ (redP RS (wordE w, [w])).2 := (redP_words hwords ha1 w hn).2 (by simp)
  have hev : (redP RS (wordE w, [w])).1 = evalW (redP RS (wordE w, [w])).2 := by
    have := i4 [] (by unfold evalW; simp)
    rw [List.append_nil, nf_of_as i1] at this; exact this
  have hok : PairOk d (redP RS (wordE w, [w])) := ⟨i1, i2, i3, hev⟩
  have hne : (redP RS (wordE w, [w])).1 ≠ [] := by
    rw [hev]; exact evalW_ne hd i2 (fun e => by rw [e] at hwin; cases hwin) i3
  refine ⟨by simp [h.len], fun R hR => ?_, fun R hR => ?_, ?_, fun k hk hk' => ?_⟩
  · rcases List.mem_append.1 hR with hR | hR
    · exact h.ok R hR
    · rw [List.mem_singleton.1 hR]; exact hok
  · rcases List.mem_append.1 hR with hR | hR
    · exact h.ne R hR
    · rw [List.mem_singleton.1 hR]; exact hne
  · unfold Piv
    rw [List.pairwise_append]
    refine ⟨h.piv, by simp, fun R hR Q hQ => ?_⟩
    rw [List.mem_singleton.1 hQ]
    exact redP_piv h.piv (fun Q hQ => (h.ok Q hQ).a1) (wordE_as w) h.ne R hR
  · by_cases hkl : k < W.length
    · have hkr : k < RS.length := by rw [h.len]; exact hkl
      rw [List.getElem_append_left hkl, List.getElem_append_left hkr]
      obtain ⟨t1, t2⟩ := h.top k hkl hkr
      exact ⟨t1, fun v hv => by rw [List.take_append_of_le_length (by omega)]; exact t2 v hv⟩
    · have hke : k = W.length := by simp at hk; omega
      subst hke
      rw [List.getElem_append_right (Nat.le_refl _), List.getElem_append_right (by rw [h.len]; exact Nat.le_refl _)]
      simp only [Nat.sub_self, h.len, List.getElem_singleton]
      refine ⟨hwin, fun v hv => ?_⟩
      rw [List.take_of_length_le (by simp)]
      by_cases hvW : v ∈ W
      · exact List.mem_append_left _ hvW
      · have := (redP_words hwords ha1 v hvW).1 hv
        exact List.mem_append_right _ this
theorem buildP_snoc (W : LL) (w : List Int) : buildP (W ++ [w]) = buildP W ++ [redP (buildP W) (wordE w, [w])] := by simp [buildP, List.foldl_append]
theorem rowsOk_take {d : Int} (hd : d ≤ 63) {W : LL} (hW : ∀ w ∈ W, IsW d w) (hn : W.Nodup) : ∀ k, k ≤ W.length → RowsOk d (W.take k) (buildP (W.take k)) := by
  intro k
  induction k with
  | zero => intro _; exact RowsOk.nil d
  | succ k ih =>
    intro hk
    have hk' : k < W.length := by omega
    rw [List.take_succ_eq_append_getElem hk', buildP_snoc]
    refine (ih (by omega)).add hd (hW _ (List.getElem_mem hk')) fun hm => ?_
    obtain ⟨j, hj, e⟩ := List.mem_iff_getElem.1 hm
    simp only [List.length_take] at hj
    rw [List.getElem_take] at e
    exact List.pairwise_iff_getElem.1 hn j k (by omega) hk' (by omega) e
/-- some row's first term is in the sum of words that are not none -/
theorem piv_in {d : Int} {W : LL} {RS : List (LL × LL)} (h : RowsOk d W RS) : ∀ (n : Nat), n ≤ W.length → ∀ (U : LL), As U → U ≠ [] → (∀ w ∈ U, w ∈ W.take n) → ∃ k, ∃ hk : k < RS.length, k < n ∧ (RS[k].1).headD [] ∈ evalW U := by
  intro n
  induction n with
  | zero =>
    intro _ U _ hne hU
    cases U with
    | nil => exact absurd rfl hne
    | cons x U => have := hU x (List.mem_cons_self ..); simp at this
  | succ n ih =>
    intro hn U hA hne hU
    have hnW : n < W.length := by omega
    have hnR : n < RS.length := by rw [h.len]; exact hnW
    by_cases hm : W[n] ∈ U
    · obtain ⟨t1, t2⟩ := h.top n hnW hnR
      have hRo := h.ok _ (List.getElem_mem hnR)
      have hA1 := as_sumR hA hRo.a2
      by_cases e : sumR U RS[n].2 = []
      · refine ⟨n, hnR, by omega, ?_⟩
        have hUe : U = RS[n].2 := by
          refine as_unique hA hRo.a2 fun z => ?_
          have := (sumR_as _ _ hA hRo.a2).2 z
          rw [e] at this
          by_cases a : z ∈ U <;> by_cases b : z ∈ RS[n].2 <;> simp [a, b] at this ⊢
        rw [hUe, ← hRo.ev]
        cases e2 : RS[n].1 with
        | nil => exact absurd e2 (h.ne _ (List.getElem_mem hnR))
        | cons y t => simp
      · have hsub : ∀ w ∈ sumR U RS[n].2, w ∈ W.take n := by
          intro w hw
          have hw1 : w ∈ W.take (n + 1) ∧ w ≠ W[n] := by
            rcases ((sumR_as _ _ hA hRo.a2).2 w).1 hw with ⟨a, b⟩ | ⟨a, b⟩
            · exact ⟨hU w a, fun e => b (e ▸ t1)⟩
            · exact ⟨t2 w b, fun e => a (e ▸ hm)⟩
          rw [List.take_succ_eq_append_getElem hnW] at hw1
          rcases List.mem_append.1 hw1.1 with a | a
          · exact a
          · exact absurd (List.mem_singleton.1 a) hw1.2
        obtain ⟨k, hk, hkn, hin⟩ := ih (by omega) _ hA1 e hsub
        refine ⟨k, hk, by omega, ?_⟩
        rw [evalW_sum hA hRo.a2, ← hRo.ev] at hin
        rcases ((sumR_as _ _ (as_evalW _) hRo.a1).2 _).1 hin with ⟨a, _⟩ | ⟨_, a⟩
        · exact a
        · exact absurd a (List.pairwise_iff_getElem.1 h.piv k n hk hnR hkn)
    · obtain ⟨k, hk, hkn, hin⟩ := ih (by omega) U hA hne (fun w hw => by
        have := hU w hw
        rw [List.take_succ_eq_append_getElem hnW] at this
        rcases List.mem_append.1 this with a | a
        · exact a
        · exact absurd (List.mem_singleton.1 a ▸ hw) hm)
      exact ⟨k, hk, by omega, hin⟩
/-- the elimination finds the words -/
theorem elim_sq {d : Int} (hd : d ≤ 63) {W : LL} (hW : ∀ w, w ∈ W ↔ IsW d w) (hn : W.Nodup) {T : LL} (hT : As T) (hE : ∀ t ∈ T, Ex d t) : IsSq d T (redP (buildP W) (T, [])).2 := by
  have hro := rowsOk_take hd (fun w hw => (hW w).1 hw) hn W.length (Nat.le_refl _)
  rw [List.take_length] at hro
  obtain ⟨P, hP⟩ := sq_exists hd hT hE
  obtain ⟨i1, i2, i3, i4⟩ := redP_as (x := (T, [])) hro.ok hT as_nil (fun w hw => (by cases hw))
  have hpiv := redP_piv (x := (T, [])) hro.piv (fun Q hQ => (hro.ok Q hQ).a1) hT hro.ne
  have hev := i4 T (by
    show nf (T ++ T) = evalW []
    show nf (T ++ T) = nf []
    exact nf_congr fun z => by rw [List.count_append, List.count_nil]; omega)
  generalize redP (buildP W) (T, []) = x at *
  -- what is left is a sum of words
  have hleft : x.1 = evalW (sumR x.2 P) := by
    rw [evalW_sum i2 hP.asc, hP.ev, ← hev, sumR_nf (as_nf _) hT, nf_app_l]
    refine (nf_of_as i1).symm.trans (nf_congr fun z => ?_)
    simp only [List.count_append]; omega
  have h0 : sumR x.2 P = [] := by
    refine Classical.byContradiction fun hne => ?_
    obtain ⟨k, hk, _, hin⟩ := piv_in hro W.length (Nat.le_refl _) _ (as_sumR i2 hP.asc) hne (fun w hw => by
      rw [List.take_length, hW w]
      rcases ((sumR_as _ _ i2 hP.asc).2 w).1 hw with ⟨a, _⟩ | ⟨_, a⟩
      · exact i3 w a
      · exact hP.ws w a)
    rw [← hleft] at hin
    exact hpiv _ (List.getElem_mem hk) hin
  have : x.2 = P := by
    refine as_unique i2 hP.asc fun z => ?_
    have := (sumR_as _ _ i2 hP.asc).2 z
    rw [h0] at this
    by_cases a : z ∈ x.2 <;> by_cases b : z ∈ P <;> simp [a, b] at this ⊢
  rw [this]; exact hP
end Go.Proofs.Ytnffpjdlpjkioaa

namespace Go.Proofs.Ytnffpjdlpjkioaa

theorem val_lt : ∀ {t : List Int}, (∀ x ∈ t, 0 ≤ x ∧ x ≤ 63) → val t < 64 ^ t.length
  | [], _ => by simp [val]
  | x :: t, h => by
    have h1 := val_lt (t := t) fun y hy => h y (List.mem_cons_of_mem _ hy)
    have h2 := h x (List.mem_cons_self ..)
    simp only [val, List.length_cons]
    rw [Int.pow_succ]
    omega
theorem val_ge : ∀ {t : List Int}, Nn t → Tr t → t ≠ [] → (64 : Int) ^ (t.length - 1) ≤ val t
  | [], _, _, h => absurd rfl h
  | [x], hn, ht, _ => by
    have h0 := hn.head
    have h1 := ht.1 rfl
    simp [val]; omega
  | x :: y :: t, hn, ht, _ => by
    have h0 := hn.head
    have h1 := val_ge hn.tail ht.2 (by simp)
    simp only [List.length_cons, Nat.add_sub_cancel] at h1 ⊢
    rw [Int.pow_succ]
    simp only [val] at h1 ⊢
    omega
theorem Ex.bd {d : Int} (hd : d ≤ 63) {t : List Int} (h : Ex d t) : ∀ x ∈ t, 0 ≤ x ∧ x ≤ 63 := fun x hx => ⟨h.nn x hx, Int.le_trans (h.le x hx) hd⟩
theorem val_len {d : Int} (hd : d ≤ 63) {t u : List Int} (h : Ex d t) (k : Ex d u) (hl : t.length < u.length) : val t < val u := by
  have h1 := val_lt (h.bd hd)
  have h2 := val_ge k.nn k.tr (by intro e; rw [e] at hl; simp at hl)
  have h3 : (64 : Int) ^ t.length ≤ 64 ^ (u.length - 1) := by
    have : (64 : Nat) ^ t.length ≤ 64 ^ (u.length - 1) := Nat.pow_le_pow_right (by omega) (by omega)
    have e1 : ((64 ^ t.length : Nat) : Int) = (64 : Int) ^ t.length := by simp
    have e2 : ((64 ^ (u.length - 1) : Nat) : Int) = (64 : Int) ^ (u.length - 1) := by simp
    rw [← e1, ← e2]; omega
  omega
/-- read from the left -/
def valL : List Int → Int
  | [] => 0
  | x :: t => x * 64 ^ t.length + valL t
theorem valL_snoc : ∀ (t : List Int) (x : Int), valL (t ++ [x]) = x + 64 * valL t
  | [], x => by simp [valL]
  | y :: t, x => by
    simp only [List.cons_append, valL, List.length_append, List.length_singleton]
    rw [valL_snoc t x, Int.pow_succ, ← Int.mul_assoc]; omega
theorem valL_rev : ∀ t : List Int, valL t.reverse = val t
  | [] => rfl
  | x :: t => by rw [List.reverse_cons, valL_snoc, valL_rev t]; rfl
theorem valL_bd : ∀ {t : List Int}, (∀ x ∈ t, 0 ≤ x ∧ x ≤ 63) → 0 ≤ valL t ∧ valL t < 64 ^ t.length
  | [], _ => by simp [valL]
  | x :: t, h => by
    have h1 := valL_bd (t := t) fun y hy => h y (List.mem_cons_of_mem _ hy)
    have h2 := h x (List.mem_cons_self ..)
    have hp : (0 : Int) < 64 ^ t.length := Int.pow_pos (by omega)
    have h3 := Int.mul_nonneg h2.1 (Int.le_of_lt hp)
    have h4 := Int.mul_le_mul_of_nonneg_right h2.2 (Int.le_of_lt hp)
    simp only [valL, List.length_cons]
    rw [Int.pow_succ]
    omega
theorem lexLt_valL : ∀ {t u : List Int}, t.length = u.length → (∀ x ∈ t, 0 ≤ x ∧ x ≤ 63) → (∀ x ∈ u, 0 ≤ x ∧ x ≤ 63) → (lexLt t u = true ↔ valL t < valL u)
  | [], [], _, _, _ => by simp [lexLt, valL]
  | x :: t, y :: u, hl, h, k => by
    have hl' : t.length = u.length := by simpa using hl
    have h1 := valL_bd (t := t) fun z hz => h z (List.mem_cons_of_mem _ hz)
    have h2 := valL_bd (t := u) fun z hz => k z (List.mem_cons_of_mem _ hz)
    have ih := lexLt_valL hl' (fun z hz => h z (List.mem_cons_of_mem _ hz)) fun z hz => k z (List.mem_cons_of_mem _ hz)
    simp only [lexLt, valL]
    rw [hl'] at h1 ⊢
    have hp : (0 : Int) < 64 ^ u.length := Int.pow_pos (by omega)
    by_cases e : x = y
    · subst e; rw [if_pos rfl, ih]; omega
    · rw [if_neg e, decide_eq_true_eq]
      generalize (64 : Int) ^ u.length = p at *
      constructor
      · intro hxy
        have := Int.mul_le_mul_of_nonneg_right (show x + 1 ≤ y by omega) (Int.le_of_lt hp)
        rw [Int.add_mul, Int.one_mul] at this
        omega
      · intro hv
        refine Classical.byContradiction fun hxy => ?_
        have := Int.mul_le_mul_of_nonneg_right (show y + 1 ≤ x by omega) (Int.le_of_lt hp)
        rw [Int.add_mul, Int.one_mul] at this
        omega
/-- the program's comparison from the right -/
def frI (r s : List Int) : Int := if r.length = s.length then cmpL r.reverse s.reverse else (r.length : Int) - s.length
theorem frI_pos {d : Int} (hd : d ≤ 63) {r s : List Int} (hr : Ex d r) (hs : Ex d s) : 0 < frI r s ↔ val s < val r := by
  unfold frI
  by_cases e : r.length = s.length
  · rw [if_pos e]
    have hl : r.reverse.length = s.reverse.length := by simpa using e
    have b1 : ∀ x ∈ r.reverse, 0 ≤ x ∧ x ≤ 63 := fun x hx => hr.bd hd x (List.mem_reverse.1 hx)
    have b2 : ∀ x ∈ s.reverse, 0 ≤ x ∧ x ≤ 63 := fun x hx => hs.bd hd x (List.mem_reverse.1 hx)
    have h1 := lexLt_valL hl b1 b2
    rw [valL_rev, valL_rev] at h1
    unfold cmpL
    by_cases c1 : lexLt r.reverse s.reverse = true
    · rw [if_pos c1]
      have := h1.1 c1
      omega
    · rw [if_neg c1]
      have c2 : ¬ val r < val s := fun h => c1 (h1.2 h)
      by_cases c3 : r.reverse = s.reverse
      · rw [if_pos c3]
        have : r = s := by simpa using c3
        subst this; omega
      · rw [if_neg c3]
        have : val r ≠ val s := fun h => c3 (by rw [hr.inj hd hs h])
        omega
  · rw [if_neg e]
    rcases Nat.lt_or_gt_of_ne e with h | h
    · have := val_len hd hr hs h; omega
    · have := val_len hd hs hr h; omega

/-! ### how many lists of a degree there are -/
theorem deg_pos : ∀ (j : Nat) {t : List Int}, Nn t → Tr t → t ≠ [] → (2 : Int) ^ (j + t.length) - 1 ≤ degW j t
  | _, [], _, _, h => absurd rfl h
  | j, [x], hn, ht, _ => by
    have h0 := hn.head
    have h1 := ht.1 rfl
    have h2 := pow_ge1 j
    simp only [degW, List.length_cons, List.length_nil, Nat.zero_add, Int.add_zero]
    have := Int.mul_le_mul_of_nonneg_right (show (1 : Int) ≤ x by omega) (show (0 : Int) ≤ 2 ^ (j + 1) - 1 by omega)
    omega
  | j, x :: y :: t, hn, ht, _ => by
    have h0 := hn.head
    have h1 := deg_pos (j + 1) hn.tail ht.2 (by simp)
    have h2 := pow_ge1 j
    have h3 := Int.mul_nonneg h0 (show (0 : Int) ≤ 2 ^ (j + 1) - 1 by omega)
    rw [show j + (x :: y :: t).length = j + 1 + (y :: t).length by simp; omega]
    simp only [degW] at h1 ⊢
    omega
theorem Ex.len5 {d : Int} (hd : d ≤ 40) {t : List Int} (h : Ex d t) : t.length ≤ 5 := by
  refine Classical.byContradiction fun hn => ?_
  have h1 := deg_pos 0 h.nn h.tr (by intro e; rw [e] at hn; simp at hn)
  rw [h.deg, Nat.zero_add] at h1
  have h2 : (2 : Nat) ^ 6 ≤ 2 ^ t.length := Nat.pow_le_pow_right (by omega) (by omega)
  have e1 : ((2 ^ t.length : Nat) : Int) = (2 : Int) ^ t.length := by simp
  rw [← e1] at h1
  omega
def codeN (t : List Int) : Nat := ((t.getD 1 0) + 16 * t.getD 2 0 + 128 * t.getD 3 0 + 512 * t.getD 4 0).toNat
theorem Ex.form {d : Int} (hd : d ≤ 40) {t : List Int} (h : Ex d t) : ∃ a b c e f : Int, 0 ≤ a ∧ 0 ≤ b ∧ 0 ≤ c ∧ 0 ≤ e ∧ 0 ≤ f ∧ a + 3 * b + 7 * c + 15 * e + 31 * f = d ∧ val t = a + 64 * (b + 64 * (c + 64 * (e + 64 * f))) ∧ codeN t = (b + 16 * c + 128 * e + 512 * f).toNat := by
  have hl := h.len5 hd
  have hn := h.nn
  have hdg := h.deg
  match t, hl, hn, hdg with
  | [], _, _, hdg => exact ⟨0, 0, 0, 0, 0, by omega, by omega, by omega, by omega, by omega, by simp [degW] at hdg; omega, by simp [val], by simp [codeN]⟩
  | [a], _, hn, hdg => exact ⟨a, 0, 0, 0, 0, hn a (by simp), by omega, by omega, by omega, by omega, by simp [degW] at hdg; omega, by simp [val], by simp [codeN]⟩
  | [a, b], _, hn, hdg => exact ⟨a, b, 0, 0, 0, hn a (by simp), hn b (by simp), by omega, by omega, by omega, by simp [degW] at hdg; omega, by simp [val], by simp [codeN]⟩
  | [a, b, c], _, hn, hdg => exact ⟨a, b, c, 0, 0, hn a (by simp), hn b (by simp), hn c (by simp), by omega, by omega, by simp [degW] at hdg; omega, by simp [val], by simp [codeN]⟩
  | [a, b, c, e], _, hn, hdg => exact ⟨a, b, c, e, 0, hn a (by simp), hn b (by simp), hn c (by simp), hn e (by simp), by omega, by simp [degW] at hdg; omega, by simp [val], by simp [codeN]⟩
  | [a, b, c, e, f], _, hn, hdg => exact ⟨a, b, c, e, f, hn a (by simp), hn b (by simp), hn c (by simp), hn e (by simp), hn f (by simp), by simp [degW] at hdg; omega, by simp [val], by simp [codeN]⟩
theorem filter_split {α : Type} (p : α → Bool) : ∀ L : List α, L.length = (L.filter p).length + (L.filter fun x => !(p x)).length
  | [] => rfl
  | x :: L => by
    have ih := filter_split p L
    cases h : p x
    · simp [h]; omega
    · simp [h]; omega
theorem nat_nodup_len : ∀ (N : Nat) (L : List Nat), L.Nodup → (∀ x ∈ L, x < N) → L.length ≤ N
  | 0, L, _, h => by
    cases L with
    | nil => simp
    | cons x L => have := h x (List.mem_cons_self ..); omega
  | N + 1, L, hn, h => by
    have h1 := nat_nodup_len N (L.filter (· != N)) (hn.filter _) (fun x hx => by
      have h2 := h x (List.mem_filter.1 hx).1
      have h3 := (List.mem_filter.1 hx).2
      have : x ≠ N := by simpa using h3
      omega)
    have h2 : L.length ≤ (L.filter (· != N)).length + 1 := by
      have h3 := filter_split (fun x => x != N) L
      have h4 : (L.filter fun x => !(x != N)).length ≤ 1 := by
        have h5 : ∀ y ∈ L.filter (fun x => !(x != N)), y = N := fun y hy => by have := (List.mem_filter.1 hy).2; simpa using this
        have h6 := hn.filter (fun x => !(x != N))
        generalize L.filter (fun x => !(x != N)) = M at *
        match M, h5, h6 with
        | [], _, _ => simp
        | [_], _, _ => simp
        | a :: b :: M, h5, h6 =>
          have e1 := h5 a (by simp)
          have e2 := h5 b (by simp)
          have := (List.nodup_cons.1 h6).1
          rw [e1, e2] at this
          exact absurd (List.mem_cons_self ..) this
      omega
    omega
/-- there are few lists of a degree -/
theorem ex_count {d : Int} (hd : d ≤ 40) {Q : LL} (hQ : As Q) (hE : ∀ t ∈ Q, Ex d t) : Q.length ≤ 2000 := by
  have h1 : (Q.map codeN).Nodup := by
    unfold List.Nodup
    rw [List.pairwise_map]
    refine List.Pairwise.imp_of_mem (R := fun x y => lexLt x y = true) (fun {t u} ht hu hlt e => ?_) hQ
    obtain ⟨a, b, c, e1, f, p1, p2, p3, p4, p5, p6, p7, p8⟩ := (hE t ht).form hd
    obtain ⟨a', b', c', e1', f', q1, q2, q3, q4, q5, q6, q7, q8⟩ := (hE u hu).form hd
    rw [p8, q8] at e
    have hv : val t = val u := by
      have b1 : b ≤ 13 ∧ c ≤ 5 ∧ e1 ≤ 2 ∧ f ≤ 1 := by omega
      have b2 : b' ≤ 13 ∧ c' ≤ 5 ∧ e1' ≤ 2 ∧ f' ≤ 1 := by omega
      have e9 : b + 16 * c + 128 * e1 + 512 * f = b' + 16 * c' + 128 * e1' + 512 * f' := by omega
      have hf : f = f' := by omega
      subst hf
      have he : e1 = e1' := by omega
      subst he
      have hc : c = c' := by omega
      subst hc
      have hb : b = b' := by omega
      subst hb
      have : a = a' := by omega
      subst this
      rw [p7, q7]
    exact lexLt_ne hlt ((hE t ht).inj (by omega) (hE u hu) hv)
  have h2 := nat_nodup_len 2000 (Q.map codeN) h1 (fun x hx => by
    obtain ⟨t, ht, rfl⟩ := List.mem_map.1 hx
    obtain ⟨a, b, c, e1, f, p1, p2, p3, p4, p5, p6, p7, p8⟩ := (hE t ht).form hd
    rw [p8]; omega)
  simpa using h2
/-! ### how long a product can be -/
theorem flat_len_le {α : Type} {L : List α} {f : α → LL} {k : Nat} (h : ∀ x ∈ L, (f x).length ≤ k) : (L.flatMap f).length ≤ L.length * k := by
  induction L with
  | nil => simp
  | cons x L ih =>
    rw [List.flatMap_cons, List.length_append, List.length_cons, Nat.succ_mul]
    have := h x (List.mem_cons_self ..)
    have := ih fun y hy => h y (List.mem_cons_of_mem _ hy)
    omega
theorem enumT_count : ∀ (s : List Int) (a : Int) (j : Nat), a ≤ 40 → (enumT s a j).length ≤ 41 ^ s.length
  | [], _, _, _ => by simp [enumT]
  | s0 :: s, a, j, ha => by
    unfold enumT
    have hp := pow_ge1 j
    have h1 := flat_len_le (L := List.range ((min (a / 2 ^ (j + 1)) s0).toNat + 1)) (f := fun (x : Nat) => (enumT s (a - 2 ^ (j + 1) * x) (j + 1)).map ((x : Int) :: ·)) (k := 41 ^ s.length) (fun x _ => by
      rw [List.length_map]
      have := Int.mul_nonneg (show (0 : Int) ≤ 2 ^ (j + 1) by omega) (show (0 : Int) ≤ (x : Int) by omega)
      exact enumT_count s _ _ (by omega))
    rw [List.length_range] at h1
    have h2 : (min (a / 2 ^ (j + 1)) s0).toNat + 1 ≤ 41 := by
      have : a / 2 ^ (j + 1) ≤ 40 := Int.le_trans (Int.ediv_le_ediv (by omega) ha) (Int.ediv_le_self _ (by omega))
      omega
    rw [List.length_cons, Nat.pow_succ, Nat.mul_comm (41 ^ s.length)]
    exact Nat.le_trans h1 (Nat.mul_le_mul_right _ h2)
theorem prodE_count {a d : Int} (ha : a ≤ 40) (hd : d ≤ 40) {s : List Int} (hs : Ex d s) : (prodE [a] s).length ≤ 115856201 := by
  rw [prodE_one]
  have h1 := flat_len_le (L := enumT s a 0) (f := fun X => finT a s X) (k := 1) (fun X _ => by
    unfold finT resT; split <;> simp)
  have h2 := enumT_count s a 0 ha
  have h3 : (41 : Nat) ^ s.length ≤ 41 ^ 5 := Nat.pow_le_pow_right (by omega) (hs.len5 hd)
  have : (41 : Nat) ^ 5 = 115856201 := by decide
  omega
theorem mul_count {a d : Int} (ha : a ≤ 40) (hd : d ≤ 40) {W : LL} (hW : As W) (hE : ∀ s ∈ W, Ex d s) : ([[a]].flatMap fun r => W.flatMap fun s => prodE r s).length ≤ 500000000000 := by
  have h1 := flat_len_le (L := W) (f := fun s => prodE [a] s) (k := 115856201) (fun s hs => prodE_count ha hd (hE s hs))
  have h2 := ex_count hd hW hE
  simp only [List.flatMap_cons, List.flatMap_nil, List.append_nil]
  have : W.length * 115856201 ≤ 2000 * 115856201 := Nat.mul_le_mul_right _ h2
  omega
end Go.Proofs.Ytnffpjdlpjkioaa

namespace Go.Proofs
open Go.Shelf
def Try.eqlI_ren : Go.Shelf.Ren := ⟨fun | 33 => 93 | n => n, fun | 22 => 30 | 23 => 2 | 4 => 4 | 3 => 3 | 0 => 0 | n => n, fun | n => n⟩
theorem Try.eqlI : Go.Proofs.SlLaysE.n33 Try.prog Try.eqlI_ren := {
  mixed := by kernel_rfl
  f33 := ⟨Try.f93.name, by decide, Try.func93.trans (congrArg some (by kernel_rfl))⟩
  t0 := Try.underlying0
  a0 := Try.isAgg0
  z0 := Try.sizeOf0
  v0 := Try.zeroValue0
  t3 := Try.underlying3
  a3 := Try.isAgg3
  z3 := Try.sizeOf3
  v3 := Try.zeroValue3
  t4 := Try.underlying4
  a4 := Try.isAgg4
  z4 := Try.sizeOf4
  v4 := Try.zeroValue4
  t22 := Try.underlying30
  a22 := Try.isAgg30
  z22 := Try.sizeOf30
  v22 := Try.zeroValue30
  a23 := Try.isAgg2
  z23 := Try.sizeOf2 }
end Go.Proofs

namespace Go.Proofs.Ytnffpjdlpjkioaa
open Go.RowKit

theorem own_nonnil {w : World} {B n : Nat} {e : TypeId} {A : Option Addr} {c : Nat} {xs : List Value} (h : w.ownsRow B e 1 (.slice A n c) n xs) (hn : 0 < n) : ∃ g, A = some ⟨g, 0, none⟩ ∧ B ≤ g ∧ g < w.heap.size := by
  obtain ⟨A', c', hv, _, hA, _⟩ := owns_shape h
  injection hv with e1 _ _
  subst e1
  exact hA hn

end Go.Proofs.Ytnffpjdlpjkioaa

namespace Go.Proofs.Ytnffpjdlpjkioaa
open Go.RowKit

theorem fold_sub (Ls : LL) : ∀ (Q : LL) {z : List Int}, z ∈ Ls.foldl putR Q → z ∈ Q ∨ z ∈ Ls := by
  induction Ls with
  | nil => intro Q z h; exact .inl h
  | cons x Ls ih =>
    intro Q z h
    rcases ih _ h with h | h
    · rcases mem_putR_sub _ _ _ h with h | h
      · exact .inl h
      · exact .inr (by rw [h]; exact List.mem_cons_self ..)
    · exact .inr (List.mem_cons_of_mem _ h)
theorem tabL_set {r s : List Int} {C : LL} (h : C.length = r.length) {i j : Nat} (hi : i < r.length) (a b v : Int) :
    ((tabL r s C).set 0 ((0 :: s).set (j + 1) a)).set (i + 1) (((r.getD i 0 :: C.getD i []).set 0 b).set (j + 1) v) = tabL (r.set i b) (s.set j a) (C.set i ((C.getD i []).set j v)) := by
  simp only [tabL, List.set_cons_zero, List.set_cons_succ]
  congr 1
  apply List.ext_getElem
  · simp
  · intro k h1 h2
    simp only [List.getElem_set, List.getElem_zipWith]
    by_cases e : i = k
    · simp [e]
    · simp [e]
theorem tab_head {r s : List Int} {C : LL} : (tabL r s C).getD 0 [] = 0 :: s := by simp [tabL]
theorem tab_row {r s : List Int} {C : LL} (h : C.length = r.length) {i : Nat} (hi : i < r.length) : (tabL r s C).getD (i + 1) [] = r.getD i 0 :: C.getD i [] := by
  simp [tabL, List.getD, List.getElem?_zipWith, hi, h]
theorem rows_len {r s : List Int} {C : LL} (hl : C.length = r.length) (hC : ∀ k, k < C.length → (C.getD k []).length = s.length) (i j : Nat) (a b v : Int) : (C.set i ((C.getD i []).set j v)).length = (r.set i b).length ∧ ∀ k, k < (C.set i ((C.getD i []).set j v)).length → ((C.set i ((C.getD i []).set j v)).getD k []).length = (s.set j a).length := by
  refine ⟨by simp [hl], fun k hk => ?_⟩
  rw [List.length_set] at hk
  rw [getD_setL, List.length_set]
  split
  · rename_i e; rw [List.length_set, hC i (by omega)]
  · exact hC k hk
theorem BdT.step {N : Int} {r s : List Int} {C : LL} (h : BdT N r s C) {i j : Nat} {a b v : Int} (ha : 0 ≤ a ∧ a ≤ N) (hb : 0 ≤ b ∧ b ≤ N) (hv : 0 ≤ v ∧ v ≤ N) : BdT N (r.set i b) (s.set j a) (C.set i ((C.getD i []).set j v)) := by
  refine ⟨fun k => ?_, fun k => ?_, fun p q => ?_⟩
  · rw [getD_setI]; split
    · exact hb
    · exact h.r k
  · rw [getD_setI]; split
    · exact ha
    · exact h.s k
  · rw [getD_setL]; split
    · rw [getD_setI]; split
      · exact hv
      · exact h.c _ _
    · exact h.c _ _

/-- what a fill from a place on gives -/
def FillR (Q : LL) (O : List Row) (w : World) (e : Ending) (w' : World) : Prop := RdRes (Q.foldl putR (dat O)) w e w'

theorem OwnR.store {w : World} {B n c k m : Nat} {A : Option Addr} {L : List Row} {j : Nat} (h : OwnR w B (.slice A n c) L) (hj : j < L.length) (hk : (rg L j).A = some ⟨k, 0, none⟩) (x : Int) : OwnR (w.setCell ⟨k, m, none⟩ (.int .i64 x)) B (.slice A n c) (L.set j ⟨(rg L j).A, (rg L j).c, (rg L j).xs.set m x⟩) := by
  have hown := h.inn j hj
  have hv : (rg L j).val = .slice (some ⟨k, 0, none⟩) (rg L j).xs.length (rg L j).c := by unfold Row.val; rw [hk]
  refine h.inset hj (by simp) ((Keeps.refl w _).setCell (by rw [hv]; simp [Value.ownBlock]) _) ?_
  rw [hv] at hown ⊢
  have := (World.ownsRow.stored hown m (.int .i64 x)).1
  rw [show (iv (rg L j).xs).set m (.int .i64 x) = iv ((rg L j).xs.set m x) from by simp [iv, List.map_set]] at this
  exact this
theorem rg_setT {L : List Row} {i j : Nat} {R : Row} (hi : i < L.length) : rg (L.set i R) j = if i = j then R else rg L j := by
  unfold rg List.getD
  rw [List.getElem?_set]
  by_cases h : i = j
  · subst h; simp [hi]
  · simp [h]
theorem OwnR.store' {w : World} {B n c k m : Nat} {A : Option Addr} {L : List Row} {j : Nat} (h : OwnR w B (.slice A n c) L) (hj : j < L.length) (hk : (rg L j).A = some ⟨k, 0, none⟩) (x : Int) :
    ∃ R, R.length = L.length ∧ dat R = (dat L).set j ((rg L j).xs.set m x) ∧ OwnR (w.setCell ⟨k, m, none⟩ (.int .i64 x)) B (.slice A n c) R ∧ (∀ i, (rg R i).A = (rg L i).A ∧ (rg R i).c = (rg L i).c) ∧ (∀ i, i ≠ j → (rg R i).xs = (rg L i).xs) ∧ (rg R j).xs = (rg L j).xs.set m x := by
  refine ⟨_, by rw [List.length_set], dat_set _ _ _, h.store (m := m) hj hk x, fun i => ?_, fun i hi => ?_, ?_⟩
  · rw [rg_setT hj]; split
    · rename_i e; subst e; exact ⟨rfl, rfl⟩
    · exact ⟨rfl, rfl⟩
  · rw [rg_setT hj, if_neg (fun e => hi e.symm)]
  · rw [rg_setT hj, if_pos rfl]
/-- the outer cell and the inner cells of an own row of rows -/
theorem OwnR.look {w : World} {B n c j m : Nat} {A : Option Addr} {L : List Row} (h : OwnR w B (.slice A n c) L) (hn : n = L.length) (hj : j < L.length) (hm : m < (rg L j).xs.length) :
    ∃ g k, A = some ⟨g, 0, none⟩ ∧ (rg L j).A = some ⟨k, 0, none⟩ ∧ w.cell? ⟨g, j, none⟩ = some (.slice (some ⟨k, 0, none⟩) (rg L j).xs.length (rg L j).c) ∧ w.cell? ⟨k, m, none⟩ = some (.int .i64 ((rg L j).xs.getD m 0)) ∧ w.frozen? ⟨k, m, none⟩ = false := by
  subst hn
  obtain ⟨k, h1, h2, h3⟩ := own_at (h.inn j hj) hm
  obtain ⟨g, rfl, _⟩ := own_nonnil h.out (by omega)
  refine ⟨g, k, rfl, h1, ?_, h2, h3⟩
  rw [h.out.cellAt j (by omega), hv_get hj]
  simp [Row.val, h1]
theorem foldl_flat_succ (f : Nat → LL) (Q : LL) (x : Nat) : ((List.range (x + 1)).flatMap f).foldl putR Q = (f x).foldl putR (((List.range x).flatMap f).foldl putR Q) := by
  rw [flat_range_succ, List.foldl_append]

end Go.Proofs.Ytnffpjdlpjkioaa

namespace Go.Proofs.Ytnffpjdlpjkioaa
open Go.RowKit

theorem drop_succ_cons {r : List Int} {j : Nat} (h : j < r.length) : r.drop j = r.getD j 0 :: r.drop (j + 1) := drop_getI h
theorem lead_drop {r : List Int} {j : Nat} (h : j < r.length) : leadW (r.drop j) = (r.getD j 0 + 2 * (leadW (r.drop (j + 1))).headD 0) :: leadW (r.drop (j + 1)) := by
  rw [drop_succ_cons h]; rfl
theorem rep_set {j : Nat} (x : Int) (L : List Int) : (List.replicate (j + 1) (0 : Int) ++ L).set j x = List.replicate j 0 ++ x :: L := by
  rw [List.replicate_succ', List.append_assoc]
  have := set_split (List.replicate j (0 : Int)) 0 x L
  rw [List.length_replicate] at this
  exact this
theorem rep_set2 {j : Nat} (x y : Int) (L : List Int) : (List.replicate j (0 : Int) ++ y :: L).set j x = List.replicate j 0 ++ x :: L := by
  have := set_split (List.replicate j (0 : Int)) y x L
  rw [List.length_replicate] at this
  exact this
theorem rep_get {j : Nat} (y : Int) (L : List Int) : (List.replicate j (0 : Int) ++ y :: L).getD j 0 = y := by
  have := getD_split (List.replicate j (0 : Int)) y 0 L
  rw [List.length_replicate] at this
  exact this
theorem rep_get1 {j : Nat} (y : Int) (L : List Int) : (List.replicate j (0 : Int) ++ y :: L).getD (j + 1) 0 = L.headD 0 := by
  have : (List.replicate j (0 : Int) ++ y :: L) = (List.replicate j 0 ++ [y]) ++ L := by simp
  rw [this]
  cases L with
  | nil => simp [List.getD]
  | cons z L =>
    have h := getD_split (List.replicate j (0 : Int) ++ [y]) z 0 L
    rw [List.length_append, List.length_replicate, List.length_singleton] at h
    rw [h]; rfl

theorem leadW_drop : ∀ (r : List Int) (k : Nat), (leadW r).drop k = leadW (r.drop k)
  | _, 0 => by simp
  | [], k + 1 => by simp [leadW]
  | x :: r, k + 1 => by simp only [leadW, List.drop_succ_cons]; exact leadW_drop r k
theorem nn_drop {r : List Int} (h : Nn r) (k : Nat) : Nn (r.drop k) := fun x hx => h x (List.mem_of_mem_drop hx)
theorem tr_drop : ∀ {r : List Int}, Tr r → ∀ k, Tr (r.drop k)
  | _, h, 0 => by simpa using h
  | [], _, k + 1 => by simp [Tr]
  | x :: r, h, k + 1 => by simp only [List.drop_succ_cons]; exact tr_drop h.2 k
theorem deg_drop : ∀ {r : List Int}, Nn r → ∀ k, degW 0 (r.drop k) ≤ degW 0 r
  | _, _, 0 => by simp
  | [], _, k + 1 => by simp
  | x :: r, h, k + 1 => by
    simp only [List.drop_succ_cons]
    have h1 := deg_drop h.tail k
    have h2 : degW 0 (x :: r) = x + (degW 0 r + wX 0 r) := by simp only [degW]; rw [deg_succ]; simp
    have h3 : 0 ≤ wX 0 r := by rw [wX_lead]; have := headD_nn (lead_nn h.tail); omega
    have := h.head
    omega
/-- a letter of the word is at most the degree -/
theorem lead_head_le {r : List Int} (h : Nn r) : (leadW r).headD 0 ≤ degW 0 r := by
  rw [← lead_deg]
  cases e : leadW r with
  | nil => simp
  | cons y t =>
    have h2 := lead_nn h
    rw [e] at h2
    have h3 : 0 ≤ t.sum := by
      have := sum_bd (xs := t) (m := t.sum.natAbs + (t.map Int.natAbs).sum) (fun x hx => ⟨h2.tail x hx, by
        have : x.natAbs ≤ (t.map Int.natAbs).sum := by
          clear h2 e
          induction t with
          | nil => cases hx
          | cons z t ih =>
            simp only [List.map_cons, List.sum_cons]
            rcases List.mem_cons.1 hx with e | hx
            · subst e; omega
            · have := ih hx; omega
        omega⟩) t.length (Nat.le_refl _)
      rw [List.take_length] at this; exact this.1
    simp; omega
theorem lead_get {r : List Int} {k : Nat} (hk : k < r.length) : (leadW r).getD k 0 = (leadW (r.drop k)).headD 0 := by
  rw [← leadW_drop]
  have : k < (leadW r).length := by rw [leadW_len]; exact hk
  rw [List.drop_eq_getElem_cons this]; simp [List.getD, this]
theorem wordE_drop {r : List Int} {k : Nat} (hk : k < r.length) : wordE ((leadW r).drop k) = mulE [[(leadW r).getD k 0]] (wordE ((leadW r).drop (k + 1))) := by
  have : k < (leadW r).length := by rw [leadW_len]; exact hk
  rw [List.drop_eq_getElem_cons this]
  simp only [wordE, List.getD, List.getElem?_eq_getElem this, Option.getD_some]
end Go.Proofs.Ytnffpjdlpjkioaa

namespace Go.Proofs.Ytnffpjdlpjkioaa
open Go.RowKit

theorem ex_bdl {d : Int} (hd : d ≤ 40) {t : List Int} (h : Ex d t) : BdL t := ⟨by have := h.len5 hd; omega, fun x hx => ⟨h.nn x hx, by have := h.le x hx; omega⟩⟩
/-- the lists of the element of a word's tail -/
theorem word_ex {r : List Int} (hn : Nn r) (ht : Tr r) (hd : degW 0 r ≤ 40) (k : Nat) : ∀ t ∈ wordE ((leadW r).drop k), Ex (degW 0 (r.drop k)) t := fun t h => by
  rw [leadW_drop] at h
  have h1 := deg_drop hn k
  exact ((tri (nn_drop hn k) (tr_drop ht k) (by omega)).2 t h).1
theorem word_bd {r : List Int} (hn : Nn r) (ht : Tr r) (hd : degW 0 r ≤ 40) (k : Nat) : ∀ t ∈ wordE ((leadW r).drop k), BdL t := fun t h => ex_bdl (by have := deg_drop hn k; omega) (word_ex hn ht hd k t h)
theorem word_cnt {r : List Int} (hn : Nn r) (ht : Tr r) (hd : degW 0 r ≤ 40) (k : Nat) : (wordE ((leadW r).drop k)).length ≤ 2000 := ex_count (by have := deg_drop hn k; omega) (wordE_as _) (word_ex hn ht hd k)
theorem lead_bd {r : List Int} (hn : Nn r) (hd : degW 0 r ≤ 40) {k : Nat} (hk : k < r.length) : 0 ≤ (leadW r).getD k 0 ∧ (leadW r).getD k 0 ≤ 40 := by
  rw [lead_get hk]
  have h1 := lead_head_le (nn_drop hn k)
  have h2 := deg_drop hn k
  have h3 := headD_nn (lead_nn (nn_drop hn k))
  omega
/-- [[x]] in two new blocks -/
theorem own11 (w : World) (x : Int) : OwnR ((w.alloc (.cells #[.int .i64 x] 2)).alloc (.cells #[.slice (some ⟨w.heap.size, 0, none⟩) 1 1] 30)) w.heap.size (.slice (some ⟨w.heap.size + 1, 0, none⟩) 1 1) [⟨some ⟨w.heap.size, 0, none⟩, 1, [x]⟩] := by
  have h := row_cell (w.alloc (.cells #[.int .i64 x] 2)) (B := w.heap.size) (.slice (some ⟨w.heap.size, 0, none⟩) 1 1) (by simp)
  rw [show (w.alloc (.cells #[.int .i64 x] 2)).heap.size = w.heap.size + 1 from by simp] at h
  exact OwnR.one (r := ⟨some ⟨w.heap.size, 0, none⟩, 1, [x]⟩) h ((one_int w x).alloc _)
theorem own10 (w : World) : OwnR ((w.alloc (.cells #[] 2)).alloc (.cells #[.slice (some ⟨w.heap.size, 0, none⟩) 0 0] 30)) w.heap.size (.slice (some ⟨w.heap.size + 1, 0, none⟩) 1 1) [⟨some ⟨w.heap.size, 0, none⟩, 0, []⟩] := by
  have h := row_cell (w.alloc (.cells #[] 2)) (B := w.heap.size) (.slice (some ⟨w.heap.size, 0, none⟩) 0 0) (by simp)
  rw [show (w.alloc (.cells #[] 2)).heap.size = w.heap.size + 1 from by simp] at h
  exact OwnR.one (r := ⟨some ⟨w.heap.size, 0, none⟩, 0, []⟩) h ((World.ownsRow_made w #[] 0 (Nat.le_refl _) (by decide) (by simp) : World.ownsRow _ w.heap.size 2 1 _ 0 []).alloc _)

theorem keepsS1 {w w1 : World} {o : Obj} {r : Option Nat} (h : (w.alloc o).grownBy w1 r) : Keeps w w1 [r] :=
  ((Keeps.refl w []).alloc o).trans (Keeps.of_grown h) (by simp)
/-- what outlasts the growth of the row of words -/
def KR (w : World) (v : Value) (A : Option Addr) (M : List Row) : Prop := ∀ w', Keeps w w' [v.ownBlock] → RdR w' A M
theorem KR.self {w : World} {v : Value} {A : Option Addr} {M : List Row} (h : KR w v A M) : RdR w A M := h w (Keeps.refl _ _)
theorem sumR_nil_iff (T : LL) : T.length = 0 ↔ T = [] := List.length_eq_zero_iff
theorem sq_end {T0 O T : LL} (hE : nf (evalW O ++ T) = T0) (h : T = []) : evalW (nf O) = T0 := by
  subst h
  rw [List.append_nil, nf_of_as (as_evalW _)] at hE
  rw [evalW_nf, hE]

end Go.Proofs.Ytnffpjdlpjkioaa

namespace Go.Proofs.Ytnffpjdlpjkioaa
open Go.RowKit

/-- the table after i rows -/
def tabZ (r s : List Int) (i : Nat) : LL := (0 :: s) :: (r.take i).map fun x => x :: List.replicate s.length 0
theorem tabZ_all (r s : List Int) : tabZ r s r.length = tabL r s (zeroT r s) := by
  unfold tabZ tabL zeroT
  rw [List.take_length]
  congr 1
  apply List.ext_getElem
  · simp
  · intro k h1 h2
    simp
theorem tabZ_succ {r : List Int} (s : List Int) {i : Nat} (h : i < r.length) : tabZ r s (i + 1) = tabZ r s i ++ [r.getD i 0 :: List.replicate s.length 0] := by
  unfold tabZ
  rw [List.take_succ_eq_append_getElem h, List.map_append]
  simp [List.getD, h]
theorem tabZ_len (r s : List Int) {i : Nat} (h : i ≤ r.length) : (tabZ r s i).length = i + 1 := by simp [tabZ]; omega
theorem zeroT_row (r s : List Int) : ∀ k, k < (zeroT r s).length → ((zeroT r s).getD k []).length = s.length := fun k hk => by
  unfold zeroT at hk ⊢
  rw [List.length_replicate] at hk
  simp [List.getD, hk]

end Go.Proofs.Ytnffpjdlpjkioaa

namespace Go.Proofs.Ytnffpjdlpjkioaa
open Go.RowKit

theorem nf_exlen {d : Int} (hd : d ≤ 40) {X : LL} (h : ∀ t ∈ X, Ex d t) : (nf X).length ≤ 2000 := ex_count hd (as_nf _) fun t ht => h t (nf_sub ht)
theorem sum_nf2 (X Y : LL) : sumR (nf X) (nf Y) = nf (X ++ Y) := by
  rw [sumR_nf (as_nf _) (as_nf _), nf_app_l, nf_app_r]
theorem rdRes_len {Q : LL} (M : List Row) (h : dat M = Q) : M.length = Q.length := by rw [← h, dat_length]

end Go.Proofs.Ytnffpjdlpjkioaa

namespace Go.Proofs.Ytnffpjdlpjkioaa
open Go.RowKit

theorem deg_step (r : List Int) {j : Nat} (hj : j < r.length) : degW 0 (r.drop j) = (leadW r).getD j 0 + degW 0 (r.drop (j + 1)) := by
  rw [← lead_deg, ← lead_deg, ← leadW_drop, ← leadW_drop]
  have : j < (leadW r).length := by rw [leadW_len]; exact hj
  rw [List.drop_eq_getElem_cons this, List.sum_cons]
  simp [List.getD, this]

end Go.Proofs.Ytnffpjdlpjkioaa

namespace Go.Proofs.Ytnffpjdlpjkioaa

/-- the words that come behind w, of degree d, first letter at most m (f: how deep) -/
def wordsN : Nat → Int → Int → List Int → LL
  | 0, _, _, w => [w]
  | f + 1, d, m, w => if d = 0 then [w] else (List.range (min m d).toNat).flatMap fun (a : Nat) => wordsN f (d - ((a : Int) + 1)) (((a : Int) + 1) / 2) (w ++ [(a : Int) + 1])
/-- letters at least 1, each at least twice the next, the first at most m -/
def AdW : Int → List Int → Prop
  | _, [] => True
  | m, a :: t => 1 ≤ a ∧ a ≤ m ∧ AdW (a / 2) t
theorem AdW.sum_nn : ∀ {m : Int} {t : List Int}, AdW m t → 0 ≤ t.sum ∧ (t ≠ [] → 1 ≤ t.sum)
  | _, [], _ => ⟨Int.le_refl _, fun h => absurd rfl h⟩
  | m, a :: t, h => by
    have := (AdW.sum_nn h.2.2).1
    have := h.1
    simp only [List.sum_cons]
    exact ⟨by omega, fun _ => by omega⟩
theorem mem_wordsN : ∀ (f : Nat) (d m : Int) (w x : List Int), 0 ≤ d → d ≤ f → (x ∈ wordsN f d m w ↔ ∃ t, x = w ++ t ∧ AdW m t ∧ t.sum = d)
  | 0, d, m, w, x, h0, hf => by
    have hd : d = 0 := by omega
    subst hd
    simp only [wordsN, List.mem_singleton]
    constructor
    · intro e; exact ⟨[], by simpa using e, trivial, rfl⟩
    · rintro ⟨t, e, ht, hs⟩
      have : t = [] := Classical.byContradiction fun hne => by have := ht.sum_nn.2 hne; omega
      subst this; simpa using e
  | f + 1, d, m, w, x, h0, hf => by
    unfold wordsN
    split
    · rename_i hd
      subst hd
      rw [List.mem_singleton]
      constructor
      · intro e; exact ⟨[], by simpa using e, trivial, rfl⟩
      · rintro ⟨t, e, ht, hs⟩
        have : t = [] := Classical.byContradiction fun hne => by have := ht.sum_nn.2 hne; omega
        subst this; simpa using e
    · rename_i hd
      rw [List.mem_flatMap]
      constructor
      · rintro ⟨a, ha, hx⟩
        rw [List.mem_range] at ha
        have hx2 := (mem_wordsN f _ _ _ x (by omega) (by omega)).1 hx
        obtain ⟨t, e, ht, hs⟩ := hx2
        exact ⟨((a : Int) + 1) :: t, by rw [e, List.append_assoc]; rfl, ⟨by omega, by omega, ht⟩, by simp only [List.sum_cons]; omega⟩
      · rintro ⟨t, e, ht, hs⟩
        cases t with
        | nil => simp at hs; omega
        | cons a t =>
          obtain ⟨h1, h2, h3⟩ := ht
          have h4 := h3.sum_nn.1
          simp only [List.sum_cons] at hs
          refine ⟨(a - 1).toNat, List.mem_range.2 (by omega), ?_⟩
          have ea : (((a - 1).toNat : Nat) : Int) + 1 = a := by omega
          rw [ea]
          exact (mem_wordsN f _ _ _ x (by omega) (by omega)).2 ⟨t, by rw [e, List.append_assoc]; rfl, h3, by omega⟩
theorem nodup_wordsN : ∀ (f : Nat) (d m : Int) (w : List Int), 0 ≤ d → d ≤ f → (wordsN f d m w).Nodup
  | 0, _, _, w, _, _ => by simp [wordsN]
  | f + 1, d, m, w, h0, hf => by
    unfold wordsN
    split
    · simp
    · unfold List.Nodup
      rw [List.pairwise_flatMap]
      refine ⟨fun a ha => nodup_wordsN f _ _ _ (by have := List.mem_range.1 ha; omega) (by omega), ?_⟩
      refine List.Pairwise.imp_of_mem (R := fun a b : Nat => a ≠ b) ?_ List.nodup_range
      intro a b ha hb hne x hx y hy e
      rw [List.mem_range] at ha hb
      subst e
      obtain ⟨t, e1, _, _⟩ := (mem_wordsN f _ _ _ x (by omega) (by omega)).1 hx
      obtain ⟨u, e2, _, _⟩ := (mem_wordsN f _ _ _ x (by omega) (by omega)).1 hy
      rw [e1, List.append_assoc, List.append_assoc] at e2
      have := List.append_cancel_left e2
      simp at this
      omega
/-- the exponents of a word -/
def unW : List Int → List Int
  | [] => []
  | a :: t => (a - 2 * t.headD 0) :: unW t
theorem lead_unW : ∀ t : List Int, leadW (unW t) = t
  | [] => rfl
  | a :: t => by
    simp only [unW, leadW]
    rw [lead_unW t]
    congr 1; omega
theorem adw_un : ∀ {m : Int} {t : List Int}, AdW m t → Nn (unW t) ∧ Tr (unW t)
  | _, [], _ => ⟨fun x hx => (by cases hx), trivial⟩
  | m, a :: t, h => by
    obtain ⟨h1, h2, h3⟩ := h
    obtain ⟨i1, i2⟩ := adw_un h3
    have hh : 2 * t.headD 0 ≤ a := by
      cases t with
      | nil => simp; omega
      | cons b t => have := h3.2.1; simp; omega
    refine ⟨fun x hx => ?_, ⟨fun e => ?_, i2⟩⟩
    · simp only [unW] at hx
      rcases List.mem_cons.1 hx with e | hx
      · omega
      · exact i1 x hx
    · have : t = [] := by
        cases t with
        | nil => rfl
        | cons b t => simp [unW] at e
      subst this; simp; omega
theorem lead_adw : ∀ {r : List Int}, Nn r → Tr r → ∀ {m : Int}, (leadW r).headD 0 ≤ m → AdW m (leadW r)
  | [], _, _, _, _ => trivial
  | x :: r, hn, ht, m, hm => by
    have hx := hn.head
    have h0 := headD_nn (lead_nn hn.tail)
    simp only [leadW, List.headD_cons] at hm ⊢
    refine ⟨?_, hm, lead_adw hn.tail ht.2 (by omega)⟩
    cases r with
    | nil => have := ht.1 rfl; simp [leadW]; omega
    | cons y r =>
      have := lead_adw hn.tail ht.2 (Int.le_refl _)
      simp only [leadW] at this ⊢
      have := this.1
      simp only [List.headD_cons]; omega
/-- all admissible words of degree d -/
def allW (d : Int) : LL := wordsN d.toNat d d []
theorem mem_allW {d : Int} (h0 : 0 ≤ d) (w : List Int) : w ∈ allW d ↔ IsW d w := by
  unfold allW
  rw [mem_wordsN _ _ _ _ _ h0 (by omega)]
  constructor
  · rintro ⟨t, e, ht, hs⟩
    rw [List.nil_append] at e
    subst e
    obtain ⟨h1, h2⟩ := adw_un ht
    exact ⟨unW w, ⟨h1, h2, by rw [← lead_deg, lead_unW, hs]⟩, (lead_unW w).symm⟩
  · rintro ⟨r, hr, rfl⟩
    exact ⟨leadW r, by simp, lead_adw hr.nn hr.tr (by have := lead_head_le hr.nn; rw [hr.deg] at this; exact this), by rw [lead_deg, hr.deg]⟩
theorem nodup_allW {d : Int} (h0 : 0 ≤ d) : (allW d).Nodup := nodup_wordsN _ _ _ _ h0 (by omega)
end Go.Proofs.Ytnffpjdlpjkioaa

namespace Go.Proofs.Ytnffpjdlpjkioaa
open Go.RowKit

theorem Keeps.moreO {w wr w' : World} {b : Option Nat} {S : List (Option Nat)} (h : Keeps w wr [b]) (h2 : Keeps wr w' S) (hS : ∀ j, some j ∈ S → some j = b ∨ w.heap.size ≤ j) : Keeps w w' [b] :=
  h.trans h2 (fun j hj hm => by
    rcases hm with hm | hm
    · exact hm
    · rcases hS j hm with h | h
      · rw [h]; exact List.mem_singleton.2 rfl
      · omega)
/-- the list v of the rows M has grown by the lists Q -/
def WordsP (B : Nat) (v : Value) (M : List Row) (Q : LL) (w : World) (e : Ending) (w' : World) : Prop :=
  ∃ A c N, e = .returned (.slice A N.length c) ∧ OwnR w' B (.slice A N.length c) N ∧ dat N = dat M ++ Q ∧ Keeps w w' [v.ownBlock] ∧ (∀ k, (Value.slice A N.length c).ownBlock = some k → some k = v.ownBlock ∨ w.heap.size ≤ k)
theorem words_put {w w3 : World} {B n c p cp g c2 : Nat} {A S : Option Addr} {M : List Row} {s : List Int} {o : Obj} (hn : n = M.length) (hp : p = s.length) (ho : OwnR w B (.slice A n c) M) (hs : w.ownsRow B 2 1 (.slice S p cp) p (iv s))
    (hd : ∀ i, i < M.length → (Value.slice S p cp).ownBlock = none ∨ (Value.slice S p cp).ownBlock ≠ (rg M i).val.ownBlock)
    (hown : w3.ownsRow B 30 1 (.slice (some ⟨g, 0, none⟩) (n + 1) c2) (n + 1) (hv M ++ [.slice S p cp])) (hg : (w.alloc o).grownBy w3 (Value.slice A n c).ownBlock) (hat : (Value.slice A n c).ownBlock = some g ∨ g = (w.alloc o).heap.size) :
    WordsP B (.slice A n c) M [s] w (.returned (.slice (some ⟨g, 0, none⟩) (n + 1) c2)) w3 := by
  subst hn; subst hp
  refine ⟨some ⟨g, 0, none⟩, c2, M ++ [⟨S, cp, s⟩], by simp, ?_, by simp [dat], ((Keeps.refl w []).alloc o).trans (Keeps.of_grown hg) (by simp), ?_⟩
  · have := OwnR.app (r := ⟨S, cp, s⟩) ho hs hd hown hg
    rw [List.length_append]; exact this
  · intro k hk
    have : g = k := by simpa [Value.ownBlock] using hk
    subst this
    rcases hat with h | h
    · exact .inl h.symm
    · right; rw [h]; simp

theorem wordsN_count {k K : Nat} (hk : k < K) (g : Nat → LL) : ((List.range k).flatMap g).length + (g k).length ≤ ((List.range K).flatMap g).length := by
  obtain ⟨j, rfl⟩ : ∃ j, K = k + 1 + j := ⟨K - (k + 1), by omega⟩
  rw [List.range_add, List.flatMap_append, List.range_succ, List.flatMap_append]
  simp only [List.length_append, List.flatMap_cons, List.flatMap_nil, List.append_nil]
  omega
theorem flat_rng_succ (k : Nat) (g : Nat → LL) : (List.range (k + 1)).flatMap g = (List.range k).flatMap g ++ g k := by
  rw [List.range_succ, List.flatMap_append]; simp
theorem iv_snocI (s : List Int) (x : Int) : iv s ++ [.int .i64 x] = iv (s ++ [x]) := by simp [iv]
theorem words_dis {xs : List Value} {wr w3 : World} {B g p c : Nat} {v : Value} {N : List Row} (ho : OwnR wr B v N) (h : w3.ownsRow wr.heap.size 2 1 (.slice (some ⟨g, 0, none⟩) p c) p xs) :
    ∀ i, i < N.length → (Value.slice (some ⟨g, 0, none⟩) p c).ownBlock = none ∨ (Value.slice (some ⟨g, 0, none⟩) p c).ownBlock ≠ (rg N i).val.ownBlock := fun i hi => .inr fun e => by
  have h1 := (h.lt g rfl).1
  have h2 := ((ho.inn i hi).lt g e.symm).2
  omega

end Go.Proofs.Ytnffpjdlpjkioaa

namespace Go.Proofs.Ytnffpjdlpjkioaa
open Go.RowKit

theorem nf_len_nodup {L : LL} (h : L.Nodup) : (nf L).length = L.length := by
  refine (List.perm_iff_count.2 fun z => ?_).length_eq
  rw [count_as (as_nf L), h.count]
  have hc := h.count (a := z)
  have hm : z ∈ nf L ↔ L.count z % 2 = 1 := mem_nf
  by_cases hz : z ∈ L
  · rw [if_pos hz] at hc ⊢; rw [if_pos (hm.2 (by omega))]
  · rw [if_neg hz] at hc ⊢; rw [if_neg (fun e => by have := hm.1 e; omega)]
theorem un_inj {t u : List Int} (h : unW t = unW u) : t = u := by rw [← lead_unW t, ← lead_unW u, h]
theorem un_lead (r : List Int) : unW (leadW r) = r := lead_inj (lead_unW (leadW r))
/-- there are few words of a degree -/
theorem words_count {d : Int} (hd : d ≤ 40) {Q : LL} (hn : Q.Nodup) (hW : ∀ w ∈ Q, IsW d w) : Q.length ≤ 2000 := by
  have h1 : (Q.map unW).Nodup := by
    unfold List.Nodup
    rw [List.pairwise_map]
    exact hn.imp fun hne e => hne (un_inj e)
  have h2 := ex_count hd (as_nf (Q.map unW)) (fun t ht => by
    obtain ⟨w, hw, rfl⟩ := List.mem_map.1 (nf_sub ht)
    obtain ⟨r, hr, rfl⟩ := hW w hw
    rw [un_lead]; exact hr)
  rw [nf_len_nodup h1] at h2
  simpa using h2

theorem l01Place_in (A B : Option Addr) (n n' c c' : Nat) (L : List Row) (x : List Int) (w : World) (hn : n = L.length) (hn' : n' = x.length) (hsm : n ≤ 1099511627776) (hl : ∀ i, i < L.length → (rg L i).xs.length ≤ 1099511627776) (hsm' : n' ≤ 1099511627776) (hA : RdR w A L) (hB : Rd w B (iv x)) :
    Calls Try.prog 113 #[.slice A n c, .slice B n' c'] w fun e w' => (∃ r : Int, e = .returned (.int .i64 r) ∧ (0 ≤ r ↔ x ∈ dat L) ∧ -1 ≤ r ∧ r ≤ n) ∧ ∃ m, w.drewN m = w' := by
  have HA := Lib.hid hA
  have HB := Lib.hid hB
  have Hn := Lib.hid hn
  have Hn' := Lib.hid hn'
  have HL := Lib.hid hl
  clear hA hB hn hn' hl
  go_enter Try.func113, Try.ntmps113
  go_wp2_with fail
  go_loopw [5] (fun v5 wr => ∃ k q : Nat, k ≤ n ∧ v5 = .int .i64 k ∧ wr = w.drewN q ∧ Hid (∀ t, t < k → (dat L).getD t [] ≠ x)) (fun v5 _ => n - (intOf v5).toNat)
  case atStart => exact ⟨0, 0, Nat.zero_le _, rfl, rfl, Lib.hid (fun t ht => by omega)⟩
  case round =>
    obtain ⟨k, q, hk, rfl, rfl, HQ⟩ := hrel
    by_cases hlt : k < n
    · have hkL : k < L.length := by rw [← Hn.out]; exact hlt
      obtain ⟨b, o, rfl, hc⟩ := (HA.out.drewN q).at_ hkL
      have hri := (HA.out.drewN q).inn k hkL
      have hl := HL.out k hkL
      have HMEM : Hid ((rg L k).xs ∈ dat L) := Lib.hid (List.mem_map.2 ⟨_, rg_mem hkL, rfl⟩)
      have HGD := Lib.hid (dat_getD L k)
      generalize rg L k = r at *
      obtain ⟨rA, rc, rx⟩ := r
      simp only at hc hri hl HMEM HGD
      have HS := Lib.hid (l01Same_any rA B rx.length n' rc c' rx x (w.drewN q) rfl Hn'.out hl hsm' hri (HB.out.drewN q))
      clear hri hl
      go_wp2_with fail
      refine HS.out.mono ?_
      rintro e w1 ⟨rfl, m, rfl⟩
      by_cases hx : rx = x
      · have HX : Hid ((rx == x) = true) := Lib.hid (by simpa using hx)
        rw [HX.out]
        have HIN : Hid (x ∈ dat L) := Lib.hid (by rw [← hx]; exact HMEM.out)
        clear hx
        go_wp2_with fail
        go_ret
        exact ⟨⟨_, rfl, ⟨fun _ => HIN.out, fun _ => by omega⟩, by omega, by omega⟩, _, rfl⟩
      · have HX : Hid ((rx == x) = false) := Lib.hid (by simpa using hx)
        rw [HX.out]
        have HQ' : Hid (∀ t, t < k + 1 → (dat L).getD t [] ≠ x) := Lib.hid (fun t ht => by
          by_cases e : t = k
          · subst e; rw [HGD.out]; exact hx
          · exact HQ.out t (by omega))
        clear hx
        go_wp2_with fail
        go_roundw
        case rel => exact ⟨k + 1, _, by omega, by go_num, rfl, HQ'⟩
        case measure => simp [intOf]; omega
    · obtain rfl : k = n := by omega
      have HOUT : Hid (x ∉ dat L) := Lib.hid (fun hx => by
        obtain ⟨i, hi, e⟩ := List.getElem_of_mem hx
        refine HQ.out i (by rw [Hn.out, ← dat_length]; exact hi) ?_
        simp [List.getD, hi, e])
      go_wp2_with fail
      go_ret
      exact ⟨⟨_, rfl, ⟨fun h => by omega, fun h => absurd h HOUT.out⟩, by omega, by omega⟩, q, rfl⟩
end Go.Proofs.Ytnffpjdlpjkioaa
