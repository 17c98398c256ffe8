/- Plain words shared by the walks of this seat: bits of natural numbers as 64-bit ints, slices that read as lists. · facts of the program's tables · predicates: in, isMask, all, IsMatrix and the reference's l01In, l02Is · the laws' own helpers: sizes, copies, comparisons of slices of ints · the laws' own helpers at matrices · the laws' marks: markInt64S, heldInt64S, markMatrix, heldMatrix · the walks of the span · plain mathematics of masks: reduced lists of rows · plain mathematics: the product of a mask and rows -/
import Derived.WalkKit
import Derived.WalkSpells
import Derived.WalkLawsBesides
import Derived.WalkSmall
import Derived.Lib.TrailingZeros
import Derived.Lib.Hide
import Derived.LoopTactic
import Derived.Outline
import Derived.Deep.QuietTactic
import Derived.BigQuiet
import Derived.RegionTactic
import Derived.Deep.AppendLies
import Derived.Deep.RegionHeld3
import Derived.Deep.Draws
import Derived.BigRegion
import Derived.Deep.RegionLaw
import Derived.Test.YtjhlmalpcelbaaaDoorProg
import Derived.Deep.Onto
set_option linter.all false
namespace Go.Proofs.YtjhlmalpcelbaaaDoor
open Go.RowKit

/-! ### bits -/
def Sm (a : Nat) : Prop := a < 9223372036854775808
def xr (a b : Nat) : Nat := a ^^^ b
def an (a b : Nat) : Nat := a &&& b
def orr (a b : Nat) : Nat := a ||| b
def tb (a n : Nat) : Bool := a.testBit n
def pv (a : Nat) : Nat := Lib.ctz 64 a

theorem Sm.xr {a b : Nat} (ha : Sm a) (hb : Sm b) : Sm (xr a b) := by
  unfold Sm at *; exact Nat.xor_lt_two_pow (n := 63) ha hb
theorem Sm.an {a b : Nat} (ha : Sm a) : Sm (an a b) := by
  unfold Sm at *; exact Nat.lt_of_le_of_lt Nat.and_le_left ha
theorem Sm.orr {a b : Nat} (ha : Sm a) (hb : Sm b) : Sm (orr a b) := by
  unfold Sm at *; exact Nat.or_lt_two_pow (n := 63) ha hb
theorem Sm.zero : Sm 0 := by unfold Sm; omega
theorem Sm.one : Sm 1 := by unfold Sm; omega

theorem ofInt64_nat (a : Nat) (ha : a < 18446744073709551616) : (BitVec.ofInt 64 (a : Int)).toNat = a := by
  rw [BitVec.ofInt_natCast, BitVec.toNat_ofNat]; exact Nat.mod_eq_of_lt (by omega)

theorem i64_xor_nat {a b : Nat} (ha : Sm a) (hb : Sm b) : bits .xor .i64 (a : Int) (b : Int) = ((xr a b : Nat) : Int) := by
  have hx : Sm (YtjhlmalpcelbaaaDoor.xr a b) := ha.xr hb
  unfold Sm at *
  show IntKind.i64.wrap ((BitVec.ofInt 64 (a : Int) ^^^ BitVec.ofInt 64 (b : Int)).toNat : Int) = _
  rw [BitVec.toNat_xor, ofInt64_nat a (by omega), ofInt64_nat b (by omega), IntKind.wrap_i64]
  unfold xr at *
  omega
theorem i64_and_nat {a b : Nat} (ha : Sm a) (hb : Sm b) : bits .and .i64 (a : Int) (b : Int) = ((an a b : Nat) : Int) := by
  have hx : Sm (YtjhlmalpcelbaaaDoor.an a b) := ha.an
  unfold Sm at *
  show IntKind.i64.wrap ((BitVec.ofInt 64 (a : Int) &&& BitVec.ofInt 64 (b : Int)).toNat : Int) = _
  rw [BitVec.toNat_and, ofInt64_nat a (by omega), ofInt64_nat b (by omega), IntKind.wrap_i64]
  unfold an at *
  omega
theorem i64_or_nat {a b : Nat} (ha : Sm a) (hb : Sm b) : bits .or .i64 (a : Int) (b : Int) = ((orr a b : Nat) : Int) := by
  have hx : Sm (YtjhlmalpcelbaaaDoor.orr a b) := ha.orr hb
  unfold Sm at *
  show IntKind.i64.wrap ((BitVec.ofInt 64 (a : Int) ||| BitVec.ofInt 64 (b : Int)).toNat : Int) = _
  rw [BitVec.toNat_or, ofInt64_nat a (by omega), ofInt64_nat b (by omega), IntKind.wrap_i64]
  unfold orr at *
  omega
theorem i64_bit_nat {a n : Nat} (ha : Sm a) : bits .and .i64 ((a : Int) / 2 ^ n) 1 = (((tb a n).toNat : Nat) : Int) := by
  have e : (a : Int) / 2 ^ n = ((a / 2 ^ n : Nat) : Int) := by simp
  have hd : Sm (a / 2 ^ n) := Nat.lt_of_le_of_lt (Nat.div_le_self _ _) ha
  have h := i64_and_nat hd Sm.one
  rw [e]
  simp only [Int.natCast_one] at h
  rw [h]
  unfold an tb
  rw [Nat.testBit_eq_decide_div_mod_eq, Nat.and_one_is_mod]
  rcases Nat.mod_two_eq_zero_or_one (a / 2 ^ n) with h | h <;> simp [h]
theorem i64_bit_test {a n : Nat} (ha : Sm a) : (bits .and .i64 ((a : Int) / 2 ^ n) 1 == 1) = tb a n := by
  rw [i64_bit_nat ha]
  cases tb a n <;> rfl

theorem pv_le {a : Nat} (h0 : a ≠ 0) (h : Sm a) : pv a ≤ 62 := by
  unfold Sm at h
  have hk := (Lib.lowest_bit 63 a h0 (by omega)).2
  unfold pv
  have e : Lib.ctz 64 a = Lib.ctz 63 a := by
    obtain ⟨m, hm, _⟩ := Lib.ctzFrom_spec 64 a (by omega) (by omega)
    obtain ⟨m', hm', _⟩ := Lib.ctzFrom_spec 63 a (by omega) (by omega)
    unfold Lib.ctz
    rw [if_neg h0, if_neg h0]
    have key : ∀ x y m m' : Nat, 2 ^ x * (2 * m + 1) = 2 ^ y * (2 * m' + 1) → x ≤ y := by
      intro x y m m' h
      apply Decidable.byContradiction
      intro hlt
      obtain ⟨d, rfl⟩ : ∃ d, x = y + 1 + d := ⟨x - y - 1, by omega⟩
      rw [Nat.pow_add, Nat.pow_add, Nat.mul_assoc, Nat.mul_assoc] at h
      have := Nat.eq_of_mul_eq_mul_left (Nat.two_pow_pos y) h
      omega
    exact Nat.le_antisymm (key _ _ _ _ (hm.symm.trans hm')) (key _ _ _ _ (hm'.symm.trans hm))
  omega

/-! ### slices that read as lists -/
/-- The int cells of numbers. -/
def nv (xs : List Nat) : List Value := xs.map fun (x : Nat) => Value.int .i64 (x : Int)
def iv (xs : List Int) : List Value := xs.map fun x => .int .i64 x
theorem nv_length (xs : List Nat) : (nv xs).length = xs.length := by simp [nv]
theorem iv_length (xs : List Int) : (iv xs).length = xs.length := by simp [iv]

/-- The slice at address A reads as the values vs. -/
def Rd (w : World) (A : Option Addr) (vs : List Value) : Prop := vs = [] ∨ ∃ b o, A = some ⟨b, o, none⟩ ∧ ∀ j v, vs[j]? = some v → w.cell? ⟨b, o + j, none⟩ = some v

theorem Rd.nil (w : World) (A : Option Addr) : Rd w A [] := .inl rfl
theorem Rd.atN {w : World} {A : Option Addr} {xs : List Nat} (h : Rd w A (nv xs)) {k : Nat} (hk : k < xs.length) :
    ∃ b o, A = some ⟨b, o, none⟩ ∧ w.cell? ⟨b, o + k, none⟩ = some (.int .i64 ((xs.getD k 0 : Nat) : Int)) := by
  rcases h with h | ⟨b, o, rfl, h⟩
  · have := congrArg List.length h; simp only [nv_length, List.length_nil] at this; omega
  · exact ⟨b, o, rfl, h k _ (by simp [nv, List.getD, hk])⟩
theorem Rd.atI {w : World} {A : Option Addr} {xs : List Int} (h : Rd w A (iv xs)) {k : Nat} (hk : k < xs.length) :
    ∃ b o, A = some ⟨b, o, none⟩ ∧ w.cell? ⟨b, o + k, none⟩ = some (.int .i64 (xs.getD k 0)) := by
  rcases h with h | ⟨b, o, rfl, h⟩
  · have := congrArg List.length h; simp only [iv_length, List.length_nil] at this; omega
  · exact ⟨b, o, rfl, h k _ (by simp [iv, List.getD, hk])⟩

theorem fold_take_succ {α β : Type} (f : β → α → β) (a : β) (L : List α) (k : Nat) (d : α) (h : k < L.length) :
    (L.take (k + 1)).foldl f a = f ((L.take k).foldl f a) (L.getD k d) := by
  rw [List.take_succ_eq_append_getElem h, List.foldl_append]
  simp [List.getD, h]

/-! ### what a call may change -/
/-- All but the blocks of S (and new ones) is as it was. -/
structure Keeps (w w' : World) (S : List (Option Nat)) : Prop where
  os : w'.os = w.os
  tape : w'.tape = w.tape
  output : w'.output = w.output
  size : w.heap.size ≤ w'.heap.size
  block : ∀ k, k < w.heap.size → some k ∉ S → w'.heap[k]? = w.heap[k]?

section
variable {w w1 w' : World} {S S' T : List (Option Nat)}
theorem Keeps.refl (w : World) (S : List (Option Nat)) : Keeps w w S := ⟨rfl, rfl, rfl, Nat.le_refl _, fun _ _ _ => rfl⟩
theorem Keeps.trans (h : Keeps w w1 S) (k : Keeps w1 w' S') (hT : ∀ j, j < w.heap.size → (some j ∈ S ∨ some j ∈ S') → some j ∈ T) : Keeps w w' T :=
  ⟨k.os.trans h.os, k.tape.trans h.tape, k.output.trans h.output, Nat.le_trans h.size k.size, fun j hj hn =>
    (k.block j (Nat.lt_of_lt_of_le hj h.size) (fun hm => hn (hT j hj (.inr hm)))).trans (h.block j hj (fun hm => hn (hT j hj (.inl hm))))⟩
theorem Keeps.more (h : Keeps w w' S) (hT : ∀ j, some j ∈ S → some j ∈ T) : Keeps w w' T :=
  ⟨h.os, h.tape, h.output, h.size, fun j hj hn => h.block j hj (fun hm => hn (hT j hm))⟩
theorem Keeps.of_grown {row : Option Nat} (h : w.grownBy w' row) : Keeps w w' [row] :=
  ⟨h.os, h.tape, h.output, h.size, fun j hj hn => h.block j hj (by simpa using hn)⟩
theorem Keeps.of_below (h : Below w.heap.size w w') : Keeps w w' [] := ⟨h.os, h.tape, h.output, h.size, fun j hj _ => h.block j hj⟩
theorem Keeps.to_below {B : Nat} (h : Keeps w w' S) (hB : B ≤ w.heap.size) (hS : ∀ j, some j ∈ S → B ≤ j) : Below B w w' :=
  ⟨h.os, h.tape, h.output, h.size, fun j hj => h.block j (by omega) (fun hm => by have := hS j hm; omega)⟩
theorem Keeps.drewN (h : Keeps w w' S) (m : Nat) : Keeps w (w'.drewN m) S := ⟨h.os, h.tape, h.output, h.size, h.block⟩
theorem Keeps.drew (h : Keeps w w' S) : Keeps w w'.drew S := ⟨h.os, h.tape, h.output, h.size, h.block⟩
theorem Keeps.ofDrewN (w : World) (m : Nat) : Keeps w (w.drewN m) S := ⟨rfl, rfl, rfl, Nat.le_refl _, fun _ _ _ => rfl⟩
theorem Keeps.setCell (h : Keeps w w' S) {p : Addr} (hp : some p.block ∈ S) (u : Value) : Keeps w (w'.setCell p u) S :=
  ⟨h.os, h.tape, h.output, by simpa [World.setCell] using h.size, fun j hj hn => (Below.heap_setCell w' p u j (fun e => hn (e ▸ hp))).trans (h.block j hj hn)⟩
theorem Keeps.alloc (h : Keeps w w' S) (o : Obj) : Keeps w (w'.alloc o) S :=
  ⟨h.os, h.tape, h.output, Nat.le_trans h.size (by simp), fun j hj hn => (Below.heap_alloc w' o j (Nat.lt_of_lt_of_le hj h.size)).trans (h.block j hj hn)⟩
theorem Keeps.cell (h : Keeps w w' S) {a : Addr} (hb : a.block < w.heap.size) (hn : some a.block ∉ S) : w'.cell? a = w.cell? a := World.cell?_of_block (h.block _ hb hn)
theorem Keeps.frozen (h : Keeps w w' S) {a : Addr} (hb : a.block < w.heap.size) (hn : some a.block ∉ S) : w'.frozen? a = w.frozen? a := World.frozen?_of_block (h.block _ hb hn)
theorem Keeps.cellSome (h : Keeps w w' S) {a : Addr} {v : Value} (hc : w.cell? a = some v) (hn : some a.block ∉ S) : w'.cell? a = some v :=
  (h.cell (World.block_lt_of_cell? w a hc) hn).trans hc
theorem owns_keeps {base : Nat} {e : TypeId} {size : Nat} {v : Value} {n : Nat} {xs : List Value} (h : w.ownsRow base e size v n xs) (hk : Keeps w w' S) (hn : v.ownBlock = none ∨ v.ownBlock ∉ S) :
    w'.ownsRow base e size v n xs := by
  refine ⟨h.1, ?_⟩
  rcases h.2 with h0 | ⟨g, cap, cur, rfl, hb, hg, rest⟩
  · exact .inl h0
  · refine .inr ⟨g, cap, cur, rfl, hb, ?_, rest⟩
    rw [hk.block g (Array.getElem?_eq_some_iff.1 hg).1 (by simpa [Value.ownBlock] using hn)]
    exact hg
/-- What a row of the call's own looks like, nil or not. -/
theorem owns_shape {base : Nat} {e : TypeId} {size : Nat} {v : Value} {n : Nat} {xs : List Value} (h : w.ownsRow base e size v n xs) :
    ∃ A c, v = .slice A n c ∧ n ≤ c ∧ (0 < n → ∃ g, A = some ⟨g, 0, none⟩ ∧ base ≤ g ∧ g < w.heap.size) ∧ v.ownBlock = A.map (·.block) := by
  rcases h.2 with ⟨rfl, rfl⟩ | ⟨g, cap, cur, rfl, hb, hg, hc, _⟩
  · exact ⟨none, 0, rfl, Nat.le_refl _, fun h => absurd h (by omega), rfl⟩
  · exact ⟨some ⟨g, 0, none⟩, cap, rfl, hc, fun _ => ⟨g, rfl, hb, (Array.getElem?_eq_some_iff.1 hg).1⟩, rfl⟩
theorem owns_Rd {base : Nat} {e : TypeId} {A : Option Addr} {n c : Nat} {xs : List Value} (h : w.ownsRow base e 1 (.slice A n c) n xs) : Rd w A xs := by
  rcases h.2 with ⟨hv, rfl⟩ | ⟨g, cap, cur, hv, hb, hg, hc, hm, hs, ht⟩
  · left; have := h.1; exact List.eq_nil_of_length_eq_zero (by omega)
  · injection hv with hA _ _
    subst hA
    refine .inr ⟨g, 0, rfl, fun j v hj => ?_⟩
    have := h.cells (g := g) rfl j v hj
    rwa [Addr.add_lit] at this
theorem Rd.keeps {A : Option Addr} {vs : List Value} (h : Rd w A vs) (hk : Keeps w w' S) (hn : ∀ a, A = some a → some a.block ∉ S) : Rd w' A vs := by
  rcases h with h | ⟨b, o, rfl, h⟩
  · exact .inl h
  · exact .inr ⟨b, o, rfl, fun j v hj => hk.cellSome (h j v hj) (hn ⟨b, o, none⟩ rfl)⟩
end

/-! ### append of one element -/
/-- t is the slice type whose element type e takes one cell. -/
structure ET (P : Program) (t e : TypeId) (bytes : Nat) : Prop where
  und : P.underlying t = some (.slice e)
  inf : ∃ i z, P.info? e = some i ∧ i.zero = some z ∧ i.size = 1 ∧ i.bytes = bytes ∧ z.cells.size = 1
  small : bytes ≤ 64
theorem ET.mk' {P : Program} {t e : TypeId} {bytes : Nat} {z : Value} (h1 : P.underlying t = some (.slice e)) (h2 : (P.info? e).map (fun i => (i.zero, i.size, i.bytes)) = some (some z, 1, bytes))
    (h3 : z.cells.size = 1) (h4 : bytes ≤ 64) : ET P t e bytes := by
  obtain ⟨i, hi, hz0, hz1, hz2⟩ := info_parts h2
  exact ⟨h1, ⟨i, z, hi, hz0, hz1, hz2, h3⟩, h4⟩

section
variable {P : Program} {w : World} {ops : Array Oper} {rest : List Oper} {o : Oper} {a : Act} {Q : Exit → Act → World → Prop}
theorem wpList_app1 (s x : Operand) (t : TypeId) (e : TypeId) (bytes : Nat) (E : ET P t e bytes) (hgd : o.guard = none)
    (ho : o.op = .call { callee := .builtin .append, args := #[s, x], argTypes := #[t, t] })
    (base : Nat) (v : Value) (n : Nat) (xs : List Value) (hs : a.eval s = v) (hown : w.ownsRow base e 1 v n xs)
    (nb : Nat) (u : Value) (hx : a.eval x = .slice (some ⟨nb, 0, none⟩) 1 1) (hnew : w.cell? ⟨nb, 0, none⟩ = some u) (h1 : u.oneCell' = true)
    (hn : n < 1099511627776) (hbase : base ≤ w.heap.size)
    (h : ∀ g cap w', w'.ownsRow base e 1 (.slice (some ⟨g, 0, none⟩) (n + 1) cap) (n + 1) (xs ++ [u]) → w.grownBy w' v.ownBlock → (v.ownBlock = some g ∨ g = w.heap.size) → g < w'.heap.size → wpList P ops Q rest (a.put o.dst (.slice (some ⟨g, 0, none⟩) (n + 1) cap)) w') :
    wpList P ops Q (o :: rest) a w := by
  obtain ⟨i, z, hi, hz0, hz1, hz2, hz3⟩ := E.inf
  have hsm := E.small
  refine wpList_append_lies w hgd s x t ho base e i z 1 bytes E.und hi hz0 hz1 hz2 hz3 (by omega) v n xs hs hown ⟨nb, 0, none⟩ 1 1 [u] hx (by simp) ?_ (by simpa using h1) (by omega) (by unfold maxLen; omega) ?_ hbase _ rfl h
  · intro j u' hj
    have : j = 0 := by
      have := (List.getElem?_eq_some_iff.1 hj).1
      simpa using this
    subst this
    rw [Addr.add_lit]
    simp at hj
    subst hj
    exact hnew
  · exact Nat.le_trans (Nat.mul_le_mul (show n + 1 ≤ 1099511627776 by omega) hsm) (by decide)

theorem step_app1 {K : Act → World → Prop} {E' : Prop} (s x : Operand) (t : TypeId) (e : TypeId) (bytes : Nat) (E : ET P t e bytes) (hgd : o.guard = none)
    (ho : o.op = .call { callee := .builtin .append, args := #[s, x], argTypes := #[t, t] })
    (base : Nat) (v : Value) (n : Nat) (xs : List Value) (hs : a.eval s = v) (hown : w.ownsRow base e 1 v n xs)
    (nb : Nat) (u : Value) (hx : a.eval x = .slice (some ⟨nb, 0, none⟩) 1 1) (hnew : w.cell? ⟨nb, 0, none⟩ = some u) (h1 : u.oneCell' = true)
    (hn : n < 1099511627776) (hbase : base ≤ w.heap.size)
    (h : ∀ g cap w', w'.ownsRow base e 1 (.slice (some ⟨g, 0, none⟩) (n + 1) cap) (n + 1) (xs ++ [u]) → w.grownBy w' v.ownBlock → (v.ownBlock = some g ∨ g = w.heap.size) → g < w'.heap.size → K (a.put o.dst (.slice (some ⟨g, 0, none⟩) (n + 1) cap)) w') :
    if Region.wanted o (yielded ops a.tmps) = true then Oper.wp P o a w K Q else E' := by
  obtain ⟨i, z, hi, hz0, hz1, hz2, hz3⟩ := E.inf
  have hsm := E.small
  refine step_append_lies w hgd s x t ho base e i z 1 bytes E.und hi hz0 hz1 hz2 hz3 (by omega) v n xs hs hown ⟨nb, 0, none⟩ 1 1 [u] hx (by simp) ?_ (by simpa using h1) (by omega) (by unfold maxLen; omega) ?_ hbase _ rfl h
  · intro j u' hj
    have : j = 0 := by
      have := (List.getElem?_eq_some_iff.1 hj).1
      simpa using this
    subst this
    rw [Addr.add_lit]
    simp at hj
    subst hj
    exact hnew
  · exact Nat.le_trans (Nat.mul_le_mul (show n + 1 ≤ 1099511627776 by omega) hsm) (by decide)
end

theorem new_cell (w : World) (u : Value) (t : TypeId) : (w.alloc (.cells #[u] t)).cell? ⟨w.heap.size, 0, none⟩ = some u := by
  rw [World.cell?_alloc_at _ _ _ _ rfl]; rfl
theorem new_cell2 (w : World) (u : Value) (t : TypeId) (o : Obj) : ((w.alloc (.cells #[u] t)).alloc o).cell? ⟨w.heap.size, 0, none⟩ = some u := by
  rw [World.cell?_alloc_past _ _ _ (by simp)]; exact new_cell w u t
theorem new_cell1 (w : World) (u : Value) (t : TypeId) (o : Obj) : ((w.alloc o).alloc (.cells #[u] t)).cell? ⟨w.heap.size + 1, 0, none⟩ = some u := by
  have := new_cell (w.alloc o) u t
  simp
theorem grown_cell_new {w w' : World} {row : Option Nat} (hg : w.grownBy w' row) {a : Addr} {v : Value} (h : w.cell? a = some v) {H : Nat} (hrow : ∀ k, row = some k → k < H) (ha : H ≤ a.block) : w'.cell? a = some v :=
  hg.cell h (fun e => by have := hrow _ e.symm; omega)

theorem blk_alloc {w : World} {g : Nat} {x : Obj} (h : w.heap[g]? = some x) (o : Obj) : (w.alloc o).heap[g]? = some x :=
  (Below.heap_alloc w o g (Array.getElem?_eq_some_iff.1 h).1).trans h
theorem blk_grown {w w' : World} {g : Nat} {x : Obj} {row : Option Nat} (h : w.heap[g]? = some x) (hg : w.grownBy w' row) (hr : row ≠ some g) : w'.heap[g]? = some x :=
  (hg.block g (Array.getElem?_eq_some_iff.1 h).1 (Ne.symm hr)).trans h
theorem drew_cell {w : World} {a : Addr} {v : Value} (h : w.cell? a = some v) : w.drew.cell? a = some v := h

/-! ### quiet calls inside a region that draws -/
theorem quiet_add_left {P : Program} {f : FuncId} {args : Array Value} {w : World} {a n : Nat} {v : Value}
    (h : Calls P f args (w.drewN (a + n)) fun e w' => e = .returned v ∧ w.drewN (a + n) = w') :
    Calls P f args (w.drewN (a + n)) fun e w'' => e = .returned v ∧ ∃ m, w'' = w.drewN (a + m) :=
  h.mono fun _ _ ⟨he, hm⟩ => ⟨he, n, hm.symm⟩
theorem quiet_left {P : Program} {f : FuncId} {args : Array Value} {w : World} {n : Nat} {v : Value}
    (h : Calls P f args (w.drewN n) fun e w' => e = .returned v ∧ w.drewN n = w') : Calls P f args (w.drewN n) fun e w'' => e = .returned v ∧ ∃ m, w'' = w.drewN m :=
  h.mono fun _ _ ⟨he, hm⟩ => ⟨he, n, hm.symm⟩

theorem box2 (w : World) (u v : Value) (t : TypeId) : (w.alloc (.cells #[u, v] t)).cell? ⟨w.heap.size, 0, none⟩ = some u ∧ (w.alloc (.cells #[u, v] t)).cell? ⟨w.heap.size, 1, none⟩ = some v := by
  constructor <;> (rw [World.cell?_alloc_at _ _ _ _ rfl]; rfl)
theorem Rd.below {B : Nat} {w w' : World} {A : Option Addr} {vs : List Value} (h : Rd w A vs) (hb : Below B w w') (hB : w.heap.size ≤ B := by exact Nat.le_refl _) : Rd w' A vs := by
  rcases h with h | ⟨b, o', rfl, h⟩
  · exact .inl h
  · exact .inr ⟨b, o', rfl, fun j v hj => (hb.cell (Nat.lt_of_lt_of_le (World.block_lt_of_cell? w _ (h j v hj)) hB)).trans (h j v hj)⟩
theorem Rd.alloc {w : World} {A : Option Addr} {vs : List Value} (h : Rd w A vs) (o : Obj) : Rd (w.alloc o) A vs := h.below ((Below.refl _ _).alloc (Nat.le_refl _) o)
theorem below_drewN {B : Nat} {a w : World} (h : Below B a w) (n : Nat) : Below B a (w.drewN n) := ⟨h.os, h.tape, h.output, h.size, h.block⟩


/-- a block of two cells that is known whole -/
theorem blk2cells {w : World} {g : Nat} {u v : Value} {t : TypeId} (h : w.heap[g]? = some (.cells #[u, v] t (0, 0))) :
    w.cell? ⟨g, 0, none⟩ = some u ∧ w.cell? ⟨g, 1, none⟩ = some v ∧ w.frozen? ⟨g, 0, none⟩ = false ∧ w.frozen? ⟨g, 1, none⟩ = false ∧ g < w.heap.size :=
  ⟨cell_of_row w g 0 #[u, v] _ (0, 0) h, cell_of_row w g 1 #[u, v] _ (0, 0) h, by simp [World.frozen?, h], by simp [World.frozen?, h], (Array.getElem?_eq_some_iff.1 h).1⟩
theorem blk_new (w : World) (x : Obj) : (w.alloc x).heap[w.heap.size]? = some x := heap_alloc_new w x
theorem blk_new1 (w : World) (o x : Obj) : ((w.alloc o).alloc x).heap[w.heap.size + 1]? = some x := by
  have e : (w.alloc o).heap.size = w.heap.size + 1 := by simp
  rw [← e]; exact heap_alloc_new (w.alloc o) x
theorem blk_new2 (w : World) (o o' x : Obj) : (((w.alloc o).alloc o').alloc x).heap[w.heap.size + 1 + 1]? = some x := by
  have e : ((w.alloc o).alloc o').heap.size = w.heap.size + 1 + 1 := by simp
  rw [← e]; exact heap_alloc_new ((w.alloc o).alloc o') x
theorem blk_below {B : Nat} {w w' : World} {g : Nat} {x : Obj} (h : w.heap[g]? = some x) (hb : Below B w w') (hg : g < B) : w'.heap[g]? = some x := (hb.block g hg).trans h
end Go.Proofs.YtjhlmalpcelbaaaDoor

namespace Go.Proofs.YtjhlmalpcelbaaaDoor
open Go.RowKit
theorem infoI : (Tryd.prog.info? 2).map (fun i => (i.zero, i.size, i.bytes)) = some (some (.int .i64 0), 1, 8) := by kernel_rfl
theorem etI : ET Tryd.prog 24 2 8 := ET.mk' (z := .int .i64 0) Tryd.underlying24 (by kernel_rfl) (by decide) (by decide)
end Go.Proofs.YtjhlmalpcelbaaaDoor

namespace Go.Proofs.YtjhlmalpcelbaaaDoor
open Go.RowKit

def inB (n lo hi : Int) : Bool := decide (lo ≤ n) && decide (n ≤ hi)
theorem in_any (n lo hi : Int) (w : World) : Calls Tryd.prog 68 #[.int .i64 n, .int .i64 lo, .int .i64 hi] w fun e w' => e = .returned (.bool (inB n lo hi)) ∧ w = w' := by
  by_cases h1 : lo ≤ n
  · by_cases h2 : n ≤ hi
    · go_enter Tryd.func68, Tryd.ntmps68
      go_wp2
      go_ret
      exact ⟨by simp [inB, h1, h2], rfl⟩
    · go_enter Tryd.func68, Tryd.ntmps68
      go_wp2
      go_ret
      exact ⟨by simp [inB, h1, h2], rfl⟩
  · go_enter Tryd.func68, Tryd.ntmps68
    go_wp2
    go_ret
    exact ⟨by rw [show inB n lo hi = false by simp [inB]; omega]; rfl, rfl⟩
theorem l01In_any (n lo hi : Int) (w : World) : Calls Tryd.prog 75 #[.int .i64 n, .int .i64 lo, .int .i64 hi] w fun e w' => e = .returned (.bool (inB n lo hi)) ∧ w = w' := by
  by_cases h1 : lo ≤ n
  · by_cases h2 : n ≤ hi
    · go_enter Tryd.func75, Tryd.ntmps75
      go_wp2
      go_ret
      exact ⟨by simp [inB, h1, h2], rfl⟩
    · go_enter Tryd.func75, Tryd.ntmps75
      go_wp2
      go_ret
      exact ⟨by simp [inB, h1, h2], rfl⟩
  · go_enter Tryd.func75, Tryd.ntmps75
    go_wp2
    go_ret
    exact ⟨by rw [show inB n lo hi = false by simp [inB]; omega]; rfl, rfl⟩

/-- is v a mask of d digits? -/
def maskB (v : Int) (d : Nat) : Bool := inB v 0 (2 ^ d - 1)
theorem maskB_iff (v : Int) (d : Nat) : (decide (0 ≤ v) && (v / 2 ^ d == 0)) = maskB v d := by
  have hp : (0 : Int) < 2 ^ d := Int.pow_pos (by decide)
  unfold maskB inB
  by_cases h : 0 ≤ v
  · have : (v / 2 ^ d == 0) = decide (v ≤ 2 ^ d - 1) := by
      rw [Bool.eq_iff_iff]
      simp only [beq_iff_eq, decide_eq_true_eq]
      constructor
      · intro e
        have := fun h' => Int.le_ediv_of_mul_le (a := 1) (b := v) hp h'
        omega
      · intro e; exact Int.ediv_eq_zero_of_lt h (by omega)
    rw [this]
  · simp [h]
theorem isMask_any (v : Int) (d : Nat) (hd : d ≤ 64) (w : World) : Calls Tryd.prog 62 #[.int .i64 v, .int .i64 d] w fun e w' => e = .returned (.bool (maskB v d)) ∧ w = w' := by
  have hm := Lib.hid (maskB_iff v d)
  by_cases h1 : 0 ≤ v
  · go_enter Tryd.func62, Tryd.ntmps62
    go_wp2
    go_ret
    exact ⟨by rw [← hm.out]; simp [h1], rfl⟩
  · go_enter Tryd.func62, Tryd.ntmps62
    go_wp2
    go_ret
    exact ⟨by rw [← hm.out, show decide (0 ≤ v) = false by simp; omega]; rfl, rfl⟩

theorem all_getD {xs : List Int} {p : Int → Bool} : xs.all p = true ↔ ∀ t, t < xs.length → p (xs.getD t 0) = true := by
  rw [List.all_eq_true]
  constructor
  · intro h t ht
    exact h _ (by simp [List.getD, ht])
  · intro h x hx
    obtain ⟨t, ht, rfl⟩ := List.getElem_of_mem hx
    have := h t ht
    simpa [List.getD, ht] using this
theorem inB_true2 {n lo hi : Int} (h : inB n lo hi = true) : lo ≤ n ∧ n ≤ hi := by simpa [inB] using h
/-- Calling function fn by its value enters it. -/
def Ent (fn : FuncId) : Prop := ∀ args w, (callFunc fn args).run Tryd.prog w = .ok (.enter fn args) w
/-- a found place as Go returns it -/
def placeOf (o : Option Nat) : Int := match o with | some k => (k : Int) | none => -1
/-- What a predicate's closure answers, the world being as it was but for draws. -/
def Asks (P : Program) (fn : FuncId) (cv : Value) (w : World) (x : Value) (b : Bool) : Prop :=
  ∀ m, Calls P fn #[x, cv] (w.drewN m) fun e w' => e = .returned (.bool b) ∧ ∃ m', w.drewN m' = w'

set_option maxHeartbeats 400000 in
theorem indexFunc_any (A : Option Addr) (n c : Nat) (xs : List Int) (fn : FuncId) (cv : Value) (p : Int → Bool) (w : World) (hcf : Ent fn) (hn : n = xs.length) (hsm : n ≤ 1099511627776) (hR : Rd w A (iv xs))
    (hf : ∀ x ∈ xs, Asks Tryd.prog fn cv w (.int .i64 x) (p x)) :
    Calls Tryd.prog 99 #[.slice A n c, .func (.func fn) #[] #[cv]] w fun e w' =>
      e = .returned (.int .i64 (placeOf (xs.findIdx? p))) ∧ ∃ m, w.drewN m = w' := by
  have Hn := Lib.hid hn; clear hn
  have HF := Lib.hid hf; clear hf
  unfold Ent at hcf
  go_enter Tryd.func99, Tryd.ntmps99
  go_wp2_with fail
  go_loopw [8] (fun i wr => ∃ k : Nat, k ≤ n ∧ i = .int .i64 k ∧ (∃ m, wr = w.drewN m) ∧ (xs.take k).findIdx? p = none) (fun i _ => n - (intOf i).toNat)
  case atStart => exact ⟨0, by omega, rfl, ⟨0, rfl⟩, by simp⟩
  case round =>
    obtain ⟨k, hk, rfl, ⟨m, rfl⟩, hp⟩ := hrel
    have HP := Lib.hid hp; clear hp
    by_cases hlt : k < n
    · have hkL : k < xs.length := by rw [← Hn.out]; exact hlt
      obtain ⟨b, o, rfl, hc⟩ := hR.atI hkL
      have hm : xs.getD k 0 ∈ xs := by simp [List.getD, hkL]
      have ha := HF.out _ hm m
      have hx : xs[k] = xs.getD k 0 := by simp [List.getD, hkL]
      have HX := Lib.hid hx; clear hx hm hR
      generalize xs.getD k 0 = x at *
      have HA := Lib.hid ha; clear ha
      cases hb : p x
      · rw [hb] at HA
        go_wp2_with fail
        refine HA.out.mono ?_
        rintro e w' ⟨rfl, m', rfl⟩
        go_wp2_with fail
        go_roundw
        case rel => exact ⟨k + 1, by omega, by go_num, ⟨m', rfl⟩, by rw [List.take_succ_eq_append_getElem hkL, List.findIdx?_append, HP.out, HX.out]; simp [hb]⟩
        case measure => simp [intOf]; omega
      · rw [hb] at HA
        go_wp2_with fail
        refine HA.out.mono ?_
        rintro e w' ⟨rfl, m', rfl⟩
        go_wp2_with fail
        go_ret
        refine ⟨?_, m', rfl⟩
        have e : xs.findIdx? p = some k := by
          rw [← List.take_append_drop k xs, List.findIdx?_append, HP.out, List.drop_eq_getElem_cons hkL, HX.out]
          simp [hb, Nat.min_eq_left (Nat.le_of_lt hkL), List.findIdx?_cons]
        rw [e]
        rfl
    · have ek : xs.take k = xs := List.take_of_length_le (by rw [← Hn.out]; omega)
      go_wp2_with fail
      go_ret
      refine ⟨?_, m, rfl⟩
      have e : xs.findIdx? p = none := by rw [← ek, HP.out]
      rw [e]
      rfl

theorem findIdx_none {α : Type} (p : α → Bool) (xs : List α) : (xs.findIdx? p = none) = (∀ x ∈ xs, p x = false) := by
  simp

set_option maxHeartbeats 400000 in
theorem containsFunc_any (A : Option Addr) (n c : Nat) (xs : List Int) (fn : FuncId) (cv : Value) (p : Int → Bool) (w : World) (hcf : Ent fn) (hn : n = xs.length) (hsm : n ≤ 1099511627776) (hR : Rd w A (iv xs))
    (hf : ∀ x ∈ xs, Asks Tryd.prog fn cv w (.int .i64 x) (p x)) :
    Calls Tryd.prog 97 #[.slice A n c, .func (.func fn) #[] #[cv]] w fun e w' =>
      e = .returned (.bool (xs.any p)) ∧ ∃ m, w.drewN m = w' := by
  have HC := Lib.hid (indexFunc_any A n c xs fn cv p w hcf hn hsm hR hf)
  clear hn hR hf hsm
  cases h : xs.findIdx? p with
  | none =>
    rw [h] at HC
    have e : xs.any p = false := by rw [List.any_eq_false]; rw [findIdx_none] at h; simpa using h
    have HE := Lib.hid e; clear e h
    go_enter Tryd.func97, Tryd.ntmps97
    go_wp2_with (go_at_call 99; refine HC.out.mono ?_; rintro e w' ⟨rfl, m', rfl⟩)
    go_ret
    exact ⟨by rw [HE.out]; rfl, m', rfl⟩
  | some k =>
    rw [h] at HC
    have e : xs.any p = true := by
      cases ha : xs.any p with
      | true => rfl
      | false =>
        rw [List.any_eq_false] at ha
        have : xs.findIdx? p = none := by rw [findIdx_none]; simpa using ha
        rw [this] at h; cases h
    have HE := Lib.hid e; clear e h
    have hk : ¬ (k : Int) < 0 := by omega
    go_enter Tryd.func97, Tryd.ntmps97
    go_wp2_with (go_at_call 99; refine HC.out.mono ?_; rintro e w' ⟨rfl, m', rfl⟩)
    go_ret
    exact ⟨by rw [HE.out]; simp [placeOf], m', rfl⟩

set_option maxHeartbeats 400000 in
/-- all(list, holds), 'holds' a closure that only looks. -/
theorem all_any (A : Option Addr) (n c : Nat) (xs : List Int) (fn : FuncId) (cv : Value) (p : Int → Bool) (w : World) (hcf : Ent fn) (hn : n = xs.length) (hsm : n ≤ 1099511627776) (hR : Rd w A (iv xs))
    (hf : ∀ x ∈ xs, ∀ o, Asks Tryd.prog fn cv (w.alloc o) (.int .i64 x) (p x)) :
    Calls Tryd.prog 69 #[.slice A n c, .func (.func fn) #[] #[cv]] w fun e w' =>
      e = .returned (.bool (xs.all p)) ∧ Below w.heap.size w w' := by
  have key : ∀ x ∈ xs, Asks Tryd.prog 98 (.pointer (some ⟨w.heap.size, 0, none⟩)) (w.alloc (.cells #[.func (.func fn) #[] #[cv]] 70)) (.int .i64 x) (!(p x)) := by
    intro x hx m
    have HF := Lib.hid (hf x hx (.cells #[.func (.func fn) #[] #[cv]] 70) m)
    clear hf hR
    unfold Ent at hcf
    have hc : (w.alloc (.cells #[.func (.func fn) #[] #[cv]] 70)).cell? ⟨w.heap.size, 0, none⟩ = some (.func (.func fn) #[] #[cv]) := new_cell _ _ _
    go_enter Tryd.func98, Tryd.ntmps98
    go_wp2_with fail
    refine HF.out.mono ?_
    rintro e w' ⟨rfl, m', rfl⟩
    go_wp2_with fail
    go_ret
    exact ⟨rfl, m', rfl⟩
  have hR' : Rd (w.alloc (.cells #[.func (.func fn) #[] #[cv]] 70)) A (iv xs) := hR.alloc _
  have HC := Lib.hid (containsFunc_any A n c xs _ _ _ _ (fun args w => Tryd.call98 args w) hn hsm hR' key)
  have e : (!(xs.any fun x => !(p x))) = xs.all p := by simp [List.all_eq_not_any_not]
  have HE := Lib.hid e; clear e key hR' hR hf hn hsm
  go_enter Tryd.func69, Tryd.ntmps69
  go_wp2_with (go_at_call 97; refine HC.out.mono ?_; rintro e w' ⟨rfl, m', rfl⟩)
  go_ret
  exact ⟨by rw [← HE.out]; rfl, below_drewN ((Below.refl _ _).alloc (Nat.le_refl _) _) m'⟩
/-- .. of a function that holds nothing -/
def Asks0 (P : Program) (fn : FuncId) (w : World) (x : Value) (b : Bool) : Prop :=
  ∀ m, Calls P fn #[x] (w.drewN m) fun e w' => e = .returned (.bool b) ∧ ∃ m', w.drewN m' = w'
set_option maxHeartbeats 400000 in
/-- all(list, holds), 'holds' a function that only looks. -/
theorem all0_any (A : Option Addr) (n c : Nat) (xs : List Int) (fn : FuncId) (p : Int → Bool) (w : World) (hcf : Ent fn) (hn : n = xs.length) (hsm : n ≤ 1099511627776) (hR : Rd w A (iv xs))
    (hf : ∀ x ∈ xs, ∀ o, Asks0 Tryd.prog fn (w.alloc o) (.int .i64 x) (p x)) :
    Calls Tryd.prog 69 #[.slice A n c, .func (.func fn) #[] #[]] w fun e w' =>
      e = .returned (.bool (xs.all p)) ∧ Below w.heap.size w w' := by
  have key : ∀ x ∈ xs, Asks Tryd.prog 98 (.pointer (some ⟨w.heap.size, 0, none⟩)) (w.alloc (.cells #[.func (.func fn) #[] #[]] 70)) (.int .i64 x) (!(p x)) := by
    intro x hx m
    have HF := Lib.hid (hf x hx (.cells #[.func (.func fn) #[] #[]] 70) m)
    clear hf hR
    unfold Ent at hcf
    have hc : (w.alloc (.cells #[.func (.func fn) #[] #[]] 70)).cell? ⟨w.heap.size, 0, none⟩ = some (.func (.func fn) #[] #[]) := new_cell _ _ _
    go_enter Tryd.func98, Tryd.ntmps98
    go_wp2_with fail
    refine HF.out.mono ?_
    rintro e w' ⟨rfl, m', rfl⟩
    go_wp2_with fail
    go_ret
    exact ⟨rfl, m', rfl⟩
  have hR' : Rd (w.alloc (.cells #[.func (.func fn) #[] #[]] 70)) A (iv xs) := hR.alloc _
  have HC := Lib.hid (containsFunc_any A n c xs _ _ _ _ (fun args w => Tryd.call98 args w) hn hsm hR' key)
  have e : (!(xs.any fun x => !(p x))) = xs.all p := by simp [List.all_eq_not_any_not]
  have HE := Lib.hid e; clear e key hR' hR hf hn hsm
  go_enter Tryd.func69, Tryd.ntmps69
  go_wp2_with (go_at_call 97; refine HC.out.mono ?_; rintro e w' ⟨rfl, m', rfl⟩)
  go_ret
  exact ⟨by rw [← HE.out]; rfl, below_drewN ((Below.refl _ _).alloc (Nat.le_refl _) _) m'⟩
end Go.Proofs.YtjhlmalpcelbaaaDoor

namespace Go.Proofs.YtjhlmalpcelbaaaDoor
open Go.RowKit

def szV (n : Nat) (left : Int) : Int := if left - n < 0 then -1 else left - n
theorem iv_set (xs : List Int) (k : Nat) (x : Int) : iv (xs.set k x) = (iv xs).set k (.int .i64 x) := by simp [iv, List.map_set]
theorem take_set_succ {ys xs : List Int} {k : Nat} (hk : k < ys.length) (hk' : k < xs.length) (h : ys.take k = xs.take k) : (ys.set k (xs.getD k 0)).take (k + 1) = xs.take (k + 1) := by
  rw [List.take_succ_eq_append_getElem (by simpa using hk), List.take_succ_eq_append_getElem hk', List.take_set, List.set_eq_of_length_le (by simp; omega), h]
  simp [List.getD, hk']

theorem iv_replicate (n : Nat) : (madeCells #[Value.int .i64 0] n).toList = iv (List.replicate n 0) := by
  simp [iv, madeCells]
  apply List.ext_getElem?
  intro i
  by_cases h : i < n
  · simp [h, Nat.mod_one]
  · simp [h]

end Go.Proofs.YtjhlmalpcelbaaaDoor

namespace Go.Proofs.YtjhlmalpcelbaaaDoor
open Go.RowKit

/-- two lists of ints are equal -/
def eqI (xs ys : List Int) : Bool := xs == ys
end Go.Proofs.YtjhlmalpcelbaaaDoor

namespace Go.Proofs.YtjhlmalpcelbaaaDoor
open Go.RowKit

/-- what a mark leaves in a slice of n elements -/
def marks (k : Int) (n : Nat) : List Int := (List.range n).map fun (i : Nat) => k + (i : Int)
theorem marks_length (k : Int) (n : Nat) : (marks k n).length = n := by simp [marks]
theorem marks_getD (k : Int) (n j : Nat) (h : j < n) : (marks k n).getD j 0 = k + j := by simp [marks, List.getD, h]

end Go.Proofs.YtjhlmalpcelbaaaDoor

namespace Go.Proofs.YtjhlmalpcelbaaaDoor
open Go.RowKit

/-- the table of trailing zeros lies where the program's start lays it -/
def Tab (w : World) : Prop := ∀ j, j < 64 → w.cell? ⟨0, j, none⟩ = some (.int .u8 ((Lib.deBruijn64tab.getD j 0 : Nat) : Int))

set_option maxHeartbeats 1000000 in
theorem tz64_core (x k idx : Nat) (w : World) (hx0 : ((x : Int) == 0) = false)
    (key : IntKind.u64.wrap (bits BinOp.and IntKind.u64 (x : Int) (IntKind.u64.wrap (-(x : Int))) * 285870213051353865) / 288230376151711744 = (idx : Int))
    (hi : idx < 64) (hk : k < 64) (hcell : w.cell? ⟨0, idx, none⟩ = some (.int .u8 k)) :
    Calls Tryd.prog 101 #[.int .u64 x] w fun e w' => e = .returned (.int .i64 k) ∧ w = w' := by
  go_enter Tryd.func101, Tryd.ntmps101
  go_wp2_with (simp only [key])
  go_ret
  exact ⟨rfl, rfl⟩

theorem tz64_key (x a : Nat) (hx : x < 18446744073709551616) (hx0 : x ≠ 0) (hlow : x &&& (18446744073709551616 - x) = a) :
    IntKind.u64.wrap (bits BinOp.and IntKind.u64 (x : Int) (IntKind.u64.wrap (-(x : Int))) * 285870213051353865) / 288230376151711744 = ((a * 285870213051353865 % 18446744073709551616 / 288230376151711744 : Nat) : Int) := by
  have e1 : IntKind.u64.wrap (-(x : Int)) = ((18446744073709551616 - x : Nat) : Int) := by rw [IntKind.wrap_u64]; omega
  rw [e1, bits_and_u64_nat x _ hx (by omega), hlow, IntKind.wrap_u64]
  omega

theorem tz64 (x : Nat) (hx0 : x ≠ 0) (hx : Sm x) (w : World) (hT : Tab w) :
    Calls Tryd.prog 101 #[.int .u64 x] w fun e w' => e = .returned (.int .i64 (pv x)) ∧ w = w' := by
  unfold Sm at hx
  obtain ⟨hlow, hk⟩ := Lib.lowest_bit 64 x hx0 (by omega)
  obtain ⟨hi, htab⟩ := Lib.deBruijn64_at _ hk
  have hcell := hT _ hi
  rw [htab] at hcell
  exact tz64_core x _ _ w (by simp; omega) (tz64_key x _ (by omega) hx0 hlow) hi hk hcell

theorem u64_of_sm {x : Nat} (h : Sm x) : IntKind.u64.wrap (x : Int) = x := by unfold Sm at h; rw [IntKind.wrap_u64]; omega

set_option maxHeartbeats 400000 in
theorem pivot_any (x : Nat) (hx0 : x ≠ 0) (hx : Sm x) (w : World) (hT : Tab w) :
    Calls Tryd.prog 91 #[.int .i64 x] w fun e w' => e = .returned (.int .i64 (pv x)) ∧ w = w' := by
  have hc := u64_of_sm hx
  go_enter Tryd.func91, Tryd.ntmps91
  go_wp2_with (go_at_call 101; refine (tz64 x hx0 hx _ hT).mono ?_; rintro e w' ⟨rfl, rfl⟩)
  go_ret
  exact ⟨rfl, rfl⟩
end Go.Proofs.YtjhlmalpcelbaaaDoor

namespace Go.Proofs.YtjhlmalpcelbaaaDoor

theorem tb_xr (a b n : Nat) : tb (xr a b) n = (tb a n ^^ tb b n) := by simp [tb, xr, Nat.testBit_xor]
theorem xr_comm (a b : Nat) : xr a b = xr b a := Nat.xor_comm a b
theorem xr_assoc (a b c : Nat) : xr (xr a b) c = xr a (xr b c) := Nat.xor_assoc a b c
theorem xr_zero (a : Nat) : xr a 0 = a := Nat.xor_zero a
theorem zero_xr (a : Nat) : xr 0 a = a := Nat.zero_xor a
theorem xr_self (a : Nat) : xr a a = 0 := Nat.xor_self a
theorem eq_of_tb {a b : Nat} (h : ∀ n, tb a n = tb b n) : a = b := Nat.eq_of_testBit_eq h
theorem tb_zero (n : Nat) : tb 0 n = false := Nat.zero_testBit n

/-- the pivot of a number that is no 0 is its least digit that is 1 -/
theorem tb_pv {a : Nat} (h0 : a ≠ 0) (h : Sm a) : tb a (pv a) = true := by
  unfold Sm at h
  obtain ⟨m, hm, _⟩ := Lib.ctzFrom_spec 64 a (by omega) (by omega)
  have e : pv a = Lib.ctzFrom 64 a := by unfold pv Lib.ctz; rw [if_neg h0]
  rw [e]
  unfold tb
  conv => lhs; arg 1; rw [hm]
  rw [Nat.testBit_eq_decide_div_mod_eq, Nat.mul_div_cancel_left _ (Nat.two_pow_pos _)]
  simp only [decide_eq_true_eq]; omega
theorem tb_lt_pv {a n : Nat} (h0 : a ≠ 0) (h : Sm a) (hn : n < pv a) : tb a n = false := by
  unfold Sm at h
  obtain ⟨m, hm, _⟩ := Lib.ctzFrom_spec 64 a (by omega) (by omega)
  have e : pv a = Lib.ctzFrom 64 a := by unfold pv Lib.ctz; rw [if_neg h0]
  rw [e] at hn
  obtain ⟨d, hd⟩ : ∃ d, Lib.ctzFrom 64 a = n + 1 + d := ⟨Lib.ctzFrom 64 a - n - 1, by omega⟩
  unfold tb
  rw [hm, Nat.testBit_eq_decide_div_mod_eq, hd, Nat.pow_add, Nat.pow_add, Nat.mul_assoc, Nat.mul_assoc, Nat.mul_div_cancel_left _ (Nat.two_pow_pos _)]
  simp [Nat.mul_assoc]
theorem pv_eq {a n : Nat} (h0 : a ≠ 0) (h : Sm a) (h1 : tb a n = true) (h2 : ∀ m, m < n → tb a m = false) : pv a = n := by
  rcases Nat.lt_trichotomy (pv a) n with hlt | heq | hgt
  · have := h2 _ hlt; rw [tb_pv h0 h] at this; cases this
  · exact heq
  · have := tb_lt_pv h0 h hgt; rw [h1] at this; cases this

/-- what is left of a mask by rows -/
def leftS (S : List Nat) (x : Nat) : Nat := S.foldl (fun x r => if tb x (pv r) then xr x r else x) x
/-- Reduced: no row is 0, all are small, and no row has another one's pivot. -/
structure Red (S : List Nat) : Prop where
  ne : ∀ r ∈ S, r ≠ 0 ∧ Sm r
  off : S.Pairwise fun r s => tb r (pv s) = false ∧ tb s (pv r) = false

theorem Red.nil : Red [] := ⟨by simp, .nil⟩
theorem Red.tail {r : Nat} {S : List Nat} (h : Red (r :: S)) : Red S := ⟨fun s hs => h.ne s (List.mem_cons_of_mem _ hs), (List.pairwise_cons.1 h.off).2⟩
theorem Red.perm {S T : List Nat} (h : Red S) (hp : S.Perm T) : Red T :=
  ⟨fun r hr => h.ne r (hp.mem_iff.2 hr), (hp.pairwise_iff (fun h => ⟨h.2, h.1⟩)).1 h.off⟩

theorem leftS_cons (r : Nat) (S : List Nat) (x : Nat) : leftS (r :: S) x = leftS S (if tb x (pv r) then xr x r else x) := rfl
/-- rows that lack a digit do not turn it -/
theorem tb_leftS {S : List Nat} {n : Nat} (h : ∀ r ∈ S, tb r n = false) : ∀ x, tb (leftS S x) n = tb x n := by
  induction S with
  | nil => intro x; rfl
  | cons r S ih =>
    intro x
    rw [leftS_cons, ih (fun s hs => h s (List.mem_cons_of_mem _ hs))]
    split
    · rw [tb_xr, h r (List.mem_cons_self ..)]; simp
    · rfl
theorem leftS_sm {S : List Nat} (h : ∀ r ∈ S, r ≠ 0 ∧ Sm r) : ∀ {x}, Sm x → Sm (leftS S x) := by
  induction S with
  | nil => intro x hx; exact hx
  | cons r S ih =>
    intro x hx
    rw [leftS_cons]
    refine ih (fun s hs => h s (List.mem_cons_of_mem _ hs)) ?_
    split
    · exact hx.xr (h r (List.mem_cons_self ..)).2
    · exact hx
/-- what is left has none of the pivots -/
theorem leftS_off {S : List Nat} (h : Red S) : ∀ x, ∀ r ∈ S, tb (leftS S x) (pv r) = false := by
  induction S with
  | nil => intro x r hr; cases hr
  | cons r S ih =>
    intro x s hs
    have hp := (List.pairwise_cons.1 h.off).1
    have hr := h.ne r (List.mem_cons_self ..)
    rw [leftS_cons]
    rcases List.mem_cons.1 hs with rfl | hs
    · rw [tb_leftS (fun t ht => (hp t ht).2)]
      split
      · rename_i h1; rw [tb_xr, h1, tb_pv hr.1 hr.2]; rfl
      · rename_i h1; simpa using h1
    · exact ih h.tail _ s hs

/-- the sum of rows -/
def xsum : List Nat → Nat
  | [] => 0
  | r :: S => xr r (xsum S)
theorem xsum_perm {S T : List Nat} (h : S.Perm T) : xsum S = xsum T := by
  induction h with
  | nil => rfl
  | cons r _ ih => simp only [xsum, ih]
  | swap r s S => simp only [xsum, ← xr_assoc, xr_comm s r]
  | trans _ _ h1 h2 => exact h1.trans h2
theorem leftS_eq {S : List Nat} (h : Red S) : ∀ x, leftS S x = xr x (xsum (S.filter fun r => tb x (pv r))) := by
  induction S with
  | nil => intro x; exact (xr_zero x).symm
  | cons r S ih =>
    intro x
    have hp := (List.pairwise_cons.1 h.off).1
    rw [leftS_cons, ih h.tail]
    by_cases hb : tb x (pv r) = true
    · rw [if_pos hb, List.filter_cons_of_pos (by simpa using hb)]
      have e : (S.filter fun s => tb (xr x r) (pv s)) = S.filter fun s => tb x (pv s) := by
        apply List.filter_congr
        intro s hs
        rw [tb_xr, (hp s hs).1]; simp
      rw [e]
      simp only [xsum, xr_assoc]
    · rw [if_neg hb, List.filter_cons_of_neg (by simpa using hb)]
theorem leftS_perm {S T : List Nat} (h : Red S) (hp : S.Perm T) (x : Nat) : leftS S x = leftS T x := by
  rw [leftS_eq h, leftS_eq (h.perm hp), xsum_perm (hp.filter _)]

/-- a row as it is when the new row x comes in -/
def stepS (x r : Nat) : Nat := if tb r (pv x) then xr r x else r
/-- what the reference's loop does -/
def putStep (x : Nat) (p : List Nat × Bool) (r : Nat) : List Nat × Bool :=
  if !p.2 && decide (pv x < pv r) then (p.1 ++ [x, stepS x r], true) else (p.1 ++ [stepS x r], p.2)
def putEnd (x : Nat) (p : List Nat × Bool) : List Nat := if p.2 then p.1 else p.1 ++ [x]
def putS (S : List Nat) (x : Nat) : List Nat :=
  if leftS S x = 0 then S else putEnd (leftS S x) (S.foldl (putStep (leftS S x)) ([], false))
def reduceS (rows : List Nat) : List Nat := rows.foldl putS []

theorem putStep_perm (x : Nat) : ∀ (S : List Nat) (p : List Nat × Bool), (putEnd x (S.foldl (putStep x) p)).Perm (putEnd x p ++ S.map (stepS x))
  | [], p => by simp
  | r :: S, p => by
    refine (putStep_perm x S (putStep x p r)).trans ?_
    rw [List.map_cons]
    have : (putEnd x (putStep x p r)).Perm (putEnd x p ++ [stepS x r]) := by
      obtain ⟨out, done⟩ := p
      cases done with
      | true => simp [putStep, putEnd]
      | false =>
        by_cases hc : pv x < pv r
        · simp [putStep, putEnd, hc]
        · simp only [putStep, putEnd, hc, decide_false, Bool.and_false, Bool.false_eq_true, if_false]
          simp only [List.append_assoc]
          exact List.Perm.append_left out (List.Perm.swap ..)
    have := List.Perm.append_right (S.map (stepS x)) this
    simpa using this
theorem putS_perm (S : List Nat) (x : Nat) (h : leftS S x ≠ 0) : (putS S x).Perm (S.map (stepS (leftS S x)) ++ [leftS S x]) := by
  unfold putS
  rw [if_neg h]
  refine (putStep_perm _ S ([], false)).trans ?_
  simp only [putEnd, Bool.false_eq_true, if_false, List.nil_append]
  exact List.perm_append_comm

theorem stepS_sm {x r : Nat} (hx : Sm x) (hr : Sm r) : Sm (stepS x r) := by
  unfold stepS; split
  · exact hr.xr hx
  · exact hr
/-- the pivots stay, and the new row's pivot goes -/
theorem stepS_pv {x r : Nat} (hx : Sm x) (hx0 : x ≠ 0) (hr : Sm r) (hr0 : r ≠ 0) (h : tb x (pv r) = false) : stepS x r ≠ 0 ∧ pv (stepS x r) = pv r ∧ tb (stepS x r) (pv x) = false := by
  have hrr := tb_pv hr0 hr
  have hxx := tb_pv hx0 hx
  have ht : tb (stepS x r) (pv r) = true := by
    unfold stepS; split
    · rw [tb_xr, hrr, h]; rfl
    · exact hrr
  have h0 : stepS x r ≠ 0 := by intro e; rw [e, tb_zero] at ht; cases ht
  refine ⟨h0, ?_, ?_⟩
  · refine pv_eq h0 (stepS_sm hx hr) ht ?_
    intro m hm
    unfold stepS; split
    · rename_i hb
      have hlt : pv r < pv x := by
        rcases Nat.lt_trichotomy (pv r) (pv x) with hlt | heq | hgt
        · exact hlt
        · rw [heq, hxx] at h; cases h
        · have := tb_lt_pv hr0 hr hgt; rw [hb] at this; cases this
      rw [tb_xr, tb_lt_pv hr0 hr hm, tb_lt_pv hx0 hx (by omega)]; rfl
    · exact tb_lt_pv hr0 hr hm
  · unfold stepS; split
    · rename_i hb; rw [tb_xr, hb, hxx]; rfl
    · rename_i hb; simpa using hb

theorem red_step {S : List Nat} {x : Nat} (h : Red S) (hx : Sm x) (hx0 : x ≠ 0) (hoff : ∀ r ∈ S, tb x (pv r) = false) : Red (S.map (stepS x) ++ [x]) := by
  have key := fun r hr => stepS_pv hx hx0 (h.ne r hr).2 (h.ne r hr).1 (hoff r hr)
  refine ⟨?_, ?_⟩
  · intro r hr
    rcases List.mem_append.1 hr with hr | hr
    · obtain ⟨s, hs, rfl⟩ := List.mem_map.1 hr
      exact ⟨(key s hs).1, stepS_sm hx (h.ne s hs).2⟩
    · rw [List.mem_singleton.1 hr]; exact ⟨hx0, hx⟩
  · rw [List.pairwise_append]
    refine ⟨?_, by simp, ?_⟩
    · rw [List.pairwise_map]
      refine (List.Pairwise.and_mem.1 h.off).imp ?_
      intro r s ⟨hr, hs, h1, h2⟩
      rw [(key r hr).2.1, (key s hs).2.1]
      constructor
      · unfold stepS; split
        · rw [tb_xr, h1, hoff s hs]; rfl
        · exact h1
      · unfold stepS; split
        · rw [tb_xr, h2, hoff r hr]; rfl
        · exact h2
    · intro r hr s hs
      obtain ⟨t, ht, rfl⟩ := List.mem_map.1 hr
      rw [List.mem_singleton.1 hs]
      exact ⟨(key t ht).2.2, by rw [(key t ht).2.1]; exact hoff t ht⟩
theorem red_put {S : List Nat} {x : Nat} (h : Red S) (hx : Sm x) : Red (putS S x) := by
  by_cases h0 : leftS S x = 0
  · unfold putS; rw [if_pos h0]; exact h
  · exact (red_step h (leftS_sm h.ne hx) h0 (leftS_off h x)).perm (putS_perm S x h0).symm
theorem red_reduce {rows : List Nat} (h : ∀ r ∈ rows, Sm r) : Red (reduceS rows) := by
  unfold reduceS
  have : ∀ (rows S : List Nat), Red S → (∀ r ∈ rows, Sm r) → Red (rows.foldl putS S) := by
    intro rows
    induction rows with
    | nil => intro S hS _; exact hS
    | cons r rows ih => intro S hS h; exact ih _ (red_put hS (h r (List.mem_cons_self ..))) (fun s hs => h s (List.mem_cons_of_mem _ hs))
  exact this rows [] Red.nil h
theorem putS_length_le (S : List Nat) (x : Nat) : (putS S x).length ≤ S.length + 1 := by
  by_cases h : leftS S x = 0
  · unfold putS; rw [if_pos h]; omega
  · rw [(putS_perm S x h).length_eq]; simp
end Go.Proofs.YtjhlmalpcelbaaaDoor

namespace Go.Proofs.YtjhlmalpcelbaaaDoor

theorem xr_xr (a b : Nat) : xr a (xr a b) = b := by rw [← xr_assoc, xr_self, zero_xr]
theorem xr_left (a b c : Nat) : xr a (xr b c) = xr b (xr a c) := by rw [← xr_assoc, xr_comm a b, xr_assoc]
/-- the product of a mask and rows, the first row being the mask's digit i -/
def comb : List Nat → Nat → Nat → Nat
  | [], _, _ => 0
  | r :: S, i, x => xr (if tb x i then r else 0) (comb S (i + 1) x)
theorem comb_xr (S : List Nat) : ∀ i x y, comb S i (xr x y) = xr (comb S i x) (comb S i y) := by
  induction S with
  | nil => intro i x y; exact (xr_self 0).symm
  | cons r S ih =>
    intro i x y
    simp only [comb, ih, tb_xr]
    cases tb x i <;> cases tb y i <;> simp [zero_xr, xr_zero, xr_assoc]
    · rw [xr_left]
    · rw [xr_left _ r, xr_xr]
theorem comb_low (S : List Nat) : ∀ i x, (∀ m, i ≤ m → tb x m = false) → comb S i x = 0 := by
  induction S with
  | nil => intro i x _; rfl
  | cons r S ih => intro i x h; simp only [comb, h i (Nat.le_refl _), ih (i + 1) x fun m hm => h m (by omega)]; simp [xr_zero]
theorem tb_pow (i j : Nat) : tb (2 ^ i) j = decide (i = j) := Nat.testBit_two_pow
theorem comb_pow (S : List Nat) : ∀ i k, comb S i (2 ^ (i + k)) = S.getD k 0 := by
  induction S with
  | nil => intro i k; simp [comb]
  | cons r S ih =>
    intro i k
    simp only [comb, tb_pow]
    cases k with
    | zero =>
      rw [comb_low S (i + 1) (2 ^ (i + 0)) (fun m hm => by rw [tb_pow]; simp; omega)]
      simp [xr_zero]
    | succ k =>
      have := ih (i + 1) k
      rw [show i + 1 + k = i + (k + 1) by omega] at this
      rw [this]
      simp [zero_xr]
theorem lt_of_tb {z n : Nat} (h : ∀ m, n ≤ m → tb z m = false) : z < 2 ^ n := Nat.lt_pow_two_of_testBit z h
theorem tb_of_lt {z n m : Nat} (h : z < 2 ^ n) (hm : n ≤ m) : tb z m = false := Nat.testBit_lt_two_pow (Nat.lt_of_lt_of_le h (Nat.pow_le_pow_right (by omega) hm))
/-- two sums that agree at single digits agree -/
theorem lin_ext {f g : Nat → Nat} (hf : ∀ x y, f (xr x y) = xr (f x) (f y)) (hg : ∀ x y, g (xr x y) = xr (g x) (g y)) : ∀ n, (∀ k, k < n → f (2 ^ k) = g (2 ^ k)) → ∀ v, v < 2 ^ n → f v = g v := by
  have z : ∀ {h : Nat → Nat}, (∀ x y, h (xr x y) = xr (h x) (h y)) → h 0 = 0 := fun {h} hh => by have := hh 0 0; rw [xr_self, xr_self] at this; exact this
  intro n
  induction n with
  | zero => intro _ v hv; obtain rfl : v = 0 := by simpa using hv
            rw [z hf, z hg]
  | succ n ih =>
    intro h v hv
    have h' := ih (fun k hk => h k (by omega))
    cases hb : tb v n
    · refine h' v (lt_of_tb fun m hm => ?_)
      rcases Nat.lt_or_ge n m with h1 | h1
      · exact tb_of_lt hv (by omega)
      · rw [show m = n by omega]; exact hb
    · have e : v = xr (2 ^ n) (xr (2 ^ n) v) := (xr_xr _ _).symm
      have hl : xr (2 ^ n) v < 2 ^ n := lt_of_tb fun m hm => by
        rw [tb_xr, tb_pow]
        rcases Nat.lt_or_ge n m with h1 | h1
        · rw [tb_of_lt hv (by omega)]; simp; omega
        · rw [show m = n by omega, hb]; simp
      rw [e, hf, hg, h n (by omega), h' _ hl]
end Go.Proofs.YtjhlmalpcelbaaaDoor
