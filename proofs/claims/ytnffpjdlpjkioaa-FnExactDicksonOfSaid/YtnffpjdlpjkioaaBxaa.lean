/- Plain words shared by the walks of this seat: bits of natural numbers as 64-bit ints, slices that read as lists. · facts of the program's tables · predicates: in, isMask, all, IsMatrix and the reference's l01In, l02Is · the laws' own helpers: sizes, copies, comparisons of slices of ints · the laws' own helpers at matrices · the laws' marks: markInt64S, heldInt64S, markMatrix, heldMatrix · rows of rows: slices of slices of ints · the laws' own helpers at rows of rows · the laws' own helpers at rows of rows: equality, marks · what a law holds on to from call to call: pieces of memory, pairwise apart -/
import Derived.WalkKit
import Derived.WalkSpells
import Derived.WalkLawsBesides
import Derived.WalkSmall
import Derived.Lib.TrailingZeros
import Derived.Lib.Hide
import Derived.LoopTactic
import Derived.Outline
import Derived.Deep.QuietTactic
import Derived.BigQuiet
import Derived.RegionTactic
import Derived.Deep.AppendLies
import Derived.Deep.RegionHeld3
import Derived.Deep.Draws
import Derived.BigRegion
import Derived.Deep.RegionLaw
import Derived.Test.YtnffpjdlpjkioaaProg
import Derived.Deep.Onto
set_option linter.all false
namespace Go.Proofs.Ytnffpjdlpjkioaa
open Go.RowKit

/-! ### bits -/
def Sm (a : Nat) : Prop := a < 9223372036854775808
def xr (a b : Nat) : Nat := a ^^^ b
def an (a b : Nat) : Nat := a &&& b
def orr (a b : Nat) : Nat := a ||| b
def tb (a n : Nat) : Bool := a.testBit n
def pv (a : Nat) : Nat := Lib.ctz 64 a

theorem Sm.xr {a b : Nat} (ha : Sm a) (hb : Sm b) : Sm (xr a b) := by
  unfold Sm at *; exact Nat.xor_lt_two_pow (n := 63) ha hb
theorem Sm.an {a b : Nat} (ha : Sm a) : Sm (an a b) := by
  unfold Sm at *; exact Nat.lt_of_le_of_lt Nat.and_le_left ha
theorem Sm.orr {a b : Nat} (ha : Sm a) (hb : Sm b) : Sm (orr a b) := by
  unfold Sm at *; exact Nat.or_lt_two_pow (n := 63) ha hb
theorem Sm.zero : Sm 0 := by unfold Sm; omega
theorem Sm.one : Sm 1 := by unfold Sm; omega

theorem ofInt64_nat (a : Nat) (ha : a < 18446744073709551616) : (BitVec.ofInt 64 (a : Int)).toNat = a := by
  rw [BitVec.ofInt_natCast, BitVec.toNat_ofNat]; exact Nat.mod_eq_of_lt (by omega)

theorem i64_xor_nat {a b : Nat} (ha : Sm a) (hb : Sm b) : bits .xor .i64 (a : Int) (b : Int) = ((xr a b : Nat) : Int) := by
  have hx : Sm (Ytnffpjdlpjkioaa.xr a b) := ha.xr hb
  unfold Sm at *
  show IntKind.i64.wrap ((BitVec.ofInt 64 (a : Int) ^^^ BitVec.ofInt 64 (b : Int)).toNat : Int) = _
  rw [BitVec.toNat_xor, ofInt64_nat a (by omega), ofInt64_nat b (by omega), IntKind.wrap_i64]
  unfold xr at *
  omega
theorem i64_and_nat {a b : Nat} (ha : Sm a) (hb : Sm b) : bits .and .i64 (a : Int) (b : Int) = ((an a b : Nat) : Int) := by
  have hx : Sm (Ytnffpjdlpjkioaa.an a b) := ha.an
  unfold Sm at *
  show IntKind.i64.wrap ((BitVec.ofInt 64 (a : Int) &&& BitVec.ofInt 64 (b : Int)).toNat : Int) = _
  rw [BitVec.toNat_and, ofInt64_nat a (by omega), ofInt64_nat b (by omega), IntKind.wrap_i64]
  unfold an at *
  omega
theorem i64_or_nat {a b : Nat} (ha : Sm a) (hb : Sm b) : bits .or .i64 (a : Int) (b : Int) = ((orr a b : Nat) : Int) := by
  have hx : Sm (Ytnffpjdlpjkioaa.orr a b) := ha.orr hb
  unfold Sm at *
  show IntKind.i64.wrap ((BitVec.ofInt 64 (a : Int) ||| BitVec.ofInt 64 (b : Int)).toNat : Int) = _
  rw [BitVec.toNat_or, ofInt64_nat a (by omega), ofInt64_nat b (by omega), IntKind.wrap_i64]
  unfold orr at *
  omega
theorem i64_bit_nat {a n : Nat} (ha : Sm a) : bits .and .i64 ((a : Int) / 2 ^ n) 1 = (((tb a n).toNat : Nat) : Int) := by
  have e : (a : Int) / 2 ^ n = ((a / 2 ^ n : Nat) : Int) := by simp
  have hd : Sm (a / 2 ^ n) := Nat.lt_of_le_of_lt (Nat.div_le_self _ _) ha
  have h := i64_and_nat hd Sm.one
  rw [e]
  simp only [Int.natCast_one] at h
  rw [h]
  unfold an tb
  rw [Nat.testBit_eq_decide_div_mod_eq, Nat.and_one_is_mod]
  rcases Nat.mod_two_eq_zero_or_one (a / 2 ^ n) with h | h <;> simp [h]
theorem i64_bit_test {a n : Nat} (ha : Sm a) : (bits .and .i64 ((a : Int) / 2 ^ n) 1 == 1) = tb a n := by
  rw [i64_bit_nat ha]
  cases tb a n <;> rfl

theorem pv_le {a : Nat} (h0 : a ≠ 0) (h : Sm a) : pv a ≤ 62 := by
  unfold Sm at h
  have hk := (Lib.lowest_bit 63 a h0 (by omega)).2
  unfold pv
  have e : Lib.ctz 64 a = Lib.ctz 63 a := by
    obtain ⟨m, hm, _⟩ := Lib.ctzFrom_spec 64 a (by omega) (by omega)
    obtain ⟨m', hm', _⟩ := Lib.ctzFrom_spec 63 a (by omega) (by omega)
    unfold Lib.ctz
    rw [if_neg h0, if_neg h0]
    have key : ∀ x y m m' : Nat, 2 ^ x * (2 * m + 1) = 2 ^ y * (2 * m' + 1) → x ≤ y := by
      intro x y m m' h
      apply Decidable.byContradiction
      intro hlt
      obtain ⟨d, rfl⟩ : ∃ d, x = y + 1 + d := ⟨x - y - 1, by omega⟩
      rw [Nat.pow_add, Nat.pow_add, Nat.mul_assoc, Nat.mul_assoc] at h
      have := Nat.eq_of_mul_eq_mul_left (Nat.two_pow_pos y) h
      omega
    exact Nat.le_antisymm (key _ _ _ _ (hm.symm.trans hm')) (key _ _ _ _ (hm'.symm.trans hm))
  omega

/-! ### slices that read as lists -/
/-- The int cells of numbers. -/
def nv (xs : List Nat) : List Value := xs.map fun (x : Nat) => Value.int .i64 (x : Int)
def iv (xs : List Int) : List Value := xs.map fun x => .int .i64 x
theorem nv_length (xs : List Nat) : (nv xs).length = xs.length := by simp [nv]
theorem iv_length (xs : List Int) : (iv xs).length = xs.length := by simp [iv]

/-- The slice at address A reads as the values vs. -/
def Rd (w : World) (A : Option Addr) (vs : List Value) : Prop := vs = [] ∨ ∃ b o, A = some ⟨b, o, none⟩ ∧ ∀ j v, vs[j]? = some v → w.cell? ⟨b, o + j, none⟩ = some v

theorem Rd.nil (w : World) (A : Option Addr) : Rd w A [] := .inl rfl
theorem Rd.atN {w : World} {A : Option Addr} {xs : List Nat} (h : Rd w A (nv xs)) {k : Nat} (hk : k < xs.length) :
    ∃ b o, A = some ⟨b, o, none⟩ ∧ w.cell? ⟨b, o + k, none⟩ = some (.int .i64 ((xs.getD k 0 : Nat) : Int)) := by
  rcases h with h | ⟨b, o, rfl, h⟩
  · have := congrArg List.length h; simp only [nv_length, List.length_nil] at this; omega
  · exact ⟨b, o, rfl, h k _ (by simp [nv, List.getD, hk])⟩
theorem Rd.atI {w : World} {A : Option Addr} {xs : List Int} (h : Rd w A (iv xs)) {k : Nat} (hk : k < xs.length) :
    ∃ b o, A = some ⟨b, o, none⟩ ∧ w.cell? ⟨b, o + k, none⟩ = some (.int .i64 (xs.getD k 0)) := by
  rcases h with h | ⟨b, o, rfl, h⟩
  · have := congrArg List.length h; simp only [iv_length, List.length_nil] at this; omega
  · exact ⟨b, o, rfl, h k _ (by simp [iv, List.getD, hk])⟩

theorem fold_take_succ {α β : Type} (f : β → α → β) (a : β) (L : List α) (k : Nat) (d : α) (h : k < L.length) :
    (L.take (k + 1)).foldl f a = f ((L.take k).foldl f a) (L.getD k d) := by
  rw [List.take_succ_eq_append_getElem h, List.foldl_append]
  simp [List.getD, h]

/-! ### what a call may change -/
/-- All but the blocks of S (and new ones) is as it was. -/
structure Keeps (w w' : World) (S : List (Option Nat)) : Prop where
  os : w'.os = w.os
  tape : w'.tape = w.tape
  output : w'.output = w.output
  size : w.heap.size ≤ w'.heap.size
  block : ∀ k, k < w.heap.size → some k ∉ S → w'.heap[k]? = w.heap[k]?

section
variable {w w1 w' : World} {S S' T : List (Option Nat)}
theorem Keeps.refl (w : World) (S : List (Option Nat)) : Keeps w w S := ⟨rfl, rfl, rfl, Nat.le_refl _, fun _ _ _ => rfl⟩
theorem Keeps.trans (h : Keeps w w1 S) (k : Keeps w1 w' S') (hT : ∀ j, j < w.heap.size → (some j ∈ S ∨ some j ∈ S') → some j ∈ T) : Keeps w w' T :=
  ⟨k.os.trans h.os, k.tape.trans h.tape, k.output.trans h.output, Nat.le_trans h.size k.size, fun j hj hn =>
    (k.block j (Nat.lt_of_lt_of_le hj h.size) (fun hm => hn (hT j hj (.inr hm)))).trans (h.block j hj (fun hm => hn (hT j hj (.inl hm))))⟩
theorem Keeps.more (h : Keeps w w' S) (hT : ∀ j, some j ∈ S → some j ∈ T) : Keeps w w' T :=
  ⟨h.os, h.tape, h.output, h.size, fun j hj hn => h.block j hj (fun hm => hn (hT j hm))⟩
theorem Keeps.of_grown {row : Option Nat} (h : w.grownBy w' row) : Keeps w w' [row] :=
  ⟨h.os, h.tape, h.output, h.size, fun j hj hn => h.block j hj (by simpa using hn)⟩
theorem Keeps.of_below (h : Below w.heap.size w w') : Keeps w w' [] := ⟨h.os, h.tape, h.output, h.size, fun j hj _ => h.block j hj⟩
theorem Keeps.to_below {B : Nat} (h : Keeps w w' S) (hB : B ≤ w.heap.size) (hS : ∀ j, some j ∈ S → B ≤ j) : Below B w w' :=
  ⟨h.os, h.tape, h.output, h.size, fun j hj => h.block j (by omega) (fun hm => by have := hS j hm; omega)⟩
theorem Keeps.drewN (h : Keeps w w' S) (m : Nat) : Keeps w (w'.drewN m) S := ⟨h.os, h.tape, h.output, h.size, h.block⟩
theorem Keeps.drew (h : Keeps w w' S) : Keeps w w'.drew S := ⟨h.os, h.tape, h.output, h.size, h.block⟩
theorem Keeps.ofDrewN (w : World) (m : Nat) : Keeps w (w.drewN m) S := ⟨rfl, rfl, rfl, Nat.le_refl _, fun _ _ _ => rfl⟩
theorem Keeps.setCell (h : Keeps w w' S) {p : Addr} (hp : some p.block ∈ S) (u : Value) : Keeps w (w'.setCell p u) S :=
  ⟨h.os, h.tape, h.output, by simpa [World.setCell] using h.size, fun j hj hn => (Below.heap_setCell w' p u j (fun e => hn (e ▸ hp))).trans (h.block j hj hn)⟩
theorem Keeps.alloc (h : Keeps w w' S) (o : Obj) : Keeps w (w'.alloc o) S :=
  ⟨h.os, h.tape, h.output, Nat.le_trans h.size (by simp), fun j hj hn => (Below.heap_alloc w' o j (Nat.lt_of_lt_of_le hj h.size)).trans (h.block j hj hn)⟩
theorem Keeps.cell (h : Keeps w w' S) {a : Addr} (hb : a.block < w.heap.size) (hn : some a.block ∉ S) : w'.cell? a = w.cell? a := World.cell?_of_block (h.block _ hb hn)
theorem Keeps.frozen (h : Keeps w w' S) {a : Addr} (hb : a.block < w.heap.size) (hn : some a.block ∉ S) : w'.frozen? a = w.frozen? a := World.frozen?_of_block (h.block _ hb hn)
theorem Keeps.cellSome (h : Keeps w w' S) {a : Addr} {v : Value} (hc : w.cell? a = some v) (hn : some a.block ∉ S) : w'.cell? a = some v :=
  (h.cell (World.block_lt_of_cell? w a hc) hn).trans hc
theorem owns_keeps {base : Nat} {e : TypeId} {size : Nat} {v : Value} {n : Nat} {xs : List Value} (h : w.ownsRow base e size v n xs) (hk : Keeps w w' S) (hn : v.ownBlock = none ∨ v.ownBlock ∉ S) :
    w'.ownsRow base e size v n xs := by
  refine ⟨h.1, ?_⟩
  rcases h.2 with h0 | ⟨g, cap, cur, rfl, hb, hg, rest⟩
  · exact .inl h0
  · refine .inr ⟨g, cap, cur, rfl, hb, ?_, rest⟩
    rw [hk.block g (Array.getElem?_eq_some_iff.1 hg).1 (by simpa [Value.ownBlock] using hn)]
    exact hg
/-- What a row of the call's own looks like, nil or not. -/
theorem owns_shape {base : Nat} {e : TypeId} {size : Nat} {v : Value} {n : Nat} {xs : List Value} (h : w.ownsRow base e size v n xs) :
    ∃ A c, v = .slice A n c ∧ n ≤ c ∧ (0 < n → ∃ g, A = some ⟨g, 0, none⟩ ∧ base ≤ g ∧ g < w.heap.size) ∧ v.ownBlock = A.map (·.block) := by
  rcases h.2 with ⟨rfl, rfl⟩ | ⟨g, cap, cur, rfl, hb, hg, hc, _⟩
  · exact ⟨none, 0, rfl, Nat.le_refl _, fun h => absurd h (by omega), rfl⟩
  · exact ⟨some ⟨g, 0, none⟩, cap, rfl, hc, fun _ => ⟨g, rfl, hb, (Array.getElem?_eq_some_iff.1 hg).1⟩, rfl⟩
theorem owns_Rd {base : Nat} {e : TypeId} {A : Option Addr} {n c : Nat} {xs : List Value} (h : w.ownsRow base e 1 (.slice A n c) n xs) : Rd w A xs := by
  rcases h.2 with ⟨hv, rfl⟩ | ⟨g, cap, cur, hv, hb, hg, hc, hm, hs, ht⟩
  · left; have := h.1; exact List.eq_nil_of_length_eq_zero (by omega)
  · injection hv with hA _ _
    subst hA
    refine .inr ⟨g, 0, rfl, fun j v hj => ?_⟩
    have := h.cells (g := g) rfl j v hj
    rwa [Addr.add_lit] at this
theorem Rd.keeps {A : Option Addr} {vs : List Value} (h : Rd w A vs) (hk : Keeps w w' S) (hn : ∀ a, A = some a → some a.block ∉ S) : Rd w' A vs := by
  rcases h with h | ⟨b, o, rfl, h⟩
  · exact .inl h
  · exact .inr ⟨b, o, rfl, fun j v hj => hk.cellSome (h j v hj) (hn ⟨b, o, none⟩ rfl)⟩
end

/-! ### append of one element -/
/-- t is the slice type whose element type e takes one cell. -/
structure ET (P : Program) (t e : TypeId) (bytes : Nat) : Prop where
  und : P.underlying t = some (.slice e)
  inf : ∃ i z, P.info? e = some i ∧ i.zero = some z ∧ i.size = 1 ∧ i.bytes = bytes ∧ z.cells.size = 1
  small : bytes ≤ 64
theorem ET.mk' {P : Program} {t e : TypeId} {bytes : Nat} {z : Value} (h1 : P.underlying t = some (.slice e)) (h2 : (P.info? e).map (fun i => (i.zero, i.size, i.bytes)) = some (some z, 1, bytes))
    (h3 : z.cells.size = 1) (h4 : bytes ≤ 64) : ET P t e bytes := by
  obtain ⟨i, hi, hz0, hz1, hz2⟩ := info_parts h2
  exact ⟨h1, ⟨i, z, hi, hz0, hz1, hz2, h3⟩, h4⟩

section
variable {P : Program} {w : World} {ops : Array Oper} {rest : List Oper} {o : Oper} {a : Act} {Q : Exit → Act → World → Prop}
theorem wpList_app1 (s x : Operand) (t : TypeId) (e : TypeId) (bytes : Nat) (E : ET P t e bytes) (hgd : o.guard = none)
    (ho : o.op = .call { callee := .builtin .append, args := #[s, x], argTypes := #[t, t] })
    (base : Nat) (v : Value) (n : Nat) (xs : List Value) (hs : a.eval s = v) (hown : w.ownsRow base e 1 v n xs)
    (nb : Nat) (u : Value) (hx : a.eval x = .slice (some ⟨nb, 0, none⟩) 1 1) (hnew : w.cell? ⟨nb, 0, none⟩ = some u) (h1 : u.oneCell' = true)
    (hn : n < 1099511627776) (hbase : base ≤ w.heap.size)
    (h : ∀ g cap w', w'.ownsRow base e 1 (.slice (some ⟨g, 0, none⟩) (n + 1) cap) (n + 1) (xs ++ [u]) → w.grownBy w' v.ownBlock → (v.ownBlock = some g ∨ g = w.heap.size) → g < w'.heap.size → wpList P ops Q rest (a.put o.dst (.slice (some ⟨g, 0, none⟩) (n + 1) cap)) w') :
    wpList P ops Q (o :: rest) a w := by
  obtain ⟨i, z, hi, hz0, hz1, hz2, hz3⟩ := E.inf
  have hsm := E.small
  refine wpList_append_lies w hgd s x t ho base e i z 1 bytes E.und hi hz0 hz1 hz2 hz3 (by omega) v n xs hs hown ⟨nb, 0, none⟩ 1 1 [u] hx (by simp) ?_ (by simpa using h1) (by omega) (by unfold maxLen; omega) ?_ hbase _ rfl h
  · intro j u' hj
    have : j = 0 := by
      have := (List.getElem?_eq_some_iff.1 hj).1
      simpa using this
    subst this
    rw [Addr.add_lit]
    simp at hj
    subst hj
    exact hnew
  · exact Nat.le_trans (Nat.mul_le_mul (show n + 1 ≤ 1099511627776 by omega) hsm) (by decide)

theorem step_app1 {K : Act → World → Prop} {E' : Prop} (s x : Operand) (t : TypeId) (e : TypeId) (bytes : Nat) (E : ET P t e bytes) (hgd : o.guard = none)
    (ho : o.op = .call { callee := .builtin .append, args := #[s, x], argTypes := #[t, t] })
    (base : Nat) (v : Value) (n : Nat) (xs : List Value) (hs : a.eval s = v) (hown : w.ownsRow base e 1 v n xs)
    (nb : Nat) (u : Value) (hx : a.eval x = .slice (some ⟨nb, 0, none⟩) 1 1) (hnew : w.cell? ⟨nb, 0, none⟩ = some u) (h1 : u.oneCell' = true)
    (hn : n < 1099511627776) (hbase : base ≤ w.heap.size)
    (h : ∀ g cap w', w'.ownsRow base e 1 (.slice (some ⟨g, 0, none⟩) (n + 1) cap) (n + 1) (xs ++ [u]) → w.grownBy w' v.ownBlock → (v.ownBlock = some g ∨ g = w.heap.size) → g < w'.heap.size → K (a.put o.dst (.slice (some ⟨g, 0, none⟩) (n + 1) cap)) w') :
    if Region.wanted o (yielded ops a.tmps) = true then Oper.wp P o a w K Q else E' := by
  obtain ⟨i, z, hi, hz0, hz1, hz2, hz3⟩ := E.inf
  have hsm := E.small
  refine step_append_lies w hgd s x t ho base e i z 1 bytes E.und hi hz0 hz1 hz2 hz3 (by omega) v n xs hs hown ⟨nb, 0, none⟩ 1 1 [u] hx (by simp) ?_ (by simpa using h1) (by omega) (by unfold maxLen; omega) ?_ hbase _ rfl h
  · intro j u' hj
    have : j = 0 := by
      have := (List.getElem?_eq_some_iff.1 hj).1
      simpa using this
    subst this
    rw [Addr.add_lit]
    simp at hj
    subst hj
    exact hnew
  · exact Nat.le_trans (Nat.mul_le_mul (show n + 1 ≤ 1099511627776 by omega) hsm) (by decide)
end

theorem new_cell (w : World) (u : Value) (t : TypeId) : (w.alloc (.cells #[u] t)).cell? ⟨w.heap.size, 0, none⟩ = some u := by
  rw [World.cell?_alloc_at _ _ _ _ rfl]; rfl
theorem new_cell2 (w : World) (u : Value) (t : TypeId) (o : Obj) : ((w.alloc (.cells #[u] t)).alloc o).cell? ⟨w.heap.size, 0, none⟩ = some u := by
  rw [World.cell?_alloc_past _ _ _ (by simp)]; exact new_cell w u t
theorem new_cell1 (w : World) (u : Value) (t : TypeId) (o : Obj) : ((w.alloc o).alloc (.cells #[u] t)).cell? ⟨w.heap.size + 1, 0, none⟩ = some u := by
  have := new_cell (w.alloc o) u t
  simp
theorem grown_cell_new {w w' : World} {row : Option Nat} (hg : w.grownBy w' row) {a : Addr} {v : Value} (h : w.cell? a = some v) {H : Nat} (hrow : ∀ k, row = some k → k < H) (ha : H ≤ a.block) : w'.cell? a = some v :=
  hg.cell h (fun e => by have := hrow _ e.symm; omega)

theorem blk_alloc {w : World} {g : Nat} {x : Obj} (h : w.heap[g]? = some x) (o : Obj) : (w.alloc o).heap[g]? = some x :=
  (Below.heap_alloc w o g (Array.getElem?_eq_some_iff.1 h).1).trans h
theorem blk_grown {w w' : World} {g : Nat} {x : Obj} {row : Option Nat} (h : w.heap[g]? = some x) (hg : w.grownBy w' row) (hr : row ≠ some g) : w'.heap[g]? = some x :=
  (hg.block g (Array.getElem?_eq_some_iff.1 h).1 (Ne.symm hr)).trans h
theorem drew_cell {w : World} {a : Addr} {v : Value} (h : w.cell? a = some v) : w.drew.cell? a = some v := h

/-! ### quiet calls inside a region that draws -/
theorem quiet_add_left {P : Program} {f : FuncId} {args : Array Value} {w : World} {a n : Nat} {v : Value}
    (h : Calls P f args (w.drewN (a + n)) fun e w' => e = .returned v ∧ w.drewN (a + n) = w') :
    Calls P f args (w.drewN (a + n)) fun e w'' => e = .returned v ∧ ∃ m, w'' = w.drewN (a + m) :=
  h.mono fun _ _ ⟨he, hm⟩ => ⟨he, n, hm.symm⟩
theorem quiet_left {P : Program} {f : FuncId} {args : Array Value} {w : World} {n : Nat} {v : Value}
    (h : Calls P f args (w.drewN n) fun e w' => e = .returned v ∧ w.drewN n = w') : Calls P f args (w.drewN n) fun e w'' => e = .returned v ∧ ∃ m, w'' = w.drewN m :=
  h.mono fun _ _ ⟨he, hm⟩ => ⟨he, n, hm.symm⟩

theorem box2 (w : World) (u v : Value) (t : TypeId) : (w.alloc (.cells #[u, v] t)).cell? ⟨w.heap.size, 0, none⟩ = some u ∧ (w.alloc (.cells #[u, v] t)).cell? ⟨w.heap.size, 1, none⟩ = some v := by
  constructor <;> (rw [World.cell?_alloc_at _ _ _ _ rfl]; rfl)
theorem Rd.below {B : Nat} {w w' : World} {A : Option Addr} {vs : List Value} (h : Rd w A vs) (hb : Below B w w') (hB : w.heap.size ≤ B := by exact Nat.le_refl _) : Rd w' A vs := by
  rcases h with h | ⟨b, o', rfl, h⟩
  · exact .inl h
  · exact .inr ⟨b, o', rfl, fun j v hj => (hb.cell (Nat.lt_of_lt_of_le (World.block_lt_of_cell? w _ (h j v hj)) hB)).trans (h j v hj)⟩
theorem Rd.alloc {w : World} {A : Option Addr} {vs : List Value} (h : Rd w A vs) (o : Obj) : Rd (w.alloc o) A vs := h.below ((Below.refl _ _).alloc (Nat.le_refl _) o)
theorem below_drewN {B : Nat} {a w : World} (h : Below B a w) (n : Nat) : Below B a (w.drewN n) := ⟨h.os, h.tape, h.output, h.size, h.block⟩


/-- a block of two cells that is known whole -/
theorem blk2cells {w : World} {g : Nat} {u v : Value} {t : TypeId} (h : w.heap[g]? = some (.cells #[u, v] t (0, 0))) :
    w.cell? ⟨g, 0, none⟩ = some u ∧ w.cell? ⟨g, 1, none⟩ = some v ∧ w.frozen? ⟨g, 0, none⟩ = false ∧ w.frozen? ⟨g, 1, none⟩ = false ∧ g < w.heap.size :=
  ⟨cell_of_row w g 0 #[u, v] _ (0, 0) h, cell_of_row w g 1 #[u, v] _ (0, 0) h, by simp [World.frozen?, h], by simp [World.frozen?, h], (Array.getElem?_eq_some_iff.1 h).1⟩
theorem blk_new (w : World) (x : Obj) : (w.alloc x).heap[w.heap.size]? = some x := heap_alloc_new w x
theorem blk_new1 (w : World) (o x : Obj) : ((w.alloc o).alloc x).heap[w.heap.size + 1]? = some x := by
  have e : (w.alloc o).heap.size = w.heap.size + 1 := by simp
  rw [← e]; exact heap_alloc_new (w.alloc o) x
theorem blk_new2 (w : World) (o o' x : Obj) : (((w.alloc o).alloc o').alloc x).heap[w.heap.size + 1 + 1]? = some x := by
  have e : ((w.alloc o).alloc o').heap.size = w.heap.size + 1 + 1 := by simp
  rw [← e]; exact heap_alloc_new ((w.alloc o).alloc o') x
theorem blk_below {B : Nat} {w w' : World} {g : Nat} {x : Obj} (h : w.heap[g]? = some x) (hb : Below B w w') (hg : g < B) : w'.heap[g]? = some x := (hb.block g hg).trans h
end Go.Proofs.Ytnffpjdlpjkioaa

namespace Go.Proofs.Ytnffpjdlpjkioaa
open Go.RowKit
theorem infoI : (Try.prog.info? 2).map (fun i => (i.zero, i.size, i.bytes)) = some (some (.int .i64 0), 1, 8) := by kernel_rfl
theorem etI : ET Try.prog 30 2 8 := ET.mk' (z := .int .i64 0) Try.underlying30 (by kernel_rfl) (by decide) (by decide)
end Go.Proofs.Ytnffpjdlpjkioaa

namespace Go.Proofs.Ytnffpjdlpjkioaa
open Go.RowKit

def inB (n lo hi : Int) : Bool := decide (lo ≤ n) && decide (n ≤ hi)
theorem in_any (n lo hi : Int) (w : World) : Calls Try.prog 38 #[.int .i64 n, .int .i64 lo, .int .i64 hi] w fun e w' => e = .returned (.bool (inB n lo hi)) ∧ w = w' := by
  by_cases h1 : lo ≤ n
  · by_cases h2 : n ≤ hi
    · go_enter Try.func38, Try.ntmps38
      go_wp2
      go_ret
      exact ⟨by simp [inB, h1, h2], rfl⟩
    · go_enter Try.func38, Try.ntmps38
      go_wp2
      go_ret
      exact ⟨by simp [inB, h1, h2], rfl⟩
  · go_enter Try.func38, Try.ntmps38
    go_wp2
    go_ret
    exact ⟨by rw [show inB n lo hi = false by simp [inB]; omega]; rfl, rfl⟩
theorem l01In_any (n lo hi : Int) (w : World) : Calls Try.prog 35 #[.int .i64 n, .int .i64 lo, .int .i64 hi] w fun e w' => e = .returned (.bool (inB n lo hi)) ∧ w = w' := by
  by_cases h1 : lo ≤ n
  · by_cases h2 : n ≤ hi
    · go_enter Try.func35, Try.ntmps35
      go_wp2
      go_ret
      exact ⟨by simp [inB, h1, h2], rfl⟩
    · go_enter Try.func35, Try.ntmps35
      go_wp2
      go_ret
      exact ⟨by simp [inB, h1, h2], rfl⟩
  · go_enter Try.func35, Try.ntmps35
    go_wp2
    go_ret
    exact ⟨by rw [show inB n lo hi = false by simp [inB]; omega]; rfl, rfl⟩

/-- is v a mask of d digits? -/
def maskB (v : Int) (d : Nat) : Bool := inB v 0 (2 ^ d - 1)
theorem maskB_iff (v : Int) (d : Nat) : (decide (0 ≤ v) && (v / 2 ^ d == 0)) = maskB v d := by
  have hp : (0 : Int) < 2 ^ d := Int.pow_pos (by decide)
  unfold maskB inB
  by_cases h : 0 ≤ v
  · have : (v / 2 ^ d == 0) = decide (v ≤ 2 ^ d - 1) := by
      rw [Bool.eq_iff_iff]
      simp only [beq_iff_eq, decide_eq_true_eq]
      constructor
      · intro e
        have := fun h' => Int.le_ediv_of_mul_le (a := 1) (b := v) hp h'
        omega
      · intro e; exact Int.ediv_eq_zero_of_lt h (by omega)
    rw [this]
  · simp [h]
theorem all_getD {xs : List Int} {p : Int → Bool} : xs.all p = true ↔ ∀ t, t < xs.length → p (xs.getD t 0) = true := by
  rw [List.all_eq_true]
  constructor
  · intro h t ht
    exact h _ (by simp [List.getD, ht])
  · intro h x hx
    obtain ⟨t, ht, rfl⟩ := List.getElem_of_mem hx
    have := h t ht
    simpa [List.getD, ht] using this
theorem inB_true2 {n lo hi : Int} (h : inB n lo hi = true) : lo ≤ n ∧ n ≤ hi := by simpa [inB] using h
/-- Calling function fn by its value enters it. -/
def Ent (fn : FuncId) : Prop := ∀ args w, (callFunc fn args).run Try.prog w = .ok (.enter fn args) w
/-- a found place as Go returns it -/
def placeOf (o : Option Nat) : Int := match o with | some k => (k : Int) | none => -1
/-- What a predicate's closure answers, the world being as it was but for draws. -/
def Asks (P : Program) (fn : FuncId) (cv : Value) (w : World) (x : Value) (b : Bool) : Prop :=
  ∀ m, Calls P fn #[x, cv] (w.drewN m) fun e w' => e = .returned (.bool b) ∧ ∃ m', w.drewN m' = w'

set_option maxHeartbeats 400000 in
theorem indexFunc_any (A : Option Addr) (n c : Nat) (xs : List Int) (fn : FuncId) (cv : Value) (p : Int → Bool) (w : World) (hcf : Ent fn) (hn : n = xs.length) (hsm : n ≤ 1099511627776) (hR : Rd w A (iv xs))
    (hf : ∀ x ∈ xs, Asks Try.prog fn cv w (.int .i64 x) (p x)) :
    Calls Try.prog 106 #[.slice A n c, .func (.func fn) #[] #[cv]] w fun e w' =>
      e = .returned (.int .i64 (placeOf (xs.findIdx? p))) ∧ ∃ m, w.drewN m = w' := by
  have Hn := Lib.hid hn; clear hn
  have HF := Lib.hid hf; clear hf
  unfold Ent at hcf
  go_enter Try.func106, Try.ntmps106
  go_wp2_with fail
  go_loopw [8] (fun i wr => ∃ k : Nat, k ≤ n ∧ i = .int .i64 k ∧ (∃ m, wr = w.drewN m) ∧ (xs.take k).findIdx? p = none) (fun i _ => n - (intOf i).toNat)
  case atStart => exact ⟨0, by omega, rfl, ⟨0, rfl⟩, by simp⟩
  case round =>
    obtain ⟨k, hk, rfl, ⟨m, rfl⟩, hp⟩ := hrel
    have HP := Lib.hid hp; clear hp
    by_cases hlt : k < n
    · have hkL : k < xs.length := by rw [← Hn.out]; exact hlt
      obtain ⟨b, o, rfl, hc⟩ := hR.atI hkL
      have hm : xs.getD k 0 ∈ xs := by simp [List.getD, hkL]
      have ha := HF.out _ hm m
      have hx : xs[k] = xs.getD k 0 := by simp [List.getD, hkL]
      have HX := Lib.hid hx; clear hx hm hR
      generalize xs.getD k 0 = x at *
      have HA := Lib.hid ha; clear ha
      cases hb : p x
      · rw [hb] at HA
        go_wp2_with fail
        refine HA.out.mono ?_
        rintro e w' ⟨rfl, m', rfl⟩
        go_wp2_with fail
        go_roundw
        case rel => exact ⟨k + 1, by omega, by go_num, ⟨m', rfl⟩, by rw [List.take_succ_eq_append_getElem hkL, List.findIdx?_append, HP.out, HX.out]; simp [hb]⟩
        case measure => simp [intOf]; omega
      · rw [hb] at HA
        go_wp2_with fail
        refine HA.out.mono ?_
        rintro e w' ⟨rfl, m', rfl⟩
        go_wp2_with fail
        go_ret
        refine ⟨?_, m', rfl⟩
        have e : xs.findIdx? p = some k := by
          rw [← List.take_append_drop k xs, List.findIdx?_append, HP.out, List.drop_eq_getElem_cons hkL, HX.out]
          simp [hb, Nat.min_eq_left (Nat.le_of_lt hkL), List.findIdx?_cons]
        rw [e]
        rfl
    · have ek : xs.take k = xs := List.take_of_length_le (by rw [← Hn.out]; omega)
      go_wp2_with fail
      go_ret
      refine ⟨?_, m, rfl⟩
      have e : xs.findIdx? p = none := by rw [← ek, HP.out]
      rw [e]
      rfl

theorem findIdx_none {α : Type} (p : α → Bool) (xs : List α) : (xs.findIdx? p = none) = (∀ x ∈ xs, p x = false) := by
  simp

set_option maxHeartbeats 400000 in
theorem containsFunc_any (A : Option Addr) (n c : Nat) (xs : List Int) (fn : FuncId) (cv : Value) (p : Int → Bool) (w : World) (hcf : Ent fn) (hn : n = xs.length) (hsm : n ≤ 1099511627776) (hR : Rd w A (iv xs))
    (hf : ∀ x ∈ xs, Asks Try.prog fn cv w (.int .i64 x) (p x)) :
    Calls Try.prog 77 #[.slice A n c, .func (.func fn) #[] #[cv]] w fun e w' =>
      e = .returned (.bool (xs.any p)) ∧ ∃ m, w.drewN m = w' := by
  have HC := Lib.hid (indexFunc_any A n c xs fn cv p w hcf hn hsm hR hf)
  clear hn hR hf hsm
  cases h : xs.findIdx? p with
  | none =>
    rw [h] at HC
    have e : xs.any p = false := by rw [List.any_eq_false]; rw [findIdx_none] at h; simpa using h
    have HE := Lib.hid e; clear e h
    go_enter Try.func77, Try.ntmps77
    go_wp2_with (go_at_call 106; refine HC.out.mono ?_; rintro e w' ⟨rfl, m', rfl⟩)
    go_ret
    exact ⟨by rw [HE.out]; rfl, m', rfl⟩
  | some k =>
    rw [h] at HC
    have e : xs.any p = true := by
      cases ha : xs.any p with
      | true => rfl
      | false =>
        rw [List.any_eq_false] at ha
        have : xs.findIdx? p = none := by rw [findIdx_none]; simpa using ha
        rw [this] at h; cases h
    have HE := Lib.hid e; clear e h
    have hk : ¬ (k : Int) < 0 := by omega
    go_enter Try.func77, Try.ntmps77
    go_wp2_with (go_at_call 106; refine HC.out.mono ?_; rintro e w' ⟨rfl, m', rfl⟩)
    go_ret
    exact ⟨by rw [HE.out]; simp [placeOf], m', rfl⟩

set_option maxHeartbeats 400000 in
/-- all(list, holds), 'holds' a closure that only looks. -/
theorem all_any (A : Option Addr) (n c : Nat) (xs : List Int) (fn : FuncId) (cv : Value) (p : Int → Bool) (w : World) (hcf : Ent fn) (hn : n = xs.length) (hsm : n ≤ 1099511627776) (hR : Rd w A (iv xs))
    (hf : ∀ x ∈ xs, ∀ o, Asks Try.prog fn cv (w.alloc o) (.int .i64 x) (p x)) :
    Calls Try.prog 43 #[.slice A n c, .func (.func fn) #[] #[cv]] w fun e w' =>
      e = .returned (.bool (xs.all p)) ∧ Below w.heap.size w w' := by
  have key : ∀ x ∈ xs, Asks Try.prog 78 (.pointer (some ⟨w.heap.size, 0, none⟩)) (w.alloc (.cells #[.func (.func fn) #[] #[cv]] 53)) (.int .i64 x) (!(p x)) := by
    intro x hx m
    have HF := Lib.hid (hf x hx (.cells #[.func (.func fn) #[] #[cv]] 53) m)
    clear hf hR
    unfold Ent at hcf
    have hc : (w.alloc (.cells #[.func (.func fn) #[] #[cv]] 53)).cell? ⟨w.heap.size, 0, none⟩ = some (.func (.func fn) #[] #[cv]) := new_cell _ _ _
    go_enter Try.func78, Try.ntmps78
    go_wp2_with fail
    refine HF.out.mono ?_
    rintro e w' ⟨rfl, m', rfl⟩
    go_wp2_with fail
    go_ret
    exact ⟨rfl, m', rfl⟩
  have hR' : Rd (w.alloc (.cells #[.func (.func fn) #[] #[cv]] 53)) A (iv xs) := hR.alloc _
  have HC := Lib.hid (containsFunc_any A n c xs _ _ _ _ (fun args w => Try.call78 args w) hn hsm hR' key)
  have e : (!(xs.any fun x => !(p x))) = xs.all p := by simp [List.all_eq_not_any_not]
  have HE := Lib.hid e; clear e key hR' hR hf hn hsm
  go_enter Try.func43, Try.ntmps43
  go_wp2_with (go_at_call 77; refine HC.out.mono ?_; rintro e w' ⟨rfl, m', rfl⟩)
  go_ret
  exact ⟨by rw [← HE.out]; rfl, below_drewN ((Below.refl _ _).alloc (Nat.le_refl _) _) m'⟩
/-- .. of a function that holds nothing -/
def Asks0 (P : Program) (fn : FuncId) (w : World) (x : Value) (b : Bool) : Prop :=
  ∀ m, Calls P fn #[x] (w.drewN m) fun e w' => e = .returned (.bool b) ∧ ∃ m', w.drewN m' = w'
set_option maxHeartbeats 400000 in
/-- all(list, holds), 'holds' a function that only looks. -/
theorem all0_any (A : Option Addr) (n c : Nat) (xs : List Int) (fn : FuncId) (p : Int → Bool) (w : World) (hcf : Ent fn) (hn : n = xs.length) (hsm : n ≤ 1099511627776) (hR : Rd w A (iv xs))
    (hf : ∀ x ∈ xs, ∀ o, Asks0 Try.prog fn (w.alloc o) (.int .i64 x) (p x)) :
    Calls Try.prog 43 #[.slice A n c, .func (.func fn) #[] #[]] w fun e w' =>
      e = .returned (.bool (xs.all p)) ∧ Below w.heap.size w w' := by
  have key : ∀ x ∈ xs, Asks Try.prog 78 (.pointer (some ⟨w.heap.size, 0, none⟩)) (w.alloc (.cells #[.func (.func fn) #[] #[]] 53)) (.int .i64 x) (!(p x)) := by
    intro x hx m
    have HF := Lib.hid (hf x hx (.cells #[.func (.func fn) #[] #[]] 53) m)
    clear hf hR
    unfold Ent at hcf
    have hc : (w.alloc (.cells #[.func (.func fn) #[] #[]] 53)).cell? ⟨w.heap.size, 0, none⟩ = some (.func (.func fn) #[] #[]) := new_cell _ _ _
    go_enter Try.func78, Try.ntmps78
    go_wp2_with fail
    refine HF.out.mono ?_
    rintro e w' ⟨rfl, m', rfl⟩
    go_wp2_with fail
    go_ret
    exact ⟨rfl, m', rfl⟩
  have hR' : Rd (w.alloc (.cells #[.func (.func fn) #[] #[]] 53)) A (iv xs) := hR.alloc _
  have HC := Lib.hid (containsFunc_any A n c xs _ _ _ _ (fun args w => Try.call78 args w) hn hsm hR' key)
  have e : (!(xs.any fun x => !(p x))) = xs.all p := by simp [List.all_eq_not_any_not]
  have HE := Lib.hid e; clear e key hR' hR hf hn hsm
  go_enter Try.func43, Try.ntmps43
  go_wp2_with (go_at_call 77; refine HC.out.mono ?_; rintro e w' ⟨rfl, m', rfl⟩)
  go_ret
  exact ⟨by rw [← HE.out]; rfl, below_drewN ((Below.refl _ _).alloc (Nat.le_refl _) _) m'⟩
end Go.Proofs.Ytnffpjdlpjkioaa

namespace Go.Proofs.Ytnffpjdlpjkioaa
open Go.RowKit

def szV (n : Nat) (left : Int) : Int := if left - n < 0 then -1 else left - n
theorem szInts_any (A : Option Addr) (n c : Nat) (left : Int) (w : World) (hsm : n ≤ 9223372036854775807) (h0 : 0 ≤ left) (h1 : left ≤ 1048576) :
    Calls Try.prog 80 #[.slice A n c, .int .i64 left] w fun e w' => e = .returned (.int .i64 (szV n left)) ∧ w = w' := by
  by_cases h : left - n < 0
  · have HE : Hid (szV n left = -1) := by show _ = _; unfold szV; rw [if_pos h]
    go_enter Try.func80, Try.ntmps80
    go_wp2
    go_ret
    exact ⟨by rw [HE.out]; rfl, rfl⟩
  · have HE : Hid (szV n left = left - n) := by show _ = _; unfold szV; rw [if_neg h]
    go_enter Try.func80, Try.ntmps80
    go_wp2
    go_ret
    exact ⟨by rw [HE.out]; rfl, rfl⟩

theorem iv_set (xs : List Int) (k : Nat) (x : Int) : iv (xs.set k x) = (iv xs).set k (.int .i64 x) := by simp [iv, List.map_set]
theorem take_set_succ {ys xs : List Int} {k : Nat} (hk : k < ys.length) (hk' : k < xs.length) (h : ys.take k = xs.take k) : (ys.set k (xs.getD k 0)).take (k + 1) = xs.take (k + 1) := by
  rw [List.take_succ_eq_append_getElem (by simpa using hk), List.take_succ_eq_append_getElem hk', List.take_set, List.set_eq_of_length_le (by simp; omega), h]
  simp [List.getD, hk']

theorem iv_replicate (n : Nat) : (madeCells #[Value.int .i64 0] n).toList = iv (List.replicate n 0) := by
  simp [iv, madeCells]
  apply List.ext_getElem?
  intro i
  by_cases h : i < n
  · simp [h, Nat.mod_one]
  · simp [h]

set_option maxRecDepth 100000 in
set_option maxHeartbeats 1000000 in
theorem toInts_any (A : Option Addr) (n c : Nat) (xs : List Int) (w : World) (hn : n = xs.length) (hsm : n ≤ 1048576) (hR : Rd w A (iv xs)) :
    Calls Try.prog 16 #[.slice A n c] w fun e w' => ∃ g, e = .returned (.slice (some ⟨g, 0, none⟩) n n) ∧ w'.ownsRow w.heap.size 2 1 (.slice (some ⟨g, 0, none⟩) n n) n (iv xs) ∧ Below w.heap.size w w' := by
  obtain ⟨i0, hi0, hz0, hz1, hz2⟩ := info_parts infoI
  have Hn := Lib.hid hn
  have HR := Lib.hid hR
  clear hn hR
  go_enter Try.func16, Try.ntmps16
  go_wp2_with (at_make; refine wpList_make_full _ rfl _ _ 30 rfl w.heap.size 2 i0 _ 1 Try.underlying30 hi0 hz0 hz1 _ _ _ _ n rfl rfl rfl rfl ?b1 ?b2 ?b3 ?_)
  case b1 => rw [hz2]; omega
  case b2 => unfold maxLen; omega
  case b3 => exact Nat.le_refl _
  intro w1 hown hgrow
  have HG := Lib.hid (Below.grown (Below.refl w.heap.size w) hgrow (Nat.le_refl _) (by intro k h; cases h))
  have HO : Hid (w1.ownsRow w.heap.size 2 1 (.slice (some ⟨w.heap.size, 0, none⟩) n n) n (iv (List.replicate n 0))) := by rw [← iv_replicate]; exact hown
  clear hown hgrow hi0 hz0 hz1 hz2
  go_wp2_with fail
  go_loopw [4] (fun i wr => ∃ k : Nat, k ≤ n ∧ i = .int .i64 k ∧ (∃ ys : List Int, ys.length = n ∧ ys.take k = xs.take k ∧ wr.ownsRow w.heap.size 2 1 (.slice (some ⟨w.heap.size, 0, none⟩) n n) n (iv ys)) ∧ Below w.heap.size w wr) (fun i _ => n - (intOf i).toNat)
  case atStart => exact ⟨0, by omega, rfl, ⟨_, by simp, by simp, HO.out⟩, HG.out⟩
  case round =>
    obtain ⟨k, hk, rfl, ⟨ys, hyl, hyt, hown⟩, hbel⟩ := hrel
    have hsz : w.heap.size ≤ wr.heap.size := hbel.size
    by_cases hlt : k < n
    · have hkL : k < xs.length := by rw [← Hn.out]; exact hlt
      obtain ⟨b, o, rfl, hc⟩ := (HR.out.below hbel).atI hkL
      have hcell : wr.cell? ⟨w.heap.size, k, none⟩ = some (.int .i64 (ys.getD k 0)) := by
        rw [hown.cellAt k (by omega)]; simp [iv, List.getD, show k < ys.length by omega]
      have hfz := hown.frozenAt k
      have HT := Lib.hid (take_set_succ (by omega) hkL hyt)
      generalize xs.getD k 0 = x at *
      generalize ys.getD k 0 = y at *
      have HO := Lib.hid hown
      have HB := Lib.hid hbel
      have HY := Lib.hid hyl
      clear hown hbel hyl hyt
      go_wp2_with fail
      go_roundw
      case rel =>
        refine ⟨k + 1, by omega, by go_num, ⟨ys.set k x, by rw [List.length_set]; exact HY.out, HT.out, ?_⟩, HB.out.setCell (p := ⟨w.heap.size, k, none⟩) (Nat.le_refl _) _⟩
        rw [iv_set]; exact (World.ownsRow.stored HO.out k _).1
      case measure => simp [intOf]; omega
    · have ek : xs.take k = xs := List.take_of_length_le (by rw [← Hn.out]; omega)
      have ek2 : ys.take k = ys := List.take_of_length_le (by omega)
      have e : ys = xs := by rw [← ek, ← ek2]; exact hyt
      rw [e] at hown
      have HO := Lib.hid hown
      have HB := Lib.hid hbel
      clear hown hbel e hyt hyl ek ek2
      go_wp2_with fail
      go_ret
      exact ⟨w.heap.size, rfl, HO.out, HB.out⟩
end Go.Proofs.Ytnffpjdlpjkioaa

namespace Go.Proofs.Ytnffpjdlpjkioaa
open Go.RowKit

/-- two lists of ints are equal -/
def eqI (xs ys : List Int) : Bool := xs == ys
set_option maxHeartbeats 1000000 in
theorem eqInts_any (A A' : Option Addr) (n n' c c' : Nat) (xs ys : List Int) (w : World) (hn : n = xs.length) (hn' : n' = ys.length) (hsm : n ≤ 1099511627776) (hsm' : n' ≤ 1099511627776) (hR : Rd w A (iv xs)) (hR' : Rd w A' (iv ys)) :
    Calls Try.prog 18 #[.slice A n c, .slice A' n' c'] w fun e w' => e = .returned (.bool (eqI xs ys)) ∧ ∃ m, w.drewN m = w' := by
  by_cases hl : n = n'
  · subst hl
    have Hn := Lib.hid hn
    have Hn' := Lib.hid hn'
    clear hn hn'
    go_enter Try.func18, Try.ntmps18
    go_wp2_with fail
    go_loopw [5] (fun i wr => ∃ k : Nat, k ≤ n ∧ i = .int .i64 k ∧ (∃ m, wr = w.drewN m) ∧ xs.take k = ys.take k) (fun i _ => n - (intOf i).toNat)
    case atStart => exact ⟨0, by omega, rfl, ⟨0, rfl⟩, by simp⟩
    case round =>
      obtain ⟨k, hk, rfl, ⟨m, rfl⟩, hp⟩ := hrel
      have HP := Lib.hid hp; clear hp
      by_cases hlt : k < n
      · have hkL : k < xs.length := by rw [← Hn.out]; exact hlt
        have hkL' : k < ys.length := by rw [← Hn'.out]; exact hlt
        obtain ⟨b, o, rfl, hc⟩ := hR.atI hkL
        obtain ⟨b', o', rfl, hc'⟩ := hR'.atI hkL'
        have hx : xs[k] = xs.getD k 0 := by simp [List.getD, hkL]
        have hy : ys[k] = ys.getD k 0 := by simp [List.getD, hkL']
        have HX := Lib.hid hx; have HY := Lib.hid hy; clear hx hy hR hR'
        generalize xs.getD k 0 = x at *
        generalize ys.getD k 0 = y at *
        by_cases hxy : x = y
        · subst hxy
          go_wp2_with fail
          go_quiet (fail)
          go_wp2_with fail
          go_roundw
          case rel => exact ⟨k + 1, by omega, by go_num, ⟨_, rfl⟩, by rw [List.take_succ_eq_append_getElem hkL, List.take_succ_eq_append_getElem hkL', HP.out, HX.out, HY.out]⟩
          case measure => simp [intOf]; omega
        · have hb : (x != y) = true := by simpa using hxy
          have HXY := Lib.hid hxy; clear hxy
          go_wp2_with fail
          go_quiet (fail)
          go_wp2_with fail
          go_ret
          have e : eqI xs ys = false := by
            unfold eqI
            rw [beq_eq_false_iff_ne]
            intro e; subst e
            exact HXY.out (HX.out.symm.trans HY.out)
          exact ⟨by rw [e]; rfl, m + nq, by rw [World.drewN_drewN]⟩
      · have ek : xs.take k = xs := List.take_of_length_le (by rw [← Hn.out]; omega)
        have ek' : ys.take k = ys := List.take_of_length_le (by rw [← Hn'.out]; omega)
        have e : eqI xs ys = true := by
          unfold eqI; rw [beq_iff_eq, ← ek, ← ek']; exact HP.out
        have HE := Lib.hid e; clear e ek ek'
        go_wp2_with fail
        go_ret
        exact ⟨by rw [HE.out]; rfl, m, rfl⟩
  · have e : eqI xs ys = false := by
      unfold eqI; rw [beq_eq_false_iff_ne]; intro e; subst e; omega
    have hb : ((n : Int) != (n' : Int)) = true := by simp; omega
    have HE := Lib.hid e; clear e hn hn' hl hR hR'
    go_enter Try.func18, Try.ntmps18
    go_wp2_with fail
    go_ret
    exact ⟨by rw [HE.out]; rfl, 0, rfl⟩
end Go.Proofs.Ytnffpjdlpjkioaa

namespace Go.Proofs.Ytnffpjdlpjkioaa
open Go.RowKit

/-- what a mark leaves in a slice of n elements -/
def marks (k : Int) (n : Nat) : List Int := (List.range n).map fun (i : Nat) => k + (i : Int)
theorem marks_length (k : Int) (n : Nat) : (marks k n).length = n := by simp [marks]
theorem marks_getD (k : Int) (n j : Nat) (h : j < n) : (marks k n).getD j 0 = k + j := by simp [marks, List.getD, h]

set_option maxHeartbeats 1000000 in
theorem markInts_any (B : Nat) (v : Value) (n : Nat) (xs : List Int) (k : Int) (w : World) (hown : w.ownsRow B 2 1 v n (iv xs)) (hsm : n ≤ 1099511627776) (h0 : 0 ≤ k) (h1 : k ≤ 1099511627776) :
    Calls Try.prog 19 #[v, .int .i64 k] w fun e w' => e = .returned (.int .i64 (k + n)) ∧ w'.ownsRow B 2 1 v n (iv (marks k n)) ∧ Keeps w w' [v.ownBlock] := by
  have hlx : xs.length = n := by have := hown.1; simpa [iv] using this
  obtain ⟨A, c, rfl, _, hA, _⟩ := owns_shape hown
  have HO := Lib.hid hown
  have HX := Lib.hid hlx
  have HA := Lib.hid hA
  clear hown hlx hA
  go_enter Try.func19, Try.ntmps19
  go_wp2_with fail
  go_loopw [1, 5] (fun q i wr => ∃ j : Nat, j ≤ n ∧ i = .int .i64 j ∧ q = .int .i64 (k + j) ∧ (∃ ys : List Int, ys.length = n ∧ ys.take j = (marks k n).take j ∧ wr.ownsRow B 2 1 (.slice A n c) n (iv ys)) ∧ Keeps w wr [(Value.slice A n c).ownBlock]) (fun _ i _ => n - (intOf i).toNat)
  case atStart => exact ⟨0, by omega, rfl, by simp, ⟨xs, HX.out, by simp, HO.out⟩, Keeps.refl w _⟩
  case round =>
    obtain ⟨j, hj, rfl, rfl, ⟨ys, hyl, hyt, hown⟩, hkp⟩ := hrel
    by_cases hlt : j < n
    · obtain ⟨g, rfl, _, _⟩ := HA.out (by omega)
      have hcell : wr.cell? ⟨g, j, none⟩ = some (.int .i64 (ys.getD j 0)) := by
        rw [hown.cellAt j (by omega)]; simp [iv, List.getD, show j < ys.length by omega]
      have hfz := hown.frozenAt j
      have ht := take_set_succ (ys := ys) (xs := marks k n) (k := j) (by omega) (by rw [marks_length]; exact hlt) hyt
      rw [marks_getD k n j hlt] at ht
      generalize ys.getD j 0 = y at *
      have HT := Lib.hid ht
      have HO' := Lib.hid hown
      have HK := Lib.hid hkp
      have HY := Lib.hid hyl
      clear ht hown hkp hyl hyt
      go_wp2_with fail
      go_roundw
      case rel =>
        refine ⟨j + 1, by omega, by go_num, by simp; omega, ⟨ys.set j (k + j), by rw [List.length_set]; exact HY.out, HT.out, ?_⟩, HK.out.setCell (p := ⟨g, j, none⟩) (by simp [Value.ownBlock]) _⟩
        rw [iv_set]; exact (World.ownsRow.stored HO'.out j _).1
      case measure => simp [intOf]; omega
    · have ej : j = n := by omega
      subst ej
      have e : ys = marks k j := by
        rw [List.take_of_length_le (by omega), List.take_of_length_le (by rw [marks_length]; omega)] at hyt; exact hyt
      rw [e] at hown
      have HO' := Lib.hid hown
      have HK := Lib.hid hkp
      clear hown hkp e hyt hyl
      go_wp2_with fail
      go_ret
      exact ⟨rfl, HO'.out, HK.out⟩

set_option maxHeartbeats 1000000 in
theorem heldInts_any (A : Option Addr) (n c : Nat) (k : Int) (w : World) (hR : Rd w A (iv (marks k n))) (hsm : n ≤ 1099511627776) (h0 : 0 ≤ k) (h1 : k ≤ 1099511627776) :
    Calls Try.prog 67 #[.slice A n c, .int .i64 k] w fun e w' => e = .returned (.int .i64 (k + n)) ∧ w = w' := by
  have HR := Lib.hid hR
  clear hR
  go_enter Try.func67, Try.ntmps67
  go_wp2_with fail
  go_loop [1, 5] (fun q i => ∃ j : Nat, j ≤ n ∧ i = .int .i64 j ∧ q = .int .i64 (k + j)) (fun _ i => n - (intOf i).toNat)
  case atStart => exact ⟨0, by omega, rfl, by simp⟩
  case round =>
    obtain ⟨j, hj, rfl, rfl⟩ := hrel
    by_cases hlt : j < n
    · obtain ⟨b, o, rfl, hc⟩ := HR.out.atI (k := j) (by rw [marks_length]; exact hlt)
      rw [marks_getD k n j hlt] at hc
      go_wp2_with fail
      go_round
      case rel => exact ⟨j + 1, by omega, by go_num, by simp; omega⟩
      case measure => simp [intOf]; omega
    · have ej : j = n := by omega
      subst ej
      go_wp2_with fail
      go_ret
      exact ⟨rfl, rfl⟩

end Go.Proofs.Ytnffpjdlpjkioaa

namespace Go.Proofs.Ytnffpjdlpjkioaa
open Go.RowKit

theorem infoS : (Try.prog.info? 30).map (fun i => (i.zero, i.size, i.bytes)) = some (some (.slice none 0 0), 1, 24) := by kernel_rfl
theorem etS : ET Try.prog 22 30 24 := ET.mk' (z := .slice none 0 0) Try.underlying22 (by kernel_rfl) (by decide) (by decide)

/-- an inner slice: where it lies, its capacity, its numbers -/
structure Row where
  A : Option Addr
  c : Nat
  xs : List Int
def Row.val (r : Row) : Value := .slice r.A r.xs.length r.c
def r0 : Row := ⟨none, 0, []⟩
def hv (L : List Row) : List Value := L.map Row.val
def dat (L : List Row) : List (List Int) := L.map Row.xs
def rg (L : List Row) (k : Nat) : Row := L.getD k r0
def tot (L : List Row) : Nat := (L.map fun r => r.xs.length).sum
theorem hv_length (L : List Row) : (hv L).length = L.length := by simp [hv]
theorem dat_length (L : List Row) : (dat L).length = L.length := by simp [dat]
theorem rg_of {L : List Row} {k : Nat} (h : k < L.length) : rg L k = L[k] := by simp [rg, List.getD, h]
theorem rg_mem {L : List Row} {k : Nat} (h : k < L.length) : rg L k ∈ L := by rw [rg_of h]; exact List.getElem_mem h
theorem hv_get {L : List Row} {k : Nat} (h : k < L.length) : (hv L)[k]? = some (rg L k).val := by
  rw [rg_of h]; simp [hv, h]
theorem dat_getD (L : List Row) (k : Nat) : (dat L).getD k [] = (rg L k).xs := by
  simp only [dat, rg, List.getD, List.getElem?_map]; cases L[k]? <;> rfl
theorem rg_set {L : List Row} {j : Nat} (hj : j < L.length) (r : Row) (i : Nat) : rg (L.set j r) i = if i = j then r else rg L i := by
  simp only [rg, List.getD, List.getElem?_set]
  by_cases h : j = i
  · subst h; simp [hj]
  · simp [h, Ne.symm h]
theorem tot_succ {L : List Row} {k : Nat} (h : k < L.length) : tot (L.take (k + 1)) = tot (L.take k) + (rg L k).xs.length := by
  rw [List.take_succ_eq_append_getElem h, rg_of h]; simp only [tot, List.map_append, List.sum_append, List.map_cons, List.map_nil, List.sum_cons, List.sum_nil, Nat.add_zero]
theorem tot_take_le (L : List Row) (k : Nat) : tot (L.take k) ≤ tot L := by
  conv => rhs; rw [← List.take_append_drop k L]
  simp only [tot, List.map_append, List.sum_append]; omega
theorem tot_all {L : List Row} {k : Nat} (h : L.length ≤ k) : tot (L.take k) = tot L := by rw [List.take_of_length_le h]
theorem len_le_tot {L : List Row} {k : Nat} (h : k < L.length) : (rg L k).xs.length ≤ tot L := by
  have h1 := tot_succ h
  have h2 := tot_take_le L (k + 1)
  omega
theorem rows_ext {L M : List Row} (hl : M.length = L.length) (h : ∀ i, i < L.length → (rg M i).xs = (rg L i).xs) : dat M = dat L := by
  apply List.ext_getElem (by simp [dat, hl])
  intro i h1 h2
  simp only [dat, List.length_map] at h1 h2
  have := h i h2
  rw [rg_of h1, rg_of h2] at this
  simpa [dat] using this
theorem dat_xs {L M : List Row} (h : dat M = dat L) : M.length = L.length ∧ ∀ i, (rg M i).xs = (rg L i).xs := by
  refine ⟨by have := congrArg List.length h; simpa [dat] using this, fun i => ?_⟩
  rw [← dat_getD, ← dat_getD, h]

/-- The slice at A reads as the rows L. -/
structure RdR (w : World) (A : Option Addr) (L : List Row) : Prop where
  out : Rd w A (hv L)
  inn : ∀ i, i < L.length → Rd w (rg L i).A (iv (rg L i).xs)
  cap : ∀ i, i < L.length → (rg L i).xs.length ≤ (rg L i).c
section
variable {w w' : World} {A : Option Addr} {L : List Row}
theorem RdR.at_ (h : RdR w A L) {k : Nat} (hk : k < L.length) :
    ∃ b o, A = some ⟨b, o, none⟩ ∧ w.cell? ⟨b, o + k, none⟩ = some (.slice (rg L k).A (rg L k).xs.length (rg L k).c) := by
  rcases h.out with h' | ⟨b, o, rfl, h'⟩
  · have := congrArg List.length h'; simp [hv_length] at this; subst this; simp at hk
  · exact ⟨b, o, rfl, h' k _ (hv_get hk)⟩
theorem RdR.below {B : Nat} (h : RdR w A L) (hb : Below B w w') (hB : w.heap.size ≤ B := by exact Nat.le_refl _) : RdR w' A L :=
  ⟨h.out.below hb hB, fun i hi => (h.inn i hi).below hb hB, h.cap⟩
theorem RdR.alloc (h : RdR w A L) (o : Obj) : RdR (w.alloc o) A L := ⟨h.out.alloc o, fun i hi => (h.inn i hi).alloc o, h.cap⟩
end

theorem RdR.cell {w : World} {b o : Nat} {L : List Row} (h : RdR w (some ⟨b, o, none⟩) L) {k : Nat} (hk : k < L.length) : w.cell? ⟨b, o + k, none⟩ = some (.slice (rg L k).A (rg L k).xs.length (rg L k).c) := by
  obtain ⟨b', o', e, hc⟩ := h.at_ hk
  injection e with e
  injection e with e1 e2 _
  subst e1; subst e2
  exact hc
theorem Rd.cellI {w : World} {b o : Nat} {xs : List Int} (h : Rd w (some ⟨b, o, none⟩) (iv xs)) {k : Nat} (hk : k < xs.length) : w.cell? ⟨b, o + k, none⟩ = some (.int .i64 (xs.getD k 0)) := by
  obtain ⟨b', o', e, hc⟩ := h.atI hk
  injection e with e
  injection e with e1 e2 _
  subst e1; subst e2
  exact hc
theorem owns_getD {w : World} {B g n c k : Nat} {ys : List Int} (h : w.ownsRow B 2 1 (.slice (some ⟨g, 0, none⟩) n c) n (iv ys)) (hk : k < n) : w.cell? ⟨g, k, none⟩ = some (.int .i64 (ys.getD k 0)) := by
  have hl : ys.length = n := by have := h.1; simpa [iv] using this
  rw [h.cellAt k (by omega)]; simp [iv, List.getD, show k < ys.length by omega]
theorem Rd.drewN {w : World} {A : Option Addr} {vs : List Value} (h : Rd w A vs) (m : Nat) : Rd (w.drewN m) A vs := h
theorem RdR.drewN {w : World} {A : Option Addr} {L : List Row} (h : RdR w A L) (m : Nat) : RdR (w.drewN m) A L := ⟨h.out, h.inn, h.cap⟩

/-- Rows of rows of the call's own: the outer one, the inner ones, no two of these in one block. -/
structure OwnR (w : World) (B : Nat) (v : Value) (L : List Row) : Prop where
  out : w.ownsRow B 30 1 v L.length (hv L)
  inn : ∀ i, i < L.length → w.ownsRow B 2 1 (rg L i).val (rg L i).xs.length (iv (rg L i).xs)
  dis : ∀ i j, i < L.length → j < L.length → i ≠ j → (rg L i).val.ownBlock = none ∨ (rg L i).val.ownBlock ≠ (rg L j).val.ownBlock

theorem own_ne2 {w : World} {B B' n n' : Nat} {e e' : TypeId} {v v' : Value} {xs xs' : List Value} (h : w.ownsRow B e 1 v n xs) (h' : w.ownsRow B' e' 1 v' n' xs') (hne : e ≠ e') : v.ownBlock = none ∨ v.ownBlock ≠ v'.ownBlock := by
  rcases h.2 with ⟨rfl, _⟩ | ⟨g, cap, cur, rfl, _, hg, _⟩
  · exact .inl rfl
  · refine .inr fun he => ?_
    rcases h'.2 with ⟨rfl, _⟩ | ⟨g', cap', cur', rfl, _, hg', _⟩
    · cases he
    · have : g = g' := by simpa [Value.ownBlock] using he
      subst this
      rw [hg] at hg'
      injection hg' with hg'
      injection hg' with _ ht
      exact hne ht
theorem owns_cap {w : World} {B n c : Nat} {e : TypeId} {A : Option Addr} {xs : List Value} (h : w.ownsRow B e 1 (.slice A n c) n xs) : n ≤ c := by
  rcases h.2 with ⟨hv, h0⟩ | ⟨g, cap, cur, hv, _, _, hc, _⟩
  · omega
  · injection hv with _ _ hc'
    omega
theorem cell_keep {w w' : World} {a : Addr} {v : Value} (h : w.cell? a = some v) (hb : Below w.heap.size w w') : w'.cell? a = some v := (hb.cell (World.block_lt_of_cell? w a h)).trans h
theorem none_or_symm {a b : Option Nat} (h : a = none ∨ a ≠ b) : b = none ∨ b ≠ a := by
  by_cases hb : b = none
  · exact .inl hb
  · refine .inr fun e => ?_
    rcases h with h | h
    · exact hb (e.trans h)
    · exact h e.symm

section
variable {w w' : World} {B : Nat} {v : Value} {L : List Row}
theorem OwnR.rd {A : Option Addr} {n c : Nat} (h : OwnR w B (.slice A n c) L) (hn : n = L.length) : RdR w A L := by
  subst hn
  exact ⟨owns_Rd h.out, fun i hi => owns_Rd (h.inn i hi), fun i hi => owns_cap (h.inn i hi)⟩
theorem OwnR.oi (h : OwnR w B v L) {i : Nat} (hi : i < L.length) : v.ownBlock = none ∨ v.ownBlock ≠ (rg L i).val.ownBlock := own_ne2 h.out (h.inn i hi) (by decide)
theorem OwnR.io (h : OwnR w B v L) {i : Nat} (hi : i < L.length) : (rg L i).val.ownBlock = none ∨ (rg L i).val.ownBlock ≠ v.ownBlock := own_ne2 (h.inn i hi) h.out (by decide)
theorem OwnR.keeps {S : List (Option Nat)} (h : OwnR w B v L) (hk : Keeps w w' S) (h1 : v.ownBlock = none ∨ v.ownBlock ∉ S) (h2 : ∀ i, i < L.length → (rg L i).val.ownBlock = none ∨ (rg L i).val.ownBlock ∉ S) : OwnR w' B v L :=
  ⟨owns_keeps h.out hk h1, fun i hi => owns_keeps (h.inn i hi) hk (h2 i hi), h.dis⟩
theorem OwnR.later (h : OwnR w B v L) (hb : Below w.heap.size w w') : OwnR w' B v L := h.keeps (Keeps.of_below hb) (.inr (by simp)) (fun _ _ => .inr (by simp))
theorem OwnR.mono {B' : Nat} (h : OwnR w B v L) (hB : B' ≤ B) : OwnR w B' v L := ⟨h.out.mono hB, fun i hi => (h.inn i hi).mono hB, h.dis⟩
theorem OwnR.drewN (h : OwnR w B v L) (m : Nat) : OwnR (w.drewN m) B v L := h.keeps (S := []) (Keeps.ofDrewN w m) (.inr (by simp)) (fun _ _ => .inr (by simp))
/-- an inner row stored at place j of the outer one -/
theorem OwnR.put {g n c j : Nat} {r : Row} (h : OwnR w B (.slice (some ⟨g, 0, none⟩) n c) L) (hn : n = L.length) (hj : j < L.length) (hr : w.ownsRow B 2 1 r.val r.xs.length (iv r.xs))
    (hd : ∀ i, i < L.length → i ≠ j → r.val.ownBlock = none ∨ r.val.ownBlock ≠ (rg L i).val.ownBlock) :
    OwnR (w.setCell ⟨g, j, none⟩ r.val) B (.slice (some ⟨g, 0, none⟩) n c) (L.set j r) := by
  subst hn
  have ks : Keeps w (w.setCell ⟨g, j, none⟩ r.val) [some g] := (Keeps.refl w [some g]).setCell (p := ⟨g, j, none⟩) (by simp) _
  have hrg : r.val.ownBlock = none ∨ r.val.ownBlock ∉ [some g] := by
    have := own_ne2 hr h.out (by decide)
    simpa [Value.ownBlock] using this
  refine ⟨?_, ?_, ?_⟩
  · have := (World.ownsRow.stored h.out j r.val).1
    rw [List.length_set]
    have e : hv (L.set j r) = (hv L).set j r.val := by simp [hv, List.map_set]
    rw [e]; exact this
  · intro i hi
    rw [List.length_set] at hi
    rw [rg_set hj]
    split
    · exact owns_keeps hr ks hrg
    · exact owns_keeps (h.inn i hi) ks (by have := h.io hi; simpa [Value.ownBlock] using this)
  · intro i i' hi hi' hne
    rw [List.length_set] at hi hi'
    rw [rg_set hj, rg_set hj]
    by_cases e1 : i = j
    · by_cases e2 : i' = j
      · omega
      · rw [if_pos e1, if_neg e2]; exact hd i' hi' e2
    · by_cases e2 : i' = j
      · rw [if_neg e1, if_pos e2]; exact none_or_symm (hd i hi e1)
      · rw [if_neg e1, if_neg e2]; exact h.dis i i' hi hi' hne
/-- an inner row written, the others as they were -/
theorem OwnR.inset {j : Nat} {ys : List Int} (h : OwnR w B v L) (hj : j < L.length) (hl : ys.length = (rg L j).xs.length) (hk : Keeps w w' [(rg L j).val.ownBlock])
    (hr : w'.ownsRow B 2 1 (rg L j).val (rg L j).xs.length (iv ys)) : OwnR w' B v (L.set j ⟨(rg L j).A, (rg L j).c, ys⟩) := by
  have ev : Row.val ⟨(rg L j).A, (rg L j).c, ys⟩ = (rg L j).val := by simp [Row.val, hl]
  refine ⟨?_, ?_, ?_⟩
  · rw [List.length_set]
    have e : hv (L.set j ⟨(rg L j).A, (rg L j).c, ys⟩) = hv L := by
      unfold hv
      rw [List.map_set, ev, rg_of hj]
      apply List.ext_getElem?
      intro i
      rw [List.getElem?_set]
      split
      · rename_i e; subst e; simp [hj]
      · rfl
    rw [e]
    exact owns_keeps h.out hk (by have := h.oi hj; simpa using this)
  · intro i hi
    rw [List.length_set] at hi
    rw [rg_set hj]
    split
    · rw [ev]; simp only [hl]; exact hr
    · rename_i hne
      exact owns_keeps (h.inn i hi) hk (by have := h.dis i j hi hj hne; simpa using this)
  · intro i i' hi hi' hne
    rw [List.length_set] at hi hi'
    rw [rg_set hj, rg_set hj]
    by_cases e1 : i = j
    · by_cases e2 : i' = j
      · omega
      · rw [if_pos e1, if_neg e2, ev, ← e1]; exact h.dis i i' hi hi' hne
    · by_cases e2 : i' = j
      · rw [if_neg e1, if_pos e2, ev, ← e2]; exact h.dis i i' hi hi' hne
      · rw [if_neg e1, if_neg e2]; exact h.dis i i' hi hi' hne
/-- an inner row appended -/
theorem OwnR.app {g c : Nat} {o : Obj} {r : Row} (h : OwnR w B v L) (hr : w.ownsRow B 2 1 r.val r.xs.length (iv r.xs)) (hd : ∀ i, i < L.length → r.val.ownBlock = none ∨ r.val.ownBlock ≠ (rg L i).val.ownBlock)
    (hown : w'.ownsRow B 30 1 (.slice (some ⟨g, 0, none⟩) (L.length + 1) c) (L.length + 1) (hv L ++ [r.val])) (hg : (w.alloc o).grownBy w' v.ownBlock) :
    OwnR w' B (.slice (some ⟨g, 0, none⟩) (L.length + 1) c) (L ++ [r]) := by
  have hk : Keeps w w' [v.ownBlock] := ((Keeps.refl w []).alloc o).trans (Keeps.of_grown hg) (by simp)
  have hrv : r.val.ownBlock = none ∨ r.val.ownBlock ≠ v.ownBlock := own_ne2 hr h.out (by decide)
  have e0 : ∀ i, i < L.length → rg (L ++ [r]) i = rg L i := fun i hi => by simp [rg, List.getD, List.getElem?_append, hi]
  have e1 : rg (L ++ [r]) L.length = r := by simp [rg, List.getD]
  refine ⟨?_, ?_, ?_⟩
  · rw [List.length_append]; simpa [hv] using hown
  · intro i hi
    rw [List.length_append] at hi
    simp only [List.length_singleton] at hi
    by_cases h1 : i < L.length
    · rw [e0 i h1]; exact owns_keeps (h.inn i h1) hk (by have := h.io h1; simpa using this)
    · have : i = L.length := by omega
      subst this
      rw [e1]; exact owns_keeps hr hk (by simpa using hrv)
  · intro i j hi hj hne
    rw [List.length_append] at hi hj
    simp only [List.length_singleton] at hi hj
    by_cases h1 : i < L.length
    · by_cases h2 : j < L.length
      · rw [e0 i h1, e0 j h2]; exact h.dis i j h1 h2 hne
      · have : j = L.length := by omega
        subst this
        rw [e0 i h1, e1]; exact none_or_symm (hd i h1)
    · have : i = L.length := by omega
      subst this
      rw [e1, e0 j (by omega)]; exact hd j (by omega)
theorem OwnR.cell {g n c k : Nat} (h : OwnR w B (.slice (some ⟨g, 0, none⟩) n c) L) (hn : n = L.length) (hk : k < L.length) : w.cell? ⟨g, k, none⟩ = some (rg L k).val ∧ w.frozen? ⟨g, k, none⟩ = false := by
  subst hn
  exact ⟨by rw [h.out.cellAt k (by omega)]; exact hv_get hk, h.out.frozenAt k⟩
theorem OwnR.nil (w : World) (B : Nat) : OwnR w B (.slice none 0 0) [] := ⟨World.ownsRow_nil _ _ _ _, (fun i hi => by cases hi), (fun i j hi => by cases hi)⟩
theorem OwnR.made (w : World) (hB : B ≤ w.heap.size) : OwnR (w.alloc (.cells #[] 30)) B (.slice (some ⟨w.heap.size, 0, none⟩) 0 0) [] :=
  ⟨World.ownsRow_made w #[] 0 hB (by decide) (by simp), (fun i hi => by cases hi), (fun i j hi => by cases hi)⟩
end
end Go.Proofs.Ytnffpjdlpjkioaa

namespace Go.Proofs.Ytnffpjdlpjkioaa
open Go.RowKit

/-- what the size of rows of rows leaves -/
def SzOk (n t : Nat) (left z : Int) : Prop := z = -1 ∨ (0 ≤ z ∧ z + n + t = left)
set_option maxHeartbeats 1000000 in
theorem szRows_any (A : Option Addr) (n c : Nat) (L : List Row) (left : Int) (w : World) (hn : n = L.length) (hsm : n ≤ 9223372036854775807) (hl : ∀ i, i < L.length → (rg L i).xs.length ≤ 9223372036854775807) (h0 : 0 ≤ left) (h1 : left ≤ 1048576) (hR : RdR w A L) :
    Calls Try.prog 47 #[.slice A n c, .int .i64 left] w fun e w' => ∃ z : Int, e = .returned (.int .i64 z) ∧ SzOk n (tot L) left z ∧ w = w' := by
  by_cases h : left - n < 0
  · go_enter Try.func47, Try.ntmps47
    go_wp2_with fail
    go_ret
    exact ⟨-1, rfl, .inl rfl, rfl⟩
  · have Hn := Lib.hid hn
    have HR := Lib.hid hR
    have HL := Lib.hid hl
    clear hn hR hl
    go_enter Try.func47, Try.ntmps47
    go_wp2_with fail
    go_loop [1, 5] (fun q i => ∃ k t : Nat, k ≤ n ∧ i = .int .i64 k ∧ Hid (t = tot (L.take k)) ∧ (t : Int) ≤ left - n ∧ q = .int .i64 (left - n - t)) (fun _ i => n - (intOf i).toNat)
    case atStart => exact ⟨0, 0, by omega, rfl, Lib.hid (by simp [tot]), by omega, by simp⟩
    case round =>
      obtain ⟨k, t, hk, rfl, HT, ht, rfl⟩ := hrel
      by_cases hlt : k < n
      · have hkL : k < L.length := by rw [← Hn.out]; exact hlt
        obtain ⟨b, o, rfl, hc⟩ := HR.out.at_ hkL
        have hs := HL.out k hkL
        have HS := Lib.hid (tot_succ hkL)
        have hz := fun W => szInts_any (rg L k).A (rg L k).xs.length (rg L k).c (left - n - t) W hs (by omega) (by omega)
        generalize rg L k = r at *
        by_cases h2 : left - n - t - r.xs.length < 0
        · rw [show szV r.xs.length (left - n - t) = -1 by unfold szV; rw [if_pos h2]] at hz
          have HZ := Lib.hid hz
          clear hz
          go_wp2_with (go_at_call 80; refine (HZ.out _).mono ?_; rintro e w' ⟨rfl, rfl⟩)
          go_ret
          exact ⟨-1, rfl, .inl rfl, rfl⟩
        · rw [show szV r.xs.length (left - n - t) = left - n - t - r.xs.length by unfold szV; rw [if_neg h2]] at hz
          have HZ := Lib.hid hz
          clear hz
          go_wp2_with (go_at_call 80; refine (HZ.out _).mono ?_; rintro e w' ⟨rfl, rfl⟩)
          go_round
          case rel => exact ⟨k + 1, t + r.xs.length, by omega, by go_num, Lib.hid (by rw [HS.out, HT.out]), by omega, by simp; omega⟩
          case measure => simp [intOf]; omega
      · have e : t = tot L := by rw [HT.out, tot_all (by rw [← Hn.out]; omega)]
        have HE := Lib.hid e
        clear e
        go_wp2_with fail
        go_ret
        exact ⟨left - n - t, rfl, .inr ⟨by omega, by rw [← HE.out]; omega⟩, rfl⟩

theorem hv_replicate (n : Nat) : (madeCells #[Value.slice none 0 0] n).toList = hv (List.replicate n r0) := by
  simp [hv, madeCells, Row.val, r0]
  apply List.ext_getElem?
  intro i
  by_cases h : i < n
  · simp [h, Nat.mod_one]
  · simp [h]
theorem rg_replicate (n i : Nat) : rg (List.replicate n r0) i = r0 := by
  simp only [rg, List.getD, List.getElem?_replicate]
  split <;> rfl

set_option maxRecDepth 100000 in
set_option maxHeartbeats 2000000 in
theorem toRows_any (A : Option Addr) (n c : Nat) (L : List Row) (w : World) (hn : n = L.length) (hsm : n ≤ 1048576) (hl : ∀ i, i < L.length → (rg L i).xs.length ≤ 1048576) (hR : RdR w A L) :
    Calls Try.prog 51 #[.slice A n c] w fun e w' => ∃ g M, e = .returned (.slice (some ⟨g, 0, none⟩) n n) ∧ dat M = dat L ∧ OwnR w' w.heap.size (.slice (some ⟨g, 0, none⟩) n n) M ∧ Below w.heap.size w w' := by
  obtain ⟨i0, hi0, hz0, hz1, hz2⟩ := info_parts infoS
  have Hn := Lib.hid hn
  have HR := Lib.hid hR
  have HL := Lib.hid hl
  clear hn hR hl
  go_enter Try.func51, Try.ntmps51
  go_wp2_with (at_make; refine wpList_make_full _ rfl _ _ 22 rfl w.heap.size 30 i0 _ 1 Try.underlying22 hi0 hz0 hz1 _ _ _ _ n rfl rfl rfl rfl ?b1 ?b2 ?b3 ?_)
  case b1 => rw [hz2]; omega
  case b2 => unfold maxLen; omega
  case b3 => exact Nat.le_refl _
  intro w1 hown hgrow
  have HG := Lib.hid (Below.grown (Below.refl w.heap.size w) hgrow (Nat.le_refl _) (by intro k h; cases h))
  have HO : Hid (OwnR w1 w.heap.size (.slice (some ⟨w.heap.size, 0, none⟩) n n) (List.replicate n r0)) := by
    show OwnR _ _ _ _
    rw [hv_replicate] at hown
    refine ⟨by rw [List.length_replicate]; exact hown, ?_, ?_⟩
    · intro i hi; rw [rg_replicate]; exact World.ownsRow_nil _ _ _ _
    · intro i j hi hj hne; rw [rg_replicate]; exact .inl rfl
  clear hown hgrow hi0 hz0 hz1 hz2
  go_wp2_with fail
  go_loopw [4] (fun i wr => ∃ k : Nat, k ≤ n ∧ i = .int .i64 k ∧ (∃ M : List Row, M.length = n ∧ (∀ i, i < k → (rg M i).xs = (rg L i).xs) ∧ OwnR wr w.heap.size (.slice (some ⟨w.heap.size, 0, none⟩) n n) M) ∧ Below w.heap.size w wr) (fun i _ => n - (intOf i).toNat)
  case atStart => exact ⟨0, by omega, rfl, ⟨_, by simp, (fun i hi => by omega), HO.out⟩, HG.out⟩
  case round =>
    obtain ⟨k, hk, rfl, ⟨M, hml, hmt, hown⟩, hbel⟩ := hrel
    have hsz : w.heap.size ≤ wr.heap.size := hbel.size
    by_cases hlt : k < n
    · have hkL : k < L.length := by rw [← Hn.out]; exact hlt
      obtain ⟨b, o, rfl, hc⟩ := (HR.out.below hbel).at_ hkL
      have hRi := (HR.out.below hbel).inn k hkL
      have hs := HL.out k hkL
      have HT := Lib.hid hmt
      have HO' := Lib.hid hown
      have HB := Lib.hid hbel
      have HM := Lib.hid hml
      have HX : Hid ((rg L k).xs = (rg L k).xs) := Lib.hid rfl
      have HC := Lib.hid (toInts_any (rg L k).A (rg L k).xs.length (rg L k).c (rg L k).xs wr rfl hs hRi)
      clear hmt hown hbel hml hRi
      generalize hr : rg L k = r at *
      have Hr := Lib.hid hr
      clear hr
      go_wp2_with fail
      refine HC.out.mono ?_
      rintro e w2 ⟨g, rfl, ho, hb⟩
      have hO2 := HO'.out.later hb
      obtain ⟨hcell, hfz⟩ := hO2.cell HM.out.symm (k := k) (by rw [HM.out]; exact hlt)
      have hsz2 := hb.size
      have hg := ho.lt g rfl
      have HP := Lib.hid (OwnR.put (r := ⟨some ⟨g, 0, none⟩, r.xs.length, r.xs⟩) hO2 HM.out.symm (by rw [HM.out]; exact hlt) (ho.mono hsz) (fun i hi hne => .inr (by
        intro e
        have h1 := ((HO'.out.inn i hi).lt g (by rw [← e]; rfl)).2
        omega)))
      have HB2 := Lib.hid (HB.out.trans (hb.mono hsz))
      generalize (rg M k).val = oldv at *
      clear ho hb hO2
      go_wp2_with fail
      go_roundw
      case rel =>
        refine ⟨k + 1, by omega, by go_num, ⟨_, by rw [List.length_set]; exact HM.out, ?_, HP.out⟩, HB2.out.setCell (p := ⟨w.heap.size, k, none⟩) (Nat.le_refl _) _⟩
        intro i hi
        rw [rg_set (by rw [HM.out]; exact hlt)]
        split
        · rename_i e; subst e; rw [Hr.out]
        · exact HT.out i (by omega)
      case measure => simp [intOf]; omega
    · have e : dat M = dat L := rows_ext (by rw [hml]; exact Hn.out) (fun i hi => hmt i (by rw [← Hn.out] at hi; omega))
      have HE := Lib.hid e
      have HO' := Lib.hid hown
      have HB := Lib.hid hbel
      clear hown hbel hmt hml e
      go_wp2_with fail
      go_ret
      exact ⟨w.heap.size, M, rfl, HE.out, HO'.out, HB.out⟩
end Go.Proofs.Ytnffpjdlpjkioaa

namespace Go.Proofs.Ytnffpjdlpjkioaa
open Go.RowKit

theorem eqI_refl (xs : List Int) : eqI xs xs = true := by simp [eqI]
theorem quiet_any {P : Program} {f : FuncId} {args : Array Value} {w : World} {n : Nat} {v : Value}
    (h : Calls P f args (w.drewN n) fun e w' => e = .returned v ∧ ∃ m, (w.drewN n).drewN m = w') : Calls P f args (w.drewN n) fun e w'' => e = .returned v ∧ ∃ m, w'' = w.drewN m :=
  h.mono fun _ _ ⟨he, m, hm⟩ => ⟨he, n + m, by rw [← hm, World.drewN_drewN]⟩
theorem quiet_any_add {P : Program} {f : FuncId} {args : Array Value} {w : World} {a n : Nat} {v : Value}
    (h : Calls P f args (w.drewN (a + n)) fun e w' => e = .returned v ∧ ∃ m, (w.drewN (a + n)).drewN m = w') : Calls P f args (w.drewN (a + n)) fun e w'' => e = .returned v ∧ ∃ m, w'' = w.drewN (a + m) :=
  h.mono fun _ _ ⟨he, m, hm⟩ => ⟨he, n + m, by rw [← hm, World.drewN_drewN, Nat.add_assoc]⟩

set_option maxRecDepth 100000 in
set_option maxHeartbeats 1000000 in
theorem eqRows_any (A A' : Option Addr) (n n' c c' : Nat) (L M : List Row) (w : World) (hn : n = L.length) (hn' : n' = M.length) (hsm : n ≤ 1099511627776) (hl : ∀ i, i < L.length → (rg L i).xs.length ≤ 1099511627776) (hd : dat M = dat L) (hR : RdR w A L) (hR' : RdR w A' M) :
    Calls Try.prog 32 #[.slice A n c, .slice A' n' c'] w fun e w' => e = .returned (.bool true) ∧ ∃ m, w.drewN m = w' := by
  obtain ⟨hml, hx⟩ := dat_xs hd
  obtain rfl : n = n' := by omega
  have Hn := Lib.hid hn
  have Hn' := Lib.hid hn'
  have HR := Lib.hid hR
  have HR' := Lib.hid hR'
  have HX := Lib.hid hx
  have HL := Lib.hid hl
  clear hn hn' hR hR' hx hl hml hd
  go_enter Try.func32, Try.ntmps32
  go_wp2_with fail
  go_loopw [5] (fun i wr => ∃ k : Nat, k ≤ n ∧ i = .int .i64 k ∧ (∃ m, wr = w.drewN m)) (fun i _ => n - (intOf i).toNat)
  case atStart => exact ⟨0, by omega, rfl, ⟨0, rfl⟩⟩
  case round =>
    obtain ⟨k, hk, rfl, ⟨m, rfl⟩⟩ := hrel
    by_cases hlt : k < n
    · have hkL : k < L.length := by rw [← Hn.out]; exact hlt
      have hkM : k < M.length := by rw [← Hn'.out]; exact hlt
      obtain ⟨b, o, rfl, hc⟩ := HR.out.at_ hkL
      obtain ⟨b', o', rfl, hc'⟩ := HR'.out.at_ hkM
      have h1 := HR.out.inn k hkL
      have h2 := HR'.out.inn k hkM
      have hs := HL.out k hkL
      have he := HX.out k
      generalize rg L k = r at *
      generalize rg M k = s at *
      rw [he] at h2 hc'
      have HE := Lib.hid (fun W hb => eqInts_any r.A s.A r.xs.length r.xs.length r.c s.c r.xs r.xs W rfl rfl hs hs (Rd.below h1 hb) (Rd.below h2 hb))
      rw [eqI_refl] at HE
      clear h1 h2 he
      go_wp2_with fail
      go_quiet ((go_at_call 18; first | exact quiet_any_add (HE.out _ (below_drewN (Below.refl _ _) _)) | exact quiet_any (HE.out _ (below_drewN (Below.refl _ _) _))))
      go_wp2_with fail
      go_roundw
      case rel => exact ⟨k + 1, by omega, by go_num, ⟨_, rfl⟩⟩
      case measure => simp [intOf]; omega
    · go_wp2_with fail
      go_ret
      exact ⟨rfl, m, rfl⟩

/-- all but the blocks lo .. hi is as it was -/
structure Within (lo hi : Nat) (w w' : World) : Prop where
  os : w'.os = w.os
  tape : w'.tape = w.tape
  output : w'.output = w.output
  size : w.heap.size ≤ w'.heap.size
  block : ∀ k, k < w.heap.size → (k < lo ∨ hi ≤ k) → w'.heap[k]? = w.heap[k]?
section
variable {w w1 w' : World} {lo hi : Nat}
theorem Within.refl (w : World) (lo hi : Nat) : Within lo hi w w := ⟨rfl, rfl, rfl, Nat.le_refl _, fun _ _ _ => rfl⟩
theorem Within.trans (h : Within lo hi w w1) (k : Within lo hi w1 w') : Within lo hi w w' :=
  ⟨k.os.trans h.os, k.tape.trans h.tape, k.output.trans h.output, Nat.le_trans h.size k.size, fun j hj hn => (k.block j (Nat.lt_of_lt_of_le hj h.size) hn).trans (h.block j hj hn)⟩
theorem Within.of_keeps {b : Option Nat} (h : Keeps w w' [b]) (hb : ∀ k, b = some k → lo ≤ k ∧ k < hi) : Within lo hi w w' :=
  ⟨h.os, h.tape, h.output, h.size, fun j hj hn => h.block j hj (by
    simp only [List.mem_singleton]
    intro e
    have := hb j e.symm
    omega)⟩
theorem Within.of_below (h : Below w.heap.size w w') : Within lo hi w w' := ⟨h.os, h.tape, h.output, h.size, fun j hj _ => h.block j hj⟩
theorem Within.to_below {B : Nat} (h : Within lo hi w w') (hB : B ≤ w.heap.size) (hlo : B ≤ lo) : Below B w w' :=
  ⟨h.os, h.tape, h.output, h.size, fun j hj => h.block j (by omega) (.inl (by omega))⟩
end

/-- all but the inner rows of L is as it was -/
structure OnlyR (L : List Row) (w w' : World) : Prop where
  os : w'.os = w.os
  tape : w'.tape = w.tape
  output : w'.output = w.output
  size : w.heap.size ≤ w'.heap.size
  block : ∀ k, k < w.heap.size → (∀ i, i < L.length → (rg L i).val.ownBlock ≠ some k) → w'.heap[k]? = w.heap[k]?
section
variable {w w1 w' : World} {L : List Row}
theorem OnlyR.refl (w : World) (L : List Row) : OnlyR L w w := ⟨rfl, rfl, rfl, Nat.le_refl _, fun _ _ _ => rfl⟩
theorem OnlyR.trans (h : OnlyR L w w1) (k : OnlyR L w1 w') : OnlyR L w w' :=
  ⟨k.os.trans h.os, k.tape.trans h.tape, k.output.trans h.output, Nat.le_trans h.size k.size, fun j hj hn => (k.block j (Nat.lt_of_lt_of_le hj h.size) hn).trans (h.block j hj hn)⟩
theorem OnlyR.of_keeps {j : Nat} (hj : j < L.length) (h : Keeps w w' [(rg L j).val.ownBlock]) : OnlyR L w w' :=
  ⟨h.os, h.tape, h.output, h.size, fun k hk hn => h.block k hk (by simp only [List.mem_singleton]; exact fun e => hn j hj e.symm)⟩
theorem OnlyR.own {B n : Nat} {e : TypeId} {v : Value} {xs : List Value} (h : OnlyR L w w') (ho : w.ownsRow B e 1 v n xs) (hd : ∀ i, i < L.length → v.ownBlock = none ∨ v.ownBlock ≠ (rg L i).val.ownBlock) : w'.ownsRow B e 1 v n xs := by
  refine ⟨ho.1, ?_⟩
  rcases ho.2 with h0 | ⟨g, cap, cur, rfl, hb, hg, rest⟩
  · exact .inl h0
  · refine .inr ⟨g, cap, cur, rfl, hb, ?_, rest⟩
    rw [h.block g (Array.getElem?_eq_some_iff.1 hg).1 (fun i hi e => by
      rcases hd i hi with h' | h'
      · cases h'
      · exact h' e.symm)]
    exact hg
theorem OnlyR.within {B hi : Nat} {v : Value} (h : OnlyR L w w') (ho : OwnR w B v L) (hh : ∀ i, i < L.length → ∀ k, (rg L i).val.ownBlock = some k → k < hi) : Within B hi w w' :=
  ⟨h.os, h.tape, h.output, h.size, fun k hk hn => h.block k hk (fun i hi' e => by
    have h1 := ((ho.inn i hi').lt k e).1
    have h2 := hh i hi' k e
    omega)⟩
end

/-- rows of rows that hold the marks from k0 on, up to place j -/
def MarkTo (k0 : Int) (L M : List Row) (j : Nat) : Prop :=
  M.length = L.length ∧ ∀ i, i < L.length → (rg M i).A = (rg L i).A ∧ (rg M i).c = (rg L i).c ∧ (rg M i).xs.length = (rg L i).xs.length ∧ (i < j → (rg M i).xs = marks (k0 + tot (L.take i)) (rg L i).xs.length)
def marksR (k0 : Int) : List Row → List Row
  | [] => []
  | r :: L => ⟨r.A, r.c, marks k0 r.xs.length⟩ :: marksR (k0 + r.xs.length) L
theorem marksR_length (k0 : Int) (L : List Row) : (marksR k0 L).length = L.length := by
  induction L generalizing k0 with
  | nil => rfl
  | cons r L ih => simp [marksR, ih]
theorem rg_cons_succ (r : Row) (L : List Row) (i : Nat) : rg (r :: L) (i + 1) = rg L i := by simp [rg, List.getD]
theorem rg_cons_zero (r : Row) (L : List Row) : rg (r :: L) 0 = r := by simp [rg, List.getD]
theorem rg_marksR (k0 : Int) (L : List Row) (i : Nat) (hi : i < L.length) : rg (marksR k0 L) i = ⟨(rg L i).A, (rg L i).c, marks (k0 + tot (L.take i)) (rg L i).xs.length⟩ := by
  induction L generalizing k0 i with
  | nil => simp at hi
  | cons r L ih =>
    cases i with
    | zero => simp [marksR, rg_cons_zero, tot]
    | succ i =>
      simp only [marksR, rg_cons_succ]
      rw [ih _ _ (by simpa using hi)]
      have : (k0 + (r.xs.length : Int) + (tot (L.take i) : Int)) = k0 + (tot ((r :: L).take (i + 1)) : Int) := by simp [tot]; omega
      rw [this]
theorem markTo_all {k0 : Int} {L M : List Row} (h : MarkTo k0 L M L.length) : M = marksR k0 L := by
  apply List.ext_getElem (by rw [h.1, marksR_length])
  intro i h1 h2
  have hi : i < L.length := by rw [← h.1]; exact h1
  obtain ⟨a, b, c, d⟩ := h.2 i hi
  have e := rg_marksR k0 L i hi
  rw [rg_of h2] at e
  rw [e]
  rw [rg_of h1] at a b c d
  rw [← a, ← b, ← d hi]
theorem marksR_tot (k0 : Int) (L : List Row) : tot (marksR k0 L) = tot L := by
  induction L generalizing k0 with
  | nil => rfl
  | cons r L ih => simp only [tot, marksR, List.map_cons, List.sum_cons, marks_length]; have := ih (k0 + r.xs.length); simp only [tot] at this; rw [this]

set_option maxRecDepth 100000 in
set_option maxHeartbeats 1000000 in
theorem markRowsO_any (B : Nat) (v : Value) (L : List Row) (k0 : Int) (w : World) (hown : OwnR w B v L) (hsm : L.length ≤ 1048576) (ht : tot L ≤ 1048576) (h0 : 0 ≤ k0) (h1 : k0 ≤ 1000000000000) :
    Calls Try.prog 33 #[v, .int .i64 k0] w fun e w' => e = .returned (.int .i64 (k0 + tot L)) ∧ OwnR w' B v (marksR k0 L) ∧ OnlyR L w w' := by
  obtain ⟨A, c, rfl, _, hA, _⟩ := owns_shape hown.out
  have HO := Lib.hid hown
  have HA := Lib.hid hA
  have HT0 := Lib.hid (fun k => Nat.le_trans (tot_take_le L k) ht)
  generalize hn : L.length = n at *
  have HN := Lib.hid hn
  clear hown hA hn
  go_enter Try.func33, Try.ntmps33
  go_wp2_with fail
  go_loopw [1, 5] (fun q i wr => ∃ j t : Nat, j ≤ n ∧ i = .int .i64 j ∧ Hid (t = tot (L.take j)) ∧ t ≤ 1048576 ∧ q = .int .i64 (k0 + t) ∧ (∃ M, MarkTo k0 L M j ∧ OwnR wr B (.slice A n c) M) ∧ OnlyR L w wr) (fun _ i _ => n - (intOf i).toNat)
  case atStart =>
    refine ⟨0, 0, by omega, rfl, Lib.hid (by simp [tot]), by omega, by simp, ⟨L, ⟨rfl, fun i _ => ⟨rfl, rfl, rfl, fun h => by omega⟩⟩, HO.out⟩, OnlyR.refl _ _⟩
  case round =>
    obtain ⟨j, t, hj, rfl, HT, ht', rfl, ⟨M, hM, hown⟩, hwi⟩ := hrel
    by_cases hlt : j < n
    · have hjL : j < L.length := by rw [HN.out]; exact hlt
      have hjM : j < M.length := by rw [hM.1]; exact hjL
      obtain ⟨g, rfl, _, _⟩ := HA.out (by omega)
      obtain ⟨hcell, _⟩ := hown.cell (by rw [hM.1, HN.out]) hjM
      have hS := tot_succ hjL
      have ht2 := HT0.out (j + 1)
      have hle := len_le_tot hjL
      obtain ⟨e1, e2, e3, _⟩ := hM.2 j hjL
      have hin := hown.inn j hjM
      have hev : (rg M j).val = (rg L j).val := by simp [Row.val, e1, e2, e3]
      have HS := Lib.hid hS
      have hlen : (rg L j).xs.length + t ≤ 1048576 := by have h9 := HT.out; omega
      have HC := Lib.hid (markInts_any B (rg M j).val (rg M j).xs.length (rg M j).xs (k0 + t) wr hin (by rw [e3]; omega) (by omega) (by omega))
      have HM := Lib.hid hM
      have HO' := Lib.hid hown
      have HW := Lib.hid hwi
      have HEV := Lib.hid hev
      have HE3 := Lib.hid e3
      have HE1 := Lib.hid e1
      have HE2 := Lib.hid e2
      clear hM hown hwi e1 e2 e3 hin hev hS ht2 hle
      have hcv : wr.cell? ⟨g, j, none⟩ = some (.slice (rg M j).A (rg M j).xs.length (rg M j).c) := hcell
      clear hcell
      have HC' : Hid (Calls Try.prog 19 #[.slice (rg M j).A (rg M j).xs.length (rg M j).c, .int .i64 (k0 + t)] wr fun e w' => e = .returned (.int .i64 (k0 + t + ((rg M j).xs.length : Nat))) ∧ w'.ownsRow B 2 1 (rg M j).val (rg M j).xs.length (iv (marks (k0 + t) (rg M j).xs.length)) ∧ Keeps wr w' [(rg M j).val.ownBlock]) := HC.out
      clear HC
      generalize hs : rg M j = s at *
      have Hs := Lib.hid hs
      clear hs
      have hsl : s.xs.length + t ≤ 1048576 := by rw [HE3.out]; exact hlen
      go_wp2_with fail
      refine HC'.out.mono ?_
      rintro e w2 ⟨rfl, ho, hk⟩
      have HO2 := Lib.hid (HO'.out.inset (ys := marks (k0 + t) s.xs.length) hjM (by rw [marks_length, Hs.out]) (by rw [Hs.out]; exact hk) (by rw [Hs.out]; exact ho))
      have HW2 := Lib.hid (HW.out.trans (OnlyR.of_keeps hjL (by rw [← HEV.out]; exact hk)))
      clear ho hk
      go_wp2_with fail
      go_roundw
      case rel =>
        refine ⟨j + 1, t + s.xs.length, by omega, by go_num, Lib.hid (by rw [HS.out, HT.out, HE3.out]), by omega, by simp; omega, ⟨_, ?_, HO2.out⟩, HW2.out⟩
        refine ⟨by rw [List.length_set]; exact HM.out.1, fun i hi => ?_⟩
        rw [rg_set hjM]
        split
        · rename_i e; subst e
          refine ⟨by rw [Hs.out]; exact HE1.out, by rw [Hs.out]; exact HE2.out, by simp only [marks_length]; exact HE3.out, fun _ => ?_⟩
          simp only
          rw [HE3.out, HT.out]
        · obtain ⟨a1, a2, a3, a4⟩ := HM.out.2 i hi
          exact ⟨a1, a2, a3, fun h => a4 (by omega)⟩
      case measure => simp [intOf]; omega
    · obtain rfl : n = j := by omega
      have e : M = marksR k0 L := markTo_all (by rw [HN.out]; exact hM)
      have e2 : t = tot L := by rw [HT.out, tot_all (by rw [HN.out]; exact Nat.le_refl _)]
      rw [e] at hown
      have HO' := Lib.hid hown
      have HW := Lib.hid hwi
      have HE := Lib.hid e2
      clear hown hwi e hM e2
      go_wp2_with fail
      go_ret
      exact ⟨by rw [← HE.out]; rfl, HO'.out, HW.out⟩

theorem markRows_any (B hi : Nat) (v : Value) (L : List Row) (k0 : Int) (w : World) (hown : OwnR w B v L) (hsm : L.length ≤ 1048576) (ht : tot L ≤ 1048576) (h0 : 0 ≤ k0) (h1 : k0 ≤ 1000000000000)
    (hhi : ∀ i, i < L.length → ∀ k, (rg L i).val.ownBlock = some k → k < hi) :
    Calls Try.prog 33 #[v, .int .i64 k0] w fun e w' => e = .returned (.int .i64 (k0 + tot L)) ∧ OwnR w' B v (marksR k0 L) ∧ Within B hi w w' :=
  (markRowsO_any B v L k0 w hown hsm ht h0 h1).mono fun _ _ ⟨he, ho, hk⟩ => ⟨he, ho, hk.within hown hhi⟩

set_option maxRecDepth 100000 in
set_option maxHeartbeats 1000000 in
theorem heldRows_any (A : Option Addr) (n c : Nat) (L : List Row) (k0 : Int) (w : World) (hn : n = L.length) (hR : RdR w A (marksR k0 L)) (hsm : n ≤ 1048576) (ht : tot L ≤ 1048576) (h0 : 0 ≤ k0) (h1 : k0 ≤ 1000000000000) :
    Calls Try.prog 34 #[.slice A n c, .int .i64 k0] w fun e w' => e = .returned (.int .i64 (k0 + tot L)) ∧ w = w' := by
  have HR := Lib.hid hR
  have Hn := Lib.hid hn
  have HT0 := Lib.hid (fun k => Nat.le_trans (tot_take_le L k) ht)
  clear hR hn
  go_enter Try.func34, Try.ntmps34
  go_wp2_with fail
  go_loop [1, 5] (fun q i => ∃ j t : Nat, j ≤ n ∧ i = .int .i64 j ∧ Hid (t = tot (L.take j)) ∧ t ≤ 1048576 ∧ q = .int .i64 (k0 + t)) (fun _ i => n - (intOf i).toNat)
  case atStart => exact ⟨0, 0, by omega, rfl, Lib.hid (by simp [tot]), by omega, by simp⟩
  case round =>
    obtain ⟨j, t, hj, rfl, HT, ht', rfl⟩ := hrel
    by_cases hlt : j < n
    · have hjL : j < L.length := by rw [← Hn.out]; exact hlt
      have hjM : j < (marksR k0 L).length := by rw [marksR_length]; exact hjL
      obtain ⟨b, o, rfl, hc⟩ := HR.out.at_ hjM
      have h2 := HR.out.inn j hjM
      rw [rg_marksR k0 L j hjL] at hc h2
      simp only [marks_length] at hc h2
      have HS := Lib.hid (tot_succ hjL)
      have ht2 := HT0.out (j + 1)
      have hlen : (rg L j).xs.length + t ≤ 1048576 := by have h9 := HT.out; have h8 := HS.out; omega
      rw [← HT.out] at h2
      generalize rg L j = r at *
      have HH := Lib.hid (fun W (hb : w = W) => heldInts_any r.A r.xs.length r.c (k0 + t) W (hb ▸ h2) (by omega) (by omega) (by omega))
      clear h2 ht2
      have hk0 : ¬ (k0 + (t : Int) + (r.xs.length : Int) < 0) := by omega
      go_wp2_with (go_at_call 67; refine (HH.out _ rfl).mono ?_; rintro e w' ⟨rfl, rfl⟩)
      go_round
      case rel => exact ⟨j + 1, t + r.xs.length, by omega, by go_num, Lib.hid (by rw [HS.out, HT.out]), by omega, by simp; omega⟩
      case measure => simp [intOf]; omega
    · have e2 : t = tot L := by rw [HT.out, tot_all (by rw [← Hn.out]; omega)]
      have HE := Lib.hid e2
      clear e2
      go_wp2_with fail
      go_ret
      exact ⟨by rw [← HE.out]; rfl, rfl⟩
end Go.Proofs.Ytnffpjdlpjkioaa

namespace Go.Proofs.Ytnffpjdlpjkioaa
open Go.RowKit

/-- the blocks lo .. hi are as they were -/
def Same (lo hi : Nat) (w w' : World) : Prop := ∀ k, lo ≤ k → k < hi → w'.heap[k]? = w.heap[k]?
/-- a fact on the blocks lo .. hi alone -/
structure Piece where
  lo : Nat
  hi : Nat
  p : World → Prop
  loc : ∀ w w', Same lo hi w w' → p w → p w'

theorem own_same {lo hi : Nat} {w w' : World} {e : TypeId} {v : Value} {n : Nat} {xs : List Value} (hs : Same lo hi w w') (h : w.ownsRow lo e 1 v n xs) (hh : ∀ k, v.ownBlock = some k → k < hi) : w'.ownsRow lo e 1 v n xs := by
  refine ⟨h.1, ?_⟩
  rcases h.2 with h0 | ⟨g, cap, cur, rfl, hb, hg, rest⟩
  · exact .inl h0
  · refine .inr ⟨g, cap, cur, rfl, hb, ?_, rest⟩
    rw [hs g hb (hh g rfl)]
    exact hg
/-- all rows lie below hi -/
def UpR (hi : Nat) (v : Value) (L : List Row) : Prop := (∀ k, v.ownBlock = some k → k < hi) ∧ ∀ i, i < L.length → ∀ k, (rg L i).val.ownBlock = some k → k < hi
theorem OwnR.up {w : World} {B : Nat} {v : Value} {L : List Row} (h : OwnR w B v L) : UpR w.heap.size v L := ⟨fun k hk => (h.out.lt k hk).2, fun i hi k hk => ((h.inn i hi).lt k hk).2⟩
theorem OwnR.same {lo hi : Nat} {w w' : World} {v : Value} {L : List Row} (hs : Same lo hi w w') (h : OwnR w lo v L) (hu : UpR hi v L) : OwnR w' lo v L :=
  ⟨own_same hs h.out hu.1, fun i hi => own_same hs (h.inn i hi) (hu.2 i hi), h.dis⟩
theorem UpR.marks {hi : Nat} {v : Value} {L : List Row} (h : UpR hi v L) (k0 : Int) : UpR hi v (marksR k0 L) :=
  ⟨h.1, fun i hi' k hk => by
    rw [marksR_length] at hi'
    rw [rg_marksR k0 L i hi'] at hk
    have e : Row.val ⟨(rg L i).A, (rg L i).c, Go.Proofs.Ytnffpjdlpjkioaa.marks (k0 + tot (L.take i)) (rg L i).xs.length⟩ = (rg L i).val := by simp [Row.val, marks_length]
    rw [e] at hk
    exact h.2 i hi' k hk⟩

def ownP (lo hi : Nat) (e : TypeId) (v : Value) (n : Nat) (xs : List Value) : Piece :=
  ⟨lo, hi, fun w => w.ownsRow lo e 1 v n xs ∧ ∀ k, v.ownBlock = some k → k < hi, fun _ _ hs h => ⟨own_same hs h.1 h.2, h.2⟩⟩
def rowsP (lo hi : Nat) (v : Value) (L : List Row) : Piece :=
  ⟨lo, hi, fun w => OwnR w lo v L ∧ UpR hi v L, fun _ _ hs h => ⟨h.1.same hs h.2, h.2⟩⟩
def boxP (g : Nat) (cs : Array Value) (t : TypeId) : Piece :=
  ⟨g, g + 1, fun w => w.heap[g]? = some (.cells cs t (0, 0)), fun _ _ hs h => (hs g (Nat.le_refl _) (by omega)).trans h⟩

/-- w0: the world as the law began; below its end nothing has turned. -/
structure Inw (w0 w : World) (L : List Piece) : Prop where
  bel : Below w0.heap.size w0 w
  all : ∀ c ∈ L, w0.heap.size ≤ c.lo ∧ c.hi ≤ w.heap.size ∧ c.p w
  off : L.Pairwise fun a b => b.hi ≤ a.lo ∨ a.hi ≤ b.lo

section
variable {w0 w w' : World} {L : List Piece}
theorem Inw.start (w : World) : Inw w w [] := ⟨Below.refl _ _, by simp, .nil⟩
theorem Inw.size (h : Inw w0 w L) : w0.heap.size ≤ w.heap.size := h.bel.size
theorem Inw.step (h : Inw w0 w L) (hb : Below w.heap.size w w') : Inw w0 w' L :=
  ⟨h.bel.trans (hb.mono h.bel.size), fun c hc => ⟨(h.all c hc).1, Nat.le_trans (h.all c hc).2.1 hb.size, c.loc w w' (fun k _ hk => hb.block k (Nat.lt_of_lt_of_le hk (h.all c hc).2.1)) (h.all c hc).2.2⟩, h.off⟩
theorem Inw.push (h : Inw w0 w L) (hb : Below w.heap.size w w') (c : Piece) (hlo : w.heap.size ≤ c.lo) (hhi : c.hi ≤ w'.heap.size) (hp : c.p w') : Inw w0 w' (c :: L) := by
  have h1 := h.step hb
  refine ⟨h1.bel, ?_, List.pairwise_cons.2 ⟨?_, h.off⟩⟩
  · intro d hd
    rcases List.mem_cons.1 hd with rfl | hd
    · exact ⟨Nat.le_trans h.bel.size hlo, hhi, hp⟩
    · exact h1.all d hd
  · intro d hd
    exact .inl (Nat.le_trans (h.all d hd).2.1 hlo)
theorem Inw.get (h : Inw w0 w L) (i : Nat) {c : Piece} (hi : L[i]? = some c) : c.p w := (h.all c (List.mem_of_getElem? hi)).2.2
theorem Inw.own (h : Inw w0 w L) (i : Nat) {lo hi : Nat} {e : TypeId} {v : Value} {n : Nat} {xs : List Value} (hi' : L[i]? = some (ownP lo hi e v n xs)) : w.ownsRow lo e 1 v n xs := (h.get i hi').1
theorem Inw.rows (h : Inw w0 w L) (i : Nat) {lo hi : Nat} {v : Value} {M : List Row} (hi' : L[i]? = some (rowsP lo hi v M)) : OwnR w lo v M := (h.get i hi').1
theorem Inw.rowsUp (h : Inw w0 w L) (i : Nat) {lo hi : Nat} {v : Value} {M : List Row} (hi' : L[i]? = some (rowsP lo hi v M)) : UpR hi v M := (h.get i hi').2
theorem Inw.box (h : Inw w0 w L) (i : Nat) {g : Nat} {cs : Array Value} {t : TypeId} (hi' : L[i]? = some (boxP g cs t)) : w.heap[g]? = some (.cells cs t (0, 0)) := h.get i hi'
theorem Inw.pushOwn (h : Inw w0 w L) (hb : Below w.heap.size w w') {e : TypeId} {v : Value} {n : Nat} {xs : List Value} (ho : w'.ownsRow w.heap.size e 1 v n xs) : Inw w0 w' (ownP w.heap.size w'.heap.size e v n xs :: L) :=
  h.push hb _ (Nat.le_refl _) (Nat.le_refl _) ⟨ho, fun k hk => (ho.lt k hk).2⟩
theorem Inw.pushRows (h : Inw w0 w L) (hb : Below w.heap.size w w') {v : Value} {M : List Row} (ho : OwnR w' w.heap.size v M) : Inw w0 w' (rowsP w.heap.size w'.heap.size v M :: L) :=
  h.push hb _ (Nat.le_refl _) (Nat.le_refl _) ⟨ho, ho.up⟩
theorem Inw.allocBox (h : Inw w0 w L) (cs : Array Value) (t : TypeId) : Inw w0 (w.alloc (.cells cs t)) (boxP w.heap.size cs t :: L) :=
  h.push ((Below.refl _ _).alloc (Nat.le_refl _) _) _ (Nat.le_refl _) (by simp [boxP]) (heap_alloc_new w _)
theorem Inw.drewN (h : Inw w0 w L) (m : Nat) : Inw w0 (w.drewN m) L := h.step (below_drewN (Below.refl _ _) m)
theorem Inw.drew (h : Inw w0 w L) : Inw w0 w.drew L := h.step (Below.drew (Below.refl _ _))
/-- the piece at place i has been written, and nothing else -/
theorem Inw.mark (h : Inw w0 w L) (i : Nat) {c : Piece} (c' : Piece) (hi' : L[i]? = some c) (hlo : c'.lo = c.lo) (hhi : c'.hi = c.hi) (hk : Within c.lo c.hi w w') (hp : c'.p w') : Inw w0 w' (L.set i c') := by
  obtain ⟨hil, hie⟩ := List.getElem?_eq_some_iff.1 hi'
  have hc := h.all c (List.mem_of_getElem? hi')
  refine ⟨h.bel.trans (hk.to_below h.bel.size hc.1), ?_, ?_⟩
  · intro d hd
    obtain ⟨j, hj, hje⟩ := List.getElem_of_mem hd
    rw [List.length_set] at hj
    rw [List.getElem_set] at hje
    split at hje
    · subst hje; exact ⟨by rw [hlo]; exact hc.1, by rw [hhi]; exact Nat.le_trans hc.2.1 hk.size, hp⟩
    · rename_i hne
      have hap : d.hi ≤ c.lo ∨ c.hi ≤ d.lo := by
        rw [← hie, ← hje]
        rcases Nat.lt_or_ge i j with hlt | hge
        · exact (List.pairwise_iff_getElem.1 h.off) i j hil hj hlt
        · rcases (List.pairwise_iff_getElem.1 h.off) j i hj hil (by omega) with e | e
          · exact .inr e
          · exact .inl e
      have hdw := h.all d (by rw [← hje]; exact List.getElem_mem hj)
      exact ⟨hdw.1, Nat.le_trans hdw.2.1 hk.size, d.loc w w' (fun k h1 h2 => hk.block k (by omega) (by omega)) hdw.2.2⟩
  · rw [List.pairwise_iff_getElem]
    intro a b ha hb hab
    rw [List.length_set] at ha hb
    have := (List.pairwise_iff_getElem.1 h.off) a b ha hb hab
    rw [List.getElem_set, List.getElem_set]
    split
    · rename_i e1; subst e1
      rw [if_neg (by omega), hlo, hhi, ← hie]; exact this
    · split
      · rename_i e1 e2; subst e2
        rw [hlo, hhi, ← hie]; exact this
      · exact this
theorem Inw.markOwn (h : Inw w0 w L) (i : Nat) {lo hi : Nat} {e : TypeId} {v : Value} {n : Nat} {xs ys : List Value} (hi' : L[i]? = some (ownP lo hi e v n xs)) (hk : Keeps w w' [v.ownBlock]) (ho : w'.ownsRow lo e 1 v n ys) : Inw w0 w' (L.set i (ownP lo hi e v n ys)) := by
  have h1 := h.get i hi'
  exact h.mark i _ hi' rfl rfl (Within.of_keeps hk (fun k hk => ⟨(h1.1.lt k hk).1, h1.2 k hk⟩)) ⟨ho, h1.2⟩
theorem Inw.markRows (h : Inw w0 w L) (i : Nat) {lo hi : Nat} {v : Value} {M : List Row} {k0 : Int} (hi' : L[i]? = some (rowsP lo hi v M)) (hk : Within lo hi w w') (ho : OwnR w' lo v (marksR k0 M)) : Inw w0 w' (L.set i (rowsP lo hi v (marksR k0 M))) := by
  have h1 := h.get i hi'
  exact h.mark i _ hi' rfl rfl hk ⟨ho, h1.2.marks k0⟩
end
end Go.Proofs.Ytnffpjdlpjkioaa
