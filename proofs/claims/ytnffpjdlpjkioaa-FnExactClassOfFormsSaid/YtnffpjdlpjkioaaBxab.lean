/- results as laws take them; the laws' own helpers at modules · polynomials as maps from codes to true: PolyC (the keys are C), ranges over them, the laws at the operations · bags of codes up to parity; toggle, plus, times, raised · plus, times, raised of polynomials as maps · raised, power, formOf, codeOf · power of a polynomial as a map; the linear form of a mask · the linear form of a mask · contracts of slices.SortFunc and cmp.Compare, laid at this dump (printed by lay.sh, turned into a template by mksl.py) · plain mathematics of masks: reduced lists of rows · plain mathematics: the product of a mask and rows · modules: what they are (no program in sight) -/
import Derived.Test.YtnffpjdlpjkioaaBxaa
import Derived.Deep.Onto
import Derived.Maps.RangeWalk
import Derived.Shelf.SlSortCmp.NoneTotal
import Derived.Test.YtnffpjdlpjkioaaProg
set_option linter.all false
namespace Go.Proofs.Ytnffpjdlpjkioaa
open Go.RowKit

/-- a new slice of ints and a code -/
def ResS (r : List Int × Int) (w : World) (e : Ending) (w' : World) : Prop := ∃ v, e = .returned (.tuple #[v, .int .i64 r.2]) ∧ w'.ownsRow w.heap.size 2 1 v r.1.length (iv r.1) ∧ Below w.heap.size w w'
/-- new rows of rows and a code -/
def ResR (r : List (List Int) × Int) (w : World) (e : Ending) (w' : World) : Prop := ∃ v M, e = .returned (.tuple #[v, .int .i64 r.2]) ∧ dat M = r.1 ∧ OwnR w' w.heap.size v M ∧ Below w.heap.size w w'
def ResI (r : Int × Int) (w : World) (e : Ending) (w' : World) : Prop := e = .returned (.tuple #[.int .i64 r.1, .int .i64 r.2]) ∧ Below w.heap.size w w'
def ResB (r : Bool × Int) (w : World) (e : Ending) (w' : World) : Prop := e = .returned (.tuple #[.bool r.1, .int .i64 r.2]) ∧ Below w.heap.size w w'
theorem blk2set0' {w : World} {g : Nat} {u v : Value} {t : TypeId} (h : w.heap[g]? = some (.cells #[u, v] t (0, 0))) (x : Value) : (w.setCell ⟨g, 0, none⟩ x).heap[g]? = some (.cells #[x, v] t (0, 0)) := by
  have := heap_setCell_same w g 0 _ t x h
  simpa using this
theorem blk2set1' {w : World} {g : Nat} {u v : Value} {t : TypeId} (h : w.heap[g]? = some (.cells #[u, v] t (0, 0))) (x : Value) : (w.setCell ⟨g, 1, none⟩ x).heap[g]? = some (.cells #[u, x] t (0, 0)) := by
  have := heap_setCell_same w g 1 _ t x h
  simpa using this
theorem blk_seto {w : World} {g : Nat} {x : Obj} (h : w.heap[g]? = some x) (p : Addr) (hp : p.block ≠ g) (u : Value) : (w.setCell p u).heap[g]? = some x := (Below.heap_setCell w p u g (Ne.symm hp)).trans h
theorem blk_kept {w w' : World} {g : Nat} {x : Obj} (h : w.heap[g]? = some x) (hb : Below w.heap.size w w') : w'.heap[g]? = some x := (hb.block g (Array.getElem?_eq_some_iff.1 h).1).trans h
theorem own_ne_blk {w : World} {B bs n : Nat} {e t : TypeId} {v : Value} {xs : List Value} {cs : Array Value} (h : w.ownsRow B e 1 v n xs) (hb : w.heap[bs]? = some (.cells cs t (0, 0))) (hne : e ≠ t) : v.ownBlock ≠ some bs := by
  rcases h.2 with ⟨rfl, _⟩ | ⟨g, cap, cur, rfl, _, hg, _⟩
  · simp [Value.ownBlock]
  · intro he
    have : g = bs := by simpa [Value.ownBlock] using he
    subst this
    rw [hg] at hb
    injection hb with hb
    injection hb with _ ht
    exact hne ht
theorem eqInts_same (A A' : Option Addr) (n c c' : Nat) (xs : List Int) (w : World) (hn : n = xs.length) (hsm : n ≤ 1099511627776) (hR : Rd w A (iv xs)) (hR' : Rd w A' (iv xs)) :
    Calls Try.prog 18 #[.slice A n c, .slice A' n c'] w fun e w' => e = .returned (.bool true) ∧ ∃ m, w.drewN m = w' := by
  have h := eqInts_any A A' n n c c' xs xs w hn hn hsm hsm hR hR'
  rwa [eqI_refl] at h

theorem eqIntsB_any (A A' : Option Addr) (n c c' : Nat) (xs : List Int) (w : World) (hn : n = xs.length) (hsm : n ≤ 1099511627776) (hR : Rd w A (iv xs)) (hR' : Rd w A' (iv xs)) :
    Calls Try.prog 18 #[.slice A n c, .slice A' n c'] w fun e w' => e = .returned (.bool true) ∧ Below w.heap.size w w' :=
  (eqInts_same A A' n c c' xs w hn hsm hR hR').mono fun _ _ ⟨he, m, hm⟩ => ⟨he, hm ▸ below_drewN (Below.refl _ _) m⟩
theorem eqRowsB_any (A A' : Option Addr) (n n' c c' : Nat) (L M : List Row) (w : World) (hn : n = L.length) (hn' : n' = M.length) (hsm : n ≤ 1099511627776) (hl : ∀ i, i < L.length → (rg L i).xs.length ≤ 1099511627776) (hd : dat M = dat L) (hR : RdR w A L) (hR' : RdR w A' M) :
    Calls Try.prog 32 #[.slice A n c, .slice A' n' c'] w fun e w' => e = .returned (.bool true) ∧ Below w.heap.size w w' :=
  (eqRows_any A A' n n' c c' L M w hn hn' hsm hl hd hR hR').mono fun _ _ ⟨he, m, hm⟩ => ⟨he, hm ▸ below_drewN (Below.refl _ _) m⟩
theorem tot_dat {L M : List Row} (h : dat M = dat L) : tot M = tot L := by
  have e : ∀ X : List Row, tot X = ((dat X).map List.length).sum := fun X => by simp [tot, dat, List.map_map, Function.comp_def]
  rw [e, e, h]
theorem tot_le {L : List Row} {k : Nat} (h : ∀ i, i < L.length → (rg L i).xs.length ≤ k) : tot L ≤ k * L.length := by
  have key : ∀ j, j ≤ L.length → tot (L.take j) ≤ k * j := by
    intro j
    induction j with
    | zero => intro _; simp [tot]
    | succ j ih =>
      intro hj
      rw [tot_succ (by omega)]
      have := ih (by omega)
      have := h j (by omega)
      rw [Nat.mul_succ]; omega
  have := key L.length (Nat.le_refl _)
  rwa [tot_all (Nat.le_refl _)] at this
theorem kb_add1 {a c : Int} {x : Nat} (h : 0 ≤ a ∧ a ≤ c) (hx : x ≤ 1048576) : 0 ≤ a + x ∧ a + x ≤ c + 1048576 := by omega
theorem kb_add2 {a c : Int} {x y : Nat} (h : 0 ≤ a ∧ a ≤ c) (hx : x ≤ 1048576) (hy : y ≤ 1048576) : 0 ≤ a + x + y ∧ a + x + y ≤ c + 2097152 := by omega
theorem rows_small {M : List Row} {r : List (List Int)} (hd : dat M = r) (h : r.length ≤ 1000 ∧ ∀ x ∈ r, x.length ≤ 1000) : M.length ≤ 1000 ∧ tot M ≤ 1000000 ∧ ∀ i, i < M.length → (rg M i).xs.length ≤ 1000 := by
  subst hd
  have h1 : M.length ≤ 1000 := by rw [← dat_length]; exact h.1
  have h2 : ∀ i, i < M.length → (rg M i).xs.length ≤ 1000 := fun i hi => h.2 _ (List.mem_map_of_mem (rg_mem hi))
  exact ⟨h1, Nat.le_trans (tot_le h2) (by omega), h2⟩

end Go.Proofs.Ytnffpjdlpjkioaa

namespace Go.Proofs.Ytnffpjdlpjkioaa
open Go.RowKit Go.Maps Go.ChangeMaps Go.MapKept

abbrev kI (c : Int) : Lit := .int .i64 c
theorem lawI : Keyed Try.prog 2 := int_keyed Try.underlying2
theorem zeroB (w : World) : (zeroValue 4).run Try.prog w = .ok (.bool false) w := by kernel_rfl
/-- an integer that an int64 holds -/
def I64 (c : Int) : Prop := (Lit.int .i64 c).wf = true
theorem I64.of {c : Int} (h0 : 0 ≤ c) (h1 : c < 4611686018427387904) : I64 c := WalkArith.wf_i64 (by omega)
theorem keyI {c : Int} (h : I64 c) : keyOf Try.prog 2 (.int .i64 c) = some (kI c) := keyOf_int_mk Try.underlying2 h
theorem plainElem_bool_inv {H : Type} {P : Program} {e : TypeId} (he : P.underlying e = some .bool) {v : Value} {z : DataW H × List MemPlace} (h : plainElem P e v = some z) : ∃ x, v = .bool x ∧ z = (.lit (.bool x), []) := by
  unfold plainElem at h
  rw [he] at h
  cases v <;> simp at h
  subst h
  exact ⟨_, rfl, rfl⟩
noncomputable abbrev tE : Value → Option (DataW Unit × List MemPlace) := plainElem Try.prog 4

/-- the keys of the map are C, each with true -/
def Keys (D : DataW Unit) (C : List Int) : Prop :=
  C.Nodup ∧ size D = C.length ∧ (∀ c, has D (kI c) = decide (c ∈ C)) ∧ (∀ c ∈ C, ∀ z, D.atKey (kI c) z = .lit (.bool true)) ∧ (∀ c ∈ C, I64 c)
/-- block b is a map whose keys are C, each with true -/
def PolyC (w : World) (b : Nat) (C : List Int) : Prop := ∃ D : DataW Unit, w.ownsMap Try.prog 2 tE b C.length D ∧ Keys D C

theorem owns_blk {H : Type} {P : Program} {k : TypeId} {R : Value → Option (DataW H × List MemPlace)} {w w' : World} {b n : Nat} {D : DataW H} (h : w.ownsMap P k R b n D) (e : w'.heap[b]? = w.heap[b]?) : w'.ownsMap P k R b n D := by
  obtain ⟨es, clock, hb, r⟩ := h
  exact ⟨es, clock, e.trans hb, r⟩
theorem ranges_blk {H : Type} {P : Program} {k : TypeId} {R : Value → Option (DataW H × List MemPlace)} {w w' : World} {b r n : Nat} {D : DataW H} {left : Lit → Bool} {cnt : Nat} (h : w.ranges P k R b r n D left cnt)
    (e : w'.heap[b]? = w.heap[b]?) (e' : w'.heap[r]? = w.heap[r]?) : w'.ranges P k R b r n D left cnt := by
  obtain ⟨es, clock, since, seen, c0, hb, F, hs, hD, hr, t⟩ := h
  exact ⟨es, clock, since, seen, c0, e.trans hb, F, hs, hD, e'.trans hr, t⟩
theorem ownsMap_tight {H : Type} {P : Program} {k : TypeId} {R : Value → Option (DataW H × List MemPlace)} {w : World} {b n : Nat} {D : DataW H} (h : w.ownsMap P k R b n D) : w.ownsMap P k R b (size D) D := by
  obtain ⟨es, clock, hb, F, _, rfl⟩ := h
  exact ⟨es, clock, hb, F, by simp [size, length_sorted], rfl⟩
theorem PolyC.lt {w : World} {b : Nat} {C : List Int} (h : PolyC w b C) : b < w.heap.size := by
  obtain ⟨D, h, _⟩ := h
  exact h.lt
theorem PolyC.blk {w w' : World} {b : Nat} {C : List Int} (h : PolyC w b C) (e : w'.heap[b]? = w.heap[b]?) : PolyC w' b C := by
  obtain ⟨D, h, k⟩ := h
  exact ⟨D, owns_blk h e, k⟩
theorem PolyC.keeps {w w' : World} {b : Nat} {C : List Int} {S : List (Option Nat)} (h : PolyC w b C) (hk : Keeps w w' S) (hn : some b ∉ S) : PolyC w' b C := h.blk (hk.block b h.lt hn)
theorem PolyC.below {w w' : World} {b : Nat} {C : List Int} (h : PolyC w b C) (hk : Below w.heap.size w w') : PolyC w' b C := h.blk (hk.block b h.lt)
theorem PolyC.alloc {w : World} {b : Nat} {C : List Int} (h : PolyC w b C) (o : Obj) : PolyC (w.alloc o) b C := h.below ((Below.refl _ _).alloc (Nat.le_refl _) o)
theorem PolyC.drew {w : World} {b : Nat} {C : List Int} (h : PolyC w b C) : PolyC w.drew b C := h
theorem PolyC.nodup {w : World} {b : Nat} {C : List Int} (h : PolyC w b C) : C.Nodup := by obtain ⟨D, _, h, _⟩ := h; exact h
theorem PolyC.i64 {w : World} {b : Nat} {C : List Int} (h : PolyC w b C) : ∀ c ∈ C, I64 c := by obtain ⟨D, _, _, _, _, _, h⟩ := h; exact h
/-- the same keys in another order -/
theorem PolyC.perm {w : World} {b : Nat} {C C' : List Int} (h : PolyC w b C) (hp : C.Perm C') : PolyC w b C' := by
  obtain ⟨D, h, k1, k2, k3, k4, k5⟩ := h
  refine ⟨D, by rw [← hp.length_eq]; exact h, hp.nodup_iff.1 k1, by rw [k2, hp.length_eq], fun c => ?_, fun c hc => k4 c (hp.mem_iff.2 hc), fun c hc => k5 c (hp.mem_iff.2 hc)⟩
  rw [k3]
  simp [hp.mem_iff]
theorem PolyC.made (w : World) : PolyC (w.alloc (.map #[] 0)) w.heap.size [] :=
  ⟨.map [], World.ownsMap_made _ _ _ _, List.nodup_nil, rfl, fun c => rfl, fun c hc => (by cases hc), fun c hc => (by cases hc)⟩

/-- a key put in, or taken out if it was there -/
def tog (C : List Int) (c : Int) : List Int := if c ∈ C then C.erase c else c :: C
/-- a key put in -/
def put1 (C : List Int) (c : Int) : List Int := if c ∈ C then C else c :: C
theorem kI_ne {c d : Int} (h : c ≠ d) : kI c ≠ kI d := fun e => h (by injection e)
theorem kI_key {c : Int} (h : I64 c) : WideAt.IsKeyLit (kI c) := lawI.key (keyI h)

theorem Keys.put {D : DataW Unit} {C : List Int} {c : Int} (h : Keys D C) (hD : Tidy D) (hc : I64 c) : Keys (D.put (kI c) (.lit (.bool true))) (put1 C c) := by
  obtain ⟨k1, k2, k3, k4, k5⟩ := h
  have hh := k3 c
  unfold put1
  by_cases hm : c ∈ C
  · rw [if_pos hm]
    rw [decide_eq_true hm] at hh
    refine ⟨k1, by rw [size_put hD, hh]; simpa using k2, fun d => ?_, fun d hd z => ?_, k5⟩
    · by_cases e : d = c
      · subst e; rw [has_put_same hD.isMap (kI_key hc), decide_eq_true hm]
      · rw [has_put_other (kI_ne e), k3]
    · by_cases e : d = c
      · subst e; rw [atKey_put_same hD.isMap (kI_key hc)]
      · rw [atKey_put_other (kI_ne e), k4 d hd]
  · rw [if_neg hm]
    rw [decide_eq_false hm] at hh
    refine ⟨List.nodup_cons.2 ⟨hm, k1⟩, by rw [size_put hD, hh]; simpa using k2, fun d => ?_, fun d hd z => ?_, fun d hd => ?_⟩
    · by_cases e : d = c
      · subst e; rw [has_put_same hD.isMap (kI_key hc)]; simp
      · rw [has_put_other (kI_ne e), k3]; simp [e]
    · by_cases e : d = c
      · subst e; rw [atKey_put_same hD.isMap (kI_key hc)]
      · rw [atKey_put_other (kI_ne e), k4 d (by simpa [e] using hd)]
    · rcases List.mem_cons.1 hd with rfl | h
      · exact hc
      · exact k5 d h
theorem Keys.del {D : DataW Unit} {C : List Int} {c : Int} (h : Keys D C) (hD : Tidy D) (hm : c ∈ C) : Keys (D.del (kI c)) (C.erase c) := by
  obtain ⟨k1, k2, k3, k4, k5⟩ := h
  have hh := k3 c
  rw [decide_eq_true hm] at hh
  have hs := size_del (k := kI c) hD
  rw [hh] at hs
  refine ⟨k1.erase c, by rw [List.length_erase_of_mem hm]; simp at hs; omega, fun d => ?_, fun d hd z => ?_, fun d hd => k5 d (List.mem_of_mem_erase hd)⟩
  · by_cases e : d = c
    · subst e; rw [has_del_same]; simp [k1.mem_erase_iff]
    · rw [has_del_other (kI_ne e), k3]; simp [k1.mem_erase_iff, e]
  · rw [k1.mem_erase_iff] at hd
    rw [atKey_del_other (kI_ne hd.1), k4 d hd.2]

section
variable (w : World) {ops : Array Oper} {rest : List Oper} {o : Oper} {a : Act} {Q : Exit → Act → World → Prop}
theorem PolyC.store {w : World} {b : Nat} {C : List Int} (h : PolyC w b C) {c : Int} (hc : I64 c) (hsm : C.length < 1099511627776) :
    ∃ w', (Instr.mapUpdate 56 (.map (some b)) (.int .i64 c) (.bool true)).run Try.prog w = .ok () w' ∧ PolyC w' b (put1 C c) ∧ Keeps w w' [some b] ∧ w'.heap.size = w.heap.size := by
  obtain ⟨D, hD, k⟩ := h
  obtain ⟨w', hrun, r1, r2⟩ := hD.store lawI Try.underlying56 (by unfold maxLen; omega) (keyI hc) (plainElem_bool Try.underlying4 true)
  have hk := k.put (hD.tidy lawI) hc
  refine ⟨w', hrun, ⟨_, ?_, hk⟩, Keeps.of_grown r2.grown, ?_⟩
  · rw [← hk.2.1]; exact ownsMap_tight r1
  · obtain ⟨es, clock, es', clock', _, rfl⟩ := r2
    simp [setBlock]
/-- 'm[c] = true' -/
theorem wpList_store_poly (hg : o.guard = none) (m x v : Operand) (hop : o.op = Op.mapUpdate 56 m x v) (b : Nat) (C : List Int) (c : Int) (hm : a.eval m = .map (some b)) (hx : a.eval x = .int .i64 c) (hv : a.eval v = .bool true)
    (h : PolyC w b C) (hc : I64 c) (hsm : C.length < 1099511627776) (hK : ∀ w', PolyC w' b (put1 C c) → Keeps w w' [some b] → w'.heap.size = w.heap.size → wpList Try.prog ops Q rest (a.put o.dst undef) w') : wpList Try.prog ops Q (o :: rest) a w := by
  refine wpList_plain hg fun K' hK' => ?_
  obtain ⟨w', hrun, r1, r2, r3⟩ := h.store hc hsm
  unfold Oper.wp
  simp [execOp, hop, hm, hx, hv, hrun, Result.andThen]
  exact hK' _ _ (hK w' r1 r2 r3)
/-- an entry of a literal -/
theorem wpList_insert_poly (hg : o.guard = none) (m x v : Operand) (hop : o.op = Op.insert 56 m x v) (b : Nat) (C : List Int) (c : Int) (hm : a.eval m = .map (some b)) (hx : a.eval x = .int .i64 c) (hv : a.eval v = .bool true)
    (h : PolyC w b C) (hc : I64 c) (hsm : C.length < 1099511627776) (hK : ∀ w', PolyC w' b (put1 C c) → Keeps w w' [some b] → w'.heap.size = w.heap.size → wpList Try.prog ops Q rest (a.put o.dst undef) w') : wpList Try.prog ops Q (o :: rest) a w := by
  refine wpList_plain hg fun K' hK' => ?_
  obtain ⟨w', hrun, r1, r2, r3⟩ := h.store hc hsm
  unfold Oper.wp
  simp [execOp, hop, hm, hx, hv, hrun, Result.andThen]
  exact hK' _ _ (hK w' r1 r2 r3)
theorem PolyC.look {w : World} {b : Nat} {C : List Int} (h : PolyC w b C) {c : Int} (hc : I64 c) : (Instr.lookup 56 (.map (some b)) (.int .i64 c) false).run Try.prog w = .ok (.bool (decide (c ∈ C))) w := by
  obtain ⟨D, hD, k1, k2, k3, k4, k5⟩ := h
  obtain ⟨v, ps, hrun, hv⟩ := hD.lookup lawI Try.underlying56 (zeroB w) (plainElem_bool Try.underlying4 false) (keyI hc)
  obtain ⟨x, rfl, hx⟩ := plainElem_bool_inv Try.underlying4 hv
  rw [hrun]
  have hx1 := congrArg Prod.fst hx
  by_cases hm : c ∈ C
  · rw [k4 c hm] at hx1
    have : true = x := by simpa using hx1
    rw [decide_eq_true hm, ← this]
  · rw [atKey_of_not_has (by rw [k3, decide_eq_false hm])] at hx1
    have : false = x := by simpa using hx1
    rw [decide_eq_false hm, ← this]
theorem PolyC.drop {w : World} {b : Nat} {C : List Int} (h : PolyC w b C) {c : Int} (hm : c ∈ C) (ty : TypeId) :
    ∃ w', (Builtin.delete_ #[56, 2] ty #[.map (some b), .int .i64 c]).run Try.prog w = .ok (.tuple #[]) w' ∧ PolyC w' b (C.erase c) ∧ Keeps w w' [some b] ∧ w'.heap.size = w.heap.size := by
  obtain ⟨D, hD, k⟩ := h
  obtain ⟨w', hrun, r1, r2⟩ := hD.drop lawI Try.underlying56 (keyI (k.2.2.2.2 c hm)) ty
  have hk := k.del (hD.tidy lawI) hm
  refine ⟨w', hrun, ⟨_, ?_, hk⟩, Keeps.of_grown r2.grown, ?_⟩
  · rw [← hk.2.1]; exact ownsMap_tight r1
  · obtain ⟨es, clock, es', clock', _, rfl⟩ := r2
    simp [setBlock]
/-- 'delete(m, c)' -/
theorem wpList_delete_poly (hg : o.guard = none) (m x : Operand) (hop : o.op = Op.call { callee := Callee.builtin Builtin.delete, args := #[m, x], argTypes := #[56, 2] }) (b : Nat) (C : List Int) (c : Int)
    (hm : a.eval m = .map (some b)) (hx : a.eval x = .int .i64 c) (h : PolyC w b C) (hc : c ∈ C)
    (hK : ∀ w', PolyC w' b (C.erase c) → Keeps w w' [some b] → w'.heap.size = w.heap.size → wpList Try.prog ops Q rest (a.put o.dst (.tuple #[])) w') : wpList Try.prog ops Q (o :: rest) a w := by
  refine wpList_plain hg fun K' hK' => ?_
  obtain ⟨w', hrun, r1, r2, r3⟩ := h.drop hc o.type
  unfold Oper.wp
  simp [execOp, hop, resolve, invoke, builtin, hm, hx, hrun, Result.andThen]
  exact hK' _ _ (hK w' r1 r2 r3)
theorem PolyC.len {w : World} {b : Nat} {C : List Int} (h : PolyC w b C) (ty : TypeId) : (Builtin.len_ #[56] ty #[.map (some b)]).run Try.prog w = .ok (.int .i64 C.length) w := by
  obtain ⟨D, hD, k⟩ := h
  rw [hD.len Try.underlying56 ty, k.2.1]

/-- a loop over the keys C of the map b is under way: rest are to come -/
def RangeC (w : World) (b r : Nat) (C rest : List Int) : Prop :=
  ∃ (D : DataW Unit) (left : Lit → Bool) (cnt : Nat), w.ranges Try.prog 2 tE b r C.length D left cnt ∧ Keys D C ∧ rest.Nodup ∧ ∀ c, left (kI c) = decide (c ∈ rest)
theorem RangeC.poly {w : World} {b r : Nat} {C rest : List Int} (h : RangeC w b r C rest) : PolyC w b C := by
  obtain ⟨D, left, cnt, h, k, _⟩ := h
  exact ⟨D, h.owns, k⟩
theorem RangeC.ltr {w : World} {b r : Nat} {C rest : List Int} (h : RangeC w b r C rest) : r < w.heap.size := by
  obtain ⟨D, left, cnt, h, _⟩ := h
  exact h.lt
theorem RangeC.ne {w : World} {b r : Nat} {C rest : List Int} (h : RangeC w b r C rest) : r ≠ b := by
  obtain ⟨D, left, cnt, h, _⟩ := h
  exact h.ne
theorem RangeC.keeps {w w' : World} {b r : Nat} {C rest : List Int} {S : List (Option Nat)} (h : RangeC w b r C rest) (hk : Keeps w w' S) (hb : some b ∉ S) (hr : some r ∉ S) : RangeC w' b r C rest := by
  have h1 := h.poly.lt
  have h2 := h.ltr
  obtain ⟨D, left, cnt, h, t⟩ := h
  exact ⟨D, left, cnt, ranges_blk h (hk.block b h1 hb) (hk.block r h2 hr), t⟩
theorem RangeC.perm {w : World} {b r : Nat} {C C' rest : List Int} (h : RangeC w b r C rest) (hp : C.Perm C') : RangeC w b r C' rest := by
  obtain ⟨D, left, cnt, h, ⟨k1, k2, k3, k4, k5⟩, t⟩ := h
  refine ⟨D, left, cnt, by rw [← hp.length_eq]; exact h, ⟨hp.nodup_iff.1 k1, by rw [k2, hp.length_eq], fun c => ?_, fun c hc => k4 c (hp.mem_iff.2 hc), fun c hc => k5 c (hp.mem_iff.2 hc)⟩, t⟩
  rw [k3]
  simp [hp.mem_iff]
/-- 'range m' -/
theorem wpList_range_poly (hg : o.guard = none) (m : Operand) (hop : o.op = Op.range 56 m) (b : Nat) (C : List Int) (hm : a.eval m = .map (some b)) (h : PolyC w b C)
    (hK : ∀ w', RangeC w' b w.heap.size C C → Below w.heap.size w w' → w'.heap.size = w.heap.size + 1 → wpList Try.prog ops Q rest (a.put o.dst (.pointer (some ⟨w.heap.size, 0, none⟩))) w') : wpList Try.prog ops Q (o :: rest) a w := by
  refine wpList_plain hg fun K' hK' => ?_
  obtain ⟨D, hD, k⟩ := h
  obtain ⟨w', hrun, r1, r2, r3⟩ := hD.range lawI Try.underlying56
  unfold Oper.wp
  simp [execOp, hop, hm, hrun, Result.andThen]
  exact hK' _ _ (hK w' ⟨D, _, _, r1, k, k.1, k.2.2.1⟩ ⟨r2.os, r2.tape, r2.output, r2.size, fun j hj => r2.block j hj (by simp)⟩ r3)
/-- the step -/
theorem wpList_next_poly (hg : o.guard = none) (it : Operand) (hop : o.op = Op.next it false) (b r : Nat) (C rs : List Int) (hit : a.eval it = .pointer (some ⟨r, 0, none⟩)) (h : RangeC w b r C rs)
    (hDone : rs = [] → wpList Try.prog ops Q rest (a.put o.dst (.tuple #[.bool false])) w)
    (hMore : ∀ (c : Int) (w' : World), c ∈ rs → I64 c → RangeC w' b r C (rs.erase c) → w'.rangeLeft b r < w.rangeLeft b r → Keeps w w' [some r] → w'.heap.size = w.heap.size →
      (Instr.entry (.pointer (some ⟨r, 0, none⟩))).run Try.prog w' = .ok (.tuple #[.int .i64 c, .bool true]) w' → wpList Try.prog ops Q rest (a.put o.dst (.tuple #[.bool true, .int .i64 c, .bool true])) w') : wpList Try.prog ops Q (o :: rest) a w := by
  obtain ⟨D, left, cnt, hr, k, hnd, hl⟩ := h
  refine wpList_next_ranges w hg it hop 2 lawI tE (Value.int .i64) Value.bool (fun key kl hkey => by obtain ⟨x, rfl, _⟩ := Maps.keyOf_int_inv Try.underlying2 hkey; exact ⟨x, rfl⟩)
    (fun v y hv => by obtain ⟨c, rfl, _⟩ := plainElem_bool_inv Try.underlying4 hv; exact ⟨c, rfl⟩) b r C.length D left cnt hit hr (fun _ h0 => hDone ?_) (fun x c kl y w' cnt' hkey hlk hv hat hrg hlt hgr hsz hen => ?_)
  · cases rs with
    | nil => rfl
    | cons c t =>
      have := hl c
      rw [h0] at this
      simp at this
  · obtain ⟨x', ex, rfl, hwx⟩ := Maps.keyOf_int_inv Try.underlying2 hkey
    cases ex
    have hx : x ∈ rs := by have := hl x; rw [hlk] at this; simpa using this
    have hh : has D (kI x) = true := has_true_of_atKey hat
    have hC : x ∈ C := by rw [k.2.2.1] at hh; simpa using hh
    obtain ⟨c', ec, hy⟩ := plainElem_bool_inv Try.underlying4 hv
    cases ec
    have h3 := hat .nil
    rw [k.2.2.2.1 x hC, hy] at h3
    have : c = true := by simpa using h3.symm
    subst this
    refine hMore x w' hx hwx ⟨D, _, cnt', hrg, k, hnd.erase x, fun d => ?_⟩ (by rw [hrg.left_eq, hr.left_eq]; exact hlt) (Keeps.of_grown hgr) hsz hen
    rw [hl]
    by_cases e : d = x
    · subst e
      simp [WideAt.sameKey_self (kI_key hwx), hnd.mem_erase_iff]
    · rw [sameKey_ne (kI_ne e)]
      simp [hnd.mem_erase_iff, e]
end
end Go.Proofs.Ytnffpjdlpjkioaa

namespace Go.Proofs.Ytnffpjdlpjkioaa
open Go.RowKit Go.Maps Go.ChangeMaps Go.MapKept

section
variable {α β : Type} [DecidableEq α] [DecidableEq β]
/-- every member stands equally often up to parity -/
def Eqv (L M : List α) : Prop := ∀ c, L.count c % 2 = M.count c % 2
theorem Eqv.refl (L : List α) : Eqv L L := fun _ => rfl
theorem Eqv.symm {L M : List α} (h : Eqv L M) : Eqv M L := fun c => (h c).symm
theorem Eqv.trans {L M N : List α} (h : Eqv L M) (k : Eqv M N) : Eqv L N := fun c => (h c).trans (k c)
theorem Eqv.of_perm {L M : List α} (h : L.Perm M) : Eqv L M := fun c => by rw [h.count_eq]
theorem Eqv.app {L L' M M' : List α} (h : Eqv L L') (k : Eqv M M') : Eqv (L ++ M) (L' ++ M') := fun c => by
  have := h c; have := k c
  rw [List.count_append, List.count_append]; omega
theorem Eqv.two (L : List α) : Eqv (L ++ L) [] := fun c => by rw [List.count_append]; simp; omega
theorem sum_even {g : α → Nat} : ∀ (n : Nat) (L : List α), L.length ≤ n → (∀ c, L.count c % 2 = 0) → (L.map g).sum % 2 = 0
  | _, [], _, _ => rfl
  | 0, _ :: _, h, _ => absurd h (by simp)
  | n + 1, x :: t, hn, h => by
    have h1 := h x
    rw [List.count_cons_self] at h1
    have hx : x ∈ t := by
      have : 0 < t.count x := by omega
      exact List.count_pos_iff.1 this
    have hp := List.perm_cons_erase hx
    have e1 : (t.map g).sum = g x + ((t.erase x).map g).sum := by
      have := (hp.map g).sum_nat
      simpa using this
    have hlen : (t.erase x).length ≤ n := by
      rw [List.length_erase_of_mem hx]; simp at hn; omega
    have ih := sum_even (g := g) n (t.erase x) hlen (fun c => by
      have h2 := h c
      have e2 := hp.count_eq c
      rw [List.count_cons] at h2 e2
      generalize (if (x == c) = true then 1 else 0) = q at h2 e2
      omega)
    simp only [List.map_cons, List.sum_cons, e1]
    omega
theorem Eqv.sum {L M : List α} (h : Eqv L M) (g : α → Nat) : (L.map g).sum % 2 = (M.map g).sum % 2 := by
  have := sum_even (g := g) _ (L ++ M) (Nat.le_refl _) (fun c => by have := h c; rw [List.count_append]; omega)
  simp only [List.map_append, List.sum_append] at this
  omega
omit [DecidableEq α] in
theorem count_flatS {f : α → List β} (c : β) : ∀ L : List α, (L.flatMap f).count c = (L.map fun x => (f x).count c).sum
  | [] => rfl
  | x :: t => by simp [List.count_append, count_flatS c t]
theorem Eqv.flat {L M : List α} (h : Eqv L M) (f : α → List β) : Eqv (L.flatMap f) (M.flatMap f) := fun c => by rw [count_flatS, count_flatS]; exact h.sum _
omit [DecidableEq α] in
theorem Eqv.flatR {f g : α → List β} : ∀ {L : List α}, (∀ x ∈ L, Eqv (f x) (g x)) → Eqv (L.flatMap f) (L.flatMap g)
  | [], _ => Eqv.refl _
  | x :: t, h => by
    simp only [List.flatMap_cons]
    exact (h x (List.mem_cons_self ..)).app (Eqv.flatR fun y hy => h y (List.mem_cons_of_mem _ hy))
theorem Eqv.map {L M : List α} (h : Eqv L M) (f : α → β) : Eqv (L.map f) (M.map f) := by
  have := h.flat fun x => [f x]
  rw [← List.map_eq_flatMap, ← List.map_eq_flatMap] at this
  exact this
/-- a list without repeats lies in a list: it is no longer -/
theorem nodup_len : ∀ {C L : List α}, C.Nodup → (∀ c ∈ C, c ∈ L) → C.length ≤ L.length
  | [], _, _, _ => Nat.zero_le _
  | c :: C, L, h, hs => by
    obtain ⟨h1, h2⟩ := List.nodup_cons.1 h
    have hc := hs c (List.mem_cons_self ..)
    have := nodup_len (L := L.erase c) h2 (fun d hd => (List.mem_erase_of_ne (fun e => h1 (by rw [← e]; exact hd))).2 (hs d (List.mem_cons_of_mem _ hd)))
    rw [List.length_erase_of_mem hc] at this
    have := List.length_pos_of_mem hc
    simp
    omega
theorem nodup_count {C : List α} (h : C.Nodup) (c : α) : C.count c = if c ∈ C then 1 else 0 := by
  split
  · rename_i hc; exact (h.count (a := c)).trans (if_pos hc)
  · rename_i hc; exact List.count_eq_zero_of_not_mem hc
theorem eqv_mem {C L : List α} (h : C.Nodup) (e : Eqv C L) {c : α} (hc : c ∈ C) : c ∈ L := by
  have := e c
  rw [nodup_count h, if_pos hc] at this
  exact List.count_pos_iff.1 (by omega)
theorem eqv_len {C L : List α} (h : C.Nodup) (e : Eqv C L) : C.length ≤ L.length := nodup_len h fun _ hc => eqv_mem h e hc
end

/-- block b is a map whose keys are the codes that stand an odd number of times in L -/
def PolyB (w : World) (b : Nat) (L : List Int) : Prop := ∃ C, PolyC w b C ∧ Eqv C L
theorem PolyB.congr {w : World} {b : Nat} {L M : List Int} (h : PolyB w b L) (e : Eqv L M) : PolyB w b M := by
  obtain ⟨C, h, k⟩ := h
  exact ⟨C, h, k.trans e⟩
theorem PolyB.lt {w : World} {b : Nat} {L : List Int} (h : PolyB w b L) : b < w.heap.size := by obtain ⟨C, h, _⟩ := h; exact h.lt
theorem PolyB.keeps {w w' : World} {b : Nat} {L : List Int} {S : List (Option Nat)} (h : PolyB w b L) (hk : Keeps w w' S) (hn : some b ∉ S) : PolyB w' b L := by obtain ⟨C, h, k⟩ := h; exact ⟨C, h.keeps hk hn, k⟩
theorem PolyB.below {w w' : World} {b : Nat} {L : List Int} (h : PolyB w b L) (hk : Below w.heap.size w w') : PolyB w' b L := by obtain ⟨C, h, k⟩ := h; exact ⟨C, h.below hk, k⟩
theorem PolyB.alloc {w : World} {b : Nat} {L : List Int} (h : PolyB w b L) (o : Obj) : PolyB (w.alloc o) b L := by obtain ⟨C, h, k⟩ := h; exact ⟨C, h.alloc o, k⟩
theorem PolyB.made (w : World) : PolyB (w.alloc (.map #[] 0)) w.heap.size [] := ⟨[], PolyC.made w, Eqv.refl _⟩
theorem tog_eqv {C : List Int} (h : C.Nodup) (c : Int) : Eqv (tog C c) (C ++ [c]) := fun d => by
  unfold tog
  rw [List.count_append, List.count_singleton]
  split
  · rename_i hc
    rw [(List.perm_cons_erase hc).count_eq (a := d), List.count_cons]
    have : (c == d) = (d == c) := BEq.comm
    split <;> omega
  · rename_i hc
    rw [List.count_cons]
theorem rangeLeft_blk {w w' : World} {b r : Nat} (e : w'.heap[b]? = w.heap[b]?) (e' : w'.heap[r]? = w.heap[r]?) : w'.rangeLeft b r = w.rangeLeft b r := by
  unfold World.rangeLeft
  rw [e, e']
theorem RangeC.left_keeps {w w' : World} {b r : Nat} {C rest : List Int} {S : List (Option Nat)} (h : RangeC w b r C rest) (hk : Keeps w w' S) (hb : some b ∉ S) (hr : some r ∉ S) : w'.rangeLeft b r = w.rangeLeft b r :=
  rangeLeft_blk (hk.block b h.poly.lt hb) (hk.block r h.ltr hr)

/-- codes: four digits to the base 64 -/
def CB (L : List Int) : Prop := ∀ c ∈ L, 0 ≤ c ∧ c < 16777216
theorem CB.nil : CB [] := fun c h => by cases h
theorem CB.app {L M : List Int} (h : CB L) (k : CB M) : CB (L ++ M) := fun c hc => by
  rcases List.mem_append.1 hc with hc | hc
  · exact h c hc
  · exact k c hc
theorem CB.one {c : Int} (h : 0 ≤ c ∧ c < 16777216) : CB [c] := fun d hd => by rw [List.mem_singleton.1 hd]; exact h
theorem CB.sub {L M : List Int} (h : CB M) (k : ∀ c ∈ L, c ∈ M) : CB L := fun c hc => h c (k c hc)
theorem CB.i64 {L : List Int} (h : CB L) {c : Int} (hc : c ∈ L) : I64 c := by have := h c hc; exact I64.of this.1 (by omega)
theorem cb_len {C : List Int} (h : C.Nodup) (k : CB C) : C.length ≤ 16777216 := by
  have := nodup_len (L := (List.range 16777216).map Int.ofNat) h (fun c hc => by
    obtain ⟨h0, h1⟩ := k c hc
    refine List.mem_map.2 ⟨c.toNat, List.mem_range.2 (by omega), ?_⟩
    show (c.toNat : Int) = c
    omega)
  rw [List.length_map, List.length_range] at this
  exact this

theorem toggle_any (b : Nat) (L : List Int) (c : Int) (w : World) (h : PolyB w b L) (hCB : CB L) (hcb : 0 ≤ c ∧ c < 16777216) :
    Calls Try.prog 105 #[.map (some b), .int .i64 c] w fun e w' => e = .returned (.tuple #[]) ∧ PolyB w' b (L ++ [c]) ∧ Keeps w w' [some b] := by
  obtain ⟨C, h, hL⟩ := h
  have hlen := cb_len h.nodup (hCB.sub fun d hd => eqv_mem h.nodup hL hd)
  have hc : I64 c := I64.of hcb.1 (by omega)
  have hrun := h.look hc
  have ht := (tog_eqv h.nodup c).trans (hL.app (Eqv.refl [c]))
  by_cases hm : c ∈ C
  · rw [decide_eq_true hm] at hrun
    go_enter Try.func105, Try.ntmps105
    go_wp2_with (first | (at_delete; refine wpList_delete_poly _ rfl _ _ rfl b C c rfl rfl h hm ?_; intro w1 h1 hk1 hs1) | go_in)
    go_end0
    exact ⟨rfl, ⟨_, h1, by have e : tog C c = C.erase c := if_pos hm
                           rw [← e]; exact ht⟩, hk1⟩
  · rw [decide_eq_false hm] at hrun
    go_enter Try.func105, Try.ntmps105
    go_wp2_with (first | (at_mapUpdate; refine wpList_store_poly _ rfl _ _ _ rfl b C c rfl rfl rfl h hc (by omega) ?_; intro w1 h1 hk1 hs1) | go_in)
    go_end0
    have e1 : put1 C c = c :: C := if_neg hm
    have e2 : tog C c = c :: C := if_neg hm
    rw [e2] at ht
    rw [e1] at h1
    exact ⟨rfl, ⟨_, h1, ht⟩, hk1⟩
end Go.Proofs.Ytnffpjdlpjkioaa

namespace Go.Proofs.Ytnffpjdlpjkioaa
open Go.RowKit Go.Maps Go.ChangeMaps Go.MapKept

/-- a new map that holds the bag L comes back -/
def ResP (L : List Int) (w : World) (e : Ending) (w' : World) : Prop := ∃ g, e = .returned (.map (some g)) ∧ w.heap.size ≤ g ∧ PolyB w' g L ∧ Below w.heap.size w w'
theorem ResP.congr {L M : List Int} {w w' : World} {e : Ending} (h : ResP L w e w') (k : Eqv L M) : ResP M w e w' := by
  obtain ⟨g, h1, h2, h3, h4⟩ := h
  exact ⟨g, h1, h2, h3.congr k, h4⟩
theorem perm_step {done rs C : List Int} {c : Int} (h : (done ++ rs).Perm C) (hc : c ∈ rs) : ((done ++ [c]) ++ rs.erase c).Perm C := by
  refine List.Perm.trans ?_ h
  rw [List.append_assoc]
  exact List.Perm.append_left _ (List.perm_cons_erase hc).symm
theorem perm_len {done rs C : List Int} (h : (done ++ rs).Perm C) : done.length ≤ C.length := by
  have := h.length_eq
  simp at this
  omega

set_option maxRecDepth 100000 in
set_option maxHeartbeats 1000000 in
theorem plus_any (b b2 : Nat) (L M : List Int) (w : World) (h : PolyB w b L) (h2 : PolyB w b2 M) (hne : b ≠ b2) (hL : CB L) (hMB : CB M) :
    Calls Try.prog 72 #[.map (some b), .map (some b2)] w fun e w' => e = .returned (.tuple #[]) ∧ PolyB w' b (L ++ M) ∧ Keeps w w' [some b] := by
  obtain ⟨C, hC, hM⟩ := h2
  have hCB : CB C := hMB.sub fun d hd => eqv_mem hC.nodup hM hd
  have hbl := h.lt
  have hHM := Lib.hid hM
  have hH := Lib.hid h
  clear h hM
  go_enter Try.func72, Try.ntmps72
  go_wp2_with (first | (at_range; refine wpList_range_poly _ rfl _ rfl b2 C rfl hC ?_; intro w0 hr0 hb0 hs0) | go_in)
  go_frame
  go_loopw [4] (fun _ wr => ∃ done rs, (done ++ rs).Perm C ∧ RangeC wr b2 w.heap.size C rs ∧ PolyB wr b (L ++ done) ∧ Keeps w wr [some b]) (fun _ wr => wr.rangeLeft b2 w.heap.size)
  case atStart => exact ⟨[], C, List.Perm.refl _, hr0, (hH.out.below hb0).congr (by rw [List.append_nil]; exact Eqv.refl _), (Keeps.of_below hb0).more (by simp)⟩
  case round =>
    obtain ⟨done, rs, hp, hr, hP, hk⟩ := hrel
    have hdl := perm_len hp
    go_wp2_with (first | (at_next; refine wpList_next_poly _ rfl _ rfl b2 w.heap.size C rs rfl hr ?_ ?_) | go_in)
    · rintro rfl
      go_wp2_with fail
      go_end0
      refine ⟨rfl, hP.congr ((Eqv.refl _).app ((Eqv.of_perm ?_).trans hHM.out)), hk⟩
      simpa using hp
    · intro c w1 hc hi hr1 hlt hk1 hs1 hen
      have hP1 := hP.keeps hk1 (by simp; omega)
      go_wp2_with fail
      refine (toggle_any b (L ++ done) c w1 hP1 (hL.app (hCB.sub fun d hd => hp.mem_iff.1 (by simp [hd]))) (hCB c (hp.mem_iff.1 (by simp [hc])))).mono ?_
      rintro e w2 ⟨rfl, hP2, hk2⟩
      have hr2 := hr1.keeps hk2 (by simpa using fun e => hne e.symm) (by simp; omega)
      have hm2 := hr1.left_keeps hk2 (by simpa using fun e => hne e.symm) (by simp; omega)
      go_wp2_with fail
      go_roundw
      case rel => exact ⟨done ++ [c], rs.erase c, perm_step hp hc, hr2, by rw [← List.append_assoc]; exact hP2, (hk.trans hk1 (T := [some b]) (by simp; omega)).trans hk2 (by simp)⟩
      case measure => rw [hm2]; exact hlt

def prodB (L M : List Int) : List Int := L.flatMap fun a => M.map fun b => a + b
theorem prodB_snoc (L M : List Int) (a : Int) : prodB (L ++ [a]) M = prodB L M ++ M.map fun b => a + b := by simp [prodB]
theorem prodB_len (L M : List Int) : (prodB L M).length = L.length * M.length := by
  induction L with
  | nil => simp [prodB]
  | cons a L ih => simp only [prodB, List.flatMap_cons, List.length_append, List.length_map, List.length_cons] at *; rw [ih, Nat.succ_mul]; omega
theorem prodB_eqv {L L' M M' : List Int} (h : Eqv L L') (k : Eqv M M') : Eqv (prodB L M) (prodB L' M') := (h.flat _).trans (Eqv.flatR fun a _ => k.map _)
/-- the codes lie in bounds -/
def Bd (L : List Int) : Prop := ∀ c ∈ L, 0 ≤ c ∧ c < 1152921504606846976

set_option maxRecDepth 100000 in
set_option maxHeartbeats 2000000 in
theorem times_any (b1 b2 : Nat) (L M : List Int) (w : World) (h1 : PolyB w b1 L) (h2 : PolyB w b2 M) (hP : CB (prodB L M)) :
    Calls Try.prog 73 #[.map (some b1), .map (some b2)] w (ResP (prodB L M) w) := by
  obtain ⟨C, hC, eC⟩ := h1
  obtain ⟨E, hE, eE⟩ := h2
  have HPB := Lib.hid (hP.sub (L := prodB C E) fun d hd => by
    obtain ⟨x, hx, hd⟩ := List.mem_flatMap.1 hd
    exact List.mem_flatMap.2 ⟨x, eqv_mem hC.nodup eC hx, (List.mem_map.1 hd).elim fun y ⟨hy, e⟩ => List.mem_map.2 ⟨y, eqv_mem hE.nodup eE hy, e⟩⟩)
  suffices H : Calls Try.prog 73 #[.map (some b1), .map (some b2)] w (ResP (prodB C E) w) from H.mono fun e w' hr => hr.congr (prodB_eqv eC eE)
  clear eC eE hP
  have hbl := hC.lt
  have hb2 := hE.lt
  have hmm := @run_makeMap Try.prog
  have e1 : (w.alloc (.map #[] 0)).heap.size = w.heap.size + 1 := by simp
  go_enter Try.func73, Try.ntmps73
  go_wp2_with (first | (at_range; refine wpList_range_poly _ rfl _ rfl b1 C rfl (hC.alloc _) ?_; intro w0 hr0 hb0 hs0) | go_in)
  go_frame
  rw [e1] at hr0 hs0 ⊢
  go_loopw [6] (fun _ wr => ∃ done rs, (done ++ rs).Perm C ∧ RangeC wr b1 (w.heap.size + 1) C rs ∧ PolyC wr b2 E ∧ PolyB wr w.heap.size (prodB done E) ∧ Below w.heap.size w wr) (fun _ wr => wr.rangeLeft b1 (w.heap.size + 1))
  case atStart =>
    have hB : Below w.heap.size w w0 := ((Below.refl _ _).alloc (Nat.le_refl _) _).trans (hb0.mono (by simp))
    exact ⟨[], C, List.Perm.refl _, hr0, hE.below hB, (PolyB.made w).below hb0, hB⟩
  case round =>
    obtain ⟨done, rs, hp, hr, hEr, hP, hB⟩ := hrel
    have hdl := perm_len hp
    have hBs := hB.size
    obtain ⟨wv, hwv⟩ : ∃ wv, wv = wr := ⟨_, rfl⟩
    subst hwv
    go_wp2_with (first | (at_next; refine wpList_next_poly _ rfl _ rfl b1 (w.heap.size + 1) C rs rfl hr ?_ ?_) | go_in)
    · rintro rfl
      go_wp2_with fail
      go_ret
      refine ⟨_, rfl, Nat.le_refl _, hP.congr ((Eqv.of_perm ?_).flat _), hB⟩
      simpa using hp
    · intro c w1 hc hi hr1 hlt hk1 hs1 hen
      have hE1 := hEr.keeps hk1 (by simp; omega)
      have hP1 := hP.keeps hk1 (by simp)
      have hcC := hp.mem_iff.1 (List.mem_append.2 (.inr hc))
      have hrl := hr.ltr
      go_wp2_with (first | (at_range; refine wpList_range_poly _ rfl _ rfl b2 E rfl hE1 ?_; intro w2 hr2 hb2' hs2) | go_in)
      go_frame
      have hB2 : Below w.heap.size w w2 := (hB.trans (hk1.to_below hBs (by simp))).trans (hb2'.mono (by rw [hs1]; exact hBs))
      have hR2 : RangeC w2 b1 (w.heap.size + 1) C (rs.erase c) := hr1.keeps (Keeps.of_below hb2') (by simp) (by simp)
      have hl2 : w2.rangeLeft b1 (w.heap.size + 1) = w1.rangeLeft b1 (w.heap.size + 1) := hr1.left_keeps (Keeps.of_below hb2') (by simp) (by simp)
      have hP2 : PolyB w2 w.heap.size (prodB done E) := hP1.below hb2'
      have hs1g : wv.heap.size ≤ w1.heap.size := by omega
      clear hs1 hs2
      go_loopw [7] (fun _ wr => ∃ d2 r2, (d2 ++ r2).Perm E ∧ RangeC wr b2 w1.heap.size E r2 ∧ RangeC wr b1 (w.heap.size + 1) C (rs.erase c) ∧ wr.rangeLeft b1 (w.heap.size + 1) = w1.rangeLeft b1 (w.heap.size + 1) ∧
        PolyB wr w.heap.size (prodB done E ++ d2.map fun d => c + d) ∧ Below w.heap.size w wr) (fun _ wr => wr.rangeLeft b2 w1.heap.size)
      case atStart => exact ⟨[], E, List.Perm.refl _, hr2, hR2, hl2, by simpa using hP2, hB2⟩
      case round =>
        obtain ⟨d2, r2, hq, hs, hR, hl, hPP, hBB⟩ := hrel
        have hdl2 := perm_len hq
        go_wp2_with (first | (at_next; refine wpList_next_poly _ rfl _ rfl b2 w1.heap.size E r2 rfl hs ?_ ?_) | go_in)
        · rintro rfl
          go_wp2_with fail
          go_roundw
          case rel =>
            refine ⟨done ++ [c], rs.erase c, perm_step hp hc, hR, hE.below hBB, hPP.congr ?_, hBB⟩
            rw [prodB_snoc]
            refine (Eqv.refl _).app ((Eqv.of_perm ?_).map _)
            simpa using hq
          case measure => rw [hl]; exact hlt
        · intro d w3 hd hi3 hr3 hlt3 hk3 hs3 hen3
          have hdE := hq.mem_iff.1 (List.mem_append.2 (.inr hd))
          have hcd := HPB.out (c + d) (List.mem_flatMap.2 ⟨c, hcC, List.mem_map.2 ⟨d, hdE, rfl⟩⟩)
          have hP3 := hPP.keeps hk3 (by simp; omega)
          have hR3 := hR.keeps hk3 (by simp; omega) (by simp; omega)
          have hl3 := hR.left_keeps hk3 (by simp; omega) (by simp; omega)
          have hB3 := hBB.trans (hk3.to_below hBB.size (by simp; omega))
          have hCBt : CB (prodB done E ++ d2.map fun d => c + d) := HPB.out.sub fun z hz => by
            rcases List.mem_append.1 hz with hz | hz
            · obtain ⟨x, hx, hz⟩ := List.mem_flatMap.1 hz
              exact List.mem_flatMap.2 ⟨x, hp.mem_iff.1 (List.mem_append.2 (.inl hx)), hz⟩
            · obtain ⟨y, hy, e⟩ := List.mem_map.1 hz
              exact List.mem_flatMap.2 ⟨c, hcC, List.mem_map.2 ⟨y, hq.mem_iff.1 (List.mem_append.2 (.inl hy)), e⟩⟩
          have HT := Lib.hid (toggle_any w.heap.size (prodB done E ++ d2.map fun d => c + d) (c + d) w3 hP3 hCBt hcd)
          obtain ⟨hcd0, hcd1⟩ := hcd
          have hw : IntKind.i64.wrap (c + d) = c + d := by rw [IntKind.wrap_i64]; omega
          clear hs3 hCBt
          go_wp2_with fail
          refine HT.out.mono ?_
          rintro e w4 ⟨rfl, hP4, hk4⟩
          have hs4 := hr3.keeps hk4 (by simp; omega) (by simp; omega)
          have hm4 := hr3.left_keeps hk4 (by simp; omega) (by simp; omega)
          have hR4 := hR3.keeps hk4 (by simp; omega) (by simp)
          have hl4 := hR3.left_keeps hk4 (by simp; omega) (by simp)
          go_wp2_with fail
          go_roundw
          case rel => exact ⟨d2 ++ [d], r2.erase d, perm_step hq hd, hs4, hR4, by rw [hl4, hl3, hl], by simpa using hP4, hB3.trans (hk4.to_below hB3.size (by simp))⟩
          case measure => rw [hm4]; exact hlt3
end Go.Proofs.Ytnffpjdlpjkioaa

namespace Go.Proofs.Ytnffpjdlpjkioaa
open Go.RowKit Go.Maps Go.ChangeMaps Go.MapKept

set_option maxRecDepth 100000 in
set_option maxHeartbeats 1000000 in
theorem raised_any (b1 : Nat) (L : List Int) (p : Int) (w : World) (h1 : PolyB w b1 L) (hp1 : 1 ≤ p) (hL : CB (L.map (· * p))) :
    Calls Try.prog 74 #[.map (some b1), .int .i64 p] w (ResP (L.map (· * p)) w) := by
  obtain ⟨C, hC, eC⟩ := h1
  have HbC := Lib.hid (fun c (hc : c ∈ C) => hL (c * p) (List.mem_map.2 ⟨c, eqv_mem hC.nodup eC hc, rfl⟩))
  suffices H : Calls Try.prog 74 #[.map (some b1), .int .i64 p] w (ResP (C.map (· * p)) w) from H.mono fun e w' hr => hr.congr (eC.map _)
  have hnd := hC.nodup
  clear eC hL
  have hbl := hC.lt
  have hmm := @run_makeMap Try.prog
  have e1 : (w.alloc (.map #[] 0)).heap.size = w.heap.size + 1 := by simp
  go_enter Try.func74, Try.ntmps74
  go_wp2_with (first | (at_range; refine wpList_range_poly _ rfl _ rfl b1 C rfl (hC.alloc _) ?_; intro w0 hr0 hb0 hs0) | go_in)
  go_frame
  rw [e1] at hr0 hs0 ⊢
  go_loopw [6] (fun _ wr => ∃ done rs, (done ++ rs).Perm C ∧ RangeC wr b1 (w.heap.size + 1) C rs ∧ PolyC wr w.heap.size (done.map (· * p)) ∧ Below w.heap.size w wr) (fun _ wr => wr.rangeLeft b1 (w.heap.size + 1))
  case atStart =>
    have hB : Below w.heap.size w w0 := ((Below.refl _ _).alloc (Nat.le_refl _) _).trans (hb0.mono (by simp))
    exact ⟨[], C, List.Perm.refl _, hr0, (PolyC.made w).below hb0, hB⟩
  case round =>
    obtain ⟨done, rs, hp, hr, hP, hB⟩ := hrel
    have hdl := perm_len hp
    have hBs := hB.size
    go_wp2_with (first | (at_next; refine wpList_next_poly _ rfl _ rfl b1 (w.heap.size + 1) C rs rfl hr ?_ ?_) | go_in)
    · rintro rfl
      go_wp2_with fail
      go_ret
      refine ⟨_, rfl, Nat.le_refl _, ⟨_, hP, (Eqv.of_perm ?_).map _⟩, hB⟩
      simpa using hp
    · intro c w1 hc hi hr1 hlt hk1 hs1 hen
      have hP1 := hP.keeps hk1 (by simp)
      obtain ⟨hc0, hc1⟩ := HbC.out c (hp.mem_iff.1 (by simp [hc]))
      have hw : IntKind.i64.wrap (c * p) = c * p := by rw [IntKind.wrap_i64]; omega
      have hi2 : I64 (c * p) := I64.of hc0 (by omega)
      have hfr : c * p ∉ done.map (· * p) := by
        intro hm
        obtain ⟨d, hd, e⟩ := List.mem_map.1 hm
        have e2 : d = c := Int.eq_of_mul_eq_mul_right (by omega : p ≠ 0) e
        subst e2
        have hn := hp.nodup_iff.2 hnd
        exact (List.nodup_append.1 hn).2.2 d hd d hc rfl
      have hlen : (done.map (· * p)).length < 1099511627776 := by
        have := cb_len hP.nodup (fun z hz => by
          obtain ⟨y, hy, rfl⟩ := List.mem_map.1 hz
          exact HbC.out y (hp.mem_iff.1 (List.mem_append.2 (.inl hy))))
        omega
      have HB := Lib.hid hB
      generalize hz : c * p = z at *
      go_wp2_with (first | (at_mapUpdate; refine wpList_store_poly _ rfl _ _ _ rfl w.heap.size (done.map (· * p)) z rfl (by first | rfl | (show Value.int .i64 _ = _; rw [hw])) rfl hP1 hi2 hlen ?_; intro w2 hP2 hk2 hs2; go_frame) | go_in)
      have hr2 := hr1.keeps hk2 (by simp; omega) (by simp)
      have hm2 := hr1.left_keeps hk2 (by simp; omega) (by simp)
      go_roundw
      case rel =>
        refine ⟨done ++ [c], rs.erase c, perm_step hp hc, hr2, ?_, (HB.out.trans (hk1.to_below HB.out.size (by simp))).trans (hk2.to_below (by have := HB.out.size; omega) (by simp))⟩
        have e : put1 (done.map (· * p)) z = z :: done.map (· * p) := if_neg hfr
        rw [e] at hP2
        refine hP2.perm ?_
        rw [List.map_append, ← hz]
        exact (List.perm_append_singleton _ _).symm
      case measure => rw [hm2]; exact hlt
end Go.Proofs.Ytnffpjdlpjkioaa

namespace Go.Proofs.Ytnffpjdlpjkioaa
open Go.RowKit Go.Maps Go.ChangeMaps Go.MapKept

/-- the part of the power n that the lowest j digits make -/
def powT (L : List Int) (n : Nat) : Nat → List Int
  | 0 => [0]
  | j + 1 => if tb n j = true then prodB (powT L n j) (L.map (· * ((2 ^ j : Nat) : Int))) else powT L n j
def powB (L : List Int) (n : Nat) : List Int := powT L n 6
theorem tb_big {n j : Nat} (h : n < 2 ^ j) : tb n j = false := Nat.testBit_lt_two_pow h
theorem powT_end (L : List Int) {n j : Nat} (h : n < 2 ^ j) : ∀ k, powT L n (j + k) = powT L n j
  | 0 => rfl
  | k + 1 => by
    have h2 : n < 2 ^ (j + k) := Nat.lt_of_lt_of_le h (Nat.pow_le_pow_right (by omega) (by omega))
    rw [← Nat.add_assoc, powT, if_neg (by rw [tb_big h2]; simp), powT_end L h k]
theorem an_pow2 (n j : Nat) : an n (2 ^ j) = if tb n j = true then 2 ^ j else 0 := by
  unfold an tb
  apply Nat.eq_of_testBit_eq
  intro i
  rw [Nat.testBit_and, Nat.testBit_two_pow]
  by_cases e : j = i
  · subst e
    cases h : n.testBit j <;> simp [Nat.testBit_two_pow]
  · cases h : n.testBit j <;> simp [Nat.testBit_two_pow, e]

set_option maxRecDepth 100000 in
set_option maxHeartbeats 1000000 in
theorem power_any (b1 : Nat) (L : List Int) (n : Nat) (w : World) (h1 : PolyB w b1 L) (hn : n ≤ 40) (hR : ∀ j, tb n j = true → CB (L.map (· * ((2 ^ j : Nat) : Int)))) (hP : ∀ j, j ≤ 6 → CB (powT L n j)) :
    Calls Try.prog 90 #[.map (some b1), .int .i64 n] w (ResP (powB L n) w) := by
  have hbl := h1.lt
  have hmm := @run_makeMap Try.prog
  have e1 : (w.alloc (.map #[] 0)).heap.size = w.heap.size + 1 := by simp
  have HR := Lib.hid hR
  have HPP := Lib.hid hP
  clear hR hP
  go_enter Try.func90, Try.ntmps90
  go_wp2_with (first | (refine wpList_insert_poly _ rfl _ _ _ rfl w.heap.size [] 0 rfl rfl rfl (PolyC.made w) (I64.of (by omega) (by omega)) (by simp) ?_; intro w1 hq1 hk1 hs1) | go_in)
  rw [e1] at hs1
  have hB1 : Below w.heap.size w w1 := ((Below.refl _ _).alloc (Nat.le_refl _) _).trans (hk1.to_below (by simp) (by simp))
  have hP1 : PolyB w1 w.heap.size [0] := ⟨_, hq1, Eqv.refl _⟩
  have H1 := Lib.hid h1
  clear h1 hs1 hq1 hk1
  go_loopw [5, 6] (fun o p wr => ∃ g j : Nat, o = .map (some g) ∧ p = .int .i64 ((2 ^ j : Nat) : Int) ∧ j ≤ 6 ∧ w.heap.size ≤ g ∧ PolyB wr g (powT L n j) ∧ Below w.heap.size w wr) (fun _ p _ => 128 - (intOf p).toNat)
  case atStart => exact ⟨w.heap.size, 0, rfl, rfl, by omega, Nat.le_refl _, hP1, hB1⟩
  case round =>
    obtain ⟨g, j, rfl, rfl, hj, hg, hPg, hB⟩ := hrel
    have hq : (2 : Nat) ^ j ≤ 64 := by
      have := Nat.pow_le_pow_right (n := 2) (by omega) hj
      simpa using this
    have hq1 : 1 ≤ (2 : Nat) ^ j := Nat.one_le_two_pow
    have hnext : (2 : Nat) ^ (j + 1) = 2 ^ j * 2 := by rw [Nat.pow_succ]
    have HAN := Lib.hid (an_pow2 n j)
    have HEND := Lib.hid (fun h : n < 2 ^ j => powT_end L h)
    have HRj := Lib.hid (HR.out j)
    have HPj := Lib.hid (HPP.out j hj)
    have HPj1 := Lib.hid (fun h : j + 1 ≤ 6 => HPP.out (j + 1) h)
    have HST : Hid (powT L n (j + 1) = if tb n j = true then prodB (powT L n j) (L.map (· * ((2 ^ j : Nat) : Int))) else powT L n j) := Lib.hid rfl
    have HNX := Lib.hid hnext
    clear hnext
    generalize hz : (2 : Nat) ^ j = q at *
    by_cases hle : q ≤ n
    · have hlei : (q : Int) ≤ (n : Int) := by omega
      have hj5 : j + 1 ≤ 6 := by
        rcases Nat.lt_or_ge j 6 with h | h
        · omega
        · have : j = 6 := by omega
          subst this
          simp at hz
          omega
      have hand : bits .and .i64 (n : Int) (q : Int) = ((an n q : Nat) : Int) := i64_and_nat (by unfold Sm; omega) (by unfold Sm; omega)
      rw [HAN.out] at hand
      clear hz
      cases hb : tb n j
      · rw [hb] at hand
        simp only [Bool.false_eq_true, if_false] at hand
        have HB := Lib.hid hb
        clear hb
        go_wp2_with fail
        go_roundw
        case rel => exact ⟨g, j + 1, rfl, by rw [HNX.out]; go_num, hj5, hg, by rw [HST.out, if_neg (by rw [HB.out]; simp)]; exact hPg, hB⟩
        case measure => simp [intOf]; omega
      · rw [hb] at hand
        simp only [if_true] at hand
        have HB := Lib.hid hb
        clear hb
        have HRr := Lib.hid (raised_any b1 L (q : Int) wr (H1.out.below hB) (by omega) (HRj.out HB.out))
        go_wp2_with fail
        refine HRr.out.mono ?_
        rintro e w2 ⟨g2, rfl, hg2, hP2, hB2⟩
        have hP3 := hPg.below hB2
        have HT := Lib.hid (times_any g g2 (powT L n j) (L.map (· * (q : Int))) w2 hP3 hP2 (by have := HPj1.out hj5; rw [HST.out, if_pos HB.out] at this; exact this))
        go_wp2_with fail
        refine HT.out.mono ?_
        rintro e w3 ⟨g3, rfl, hg3, hP4, hB3⟩
        have hBw := (hB.trans (hB2.mono hB.size)).trans (hB3.mono (Nat.le_trans hB.size hB2.size))
        have hg4 : w.heap.size ≤ g3 := by have := hB.size; have := hB2.size; omega
        go_wp2_with fail
        go_roundw
        case rel => exact ⟨g3, j + 1, rfl, by rw [HNX.out]; go_num, hj5, hg4, by rw [HST.out, if_pos HB.out]; exact hP4, hBw⟩
        case measure => simp [intOf]; omega
    · have hlei : ¬ (q : Int) ≤ (n : Int) := by omega
      have HE := Lib.hid (HEND.out (by omega) (6 - j))
      clear hz
      go_wp2_with fail
      go_ret
      refine ⟨g, rfl, hg, ?_, hB⟩
      have e6 : j + (6 - j) = 6 := by omega
      have := HE.out
      rw [e6] at this
      unfold powB
      rw [this]
      exact hPg
end Go.Proofs.Ytnffpjdlpjkioaa

namespace Go.Proofs.Ytnffpjdlpjkioaa
open Go.RowKit Go.Maps Go.ChangeMaps Go.MapKept

/-- the variables of a mask, as codes -/
def formT (m : Nat) : Nat → List Int
  | 0 => []
  | j + 1 => if tb m j = true then ((2 ^ (6 * j) : Nat) : Int) :: formT m j else formT m j
def formB (m : Nat) : List Int := formT m 4
theorem formT_mem {m : Nat} : ∀ {j : Nat} {c : Int}, c ∈ formT m j → ∃ i, i < j ∧ tb m i = true ∧ c = ((2 ^ (6 * i) : Nat) : Int)
  | 0, _, h => by cases h
  | j + 1, c, h => by
    unfold formT at h
    split at h
    · rename_i hb
      rcases List.mem_cons.1 h with rfl | h
      · exact ⟨j, by omega, hb, rfl⟩
      · obtain ⟨i, h1, h2⟩ := formT_mem h
        exact ⟨i, by omega, h2⟩
    · obtain ⟨i, h1, h2⟩ := formT_mem h
      exact ⟨i, by omega, h2⟩
theorem formT_fresh {m j : Nat} : ((2 ^ (6 * j) : Nat) : Int) ∉ formT m j := fun h => by
  obtain ⟨i, h1, _, h2⟩ := formT_mem h
  have e : (2 : Nat) ^ (6 * j) = 2 ^ (6 * i) := by exact_mod_cast h2
  have := Nat.pow_lt_pow_right (a := 2) (by omega) (show 6 * i < 6 * j by omega)
  omega
theorem formT_end {m j : Nat} (h : m < 2 ^ j) : ∀ k, formT m (j + k) = formT m j
  | 0 => rfl
  | k + 1 => by
    have h2 : m < 2 ^ (j + k) := Nat.lt_of_lt_of_le h (Nat.pow_le_pow_right (by omega) (by omega))
    rw [← Nat.add_assoc, formT, if_neg (by rw [tb_big h2]; simp), formT_end h k]
theorem formT_len (m : Nat) : ∀ j, (formT m j).length ≤ j
  | 0 => Nat.le_refl _
  | j + 1 => by
    have := formT_len m j
    unfold formT
    split <;> simp <;> omega

attribute [local go_sem] i64_bit_test in
set_option maxRecDepth 100000 in
set_option maxHeartbeats 1000000 in
theorem formOf_any (m : Nat) (w : World) (hm : m < 16) : Calls Try.prog 79 #[.int .i64 m] w (ResP (formB m) w) := by
  have hmm := @run_makeMap Try.prog
  have e1 : (w.alloc (.map #[] 0)).heap.size = w.heap.size + 1 := by simp
  have hSm : Sm m := by unfold Sm; omega
  go_enter Try.func79, Try.ntmps79
  go_wp2_with fail
  go_loopw [4] (fun i wr => ∃ j : Nat, i = .int .i64 j ∧ j ≤ 4 ∧ PolyC wr w.heap.size (formT m j) ∧ Below w.heap.size w wr) (fun i _ => 5 - (intOf i).toNat)
  case atStart => exact ⟨0, rfl, by omega, PolyC.made w, (Below.refl _ _).alloc (Nat.le_refl _) _⟩
  case round =>
    obtain ⟨j, rfl, hj, hP, hB⟩ := hrel
    by_cases hle : 2 ^ j ≤ m
    · have hj3 : j ≤ 3 := by
        rcases Nat.lt_or_ge j 4 with h | h
        · omega
        · have : j = 4 := by omega
          subst this
          simp at hle
          omega
      have hdv : (0 : Int) < (m : Int) / 2 ^ j := by
        have : 0 < m / 2 ^ j := Nat.div_pos hle (Nat.two_pow_pos j)
        have e : (m : Int) / 2 ^ j = ((m / 2 ^ j : Nat) : Int) := by simp
        rw [e]; omega
      clear hle
      have hmin : min j 64 = j := by omega
      have hFR := Lib.hid (formT_fresh (m := m) (j := j))
      have hST : Hid (formT m (j + 1) = if tb m j = true then ((2 ^ (6 * j) : Nat) : Int) :: formT m j else formT m j) := Lib.hid rfl
      have hlen := formT_len m j
      have hz18 : (2 : Nat) ^ (6 * j) ≤ 262144 := by
        have := Nat.pow_le_pow_right (n := 2) (by omega) (show 6 * j ≤ 18 by omega)
        simpa using this
      have hk : wrap64 ((2 : Int) ^ (6 * j)) = ((2 ^ (6 * j) : Nat) : Int) := by
        have e : ((2 ^ (6 * j) : Nat) : Int) = (2 : Int) ^ (6 * j) := by simp
        rw [← e]
        have hz0 := Nat.two_pow_pos (6 * j)
        generalize (2 : Nat) ^ (6 * j) = z at *
        unfold wrap64
        omega
      have hjj : j + 1 ≤ 4 := by omega
      have HB := Lib.hid hB
      clear hB
      generalize (2 : Nat) ^ (6 * j) = z at *
      cases hb : tb m j
      · have HBB := Lib.hid hb
        go_wp2_with fail
        go_roundw
        case rel => exact ⟨j + 1, by go_num, hjj, by rw [hST.out, if_neg (by rw [HBB.out]; simp)]; exact hP, HB.out⟩
        case measure => simp [intOf]; omega
      · have HBB := Lib.hid hb
        have hi : I64 (z : Int) := I64.of (by omega) (by omega)
        have hl2 : (formT m j).length < 1099511627776 := by omega
        go_wp2_with (first | (at_mapUpdate; refine wpList_store_poly _ rfl _ _ _ rfl w.heap.size (formT m j) z rfl (by first | rfl | (show Value.int .i64 _ = _; rw [hk])) rfl hP hi hl2 ?_; intro w2 hP2 hk2 hs2; go_frame) | go_in)
        go_roundw
        case rel =>
          have e : put1 (formT m j) (z : Int) = (z : Int) :: formT m j := if_neg hFR.out
          rw [e] at hP2
          exact ⟨j + 1, by go_num, hjj, by rw [hST.out, if_pos HBB.out]; exact hP2, HB.out.trans (hk2.to_below HB.out.size (by simp))⟩
        case measure => simp [intOf]; omega
    · have hdv : ¬ (0 : Int) < (m : Int) / 2 ^ j := by
        have : m / 2 ^ j = 0 := Nat.div_eq_of_lt (by omega)
        have e : (m : Int) / 2 ^ j = ((m / 2 ^ j : Nat) : Int) := by simp
        rw [e, this]; simp
      have HE := Lib.hid (formT_end (m := m) (j := j) (by omega) (4 - j))
      clear hle
      have hmin : min j 64 = j := by omega
      go_wp2_with fail
      go_ret
      refine ⟨_, rfl, Nat.le_refl _, ⟨_, hP, ?_⟩, hB⟩
      have := HE.out
      rw [show j + (4 - j) = 4 by omega] at this
      unfold formB
      rw [this]
      exact Eqv.refl _
end Go.Proofs.Ytnffpjdlpjkioaa

namespace Go.Proofs
open Go.Shelf
def Try.sortR_ren : Go.Shelf.Ren := ⟨fun | 6 => 94 | 15 => 111 | 14 => 110 | 28 => 129 | 29 => 130 | 20 => 121 | 21 => 122 | 22 => 123 | 23 => 124 | 24 => 125 | 25 => 126 | 26 => 127 | 27 => 128 | 46 => 138 | 47 => 139 | 48 => 140 | 49 => 141 | 50 => 142 | 57 => 144 | n => n, fun | 22 => 22 | 24 => 30 | 25 => 96 | 3 => 3 | 39 => 107 | 0 => 0 | 53 => 125 | 55 => 59 | 4 => 4 | 46 => 118 | 45 => 117 | 50 => 122 | 5 => 5 | 9 => 9 | 66 => 131 | 70 => 135 | 76 => 138 | 77 => 139 | n => n, fun | n => n⟩
theorem Try.sortR : Go.Proofs.SlLaysF.n6 Try.prog Try.sortR_ren := {
  mixed := by kernel_rfl
  f6 := ⟨Try.f94.name, by decide, Try.func94.trans (congrArg some (by kernel_rfl))⟩
  f14 := ⟨Try.f110.name, by decide, Try.func110.trans (congrArg some (by kernel_rfl))⟩
  f15 := Try.func111.trans (congrArg some (by kernel_rfl))
  f20 := ⟨Try.f121.name, by decide, Try.func121.trans (congrArg some (by kernel_rfl))⟩
  f21 := ⟨Try.f122.name, by decide, Try.func122.trans (congrArg some (by kernel_rfl))⟩
  f22 := ⟨Try.f123.name, by decide, Try.func123.trans (congrArg some (by kernel_rfl))⟩
  f23 := ⟨Try.f124.name, by decide, Try.func124.trans (congrArg some (by kernel_rfl))⟩
  f24 := ⟨Try.f125.name, by decide, Try.func125.trans (congrArg some (by kernel_rfl))⟩
  f25 := ⟨Try.f126.name, by decide, Try.func126.trans (congrArg some (by kernel_rfl))⟩
  f26 := ⟨Try.f127.name, by decide, Try.func127.trans (congrArg some (by kernel_rfl))⟩
  f27 := ⟨Try.f128.name, by decide, Try.func128.trans (congrArg some (by kernel_rfl))⟩
  f28 := Try.func129.trans (congrArg some (by kernel_rfl))
  f29 := Try.func130.trans (congrArg some (by kernel_rfl))
  f46 := ⟨Try.f138.name, by decide, Try.func138.trans (congrArg some (by kernel_rfl))⟩
  f47 := Try.func139.trans (congrArg some (by kernel_rfl))
  f48 := Try.func140.trans (congrArg some (by kernel_rfl))
  f49 := ⟨Try.f141.name, by decide, Try.func141.trans (congrArg some (by kernel_rfl))⟩
  f50 := ⟨Try.f142.name, by decide, Try.func142.trans (congrArg some (by kernel_rfl))⟩
  f57 := ⟨Try.f144.name, by decide, Try.func144.trans (congrArg some (by kernel_rfl))⟩
  t0 := Try.underlying0
  a0 := Try.isAgg0
  z0 := Try.sizeOf0
  v0 := Try.zeroValue0
  t3 := Try.underlying3
  a3 := Try.isAgg3
  z3 := Try.sizeOf3
  v3 := Try.zeroValue3
  t4 := Try.underlying4
  a4 := Try.isAgg4
  z4 := Try.sizeOf4
  v4 := Try.zeroValue4
  t5 := Try.underlying5
  a5 := Try.isAgg5
  z5 := Try.sizeOf5
  v5 := Try.zeroValue5
  t9 := Try.underlying9
  a9 := Try.isAgg9
  z9 := Try.sizeOf9
  v9 := Try.zeroValue9
  t22 := Try.underlying22
  a22 := Try.isAgg22
  z22 := Try.sizeOf22
  v22 := Try.zeroValue22
  a24 := Try.isAgg30
  z24 := Try.sizeOf30
  t25 := Try.underlying96
  a25 := Try.isAgg96
  z25 := Try.sizeOf96
  v25 := Try.zeroValue96
  t39 := Try.underlying107
  a39 := Try.isAgg107
  z39 := Try.sizeOf107
  v39 := Try.zeroValue107
  t45 := Try.underlying117
  a45 := Try.isAgg117
  z45 := Try.sizeOf117
  v45 := Try.zeroValue117
  t46 := Try.underlying118
  a46 := Try.isAgg118
  z46 := Try.sizeOf118
  v46 := Try.zeroValue118
  t50 := Try.underlying122
  a50 := Try.isAgg122
  z50 := Try.sizeOf122
  v50 := Try.zeroValue122
  t53 := Try.underlying125
  a53 := Try.isAgg125
  z53 := Try.sizeOf125
  v53 := Try.zeroValue125
  t55 := Try.underlying59
  a55 := Try.isAgg59
  z55 := Try.sizeOf59
  v55 := Try.zeroValue59
  t66 := Try.underlying131
  a66 := Try.isAgg131
  z66 := Try.sizeOf131
  v66 := Try.zeroValue131
  t70 := Try.underlying135
  a70 := Try.isAgg135
  z70 := Try.sizeOf135
  v70 := Try.zeroValue135
  t76 := Try.underlying138
  a76 := Try.isAgg138
  z76 := Try.sizeOf138
  v76 := Try.zeroValue138
  t77 := Try.underlying139
  a77 := Try.isAgg139
  z77 := Try.sizeOf139
  v77 := Try.zeroValue139 }
end Go.Proofs

namespace Go.Proofs.Ytnffpjdlpjkioaa

theorem tb_xr (a b n : Nat) : tb (xr a b) n = (tb a n ^^ tb b n) := by simp [tb, xr, Nat.testBit_xor]
theorem xr_comm (a b : Nat) : xr a b = xr b a := Nat.xor_comm a b
theorem xr_assoc (a b c : Nat) : xr (xr a b) c = xr a (xr b c) := Nat.xor_assoc a b c
theorem xr_zero (a : Nat) : xr a 0 = a := Nat.xor_zero a
theorem zero_xr (a : Nat) : xr 0 a = a := Nat.zero_xor a
theorem xr_self (a : Nat) : xr a a = 0 := Nat.xor_self a
theorem eq_of_tb {a b : Nat} (h : ∀ n, tb a n = tb b n) : a = b := Nat.eq_of_testBit_eq h
theorem tb_zero (n : Nat) : tb 0 n = false := Nat.zero_testBit n

/-- the pivot of a number that is no 0 is its least digit that is 1 -/
theorem tb_pv {a : Nat} (h0 : a ≠ 0) (h : Sm a) : tb a (pv a) = true := by
  unfold Sm at h
  obtain ⟨m, hm, _⟩ := Lib.ctzFrom_spec 64 a (by omega) (by omega)
  have e : pv a = Lib.ctzFrom 64 a := by unfold pv Lib.ctz; rw [if_neg h0]
  rw [e]
  unfold tb
  conv => lhs; arg 1; rw [hm]
  rw [Nat.testBit_eq_decide_div_mod_eq, Nat.mul_div_cancel_left _ (Nat.two_pow_pos _)]
  simp only [decide_eq_true_eq]; omega
theorem tb_lt_pv {a n : Nat} (h0 : a ≠ 0) (h : Sm a) (hn : n < pv a) : tb a n = false := by
  unfold Sm at h
  obtain ⟨m, hm, _⟩ := Lib.ctzFrom_spec 64 a (by omega) (by omega)
  have e : pv a = Lib.ctzFrom 64 a := by unfold pv Lib.ctz; rw [if_neg h0]
  rw [e] at hn
  obtain ⟨d, hd⟩ : ∃ d, Lib.ctzFrom 64 a = n + 1 + d := ⟨Lib.ctzFrom 64 a - n - 1, by omega⟩
  unfold tb
  rw [hm, Nat.testBit_eq_decide_div_mod_eq, hd, Nat.pow_add, Nat.pow_add, Nat.mul_assoc, Nat.mul_assoc, Nat.mul_div_cancel_left _ (Nat.two_pow_pos _)]
  simp [Nat.mul_assoc]
theorem pv_eq {a n : Nat} (h0 : a ≠ 0) (h : Sm a) (h1 : tb a n = true) (h2 : ∀ m, m < n → tb a m = false) : pv a = n := by
  rcases Nat.lt_trichotomy (pv a) n with hlt | heq | hgt
  · have := h2 _ hlt; rw [tb_pv h0 h] at this; cases this
  · exact heq
  · have := tb_lt_pv h0 h hgt; rw [h1] at this; cases this

/-- what is left of a mask by rows -/
def leftS (S : List Nat) (x : Nat) : Nat := S.foldl (fun x r => if tb x (pv r) then xr x r else x) x
/-- Reduced: no row is 0, all are small, and no row has another one's pivot. -/
structure Red (S : List Nat) : Prop where
  ne : ∀ r ∈ S, r ≠ 0 ∧ Sm r
  off : S.Pairwise fun r s => tb r (pv s) = false ∧ tb s (pv r) = false

theorem Red.nil : Red [] := ⟨by simp, .nil⟩
theorem Red.tail {r : Nat} {S : List Nat} (h : Red (r :: S)) : Red S := ⟨fun s hs => h.ne s (List.mem_cons_of_mem _ hs), (List.pairwise_cons.1 h.off).2⟩
theorem Red.perm {S T : List Nat} (h : Red S) (hp : S.Perm T) : Red T :=
  ⟨fun r hr => h.ne r (hp.mem_iff.2 hr), (hp.pairwise_iff (fun h => ⟨h.2, h.1⟩)).1 h.off⟩

theorem leftS_cons (r : Nat) (S : List Nat) (x : Nat) : leftS (r :: S) x = leftS S (if tb x (pv r) then xr x r else x) := rfl
/-- rows that lack a digit do not turn it -/
theorem tb_leftS {S : List Nat} {n : Nat} (h : ∀ r ∈ S, tb r n = false) : ∀ x, tb (leftS S x) n = tb x n := by
  induction S with
  | nil => intro x; rfl
  | cons r S ih =>
    intro x
    rw [leftS_cons, ih (fun s hs => h s (List.mem_cons_of_mem _ hs))]
    split
    · rw [tb_xr, h r (List.mem_cons_self ..)]; simp
    · rfl
theorem leftS_sm {S : List Nat} (h : ∀ r ∈ S, r ≠ 0 ∧ Sm r) : ∀ {x}, Sm x → Sm (leftS S x) := by
  induction S with
  | nil => intro x hx; exact hx
  | cons r S ih =>
    intro x hx
    rw [leftS_cons]
    refine ih (fun s hs => h s (List.mem_cons_of_mem _ hs)) ?_
    split
    · exact hx.xr (h r (List.mem_cons_self ..)).2
    · exact hx
/-- what is left has none of the pivots -/
theorem leftS_off {S : List Nat} (h : Red S) : ∀ x, ∀ r ∈ S, tb (leftS S x) (pv r) = false := by
  induction S with
  | nil => intro x r hr; cases hr
  | cons r S ih =>
    intro x s hs
    have hp := (List.pairwise_cons.1 h.off).1
    have hr := h.ne r (List.mem_cons_self ..)
    rw [leftS_cons]
    rcases List.mem_cons.1 hs with rfl | hs
    · rw [tb_leftS (fun t ht => (hp t ht).2)]
      split
      · rename_i h1; rw [tb_xr, h1, tb_pv hr.1 hr.2]; rfl
      · rename_i h1; simpa using h1
    · exact ih h.tail _ s hs

/-- the sum of rows -/
def xsum : List Nat → Nat
  | [] => 0
  | r :: S => xr r (xsum S)
theorem xsum_perm {S T : List Nat} (h : S.Perm T) : xsum S = xsum T := by
  induction h with
  | nil => rfl
  | cons r _ ih => simp only [xsum, ih]
  | swap r s S => simp only [xsum, ← xr_assoc, xr_comm s r]
  | trans _ _ h1 h2 => exact h1.trans h2
theorem leftS_eq {S : List Nat} (h : Red S) : ∀ x, leftS S x = xr x (xsum (S.filter fun r => tb x (pv r))) := by
  induction S with
  | nil => intro x; exact (xr_zero x).symm
  | cons r S ih =>
    intro x
    have hp := (List.pairwise_cons.1 h.off).1
    rw [leftS_cons, ih h.tail]
    by_cases hb : tb x (pv r) = true
    · rw [if_pos hb, List.filter_cons_of_pos (by simpa using hb)]
      have e : (S.filter fun s => tb (xr x r) (pv s)) = S.filter fun s => tb x (pv s) := by
        apply List.filter_congr
        intro s hs
        rw [tb_xr, (hp s hs).1]; simp
      rw [e]
      simp only [xsum, xr_assoc]
    · rw [if_neg hb, List.filter_cons_of_neg (by simpa using hb)]
theorem leftS_perm {S T : List Nat} (h : Red S) (hp : S.Perm T) (x : Nat) : leftS S x = leftS T x := by
  rw [leftS_eq h, leftS_eq (h.perm hp), xsum_perm (hp.filter _)]

/-- a row as it is when the new row x comes in -/
def stepS (x r : Nat) : Nat := if tb r (pv x) then xr r x else r
/-- what the reference's loop does -/
def putStep (x : Nat) (p : List Nat × Bool) (r : Nat) : List Nat × Bool :=
  if !p.2 && decide (pv x < pv r) then (p.1 ++ [x, stepS x r], true) else (p.1 ++ [stepS x r], p.2)
def putEnd (x : Nat) (p : List Nat × Bool) : List Nat := if p.2 then p.1 else p.1 ++ [x]
def putS (S : List Nat) (x : Nat) : List Nat :=
  if leftS S x = 0 then S else putEnd (leftS S x) (S.foldl (putStep (leftS S x)) ([], false))
def reduceS (rows : List Nat) : List Nat := rows.foldl putS []

theorem putStep_perm (x : Nat) : ∀ (S : List Nat) (p : List Nat × Bool), (putEnd x (S.foldl (putStep x) p)).Perm (putEnd x p ++ S.map (stepS x))
  | [], p => by simp
  | r :: S, p => by
    refine (putStep_perm x S (putStep x p r)).trans ?_
    rw [List.map_cons]
    have : (putEnd x (putStep x p r)).Perm (putEnd x p ++ [stepS x r]) := by
      obtain ⟨out, done⟩ := p
      cases done with
      | true => simp [putStep, putEnd]
      | false =>
        by_cases hc : pv x < pv r
        · simp [putStep, putEnd, hc]
        · simp only [putStep, putEnd, hc, decide_false, Bool.and_false, Bool.false_eq_true, if_false]
          simp only [List.append_assoc]
          exact List.Perm.append_left out (List.Perm.swap ..)
    have := List.Perm.append_right (S.map (stepS x)) this
    simpa using this
theorem putS_perm (S : List Nat) (x : Nat) (h : leftS S x ≠ 0) : (putS S x).Perm (S.map (stepS (leftS S x)) ++ [leftS S x]) := by
  unfold putS
  rw [if_neg h]
  refine (putStep_perm _ S ([], false)).trans ?_
  simp only [putEnd, Bool.false_eq_true, if_false, List.nil_append]
  exact List.perm_append_comm

theorem stepS_sm {x r : Nat} (hx : Sm x) (hr : Sm r) : Sm (stepS x r) := by
  unfold stepS; split
  · exact hr.xr hx
  · exact hr
/-- the pivots stay, and the new row's pivot goes -/
theorem stepS_pv {x r : Nat} (hx : Sm x) (hx0 : x ≠ 0) (hr : Sm r) (hr0 : r ≠ 0) (h : tb x (pv r) = false) : stepS x r ≠ 0 ∧ pv (stepS x r) = pv r ∧ tb (stepS x r) (pv x) = false := by
  have hrr := tb_pv hr0 hr
  have hxx := tb_pv hx0 hx
  have ht : tb (stepS x r) (pv r) = true := by
    unfold stepS; split
    · rw [tb_xr, hrr, h]; rfl
    · exact hrr
  have h0 : stepS x r ≠ 0 := by intro e; rw [e, tb_zero] at ht; cases ht
  refine ⟨h0, ?_, ?_⟩
  · refine pv_eq h0 (stepS_sm hx hr) ht ?_
    intro m hm
    unfold stepS; split
    · rename_i hb
      have hlt : pv r < pv x := by
        rcases Nat.lt_trichotomy (pv r) (pv x) with hlt | heq | hgt
        · exact hlt
        · rw [heq, hxx] at h; cases h
        · have := tb_lt_pv hr0 hr hgt; rw [hb] at this; cases this
      rw [tb_xr, tb_lt_pv hr0 hr hm, tb_lt_pv hx0 hx (by omega)]; rfl
    · exact tb_lt_pv hr0 hr hm
  · unfold stepS; split
    · rename_i hb; rw [tb_xr, hb, hxx]; rfl
    · rename_i hb; simpa using hb

theorem red_step {S : List Nat} {x : Nat} (h : Red S) (hx : Sm x) (hx0 : x ≠ 0) (hoff : ∀ r ∈ S, tb x (pv r) = false) : Red (S.map (stepS x) ++ [x]) := by
  have key := fun r hr => stepS_pv hx hx0 (h.ne r hr).2 (h.ne r hr).1 (hoff r hr)
  refine ⟨?_, ?_⟩
  · intro r hr
    rcases List.mem_append.1 hr with hr | hr
    · obtain ⟨s, hs, rfl⟩ := List.mem_map.1 hr
      exact ⟨(key s hs).1, stepS_sm hx (h.ne s hs).2⟩
    · rw [List.mem_singleton.1 hr]; exact ⟨hx0, hx⟩
  · rw [List.pairwise_append]
    refine ⟨?_, by simp, ?_⟩
    · rw [List.pairwise_map]
      refine (List.Pairwise.and_mem.1 h.off).imp ?_
      intro r s ⟨hr, hs, h1, h2⟩
      rw [(key r hr).2.1, (key s hs).2.1]
      constructor
      · unfold stepS; split
        · rw [tb_xr, h1, hoff s hs]; rfl
        · exact h1
      · unfold stepS; split
        · rw [tb_xr, h2, hoff r hr]; rfl
        · exact h2
    · intro r hr s hs
      obtain ⟨t, ht, rfl⟩ := List.mem_map.1 hr
      rw [List.mem_singleton.1 hs]
      exact ⟨(key t ht).2.2, by rw [(key t ht).2.1]; exact hoff t ht⟩
theorem red_put {S : List Nat} {x : Nat} (h : Red S) (hx : Sm x) : Red (putS S x) := by
  by_cases h0 : leftS S x = 0
  · unfold putS; rw [if_pos h0]; exact h
  · exact (red_step h (leftS_sm h.ne hx) h0 (leftS_off h x)).perm (putS_perm S x h0).symm
theorem red_reduce {rows : List Nat} (h : ∀ r ∈ rows, Sm r) : Red (reduceS rows) := by
  unfold reduceS
  have : ∀ (rows S : List Nat), Red S → (∀ r ∈ rows, Sm r) → Red (rows.foldl putS S) := by
    intro rows
    induction rows with
    | nil => intro S hS _; exact hS
    | cons r rows ih => intro S hS h; exact ih _ (red_put hS (h r (List.mem_cons_self ..))) (fun s hs => h s (List.mem_cons_of_mem _ hs))
  exact this rows [] Red.nil h
theorem putS_length_le (S : List Nat) (x : Nat) : (putS S x).length ≤ S.length + 1 := by
  by_cases h : leftS S x = 0
  · unfold putS; rw [if_pos h]; omega
  · rw [(putS_perm S x h).length_eq]; simp
end Go.Proofs.Ytnffpjdlpjkioaa

namespace Go.Proofs.Ytnffpjdlpjkioaa

theorem xr_xr (a b : Nat) : xr a (xr a b) = b := by rw [← xr_assoc, xr_self, zero_xr]
theorem xr_left (a b c : Nat) : xr a (xr b c) = xr b (xr a c) := by rw [← xr_assoc, xr_comm a b, xr_assoc]
/-- the product of a mask and rows, the first row being the mask's digit i -/
def comb : List Nat → Nat → Nat → Nat
  | [], _, _ => 0
  | r :: S, i, x => xr (if tb x i then r else 0) (comb S (i + 1) x)
theorem comb_xr (S : List Nat) : ∀ i x y, comb S i (xr x y) = xr (comb S i x) (comb S i y) := by
  induction S with
  | nil => intro i x y; exact (xr_self 0).symm
  | cons r S ih =>
    intro i x y
    simp only [comb, ih, tb_xr]
    cases tb x i <;> cases tb y i <;> simp [zero_xr, xr_zero, xr_assoc]
    · rw [xr_left]
    · rw [xr_left _ r, xr_xr]
theorem comb_low (S : List Nat) : ∀ i x, (∀ m, i ≤ m → tb x m = false) → comb S i x = 0 := by
  induction S with
  | nil => intro i x _; rfl
  | cons r S ih => intro i x h; simp only [comb, h i (Nat.le_refl _), ih (i + 1) x fun m hm => h m (by omega)]; simp [xr_zero]
theorem tb_pow (i j : Nat) : tb (2 ^ i) j = decide (i = j) := Nat.testBit_two_pow
theorem comb_pow (S : List Nat) : ∀ i k, comb S i (2 ^ (i + k)) = S.getD k 0 := by
  induction S with
  | nil => intro i k; simp [comb]
  | cons r S ih =>
    intro i k
    simp only [comb, tb_pow]
    cases k with
    | zero =>
      rw [comb_low S (i + 1) (2 ^ (i + 0)) (fun m hm => by rw [tb_pow]; simp; omega)]
      simp [xr_zero]
    | succ k =>
      have := ih (i + 1) k
      rw [show i + 1 + k = i + (k + 1) by omega] at this
      rw [this]
      simp [zero_xr]
theorem lt_of_tb {z n : Nat} (h : ∀ m, n ≤ m → tb z m = false) : z < 2 ^ n := Nat.lt_pow_two_of_testBit z h
theorem tb_of_lt {z n m : Nat} (h : z < 2 ^ n) (hm : n ≤ m) : tb z m = false := Nat.testBit_lt_two_pow (Nat.lt_of_lt_of_le h (Nat.pow_le_pow_right (by omega) hm))
/-- two sums that agree at single digits agree -/
theorem lin_ext {f g : Nat → Nat} (hf : ∀ x y, f (xr x y) = xr (f x) (f y)) (hg : ∀ x y, g (xr x y) = xr (g x) (g y)) : ∀ n, (∀ k, k < n → f (2 ^ k) = g (2 ^ k)) → ∀ v, v < 2 ^ n → f v = g v := by
  have z : ∀ {h : Nat → Nat}, (∀ x y, h (xr x y) = xr (h x) (h y)) → h 0 = 0 := fun {h} hh => by have := hh 0 0; rw [xr_self, xr_self] at this; exact this
  intro n
  induction n with
  | zero => intro _ v hv; obtain rfl : v = 0 := by simpa using hv
            rw [z hf, z hg]
  | succ n ih =>
    intro h v hv
    have h' := ih (fun k hk => h k (by omega))
    cases hb : tb v n
    · refine h' v (lt_of_tb fun m hm => ?_)
      rcases Nat.lt_or_ge n m with h1 | h1
      · exact tb_of_lt hv (by omega)
      · rw [show m = n by omega]; exact hb
    · have e : v = xr (2 ^ n) (xr (2 ^ n) v) := (xr_xr _ _).symm
      have hl : xr (2 ^ n) v < 2 ^ n := lt_of_tb fun m hm => by
        rw [tb_xr, tb_pow]
        rcases Nat.lt_or_ge n m with h1 | h1
        · rw [tb_of_lt hv (by omega)]; simp; omega
        · rw [show m = n by omega, hb]; simp
      rw [e, hf, hg, h n (by omega), h' _ hl]
end Go.Proofs.Ytnffpjdlpjkioaa

namespace Go.Proofs.Ytnffpjdlpjkioaa

/-! ### lists of numbers in order -/
def lexLt : List Int → List Int → Bool
  | [], [] => false
  | [], _ :: _ => true
  | _ :: _, [] => false
  | a :: x, b :: y => if a = b then lexLt x y else decide (a < b)
theorem lexLt_irrefl : ∀ x, lexLt x x = false
  | [] => rfl
  | a :: x => by simp only [lexLt, if_true]; exact lexLt_irrefl x
theorem lexLt_trans : ∀ {x y z : List Int}, lexLt x y = true → lexLt y z = true → lexLt x z = true
  | [], [], _, h, _ => by simp [lexLt] at h
  | [], _ :: _, [], _, h => by simp [lexLt] at h
  | [], _ :: _, _ :: _, _, _ => rfl
  | _ :: _, [], _, h, _ => by simp [lexLt] at h
  | _ :: _, _ :: _, [], _, h => by simp [lexLt] at h
  | a :: x, b :: y, c :: z, h1, h2 => by
    simp only [lexLt] at h1 h2 ⊢
    by_cases e1 : a = b
    · rw [if_pos e1] at h1
      by_cases e2 : b = c
      · rw [if_pos e2] at h2; rw [if_pos (e1.trans e2)]; exact lexLt_trans h1 h2
      · rw [if_neg e2] at h2; rw [if_neg (by rw [e1]; exact e2), e1]; exact h2
    · rw [if_neg e1] at h1
      simp only [decide_eq_true_eq] at h1
      by_cases e2 : b = c
      · rw [if_neg (by omega)]; simp; omega
      · rw [if_neg e2] at h2; simp only [decide_eq_true_eq] at h2; rw [if_neg (by omega)]; simp; omega
def AscP (Q : List (List Int)) : Prop := ∀ i, i + 1 < Q.length → lexLt (Q.getD i []) (Q.getD (i + 1) []) = true
theorem AscP.lt {Q : List (List Int)} (h : AscP Q) : ∀ d i, i + d + 1 < Q.length → lexLt (Q.getD i []) (Q.getD (i + d + 1) []) = true := by
  intro d
  induction d with
  | zero => intro i hi; exact h i hi
  | succ d ih => intro i hi; exact lexLt_trans (ih i (by omega)) (h (i + d + 1) (by omega))
theorem AscP.nodup {Q : List (List Int)} (h : AscP Q) : Q.Nodup := by
  rw [List.nodup_iff_pairwise_ne, List.pairwise_iff_getElem]
  intro i j hi hj hij e
  have := h.lt (j - i - 1) i (by omega)
  rw [show i + (j - i - 1) + 1 = j by omega] at this
  simp only [List.getD, List.getElem?_eq_getElem hi, List.getElem?_eq_getElem hj, Option.getD_some] at this
  rw [e, lexLt_irrefl] at this; cases this

/-! ### what a square makes of a mask -/
def hit (n : Int) (v : Nat) (e : List Int) : Nat := if e.getD 0 0 = n ∧ tb v (e.getD 1 0).toNat = true then 2 ^ (e.getD 2 0).toNat else 0
def actE (Q : List (List Int)) (n : Int) (v : Nat) : Nat := Q.foldl (fun a e => xr a (hit n v e)) 0
def act (Q : List (List Int)) (n : Int) (v : Nat) : Nat := if n = 0 then v else actE Q n v
theorem hit_lin (n : Int) (v w : Nat) (e : List Int) : hit n (xr v w) e = xr (hit n v e) (hit n w e) := by
  unfold hit
  rw [tb_xr]
  by_cases h : e.getD 0 0 = n
  · rw [h]
    cases tb v (e.getD 1 0).toNat <;> cases tb w (e.getD 1 0).toNat <;> simp [xr_self, xr_zero, zero_xr]
  · rw [if_neg (fun hh => h hh.1), if_neg (fun hh => h hh.1), if_neg (fun hh => h hh.1)]; rfl
theorem xfold {α : Type} (f : α → Nat) : ∀ (Q : List α) (a : Nat), Q.foldl (fun a e => xr a (f e)) a = xr a (Q.foldl (fun a e => xr a (f e)) 0) := by
  intro Q
  induction Q with
  | nil => intro a; exact (xr_zero a).symm
  | cons e Q ih => intro a; simp only [List.foldl_cons]; rw [ih, ih (xr 0 (f e)), zero_xr, xr_assoc]
theorem actE_cons (e : List Int) (Q : List (List Int)) (n : Int) (v : Nat) : actE (e :: Q) n v = xr (hit n v e) (actE Q n v) := by
  unfold actE; simp only [List.foldl_cons]; rw [xfold, zero_xr]
theorem actE_lin (Q : List (List Int)) (n : Int) (v w : Nat) : actE Q n (xr v w) = xr (actE Q n v) (actE Q n w) := by
  induction Q with
  | nil => exact (xr_self 0).symm
  | cons e Q ih => rw [actE_cons, actE_cons, actE_cons, ih, hit_lin]; simp only [xr_assoc]; rw [xr_left (hit n w e)]
theorem act_lin (Q : List (List Int)) (n : Int) (v w : Nat) : act Q n (xr v w) = xr (act Q n v) (act Q n w) := by
  unfold act; split
  · rfl
  · exact actE_lin Q n v w
theorem act_zero (Q : List (List Int)) (n : Int) : act Q n 0 = 0 := by have := act_lin Q n 0 0; rw [xr_self, xr_self] at this; exact this
theorem act0 (Q : List (List Int)) (v : Nat) : act Q 0 v = v := by unfold act; rw [if_pos rfl]
theorem act_pos {n : Int} (h : n ≠ 0) (Q : List (List Int)) (v : Nat) : act Q n v = actE Q n v := by unfold act; rw [if_neg h]

/-! ### shapes of modules -/
structure EntM (xs : List Int) (e : List Int) : Prop where
  len : e.length = 3
  pos : 1 ≤ e.getD 0 0
  lo1 : 0 ≤ e.getD 1 0
  hi1 : e.getD 1 0 < xs.length
  lo2 : 0 ≤ e.getD 2 0
  hi2 : e.getD 2 0 < xs.length
  dg : xs.getD (e.getD 2 0).toNat 0 = xs.getD (e.getD 1 0).toNat 0 + e.getD 0 0
structure Shp (xs : List Int) (Q : List (List Int)) : Prop where
  len : xs.length ≤ 16
  deg : ∀ i, i < xs.length → 0 ≤ xs.getD i 0 ∧ xs.getD i 0 ≤ 20
  srt : ∀ i, i + 1 < xs.length → xs.getD i 0 ≤ xs.getD (i + 1) 0
  asc : AscP Q
  ent : ∀ k, k < Q.length → EntM xs (Q.getD k [])
theorem getD_of_mem {Q : List (List Int)} {e : List Int} (h : e ∈ Q) : ∃ k, k < Q.length ∧ Q.getD k [] = e := by
  obtain ⟨k, hk, rfl⟩ := List.getElem_of_mem h
  exact ⟨k, hk, by simp [List.getD, hk]⟩
section
variable {xs : List Int} {Q : List (List Int)}
theorem Shp.mem (h : Shp xs Q) {e : List Int} (he : e ∈ Q) : EntM xs e := by
  obtain ⟨k, hk, rfl⟩ := getD_of_mem he
  exact h.ent k hk
theorem EntM.le20 (hd : ∀ i, i < xs.length → 0 ≤ xs.getD i 0 ∧ xs.getD i 0 ≤ 20) {e : List Int} (h : EntM xs e) : e.getD 0 0 ≤ 20 := by
  have h1 := hd (e.getD 2 0).toNat (by have := h.lo2; have := h.hi2; omega)
  have h2 := hd (e.getD 1 0).toNat (by have := h.lo1; have := h.hi1; omega)
  have := h.dg
  omega
theorem Shp.le20 (h : Shp xs Q) {e : List Int} (he : e ∈ Q) : e.getD 0 0 ≤ 20 := (h.mem he).le20 h.deg
theorem pow_lt_pow {a b : Nat} (h : a < b) : 2 ^ a < 2 ^ b := Nat.pow_lt_pow_right (by omega) h
theorem xr_lt {a b n : Nat} (ha : a < 2 ^ n) (hb : b < 2 ^ n) : xr a b < 2 ^ n := Nat.xor_lt_two_pow ha hb
theorem hit_lt {e : List Int} (h : EntM xs e) (n : Int) (v : Nat) : hit n v e < 2 ^ xs.length := by
  unfold hit; split
  · exact pow_lt_pow (by have := h.lo2; have := h.hi2; omega)
  · exact Nat.two_pow_pos _
theorem actE_lt (n : Int) (v : Nat) : ∀ {Q : List (List Int)}, (∀ e ∈ Q, EntM xs e) → actE Q n v < 2 ^ xs.length
  | [], _ => Nat.two_pow_pos _
  | e :: Q, h => by
    rw [actE_cons]
    exact xr_lt (hit_lt (h e (List.mem_cons_self ..)) n v) (actE_lt n v fun f hf => h f (List.mem_cons_of_mem _ hf))
theorem act_lt (h : Shp xs Q) {v : Nat} (hv : v < 2 ^ xs.length) (n : Int) : act Q n v < 2 ^ xs.length := by
  unfold act; split
  · exact hv
  · exact actE_lt n v fun e he => h.mem he
theorem actE_big (n : Int) (v : Nat) : ∀ {Q : List (List Int)}, (∀ e ∈ Q, e.getD 0 0 ≠ n) → actE Q n v = 0
  | [], _ => rfl
  | e :: Q, h => by
    rw [actE_cons, actE_big n v fun f hf => h f (List.mem_cons_of_mem _ hf)]
    unfold hit
    rw [if_neg (fun hh => h e (List.mem_cons_self ..) hh.1)]; rfl
theorem act_big (h : Shp xs Q) {n : Int} (hn : 20 < n) (v : Nat) : act Q n v = 0 := by
  rw [act_pos (by omega)]
  exact actE_big n v fun e he => by have := h.le20 he; omega
theorem act_neg (h : Shp xs Q) {n : Int} (hn : n < 0) (v : Nat) : act Q n v = 0 := by
  rw [act_pos (by omega)]
  exact actE_big n v fun e he => by have := (h.mem he).pos; omega

/-! ### the table of squares -/
def sqStep (n i : Nat) (a : Nat) (e : List Int) : Nat := if e.getD 0 0 = (n : Int) ∧ e.getD 1 0 = (i : Int) then orr a (2 ^ (e.getD 2 0).toNat) else a
def sqOr (Q : List (List Int)) (n i : Nat) : Nat := Q.foldl (sqStep n i) (if n = 0 then 2 ^ i else 0)
def sqRow (Q : List (List Int)) (size n : Nat) : List Nat := (List.range size).map (sqOr Q n)
theorem sqRow_length (Q : List (List Int)) (size n : Nat) : (sqRow Q size n).length = size := by simp [sqRow]
theorem sqRow_getD (Q : List (List Int)) {size n i : Nat} (h : i < size) : (sqRow Q size n).getD i 0 = sqOr Q n i := by simp [sqRow, List.getD, h]
theorem orr_xr {a c : Nat} (h : tb a c = false) : orr a (2 ^ c) = xr a (2 ^ c) := by
  apply eq_of_tb
  intro n
  rw [tb_xr, tb_pow]
  unfold orr tb
  rw [Nat.testBit_or, Nat.testBit_two_pow]
  by_cases e : c = n
  · subst e; unfold tb at h; rw [h]; simp
  · simp [e]
theorem list3 {e : List Int} (h : e.length = 3) : e = [e.getD 0 0, e.getD 1 0, e.getD 2 0] := by
  match e, h with
  | [a, b, c], _ => rfl
theorem sq_fold (n i : Nat) : ∀ (Q : List (List Int)) (a : Nat), (∀ e ∈ Q, EntM xs e) → Q.Nodup → (∀ e ∈ Q, e.getD 0 0 = (n : Int) → e.getD 1 0 = (i : Int) → tb a (e.getD 2 0).toNat = false) → Q.foldl (sqStep n i) a = xr a (actE Q n (2 ^ i)) := by
  intro Q
  induction Q with
  | nil => intro a _ _ _; exact (xr_zero a).symm
  | cons e Q ih =>
    intro a hQ hnd hf
    have he := hQ e (List.mem_cons_self ..)
    have hnd' := List.nodup_cons.1 hnd
    rw [actE_cons, List.foldl_cons]
    by_cases hm : e.getD 0 0 = (n : Int) ∧ e.getD 1 0 = (i : Int)
    · have h1 : sqStep n i a e = xr a (2 ^ (e.getD 2 0).toNat) := by
        unfold sqStep; rw [if_pos hm]; exact orr_xr (hf e (List.mem_cons_self ..) hm.1 hm.2)
      have h2 : hit (n : Int) (2 ^ i) e = 2 ^ (e.getD 2 0).toNat := by
        unfold hit; rw [if_pos ⟨hm.1, by rw [tb_pow, hm.2]; simp⟩]
      rw [h1, h2, ih _ (fun f hf' => hQ f (List.mem_cons_of_mem _ hf')) hnd'.2, xr_assoc]
      intro f hf' g1 g2
      rw [tb_xr, tb_pow, hf f (List.mem_cons_of_mem _ hf') g1 g2]
      simp only [Bool.false_xor, decide_eq_false_iff_not]
      intro e2
      apply hnd'.1
      have hfe := hQ f (List.mem_cons_of_mem _ hf')
      have : f = e := by
        rw [list3 hfe.len, list3 he.len, g1, g2, hm.1, hm.2]
        have := hfe.lo2; have := he.lo2
        rw [show e.getD 2 0 = f.getD 2 0 by omega]
      rw [← this]; exact hf'
    · have h1 : sqStep n i a e = a := by unfold sqStep; rw [if_neg hm]
      have h2 : hit (n : Int) (2 ^ i) e = 0 := by
        unfold hit; rw [if_neg]
        intro hh
        apply hm
        refine ⟨hh.1, ?_⟩
        have := hh.2
        rw [tb_pow] at this
        simp only [decide_eq_true_eq] at this
        have := he.lo1
        omega
      rw [h1, h2, zero_xr, ih a (fun f hf' => hQ f (List.mem_cons_of_mem _ hf')) hnd'.2 (fun f hf' => hf f (List.mem_cons_of_mem _ hf'))]
theorem sqOr_act (h : Shp xs Q) (n i : Nat) : sqOr Q n i = act Q n (2 ^ i) := by
  unfold sqOr
  by_cases h0 : n = 0
  · subst h0
    rw [if_pos rfl]
    rw [sq_fold (xs := xs) 0 i Q _ (fun e he => h.mem he) h.asc.nodup (fun e he h1 => by have := (h.mem he).pos; omega)]
    rw [actE_big _ _ fun e he => by have := (h.mem he).pos; omega, xr_zero]
    exact (act0 Q _).symm
  · rw [if_neg h0, sq_fold (xs := xs) n i Q _ (fun e he => h.mem he) h.asc.nodup (fun e he _ _ => tb_zero _), zero_xr, act_pos (by omega)]
/-- the product with the rows of a square is the square -/
theorem sq_times (h : Shp xs Q) (n : Nat) {v : Nat} (hv : v < 2 ^ xs.length) : comb (sqRow Q xs.length n) 0 v = act Q n v :=
  lin_ext (f := comb (sqRow Q xs.length n) 0) (g := act Q n) (comb_xr _ 0) (act_lin Q n) xs.length (fun k hk => by
    have := comb_pow (sqRow Q xs.length n) 0 k
    rw [Nat.zero_add] at this
    rw [this, sqRow_getD Q hk, sqOr_act h]) v hv

/-! ### degrees -/
def Hom (xs : List Int) (d : Int) (v : Nat) : Prop := ∀ c, tb v c = true → c < xs.length ∧ xs.getD c 0 = d
theorem Hom.zero (xs : List Int) (d : Int) : Hom xs d 0 := fun c h => by rw [tb_zero] at h; cases h
theorem Hom.xr {d : Int} {v w : Nat} (hv : Hom xs d v) (hw : Hom xs d w) : Hom xs d (xr v w) := fun c h => by
  rw [tb_xr] at h
  cases h1 : tb v c
  · rw [h1] at h; exact hw c (by simpa using h)
  · exact hv c h1
theorem Hom.pow {i : Nat} (hi : i < xs.length) : Hom xs (xs.getD i 0) (2 ^ i) := fun c h => by
  rw [tb_pow] at h; simp only [decide_eq_true_eq] at h; subst h; exact ⟨hi, rfl⟩
theorem Hom.eq_zero {d : Int} {v : Nat} (hv : Hom xs d v) (h : ∀ i, i < xs.length → xs.getD i 0 ≠ d) : v = 0 := eq_of_tb fun c => by
  rw [tb_zero]
  cases hc : tb v c with
  | false => rfl
  | true => exact absurd (hv c hc).2 (h c (hv c hc).1)
theorem Hom.lt {d : Int} {v : Nat} (hv : Hom xs d v) : v < 2 ^ xs.length := lt_of_tb fun m hm => by
  cases hc : tb v m with
  | false => rfl
  | true => have := (hv m hc).1; omega
theorem hom_hit {e : List Int} (he : EntM xs e) (n d : Int) {v : Nat} (hv : Hom xs d v) : Hom xs (d + n) (hit n v e) := by
  unfold hit; split
  · rename_i h
    have h1 := (hv _ h.2).2
    have h2 := he.dg
    rw [h1, h.1] at h2
    rw [← h2]
    exact Hom.pow (by have := he.lo2; have := he.hi2; omega)
  · exact Hom.zero _ _
theorem hom_actE (n d : Int) {v : Nat} (hv : Hom xs d v) : ∀ {Q : List (List Int)}, (∀ e ∈ Q, EntM xs e) → Hom xs (d + n) (actE Q n v)
  | [], _ => Hom.zero _ _
  | e :: Q, h => by
    rw [actE_cons]
    exact (hom_hit (h e (List.mem_cons_self ..)) n d hv).xr (hom_actE n d hv fun f hf => h f (List.mem_cons_of_mem _ hf))
theorem act_hom (h : Shp xs Q) {n d : Int} {v : Nat} (hv : Hom xs d v) : Hom xs (d + n) (act Q n v) := by
  unfold act; split
  · rename_i h0; subst h0; rw [Int.add_zero]; exact hv
  · exact hom_actE n d hv fun e he => h.mem he
theorem Shp.mono (h : Shp xs Q) : ∀ d i, i + d < xs.length → xs.getD i 0 ≤ xs.getD (i + d) 0 := by
  intro d
  induction d with
  | zero => intro i _; exact Int.le_refl _
  | succ d ih => intro i hi; exact Int.le_trans (ih i (by omega)) (h.srt (i + d) (by omega))
theorem Shp.mono' (h : Shp xs Q) {i j : Nat} (hij : i ≤ j) (hj : j < xs.length) : xs.getD i 0 ≤ xs.getD j 0 := by
  have := h.mono (j - i) i (by omega)
  rwa [show i + (j - i) = j by omega] at this

/-! ### Adem's relations -/
def xsumf {α : Type} (f : α → Nat) (l : List α) : Nat := l.foldl (fun x j => xr x (f j)) 0
theorem xsumf_cons {α : Type} (f : α → Nat) (a : α) (l : List α) : xsumf f (a :: l) = xr (f a) (xsumf f l) := by
  unfold xsumf; simp only [List.foldl_cons]; rw [xfold, zero_xr]
theorem xsumf_append {α : Type} (f : α → Nat) (l m : List α) : xsumf f (l ++ m) = xr (xsumf f l) (xsumf f m) := by
  induction l with
  | nil => exact (zero_xr _).symm
  | cons a l ih => rw [List.cons_append, xsumf_cons, xsumf_cons, ih, xr_assoc]
theorem xsumf_reverse {α : Type} (f : α → Nat) (l : List α) : xsumf f l.reverse = xsumf f l := by
  induction l with
  | nil => rfl
  | cons a l ih => rw [List.reverse_cons, xsumf_append, ih, xsumf_cons, xsumf_cons, xr_comm]; simp only [xsumf, List.foldl_nil]; rw [xr_zero]
theorem xsumf_map {α β : Type} (f : β → Nat) (g : α → β) (l : List α) : xsumf f (l.map g) = xsumf (fun a => f (g a)) l := by
  unfold xsumf; rw [List.foldl_map]
theorem xsumf_zero {α : Type} (f : α → Nat) : ∀ (l : List α), (∀ a ∈ l, f a = 0) → xsumf f l = 0
  | [], _ => rfl
  | a :: l, h => by rw [xsumf_cons, h a (List.mem_cons_self ..), xsumf_zero f l fun b hb => h b (List.mem_cons_of_mem _ hb)]; rfl
theorem xsumf_congr {α : Type} {f g : α → Nat} : ∀ (l : List α), (∀ a ∈ l, f a = g a) → xsumf f l = xsumf g l
  | [], _ => rfl
  | a :: l, h => by rw [xsumf_cons, xsumf_cons, h a (List.mem_cons_self ..), xsumf_congr l fun b hb => h b (List.mem_cons_of_mem _ hb)]
/-- does j occur in Adem's relation for a and b? -/
def relB (a b j : Nat) : Bool := an (b - j - 1) (a - 2 * j) == a - 2 * j
def relN (a b : Nat) : List Nat := (List.range (a / 2 + 1)).filter (relB a b)
def adem (Q : List (List Int)) (a b v : Nat) : Nat := xsumf (fun j => act Q ((a + b - j : Nat) : Int) (act Q (j : Int) v)) (relN a b)
def OkAt (Q : List (List Int)) (a b v : Nat) : Prop := act Q (a : Int) (act Q (b : Int) v) = adem Q a b v
structure IsMod (xs : List Int) (Q : List (List Int)) : Prop where
  shp : Shp xs Q
  ok : ∀ a b : Nat, 1 ≤ a → a < 2 * b → a + b ≤ 20 → ∀ i, i < xs.length → OkAt Q a b (2 ^ i)
noncomputable def modB (xs : List Int) (Q : List (List Int)) : Bool := @decide (IsMod xs Q) (Classical.propDecidable _)
theorem modB_iff : modB xs Q = true ↔ IsMod xs Q := by unfold modB; simp
theorem modB_false : modB xs Q = false ↔ ¬ IsMod xs Q := by unfold modB; simp
theorem mem_relN {a b j : Nat} (h : j ∈ relN a b) : 2 * j ≤ a ∧ relB a b j = true := by
  unfold relN at h
  rw [List.mem_filter, List.mem_range] at h
  exact ⟨by omega, h.2⟩
/-- beyond the span of the degrees nothing is left of two squares -/
theorem far_zero (h : Shp xs Q) {a b i : Nat} (hi : i < xs.length) (hs : ∀ j, j < xs.length → xs.getD j 0 < xs.getD i 0 + a + b) (c e : Nat) (hc : c + e = a + b) : act Q (c : Int) (act Q (e : Int) (2 ^ i)) = 0 := by
  have h1 := act_hom h (n := (c : Int)) (act_hom h (n := (e : Int)) (Hom.pow hi))
  exact h1.eq_zero fun j hj => by have := hs j hj; omega
theorem far_ok (h : Shp xs Q) {a b i : Nat} (hi : i < xs.length) (hab : a < 2 * b) (hs : ∀ j, j < xs.length → xs.getD j 0 < xs.getD i 0 + a + b) : OkAt Q a b (2 ^ i) := by
  unfold OkAt adem
  rw [far_zero h hi hs a b rfl, xsumf_zero]
  intro j hj
  have := (mem_relN hj).1
  exact far_zero h hi hs _ _ (by omega)
/-- the words of Adem's relation, in order -/
def ademW (a b j : Nat) : List Int := if j = 0 then [((a + b : Nat) : Int)] else [((a + b - j : Nat) : Int), (j : Int)]
def wordM (Q : List (List Int)) (w : List Int) (v : Nat) : Nat := w.foldr (fun n v => act Q n v) v
theorem wordM_adem (Q : List (List Int)) (a b j v : Nat) : wordM Q (ademW a b j) v = act Q ((a + b - j : Nat) : Int) (act Q (j : Int) v) := by
  unfold ademW; split
  · rename_i h; subst h; simp only [wordM, List.foldr_cons, List.foldr_nil, Int.natCast_zero]; rw [act0]; rfl
  · rfl
def ademF (a b : Nat) : List (List Int) := ((relN a b).reverse).map (ademW a b)
theorem adem_form (Q : List (List Int)) (a b v : Nat) : xsumf (fun w => wordM Q w v) (ademF a b) = adem Q a b v := by
  unfold ademF adem
  rw [xsumf_map, xsumf_reverse]
  exact xsumf_congr _ fun j _ => wordM_adem Q a b j v
end
end Go.Proofs.Ytnffpjdlpjkioaa
