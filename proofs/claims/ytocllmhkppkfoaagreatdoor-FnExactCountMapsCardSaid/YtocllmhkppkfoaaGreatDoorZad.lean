/- what a law holds on to from call to call: pieces of memory, pairwise apart · results as laws take them; the laws' own helpers at modules -/
import Derived.Test.YtocllmhkppkfoaaGreatDoorZac
import Derived.Deep.Onto
namespace Go.Proofs.YtocllmhkppkfoaaGreatDoor
open Go.RowKit

/-- the blocks lo .. hi are as they were -/
def Same (lo hi : Nat) (w w' : World) : Prop := ∀ k, lo ≤ k → k < hi → w'.heap[k]? = w.heap[k]?
/-- a fact on the blocks lo .. hi alone -/
structure Piece where
  lo : Nat
  hi : Nat
  p : World → Prop
  loc : ∀ w w', Same lo hi w w' → p w → p w'

theorem own_same {lo hi : Nat} {w w' : World} {e : TypeId} {v : Value} {n : Nat} {xs : List Value} (hs : Same lo hi w w') (h : w.ownsRow lo e 1 v n xs) (hh : ∀ k, v.ownBlock = some k → k < hi) : w'.ownsRow lo e 1 v n xs := by
  refine ⟨h.1, ?_⟩
  rcases h.2 with h0 | ⟨g, cap, cur, rfl, hb, hg, rest⟩
  · exact .inl h0
  · refine .inr ⟨g, cap, cur, rfl, hb, ?_, rest⟩
    rw [hs g hb (hh g rfl)]
    exact hg
/-- all rows lie below hi -/
def UpR (hi : Nat) (v : Value) (L : List Row) : Prop := (∀ k, v.ownBlock = some k → k < hi) ∧ ∀ i, i < L.length → ∀ k, (rg L i).val.ownBlock = some k → k < hi
theorem OwnR.up {w : World} {B : Nat} {v : Value} {L : List Row} (h : OwnR w B v L) : UpR w.heap.size v L := ⟨fun k hk => (h.out.lt k hk).2, fun i hi k hk => ((h.inn i hi).lt k hk).2⟩
theorem OwnR.same {lo hi : Nat} {w w' : World} {v : Value} {L : List Row} (hs : Same lo hi w w') (h : OwnR w lo v L) (hu : UpR hi v L) : OwnR w' lo v L :=
  ⟨own_same hs h.out hu.1, fun i hi => own_same hs (h.inn i hi) (hu.2 i hi), h.dis⟩
theorem UpR.marks {hi : Nat} {v : Value} {L : List Row} (h : UpR hi v L) (k0 : Int) : UpR hi v (marksR k0 L) :=
  ⟨h.1, fun i hi' k hk => by
    rw [marksR_length] at hi'
    rw [rg_marksR k0 L i hi'] at hk
    have e : Row.val ⟨(rg L i).A, (rg L i).c, Go.Proofs.YtocllmhkppkfoaaGreatDoor.marks (k0 + tot (L.take i)) (rg L i).xs.length⟩ = (rg L i).val := by simp [Row.val, marks_length]
    rw [e] at hk
    exact h.2 i hi' k hk⟩

def ownP (lo hi : Nat) (e : TypeId) (v : Value) (n : Nat) (xs : List Value) : Piece :=
  ⟨lo, hi, fun w => w.ownsRow lo e 1 v n xs ∧ ∀ k, v.ownBlock = some k → k < hi, fun _ _ hs h => ⟨own_same hs h.1 h.2, h.2⟩⟩
def rowsP (lo hi : Nat) (v : Value) (L : List Row) : Piece :=
  ⟨lo, hi, fun w => OwnR w lo v L ∧ UpR hi v L, fun _ _ hs h => ⟨h.1.same hs h.2, h.2⟩⟩
def boxP (g : Nat) (cs : Array Value) (t : TypeId) : Piece :=
  ⟨g, g + 1, fun w => w.heap[g]? = some (.cells cs t (0, 0)), fun _ _ hs h => (hs g (Nat.le_refl _) (by omega)).trans h⟩

/-- w0: the world as the law began; below its end nothing has turned. -/
structure Inw (w0 w : World) (L : List Piece) : Prop where
  bel : Below w0.heap.size w0 w
  all : ∀ c ∈ L, w0.heap.size ≤ c.lo ∧ c.hi ≤ w.heap.size ∧ c.p w
  off : L.Pairwise fun a b => b.hi ≤ a.lo ∨ a.hi ≤ b.lo

section
variable {w0 w w' : World} {L : List Piece}
theorem Inw.start (w : World) : Inw w w [] := ⟨Below.refl _ _, by simp, .nil⟩
theorem Inw.size (h : Inw w0 w L) : w0.heap.size ≤ w.heap.size := h.bel.size
theorem Inw.step (h : Inw w0 w L) (hb : Below w.heap.size w w') : Inw w0 w' L :=
  ⟨h.bel.trans (hb.mono h.bel.size), fun c hc => ⟨(h.all c hc).1, Nat.le_trans (h.all c hc).2.1 hb.size, c.loc w w' (fun k _ hk => hb.block k (Nat.lt_of_lt_of_le hk (h.all c hc).2.1)) (h.all c hc).2.2⟩, h.off⟩
theorem Inw.push (h : Inw w0 w L) (hb : Below w.heap.size w w') (c : Piece) (hlo : w.heap.size ≤ c.lo) (hhi : c.hi ≤ w'.heap.size) (hp : c.p w') : Inw w0 w' (c :: L) := by
  have h1 := h.step hb
  refine ⟨h1.bel, ?_, List.pairwise_cons.2 ⟨?_, h.off⟩⟩
  · intro d hd
    rcases List.mem_cons.1 hd with rfl | hd
    · exact ⟨Nat.le_trans h.bel.size hlo, hhi, hp⟩
    · exact h1.all d hd
  · intro d hd
    exact .inl (Nat.le_trans (h.all d hd).2.1 hlo)
theorem Inw.get (h : Inw w0 w L) (i : Nat) {c : Piece} (hi : L[i]? = some c) : c.p w := (h.all c (List.mem_of_getElem? hi)).2.2
theorem Inw.own (h : Inw w0 w L) (i : Nat) {lo hi : Nat} {e : TypeId} {v : Value} {n : Nat} {xs : List Value} (hi' : L[i]? = some (ownP lo hi e v n xs)) : w.ownsRow lo e 1 v n xs := (h.get i hi').1
theorem Inw.rows (h : Inw w0 w L) (i : Nat) {lo hi : Nat} {v : Value} {M : List Row} (hi' : L[i]? = some (rowsP lo hi v M)) : OwnR w lo v M := (h.get i hi').1
theorem Inw.rowsUp (h : Inw w0 w L) (i : Nat) {lo hi : Nat} {v : Value} {M : List Row} (hi' : L[i]? = some (rowsP lo hi v M)) : UpR hi v M := (h.get i hi').2
theorem Inw.box (h : Inw w0 w L) (i : Nat) {g : Nat} {cs : Array Value} {t : TypeId} (hi' : L[i]? = some (boxP g cs t)) : w.heap[g]? = some (.cells cs t (0, 0)) := h.get i hi'
theorem Inw.pushOwn (h : Inw w0 w L) (hb : Below w.heap.size w w') {e : TypeId} {v : Value} {n : Nat} {xs : List Value} (ho : w'.ownsRow w.heap.size e 1 v n xs) : Inw w0 w' (ownP w.heap.size w'.heap.size e v n xs :: L) :=
  h.push hb _ (Nat.le_refl _) (Nat.le_refl _) ⟨ho, fun k hk => (ho.lt k hk).2⟩
theorem Inw.pushRows (h : Inw w0 w L) (hb : Below w.heap.size w w') {v : Value} {M : List Row} (ho : OwnR w' w.heap.size v M) : Inw w0 w' (rowsP w.heap.size w'.heap.size v M :: L) :=
  h.push hb _ (Nat.le_refl _) (Nat.le_refl _) ⟨ho, ho.up⟩
theorem Inw.allocBox (h : Inw w0 w L) (cs : Array Value) (t : TypeId) : Inw w0 (w.alloc (.cells cs t)) (boxP w.heap.size cs t :: L) :=
  h.push ((Below.refl _ _).alloc (Nat.le_refl _) _) _ (Nat.le_refl _) (by simp [boxP]) (heap_alloc_new w _)
theorem Inw.drewN (h : Inw w0 w L) (m : Nat) : Inw w0 (w.drewN m) L := h.step (below_drewN (Below.refl _ _) m)
theorem Inw.drew (h : Inw w0 w L) : Inw w0 w.drew L := h.step (Below.drew (Below.refl _ _))
/-- the piece at place i has been written, and nothing else -/
theorem Inw.mark (h : Inw w0 w L) (i : Nat) {c : Piece} (c' : Piece) (hi' : L[i]? = some c) (hlo : c'.lo = c.lo) (hhi : c'.hi = c.hi) (hk : Within c.lo c.hi w w') (hp : c'.p w') : Inw w0 w' (L.set i c') := by
  obtain ⟨hil, hie⟩ := List.getElem?_eq_some_iff.1 hi'
  have hc := h.all c (List.mem_of_getElem? hi')
  refine ⟨h.bel.trans (hk.to_below h.bel.size hc.1), ?_, ?_⟩
  · intro d hd
    obtain ⟨j, hj, hje⟩ := List.getElem_of_mem hd
    rw [List.length_set] at hj
    rw [List.getElem_set] at hje
    split at hje
    · subst hje; exact ⟨by rw [hlo]; exact hc.1, by rw [hhi]; exact Nat.le_trans hc.2.1 hk.size, hp⟩
    · rename_i hne
      have hap : d.hi ≤ c.lo ∨ c.hi ≤ d.lo := by
        rw [← hie, ← hje]
        rcases Nat.lt_or_ge i j with hlt | hge
        · exact (List.pairwise_iff_getElem.1 h.off) i j hil hj hlt
        · rcases (List.pairwise_iff_getElem.1 h.off) j i hj hil (by omega) with e | e
          · exact .inr e
          · exact .inl e
      have hdw := h.all d (by rw [← hje]; exact List.getElem_mem hj)
      exact ⟨hdw.1, Nat.le_trans hdw.2.1 hk.size, d.loc w w' (fun k h1 h2 => hk.block k (by omega) (by omega)) hdw.2.2⟩
  · rw [List.pairwise_iff_getElem]
    intro a b ha hb hab
    rw [List.length_set] at ha hb
    have := (List.pairwise_iff_getElem.1 h.off) a b ha hb hab
    rw [List.getElem_set, List.getElem_set]
    split
    · rename_i e1; subst e1
      rw [if_neg (by omega), hlo, hhi, ← hie]; exact this
    · split
      · rename_i e1 e2; subst e2
        rw [hlo, hhi, ← hie]; exact this
      · exact this
theorem Inw.markOwn (h : Inw w0 w L) (i : Nat) {lo hi : Nat} {e : TypeId} {v : Value} {n : Nat} {xs ys : List Value} (hi' : L[i]? = some (ownP lo hi e v n xs)) (hk : Keeps w w' [v.ownBlock]) (ho : w'.ownsRow lo e 1 v n ys) : Inw w0 w' (L.set i (ownP lo hi e v n ys)) := by
  have h1 := h.get i hi'
  exact h.mark i _ hi' rfl rfl (Within.of_keeps hk (fun k hk => ⟨(h1.1.lt k hk).1, h1.2 k hk⟩)) ⟨ho, h1.2⟩
theorem Inw.markRows (h : Inw w0 w L) (i : Nat) {lo hi : Nat} {v : Value} {M : List Row} {k0 : Int} (hi' : L[i]? = some (rowsP lo hi v M)) (hk : Within lo hi w w') (ho : OwnR w' lo v (marksR k0 M)) : Inw w0 w' (L.set i (rowsP lo hi v (marksR k0 M))) := by
  have h1 := h.get i hi'
  exact h.mark i _ hi' rfl rfl hk ⟨ho, h1.2.marks k0⟩
end
end Go.Proofs.YtocllmhkppkfoaaGreatDoor

namespace Go.Proofs.YtocllmhkppkfoaaGreatDoor
open Go.RowKit

/-- a new slice of ints and a code -/
def ResS (r : List Int × Int) (w : World) (e : Ending) (w' : World) : Prop := ∃ v, e = .returned (.tuple #[v, .int .i64 r.2]) ∧ w'.ownsRow w.heap.size 2 1 v r.1.length (iv r.1) ∧ Below w.heap.size w w'
/-- new rows of rows and a code -/
def ResR (r : List (List Int) × Int) (w : World) (e : Ending) (w' : World) : Prop := ∃ v M, e = .returned (.tuple #[v, .int .i64 r.2]) ∧ dat M = r.1 ∧ OwnR w' w.heap.size v M ∧ Below w.heap.size w w'
def ResI (r : Int × Int) (w : World) (e : Ending) (w' : World) : Prop := e = .returned (.tuple #[.int .i64 r.1, .int .i64 r.2]) ∧ Below w.heap.size w w'
def ResB (r : Bool × Int) (w : World) (e : Ending) (w' : World) : Prop := e = .returned (.tuple #[.bool r.1, .int .i64 r.2]) ∧ Below w.heap.size w w'
theorem blk2set0' {w : World} {g : Nat} {u v : Value} {t : TypeId} (h : w.heap[g]? = some (.cells #[u, v] t (0, 0))) (x : Value) : (w.setCell ⟨g, 0, none⟩ x).heap[g]? = some (.cells #[x, v] t (0, 0)) := by
  have := heap_setCell_same w g 0 _ t x h
  simpa using this
theorem blk2set1' {w : World} {g : Nat} {u v : Value} {t : TypeId} (h : w.heap[g]? = some (.cells #[u, v] t (0, 0))) (x : Value) : (w.setCell ⟨g, 1, none⟩ x).heap[g]? = some (.cells #[u, x] t (0, 0)) := by
  have := heap_setCell_same w g 1 _ t x h
  simpa using this
theorem blk_seto {w : World} {g : Nat} {x : Obj} (h : w.heap[g]? = some x) (p : Addr) (hp : p.block ≠ g) (u : Value) : (w.setCell p u).heap[g]? = some x := (Below.heap_setCell w p u g (Ne.symm hp)).trans h
theorem blk_kept {w w' : World} {g : Nat} {x : Obj} (h : w.heap[g]? = some x) (hb : Below w.heap.size w w') : w'.heap[g]? = some x := (hb.block g (Array.getElem?_eq_some_iff.1 h).1).trans h
theorem own_ne_blk {w : World} {B bs n : Nat} {e t : TypeId} {v : Value} {xs : List Value} {cs : Array Value} (h : w.ownsRow B e 1 v n xs) (hb : w.heap[bs]? = some (.cells cs t (0, 0))) (hne : e ≠ t) : v.ownBlock ≠ some bs := by
  rcases h.2 with ⟨rfl, _⟩ | ⟨g, cap, cur, rfl, _, hg, _⟩
  · simp [Value.ownBlock]
  · intro he
    have : g = bs := by simpa [Value.ownBlock] using he
    subst this
    rw [hg] at hb
    injection hb with hb
    injection hb with _ ht
    exact hne ht
theorem eqInts_same (A A' : Option Addr) (n c c' : Nat) (xs : List Int) (w : World) (hn : n = xs.length) (hsm : n ≤ 1099511627776) (hR : Rd w A (iv xs)) (hR' : Rd w A' (iv xs)) :
    Calls Tryz.prog 15 #[.slice A n c, .slice A' n c'] w fun e w' => e = .returned (.bool true) ∧ ∃ m, w.drewN m = w' := by
  have h := eqInts_any A A' n n c c' xs xs w hn hn hsm hsm hR hR'
  rwa [eqI_refl] at h

theorem eqIntsB_any (A A' : Option Addr) (n c c' : Nat) (xs : List Int) (w : World) (hn : n = xs.length) (hsm : n ≤ 1099511627776) (hR : Rd w A (iv xs)) (hR' : Rd w A' (iv xs)) :
    Calls Tryz.prog 15 #[.slice A n c, .slice A' n c'] w fun e w' => e = .returned (.bool true) ∧ Below w.heap.size w w' :=
  (eqInts_same A A' n c c' xs w hn hsm hR hR').mono fun _ _ ⟨he, m, hm⟩ => ⟨he, hm ▸ below_drewN (Below.refl _ _) m⟩
theorem eqRowsB_any (A A' : Option Addr) (n n' c c' : Nat) (L M : List Row) (w : World) (hn : n = L.length) (hn' : n' = M.length) (hsm : n ≤ 1099511627776) (hl : ∀ i, i < L.length → (rg L i).xs.length ≤ 1099511627776) (hd : dat M = dat L) (hR : RdR w A L) (hR' : RdR w A' M) :
    Calls Tryz.prog 16 #[.slice A n c, .slice A' n' c'] w fun e w' => e = .returned (.bool true) ∧ Below w.heap.size w w' :=
  (eqRows_any A A' n n' c c' L M w hn hn' hsm hl hd hR hR').mono fun _ _ ⟨he, m, hm⟩ => ⟨he, hm ▸ below_drewN (Below.refl _ _) m⟩
theorem tot_dat {L M : List Row} (h : dat M = dat L) : tot M = tot L := by
  have e : ∀ X : List Row, tot X = ((dat X).map List.length).sum := fun X => by simp [tot, dat, List.map_map, Function.comp_def]
  rw [e, e, h]
theorem tot_le {L : List Row} {k : Nat} (h : ∀ i, i < L.length → (rg L i).xs.length ≤ k) : tot L ≤ k * L.length := by
  have key : ∀ j, j ≤ L.length → tot (L.take j) ≤ k * j := by
    intro j
    induction j with
    | zero => intro _; simp [tot]
    | succ j ih =>
      intro hj
      rw [tot_succ (by omega)]
      have := ih (by omega)
      have := h j (by omega)
      rw [Nat.mul_succ]; omega
  have := key L.length (Nat.le_refl _)
  rwa [tot_all (Nat.le_refl _)] at this
theorem kb_add1 {a c : Int} {x : Nat} (h : 0 ≤ a ∧ a ≤ c) (hx : x ≤ 1048576) : 0 ≤ a + x ∧ a + x ≤ c + 1048576 := by omega
theorem kb_add2 {a c : Int} {x y : Nat} (h : 0 ≤ a ∧ a ≤ c) (hx : x ≤ 1048576) (hy : y ≤ 1048576) : 0 ≤ a + x + y ∧ a + x + y ≤ c + 2097152 := by omega
theorem rows_small {M : List Row} {r : List (List Int)} (hd : dat M = r) (h : r.length ≤ 1000 ∧ ∀ x ∈ r, x.length ≤ 1000) : M.length ≤ 1000 ∧ tot M ≤ 1000000 ∧ ∀ i, i < M.length → (rg M i).xs.length ≤ 1000 := by
  subst hd
  have h1 : M.length ≤ 1000 := by rw [← dat_length]; exact h.1
  have h2 : ∀ i, i < M.length → (rg M i).xs.length ≤ 1000 := fun i hi => h.2 _ (List.mem_map_of_mem (rg_mem hi))
  exact ⟨h1, Nat.le_trans (tot_le h2) (by omega), h2⟩

/-- A module's memory of the call's own. -/
structure OwnM (w : World) (B : Nat) (vd : Value) (xs : List Int) (va : Value) (L : List Row) : Prop where
  deg : w.ownsRow B 2 1 vd xs.length (iv xs)
  act : OwnR w B va L
  dis : ∀ i, i < L.length → vd.ownBlock = none ∨ vd.ownBlock ≠ (rg L i).val.ownBlock
def UpM (hi : Nat) (vd va : Value) (L : List Row) : Prop := (∀ k, vd.ownBlock = some k → k < hi) ∧ UpR hi va L
theorem OwnM.up {w : World} {B : Nat} {vd va : Value} {xs : List Int} {L : List Row} (h : OwnM w B vd xs va L) : UpM w.heap.size vd va L := ⟨fun k hk => (h.deg.lt k hk).2, h.act.up⟩
def modP (lo hi : Nat) (vd : Value) (xs : List Int) (va : Value) (L : List Row) : Piece :=
  ⟨lo, hi, fun w => OwnM w lo vd xs va L ∧ UpM hi vd va L, fun _ _ hs h => ⟨⟨own_same hs h.1.deg h.2.1, h.1.act.same hs h.2.2, h.1.dis⟩, h.2⟩⟩
section
variable {w0 w w' : World} {L : List Piece}
theorem Inw.mod (h : Inw w0 w L) (i : Nat) {lo hi : Nat} {vd va : Value} {xs : List Int} {M : List Row} (hi' : L[i]? = some (modP lo hi vd xs va M)) : OwnM w lo vd xs va M := (h.get i hi').1
theorem Inw.modUp (h : Inw w0 w L) (i : Nat) {lo hi : Nat} {vd va : Value} {xs : List Int} {M : List Row} (hi' : L[i]? = some (modP lo hi vd xs va M)) : UpM hi vd va M := (h.get i hi').2
theorem Inw.pushMod (h : Inw w0 w L) (hb : Below w.heap.size w w') {vd va : Value} {xs : List Int} {M : List Row} (ho : OwnM w' w.heap.size vd xs va M) : Inw w0 w' (modP w.heap.size w'.heap.size vd xs va M :: L) :=
  h.push hb _ (Nat.le_refl _) (Nat.le_refl _) ⟨ho, ho.up⟩
theorem Inw.markMod (h : Inw w0 w L) (i : Nat) {lo hi : Nat} {vd va : Value} {xs ys : List Int} {M : List Row} {k0 : Int} (hi' : L[i]? = some (modP lo hi vd xs va M)) (hk : Within lo hi w w') (ho : OwnM w' lo vd ys va (marksR k0 M)) : Inw w0 w' (L.set i (modP lo hi vd ys va (marksR k0 M))) := by
  have h1 := h.get i hi'
  exact h.mark i _ hi' rfl rfl hk ⟨ho, h1.2.1, h1.2.2.marks k0⟩
end

def SzMOk (n n' t : Nat) (left z : Int) : Prop := z = -1 ∨ (0 ≤ z ∧ z + n + n' + t = left)
set_option maxHeartbeats 1000000 in
theorem szModule_any (A A' : Option Addr) (n c n' c' : Nat) (L : List Row) (left : Int) (w : World) (hsm : n ≤ 9223372036854775807) (hn' : n' = L.length) (hsm' : n' ≤ 9223372036854775807) (hl : ∀ i, i < L.length → (rg L i).xs.length ≤ 9223372036854775807) (h0 : 0 ≤ left) (h1 : left ≤ 1048576) (hR : RdR w A' L) :
    Calls Tryz.prog 4 #[.agg #[.slice A n c, .slice A' n' c'], .int .i64 left] w fun e w' => ∃ z : Int, e = .returned (.int .i64 z) ∧ SzMOk n n' (tot L) left z ∧ Below w.heap.size w w' := by
  have hb := box2 w (.slice A n c) (.slice A' n' c') 25
  obtain ⟨b0, b1⟩ := hb
  have hR1 := hR.alloc (.cells #[.slice A n c, .slice A' n' c'] 25)
  have hs := fun W => szInts_any A n c left W hsm h0 h1
  by_cases h : left - n < 0
  · rw [show szV n left = -1 by unfold szV; rw [if_pos h]] at hs
    have HS := Lib.hid hs
    clear hs hR hR1 hl hn'
    go_enter Tryz.func4, Tryz.ntmps4
    go_wp2_with (go_at_call 9; refine (HS.out _).mono ?_; rintro e w' ⟨rfl, rfl⟩)
    go_ret
    exact ⟨-1, rfl, .inl rfl, (Below.refl _ _).alloc (Nat.le_refl _) _⟩
  · rw [show szV n left = left - n by unfold szV; rw [if_neg h]] at hs
    have HS := Lib.hid hs
    have HZ := Lib.hid (szRows_any A' n' c' L (left - n) _ hn' hsm' hl (by omega) (by omega) hR1)
    clear hs hR hR1 hl hn'
    go_enter Tryz.func4, Tryz.ntmps4
    go_wp2_with (go_at_call 9; refine (HS.out _).mono ?_; rintro e w' ⟨rfl, rfl⟩)
    refine HZ.out.mono ?_
    rintro e w' ⟨z, rfl, hz, rfl⟩
    rcases hz with rfl | ⟨hz0, hz1⟩
    · go_wp2_with fail
      go_ret
      exact ⟨-1, rfl, .inl rfl, (Below.refl _ _).alloc (Nat.le_refl _) _⟩
    · go_wp2_with fail
      go_ret
      exact ⟨z, rfl, .inr ⟨hz0, by omega⟩, (Below.refl _ _).alloc (Nat.le_refl _) _⟩

set_option maxRecDepth 100000 in
set_option maxHeartbeats 2000000 in
theorem toModule_any (A A' : Option Addr) (n c n' c' : Nat) (xs : List Int) (L : List Row) (w : World) (hn : n = xs.length) (hsm : n ≤ 1048576) (hR : Rd w A (iv xs)) (hn' : n' = L.length) (hsm' : n' ≤ 1048576) (hl : ∀ i, i < L.length → (rg L i).xs.length ≤ 1048576) (hR' : RdR w A' L) :
    Calls Tryz.prog 6 #[.agg #[.slice A n c, .slice A' n' c']] w fun e w' => ∃ g g' M, e = .returned (.agg #[.slice (some ⟨g, 0, none⟩) n n, .slice (some ⟨g', 0, none⟩) n' n']) ∧ dat M = dat L ∧ OwnM w' w.heap.size (.slice (some ⟨g, 0, none⟩) n n) xs (.slice (some ⟨g', 0, none⟩) n' n') M ∧ Below w.heap.size w w' := by
  have hk1 := blk_alloc (blk_alloc (blk_new w (.cells #[.slice A n c, .slice A' n' c'] 25)) (.cells #[.slice none 0 0, .slice none 0 0] 29)) (.cells #[.slice none 0 0, .slice none 0 0] 29)
  have hk2 := blk_alloc (blk_new1 w (.cells #[.slice A n c, .slice A' n' c'] 25) (.cells #[.slice none 0 0, .slice none 0 0] 29)) (.cells #[.slice none 0 0, .slice none 0 0] 29)
  have hk3 := blk_new2 w (.cells #[.slice A n c, .slice A' n' c'] 25) (.cells #[.slice none 0 0, .slice none 0 0] 29) (.cells #[.slice none 0 0, .slice none 0 0] 29)
  have hbel : Below w.heap.size w (((w.alloc (.cells #[.slice A n c, .slice A' n' c'] 25)).alloc (.cells #[.slice none 0 0, .slice none 0 0] 29)).alloc (.cells #[.slice none 0 0, .slice none 0 0] 29)) := (((Below.refl _ _).alloc (Nat.le_refl _) _).alloc (by simp) _).alloc (by simp; omega) _
  have HC1 := Lib.hid (toInts_any A n c xs _ hn hsm (hR.below hbel))
  have HK1 := Lib.hid hk1
  have HK2 := Lib.hid hk2
  have HK3 := Lib.hid hk3
  have HB := Lib.hid hbel
  have HC2 := Lib.hid (fun W (hb : Below w.heap.size w W) => toRows_any A' n' c' L W hn' hsm' hl (hR'.below hb))
  have HN := Lib.hid hn
  clear hk1 hk2 hk3 hbel hR hR' hn hn' hl
  go_enter Tryz.func6, Tryz.ntmps6
  go_wp2_with fail
  refine HC1.out.mono ?_
  rintro e w1 ⟨g, rfl, ho, hb⟩
  have HK1a := Lib.hid (blk_kept HK1.out hb)
  have HK2a := Lib.hid (blk_kept HK2.out hb)
  have HK3a := Lib.hid (blk_kept HK3.out hb)
  obtain ⟨x0, x1, xf0, xf1, lx⟩ := blk2cells HK1a.out
  obtain ⟨y0, y1, yf0, yf1, ly⟩ := blk2cells HK2a.out
  obtain ⟨z0, z1, zf0, zf1, lz⟩ := blk2cells HK3a.out
  have HB1 := Lib.hid (HB.out.trans (hb.mono HB.out.size))
  have HO1 := Lib.hid (ho.mono (show w.heap.size ≤ _ by simp; omega))
  clear ho hb
  go_wp2_with fail
  have HK1b := Lib.hid (blk_seto HK1a.out ⟨w.heap.size + 1 + 1, 0, none⟩ (by simp; omega) (.slice (some ⟨g, 0, none⟩) n n))
  have HK2b := Lib.hid (blk_seto HK2a.out ⟨w.heap.size + 1 + 1, 0, none⟩ (by simp) (.slice (some ⟨g, 0, none⟩) n n))
  have HK3b := Lib.hid (blk2set0' HK3a.out (.slice (some ⟨g, 0, none⟩) n n))
  have HB2 := Lib.hid (HB1.out.setCell (p := ⟨w.heap.size + 1 + 1, 0, none⟩) (by simp; omega) (.slice (some ⟨g, 0, none⟩) n n))
  have HO2 := Lib.hid (owns_keeps HO1.out ((Keeps.refl w1 [some (w.heap.size + 1 + 1)]).setCell (p := ⟨w.heap.size + 1 + 1, 0, none⟩) (by simp) (.slice (some ⟨g, 0, none⟩) n n)) (.inr (by have := own_ne_blk HO1.out HK3a.out (by decide); simpa using this)))
  have HC3 := Lib.hid (HC2.out _ HB2.out)
  clear HC2 HC1
  refine HC3.out.mono ?_
  clear x0 x1 xf0 xf1 lx y0 y1 yf0 yf1 ly z0 z1 zf0 zf1 lz HC3
  rintro e w2 ⟨g', M, rfl, hd, ho, hb⟩
  have HK1c := Lib.hid (blk_kept HK1b.out hb)
  have HK2c := Lib.hid (blk_kept HK2b.out hb)
  have HK3c := Lib.hid (blk_kept HK3b.out hb)
  obtain ⟨x0, x1, xf0, xf1, lx⟩ := blk2cells HK1c.out
  obtain ⟨y0, y1, yf0, yf1, ly⟩ := blk2cells HK2c.out
  obtain ⟨z0, z1, zf0, zf1, lz⟩ := blk2cells HK3c.out
  have HD := Lib.hid hd
  have HB3 := Lib.hid (HB2.out.trans (hb.mono HB2.out.size))
  have hdis : ∀ i, i < M.length → (Value.slice (some ⟨g, 0, none⟩) n n).ownBlock = none ∨ (Value.slice (some ⟨g, 0, none⟩) n n).ownBlock ≠ (rg M i).val.ownBlock := fun i hi => .inr (fun e => by
    have h1 := (HO2.out.lt g rfl).2
    have h2 := ((ho.inn i hi).lt g (by rw [← e]; rfl)).1
    omega)
  have HDI := Lib.hid hdis
  have HOR := Lib.hid (ho.mono HB2.out.size)
  have HO3 := Lib.hid (owns_keeps HO2.out (Keeps.of_below hb) (.inr (by simp)))
  clear ho hb hd hdis
  go_wp2_with fail
  have k : Keeps w2 (((w2.setCell ⟨w.heap.size + 1 + 1, 1, none⟩ (.slice (some ⟨g', 0, none⟩) n' n')).setCell ⟨w.heap.size + 1, 0, none⟩ (.slice (some ⟨g, 0, none⟩) n n)).setCell ⟨w.heap.size + 1, 1, none⟩ (.slice (some ⟨g', 0, none⟩) n' n')) [some (w.heap.size + 1), some (w.heap.size + 1 + 1)] :=
    (((Keeps.refl w2 [some (w.heap.size + 1), some (w.heap.size + 1 + 1)]).setCell (p := ⟨w.heap.size + 1 + 1, 1, none⟩) (by simp) _).setCell (p := ⟨w.heap.size + 1, 0, none⟩) (by simp) _).setCell (p := ⟨w.heap.size + 1, 1, none⟩) (by simp) _
  refine bodyPost_ret (v := .agg #[.slice (some ⟨g, 0, none⟩) n n, .slice (some ⟨g', 0, none⟩) n' n']) ?_ rfl ⟨g, g', M, rfl, HD.out, ⟨?_, ?_, HDI.out⟩, ?_⟩
  · simp [results, Tryz.results6, go_sem, y0, y1]
  · rw [← HN.out]
    exact owns_keeps HO3.out k (.inr (by have h1 := own_ne_blk HO3.out HK2c.out (by decide); have h2 := own_ne_blk HO3.out HK3c.out (by decide); simp only [List.mem_cons, List.not_mem_nil, or_false, not_or]; exact ⟨h1, h2⟩))
  · refine HOR.out.keeps k (.inr ?_) (fun i hi => .inr ?_)
    · have h1 := own_ne_blk HOR.out.out HK2c.out (by decide); have h2 := own_ne_blk HOR.out.out HK3c.out (by decide)
      simp only [List.mem_cons, List.not_mem_nil, or_false, not_or]; exact ⟨h1, h2⟩
    · have h1 := own_ne_blk (HOR.out.inn i hi) HK2c.out (by decide); have h2 := own_ne_blk (HOR.out.inn i hi) HK3c.out (by decide)
      simp only [List.mem_cons, List.not_mem_nil, or_false, not_or]; exact ⟨h1, h2⟩
  · exact ((HB3.out.setCell (p := ⟨w.heap.size + 1 + 1, 1, none⟩) (by simp; omega) _).setCell (p := ⟨w.heap.size + 1, 0, none⟩) (by simp) _).setCell (p := ⟨w.heap.size + 1, 1, none⟩) (by simp) _

set_option maxHeartbeats 1000000 in
theorem eqModule_any (A B A' B' : Option Addr) (n c d n' c' d' : Nat) (xs : List Int) (L M : List Row) (w : World) (hn : n = xs.length) (hsm : n ≤ 1048576) (hn' : n' = L.length) (hsm' : n' ≤ 1048576) (hl : ∀ i, i < L.length → (rg L i).xs.length ≤ 1048576) (hd : dat M = dat L) (hR : Rd w A (iv xs)) (hRb : Rd w B (iv xs)) (hR' : RdR w A' L) (hRb' : RdR w B' M) :
    Calls Tryz.prog 8 #[.agg #[.slice A n c, .slice A' n' c'], .agg #[.slice B n d, .slice B' n' d']] w fun e w' => e = .returned (.bool true) ∧ Below w.heap.size w w' := by
  have hk1 := blk_alloc (blk_new w (.cells #[.slice A n c, .slice A' n' c'] 29)) (.cells #[.slice B n d, .slice B' n' d'] 29)
  have hk2 := blk_new1 w (.cells #[.slice A n c, .slice A' n' c'] 29) (.cells #[.slice B n d, .slice B' n' d'] 29)
  have hbel : Below w.heap.size w ((w.alloc (.cells #[.slice A n c, .slice A' n' c'] 29)).alloc (.cells #[.slice B n d, .slice B' n' d'] 29)) := ((Below.refl _ _).alloc (Nat.le_refl _) _).alloc (by simp) _
  obtain ⟨x0, x1, _, _, _⟩ := blk2cells hk1
  obtain ⟨y0, y1, _, _, _⟩ := blk2cells hk2
  have HC := Lib.hid (eqInts_same A B n c d xs _ hn (by omega) (hR.below hbel) (hRb.below hbel))
  have HC2 := Lib.hid (fun m => eqRows_any A' B' n' n' c' d' L M _ hn' (by rw [hn', (dat_xs hd).1]) (by omega) (fun i hi => Nat.le_trans (hl i hi) (by omega)) hd ((hR'.below hbel).drewN m) ((hRb'.below hbel).drewN m))
  have HB := Lib.hid hbel
  clear hk1 hk2 hbel hn hn' hl hd hR hRb hR' hRb'
  go_enter Tryz.func8, Tryz.ntmps8
  go_wp2_with fail
  refine HC.out.mono ?_
  rintro e w1 ⟨rfl, m, rfl⟩
  go_wp2_with fail
  refine (HC2.out m).mono ?_
  rintro e w1 ⟨rfl, m', rfl⟩
  go_wp2_with fail
  go_ret
  exact ⟨rfl, below_drewN HB.out _⟩

end Go.Proofs.YtocllmhkppkfoaaGreatDoor
