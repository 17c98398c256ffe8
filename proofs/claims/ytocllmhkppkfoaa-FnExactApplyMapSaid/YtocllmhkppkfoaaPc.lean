/- what a law holds on to from call to call: pieces of memory, pairwise apart -/
import Derived.Test.YtocllmhkppkfoaaRy
namespace Go.Proofs.Ytocllmhkppkfoaa
open Go.RowKit

/-- the blocks lo .. hi are as they were -/
def Same (lo hi : Nat) (w w' : World) : Prop := ∀ k, lo ≤ k → k < hi → w'.heap[k]? = w.heap[k]?
/-- a fact on the blocks lo .. hi alone -/
structure Piece where
  lo : Nat
  hi : Nat
  p : World → Prop
  loc : ∀ w w', Same lo hi w w' → p w → p w'

theorem own_same {lo hi : Nat} {w w' : World} {e : TypeId} {v : Value} {n : Nat} {xs : List Value} (hs : Same lo hi w w') (h : w.ownsRow lo e 1 v n xs) (hh : ∀ k, v.ownBlock = some k → k < hi) : w'.ownsRow lo e 1 v n xs := by
  refine ⟨h.1, ?_⟩
  rcases h.2 with h0 | ⟨g, cap, cur, rfl, hb, hg, rest⟩
  · exact .inl h0
  · refine .inr ⟨g, cap, cur, rfl, hb, ?_, rest⟩
    rw [hs g hb (hh g rfl)]
    exact hg
/-- all rows lie below hi -/
def UpR (hi : Nat) (v : Value) (L : List Row) : Prop := (∀ k, v.ownBlock = some k → k < hi) ∧ ∀ i, i < L.length → ∀ k, (rg L i).val.ownBlock = some k → k < hi
theorem OwnR.up {w : World} {B : Nat} {v : Value} {L : List Row} (h : OwnR w B v L) : UpR w.heap.size v L := ⟨fun k hk => (h.out.lt k hk).2, fun i hi k hk => ((h.inn i hi).lt k hk).2⟩
theorem OwnR.same {lo hi : Nat} {w w' : World} {v : Value} {L : List Row} (hs : Same lo hi w w') (h : OwnR w lo v L) (hu : UpR hi v L) : OwnR w' lo v L :=
  ⟨own_same hs h.out hu.1, fun i hi => own_same hs (h.inn i hi) (hu.2 i hi), h.dis⟩
theorem UpR.marks {hi : Nat} {v : Value} {L : List Row} (h : UpR hi v L) (k0 : Int) : UpR hi v (marksR k0 L) :=
  ⟨h.1, fun i hi' k hk => by
    rw [marksR_length] at hi'
    rw [rg_marksR k0 L i hi'] at hk
    have e : Row.val ⟨(rg L i).A, (rg L i).c, Go.Proofs.Ytocllmhkppkfoaa.marks (k0 + tot (L.take i)) (rg L i).xs.length⟩ = (rg L i).val := by simp [Row.val, marks_length]
    rw [e] at hk
    exact h.2 i hi' k hk⟩

def ownP (lo hi : Nat) (e : TypeId) (v : Value) (n : Nat) (xs : List Value) : Piece :=
  ⟨lo, hi, fun w => w.ownsRow lo e 1 v n xs ∧ ∀ k, v.ownBlock = some k → k < hi, fun _ _ hs h => ⟨own_same hs h.1 h.2, h.2⟩⟩
def rowsP (lo hi : Nat) (v : Value) (L : List Row) : Piece :=
  ⟨lo, hi, fun w => OwnR w lo v L ∧ UpR hi v L, fun _ _ hs h => ⟨h.1.same hs h.2, h.2⟩⟩
def boxP (g : Nat) (cs : Array Value) (t : TypeId) : Piece :=
  ⟨g, g + 1, fun w => w.heap[g]? = some (.cells cs t (0, 0)), fun _ _ hs h => (hs g (Nat.le_refl _) (by omega)).trans h⟩

/-- w0: the world as the law began; below its end nothing has turned. -/
structure Inw (w0 w : World) (L : List Piece) : Prop where
  bel : Below w0.heap.size w0 w
  all : ∀ c ∈ L, w0.heap.size ≤ c.lo ∧ c.hi ≤ w.heap.size ∧ c.p w
  off : L.Pairwise fun a b => b.hi ≤ a.lo ∨ a.hi ≤ b.lo

section
variable {w0 w w' : World} {L : List Piece}
theorem Inw.start (w : World) : Inw w w [] := ⟨Below.refl _ _, by simp, .nil⟩
theorem Inw.size (h : Inw w0 w L) : w0.heap.size ≤ w.heap.size := h.bel.size
theorem Inw.step (h : Inw w0 w L) (hb : Below w.heap.size w w') : Inw w0 w' L :=
  ⟨h.bel.trans (hb.mono h.bel.size), fun c hc => ⟨(h.all c hc).1, Nat.le_trans (h.all c hc).2.1 hb.size, c.loc w w' (fun k _ hk => hb.block k (Nat.lt_of_lt_of_le hk (h.all c hc).2.1)) (h.all c hc).2.2⟩, h.off⟩
theorem Inw.push (h : Inw w0 w L) (hb : Below w.heap.size w w') (c : Piece) (hlo : w.heap.size ≤ c.lo) (hhi : c.hi ≤ w'.heap.size) (hp : c.p w') : Inw w0 w' (c :: L) := by
  have h1 := h.step hb
  refine ⟨h1.bel, ?_, List.pairwise_cons.2 ⟨?_, h.off⟩⟩
  · intro d hd
    rcases List.mem_cons.1 hd with rfl | hd
    · exact ⟨Nat.le_trans h.bel.size hlo, hhi, hp⟩
    · exact h1.all d hd
  · intro d hd
    exact .inl (Nat.le_trans (h.all d hd).2.1 hlo)
theorem Inw.get (h : Inw w0 w L) (i : Nat) {c : Piece} (hi : L[i]? = some c) : c.p w := (h.all c (List.mem_of_getElem? hi)).2.2
theorem Inw.own (h : Inw w0 w L) (i : Nat) {lo hi : Nat} {e : TypeId} {v : Value} {n : Nat} {xs : List Value} (hi' : L[i]? = some (ownP lo hi e v n xs)) : w.ownsRow lo e 1 v n xs := (h.get i hi').1
theorem Inw.rows (h : Inw w0 w L) (i : Nat) {lo hi : Nat} {v : Value} {M : List Row} (hi' : L[i]? = some (rowsP lo hi v M)) : OwnR w lo v M := (h.get i hi').1
theorem Inw.rowsUp (h : Inw w0 w L) (i : Nat) {lo hi : Nat} {v : Value} {M : List Row} (hi' : L[i]? = some (rowsP lo hi v M)) : UpR hi v M := (h.get i hi').2
theorem Inw.box (h : Inw w0 w L) (i : Nat) {g : Nat} {cs : Array Value} {t : TypeId} (hi' : L[i]? = some (boxP g cs t)) : w.heap[g]? = some (.cells cs t (0, 0)) := h.get i hi'
theorem Inw.pushOwn (h : Inw w0 w L) (hb : Below w.heap.size w w') {e : TypeId} {v : Value} {n : Nat} {xs : List Value} (ho : w'.ownsRow w.heap.size e 1 v n xs) : Inw w0 w' (ownP w.heap.size w'.heap.size e v n xs :: L) :=
  h.push hb _ (Nat.le_refl _) (Nat.le_refl _) ⟨ho, fun k hk => (ho.lt k hk).2⟩
theorem Inw.pushRows (h : Inw w0 w L) (hb : Below w.heap.size w w') {v : Value} {M : List Row} (ho : OwnR w' w.heap.size v M) : Inw w0 w' (rowsP w.heap.size w'.heap.size v M :: L) :=
  h.push hb _ (Nat.le_refl _) (Nat.le_refl _) ⟨ho, ho.up⟩
theorem Inw.allocBox (h : Inw w0 w L) (cs : Array Value) (t : TypeId) : Inw w0 (w.alloc (.cells cs t)) (boxP w.heap.size cs t :: L) :=
  h.push ((Below.refl _ _).alloc (Nat.le_refl _) _) _ (Nat.le_refl _) (by simp [boxP]) (heap_alloc_new w _)
theorem Inw.drewN (h : Inw w0 w L) (m : Nat) : Inw w0 (w.drewN m) L := h.step (below_drewN (Below.refl _ _) m)
theorem Inw.drew (h : Inw w0 w L) : Inw w0 w.drew L := h.step (Below.drew (Below.refl _ _))
/-- the piece at place i has been written, and nothing else -/
theorem Inw.mark (h : Inw w0 w L) (i : Nat) {c : Piece} (c' : Piece) (hi' : L[i]? = some c) (hlo : c'.lo = c.lo) (hhi : c'.hi = c.hi) (hk : Within c.lo c.hi w w') (hp : c'.p w') : Inw w0 w' (L.set i c') := by
  obtain ⟨hil, hie⟩ := List.getElem?_eq_some_iff.1 hi'
  have hc := h.all c (List.mem_of_getElem? hi')
  refine ⟨h.bel.trans (hk.to_below h.bel.size hc.1), ?_, ?_⟩
  · intro d hd
    obtain ⟨j, hj, hje⟩ := List.getElem_of_mem hd
    rw [List.length_set] at hj
    rw [List.getElem_set] at hje
    split at hje
    · subst hje; exact ⟨by rw [hlo]; exact hc.1, by rw [hhi]; exact Nat.le_trans hc.2.1 hk.size, hp⟩
    · rename_i hne
      have hap : d.hi ≤ c.lo ∨ c.hi ≤ d.lo := by
        rw [← hie, ← hje]
        rcases Nat.lt_or_ge i j with hlt | hge
        · exact (List.pairwise_iff_getElem.1 h.off) i j hil hj hlt
        · rcases (List.pairwise_iff_getElem.1 h.off) j i hj hil (by omega) with e | e
          · exact .inr e
          · exact .inl e
      have hdw := h.all d (by rw [← hje]; exact List.getElem_mem hj)
      exact ⟨hdw.1, Nat.le_trans hdw.2.1 hk.size, d.loc w w' (fun k h1 h2 => hk.block k (by omega) (by omega)) hdw.2.2⟩
  · rw [List.pairwise_iff_getElem]
    intro a b ha hb hab
    rw [List.length_set] at ha hb
    have := (List.pairwise_iff_getElem.1 h.off) a b ha hb hab
    rw [List.getElem_set, List.getElem_set]
    split
    · rename_i e1; subst e1
      rw [if_neg (by omega), hlo, hhi, ← hie]; exact this
    · split
      · rename_i e1 e2; subst e2
        rw [hlo, hhi, ← hie]; exact this
      · exact this
theorem Inw.markOwn (h : Inw w0 w L) (i : Nat) {lo hi : Nat} {e : TypeId} {v : Value} {n : Nat} {xs ys : List Value} (hi' : L[i]? = some (ownP lo hi e v n xs)) (hk : Keeps w w' [v.ownBlock]) (ho : w'.ownsRow lo e 1 v n ys) : Inw w0 w' (L.set i (ownP lo hi e v n ys)) := by
  have h1 := h.get i hi'
  exact h.mark i _ hi' rfl rfl (Within.of_keeps hk (fun k hk => ⟨(h1.1.lt k hk).1, h1.2 k hk⟩)) ⟨ho, h1.2⟩
theorem Inw.markRows (h : Inw w0 w L) (i : Nat) {lo hi : Nat} {v : Value} {M : List Row} {k0 : Int} (hi' : L[i]? = some (rowsP lo hi v M)) (hk : Within lo hi w w') (ho : OwnR w' lo v (marksR k0 M)) : Inw w0 w' (L.set i (rowsP lo hi v (marksR k0 M))) := by
  have h1 := h.get i hi'
  exact h.mark i _ hi' rfl rfl hk ⟨ho, h1.2.marks k0⟩
end
end Go.Proofs.Ytocllmhkppkfoaa
