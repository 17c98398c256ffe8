/- what a law holds on to from call to call: boxes known whole, and rows of its own, pairwise apart -/
import Derived.Test.YtchmplpgamekjaaDoorU
import Derived.Test.YtchmplpgamekjaaDoorC
namespace Go.Proofs.YtchmplpgamekjaaDoor
open Go.RowKit

inductive Chunk where
  | box (g : Nat) (cs : Array Value) (t : TypeId)
  | own (lo hi : Nat) (e : TypeId) (v : Value) (n : Nat) (xs : List Value)

def Chunk.holds (w : World) : Chunk → Prop
  | .box g cs t => w.heap[g]? = some (.cells cs t (0, 0))
  | .own lo hi e v n xs => w.ownsRow lo e 1 v n xs ∧ (∀ k, v.ownBlock = some k → k < hi) ∧ hi ≤ w.heap.size
def Chunk.apart : Chunk → Chunk → Prop
  | .own lo hi _ _ _ _, .own lo' hi' _ _ _ _ => hi ≤ lo' ∨ hi' ≤ lo
  | .own _ _ e _ _ _, .box _ _ t => e ≠ t
  | .box _ _ t, .own _ _ e _ _ _ => e ≠ t
  | .box _ _ _, .box _ _ _ => True
theorem Chunk.apart_symm {a b : Chunk} (h : a.apart b) : b.apart a := by
  cases a <;> cases b <;> simp only [Chunk.apart] at h ⊢
  · exact h
  · exact h
  · exact h.symm

/-- w0: the world as the law began; below its end nothing has turned. -/
structure Inv (w0 w : World) (L : List Chunk) : Prop where
  bel : Below w0.heap.size w0 w
  all : ∀ c ∈ L, c.holds w
  off : L.Pairwise Chunk.apart

section
variable {w0 w w' : World} {L : List Chunk}
theorem Inv.start (w : World) : Inv w w [] := ⟨Below.refl _ _, by simp, .nil⟩
theorem Chunk.keep {c : Chunk} (h : c.holds w) (hb : Below w.heap.size w w') : c.holds w' := by
  cases c with
  | box g cs t => exact (hb.block g (Array.getElem?_eq_some_iff.1 h).1).trans h
  | own lo hi e v n xs => exact ⟨owns_keeps h.1 (Keeps.of_below hb) (.inr (by simp)), h.2.1, Nat.le_trans h.2.2 hb.size⟩
theorem Inv.step (h : Inv w0 w L) (hb : Below w.heap.size w w') : Inv w0 w' L :=
  ⟨h.bel.trans (hb.mono h.bel.size), fun c hc => Chunk.keep (h.all c hc) hb, h.off⟩
theorem Inv.size (h : Inv w0 w L) : w0.heap.size ≤ w.heap.size := h.bel.size
theorem Inv.get (h : Inv w0 w L) (i : Nat) {c : Chunk} (hi : L[i]? = some c) : c.holds w := h.all c (List.mem_of_getElem? hi)
/-- no row of the list has the type of the boxes -/
def noType (t : TypeId) (L : List Chunk) : Bool := L.all fun c => match c with | .own _ _ e _ _ _ => e != t | .box _ _ _ => true
theorem Inv.pushBox (h : Inv w0 w L) {g : Nat} {cs : Array Value} {t : TypeId} (hk : w.heap[g]? = some (.cells cs t (0, 0))) (ht : noType t L = true) : Inv w0 w (.box g cs t :: L) := by
  refine ⟨h.bel, ?_, List.pairwise_cons.2 ⟨?_, h.off⟩⟩
  · intro c hc
    rcases List.mem_cons.1 hc with rfl | hc
    · exact hk
    · exact h.all c hc
  · intro c hc
    have := List.all_eq_true.1 ht c hc
    cases c <;> simp only [Chunk.apart] at this ⊢
    simpa using this
/-- a new box -/
theorem Inv.allocBox (h : Inv w0 w L) (cs : Array Value) (t : TypeId) (ht : noType t L = true) : Inv w0 (w.alloc (.cells cs t)) (.box w.heap.size cs t :: L) :=
  (h.step ((Below.refl _ _).alloc (Nat.le_refl _) _)).pushBox (heap_alloc_new w _) ht
/-- no box of the list has the type of the rows -/
def noBox (e : TypeId) (L : List Chunk) : Bool := L.all fun c => match c with | .own _ _ _ _ _ _ => true | .box _ _ t => e != t
/-- a call has made a row -/
theorem Inv.pushOwn (h : Inv w0 w L) (hb : Below w.heap.size w w') {e : TypeId} {v : Value} {n : Nat} {xs : List Value} (ho : w'.ownsRow w.heap.size e 1 v n xs) (ht : noBox e L = true) : Inv w0 w' (.own w.heap.size w'.heap.size e v n xs :: L) := by
  have h1 := h.step hb
  refine ⟨h1.bel, ?_, List.pairwise_cons.2 ⟨?_, h.off⟩⟩
  · intro c hc
    rcases List.mem_cons.1 hc with rfl | hc
    · exact ⟨ho, fun k hk => (ho.lt k hk).2, Nat.le_refl _⟩
    · exact h1.all c hc
  · intro c hc
    have h2 := List.all_eq_true.1 ht c hc
    have h3 := h.all c hc
    cases c with
    | box g cs t => simpa [Chunk.apart] using h2
    | own lo hi e' v' n' xs' => exact .inr h3.2.2
theorem Inv.own (h : Inv w0 w L) (i : Nat) {lo hi : Nat} {e : TypeId} {v : Value} {n : Nat} {xs : List Value} (hi' : L[i]? = some (.own lo hi e v n xs)) : w.ownsRow lo e 1 v n xs := (h.get i hi').1
theorem Inv.box (h : Inv w0 w L) (i : Nat) {g : Nat} {cs : Array Value} {t : TypeId} (hi' : L[i]? = some (.box g cs t)) : w.heap[g]? = some (.cells cs t (0, 0)) := h.get i hi'
theorem Inv.drew (h : Inv w0 w L) : Inv w0 w.drew L := ⟨h.bel.drew, h.all, h.off⟩
theorem Inv.drewN (h : Inv w0 w L) (m : Nat) : Inv w0 (w.drewN m) L := ⟨below_drewN h.bel m, h.all, h.off⟩
theorem owns_lo {B : Nat} {e : TypeId} {v : Value} {n : Nat} {xs : List Value} (h : w.ownsRow B e 1 v n xs) : ∀ k, v.ownBlock = some k → B ≤ k := fun k hk => (h.lt k hk).1
theorem Inv.tail {c : Chunk} (h : Inv w0 w (c :: L)) : Inv w0 w L := ⟨h.bel, fun d hd => h.all d (List.mem_cons_of_mem _ hd), (List.pairwise_cons.1 h.off).2⟩
/-- the row at place i has been written, and nothing else -/
theorem Inv.mark (h : Inv w0 w L) (i : Nat) {lo hi : Nat} {e : TypeId} {v : Value} {n : Nat} {xs ys : List Value} (hi' : L[i]? = some (.own lo hi e v n xs)) (hlo : w0.heap.size ≤ lo)
    (hk : Keeps w w' [v.ownBlock]) (ho : w'.ownsRow lo e 1 v n ys) : Inv w0 w' (L.set i (.own lo hi e v n ys)) := by
  obtain ⟨hil, hie⟩ := List.getElem?_eq_some_iff.1 hi'
  have hc := h.get i hi'
  refine ⟨h.bel.trans (hk.to_below h.bel.size (fun j hj => ?_)), ?_, ?_⟩
  · simp only [List.mem_singleton] at hj
    exact Nat.le_trans hlo (owns_lo hc.1 j hj.symm)
  · intro c hcm
    obtain ⟨j, hj, hje⟩ := List.getElem_of_mem hcm
    rw [List.length_set] at hj
    rw [List.getElem_set] at hje
    split at hje
    · subst hje; exact ⟨ho, hc.2.1, Nat.le_trans hc.2.2 hk.size⟩
    · rename_i hne
      have hap : (Chunk.own lo hi e v n xs).apart c := by
        rw [← hie, ← hje]
        rcases Nat.lt_or_ge i j with hlt | hge
        · exact (List.pairwise_iff_getElem.1 h.off) i j hil hj hlt
        · exact Chunk.apart_symm ((List.pairwise_iff_getElem.1 h.off) j i hj hil (by omega))
      have hcw : c.holds w := h.all c (by rw [← hje]; exact List.getElem_mem hj)
      cases c with
      | box g cs t => exact (hk.block g (Array.getElem?_eq_some_iff.1 hcw).1 (by simp only [List.mem_singleton]; exact fun e' => own_ne hc.1 hcw hap e'.symm)).trans hcw
      | own lo' hi'' e' v' n' xs' =>
        refine ⟨owns_keeps hcw.1 hk ?_, hcw.2.1, Nat.le_trans hcw.2.2 hk.size⟩
        by_cases h0 : v'.ownBlock = none
        · exact .inl h0
        · refine .inr ?_
          simp only [List.mem_singleton]
          intro e1
          obtain ⟨k, hk1⟩ := Option.ne_none_iff_exists'.1 h0
          have a1 := owns_lo hcw.1 k hk1
          have a2 := hcw.2.1 k hk1
          have b1 := owns_lo hc.1 k (e1 ▸ hk1)
          have b2 := hc.2.1 k (e1 ▸ hk1)
          rcases hap with hap | hap <;> omega
  · rw [List.pairwise_iff_getElem]
    intro a b ha hb hab
    rw [List.length_set] at ha hb
    have := (List.pairwise_iff_getElem.1 h.off) a b ha hb hab
    rw [List.getElem_set, List.getElem_set]
    have same : ∀ d : Chunk, (Chunk.own lo hi e v n xs).apart d → (Chunk.own lo hi e v n ys).apart d := fun d hd => by cases d <;> exact hd
    split
    · rename_i e1; subst e1
      rw [if_neg (by omega)]
      rw [hie] at this
      exact same _ this
    · split
      · rename_i e1 e2; subst e2
        rw [hie] at this
        exact Chunk.apart_symm (same _ (Chunk.apart_symm this))
      · exact this
end
end Go.Proofs.YtchmplpgamekjaaDoor
