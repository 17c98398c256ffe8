/- span.add -/
import Derived.Test.YtdkmdmpaflgfaaaGreatDoorBxan
set_option linter.all false
namespace Go.Proofs.YtdkmdmpaflgfaaaGreatDoor
open Go.RowKit


/-- A span at block bs: its rows and their companions lie in rows of the call's own. -/
structure SpanAt (w : World) (B bs : Nat) (v1 v2 : Value) (L : List (Nat × Nat)) : Prop where
  blk : w.heap[bs]? = some (.cells #[v1, v2] 97 (0, 0))
  lo : B ≤ bs
  own1 : w.ownsRow B 2 1 v1 L.length (nv (r1 L))
  own2 : w.ownsRow B 2 1 v2 L.length (nv (r2 L))
  ne : v1.ownBlock = none ∨ v1.ownBlock ≠ v2.ownBlock

theorem own_ne {w : World} {B bs n : Nat} {e t : TypeId} {v : Value} {xs : List Value} {cs : Array Value} (h : w.ownsRow B e 1 v n xs) (hb : w.heap[bs]? = some (.cells cs t (0, 0))) (hne : e ≠ t) : v.ownBlock ≠ some bs := by
  rcases h.2 with ⟨rfl, _⟩ | ⟨g, cap, cur, rfl, _, hg, _⟩
  · simp [Value.ownBlock]
  · intro he
    have : g = bs := by simpa [Value.ownBlock] using he
    subst this
    rw [hg] at hb
    injection hb with hb
    injection hb with _ ht
    exact hne ht

section
variable {w w' : World} {B bs : Nat} {v1 v2 : Value} {L : List (Nat × Nat)}
theorem SpanAt.ne1 (h : SpanAt w B bs v1 v2 L) : v1.ownBlock ≠ some bs := own_ne h.own1 h.blk (by decide)
theorem SpanAt.ne2 (h : SpanAt w B bs v1 v2 L) : v2.ownBlock ≠ some bs := own_ne h.own2 h.blk (by decide)
theorem SpanAt.lt (h : SpanAt w B bs v1 v2 L) : bs < w.heap.size := (Array.getElem?_eq_some_iff.1 h.blk).1
theorem SpanAt.c0 (h : SpanAt w B bs v1 v2 L) : w.cell? ⟨bs, 0, none⟩ = some v1 := cell_of_row w bs 0 #[v1, v2] _ (0, 0) h.blk
theorem SpanAt.c1 (h : SpanAt w B bs v1 v2 L) : w.cell? ⟨bs, 1, none⟩ = some v2 := cell_of_row w bs 1 #[v1, v2] _ (0, 0) h.blk
theorem SpanAt.fz (h : SpanAt w B bs v1 v2 L) (i : Nat) : w.frozen? ⟨bs, i, none⟩ = false := by simp [World.frozen?, h.blk]
theorem SpanAt.keeps {S : List (Option Nat)} (h : SpanAt w B bs v1 v2 L) (hk : Keeps w w' S) (hb : some bs ∉ S) (h1 : v1.ownBlock = none ∨ v1.ownBlock ∉ S) (h2 : v2.ownBlock = none ∨ v2.ownBlock ∉ S) : SpanAt w' B bs v1 v2 L :=
  ⟨(hk.block bs h.lt hb).trans h.blk, h.lo, owns_keeps h.own1 hk h1, owns_keeps h.own2 hk h2, h.ne⟩
end

theorem add_no (B bs : Nat) (v1 v2 : Value) (L : List (Nat × Nat)) (x y : Nat) (w : World) (hT : Tab w) (hs : SpanAt w B bs v1 v2 L) (hsmall : L.length ≤ 1000000)
    (hx : Sm x) (hy : Sm y) (hg : Good L) (hq : (leftN L (x, y)).1 = 0) :
    Calls Tryz.prog 82 #[.pointer (some ⟨bs, 0, none⟩), .int .i64 x, .int .i64 y] w fun e w' =>
      e = .returned (.tuple #[.int .i64 (leftN L (x, y)).2, .bool false]) ∧ ∃ m, w.drewN m = w' := by
  obtain ⟨A1, c1, rfl, _, _, _⟩ := owns_shape hs.own1
  obtain ⟨A2, c2, rfl, _, _, _⟩ := owns_shape hs.own2
  have hl := left_any bs A1 A2 L.length c1 c2 L x y w hT rfl hsmall hx hy hg hs.c0 hs.c1 (owns_Rd hs.own1) (owns_Rd hs.own2)
  generalize leftN L (x, y) = q at *
  have HL := Lib.hid hl
  have HQ := Lib.hid hq
  clear hl hq hg
  obtain ⟨q1, q2⟩ := q
  have : q1 = 0 := HQ.out
  subst this
  go_enter Tryz.func82, Tryz.ntmps82
  go_wp2_with (go_at_call 111; refine HL.out.mono ?_; rintro e w' ⟨rfl, m, rfl⟩)
  go_ret2
  exact ⟨rfl, m, rfl⟩

theorem nv_set (xs : List Nat) (k x : Nat) : nv (xs.set k x) = (nv xs).set k (.int .i64 (x : Int)) := by simp [nv, List.map_set]
theorem r1_set (L : List (Nat × Nat)) (k : Nat) (r : Nat × Nat) : r1 (L.set k r) = (r1 L).set k r.1 := by simp [r1, List.map_set]
theorem r2_set (L : List (Nat × Nat)) (k : Nat) (r : Nat × Nat) : r2 (L.set k r) = (r2 L).set k r.2 := by simp [r2, List.map_set]

/-- A row and its companion stored anew. -/
theorem SpanAt.store {w : World} {B bs n g1 g2 c1 c2 : Nat} {M : List (Nat × Nat)} (h : SpanAt w B bs (.slice (some ⟨g1, 0, none⟩) n c1) (.slice (some ⟨g2, 0, none⟩) n c2) M) (k : Nat) (r : Nat × Nat) :
    SpanAt ((w.setCell ⟨g1, k, none⟩ (.int .i64 (r.1 : Int))).setCell ⟨g2, k, none⟩ (.int .i64 (r.2 : Int))) B bs (.slice (some ⟨g1, 0, none⟩) n c1) (.slice (some ⟨g2, 0, none⟩) n c2) (M.set k r) := by
  have n1 : g1 ≠ bs := by have := h.ne1; simpa [Value.ownBlock] using this
  have n2 : g2 ≠ bs := by have := h.ne2; simpa [Value.ownBlock] using this
  have n3 : g1 ≠ g2 := by have := h.ne; simpa [Value.ownBlock] using this
  have e1 : n = M.length := by
    rcases h.own1.2 with ⟨hv, _⟩ | ⟨g, cap, cur, hv, _⟩
    · cases hv
    · injection hv
  have k1 := Keeps.setCell (Keeps.refl w [some g1]) (p := ⟨g1, k, none⟩) (by simp) (.int .i64 (r.1 : Int))
  have k2 := Keeps.setCell (Keeps.refl (w.setCell ⟨g1, k, none⟩ (.int .i64 (r.1 : Int))) [some g2]) (p := ⟨g2, k, none⟩) (by simp) (.int .i64 (r.2 : Int))
  have o1 := h.own1
  have o2 := h.own2
  subst e1
  refine ⟨?_, h.lo, ?_, ?_, h.ne⟩
  · rw [Below.heap_setCell _ _ _ _ (by simpa using fun e => n2 e.symm), Below.heap_setCell _ _ _ _ (by simpa using fun e => n1 e.symm)]; exact h.blk
  · have := (World.ownsRow.stored o1 k (.int .i64 (r.1 : Int))).1
    have := owns_keeps this k2 (.inr (by simp [Value.ownBlock]; exact n3))
    rw [List.length_set, r1_set, nv_set]; exact this
  · have := owns_keeps o2 k1 (.inr (by simp [Value.ownBlock]; exact fun e => n3 e.symm))
    have := (World.ownsRow.stored this k (.int .i64 (r.2 : Int))).1
    rw [List.length_set, r2_set, nv_set]; exact this

/-- the rows after k rounds -/
def midL (q : Nat × Nat) (L : List (Nat × Nat)) (k : Nat) : List (Nat × Nat) := (L.take k).map (addStep q) ++ L.drop k
theorem midL_length (q : Nat × Nat) (L : List (Nat × Nat)) (k : Nat) : (midL q L k).length = L.length := by simp [midL]; omega
theorem midL_getD (q : Nat × Nat) (L : List (Nat × Nat)) (k : Nat) (hk : k < L.length) : (midL q L k).getD k (0, 0) = L.getD k (0, 0) := by
  simp [midL, List.getD, List.getElem?_append, Nat.min_eq_left (Nat.le_of_lt hk)]
theorem midL_succ (q : Nat × Nat) (L : List (Nat × Nat)) (k : Nat) (hk : k < L.length) : midL q L (k + 1) = (midL q L k).set k (addStep q (L.getD k (0, 0))) := by
  apply List.ext_getElem?
  intro i
  simp only [midL, List.getElem?_append, List.getElem?_set, List.length_append, List.length_map, List.length_take, List.getElem?_map, List.getElem?_take, List.getElem?_drop, List.length_drop, List.getD]
  by_cases h1 : i < k
  · simp [h1, show i < k + 1 by omega, show i < min (k + 1) L.length by omega, show i < min k L.length by omega, show k ≠ i by omega]
  · by_cases h2 : i = k
    · subst h2; simp [hk, show i < min (i + 1) L.length by omega, show i < min i L.length + (L.length - i) by omega]
    · simp [show ¬ i < min (k + 1) L.length by omega, show ¬ i < k + 1 by omega, h1, show k ≠ i by omega, show min (k + 1) L.length = k + 1 by omega, show min k L.length = k by omega, show k + 1 + (i - (k + 1)) = i by omega, show k + (i - k) = i by omega]
theorem midL_id (q : Nat × Nat) (L : List (Nat × Nat)) (k : Nat) (hk : k < L.length) (h : addStep q (L.getD k (0, 0)) = L.getD k (0, 0)) : midL q L (k + 1) = midL q L k := by
  rw [midL_succ q L k hk, h]
  apply List.ext_getElem?
  intro i
  rw [List.getElem?_set]
  split
  · rename_i e; subst e
    have := midL_getD q L k hk
    have hl : k < (midL q L k).length := by rw [midL_length]; exact hk
    rw [if_pos hl, ← this]
    simp only [List.getD, List.getElem?_eq_getElem hl, Option.getD_some]
  · rfl

theorem sblk {w : World} {bs : Nat} {v1 v2 : Value} (h : w.heap[bs]? = some (.cells #[v1, v2] 97 (0, 0))) :
    w.heap[bs]? = some (.cells #[v1, v2] 97 (0, 0)) ∧ w.cell? ⟨bs, 0, none⟩ = some v1 ∧ w.cell? ⟨bs, 1, none⟩ = some v2 ∧ w.frozen? ⟨bs, 0, none⟩ = false ∧ w.frozen? ⟨bs, 1, none⟩ = false :=
  ⟨h, cell_of_row w bs 0 #[v1, v2] _ (0, 0) h, cell_of_row w bs 1 #[v1, v2] _ (0, 0) h, by simp [World.frozen?, h], by simp [World.frozen?, h]⟩



theorem own_app {w : World} {B n g c : Nat} {M : List Nat} {x : Nat} (h : w.ownsRow B 2 1 (.slice (some ⟨g, 0, none⟩) (n + 1) c) (n + 1) (nv M ++ [.int .i64 (x : Int)])) (hn : n = M.length) :
    w.ownsRow B 2 1 (.slice (some ⟨g, 0, none⟩) (n + 1) c) (M ++ [x]).length (nv (M ++ [x])) := by
  subst hn
  have e : nv (M ++ [x]) = nv M ++ [.int .i64 (x : Int)] := by simp [nv]
  rw [e, List.length_append]; exact h

/-- What the two appends and the two stores leave. -/
theorem add_close {wr w1 w2 : World} {B bs n g1 g2 c1 c2 : Nat} {v1 v2 : Value} {M : List (Nat × Nat)} {q : Nat × Nat} (h : SpanAt wr B bs v1 v2 M) (hn : n = M.length)
    (k1 : Keeps wr w1 [v1.ownBlock]) (o1 : w1.ownsRow B 2 1 (.slice (some ⟨g1, 0, none⟩) (n + 1) c1) (n + 1) (nv (r1 M) ++ [.int .i64 (q.1 : Int)])) (a1 : v1.ownBlock = some g1 ∨ wr.heap.size ≤ g1) (l1 : g1 < w1.heap.size)
    (k2 : Keeps w1 w2 [v2.ownBlock]) (o2 : w2.ownsRow B 2 1 (.slice (some ⟨g2, 0, none⟩) (n + 1) c2) (n + 1) (nv (r2 M) ++ [.int .i64 (q.2 : Int)])) (a2 : v2.ownBlock = some g2 ∨ w1.heap.size ≤ g2) :
    SpanAt ((w2.setCell ⟨bs, 0, none⟩ (.slice (some ⟨g1, 0, none⟩) (n + 1) c1)).setCell ⟨bs, 1, none⟩ (.slice (some ⟨g2, 0, none⟩) (n + 1) c2)) B bs (.slice (some ⟨g1, 0, none⟩) (n + 1) c1) (.slice (some ⟨g2, 0, none⟩) (n + 1) c2) (M ++ [q]) ∧
    Keeps wr ((w2.setCell ⟨bs, 0, none⟩ (.slice (some ⟨g1, 0, none⟩) (n + 1) c1)).setCell ⟨bs, 1, none⟩ (.slice (some ⟨g2, 0, none⟩) (n + 1) c2)) [some bs, v1.ownBlock, v2.ownBlock] := by
  have n1 := h.ne1
  have n2 := h.ne2
  have lb := h.lt
  have t1 := fun k hk => (h.own1.lt k hk).2
  have t2 := fun k hk => (h.own2.lt k hk).2
  have s1 := k1.size
  have hne : g1 ≠ g2 := by
    intro e
    subst e
    rcases a1 with a1 | a1 <;> rcases a2 with a2 | a2
    · rcases h.ne with e | e
      · rw [e] at a1; cases a1
      · exact e (a1.trans a2.symm)
    · have := t1 _ a1; omega
    · have := t2 _ a2; omega
    · omega
  have b1 : g1 ≠ bs := by
    intro e; subst e
    rcases a1 with a1 | a1
    · exact n1 a1
    · omega
  have b2 : g2 ≠ bs := by
    intro e; subst e
    rcases a2 with a2 | a2
    · exact n2 a2
    · omega
  have blk2 : w2.heap[bs]? = some (.cells #[v1, v2] 97 (0, 0)) := by
    rw [k2.block bs (by omega) (by simp; exact fun e => n2 e.symm), k1.block bs lb (by simp; exact fun e => n1 e.symm)]; exact h.blk
  have o1' : w2.ownsRow B 2 1 (.slice (some ⟨g1, 0, none⟩) (n + 1) c1) (n + 1) (nv (r1 M) ++ [.int .i64 (q.1 : Int)]) := by
    refine owns_keeps o1 k2 (.inr ?_)
    show some g1 ∉ [v2.ownBlock]
    rw [List.mem_singleton]
    intro e
    rcases a2 with a2 | a2
    · rw [a2] at e; injection e with e; exact hne e
    · have := t2 _ e.symm
      rcases a1 with a1 | a1
      · rcases h.ne with e' | e'
        · rw [e'] at a1; cases a1
        · exact e' (a1.trans e)
      · omega
  have ks : Keeps w2 ((w2.setCell ⟨bs, 0, none⟩ (.slice (some ⟨g1, 0, none⟩) (n + 1) c1)).setCell ⟨bs, 1, none⟩ (.slice (some ⟨g2, 0, none⟩) (n + 1) c2)) [some bs] :=
    ((Keeps.refl w2 [some bs]).setCell (p := ⟨bs, 0, none⟩) (by simp) _).setCell (p := ⟨bs, 1, none⟩) (by simp) _
  have hb := heap_setCell_same (w2.setCell ⟨bs, 0, none⟩ (.slice (some ⟨g1, 0, none⟩) (n + 1) c1)) bs 1 _ 97 (.slice (some ⟨g2, 0, none⟩) (n + 1) c2) (heap_setCell_same w2 bs 0 _ 97 (.slice (some ⟨g1, 0, none⟩) (n + 1) c1) blk2)
  refine ⟨⟨?_, h.lo, ?_, ?_, .inr ?_⟩, ?_⟩
  · simpa using hb
  · have := own_app (owns_keeps o1' ks (.inr (by simp [Value.ownBlock]; exact b1))) (by rw [hn, r1_length])
    have e : (r1 M ++ [q.1]) = r1 (M ++ [q]) := by simp [r1]
    rw [e, r1_length] at this; exact this
  · have := own_app (owns_keeps o2 ks (.inr (by simp [Value.ownBlock]; exact b2))) (by rw [hn, r2_length])
    have e : (r2 M ++ [q.2]) = r2 (M ++ [q]) := by simp [r2]
    rw [e, r2_length] at this; exact this
  · simpa [Value.ownBlock] using hne
  · refine (k1.trans k2 (T := [v1.ownBlock, v2.ownBlock]) (by simp)).trans ks ?_
    intro j _ hj; simp only [List.mem_cons, List.not_mem_nil, or_false] at hj ⊢; rcases hj with hj | hj; exact .inr hj; exact .inl hj

/-- The whole of what 'add' leaves where the row is new. -/
def AddPost (w : World) (B bs : Nat) (v1 v2 : Value) (N : List (Nat × Nat)) (w' : World) : Prop :=
  Keeps w w' [some bs, v1.ownBlock, v2.ownBlock] ∧
      ∃ u1 u2, SpanAt w' B bs u1 u2 N ∧ (u1.ownBlock = v1.ownBlock ∨ ∃ k, u1.ownBlock = some k ∧ w.heap.size ≤ k) ∧ (u2.ownBlock = v2.ownBlock ∨ ∃ k, u2.ownBlock = some k ∧ w.heap.size ≤ k)

theorem add_post {w wr w1 w2 : World} {B bs n g1 g2 c1 c2 : Nat} {v1 v2 : Value} {M : List (Nat × Nat)} {q : Nat × Nat} (h : SpanAt wr B bs v1 v2 M) (hn : n = M.length) (k0 : Keeps w wr [v1.ownBlock, v2.ownBlock])
    (k1 : Keeps wr w1 [v1.ownBlock]) (o1 : w1.ownsRow B 2 1 (.slice (some ⟨g1, 0, none⟩) (n + 1) c1) (n + 1) (nv (r1 M) ++ [.int .i64 (q.1 : Int)])) (a1 : v1.ownBlock = some g1 ∨ wr.heap.size ≤ g1) (l1 : g1 < w1.heap.size)
    (k2 : Keeps w1 w2 [v2.ownBlock]) (o2 : w2.ownsRow B 2 1 (.slice (some ⟨g2, 0, none⟩) (n + 1) c2) (n + 1) (nv (r2 M) ++ [.int .i64 (q.2 : Int)])) (a2 : v2.ownBlock = some g2 ∨ w1.heap.size ≤ g2) :
    AddPost w B bs v1 v2 (M ++ [q]) ((w2.setCell ⟨bs, 0, none⟩ (.slice (some ⟨g1, 0, none⟩) (n + 1) c1)).setCell ⟨bs, 1, none⟩ (.slice (some ⟨g2, 0, none⟩) (n + 1) c2)) := by
  obtain ⟨hs, hk⟩ := add_close h hn k1 o1 a1 l1 k2 o2 a2
  have s0 := k0.size
  have s1 := k1.size
  refine ⟨k0.trans hk (fun j _ hj => by simp only [List.mem_cons, List.not_mem_nil, or_false] at hj ⊢; rcases hj with hj | hj; exact .inr hj; exact hj), _, _, hs, ?_, ?_⟩
  · rcases a1 with a1 | a1
    · exact .inl a1.symm
    · exact .inr ⟨g1, rfl, by omega⟩
  · rcases a2 with a2 | a2
    · exact .inl a2.symm
    · exact .inr ⟨g2, rfl, by omega⟩

theorem keeps_g {w w1 : World} {r : Option Nat} (h : w.grownBy w1 r) : Keeps w w1 [r] := Keeps.of_grown h
theorem keeps_a1 {w w1 : World} {o : Obj} {r : Option Nat} (h : (w.alloc o).grownBy w1 r) : Keeps w w1 [r] :=
  ((Keeps.refl w []).alloc o).trans (Keeps.of_grown h) (by simp)
theorem keeps_a1d {w w1 : World} {o : Obj} {r : Option Nat} (h : (w.alloc o).drew.grownBy w1 r) : Keeps w w1 [r] :=
  (((Keeps.refl w []).alloc o).drew).trans (Keeps.of_grown h) (by simp)
theorem keeps_a2d {w w1 : World} {o o' : Obj} {r : Option Nat} (h : ((w.alloc o).alloc o').drew.grownBy w1 r) : Keeps w w1 [r] :=
  ((((Keeps.refl w []).alloc o).alloc o').drew).trans (Keeps.of_grown h) (by simp)
theorem at_g {w : World} {x : Option Nat} {g : Nat} (h : x = some g ∨ g = w.heap.size) : x = some g ∨ w.heap.size ≤ g := h.imp id (by omega)
theorem at_a1 {w : World} {o : Obj} {x : Option Nat} {g : Nat} (h : x = some g ∨ g = (w.alloc o).heap.size) : x = some g ∨ w.heap.size ≤ g := h.imp id (by simp; omega)
theorem at_a1d {w : World} {o : Obj} {x : Option Nat} {g : Nat} (h : x = some g ∨ g = (w.alloc o).drew.heap.size) : x = some g ∨ w.heap.size ≤ g := h.imp id (by simp; omega)
theorem at_a2d {w : World} {o o' : Obj} {x : Option Nat} {g : Nat} (h : x = some g ∨ g = ((w.alloc o).alloc o').drew.heap.size) : x = some g ∨ w.heap.size ≤ g := h.imp id (by simp; omega)
end Go.Proofs.YtdkmdmpaflgfaaaGreatDoor
