/- what a law holds on to from call to call: boxes known whole, and rows of its own, pairwise apart · the draws: a source of numbers -/
import Derived.Test.YtjhlmalpcelbaaaDoorBxaa
import Derived.Test.YtjhlmalpcelbaaaDoorBxab
set_option linter.all false
namespace Go.Proofs.YtjhlmalpcelbaaaDoor
open Go.RowKit

inductive Chunk where
  | box (g : Nat) (cs : Array Value) (t : TypeId)
  | own (lo hi : Nat) (e : TypeId) (v : Value) (n : Nat) (xs : List Value)

def Chunk.holds (w : World) : Chunk → Prop
  | .box g cs t => w.heap[g]? = some (.cells cs t (0, 0))
  | .own lo hi e v n xs => w.ownsRow lo e 1 v n xs ∧ (∀ k, v.ownBlock = some k → k < hi) ∧ hi ≤ w.heap.size
def Chunk.apart : Chunk → Chunk → Prop
  | .own lo hi _ _ _ _, .own lo' hi' _ _ _ _ => hi ≤ lo' ∨ hi' ≤ lo
  | .own _ _ e _ _ _, .box _ _ t => e ≠ t
  | .box _ _ t, .own _ _ e _ _ _ => e ≠ t
  | .box _ _ _, .box _ _ _ => True
theorem Chunk.apart_symm {a b : Chunk} (h : a.apart b) : b.apart a := by
  cases a <;> cases b <;> simp only [Chunk.apart] at h ⊢
  · exact h
  · exact h
  · exact h.symm

/-- w0: the world as the law began; below its end nothing has turned. -/
structure Inv (w0 w : World) (L : List Chunk) : Prop where
  bel : Below w0.heap.size w0 w
  all : ∀ c ∈ L, c.holds w
  off : L.Pairwise Chunk.apart

section
variable {w0 w w' : World} {L : List Chunk}
theorem Inv.start (w : World) : Inv w w [] := ⟨Below.refl _ _, by simp, .nil⟩
theorem Chunk.keep {c : Chunk} (h : c.holds w) (hb : Below w.heap.size w w') : c.holds w' := by
  cases c with
  | box g cs t => exact (hb.block g (Array.getElem?_eq_some_iff.1 h).1).trans h
  | own lo hi e v n xs => exact ⟨owns_keeps h.1 (Keeps.of_below hb) (.inr (by simp)), h.2.1, Nat.le_trans h.2.2 hb.size⟩
theorem Inv.step (h : Inv w0 w L) (hb : Below w.heap.size w w') : Inv w0 w' L :=
  ⟨h.bel.trans (hb.mono h.bel.size), fun c hc => Chunk.keep (h.all c hc) hb, h.off⟩
theorem Inv.size (h : Inv w0 w L) : w0.heap.size ≤ w.heap.size := h.bel.size
theorem Inv.get (h : Inv w0 w L) (i : Nat) {c : Chunk} (hi : L[i]? = some c) : c.holds w := h.all c (List.mem_of_getElem? hi)
/-- no row of the list has the type of the boxes -/
def noType (t : TypeId) (L : List Chunk) : Bool := L.all fun c => match c with | .own _ _ e _ _ _ => e != t | .box _ _ _ => true
theorem Inv.pushBox (h : Inv w0 w L) {g : Nat} {cs : Array Value} {t : TypeId} (hk : w.heap[g]? = some (.cells cs t (0, 0))) (ht : noType t L = true) : Inv w0 w (.box g cs t :: L) := by
  refine ⟨h.bel, ?_, List.pairwise_cons.2 ⟨?_, h.off⟩⟩
  · intro c hc
    rcases List.mem_cons.1 hc with rfl | hc
    · exact hk
    · exact h.all c hc
  · intro c hc
    have := List.all_eq_true.1 ht c hc
    cases c <;> simp only [Chunk.apart] at this ⊢
    simpa using this
/-- a new box -/
theorem Inv.allocBox (h : Inv w0 w L) (cs : Array Value) (t : TypeId) (ht : noType t L = true) : Inv w0 (w.alloc (.cells cs t)) (.box w.heap.size cs t :: L) :=
  (h.step ((Below.refl _ _).alloc (Nat.le_refl _) _)).pushBox (heap_alloc_new w _) ht
/-- no box of the list has the type of the rows -/
def noBox (e : TypeId) (L : List Chunk) : Bool := L.all fun c => match c with | .own _ _ _ _ _ _ => true | .box _ _ t => e != t
/-- a call has made a row -/
theorem Inv.pushOwn (h : Inv w0 w L) (hb : Below w.heap.size w w') {e : TypeId} {v : Value} {n : Nat} {xs : List Value} (ho : w'.ownsRow w.heap.size e 1 v n xs) (ht : noBox e L = true) : Inv w0 w' (.own w.heap.size w'.heap.size e v n xs :: L) := by
  have h1 := h.step hb
  refine ⟨h1.bel, ?_, List.pairwise_cons.2 ⟨?_, h.off⟩⟩
  · intro c hc
    rcases List.mem_cons.1 hc with rfl | hc
    · exact ⟨ho, fun k hk => (ho.lt k hk).2, Nat.le_refl _⟩
    · exact h1.all c hc
  · intro c hc
    have h2 := List.all_eq_true.1 ht c hc
    have h3 := h.all c hc
    cases c with
    | box g cs t => simpa [Chunk.apart] using h2
    | own lo hi e' v' n' xs' => exact .inr h3.2.2
theorem Inv.own (h : Inv w0 w L) (i : Nat) {lo hi : Nat} {e : TypeId} {v : Value} {n : Nat} {xs : List Value} (hi' : L[i]? = some (.own lo hi e v n xs)) : w.ownsRow lo e 1 v n xs := (h.get i hi').1
theorem Inv.box (h : Inv w0 w L) (i : Nat) {g : Nat} {cs : Array Value} {t : TypeId} (hi' : L[i]? = some (.box g cs t)) : w.heap[g]? = some (.cells cs t (0, 0)) := h.get i hi'
theorem Inv.drew (h : Inv w0 w L) : Inv w0 w.drew L := ⟨h.bel.drew, h.all, h.off⟩
theorem Inv.drewN (h : Inv w0 w L) (m : Nat) : Inv w0 (w.drewN m) L := ⟨below_drewN h.bel m, h.all, h.off⟩
theorem owns_lo {B : Nat} {e : TypeId} {v : Value} {n : Nat} {xs : List Value} (h : w.ownsRow B e 1 v n xs) : ∀ k, v.ownBlock = some k → B ≤ k := fun k hk => (h.lt k hk).1
theorem Inv.tail {c : Chunk} (h : Inv w0 w (c :: L)) : Inv w0 w L := ⟨h.bel, fun d hd => h.all d (List.mem_cons_of_mem _ hd), (List.pairwise_cons.1 h.off).2⟩
/-- the row at place i has been written, and nothing else -/
theorem Inv.mark (h : Inv w0 w L) (i : Nat) {lo hi : Nat} {e : TypeId} {v : Value} {n : Nat} {xs ys : List Value} (hi' : L[i]? = some (.own lo hi e v n xs)) (hlo : w0.heap.size ≤ lo)
    (hk : Keeps w w' [v.ownBlock]) (ho : w'.ownsRow lo e 1 v n ys) : Inv w0 w' (L.set i (.own lo hi e v n ys)) := by
  obtain ⟨hil, hie⟩ := List.getElem?_eq_some_iff.1 hi'
  have hc := h.get i hi'
  refine ⟨h.bel.trans (hk.to_below h.bel.size (fun j hj => ?_)), ?_, ?_⟩
  · simp only [List.mem_singleton] at hj
    exact Nat.le_trans hlo (owns_lo hc.1 j hj.symm)
  · intro c hcm
    obtain ⟨j, hj, hje⟩ := List.getElem_of_mem hcm
    rw [List.length_set] at hj
    rw [List.getElem_set] at hje
    split at hje
    · subst hje; exact ⟨ho, hc.2.1, Nat.le_trans hc.2.2 hk.size⟩
    · rename_i hne
      have hap : (Chunk.own lo hi e v n xs).apart c := by
        rw [← hie, ← hje]
        rcases Nat.lt_or_ge i j with hlt | hge
        · exact (List.pairwise_iff_getElem.1 h.off) i j hil hj hlt
        · exact Chunk.apart_symm ((List.pairwise_iff_getElem.1 h.off) j i hj hil (by omega))
      have hcw : c.holds w := h.all c (by rw [← hje]; exact List.getElem_mem hj)
      cases c with
      | box g cs t => exact (hk.block g (Array.getElem?_eq_some_iff.1 hcw).1 (by simp only [List.mem_singleton]; exact fun e' => own_ne hc.1 hcw hap e'.symm)).trans hcw
      | own lo' hi'' e' v' n' xs' =>
        refine ⟨owns_keeps hcw.1 hk ?_, hcw.2.1, Nat.le_trans hcw.2.2 hk.size⟩
        by_cases h0 : v'.ownBlock = none
        · exact .inl h0
        · refine .inr ?_
          simp only [List.mem_singleton]
          intro e1
          obtain ⟨k, hk1⟩ := Option.ne_none_iff_exists'.1 h0
          have a1 := owns_lo hcw.1 k hk1
          have a2 := hcw.2.1 k hk1
          have b1 := owns_lo hc.1 k (e1 ▸ hk1)
          have b2 := hc.2.1 k (e1 ▸ hk1)
          rcases hap with hap | hap <;> omega
  · rw [List.pairwise_iff_getElem]
    intro a b ha hb hab
    rw [List.length_set] at ha hb
    have := (List.pairwise_iff_getElem.1 h.off) a b ha hb hab
    rw [List.getElem_set, List.getElem_set]
    have same : ∀ d : Chunk, (Chunk.own lo hi e v n xs).apart d → (Chunk.own lo hi e v n ys).apart d := fun d hd => by cases d <;> exact hd
    split
    · rename_i e1; subst e1
      rw [if_neg (by omega)]
      rw [hie] at this
      exact same _ this
    · split
      · rename_i e1 e2; subst e2
        rw [hie] at this
        exact Chunk.apart_symm (same _ (Chunk.apart_symm this))
      · exact this
end
end Go.Proofs.YtjhlmalpcelbaaaDoor

namespace Go.Proofs.YtjhlmalpcelbaaaDoor
open Go.RowKit

def bv (bs : List Nat) : List Value := bs.map fun (x : Nat) => Value.int .u8 (x : Int)
theorem bv_length (bs : List Nat) : (bv bs).length = bs.length := by simp [bv]
theorem Rd.atB {w : World} {A : Option Addr} {bs : List Nat} (h : Rd w A (bv bs)) {k : Nat} (hk : k < bs.length) :
    ∃ b o, A = some ⟨b, o, none⟩ ∧ w.cell? ⟨b, o + k, none⟩ = some (.int .u8 ((bs.getD k 0 : Nat) : Int)) := by
  rcases h with h | ⟨b, o, rfl, h⟩
  · have := congrArg List.length h; simp only [bv_length, List.length_nil] at this; omega
  · exact ⟨b, o, rfl, h k _ (by simp [bv, List.getD, hk])⟩
/-- a block of three cells that is known whole -/
theorem blk3cells {w : World} {g : Nat} {u v x : Value} {t : TypeId} (h : w.heap[g]? = some (.cells #[u, v, x] t (0, 0))) :
    w.cell? ⟨g, 0, none⟩ = some u ∧ w.cell? ⟨g, 1, none⟩ = some v ∧ w.cell? ⟨g, 2, none⟩ = some x ∧ w.frozen? ⟨g, 0, none⟩ = false ∧ w.frozen? ⟨g, 1, none⟩ = false ∧ w.frozen? ⟨g, 2, none⟩ = false ∧ g < w.heap.size :=
  ⟨cell_of_row w g 0 #[u, v, x] _ (0, 0) h, cell_of_row w g 1 #[u, v, x] _ (0, 0) h, cell_of_row w g 2 #[u, v, x] _ (0, 0) h, by simp [World.frozen?, h], by simp [World.frozen?, h], by simp [World.frozen?, h], (Array.getElem?_eq_some_iff.1 h).1⟩
theorem blk3set1 {w : World} {g : Nat} {u v x : Value} {t : TypeId} (h : w.heap[g]? = some (.cells #[u, v, x] t (0, 0))) (y : Value) : (w.setCell ⟨g, 1, none⟩ y).heap[g]? = some (.cells #[u, y, x] t (0, 0)) := by
  have := heap_setCell_same w g 1 _ t y h
  simpa using this
theorem blk3set2 {w : World} {g : Nat} {u v x : Value} {t : TypeId} (h : w.heap[g]? = some (.cells #[u, v, x] t (0, 0))) (y : Value) : (w.setCell ⟨g, 2, none⟩ y).heap[g]? = some (.cells #[u, v, y] t (0, 0)) := by
  have := heap_setCell_same w g 2 _ t y h
  simpa using this

/-- a source of draws at block g -/
structure SrcAt (w : World) (g : Nat) (A : Option Addr) (n c : Nat) (bs : List Nat) : Prop where
  src : ∃ (a : Nat) (h : Int), a ≤ n ∧ w.heap[g]? = some (.cells #[.slice A n c, .int .i64 a, .int .u64 h] 92 (0, 0))
  len : n = bs.length
  small : n ≤ 4096
  byte : ∀ b ∈ bs, b < 256
  rd : Rd w A (bv bs)
  off : ∀ a, A = some a → a.block ≠ g
theorem and24 (y : Int) : 0 ≤ bits .and .u64 y 16777215 ∧ bits .and .u64 y 16777215 ≤ 16777215 := by
  show 0 ≤ IntKind.u64.wrap ((BitVec.ofInt 64 y &&& BitVec.ofInt 64 16777215).toNat : Int) ∧ IntKind.u64.wrap ((BitVec.ofInt 64 y &&& BitVec.ofInt 64 16777215).toNat : Int) ≤ 16777215
  have h1 : (BitVec.ofInt 64 y &&& BitVec.ofInt 64 16777215).toNat ≤ 16777215 := by
    rw [BitVec.toNat_and]
    refine Nat.le_trans Nat.and_le_right ?_
    decide
  rw [IntKind.wrap_u64]
  omega
theorem draw_val1 {y m : Int} (h0 : 0 ≤ y) (h1 : y ≤ 16777215) (hm : 1 ≤ m) : 0 ≤ (wrap64 y).tmod m ∧ (wrap64 y).tmod m < m := by
  have e : wrap64 y = y := by unfold wrap64; omega
  rw [e, Int.tmod_eq_emod_of_nonneg h0]
  exact ⟨Int.emod_nonneg _ (by omega), Int.emod_lt_of_pos _ (by omega)⟩
theorem draw_val2 {y z m : Int} (h0 : 0 ≤ y) (h1 : y ≤ 16777215) (h2 : 0 ≤ z) (h3 : z < 256) (hm : 1 ≤ m) : 0 ≤ (wrap64 (wrap64 y + wrap64 z)).tmod m ∧ (wrap64 (wrap64 y + wrap64 z)).tmod m < m := by
  have e : wrap64 (wrap64 y + wrap64 z) = y + z := by unfold wrap64; omega
  rw [e, Int.tmod_eq_emod_of_nonneg (by omega)]
  exact ⟨Int.emod_nonneg _ (by omega), Int.emod_lt_of_pos _ (by omega)⟩
theorem getD_memB {S : List Nat} {k : Nat} (h : k < S.length) : S.getD k 0 ∈ S := by simp [List.getD, h]
/-- what a draw hands back -/
def NextOut (w : World) (g : Nat) (A : Option Addr) (n c : Nat) (bs : List Nat) (m : Int) (e : Ending) (w' : World) : Prop :=
  ∃ x : Int, e = .returned (.int .i64 x) ∧ 0 ≤ x ∧ (1 ≤ m → x < m) ∧ (¬ 1 ≤ m → x = 0) ∧ SrcAt w' g A n c bs ∧ Keeps w w' [some g]

set_option maxRecDepth 100000 in
set_option maxHeartbeats 2000000 in
theorem next_any (g : Nat) (A : Option Addr) (n c : Nat) (bs : List Nat) (m : Int) (hm : m ≤ 4611686018427387904) (w : World) (hs : SrcAt w g A n c bs) :
    Calls Tryd.prog 72 #[.pointer (some ⟨g, 0, none⟩), .int .i64 m] w (NextOut w g A n c bs m) := by
  by_cases h1 : 1 ≤ m
  · obtain ⟨a, h, ha, hb⟩ := hs.src
    obtain ⟨c0, c1, c2, f0, f1, f2, lg⟩ := blk3cells hb
    have hn := hs.small
    have HS := Lib.hid hs
    have HB := Lib.hid hb
    clear hs hb
    by_cases hlt : a < n
    · obtain ⟨b, o, hA, hc⟩ := HS.out.rd.atB (k := a) (by rw [← HS.out.len]; exact hlt)
      subst hA
      go_enter Tryd.func72, Tryd.ntmps72
      have hne : b ≠ g := HS.out.off ⟨b, o, none⟩ rfl
      have hc' : ∀ u, (w.setCell ⟨g, 2, none⟩ u).cell? ⟨b, o + a, none⟩ = some (.int .u8 ((bs.getD a 0 : Nat) : Int)) := fun u => (World.cell?_of_block (a := ⟨b, o + a, none⟩) (Below.heap_setCell w ⟨g, 2, none⟩ u b hne)).trans hc
      go_wp2_with fail
      go_quiet (fail)
      generalize nq = nq1
      go_wp2_with fail
      go_quiet (fail)
      go_wp2_with fail
      go_ret
      have hz := HS.out.byte _ (getD_memB (show a < bs.length by rw [← HS.out.len]; exact hlt))
      have hy := and24 (IntKind.u64.wrap (IntKind.u64.wrap (h * 6364136223846793005) + 1442695040888963407) / 8589934592)
      obtain ⟨v1, v2⟩ := draw_val2 hy.1 hy.2 (z := ((bs[a]?.getD 0 : Nat) : Int)) (by omega) (by simpa [List.getD] using (by omega : ((bs.getD a 0 : Nat) : Int) < 256)) h1
      have hk := ((((Keeps.refl w [some g]).setCell (p := ⟨g, 2, none⟩) (by simp) (.int .u64 (IntKind.u64.wrap (IntKind.u64.wrap (h * 6364136223846793005) + 1442695040888963407)))).drewN (nq1 + nq)).setCell (p := ⟨g, 1, none⟩) (by simp) (.int .i64 ((a : Int) + 1)))
      refine ⟨_, rfl, v1, fun _ => v2, fun h => by omega, ⟨⟨a + 1, (IntKind.u64.wrap (IntKind.u64.wrap (h * 6364136223846793005) + 1442695040888963407)), by omega, ?_⟩, HS.out.len, HS.out.small, HS.out.byte, ?_, HS.out.off⟩, ?_⟩
      · rw [show ((a + 1 : Nat) : Int) = (a : Int) + 1 by omega]
        exact blk3set1 (w := (w.setCell ⟨g, 2, none⟩ _).drewN _) (blk3set2 HB.out _) _
      · exact HS.out.rd.keeps hk (fun x hx => by simp only [List.mem_singleton]; intro e; injection e with e; exact HS.out.off x hx e)
      · exact hk
    · have hc' : True := trivial
      go_enter Tryd.func72, Tryd.ntmps72
      go_wp2_with fail
      go_quiet (fail)
      go_wp2_with fail
      go_ret
      have hy := and24 (IntKind.u64.wrap (IntKind.u64.wrap (h * 6364136223846793005) + 1442695040888963407) / 8589934592)
      obtain ⟨v1, v2⟩ := draw_val1 hy.1 hy.2 h1
      have hk := (((Keeps.refl w [some g]).setCell (p := ⟨g, 2, none⟩) (by simp) (.int .u64 (IntKind.u64.wrap (IntKind.u64.wrap (h * 6364136223846793005) + 1442695040888963407)))).drewN nq)
      refine ⟨_, rfl, v1, fun _ => v2, fun h => by omega, ⟨⟨a, (IntKind.u64.wrap (IntKind.u64.wrap (h * 6364136223846793005) + 1442695040888963407)), ha, ?_⟩, HS.out.len, HS.out.small, HS.out.byte, ?_, HS.out.off⟩, ?_⟩
      · exact blk3set2 HB.out _
      · exact HS.out.rd.keeps hk (fun x hx => by simp only [List.mem_singleton]; intro e; injection e with e; exact HS.out.off x hx e)
      · exact hk
  · have HS := Lib.hid hs
    clear hs
    go_enter Tryd.func72, Tryd.ntmps72
    go_wp2_with fail
    go_ret
    exact ⟨0, rfl, by omega, fun h => by omega, fun _ => rfl, HS.out, Keeps.refl _ _⟩

/-- what a pick hands back -/
def PickOut (w : World) (g : Nat) (A : Option Addr) (n c : Nat) (bs : List Nat) (xs : List Int) (e : Ending) (w' : World) : Prop :=
  ∃ x : Int, x ∈ xs ∧ e = .returned (.int .i64 x) ∧ SrcAt w' g A n c bs ∧ Keeps w w' [some g]
set_option maxRecDepth 100000 in
set_option maxHeartbeats 2000000 in
theorem pick_any (g : Nat) (A : Option Addr) (n c : Nat) (bs : List Nat) (A' : Option Addr) (n' c' : Nat) (xs : List Int) (w : World) (hs : SrcAt w g A n c bs) (hn' : n' = xs.length) (h1 : 1 ≤ n') (h2 : n' ≤ 1000000) (hR : Rd w A' (iv xs)) (hoff : ∀ a, A' = some a → a.block ≠ g) :
    Calls Tryd.prog 96 #[.pointer (some ⟨g, 0, none⟩), .slice A' n' c'] w (PickOut w g A n c bs xs) := by
  have hd := next_any g A n c bs (n' : Int) (by omega) w hs
  have HD := Lib.hid hd
  have HR := Lib.hid hR
  have Hn := Lib.hid hn'
  have HO := Lib.hid hoff
  clear hd hs hR hn' hoff
  go_enter Tryd.func96, Tryd.ntmps96
  go_wp2_with fail
  refine HD.out.mono ?_
  rintro e w1 ⟨x, rfl, x0, x1, x2, hs1, hk⟩
  have hx := x1 (by omega)
  obtain ⟨y, rfl⟩ := Int.eq_ofNat_of_zero_le x0
  have hy : y < xs.length := by rw [← Hn.out]; omega
  obtain ⟨b, o, rfl, hc⟩ := (HR.out.keeps hk (fun a ha => by simp only [List.mem_singleton]; intro e; injection e with e; exact HO.out a ha e)).atI hy
  have HS1 := Lib.hid hs1
  have HK := Lib.hid hk
  have hyn : y < n' := by omega
  clear hs1 hk x0 x1 x2 hx
  go_wp2_with fail
  go_ret
  exact ⟨xs[y], List.getElem_mem hy, rfl, HS1.out, HK.out⟩

set_option maxRecDepth 100000 in
set_option maxHeartbeats 2000000 in
theorem from_any (A : Option Addr) (n c : Nat) (bs : List Nat) (w : World) (hn : n = bs.length) (hsm : n ≤ 4096) (hby : ∀ b ∈ bs, b < 256) (hR : Rd w A (bv bs)) (hlt : ∀ a, A = some a → a.block < w.heap.size) :
    Calls Tryd.prog 65 #[.slice A n c] w fun e w' => e = .returned (.pointer (some ⟨w.heap.size, 0, none⟩)) ∧ SrcAt w' w.heap.size A n c bs ∧ Below w.heap.size w w' := by
  have Hn := Lib.hid hn
  have HR := Lib.hid hR
  have HB := Lib.hid hby
  have HL := Lib.hid hlt
  clear hn hR hby hlt
  go_enter Tryd.func65, Tryd.ntmps65
  go_wp2_with fail
  go_loopw [4] (fun i wr => ∃ k : Nat, k ≤ n ∧ i = .int .i64 k ∧ (∃ h : Int, wr.heap[w.heap.size]? = some (.cells #[.slice A n c, .int .i64 0, .int .u64 h] 92 (0, 0))) ∧ Below w.heap.size w wr) (fun i _ => n - (intOf i).toNat)
  case atStart => exact ⟨0, by omega, rfl, ⟨_, blk_new w _⟩, (Below.refl _ _).alloc (Nat.le_refl _) _⟩
  case round =>
    obtain ⟨k, hk, rfl, ⟨h, hb⟩, hbel⟩ := hrel
    obtain ⟨c0, c1, c2, f0, f1, f2, lg⟩ := blk3cells hb
    by_cases hlt : k < n
    · have hkL : k < bs.length := by rw [← Hn.out]; exact hlt
      obtain ⟨b, o, rfl, hc⟩ := (HR.out.below hbel).atB hkL
      have hk4 : k < 4096 := by omega
      have HBK := Lib.hid hb
      have HBL := Lib.hid hbel
      clear hb hbel
      go_wp2_with fail
      go_region_law (fail)
      all_goals
        go_wp2_with fail
        go_roundw
        case rel => exact ⟨k + 1, by omega, by go_num, ⟨_, blk3set2 HBK.out _⟩, (HBL.out.setCell (p := ⟨w.heap.size, 2, none⟩) (Nat.le_refl _) _).drew⟩
        case measure => simp [intOf]; omega
    · have HBK := Lib.hid hb
      have HBL := Lib.hid hbel
      clear hb hbel
      go_wp2_with fail
      go_ret
      exact ⟨rfl, ⟨⟨0, h, by omega, HBK.out⟩, Hn.out, hsm, HB.out, HR.out.below HBL.out, fun a ha => Nat.ne_of_lt (HL.out a ha)⟩, HBL.out⟩
end Go.Proofs.YtjhlmalpcelbaaaDoor
