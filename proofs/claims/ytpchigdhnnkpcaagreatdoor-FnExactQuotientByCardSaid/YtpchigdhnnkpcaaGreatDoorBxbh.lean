/- a queue of ints: taken at the front, grown at the end · the program's generatedBy · the program's generated -/
import Derived.Test.YtpchigdhnnkpcaaGreatDoorBxav
import Derived.Test.YtpchigdhnnkpcaaGreatDoorBxbf
import Derived.Test.YtpchigdhnnkpcaaGreatDoorBxah
import Derived.ArgAppend
import Derived.Test.YtpchigdhnnkpcaaGreatDoorBxbg
import Derived.Test.YtpchigdhnnkpcaaGreatDoorBxat
set_option linter.all false
namespace Go.Proofs.YtpchigdhnnkpcaaGreatDoor
open Go.RowKit

theorem own_push {w : World} {B g n cu : Nat} {e : TypeId} {xs : List Value} (h : w.ownsRow B e 1 (.slice (some ⟨g, 0, none⟩) n cu) n xs) (hr : n + 1 ≤ cu) (u : Value) :
    (w.setCells g n [u]).ownsRow B e 1 (.slice (some ⟨g, 0, none⟩) (n + 1) cu) (n + 1) (xs ++ [u]) ∧ w.grownBy (w.setCells g n [u]) (some g) ∧ (w.cell? ⟨g, n, none⟩).isSome = true ∧ w.frozen? ⟨g, n, none⟩ = false := by
  rcases h.2 with ⟨h', _⟩ | ⟨g', cap', cur, h', hb, hg, hnc, hcm, hcs, ht⟩
  · simp at h'
  · simp only [Value.slice.injEq, Option.some.injEq, Addr.mk.injEq, and_true, true_and] at h'
    obtain ⟨rfl, rfl⟩ := h'
    have hl : xs.length = n := by simpa using h.1
    have hn : n < cur.toList.length := by simp; omega
    refine ⟨⟨by simp [hl], .inr ⟨g, cu, cur.setIfInBounds n u, rfl, hb, heap_setCell_same w g n cur e u hg, hr, hcm, by simpa using hcs, ?_⟩⟩,
      ⟨rfl, rfl, rfl, by simp [World.setCells], fun k _ hk => heap_setCell_other w ⟨g, n, none⟩ k u (fun e => hk (by simp [e]))⟩, ?_, h.frozenAt n⟩
    · rw [Array.toList_setIfInBounds, show (n + 1) * 1 = n + 1 by omega, List.take_set, List.take_succ_eq_append_getElem hn, show cur.toList.take n = xs by simpa using ht, List.set_append_right _ _ (by omega)]
      simp [hl]
    · rw [cell_of_row w g n cur e (0, 0) hg]
      simp; omega
/-- v shows the numbers q, that lie behind pre in a row of the call's own -/
structure QAt (w : World) (B : Nat) (v : Value) (g cu : Nat) (pre : List Value) (q : List Nat) : Prop where
  own : w.ownsRow B 2 1 (.slice (some ⟨g, 0, none⟩) (pre.length + q.length) cu) (pre.length + q.length) (pre ++ nv q)
  val : (q = [] ∧ ∃ A, v = .slice A 0 0) ∨ (v = .slice (some ⟨g, pre.length, none⟩) q.length (cu - pre.length) ∧ pre.length + q.length ≤ cu)
theorem QAt.start {w : World} {B g c : Nat} {q : List Nat} (h : w.ownsRow B 2 1 (.slice (some ⟨g, 0, none⟩) q.length c) q.length (nv q)) : QAt w B (.slice (some ⟨g, 0, none⟩) q.length c) g c [] q := by
  obtain ⟨A, c', e, hc, _⟩ := owns_shape h
  injection e with e1 e2 e3
  subst e3
  exact ⟨by simpa using h, .inr ⟨by simp, by simpa using hc⟩⟩
theorem QAt.shape {w : World} {B : Nat} {v : Value} {g cu : Nat} {pre : List Value} {q : List Nat} (h : QAt w B v g cu pre q) : ∃ A c, v = .slice A q.length c := by
  rcases h.val with ⟨rfl, A, rfl⟩ | ⟨rfl, _⟩
  · exact ⟨A, 0, rfl⟩
  · exact ⟨_, _, rfl⟩
theorem QAt.pop {w : World} {B : Nat} {v : Value} {g cu : Nat} {pre : List Value} {r : Nat} {q : List Nat} (h : QAt w B v g cu pre (r :: q)) :
    ∃ cc, 1 ≤ cc ∧ v = .slice (some ⟨g, pre.length, none⟩) (q.length + 1) cc ∧ w.cell? ⟨g, pre.length, none⟩ = some (.int .i64 (r : Nat)) ∧ pre.length + (q.length + 1) ≤ pre.length + cc ∧
      QAt w B (if cc = 1 then .slice (some ⟨g, pre.length, none⟩) q.length (cc - 1) else .slice (some ⟨g, pre.length + 1, none⟩) q.length (cc - 1)) g cu (pre ++ [.int .i64 (r : Nat)]) q := by
  rcases h.val with ⟨e, _⟩ | ⟨rfl, hle⟩
  · cases e
  · rw [List.length_cons] at hle
    refine ⟨cu - pre.length, by omega, rfl, ?_, by omega, ?_, ?_⟩
    · have := h.own.cellAt pre.length (by simp)
      rw [this, List.getElem?_append_right (Nat.le_refl _), Nat.sub_self]
      rfl
    · have := h.own
      rw [show (pre ++ [Value.int .i64 (r : Nat)]).length + q.length = pre.length + (r :: q).length by simp; omega, show pre ++ [Value.int .i64 (r : Nat)] ++ nv q = pre ++ nv (r :: q) by simp [nv]]
      exact this
    · by_cases e : cu - pre.length = 1
      · have hq : q = [] := List.eq_nil_of_length_eq_zero (by omega)
        subst hq
        exact .inl ⟨rfl, _, by rw [if_pos e, e]; rfl⟩
      · refine .inr ⟨?_, by simp; omega⟩
        rw [if_neg e, List.length_append, List.length_singleton]
        rw [show cu - pre.length - 1 = cu - (pre.length + 1) by omega]
theorem QAt.kept {w w' : World} {B : Nat} {v : Value} {g cu : Nat} {pre : List Value} {q : List Nat} (h : QAt w B v g cu pre q)
    (ho : ∀ n xs, w.ownsRow B 2 1 (.slice (some ⟨g, 0, none⟩) n cu) n xs → w'.ownsRow B 2 1 (.slice (some ⟨g, 0, none⟩) n cu) n xs) : QAt w' B v g cu pre q := ⟨ho _ _ h.own, h.val⟩

section
variable {w : World} {ops : Array Oper} {rest : List Oper} {o : Oper} {a : Act} {Q : Exit → Act → World → Prop}
theorem wpList_qapp (s x : Operand) (hgd : o.guard = none) (ho : o.op = .call { callee := .builtin .append, args := #[s, x], argTypes := #[22, 22] })
    (B g cu : Nat) (v : Value) (pre : List Value) (q : List Nat) (hs : a.eval s = v) (hq : QAt w B v g cu pre q) (nb z : Nat) (hx : a.eval x = .slice (some ⟨nb, 0, none⟩) 1 1) (hnew : w.cell? ⟨nb, 0, none⟩ = some (.int .i64 (z : Nat)))
    (hn : q.length ≤ 1000000) (hB : B ≤ w.heap.size)
    (h : ∀ A' c' g' cu' pre' w', QAt w' B (.slice A' (q.length + 1) c') g' cu' pre' (q ++ [z]) → w.grownBy w' (some g) → (g' = g ∨ w.heap.size ≤ g') → wpList Tryz.prog ops Q rest (a.put o.dst (.slice A' (q.length + 1) c')) w') :
    wpList Tryz.prog ops Q (o :: rest) a w := by
  obtain ⟨i, zz, hi, hz0, hz1, hz2, hz3⟩ := etI.inf
  have hc : ∀ j u, [Value.int .i64 (z : Nat)][j]? = some u → w.cell? ((⟨nb, 0, none⟩ : Addr).add j) = some u := fun j u hj => by
    have : j = 0 := by
      have := (List.getElem?_eq_some_iff.1 hj).1
      simpa using this
    subst this
    rw [Addr.add_lit]
    simp at hj
    subst hj
    exact hnew
  have hgn : ∀ w', w.grownBy w' none → w.grownBy w' (some g) := fun w' hg' => ⟨hg'.os, hg'.tape, hg'.output, hg'.size, fun k hk _ => hg'.block k hk (by simp)⟩
  rcases hq.val with ⟨rfl, A, rfl⟩ | ⟨rfl, hle⟩
  · refine wpList_append_grows w hgd s x _ ho 2 i zz 1 8 etI.und hi hz0 hz1 hz2 hz3 (by omega) A 0 0 [] hs (fun _ => ⟨rfl, rfl⟩) (by simp) (by simp) ⟨nb, 0, none⟩ 1 1 [.int .i64 (z : Nat)] hx (by simp) hc (by simp [Value.oneCell']) (by omega) (by unfold maxLen; omega) (by omega) ?_
    intro v' w' ho' hg'
    obtain ⟨A', c', rfl, hc', hA', _⟩ := owns_shape ho'
    obtain ⟨g', rfl, h1, h2⟩ := hA' (by omega)
    exact h _ c' g' c' [] w' ⟨by simpa [nv] using ho'.mono hB, .inr ⟨by simp, by simpa using hc'⟩⟩ (hgn _ hg') (.inr h1)
  · refine wpList_append_arg w hgd s x _ ho 2 i zz 1 8 etI.und hi hz0 hz1 hz2 hz3 (by omega) g pre.length q.length (cu - pre.length) (nv q) hs (by simp [nv]) ?_ ⟨nb, 0, none⟩ 1 1 [.int .i64 (z : Nat)] hx (by simp) hc (by simp [Value.oneCell']) ?_ (by unfold maxLen; omega) (by omega) ?_ ?_
    · intro j u hj
      have hj2 := (List.getElem?_eq_some_iff.1 hj).1
      rw [nv_length] at hj2
      have := hq.own.cellAt (pre.length + j) (by omega)
      rw [this, List.getElem?_append_right (by omega), show pre.length + j - pre.length = j by omega]
      exact hj
    · intro hr j hj
      have : j = 0 := by simpa using hj
      subst this
      obtain ⟨_, _, h3, h4⟩ := own_push hq.own (by omega) (.int .i64 (z : Nat))
      simp only [Nat.mul_one, Nat.add_zero]
      exact ⟨h3, h4⟩
    · intro hr
      obtain ⟨h1, h2, _, _⟩ := own_push hq.own (by omega) (.int .i64 (z : Nat))
      simp only [Nat.mul_one]
      refine h _ _ g cu pre _ ⟨?_, .inr ⟨by simp, by simp; omega⟩⟩ h2 (.inl rfl)
      rw [show pre.length + (q ++ [z]).length = pre.length + q.length + 1 by simp; omega, show pre ++ nv (q ++ [z]) = pre ++ nv q ++ [.int .i64 (z : Nat)] by simp [nv]]
      exact h1
    · intro hg v' w' ho' hg'
      obtain ⟨A', c', rfl, hc', hA', _⟩ := owns_shape ho'
      obtain ⟨g', rfl, h1, h2⟩ := hA' (by omega)
      exact h _ c' g' c' [] w' ⟨by simpa [nv] using ho'.mono hB, .inr ⟨by simp, by simpa using hc'⟩⟩ (hgn _ hg') (.inr h1)
end
/-! ### what is left alone beside the queue -/
theorem Keeps.more1 {w1 wr w' : World} {g0 : Nat} {S : List (Option Nat)} (h : Keeps w1 wr [some g0]) (h2 : Keeps wr w' S) (hS : ∀ j, some j ∈ S → j = g0 ∨ w1.heap.size ≤ j) : Keeps w1 w' [some g0] :=
  h.trans h2 fun j hj hh => by
    rcases hh with hh | hh
    · exact hh
    · rcases hS j hh with e | e
      · subst e; simp
      · omega
theorem Tab.keeps {w w' : World} {g0 : Nat} (h : Tab w) (hk : Keeps w w' [some g0]) (hw : 0 < w.heap.size) (hg : 0 < g0) : Tab w' := fun j hj =>
  (World.cell?_of_block (hk.block 0 hw (by simp; omega))).trans (h j hj)
theorem tbl_keep {w0 w1 wr : World} {g0 g : Nat} {A : Option Addr} {n c : Nat} {h : Nat → Nat} {Q : List (List Int)} (t : TbM w0 w1 g A n c h 21 (sqRow Q n)) (hk : Keeps w1 wr [some g0]) (hg : g0 < w0.heap.size) : TblAt wr g A n c Q := by
  have h1 : some g ∉ [some g0] := by have := t.ge; simp; omega
  refine ⟨hk.cellSome t.cell0 h1, fun k hk' => ⟨h k, hk.cellSome (t.cell hk') h1, ?_⟩⟩
  exact owns_Rd (owns_keeps (t.own k hk') hk (.inr (by have := ((t.own k hk').lt (h k) rfl).1; simp [Value.ownBlock]; omega)))
theorem span_rank {w : World} {B bs : Nat} {v1 v2 : Value} {L : List (Nat × Nat)} (h : SpanAt w B bs v1 v2 L) : ∃ A c, w.cell? ⟨bs, 0, none⟩ = some (.slice A L.length c) := by
  obtain ⟨A, c, e, _⟩ := owns_shape h.own1
  obtain ⟨x0, _⟩ := blk2cells h.blk
  exact ⟨A, c, by rw [x0, e]⟩
/-! ### the span of what has been taken -/
theorem zs_snoc (A : List Nat) (r : Nat) : spanL (zs (A ++ [r])) = addL (spanL (zs A)) (r, 0) := by
  rw [show zs (A ++ [r]) = zs A ++ [(r, 0)] by simp [zs]]; simp [spanL]
theorem zs_in {A : List Nat} {r : Nat} (h : (leftN (spanL (zs A)) (r, 0)).1 = 0) : Sp A r := by
  have e : addL (spanL (zs A)) (r, 0) = spanL (zs A) := by unfold addL; rw [if_pos h]
  have h1 := sp_addL (spanL (zs A)) (r, 0) r
  rw [e, sp_span, r1_zs] at h1
  exact h1.2 (.mem (List.mem_cons_self ..))
theorem zs_len {A : List Nat} {r : Nat} : (spanL (zs (A ++ [r]))).length = (spanL (zs A)).length + if (leftN (spanL (zs A)) (r, 0)).1 = 0 then 0 else 1 := by
  rw [zs_snoc]; unfold addL
  split
  · rfl
  · simp [addN]
theorem zs_le {A : List Nat} {n : Nat} (hn : n ≤ 62) (h : ∀ r ∈ A, r < 2 ^ n) : (spanL (zs A)).length ≤ n := by
  have hs : ∀ r ∈ A, Sm r := fun r hr => sm_of_lt (a := n) hn (h r hr)
  obtain ⟨p1, p2, _⟩ := spanL_perm (zs A) (fun p hp => by obtain ⟨r, hr, rfl⟩ := List.mem_map.1 hp; exact ⟨hs r hr, Sm.zero⟩)
  have := red_len p2 fun r hr => by
    have h1 := p1.mem_iff.1 hr
    rw [r1_zs] at h1
    exact sp_lt h ((sp_reduce hs r).1 (.mem h1))
  rw [r1_length] at this
  exact this
end Go.Proofs.YtpchigdhnnkpcaaGreatDoor

namespace Go.Proofs.YtpchigdhnnkpcaaGreatDoor
open Go.RowKit

def lenW (v : Value) : Nat := match v with
  | .slice _ n _ => n
  | _ => 0
def rankW (w : World) (bs : Nat) : Nat := lenW ((w.cell? ⟨bs, 0, none⟩).getD undef)
theorem rank_eq {w : World} {B bs : Nat} {v1 v2 : Value} {L : List (Nat × Nat)} (h : SpanAt w B bs v1 v2 L) : rankW w bs = L.length := by
  obtain ⟨A, c, e⟩ := span_rank h
  unfold rankW; rw [e]; rfl
/-- the queue, beside a span -/
structure QIn (bs g0 : Nat) (w1 wr : World) (v : Value) (N : List (Nat × Nat)) (q : List Nat) : Prop where
  st : ∃ g cu pre v1 v2, QAt wr 0 v g cu pre q ∧ (g = g0 ∨ w1.heap.size ≤ g) ∧ SpanAt wr w1.heap.size bs v1 v2 N ∧ some g ≠ v1.ownBlock ∧ some g ≠ v2.ownBlock
  kp : Keeps w1 wr [some g0]
theorem QIn.rank {bs g0 : Nat} {w1 wr : World} {v : Value} {N : List (Nat × Nat)} {q : List Nat} (h : QIn bs g0 w1 wr v N q) : rankW wr bs = N.length := by
  obtain ⟨g, cu, pre, v1, v2, _, _, hsp, _⟩ := h.st
  exact rank_eq hsp
theorem q_add {bs g0 g cu : Nat} {w1 wr w3 : World} {sv v1 v2 : Value} {L N : List (Nat × Nat)} {pre : List Value} {q : List Nat} (hq : QAt wr 0 sv g cu pre q) (hgg : g = g0 ∨ w1.heap.size ≤ g) (hsp : SpanAt wr w1.heap.size bs v1 v2 L)
    (h1 : some g ≠ v1.ownBlock) (h2 : some g ≠ v2.ownBlock) (hk : Keeps w1 wr [some g0]) (hp : AddPost wr w1.heap.size bs v1 v2 N w3) : QIn bs g0 w1 w3 sv N q := by
  obtain ⟨qo, u1, u2, q2, q3, q4⟩ := span_own_add hsp hq.own h1 h2 hp
  refine ⟨⟨g, cu, pre, u1, u2, ⟨qo, hq.val⟩, hgg, q2, q3, q4⟩, hk.more1 hp.1 fun j hj => .inr ?_⟩
  simp only [List.mem_cons, List.not_mem_nil, or_false] at hj
  rcases hj with hj | hj | hj
  · injection hj with hj; rw [hj]; exact hsp.lo
  · exact (hsp.own1.lt j hj.symm).1
  · exact (hsp.own2.lt j hj.symm).1
theorem QIn.app {bs g0 g g' cu cu' : Nat} {w1 wr w' : World} {sv sv' v1 v2 : Value} {N : List (Nat × Nat)} {pre pre' : List Value} {q q' : List Nat} {ob : Obj} (hq : QAt wr 0 sv g cu pre q) (hgg : g = g0 ∨ w1.heap.size ≤ g) (hsp : SpanAt wr w1.heap.size bs v1 v2 N)
    (h1 : some g ≠ v1.ownBlock) (h2 : some g ≠ v2.ownBlock) (hk : Keeps w1 wr [some g0]) (hq' : QAt w' 0 sv' g' cu' pre' q') (hg : (wr.alloc ob).grownBy w' (some g)) (hat : g' = g ∨ (wr.alloc ob).heap.size ≤ g') : QIn bs g0 w1 w' sv' N q' := by
  have hb : some g ≠ some bs := own_ne hq.own hsp.blk (by decide)
  have hK : Keeps wr w' [some g] := ((Keeps.refl wr []).alloc ob).trans (Keeps.of_grown hg) (T := [some g]) (by simp)
  have hsz := hk.size
  refine ⟨⟨g', cu', pre', v1, v2, hq', ?_, hsp.keeps hK (by simpa using hb.symm) (.inr (by simpa using h1.symm)) (.inr (by simpa using h2.symm)), ?_, ?_⟩, hk.more1 hK fun j hj => ?_⟩
  · rcases hat with rfl | h
    · exact hgg
    · simp at h; exact .inr (by omega)
  · rcases hat with rfl | h
    · exact h1
    · intro e; have := (hsp.own1.lt g' e.symm).2; simp at h; omega
  · rcases hat with rfl | h
    · exact h2
    · intro e; have := (hsp.own2.lt g' e.symm).2; simp at h; omega
  · have : j = g := by simpa using hj
    subst this; exact hgg
/-- the loop's state -/
structure QSt (Q : List (List Int)) (T : List Nat) (n bs g0 : Nat) (w1 wr : World) (v : Value) (A q : List Nat) : Prop where
  gi : GI Q T A q
  lt : ∀ r ∈ A ++ q, r < 2 ^ n
  qi : QIn bs g0 w1 wr v (spanL (zs A)) q
  sm : 21 * (16 - (spanL (zs A)).length) + q.length ≤ 400

set_option maxRecDepth 100000 in
set_option maxHeartbeats 4000000 in
theorem generatedBy_any (A0 A' : Option Addr) (n c m c' g0 cq : Nat) (xs : List Int) (L : List Row) (T : List Nat) (w : World) (hT : Tab w) (hM : ModIn w A0 n A' m xs L) (hs : Shp xs (dat L)) (hg0 : 0 < g0) (hl : T.length ≤ 20) (hlt : ∀ r ∈ T, r < 2 ^ n)
    (hq : w.ownsRow 0 2 1 (.slice (some ⟨g0, 0, none⟩) T.length cq) T.length (nv T)) :
    Calls Tryz.prog 100 #[.agg #[.slice A0 n c, .slice A' m c'], .slice (some ⟨g0, 0, none⟩) T.length cq] w fun e w' => ∃ v, e = .returned v ∧ w'.ownsRow w.heap.size 2 1 v (genR (dat L) T).length (nv (genR (dat L) T)) ∧ Keeps w w' [some g0] := by
  have hk0 := blk_new w (.cells #[.slice A0 n c, .slice A' m c'] 29)
  have hb0 : Below w.heap.size w (w.alloc (.cells #[.slice A0 n c, .slice A' m c'] 29)) := (Below.refl _ _).alloc (Nat.le_refl _) _
  have hgw := (hq.lt g0 rfl).2
  have hn16 : n ≤ 16 := by rw [hM.r.hn]; exact hs.len
  have HTO := Lib.hid (tableOf_any A0 A' n c m c' xs L _ hM.r.hn hM.r.hm hM.r.hm1 hs (hM.r.act.below hb0))
  have Hn : Hid (n = xs.length) := Lib.hid hM.r.hn
  have HSH := Lib.hid hs
  have HT := Lib.hid hT
  have HB0 := Lib.hid hb0
  have HQ := Lib.hid hq
  have HLT := Lib.hid hlt
  obtain ⟨x0, x1, xf0, xf1, lx⟩ := blk2cells hk0
  have hz0 : (w.alloc (.cells #[.slice A0 n c, .slice A' m c'] 29)).heap.size = w.heap.size + 1 := by simp
  clear hb0 hk0 hq hlt hM hs hT
  go_enter Tryz.func100, Tryz.ntmps100
  go_wp2_with fail
  refine HTO.out.mono ?_
  rintro e w1 ⟨gt, ht0, rfl, ht⟩
  have HTM := Lib.hid ht
  have HB1 := Lib.hid (HB0.out.trans (ht.bel.mono HB0.out.size))
  have hw1 : w.heap.size < w1.heap.size := by have := ht.bel.size; omega
  have HT1 : Hid (Tab w1) := Lib.hid (HT.out.below HB1.out (by omega))
  have HSP := Lib.hid (SpanAt.new w1)
  have HST0 : Hid (QSt (dat L) T n w1.heap.size g0 w1 (w1.alloc (.cells #[.slice none 0 0, .slice none 0 0] 62)) (.slice (some ⟨g0, 0, none⟩) T.length cq) [] T) := Lib.hid
    ⟨GI.start _ _, by simpa using HLT.out, ⟨⟨g0, cq, [], .slice none 0 0, .slice none 0 0, QAt.start ((owns_keeps HQ.out (Keeps.of_below HB1.out) (.inr (by simp))).alloc _), .inl rfl, HSP.out, by simp [Value.ownBlock], by simp [Value.ownBlock]⟩, (Keeps.refl _ _).alloc _⟩, by
      show 21 * (16 - 0) + _ ≤ 400; omega⟩
  have HBO : Hid (∀ W, Keeps w1 W [some g0] → Keeps w W [some g0]) := Lib.hid (fun W hk => (Keeps.of_below HB1.out).trans hk (fun j hj h => by simpa using h))
  clear ht x0 x1 xf0 xf1 lx
  go_wp2_with fail
  generalize hbs : w1.heap.size = bs at HST0 ⊢
  have HBS := Lib.hid hbs
  clear hbs
  go_loopw [1] (fun s1 wr => ∃ A q, QSt (dat L) T n bs g0 w1 wr s1 A q) (fun s => fun wr => 21 * (16 - rankW wr bs) + lenW s)
  case atStart => exact ⟨[], T, HST0.out⟩
  case round =>
    obtain ⟨A, q, hst⟩ := hrel
    have HS := Lib.hid hst
    obtain ⟨g, cu, pre, v1, v2, hq, hgg, hsp, hne1, hne2⟩ := hst.qi.st
    have hkp := hst.qi.kp
    have HRK := Lib.hid hst.qi.rank
    have hAl : ∀ r ∈ A, r < 2 ^ n := fun r hr => hst.lt r (List.mem_append.2 (.inl hr))
    have hzl := zs_le (A := A) (n := n) (by omega) hAl
    have hsm := hst.sm
    have hASm : ∀ r ∈ A, Sm r := fun r hr => sm_of_lt (a := n) (by omega) (hAl r hr)
    have hsz := hkp.size
    have htab := HT1.out.keeps hkp (by omega) hg0
    obtain ⟨p1, p2, p3⟩ := spanL_perm (zs A) (fun p hp => by obtain ⟨r, hr, rfl⟩ := List.mem_map.1 hp; exact ⟨hASm r hr, Sm.zero⟩)
    rw [r1_zs] at p1
    have HKP := Lib.hid hkp
    have HSPr := Lib.hid hsp
    have HN1 := Lib.hid hne1
    have HN2 := Lib.hid hne2
    have HGG := Lib.hid hgg
    cases q with
    | nil =>
      obtain ⟨Av, cv, rfl⟩ := hq.shape
      have e := (hst.gi.done hASm).eq
      have hrd := spanReduced_any w1.heap.size bs v1 v2 (spanL (zs A)) (reduceS A) wr htab (by omega) hsp (by omega) p2 (asc_reduce hASm) p1
      rw [e] at hrd
      have HRD := Lib.hid hrd
      clear hrd e p1 p2 p3 hst hq hsp hne1 hne2 hkp htab hAl hASm hgg
      go_wp2_with fail
      refine HRD.out.mono ?_
      rintro e w3 ⟨v, rfl, ho, hb⟩
      have HO := Lib.hid ho
      have HB := Lib.hid hb
      clear ho hb
      go_wp2_with fail
      go_ret
      exact ⟨v, rfl, HO.out.mono (by omega), HBO.out _ (HKP.out.more1 (Keeps.of_below HB.out) (by simp))⟩
    | cons r q =>
      have hrl : r < 2 ^ n := hst.lt r (by simp)
      have hrs := sm_of_lt (a := n) (by omega) hrl
      obtain ⟨cc, hcc1, rfl, hcell, _, hpop⟩ := hq.pop
      have ha := add_any w1.heap.size bs v1 v2 (spanL (zs A)) r 0 wr htab (by omega) hsz hsp (by omega) hrs Sm.zero p3
      have HSL := Lib.hid (zs_snoc A r)
      have HZL := Lib.hid (zs_len (A := A) (r := r))
      have HPOP := Lib.hid hpop
      have HLT' : Hid (∀ x ∈ A ++ [r] ++ q, x < 2 ^ n) := Lib.hid (fun x hx => hst.lt x (by simpa using hx))
      have hql : q.length ≤ 400 := by rw [List.length_cons] at hsm; omega
      by_cases h0 : (leftN (spanL (zs A)) (r, 0)).1 = 0
      · have hv : AddRes (spanL (zs A)) (r, 0) = .tuple #[.int .i64 ((leftN (spanL (zs A)) (r, 0)).2 : Nat), .bool false] := by simp [AddRes, h0]
        rw [hv] at ha
        have HA := Lib.hid ha
        have HGI := Lib.hid (hst.gi.skip (zs_in h0))
        rw [if_pos h0] at HZL
        clear ha hv h0 hst hq hsp hne1 hne2 hkp htab hAl hASm p1 p2 p3 hgg hpop hrs hrl
        generalize (leftN (spanL (zs A)) (r, 0)).2 = z at *
        by_cases hc1 : cc = 1
        · go_wp2_with (go_at_call 73; refine HA.out.mono ?_; rintro e w3 ⟨rfl, hpost⟩; have HP := Lib.hid hpost; clear hpost)
          have HQI := Lib.hid (q_add HPOP.out HGG.out HSPr.out HN1.out HN2.out HKP.out HP.out)
          rw [← HSL.out] at HQI
          have HRK3 := Lib.hid HQI.out.rank
          go_roundw
          case rel =>
            refine ⟨A ++ [r], q, HGI.out, HLT'.out, ?_, by rw [HZL.out, Nat.add_zero]; rw [List.length_cons] at hsm; omega⟩
            have := HQI.out
            simpa [hc1, Addr.add] using this
          case measure => rw [HRK3.out, HRK.out, HZL.out]; simp [lenW]
        · go_wp2_with (go_at_call 73; refine HA.out.mono ?_; rintro e w3 ⟨rfl, hpost⟩; have HP := Lib.hid hpost; clear hpost)
          have HQI := Lib.hid (q_add HPOP.out HGG.out HSPr.out HN1.out HN2.out HKP.out HP.out)
          rw [← HSL.out] at HQI
          have HRK3 := Lib.hid HQI.out.rank
          go_roundw
          case rel =>
            refine ⟨A ++ [r], q, HGI.out, HLT'.out, ?_, by rw [HZL.out, Nat.add_zero]; rw [List.length_cons] at hsm; omega⟩
            have := HQI.out
            simpa [hc1, Addr.add] using this
          case measure => rw [HRK3.out, HRK.out, HZL.out]; simp [lenW]
      · have hv : AddRes (spanL (zs A)) (r, 0) = .tuple #[.int .i64 0, .bool true] := by simp [AddRes, h0]
        rw [hv] at ha
        have HA := Lib.hid ha
        have HGI := Lib.hid hst.gi.take
        rw [if_neg h0] at HZL
        have hzl2 := zs_le (A := A ++ [r]) (n := n) (by omega) (fun x hx => hst.lt x (by
          rcases List.mem_append.1 hx with hx | hx
          · exact List.mem_append.2 (.inl hx)
          · exact List.mem_append.2 (.inr (by rw [List.mem_singleton] at hx; subst hx; simp))))
        clear ha hv h0 hst hq hsp hne1 hne2 hkp htab hAl hASm p1 p2 p3 hgg hpop
        by_cases hc1 : cc = 1
        · go_wp2_with (go_at_call 73; refine HA.out.mono ?_; rintro e w3 ⟨rfl, hpost⟩; have HP := Lib.hid hpost; clear hpost)
          have HQI := Lib.hid (q_add HPOP.out HGG.out HSPr.out HN1.out HN2.out HKP.out HP.out)
          rw [← HSL.out] at HQI
          have HA0 : Hid (acts (dat L) r 0 = []) := Lib.hid rfl
          have HAL := Lib.hid (fun j => acts_len (dat L) r j)
          have HAS : Hid (∀ j, 1 ≤ j → acts (dat L) r j = acts (dat L) r (j - 1) ++ [act (dat L) (j : Int) r]) := Lib.hid (fun j hj => by
            obtain ⟨j', rfl⟩ : ∃ j', j = j' + 1 := ⟨j - 1, by omega⟩
            exact acts_succ _ _ _)
          have HLA : Hid (∀ x ∈ acts (dat L) r 20, x < 2 ^ n) := Lib.hid (fun x hx => by
            obtain ⟨j, _, _, rfl⟩ := mem_acts.1 hx
            rw [Hn.out]; exact act_lt HSH.out (by rw [← Hn.out]; exact hrl) _)
          have HSQ := Lib.hid (fun (j : Nat) (W : World) (hk : Keeps w1 W [some g0]) => square_any gt A0 n c xs (dat L) (j : Int) (r : Int) r W Hn.out HSH.out (by omega) rfl (by rw [← Hn.out]; exact hrl) (tbl_keep HTM.out hk (by omega)))
          obtain ⟨N, hN⟩ : ∃ N, N = spanL (zs (A ++ [r])) := ⟨_, rfl⟩
          rw [← hN] at HQI HZL
          have HNE := Lib.hid hN
          clear hN
          go_loopw [1, 10] (fun s1 s10 wr => ∃ j : Nat, 1 ≤ j ∧ j ≤ 21 ∧ s10 = .int .i64 j ∧ QIn bs g0 w1 wr s1 N (q ++ acts (dat L) r (j - 1))) (fun _ s => fun _ => 21 - (intOf s).toNat)
          case atStart =>
            refine ⟨1, by omega, by omega, rfl, ?_⟩
            rw [HA0.out, List.append_nil]
            have := HQI.out
            simpa [hc1, Addr.add] using this
          case round =>
            obtain ⟨j, hj1, hj2, rfl, hqi⟩ := hrel
            have HQJ := Lib.hid hqi
            by_cases hj20 : j ≤ 20
            · have hj20i : (j : Int) ≤ 20 := by omega
              obtain ⟨g, cu, pre, v1, v2, hq, hgg, hsp, hne1, hne2⟩ := hqi.st
              have HQ' := Lib.hid hq
              have HCS := Lib.hid (HSQ.out j wr hqi.kp)
              obtain ⟨Av, cv, rfl⟩ := hq.shape
              have HASj : Hid (q ++ acts (dat L) r j = q ++ acts (dat L) r (j - 1) ++ [act (dat L) (j : Int) r]) := Lib.hid (by rw [HAS.out j hj1, List.append_assoc])
              have hln : (q ++ acts (dat L) r (j - 1)).length ≤ 1000000 := by rw [List.length_append, HAL.out]; omega
              have HX := Lib.hid (fun (w' : World) (sv' : Value) (g' cu' : Nat) (pre' : List Value) (q' : List Nat) (ob : Obj) => QIn.app (ob := ob) (w' := w') (sv' := sv') (g' := g') (cu' := cu') (pre' := pre') (q' := q') hq hgg hsp hne1 hne2 hqi.kp)
              clear hq hgg hsp hne1 hne2 hqi
              generalize act (dat L) (j : Int) r = z at *
              generalize q ++ acts (dat L) r (j - 1) = GJ at *
              go_wp2_with (first | (go_at_call 89; refine HCS.out.mono ?_; rintro e w7 ⟨rfl, rfl⟩) | (at_builtin; refine wpList_qapp _ _ (by rfl) (by rfl) 0 g cu (.slice Av GJ.length cv) pre GJ (by rfl) (HQ'.out.kept (fun n xs h => h.alloc _)) _ z (by rfl) (new_cell _ _ _) hln (Nat.zero_le _) ?_; (intro A8 c8 g8 cu8 pre8 w8 hq8 hg8 hat8; have HQ8 := Lib.hid (HX.out _ _ _ _ _ _ _ hq8 hg8 hat8); clear hq8 hg8 hat8)))
              go_roundw
              case rel => exact ⟨j + 1, by omega, by omega, by go_num, by rw [show j + 1 - 1 = j by omega, HASj.out]; exact HQ8.out⟩
              case measure => simp [intOf]; omega
            · obtain rfl : j = 21 := by omega
              rw [show 21 - 1 = 20 from rfl] at HQJ hqi
              have HRKj := Lib.hid hqi.rank
              obtain ⟨Av, cv, rfl⟩ := (show ∃ A c, _ = Value.slice A _ c from by obtain ⟨g, cu, pre, v1, v2, hq, _⟩ := hqi.st; exact hq.shape)
              have HAL20 := Lib.hid (HAL.out 20)
              have HLT2 : Hid (∀ x ∈ A ++ [r] ++ (q ++ acts (dat L) r 20), x < 2 ^ n) := Lib.hid (fun x hx => by
                rw [← List.append_assoc] at hx
                rcases List.mem_append.1 hx with hx | hx
                · exact HLT'.out x hx
                · exact HLA.out x hx)
              clear hqi
              go_wp2_with fail
              go_roundw
              case rel =>
                refine ⟨A ++ [r], q ++ acts (dat L) r 20, HGI.out, HLT2.out, by rw [← HNE.out]; exact HQJ.out, ?_⟩
                rw [← HNE.out, HZL.out, List.length_append, HAL20.out]; rw [List.length_cons] at hsm; rw [← HNE.out, HZL.out] at hzl2; omega
              case measure =>
                rw [HRKj.out, HRK.out, HZL.out]; rw [← HNE.out, HZL.out] at hzl2; simp [lenW, HAL20.out]; omega
        · go_wp2_with (go_at_call 73; refine HA.out.mono ?_; rintro e w3 ⟨rfl, hpost⟩; have HP := Lib.hid hpost; clear hpost)
          have HQI := Lib.hid (q_add HPOP.out HGG.out HSPr.out HN1.out HN2.out HKP.out HP.out)
          rw [← HSL.out] at HQI
          have HA0 : Hid (acts (dat L) r 0 = []) := Lib.hid rfl
          have HAL := Lib.hid (fun j => acts_len (dat L) r j)
          have HAS : Hid (∀ j, 1 ≤ j → acts (dat L) r j = acts (dat L) r (j - 1) ++ [act (dat L) (j : Int) r]) := Lib.hid (fun j hj => by
            obtain ⟨j', rfl⟩ : ∃ j', j = j' + 1 := ⟨j - 1, by omega⟩
            exact acts_succ _ _ _)
          have HLA : Hid (∀ x ∈ acts (dat L) r 20, x < 2 ^ n) := Lib.hid (fun x hx => by
            obtain ⟨j, _, _, rfl⟩ := mem_acts.1 hx
            rw [Hn.out]; exact act_lt HSH.out (by rw [← Hn.out]; exact hrl) _)
          have HSQ := Lib.hid (fun (j : Nat) (W : World) (hk : Keeps w1 W [some g0]) => square_any gt A0 n c xs (dat L) (j : Int) (r : Int) r W Hn.out HSH.out (by omega) rfl (by rw [← Hn.out]; exact hrl) (tbl_keep HTM.out hk (by omega)))
          obtain ⟨N, hN⟩ : ∃ N, N = spanL (zs (A ++ [r])) := ⟨_, rfl⟩
          rw [← hN] at HQI HZL
          have HNE := Lib.hid hN
          clear hN
          go_loopw [1, 10] (fun s1 s10 wr => ∃ j : Nat, 1 ≤ j ∧ j ≤ 21 ∧ s10 = .int .i64 j ∧ QIn bs g0 w1 wr s1 N (q ++ acts (dat L) r (j - 1))) (fun _ s => fun _ => 21 - (intOf s).toNat)
          case atStart =>
            refine ⟨1, by omega, by omega, rfl, ?_⟩
            rw [HA0.out, List.append_nil]
            have := HQI.out
            simpa [hc1, Addr.add] using this
          case round =>
            obtain ⟨j, hj1, hj2, rfl, hqi⟩ := hrel
            have HQJ := Lib.hid hqi
            by_cases hj20 : j ≤ 20
            · have hj20i : (j : Int) ≤ 20 := by omega
              obtain ⟨g, cu, pre, v1, v2, hq, hgg, hsp, hne1, hne2⟩ := hqi.st
              have HQ' := Lib.hid hq
              have HCS := Lib.hid (HSQ.out j wr hqi.kp)
              obtain ⟨Av, cv, rfl⟩ := hq.shape
              have HASj : Hid (q ++ acts (dat L) r j = q ++ acts (dat L) r (j - 1) ++ [act (dat L) (j : Int) r]) := Lib.hid (by rw [HAS.out j hj1, List.append_assoc])
              have hln : (q ++ acts (dat L) r (j - 1)).length ≤ 1000000 := by rw [List.length_append, HAL.out]; omega
              have HX := Lib.hid (fun (w' : World) (sv' : Value) (g' cu' : Nat) (pre' : List Value) (q' : List Nat) (ob : Obj) => QIn.app (ob := ob) (w' := w') (sv' := sv') (g' := g') (cu' := cu') (pre' := pre') (q' := q') hq hgg hsp hne1 hne2 hqi.kp)
              clear hq hgg hsp hne1 hne2 hqi
              generalize act (dat L) (j : Int) r = z at *
              generalize q ++ acts (dat L) r (j - 1) = GJ at *
              go_wp2_with (first | (go_at_call 89; refine HCS.out.mono ?_; rintro e w7 ⟨rfl, rfl⟩) | (at_builtin; refine wpList_qapp _ _ (by rfl) (by rfl) 0 g cu (.slice Av GJ.length cv) pre GJ (by rfl) (HQ'.out.kept (fun n xs h => h.alloc _)) _ z (by rfl) (new_cell _ _ _) hln (Nat.zero_le _) ?_; (intro A8 c8 g8 cu8 pre8 w8 hq8 hg8 hat8; have HQ8 := Lib.hid (HX.out _ _ _ _ _ _ _ hq8 hg8 hat8); clear hq8 hg8 hat8)))
              go_roundw
              case rel => exact ⟨j + 1, by omega, by omega, by go_num, by rw [show j + 1 - 1 = j by omega, HASj.out]; exact HQ8.out⟩
              case measure => simp [intOf]; omega
            · obtain rfl : j = 21 := by omega
              rw [show 21 - 1 = 20 from rfl] at HQJ hqi
              have HRKj := Lib.hid hqi.rank
              obtain ⟨Av, cv, rfl⟩ := (show ∃ A c, _ = Value.slice A _ c from by obtain ⟨g, cu, pre, v1, v2, hq, _⟩ := hqi.st; exact hq.shape)
              have HAL20 := Lib.hid (HAL.out 20)
              have HLT2 : Hid (∀ x ∈ A ++ [r] ++ (q ++ acts (dat L) r 20), x < 2 ^ n) := Lib.hid (fun x hx => by
                rw [← List.append_assoc] at hx
                rcases List.mem_append.1 hx with hx | hx
                · exact HLT'.out x hx
                · exact HLA.out x hx)
              clear hqi
              go_wp2_with fail
              go_roundw
              case rel =>
                refine ⟨A ++ [r], q ++ acts (dat L) r 20, HGI.out, HLT2.out, by rw [← HNE.out]; exact HQJ.out, ?_⟩
                rw [← HNE.out, HZL.out, List.length_append, HAL20.out]; rw [List.length_cons] at hsm; rw [← HNE.out, HZL.out] at hzl2; omega
              case measure =>
                rw [HRKj.out, HRK.out, HZL.out]; rw [← HNE.out, HZL.out] at hzl2; simp [lenW, HAL20.out]; omega
end Go.Proofs.YtpchigdhnnkpcaaGreatDoor

namespace Go.Proofs.YtpchigdhnnkpcaaGreatDoor
open Go.RowKit

theorem fits_pv {xs : List Int} {Q : List (List Int)} (hs : Shp xs Q) {v : Nat} (hv : v < 2 ^ xs.length) (h0 : v ≠ 0) : (nt v (dmask xs (xs.getD (pv v) 0)) = 0) ↔ fitsB xs v 21 = true := by
  have hsm := hs.sml hv
  rw [nt_hom, fitsB_iff]
  constructor
  · intro h
    have hd := hs.deg _ (h.pv h0 hsm).1
    exact ⟨(xs.getD (pv v) 0).toNat, by omega, by rw [Int.toNat_of_nonneg hd.1]; exact h⟩
  · rintro ⟨d, _, h⟩
    rw [(h.pv h0 hsm).2]; exact h
theorem vecs_len {xs : List Int} {P : List Row} (h : (P.all fun r => vecB xs.length r.xs) = true) {i : Nat} (hi : i < P.length) : vecB xs.length (rg P i).xs = true := by
  have := List.all_eq_true.1 h (rg P i) (by unfold rg; rw [List.getD_eq_getElem?_getD, List.getElem?_eq_getElem hi]; simp)
  exact this

set_option maxRecDepth 100000 in
set_option maxHeartbeats 8000000 in
theorem generated_any (A A' W : Option Addr) (n c m c' k cw : Nat) (xs : List Int) (L P : List Row) (w : World) (hT : Tab w) (hw : 0 < w.heap.size) (hM : ModIn w A n A' m xs L) (hP : RowsIn w W k P) :
    Calls Tryz.prog 64 #[.agg #[.slice A n c, .slice A' m c'], .slice W k cw] w (GenP xs (dat L) (dat P) w) := by
  have hk0 := blk_new w (.cells #[.slice A n c, .slice A' m c'] 29)
  have hb0 : Below w.heap.size w (w.alloc (.cells #[.slice A n c, .slice A' m c'] 29)) := (Below.refl _ _).alloc (Nat.le_refl _) _
  have hm0 := hM.below hb0
  have HIS := Lib.hid (isModule_any A A' n c m c' xs L _ hm0.r.hn hm0.hsm hm0.r.deg hm0.r.hm hm0.r.hm1 hm0.hl hm0.r.act)
  have HM := Lib.hid hM
  have HP := Lib.hid hP
  have HT := Lib.hid hT
  have Hk : Hid (k = P.length) := Lib.hid hP.hk
  have Hn : Hid (n = xs.length) := Lib.hid hM.r.hn
  obtain ⟨x0, x1, xf0, xf1, lx⟩ := blk2cells hk0
  have hz0 : (w.alloc (.cells #[.slice A n c, .slice A' m c'] 29)).heap.size = w.heap.size + 1 := by simp
  have hpk1 := hP.hk1
  clear hM hP hT hm0
  go_enter Tryz.func64, Tryz.ntmps64
  go_wp2_with fail
  generalize w.alloc (.cells #[.slice A n c, .slice A' m c'] 29) = w0 at *
  have HB0 := Lib.hid hb0
  have HK0 := Lib.hid hk0
  clear hb0 hk0
  refine HIS.out.mono ?_
  rintro e w1 ⟨rfl, hb⟩
  have HB1 := Lib.hid (HB0.out.trans (hb.mono HB0.out.size))
  have HK1 := Lib.hid (blk_kept HK0.out hb)
  clear hb x0 x1 xf0 xf1 lx HIS
  cases hmod : modB xs (dat L)
  · have HF := Lib.hid (genC_1 (P := dat P) hmod)
    clear hmod
    go_wp2_with fail
    go_ret2
    exact GenP.no HF.out HB1.out
  have hs := (modB_iff.1 hmod).shp
  have HSH := Lib.hid hs
  have HMOD := Lib.hid hmod
  have hn16 : n ≤ 16 := by rw [Hn.out]; exact hs.len
  have HMK := Lib.hid (masksOf_any A A' W n c m c' k cw P w1 (by omega) Hk.out HP.out.hk1 HP.out.hl (HP.out.rd.below HB1.out))
  have hs1 := HB1.out.size
  obtain ⟨x0, x1, xf0, xf1, lx⟩ := blk2cells HK1.out
  clear hs hmod
  go_wp2_with fail
  refine HMK.out.mono ?_
  rintro e w2 ⟨hcase, hb⟩
  have HB2 := Lib.hid (HB1.out.trans (hb.mono hs1))
  have HK2 := Lib.hid (blk_kept HK1.out hb)
  clear hb x0 x1 xf0 xf1 lx
  rcases hcase with ⟨hall, g, cap, rfl, ho⟩ | ⟨hall, rfl⟩
  rotate_left
  · have HF := Lib.hid (genC_2 (P := dat P) HMOD.out (fun h => by
      have h2 := h.2
      rw [List.all_eq_false] at hall
      obtain ⟨r, hr, hv⟩ := hall
      have := List.all_eq_true.1 h2 r.xs (List.mem_map.2 ⟨r, hr, rfl⟩)
      unfold okR at this
      rw [Bool.and_eq_true, ← Hn.out] at this
      exact hv this.1))
    clear hall
    go_wp2_with fail
    go_ret2
    exact GenP.no HF.out HB2.out
  rw [Hn.out] at hall
  have HALL := Lib.hid hall
  have HO := Lib.hid ho
  rw [← Hk.out] at HO ⊢
  clear hall ho
  by_cases h20 : k ≤ 20
  rotate_left
  · have HF := Lib.hid (genC_2 (P := dat P) HMOD.out (by rw [dat_length, ← Hk.out]; omega))
    have h20i : (20 : Int) < (k : Int) := by omega
    clear h20
    go_wp2_with fail
    go_ret2
    exact GenP.no HF.out HB2.out
  have h20i : ¬ (20 : Int) < (k : Int) := by omega
  have HLEN : Hid (((dat P).map mk).length = k) := Lib.hid (by rw [List.length_map, dat_length, Hk.out])
  have HLT : Hid (∀ r ∈ (dat P).map mk, r < 2 ^ xs.length) := Lib.hid (fun r hr => by
    obtain ⟨i, hi, e⟩ := List.getElem_of_mem hr
    have hi2 : i < P.length := by rw [HLEN.out, Hk.out] at hi; exact hi
    have := (vec_bits (vecs_len HALL.out hi2)).2
    rw [← dat_getD] at this
    rw [← e]
    simpa [List.getD, dat, hi2] using this)
  have HPV := Lib.hid (fun (x : Nat) (h0 : x ≠ 0) (hx : Sm x) (W : World) (hb : Below w.heap.size w W) => pivot_any x h0 hx W (HT.out.below hb hw))
  have HID := Lib.hid (fun (d : Int) (W : World) (hb : Below w.heap.size w W) => inDegree_any A A' n c m c' xs d W Hn.out (by omega) (HM.out.r.deg.below hb))
  have HDS : Hid (∀ d, Sm (dmask xs d)) := Lib.hid (fun d => sm_of_lt (a := xs.length) (by have := HSH.out.len; omega) (dmask_lt xs d))
  have hs2 := HB2.out.size
  go_wp2_with fail
  go_loopw [28] (fun s28 wr => ∃ i : Nat, i ≤ k ∧ s28 = .int .i64 i ∧ (∀ j, j < i → okR xs (rg P j).xs = true) ∧ Below w2.heap.size w2 wr) (fun s => fun _ => k - (intOf s).toNat)
  case atStart => exact ⟨0, by omega, rfl, (fun j hj => by omega), Below.refl _ _⟩
  case round =>
    obtain ⟨i, hi, rfl, hok, hbel⟩ := hrel
    have HB := Lib.hid hbel
    have HOK := Lib.hid hok
    have hsz := hbel.size
    have HBW := Lib.hid (HB2.out.trans (hbel.mono hs2))
    have HKr := Lib.hid (blk_kept HK2.out hbel)
    have HOr := Lib.hid (owns_keeps HO.out (Keeps.of_below hbel) (.inr (by simp)))
    by_cases hik : i < k
    · have hiP : i < P.length := by rw [← Hk.out]; exact hik
      have hki : (i : Int) < (k : Int) := by omega
      have hiT : i < ((dat P).map mk).length := by rw [HLEN.out]; exact hik
      obtain ⟨b, o, hbe, hc⟩ := (owns_Rd HOr.out).atN hiT
      have hvl := HLT.out _ (getD_mem hiT)
      have hvs := HSH.out.sml hvl
      have hok0 : okR xs (rg P i).xs = fitsB xs (((dat P).map mk).getD i 0) 21 := by
        unfold okR
        rw [vecs_len HALL.out hiP, Bool.true_and, ← dat_getD]
        congr 1
        simp [List.getD, dat, hiP]
      have HNO : Hid (fitsB xs (((dat P).map mk).getD i 0) 21 = false → genC xs (dat L) (dat P) = 2 ∧ genV xs (dat L) (dat P) = []) := Lib.hid (fun h => genC_2 HMOD.out (by rw [okB_no hiP (hok0.trans h)]; simp))
      have HYES : Hid (fitsB xs (((dat P).map mk).getD i 0) 21 = true → ∀ j, j < i + 1 → okR xs (rg P j).xs = true) := Lib.hid (fun h j hj => by
        by_cases e : j = i
        · subst e; exact hok0.trans h
        · exact HOK.out j (by omega))
      injection hbe with hbe
      injection hbe with hb1 hb2 _
      subst hb1; subst hb2
      rw [Nat.zero_add] at hc
      generalize ((dat P).map mk).getD i 0 = v at *
      clear hok hok0 hbel hiP hiT
      by_cases h0 : v = 0
      · subst h0
        have HY := Lib.hid (HYES.out (fitsB_iff.2 ⟨0, by omega, Hom.zero _ _⟩))
        have hne : (((0 : Nat) : Int) != 0) = false := rfl
        have KS : w2.heap.size = w2.heap.size := rfl
        go_wp2_with fail
        refine wp_region_held_drew (S := (fun w' => True)) (by kernel_rfl) (by trivial) (fun hHeld => ?_)
        refine wpAnyH_take (i := 0) (oi := ?or1_0) (v := ?vr1_0) ?hr1_0 (by kernel_rfl) (by kernel_rfl) (by kernel_rfl) ?qr1_0 (Or.inl ⟨?wr1_0, ?yr1_0⟩) (by assumption) ?rr1_0
        case hr1_0 => (simp only [List.getElem?_toArray, List.getElem?_cons_succ, List.getElem?_cons_zero]; rfl)
        case qr1_0 => exact fun _ _ _ h => h
        case wr1_0 => rfl
        case yr1_0 => (intro w hSw; (try dsimp only at hSw); go_simp <;> with_reducible rfl)
        try simp only [Act.put, List.setIfInBounds_toArray, List.set_cons_zero, List.set_cons_succ]
        refine wpAnyH_take (i := 1) (oi := ?or1_1) (v := ?vr1_1) ?hr1_1 (by kernel_rfl) (by kernel_rfl) (by kernel_rfl) ?qr1_1 (Or.inl ⟨?wr1_1, ?yr1_1⟩) (by assumption) ?rr1_1
        case hr1_1 => (simp only [List.getElem?_toArray, List.getElem?_cons_succ, List.getElem?_cons_zero]; rfl)
        case qr1_1 => exact fun _ _ _ h => h
        case wr1_1 => rfl
        case yr1_1 => (intro w hSw; (try dsimp only at hSw); go_simp <;> with_reducible rfl)
        try simp only [Act.put, List.setIfInBounds_toArray, List.set_cons_zero, List.set_cons_succ]
        refine wpAnyH_take (i := 2) (oi := ?or1_2) (v := ?vr1_2) ?hr1_2 (by kernel_rfl) (by kernel_rfl) (by kernel_rfl) ?qr1_2 (Or.inl ⟨?wr1_2, ?yr1_2⟩) (by assumption) ?rr1_2
        case hr1_2 => (simp only [List.getElem?_toArray, List.getElem?_cons_succ, List.getElem?_cons_zero]; rfl)
        case qr1_2 => exact fun _ _ _ h => h
        case wr1_2 => rfl
        case yr1_2 => (intro w hSw; (try dsimp only at hSw); go_simp <;> with_reducible rfl)
        try simp only [Act.put, List.setIfInBounds_toArray, List.set_cons_zero, List.set_cons_succ]
        refine wpAnyH_take (i := 3) (oi := ?or1_3) (v := undef) ?hr1_3 (by kernel_rfl) (by kernel_rfl) (by kernel_rfl) ?qr1_3 (Or.inr ⟨?wr1_3, rfl⟩) (by assumption) ?rr1_3
        case hr1_3 => (simp only [List.getElem?_toArray, List.getElem?_cons_succ, List.getElem?_cons_zero]; rfl)
        case qr1_3 => exact fun _ _ _ h => h
        case wr1_3 => rfl
        try simp only [Act.put, List.setIfInBounds_toArray, List.set_cons_zero, List.set_cons_succ]
        refine wpAnyH_take (i := 4) (oi := ?or1_4) (v := undef) ?hr1_4 (by kernel_rfl) (by kernel_rfl) (by kernel_rfl) ?qr1_4 (Or.inr ⟨?wr1_4, rfl⟩) (by assumption) ?rr1_4
        case hr1_4 => (simp only [List.getElem?_toArray, List.getElem?_cons_succ, List.getElem?_cons_zero]; rfl)
        case qr1_4 => exact fun _ _ _ h => h
        case wr1_4 => rfl
        try simp only [Act.put, List.setIfInBounds_toArray, List.set_cons_zero, List.set_cons_succ]
        refine wpAnyH_take (i := 5) (oi := ?or1_5) (v := undef) ?hr1_5 (by kernel_rfl) (by kernel_rfl) (by kernel_rfl) ?qr1_5 (Or.inr ⟨?wr1_5, rfl⟩) (by assumption) ?rr1_5
        case hr1_5 => (simp only [List.getElem?_toArray, List.getElem?_cons_succ, List.getElem?_cons_zero]; rfl)
        case qr1_5 => exact fun _ _ _ h => h
        case wr1_5 => rfl
        try simp only [Act.put, List.setIfInBounds_toArray, List.set_cons_zero, List.set_cons_succ]
        refine wpAnyH_take (i := 6) (oi := ?or1_6) (v := undef) ?hr1_6 (by kernel_rfl) (by kernel_rfl) (by kernel_rfl) ?qr1_6 (Or.inr ⟨?wr1_6, rfl⟩) (by assumption) ?rr1_6
        case hr1_6 => (simp only [List.getElem?_toArray, List.getElem?_cons_succ, List.getElem?_cons_zero]; rfl)
        case qr1_6 => exact fun _ _ _ h => h
        case wr1_6 => rfl
        try simp only [Act.put, List.setIfInBounds_toArray, List.set_cons_zero, List.set_cons_succ]
        refine wpAnyH_take (i := 7) (oi := ?or1_7) (v := undef) ?hr1_7 (by kernel_rfl) (by kernel_rfl) (by kernel_rfl) ?qr1_7 (Or.inr ⟨?wr1_7, rfl⟩) (by assumption) ?rr1_7
        case hr1_7 => (simp only [List.getElem?_toArray, List.getElem?_cons_succ, List.getElem?_cons_zero]; rfl)
        case qr1_7 => exact fun _ _ _ h => h
        case wr1_7 => rfl
        try simp only [Act.put, List.setIfInBounds_toArray, List.set_cons_zero, List.set_cons_succ]
        refine wpAnyH_take (i := 8) (oi := ?or1_8) (v := undef) ?hr1_8 (by kernel_rfl) (by kernel_rfl) (by kernel_rfl) ?qr1_8 (Or.inr ⟨?wr1_8, rfl⟩) (by assumption) ?rr1_8
        case hr1_8 => (simp only [List.getElem?_toArray, List.getElem?_cons_succ, List.getElem?_cons_zero]; rfl)
        case qr1_8 => exact fun _ _ _ h => h
        case wr1_8 => rfl
        try simp only [Act.put, List.setIfInBounds_toArray, List.set_cons_zero, List.set_cons_succ]
        refine wpAnyH_take (i := 9) (oi := ?or1_9) (v := undef) ?hr1_9 (by kernel_rfl) (by kernel_rfl) (by kernel_rfl) ?qr1_9 (Or.inr ⟨?wr1_9, rfl⟩) (by assumption) ?rr1_9
        case hr1_9 => (simp only [List.getElem?_toArray, List.getElem?_cons_succ, List.getElem?_cons_zero]; rfl)
        case qr1_9 => exact fun _ _ _ h => h
        case wr1_9 => rfl
        try simp only [Act.put, List.setIfInBounds_toArray, List.set_cons_zero, List.set_cons_succ]
        refine wpAnyH_take (i := 10) (oi := ?or1_10) (v := undef) ?hr1_10 (by kernel_rfl) (by kernel_rfl) (by kernel_rfl) ?qr1_10 (Or.inr ⟨?wr1_10, rfl⟩) (by assumption) ?rr1_10
        case hr1_10 => (simp only [List.getElem?_toArray, List.getElem?_cons_succ, List.getElem?_cons_zero]; rfl)
        case qr1_10 => exact fun _ _ _ h => h
        case wr1_10 => rfl
        try simp only [Act.put, List.setIfInBounds_toArray, List.set_cons_zero, List.set_cons_succ]
        refine wpAnyH_take (i := 11) (oi := ?or1_11) (v := undef) ?hr1_11 (by kernel_rfl) (by kernel_rfl) (by kernel_rfl) ?qr1_11 (Or.inr ⟨?wr1_11, rfl⟩) (by assumption) ?rr1_11
        case hr1_11 => (simp only [List.getElem?_toArray, List.getElem?_cons_succ, List.getElem?_cons_zero]; rfl)
        case qr1_11 => exact fun _ _ _ h => h
        case wr1_11 => rfl
        try simp only [Act.put, List.setIfInBounds_toArray, List.set_cons_zero, List.set_cons_succ]
        refine wpAnyH_take (i := 12) (oi := ?or1_12) (v := undef) ?hr1_12 (by kernel_rfl) (by kernel_rfl) (by kernel_rfl) ?qr1_12 (Or.inr ⟨?wr1_12, rfl⟩) (by assumption) ?rr1_12
        case hr1_12 => (simp only [List.getElem?_toArray, List.getElem?_cons_succ, List.getElem?_cons_zero]; rfl)
        case qr1_12 => exact fun _ _ _ h => h
        case wr1_12 => rfl
        try simp only [Act.put, List.setIfInBounds_toArray, List.set_cons_zero, List.set_cons_succ]
        refine wpAnyH_take (i := 13) (oi := ?or1_13) (v := undef) ?hr1_13 (by kernel_rfl) (by kernel_rfl) (by kernel_rfl) ?qr1_13 (Or.inr ⟨?wr1_13, rfl⟩) (by assumption) ?rr1_13
        case hr1_13 => (simp only [List.getElem?_toArray, List.getElem?_cons_succ, List.getElem?_cons_zero]; rfl)
        case qr1_13 => exact fun _ _ _ h => h
        case wr1_13 => rfl
        try simp only [Act.put, List.setIfInBounds_toArray, List.set_cons_zero, List.set_cons_succ]
        refine wpAnyH_take (i := 14) (oi := ?or1_14) (v := ?vr1_14) ?hr1_14 (by kernel_rfl) (by kernel_rfl) (by kernel_rfl) ?qr1_14 (Or.inl ⟨?wr1_14, ?yr1_14⟩) (by assumption) ?rr1_14
        case hr1_14 => (simp only [List.getElem?_toArray, List.getElem?_cons_succ, List.getElem?_cons_zero]; rfl)
        case qr1_14 => exact fun _ _ _ h => h
        case wr1_14 => rfl
        case yr1_14 => (intro w hSw; (try dsimp only at hSw); go_simp <;> with_reducible rfl)
        try simp only [Act.put, List.setIfInBounds_toArray, List.set_cons_zero, List.set_cons_succ]
        refine wpAnyH_done (by kernel_rfl) ?_ _
        go_wp2_with fail
        go_roundw
        case rel => exact ⟨i + 1, by omega, by go_num, HY.out, HB.out.drew⟩
        case measure => simp [intOf]; omega
      · have hff := fits_pv HSH.out hvl h0
        have hpn : pv v < xs.length := pv_lt h0 hvs hvl
        have hne : (((v : Nat) : Int) != 0) = true := by simpa using h0
        obtain ⟨bd, od, rfl, hcd⟩ := (HM.out.r.deg.below HBW.out).atI (k := pv v) hpn
        have HPVv := Lib.hid (HPV.out v h0 hvs)
        have hpi : ((pv v : Nat) : Int) < (n : Int) := by rw [Hn.out]; omega
        have hand := i64_andnot_nat hvs (HDS.out (xs.getD (pv v) 0))
        have HIDv := Lib.hid (HID.out (xs.getD (pv v) 0))
        generalize dmask xs (xs.getD (pv v) 0) = u at *
        generalize xs.getD (pv v) 0 = y at *
        generalize pv v = pvv at *
        have KS := Lib.hid (fun w' (hb : Below wr.heap.size wr w') => show w'.cell? ⟨w.heap.size, 0, none⟩ = some (.slice (some ⟨bd, od, none⟩) n c) ∧ w'.cell? ⟨w.heap.size, 1, none⟩ = some (.slice A' m c') ∧ w'.cell? ⟨bd, od + pvv, none⟩ = some (.int .i64 y) from by
          obtain ⟨x0, x1, _⟩ := blk2cells (blk_kept HKr.out hb)
          exact ⟨x0, x1, cell_keep hcd hb⟩)
        have HB_0 := Lib.hid (Below.drew (Below.refl wr.heap.size wr))
        have HFF := Lib.hid hff
        clear hff hpn hvl hcd
        generalize nt v u = z at *
        go_wp2_with fail
        refine wp_region_held_drew (S := (fun w' => w'.cell? ⟨w.heap.size, 0, none⟩ = some (.slice (some ⟨bd, od, none⟩) n c) ∧ w'.cell? ⟨w.heap.size, 1, none⟩ = some (.slice A' m c') ∧ w'.cell? ⟨bd, od + pvv, none⟩ = some (.int .i64 y))) (by kernel_rfl) (by first | exact KS.out _ HB_0.out | exact KS.out _ HB_1.out) (fun hHeld => ?_)
        refine wpAnyH_take (i := 0) (oi := ?or2_0) (v := ?vr2_0) ?hr2_0 (by kernel_rfl) (by kernel_rfl) (by kernel_rfl) ?qr2_0 (Or.inl ⟨?wr2_0, ?yr2_0⟩) (by assumption) ?rr2_0
        case hr2_0 => (simp only [List.getElem?_toArray, List.getElem?_cons_succ, List.getElem?_cons_zero]; rfl)
        case qr2_0 => exact fun _ _ _ h => h
        case wr2_0 => rfl
        case yr2_0 => (intro w hSw; (try dsimp only at hSw); go_simp <;> with_reducible rfl)
        try simp only [Act.put, List.setIfInBounds_toArray, List.set_cons_zero, List.set_cons_succ]
        refine wpAnyH_take (i := 1) (oi := ?or2_1) (v := ?vr2_1) ?hr2_1 (by kernel_rfl) (by kernel_rfl) (by kernel_rfl) ?qr2_1 (Or.inl ⟨?wr2_1, ?yr2_1⟩) (by assumption) ?rr2_1
        case hr2_1 => (simp only [List.getElem?_toArray, List.getElem?_cons_succ, List.getElem?_cons_zero]; rfl)
        case qr2_1 => exact fun _ _ _ h => h
        case wr2_1 => rfl
        case yr2_1 => (intro w hSw; (try dsimp only at hSw); go_simp <;> with_reducible rfl)
        try simp only [Act.put, List.setIfInBounds_toArray, List.set_cons_zero, List.set_cons_succ]
        refine wpAnyH_take (i := 2) (oi := ?or2_2) (v := ?vr2_2) ?hr2_2 (by kernel_rfl) (by kernel_rfl) (by kernel_rfl) ?qr2_2 (Or.inl ⟨?wr2_2, ?yr2_2⟩) (by assumption) ?rr2_2
        case hr2_2 => (simp only [List.getElem?_toArray, List.getElem?_cons_succ, List.getElem?_cons_zero]; rfl)
        case qr2_2 => exact fun _ _ _ h => h
        case wr2_2 => rfl
        case yr2_2 => (intro w hSw; (try dsimp only at hSw); go_simp <;> with_reducible rfl)
        try simp only [Act.put, List.setIfInBounds_toArray, List.set_cons_zero, List.set_cons_succ]
        refine wpAnyH_take (i := 3) (oi := ?or2_3) (v := ?vr2_3) ?hr2_3 (by kernel_rfl) (by kernel_rfl) (by kernel_rfl) ?qr2_3 (Or.inl ⟨?wr2_3, ?yr2_3⟩) (by assumption) ?rr2_3
        case hr2_3 => (simp only [List.getElem?_toArray, List.getElem?_cons_succ, List.getElem?_cons_zero]; rfl)
        case qr2_3 => exact fun _ _ _ h => h
        case wr2_3 => rfl
        case yr2_3 => (intro w hSw; (try dsimp only at hSw); go_simp <;> with_reducible rfl)
        try simp only [Act.put, List.setIfInBounds_toArray, List.set_cons_zero, List.set_cons_succ]
        refine wpAnyH_take (i := 4) (oi := ?or2_4) (v := ?vr2_4) ?hr2_4 (by kernel_rfl) (by kernel_rfl) (by kernel_rfl) ?qr2_4 (Or.inl ⟨?wr2_4, ?yr2_4⟩) (by assumption) ?rr2_4
        case hr2_4 => (simp only [List.getElem?_toArray, List.getElem?_cons_succ, List.getElem?_cons_zero]; rfl)
        case qr2_4 => exact fun _ _ _ h => h
        case wr2_4 => rfl
        case yr2_4 => (intro w hSw; (try dsimp only at hSw); go_simp <;> with_reducible rfl)
        try simp only [Act.put, List.setIfInBounds_toArray, List.set_cons_zero, List.set_cons_succ]
        refine wpAnyH_take (i := 5) (oi := ?or2_5) (v := ?vr2_5) ?hr2_5 (by kernel_rfl) (by kernel_rfl) (by kernel_rfl) ?qr2_5 (Or.inl ⟨?wr2_5, ?yr2_5⟩) (by assumption) ?rr2_5
        case hr2_5 => (simp only [List.getElem?_toArray, List.getElem?_cons_succ, List.getElem?_cons_zero]; rfl)
        case qr2_5 => exact fun _ _ _ h => h
        case wr2_5 => rfl
        case yr2_5 => (intro w hSw; (try dsimp only at hSw); go_simp <;> with_reducible rfl)
        try simp only [Act.put, List.setIfInBounds_toArray, List.set_cons_zero, List.set_cons_succ]
        refine wpAnyH_take (i := 6) (oi := ?or2_6) (v := ?vr2_6) ?hr2_6 (by kernel_rfl) (by kernel_rfl) (by kernel_rfl) ?qr2_6 (Or.inl ⟨?wr2_6, ?yr2_6⟩) (by assumption) ?rr2_6
        case hr2_6 => (simp only [List.getElem?_toArray, List.getElem?_cons_succ, List.getElem?_cons_zero]; rfl)
        case qr2_6 => exact fun _ _ _ h => h
        case wr2_6 => rfl
        case yr2_6 => (intro w hSw; (try dsimp only at hSw); go_simp <;> with_reducible rfl)
        try simp only [Act.put, List.setIfInBounds_toArray, List.set_cons_zero, List.set_cons_succ]
        refine wpAnyH_take (i := 7) (oi := ?or2_7) (v := ?vr2_7) ?hr2_7 (by kernel_rfl) (by kernel_rfl) (by kernel_rfl) ?qr2_7 (Or.inl ⟨?wr2_7, ?yr2_7⟩) (by assumption) ?rr2_7
        case hr2_7 => (simp only [List.getElem?_toArray, List.getElem?_cons_succ, List.getElem?_cons_zero]; rfl)
        case qr2_7 => exact fun _ _ _ h => h
        case wr2_7 => rfl
        case yr2_7 => (intro w hSw; (try dsimp only at hSw); go_simp <;> with_reducible rfl)
        try simp only [Act.put, List.setIfInBounds_toArray, List.set_cons_zero, List.set_cons_succ]
        refine wpAnyH_ready (rs := [8]) (by kernel_rfl) (by simp) ?_
        refine AllReadyH.cons (o := ?or2_8) ?hr2_8 (fun K hK => ?kr2_8) AllReadyH.nil
        case hr2_8 => (simp only [List.getElem?_toArray, List.getElem?_cons_succ, List.getElem?_cons_zero]; rfl)
        go_simp
        go_at_call 90; refine (HPVv.out _ (HBW.out.trans (HB_0.out.mono HBW.out.size))).mono ?_; rintro e w7 ⟨rfl, rfl⟩
        refine hK.out _ _ (by first | exact KS.out _ HB_0.out | exact KS.out _ HB_1.out) (fun hHeld => ?_)
        clear hK K
        try simp only [Act.put, List.setIfInBounds_toArray, List.set_cons_zero, List.set_cons_succ]
        refine wpAnyH_take (i := 9) (oi := ?or2_9) (v := ?vr2_9) ?hr2_9 (by kernel_rfl) (by kernel_rfl) (by kernel_rfl) ?qr2_9 (Or.inl ⟨?wr2_9, ?yr2_9⟩) (by assumption) ?rr2_9
        case hr2_9 => (simp only [List.getElem?_toArray, List.getElem?_cons_succ, List.getElem?_cons_zero]; rfl)
        case qr2_9 => exact fun _ _ _ h => h
        case wr2_9 => rfl
        case yr2_9 => (intro w hSw; (try dsimp only at hSw); go_simp <;> with_reducible rfl)
        try simp only [Act.put, List.setIfInBounds_toArray, List.set_cons_zero, List.set_cons_succ]
        refine wpAnyH_take (i := 10) (oi := ?or2_10) (v := ?vr2_10) ?hr2_10 (by kernel_rfl) (by kernel_rfl) (by kernel_rfl) ?qr2_10 (Or.inl ⟨?wr2_10, ?yr2_10⟩) (by assumption) ?rr2_10
        case hr2_10 => (simp only [List.getElem?_toArray, List.getElem?_cons_succ, List.getElem?_cons_zero]; rfl)
        case qr2_10 => exact fun _ _ _ h => h
        case wr2_10 => rfl
        case yr2_10 => (intro w hSw; (try dsimp only at hSw); go_simp <;> with_reducible rfl)
        try simp only [Act.put, List.setIfInBounds_toArray, List.set_cons_zero, List.set_cons_succ]
        refine wpAnyH_ready (rs := [11]) (by kernel_rfl) (by simp) ?_
        refine AllReadyH.cons (o := ?or2_11) ?hr2_11 (fun K hK => ?kr2_11) AllReadyH.nil
        case hr2_11 => (simp only [List.getElem?_toArray, List.getElem?_cons_succ, List.getElem?_cons_zero]; rfl)
        go_simp
        go_at_call 99; refine (HIDv.out _ (HBW.out.trans (HB_0.out.mono HBW.out.size))).mono ?_; rintro e w8 ⟨rfl, hb⟩; have HB_1 := Lib.hid (HB_0.out.trans (hb.mono HB_0.out.size)); clear hb
        refine hK.out _ _ (by first | exact KS.out _ HB_0.out | exact KS.out _ HB_1.out) (fun hHeld => ?_)
        clear hK K
        try simp only [Act.put, List.setIfInBounds_toArray, List.set_cons_zero, List.set_cons_succ]
        refine wpAnyH_take (i := 12) (oi := ?or2_12) (v := ?vr2_12) ?hr2_12 (by kernel_rfl) (by kernel_rfl) (by kernel_rfl) ?qr2_12 (Or.inl ⟨?wr2_12, ?yr2_12⟩) (by assumption) ?rr2_12
        case hr2_12 => (simp only [List.getElem?_toArray, List.getElem?_cons_succ, List.getElem?_cons_zero]; rfl)
        case qr2_12 => exact fun _ _ _ h => h
        case wr2_12 => rfl
        case yr2_12 => (intro w hSw; (try dsimp only at hSw); go_simp <;> with_reducible rfl)
        try simp only [Act.put, List.setIfInBounds_toArray, List.set_cons_zero, List.set_cons_succ]
        refine wpAnyH_take (i := 13) (oi := ?or2_13) (v := ?vr2_13) ?hr2_13 (by kernel_rfl) (by kernel_rfl) (by kernel_rfl) ?qr2_13 (Or.inl ⟨?wr2_13, ?yr2_13⟩) (by assumption) ?rr2_13
        case hr2_13 => (simp only [List.getElem?_toArray, List.getElem?_cons_succ, List.getElem?_cons_zero]; rfl)
        case qr2_13 => exact fun _ _ _ h => h
        case wr2_13 => rfl
        case yr2_13 => (intro w hSw; (try dsimp only at hSw); go_simp <;> with_reducible rfl)
        try simp only [Act.put, List.setIfInBounds_toArray, List.set_cons_zero, List.set_cons_succ]
        refine wpAnyH_take (i := 14) (oi := ?or2_14) (v := ?vr2_14) ?hr2_14 (by kernel_rfl) (by kernel_rfl) (by kernel_rfl) ?qr2_14 (Or.inl ⟨?wr2_14, ?yr2_14⟩) (by assumption) ?rr2_14
        case hr2_14 => (simp only [List.getElem?_toArray, List.getElem?_cons_succ, List.getElem?_cons_zero]; rfl)
        case qr2_14 => exact fun _ _ _ h => h
        case wr2_14 => rfl
        case yr2_14 => (intro w hSw; (try dsimp only at hSw); go_simp <;> with_reducible rfl)
        try simp only [Act.put, List.setIfInBounds_toArray, List.set_cons_zero, List.set_cons_succ]
        refine wpAnyH_done (by kernel_rfl) ?_ _
        by_cases hz : z = 0
        · subst hz
          have HY := Lib.hid (HYES.out (HFF.out.1 rfl))
          go_wp2_with fail
          go_roundw
          case rel => exact ⟨i + 1, by omega, by go_num, HY.out, HB.out.trans (HB_1.out.mono hsz)⟩
          case measure => simp [intOf]; omega
        · have hzz : ((z : Int) != 0) = true := by simpa using hz
          have HF := Lib.hid (HNO.out (by
            rcases hb2 : fitsB xs v 21 with _ | _
            · rfl
            · exact absurd (HFF.out.2 hb2) hz))
          clear hz
          go_wp2_with fail
          go_ret2
          exact GenP.no HF.out (HBW.out.trans (HB_1.out.mono HBW.out.size))
    · obtain rfl : k = i := by omega
      have hokB := okB_all (fun j hj => hok j (by rw [Hk.out]; exact hj))
      have HF := Lib.hid (genC_0 HMOD.out (by rw [dat_length, ← Hk.out]; exact h20) hokB)
      have hgg := (HO.out.lt g rfl).1
      have HGB := Lib.hid (by
        have h := generatedBy_any A A' n c m c' g cap xs L ((dat P).map mk) wr (HT.out.below HBW.out hw) (HM.out.below HBW.out) HSH.out (by omega) (by rw [HLEN.out]; exact h20) (by rw [Hn.out]; exact HLT.out) (by rw [HLEN.out]; exact HOr.out.mono (Nat.zero_le _))
        rw [HLEN.out] at h
        exact h)
      obtain ⟨x0, x1, xf0, xf1, lx⟩ := blk2cells HKr.out
      clear hok hbel hokB
      go_wp2_with fail
      refine HGB.out.mono ?_
      rintro e w5 ⟨v, rfl, ho, hk5⟩
      have HO5 := Lib.hid ho
      have HB5 := Lib.hid (HBW.out.trans (hk5.to_below HBW.out.size (fun j hj => by rw [show j = g by simpa using hj]; omega)))
      clear ho hk5 x0 x1 xf0 xf1 lx
      go_wp2_with fail
      go_ret2
      exact ⟨v, by rw [HF.out.1]; rfl, by rw [HF.out.2]; exact HO5.out.mono HBW.out.size, HB5.out⟩
end Go.Proofs.YtpchigdhnnkpcaaGreatDoor
