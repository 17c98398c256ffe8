/- a span whose box came beside other memory; the equations in the program's order; reads past the span · plain mathematics: reduced rows are in order; a list of rows sorted by pivots is the reduced one · contracts of slices.SortFunc and cmp.Compare, laid at this dump (printed by lay.sh, turned into a template by mksl.py) · own rows beside a span · copies, the span's reduced rows, impl.reduced · impl.reduced · the program's kernel -/
import Derived.Test.YtdkmdmpaflgfaaaGreatDoorBxan
import Derived.Test.YtdkmdmpaflgfaaaGreatDoorBxam
import Derived.Test.YtdkmdmpaflgfaaaGreatDoorBxaq
import Derived.Laws.ResultCell
import Derived.Shelf.SlSortCmp.NoneTotal
import Derived.Shelf.SlicesG.Cmp
import Derived.Test.YtdkmdmpaflgfaaaGreatDoorProg
import Derived.Deep.Onto
import Derived.Test.YtdkmdmpaflgfaaaGreatDoorBxag
import Derived.Test.YtdkmdmpaflgfaaaGreatDoorBxae
set_option linter.all false
namespace Go.Proofs.YtdkmdmpaflgfaaaGreatDoor
open Go.RowKit

/-! ### memory beside a span -/
section
variable {w w' wx wr : World} {B bs : Nat} {L N : List (Nat × Nat)} {t : TypeId} {a1 a2 : Option Addr} {m1 c1 m2 c2 : Nat}
theorem Rd.keepsB {A : Option Addr} {S : List Nat} (h : Rd w A (nv S)) (hb : w.heap[bs]? = some (.cells #[.slice a1 m1 c1, .slice a2 m2 c2] t (0, 0))) (hk : Keeps w w' [some bs]) : Rd w' A (nv S) := by
  rcases h with h | ⟨b, o, rfl, hc⟩
  · exact .inl h
  · refine .inr ⟨b, o, rfl, fun j u hj => hk.cellSome (hc j u hj) ?_⟩
    intro e
    have e : b = bs := by simpa using e
    subst e
    have h1 := hc j u hj
    rw [cell_of_row w b (o + j) _ _ _ hb] at h1
    obtain ⟨x, hx, rfl⟩ : ∃ x, x ∈ S ∧ u = .int .i64 (x : Int) := by
      have := List.mem_of_getElem? hj
      obtain ⟨x, hx, e⟩ := List.mem_map.1 this
      exact ⟨x, hx, e.symm⟩
    rcases hoj : o + j with _ | _ | k
    · rw [hoj] at h1; simp at h1
    · rw [hoj] at h1; simp at h1
    · rw [hoj] at h1; simp at h1
theorem TblAt.keepsB {g n c : Nat} {A : Option Addr} {Q : List (List Int)} (h : TblAt w g A n c Q) (hb : w.heap[bs]? = some (.cells #[.slice a1 m1 c1, .slice a2 m2 c2] t (0, 0))) (hk : Keeps w w' [some bs]) : TblAt w' g A n c Q := by
  have hne : some g ∉ [some bs] := by
    intro e
    have e : g = bs := by simpa using e
    subst e
    obtain ⟨h', e1, _⟩ := h.row 5 (by omega)
    rw [cell_of_row w g (1 + 5) _ _ _ hb] at e1
    simp at e1
  exact ⟨hk.cellSome h.c0 hne, fun k hk' => by obtain ⟨h', e1, e2⟩ := h.row k hk'; exact ⟨h', hk.cellSome e1 hne, e2.keepsB hb hk⟩⟩
theorem cell_dn {w wr : World} {a : Addr} {v : Value} {m : Nat} (h : w.cell? a = some v) (e : w.drewN m = wr) : wr.cell? a = some v := by subst e; exact h
/-- a span whose box came with the world wx; all else of wx is as it was -/
def SpanIn (wx wr : World) (B bs : Nat) (L : List (Nat × Nat)) : Prop := ∃ v1 v2, SpanAt wr B bs v1 v2 L ∧ (∀ k, v1.ownBlock = some k → wx.heap.size ≤ k) ∧ (∀ k, v2.ownBlock = some k → wx.heap.size ≤ k) ∧ Keeps wx wr [some bs]
theorem SpanIn.new (h : SpanAt wx B bs (.slice none 0 0) (.slice none 0 0) []) : SpanIn wx wx B bs [] :=
  ⟨_, _, h, fun k hk => by simp [Value.ownBlock] at hk, fun k hk => by simp [Value.ownBlock] at hk, Keeps.refl _ _⟩
theorem SpanIn.kp (h : SpanIn wx wr B bs L) : Keeps wx wr [some bs] := by obtain ⟨_, _, _, _, _, h⟩ := h; exact h
theorem SpanIn.below (h : SpanIn wx wr B bs L) (hB : B ≤ wx.heap.size) : Below B wx wr := by
  obtain ⟨_, _, h1, _, _, h⟩ := h
  exact h.to_below hB (fun j hj => by have : j = bs := by simpa using hj
                                      subst this; exact h1.lo)
theorem SpanIn.drewN (h : SpanIn wx wr B bs L) (m : Nat) : SpanIn wx (wr.drewN m) B bs L := by
  obtain ⟨v1, v2, h1, h2, h3, h4⟩ := h
  exact ⟨v1, v2, h1.keeps (Keeps.ofDrewN (S := []) wr m) (by simp) (.inr (by simp)) (.inr (by simp)), h2, h3, h4.drewN m⟩
theorem SpanIn.add (h : SpanIn wx wr B bs L) (hT : Tab wr) (hB : 0 < B) (hBx : B ≤ wx.heap.size) (hsm : L.length ≤ 1000000) {x : Nat} (hx : Sm x) (hg : Good L) :
    Calls Tryz.prog 82 #[.pointer (some ⟨bs, 0, none⟩), .int .i64 x, .int .i64 0] wr fun e w' => e = .returned (AddRes L (x, 0)) ∧ SpanIn wx w' B bs (addL L (x, 0)) := by
  obtain ⟨v1, v2, h1, h2, h3, h4⟩ := h
  refine (add_any B bs v1 v2 L x 0 wr hT hB (Nat.le_trans hBx h4.size) h1 hsm hx Sm.zero hg).mono ?_
  rintro e w' ⟨rfl, k0, u1, u2, hs2, q1, q2⟩
  refine ⟨rfl, u1, u2, hs2, fun k hk => ?_, fun k hk => ?_, h4.trans k0 fun j hj hS => ?_⟩
  · rcases q1 with q1 | ⟨k', e1, e2⟩
    · exact h2 k (q1 ▸ hk)
    · rw [e1] at hk; injection hk with hk; have := h4.size; omega
  · rcases q2 with q2 | ⟨k', e1, e2⟩
    · exact h3 k (q2 ▸ hk)
    · rw [e1] at hk; injection hk with hk; have := h4.size; omega
  · simp only [List.mem_cons, List.not_mem_nil, or_false] at hS ⊢
    rcases hS with hS | hS | hS | hS
    · exact hS
    · exact hS
    · have := h2 j hS.symm; omega
    · have := h3 j hS.symm; omega
end
theorem TblAt.sq {w : World} {g n c : Nat} {A : Option Addr} {xs : List Int} {Q : List (List Int)} (t : TblAt w g A n c Q) (hs : Shp xs Q) {j i : Nat} (hj : j < 21) (hi : i < n) : ∃ h, w.cell? ⟨g, 1 + j, none⟩ = some (.slice (some ⟨h, 0, none⟩) n n) ∧ w.cell? ⟨h, i, none⟩ = some (.int .i64 (act Q (j : Int) (2 ^ i) : Nat)) := by
  obtain ⟨h, hrow, hrd⟩ := t.row j hj
  have hsq := hrd.atN (k := i) (by rw [sqRow_length]; exact hi)
  rw [sqRow_getD _ hi, sqOr_act hs] at hsq
  obtain ⟨bs, os, hes, hcs⟩ := hsq
  injection hes with hes
  injection hes with hes1 hes2 _
  subst hes1
  subst hes2
  rw [Nat.zero_add] at hcs
  exact ⟨h, hrow, hcs⟩
theorem OwnQ.setBox {w : World} {B : Nat} {v : Value} {L : List Row} {g k : Nat} {cs : Array Value} {t : TypeId} (h : OwnQ w B v L) (hb : w.heap[g]? = some (.cells cs t (0, 0))) (h1 : 92 ≠ t) (h2 : 3 ≠ t) (x : Value) : OwnQ (w.setCell ⟨g, k, none⟩ x) B v L :=
  h.keeps ((Keeps.refl w [some g]).setCell (by simp) _) (.inr (by simpa using own_ne_blk h.out hb h1)) (fun i hi => .inr (by simpa using own_ne_blk (h.inn i hi) hb h2))
theorem own_setBox {w : World} {B : Nat} {v : Value} {n : Nat} {xs : List Value} {e : TypeId} {g k : Nat} {cs : Array Value} {t : TypeId} (h : w.ownsRow B e 1 v n xs) (hb : w.heap[g]? = some (.cells cs t (0, 0))) (h1 : e ≠ t) (x : Value) : (w.setCell ⟨g, k, none⟩ x).ownsRow B e 1 v n xs :=
  owns_keeps h ((Keeps.refl w [some g]).setCell (by simp) _) (.inr (by simpa using own_ne_blk h hb h1))
theorem stored2 {w : World} {g : Nat} {u v x y : Value} {t : TypeId} (h : w.heap[g]? = some (.cells #[u, v] t (0, 0))) : ((w.setCell ⟨g, 0, none⟩ x).setCell ⟨g, 1, none⟩ y).heap[g]? = some (.cells #[x, y] t (0, 0)) := blk2set1' (blk2set0' h x) y
theorem below_set2 {H g : Nat} {w wr : World} (h : Below H w wr) (hg : H ≤ g) (x y : Value) : Below H w ((wr.setCell ⟨g, 0, none⟩ x).setCell ⟨g, 1, none⟩ y) :=
  (h.setCell (p := ⟨g, 0, none⟩) hg _).setCell (p := ⟨g, 1, none⟩) hg _
theorem ret_maps {fn : Func} {pt ut : Tmp} (h : fn.results = #[.cell pt 65, .tmp ut]) {a : Act} {w : World} {g : Nat} {v1 v2 : Value} {R : Ending → World → Prop} (hp : a.tmps.getD pt undef = .pointer (some ⟨g, 0, none⟩)) (hd : a.defers = [])
    (hg : w.heap[g]? = some (.cells #[v1, v2] 65 (0, 0))) (hR : R (.returned (.tuple #[.agg #[v1, v2], a.tmps.getD ut undef])) w) : bodyPost Tryz.prog fn R .ret a w := by
  refine bodyPost_ret ?_ hd hR
  rw [results_cell_tmp h, hp]
  simp [asAddr, Result.andThen, run_loadVar_row w g _ _ _ _ _ hg Tryz.underlying65 rfl (by kernel_rfl)]

/-! ### the equations in the program's order -/
def eqT (P : List (Nat × Nat)) (Q R : List (List Int)) (n p j i c : Nat) : List Nat := eqIJ P Q R n p (j - 1) ++ eqII P Q R p j i ++ eqK' P Q R i j c
section
variable {P : List (Nat × Nat)} {Q R : List (List Int)} {n p : Nat}
theorem eqM_next (i j c t : Nat) : eqM P Q R i j c (t + 1) = xr (xr (eqM P Q R i j c t) (if tb (act Q (j : Int) (2 ^ i)) (P.getD t (0, 0)).1 = true ∧ (P.getD t (0, 0)).2 = c then 2 ^ t else 0)) (if (P.getD t (0, 0)).1 = i ∧ tb (act R (j : Int) (2 ^ (P.getD t (0, 0)).2)) c = true then 2 ^ t else 0) := rfl
theorem eqT_0 : eqT P Q R n p 1 0 0 = [] := rfl
theorem eqT_p (j i : Nat) : eqT P Q R n p j i p = eqT P Q R n p j (i + 1) 0 := by
  unfold eqT
  rw [show eqK' P Q R (i + 1) j 0 = [] from rfl, List.append_nil, List.append_assoc]; rfl
theorem eqT_n {j : Nat} (h : 1 ≤ j) : eqT P Q R n p j n 0 = eqT P Q R n p (j + 1) 0 0 := by
  obtain ⟨k, rfl⟩ : ∃ k, j = k + 1 := ⟨j - 1, by omega⟩
  unfold eqT
  rw [show eqK' P Q R n (k + 1) 0 = [] from rfl, show eqK' P Q R 0 (k + 1 + 1) 0 = [] from rfl, show eqII P Q R p (k + 1 + 1) 0 = [] from rfl, List.append_nil, List.append_nil, List.append_nil]; rfl
theorem eqT_end : eqT P Q R n p 21 0 0 = eqIJ P Q R n p 20 := by
  unfold eqT
  rw [show eqK' P Q R 0 21 0 = [] from rfl, show eqII P Q R p 21 0 = [] from rfl, List.append_nil, List.append_nil]
theorem eqR_lt (i j c : Nat) : eqR P Q R i j c < 2 ^ P.length := eqM_lt _ _ _ _ _ _ _
theorem eqT_lt (j i c : Nat) : ∀ r ∈ eqT P Q R n p j i c, r < 2 ^ P.length := fun r hr => by
  unfold eqT at hr
  rcases List.mem_append.1 hr with hr | hr
  · rcases List.mem_append.1 hr with hr | hr
    · exact eqIJ_lt r hr
    · obtain ⟨_, _, _, _, rfl⟩ := mem_eqII.1 hr; exact eqR_lt _ _ _
  · obtain ⟨_, _, rfl⟩ := mem_eqK'.1 hr; exact eqR_lt _ _ _
theorem eqK'_len (i j c : Nat) : (eqK' P Q R i j c).length = c := by simp [eqK']
theorem eqII_len (j : Nat) : ∀ i, (eqII P Q R p j i).length = i * p
  | 0 => by simp [eqII]
  | i + 1 => by unfold eqII; rw [List.length_append, eqII_len j i, eqK'_len, Nat.succ_mul]
theorem eqIJ_len : ∀ j, (eqIJ P Q R n p j).length = j * (n * p)
  | 0 => by simp [eqIJ]
  | j + 1 => by unfold eqIJ; rw [List.length_append, eqIJ_len j, eqII_len, Nat.succ_mul]
theorem eqT_len {j i c : Nat} (hj : j ≤ 21) (hi : i ≤ n) (hc : c ≤ p) (hn : n ≤ 16) (hp : p ≤ 16) : (eqT P Q R n p j i c).length ≤ 6000 := by
  unfold eqT
  rw [List.length_append, List.length_append, eqIJ_len, eqII_len, eqK'_len]
  have h1 : n * p ≤ 16 * 16 := Nat.mul_le_mul hn hp
  have h2 : i * p ≤ 16 * 16 := Nat.mul_le_mul (by omega) hp
  have h3 : (j - 1) * (n * p) ≤ 20 * (16 * 16) := Nat.mul_le_mul (by omega) h1
  omega
theorem eqT_span (j i c : Nat) : spanL (zs (eqT P Q R n p j i (c + 1))) = addL (spanL (zs (eqT P Q R n p j i c))) (eqR P Q R i j c, 0) := by
  unfold eqT
  rw [eqK'_succ, ← List.append_assoc]
  unfold spanL zs
  rw [List.map_append, List.foldl_append]; rfl
theorem eqT_good (hP : P.length ≤ 60) (j i c : Nat) : Good (spanL (zs (eqT P Q R n p j i c))) :=
  (spanL_perm (zs (eqT P Q R n p j i c)) (fun q hq => by
    obtain ⟨r, hr, rfl⟩ := List.mem_map.1 hq; exact ⟨sm_of_lt (a := P.length) (by omega) (eqT_lt j i c r hr), Sm.zero⟩)).2.2
theorem eqT_small {j i c : Nat} (hj : j ≤ 21) (hi : i ≤ n) (hc : c ≤ p) (hn : n ≤ 16) (hp : p ≤ 16) : (spanL (zs (eqT P Q R n p j i c))).length ≤ 1000000 := by
  have h1 := spanL_length_le (zs (eqT P Q R n p j i c))
  rw [zs_length] at h1
  have h2 := eqT_len (P := P) (Q := Q) (R := R) hj hi hc hn hp
  omega
end
end Go.Proofs.YtdkmdmpaflgfaaaGreatDoor

namespace Go.Proofs.YtdkmdmpaflgfaaaGreatDoor
open Go.RowKit

/-! ### rows under slices.SortFunc -/
/-- a mask that has a pivot -/
def PM := { x : Nat // x ≠ 0 ∧ Sm x }
instance : Inhabited PM := ⟨⟨1, by decide, Sm.one⟩⟩
def encP (x : PM) : Value := .int .i64 (x.1 : Int)
def cfP (x y : PM) : Int := Lib.compareInt ((pv x.1 : Nat) : Int) ((pv y.1 : Nat) : Int)
theorem ltP (x y : PM) : ltOf cfP x y = decide (pv x.1 < pv y.1) := by
  unfold ltOf cfP Lib.compareInt
  by_cases h1 : pv x.1 < pv y.1
  · simp [h1]
  · by_cases h2 : pv y.1 < pv x.1 <;> simp [h1, h2]
theorem swoP : Sort.SWO (ltOf cfP) where
  irrefl x := by rw [ltP]; simp
  trans x y z h1 h2 := by rw [ltP] at *; simp at *; omega
  ntrans x y z h1 h2 := by rw [ltP] at *; simp at *; omega
def pms : (S : List Nat) → (∀ r ∈ S, r ≠ 0 ∧ Sm r) → List PM
  | [], _ => []
  | r :: S, h => ⟨r, h r (List.mem_cons_self ..)⟩ :: pms S (fun s hs => h s (List.mem_cons_of_mem _ hs))
theorem pms_val : ∀ (S : List Nat) (h : ∀ r ∈ S, r ≠ 0 ∧ Sm r), (pms S h).map (·.1) = S
  | [], _ => rfl
  | r :: S, _ => congrArg (r :: ·) (pms_val S _)
theorem enc_val (L : List PM) : L.map encP = nv (L.map (·.1)) := by simp [nv, encP, List.map_map, Function.comp_def]
/-- what the sort leaves is the reduced list -/
theorem sorted_pm {S T : List Nat} {d d' : Array PM} (hS : Red S) (hd : d.toList.map (·.1) = S) (hp : Sort.PermIn 0 d.size d d') (hs : Sort.SortedIn (ltOf cfP) 0 d.size d') (hT : Asc T) (hST : S.Perm T) : d'.toList.map (·.1) = T := by
  obtain ⟨hsz, _, hpm⟩ := hp
  have e1 : (d'.extract 0 d.size).toList = d'.toList := by rw [← hsz]; simp
  have e2 : (d.extract 0 d.size).toList = d.toList := by simp
  rw [e1, e2] at hpm
  have hp1 : (d'.toList.map (·.1)).Perm S := by rw [← hd]; exact hpm.map _
  have hr : Red (d'.toList.map (·.1)) := hS.perm hp1.symm
  refine asc_unique ?_ hT (hp1.trans hST)
  have hnd := hr.off
  rw [List.pairwise_map] at hnd
  unfold Asc
  rw [List.pairwise_map]
  rw [List.pairwise_iff_getElem] at hnd ⊢
  intro i j hi hj hij
  have hne : pv (d'.toList[i]).1 ≠ pv (d'.toList[j]).1 := fun e => by
    have h1 := (hnd i j hi hj hij).1
    have h2 := (d'.toList[i]).2
    rw [← e, tb_pv h2.1 h2.2] at h1; cases h1
  have hlt := hs i j (Nat.zero_le _) hij (by rw [← hsz]; simpa using hj)
  rw [ltP] at hlt
  simp only [Array.length_toList] at hi hj
  rw [getElem!_pos d' j hj, getElem!_pos d' i hi] at hlt
  simp only [Array.getElem_toList] at hne ⊢
  simp at hlt
  omega

/-- a row of the call's own behind the sort -/
theorem sort_own {w : World} {B n cap g q : Nat} {e : TypeId} {xs : List Value} {os : Array Obj} (h : w.ownsRow B e 1 (.slice (some ⟨g, 0, none⟩) n cap) n xs) (d : Array PM) (hd : d.size = n) :
    (sortWorld encP w g 0 q d os).ownsRow B e 1 (.slice (some ⟨g, 0, none⟩) n cap) n (d.toList.map encP) ∧ Keeps w (sortWorld encP w g 0 q d os) [some g] := by
  rcases h.2 with ⟨h0, _⟩ | ⟨g', cap', cur, hv, hb, hg, hc, hm, hs, ht⟩
  · cases h0
  · injection hv with hA _ hcap
    injection hA with hA; injection hA with hA
    subst hA; subst hcap
    have hlt := (Array.getElem?_eq_some_iff.1 hg).1
    have hmod : ∀ k, k < w.heap.size → (sortWorld encP w g 0 q d os).heap[k]? = (w.heap.modify g (Sort.onCells (Sort.putCells encP 0 d)))[k]? := by
      intro k hk
      show ((w.heap.modify g (Sort.onCells (Sort.putCells encP 0 d))) ++ os)[k]? = _
      rw [Array.getElem?_append_left (by simpa using hk)]
    constructor
    · refine ⟨by simp [hd], .inr ⟨g, cap, Sort.putCells encP 0 d cur, rfl, hb, ?_, hc, hm, by simpa [Sort.putCells] using hs, ?_⟩⟩
      · rw [hmod g hlt, Array.getElem?_modify, if_pos rfl, hg]; rfl
      · apply List.ext_getElem?
        intro i
        rw [List.getElem?_take]
        by_cases hi : i < n * 1
        · rw [if_pos hi]
          have hi' : i < d.size := by omega
          have hic : i < cur.size := by omega
          simp only [Sort.putCells, Array.getElem?_toList, Array.getElem?_mapIdx, List.getElem?_map]
          rw [Array.getElem?_eq_getElem hic, Array.getElem?_eq_getElem hi']
          simp only [Option.map_some, Nat.zero_le, true_and, Nat.zero_add, Nat.sub_zero, if_pos hi']
          rw [getElem!_pos d i hi']
        · rw [if_neg hi, List.getElem?_eq_none (by simp; omega)]
    · refine ⟨rfl, rfl, rfl, ?_, ?_⟩
      · show w.heap.size ≤ ((w.heap.modify g (Sort.onCells (Sort.putCells encP 0 d))) ++ os).size
        simp
      · intro k hk hn
        rw [hmod k hk, Array.getElem?_modify, if_neg (fun e => hn (by simp [e]))]
theorem sort_holds {w : World} {B n cap g : Nat} {e : TypeId} {S : List Nat} (hS : ∀ r ∈ S, r ≠ 0 ∧ Sm r) (h : w.ownsRow B e 1 (.slice (some ⟨g, 0, none⟩) n cap) n (nv S)) :
    Sort.Holds encP w g 0 (pms S hS).toArray ∧ (pms S hS).toArray.size = n := by
  have hl : (pms S hS).length = S.length := by have := congrArg List.length (pms_val S hS); simpa using this
  have hn := h.1
  rw [nv_length] at hn
  refine ⟨fun j hj => ?_, by simp [hl]; omega⟩
  have hj' : j < S.length := by rw [← hl]; simpa using hj
  refine ⟨?_, ?_⟩
  · have h1 := h.cells rfl j (encP (pms S hS)[j]!) (by
      have e : nv S = (pms S hS).map encP := by rw [enc_val, pms_val]
      rw [e, List.getElem?_map, List.getElem?_eq_getElem (by omega)]
      rw [getElem!_pos (pms S hS) j (by omega)]; rfl)
    rw [Addr.add_lit] at h1
    rw [h1]
    congr 1
    rw [getElem!_pos _ j (by omega), getElem!_pos _ j hj]
    simp
  · rw [Nat.zero_add]; exact h.frozenAt j
end Go.Proofs.YtdkmdmpaflgfaaaGreatDoor

namespace Go.Proofs
open Go.Shelf
def Tryz.sortL_ren : Go.Shelf.Ren := ⟨fun | 6 => 113 | 15 => 161 | 14 => 160 | 28 => 208 | 29 => 209 | 20 => 200 | 21 => 201 | 22 => 202 | 23 => 203 | 24 => 204 | 25 => 205 | 26 => 206 | 27 => 207 | 46 => 228 | 47 => 229 | 48 => 230 | 49 => 231 | 50 => 232 | 57 => 252 | n => n, fun | 22 => 22 | 24 => 2 | 25 => 124 | 3 => 3 | 39 => 162 | 0 => 0 | 53 => 191 | 55 => 73 | 4 => 4 | 46 => 184 | 45 => 183 | 50 => 188 | 5 => 5 | 9 => 9 | 66 => 202 | 70 => 206 | 76 => 223 | 77 => 224 | n => n, fun | n => n⟩
theorem Tryz.sortL : Go.Proofs.SlLaysF.n6 Tryz.prog Tryz.sortL_ren := {
  mixed := by kernel_rfl
  f6 := ⟨Tryz.f113.name, by decide, Tryz.func113.trans (congrArg some (by kernel_rfl))⟩
  f14 := ⟨Tryz.f160.name, by decide, Tryz.func160.trans (congrArg some (by kernel_rfl))⟩
  f15 := Tryz.func161.trans (congrArg some (by kernel_rfl))
  f20 := ⟨Tryz.f200.name, by decide, Tryz.func200.trans (congrArg some (by kernel_rfl))⟩
  f21 := ⟨Tryz.f201.name, by decide, Tryz.func201.trans (congrArg some (by kernel_rfl))⟩
  f22 := ⟨Tryz.f202.name, by decide, Tryz.func202.trans (congrArg some (by kernel_rfl))⟩
  f23 := ⟨Tryz.f203.name, by decide, Tryz.func203.trans (congrArg some (by kernel_rfl))⟩
  f24 := ⟨Tryz.f204.name, by decide, Tryz.func204.trans (congrArg some (by kernel_rfl))⟩
  f25 := ⟨Tryz.f205.name, by decide, Tryz.func205.trans (congrArg some (by kernel_rfl))⟩
  f26 := ⟨Tryz.f206.name, by decide, Tryz.func206.trans (congrArg some (by kernel_rfl))⟩
  f27 := ⟨Tryz.f207.name, by decide, Tryz.func207.trans (congrArg some (by kernel_rfl))⟩
  f28 := Tryz.func208.trans (congrArg some (by kernel_rfl))
  f29 := Tryz.func209.trans (congrArg some (by kernel_rfl))
  f46 := ⟨Tryz.f228.name, by decide, Tryz.func228.trans (congrArg some (by kernel_rfl))⟩
  f47 := Tryz.func229.trans (congrArg some (by kernel_rfl))
  f48 := Tryz.func230.trans (congrArg some (by kernel_rfl))
  f49 := ⟨Tryz.f231.name, by decide, Tryz.func231.trans (congrArg some (by kernel_rfl))⟩
  f50 := ⟨Tryz.f232.name, by decide, Tryz.func232.trans (congrArg some (by kernel_rfl))⟩
  f57 := ⟨Tryz.f252.name, by decide, Tryz.func252.trans (congrArg some (by kernel_rfl))⟩
  t0 := Tryz.underlying0
  a0 := Tryz.isAgg0
  z0 := Tryz.sizeOf0
  v0 := Tryz.zeroValue0
  t3 := Tryz.underlying3
  a3 := Tryz.isAgg3
  z3 := Tryz.sizeOf3
  v3 := Tryz.zeroValue3
  t4 := Tryz.underlying4
  a4 := Tryz.isAgg4
  z4 := Tryz.sizeOf4
  v4 := Tryz.zeroValue4
  t5 := Tryz.underlying5
  a5 := Tryz.isAgg5
  z5 := Tryz.sizeOf5
  v5 := Tryz.zeroValue5
  t9 := Tryz.underlying9
  a9 := Tryz.isAgg9
  z9 := Tryz.sizeOf9
  v9 := Tryz.zeroValue9
  t22 := Tryz.underlying22
  a22 := Tryz.isAgg22
  z22 := Tryz.sizeOf22
  v22 := Tryz.zeroValue22
  a24 := Tryz.isAgg2
  z24 := Tryz.sizeOf2
  t25 := Tryz.underlying124
  a25 := Tryz.isAgg124
  z25 := Tryz.sizeOf124
  v25 := Tryz.zeroValue124
  t39 := Tryz.underlying162
  a39 := Tryz.isAgg162
  z39 := Tryz.sizeOf162
  v39 := Tryz.zeroValue162
  t45 := Tryz.underlying183
  a45 := Tryz.isAgg183
  z45 := Tryz.sizeOf183
  v45 := Tryz.zeroValue183
  t46 := Tryz.underlying184
  a46 := Tryz.isAgg184
  z46 := Tryz.sizeOf184
  v46 := Tryz.zeroValue184
  t50 := Tryz.underlying188
  a50 := Tryz.isAgg188
  z50 := Tryz.sizeOf188
  v50 := Tryz.zeroValue188
  t53 := Tryz.underlying191
  a53 := Tryz.isAgg191
  z53 := Tryz.sizeOf191
  v53 := Tryz.zeroValue191
  t55 := Tryz.underlying73
  a55 := Tryz.isAgg73
  z55 := Tryz.sizeOf73
  v55 := Tryz.zeroValue73
  t66 := Tryz.underlying202
  a66 := Tryz.isAgg202
  z66 := Tryz.sizeOf202
  v66 := Tryz.zeroValue202
  t70 := Tryz.underlying206
  a70 := Tryz.isAgg206
  z70 := Tryz.sizeOf206
  v70 := Tryz.zeroValue206
  t76 := Tryz.underlying223
  a76 := Tryz.isAgg223
  z76 := Tryz.sizeOf223
  v76 := Tryz.zeroValue223
  t77 := Tryz.underlying224
  a77 := Tryz.isAgg224
  z77 := Tryz.sizeOf224
  v77 := Tryz.zeroValue224 }
def Tryz.cmpL_ren : Go.Shelf.Ren := ⟨fun | 5 => 115 | 7 => 162 | n => n, fun | 22 => 3 | 3 => 3 | 4 => 4 | n => n, fun | n => n⟩
theorem Tryz.cmpL : Go.Proofs.SlLaysC2.n5 Tryz.prog Tryz.cmpL_ren := {
  mixed := by kernel_rfl
  f5 := ⟨Tryz.f115.name, by decide, Tryz.func115.trans (congrArg some (by kernel_rfl))⟩
  f7 := ⟨Tryz.f162.name, by decide, Tryz.func162.trans (congrArg some (by kernel_rfl))⟩
  t3 := Tryz.underlying3
  a3 := Tryz.isAgg3
  z3 := Tryz.sizeOf3
  v3 := Tryz.zeroValue3
  t4 := Tryz.underlying4
  a4 := Tryz.isAgg4
  z4 := Tryz.sizeOf4
  v4 := Tryz.zeroValue4
  t22 := Tryz.underlying3
  a22 := Tryz.isAgg3
  z22 := Tryz.sizeOf3
  v22 := Tryz.zeroValue3 }
end Go.Proofs

namespace Go.Proofs.YtdkmdmpaflgfaaaGreatDoor
open Go.RowKit

theorem own_cast2 {w : World} {B : Nat} {e : TypeId} {v : Value} {n m : Nat} {xs ys : List Value} (h : w.ownsRow B e 1 v n xs) (hn : n = m) (hx : xs = ys) : w.ownsRow B e 1 v m ys := by
  subst hn; subst hx; exact h
theorem nv_snoc2 (xs : List Nat) (x : Nat) : nv xs ++ [.int .i64 (x : Int)] = nv (xs ++ [x]) := by simp [nv]
/-- a span beside an own row -/
theorem span_own_add {w w' : World} {B B' bs m : Nat} {v1 v2 o : Value} {L N : List (Nat × Nat)} {ys : List Value} (hs : SpanAt w B bs v1 v2 L) (ho : w.ownsRow B' 2 1 o m ys) (h1 : o.ownBlock ≠ v1.ownBlock) (h2 : o.ownBlock ≠ v2.ownBlock)
    (hp : AddPost w B bs v1 v2 N w') : w'.ownsRow B' 2 1 o m ys ∧ ∃ u1 u2, SpanAt w' B bs u1 u2 N ∧ o.ownBlock ≠ u1.ownBlock ∧ o.ownBlock ≠ u2.ownBlock := by
  obtain ⟨hk, u1, u2, hs', hu1, hu2⟩ := hp
  have hb := own_ne ho hs.blk (by decide)
  refine ⟨owns_keeps ho hk (.inr ?_), u1, u2, hs', ?_, ?_⟩
  · simp only [List.mem_cons, List.not_mem_nil, or_false, not_or]; exact ⟨hb, h1, h2⟩
  · rcases hu1 with e | ⟨k, e, hk'⟩
    · rw [e]; exact h1
    · intro e'; have := (ho.lt k (e'.trans e)).2; omega
  · rcases hu2 with e | ⟨k, e, hk'⟩
    · rw [e]; exact h2
    · intro e'; have := (ho.lt k (e'.trans e)).2; omega
/-- an append to the own row beside a span -/
theorem span_own_app {w w' : World} {B g bs : Nat} {v1 v2 o : Value} {L : List (Nat × Nat)} {ob : Obj} (hs : SpanAt w B bs v1 v2 L) (hb : o.ownBlock ≠ some bs) (h1 : o.ownBlock ≠ v1.ownBlock) (h2 : o.ownBlock ≠ v2.ownBlock)
    (hg : (w.alloc ob).grownBy w' o.ownBlock) (hat : o.ownBlock = some g ∨ g = (w.alloc ob).heap.size) : SpanAt w' B bs v1 v2 L ∧ some g ≠ v1.ownBlock ∧ some g ≠ v2.ownBlock := by
  refine ⟨hs.keeps (((Keeps.refl w []).alloc ob).trans (Keeps.of_grown hg) (T := [o.ownBlock]) (by simp)) (by simpa using hb.symm) (.inr (by simpa using h1.symm)) (.inr (by simpa using h2.symm)), ?_, ?_⟩
  · rcases hat with h | h
    · rw [← h]; exact h1
    · intro e; have := (hs.own1.lt g e.symm).2; simp at h; omega
  · rcases hat with h | h
    · rw [← h]; exact h2
    · intro e; have := (hs.own2.lt g e.symm).2; simp at h; omega

end Go.Proofs.YtdkmdmpaflgfaaaGreatDoor

namespace Go.Proofs.YtdkmdmpaflgfaaaGreatDoor
open Go.RowKit


/-- the program's comparison of two rows, in every world that holds the table -/
theorem cmp_any (x y : PM) (w : World) (hT : Tab w) : Calls Tryz.prog 114 #[encP x, encP y] w fun e w' => e = .returned (.int .i64 (cfP x y)) ∧ w' = w := by
  have h1 := pivot_any x.1 x.2.1 x.2.2 w hT
  have h2 := pivot_any y.1 y.2.1 y.2.2 w hT
  have hcon := AnyG.cmp_Compare_int Tryz.cmpL (pv x.1 : Nat) (pv y.1 : Nat) w
  change Calls Tryz.prog 115 _ _ _ at hcon
  have H1 := Lib.hid h1
  have H2 := Lib.hid h2
  have H3 := Lib.hid hcon
  clear h1 h2 hcon
  unfold encP cfP
  obtain ⟨x, hx⟩ := x
  obtain ⟨y, hy⟩ := y
  simp only at H1 H2 H3 ⊢
  generalize Lib.compareInt ((pv x : Nat) : Int) ((pv y : Nat) : Int) = r at *
  go_enter Tryz.func114, Tryz.ntmps114
  go_wp2_with (first | (go_at_call 95; (with_reducible refine H1.out.mono ?_); rintro e w' ⟨rfl, rfl⟩) | (go_at_call 95; (with_reducible refine H2.out.mono ?_); rintro e w' ⟨rfl, rfl⟩) | (go_at_call 115; refine H3.out.mono ?_; rintro e w' ⟨rfl, rfl⟩))
  go_ret
  exact ⟨rfl, rfl⟩

theorem tab_sortWorld {w : World} (hT : Tab w) {g off m : Nat} {os : Array Obj} {dk : Array PM} (hg : g ≠ 0) : Tab (sortWorld encP w g off m dk os) := by
  intro j hj
  have h := hT j hj
  have hlt := World.block_lt_of_cell? w _ h
  rw [← h]
  refine World.cell?_of_block ?_
  show ((w.heap.modify g (Sort.onCells (Sort.putCells encP off dk))) ++ os)[0]? = w.heap[0]?
  rw [Array.getElem?_append_left (by simpa using hlt), Array.getElem?_modify, if_neg hg]

set_option maxHeartbeats 1000000 in
/-- (*span).reduced: the rows in order, as a new own row -/
theorem spanReduced_any (B bs : Nat) (v1 v2 : Value) (L : List (Nat × Nat)) (T : List Nat) (w : World) (hTab : Tab w) (hw : 0 < w.heap.size) (hs : SpanAt w B bs v1 v2 L) (hsmall : L.length ≤ 1000000) (hr : Red (r1 L)) (hT : Asc T) (hp : (r1 L).Perm T) :
    Calls Tryz.prog 84 #[.pointer (some ⟨bs, 0, none⟩)] w fun e w' => ∃ v, e = .returned v ∧ w'.ownsRow w.heap.size 2 1 v T.length (nv T) ∧ Below w.heap.size w w' := by
  obtain ⟨A, c, rfl, _, _, _⟩ := owns_shape hs.own1
  have hc := copyOf_any A L.length c (nv (r1 L)) w (by rw [nv_length, r1_length]) (by omega) (nv_one _) (owns_Rd hs.own1)
  obtain ⟨x0, x1, _, _, _⟩ := blk2cells hs.blk
  have hlen : T.length = L.length := by rw [← hp.length_eq, r1_length]
  have HC := Lib.hid hc
  have HLN := Lib.hid hlen
  have HR := Lib.hid hr
  have HA := Lib.hid hT
  have HP := Lib.hid hp
  have HTB := Lib.hid hTab
  clear hc hs hr hT hp hTab hlen
  go_enter Tryz.func84, Tryz.ntmps84
  go_wp2_with fail
  refine HC.out.mono ?_
  rintro e w1 ⟨g, cap, rfl, ho, hb⟩
  have HO := Lib.hid ho
  have HB := Lib.hid hb
  have hg := (ho.lt g rfl)
  have hgw : g < w1.heap.size := hg.2
  have hg0 : g ≠ 0 := by have := hg.1; omega
  have HT1 := Lib.hid (HTB.out.below hb hw)
  clear ho hb hg
  have hne : ∀ r ∈ r1 L, r ≠ 0 ∧ Sm r := HR.out.ne
  by_cases h0 : L.length = 0
  · have hS := fun W => AnyF.slices_SortFunc_none (P := Tryz.prog) (ρ := Tryz.sortL_ren) { Tryz.sortL with } (some ⟨g, 0, none⟩) cap (.func (.func 114) #[] #[]) W
    change ∀ W, Calls Tryz.prog 113 _ _ _ at hS
    have HS := Lib.hid hS
    have hL : L = [] := List.eq_nil_of_length_eq_zero h0
    subst hL
    have hTn : T = [] := List.eq_nil_of_length_eq_zero (by rw [HLN.out]; rfl)
    subst hTn
    clear hS h0 hne
    go_wp2_with (go_at_call 113; refine (HS.out _).mono ?_; rintro e w' ⟨rfl, rfl⟩)
    go_ret
    exact ⟨_, rfl, HO.out, HB.out⟩
  · obtain ⟨hH, hsz⟩ := sort_holds hne HO.out
    have eg : ∀ args w, (callFunc 114 args).run Tryz.prog w = .ok (.enter 114 args) w := enters_of Tryz.func114 (by kernel_rfl) rfl
    have hcr : CmpReads Tryz.prog 114 #[] encP cfP g 0 (pms (r1 L) hne).toArray.size w1 := fun m os dk _ x y => (cmp_any x y _ (tab_sortWorld HT1.out hg0)).mono fun _ _ ⟨he, hw⟩ => ⟨he, 0, by rw [hw]; rfl⟩
    have hS := Any.slices_SortFunc Tryz.sortL encP (fun _ => rfl) cfP swoP 114 #[] g 0 cap (pms (r1 L) hne).toArray w1 eg hcr.lays hH hgw (by rw [hsz]; omega)
    rw [hsz] at hS
    change Calls Tryz.prog 113 _ _ _ at hS
    have HS := Lib.hid hS
    clear hS hcr eg hH
    have hsz' : (pms (r1 L) hne).length = L.length := by simpa using hsz
    clear hsz
    have HSZ := Lib.hid hsz'
    have HNE := Lib.hid hne
    clear h0 hsz'
    go_wp2_with (go_at_call 113; refine HS.out.mono ?_; rintro e w' ⟨rfl, d', q, os, hpm, hst, rfl⟩; have HPM := Lib.hid hpm; have HST := Lib.hid hst; clear hpm hst)
    go_ret
    have hsz : (pms (r1 L) HNE.out).toArray.size = L.length := by simpa using HSZ.out
    have hpm := HPM.out
    have hst := HST.out
    rw [← hsz] at hpm hst
    have hv := sorted_pm (T := T) HR.out (d := (pms (r1 L) HNE.out).toArray) (by simpa using pms_val (r1 L) HNE.out) hpm hst HA.out HP.out
    have hd : d'.size = L.length := by rw [hpm.1]; exact hsz
    obtain ⟨o1, k1⟩ := sort_own HO.out d' hd (q := q) (os := os)
    rw [enc_val, hv] at o1
    refine ⟨_, rfl, own_cast2 o1 HLN.out.symm rfl, HB.out.trans ?_⟩
    exact k1.to_below HB.out.size (fun j hj => by simp only [List.mem_singleton] at hj; injection hj with hj; rw [hj]; exact (HO.out.lt g rfl).1)
end Go.Proofs.YtdkmdmpaflgfaaaGreatDoor

namespace Go.Proofs.YtdkmdmpaflgfaaaGreatDoor
open Go.RowKit

set_option maxHeartbeats 1000000 in
/-- impl.reduced: the reduced rows, as a new own row -/
theorem reduced_any (A : Option Addr) (n c : Nat) (rows : List Nat) (w : World) (hT : Tab w) (hw : 0 < w.heap.size) (hn : n = rows.length) (hsmall : n ≤ 1000000) (hS : ∀ r ∈ rows, Sm r) (hR : Rd w A (nv rows)) :
    Calls Tryz.prog 62 #[.slice A n c] w fun e w' => ∃ v, e = .returned v ∧ w'.ownsRow w.heap.size 2 1 v (reduceS rows).length (nv (reduceS rows)) ∧ Below w.heap.size w w' := by
  have h1 := spanOf_any A n c rows w hT hw hn hsmall hS hR
  have H1 := Lib.hid h1
  have HT := Lib.hid hT
  have hsp := spanL_perm (zs rows) (fun p hp => by obtain ⟨r, hr, rfl⟩ := List.mem_map.1 hp; exact ⟨hS r hr, Sm.zero⟩)
  rw [r1_zs] at hsp
  have HSP := Lib.hid hsp
  have HA := Lib.hid (asc_reduce hS)
  have hl := spanL_length_le (zs rows)
  rw [zs_length, ← hn] at hl
  clear h1 hT hn hS hR hsp
  go_enter Tryz.func62, Tryz.ntmps62
  go_wp2_with fail
  refine H1.out.mono ?_
  rintro e w1 ⟨rfl, ⟨v1, v2, hs⟩, hb⟩
  have h2 := spanReduced_any w.heap.size w.heap.size v1 v2 _ (reduceS rows) w1 (HT.out.below hb hw) (by have := hb.size; omega) hs (by omega) HSP.out.2.1 HA.out HSP.out.1
  have H2 := Lib.hid h2
  have HB := Lib.hid hb
  clear h2 hs hb
  go_wp2_with fail
  refine H2.out.mono ?_
  rintro e w2 ⟨v, rfl, ho, hb⟩
  have HO := Lib.hid ho
  have HB2 := Lib.hid hb
  clear ho hb
  go_wp2_with fail
  go_ret
  exact ⟨v, rfl, HO.out.mono HB.out.size, HB.out.trans (HB2.out.mono HB.out.size)⟩

end Go.Proofs.YtdkmdmpaflgfaaaGreatDoor

namespace Go.Proofs.YtdkmdmpaflgfaaaGreatDoor
open Go.RowKit

theorem sm_two {p : Nat} (h : p ≤ 62) : Sm (2 ^ p) := by
  unfold Sm
  have : 2 ^ p ≤ 2 ^ 62 := Nat.pow_le_pow_right (by omega) h
  have e : (2 ^ 62 : Nat) = 4611686018427387904 := by decide
  omega
theorem shl_two {k : Nat} (h : k ≤ 60) : wrap64 ((2 : Int) ^ k) = ((2 ^ k : Nat) : Int) := by
  have h1 : (2 : Nat) ^ k ≤ 2 ^ 60 := Nat.pow_le_pow_right (by omega) h
  have e : (2 ^ 60 : Nat) = 1152921504606846976 := by decide
  have h2 : ((2 ^ k : Nat) : Int) = (2 : Int) ^ k := by rw [Int.natCast_pow]; rfl
  rw [← h2]
  generalize (2 ^ k : Nat) = z at *
  unfold wrap64; omega
set_option maxRecDepth 100000 in
set_option maxHeartbeats 2000000 in
theorem kernel_anyS (A : Option Addr) (n c : Nat) (S : List Nat) (w : World) (hT : Tab w) (hw : 0 < w.heap.size) (hn : n = S.length) (hsmall : n ≤ 60) (hS : ∀ r ∈ S, Sm r) (hR : Rd w A (nv S)) :
    Calls Tryz.prog 61 #[.slice A n c] w fun e w' => ∃ v, e = .returned v ∧ w'.ownsRow w.heap.size 2 1 v (reduceS (kerS S S.length)).length (nv (reduceS (kerS S S.length))) ∧ Below w.heap.size w w' := by
  have HKS := Lib.hid ((kerG_span hS (by omega)).sm (by omega))
  have HSM := Lib.hid (us_sm hS (by omega))
  have Hn := Lib.hid hn
  have HR := Lib.hid hR
  have HS := Lib.hid hS
  have HT := Lib.hid hT
  have HSP0 := Lib.hid (SpanAt.new w)
  clear hn hR hS hT
  go_enter Tryz.func61, Tryz.ntmps61
  go_wp2_with fail
  go_loopw [4, 14] (fun o i wr => ∃ k : Nat, k ≤ n ∧ i = .int .i64 k ∧ wr.ownsRow w.heap.size 2 1 o (kerS S k).length (nv (kerS S k)) ∧
      (∃ v1 v2, SpanAt wr w.heap.size w.heap.size v1 v2 (spanL ((us 0 S).take k)) ∧ o.ownBlock ≠ v1.ownBlock ∧ o.ownBlock ≠ v2.ownBlock) ∧ Below w.heap.size w wr) (fun _ i _ => n - (intOf i).toNat)
  case atStart =>
    refine ⟨0, by omega, rfl, ?_, ⟨_, _, HSP0.out.keeps ((Keeps.refl _ []).alloc _) (by simp) (.inr (by simp)) (.inr (by simp)), by simp [Value.ownBlock], by simp [Value.ownBlock]⟩, ((Below.refl _ _).alloc (Nat.le_refl _) _).alloc (by simp) _⟩
    have := World.ownsRow_made (w.alloc (.cells #[.slice none 0 0, .slice none 0 0] 97)) #[] 0 (base := w.heap.size) (e := 2) (size := 1) (by simp) (by decide) (by simp)
    simp only [World.size_alloc] at this
    exact this
  case round =>
    obtain ⟨k, hk, rfl, hoo, ⟨v1, v2, hsp, hne1, hne2⟩, hbel⟩ := hrel
    have hsz : w.heap.size ≤ wr.heap.size := hbel.size
    have hko := kerOut_length (fun k => spanL ((us 0 S).take k)) S k
    change (kerS S k).length ≤ k at hko
    by_cases hlt : k < n
    · have hkL : k < S.length := by rw [← Hn.out]; exact hlt
      obtain ⟨b, o', rfl, hc⟩ := (HR.out.below hbel).atN hkL
      have hx := HS.out _ (getD_mem hkL)
      have hp2 : Sm (2 ^ k) := by exact sm_two (by omega)
      have Hs : Hid (spanL ((us 0 S).take (k + 1)) = addL (spanL ((us 0 S).take k)) (S.getD k 0, 2 ^ k)) := by
        show _ = _; rw [spanL_take_succ (us 0 S) k (by rw [us_length]; exact hkL), us_getD0 hkL]
      have Hk := Lib.hid (kerS_succ S k)
      have hl := spanL_length_le ((us 0 S).take k)
      rw [List.length_take] at hl
      have hg := (spanL_perm ((us 0 S).take k) (fun p hp => HSM.out p (List.mem_of_mem_take hp))).2.2
      generalize spanL ((us 0 S).take k) = L at *
      generalize kerS S k = O at *
      generalize S.getD k 0 = x at *
      have ha := add_any w.heap.size w.heap.size v1 v2 L x (2 ^ k) wr (HT.out.below hbel hw) hw hsz hsp (by omega) hx hp2 hg
      rw [← shl_two (by omega)] at ha
      have hks : kerStep L (x, 2 ^ k) O = if (leftN L (x, 2 ^ k)).1 = 0 then O ++ [(leftN L (x, 2 ^ k)).2] else O := rfl
      obtain ⟨F, cf, rfl, _, hF, _⟩ := owns_shape hoo
      have HSQ := Lib.hid hsp
      have HOO := Lib.hid hoo
      have HN1 := Lib.hid hne1
      have HN2 := Lib.hid hne2
      have HB := Lib.hid hbel
      by_cases h0 : (leftN L (x, 2 ^ k)).1 = 0
      · have hv : AddRes L (x, 2 ^ k) = .tuple #[.int .i64 ((leftN L (x, 2 ^ k)).2 : Nat), .bool false] := by simp [AddRes, h0]
        rw [hv] at ha
        rw [if_pos h0] at hks
        have HA := Lib.hid ha
        have HKS' := Lib.hid hks
        clear ha hv h0 hks hsp hoo hne1 hne2 hbel hg hF
        generalize (leftN L (x, 2 ^ k)).2 = z at *
        go_wp2_with (first | (go_at_call 82; refine HA.out.mono ?_; (rintro e w3 ⟨rfl, hpost⟩; obtain ⟨q1, u1, u2, q2, q3, q4⟩ := span_own_add HSQ.out HOO.out HN1.out HN2.out hpost; have hb3 := hpost.below HSQ.out hsz; have HQ1 := Lib.hid q1; have HQ2 := Lib.hid q2; have HQ3 := Lib.hid q3; have HQ4 := Lib.hid q4; have HB3 := Lib.hid (HB.out.trans (hb3.mono (Nat.le_refl _))); have hsz3 : w.heap.size ≤ w3.heap.size := HB3.out.size; clear hpost q1 q2 q3 q4 hb3)) | (at_builtin; refine wpList_app1 _ _ _ _ _ etI (by rfl) (by rfl) w.heap.size (.slice F O.length cf) O.length (nv O) (by rfl) ?_ _ (.int .i64 (z : Int)) (by rfl) ?_ (by rfl) ?_ ?_ ?_; exact HQ1.out.alloc _; exact new_cell _ _ _; omega; (simp; omega); (intro g2 cap2 w4 hown2 hgrow2 hat2 hlt2; have HO2' : Hid (w4.ownsRow w.heap.size 2 1 (.slice (some ⟨g2, 0, none⟩) (O.length + 1) cap2) (O.length + 1) (nv (O ++ [z]))) := (by rw [← nv_snoc2]; exact hown2); have HG2 := Lib.hid hgrow2; have HA2 := Lib.hid hat2; clear hown2 hgrow2 hat2 hlt2)))
        go_roundw
        case rel =>
          obtain ⟨t1, t2, t3⟩ := span_own_app HQ2.out (own_ne HQ1.out HQ2.out.blk (by decide)) HQ3.out HQ4.out HG2.out HA2.out
          exact ⟨k + 1, by omega, by go_num, by rw [Hk.out, HKS'.out]; exact own_cast2 HO2'.out (by simp) rfl, ⟨u1, u2, by rw [Hs.out]; exact t1, t2, t3⟩, below_app2 HB3.out hsz3 HQ1.out HG2.out⟩
        case measure => simp [intOf]; omega
      · have hv : AddRes L (x, 2 ^ k) = .tuple #[.int .i64 0, .bool true] := by simp [AddRes, h0]
        rw [hv] at ha
        rw [if_neg h0] at hks
        have HA := Lib.hid ha
        have HKS' := Lib.hid hks
        clear ha hv h0 hks hsp hoo hne1 hne2 hbel hg hF
        go_wp2_with (go_at_call 82; refine HA.out.mono ?_; rintro e w3 ⟨rfl, hpost⟩; have HP := Lib.hid hpost; clear hpost)
        go_roundw
        case rel =>
          obtain ⟨q1, u1, u2, q2, q3, q4⟩ := span_own_add HSQ.out HOO.out HN1.out HN2.out HP.out
          exact ⟨k + 1, by omega, by go_num, by rw [Hk.out, HKS'.out]; exact q1, ⟨u1, u2, by rw [Hs.out]; exact q2, q3, q4⟩, HB.out.trans (HP.out.below HSQ.out hsz)⟩
        case measure => simp [intOf]; omega
    · have ek : k = S.length := by rw [← Hn.out]; omega
      subst ek
      obtain ⟨F, cf, rfl, _, hF, _⟩ := owns_shape hoo
      have hr := reduced_any F (kerS S S.length).length cf (kerS S S.length) wr (HT.out.below hbel hw) (by omega) rfl (by omega) HKS.out (owns_Rd hoo)
      have HRR := Lib.hid hr
      have HB := Lib.hid hbel
      clear hoo hne1 hne2 hsp hbel hF hr
      go_wp2_with fail
      refine HRR.out.mono ?_
      rintro e w2 ⟨v, rfl, ho, hb⟩
      have HO2 := Lib.hid ho
      have HB2 := Lib.hid hb
      clear ho hb
      go_wp2_with fail
      go_ret
      exact ⟨v, rfl, HO2.out.mono hsz, HB.out.trans (HB2.out.mono hsz)⟩

end Go.Proofs.YtdkmdmpaflgfaaaGreatDoor
