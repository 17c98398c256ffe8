/- plain mathematics: reduced rows are in order; a list of rows sorted by pivots is the reduced one -/
import Derived.Test.YtchmplpgamekjaaDoorJ
import Derived.Test.YtchmplpgamekjaaDoorC
import Derived.Test.YtchmplpgamekjaaDoorQ
import Derived.Shelf.SlSortCmp.NoneTotal
namespace Go.Proofs.YtchmplpgamekjaaDoor
open Go.RowKit

def Asc (S : List Nat) : Prop := S.Pairwise fun a b => pv a < pv b
theorem asc_fold {x : Nat} (hx : Sm x) (hx0 : x ≠ 0) : ∀ (S : List Nat) (p : List Nat × Bool), Asc S → (∀ s ∈ S, s ≠ 0 ∧ Sm s ∧ tb x (pv s) = false) → Asc p.1 → (∀ a ∈ p.1, ∀ s ∈ S, pv a < pv s) → (p.2 = false → ∀ a ∈ p.1, pv a < pv x) → (p.2 = true → ∀ s ∈ S, pv x < pv s) →
    Asc (putEnd x (S.foldl (putStep x) p))
  | [], p, _, _, h, _, h2, _ => by
    obtain ⟨o, d⟩ := p
    cases d
    · exact List.pairwise_append.2 ⟨h, List.pairwise_singleton _ _, fun a ha b hb => by rw [List.mem_singleton.1 hb]; exact h2 rfl a ha⟩
    · exact h
  | s :: S, p, hS, hs, h, h1, h2, h3 => by
    have hs0 := hs s (List.mem_cons_self ..)
    have hst := stepS_pv hx hx0 hs0.2.1 hs0.1 hs0.2.2
    have hSc := List.pairwise_cons.1 hS
    have hne : pv x ≠ pv s := fun e => by
      have := tb_pv hx0 hx
      rw [e, hs0.2.2] at this; cases this
    rw [List.foldl_cons]
    have hS' : ∀ t ∈ S, t ≠ 0 ∧ Sm t ∧ tb x (pv t) = false := fun t ht => hs t (List.mem_cons_of_mem _ ht)
    by_cases hc : (!p.2 && decide (pv x < pv s)) = true
    · have e : putStep x p s = (p.1 ++ [x, stepS x s], true) := by unfold putStep; rw [if_pos hc]
      rw [e]
      simp only [Bool.and_eq_true, decide_eq_true_eq, Bool.not_eq_true'] at hc
      refine asc_fold hx hx0 S _ hSc.2 hS' ?_ ?_ (fun h => by cases h) (fun _ t ht => Nat.lt_trans hc.2 (hSc.1 t ht))
      · refine List.pairwise_append.2 ⟨h, List.pairwise_cons.2 ⟨fun b hb => ?_, List.pairwise_singleton _ _⟩, fun a ha b hb => ?_⟩
        · rw [List.mem_singleton.1 hb, hst.2.1]; exact hc.2
        · rcases List.mem_cons.1 hb with rfl | hb
          · exact h2 hc.1 a ha
          · rw [List.mem_singleton.1 hb, hst.2.1]; exact h1 a ha s (List.mem_cons_self ..)
      · intro a ha t ht
        rcases List.mem_append.1 ha with ha | ha
        · exact h1 a ha t (List.mem_cons_of_mem _ ht)
        · rcases List.mem_cons.1 ha with rfl | ha
          · exact Nat.lt_trans hc.2 (hSc.1 t ht)
          · rw [List.mem_singleton.1 ha, hst.2.1]; exact hSc.1 t ht
    · have e : putStep x p s = (p.1 ++ [stepS x s], p.2) := by unfold putStep; rw [if_neg hc]
      rw [e]
      refine asc_fold hx hx0 S _ hSc.2 hS' ?_ ?_ ?_ (fun h4 t ht => h3 h4 t (List.mem_cons_of_mem _ ht))
      · refine List.pairwise_append.2 ⟨h, List.pairwise_singleton _ _, fun a ha b hb => ?_⟩
        rw [List.mem_singleton.1 hb, hst.2.1]; exact h1 a ha s (List.mem_cons_self ..)
      · intro a ha t ht
        rcases List.mem_append.1 ha with ha | ha
        · exact h1 a ha t (List.mem_cons_of_mem _ ht)
        · rw [List.mem_singleton.1 ha, hst.2.1]; exact hSc.1 t ht
      · intro hf a ha
        rcases List.mem_append.1 ha with ha | ha
        · exact h2 hf a ha
        · rw [List.mem_singleton.1 ha, hst.2.1]
          simp only [Bool.and_eq_true, decide_eq_true_eq, Bool.not_eq_true', not_and] at hc
          have := hc hf
          omega
theorem asc_put {S : List Nat} {x : Nat} (hr : Red S) (hS : Asc S) (hx : Sm x) : Asc (putS S x) := by
  unfold putS
  split
  · exact hS
  · rename_i h0
    exact asc_fold (leftS_sm hr.ne hx) h0 S ([], false) hS (fun s hs => ⟨(hr.ne s hs).1, (hr.ne s hs).2, leftS_off hr x s hs⟩) .nil (by simp) (by simp) (by simp)
theorem asc_reduce {rows : List Nat} (h : ∀ r ∈ rows, Sm r) : Asc (reduceS rows) := by
  unfold reduceS
  have : ∀ (rows S : List Nat), Red S → Asc S → (∀ r ∈ rows, Sm r) → Asc (rows.foldl putS S) := by
    intro rows
    induction rows with
    | nil => intro S _ hS _; exact hS
    | cons r rows ih => intro S h1 hS h; exact ih _ (red_put h1 (h r (List.mem_cons_self ..))) (asc_put h1 hS (h r (List.mem_cons_self ..))) (fun s hs => h s (List.mem_cons_of_mem _ hs))
  exact this rows [] Red.nil .nil h
/-- two orders of one list, both ascending: one list -/
theorem asc_unique : ∀ {S T : List Nat}, Asc S → Asc T → S.Perm T → S = T
  | [], T, _, _, h => (List.Perm.nil_eq h)
  | s :: S, [], _, _, h => by have := h.length_eq; simp at this
  | s :: S, t :: T, hs, ht, h => by
    have h1 := List.pairwise_cons.1 hs
    have h2 := List.pairwise_cons.1 ht
    have e : s = t := by
      have m1 : s ∈ t :: T := h.mem_iff.1 (List.mem_cons_self ..)
      have m2 : t ∈ s :: S := h.mem_iff.2 (List.mem_cons_self ..)
      rcases List.mem_cons.1 m1 with e | m1
      · exact e
      · rcases List.mem_cons.1 m2 with e | m2
        · exact e.symm
        · have := h1.1 t m2; have := h2.1 s m1; omega
    subst e
    rw [asc_unique h1.2 h2.2 (List.Perm.cons_inv h)]

/-! ### rows under slices.SortFunc -/
/-- a mask that has a pivot -/
def PM := { x : Nat // x ≠ 0 ∧ Sm x }
instance : Inhabited PM := ⟨⟨1, by decide, Sm.one⟩⟩
def encP (x : PM) : Value := .int .i64 (x.1 : Int)
def cfP (x y : PM) : Int := Lib.compareInt ((pv x.1 : Nat) : Int) ((pv y.1 : Nat) : Int)
theorem ltP (x y : PM) : ltOf cfP x y = decide (pv x.1 < pv y.1) := by
  unfold ltOf cfP Lib.compareInt
  by_cases h1 : pv x.1 < pv y.1
  · simp [h1]
  · by_cases h2 : pv y.1 < pv x.1 <;> simp [h1, h2]
theorem swoP : Sort.SWO (ltOf cfP) where
  irrefl x := by rw [ltP]; simp
  trans x y z h1 h2 := by rw [ltP] at *; simp at *; omega
  ntrans x y z h1 h2 := by rw [ltP] at *; simp at *; omega
def pms : (S : List Nat) → (∀ r ∈ S, r ≠ 0 ∧ Sm r) → List PM
  | [], _ => []
  | r :: S, h => ⟨r, h r (List.mem_cons_self ..)⟩ :: pms S (fun s hs => h s (List.mem_cons_of_mem _ hs))
theorem pms_val : ∀ (S : List Nat) (h : ∀ r ∈ S, r ≠ 0 ∧ Sm r), (pms S h).map (·.1) = S
  | [], _ => rfl
  | r :: S, _ => congrArg (r :: ·) (pms_val S _)
theorem enc_val (L : List PM) : L.map encP = nv (L.map (·.1)) := by simp [nv, encP, List.map_map, Function.comp_def]
/-- what the sort leaves is the reduced list -/
theorem sorted_pm {S T : List Nat} {d d' : Array PM} (hS : Red S) (hd : d.toList.map (·.1) = S) (hp : Sort.PermIn 0 d.size d d') (hs : Sort.SortedIn (ltOf cfP) 0 d.size d') (hT : Asc T) (hST : S.Perm T) : d'.toList.map (·.1) = T := by
  obtain ⟨hsz, _, hpm⟩ := hp
  have e1 : (d'.extract 0 d.size).toList = d'.toList := by rw [← hsz]; simp
  have e2 : (d.extract 0 d.size).toList = d.toList := by simp
  rw [e1, e2] at hpm
  have hp1 : (d'.toList.map (·.1)).Perm S := by rw [← hd]; exact hpm.map _
  have hr : Red (d'.toList.map (·.1)) := hS.perm hp1.symm
  refine asc_unique ?_ hT (hp1.trans hST)
  have hnd := hr.off
  rw [List.pairwise_map] at hnd
  unfold Asc
  rw [List.pairwise_map]
  rw [List.pairwise_iff_getElem] at hnd ⊢
  intro i j hi hj hij
  have hne : pv (d'.toList[i]).1 ≠ pv (d'.toList[j]).1 := fun e => by
    have h1 := (hnd i j hi hj hij).1
    have h2 := (d'.toList[i]).2
    rw [← e, tb_pv h2.1 h2.2] at h1; cases h1
  have hlt := hs i j (Nat.zero_le _) hij (by rw [← hsz]; simpa using hj)
  rw [ltP] at hlt
  simp only [Array.length_toList] at hi hj
  rw [getElem!_pos d' j hj, getElem!_pos d' i hi] at hlt
  simp only [Array.getElem_toList] at hne ⊢
  simp at hlt
  omega

/-- a row of the call's own behind the sort -/
theorem sort_own {w : World} {B n cap g q : Nat} {e : TypeId} {xs : List Value} {os : Array Obj} (h : w.ownsRow B e 1 (.slice (some ⟨g, 0, none⟩) n cap) n xs) (d : Array PM) (hd : d.size = n) :
    (sortWorld encP w g 0 q d os).ownsRow B e 1 (.slice (some ⟨g, 0, none⟩) n cap) n (d.toList.map encP) ∧ Keeps w (sortWorld encP w g 0 q d os) [some g] := by
  rcases h.2 with ⟨h0, _⟩ | ⟨g', cap', cur, hv, hb, hg, hc, hm, hs, ht⟩
  · cases h0
  · injection hv with hA _ hcap
    injection hA with hA; injection hA with hA
    subst hA; subst hcap
    have hlt := (Array.getElem?_eq_some_iff.1 hg).1
    have hmod : ∀ k, k < w.heap.size → (sortWorld encP w g 0 q d os).heap[k]? = (w.heap.modify g (Sort.onCells (Sort.putCells encP 0 d)))[k]? := by
      intro k hk
      show ((w.heap.modify g (Sort.onCells (Sort.putCells encP 0 d))) ++ os)[k]? = _
      rw [Array.getElem?_append_left (by simpa using hk)]
    constructor
    · refine ⟨by simp [hd], .inr ⟨g, cap, Sort.putCells encP 0 d cur, rfl, hb, ?_, hc, hm, by simpa [Sort.putCells] using hs, ?_⟩⟩
      · rw [hmod g hlt, Array.getElem?_modify, if_pos rfl, hg]; rfl
      · apply List.ext_getElem?
        intro i
        rw [List.getElem?_take]
        by_cases hi : i < n * 1
        · rw [if_pos hi]
          have hi' : i < d.size := by omega
          have hic : i < cur.size := by omega
          simp only [Sort.putCells, Array.getElem?_toList, Array.getElem?_mapIdx, List.getElem?_map]
          rw [Array.getElem?_eq_getElem hic, Array.getElem?_eq_getElem hi']
          simp only [Option.map_some, Nat.zero_le, true_and, Nat.zero_add, Nat.sub_zero, if_pos hi']
          rw [getElem!_pos d i hi']
        · rw [if_neg hi, List.getElem?_eq_none (by simp; omega)]
    · refine ⟨rfl, rfl, rfl, ?_, ?_⟩
      · show w.heap.size ≤ ((w.heap.modify g (Sort.onCells (Sort.putCells encP 0 d))) ++ os).size
        simp
      · intro k hk hn
        rw [hmod k hk, Array.getElem?_modify, if_neg (fun e => hn (by simp [e]))]
theorem sort_holds {w : World} {B n cap g : Nat} {e : TypeId} {S : List Nat} (hS : ∀ r ∈ S, r ≠ 0 ∧ Sm r) (h : w.ownsRow B e 1 (.slice (some ⟨g, 0, none⟩) n cap) n (nv S)) :
    Sort.Holds encP w g 0 (pms S hS).toArray ∧ (pms S hS).toArray.size = n := by
  have hl : (pms S hS).length = S.length := by have := congrArg List.length (pms_val S hS); simpa using this
  have hn := h.1
  rw [nv_length] at hn
  refine ⟨fun j hj => ?_, by simp [hl]; omega⟩
  have hj' : j < S.length := by rw [← hl]; simpa using hj
  refine ⟨?_, ?_⟩
  · have h1 := h.cells rfl j (encP (pms S hS)[j]!) (by
      have e : nv S = (pms S hS).map encP := by rw [enc_val, pms_val]
      rw [e, List.getElem?_map, List.getElem?_eq_getElem (by omega)]
      rw [getElem!_pos (pms S hS) j (by omega)]; rfl)
    rw [Addr.add_lit] at h1
    rw [h1]
    congr 1
    rw [getElem!_pos _ j (by omega), getElem!_pos _ j hj]
    simp
  · rw [Nat.zero_add]; exact h.frozenAt j
end Go.Proofs.YtchmplpgamekjaaDoor
