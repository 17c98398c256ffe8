/- drawn regions whose last operation stores into a cell that they load: the loads are taken first all the same · the program's tables: finish · the program's tables: fill · the program's product of two basis elements -/
import Derived.OrdersHeld
import Derived.StillTail
import Derived.Deep.RegionHeld3
import Derived.Test.YtdkmdmpaflgfaaaGreatDoorBxad
import Derived.Deep.DeepCutAuto
import Derived.Deep.QuietTactic
import Derived.BigQuiet
import Derived.Test.YtdkmdmpaflgfaaaGreatDoorBxab
set_option linter.all false
namespace Go.Proofs.YtdkmdmpaflgfaaaGreatDoor

section
variable {P : Program} {ops : Array Oper} {Q : Exit → Act → World → Prop} {md : Region.Mode} {S : World → Prop} {last : Nat}

/-- any order, S behind every operation ahead of number 'last' -/
def wpAnyK (P : Program) (md : Region.Mode) (ops : Array Oper) (Q : Exit → Act → World → Prop) (S : World → Prop) (last : Nat) : Nat → Array Bool → Act → World → Prop
  | 0, listed, a, w => Region.ready md ops listed = [] ∧ Q .normal a w
  | fuel + 1, listed, a, w =>
    (Region.ready md ops listed = [] → Q .normal a w) ∧
    ∀ i ∈ Region.ready md ops listed, wpOp P ops Q i (fun a' w' => (i < last → S w') ∧ wpAnyK P md ops Q S last fuel (listed.setIfInBounds i true) a' w') a w
/-- all from 'last' on wait for i -/
def waitB (md : Region.Mode) (ops : Array Oper) (last i : Nat) : Bool := (List.range ops.size).all fun j => decide (j < last) || Region.waitsFor md ops j i
theorem wpAny_of_K : ∀ (fuel : Nat) (listed : Array Bool) (a : Act) (w : World), wpAnyK P md ops Q S last fuel listed a w → wpAny P md ops Q fuel listed a w
  | 0, _, _, _, h => h
  | fuel + 1, _, _, _, h => ⟨h.1, fun i hi => wpOp_mono (fun a' w' h' => wpAny_of_K fuel _ a' w' h'.2) (h.2 i hi)⟩
theorem wpAnyK_first {i : Nat} {oi : Oper} {v : Value} (hi : ops[i]? = some oi) (hsel : ∀ (j : Nat) (o : Oper) cs b, ops[j]? = some o → o.op ≠ .select cs b)
    (hQ : ∀ c a w, Q (.panic c) (a.put oi.dst v) w → Q (.panic c) a w) (hwait : waitB md ops last i = true) :
    ∀ (fuel : Nat) (listed : Array Bool) (a : Act) (w : World),
      (∀ j oj, ops[j]? = some oj → j ≠ i → listed.getD j true = false → (∀ e ∈ oj.after, Region.binds md e = true → e.on ≠ i) → oi.apart ops oj = true) →
      i ∈ Region.ready md ops listed → YieldsIf P ops S oi v a → S w →
      wpAnyK P md ops Q S last fuel (listed.setIfInBounds i true) (a.put oi.dst v) w → wpAnyK P md ops Q S last (fuel + 1) listed a w := by
  intro fuel
  induction fuel with
  | zero =>
    intro listed a w _ hr hy hS H
    refine ⟨fun h => (by rw [h] at hr; cases hr), fun j hj => ?_⟩
    by_cases hji : j = i
    · subst hji; exact hy.wpOp hi hS ⟨fun _ => hS, H⟩
    · have := ready_mono hj hji
      rw [H.1] at this
      cases this
  | succ fuel ih =>
    intro listed a w hfree hr hy hS H
    refine ⟨fun h => (by rw [h] at hr; cases hr), fun j hj => ?_⟩
    by_cases hji : j = i
    · subst hji; exact hy.wpOp hi hS ⟨fun _ => hS, H⟩
    · have h1 := H.2 j (ready_mono hj hji)
      obtain ⟨hjun, oj, hoj, hall⟩ := mem_ready.1 hj
      have hnot : ∀ e ∈ oj.after, Region.binds md e = true → e.on ≠ i := fun e he hb heq => by
        have h1 := hall e he hb
        have h0 := (mem_ready.1 hr).1
        rw [heq] at h1
        rcases Nat.lt_or_ge i listed.size with h' | h'
        · simp [h'] at h0 h1; rw [h0] at h1; cases h1
        · simp [Array.getElem?_eq_none h'] at h1
      have hjl : j < last := by
        refine Decidable.byContradiction fun hjl => ?_
        have hw := List.all_eq_true.1 hwait j (List.mem_range.2 (Array.getElem?_eq_some_iff.1 hoj).1)
        rw [decide_eq_false hjl, Bool.false_or] at hw
        obtain ⟨ol, hol, e, he, hb, heq⟩ := Region.waitsFor_spec hw
        have : ol = oj := Option.some.inj (hol.symm.trans hoj)
        subst this
        exact hnot e he hb heq
      have h2 := wpOp_putIf hoj (hfree j oj hoj hji hjun hnot) (fun cs b => hsel i oi cs b hi) (fun cs b => hsel j oj cs b hoj) hQ hy h1
      have hfree' : ∀ k ok, ops[k]? = some ok → k ≠ i → (listed.setIfInBounds j true).getD k true = false →
          (∀ e ∈ ok.after, Region.binds md e = true → e.on ≠ i) → oi.apart ops ok = true := fun k ok hk hki hun hno => by
        refine hfree k ok hk hki ?_ hno
        by_cases hjk : j = k
        · subst hjk; exact hjun
        · rw [getD_set_ne true hjk] at hun; exact hun
      refine wpOp_mono (fun a' w' h3 => ⟨h3.2.1, ih (listed.setIfInBounds j true) a' w' hfree' (ready_mono hr (Ne.symm hji)) h3.1 (h3.2.1 hjl) ?_⟩) h2
      rw [Array.setIfInBounds_comm _ _ hji]
      exact h3.2.2
theorem wpAnyK_take {i : Nat} {oi : Oper} {v : Value} {fuel : Nat} {listed : Array Bool} {a : Act} {w : World} (hi : ops[i]? = some oi)
    (hs : Region.noSelect ops = true) (hf : Region.free md ops listed i = true) (hr : (Region.ready md ops listed).contains i = true) (hw : waitB md ops last i = true)
    (hQ : ∀ c a w, Q (.panic c) (a.put oi.dst v) w → Q (.panic c) a w) (hy : YieldsIf P ops S oi v a) (hS : S w)
    (h : wpAnyK P md ops Q S last fuel (listed.setIfInBounds i true) (a.put oi.dst v) w) : wpAnyK P md ops Q S last (fuel + 1) listed a w :=
  wpAnyK_first hi (Region.noSelect_spec hs) hQ hw fuel listed a w (Region.free_spec hi hf) (by simpa using hr) hy hS h
theorem wpAnyK_done {listed : Array Bool} {a : Act} {w : World} (hr : Region.ready md ops listed = []) (h : Q .normal a w) :
    ∀ fuel, wpAnyK P md ops Q S last fuel listed a w
  | 0 => ⟨hr, h⟩
  | _ + 1 => ⟨fun _ => h, by rw [hr]; simp⟩
def AllReadyK (P : Program) (md : Region.Mode) (ops : Array Oper) (Q : Exit → Act → World → Prop) (S : World → Prop) (last fuel : Nat) (listed : Array Bool) (a : Act) (w : World) (rs : List Nat) : Prop :=
  ∀ i ∈ rs, wpOp P ops Q i (fun a' w' => (i < last → S w') ∧ wpAnyK P md ops Q S last fuel (listed.setIfInBounds i true) a' w') a w
theorem AllReadyK.nil {fuel : Nat} {listed : Array Bool} {a : Act} {w : World} : AllReadyK P md ops Q S last fuel listed a w [] := fun _ h => by cases h
theorem AllReadyK.cons {fuel : Nat} {listed : Array Bool} {a : Act} {w : World} {i : Nat} {o : Oper} {rs : List Nat} (ho : ops[i]? = some o)
    (h : ∀ K' : Act → World → Prop, Shut (∀ a w, S w → (S w → wpAnyK P md ops Q S last fuel (listed.setIfInBounds i true) a w) → K' a w) → if Region.wanted o (yielded ops a.tmps) = true then Oper.wp P o a w K' Q else K' (a.put o.dst undef) w)
    (hs : AllReadyK P md ops Q S last fuel listed a w rs) : AllReadyK P md ops Q S last fuel listed a w (i :: rs) := fun j hj => by
  rcases List.mem_cons.1 hj with rfl | hj
  · exact wpOp_step ho (fun K' hK => h K' (fun a w hS hW => hK a w ⟨fun _ => hS, hW hS⟩))
  · exact hs j hj
/-- the last one: S is asked no more -/
theorem AllReadyK.fin {fuel : Nat} {listed : Array Bool} {a : Act} {w : World} {i : Nat} {o : Oper} {rs : List Nat} (hl : last ≤ i) (ho : ops[i]? = some o)
    (h : ∀ K' : Act → World → Prop, Shut (∀ a w, wpAnyK P md ops Q S last fuel (listed.setIfInBounds i true) a w → K' a w) → if Region.wanted o (yielded ops a.tmps) = true then Oper.wp P o a w K' Q else K' (a.put o.dst undef) w)
    (hs : AllReadyK P md ops Q S last fuel listed a w rs) : AllReadyK P md ops Q S last fuel listed a w (i :: rs) := fun j hj => by
  rcases List.mem_cons.1 hj with rfl | hj
  · exact wpOp_step ho (fun K' hK => h K' (fun a w hW => hK a w ⟨fun he => absurd hl (Nat.not_le.2 he), hW⟩))
  · exact hs j hj
theorem wpAnyK_ready {rs : List Nat} {fuel : Nat} {listed : Array Bool} {a : Act} {w : World} (hr : Region.ready md ops listed = rs) (hne : rs ≠ [])
    (h : AllReadyK P md ops Q S last fuel listed a w rs) : wpAnyK P md ops Q S last (fuel + 1) listed a w := ⟨fun h0 => absurd (hr ▸ h0) hne, hr ▸ h⟩
theorem wp_region_K {id : Nat} {a : Act} {w : World} (last : Nat) (hm : P.follows .mixedOrders = true) (hS : S w.drew)
    (h : S w.drew → wpAnyK P .any ops Q S last ops.size (Array.replicate ops.size false) a w.drew) : (Code.region id ops true).wp P Q a w :=
  wp_region_any hm (wpAny_of_K _ _ _ _ (h hS))
end
end Go.Proofs.YtdkmdmpaflgfaaaGreatDoor

namespace Go.Proofs.YtdkmdmpaflgfaaaGreatDoor
open Go.RowKit

theorem keepsJ1 {w w' : World} {b : Option Nat} {o : Obj} (hg : (w.alloc o).drew.grownBy w' b) : Keeps w w' [b] := (((Keeps.refl w []).alloc o).drew).trans (Keeps.of_grown hg) (fun j _ h => by simpa using h)
/-- a row cut at its end -/
theorem owns_cut {w : World} {B : Nat} {e : TypeId} {A : Option Addr} {n c k : Nat} {xs : List Value} (h : w.ownsRow B e 1 (.slice A n c) n xs) (hk : k ≤ n) : w.ownsRow B e 1 (.slice A k c) k (xs.take k) := by
  obtain ⟨h1, h2⟩ := h
  refine ⟨by simp; omega, ?_⟩
  rcases h2 with ⟨h0, h3⟩ | ⟨g, cap, cur, hv, hb, hg, hc, hm, hs, ht⟩
  · injection h0 with e1 e2 e3
    subst e1; subst e2; subst e3
    have : k = 0 := by omega
    subst this
    exact .inl ⟨rfl, rfl⟩
  · injection hv with e1 e2 e3
    subst e1; subst e3
    refine .inr ⟨g, c, cur, rfl, hb, hg, by omega, hm, hs, ?_⟩
    rw [← ht, List.take_take, Nat.min_eq_left (by omega), Nat.mul_one]
theorem totT_length (r s : List Int) (C : LL) : (totT r s C).length = r.length + s.length := by simp [totT]
theorem totT_take (r s : List Int) (C : LL) {q : Nat} (h : q < r.length + s.length) : (totT r s C).take (q + 1) = (totT r s C).take q ++ [(diagT r s C (q + 1)).sum] := by
  rw [List.take_succ_eq_append_getElem (by rw [totT_length]; exact h)]; simp [totT]
theorem diag_length (r s : List Int) (C : LL) (k : Nat) : (diagT r s C k).length = k + 1 := by simp [diagT]
theorem diag_take (r s : List Int) (C : LL) {k i : Nat} (h : i < k + 1) : (diagT r s C k).take (i + 1) = (diagT r s C k).take i ++ [entT r s C i (k - i)] := by
  rw [List.take_succ_eq_append_getElem (by rw [diag_length]; exact h)]; simp [diagT]
theorem diag_mem {r s : List Int} {C : LL} {k : Nat} {m : Int} (h : ∀ i j, 0 ≤ entT r s C i j ∧ entT r s C i j ≤ m) : ∀ x ∈ diagT r s C k, 0 ≤ x ∧ x ≤ m := by
  intro x hx
  obtain ⟨i, _, rfl⟩ := List.mem_map.1 hx
  exact h _ _

set_option maxRecDepth 100000 in
set_option maxHeartbeats 8000000 in
theorem finish_any (B g : Nat) (r s : Row) (vc vo : Value) (C O : List Row) (w : World) (hS : TSt w B g r s vc C vo O) (hCl : C.length = r.xs.length) (hCr : ∀ k, k < C.length → (rg C k).xs.length = s.xs.length) (hmb : r.xs.length ≤ 20) (hnb : s.xs.length ≤ 20)
    (hb : ∀ i j, 0 ≤ entT r.xs s.xs (dat C) i j ∧ entT r.xs s.xs (dat C) i j ≤ 1000000) (hO : O.length ≤ 500000000000) :
    Calls Tryz.prog 253 #[.pointer (some ⟨g, 0, none⟩)] w fun e w' => e = .returned (.tuple #[]) ∧ ∃ vo' O', TSt w' B g r s vc C vo' (O ++ O') ∧ dat O' = resT r.xs s.xs (dat C) ∧ Below B w w' := by
  have hBw : B ≤ w.heap.size := Nat.le_trans hS.low (Nat.le_of_lt (Array.getElem?_eq_some_iff.1 hS.blk).1)
  have HS := Lib.hid hS
  have HCL := Lib.hid hCl
  have HCR := Lib.hid hCr
  have HEB := Lib.hid hb
  have hb1 : Below w.heap.size w (w.alloc (.cells #[.pointer (some ⟨g, 0, none⟩)] 210)) := (Below.refl _ _).alloc (Nat.le_refl _) _
  have HB1 := Lib.hid hb1
  have HX1 := Lib.hid (new_cell w (.pointer (some ⟨g, 0, none⟩)) 210)
  obtain ⟨c0, c1, c2, c3, c4, c4', c5⟩ := blk4cells (hS.later hb1).blk
  have x1 := HX1.out
  have hw1 : (w.alloc (.cells #[.pointer (some ⟨g, 0, none⟩)] 210)).heap.size = w.heap.size + 1 := by simp
  have HW1 := Lib.hid hw1
  simp only [Row.val] at c0 c1
  clear hS hCl hCr hb hb1 hw1
  go_enter Tryz.func253, Tryz.ntmps253
  go_wp2_with fail
  generalize hwa : w.alloc (.cells #[.pointer (some ⟨g, 0, none⟩)] 210) = wa at *
  clear hwa
  go_cut [2, 3] (fun o2 o3 wx => ∃ gm gn : Nat, o2 = .pointer (some ⟨gm, 0, none⟩) ∧ o3 = .pointer (some ⟨gn, 0, none⟩) ∧ wx.cell? ⟨gm, 0, none⟩ = some (.int .i64 (r.xs.length : Nat)) ∧ wx.cell? ⟨gn, 0, none⟩ = some (.int .i64 (s.xs.length : Nat)) ∧ Below wa.heap.size wa wx)
  case first =>
    have KS := Lib.hid (fun w' (hb : Below wa.heap.size wa w') => show w'.cell? ⟨w.heap.size, 0, none⟩ = some (.pointer (some ⟨g, 0, none⟩)) ∧ w'.cell? ⟨g, 0, none⟩ = some (.slice r.A r.xs.length r.c) ∧ w'.cell? ⟨g, 1, none⟩ = some (.slice s.A s.xs.length s.c) from ⟨cell_keep x1 hb, cell_keep c0 hb, cell_keep c1 hb⟩)
    have HB_0 := Lib.hid (Below.drew (Below.refl wa.heap.size wa))
    clear x1 c0 c1 c2 c3 c4 c4' c5
    refine wp_region_held_drew (S := (fun w' => w'.cell? ⟨w.heap.size, 0, none⟩ = some (.pointer (some ⟨g, 0, none⟩)) ∧ w'.cell? ⟨g, 0, none⟩ = some (.slice r.A r.xs.length r.c) ∧ w'.cell? ⟨g, 1, none⟩ = some (.slice s.A s.xs.length s.c))) (by kernel_rfl) (by (first | exact KS.out _ HB_0.out | exact KS.out _ (HB_0.out.alloc (Nat.le_refl _) _) | exact KS.out _ ((HB_0.out.alloc (Nat.le_refl _) _).alloc (by simp) _) | exact KS.out _ (((HB_0.out.alloc (Nat.le_refl _) _).alloc (by simp) _).setCell (by simp) _) | exact KS.out _ ((((HB_0.out.alloc (Nat.le_refl _) _).alloc (by simp) _).setCell (by simp) _).setCell (by simp) _))) (fun hHeld => ?_)
    refine wpAnyH_take (i := 0) (oi := ?oim1_1) (v := ?vm1_1) ?hm1_1 (by kernel_rfl) (by kernel_rfl) (by kernel_rfl) ?qm1_1 (Or.inl ⟨?wm1_1, ?ym1_1⟩) (by assumption) ?rm1_1
    case hm1_1 => (simp only [List.getElem?_toArray, List.getElem?_cons_succ, List.getElem?_cons_zero]; rfl)
    case qm1_1 => exact fun _ _ _ h => h
    case wm1_1 => rfl
    case ym1_1 => (intro w hSw; (try dsimp only at hSw); go_simp <;> with_reducible rfl)
    try simp only [Act.put, List.setIfInBounds_toArray, List.set_cons_zero, List.set_cons_succ]
    refine wpAnyH_take (i := 1) (oi := ?oim1_2) (v := ?vm1_2) ?hm1_2 (by kernel_rfl) (by kernel_rfl) (by kernel_rfl) ?qm1_2 (Or.inl ⟨?wm1_2, ?ym1_2⟩) (by assumption) ?rm1_2
    case hm1_2 => (simp only [List.getElem?_toArray, List.getElem?_cons_succ, List.getElem?_cons_zero]; rfl)
    case qm1_2 => exact fun _ _ _ h => h
    case wm1_2 => rfl
    case ym1_2 => (intro w hSw; (try dsimp only at hSw); go_simp <;> with_reducible rfl)
    try simp only [Act.put, List.setIfInBounds_toArray, List.set_cons_zero, List.set_cons_succ]
    refine wpAnyH_take (i := 2) (oi := ?oim1_3) (v := ?vm1_3) ?hm1_3 (by kernel_rfl) (by kernel_rfl) (by kernel_rfl) ?qm1_3 (Or.inl ⟨?wm1_3, ?ym1_3⟩) (by assumption) ?rm1_3
    case hm1_3 => (simp only [List.getElem?_toArray, List.getElem?_cons_succ, List.getElem?_cons_zero]; rfl)
    case qm1_3 => exact fun _ _ _ h => h
    case wm1_3 => rfl
    case ym1_3 => (intro w hSw; (try dsimp only at hSw); go_simp <;> with_reducible rfl)
    try simp only [Act.put, List.setIfInBounds_toArray, List.set_cons_zero, List.set_cons_succ]
    refine wpAnyH_take (i := 3) (oi := ?oim1_4) (v := ?vm1_4) ?hm1_4 (by kernel_rfl) (by kernel_rfl) (by kernel_rfl) ?qm1_4 (Or.inl ⟨?wm1_4, ?ym1_4⟩) (by assumption) ?rm1_4
    case hm1_4 => (simp only [List.getElem?_toArray, List.getElem?_cons_succ, List.getElem?_cons_zero]; rfl)
    case qm1_4 => exact fun _ _ _ h => h
    case wm1_4 => rfl
    case ym1_4 => (intro w hSw; (try dsimp only at hSw); go_simp <;> with_reducible rfl)
    try simp only [Act.put, List.setIfInBounds_toArray, List.set_cons_zero, List.set_cons_succ]
    refine wpAnyH_take (i := 4) (oi := ?oim1_5) (v := ?vm1_5) ?hm1_5 (by kernel_rfl) (by kernel_rfl) (by kernel_rfl) ?qm1_5 (Or.inl ⟨?wm1_5, ?ym1_5⟩) (by assumption) ?rm1_5
    case hm1_5 => (simp only [List.getElem?_toArray, List.getElem?_cons_succ, List.getElem?_cons_zero]; rfl)
    case qm1_5 => exact fun _ _ _ h => h
    case wm1_5 => rfl
    case ym1_5 => (intro w hSw; (try dsimp only at hSw); go_simp <;> with_reducible rfl)
    try simp only [Act.put, List.setIfInBounds_toArray, List.set_cons_zero, List.set_cons_succ]
    refine wpAnyH_take (i := 5) (oi := ?oim1_6) (v := ?vm1_6) ?hm1_6 (by kernel_rfl) (by kernel_rfl) (by kernel_rfl) ?qm1_6 (Or.inl ⟨?wm1_6, ?ym1_6⟩) (by assumption) ?rm1_6
    case hm1_6 => (simp only [List.getElem?_toArray, List.getElem?_cons_succ, List.getElem?_cons_zero]; rfl)
    case qm1_6 => exact fun _ _ _ h => h
    case wm1_6 => rfl
    case ym1_6 => (intro w hSw; (try dsimp only at hSw); go_simp <;> with_reducible rfl)
    try simp only [Act.put, List.setIfInBounds_toArray, List.set_cons_zero, List.set_cons_succ]
    refine wpAnyH_take (i := 6) (oi := ?oim1_7) (v := ?vm1_7) ?hm1_7 (by kernel_rfl) (by kernel_rfl) (by kernel_rfl) ?qm1_7 (Or.inl ⟨?wm1_7, ?ym1_7⟩) (by assumption) ?rm1_7
    case hm1_7 => (simp only [List.getElem?_toArray, List.getElem?_cons_succ, List.getElem?_cons_zero]; rfl)
    case qm1_7 => exact fun _ _ _ h => h
    case wm1_7 => rfl
    case ym1_7 => (intro w hSw; (try dsimp only at hSw); go_simp <;> with_reducible rfl)
    try simp only [Act.put, List.setIfInBounds_toArray, List.set_cons_zero, List.set_cons_succ]
    refine wpAnyH_take (i := 7) (oi := ?oim1_8) (v := ?vm1_8) ?hm1_8 (by kernel_rfl) (by kernel_rfl) (by kernel_rfl) ?qm1_8 (Or.inl ⟨?wm1_8, ?ym1_8⟩) (by assumption) ?rm1_8
    case hm1_8 => (simp only [List.getElem?_toArray, List.getElem?_cons_succ, List.getElem?_cons_zero]; rfl)
    case qm1_8 => exact fun _ _ _ h => h
    case wm1_8 => rfl
    case ym1_8 => (intro w hSw; (try dsimp only at hSw); go_simp <;> with_reducible rfl)
    try simp only [Act.put, List.setIfInBounds_toArray, List.set_cons_zero, List.set_cons_succ]
    refine wpAnyH_take (i := 8) (oi := ?oim1_9) (v := ?vm1_9) ?hm1_9 (by kernel_rfl) (by kernel_rfl) (by kernel_rfl) ?qm1_9 (Or.inl ⟨?wm1_9, ?ym1_9⟩) (by assumption) ?rm1_9
    case hm1_9 => (simp only [List.getElem?_toArray, List.getElem?_cons_succ, List.getElem?_cons_zero]; rfl)
    case qm1_9 => exact fun _ _ _ h => h
    case wm1_9 => rfl
    case ym1_9 => (intro w hSw; (try dsimp only at hSw); go_simp <;> with_reducible rfl)
    try simp only [Act.put, List.setIfInBounds_toArray, List.set_cons_zero, List.set_cons_succ]
    refine wpAnyH_take (i := 9) (oi := ?oim1_10) (v := ?vm1_10) ?hm1_10 (by kernel_rfl) (by kernel_rfl) (by kernel_rfl) ?qm1_10 (Or.inl ⟨?wm1_10, ?ym1_10⟩) (by assumption) ?rm1_10
    case hm1_10 => (simp only [List.getElem?_toArray, List.getElem?_cons_succ, List.getElem?_cons_zero]; rfl)
    case qm1_10 => exact fun _ _ _ h => h
    case wm1_10 => rfl
    case ym1_10 => (intro w hSw; (try dsimp only at hSw); go_simp <;> with_reducible rfl)
    try simp only [Act.put, List.setIfInBounds_toArray, List.set_cons_zero, List.set_cons_succ]
    refine wpAnyH_ready (rs := [10, 11]) (by kernel_rfl) (by simp) ?_
    refine AllReadyH.cons (o := ?oim1_11) ?hm1_11 (fun K hK => ?km1_11) ?mm1_11
    case hm1_11 => (simp only [List.getElem?_toArray, List.getElem?_cons_succ, List.getElem?_cons_zero]; rfl)
    case km1_11 =>
      go_simp
      refine hK.out _ _ (by (first | exact KS.out _ HB_0.out | exact KS.out _ (HB_0.out.alloc (Nat.le_refl _) _) | exact KS.out _ ((HB_0.out.alloc (Nat.le_refl _) _).alloc (by simp) _) | exact KS.out _ (((HB_0.out.alloc (Nat.le_refl _) _).alloc (by simp) _).setCell (by simp) _) | exact KS.out _ ((((HB_0.out.alloc (Nat.le_refl _) _).alloc (by simp) _).setCell (by simp) _).setCell (by simp) _))) (fun hHeld => ?_)
      clear hK K
      try simp only [Act.put, List.setIfInBounds_toArray, List.set_cons_zero, List.set_cons_succ]
      refine wpAnyH_ready (rs := [11]) (by kernel_rfl) (by simp) ?_
      refine AllReadyH.cons (o := ?oim1_12) ?hm1_12 (fun K hK => ?km1_12) ?mm1_12
      case hm1_12 => (simp only [List.getElem?_toArray, List.getElem?_cons_succ, List.getElem?_cons_zero]; rfl)
      case km1_12 =>
        go_simp
        refine hK.out _ _ (by (first | exact KS.out _ HB_0.out | exact KS.out _ (HB_0.out.alloc (Nat.le_refl _) _) | exact KS.out _ ((HB_0.out.alloc (Nat.le_refl _) _).alloc (by simp) _) | exact KS.out _ (((HB_0.out.alloc (Nat.le_refl _) _).alloc (by simp) _).setCell (by simp) _) | exact KS.out _ ((((HB_0.out.alloc (Nat.le_refl _) _).alloc (by simp) _).setCell (by simp) _).setCell (by simp) _))) (fun hHeld => ?_)
        clear hK K
        try simp only [Act.put, List.setIfInBounds_toArray, List.set_cons_zero, List.set_cons_succ]
        refine wpAnyH_ready (rs := [12]) (by kernel_rfl) (by simp) ?_
        refine AllReadyH.cons (o := ?oim1_13) ?hm1_13 (fun K hK => ?km1_13) ?mm1_13
        case hm1_13 => (simp only [List.getElem?_toArray, List.getElem?_cons_succ, List.getElem?_cons_zero]; rfl)
        case km1_13 =>
          go_simp
          refine hK.out _ _ (by (first | exact KS.out _ HB_0.out | exact KS.out _ (HB_0.out.alloc (Nat.le_refl _) _) | exact KS.out _ ((HB_0.out.alloc (Nat.le_refl _) _).alloc (by simp) _) | exact KS.out _ (((HB_0.out.alloc (Nat.le_refl _) _).alloc (by simp) _).setCell (by simp) _) | exact KS.out _ ((((HB_0.out.alloc (Nat.le_refl _) _).alloc (by simp) _).setCell (by simp) _).setCell (by simp) _))) (fun hHeld => ?_)
          clear hK K
          try simp only [Act.put, List.setIfInBounds_toArray, List.set_cons_zero, List.set_cons_succ]
          refine wpAnyH_ready (rs := [13]) (by kernel_rfl) (by simp) ?_
          refine AllReadyH.cons (o := ?oim1_14) ?hm1_14 (fun K hK => ?km1_14) ?mm1_14
          case hm1_14 => (simp only [List.getElem?_toArray, List.getElem?_cons_succ, List.getElem?_cons_zero]; rfl)
          case km1_14 =>
            go_simp
            refine hK.out _ _ (by (first | exact KS.out _ HB_0.out | exact KS.out _ (HB_0.out.alloc (Nat.le_refl _) _) | exact KS.out _ ((HB_0.out.alloc (Nat.le_refl _) _).alloc (by simp) _) | exact KS.out _ (((HB_0.out.alloc (Nat.le_refl _) _).alloc (by simp) _).setCell (by simp) _) | exact KS.out _ ((((HB_0.out.alloc (Nat.le_refl _) _).alloc (by simp) _).setCell (by simp) _).setCell (by simp) _))) (fun hHeld => ?_)
            clear hK K
            try simp only [Act.put, List.setIfInBounds_toArray, List.set_cons_zero, List.set_cons_succ]
            refine wpAnyH_done (by kernel_rfl) ?_ _
            go_wp2_with fail
            go_meet
            first
              | exact ⟨_, _, rfl, rfl, drew_cell (new_cell2 _ _ _ _), drew_cell (new_cell1 _ _ _ _), ((HB_0.out.alloc (Nat.le_refl _) _).alloc (by simp) _)⟩
              | exact ⟨_, _, rfl, rfl, drew_cell (new_cell1 _ _ _ _), drew_cell (new_cell2 _ _ _ _), ((HB_0.out.alloc (Nat.le_refl _) _).alloc (by simp) _)⟩
          exact AllReadyH.nil
        exact AllReadyH.nil
      exact AllReadyH.nil
    refine AllReadyH.cons (o := ?oim1_15) ?hm1_15 (fun K hK => ?km1_15) ?mm1_15
    case hm1_15 => (simp only [List.getElem?_toArray, List.getElem?_cons_succ, List.getElem?_cons_zero]; rfl)
    case km1_15 =>
      go_simp
      refine hK.out _ _ (by (first | exact KS.out _ HB_0.out | exact KS.out _ (HB_0.out.alloc (Nat.le_refl _) _) | exact KS.out _ ((HB_0.out.alloc (Nat.le_refl _) _).alloc (by simp) _) | exact KS.out _ (((HB_0.out.alloc (Nat.le_refl _) _).alloc (by simp) _).setCell (by simp) _) | exact KS.out _ ((((HB_0.out.alloc (Nat.le_refl _) _).alloc (by simp) _).setCell (by simp) _).setCell (by simp) _))) (fun hHeld => ?_)
      clear hK K
      try simp only [Act.put, List.setIfInBounds_toArray, List.set_cons_zero, List.set_cons_succ]
      refine wpAnyH_ready (rs := [10]) (by kernel_rfl) (by simp) ?_
      refine AllReadyH.cons (o := ?oim1_16) ?hm1_16 (fun K hK => ?km1_16) ?mm1_16
      case hm1_16 => (simp only [List.getElem?_toArray, List.getElem?_cons_succ, List.getElem?_cons_zero]; rfl)
      case km1_16 =>
        go_simp
        refine hK.out _ _ (by (first | exact KS.out _ HB_0.out | exact KS.out _ (HB_0.out.alloc (Nat.le_refl _) _) | exact KS.out _ ((HB_0.out.alloc (Nat.le_refl _) _).alloc (by simp) _) | exact KS.out _ (((HB_0.out.alloc (Nat.le_refl _) _).alloc (by simp) _).setCell (by simp) _) | exact KS.out _ ((((HB_0.out.alloc (Nat.le_refl _) _).alloc (by simp) _).setCell (by simp) _).setCell (by simp) _))) (fun hHeld => ?_)
        clear hK K
        try simp only [Act.put, List.setIfInBounds_toArray, List.set_cons_zero, List.set_cons_succ]
        refine wpAnyH_ready (rs := [12]) (by kernel_rfl) (by simp) ?_
        refine AllReadyH.cons (o := ?oim1_17) ?hm1_17 (fun K hK => ?km1_17) ?mm1_17
        case hm1_17 => (simp only [List.getElem?_toArray, List.getElem?_cons_succ, List.getElem?_cons_zero]; rfl)
        case km1_17 =>
          go_simp
          refine hK.out _ _ (by (first | exact KS.out _ HB_0.out | exact KS.out _ (HB_0.out.alloc (Nat.le_refl _) _) | exact KS.out _ ((HB_0.out.alloc (Nat.le_refl _) _).alloc (by simp) _) | exact KS.out _ (((HB_0.out.alloc (Nat.le_refl _) _).alloc (by simp) _).setCell (by simp) _) | exact KS.out _ ((((HB_0.out.alloc (Nat.le_refl _) _).alloc (by simp) _).setCell (by simp) _).setCell (by simp) _))) (fun hHeld => ?_)
          clear hK K
          try simp only [Act.put, List.setIfInBounds_toArray, List.set_cons_zero, List.set_cons_succ]
          refine wpAnyH_ready (rs := [13]) (by kernel_rfl) (by simp) ?_
          refine AllReadyH.cons (o := ?oim1_18) ?hm1_18 (fun K hK => ?km1_18) ?mm1_18
          case hm1_18 => (simp only [List.getElem?_toArray, List.getElem?_cons_succ, List.getElem?_cons_zero]; rfl)
          case km1_18 =>
            go_simp
            refine hK.out _ _ (by (first | exact KS.out _ HB_0.out | exact KS.out _ (HB_0.out.alloc (Nat.le_refl _) _) | exact KS.out _ ((HB_0.out.alloc (Nat.le_refl _) _).alloc (by simp) _) | exact KS.out _ (((HB_0.out.alloc (Nat.le_refl _) _).alloc (by simp) _).setCell (by simp) _) | exact KS.out _ ((((HB_0.out.alloc (Nat.le_refl _) _).alloc (by simp) _).setCell (by simp) _).setCell (by simp) _))) (fun hHeld => ?_)
            clear hK K
            try simp only [Act.put, List.setIfInBounds_toArray, List.set_cons_zero, List.set_cons_succ]
            refine wpAnyH_done (by kernel_rfl) ?_ _
            go_wp2_with fail
            go_meet
            first
              | exact ⟨_, _, rfl, rfl, drew_cell (new_cell2 _ _ _ _), drew_cell (new_cell1 _ _ _ _), ((HB_0.out.alloc (Nat.le_refl _) _).alloc (by simp) _)⟩
              | exact ⟨_, _, rfl, rfl, drew_cell (new_cell1 _ _ _ _), drew_cell (new_cell2 _ _ _ _), ((HB_0.out.alloc (Nat.le_refl _) _).alloc (by simp) _)⟩
          exact AllReadyH.nil
        exact AllReadyH.nil
      exact AllReadyH.nil
    exact AllReadyH.nil
  case rest =>
  obtain ⟨gm, gn, rfl, rfl, hm, hn, hb⟩ := hcut
  have HBa := Lib.hid (HB1.out.trans (hb.mono HB1.out.size))
  have HXa := Lib.hid (cell_keep x1 hb)
  have HM := Lib.hid hm
  have HN := Lib.hid hn
  have hwb : wa.heap.size ≤ wc.heap.size := hb.size
  have hBc : B ≤ wc.heap.size := Nat.le_trans hBw HBa.out.size
  have HSc := Lib.hid (HS.out.later HBa.out)
  obtain ⟨Ac, cc, hvc, hrdC⟩ := HSc.out.rdC
  have HRC := Lib.hid hrdC
  have HVC := Lib.hid hvc
  have HTT := Lib.hid (fun q hq => totT_take r.xs s.xs (dat C) (q := q) hq)
  have HCLO := Lib.hid (fun (i j : Nat) (W : World) (hij : 1 ≤ i + j) (hi : i ≤ 3000) (hj : j ≤ 3000) (hb : Below wc.heap.size wc W) => atClo_any gm gn w.heap.size g r s vc vo C i j W (cell_keep HM.out hb) (cell_keep HN.out hb) (cell_keep HXa.out hb) (HSc.out.later hb).blk
    ((show Rd wc r.A (iv r.xs) from owns_Rd HSc.out.own_r).below hb) ((show Rd wc s.A (iv s.xs) from owns_Rd HSc.out.own_s).below hb) Ac cc HVC.out (HRC.out.below hb) HCL.out HCR.out (by omega) (by omega) hij hi hj)
  clear hb hm hn hvc hrdC x1 c0 c1 c2 c3 c4 c4' c5
  generalize hmm : r.xs.length = m at *
  generalize hnn : s.xs.length = n at *
  have HMM := Lib.hid hmm
  have HNN := Lib.hid hnn
  clear hmm hnn
  go_wp2_with fail
  go_loopw [5, 6] (fun v5 v6 wr => ∃ q gT cT : Nat, q ≤ m + n ∧ v6 = .int .i64 ((q : Int) + 1) ∧ v5 = .slice (some ⟨gT, 0, none⟩) q cT ∧ wr.ownsRow wc.heap.size 2 1 (.slice (some ⟨gT, 0, none⟩) q cT) q (iv ((totT r.xs s.xs (dat C)).take q)) ∧ Hid (∀ k, k < q → apN 0 (diagT r.xs s.xs (dat C) (k + 1)) = true) ∧ Below wc.heap.size wc wr) (fun _ v6 _ => m + n + 1 - (intOf v6).toNat)
  case atStart => exact ⟨0, wc.heap.size, 0, by omega, rfl, rfl, World.ownsRow_made wc #[] 0 (Nat.le_refl _) (by decide) (by simp), Lib.hid (fun k hk => by omega), (Below.refl _ _).alloc (Nat.le_refl _) _⟩
  case round =>
    obtain ⟨q, gT, cT, hq, rfl, rfl, hown, HAP, hbel⟩ := hrel
    obtain ⟨wv, hwv⟩ : ∃ wv, wv = wr := ⟨_, rfl⟩
    subst hwv
    have HO := Lib.hid hown
    have HB := Lib.hid hbel
    have hs0 := hbel.size
    have hmc := cell_keep HM.out hbel
    have hnc := cell_keep HN.out hbel
    by_cases hlt : q < m + n
    · have hqi : (q : Int) + 1 ≤ (m : Int) + (n : Int) := by omega
      clear hown hbel
      go_wp2_with fail
      clear hmc hnc
      go_loopw [7, 8] (fun v7 v8 wr => ∃ i gD cD : Nat, i ≤ q + 2 ∧ v8 = .int .i64 i ∧ v7 = .slice (some ⟨gD, 0, none⟩) i cD ∧ wr.ownsRow wv.heap.size 2 1 (.slice (some ⟨gD, 0, none⟩) i cD) i (iv ((diagT r.xs s.xs (dat C) (q + 1)).take i)) ∧ Below wv.heap.size wv wr) (fun _ v8 _ => q + 2 - (intOf v8).toNat)
      case atStart => exact ⟨0, wv.heap.size, 0, by omega, rfl, rfl, World.ownsRow_made wv #[] 0 (Nat.le_refl _) (by decide) (by simp), (Below.refl _ _).alloc (Nat.le_refl _) _⟩
      case round =>
        obtain ⟨i, gD, cD, hi, rfl, rfl, hown, hbel⟩ := hrel
        have HOD := Lib.hid hown
        have HBD := Lib.hid hbel
        have hs1 := hbel.size
        have HBW := Lib.hid (HB.out.trans (hbel.mono hs0))
        by_cases hi2 : i < q + 2
        · have hii : (i : Int) ≤ (q : Int) + 1 := by omega
          have hsub : (q : Int) + 1 - (i : Int) = ((q + 1 - i : Nat) : Int) := by omega
          have HTS := Lib.hid (diag_take r.xs s.xs (dat C) (k := q + 1) (i := i) (by omega))
          have HC := Lib.hid (fun (W : World) (hb : Below wc.heap.size wc W) => HCLO.out i (q + 1 - i) W (by omega) (by omega) (by omega) hb)
          generalize entT r.xs s.xs (dat C) i (q + 1 - i) = z at *
          have hiq : i < 1099511627776 := by omega
          clear hown hbel
          go_wp2_with (first
            | (go_at_call 260; (try rw [hsub]); refine (HC.out _ HBW.out).mono ?_; rintro e w' ⟨rfl, rfl⟩)
            | (at_builtin; refine wpList_app1 _ _ _ _ _ etI (by rfl) (by rfl) wv.heap.size (.slice (some ⟨gD, 0, none⟩) i cD) i (iv ((diagT r.xs s.xs (dat C) (q + 1)).take i)) (by rfl) (HOD.out.alloc _) _ (.int .i64 z) (by rfl) (new_cell _ _ _) (by rfl) hiq (Nat.le_trans hs1 (Nat.le_of_lt (by simp))) ?_; (intro g1 cap1 w1 hown1 hgrow1 hat1 hlt1; have HO1 := Lib.hid hown1; have HB1 := Lib.hid (below_app2 HBD.out hs1 HOD.out hgrow1); clear hown1 hgrow1 hat1 hlt1)))
          go_roundw
          case rel => exact ⟨i + 1, g1, cap1, by omega, by go_num, rfl, by rw [HTS.out, iv_append]; exact HO1.out, HB1.out⟩
          case measure => simp [intOf]; omega
        · obtain rfl : i = q + 2 := by omega
          have hii : ¬ (((q + 2 : Nat) : Int) ≤ (q : Int) + 1) := by omega
          have hdt : (diagT r.xs s.xs (dat C) (q + 1)).take (q + 2) = diagT r.xs s.xs (dat C) (q + 1) := List.take_of_length_le (by rw [diag_length]; omega)
          rw [hdt] at HOD
          have hdl := diag_length r.xs s.xs (dat C) (q + 1)
          have hdm := diag_mem (k := q + 1) HEB.out
          have HAPT := Lib.hid (fun W (hb : Below w.heap.size w W) => True.intro)
          have HPA := Lib.hid (apart_any (some ⟨gD, 0, none⟩) (q + 2) cD (diagT r.xs s.xs (dat C) (q + 1)) wr hdl.symm (by omega) (fun x hx => ⟨(hdm x hx).1, by have := (hdm x hx).2; omega⟩) (owns_Rd HOD.out))
          have HSM := Lib.hid (sum_any (some ⟨gD, 0, none⟩) (q + 2) cD (diagT r.xs s.xs (dat C) (q + 1)) wr hdl.symm (by omega) (fun x hx => ⟨(hdm x hx).1, by have := (hdm x hx).2; omega⟩) (owns_Rd HOD.out))
          have HTQ := Lib.hid (HTT.out q hlt)
          have HOT := Lib.hid (owns_keeps HO.out (Keeps.of_below HBD.out) (.inr (by simp)))
          have HNO : Hid (apN 0 (diagT r.xs s.xs (dat C) (q + 1)) = false → resT r.xs s.xs (dat C) = []) := Lib.hid (fun h => by
            unfold resT
            rw [if_neg]
            intro ho
            have := List.all_eq_true.1 ho q (List.mem_range.2 (by rw [HMM.out, HNN.out]; exact hlt))
            rw [h] at this; cases this)
          generalize hD : diagT r.xs s.xs (dat C) (q + 1) = D at *
          have HDD := Lib.hid hD
          clear hD
          have hq1 : q < 1099511627776 := by omega
          clear hown hbel hdt hdl hdm
          cases hap : apN 0 D
          · rw [hap] at HPA
            have HR0 := Lib.hid (HNO.out hap)
            clear hap
            go_wp2_with (go_at_call 261; refine HPA.out.mono ?_; rintro e w' ⟨rfl, rfl⟩)
            refine bodyPost_ret (results_none rfl _ _ _) rfl ?_
            exact ⟨rfl, vo, [], by rw [List.append_nil]; exact HSc.out.later HBW.out, by rw [HR0.out]; rfl, (HBa.out.trans (HBW.out.mono HBa.out.size)).mono hBw⟩
          · rw [hap] at HPA
            have HAP2 : Hid (∀ k, k < q + 1 → apN 0 (diagT r.xs s.xs (dat C) (k + 1)) = true) := Lib.hid (fun k hk => by
              by_cases e : k = q
              · subst e; rw [HDD.out]; exact hap
              · exact HAP.out k (by omega))
            clear hap
            go_wp2_with (first
              | (go_at_call 261; refine HPA.out.mono ?_; rintro e w' ⟨rfl, rfl⟩)
              | (go_at_call 63; refine HSM.out.mono ?_; rintro e w' ⟨rfl, rfl⟩)
              | (at_builtin; refine wpList_app1 _ _ _ _ _ etI (by rfl) (by rfl) wc.heap.size (.slice (some ⟨gT, 0, none⟩) q cT) q (iv ((totT r.xs s.xs (dat C)).take q)) (by rfl) (HOT.out.alloc _) _ (.int .i64 D.sum) (by rfl) (new_cell _ _ _) (by rfl) hq1 (Nat.le_trans (Nat.le_trans hs0 hs1) (Nat.le_of_lt (by simp))) ?_; (intro g1 cap1 w1 hown1 hgrow1 hat1 hlt1; have HO1 := Lib.hid hown1; have HB1 := Lib.hid (below_app2 HBW.out (Nat.le_trans hs0 hs1) HOT.out hgrow1); clear hown1 hgrow1 hat1 hlt1)))
            go_roundw
            case rel => exact ⟨q + 1, g1, cap1, by omega, by go_num, rfl, by rw [HTQ.out, iv_append]; exact HO1.out, HAP2, HB1.out⟩
            case measure => simp [intOf]; omega
    · have hqe : q = m + n := by omega
      have hqi : ¬ (q : Int) + 1 ≤ (m : Int) + (n : Int) := by omega
      have HQL : Hid (q = (totT r.xs s.xs (dat C)).length) := Lib.hid (by rw [totT_length, HMM.out, HNN.out]; exact hqe)
      have hte : (totT r.xs s.xs (dat C)).take q = totT r.xs s.xs (dat C) := List.take_of_length_le (by rw [← HQL.out]; exact Nat.le_refl _)
      rw [hte] at HO
      have HRE : Hid (resT r.xs s.xs (dat C) = [trimL (totT r.xs s.xs (dat C))]) := Lib.hid (by
        unfold resT
        rw [if_pos]
        unfold okT
        rw [List.all_eq_true]
        intro k hk
        exact HAP.out k (by have := List.mem_range.1 hk; rw [HMM.out, HNN.out] at this; omega))
      generalize totT r.xs s.xs (dat C) = T at *
      have hx := cell_keep HXa.out hbel
      have HSr := Lib.hid (HSc.out.later hbel)
      obtain ⟨_, _, _, c3, c4, _, c5⟩ := blk4cells HSr.out.blk
      have hvog : vo.ownBlock ≠ some g := own_ne_blk HSr.out.oo HSr.out.blk (by decide)
      have hvob : vo.ownBlock ≠ some w.heap.size := fun e => by have := (HS.out.oo.lt _ e).2; omega
      have hwlt : w.heap.size < wv.heap.size := World.block_lt_of_cell? wv _ hx
      have KS := Lib.hid (fun w' (hk : Keeps wv w' [vo.ownBlock]) => show w'.cell? ⟨w.heap.size, 0, none⟩ = some (.pointer (some ⟨g, 0, none⟩)) ∧ w'.cell? ⟨g, 3, none⟩ = some vo from ⟨hk.cellSome hx (by simpa using fun e => hvob e.symm), hk.cellSome c3 (by simpa using fun e => hvog e.symm)⟩)
      have HFZ := Lib.hid (fun w' (hk : Keeps wv w' [vo.ownBlock]) => show w'.frozen? ⟨g, 3, none⟩ = false from (hk.frozen (a := ⟨g, 3, none⟩) c5 (by simpa using fun e => hvog e.symm)).trans c4)
      have HTM := Lib.hid (trimmed_any gT q cT wc.heap.size T wv.drew HQL.out (by omega) HO.out)
      have htl : (trimL T).length ≤ q := by rw [HQL.out]; unfold trimL; rw [List.length_take]; omega
      have HCUT := Lib.hid (owns_cut HO.out htl)
      have hcutx : T.take (trimL T).length = trimL T := by
        unfold trimL; rw [List.length_take, List.take_eq_take_iff]; omega
      have HTX := Lib.hid hcutx
      have HTW := Lib.hid (Below.drew hbel)
      have hs9 := hbel.size
      clear hown hbel hte hx c3 c4 htl hcutx hqe
      go_wp2_with fail
      clear hmc hnc
      refine wp_region_K (S := (fun w' => w'.cell? ⟨w.heap.size, 0, none⟩ = some (.pointer (some ⟨g, 0, none⟩)) ∧ w'.cell? ⟨g, 3, none⟩ = some vo)) 11 (by kernel_rfl) (by (first | exact KS.out _ ((Keeps.refl _ _).drew) | exact KS.out _ (((Keeps.refl _ _).alloc _).drew) | exact KS.out _ HK6.out)) (fun hHeld => ?_)
      refine wpAnyK_take (i := 0) (oi := ?oik2_1) (v := ?vk2_1) ?hk2_1 (by kernel_rfl) (by kernel_rfl) (by kernel_rfl) (by kernel_rfl) ?qk2_1 (Or.inl ⟨?wk2_1, ?yk2_1⟩) (by assumption) ?rk2_1
      case hk2_1 => (simp only [List.getElem?_toArray, List.getElem?_cons_succ, List.getElem?_cons_zero]; rfl)
      case qk2_1 => exact fun _ _ _ h => h
      case wk2_1 => rfl
      case yk2_1 => (intro w hSw; (try dsimp only at hSw); go_simp <;> with_reducible rfl)
      try simp only [Act.put, List.setIfInBounds_toArray, List.set_cons_zero, List.set_cons_succ]
      refine wpAnyK_take (i := 1) (oi := ?oik2_2) (v := ?vk2_2) ?hk2_2 (by kernel_rfl) (by kernel_rfl) (by kernel_rfl) (by kernel_rfl) ?qk2_2 (Or.inl ⟨?wk2_2, ?yk2_2⟩) (by assumption) ?rk2_2
      case hk2_2 => (simp only [List.getElem?_toArray, List.getElem?_cons_succ, List.getElem?_cons_zero]; rfl)
      case qk2_2 => exact fun _ _ _ h => h
      case wk2_2 => rfl
      case yk2_2 => (intro w hSw; (try dsimp only at hSw); go_simp <;> with_reducible rfl)
      try simp only [Act.put, List.setIfInBounds_toArray, List.set_cons_zero, List.set_cons_succ]
      refine wpAnyK_take (i := 2) (oi := ?oik2_3) (v := ?vk2_3) ?hk2_3 (by kernel_rfl) (by kernel_rfl) (by kernel_rfl) (by kernel_rfl) ?qk2_3 (Or.inl ⟨?wk2_3, ?yk2_3⟩) (by assumption) ?rk2_3
      case hk2_3 => (simp only [List.getElem?_toArray, List.getElem?_cons_succ, List.getElem?_cons_zero]; rfl)
      case qk2_3 => exact fun _ _ _ h => h
      case wk2_3 => rfl
      case yk2_3 => (intro w hSw; (try dsimp only at hSw); go_simp <;> with_reducible rfl)
      try simp only [Act.put, List.setIfInBounds_toArray, List.set_cons_zero, List.set_cons_succ]
      refine wpAnyK_take (i := 3) (oi := ?oik2_4) (v := ?vk2_4) ?hk2_4 (by kernel_rfl) (by kernel_rfl) (by kernel_rfl) (by kernel_rfl) ?qk2_4 (Or.inl ⟨?wk2_4, ?yk2_4⟩) (by assumption) ?rk2_4
      case hk2_4 => (simp only [List.getElem?_toArray, List.getElem?_cons_succ, List.getElem?_cons_zero]; rfl)
      case qk2_4 => exact fun _ _ _ h => h
      case wk2_4 => rfl
      case yk2_4 => (intro w hSw; (try dsimp only at hSw); go_simp <;> with_reducible rfl)
      try simp only [Act.put, List.setIfInBounds_toArray, List.set_cons_zero, List.set_cons_succ]
      refine wpAnyK_take (i := 4) (oi := ?oik2_5) (v := ?vk2_5) ?hk2_5 (by kernel_rfl) (by kernel_rfl) (by kernel_rfl) (by kernel_rfl) ?qk2_5 (Or.inl ⟨?wk2_5, ?yk2_5⟩) (by assumption) ?rk2_5
      case hk2_5 => (simp only [List.getElem?_toArray, List.getElem?_cons_succ, List.getElem?_cons_zero]; rfl)
      case qk2_5 => exact fun _ _ _ h => h
      case wk2_5 => rfl
      case yk2_5 => (intro w hSw; (try dsimp only at hSw); go_simp <;> with_reducible rfl)
      try simp only [Act.put, List.setIfInBounds_toArray, List.set_cons_zero, List.set_cons_succ]
      refine wpAnyK_take (i := 5) (oi := ?oik2_6) (v := ?vk2_6) ?hk2_6 (by kernel_rfl) (by kernel_rfl) (by kernel_rfl) (by kernel_rfl) ?qk2_6 (Or.inl ⟨?wk2_6, ?yk2_6⟩) (by assumption) ?rk2_6
      case hk2_6 => (simp only [List.getElem?_toArray, List.getElem?_cons_succ, List.getElem?_cons_zero]; rfl)
      case qk2_6 => exact fun _ _ _ h => h
      case wk2_6 => rfl
      case yk2_6 => (intro w hSw; (try dsimp only at hSw); go_simp <;> with_reducible rfl)
      try simp only [Act.put, List.setIfInBounds_toArray, List.set_cons_zero, List.set_cons_succ]
      refine wpAnyK_ready (rs := [6]) (by kernel_rfl) (by simp) ?_
      refine AllReadyK.cons (o := ?oik2_7) ?hk2_7 (fun K hK => ?kk2_7) ?mk2_7
      case hk2_7 => (simp only [List.getElem?_toArray, List.getElem?_cons_succ, List.getElem?_cons_zero]; rfl)
      case kk2_7 =>
        go_simp
        go_at_call 100; refine HTM.out.mono ?_; rintro e w' ⟨rfl, rfl⟩
        refine hK.out _ _ (by (first | exact KS.out _ ((Keeps.refl _ _).drew) | exact KS.out _ (((Keeps.refl _ _).alloc _).drew) | exact KS.out _ HK6.out)) (fun hHeld => ?_)
        clear hK K
        try simp only [Act.put, List.setIfInBounds_toArray, List.set_cons_zero, List.set_cons_succ]
        refine wpAnyK_ready (rs := [7]) (by kernel_rfl) (by simp) ?_
        refine AllReadyK.cons (o := ?oik2_8) ?hk2_8 (fun K hK => ?kk2_8) ?mk2_8
        case hk2_8 => (simp only [List.getElem?_toArray, List.getElem?_cons_succ, List.getElem?_cons_zero]; rfl)
        case kk2_8 =>
          go_simp
          refine hK.out _ _ (by (first | exact KS.out _ ((Keeps.refl _ _).drew) | exact KS.out _ (((Keeps.refl _ _).alloc _).drew) | exact KS.out _ HK6.out)) (fun hHeld => ?_)
          clear hK K
          try simp only [Act.put, List.setIfInBounds_toArray, List.set_cons_zero, List.set_cons_succ]
          refine wpAnyK_ready (rs := [8]) (by kernel_rfl) (by simp) ?_
          refine AllReadyK.cons (o := ?oik2_9) ?hk2_9 (fun K hK => ?kk2_9) ?mk2_9
          case hk2_9 => (simp only [List.getElem?_toArray, List.getElem?_cons_succ, List.getElem?_cons_zero]; rfl)
          case kk2_9 =>
            (refine step_app1 _ _ _ _ _ etS (by rfl) (by rfl) B vo O.length (hv O) (by rfl) ?_ _ (.slice (some ⟨gT, 0, none⟩) (trimL T).length cT) (by rfl) ?_ (by rfl) ?_ ?_ ?_; exact (HSr.out.oo.alloc _).drew; exact drew_cell (new_cell _ _ _); omega; (simp; omega); (intro g6 c6 w6 hown6 hg6 hat6 hlt6; have HK6 : Hid (Keeps wv w6 [vo.ownBlock]) := Lib.hid (keepsJ1 hg6); have hfz := HFZ.out _ HK6.out; have HP := Lib.hid (TSt.push (w := wv.drew) (rn := ⟨some ⟨gT, 0, none⟩, cT, trimL T⟩) (HSr.out.later (Below.drew (Below.refl _ _))) (by have h := HCUT.out.mono hBc; rw [show (iv T).take (trimL T).length = iv (trimL T) from by rw [← HTX.out]; simp [iv, List.map_take]] at h; exact h) (HSc.out.rows.fresh (w' := wv) (H := wc.heap.size) (by have h := HCUT.out; rw [show (iv T).take (trimL T).length = iv (trimL T) from by rw [← HTX.out]; simp [iv, List.map_take]] at h; exact h) (Nat.le_refl _)) hown6 hg6 hat6); clear hown6 hg6 hat6 hlt6))
            refine hK.out _ _ (by (first | exact KS.out _ ((Keeps.refl _ _).drew) | exact KS.out _ (((Keeps.refl _ _).alloc _).drew) | exact KS.out _ HK6.out)) (fun hHeld => ?_)
            clear hK K
            try simp only [Act.put, List.setIfInBounds_toArray, List.set_cons_zero, List.set_cons_succ]
            refine wpAnyK_ready (rs := [9]) (by kernel_rfl) (by simp) ?_
            refine AllReadyK.cons (o := ?oik2_10) ?hk2_10 (fun K hK => ?kk2_10) ?mk2_10
            case hk2_10 => (simp only [List.getElem?_toArray, List.getElem?_cons_succ, List.getElem?_cons_zero]; rfl)
            case kk2_10 =>
              go_simp
              refine hK.out _ _ (by (first | exact KS.out _ ((Keeps.refl _ _).drew) | exact KS.out _ (((Keeps.refl _ _).alloc _).drew) | exact KS.out _ HK6.out)) (fun hHeld => ?_)
              clear hK K
              try simp only [Act.put, List.setIfInBounds_toArray, List.set_cons_zero, List.set_cons_succ]
              refine wpAnyK_ready (rs := [10]) (by kernel_rfl) (by simp) ?_
              refine AllReadyK.cons (o := ?oik2_11) ?hk2_11 (fun K hK => ?kk2_11) ?mk2_11
              case hk2_11 => (simp only [List.getElem?_toArray, List.getElem?_cons_succ, List.getElem?_cons_zero]; rfl)
              case kk2_11 =>
                go_simp
                refine hK.out _ _ (by (first | exact KS.out _ ((Keeps.refl _ _).drew) | exact KS.out _ (((Keeps.refl _ _).alloc _).drew) | exact KS.out _ HK6.out)) (fun hHeld => ?_)
                clear hK K
                try simp only [Act.put, List.setIfInBounds_toArray, List.set_cons_zero, List.set_cons_succ]
                refine wpAnyK_ready (rs := [11]) (by kernel_rfl) (by simp) ?_
                refine AllReadyK.fin (o := ?oik2_12) (by decide) ?hk2_12 (fun K hK => ?kk2_12) ?mk2_12
                case hk2_12 => (simp only [List.getElem?_toArray, List.getElem?_cons_succ, List.getElem?_cons_zero]; rfl)
                case kk2_12 =>
                  go_simp
                  refine hK.out _ _ ?_
                  clear hK K
                  try simp only [Act.put, List.setIfInBounds_toArray, List.set_cons_zero, List.set_cons_succ]
                  refine wpAnyK_done (by kernel_rfl) ?_ _
                  go_wp2_with fail
                  go_end0
                  exact ⟨rfl, _, _, HP.out.1, by rw [HRE.out]; rfl, ((HBa.out.trans (HTW.out.mono HBa.out.size)).mono hBw).trans HP.out.2⟩
                exact AllReadyK.nil
              exact AllReadyK.nil
            exact AllReadyK.nil
          exact AllReadyK.nil
        exact AllReadyK.nil
      exact AllReadyK.nil
end Go.Proofs.YtdkmdmpaflgfaaaGreatDoor

namespace Go.Proofs.YtdkmdmpaflgfaaaGreatDoor
open Go.RowKit

section
variable {w : World} {B g : Nat} {r s : Row} {vc vo : Value} {C O : List Row}
theorem own_at {w : World} {B : Nat} {r : Row} {i : Nat} (h : w.ownsRow B 2 1 r.val r.xs.length (iv r.xs)) (hi : i < r.xs.length) : ∃ k, r.A = some ⟨k, 0, none⟩ ∧ w.cell? ⟨k, i, none⟩ = some (.int .i64 (r.xs.getD i 0)) ∧ w.frozen? ⟨k, i, none⟩ = false := by
  obtain ⟨A, c, hv, _, hA, _⟩ := owns_shape h
  unfold Row.val at hv
  injection hv with e1 _ e3
  obtain ⟨k, hk, _⟩ := hA (by omega)
  rw [hk] at e1
  refine ⟨k, e1, ?_, ?_⟩
  · unfold Row.val at h; rw [e1] at h; exact owns_getD h hi
  · unfold Row.val at h; rw [e1] at h; exact h.frozenAt i
theorem TSt.at_c (h : TSt w B g r s vc C vo O) {i j : Nat} (hi : i < C.length) (hj : j < (rg C i).xs.length) : ∃ kv c k, vc = .slice (some ⟨kv, 0, none⟩) C.length c ∧ w.cell? ⟨kv, i, none⟩ = some (.slice (some ⟨k, 0, none⟩) (rg C i).xs.length (rg C i).c) ∧ (rg C i).A = some ⟨k, 0, none⟩ ∧ w.cell? ⟨k, j, none⟩ = some (.int .i64 ((rg C i).xs.getD j 0)) ∧ w.frozen? ⟨k, j, none⟩ = false := by
  obtain ⟨A, c, hv, _, hA, _⟩ := owns_shape h.co
  subst hv
  obtain ⟨kv, rfl, _⟩ := hA (by omega)
  obtain ⟨k, h1, h2, h3⟩ := own_at (h.own_c hi) hj
  refine ⟨kv, c, k, rfl, ?_, h1, h2, h3⟩
  rw [h.co.cellAt i (by omega), hv_get hi]
  simp [Row.val, h1]
end
/-- the bounds that a table keeps -/
structure BdT (N : Int) (r s : List Int) (C : LL) : Prop where
  r : ∀ k, 0 ≤ r.getD k 0 ∧ r.getD k 0 ≤ N
  s : ∀ k, 0 ≤ s.getD k 0 ∧ s.getD k 0 ≤ N
  c : ∀ i j, 0 ≤ (C.getD i []).getD j 0 ∧ (C.getD i []).getD j 0 ≤ N
theorem BdT.ent {N : Int} {r s : List Int} {C : LL} (h : BdT N r s C) (hN : 0 ≤ N) (i j : Nat) : 0 ≤ entT r s C i j ∧ entT r s C i j ≤ N := by
  unfold entT
  split
  · split
    · exact ⟨Int.le_refl _, hN⟩
    · exact h.s _
  · split
    · exact h.r _
    · exact h.c _ _
theorem getD_setI (l : List Int) (i k : Nat) (x : Int) : (l.set i x).getD k 0 = if i = k ∧ k < l.length then x else l.getD k 0 := by
  simp only [List.getD, List.getElem?_set]
  by_cases h : i = k
  · subst h
    by_cases h2 : i < l.length
    · simp [h2]
    · simp [h2, List.getElem?_eq_none (Nat.le_of_not_lt h2)]
  · simp [h]
theorem set_getD_self (l : List Int) (i : Nat) : l.set i (l.getD i 0) = l := by
  apply List.ext_getElem?
  intro k
  rw [List.getElem?_set]
  split
  · rename_i e; subst e
    split
    · rename_i h; simp [List.getD, h]
    · rename_i h; rw [List.getElem?_eq_none (Nat.le_of_not_lt h)]
  · rfl
theorem getD_setL (l : LL) (i k : Nat) (x : List Int) : (l.set i x).getD k [] = if i = k ∧ k < l.length then x else l.getD k [] := by
  simp only [List.getD, List.getElem?_set]
  by_cases h : i = k
  · subst h
    by_cases h2 : i < l.length
    · simp [h2]
    · simp [h2, List.getElem?_eq_none (Nat.le_of_not_lt h2)]
  · simp [h]
theorem dat_set (C : List Row) (i : Nat) (R : Row) : dat (C.set i R) = (dat C).set i R.xs := by simp [dat, List.map_set]
theorem div_mod_at {i j n : Nat} (hj : j < n) : (i * n + j) / n = i ∧ (i * n + j) % n = j := by
  constructor
  · rw [Nat.mul_comm, Nat.mul_add_div (by omega), Nat.div_eq_of_lt hj]; rfl
  · rw [Nat.mul_comm, Nat.mul_add_mod, Nat.mod_eq_of_lt hj]
/-- one cell more -/
def stepF (q : Nat) (r s : List Int) (C : LL) (i j x : Nat) : LL := fillE q (r.set i (r.getD i 0 - 2 ^ (j + 1) * x)) (s.set j (s.getD j 0 - x)) (C.set i ((C.getD i []).set j (x : Int)))
theorem fillE_succ {q i j : Nat} {r s : List Int} {C : LL} (hj : j < s.length) (h : i * s.length + j + (q + 1) = r.length * s.length) : fillE (q + 1) r s C = (List.range (mostT r s i j + 1)).flatMap (stepF q r s C i j) := by
  have hp : r.length * s.length - (q + 1) = i * s.length + j := by omega
  obtain ⟨h1, h2⟩ := div_mod_at (i := i) hj
  simp only [fillE]
  rw [hp, h1, h2]; rfl
theorem flat_range_succ (f : Nat → LL) (x : Nat) : (List.range (x + 1)).flatMap f = (List.range x).flatMap f ++ f x := by
  rw [List.range_succ, List.flatMap_append]; simp
theorem flat_range_le (f : Nat → LL) {x y : Nat} (h : x ≤ y) : ((List.range x).flatMap f).length ≤ ((List.range y).flatMap f).length := by
  obtain ⟨d, rfl⟩ : ∃ d, y = x + d := ⟨y - x, by omega⟩
  rw [List.range_add, List.flatMap_append, List.length_append]; omega
theorem dat_app (L M : List Row) : dat (L ++ M) = dat L ++ dat M := by simp [dat]

/-- the ends of fill: all cells are filled -/
def FillP (B g : Nat) (r s : Row) (vc : Value) (C O : List Row) (Q : LL) (w : World) (e : Ending) (w' : World) : Prop :=
  e = .returned (.tuple #[]) ∧ ∃ vo' O', TSt w' B g r s vc C vo' (O ++ O') ∧ dat O' = Q ∧ Below B w w'

set_option maxRecDepth 100000 in
set_option maxHeartbeats 8000000 in
theorem fill_end (B g : Nat) (r s : Row) (vc vo : Value) (C O : List Row) (i j : Nat) (w : World) (hS : TSt w B g r s vc C vo O) (hCl : C.length = r.xs.length) (hCr : ∀ k, k < C.length → (rg C k).xs.length = s.xs.length) (hmb : r.xs.length ≤ 10) (hnb : s.xs.length ≤ 10)
    (hb : BdT 100000 r.xs s.xs (dat C)) (hO : O.length ≤ 500000000000) (hj : j ≤ s.xs.length) (hi : i ≤ r.xs.length) (hq : i * s.xs.length + j = r.xs.length * s.xs.length) :
    Calls Tryz.prog 236 #[.pointer (some ⟨g, 0, none⟩), .int .i64 (i : Nat), .int .i64 (j : Nat)] w (FillP B g r s vc C O (resT r.xs s.xs (dat C)) w) := by
  have HF := Lib.hid (finish_any B g r s vc vo C O w hS hCl hCr (by omega) (by omega) (fun a b => by have := hb.ent (by omega) a b; omega) hO)
  obtain ⟨c0, c1, c2, c3, c4, c4', c5⟩ := blk4cells hS.blk
  simp only [Row.val] at c0 c1
  have hmi : ((r.xs.length : Nat) : Int) ≤ 10 := by omega
  clear hS hCl hCr hb hO
  generalize r.xs.length = m at *
  generalize s.xs.length = n at *
  by_cases hjn : j = n
  · subst hjn
    have hstop : (m : Int) ≤ (i : Int) + 1 ∨ j = 0 := by
      by_cases h0 : j = 0
      · exact .inr h0
      · left
        have : (i + 1) * j = m * j := by rw [Nat.succ_mul]; exact hq
        have := Nat.eq_of_mul_eq_mul_right (by omega) this
        omega
    by_cases h1 : (m : Int) ≤ (i : Int) + 1
    · clear hstop hq
      go_enter Tryz.func236, Tryz.ntmps236
      go_wp2_with (go_at_call 253; refine HF.out.mono ?_; rintro e w' ⟨rfl, h⟩; have HH := Lib.hid h; clear h)
      refine bodyPost_ret (results_none rfl _ _ _) rfl ?_
      exact ⟨rfl, HH.out⟩
    · obtain rfl : j = 0 := by omega
      clear hstop hq
      go_enter Tryz.func236, Tryz.ntmps236
      go_wp2_with (go_at_call 253; refine HF.out.mono ?_; rintro e w' ⟨rfl, h⟩; have HH := Lib.hid h; clear h)
      refine bodyPost_ret (results_none rfl _ _ _) rfl ?_
      exact ⟨rfl, HH.out⟩
  · have hmi2 : (m : Int) ≤ (i : Int) := by
      have hn : 0 < n := by omega
      rcases Nat.lt_or_ge i m with h | h
      · have h2 : (i + 1) * n ≤ m * n := Nat.mul_le_mul_right n h
        rw [Nat.succ_mul] at h2
        omega
      · omega
    have hjb : ((j : Int) == (n : Int)) = false := by simp; omega
    have hjni : ¬ (j : Int) = (n : Int) := by omega
    clear hq
    go_enter Tryz.func236, Tryz.ntmps236
    go_wp2_with (go_at_call 253; refine HF.out.mono ?_; rintro e w' ⟨rfl, h⟩; have HH := Lib.hid h; clear h)
    refine bodyPost_ret (results_none rfl _ _ _) rfl ?_
    exact ⟨rfl, HH.out⟩

theorem pow_step {j : Nat} (h : j ≤ 10) : (0 : Int) < 2 ^ (j + 1) ∧ (2 : Int) ^ (j + 1) ≤ 2048 ∧ (2 : Int) * 2 ^ j = 2 ^ (j + 1) := by
  have h1 : (2 : Nat) ^ (j + 1) ≤ 2 ^ 11 := Nat.pow_le_pow_right (by omega) (by omega)
  have e : ((2 ^ (j + 1) : Nat) : Int) = (2 : Int) ^ (j + 1) := by simp
  have h2 : (2 : Int) ^ (j + 1) = 2 ^ j * 2 := Int.pow_succ _ _
  have h3 : (0 : Int) < 2 ^ (j + 1) := Int.pow_pos (by omega)
  refine ⟨h3, by rw [← e]; omega, by omega⟩

set_option maxRecDepth 100000 in
set_option maxHeartbeats 8000000 in
theorem fill_any : ∀ (q : Nat) (B g : Nat) (r s : Row) (vc vo : Value) (C O : List Row) (i j : Nat) (w : World), TSt w B g r s vc C vo O → C.length = r.xs.length → (∀ k, k < C.length → (rg C k).xs.length = s.xs.length) → r.xs.length ≤ 10 → s.xs.length ≤ 10 →
    BdT 100000 r.xs s.xs (dat C) → (∀ a b, a < r.xs.length → b < s.xs.length → i * s.xs.length + j ≤ a * s.xs.length + b → ((dat C).getD a []).getD b 0 = 0) → O.length + (fillE q r.xs s.xs (dat C)).length ≤ 500000000000 → j ≤ s.xs.length → i ≤ r.xs.length → i * s.xs.length + j + q = r.xs.length * s.xs.length →
    Calls Tryz.prog 236 #[.pointer (some ⟨g, 0, none⟩), .int .i64 (i : Nat), .int .i64 (j : Nat)] w (FillP B g r s vc C O (fillE q r.xs s.xs (dat C)) w) := by
  intro q
  induction q with
  | zero =>
    intro B g r s vc vo C O i j w hS hCl hCr hmb hnb hb _ hO hj hi hq
    exact fill_end B g r s vc vo C O i j w hS hCl hCr hmb hnb hb (by omega) hj hi hq
  | succ q ih =>
    intro B g r s vc vo C O i j w hS hCl hCr hmb hnb hb hz hO hj hi hq
    have hn0 : 0 < s.xs.length := by
      rcases Nat.eq_zero_or_pos s.xs.length with h | h
      · rw [h] at hq hj; simp at hq
      · exact h
    obtain ⟨i', j', hij, hj', hq'⟩ : ∃ i' j', ((j = s.xs.length ∧ i' = i + 1 ∧ j' = 0) ∨ (j ≠ s.xs.length ∧ i' = i ∧ j' = j)) ∧ j' < s.xs.length ∧ i' * s.xs.length + j' + (q + 1) = r.xs.length * s.xs.length := by
      by_cases h : j = s.xs.length
      · exact ⟨i + 1, 0, .inl ⟨h, rfl, rfl⟩, hn0, by rw [Nat.succ_mul]; omega⟩
      · exact ⟨i, j, .inr ⟨h, rfl, rfl⟩, by omega, hq⟩
    have hi' : i' < r.xs.length := by
      refine Classical.byContradiction fun h => ?_
      have := Nat.mul_le_mul_right s.xs.length (Nat.le_of_not_lt h)
      omega
    have hz' : ∀ a b, a < r.xs.length → b < s.xs.length → i' * s.xs.length + j' ≤ a * s.xs.length + b → ((dat C).getD a []).getD b 0 = 0 := by
      intro a b ha hbb hab
      refine hz a b ha hbb ?_
      rcases hij with ⟨h1, h2, h3⟩ | ⟨h1, h2, h3⟩
      · subst h2; subst h3; rw [Nat.succ_mul] at hab; omega
      · subst h2; subst h3; exact hab
    have HFE := Lib.hid (fillE_succ (r := r.xs) (C := dat C) (q := q) hj' hq')
    clear hz hq
    rw [HFE.out] at hO ⊢
    have HS := Lib.hid hS
    have HCL := Lib.hid hCl
    have HCR := Lib.hid hCr
    have HBD := Lib.hid hb
    have HZ := Lib.hid hz'
    have HIH := Lib.hid ih
    have HQ := Lib.hid hq'
    have hBw : B ≤ w.heap.size := Nat.le_trans hS.low (Nat.le_of_lt (Array.getElem?_eq_some_iff.1 hS.blk).1)
    obtain ⟨c0, c1, c2, c3, c4, c4', c5⟩ := blk4cells hS.blk
    obtain ⟨kr, hrA, hri, hrf⟩ := own_at hS.own_r hi'
    obtain ⟨ks, hsA, hsj, hsf⟩ := own_at hS.own_s hj'
    simp only [Row.val] at c0 c1
    rw [hrA] at c0
    rw [hsA] at c1
    have HRA := Lib.hid hrA
    have HSA := Lib.hid hsA
    have hrb := hb.r i'
    have hsb := hb.s j'
    have hms : mostT r.xs s.xs i' j' = (min (r.xs.getD i' 0 / 2 ^ (j' + 1)) (s.xs.getD j' 0)).toNat := rfl
    generalize hri0 : r.xs.getD i' 0 = ri at *
    generalize hsj0 : s.xs.getD j' 0 = sj at *
    have HRI := Lib.hid hri0
    have HSJ := Lib.hid hsj0
    have HMS := Lib.hid hms
    obtain ⟨p1, p2, p3⟩ := pow_step (j := j') (by omega)
    have hdq : 0 ≤ ri / 2 ^ (j' + 1) := Int.ediv_nonneg hrb.1 (Int.le_of_lt p1)
    clear hS hCl hCr hb hz' ih hq' hrA hsA hri0 hsj0 hms
    generalize hmm : r.xs.length = m at *
    generalize hnn : s.xs.length = n at *
    have HMM := Lib.hid hmm
    have HNN := Lib.hid hnn
    clear hmm hnn
    go_enter Tryz.func236, Tryz.ntmps236
    go_upto_if 15 with (fail)
    go_cut [1, 2] (fun v1 v2 wx => v1 = .int .i64 (i' : Nat) ∧ v2 = .int .i64 (j' : Nat) ∧ wx = w)
    case first =>
      rcases hij with ⟨h1, h2, h3⟩ | ⟨h1, h2, h3⟩
      · subst h1; subst h2; subst h3
        go_wp2_with fail
        go_meet
        exact ⟨by go_num, rfl, rfl⟩
      · subst h2; subst h3
        have hjb : ((j' : Int) == (n : Int)) = false := by simp; omega
        go_wp2_with fail
        go_meet
        exact ⟨rfl, rfl, rfl⟩
    case rest =>
    obtain ⟨rfl, rfl, rfl⟩ := hcut
    have hc1 : ¬ (m : Int) ≤ (i' : Int) := by omega
    have hc2 : ((n : Int) == 0) = false := by simp; omega
    have hmin : min j' 64 = j' := by omega
    have hjj : (j' : Int) < (n : Int) := by omega
    have hii : (i' : Int) < (m : Int) := by omega
    clear hij
    go_wp2_with fail
    have hnz : ¬ (2 : Int) ^ (j' + 1) = 0 := by omega
    have hquo : ri.tdiv (2 ^ (j' + 1)) = ri / 2 ^ (j' + 1) := Int.tdiv_eq_ediv_of_nonneg hrb.1
    have hdq2 : ri / 2 ^ (j' + 1) ≤ ri := Int.ediv_le_self _ hrb.1
    obtain ⟨M, hM⟩ : ∃ M : Nat, M = mostT r.xs s.xs i' j' := ⟨_, rfl⟩
    have hMi : (M : Int) = min (ri / 2 ^ (j' + 1)) sj := by rw [hM, HMS.out]; omega
    rw [← hM] at hO
    have HMM2 := Lib.hid hM
    have HMI := Lib.hid hMi
    clear hM
    go_cut [7] (fun v7 wx => v7 = .int .i64 (M : Nat) ∧ ∃ a, wx = wc.drewN a)
    case first =>
      go_quiet (fail)
      go_wp2_with fail
      all_goals go_meet
      all_goals exact ⟨congrArg (Value.int .i64) (by omega), _, rfl⟩
    case rest =>
    obtain ⟨rfl, a0, rfl⟩ := hcut
    have HS0 := Lib.hid (HS.out.later (below_drewN (Below.refl _ _) a0))
    have HB0 : Hid (Below B wc (wc.drewN a0)) := Lib.hid (below_drewN (Below.refl _ _) a0)
    clear hnz hquo c0 c1 c2 c3 c4 c4' c5 hri hrf hsj hsf hmin hMi
    generalize wc.drewN a0 = w0 at *
    have hiC : i' < C.length := by rw [HCL.out]; omega
    have hjC : j' < (rg C i').xs.length := by rw [HCR.out i' hiC]; exact hj'
    have HIC := Lib.hid hiC
    have hz0 : (rg C i').xs.getD j' 0 = 0 := by
      have := HZ.out i' j' (by omega) (by omega) (Nat.le_refl _)
      rwa [dat_getD] at this
    have HZ0 := Lib.hid hz0
    clear hz0
    go_wp2_with fail
    go_loopw [8] (fun v8 wr => ∃ x c : Nat, ∃ vo1 O1, x ≤ M + 1 ∧ v8 = .int .i64 (x : Nat) ∧ TSt wr B g r s vc (C.set i' ⟨(rg C i').A, (rg C i').c, (rg C i').xs.set j' (c : Int)⟩) vo1 (O ++ O1) ∧ Hid (dat O1 = (List.range x).flatMap (stepF q r.xs s.xs (dat C) i' j')) ∧ Below B w0 wr) (fun v8 _ => M + 1 - (intOf v8).toNat)
    case atStart =>
      refine ⟨0, 0, vo, [], by omega, rfl, ?_, Lib.hid rfl, Below.refl _ _⟩
      have e : C.set i' ⟨(rg C i').A, (rg C i').c, (rg C i').xs.set j' ((0 : Nat) : Int)⟩ = C := by
        have e1 : (rg C i').xs.set j' ((0 : Nat) : Int) = (rg C i').xs := by
          have := set_getD_self (rg C i').xs j'
          rw [HZ0.out] at this; exact this
        rw [e1]
        have e2 : (⟨(rg C i').A, (rg C i').c, (rg C i').xs⟩ : Row) = rg C i' := rfl
        rw [e2, rg_of hiC]
        apply List.ext_getElem?
        intro k
        rw [List.getElem?_set]
        split
        · rename_i e; subst e; simp [hiC]
        · rfl
      rw [e, List.append_nil]
      exact HS0.out
    case round =>
      obtain ⟨x, c, vo1, O1, hx, rfl, hst, HD1, hbel⟩ := hrel
      have HT := Lib.hid hst
      have HB1 := Lib.hid hbel
      by_cases hxM : x ≤ M
      · have hxMi : (x : Int) ≤ (M : Int) := by omega
        have hC1l : i' < (C.set i' ⟨(rg C i').A, (rg C i').c, (rg C i').xs.set j' (c : Int)⟩).length := by simpa using hiC
        have hC1g : rg (C.set i' ⟨(rg C i').A, (rg C i').c, (rg C i').xs.set j' (c : Int)⟩) i' = ⟨(rg C i').A, (rg C i').c, (rg C i').xs.set j' (c : Int)⟩ := by rw [rg_set hiC, if_pos rfl]
        obtain ⟨kv, cv, kc, hvc, hcv, hcA, _, hcf⟩ := hst.at_c hC1l (j := j') (by rw [hC1g]; simpa using hjC)
        rw [hC1g] at hcv hcA
        simp only [List.length_set] at hcv hcA hvc
        obtain ⟨_, _, c2, _, _, _, _⟩ := blk4cells hst.blk
        rw [hvc] at c2
        have hiCi : (i' : Int) < (C.length : Int) := by omega
        have hlenC : (rg C i').xs.length = n := HCR.out i' hiC
        rw [hlenC] at hcv
        have hT2 := TSt.setC (j := j') hst hC1l (by rw [hC1g]; exact hcA) (x : Int)
        rw [hC1g] at hT2
        simp only [List.set_set] at hT2
        have HT2 := Lib.hid hT2
        have HVC := Lib.hid hvc
        clear hst hbel hT2 hC1l hC1g hvc
        go_upto_region 10 with (fail)
        generalize wr.setCell ⟨kc, j', none⟩ (.int .i64 (x : Nat)) = w2 at *
        clear hcv hcf c2
        have hm0 : 0 ≤ 2 ^ (j' + 1) * (x : Int) := Int.mul_nonneg (Int.le_of_lt p1) (by omega)
        have hm1 : 2 ^ (j' + 1) * (x : Int) ≤ ri := by
          have h1 : (x : Int) ≤ ri / 2 ^ (j' + 1) := by have := HMI.out; omega
          have h2 := Int.mul_le_mul_of_nonneg_left h1 (Int.le_of_lt p1)
          have h3 := Int.mul_ediv_self_le (x := ri) (k := 2 ^ (j' + 1)) (by omega)
          omega
        have hxs : (x : Int) ≤ sj := by have := HMI.out; omega
        -- the row of r
        obtain ⟨c0, c1, _, _, _, _, _⟩ := blk4cells HT2.out.1.blk
        simp only [Row.val] at c0 c1
        rw [HRA.out, HMM.out] at c0
        obtain ⟨kr2, hkr2, hri, hrf⟩ := own_at HT2.out.1.own_r (i := i') (by rw [HMM.out]; exact hi')
        rw [HRA.out] at hkr2
        injection hkr2 with hkr2
        injection hkr2 with hkr2
        subst hkr2
        rw [HRI.out] at hri
        have hT3 := TSt.setR (j := i') HT2.out.1 HRA.out (ri - 2 ^ (j' + 1) * (x : Int))
        have HT3 := Lib.hid hT3
        clear hT3
        go_upto_region 11 with (fail)
        clear c0 c1 hri hrf
        generalize w2.setCell ⟨kr, i', none⟩ (.int .i64 (ri - 2 ^ (j' + 1) * (x : Int))) = w3 at *
        obtain ⟨_, c1, _, _, _, _, _⟩ := blk4cells HT3.out.1.blk
        simp only [Row.val] at c1
        rw [HSA.out, HNN.out] at c1
        obtain ⟨ks2, hks2, hsj, hsf⟩ := own_at HT3.out.1.own_s (i := j') (by rw [HNN.out]; exact hj')
        rw [HSA.out] at hks2
        injection hks2 with hks2
        injection hks2 with hks2
        subst hks2
        rw [HSJ.out] at hsj
        have hT4 := TSt.setS (j := j') HT3.out.1 HSA.out (sj - (x : Int))
        have HT4 := Lib.hid hT4
        clear hT4
        go_upto_region 12 with (fail)
        clear c1 hsj hsf
        generalize w3.setCell ⟨ks, j', none⟩ (.int .i64 (sj - (x : Int))) = w4 at *
        have HSTEP : Hid (fillE q (r.xs.set i' (ri - 2 ^ (j' + 1) * (x : Int))) (s.xs.set j' (sj - (x : Int))) (dat (C.set i' ⟨(rg C i').A, (rg C i').c, (rg C i').xs.set j' (x : Int)⟩)) = stepF q r.xs s.xs (dat C) i' j' x) := Lib.hid (by
          unfold stepF; rw [HRI.out, HSJ.out, dat_set, dat_getD])
        have hlx : O1.length = ((List.range x).flatMap (stepF q r.xs s.xs (dat C) i' j')).length := by rw [← HD1.out, dat_length]
        have hlen2 : (O ++ O1).length + (fillE q (r.xs.set i' (ri - 2 ^ (j' + 1) * (x : Int))) (s.xs.set j' (sj - (x : Int))) (dat (C.set i' ⟨(rg C i').A, (rg C i').c, (rg C i').xs.set j' (x : Int)⟩))).length ≤ 500000000000 := by
          rw [HSTEP.out, List.length_append, hlx]
          have h1 := flat_range_succ (stepF q r.xs s.xs (dat C) i' j') x
          have h2 := flat_range_le (stepF q r.xs s.xs (dat C) i' j') (show x + 1 ≤ M + 1 by omega)
          rw [h1, List.length_append] at h2
          omega
        have HCALL := Lib.hid (HIH.out B g _ _ vc vo1 _ _ i' (j' + 1) w4 HT4.out.1 (by simp only [List.length_set]; rw [HCL.out, HMM.out]) (fun k hk => by
            simp only [List.length_set] at hk ⊢
            rw [rg_set hiC]
            split
            · simp only [List.length_set]; rw [HNN.out]; exact HCR.out i' hiC
            · rw [HNN.out]; exact HCR.out k hk) (by simp only [List.length_set]; rw [HMM.out]; exact hmb) (by simp only [List.length_set]; rw [HNN.out]; exact hnb) ⟨fun k => by
            simp only [getD_setI]
            split
            · omega
            · exact HBD.out.r k, fun k => by
            simp only [getD_setI]
            split
            · omega
            · exact HBD.out.s k, fun a b => by
            rw [dat_set, getD_setL]
            split
            · simp only [getD_setI]
              split
              · omega
              · rw [← dat_getD]; exact HBD.out.c i' b
            · exact HBD.out.c a b⟩ (fun a b ha hb hab => by
            simp only [List.length_set] at ha hb hab
            rw [HNN.out] at hab hb
            rw [HMM.out] at ha
            rw [dat_set, getD_setL]
            have hz := HZ.out a b ha hb (by omega)
            split
            · rename_i he
              rw [← he.1] at hab hz
              simp only [getD_setI]
              rw [if_neg (by omega), ← dat_getD]; exact hz
            · exact hz) hlen2 (by simp only [List.length_set]; rw [HNN.out]; omega) (by simp only [List.length_set]; rw [HMM.out]; omega) (by simp only [List.length_set]; rw [HMM.out, HNN.out]; have := HQ.out; omega))
        rw [HSTEP.out] at HCALL
        clear hlen2 hlx
        go_upto_region 13 with (go_at_call 236; refine HCALL.out.mono ?_; rintro e w5 ⟨rfl, vo2, O2, hst2, hd2, hb2⟩; have HT5 := Lib.hid hst2; have HD2 := Lib.hid hd2; have HB5 := Lib.hid hb2; clear hst2 hd2 hb2)
        obtain ⟨c0, _, _, _, _, _, _⟩ := blk4cells HT5.out.blk
        simp only [Row.val, List.length_set] at c0
        rw [HRA.out, HMM.out] at c0
        obtain ⟨kr3, hkr3, hri, hrf⟩ := own_at HT5.out.own_r (i := i') (by simp only [List.length_set]; rw [HMM.out]; exact hi')
        simp only at hkr3
        rw [HRA.out] at hkr3
        injection hkr3 with hkr3
        injection hkr3 with hkr3
        subst hkr3
        rw [getD_setI, if_pos ⟨rfl, by rw [HMM.out]; exact hi'⟩] at hri
        have hT6 := TSt.setR (j := i') HT5.out (by exact HRA.out) ri
        simp only [List.set_set] at hT6
        have e6 : r.xs.set i' ri = r.xs := by rw [← HRI.out]; exact set_getD_self _ _
        rw [e6] at hT6
        have HT6 := Lib.hid hT6
        clear hT6 e6
        go_upto_region 14 with (fail)
        clear c0 hri hrf
        generalize w5.setCell ⟨kr, i', none⟩ (.int .i64 ri) = w6 at *
        obtain ⟨_, c1, _, _, _, _, _⟩ := blk4cells HT6.out.1.blk
        simp only [Row.val, List.length_set] at c1
        rw [HSA.out, HNN.out] at c1
        obtain ⟨ks3, hks3, hsj, hsf⟩ := own_at HT6.out.1.own_s (i := j') (by simp only [List.length_set]; rw [HNN.out]; exact hj')
        simp only at hks3
        rw [HSA.out] at hks3
        injection hks3 with hks3
        injection hks3 with hks3
        subst hks3
        rw [getD_setI, if_pos ⟨rfl, by rw [HNN.out]; exact hj'⟩] at hsj
        have hT7 := TSt.setS (j := j') HT6.out.1 (by exact HSA.out) sj
        simp only [List.set_set] at hT7
        have e7 : s.xs.set j' sj = s.xs := by rw [← HSJ.out]; exact set_getD_self _ _
        rw [e7] at hT7
        have HT7 := Lib.hid hT7
        have HBALL := Lib.hid (((((((HB1.out.trans HT2.out.2).trans HT3.out.2).trans HT4.out.2).trans HB5.out).trans HT6.out.2).trans hT7.2))
        clear hT7 e7
        go_wp2_with fail
        clear c1 hsj hsf
        generalize w6.setCell ⟨ks, j', none⟩ (.int .i64 sj) = w7 at *
        go_roundw
        case rel => exact ⟨x + 1, x, vo2, O1 ++ O2, by omega, by go_num, by rw [← List.append_assoc]; exact HT7.out.1, Lib.hid (by rw [dat_app, HD1.out, HD2.out, flat_range_succ]), HBALL.out⟩
        case measure => simp [intOf]; omega
      · obtain hxe : x = M + 1 := by omega
        have hxMi : ¬ (x : Int) ≤ (M : Int) := by omega
        have HXE := Lib.hid hxe
        clear hxe
        have hC1l : i' < (C.set i' ⟨(rg C i').A, (rg C i').c, (rg C i').xs.set j' (c : Int)⟩).length := by simpa using hiC
        have hC1g : rg (C.set i' ⟨(rg C i').A, (rg C i').c, (rg C i').xs.set j' (c : Int)⟩) i' = ⟨(rg C i').A, (rg C i').c, (rg C i').xs.set j' (c : Int)⟩ := by rw [rg_set hiC, if_pos rfl]
        obtain ⟨kv, cv, kc, hvc, hcv, hcA, _, hcf⟩ := hst.at_c hC1l (j := j') (by rw [hC1g]; simpa using hjC)
        rw [hC1g] at hcv hcA
        simp only [List.length_set] at hcv hcA hvc
        obtain ⟨_, _, c2, _, _, _, _⟩ := blk4cells hst.blk
        rw [hvc] at c2
        have hiCi : (i' : Int) < (C.length : Int) := by omega
        have hlenC : (rg C i').xs.length = n := HCR.out i' hiC
        rw [hlenC] at hcv
        have hT2 := TSt.setC (j := j') hst hC1l (by rw [hC1g]; exact hcA) 0
        rw [hC1g] at hT2
        simp only [List.set_set] at hT2
        have e : C.set i' ⟨(rg C i').A, (rg C i').c, (rg C i').xs.set j' 0⟩ = C := by
          have e1 : (rg C i').xs.set j' 0 = (rg C i').xs := by
            have := set_getD_self (rg C i').xs j'
            rw [HZ0.out] at this; exact this
          rw [e1]
          have e2 : (⟨(rg C i').A, (rg C i').c, (rg C i').xs⟩ : Row) = rg C i' := rfl
          rw [e2, rg_of hiC]
          apply List.ext_getElem?
          intro k
          rw [List.getElem?_set]
          split
          · rename_i e; subst e; simp [hiC]
          · rfl
        rw [e] at hT2
        have HT2 := Lib.hid hT2
        clear hst hbel hT2 hC1l hC1g hvc e
        go_wp2_with fail
        go_end0
        exact ⟨rfl, vo1, O1, HT2.out.1, by rw [HD1.out, HXE.out, ← HMM2.out, flat_range_succ], (HB0.out.trans HB1.out).trans HT2.out.2⟩
end Go.Proofs.YtdkmdmpaflgfaaaGreatDoor

namespace Go.Proofs.YtdkmdmpaflgfaaaGreatDoor
open Go.RowKit

theorem TSt.pushC {w w2 : World} {B g gn cap : Nat} {r s rn : Row} {vc : Value} {C : List Row} {ob : Obj} (h : TSt w B g r s vc C (.slice none 0 0) []) (hn : w.ownsRow B 2 1 rn.val rn.xs.length (iv rn.xs)) (hd : ∀ i, i < (r :: s :: (C ++ [])).length → rn.val.ownBlock = none ∨ rn.val.ownBlock ≠ (rg (r :: s :: (C ++ [])) i).val.ownBlock)
    (ho : w2.ownsRow B 22 1 (.slice (some ⟨gn, 0, none⟩) (C.length + 1) cap) (C.length + 1) (hv C ++ [rn.val])) (hg : (w.alloc ob).grownBy w2 vc.ownBlock) (hat : vc.ownBlock = some gn ∨ gn = (w.alloc ob).heap.size) :
    TSt (w2.setCell ⟨g, 2, none⟩ (.slice (some ⟨gn, 0, none⟩) (C.length + 1) cap)) B g r s (.slice (some ⟨gn, 0, none⟩) (C.length + 1) cap) (C ++ [rn]) (.slice none 0 0) [] ∧ Below B w (w2.setCell ⟨g, 2, none⟩ (.slice (some ⟨gn, 0, none⟩) (C.length + 1) cap)) := by
  have hgl := (Array.getElem?_eq_some_iff.1 h.blk).1
  have hvcg : vc.ownBlock ≠ some g := own_ne_blk h.co h.blk (by decide)
  have k1 : Keeps w w2 [vc.ownBlock] := ((Keeps.refl w []).alloc ob).trans (Keeps.of_grown hg) (by simp)
  have k2 : Keeps w (w2.setCell ⟨g, 2, none⟩ (.slice (some ⟨gn, 0, none⟩) (C.length + 1) cap)) [vc.ownBlock, some g] := (k1.more (by simp; exact fun j hj => .inl hj)).setCell (p := ⟨g, 2, none⟩) (by simp) _
  have hb2 : w2.heap[g]? = some (.cells #[r.val, s.val, vc, .slice none 0 0] 212 (0, 0)) := (k1.block g hgl (by simpa using fun e => hvcg e.symm)).trans h.blk
  have hrows : InnR w B (r :: s :: (C ++ []) ++ [rn]) := h.rows.push hn hd
  rw [show r :: s :: (C ++ []) ++ [rn] = r :: s :: ((C ++ [rn]) ++ []) from by simp] at hrows
  have hk : ∀ i, i < (r :: s :: ((C ++ [rn]) ++ [])).length → (rg (r :: s :: ((C ++ [rn]) ++ [])) i).val.ownBlock = none ∨ (rg (r :: s :: ((C ++ [rn]) ++ [])) i).val.ownBlock ∉ [vc.ownBlock, some g] := by
    intro i hi
    have hri := hrows.inn i hi
    rcases own_ne2 hri h.co (by decide) with e | e
    · exact .inl e
    · refine .inr ?_
      have := own_ne_blk hri h.blk (by decide)
      intro hm
      simp only [List.mem_cons, List.not_mem_nil, or_false] at hm
      rcases hm with hm | hm
      · exact e hm
      · exact this hm
  have hgn : gn ≠ g := by
    intro e
    rcases hat with e2 | e2
    · exact hvcg (by rw [e2, e])
    · simp at e2; omega
  refine ⟨⟨?_, h.low, hrows.keeps k2 hk, ?_, World.ownsRow_nil _ _ _ _, .inr (by simp [Value.ownBlock])⟩, ?_⟩
  · simp [World.setCell, hb2, Array.getElem?_modify]
  · rw [List.length_append, List.length_singleton, show hv (C ++ [rn]) = hv C ++ [rn.val] from by simp [hv]]
    have k3 : Keeps w2 (w2.setCell ⟨g, 2, none⟩ (.slice (some ⟨gn, 0, none⟩) (C.length + 1) cap)) [some g] := (Keeps.refl w2 [some g]).setCell (p := ⟨g, 2, none⟩) (by simp) _
    exact owns_keeps ho k3 (.inr (by simpa [Value.ownBlock] using hgn))
  · refine k2.to_below (Nat.le_trans h.low (Nat.le_of_lt hgl)) (fun q hq => ?_)
    simp only [List.mem_cons, List.not_mem_nil, or_false, Option.some.injEq] at hq
    rcases hq with e | e
    · exact (h.co.lt q e.symm).1
    · rw [e]; exact h.low
/-- numbers that a basis element's list can hold -/
def BdL (r : List Int) : Prop := r.length ≤ 10 ∧ ∀ x ∈ r, 0 ≤ x ∧ x ≤ 100000
theorem BdL.get {r : List Int} (h : BdL r) (k : Nat) : 0 ≤ r.getD k 0 ∧ r.getD k 0 ≤ 100000 := by
  by_cases hk : k < r.length
  · exact h.2 _ (by simp [List.getD, hk])
  · rw [show r.getD k 0 = 0 from by simp [List.getD, List.getElem?_eq_none (Nat.le_of_not_lt hk)]]; omega

set_option maxRecDepth 100000 in
set_option maxHeartbeats 8000000 in
theorem basisProduct_any (A A' : Option Addr) (n n' c c' : Nat) (r s : List Int) (w : World) (hn : n = r.length) (hn' : n' = s.length) (hr : BdL r) (hs : BdL s) (hlen : (prodE r s).length ≤ 500000000000) (hR : Rd w A (iv r)) (hR' : Rd w A' (iv s)) :
    Calls Tryz.prog 220 #[.slice A n c, .slice A' n' c'] w fun e w' => ∃ v O, e = .returned v ∧ dat O = prodE r s ∧ OwnR w' w.heap.size v O ∧ Below w.heap.size w w' := by
  have hmk := run_make_row' (P := Tryz.prog) 22 2 (.int .i64 0) 8 Tryz.underlying22 infoI rfl .i64 .i64 n' (by have := hs.1; omega) (by have := hs.1; omega)
  have HC1 := Lib.hid (copyOf_any A n c (iv r) w (by rw [iv_length]; exact hn) (by have := hr.1; omega) (iv_one _) hR)
  have HC2 := Lib.hid (fun W (hb : Below w.heap.size w W) => copyOf_any A' n' c' (iv s) W (by rw [iv_length]; exact hn') (by have := hs.1; omega) (iv_one _) (hR'.below hb))
  have Hn := Lib.hid hn
  have Hn' := Lib.hid hn'
  have HBR := Lib.hid hr
  have HBS := Lib.hid hs
  have HL := Lib.hid hlen
  have hn10 : n ≤ 10 := by rw [hn]; exact hr.1
  have hn10' : n' ≤ 10 := by rw [hn']; exact hs.1
  clear hn hn' hr hs hlen hR hR'
  go_enter Tryz.func220, Tryz.ntmps220
  go_wp2_with fail
  refine HC1.out.mono ?_
  rintro e w1 ⟨g1, k1, rfl, ho1, hb1⟩
  have HO1 := Lib.hid ho1
  have HB1 := Lib.hid hb1
  clear ho1 hb1
  go_wp2_with fail
  refine (HC2.out _ HB1.out).mono ?_
  rintro e w2 ⟨g2, k2, rfl, ho2, hb2⟩
  have HO2 := Lib.hid ho2
  have HB2 := Lib.hid hb2
  have HB12 := Lib.hid (HB1.out.trans (hb2.mono HB1.out.size))
  have hs1 := HB1.out.size
  have hs2 := hb2.size
  clear ho2 hb2
  have hT0 : TSt (w2.alloc (.cells #[.slice (some ⟨g1, 0, none⟩) n k1, .slice (some ⟨g2, 0, none⟩) n' k2, .slice none 0 0, .slice none 0 0] 212)) w.heap.size w2.heap.size ⟨some ⟨g1, 0, none⟩, k1, r⟩ ⟨some ⟨g2, 0, none⟩, k2, s⟩ (.slice none 0 0) [] (.slice none 0 0) [] := by
    have o1 := owns_keeps HO1.out (Keeps.of_below HB2.out) (.inr (by simp))
    have hw2 : Below w2.heap.size w2 (w2.alloc (.cells #[.slice (some ⟨g1, 0, none⟩) n k1, .slice (some ⟨g2, 0, none⟩) n' k2, .slice none 0 0, .slice none 0 0] 212)) := (Below.refl _ _).alloc (Nat.le_refl _) _
    have hi1 : InnR w2 w.heap.size ([] ++ [⟨some ⟨g1, 0, none⟩, k1, r⟩]) := InnR.push ⟨fun i hi => (by cases hi), fun i j hi => (by cases hi)⟩ (by simp only [Row.val]; rw [← Hn.out]; exact o1) (fun i hi => (by cases hi))
    have hi2 : InnR w2 w.heap.size (([] ++ [⟨some ⟨g1, 0, none⟩, k1, r⟩]) ++ [⟨some ⟨g2, 0, none⟩, k2, s⟩]) := by
      refine hi1.push (by simp only [Row.val]; rw [← Hn'.out]; exact HO2.out.mono hs1) ?_
      intro i hi
      have : i = 0 := by simpa using hi
      subst this
      refine .inr ?_
      simp only [List.nil_append, rg, List.getD, List.getElem?_cons_zero, Option.getD_some, Row.val, Value.ownBlock]
      have h1 := (HO1.out.lt g1 rfl).2
      have h2 := (HO2.out.lt g2 rfl).1
      intro e; injection e with e; omega
    refine ⟨?_, Nat.le_trans hs1 hs2, (hi2.later hw2), World.ownsRow_nil _ _ _ _, World.ownsRow_nil _ _ _ _, .inl rfl⟩
    rw [blk_new]
    simp only [Row.val]
    rw [← Hn.out, ← Hn'.out]
  have HT0 := Lib.hid hT0
  have HB3 : Hid (Below w.heap.size w (w2.alloc (.cells #[.slice (some ⟨g1, 0, none⟩) n k1, .slice (some ⟨g2, 0, none⟩) n' k2, .slice none 0 0, .slice none 0 0] 212))) := Lib.hid (HB12.out.alloc (Nat.le_trans hs1 hs2) _)
  clear hT0
  go_wp2_with fail
  generalize hw3 : w2.alloc (.cells #[.slice (some ⟨g1, 0, none⟩) n k1, .slice (some ⟨g2, 0, none⟩) n' k2, .slice none 0 0, .slice none 0 0] 212) = w3 at *
  clear hw3
  generalize hg : w2.heap.size = g at *
  clear hg
  go_loopw [14] (fun v14 wr => ∃ k : Nat, ∃ C vc, k ≤ n ∧ v14 = .int .i64 k ∧ TSt wr w.heap.size g ⟨some ⟨g1, 0, none⟩, k1, r⟩ ⟨some ⟨g2, 0, none⟩, k2, s⟩ vc C (.slice none 0 0) [] ∧ Hid (dat C = List.replicate k (List.replicate n' 0)) ∧ Below w.heap.size w wr) (fun v14 _ => n - (intOf v14).toNat)
  case atStart => exact ⟨0, [], _, by omega, rfl, HT0.out, Lib.hid rfl, HB3.out⟩
  case round =>
    obtain ⟨k, C, vc, hk, rfl, hst, HD, hbel⟩ := hrel
    have HT := Lib.hid hst
    have HB := Lib.hid hbel
    have hsz := hbel.size
    have hCk : C.length = k := by rw [← dat_length, HD.out, List.length_replicate]
    by_cases hlt : k < n
    · obtain ⟨_, _, c2, _, _, c4, c5⟩ := blk4cells hst.blk
      have hvcg : vc.ownBlock ≠ some g := own_ne_blk hst.co hst.blk (by decide)
      have KS := Lib.hid (fun w' (hk : Keeps wr w' [vc.ownBlock]) => show w'.cell? ⟨g, 2, none⟩ = some vc from hk.cellSome c2 (by simpa using fun e => hvcg e.symm))
      have HFZ := Lib.hid (fun w' (hk : Keeps wr w' [vc.ownBlock]) => show w'.frozen? ⟨g, 2, none⟩ = false from (hk.frozen (a := ⟨g, 2, none⟩) c5 (by simpa using fun e => hvcg e.symm)).trans c4)
      have hmo := made_own wr wr.heap.size n' (Nat.le_refl _) (by omega)
      have HMO := Lib.hid hmo
      have HT1 := Lib.hid (hst.later ((Below.refl _ _).alloc (Nat.le_refl _) (.cells (madeCells #[.int .i64 0] n') 2)))
      have hkq : C.length < 1099511627776 := by omega
      have HCK := Lib.hid hCk
      clear hst hbel hmo c2 c4 hCk
      go_wp2_with fail
      refine wp_region_K (S := (fun w' => w'.cell? ⟨g, 2, none⟩ = some vc)) 12 (by kernel_rfl) (by (first | exact KS.out _ ((Keeps.refl _ _).drew) | exact KS.out _ (((Keeps.refl _ _).alloc _).drew) | exact KS.out _ ((((Keeps.refl _ _).alloc _).alloc _).drew) | exact KS.out _ HK6.out)) (fun hHeld => ?_)
      refine wpAnyK_take (i := 0) (oi := ?oik1_1) (v := ?vk1_1) ?hk1_1 (by kernel_rfl) (by kernel_rfl) (by kernel_rfl) (by kernel_rfl) ?qk1_1 (Or.inl ⟨?wk1_1, ?yk1_1⟩) (by assumption) ?rk1_1
      case hk1_1 => (simp only [List.getElem?_toArray, List.getElem?_cons_succ, List.getElem?_cons_zero]; rfl)
      case qk1_1 => exact fun _ _ _ h => h
      case wk1_1 => rfl
      case yk1_1 => (intro w hSw; (try dsimp only at hSw); go_simp <;> with_reducible rfl)
      try simp only [Act.put, List.setIfInBounds_toArray, List.set_cons_zero, List.set_cons_succ]
      refine wpAnyK_take (i := 1) (oi := ?oik1_2) (v := ?vk1_2) ?hk1_2 (by kernel_rfl) (by kernel_rfl) (by kernel_rfl) (by kernel_rfl) ?qk1_2 (Or.inl ⟨?wk1_2, ?yk1_2⟩) (by assumption) ?rk1_2
      case hk1_2 => (simp only [List.getElem?_toArray, List.getElem?_cons_succ, List.getElem?_cons_zero]; rfl)
      case qk1_2 => exact fun _ _ _ h => h
      case wk1_2 => rfl
      case yk1_2 => (intro w hSw; (try dsimp only at hSw); go_simp <;> with_reducible rfl)
      try simp only [Act.put, List.setIfInBounds_toArray, List.set_cons_zero, List.set_cons_succ]
      refine wpAnyK_take (i := 2) (oi := ?oik1_3) (v := ?vk1_3) ?hk1_3 (by kernel_rfl) (by kernel_rfl) (by kernel_rfl) (by kernel_rfl) ?qk1_3 (Or.inl ⟨?wk1_3, ?yk1_3⟩) (by assumption) ?rk1_3
      case hk1_3 => (simp only [List.getElem?_toArray, List.getElem?_cons_succ, List.getElem?_cons_zero]; rfl)
      case qk1_3 => exact fun _ _ _ h => h
      case wk1_3 => rfl
      case yk1_3 => (intro w hSw; (try dsimp only at hSw); go_simp <;> with_reducible rfl)
      try simp only [Act.put, List.setIfInBounds_toArray, List.set_cons_zero, List.set_cons_succ]
      refine wpAnyK_take (i := 3) (oi := ?oik1_4) (v := ?vk1_4) ?hk1_4 (by kernel_rfl) (by kernel_rfl) (by kernel_rfl) (by kernel_rfl) ?qk1_4 (Or.inl ⟨?wk1_4, ?yk1_4⟩) (by assumption) ?rk1_4
      case hk1_4 => (simp only [List.getElem?_toArray, List.getElem?_cons_succ, List.getElem?_cons_zero]; rfl)
      case qk1_4 => exact fun _ _ _ h => h
      case wk1_4 => rfl
      case yk1_4 => (intro w hSw; (try dsimp only at hSw); go_simp <;> with_reducible rfl)
      try simp only [Act.put, List.setIfInBounds_toArray, List.set_cons_zero, List.set_cons_succ]
      refine wpAnyK_take (i := 4) (oi := ?oik1_5) (v := ?vk1_5) ?hk1_5 (by kernel_rfl) (by kernel_rfl) (by kernel_rfl) (by kernel_rfl) ?qk1_5 (Or.inl ⟨?wk1_5, ?yk1_5⟩) (by assumption) ?rk1_5
      case hk1_5 => (simp only [List.getElem?_toArray, List.getElem?_cons_succ, List.getElem?_cons_zero]; rfl)
      case qk1_5 => exact fun _ _ _ h => h
      case wk1_5 => rfl
      case yk1_5 => (intro w hSw; (try dsimp only at hSw); go_simp <;> with_reducible rfl)
      try simp only [Act.put, List.setIfInBounds_toArray, List.set_cons_zero, List.set_cons_succ]
      refine wpAnyK_take (i := 5) (oi := ?oik1_6) (v := ?vk1_6) ?hk1_6 (by kernel_rfl) (by kernel_rfl) (by kernel_rfl) (by kernel_rfl) ?qk1_6 (Or.inl ⟨?wk1_6, ?yk1_6⟩) (by assumption) ?rk1_6
      case hk1_6 => (simp only [List.getElem?_toArray, List.getElem?_cons_succ, List.getElem?_cons_zero]; rfl)
      case qk1_6 => exact fun _ _ _ h => h
      case wk1_6 => rfl
      case yk1_6 => (intro w hSw; (try dsimp only at hSw); go_simp <;> with_reducible rfl)
      try simp only [Act.put, List.setIfInBounds_toArray, List.set_cons_zero, List.set_cons_succ]
      refine wpAnyK_ready (rs := [6]) (by kernel_rfl) (by simp) ?_
      refine AllReadyK.cons (o := ?oik1_7) ?hk1_7 (fun K hK => ?kk1_7) ?mk1_7
      case hk1_7 => (simp only [List.getElem?_toArray, List.getElem?_cons_succ, List.getElem?_cons_zero]; rfl)
      case kk1_7 =>
        go_simp
        refine hK.out _ _ (by (first | exact KS.out _ ((Keeps.refl _ _).drew) | exact KS.out _ (((Keeps.refl _ _).alloc _).drew) | exact KS.out _ ((((Keeps.refl _ _).alloc _).alloc _).drew) | exact KS.out _ HK6.out)) (fun hHeld => ?_)
        clear hK K
        try simp only [Act.put, List.setIfInBounds_toArray, List.set_cons_zero, List.set_cons_succ]
        refine wpAnyK_ready (rs := [7]) (by kernel_rfl) (by simp) ?_
        refine AllReadyK.cons (o := ?oik1_8) ?hk1_8 (fun K hK => ?kk1_8) ?mk1_8
        case hk1_8 => (simp only [List.getElem?_toArray, List.getElem?_cons_succ, List.getElem?_cons_zero]; rfl)
        case kk1_8 =>
          go_simp
          refine hK.out _ _ (by (first | exact KS.out _ ((Keeps.refl _ _).drew) | exact KS.out _ (((Keeps.refl _ _).alloc _).drew) | exact KS.out _ ((((Keeps.refl _ _).alloc _).alloc _).drew) | exact KS.out _ HK6.out)) (fun hHeld => ?_)
          clear hK K
          try simp only [Act.put, List.setIfInBounds_toArray, List.set_cons_zero, List.set_cons_succ]
          refine wpAnyK_ready (rs := [8]) (by kernel_rfl) (by simp) ?_
          refine AllReadyK.cons (o := ?oik1_9) ?hk1_9 (fun K hK => ?kk1_9) ?mk1_9
          case hk1_9 => (simp only [List.getElem?_toArray, List.getElem?_cons_succ, List.getElem?_cons_zero]; rfl)
          case kk1_9 =>
            go_simp
            refine hK.out _ _ (by (first | exact KS.out _ ((Keeps.refl _ _).drew) | exact KS.out _ (((Keeps.refl _ _).alloc _).drew) | exact KS.out _ ((((Keeps.refl _ _).alloc _).alloc _).drew) | exact KS.out _ HK6.out)) (fun hHeld => ?_)
            clear hK K
            try simp only [Act.put, List.setIfInBounds_toArray, List.set_cons_zero, List.set_cons_succ]
            refine wpAnyK_ready (rs := [9]) (by kernel_rfl) (by simp) ?_
            refine AllReadyK.cons (o := ?oik1_10) ?hk1_10 (fun K hK => ?kk1_10) ?mk1_10
            case hk1_10 => (simp only [List.getElem?_toArray, List.getElem?_cons_succ, List.getElem?_cons_zero]; rfl)
            case kk1_10 =>
              (refine step_app1 _ _ _ _ _ etS (by rfl) (by rfl) w.heap.size vc C.length (hv C) (by rfl) ?_ _ (.slice (some ⟨wr.heap.size, 0, none⟩) n' n') (by rfl) ?_ (by rfl) ?_ ?_ ?_; exact (HT1.out.co.alloc _).drew; exact drew_cell (new_cell1 _ _ _ _); omega; (simp; omega); (intro g6 c6 w6 hown6 hg6 hat6 hlt6; have HK6 : Hid (Keeps wr w6 [vc.ownBlock]) := Lib.hid (((((Keeps.refl wr []).alloc _).alloc _).drew).trans (Keeps.of_grown hg6) (fun j _ h => by simpa using h)); have hfz := HFZ.out _ HK6.out; have HP := Lib.hid (TSt.pushC (w := (wr.alloc (.cells (madeCells #[.int .i64 0] n') 2)).drew) (rn := ⟨some ⟨wr.heap.size, 0, none⟩, n', List.replicate n' 0⟩) (HT1.out.later (Below.drew (Below.refl _ _))) (by have h := HMO.out.mono hsz; simp only [Row.val, List.length_replicate]; exact h) (HT.out.rows.fresh (w' := wr.alloc (.cells (madeCells #[.int .i64 0] n') 2)) (H := wr.heap.size) (by have h := HMO.out; simpa [Row.val] using h) (Nat.le_refl _)) (by simp only [Row.val, List.length_replicate]; exact hown6) hg6 hat6); clear hown6 hg6 hat6 hlt6))
              refine hK.out _ _ (by (first | exact KS.out _ ((Keeps.refl _ _).drew) | exact KS.out _ (((Keeps.refl _ _).alloc _).drew) | exact KS.out _ ((((Keeps.refl _ _).alloc _).alloc _).drew) | exact KS.out _ HK6.out)) (fun hHeld => ?_)
              clear hK K
              try simp only [Act.put, List.setIfInBounds_toArray, List.set_cons_zero, List.set_cons_succ]
              refine wpAnyK_ready (rs := [10]) (by kernel_rfl) (by simp) ?_
              refine AllReadyK.cons (o := ?oik1_11) ?hk1_11 (fun K hK => ?kk1_11) ?mk1_11
              case hk1_11 => (simp only [List.getElem?_toArray, List.getElem?_cons_succ, List.getElem?_cons_zero]; rfl)
              case kk1_11 =>
                go_simp
                refine hK.out _ _ (by (first | exact KS.out _ ((Keeps.refl _ _).drew) | exact KS.out _ (((Keeps.refl _ _).alloc _).drew) | exact KS.out _ ((((Keeps.refl _ _).alloc _).alloc _).drew) | exact KS.out _ HK6.out)) (fun hHeld => ?_)
                clear hK K
                try simp only [Act.put, List.setIfInBounds_toArray, List.set_cons_zero, List.set_cons_succ]
                refine wpAnyK_ready (rs := [11]) (by kernel_rfl) (by simp) ?_
                refine AllReadyK.cons (o := ?oik1_12) ?hk1_12 (fun K hK => ?kk1_12) ?mk1_12
                case hk1_12 => (simp only [List.getElem?_toArray, List.getElem?_cons_succ, List.getElem?_cons_zero]; rfl)
                case kk1_12 =>
                  go_simp
                  refine hK.out _ _ (by (first | exact KS.out _ ((Keeps.refl _ _).drew) | exact KS.out _ (((Keeps.refl _ _).alloc _).drew) | exact KS.out _ ((((Keeps.refl _ _).alloc _).alloc _).drew) | exact KS.out _ HK6.out)) (fun hHeld => ?_)
                  clear hK K
                  try simp only [Act.put, List.setIfInBounds_toArray, List.set_cons_zero, List.set_cons_succ]
                  refine wpAnyK_ready (rs := [12]) (by kernel_rfl) (by simp) ?_
                  refine AllReadyK.fin (o := ?oik1_13) (by decide) ?hk1_13 (fun K hK => ?kk1_13) ?mk1_13
                  case hk1_13 => (simp only [List.getElem?_toArray, List.getElem?_cons_succ, List.getElem?_cons_zero]; rfl)
                  case kk1_13 =>
                    go_simp
                    refine hK.out _ _ ?_
                    clear hK K
                    try simp only [Act.put, List.setIfInBounds_toArray, List.set_cons_zero, List.set_cons_succ]
                    refine wpAnyK_done (by kernel_rfl) ?_ _
                    go_wp2_with fail
                    go_roundw
                    case rel => exact ⟨k + 1, C ++ [⟨some ⟨wr.heap.size, 0, none⟩, n', List.replicate n' 0⟩], _, by omega, by go_num, HP.out.1, Lib.hid (by rw [dat_append1, HD.out, List.replicate_succ']), ((HB.out.alloc hsz _).drew).trans HP.out.2⟩
                    case measure => simp [intOf]; omega
                  exact AllReadyK.nil
                exact AllReadyK.nil
              exact AllReadyK.nil
            exact AllReadyK.nil
          exact AllReadyK.nil
        exact AllReadyK.nil
      exact AllReadyK.nil
    · obtain rfl : k = n := by omega
      have hdat : dat C = zeroT r s := by rw [HD.out]; unfold zeroT; rw [Hn.out, Hn'.out]
      have HDZ := Lib.hid hdat
      have hrow : ∀ q, q < C.length → (rg C q).xs.length = s.length := fun q hq => by
        rw [← dat_getD, hdat]; unfold zeroT
        rw [hCk, Hn.out] at hq
        simp [List.getD, hq]
      have hzero : ∀ a b, ((dat C).getD a []).getD b 0 = 0 := fun a b => by
        rw [hdat]; unfold zeroT
        simp only [List.getD, List.getElem?_replicate]
        split
        · simp only [Option.getD_some, List.getElem?_replicate]
          split <;> rfl
        · rfl
      have HF := Lib.hid (fill_any (r.length * s.length) w.heap.size g _ _ vc _ C [] 0 0 wr hst (by rw [hCk, Hn.out]) hrow HBR.out.1 HBS.out.1 ⟨HBR.out.get, HBS.out.get, fun a b => by rw [hzero]; omega⟩ (fun a b _ _ _ => hzero a b) (by rw [hdat, List.length_nil, Nat.zero_add]; exact HL.out) (by omega) (by omega) (by simp))
      clear hst hbel hdat hrow hzero hCk
      go_wp2_with (go_at_call 236; refine HF.out.mono ?_; rintro e w5 ⟨rfl, vo, O, hst, hd, hb⟩; have HT5 := Lib.hid hst; have HD5 := Lib.hid hd; have HB5 := Lib.hid (HB.out.trans hb); obtain ⟨_, _, _, c3, _, _, _⟩ := blk4cells hst.blk; clear hst hd hb)
      go_ret
      exact ⟨vo, O, rfl, by rw [HD5.out, HDZ.out]; rfl, HT5.out.own_out, HB5.out⟩
end Go.Proofs.YtdkmdmpaflgfaaaGreatDoor
