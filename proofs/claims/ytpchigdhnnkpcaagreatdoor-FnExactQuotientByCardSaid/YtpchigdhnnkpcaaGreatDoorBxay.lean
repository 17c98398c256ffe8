/- arguments opened: slices of ints, rows of rows -/
import Derived.Test.YtpchigdhnnkpcaaGreatDoorBxaa
import Derived.ProofKit
import Derived.Lib.SmallJoins
import Derived.Deep.Matrix
set_option linter.all false
namespace Go.Proofs.YtpchigdhnnkpcaaGreatDoor
open Go.ChangeShapes Go.WideShapes Go.ChangeAt Go.RowKit Go.Joins Go.Deep

section
variable {H : Type} {enc : TypeId × Value → H} {P : Program} {w : World} {base : Nat} {held : Bool}
/-- cells from an address on, as a list -/
theorem Rd_of_cells {a : Addr} {vs : List Value} (h : ∀ j v, vs[j]? = some v → w.cell? (a.add j) = some v) : Rd w (some a) vs := by
  by_cases h0 : vs = []
  · exact .inl h0
  · right
    obtain ⟨b, off, spot⟩ := a
    obtain ⟨v, vs', rfl⟩ : ∃ v vs', vs = v :: vs' := by cases vs with | nil => exact absurd rfl h0 | cons v vs' => exact ⟨v, vs', rfl⟩
    have h1 := h 0 v rfl
    have hspot : spot = none := by simpa [Addr.add] using World.cell?_spot h1
    subst hspot
    refine ⟨b, off, rfl, fun j u hj => ?_⟩
    have := h j u hj
    rwa [Addr.add_lit] at this
theorem ints_Rd {fuel : Nat} {t e : TypeId} {v : Value} {y : DataW H × List MemPlace} (ht : P.underlying t = some (.slice e)) (he : P.underlying e = some (.int .i64)) (hc : P.cellsOf e = 1)
    (hf : DataW.trod enc P w base (fun _ => true) held fuel t [v] = some y) :
    ∃ A n c xs, v = .slice A n c ∧ n = xs.length ∧ n ≤ maxLen ∧ Rd w A (iv xs) ∧ ∀ x ∈ xs, (Lit.int .i64 x).wf = true := by
  rcases open_ints ht he hc hf with ⟨hcs, _⟩ | ⟨a, len, cap, zs, hcs, _, hl, hm, hz, _, hcell, hwz⟩
  · injection hcs with hcs _
    exact ⟨none, 0, 0, [], hcs, rfl, Nat.zero_le _, .inl rfl, by simp⟩
  · injection hcs with hcs _
    simp only [if_true] at hz
    refine ⟨some a, len, cap, zs.take len, hcs, by rw [List.length_take, hz]; omega, by omega, ?_, fun x hx => hwz x (List.mem_of_mem_take hx)⟩
    refine Rd_of_cells fun j v hj => ?_
    have hjl : j < len := by
      have := (List.getElem?_eq_some_iff.1 hj).1
      simp [iv] at this; omega
    have h2 := hcell j (by omega)
    rw [h2]
    simp only [iv, List.getElem?_map, List.getElem?_take, hjl, if_true] at hj
    rw [List.getElem?_eq_getElem (show j < zs.length by omega)] at hj
    simp only [Option.map_some] at hj
    rw [← hj, List.getD, List.getElem?_eq_getElem (show j < zs.length by omega)]
    rfl
theorem open_intsl {r : Reach} {b0 : Nat} {t e : TypeId} {v : Value} {d : DataW H} {p : List MemPlace} (ht : P.underlying t = some (.slice e)) (he : P.underlying e = some (.int .i64)) (hc : P.cellsOf e = 1)
    (hv : Value.okWide P w r b0 t v) (h : DataW.Trod enc P w base (fun _ => true) held t v d p) :
    ∃ A n c xs, v = .slice A n c ∧ n = xs.length ∧ n ≤ maxLen ∧ Rd w A (iv xs) ∧ ∀ x ∈ xs, (Lit.int .i64 x).wf = true := by
  obtain ⟨a0, len0, cap0, rfl⟩ := okWide_slice ht hv
  obtain ⟨fuel, hf⟩ := h
  exact ints_Rd ht he hc hf

theorem rg_range (n : Nat) (f : Nat → Row) (i : Nat) (h : i < n) : rg ((List.range n).map f) i = f i := by
  simp [rg, List.getD, h]
theorem rows_RdR {fuel : Nat} {t e q : TypeId} {v : Value} {y : DataW H × List MemPlace} (ht : P.underlying t = some (.slice e)) (he : P.underlying e = some (.slice q)) (hq : P.underlying q = some (.int .i64)) (ce : P.cellsOf e = 1) (cq : P.cellsOf q = 1)
    (hf : DataW.trod enc P w base (fun _ => true) held fuel t [v] = some y) :
    ∃ A n c L, v = .slice A n c ∧ n = L.length ∧ n ≤ maxLen ∧ RdR w A L ∧ ∀ i, i < L.length → (rg L i).xs.length ≤ maxLen := by
  rcases open_int_rows ht he hq ce cq hf with ⟨hcs, _⟩ | ⟨a, len, cap, A, Ln, C, Z, hcs, _, hl, hm, _, hr⟩
  · injection hcs with hcs _
    exact ⟨none, 0, 0, [], hcs, rfl, Nat.zero_le _, ⟨.inl rfl, (fun i hi => by cases hi), (fun i hi => by cases hi)⟩, (fun i hi => by cases hi)⟩
  · injection hcs with hcs _
    have hlen : ∀ r, r < len → ((Z r).take (Ln r)).length = Ln r := fun r h => by
      obtain ⟨_, h2, _, h4, _⟩ := hr r (by omega)
      rw [List.length_take, h4]; omega
    refine ⟨some a, len, cap, (List.range len).map fun r => ⟨A r, C r, (Z r).take (Ln r)⟩, hcs, by simp, by omega, ⟨?_, ?_, ?_⟩, ?_⟩
    · refine Rd_of_cells fun j v hj => ?_
      have hjl : j < len := by
        have := (List.getElem?_eq_some_iff.1 hj).1
        simp [hv] at this; exact this
      rw [hv_get (by simpa using hjl), rg_range _ _ _ hjl] at hj
      obtain ⟨h1, _⟩ := hr j (by omega)
      rw [h1, ← hj, Row.val]
      simp only [hlen j hjl]
    · intro i hi
      have hil : i < len := by simpa using hi
      rw [rg_range _ _ _ hil]
      obtain ⟨_, h2, _, h4, _, h6, h7⟩ := hr i (by omega)
      simp only
      cases hA : A i with
      | none =>
        have := h6 hA
        left
        have : ((Z i).take (Ln i)) = [] := List.eq_nil_of_length_eq_zero (by rw [hlen i hil]; omega)
        rw [this]; rfl
      | some a' =>
        refine Rd_of_cells fun j v hj => ?_
        have hjl : j < Ln i := by
          have := (List.getElem?_eq_some_iff.1 hj).1
          rw [iv_length, hlen i hil] at this; exact this
        have h3 := (h7 a' hA).2 j (by omega)
        rw [h3]
        simp only [iv, List.getElem?_map, List.getElem?_take, hjl, if_true] at hj
        rw [List.getElem?_eq_getElem (show j < (Z i).length by omega)] at hj
        simp only [Option.map_some] at hj
        rw [← hj, List.getD, List.getElem?_eq_getElem (show j < (Z i).length by omega)]
        rfl
    · intro i hi
      have hil : i < len := by simpa using hi
      rw [rg_range _ _ _ hil]
      obtain ⟨_, h2, h3, _⟩ := hr i (by omega)
      simp only [hlen i hil]; exact h2
    · intro i hi
      have hil : i < len := by simpa using hi
      rw [rg_range _ _ _ hil]
      obtain ⟨_, h2, h3, _⟩ := hr i (by omega)
      simp only [hlen i hil]; omega
theorem open_rowsl {r : Reach} {b0 : Nat} {t e q : TypeId} {v : Value} {d : DataW H} {p : List MemPlace} (ht : P.underlying t = some (.slice e)) (he : P.underlying e = some (.slice q)) (hq : P.underlying q = some (.int .i64)) (ce : P.cellsOf e = 1) (cq : P.cellsOf q = 1)
    (hv : Value.okWide P w r b0 t v) (h : DataW.Trod enc P w base (fun _ => true) held t v d p) :
    ∃ A n c L, v = .slice A n c ∧ n = L.length ∧ n ≤ maxLen ∧ RdR w A L ∧ ∀ i, i < L.length → (rg L i).xs.length ≤ maxLen := by
  obtain ⟨a0, len0, cap0, rfl⟩ := okWide_slice ht hv
  obtain ⟨fuel, hf⟩ := h
  exact rows_RdR ht he hq ce cq hf
/-- a struct of a slice of ints and rows of rows: a module -/
theorem open_module {r : Reach} {b0 : Nat} {t q : TypeId} {f0 f1 : Field} {v : Value} {d : DataW H} {p : List MemPlace} (hs : P.underlying t = some (.struct #[f0, f1])) (hone : oneCellFields P #[f0, f1] = true) (hC : P.cellsOf t = 2)
    (h0 : P.underlying f0.type = some (.slice q)) (h1 : P.underlying f1.type = some (.slice f0.type)) (hq : P.underlying q = some (.int .i64)) (c0 : P.cellsOf f0.type = 1) (cq : P.cellsOf q = 1)
    (hv : Value.okWide P w r b0 t v) (h : DataW.Trod enc P w base (fun _ => true) held t v d p) :
    ∃ A n c xs A' n' c' L, v = .agg #[.slice A n c, .slice A' n' c'] ∧ n = xs.length ∧ n ≤ maxLen ∧ Rd w A (iv xs) ∧ n' = L.length ∧ n' ≤ maxLen ∧ RdR w A' L ∧ ∀ i, i < L.length → (rg L i).xs.length ≤ maxLen := by
  obtain ⟨c0', c1', y0, y1, m, rfl, rfl, rfl, hy0, hy1⟩ := open_agg2 hs hone hC hv h
  obtain ⟨A, n, c, xs, rfl, hn, hm, hR, hwf⟩ := ints_Rd h0 hq cq hy0
  obtain ⟨A', n', c', L, rfl, hn', hm', hR', hl'⟩ := rows_RdR h1 h0 hq c0 cq hy1
  exact ⟨A, n, c, xs, A', n', c', L, rfl, hn, hm, hR, hn', hm', hR', hl'⟩
end
end Go.Proofs.YtpchigdhnnkpcaaGreatDoor
