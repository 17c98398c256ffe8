/- arguments opened: a struct of an int and a slice of ints -/
import Derived.Test.YtchmplpgamekjaaDoorLib
import Derived.ProofKit
import Derived.Lib.SmallJoins
namespace Go.Proofs.YtchmplpgamekjaaDoor
open Go.ChangeShapes Go.WideShapes Go.ChangeAt Go.RowKit Go.Joins Go.Deep

section
variable {H : Type} {enc : TypeId × Value → H} {P : Program} {w : World} {base : Nat} {held : Bool}
/-- the elements of a slice that came in, as a list -/
theorem ints_Rd {fuel : Nat} {t e : TypeId} {v : Value} {y : DataW H × List MemPlace} (ht : P.underlying t = some (.slice e)) (he : P.underlying e = some (.int .i64)) (hc : P.cellsOf e = 1)
    (hf : DataW.trod enc P w base (fun _ => true) held fuel t [v] = some y) :
    ∃ A n c xs, v = .slice A n c ∧ n = xs.length ∧ n ≤ maxLen ∧ Rd w A (iv xs) ∧ ∀ x ∈ xs, (Lit.int .i64 x).wf = true := by
  rcases open_ints ht he hc hf with ⟨hcs, _⟩ | ⟨a, len, cap, zs, hcs, _, hl, hm, hz, _, hcell, hwz⟩
  · injection hcs with hcs _
    exact ⟨none, 0, 0, [], hcs, rfl, Nat.zero_le _, .inl rfl, by simp⟩
  · injection hcs with hcs _
    simp only [if_true] at hz
    refine ⟨some a, len, cap, zs.take len, hcs, by rw [List.length_take, hz]; omega, by omega, ?_, fun x hx => hwz x (List.mem_of_mem_take hx)⟩
    by_cases h0 : len = 0
    · subst h0; exact .inl (by simp [iv])
    · right
      obtain ⟨b, off, spot⟩ := a
      have h1 := hcell 0 (by omega)
      have hspot : spot = none := by simpa [Addr.add] using World.cell?_spot h1
      subst hspot
      refine ⟨b, off, rfl, fun j v hj => ?_⟩
      have hjl : j < len := by
        have := (List.getElem?_eq_some_iff.1 hj).1
        simp [iv] at this; omega
      have h2 := hcell j (by omega)
      rw [Addr.add_lit] at h2
      rw [h2]
      simp only [iv, List.getElem?_map, List.getElem?_take, hjl, if_true] at hj
      rw [List.getElem?_eq_getElem (show j < zs.length by omega)] at hj
      simp only [Option.map_some] at hj
      rw [← hj, List.getD, List.getElem?_eq_getElem (show j < zs.length by omega)]
      rfl

theorem open_intsl {r : Reach} {b0 : Nat} {t e : TypeId} {v : Value} {d : DataW H} {p : List MemPlace} (ht : P.underlying t = some (.slice e)) (he : P.underlying e = some (.int .i64)) (hc : P.cellsOf e = 1)
    (hv : Value.okWide P w r b0 t v) (h : DataW.Trod enc P w base (fun _ => true) held t v d p) :
    ∃ A n c xs, v = .slice A n c ∧ n = xs.length ∧ n ≤ maxLen ∧ Rd w A (iv xs) ∧ ∀ x ∈ xs, (Lit.int .i64 x).wf = true := by
  obtain ⟨a0, len0, cap0, rfl⟩ := okWide_slice ht hv
  obtain ⟨fuel, hf⟩ := h
  exact ints_Rd ht he hc hf

theorem open_matrix {r : Reach} {b0 : Nat} {t : TypeId} {f0 f1 : Field} {v : Value} {d : DataW H} {p : List MemPlace} (hs : P.underlying t = some (.struct #[f0, f1])) (hone : oneCellFields P #[f0, f1] = true) (hC : P.cellsOf t = 2)
    (hi : P.underlying f0.type = some (.int .i64)) (ht : P.underlying f1.type = some (.slice f0.type)) (hc : P.cellsOf f0.type = 1)
    (hv : Value.okWide P w r b0 t v) (h : DataW.Trod enc P w base (fun _ => true) held t v d p) :
    ∃ c A n cap xs, v = .agg #[.int .i64 c, .slice A n cap] ∧ n = xs.length ∧ n ≤ maxLen ∧ Rd w A (iv xs) ∧ (∀ x ∈ xs, (Lit.int .i64 x).wf = true) := by
  obtain ⟨c0, c1, y0, y1, m, rfl, rfl, rfl, hy0, hy1⟩ := open_agg2 hs hone hC hv h
  obtain ⟨a, e0, rfl, wa⟩ := DataW.trod_int hi hy0
  injection e0 with e0 _
  subst e0
  obtain ⟨A, n, c, xs, rfl, hn, hm, hR, hwf⟩ := ints_Rd ht hi hc hy1
  exact ⟨a, A, n, c, xs, rfl, hn, hm, hR, hwf⟩
end
end Go.Proofs.YtchmplpgamekjaaDoor
