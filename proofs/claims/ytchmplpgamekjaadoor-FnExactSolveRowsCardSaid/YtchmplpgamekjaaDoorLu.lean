/- the program's solve -/
import Derived.Test.YtchmplpgamekjaaDoorLt
import Derived.Deep.Onto
namespace Go.Proofs.YtchmplpgamekjaaDoor
open Go.RowKit

def mixL (M N : List Nat) (i : Nat) : List Nat := M.take i ++ N.drop i
theorem mixL_length {M N : List Nat} (h : M.length = N.length) (i : Nat) : (mixL M N i).length = N.length := by simp [mixL]; omega
theorem mixL_getD {M N : List Nat} (h : M.length = N.length) {i : Nat} (hi : i < N.length) : (mixL M N i).getD i 0 = N.getD i 0 := by
  simp [mixL, List.getD, List.getElem?_append, show min i M.length = i by omega]
theorem mixL_succ {M N : List Nat} (h : M.length = N.length) {i : Nat} (hi : i < N.length) : mixL M N (i + 1) = (mixL M N i).set i (M.getD i 0) := by
  apply List.ext_getElem?
  intro j
  simp only [mixL, List.getElem?_append, List.getElem?_set, List.length_append, List.length_take, List.getElem?_take, List.getElem?_drop, List.length_drop, List.getD]
  by_cases h1 : j < i
  · simp [h1, show j < i + 1 by omega, show j < min (i + 1) M.length by omega, show j < min i M.length by omega, show i ≠ j by omega]
  · by_cases h2 : j = i
    · subst h2; simp [show j < M.length by omega, show j < min (j + 1) M.length by omega, show j < min j M.length + (N.length - j) by omega]
    · simp [h1, show ¬ j < i + 1 by omega, show ¬ j < min (i + 1) M.length by omega, show ¬ j < min i M.length by omega, show i ≠ j by omega, show min (i + 1) M.length = i + 1 by omega, show min i M.length = i by omega, show i + 1 + (j - (i + 1)) = j by omega, show i + (j - i) = j by omega]
theorem mixL_id {M N : List Nat} (h : M.length = N.length) {i : Nat} (hi : i < N.length) (e : M.getD i 0 = N.getD i 0) : mixL M N (i + 1) = mixL M N i := by
  rw [mixL_succ h hi, e, ← mixL_getD h hi]
  apply List.ext_getElem?
  intro j
  rw [List.getElem?_set]
  split
  · rename_i e; subst e
    have hl : i < (mixL M N i).length := by rw [mixL_length h]; exact hi
    rw [if_pos hl]
    simp only [List.getD, List.getElem?_eq_getElem hl, Option.getD_some]
  · rfl
theorem clearL_length (d k : Nat) (Z : List Nat) : (clearL d k Z).length = Z.length := by simp [clearL]
theorem clearL_getD {d k : Nat} {Z : List Nat} {i : Nat} (hi : i < Z.length) : (clearL d k Z).getD i 0 = if i ≠ k ∧ tb (Z.getD i 0) d = true then xr (Z.getD i 0) (Z.getD k 0) else Z.getD i 0 := by
  simp [clearL, List.getD, hi]

/-- the program's state after j of its steps down from n -/
def stK (n : Nat) (p : List Nat × Nat) : Nat → List Nat × Nat
  | 0 => p
  | j + 1 => solStep (n - 1 - j) (stK n p j)
theorem stK_down (n : Nat) (p : List Nat × Nat) : ∀ j, j ≤ n → solDown n p = solDown (n - j) (stK n p j)
  | 0, _ => rfl
  | j + 1, h => by
    rw [stK_down n p j (by omega), show n - j = (n - (j + 1)) + 1 by omega]
    show solDown (n - (j + 1)) (solStep (n - (j + 1)) (stK n p j)) = _
    rw [show n - (j + 1) = n - 1 - j by omega]; rfl
theorem stK_all (n : Nat) (p : List Nat × Nat) : stK n p n = solDown n p := by
  rw [stK_down n p n (Nat.le_refl _), Nat.sub_self]; rfl
theorem solStep_sm {d : Nat} {p : List Nat × Nat} (h1 : ∀ z ∈ p.1, Sm z) (h2 : Sm p.2) : (∀ z ∈ (solStep d p).1, Sm z) ∧ Sm (solStep d p).2 ∧ (solStep d p).1.length = p.1.length := by
  obtain ⟨Z, x⟩ := p
  unfold solStep
  cases hf : Z.findIdx? (topIs d) with
  | none => simp only [hf]; first | exact ⟨h1, h2, rfl⟩ | exact ⟨h1, h2, trivial⟩
  | some k =>
    simp only [hf]
    obtain ⟨hk, _, _⟩ := List.findIdx?_eq_some_iff_getElem.1 hf
    have hz : Sm (Z.getD k 0) := h1 _ (getD_mem hk)
    refine ⟨?_, ?_, clearL_length _ _ _⟩
    · intro r hr
      obtain ⟨i, hi, rfl⟩ := List.getElem_of_mem hr
      have hi' : i < Z.length := by simpa [clearL] using hi
      simp only [clearL, List.getElem_mapIdx]
      split
      · exact (h1 _ (List.getElem_mem hi')).xr hz
      · exact h1 _ (List.getElem_mem hi')
    · show Sm (if tb x d then xr x (Z.getD k 0) else x)
      split
      · exact h2.xr hz
      · exact h2
theorem stK_sm {n : Nat} {p : List Nat × Nat} (h1 : ∀ z ∈ p.1, Sm z) (h2 : Sm p.2) : ∀ j, (∀ z ∈ (stK n p j).1, Sm z) ∧ Sm (stK n p j).2 ∧ (stK n p j).1.length = p.1.length
  | 0 => ⟨h1, h2, rfl⟩
  | j + 1 => by
    obtain ⟨a, b, c⟩ := stK_sm h1 h2 j
    obtain ⟨a', b', c'⟩ := solStep_sm (d := n - 1 - j) a b
    exact ⟨a', b', c'.trans c⟩

theorem topIs_int (e z : Nat) : (((z : Int) / 2 ^ e) == 1) = topIs e z := by
  have e1 : (z : Int) / 2 ^ e = ((z / 2 ^ e : Nat) : Int) := by simp
  rw [e1]
  unfold topIs
  rw [Bool.eq_iff_iff]
  simp only [beq_iff_eq]
  omega
theorem clos_any (e g z : Nat) (he : e ≤ 60) (w : World) (hc : w.cell? ⟨g, 0, none⟩ = some (.int .i64 (e : Int))) : Asks Tryd.prog 115 (.pointer (some ⟨g, 0, none⟩)) w (.int .i64 (z : Int)) (topIs e z) := by
  intro m
  have ht := topIs_int e z
  have HT := Lib.hid ht
  clear ht
  go_enter Tryd.func115, Tryd.ntmps115
  go_wp2_with fail
  go_ret
  exact ⟨by rw [← HT.out]; rfl, m, rfl⟩
theorem find_nI (e : Nat) (Z : List Nat) : (nI Z).findIdx? (fun x => topIs e x.toNat) = Z.findIdx? (topIs e) := by
  unfold nI
  rw [List.findIdx?_map]
  congr 1
theorem Rd.drewN {w : World} {A : Option Addr} {vs : List Value} (h : Rd w A vs) (m : Nat) : Rd (w.drewN m) A vs := h
end Go.Proofs.YtchmplpgamekjaaDoor
