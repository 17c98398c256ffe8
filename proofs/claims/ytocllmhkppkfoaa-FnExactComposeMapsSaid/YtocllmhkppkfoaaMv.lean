/- the reference's l01Less, l01Ascending -/
import Derived.Test.YtocllmhkppkfoaaMt
namespace Go.Proofs.Ytocllmhkppkfoaa
open Go.RowKit

theorem lexLt_same : ∀ (k : Nat) (x y : List Int), k ≤ x.length → k ≤ y.length → (∀ t, t < k → x.getD t 0 = y.getD t 0) → lexLt x y = lexLt (x.drop k) (y.drop k)
  | 0, _, _, _, _, _ => rfl
  | k + 1, [], _, h, _, _ => by simp at h
  | k + 1, _ :: _, [], _, h, _ => by simp at h
  | k + 1, a :: x, b :: y, h1, h2, h => by
    have h0 := h 0 (by omega)
    simp only [List.getD_cons_zero] at h0
    simp only [lexLt, if_pos h0, List.drop_succ_cons]
    exact lexLt_same k x y (by simpa using h1) (by simpa using h2) fun t ht => by have := h (t + 1) (by omega); simpa using this
theorem lexLt_at {k : Nat} {x y : List Int} (h1 : k < x.length) (h2 : k < y.length) (h : ∀ t, t < k → x.getD t 0 = y.getD t 0) (hne : x.getD k 0 ≠ y.getD k 0) : lexLt x y = decide (x.getD k 0 < y.getD k 0) := by
  rw [lexLt_same k x y (by omega) (by omega) h, List.drop_eq_getElem_cons h1, List.drop_eq_getElem_cons h2]
  simp only [List.getD, List.getElem?_eq_getElem h1, List.getElem?_eq_getElem h2, Option.getD_some] at hne ⊢
  simp only [lexLt, if_neg hne]
theorem lexLt_end {k : Nat} {x y : List Int} (h1 : k ≤ x.length) (h2 : k ≤ y.length) (h : ∀ t, t < k → x.getD t 0 = y.getD t 0) (he : k = x.length ∨ k = y.length) : lexLt x y = decide (x.length < y.length) := by
  rw [lexLt_same k x y h1 h2 h]
  rcases Nat.lt_or_ge k x.length with hx | hx
  · have hy : k = y.length := by omega
    rw [List.drop_eq_getElem_cons hx, List.drop_of_length_le (show y.length ≤ k by omega)]
    simp only [lexLt]; symm; rw [decide_eq_false_iff_not]; omega
  · rw [List.drop_of_length_le hx]
    rcases Nat.lt_or_ge k y.length with hy | hy
    · rw [List.drop_eq_getElem_cons hy]; simp only [lexLt]; symm; rw [decide_eq_true_eq]; omega
    · rw [List.drop_of_length_le hy]; simp only [lexLt]; symm; rw [decide_eq_false_iff_not]; omega

set_option maxHeartbeats 1000000 in
theorem l01Less_any (A B : Option Addr) (n n' c c' : Nat) (x y : List Int) (w : World) (hn : n = x.length) (hn' : n' = y.length) (hsm : n ≤ 1099511627776) (hsm' : n' ≤ 1099511627776) (hA : Rd w A (iv x)) (hB : Rd w B (iv y)) :
    Calls Try.prog 107 #[.slice A n c, .slice B n' c'] w fun e w' => e = .returned (.bool (lexLt x y)) ∧ ∃ m, w.drewN m = w' := by
  have HA := Lib.hid hA
  have HB := Lib.hid hB
  have Hn := Lib.hid hn
  have Hn' := Lib.hid hn'
  clear hA hB hn hn'
  go_enter Try.func107, Try.ntmps107
  go_wp2_with fail
  go_loopw [5] (fun i wr => ∃ k j : Nat, k ≤ n ∧ k ≤ n' ∧ i = .int .i64 k ∧ wr = w.drewN j ∧ Hid (∀ t, t < k → x.getD t 0 = y.getD t 0)) (fun i _ => n - (intOf i).toNat)
  case atStart => exact ⟨0, 0, by omega, by omega, rfl, rfl, Lib.hid (fun t ht => by omega)⟩
  case round =>
    obtain ⟨k, j, hk, hk', rfl, rfl, HQ⟩ := hrel
    by_cases hlt : k < n
    · by_cases hlt' : k < n'
      · have hx : k < x.length := by rw [← Hn.out]; exact hlt
        have hy : k < y.length := by rw [← Hn'.out]; exact hlt'
        obtain ⟨b1, o1, rfl, hc1⟩ := HA.out.atI hx
        obtain ⟨b2, o2, rfl, hc2⟩ := HB.out.atI hy
        have HAT := Lib.hid (fun hne => lexLt_at hx hy HQ.out hne)
        clear hx hy
        generalize hp : x.getD k 0 = p at *
        generalize hq : y.getD k 0 = q at *
        have HP := Lib.hid hp
        have HQ' := Lib.hid hq
        clear hp hq
        by_cases e : p = q
        · subst e
          go_wp2_with fail
          go_quiet (fail)
          go_wp2_with fail
          go_roundw
          case rel =>
            refine ⟨k + 1, _, by omega, by omega, by go_num, rfl, Lib.hid (fun t ht => ?_)⟩
            by_cases e : t = k
            · subst e; rw [HP.out, HQ'.out]
            · exact HQ.out t (by omega)
          case measure => simp [intOf]; omega
        · have heb : (p != q) = true := by simpa using e
          have HF := Lib.hid (HAT.out e)
          clear e HAT
          go_wp2_with fail
          go_quiet (fail)
          go_wp2_with fail
          go_quiet (fail)
          go_wp2_with fail
          go_ret
          exact ⟨by rw [HF.out]; rfl, _, by rw [World.drewN_drewN, World.drewN_drewN]⟩
      · have HF := Lib.hid (lexLt_end (by rw [← Hn.out]; omega) (by rw [← Hn'.out]; omega) HQ.out (.inr (by rw [← Hn'.out]; omega)))
        rw [← Hn.out, ← Hn'.out] at HF
        by_cases hnn : n < n'
        · omega
        · go_wp2_with fail
          go_ret
          exact ⟨by rw [HF.out, decide_eq_false hnn]; rfl, j, rfl⟩
    · have HF := Lib.hid (lexLt_end (by rw [← Hn.out]; omega) (by rw [← Hn'.out]; omega) HQ.out (.inl (by rw [← Hn.out]; omega)))
      rw [← Hn.out, ← Hn'.out] at HF
      by_cases hnn : n < n'
      · go_wp2_with fail
        go_ret
        exact ⟨by rw [HF.out, decide_eq_true hnn]; rfl, j, rfl⟩
      · go_wp2_with fail
        go_ret
        exact ⟨by rw [HF.out, decide_eq_false hnn]; rfl, j, rfl⟩

noncomputable def ascB (Q : List (List Int)) : Bool := @decide (AscP Q) (Classical.propDecidable _)
theorem ascB_true {Q : List (List Int)} (h : AscP Q) : ascB Q = true := by unfold ascB; simp [h]
theorem ascB_false {Q : List (List Int)} (h : ¬ AscP Q) : ascB Q = false := by unfold ascB; simp [h]

set_option maxHeartbeats 1000000 in
theorem l01Ascending_any (A : Option Addr) (n c : Nat) (L : List Row) (w : World) (hn : n = L.length) (hsm : n ≤ 1099511627776) (hl : ∀ i, i < L.length → (rg L i).xs.length ≤ 1099511627776) (hR : RdR w A L) :
    Calls Try.prog 92 #[.slice A n c] w fun e w' => e = .returned (.bool (ascB (dat L))) ∧ ∃ m, w.drewN m = w' := by
  have HR := Lib.hid hR
  have Hn := Lib.hid hn
  have HL := Lib.hid hl
  clear hR hn hl
  go_enter Try.func92, Try.ntmps92
  go_wp2_with fail
  go_loopw [3] (fun i wr => ∃ k j : Nat, k ≤ n ∧ i = .int .i64 ((k : Int) + 1) ∧ wr = w.drewN j ∧ Hid (∀ t, t < k → lexLt ((dat L).getD t []) ((dat L).getD (t + 1) []) = true)) (fun i _ => n + 1 - (intOf i).toNat)
  case atStart => exact ⟨0, 0, by omega, rfl, rfl, Lib.hid (fun t ht => by omega)⟩
  case round =>
    obtain ⟨k, j, hk, rfl, rfl, HQ⟩ := hrel
    by_cases hlt : k + 1 < n
    · have hk0 : k < L.length := by rw [← Hn.out]; omega
      have hk1 : k + 1 < L.length := by rw [← Hn.out]; omega
      have hi1 : (k : Int) + 1 < (n : Int) := by omega
      have hi2 : 0 ≤ (k : Int) + 1 := by omega
      have hi3 : ((k : Int) + 1).toNat = k + 1 := by omega
      obtain ⟨b, o, rfl, hc0⟩ := HR.out.at_ hk0
      have hc1 := HR.out.cell hk1
      have h0 := HR.out.inn k hk0
      have h1 := HR.out.inn (k + 1) hk1
      have l0 := HL.out k hk0
      have l1 := HL.out (k + 1) hk1
      have HE : Hid (lexLt ((dat L).getD k []) ((dat L).getD (k + 1) []) = lexLt (rg L k).xs (rg L (k + 1)).xs) := Lib.hid (by rw [dat_getD, dat_getD])
      generalize rg L k = r at *
      generalize rg L (k + 1) = s at *
      obtain ⟨rA, rc, rx⟩ := r
      obtain ⟨sA, sc, sx⟩ := s
      simp only at hc0 hc1 h0 h1 l0 l1 HE
      have HC := Lib.hid (fun W hb => l01Less_any rA sA rx.length sx.length rc sc rx sx W rfl rfl l0 l1 (Rd.below h0 hb) (Rd.below h1 hb))
      clear h0 h1
      cases hb : lexLt rx sx
      · rw [hb] at HC
        have HF := Lib.hid (ascB_false (Q := dat L) (fun h => by have := h k (by rw [dat_length]; exact hk1); rw [HE.out, hb] at this; cases this))
        clear hb
        go_wp2_with fail
        go_quiet ((go_at_call 107; first | exact quiet_any_add (HC.out _ (below_drewN (Below.refl _ _) _)) | exact quiet_any (HC.out _ (below_drewN (Below.refl _ _) _))))
        go_wp2_with fail
        go_ret
        exact ⟨by rw [HF.out]; rfl, _, by rw [World.drewN_drewN]⟩
      · rw [hb] at HC
        have HB := Lib.hid hb
        clear hb
        go_wp2_with fail
        go_quiet ((go_at_call 107; first | exact quiet_any_add (HC.out _ (below_drewN (Below.refl _ _) _)) | exact quiet_any (HC.out _ (below_drewN (Below.refl _ _) _))))
        go_wp2_with fail
        go_roundw
        case rel =>
          refine ⟨k + 1, _, by omega, by go_num, rfl, Lib.hid (fun t ht => ?_)⟩
          by_cases e : t = k
          · subst e; rw [HE.out]; exact HB.out
          · exact HQ.out t (by omega)
        case measure => simp [intOf]; omega
    · have hi1 : ¬ (k : Int) + 1 < (n : Int) := by omega
      have HT := Lib.hid (ascB_true (Q := dat L) (fun i hi => HQ.out i (by rw [dat_length, ← Hn.out] at hi; omega)))
      go_wp2_with fail
      go_ret
      exact ⟨by rw [HT.out]; rfl, j, rfl⟩
end Go.Proofs.Ytocllmhkppkfoaa
