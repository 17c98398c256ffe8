/- library functions: cmp.Less, cmp.Compare, slices.IsSorted, slices.Compare; impl's rising -/
import Derived.Test.YtocllmhkppkfoaaMv
namespace Go.Proofs.Ytocllmhkppkfoaa
open Go.RowKit

theorem isNaN_any (x : Int) (w : World) : Calls Try.prog 118 #[.int .i64 x] w fun e w' => e = .returned (.bool false) ∧ w = w' := by
  go_enter Try.func118, Try.ntmps118
  go_wp2
  go_ret
  exact ⟨rfl, rfl⟩
theorem cmpLess_any (x y : Int) (w : World) : Calls Try.prog 110 #[.int .i64 x, .int .i64 y] w fun e w' => e = .returned (.bool (decide (x < y))) ∧ w = w' := by
  have HN := Lib.hid (fun W => isNaN_any x W)
  go_enter Try.func110, Try.ntmps110
  go_wp2_with (go_at_call 118; refine (HN.out _).mono ?_; rintro e w' ⟨rfl, rfl⟩)
  go_ret
  exact ⟨rfl, rfl⟩
def SrtP (xs : List Int) : Prop := ∀ i, i + 1 < xs.length → xs.getD i 0 ≤ xs.getD (i + 1) 0
noncomputable def srtB (xs : List Int) : Bool := @decide (SrtP xs) (Classical.propDecidable _)
theorem srtB_true {xs : List Int} (h : SrtP xs) : srtB xs = true := by unfold srtB; simp [h]
theorem srtB_false {xs : List Int} (h : ¬ SrtP xs) : srtB xs = false := by unfold srtB; simp [h]
theorem srtB_iff {xs : List Int} : srtB xs = true ↔ SrtP xs := by unfold srtB; simp

set_option maxHeartbeats 1000000 in
theorem isSorted_any (A : Option Addr) (n c : Nat) (xs : List Int) (w : World) (hn : n = xs.length) (hsm : n ≤ 1099511627776) (hR : Rd w A (iv xs)) :
    Calls Try.prog 99 #[.slice A n c] w fun e w' => e = .returned (.bool (srtB xs)) ∧ ∃ m, w.drewN m = w' := by
  have HR := Lib.hid hR
  have Hn := Lib.hid hn
  clear hR hn
  go_enter Try.func99, Try.ntmps99
  go_wp2_with fail
  go_loopw [3] (fun i wr => ∃ k j : Nat, k ≤ n ∧ i = .int .i64 ((k : Int) - 1) ∧ wr = w.drewN j ∧ Hid (∀ t, k ≤ t + 1 → t + 1 < n → xs.getD t 0 ≤ xs.getD (t + 1) 0)) (fun i _ => (intOf i + 1).toNat)
  case atStart => exact ⟨n, 0, by omega, rfl, rfl, Lib.hid (fun t h1 h2 => by omega)⟩
  case round =>
    obtain ⟨k, j, hk, rfl, rfl, HQ⟩ := hrel
    by_cases h2 : 2 ≤ k
    · obtain ⟨q, rfl⟩ : ∃ q, k = q + 2 := ⟨k - 2, by omega⟩
      have e1 : (((q + 2 : Nat) : Int) - 1) = (q : Int) + 1 := by omega
      rw [e1]
      clear e1
      obtain ⟨b, o, rfl, hc0⟩ := HR.out.atI (k := q) (by rw [← Hn.out]; omega)
      have hc1 := HR.out.cellI (k := q + 1) (by rw [← Hn.out]; omega)
      have hw1 : IntKind.i64.wrap ((q : Int) + 1 - 1) = (q : Int) := by rw [IntKind.wrap_i64]; omega
      have hi0 : (q : Int) < (n : Int) := by omega
      have hi1 : (q : Int) + 1 < (n : Int) := by omega
      have hi2 : 0 < (q : Int) + 1 := by omega
      have hi3 : 0 ≤ (q : Int) + 1 := by omega
      have hi4 : ((q : Int) + 1).toNat = q + 1 := by omega
      have HL := Lib.hid (fun W => cmpLess_any (xs.getD (q + 1) 0) (xs.getD q 0) W)
      by_cases hlt : xs.getD (q + 1) 0 < xs.getD q 0
      · have HF := Lib.hid (srtB_false (xs := xs) (fun h => by have := h q (by rw [← Hn.out]; omega); omega))
        rw [decide_eq_true hlt] at HL
        clear hlt
        generalize xs.getD (q + 1) 0 = x at *
        generalize xs.getD q 0 = y at *
        go_wp2_with fail
        go_big_quiet ((go_at_call 110; first | exact quiet_add_left (HL.out _) | exact quiet_left (HL.out _)))
        go_wp2_with fail
        go_ret
        exact ⟨by rw [HF.out]; rfl, _, by rw [World.drewN_drewN]⟩
      · have HQ2 : Hid (∀ t, q + 1 ≤ t + 1 → t + 1 < n → xs.getD t 0 ≤ xs.getD (t + 1) 0) := Lib.hid (fun t h1 h2 => by
          by_cases e : t = q
          · subst e; omega
          · exact HQ.out t (by omega) h2)
        rw [decide_eq_false hlt] at HL
        clear hlt
        generalize xs.getD (q + 1) 0 = x at *
        generalize xs.getD q 0 = y at *
        go_wp2_with fail
        go_big_quiet ((go_at_call 110; first | exact quiet_add_left (HL.out _) | exact quiet_left (HL.out _)))
        clear hw1 hi0 hi1 hi2 hi3 hi4
        go_wp2_with fail
        go_roundw
        case rel => exact ⟨q + 1, _, by omega, congrArg (Value.int .i64) (by omega), rfl, HQ2⟩
        case measure => simp [intOf]; omega
    · have hi1 : ¬ (0 : Int) < (k : Int) - 1 := by omega
      have HT := Lib.hid (srtB_true (xs := xs) (fun t ht => HQ.out t (by omega) (by rw [Hn.out]; exact ht)))
      go_wp2_with fail
      go_ret
      exact ⟨by rw [HT.out]; rfl, j, rfl⟩

def cmpI (x y : Int) : Int := if x < y then -1 else if y < x then 1 else 0
theorem cmpCompare_any (x y : Int) (w : World) : Calls Try.prog 119 #[.int .i64 x, .int .i64 y] w fun e w' => e = .returned (.int .i64 (cmpI x y)) ∧ w = w' := by
  have HN := Lib.hid (fun z W => isNaN_any z W)
  by_cases h : x < y
  · have HE : Hid (cmpI x y = -1) := Lib.hid (by unfold cmpI; rw [if_pos h])
    go_enter Try.func119, Try.ntmps119
    go_wp2_with (go_at_call 118; refine (HN.out _ _).mono ?_; rintro e w' ⟨rfl, rfl⟩)
    go_ret
    exact ⟨by rw [HE.out]; rfl, rfl⟩
  · by_cases h' : y < x
    · have HE : Hid (cmpI x y = 1) := Lib.hid (by unfold cmpI; rw [if_neg h, if_pos h'])
      go_enter Try.func119, Try.ntmps119
      go_wp2_with (go_at_call 118; refine (HN.out _ _).mono ?_; rintro e w' ⟨rfl, rfl⟩)
      go_ret
      exact ⟨by rw [HE.out]; rfl, rfl⟩
    · have HE : Hid (cmpI x y = 0) := Lib.hid (by unfold cmpI; rw [if_neg h, if_neg h'])
      go_enter Try.func119, Try.ntmps119
      go_wp2_with (go_at_call 118; refine (HN.out _ _).mono ?_; rintro e w' ⟨rfl, rfl⟩)
      go_ret
      exact ⟨by rw [HE.out]; rfl, rfl⟩

/-- the order of lists as a number -/
def cmpL (x y : List Int) : Int := if lexLt x y = true then -1 else if x = y then 0 else 1
set_option maxHeartbeats 1000000 in
theorem slCompare_any (A B : Option Addr) (n n' c c' : Nat) (x y : List Int) (w : World) (hn : n = x.length) (hn' : n' = y.length) (hsm : n ≤ 1099511627776) (hsm' : n' ≤ 1099511627776) (hA : Rd w A (iv x)) (hB : Rd w B (iv y)) :
    Calls Try.prog 111 #[.slice A n c, .slice B n' c'] w fun e w' => e = .returned (.int .i64 (cmpL x y)) ∧ w = w' := by
  have HA := Lib.hid hA
  have HB := Lib.hid hB
  have Hn := Lib.hid hn
  have Hn' := Lib.hid hn'
  clear hA hB hn hn'
  go_enter Try.func111, Try.ntmps111
  go_wp2_with fail
  go_loop [11] (fun i => ∃ k : Nat, k ≤ n ∧ k ≤ n' ∧ i = .int .i64 k ∧ Hid (∀ t, t < k → x.getD t 0 = y.getD t 0)) (fun i => n - (intOf i).toNat)
  case atStart => exact ⟨0, by omega, by omega, rfl, Lib.hid (fun t ht => by omega)⟩
  case round =>
    obtain ⟨k, hk, hk', rfl, HQ⟩ := hrel
    by_cases hlt : k < n
    · have hx : k < x.length := by rw [← Hn.out]; exact hlt
      obtain ⟨b1, o1, rfl, hc1⟩ := HA.out.atI hx
      by_cases hlt' : k < n'
      · have hy : k < y.length := by rw [← Hn'.out]; exact hlt'
        obtain ⟨b2, o2, rfl, hc2⟩ := HB.out.atI hy
        have HAT := Lib.hid (fun hne => lexLt_at hx hy HQ.out hne)
        have HC := Lib.hid (fun W => cmpCompare_any (x.getD k 0) (y.getD k 0) W)
        clear hx hy
        generalize hp : x.getD k 0 = p at *
        generalize hq : y.getD k 0 = q at *
        have HP := Lib.hid hp
        have HQ' := Lib.hid hq
        clear hp hq
        rcases Int.lt_trichotomy p q with h | h | h
        · have HE : Hid (cmpI p q = -1) := Lib.hid (by unfold cmpI; rw [if_pos h])
          have HF : Hid (cmpL x y = -1) := Lib.hid (by unfold cmpL; rw [HAT.out (by omega), if_pos (by simpa using h)])
          rw [HE.out] at HC
          clear h
          go_wp2_with (go_at_call 119; refine (HC.out _).mono ?_; rintro e w' ⟨rfl, rfl⟩)
          go_ret
          exact ⟨by rw [HF.out]; rfl, rfl⟩
        · have HE : Hid (cmpI p q = 0) := Lib.hid (by unfold cmpI; rw [if_neg (by omega), if_neg (by omega)])
          rw [HE.out] at HC
          have HPQ := Lib.hid h
          clear h
          go_wp2_with (go_at_call 119; refine (HC.out _).mono ?_; rintro e w' ⟨rfl, rfl⟩)
          go_round
          case rel =>
            refine ⟨k + 1, by omega, by omega, by go_num, Lib.hid (fun t ht => ?_)⟩
            by_cases e : t = k
            · subst e; rw [HP.out, HQ'.out, HPQ.out]
            · exact HQ.out t (by omega)
          case measure => simp [intOf]; omega
        · have HE : Hid (cmpI p q = 1) := Lib.hid (by unfold cmpI; rw [if_neg (by omega), if_pos h])
          have HF : Hid (cmpL x y = 1) := Lib.hid (by
            unfold cmpL
            rw [HAT.out (by omega), if_neg (by simp; omega), if_neg]
            intro e; subst e
            have := HP.out.symm.trans HQ'.out
            omega)
          rw [HE.out] at HC
          clear h
          go_wp2_with (go_at_call 119; refine (HC.out _).mono ?_; rintro e w' ⟨rfl, rfl⟩)
          go_ret
          exact ⟨by rw [HF.out]; rfl, rfl⟩
      · have HF : Hid (cmpL x y = 1) := Lib.hid (by
          have h1 := lexLt_end (by rw [← Hn.out]; omega) (by rw [← Hn'.out]; omega) HQ.out (.inr (by rw [← Hn'.out]; omega))
          rw [← Hn.out, ← Hn'.out, decide_eq_false (by omega)] at h1
          unfold cmpL
          rw [h1, if_neg (by simp), if_neg]
          intro e; subst e
          have := Hn.out.trans Hn'.out.symm
          omega)
        go_wp2_with fail
        go_ret
        exact ⟨by rw [HF.out]; rfl, rfl⟩
    · have h1 := lexLt_end (by rw [← Hn.out]; omega) (by rw [← Hn'.out]; omega) HQ.out (.inl (by rw [← Hn.out]; omega))
      rw [← Hn.out, ← Hn'.out] at h1
      by_cases hnn : n < n'
      · have HF : Hid (cmpL x y = -1) := Lib.hid (by unfold cmpL; rw [h1, if_pos (by simpa using hnn)])
        clear h1
        go_wp2_with fail
        go_ret
        exact ⟨by rw [HF.out]; rfl, rfl⟩
      · have HF : Hid (cmpL x y = 0) := Lib.hid (by
          unfold cmpL
          rw [h1, if_neg (by simpa using hnn), if_pos]
          exact list_ext_getD Hn.out.symm (by rw [← Hn'.out]; omega) (fun i hi => HQ.out i (by omega)))
        clear h1
        go_wp2_with fail
        go_ret
        exact ⟨by rw [HF.out]; rfl, rfl⟩
theorem cmpL_lt {x y : List Int} (h : lexLt x y = true) : cmpL x y = -1 := by unfold cmpL; rw [if_pos h]
theorem cmpL_ge {x y : List Int} (h : lexLt x y = false) : 0 ≤ cmpL x y ∧ cmpL x y ≤ 1 := by unfold cmpL; rw [if_neg (by rw [h]; simp)]; split <;> omega

set_option maxHeartbeats 1000000 in
theorem rising_any (A : Option Addr) (n c : Nat) (L : List Row) (w : World) (hn : n = L.length) (hsm : n ≤ 1099511627776) (hl : ∀ i, i < L.length → (rg L i).xs.length ≤ 1099511627776) (hR : RdR w A L) :
    Calls Try.prog 100 #[.slice A n c] w fun e w' => e = .returned (.bool (ascB (dat L))) ∧ ∃ m, w.drewN m = w' := by
  have HR := Lib.hid hR
  have Hn := Lib.hid hn
  have HL := Lib.hid hl
  clear hR hn hl
  go_enter Try.func100, Try.ntmps100
  go_wp2_with fail
  go_loopw [3] (fun i wr => ∃ k j : Nat, k ≤ n ∧ i = .int .i64 ((k : Int) + 1) ∧ wr = w.drewN j ∧ Hid (∀ t, t < k → lexLt ((dat L).getD t []) ((dat L).getD (t + 1) []) = true)) (fun i _ => n + 1 - (intOf i).toNat)
  case atStart => exact ⟨0, 0, by omega, rfl, rfl, Lib.hid (fun t ht => by omega)⟩
  case round =>
    obtain ⟨k, j, hk, rfl, rfl, HQ⟩ := hrel
    by_cases hlt : k + 1 < n
    · have hk0 : k < L.length := by rw [← Hn.out]; omega
      have hk1 : k + 1 < L.length := by rw [← Hn.out]; omega
      have hi1 : (k : Int) + 1 < (n : Int) := by omega
      have hi2 : 0 ≤ (k : Int) + 1 := by omega
      have hi3 : ((k : Int) + 1).toNat = k + 1 := by omega
      obtain ⟨b, o, rfl, hc0⟩ := HR.out.at_ hk0
      have hc1 := HR.out.cell hk1
      have h0 := HR.out.inn k hk0
      have h1 := HR.out.inn (k + 1) hk1
      have l0 := HL.out k hk0
      have l1 := HL.out (k + 1) hk1
      have HE : Hid (lexLt ((dat L).getD k []) ((dat L).getD (k + 1) []) = lexLt (rg L k).xs (rg L (k + 1)).xs) := Lib.hid (by rw [dat_getD, dat_getD])
      generalize rg L k = r at *
      generalize rg L (k + 1) = s at *
      obtain ⟨rA, rc, rx⟩ := r
      obtain ⟨sA, sc, sx⟩ := s
      simp only at hc0 hc1 h0 h1 l0 l1 HE
      have HC := Lib.hid (fun W hb => slCompare_any rA sA rx.length sx.length rc sc rx sx W rfl rfl l0 l1 (Rd.below h0 hb) (Rd.below h1 hb))
      clear h0 h1
      cases hb : lexLt rx sx
      · have hz := cmpL_ge hb
        have HF := Lib.hid (ascB_false (Q := dat L) (fun h => by have := h k (by rw [dat_length]; exact hk1); rw [HE.out, hb] at this; cases this))
        generalize cmpL rx sx = z at *
        obtain ⟨hz1, hz2⟩ := hz
        clear hb
        go_wp2_with fail
        go_big_quiet ((go_at_call 111; first | exact quiet_add_left (HC.out _ (below_drewN (Below.refl _ _) _)) | exact quiet_left (HC.out _ (below_drewN (Below.refl _ _) _))))
        go_wp2_with fail
        go_ret
        exact ⟨by rw [HF.out]; rfl, _, by rw [World.drewN_drewN]⟩
      · rw [cmpL_lt hb] at HC
        have HB := Lib.hid hb
        clear hb
        go_wp2_with fail
        go_big_quiet ((go_at_call 111; first | exact quiet_add_left (HC.out _ (below_drewN (Below.refl _ _) _)) | exact quiet_left (HC.out _ (below_drewN (Below.refl _ _) _))))
        go_wp2_with fail
        go_roundw
        case rel =>
          refine ⟨k + 1, _, by omega, by go_num, rfl, Lib.hid (fun t ht => ?_)⟩
          by_cases e : t = k
          · subst e; rw [HE.out]; exact HB.out
          · exact HQ.out t (by omega)
        case measure => simp [intOf]; omega
    · have hi1 : ¬ (k : Int) + 1 < (n : Int) := by omega
      have HT := Lib.hid (ascB_true (Q := dat L) (fun i hi => HQ.out i (by rw [dat_length, ← Hn.out] at hi; omega)))
      go_wp2_with fail
      go_ret
      exact ⟨by rw [HT.out]; rfl, j, rfl⟩
end Go.Proofs.Ytocllmhkppkfoaa
