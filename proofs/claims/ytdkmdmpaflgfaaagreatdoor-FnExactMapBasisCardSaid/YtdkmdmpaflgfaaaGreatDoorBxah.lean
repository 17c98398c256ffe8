/- the reference's l01Less, l01Ascending · the reference's l01Parity, l03Front, l01Put (into nothing), l01Sum · the reference's l01Sum · the reference's vectors and masks: l11Vector, l12Mask, l12Vector, l12Masks, l12Vectors, l12Degree, l12Act, l02Times, l12Image -/
import Derived.Test.YtdkmdmpaflgfaaaGreatDoorBxag
import Derived.Test.YtdkmdmpaflgfaaaGreatDoorBxab
import Derived.Test.YtdkmdmpaflgfaaaGreatDoorBxae
import Derived.Test.YtdkmdmpaflgfaaaGreatDoorBxaa
set_option linter.all false
namespace Go.Proofs.YtdkmdmpaflgfaaaGreatDoor
open Go.RowKit

theorem lexLt_same : ∀ (k : Nat) (x y : List Int), k ≤ x.length → k ≤ y.length → (∀ t, t < k → x.getD t 0 = y.getD t 0) → lexLt x y = lexLt (x.drop k) (y.drop k)
  | 0, _, _, _, _, _ => rfl
  | k + 1, [], _, h, _, _ => by simp at h
  | k + 1, _ :: _, [], _, h, _ => by simp at h
  | k + 1, a :: x, b :: y, h1, h2, h => by
    have h0 := h 0 (by omega)
    simp only [List.getD_cons_zero] at h0
    simp only [lexLt, if_pos h0, List.drop_succ_cons]
    exact lexLt_same k x y (by simpa using h1) (by simpa using h2) fun t ht => by have := h (t + 1) (by omega); simpa using this
theorem lexLt_at {k : Nat} {x y : List Int} (h1 : k < x.length) (h2 : k < y.length) (h : ∀ t, t < k → x.getD t 0 = y.getD t 0) (hne : x.getD k 0 ≠ y.getD k 0) : lexLt x y = decide (x.getD k 0 < y.getD k 0) := by
  rw [lexLt_same k x y (by omega) (by omega) h, List.drop_eq_getElem_cons h1, List.drop_eq_getElem_cons h2]
  simp only [List.getD, List.getElem?_eq_getElem h1, List.getElem?_eq_getElem h2, Option.getD_some] at hne ⊢
  simp only [lexLt, if_neg hne]
theorem lexLt_end {k : Nat} {x y : List Int} (h1 : k ≤ x.length) (h2 : k ≤ y.length) (h : ∀ t, t < k → x.getD t 0 = y.getD t 0) (he : k = x.length ∨ k = y.length) : lexLt x y = decide (x.length < y.length) := by
  rw [lexLt_same k x y h1 h2 h]
  rcases Nat.lt_or_ge k x.length with hx | hx
  · have hy : k = y.length := by omega
    rw [List.drop_eq_getElem_cons hx, List.drop_of_length_le (show y.length ≤ k by omega)]
    simp only [lexLt]; symm; rw [decide_eq_false_iff_not]; omega
  · rw [List.drop_of_length_le hx]
    rcases Nat.lt_or_ge k y.length with hy | hy
    · rw [List.drop_eq_getElem_cons hy]; simp only [lexLt]; symm; rw [decide_eq_true_eq]; omega
    · rw [List.drop_of_length_le hy]; simp only [lexLt]; symm; rw [decide_eq_false_iff_not]; omega

set_option maxHeartbeats 1000000 in
theorem l01Less_any (A B : Option Addr) (n n' c c' : Nat) (x y : List Int) (w : World) (hn : n = x.length) (hn' : n' = y.length) (hsm : n ≤ 1099511627776) (hsm' : n' ≤ 1099511627776) (hA : Rd w A (iv x)) (hB : Rd w B (iv y)) :
    Calls Tryz.prog 210 #[.slice A n c, .slice B n' c'] w fun e w' => e = .returned (.bool (lexLt x y)) ∧ ∃ m, w.drewN m = w' := by
  have HA := Lib.hid hA
  have HB := Lib.hid hB
  have Hn := Lib.hid hn
  have Hn' := Lib.hid hn'
  clear hA hB hn hn'
  go_enter Tryz.func210, Tryz.ntmps210
  go_wp2_with fail
  go_loopw [5] (fun i wr => ∃ k j : Nat, k ≤ n ∧ k ≤ n' ∧ i = .int .i64 k ∧ wr = w.drewN j ∧ Hid (∀ t, t < k → x.getD t 0 = y.getD t 0)) (fun i _ => n - (intOf i).toNat)
  case atStart => exact ⟨0, 0, by omega, by omega, rfl, rfl, Lib.hid (fun t ht => by omega)⟩
  case round =>
    obtain ⟨k, j, hk, hk', rfl, rfl, HQ⟩ := hrel
    by_cases hlt : k < n
    · by_cases hlt' : k < n'
      · have hx : k < x.length := by rw [← Hn.out]; exact hlt
        have hy : k < y.length := by rw [← Hn'.out]; exact hlt'
        obtain ⟨b1, o1, rfl, hc1⟩ := HA.out.atI hx
        obtain ⟨b2, o2, rfl, hc2⟩ := HB.out.atI hy
        have HAT := Lib.hid (fun hne => lexLt_at hx hy HQ.out hne)
        clear hx hy
        generalize hp : x.getD k 0 = p at *
        generalize hq : y.getD k 0 = q at *
        have HP := Lib.hid hp
        have HQ' := Lib.hid hq
        clear hp hq
        by_cases e : p = q
        · subst e
          go_wp2_with fail
          go_quiet (fail)
          go_wp2_with fail
          go_roundw
          case rel =>
            refine ⟨k + 1, _, by omega, by omega, by go_num, rfl, Lib.hid (fun t ht => ?_)⟩
            by_cases e : t = k
            · subst e; rw [HP.out, HQ'.out]
            · exact HQ.out t (by omega)
          case measure => simp [intOf]; omega
        · have heb : (p != q) = true := by simpa using e
          have HF := Lib.hid (HAT.out e)
          clear e HAT
          go_wp2_with fail
          go_quiet (fail)
          go_wp2_with fail
          go_quiet (fail)
          go_wp2_with fail
          go_ret
          exact ⟨by rw [HF.out]; rfl, _, by rw [World.drewN_drewN, World.drewN_drewN]⟩
      · have HF := Lib.hid (lexLt_end (by rw [← Hn.out]; omega) (by rw [← Hn'.out]; omega) HQ.out (.inr (by rw [← Hn'.out]; omega)))
        rw [← Hn.out, ← Hn'.out] at HF
        by_cases hnn : n < n'
        · omega
        · go_wp2_with fail
          go_ret
          exact ⟨by rw [HF.out, decide_eq_false hnn]; rfl, j, rfl⟩
    · have HF := Lib.hid (lexLt_end (by rw [← Hn.out]; omega) (by rw [← Hn'.out]; omega) HQ.out (.inl (by rw [← Hn.out]; omega)))
      rw [← Hn.out, ← Hn'.out] at HF
      by_cases hnn : n < n'
      · go_wp2_with fail
        go_ret
        exact ⟨by rw [HF.out, decide_eq_true hnn]; rfl, j, rfl⟩
      · go_wp2_with fail
        go_ret
        exact ⟨by rw [HF.out, decide_eq_false hnn]; rfl, j, rfl⟩

noncomputable def ascB (Q : List (List Int)) : Bool := @decide (AscP Q) (Classical.propDecidable _)
theorem ascB_true {Q : List (List Int)} (h : AscP Q) : ascB Q = true := by unfold ascB; simp [h]
theorem ascB_false {Q : List (List Int)} (h : ¬ AscP Q) : ascB Q = false := by unfold ascB; simp [h]

set_option maxHeartbeats 1000000 in
theorem l01Ascending_any (A : Option Addr) (n c : Nat) (L : List Row) (w : World) (hn : n = L.length) (hsm : n ≤ 1099511627776) (hl : ∀ i, i < L.length → (rg L i).xs.length ≤ 1099511627776) (hR : RdR w A L) :
    Calls Tryz.prog 163 #[.slice A n c] w fun e w' => e = .returned (.bool (ascB (dat L))) ∧ ∃ m, w.drewN m = w' := by
  have HR := Lib.hid hR
  have Hn := Lib.hid hn
  have HL := Lib.hid hl
  clear hR hn hl
  go_enter Tryz.func163, Tryz.ntmps163
  go_wp2_with fail
  go_loopw [3] (fun i wr => ∃ k j : Nat, k ≤ n ∧ i = .int .i64 ((k : Int) + 1) ∧ wr = w.drewN j ∧ Hid (∀ t, t < k → lexLt ((dat L).getD t []) ((dat L).getD (t + 1) []) = true)) (fun i _ => n + 1 - (intOf i).toNat)
  case atStart => exact ⟨0, 0, by omega, rfl, rfl, Lib.hid (fun t ht => by omega)⟩
  case round =>
    obtain ⟨k, j, hk, rfl, rfl, HQ⟩ := hrel
    by_cases hlt : k + 1 < n
    · have hk0 : k < L.length := by rw [← Hn.out]; omega
      have hk1 : k + 1 < L.length := by rw [← Hn.out]; omega
      have hi1 : (k : Int) + 1 < (n : Int) := by omega
      have hi2 : 0 ≤ (k : Int) + 1 := by omega
      have hi3 : ((k : Int) + 1).toNat = k + 1 := by omega
      obtain ⟨b, o, rfl, hc0⟩ := HR.out.at_ hk0
      have hc1 := HR.out.cell hk1
      have h0 := HR.out.inn k hk0
      have h1 := HR.out.inn (k + 1) hk1
      have l0 := HL.out k hk0
      have l1 := HL.out (k + 1) hk1
      have HE : Hid (lexLt ((dat L).getD k []) ((dat L).getD (k + 1) []) = lexLt (rg L k).xs (rg L (k + 1)).xs) := Lib.hid (by rw [dat_getD, dat_getD])
      generalize rg L k = r at *
      generalize rg L (k + 1) = s at *
      obtain ⟨rA, rc, rx⟩ := r
      obtain ⟨sA, sc, sx⟩ := s
      simp only at hc0 hc1 h0 h1 l0 l1 HE
      have HC := Lib.hid (fun W hb => l01Less_any rA sA rx.length sx.length rc sc rx sx W rfl rfl l0 l1 (Rd.below h0 hb) (Rd.below h1 hb))
      clear h0 h1
      cases hb : lexLt rx sx
      · rw [hb] at HC
        have HF := Lib.hid (ascB_false (Q := dat L) (fun h => by have := h k (by rw [dat_length]; exact hk1); rw [HE.out, hb] at this; cases this))
        clear hb
        go_wp2_with fail
        go_quiet ((go_at_call 210; first | exact quiet_any_add (HC.out _ (below_drewN (Below.refl _ _) _)) | exact quiet_any (HC.out _ (below_drewN (Below.refl _ _) _))))
        go_wp2_with fail
        go_ret
        exact ⟨by rw [HF.out]; rfl, _, by rw [World.drewN_drewN]⟩
      · rw [hb] at HC
        have HB := Lib.hid hb
        clear hb
        go_wp2_with fail
        go_quiet ((go_at_call 210; first | exact quiet_any_add (HC.out _ (below_drewN (Below.refl _ _) _)) | exact quiet_any (HC.out _ (below_drewN (Below.refl _ _) _))))
        go_wp2_with fail
        go_roundw
        case rel =>
          refine ⟨k + 1, _, by omega, by go_num, rfl, Lib.hid (fun t ht => ?_)⟩
          by_cases e : t = k
          · subst e; rw [HE.out]; exact HB.out
          · exact HQ.out t (by omega)
        case measure => simp [intOf]; omega
    · have hi1 : ¬ (k : Int) + 1 < (n : Int) := by omega
      have HT := Lib.hid (ascB_true (Q := dat L) (fun i hi => HQ.out i (by rw [dat_length, ← Hn.out] at hi; omega)))
      go_wp2_with fail
      go_ret
      exact ⟨by rw [HT.out]; rfl, j, rfl⟩
end Go.Proofs.YtdkmdmpaflgfaaaGreatDoor

namespace Go.Proofs.YtdkmdmpaflgfaaaGreatDoor
open Go.RowKit

/-- new rows of rows -/
def ResRows (Q : List (List Int)) (w : World) (e : Ending) (w' : World) : Prop := ∃ v M, e = .returned v ∧ dat M = Q ∧ OwnR w' w.heap.size v M ∧ Below w.heap.size w w'
def parV (n k : Nat) : Int := if an n k = k then 1 else 0
set_option maxHeartbeats 1000000 in
theorem l01Parity_any (n k : Nat) (w : World) (hn : n ≤ 1000) (hk : k ≤ 1000) :
    Calls Tryz.prog 234 #[.int .i64 n, .int .i64 k] w fun e w' => e = .returned (.int .i64 (parV n k)) ∧ w = w' := by
  have hb := i64_and_nat (a := n) (b := k) (by unfold Sm; omega) (by unfold Sm; omega)
  have h0 : ¬ (k : Int) < 0 := by omega
  by_cases hlt : n < k
  · have HF : Hid (parV n k = 0) := Lib.hid (by
      unfold parV; rw [if_neg]
      intro e
      have : an n k ≤ n := Nat.and_le_left
      omega)
    clear hb
    go_enter Tryz.func234, Tryz.ntmps234
    go_wp2_with fail
    go_ret
    exact ⟨by rw [HF.out]; rfl, rfl⟩
  · have hlt' : ¬ (n : Int) < (k : Int) := by omega
    by_cases he : an n k = k
    · have HF : Hid (parV n k = 1) := Lib.hid (by unfold parV; rw [if_pos he])
      rw [he] at hb
      go_enter Tryz.func234, Tryz.ntmps234
      go_wp2_with fail
      go_ret
      exact ⟨by rw [HF.out]; rfl, rfl⟩
    · have HF : Hid (parV n k = 0) := Lib.hid (by unfold parV; rw [if_neg he])
      have hnb : (((an n k : Nat) : Int) != (k : Int)) = true := by simp; omega
      generalize an n k = m at *
      go_enter Tryz.func234, Tryz.ntmps234
      go_wp2_with fail
      go_ret
      exact ⟨by rw [HF.out]; rfl, rfl⟩

def frontL (i : Int) (ws : List Int) : List Int := if i = 0 then ws else i :: ws
theorem one_int (w : World) (x : Int) : (w.alloc (.cells #[.int .i64 x] 2)).ownsRow w.heap.size 2 1 (.slice (some ⟨w.heap.size, 0, none⟩) 1 1) 1 [.int .i64 x] :=
  ⟨by simp, .inr ⟨w.heap.size, 1, _, rfl, Nat.le_refl _, blk_new w _, Nat.le_refl _, by decide, by simp, by simp⟩⟩
set_option maxHeartbeats 1000000 in
theorem l03Front_any (i : Int) (A : Option Addr) (n c : Nat) (ws : List Int) (w : World) (hn : n = ws.length) (hsm : n ≤ 1000000) (hR : Rd w A (iv ws)) :
    Calls Tryz.prog 233 #[.int .i64 i, .slice A n c] w fun e w' => ∃ g k cap, e = .returned (.slice (some ⟨g, 0, none⟩) k cap) ∧ Hid (k = (frontL i ws).length) ∧ w'.ownsRow w.heap.size 2 1 (.slice (some ⟨g, 0, none⟩) k cap) k (iv (frontL i ws)) ∧ Below w.heap.size w w' := by
  by_cases h0 : i = 0
  · subst h0
    have HE : Hid (frontL 0 ws = ws) := Lib.hid (by unfold frontL; rw [if_pos rfl])
    have HC := Lib.hid (l01Own_any A n c (iv ws) w (by rw [iv_length]; exact hn) (by omega) (iv_one _) hR)
    have Hn := Lib.hid hn
    clear hR hn
    go_enter Tryz.func233, Tryz.ntmps233
    go_wp2_with fail
    refine HC.out.mono ?_
    rintro e w1 ⟨g, cap, rfl, ho, hb⟩
    have HO := Lib.hid ho
    have HB := Lib.hid hb
    clear ho hb
    go_wp2_with fail
    go_ret
    exact ⟨g, n, cap, rfl, Lib.hid (by rw [HE.out]; exact Hn.out), by rw [HE.out]; exact HO.out, HB.out⟩
  · have h0b : (i == 0) = false := by simpa using h0
    have HE : Hid (frontL i ws = i :: ws) := Lib.hid (by unfold frontL; rw [if_neg h0])
    have HR := Lib.hid hR
    have Hn := Lib.hid hn
    have Hn' : Hid (n = (iv ws).length) := Lib.hid (by rw [iv_length]; exact hn)
    clear hR hn h0
    go_enter Tryz.func233, Tryz.ntmps233
    go_wp2_with (at_builtin; refine wpList_appR _ _ _ _ _ etI (by rfl) (by rfl) w.heap.size (.slice (some ⟨w.heap.size, 0, none⟩) 1 1) 1 [.int .i64 i] (by rfl) ?_ A n c (iv ws) (by rfl) Hn'.out ?_ (iv_one _) ?_ ?_ ?_; exact one_int w i; exact HR.out.alloc _; omega; (simp); (intro v' w' hown hg hat; have HO := Lib.hid hown; have HG := Lib.hid hg; have HA := Lib.hid hat; clear hown hg hat))
    go_ret
    have ho := HO.out
    have hb : Below w.heap.size w w' := ((Below.refl _ _).alloc (Nat.le_refl _) _).grown HG.out (by simp) (fun k hk => by simp [Value.ownBlock] at hk; omega)
    rcases ho.2 with ⟨rfl, _⟩ | ⟨g, cap, cur, rfl, _⟩
    · rcases HA.out with h | h <;> simp [Value.ownBlock] at h
    · exact ⟨g, 1 + n, cap, rfl, Lib.hid (by rw [HE.out, Hn.out]; simp; omega), by rw [HE.out]; exact ho, hb⟩

/-- one row in a new block -/
theorem row_cell (w : World) {B : Nat} (u : Value) (hB : B ≤ w.heap.size) : (w.alloc (.cells #[u] 22)).drew.ownsRow B 22 1 (.slice (some ⟨w.heap.size, 0, none⟩) 1 1) 1 [u] :=
  ⟨by simp, .inr ⟨w.heap.size, 1, _, rfl, hB, blk_new w _, Nat.le_refl _, by decide, by simp, by simp⟩⟩
theorem OwnR.one {w : World} {B : Nat} {v : Value} {r : Row} (ho : w.ownsRow B 22 1 v 1 [r.val]) (hr : w.ownsRow B 2 1 r.val r.xs.length (iv r.xs)) : OwnR w B v [r] := by
  refine ⟨ho, ?_, ?_⟩
  · intro i hi
    obtain rfl : i = 0 := by simp at hi; omega
    exact hr
  · intro i j hi hj hne
    simp at hi hj
    omega
theorem slice_one {A : Option Addr} {n c : Nat} : ∀ u ∈ [Value.slice A n c], u.oneCell' = true := by
  intro u hu
  rw [List.mem_singleton] at hu
  subst hu; rfl
theorem put_apart {w : World} {B n k : Nat} {e : TypeId} {v : Value} {xs : List Value} (h : w.ownsRow B e 1 v n xs) : v.ownBlock = none ∨ v.ownBlock ∉ [(Value.slice (some ⟨w.heap.size, 0, none⟩) k k).ownBlock] := by
  cases hv : v.ownBlock with
  | none => exact .inl rfl
  | some b =>
    have := (h.lt b hv).2
    refine .inr ?_
    simp only [Value.ownBlock, List.mem_singleton, Option.some.injEq]
    omega
set_option maxRecDepth 100000 in
set_option maxHeartbeats 2000000 in
theorem l01PutNil_any (gl : Nat) (A : Option Addr) (n c : Nat) (ws : List Int) (w : World) (hn : n = ws.length) (hsm : n ≤ 1000000) (hR : Rd w A (iv ws)) :
    Calls Tryz.prog 188 #[.slice (some ⟨gl, 0, none⟩) 0 0, .slice A n c] w (ResRows [ws] w) := by
  have HC := Lib.hid (fun W (hb : Below w.heap.size w W) => l01Own_any A n c (iv ws) W (by rw [iv_length]; exact hn) (by omega) (iv_one _) (hR.below hb))
  have Hn := Lib.hid hn
  clear hR hn
  go_enter Tryz.func188, Tryz.ntmps188
  go_wp2_with fail
  go_loop [5] (fun i => i = .int .i64 0) (fun _ => 0)
  case atStart => rfl
  case round =>
    subst hrel
    go_wp2_with fail
    go_region_held3 (fun w' => True)
      (first | trivial)
      (first
        | (go_at_call 149; (with_reducible refine (HC.out _ (Below.refl _ _).drew).mono ?_); (rintro e w1 ⟨g, cap, rfl, ho, hb⟩; have HO := Lib.hid ho; have HB := Lib.hid hb; clear ho hb))
        | (refine step_appR _ _ _ _ _ etS (by rfl) (by rfl) w.heap.size (.slice (some ⟨w1.heap.size, 0, none⟩) 1 1) 1 [.slice (some ⟨g, 0, none⟩) n cap] (by rfl) ?_ (some ⟨gl, 0, none⟩) 0 0 [] (by rfl) (by rfl) (.inl rfl) ?_ ?_ ?_ ?_; exact row_cell w1 _ HB.out.size; (simp); omega; (have := HB.out.size; simp at this ⊢; omega); (intro v' w2 hown hg hat; have HO2 := Lib.hid hown; have HG2 := Lib.hid hg; clear hown hg hat)))
    have hsz := HB.out.size
    have hr2 : w2.ownsRow w.heap.size 2 1 (.slice (some ⟨g, 0, none⟩) n cap) n (iv ws) := by
      refine owns_keeps (HO.out.alloc (.cells #[.slice (some ⟨g, 0, none⟩) n cap] 22)) (Keeps.of_grown HG2.out) (.inr ?_)
      have := (HO.out.lt g rfl).2
      simp only [Value.ownBlock, List.mem_singleton, Option.some.injEq]
      simp at this ⊢; omega
    have ho2 := HO2.out
    rw [Nat.add_zero, List.append_nil] at ho2
    obtain ⟨A1, c1, rfl, hc1, himp, heq⟩ := owns_shape ho2
    obtain ⟨g1, rfl, hg1, hg1'⟩ := himp (by omega)
    clear himp heq
    have HR2 := Lib.hid hr2
    have HO3 := Lib.hid ho2
    have HB2 : Hid (Below w.heap.size w w2) := Lib.hid (((((Below.refl w.heap.size w).drew).trans (HB.out.mono (by simp))).alloc (by simp at hsz ⊢; omega) _).grown HG2.out (by simp at hsz ⊢; omega) (fun k hk => by simp [Value.ownBlock] at hk; simp at hsz; omega))
    have hsz2 := HB2.out.size
    clear hr2 ho2 HO2 HG2
    go_wp2_with (first
      | (at_builtin; refine wpList_appR _ _ _ _ _ etS (by rfl) (by rfl) w.heap.size (.slice (some ⟨w2.heap.size, 0, none⟩) 0 0) 0 [] (by rfl) ?_ (some ⟨gl, 0, none⟩) 0 0 [] (by rfl) (by rfl) (.inl rfl) ?_ ?_ ?_ ?_; exact World.ownsRow_made w2 #[] 0 hsz2 (by decide) (by simp); (simp); omega; (simp; omega); (intro v3 w3 hown hg hat; have HO5 := Lib.hid hown; have HG5 := Lib.hid hg; clear hown hg hat))
      | (at_builtin; refine wpList_appR _ _ _ _ _ etS (by rfl) (by rfl) w.heap.size v3 0 [] (by rfl) HO5.out (some ⟨g1, 0, none⟩) 1 c1 [.slice (some ⟨g, 0, none⟩) n cap] (by rfl) (by rfl) (owns_Rd (owns_keeps (HO3.out.alloc (.cells #[] 22)) (Keeps.of_grown HG5.out) (put_apart HO3.out))) slice_one (by decide) (Nat.le_trans hsz2 (Nat.le_trans (Nat.le_of_lt (by simp)) HG5.out.size)) ?_; (intro v4 w4 hown hg hat; have HO6 := Lib.hid hown; have HG6 := Lib.hid hg; have HA6 := Lib.hid hat; clear hown hg hat)))
    go_ret
    have r3 := owns_keeps (HR2.out.alloc (.cells #[] 22)) (Keeps.of_grown HG5.out) (put_apart HR2.out)
    have r4 := owns_keeps r3 (Keeps.of_grown HG6.out) (by have := own_ne2 r3 HO5.out (by decide); simpa using this)
    have b3 : Below w.heap.size w w3 := (HB2.out.alloc hsz2 _).grown HG5.out (by simp; omega) (fun k hk => by simp [Value.ownBlock] at hk; omega)
    have b4 : Below w.heap.size w w4 := b3.grown HG6.out b3.size (fun k hk => (HO5.out.lt k hk).1)
    refine ⟨v4, [⟨some ⟨g, 0, none⟩, cap, ws⟩], rfl, rfl, OwnR.one ?_ ?_, b4⟩
    · simp only [Row.val]; rw [← Hn.out]; exact HO6.out
    · simp only [Row.val]; rw [← Hn.out]; exact r4

/-- the sum of two lists in order -/
def sumR : List (List Int) → List (List Int) → List (List Int)
  | [], b => b
  | x :: a, [] => x :: a
  | x :: a, y :: b => if lexLt x y = true then x :: sumR a (y :: b) else if lexLt y x = true then y :: sumR (x :: a) b else sumR a b
termination_by a b => a.length + b.length
theorem sumR_nil (a : List (List Int)) : sumR a [] = a := by cases a <;> rw [sumR]
theorem drop_cons {Q : List (List Int)} {i : Nat} (h : i < Q.length) : Q.drop i = Q.getD i [] :: Q.drop (i + 1) := by
  rw [List.drop_eq_getElem_cons h]; simp only [List.getD, List.getElem?_eq_getElem h, Option.getD_some]
/-- the sum so far, i and k of the rows being taken -/
def SumAt (P Q R : List (List Int)) (i k : Nat) : Prop := i ≤ P.length ∧ k ≤ Q.length ∧ R ++ sumR (P.drop i) (Q.drop k) = sumR P Q
theorem SumAt.start (P Q : List (List Int)) : SumAt P Q [] 0 0 := ⟨Nat.zero_le _, Nat.zero_le _, rfl⟩
theorem SumAt.left {P Q R : List (List Int)} {i k : Nat} (h : SumAt P Q R i k) (hi : i < P.length) (hc : Q.length ≤ k ∨ lexLt (P.getD i []) (Q.getD k []) = true) : SumAt P Q (R ++ [P.getD i []]) (i + 1) k := by
  refine ⟨hi, h.2.1, ?_⟩
  rw [← h.2.2, drop_cons hi, List.append_assoc]
  congr 1
  rcases Nat.lt_or_ge k Q.length with hk | hk
  · rw [drop_cons hk, sumR]
    rw [if_pos (by rcases hc with hc | hc; omega; exact hc)]
    rfl
  · rw [List.drop_of_length_le hk, sumR_nil, sumR_nil]; rfl
theorem SumAt.right {P Q R : List (List Int)} {i k : Nat} (h : SumAt P Q R i k) (hk : k < Q.length) (hc : P.length ≤ i ∨ lexLt (P.getD i []) (Q.getD k []) = false ∧ lexLt (Q.getD k []) (P.getD i []) = true) : SumAt P Q (R ++ [Q.getD k []]) i (k + 1) := by
  refine ⟨h.1, hk, ?_⟩
  rw [← h.2.2, drop_cons hk, List.append_assoc]
  congr 1
  rcases Nat.lt_or_ge i P.length with hi | hi
  · rw [drop_cons hi]
    rcases hc with hc | hc
    · omega
    · conv => rhs; rw [sumR, if_neg (by rw [hc.1]; simp), if_pos hc.2]
      rfl
  · rw [List.drop_of_length_le hi]; simp [sumR]
theorem SumAt.both {P Q R : List (List Int)} {i k : Nat} (h : SumAt P Q R i k) (hi : i < P.length) (hk : k < Q.length) (h1 : lexLt (P.getD i []) (Q.getD k []) = false) (h2 : lexLt (Q.getD k []) (P.getD i []) = false) : SumAt P Q R (i + 1) (k + 1) := by
  refine ⟨hi, hk, ?_⟩
  rw [← h.2.2, drop_cons hi, drop_cons hk]
  conv => rhs; rw [sumR, if_neg (by rw [h1]; simp), if_neg (by rw [h2]; simp)]
theorem SumAt.done {P Q R : List (List Int)} {i k : Nat} (h : SumAt P Q R i k) (hi : P.length ≤ i) (hk : Q.length ≤ k) : R = sumR P Q := by
  have := h.2.2
  rw [List.drop_of_length_le hi, List.drop_of_length_le hk] at this
  simpa [sumR] using this
end Go.Proofs.YtdkmdmpaflgfaaaGreatDoor

namespace Go.Proofs.YtdkmdmpaflgfaaaGreatDoor
open Go.RowKit

theorem dat_append1 (R : List Row) (r : Row) : dat (R ++ [r]) = dat R ++ [r.xs] := by simp [dat]
theorem OwnR.push {wr w1 : World} {B g cap n : Nat} {v : Value} {R : List Row} {ws : List Int} (hR : OwnR wr B v R) (hb : Below wr.heap.size wr w1) (ho : w1.ownsRow wr.heap.size 2 1 (.slice (some ⟨g, 0, none⟩) n cap) n (iv ws)) (hn : n = ws.length) (hB : B ≤ wr.heap.size)
    {o : Obj} {g2 c2 : Nat} {w3 : World} (hown : w3.ownsRow B 22 1 (.slice (some ⟨g2, 0, none⟩) (R.length + 1) c2) (R.length + 1) (hv R ++ [.slice (some ⟨g, 0, none⟩) n cap])) (hg : (w1.alloc o).grownBy w3 v.ownBlock) :
    OwnR w3 B (.slice (some ⟨g2, 0, none⟩) (R.length + 1) c2) (R ++ [⟨some ⟨g, 0, none⟩, cap, ws⟩]) := by
  subst hn
  refine (hR.later hb).app (r := ⟨some ⟨g, 0, none⟩, cap, ws⟩) (ho.mono hB) ?_ hown hg
  intro i hi
  refine .inr fun e => ?_
  have h1 := (ho.lt g rfl).1
  have h2 := ((hR.inn i hi).lt g (by rw [← e]; rfl)).2
  omega

set_option maxRecDepth 100000 in
set_option maxHeartbeats 4000000 in
theorem l01Sum_any (A B : Option Addr) (n n' c c' : Nat) (L K : List Row) (w : World) (hn : n = L.length) (hn' : n' = K.length) (hsm : n ≤ 1000000) (hsm' : n' ≤ 1000000) (hl : ∀ i, i < L.length → (rg L i).xs.length ≤ 1000000) (hl' : ∀ i, i < K.length → (rg K i).xs.length ≤ 1000000) (hA : RdR w A L) (hB : RdR w B K) :
    Calls Tryz.prog 215 #[.slice A n c, .slice B n' c'] w (ResRows (sumR (dat L) (dat K)) w) := by
  have HA := Lib.hid hA
  have HB := Lib.hid hB
  have Hn := Lib.hid hn
  have Hn' := Lib.hid hn'
  have HL := Lib.hid hl
  have HL' := Lib.hid hl'
  clear hA hB hn hn' hl hl'
  go_enter Tryz.func215, Tryz.ntmps215
  go_wp2_with fail
  go_loopw [5, 6, 7] (fun v s6 s7 wr => ∃ i k : Nat, ∃ R : List Row, ∃ A1 c1, s6 = .int .i64 i ∧ s7 = .int .i64 k ∧ v = .slice A1 R.length c1 ∧ i ≤ n ∧ k ≤ n' ∧ R.length ≤ i + k ∧ Hid (SumAt (dat L) (dat K) (dat R) i k) ∧ OwnR wr w.heap.size (.slice A1 R.length c1) R ∧ Below w.heap.size w wr) (fun _ i k _ => n + n' - (intOf i).toNat - (intOf k).toNat)
  case atStart => exact ⟨0, 0, [], some ⟨w.heap.size, 0, none⟩, 0, rfl, rfl, rfl, by omega, by omega, by simp, Lib.hid (SumAt.start _ _), OwnR.made w (Nat.le_refl _), (Below.refl _ _).alloc (Nat.le_refl _) _⟩
  case round =>
    obtain ⟨i, k, R, A1, c1, rfl, rfl, rfl, hi, hk, hRl, HS, hown, hbel⟩ := hrel
    have HO := Lib.hid hown
    have HBL := Lib.hid hbel
    have hsz := hbel.size
    have hq : R.length < 1099511627776 := by omega
    have hA1 := HA.out.below hbel
    have hB1 := HB.out.below hbel
    by_cases hi' : i < n
    · have hiL : i < L.length := by rw [← Hn.out]; exact hi'
      obtain ⟨b1, o1, rfl, hc1⟩ := hA1.at_ hiL
      have hr1 := hA1.inn i hiL
      have hl1 := HL.out i hiL
      have HX : Hid ((dat L).getD i [] = (rg L i).xs) := Lib.hid (dat_getD L i)
      have HSL := Lib.hid (fun hc => HS.out.left (by rw [dat_length]; exact hiL) hc)
      have hin : ((i : Int) == (n : Int)) = false := by simp; omega
      by_cases hk' : k < n'
      · have hkK : k < K.length := by rw [← Hn'.out]; exact hk'
        obtain ⟨b2, o2, rfl, hc2⟩ := hB1.at_ hkK
        have hr2 := hB1.inn k hkK
        have hl2 := HL'.out k hkK
        have HY : Hid ((dat K).getD k [] = (rg K k).xs) := Lib.hid (dat_getD K k)
        have HSR := Lib.hid (fun hc => HS.out.right (by rw [dat_length]; exact hkK) hc)
        have HSB := Lib.hid (fun h1 h2 => HS.out.both (by rw [dat_length]; exact hiL) (by rw [dat_length]; exact hkK) h1 h2)
        rw [HX.out] at HSL HSR HSB
        rw [HY.out] at HSL HSR HSB
        generalize rg L i = r at *
        generalize rg K k = s at *
        obtain ⟨rA, rc, rx⟩ := r
        obtain ⟨sA, sc, sx⟩ := s
        simp only at hc1 hr1 hl1 hc2 hr2 hl2 HSL HSR HSB
        have HC1 := Lib.hid (fun W hb => l01Less_any rA sA rx.length sx.length rc sc rx sx W rfl rfl (by omega) (by omega) (Rd.below hr1 hb) (Rd.below hr2 hb))
        have HC2 := Lib.hid (fun W hb => l01Less_any sA rA sx.length rx.length sc rc sx rx W rfl rfl (by omega) (by omega) (Rd.below hr2 hb) (Rd.below hr1 hb))
        have HW1 := Lib.hid (fun W hb => l01Own_any rA rx.length rc (iv rx) W (by rw [iv_length]) (by omega) (iv_one _) (Rd.below hr1 hb))
        have HW2 := Lib.hid (fun W hb => l01Own_any sA sx.length sc (iv sx) W (by rw [iv_length]) (by omega) (iv_one _) (Rd.below hr2 hb))
        have hkn : ((k : Int) == (n' : Int)) = false := by simp; omega
        clear hr1 hr2 hA1 hB1 hown hbel HX HY
        cases hb1 : lexLt rx sx
        · rw [hb1] at HC1
          cases hb2 : lexLt sx rx
          · rw [hb2] at HC2
            have HS2 := Lib.hid (HSB.out hb1 hb2)
            clear hb1 hb2
            go_wp2_with fail
            go_big_quiet ((go_at_call 210; first | with_reducible exact quiet_any (HC1.out _ (below_drewN (Below.refl _ _) _)) | with_reducible exact quiet_any_add (HC1.out _ (below_drewN (Below.refl _ _) _))))
            go_wp2_with fail
            go_big_quiet ((go_at_call 210; first | exact quiet_any_add (HC2.out _ (below_drewN (Below.refl _ _) _)) | exact quiet_any (HC2.out _ (below_drewN (Below.refl _ _) _))))
            go_wp2_with fail
            go_roundw
            case rel => exact ⟨i + 1, k + 1, R, A1, c1, by go_num, by go_num, rfl, by omega, by omega, by omega, HS2, HO.out.drewN _, below_drewN HBL.out _⟩
            case measure => simp [intOf]; omega
          · rw [hb2] at HC2
            have HS2 := Lib.hid (HSR.out (.inr ⟨hb1, hb2⟩))
            clear hb1 hb2
            go_wp2_with fail
            go_big_quiet ((go_at_call 210; first | with_reducible exact quiet_any (HC1.out _ (below_drewN (Below.refl _ _) _)) | with_reducible exact quiet_any_add (HC1.out _ (below_drewN (Below.refl _ _) _))))
            go_wp2_with fail
            go_big_quiet ((go_at_call 210; first | exact quiet_any_add (HC2.out _ (below_drewN (Below.refl _ _) _)) | exact quiet_any (HC2.out _ (below_drewN (Below.refl _ _) _))))
            go_wp2_with fail
            refine (HW2.out _ (below_drewN (Below.refl _ _) _)).mono ?_
            rintro e w1 ⟨g, cap, rfl, ho, hb⟩
            have HB1 := Lib.hid (show Below wr.heap.size wr w1 from ⟨hb.os, hb.tape, hb.output, hb.size, hb.block⟩)
            have HO1 := Lib.hid (show w1.ownsRow wr.heap.size 2 1 (.slice (some ⟨g, 0, none⟩) sx.length cap) sx.length (iv sx) from ho)
            clear ho hb
            go_wp2_with (at_builtin; refine wpList_app1 _ _ _ _ _ etS (by rfl) (by rfl) w.heap.size (.slice A1 R.length c1) R.length (hv R) (by rfl) ((HO.out.later HB1.out).out.alloc _) _ (.slice (some ⟨g, 0, none⟩) sx.length cap) (by rfl) (new_cell _ _ _) (by rfl) hq (Nat.le_trans (Nat.le_trans hsz HB1.out.size) (Nat.le_of_lt (by simp))) ?_; (intro g2 c2 w3 hown3 hg3 hat3 hlt3; have HN := Lib.hid (OwnR.push HO.out HB1.out HO1.out rfl hsz hown3 hg3); have HB3 := Lib.hid (below_app2 (HBL.out.trans (HB1.out.mono hsz)) (Nat.le_trans hsz HB1.out.size) (HO.out.later HB1.out).out hg3); clear hown3 hg3 hat3 hlt3))
            go_roundw
            case rel => exact ⟨i, k + 1, R ++ [⟨some ⟨g, 0, none⟩, cap, sx⟩], some ⟨g2, 0, none⟩, c2, by go_num, by go_num, by rw [List.length_append]; rfl, by omega, by omega, by rw [List.length_append]; simp; omega, Lib.hid (by rw [dat_append1]; exact HS2.out), by rw [List.length_append]; exact HN.out, HB3.out⟩
            case measure => simp [intOf]; omega
        · rw [hb1] at HC1
          have HS2 := Lib.hid (HSL.out (.inr hb1))
          clear hb1
          go_wp2_with fail
          go_big_quiet ((go_at_call 210; first | with_reducible exact quiet_any (HC1.out _ (below_drewN (Below.refl _ _) _)) | with_reducible exact quiet_any_add (HC1.out _ (below_drewN (Below.refl _ _) _))))
          go_wp2_with fail
          refine (HW1.out _ (below_drewN (Below.refl _ _) _)).mono ?_
          rintro e w1 ⟨g, cap, rfl, ho, hb⟩
          have HB1 := Lib.hid (show Below wr.heap.size wr w1 from ⟨hb.os, hb.tape, hb.output, hb.size, hb.block⟩)
          have HO1 := Lib.hid (show w1.ownsRow wr.heap.size 2 1 (.slice (some ⟨g, 0, none⟩) rx.length cap) rx.length (iv rx) from ho)
          clear ho hb
          go_wp2_with (at_builtin; refine wpList_app1 _ _ _ _ _ etS (by rfl) (by rfl) w.heap.size (.slice A1 R.length c1) R.length (hv R) (by rfl) ((HO.out.later HB1.out).out.alloc _) _ (.slice (some ⟨g, 0, none⟩) rx.length cap) (by rfl) (new_cell _ _ _) (by rfl) hq (Nat.le_trans (Nat.le_trans hsz HB1.out.size) (Nat.le_of_lt (by simp))) ?_; (intro g2 c2 w3 hown3 hg3 hat3 hlt3; have HN := Lib.hid (OwnR.push HO.out HB1.out HO1.out rfl hsz hown3 hg3); have HB3 := Lib.hid (below_app2 (HBL.out.trans (HB1.out.mono hsz)) (Nat.le_trans hsz HB1.out.size) (HO.out.later HB1.out).out hg3); clear hown3 hg3 hat3 hlt3))
          go_roundw
          case rel => exact ⟨i + 1, k, R ++ [⟨some ⟨g, 0, none⟩, cap, rx⟩], some ⟨g2, 0, none⟩, c2, by go_num, by go_num, by rw [List.length_append]; rfl, by omega, by omega, by rw [List.length_append]; simp; omega, Lib.hid (by rw [dat_append1]; exact HS2.out), by rw [List.length_append]; exact HN.out, HB3.out⟩
          case measure => simp [intOf]; omega
      · rw [HX.out] at HSL
        generalize rg L i = r at *
        obtain ⟨rA, rc, rx⟩ := r
        simp only at hc1 hr1 hl1 HSL
        have HW1 := Lib.hid (fun W hb => l01Own_any rA rx.length rc (iv rx) W (by rw [iv_length]) (by omega) (iv_one _) (Rd.below hr1 hb))
        have HS2 := Lib.hid (HSL.out (.inl (by rw [dat_length, ← Hn'.out]; omega)))
        have hkn : ((k : Int) == (n' : Int)) = true := by simp; omega
        clear hr1 hA1 hB1 hown hbel HX
        go_wp2_with fail
        go_big_quiet (fail)
        go_wp2_with fail
        refine (HW1.out _ (below_drewN (Below.refl _ _) _)).mono ?_
        rintro e w1 ⟨g, cap, rfl, ho, hb⟩
        have HB1 := Lib.hid (show Below wr.heap.size wr w1 from ⟨hb.os, hb.tape, hb.output, hb.size, hb.block⟩)
        have HO1 := Lib.hid (show w1.ownsRow wr.heap.size 2 1 (.slice (some ⟨g, 0, none⟩) rx.length cap) rx.length (iv rx) from ho)
        clear ho hb
        go_wp2_with (at_builtin; refine wpList_app1 _ _ _ _ _ etS (by rfl) (by rfl) w.heap.size (.slice A1 R.length c1) R.length (hv R) (by rfl) ((HO.out.later HB1.out).out.alloc _) _ (.slice (some ⟨g, 0, none⟩) rx.length cap) (by rfl) (new_cell _ _ _) (by rfl) hq (Nat.le_trans (Nat.le_trans hsz HB1.out.size) (Nat.le_of_lt (by simp))) ?_; (intro g2 c2 w3 hown3 hg3 hat3 hlt3; have HN := Lib.hid (OwnR.push HO.out HB1.out HO1.out rfl hsz hown3 hg3); have HB3 := Lib.hid (below_app2 (HBL.out.trans (HB1.out.mono hsz)) (Nat.le_trans hsz HB1.out.size) (HO.out.later HB1.out).out hg3); clear hown3 hg3 hat3 hlt3))
        go_roundw
        case rel => exact ⟨i + 1, k, R ++ [⟨some ⟨g, 0, none⟩, cap, rx⟩], some ⟨g2, 0, none⟩, c2, by go_num, by go_num, by rw [List.length_append]; rfl, by omega, by omega, by rw [List.length_append]; simp; omega, Lib.hid (by rw [dat_append1]; exact HS2.out), by rw [List.length_append]; exact HN.out, HB3.out⟩
        case measure => simp [intOf]; omega
    · have hin : ((i : Int) == (n : Int)) = true := by simp; omega
      by_cases hk' : k < n'
      · have hkK : k < K.length := by rw [← Hn'.out]; exact hk'
        obtain ⟨b2, o2, rfl, hc2⟩ := hB1.at_ hkK
        have hr2 := hB1.inn k hkK
        have hl2 := HL'.out k hkK
        have HY : Hid ((dat K).getD k [] = (rg K k).xs) := Lib.hid (dat_getD K k)
        have HSR := Lib.hid (fun hc => HS.out.right (by rw [dat_length]; exact hkK) hc)
        rw [HY.out] at HSR
        generalize rg K k = s at *
        obtain ⟨sA, sc, sx⟩ := s
        simp only at hc2 hr2 hl2 HSR
        have HW2 := Lib.hid (fun W hb => l01Own_any sA sx.length sc (iv sx) W (by rw [iv_length]) (by omega) (iv_one _) (Rd.below hr2 hb))
        have HS2 := Lib.hid (HSR.out (.inl (by rw [dat_length, ← Hn.out]; omega)))
        have hkn : ((k : Int) == (n' : Int)) = false := by simp; omega
        clear hr2 hA1 hB1 hown hbel HY
        go_wp2_with fail
        go_big_quiet (fail)
        go_wp2_with fail
        go_big_quiet (fail)
        go_wp2_with fail
        refine (HW2.out _ (below_drewN (Below.refl _ _) _)).mono ?_
        rintro e w1 ⟨g, cap, rfl, ho, hb⟩
        have HB1 := Lib.hid (show Below wr.heap.size wr w1 from ⟨hb.os, hb.tape, hb.output, hb.size, hb.block⟩)
        have HO1 := Lib.hid (show w1.ownsRow wr.heap.size 2 1 (.slice (some ⟨g, 0, none⟩) sx.length cap) sx.length (iv sx) from ho)
        clear ho hb
        go_wp2_with (at_builtin; refine wpList_app1 _ _ _ _ _ etS (by rfl) (by rfl) w.heap.size (.slice A1 R.length c1) R.length (hv R) (by rfl) ((HO.out.later HB1.out).out.alloc _) _ (.slice (some ⟨g, 0, none⟩) sx.length cap) (by rfl) (new_cell _ _ _) (by rfl) hq (Nat.le_trans (Nat.le_trans hsz HB1.out.size) (Nat.le_of_lt (by simp))) ?_; (intro g2 c2 w3 hown3 hg3 hat3 hlt3; have HN := Lib.hid (OwnR.push HO.out HB1.out HO1.out rfl hsz hown3 hg3); have HB3 := Lib.hid (below_app2 (HBL.out.trans (HB1.out.mono hsz)) (Nat.le_trans hsz HB1.out.size) (HO.out.later HB1.out).out hg3); clear hown3 hg3 hat3 hlt3))
        go_roundw
        case rel => exact ⟨i, k + 1, R ++ [⟨some ⟨g, 0, none⟩, cap, sx⟩], some ⟨g2, 0, none⟩, c2, by go_num, by go_num, by rw [List.length_append]; rfl, by omega, by omega, by rw [List.length_append]; simp; omega, Lib.hid (by rw [dat_append1]; exact HS2.out), by rw [List.length_append]; exact HN.out, HB3.out⟩
        case measure => simp [intOf]; omega
      · have HF := Lib.hid (HS.out.done (by rw [dat_length, ← Hn.out]; omega) (by rw [dat_length, ← Hn'.out]; omega))
        clear hA1 hB1 hown hbel
        go_wp2_with fail
        go_ret
        exact ⟨_, R, rfl, HF.out, HO.out, HBL.out⟩
end Go.Proofs.YtdkmdmpaflgfaaaGreatDoor

namespace Go.Proofs.YtdkmdmpaflgfaaaGreatDoor
open Go.RowKit

theorem inB01 (x : Int) : inB x 0 1 = (decide (0 ≤ x) && decide (x ≤ 1)) := rfl
theorem i64_bit_int {a n : Nat} (ha : Sm a) : bits .and .i64 ((a : Int) / 2 ^ n) 1 = bit a n := by
  rw [i64_bit_nat ha]
  unfold bit
  cases tb a n <;> rfl
theorem sm_pow {v n : Nat} (hn : n ≤ 62) (h : v < 2 ^ n) : Sm v := by
  unfold Sm
  have : (2 : Nat) ^ n ≤ 2 ^ 62 := Nat.pow_le_pow_right (by omega) hn
  omega
theorem pow62 {d : Nat} (h : d ≤ 62) : (0 : Int) ≤ 2 ^ d ∧ (2 : Int) ^ d ≤ 4611686018427387904 := by
  have e : ((2 ^ d : Nat) : Int) = (2 : Int) ^ d := by simp
  have h1 : (2 : Nat) ^ d ≤ 2 ^ 62 := Nat.pow_le_pow_right (by omega) h
  rw [← e]
  generalize (2 : Nat) ^ d = q at *
  omega
theorem i64_or_zero {a : Nat} (ha : Sm a) : bits .or .i64 (a : Int) 0 = (a : Int) := by
  have := i64_or_nat ha Sm.zero
  rw [show orr a 0 = a by unfold orr; simp] at this
  exact this
attribute [local go_sem] i64_or_nat in
set_option maxHeartbeats 1000000 in
theorem l12Mask_any (V : Option Addr) (n cv v : Nat) (w : World) (hn : n ≤ 62) (hv : v < 2 ^ n) (hV : Rd w V (iv (bitsL v n))) :
    Calls Tryz.prog 119 #[.slice V n cv] w fun e w' => e = .returned (.int .i64 (v : Nat)) ∧ w = w' := by
  have HV := Lib.hid hV
  have HM := Lib.hid (mk_bits hv)
  have HLT := Lib.hid (fun j => mk_lt ((bitsL v n).take j))
  clear hV hv
  go_enter Tryz.func119, Tryz.ntmps119
  go_wp2_with fail
  go_loop [3, 4] (fun t i => ∃ k : Nat, k ≤ n ∧ i = .int .i64 k ∧ t = .int .i64 (mk ((bitsL v n).take k) : Nat)) (fun _ i => n - (intOf i).toNat)
  case atStart => exact ⟨0, by omega, rfl, rfl⟩
  case round =>
    obtain ⟨k, hk, rfl, rfl⟩ := hrel
    by_cases hlt : k < n
    · obtain ⟨b, o, rfl, hc⟩ := HV.out.atI (k := k) (by rw [bitsL_length]; exact hlt)
      rw [bitsL_getD _ hlt] at hc
      have hms := mk_take (v := bitsL v n) (k := k) (by rw [bitsL_length]; exact hlt)
      rw [bitsL_getD _ hlt] at hms
      have h1 : Sm (mk ((bitsL v n).take k)) := sm_pow (n := 62) (by omega) (Nat.lt_of_lt_of_le (HLT.out k) (Nat.pow_le_pow_right (by omega) (by rw [List.length_take]; omega)))
      have h2 : Sm (2 ^ k) := sm_pow (n := k + 1) (by omega) (pow_lt_pow (by omega))
      have he : ((2 ^ k : Nat) : Int) = (2 : Int) ^ k := by simp
      have hor := i64_or_nat h1 h2
      rw [he] at hor
      obtain ⟨p1, p2⟩ := pow62 (d := k) (by omega)
      generalize mk ((bitsL v n).take k) = p at *
      cases hb : tb v k
      · rw [bit_none hb] at hc hms
        have HE : Hid (mk ((bitsL v n).take (k + 1)) = p) := Lib.hid (by rw [hms, if_neg (by omega)]; unfold orr; simp)
        have hz := i64_or_zero h1
        clear hms he hor
        go_wp2_with fail
        go_round
        case rel => exact ⟨k + 1, by omega, by go_num, by rw [HE.out]⟩
        case measure => simp [intOf]; omega
      · rw [bit_one hb] at hc hms
        have HE : Hid (mk ((bitsL v n).take (k + 1)) = orr p (2 ^ k)) := Lib.hid (by rw [hms, if_pos rfl])
        clear hms he
        go_wp2_with fail
        go_round
        case rel => exact ⟨k + 1, by omega, by go_num, by rw [HE.out]⟩
        case measure => simp [intOf]; omega
    · have e : (bitsL v n).take k = bitsL v n := List.take_of_length_le (by rw [bitsL_length]; omega)
      rw [e, HM.out]
      clear e
      go_wp2_with fail
      go_ret
      exact ⟨rfl, rfl⟩

attribute [local go_sem] i64_bit_int in
set_option maxHeartbeats 1000000 in
theorem l12Vector_any (n v : Nat) (w : World) (hn : n ≤ 62) (hv : Sm v) :
    Calls Tryz.prog 110 #[.int .i64 v, .int .i64 n] w fun e w' => ∃ g cap, e = .returned (.slice (some ⟨g, 0, none⟩) n cap) ∧ w'.ownsRow w.heap.size 2 1 (.slice (some ⟨g, 0, none⟩) n cap) n (iv (bitsL v n)) ∧ Below w.heap.size w w' := by
  go_enter Tryz.func110, Tryz.ntmps110
  go_wp2_with fail
  go_loopw [5, 6] (fun vv i wr => ∃ k g cap : Nat, k ≤ n ∧ i = .int .i64 k ∧ vv = .slice (some ⟨g, 0, none⟩) k cap ∧ wr.ownsRow w.heap.size 2 1 (.slice (some ⟨g, 0, none⟩) k cap) k (iv ((bitsL v n).take k)) ∧ Below w.heap.size w wr) (fun _ i _ => n - (intOf i).toNat)
  case atStart => exact ⟨0, w.heap.size, 0, by omega, rfl, rfl, World.ownsRow_made w #[] 0 (Nat.le_refl _) (by decide) (by simp), (Below.refl _ _).alloc (Nat.le_refl _) _⟩
  case round =>
    obtain ⟨k, g, cap, hk, rfl, rfl, hown, hbel⟩ := hrel
    have HO := Lib.hid hown
    have HB := Lib.hid hbel
    have hsz := hbel.size
    by_cases hlt : k < n
    · have HTS : Hid ((bitsL v n).take (k + 1) = (bitsL v n).take k ++ [bit v k]) := Lib.hid (bitsL_take _ hlt)
      have hmin : min k 64 = k := by omega
      clear hown hbel
      go_wp2_with (at_builtin; refine wpList_app1 _ _ _ _ _ etI (by rfl) (by rfl) w.heap.size (.slice (some ⟨g, 0, none⟩) k cap) k (iv ((bitsL v n).take k)) (by rfl) (HO.out.alloc _) _ (.int .i64 (bit v k)) (by rfl) (new_cell _ _ _) (by rfl) (by omega) (Nat.le_trans hsz (Nat.le_of_lt (by simp))) ?_; (intro g1 cap1 w1 hown1 hgrow1 hat1 hlt1; have HO1 := Lib.hid hown1; have HB1 := Lib.hid (below_app2 HB.out hsz HO.out hgrow1); clear hown1 hgrow1 hat1 hlt1))
      go_roundw
      case rel => exact ⟨k + 1, g1, cap1, by omega, by go_num, rfl, by rw [HTS.out, iv_append]; exact HO1.out, HB1.out⟩
      case measure => simp [intOf]; omega
    · obtain rfl : k = n := by omega
      have he : (bitsL v k).take k = bitsL v k := List.take_of_length_le (by rw [bitsL_length]; exact Nat.le_refl _)
      rw [he] at HO
      clear hown hbel he
      go_wp2_with fail
      go_ret
      exact ⟨g, cap, rfl, HO.out, HB.out⟩

theorem vec_row {n : Nat} {xs : List Int} (h : vecB n xs = true) : xs.length = n ∧ xs = bitsL (mk xs) n ∧ mk xs < 2 ^ n := ⟨(vecB_iff.1 h).1, vec_bits h⟩
set_option maxHeartbeats 1000000 in
theorem l12Vectors_any (n : Nat) (A : Option Addr) (k c : Nat) (S : List Nat) (w : World) (hk : k = S.length) (hsm : k ≤ 1048576) (hn : n ≤ 62) (hS : ∀ r ∈ S, Sm r) (hR : Rd w A (nv S)) :
    Calls Tryz.prog 80 #[.slice A k c, .int .i64 n] w fun e w' => ∃ A1 c1 R, e = .returned (.slice A1 k c1) ∧ R.length = k ∧ dat R = S.map (fun v => bitsL v n) ∧ OwnR w' w.heap.size (.slice A1 k c1) R ∧ Below w.heap.size w w' := by
  have HR := Lib.hid hR
  have Hk := Lib.hid hk
  have HS := Lib.hid hS
  clear hR hk hS
  go_enter Tryz.func80, Tryz.ntmps80
  go_wp2_with fail
  go_loopw [5, 6] (fun vv i wr => ∃ R : List Row, ∃ A1 c1, R.length ≤ k ∧ i = .int .i64 (R.length : Nat) ∧ vv = .slice A1 R.length c1 ∧ Hid (dat R = (S.take R.length).map (fun v => bitsL v n)) ∧ OwnR wr w.heap.size (.slice A1 R.length c1) R ∧ Below w.heap.size w wr) (fun _ i _ => k - (intOf i).toNat)
  case atStart => exact ⟨[], some ⟨w.heap.size, 0, none⟩, 0, by simp, rfl, rfl, Lib.hid rfl, OwnR.made w (Nat.le_refl _), (Below.refl _ _).alloc (Nat.le_refl _) _⟩
  case round =>
    obtain ⟨R, A1, c1, hj, rfl, rfl, HD, hown, hbel⟩ := hrel
    have HO := Lib.hid hown
    have HB := Lib.hid hbel
    have hsz := hbel.size
    have hq : R.length < 1099511627776 := by omega
    by_cases hlt : R.length < k
    · have hjS : R.length < S.length := by rw [← Hk.out]; exact hlt
      obtain ⟨b, o, rfl, hc⟩ := (HR.out.below hbel).atN hjS
      have hs : Sm (S.getD R.length 0) := HS.out _ (by simp [List.getD, hjS])
      have HTS : Hid ((S.take (R.length + 1)).map (fun v => bitsL v n) = (S.take R.length).map (fun v => bitsL v n) ++ [bitsL (S.getD R.length 0) n]) := Lib.hid (by
        rw [List.take_succ_eq_append_getElem hjS, List.map_append]; simp [List.getD, hjS])
      generalize S.getD R.length 0 = q at *
      have HC := Lib.hid (l12Vector_any n q wr hn hs)
      clear hown hbel hs hjS
      go_wp2_with fail
      refine HC.out.mono ?_
      rintro e w1 ⟨g, cap, rfl, ho, hb⟩
      have HO1 := Lib.hid ho
      have HB1 := Lib.hid hb
      clear ho hb
      go_wp2_with (at_builtin; refine wpList_app1 _ _ _ _ _ etS (by rfl) (by rfl) w.heap.size (.slice A1 R.length c1) R.length (hv R) (by rfl) ((HO.out.later HB1.out).out.alloc _) _ (.slice (some ⟨g, 0, none⟩) n cap) (by rfl) (new_cell _ _ _) (by rfl) hq (Nat.le_trans (Nat.le_trans hsz HB1.out.size) (Nat.le_of_lt (by simp))) ?_; (intro g2 c2 w3 hown3 hg3 hat3 hlt3; have HN := Lib.hid (OwnR.push HO.out HB1.out HO1.out (bitsL_length _ _).symm hsz hown3 hg3); have HB3 := Lib.hid (below_app2 (HB.out.trans (HB1.out.mono hsz)) (Nat.le_trans hsz HB1.out.size) (HO.out.later HB1.out).out hg3); clear hown3 hg3 hat3 hlt3))
      go_roundw
      case rel =>
        refine ⟨R ++ [⟨some ⟨g, 0, none⟩, cap, bitsL q n⟩], some ⟨g2, 0, none⟩, c2, by simp; omega, by simp, by simp, Lib.hid ?_, by simpa using HN.out, HB3.out⟩
        rw [dat_append1, HD.out, List.length_append, List.length_singleton, HTS.out]
      case measure => simp [intOf]; omega
    · obtain rfl : k = R.length := by omega
      have he : S.take R.length = S := List.take_of_length_le (by rw [← Hk.out]; exact Nat.le_refl _)
      rw [he] at HD
      clear hown hbel he
      go_wp2_with fail
      go_ret
      exact ⟨A1, c1, R, rfl, rfl, HD.out, HO.out, HB.out⟩

end Go.Proofs.YtdkmdmpaflgfaaaGreatDoor
