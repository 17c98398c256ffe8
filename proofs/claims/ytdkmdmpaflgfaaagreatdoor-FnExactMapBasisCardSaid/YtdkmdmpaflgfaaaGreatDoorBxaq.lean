/- spanOf · library functions: cmp.Less, cmp.Compare, slices.IsSorted, slices.Compare; impl's rising · slices.IndexFunc, ContainsFunc and impl's all over rows of rows · impl's isTable · impl's isTable: the function · impl's (*table).fault, IsModule · the program's IsModule and tableOf at modules that came in -/
import Derived.Test.YtdkmdmpaflgfaaaGreatDoorBxap
import Derived.Test.YtdkmdmpaflgfaaaGreatDoorBxah
import Derived.Test.YtdkmdmpaflgfaaaGreatDoorBxaa
import Derived.Test.YtdkmdmpaflgfaaaGreatDoorBxai
import Derived.Test.YtdkmdmpaflgfaaaGreatDoorBxab
import Derived.Test.YtdkmdmpaflgfaaaGreatDoorBxag
import Derived.Test.YtdkmdmpaflgfaaaGreatDoorBxaj
import Derived.Test.YtdkmdmpaflgfaaaGreatDoorBxak
set_option linter.all false
namespace Go.Proofs.YtdkmdmpaflgfaaaGreatDoor
open Go.RowKit

/-- What the two contracts of 'add' say together. -/
def AddRes (L : List (Nat × Nat)) (p : Nat × Nat) : Value := .tuple #[.int .i64 (if (leftN L p).1 = 0 then (leftN L p).2 else 0 : Nat), .bool (decide ((leftN L p).1 ≠ 0))]
theorem add_any (B bs : Nat) (v1 v2 : Value) (L : List (Nat × Nat)) (x y : Nat) (w : World) (hT : Tab w) (hB : 0 < B) (hBw : B ≤ w.heap.size) (hs : SpanAt w B bs v1 v2 L) (hsmall : L.length ≤ 1000000)
    (hx : Sm x) (hy : Sm y) (hg : Good L) :
    Calls Tryz.prog 82 #[.pointer (some ⟨bs, 0, none⟩), .int .i64 x, .int .i64 y] w fun e w' => e = .returned (AddRes L (x, y)) ∧ AddPost w B bs v1 v2 (addL L (x, y)) w' := by
  by_cases h0 : (leftN L (x, y)).1 = 0
  · refine (add_no B bs v1 v2 L x y w hT hs hsmall hx hy hg h0).mono ?_
    rintro e w' ⟨rfl, m, rfl⟩
    refine ⟨by simp [AddRes, h0], Keeps.ofDrewN w m, v1, v2, ?_, .inl rfl, .inl rfl⟩
    unfold addL; rw [if_pos h0]
    exact hs.keeps (Keeps.ofDrewN (S := []) w m) (by simp) (.inr (by simp)) (.inr (by simp))
  · refine (add_yes B bs v1 v2 L x y w hT hB hBw hs hsmall hx hy hg h0).mono ?_
    rintro e w' ⟨rfl, h⟩
    refine ⟨by simp [AddRes, h0], ?_⟩
    unfold addL; rw [if_neg h0]; exact h

theorem AddPost.below {w w' : World} {B bs : Nat} {v1 v2 : Value} {L N : List (Nat × Nat)} (h : AddPost w B bs v1 v2 N w') (hs : SpanAt w B bs v1 v2 L) (hBw : B ≤ w.heap.size) : Below B w w' :=
  h.1.to_below hBw (fun j hj => by
    simp only [List.mem_cons, List.not_mem_nil, or_false] at hj
    rcases hj with hj | hj | hj
    · injection hj with hj; rw [hj]; exact hs.lo
    · exact (hs.own1.lt j hj.symm).1
    · exact (hs.own2.lt j hj.symm).1)

theorem Tab.below {B : Nat} {w w' : World} (h : Tab w) (hb : Below B w w') (hB : 0 < B) : Tab w' := fun j hj => (hb.cell (p := ⟨0, j, none⟩) hB).trans (h j hj)
theorem SpanAt.new (w : World) : SpanAt (w.alloc (.cells #[.slice none 0 0, .slice none 0 0] 97)) w.heap.size w.heap.size (.slice none 0 0) (.slice none 0 0) [] :=
  ⟨heap_alloc_new w _, Nat.le_refl _, World.ownsRow_nil _ _ _ _, World.ownsRow_nil _ _ _ _, .inl rfl⟩

set_option maxHeartbeats 1000000 in
theorem spanOf_any (A : Option Addr) (n c : Nat) (rows : List Nat) (w : World) (hT : Tab w) (hw : 0 < w.heap.size) (hn : n = rows.length) (hsmall : n ≤ 1000000) (hS : ∀ r ∈ rows, Sm r) (hR : Rd w A (nv rows)) :
    Calls Tryz.prog 96 #[.slice A n c] w fun e w' => e = .returned (.pointer (some ⟨w.heap.size, 0, none⟩)) ∧ (∃ v1 v2, SpanAt w' w.heap.size w.heap.size v1 v2 (spanL (zs rows))) ∧ Below w.heap.size w w' := by
  have Hn := Lib.hid hn
  have HR := Lib.hid hR
  have HS := Lib.hid hS
  have HT := Lib.hid hT
  have hsp := SpanAt.new w
  have HSP := Lib.hid hsp
  clear hn hR hS hT hsp
  go_enter Tryz.func96, Tryz.ntmps96
  go_wp2_with fail
  go_loopw [10] (fun i wr => ∃ k : Nat, k ≤ n ∧ i = .int .i64 k ∧ (∃ v1 v2, SpanAt wr w.heap.size w.heap.size v1 v2 (spanL (zs (rows.take k)))) ∧ Below w.heap.size w wr) (fun i _ => n - (intOf i).toNat)
  case atStart => exact ⟨0, by omega, rfl, ⟨_, _, HSP.out⟩, (Below.refl _ _).alloc (Nat.le_refl _) _⟩
  case round =>
    obtain ⟨k, hk, rfl, ⟨v1, v2, hsp⟩, hbel⟩ := hrel
    have hsz : w.heap.size ≤ wr.heap.size := hbel.size
    by_cases hlt : k < n
    · have hkL : k < rows.length := by rw [← Hn.out]; exact hlt
      obtain ⟨b, o, rfl, hc⟩ := (HR.out.below hbel).atN hkL
      have hm : rows.getD k 0 ∈ rows := by simp [List.getD, hkL]
      have g1 := HS.out _ hm
      have e1 : zs (rows.take (k + 1)) = (zs rows).take (k + 1) := by simp [zs, List.map_take]
      have e2 : zs (rows.take k) = (zs rows).take k := by simp [zs, List.map_take]
      have e3 : (zs rows).getD k (0, 0) = (rows.getD k 0, 0) := by simp [zs, List.getD, hkL]
      have Hs : Hid (spanL (zs (rows.take (k + 1))) = addL (spanL (zs (rows.take k))) (rows.getD k 0, 0)) := by
        show _ = _; rw [e1, e2, spanL_take_succ (zs rows) k (by rw [zs_length]; exact hkL), e3]
      have hl := spanL_length_le (zs (rows.take k))
      rw [zs_length, List.length_take] at hl
      have hgd := (spanL_perm (zs (rows.take k)) (fun p hp => by
        obtain ⟨r, hr, rfl⟩ := List.mem_map.1 hp; exact ⟨HS.out r (List.mem_of_mem_take hr), Sm.zero⟩)).2.2
      generalize spanL (zs (rows.take k)) = L at *
      generalize rows.getD k 0 = r at *
      have hp := add_any w.heap.size w.heap.size v1 v2 L r 0 wr (HT.out.below hbel hw) hw hsz hsp (by omega) g1 Sm.zero hgd
      have HP := Lib.hid hp
      have HB := Lib.hid hbel
      have HSQ := Lib.hid hsp
      clear hp hsp hbel hm hgd e1 e2 e3 hl
      go_wp2_with (go_at_call 82; refine HP.out.mono ?_; rintro e w1 ⟨rfl, hpost⟩)
      have HPO := Lib.hid hpost
      clear hpost
      go_roundw
      case rel =>
        obtain ⟨_, u1, u2, hs2, _, _⟩ := HPO.out
        exact ⟨k + 1, by omega, by go_num, ⟨u1, u2, by rw [Hs.out]; exact hs2⟩, HB.out.trans (HPO.out.below HSQ.out hsz)⟩
      case measure => simp [intOf]; omega
    · have ek : rows.take k = rows := List.take_of_length_le (by rw [← Hn.out]; omega)
      rw [ek] at hsp
      have HS' := Lib.hid hsp
      have HB := Lib.hid hbel
      clear hsp hbel
      go_wp2_with fail
      go_ret
      exact ⟨rfl, ⟨v1, v2, HS'.out⟩, HB.out⟩
end Go.Proofs.YtdkmdmpaflgfaaaGreatDoor

namespace Go.Proofs.YtdkmdmpaflgfaaaGreatDoor
open Go.RowKit

theorem isNaN_any (x : Int) (w : World) : Calls Tryz.prog 217 #[.int .i64 x] w fun e w' => e = .returned (.bool false) ∧ w = w' := by
  go_enter Tryz.func217, Tryz.ntmps217
  go_wp2
  go_ret
  exact ⟨rfl, rfl⟩
theorem cmpLess_any (x y : Int) (w : World) : Calls Tryz.prog 171 #[.int .i64 x, .int .i64 y] w fun e w' => e = .returned (.bool (decide (x < y))) ∧ w = w' := by
  have HN := Lib.hid (fun W => isNaN_any x W)
  go_enter Tryz.func171, Tryz.ntmps171
  go_wp2_with (go_at_call 217; refine (HN.out _).mono ?_; rintro e w' ⟨rfl, rfl⟩)
  go_ret
  exact ⟨rfl, rfl⟩
def SrtP (xs : List Int) : Prop := ∀ i, i + 1 < xs.length → xs.getD i 0 ≤ xs.getD (i + 1) 0
noncomputable def srtB (xs : List Int) : Bool := @decide (SrtP xs) (Classical.propDecidable _)
theorem srtB_true {xs : List Int} (h : SrtP xs) : srtB xs = true := by unfold srtB; simp [h]
theorem srtB_false {xs : List Int} (h : ¬ SrtP xs) : srtB xs = false := by unfold srtB; simp [h]
theorem srtB_iff {xs : List Int} : srtB xs = true ↔ SrtP xs := by unfold srtB; simp

set_option maxHeartbeats 1000000 in
theorem isSorted_any (A : Option Addr) (n c : Nat) (xs : List Int) (w : World) (hn : n = xs.length) (hsm : n ≤ 1099511627776) (hR : Rd w A (iv xs)) :
    Calls Tryz.prog 124 #[.slice A n c] w fun e w' => e = .returned (.bool (srtB xs)) ∧ ∃ m, w.drewN m = w' := by
  have HR := Lib.hid hR
  have Hn := Lib.hid hn
  clear hR hn
  go_enter Tryz.func124, Tryz.ntmps124
  go_wp2_with fail
  go_loopw [3] (fun i wr => ∃ k j : Nat, k ≤ n ∧ i = .int .i64 ((k : Int) - 1) ∧ wr = w.drewN j ∧ Hid (∀ t, k ≤ t + 1 → t + 1 < n → xs.getD t 0 ≤ xs.getD (t + 1) 0)) (fun i _ => (intOf i + 1).toNat)
  case atStart => exact ⟨n, 0, by omega, rfl, rfl, Lib.hid (fun t h1 h2 => by omega)⟩
  case round =>
    obtain ⟨k, j, hk, rfl, rfl, HQ⟩ := hrel
    by_cases h2 : 2 ≤ k
    · obtain ⟨q, rfl⟩ : ∃ q, k = q + 2 := ⟨k - 2, by omega⟩
      have e1 : (((q + 2 : Nat) : Int) - 1) = (q : Int) + 1 := by omega
      rw [e1]
      clear e1
      obtain ⟨b, o, rfl, hc0⟩ := HR.out.atI (k := q) (by rw [← Hn.out]; omega)
      have hc1 := HR.out.cellI (k := q + 1) (by rw [← Hn.out]; omega)
      have hw1 : IntKind.i64.wrap ((q : Int) + 1 - 1) = (q : Int) := by rw [IntKind.wrap_i64]; omega
      have hi0 : (q : Int) < (n : Int) := by omega
      have hi1 : (q : Int) + 1 < (n : Int) := by omega
      have hi2 : 0 < (q : Int) + 1 := by omega
      have hi3 : 0 ≤ (q : Int) + 1 := by omega
      have hi4 : ((q : Int) + 1).toNat = q + 1 := by omega
      have HL := Lib.hid (fun W => cmpLess_any (xs.getD (q + 1) 0) (xs.getD q 0) W)
      by_cases hlt : xs.getD (q + 1) 0 < xs.getD q 0
      · have HF := Lib.hid (srtB_false (xs := xs) (fun h => by have := h q (by rw [← Hn.out]; omega); omega))
        rw [decide_eq_true hlt] at HL
        clear hlt
        generalize xs.getD (q + 1) 0 = x at *
        generalize xs.getD q 0 = y at *
        go_wp2_with fail
        go_big_quiet ((go_at_call 171; first | exact quiet_add_left (HL.out _) | exact quiet_left (HL.out _)))
        go_wp2_with fail
        go_ret
        exact ⟨by rw [HF.out]; rfl, _, by rw [World.drewN_drewN]⟩
      · have HQ2 : Hid (∀ t, q + 1 ≤ t + 1 → t + 1 < n → xs.getD t 0 ≤ xs.getD (t + 1) 0) := Lib.hid (fun t h1 h2 => by
          by_cases e : t = q
          · subst e; omega
          · exact HQ.out t (by omega) h2)
        rw [decide_eq_false hlt] at HL
        clear hlt
        generalize xs.getD (q + 1) 0 = x at *
        generalize xs.getD q 0 = y at *
        go_wp2_with fail
        go_big_quiet ((go_at_call 171; first | exact quiet_add_left (HL.out _) | exact quiet_left (HL.out _)))
        clear hw1 hi0 hi1 hi2 hi3 hi4
        go_wp2_with fail
        go_roundw
        case rel => exact ⟨q + 1, _, by omega, congrArg (Value.int .i64) (by omega), rfl, HQ2⟩
        case measure => simp [intOf]; omega
    · have hi1 : ¬ (0 : Int) < (k : Int) - 1 := by omega
      have HT := Lib.hid (srtB_true (xs := xs) (fun t ht => HQ.out t (by omega) (by rw [Hn.out]; exact ht)))
      go_wp2_with fail
      go_ret
      exact ⟨by rw [HT.out]; rfl, j, rfl⟩

def cmpI (x y : Int) : Int := if x < y then -1 else if y < x then 1 else 0
theorem cmpCompare_any (x y : Int) (w : World) : Calls Tryz.prog 218 #[.int .i64 x, .int .i64 y] w fun e w' => e = .returned (.int .i64 (cmpI x y)) ∧ w = w' := by
  have HN := Lib.hid (fun z W => isNaN_any z W)
  by_cases h : x < y
  · have HE : Hid (cmpI x y = -1) := Lib.hid (by unfold cmpI; rw [if_pos h])
    go_enter Tryz.func218, Tryz.ntmps218
    go_wp2_with (go_at_call 217; refine (HN.out _ _).mono ?_; rintro e w' ⟨rfl, rfl⟩)
    go_ret
    exact ⟨by rw [HE.out]; rfl, rfl⟩
  · by_cases h' : y < x
    · have HE : Hid (cmpI x y = 1) := Lib.hid (by unfold cmpI; rw [if_neg h, if_pos h'])
      go_enter Tryz.func218, Tryz.ntmps218
      go_wp2_with (go_at_call 217; refine (HN.out _ _).mono ?_; rintro e w' ⟨rfl, rfl⟩)
      go_ret
      exact ⟨by rw [HE.out]; rfl, rfl⟩
    · have HE : Hid (cmpI x y = 0) := Lib.hid (by unfold cmpI; rw [if_neg h, if_neg h'])
      go_enter Tryz.func218, Tryz.ntmps218
      go_wp2_with (go_at_call 217; refine (HN.out _ _).mono ?_; rintro e w' ⟨rfl, rfl⟩)
      go_ret
      exact ⟨by rw [HE.out]; rfl, rfl⟩

/-- the order of lists as a number -/
def cmpL (x y : List Int) : Int := if lexLt x y = true then -1 else if x = y then 0 else 1
set_option maxHeartbeats 1000000 in
theorem slCompare_any (A B : Option Addr) (n n' c c' : Nat) (x y : List Int) (w : World) (hn : n = x.length) (hn' : n' = y.length) (hsm : n ≤ 1099511627776) (hsm' : n' ≤ 1099511627776) (hA : Rd w A (iv x)) (hB : Rd w B (iv y)) :
    Calls Tryz.prog 172 #[.slice A n c, .slice B n' c'] w fun e w' => e = .returned (.int .i64 (cmpL x y)) ∧ w = w' := by
  have HA := Lib.hid hA
  have HB := Lib.hid hB
  have Hn := Lib.hid hn
  have Hn' := Lib.hid hn'
  clear hA hB hn hn'
  go_enter Tryz.func172, Tryz.ntmps172
  go_wp2_with fail
  go_loop [11] (fun i => ∃ k : Nat, k ≤ n ∧ k ≤ n' ∧ i = .int .i64 k ∧ Hid (∀ t, t < k → x.getD t 0 = y.getD t 0)) (fun i => n - (intOf i).toNat)
  case atStart => exact ⟨0, by omega, by omega, rfl, Lib.hid (fun t ht => by omega)⟩
  case round =>
    obtain ⟨k, hk, hk', rfl, HQ⟩ := hrel
    by_cases hlt : k < n
    · have hx : k < x.length := by rw [← Hn.out]; exact hlt
      obtain ⟨b1, o1, rfl, hc1⟩ := HA.out.atI hx
      by_cases hlt' : k < n'
      · have hy : k < y.length := by rw [← Hn'.out]; exact hlt'
        obtain ⟨b2, o2, rfl, hc2⟩ := HB.out.atI hy
        have HAT := Lib.hid (fun hne => lexLt_at hx hy HQ.out hne)
        have HC := Lib.hid (fun W => cmpCompare_any (x.getD k 0) (y.getD k 0) W)
        clear hx hy
        generalize hp : x.getD k 0 = p at *
        generalize hq : y.getD k 0 = q at *
        have HP := Lib.hid hp
        have HQ' := Lib.hid hq
        clear hp hq
        rcases Int.lt_trichotomy p q with h | h | h
        · have HE : Hid (cmpI p q = -1) := Lib.hid (by unfold cmpI; rw [if_pos h])
          have HF : Hid (cmpL x y = -1) := Lib.hid (by unfold cmpL; rw [HAT.out (by omega), if_pos (by simpa using h)])
          rw [HE.out] at HC
          clear h
          go_wp2_with (go_at_call 218; refine (HC.out _).mono ?_; rintro e w' ⟨rfl, rfl⟩)
          go_ret
          exact ⟨by rw [HF.out]; rfl, rfl⟩
        · have HE : Hid (cmpI p q = 0) := Lib.hid (by unfold cmpI; rw [if_neg (by omega), if_neg (by omega)])
          rw [HE.out] at HC
          have HPQ := Lib.hid h
          clear h
          go_wp2_with (go_at_call 218; refine (HC.out _).mono ?_; rintro e w' ⟨rfl, rfl⟩)
          go_round
          case rel =>
            refine ⟨k + 1, by omega, by omega, by go_num, Lib.hid (fun t ht => ?_)⟩
            by_cases e : t = k
            · subst e; rw [HP.out, HQ'.out, HPQ.out]
            · exact HQ.out t (by omega)
          case measure => simp [intOf]; omega
        · have HE : Hid (cmpI p q = 1) := Lib.hid (by unfold cmpI; rw [if_neg (by omega), if_pos h])
          have HF : Hid (cmpL x y = 1) := Lib.hid (by
            unfold cmpL
            rw [HAT.out (by omega), if_neg (by simp; omega), if_neg]
            intro e; subst e
            have := HP.out.symm.trans HQ'.out
            omega)
          rw [HE.out] at HC
          clear h
          go_wp2_with (go_at_call 218; refine (HC.out _).mono ?_; rintro e w' ⟨rfl, rfl⟩)
          go_ret
          exact ⟨by rw [HF.out]; rfl, rfl⟩
      · have HF : Hid (cmpL x y = 1) := Lib.hid (by
          have h1 := lexLt_end (by rw [← Hn.out]; omega) (by rw [← Hn'.out]; omega) HQ.out (.inr (by rw [← Hn'.out]; omega))
          rw [← Hn.out, ← Hn'.out, decide_eq_false (by omega)] at h1
          unfold cmpL
          rw [h1, if_neg (by simp), if_neg]
          intro e; subst e
          have := Hn.out.trans Hn'.out.symm
          omega)
        go_wp2_with fail
        go_ret
        exact ⟨by rw [HF.out]; rfl, rfl⟩
    · have h1 := lexLt_end (by rw [← Hn.out]; omega) (by rw [← Hn'.out]; omega) HQ.out (.inl (by rw [← Hn.out]; omega))
      rw [← Hn.out, ← Hn'.out] at h1
      by_cases hnn : n < n'
      · have HF : Hid (cmpL x y = -1) := Lib.hid (by unfold cmpL; rw [h1, if_pos (by simpa using hnn)])
        clear h1
        go_wp2_with fail
        go_ret
        exact ⟨by rw [HF.out]; rfl, rfl⟩
      · have HF : Hid (cmpL x y = 0) := Lib.hid (by
          unfold cmpL
          rw [h1, if_neg (by simpa using hnn), if_pos]
          exact list_ext_getD Hn.out.symm (by rw [← Hn'.out]; omega) (fun i hi => HQ.out i (by omega)))
        clear h1
        go_wp2_with fail
        go_ret
        exact ⟨by rw [HF.out]; rfl, rfl⟩
theorem cmpL_lt {x y : List Int} (h : lexLt x y = true) : cmpL x y = -1 := by unfold cmpL; rw [if_pos h]
theorem cmpL_ge {x y : List Int} (h : lexLt x y = false) : 0 ≤ cmpL x y ∧ cmpL x y ≤ 1 := by unfold cmpL; rw [if_neg (by rw [h]; simp)]; split <;> omega

set_option maxHeartbeats 1000000 in
theorem rising_any (A : Option Addr) (n c : Nat) (L : List Row) (w : World) (hn : n = L.length) (hsm : n ≤ 1099511627776) (hl : ∀ i, i < L.length → (rg L i).xs.length ≤ 1099511627776) (hR : RdR w A L) :
    Calls Tryz.prog 125 #[.slice A n c] w fun e w' => e = .returned (.bool (ascB (dat L))) ∧ ∃ m, w.drewN m = w' := by
  have HR := Lib.hid hR
  have Hn := Lib.hid hn
  have HL := Lib.hid hl
  clear hR hn hl
  go_enter Tryz.func125, Tryz.ntmps125
  go_wp2_with fail
  go_loopw [3] (fun i wr => ∃ k j : Nat, k ≤ n ∧ i = .int .i64 ((k : Int) + 1) ∧ wr = w.drewN j ∧ Hid (∀ t, t < k → lexLt ((dat L).getD t []) ((dat L).getD (t + 1) []) = true)) (fun i _ => n + 1 - (intOf i).toNat)
  case atStart => exact ⟨0, 0, by omega, rfl, rfl, Lib.hid (fun t ht => by omega)⟩
  case round =>
    obtain ⟨k, j, hk, rfl, rfl, HQ⟩ := hrel
    by_cases hlt : k + 1 < n
    · have hk0 : k < L.length := by rw [← Hn.out]; omega
      have hk1 : k + 1 < L.length := by rw [← Hn.out]; omega
      have hi1 : (k : Int) + 1 < (n : Int) := by omega
      have hi2 : 0 ≤ (k : Int) + 1 := by omega
      have hi3 : ((k : Int) + 1).toNat = k + 1 := by omega
      obtain ⟨b, o, rfl, hc0⟩ := HR.out.at_ hk0
      have hc1 := HR.out.cell hk1
      have h0 := HR.out.inn k hk0
      have h1 := HR.out.inn (k + 1) hk1
      have l0 := HL.out k hk0
      have l1 := HL.out (k + 1) hk1
      have HE : Hid (lexLt ((dat L).getD k []) ((dat L).getD (k + 1) []) = lexLt (rg L k).xs (rg L (k + 1)).xs) := Lib.hid (by rw [dat_getD, dat_getD])
      generalize rg L k = r at *
      generalize rg L (k + 1) = s at *
      obtain ⟨rA, rc, rx⟩ := r
      obtain ⟨sA, sc, sx⟩ := s
      simp only at hc0 hc1 h0 h1 l0 l1 HE
      have HC := Lib.hid (fun W hb => slCompare_any rA sA rx.length sx.length rc sc rx sx W rfl rfl l0 l1 (Rd.below h0 hb) (Rd.below h1 hb))
      clear h0 h1
      cases hb : lexLt rx sx
      · have hz := cmpL_ge hb
        have HF := Lib.hid (ascB_false (Q := dat L) (fun h => by have := h k (by rw [dat_length]; exact hk1); rw [HE.out, hb] at this; cases this))
        generalize cmpL rx sx = z at *
        obtain ⟨hz1, hz2⟩ := hz
        clear hb
        go_wp2_with fail
        go_big_quiet ((go_at_call 172; first | exact quiet_add_left (HC.out _ (below_drewN (Below.refl _ _) _)) | exact quiet_left (HC.out _ (below_drewN (Below.refl _ _) _))))
        go_wp2_with fail
        go_ret
        exact ⟨by rw [HF.out]; rfl, _, by rw [World.drewN_drewN]⟩
      · rw [cmpL_lt hb] at HC
        have HB := Lib.hid hb
        clear hb
        go_wp2_with fail
        go_big_quiet ((go_at_call 172; first | exact quiet_add_left (HC.out _ (below_drewN (Below.refl _ _) _)) | exact quiet_left (HC.out _ (below_drewN (Below.refl _ _) _))))
        go_wp2_with fail
        go_roundw
        case rel =>
          refine ⟨k + 1, _, by omega, by go_num, rfl, Lib.hid (fun t ht => ?_)⟩
          by_cases e : t = k
          · subst e; rw [HE.out]; exact HB.out
          · exact HQ.out t (by omega)
        case measure => simp [intOf]; omega
    · have hi1 : ¬ (k : Int) + 1 < (n : Int) := by omega
      have HT := Lib.hid (ascB_true (Q := dat L) (fun i hi => HQ.out i (by rw [dat_length, ← Hn.out] at hi; omega)))
      go_wp2_with fail
      go_ret
      exact ⟨by rw [HT.out]; rfl, j, rfl⟩
end Go.Proofs.YtdkmdmpaflgfaaaGreatDoor

namespace Go.Proofs.YtdkmdmpaflgfaaaGreatDoor
open Go.RowKit

set_option maxHeartbeats 400000 in
theorem indexFuncR_any (A : Option Addr) (n c : Nat) (L : List Row) (fn : FuncId) (cv : Value) (p : Row → Bool) (w : World) (hcf : Ent fn) (hn : n = L.length) (hsm : n ≤ 1099511627776) (hR : Rd w A (hv L))
    (hf : ∀ r ∈ L, Asks Tryz.prog fn cv w r.val (p r)) :
    Calls Tryz.prog 219 #[.slice A n c, .func (.func fn) #[] #[cv]] w fun e w' =>
      e = .returned (.int .i64 (placeOf (L.findIdx? p))) ∧ ∃ m, w.drewN m = w' := by
  have Hn := Lib.hid hn; clear hn
  have HF := Lib.hid hf; clear hf
  have HR := Lib.hid hR; clear hR
  unfold Ent at hcf
  go_enter Tryz.func219, Tryz.ntmps219
  go_wp2_with fail
  go_loopw [8] (fun i wr => ∃ k : Nat, k ≤ n ∧ i = .int .i64 k ∧ (∃ m, wr = w.drewN m) ∧ (L.take k).findIdx? p = none) (fun i _ => n - (intOf i).toNat)
  case atStart => exact ⟨0, by omega, rfl, ⟨0, rfl⟩, by simp⟩
  case round =>
    obtain ⟨k, hk, rfl, ⟨m, rfl⟩, hp⟩ := hrel
    have HP := Lib.hid hp; clear hp
    by_cases hlt : k < n
    · have hkL : k < L.length := by rw [← Hn.out]; exact hlt
      obtain ⟨b, o, rfl, hc⟩ : ∃ b o, A = some ⟨b, o, none⟩ ∧ w.cell? ⟨b, o + k, none⟩ = some (rg L k).val := by
        rcases HR.out with h' | ⟨b, o, rfl, h'⟩
        · have := congrArg List.length h'; simp [hv_length] at this; subst this; simp at hkL
        · exact ⟨b, o, rfl, h' k _ (hv_get hkL)⟩
      have ha := HF.out _ (rg_mem hkL) m
      have HX := Lib.hid (rg_of hkL)
      generalize rg L k = x at *
      have HA := Lib.hid ha; clear ha
      generalize hv : x.val = v at *
      clear hv
      cases hb : p x
      · rw [hb] at HA
        go_wp2_with fail
        refine HA.out.mono ?_
        rintro e w' ⟨rfl, m', rfl⟩
        go_wp2_with fail
        go_roundw
        case rel => exact ⟨k + 1, by omega, by go_num, ⟨m', rfl⟩, by rw [List.take_succ_eq_append_getElem hkL, List.findIdx?_append, HP.out, ← HX.out]; simp [hb]⟩
        case measure => simp [intOf]; omega
      · rw [hb] at HA
        go_wp2_with fail
        refine HA.out.mono ?_
        rintro e w' ⟨rfl, m', rfl⟩
        go_wp2_with fail
        go_ret
        refine ⟨?_, m', rfl⟩
        have e : L.findIdx? p = some k := by
          rw [← List.take_append_drop k L, List.findIdx?_append, HP.out, List.drop_eq_getElem_cons hkL, ← HX.out]
          simp [hb, Nat.min_eq_left (Nat.le_of_lt hkL), List.findIdx?_cons]
        rw [e]
        rfl
    · have ek : L.take k = L := List.take_of_length_le (by rw [← Hn.out]; omega)
      go_wp2_with fail
      go_ret
      refine ⟨?_, m, rfl⟩
      have e : L.findIdx? p = none := by rw [← ek, HP.out]
      rw [e]
      rfl

set_option maxHeartbeats 400000 in
theorem containsFuncR_any (A : Option Addr) (n c : Nat) (L : List Row) (fn : FuncId) (cv : Value) (p : Row → Bool) (w : World) (hcf : Ent fn) (hn : n = L.length) (hsm : n ≤ 1099511627776) (hR : Rd w A (hv L))
    (hf : ∀ r ∈ L, Asks Tryz.prog fn cv w r.val (p r)) :
    Calls Tryz.prog 173 #[.slice A n c, .func (.func fn) #[] #[cv]] w fun e w' =>
      e = .returned (.bool (L.any p)) ∧ ∃ m, w.drewN m = w' := by
  have HC := Lib.hid (indexFuncR_any A n c L fn cv p w hcf hn hsm hR hf)
  clear hn hR hf hsm
  cases h : L.findIdx? p with
  | none =>
    rw [h] at HC
    have e : L.any p = false := by rw [List.any_eq_false]; rw [findIdx_none] at h; simpa using h
    have HE := Lib.hid e; clear e h
    go_enter Tryz.func173, Tryz.ntmps173
    go_wp2_with (go_at_call 219; refine HC.out.mono ?_; rintro e w' ⟨rfl, m', rfl⟩)
    go_ret
    exact ⟨by rw [HE.out]; rfl, m', rfl⟩
  | some k =>
    rw [h] at HC
    have e : L.any p = true := by
      cases ha : L.any p with
      | true => rfl
      | false =>
        rw [List.any_eq_false] at ha
        have : L.findIdx? p = none := by rw [findIdx_none]; simpa using ha
        rw [this] at h; cases h
    have HE := Lib.hid e; clear e h
    have hk : ¬ (k : Int) < 0 := by omega
    go_enter Tryz.func173, Tryz.ntmps173
    go_wp2_with (go_at_call 219; refine HC.out.mono ?_; rintro e w' ⟨rfl, m', rfl⟩)
    go_ret
    exact ⟨by rw [HE.out]; simp [placeOf], m', rfl⟩

/-- What a predicate's closure of several captured variables answers. -/
def AsksN (P : Program) (fn : FuncId) (cvs : Array Value) (w : World) (x : Value) (b : Bool) : Prop :=
  ∀ m, Calls P fn (#[x] ++ cvs) (w.drewN m) fun e w' => e = .returned (.bool b) ∧ ∃ m', w.drewN m' = w'
set_option maxHeartbeats 400000 in
/-- all(lists, holds), 'holds' a closure that only looks. -/
theorem allR_any (A : Option Addr) (n c : Nat) (L : List Row) (fn : FuncId) (cvs : Array Value) (p : Row → Bool) (w : World) (hcf : Ent fn) (hn : n = L.length) (hsm : n ≤ 1099511627776) (hR : Rd w A (hv L))
    (hf : ∀ r ∈ L, ∀ o, AsksN Tryz.prog fn cvs (w.alloc o) r.val (p r)) :
    Calls Tryz.prog 126 #[.slice A n c, .func (.func fn) #[] cvs] w fun e w' =>
      e = .returned (.bool (L.all p)) ∧ Below w.heap.size w w' := by
  have key : ∀ r ∈ L, Asks Tryz.prog 174 (.pointer (some ⟨w.heap.size, 0, none⟩)) (w.alloc (.cells #[.func (.func fn) #[] cvs] 110)) r.val (!(p r)) := by
    intro r hr m
    have HF := Lib.hid (hf r hr (.cells #[.func (.func fn) #[] cvs] 110) m)
    clear hf hR
    unfold Ent at hcf
    have hc : (w.alloc (.cells #[.func (.func fn) #[] cvs] 110)).cell? ⟨w.heap.size, 0, none⟩ = some (.func (.func fn) #[] cvs) := new_cell _ _ _
    generalize r.val = v at *
    go_enter Tryz.func174, Tryz.ntmps174
    go_wp2_with fail
    refine HF.out.mono ?_
    rintro e w' ⟨rfl, m', rfl⟩
    go_wp2_with fail
    go_ret
    exact ⟨rfl, m', rfl⟩
  have hR' : Rd (w.alloc (.cells #[.func (.func fn) #[] cvs] 110)) A (hv L) := hR.alloc _
  have HC := Lib.hid (containsFuncR_any A n c L _ _ _ _ (fun args w => Tryz.call174 args w) hn hsm hR' key)
  have e : (!(L.any fun x => !(p x))) = L.all p := by simp [List.all_eq_not_any_not]
  have HE := Lib.hid e; clear e key hR' hR hf hn hsm
  go_enter Tryz.func126, Tryz.ntmps126
  go_wp2_with (go_at_call 173; refine HC.out.mono ?_; rintro e w' ⟨rfl, m', rfl⟩)
  go_ret
  exact ⟨by rw [← HE.out]; rfl, below_drewN ((Below.refl _ _).alloc (Nat.le_refl _) _) m'⟩
end Go.Proofs.YtdkmdmpaflgfaaaGreatDoor

namespace Go.Proofs.YtdkmdmpaflgfaaaGreatDoor
open Go.RowKit

noncomputable def entB (xs e : List Int) : Bool := @decide (EntM xs e) (Classical.propDecidable _)
theorem entB_true {xs e : List Int} (h : EntM xs e) : entB xs e = true := by unfold entB; simp [h]
theorem entB_false {xs e : List Int} (h : ¬ EntM xs e) : entB xs e = false := by unfold entB; simp [h]
theorem entB_iff {xs e : List Int} : entB xs e = true ↔ EntM xs e := by unfold entB; simp

theorem isStem_any (x : Int) (w : World) : Calls Tryz.prog 123 #[.int .i64 x] w fun e w' => e = .returned (.bool (inB x 0 20)) ∧ w = w' := by
  have HI := Lib.hid (fun W => in_any x 0 20 W)
  go_enter Tryz.func123, Tryz.ntmps123
  go_wp2_with (go_at_call 102; refine (HI.out _).mono ?_; rintro e w' ⟨rfl, rfl⟩)
  go_ret
  exact ⟨rfl, rfl⟩

set_option maxRecDepth 100000 in
set_option maxHeartbeats 2000000 in
theorem entAsk (wc : World) (lb mb n c : Nat) (A : Option Addr) (xs : List Int) (r : Row) (hn : n = xs.length) (hn16 : n ≤ 16) (hd : ∀ i, i < xs.length → 0 ≤ xs.getD i 0 ∧ xs.getD i 0 ≤ 20)
    (hlc : wc.cell? ⟨lb, 0, none⟩ = some (.int .i64 ((n : Int) - 1))) (hmc : wc.cell? ⟨mb, 0, none⟩ = some (.slice A n c)) (hR : Rd wc A (iv xs)) (hr : Rd wc r.A (iv r.xs)) (hle : r.xs.length ≤ 1048576) :
    AsksN Tryz.prog 127 #[.pointer (some ⟨lb, 0, none⟩), .pointer (some ⟨mb, 0, none⟩)] wc r.val (entB xs r.xs) := by
  intro q
  obtain ⟨rA, rc, rx⟩ := r
  simp only [Row.val] at hr hle ⊢
  show Calls Tryz.prog 127 #[.slice rA rx.length rc, .pointer (some ⟨lb, 0, none⟩), .pointer (some ⟨mb, 0, none⟩)] (wc.drewN q) _
  have HNO := Lib.hid (fun (h : ¬ EntM xs rx) => entB_false h)
  have Hn := Lib.hid hn
  have HD := Lib.hid hd
  by_cases h3 : rx.length = 3
  · have HR := Lib.hid hR
    obtain ⟨b1, o1, rfl, hy0⟩ := hr.atI (k := 0) (by omega)
    rw [Nat.add_zero] at hy0
    have hy1 := hr.cellI (k := 1) (by omega)
    have hy2 := hr.cellI (k := 2) (by omega)
    have HI0 := Lib.hid (fun W => in_any (rx.getD 0 0) 1 20 W)
    have HI1 := Lib.hid (fun W => in_any (rx.getD 1 0) 0 ((n : Int) - 1) W)
    have HI2 := Lib.hid (fun W => in_any (rx.getD 2 0) 0 ((n : Int) - 1) W)
    have HM := Lib.hid (fun (g0 : 1 ≤ rx.getD 0 0) g1 g2 g3 g4 g5 => entB_true (⟨h3, g0, g1, g2, g3, g4, g5⟩ : EntM xs rx))
    have HN0 := Lib.hid (fun (h : ¬ (1 ≤ rx.getD 0 0 ∧ rx.getD 0 0 ≤ 20)) => HNO.out (fun e => h ⟨e.pos, e.le20 hd⟩))
    have HN1 := Lib.hid (fun (h : ¬ (0 ≤ rx.getD 1 0 ∧ rx.getD 1 0 ≤ (n : Int) - 1)) => HNO.out (fun e => h ⟨e.lo1, by have := e.hi1; omega⟩))
    have HN2 := Lib.hid (fun (h : ¬ (0 ≤ rx.getD 2 0 ∧ rx.getD 2 0 ≤ (n : Int) - 1)) => HNO.out (fun e => h ⟨e.lo2, by have := e.hi2; omega⟩))
    have HN3 := Lib.hid (fun (h : ¬ xs.getD (rx.getD 2 0).toNat 0 = xs.getD (rx.getD 1 0).toNat 0 + rx.getD 0 0) => HNO.out (fun e => h e.dg))
    rw [h3]
    clear hr hle hn hd hR HNO h3
    generalize rx.getD 0 0 = e0 at *
    generalize rx.getD 1 0 = e1 at *
    generalize rx.getD 2 0 = e2 at *
    cases hb0 : inB e0 1 20
    · rw [hb0] at HI0
      have HF := Lib.hid (HN0.out (inB_not hb0))
      clear hb0
      go_enter Tryz.func127, Tryz.ntmps127
      go_wp2_with fail
      go_big_quiet ((go_at_call 102; first | with_reducible exact quiet_add_left (HI0.out _) | with_reducible exact quiet_left (HI0.out _)))
      go_wp2_with fail
      go_ret
      exact ⟨by rw [HF.out]; rfl, _, by rw [World.drewN_drewN]⟩
    · rw [hb0] at HI0
      obtain ⟨hlo0, hhi0⟩ := inB_true2 hb0
      clear hb0
      cases hb1 : inB e1 0 ((n : Int) - 1)
      · rw [hb1] at HI1
        have HF := Lib.hid (HN1.out (inB_not hb1))
        clear hb1
        go_enter Tryz.func127, Tryz.ntmps127
        go_wp2_with fail
        go_big_quiet ((go_at_call 102; first | with_reducible exact quiet_add_left (HI0.out _) | with_reducible exact quiet_left (HI0.out _) | with_reducible exact quiet_add_left (HI1.out _) | with_reducible exact quiet_left (HI1.out _)))
        go_wp2_with fail
        go_ret
        exact ⟨by rw [HF.out]; rfl, _, by rw [World.drewN_drewN]⟩
      · rw [hb1] at HI1
        obtain ⟨hlo1, hhi1⟩ := inB_true2 hb1
        clear hb1
        cases hb2 : inB e2 0 ((n : Int) - 1)
        · rw [hb2] at HI2
          have HF := Lib.hid (HN2.out (inB_not hb2))
          clear hb2
          go_enter Tryz.func127, Tryz.ntmps127
          go_wp2_with fail
          go_big_quiet ((go_at_call 102; first | with_reducible exact quiet_add_left (HI0.out _) | with_reducible exact quiet_left (HI0.out _) | with_reducible exact quiet_add_left (HI1.out _) | with_reducible exact quiet_left (HI1.out _) | with_reducible exact quiet_add_left (HI2.out _) | with_reducible exact quiet_left (HI2.out _)))
          go_wp2_with fail
          go_ret
          exact ⟨by rw [HF.out]; rfl, _, by rw [World.drewN_drewN]⟩
        · rw [hb2] at HI2
          obtain ⟨hlo2, hhi2⟩ := inB_true2 hb2
          clear hb2
          obtain ⟨i1, rfl⟩ := Int.eq_ofNat_of_zero_le hlo1
          obtain ⟨i2, rfl⟩ := Int.eq_ofNat_of_zero_le hlo2
          rw [Int.toNat_natCast, Int.toNat_natCast] at HN3 HM
          have hi1 : i1 < n := by omega
          have hi2 : i2 < n := by omega
          obtain ⟨b3, o3, rfl, hd1⟩ := HR.out.atI (k := i1) (by rw [← Hn.out]; exact hi1)
          have hd2 := HR.out.cellI (k := i2) (by rw [← Hn.out]; exact hi2)
          have hbd1 := HD.out i1 (by rw [← Hn.out]; exact hi1)
          have hbd2 := HD.out i2 (by rw [← Hn.out]; exact hi2)
          have hi1' : (i1 : Int) < (n : Int) := by omega
          have hi2' : (i2 : Int) < (n : Int) := by omega
          generalize xs.getD i1 0 = d1 at *
          generalize xs.getD i2 0 = d2 at *
          obtain ⟨g1, g2⟩ := hbd1
          obtain ⟨g3, g4⟩ := hbd2
          have hw2 : IntKind.i64.wrap (d1 + e0) = d1 + e0 := by rw [IntKind.wrap_i64]; omega
          by_cases heq : d2 = d1 + e0
          · have HEN := Lib.hid (HM.out (by omega) (by omega) (by rw [← Hn.out]; exact hi1') (by omega) (by rw [← Hn.out]; exact hi2') (by omega))
            have heb : (d2 == d1 + e0) = true := by simpa using heq
            clear heq
            go_enter Tryz.func127, Tryz.ntmps127
            go_wp2_with fail
            go_big_quiet ((go_at_call 102; first | with_reducible exact quiet_add_left (HI0.out _) | with_reducible exact quiet_left (HI0.out _) | with_reducible exact quiet_add_left (HI1.out _) | with_reducible exact quiet_left (HI1.out _) | with_reducible exact quiet_add_left (HI2.out _) | with_reducible exact quiet_left (HI2.out _)))
            go_wp2_with fail
            go_big_quiet (fail)
            go_wp2_with fail
            go_ret
            exact ⟨by rw [HEN.out]; rfl, _, by rw [World.drewN_drewN, World.drewN_drewN]⟩
          · have HF := Lib.hid (HN3.out (by omega))
            have heb : (d2 == d1 + e0) = false := by simpa using heq
            clear heq
            go_enter Tryz.func127, Tryz.ntmps127
            go_wp2_with fail
            go_big_quiet ((go_at_call 102; first | with_reducible exact quiet_add_left (HI0.out _) | with_reducible exact quiet_left (HI0.out _) | with_reducible exact quiet_add_left (HI1.out _) | with_reducible exact quiet_left (HI1.out _) | with_reducible exact quiet_add_left (HI2.out _) | with_reducible exact quiet_left (HI2.out _)))
            go_wp2_with fail
            go_big_quiet (fail)
            go_wp2_with fail
            go_ret
            exact ⟨by rw [HF.out]; rfl, _, by rw [World.drewN_drewN, World.drewN_drewN]⟩
  · have hrb : ((rx.length : Int) != 3) = true := by simp; omega
    have HF := Lib.hid (HNO.out (fun e => h3 e.len))
    clear hr hn hd hR HNO h3
    go_enter Tryz.func127, Tryz.ntmps127
    go_wp2_with fail
    go_big_quiet (fail)
    go_wp2_with fail
    go_ret
    exact ⟨by rw [HF.out]; rfl, _, by rw [World.drewN_drewN]⟩
end Go.Proofs.YtdkmdmpaflgfaaaGreatDoor

namespace Go.Proofs.YtdkmdmpaflgfaaaGreatDoor
open Go.RowKit

theorem stem_closure (w : World) (x : Int) : Asks0 Tryz.prog 123 w (.int .i64 x) (inB x 0 20) := by
  intro m
  exact (isStem_any x (w.drewN m)).mono fun e w' ⟨he, hw⟩ => ⟨he, m, hw⟩

theorem all_shp {xs : List Int} {L : List Row} (h1 : xs.length ≤ 16) (h2 : ∀ i, i < xs.length → 0 ≤ xs.getD i 0 ∧ xs.getD i 0 ≤ 20) (h3 : SrtP xs) (h4 : AscP (dat L)) : (L.all fun r => entB xs r.xs) = shpB xs (dat L) := by
  rw [Bool.eq_iff_iff, List.all_eq_true, show shpB xs (dat L) = true ↔ Shp xs (dat L) by unfold shpB; simp]
  constructor
  · intro h
    refine ⟨h1, h2, h3, h4, fun k hk => ?_⟩
    rw [dat_length] at hk
    rw [dat_getD]
    exact entB_iff.1 (h _ (rg_mem hk))
  · intro h r hr
    obtain ⟨i, hi, rfl⟩ := List.getElem_of_mem hr
    have := h.ent i (by rw [dat_length]; exact hi)
    rw [dat_getD, rg_of hi] at this
    exact entB_true this

set_option maxRecDepth 100000 in
set_option maxHeartbeats 2000000 in
theorem isTable_any (A A' : Option Addr) (n c m c' : Nat) (xs : List Int) (L : List Row) (w : World) (hn : n = xs.length) (hsm : n ≤ 1048576) (hR : Rd w A (iv xs)) (hm : m = L.length) (hm1 : m ≤ 1048576) (hl : ∀ i, i < L.length → (rg L i).xs.length ≤ 1048576) (hR' : RdR w A' L) :
    Calls Tryz.prog 91 #[.agg #[.slice A n c, .slice A' m c']] w fun e w' => e = .returned (.bool (shpB xs (dat L))) ∧ Below w.heap.size w w' := by
  have hb0 : Below w.heap.size w (w.alloc (.cells #[.slice A n c, .slice A' m c'] 30)) := (Below.refl _ _).alloc (Nat.le_refl _) _
  have hk0 := blk_new w (.cells #[.slice A n c, .slice A' m c'] 30)
  obtain ⟨x0, x1, xf0, xf1, lx⟩ := blk2cells hk0
  have HB0 := Lib.hid hb0
  have HK0 := Lib.hid hk0
  by_cases h16 : n ≤ 16
  · have h16b : decide ((16 : Int) < (n : Int)) = false := by simp; omega
    have HAL := Lib.hid (all0_any A n c xs 123 (fun x => inB x 0 20) _ (fun args w => Tryz.call123 args w) hn (by omega) (hR.below hb0) (fun x _ o => stem_closure _ x))
    have HSO := Lib.hid (fun W (hb : Below w.heap.size w W) => isSorted_any A n c xs W hn (by omega) (hR.below hb))
    have HRI := Lib.hid (fun W (hb : Below w.heap.size w W) => rising_any A' m c' L W hm (by omega) (fun i hi => Nat.le_trans (hl i hi) (by omega)) (hR'.below hb))
    have HR := Lib.hid hR
    have HR' := Lib.hid hR'
    have Hn := Lib.hid hn
    have Hm := Lib.hid hm
    have HL := Lib.hid hl
    clear hb0 hk0 hn hR hm hl hR'
    cases hall : xs.all fun x => inB x 0 20
    · rw [hall] at HAL
      have HF := Lib.hid (shpB_false (xs := xs) (Q := dat L) (fun h => by
        have := (all_getD (xs := xs) (p := fun x => inB x 0 20)).2 fun t ht => inB_eq_true (h.deg t ht).1 (h.deg t ht).2
        rw [this] at hall; cases hall))
      clear hall
      go_enter Tryz.func91, Tryz.ntmps91
      go_wp2_with (go_at_call 122; refine HAL.out.mono ?_; rintro e w1 ⟨rfl, hb⟩; have HB1 := Lib.hid (HB0.out.trans (hb.mono HB0.out.size)); clear hb)
      go_ret
      exact ⟨by rw [HF.out]; rfl, HB1.out⟩
    · rw [hall] at HAL
      have HD := Lib.hid (fun t (ht : t < xs.length) => inB_true2 (all_getD.1 hall t ht))
      clear hall
      go_enter Tryz.func91, Tryz.ntmps91
      go_wp2_with fail
      refine HAL.out.mono ?_
      rintro e w1 ⟨rfl, hb⟩
      have HB1 := Lib.hid (HB0.out.trans (hb.mono HB0.out.size))
      have HK1 := Lib.hid (blk_kept HK0.out hb)
      clear hb x0 x1 xf0 xf1 lx HAL HK0 HB0
      obtain ⟨x0, x1, xf0, xf1, lx⟩ := blk2cells HK1.out
      have hsz := HB1.out.size
      have HS1 := Lib.hid (HSO.out _ HB1.out)
      cases hsrt : srtB xs
      · rw [hsrt] at HS1
        have HF := Lib.hid (shpB_false (xs := xs) (Q := dat L) (fun h => by rw [srtB_true h.srt] at hsrt; cases hsrt))
        clear hsrt
        go_wp2_with (go_at_call 124; refine HS1.out.mono ?_; rintro e w2 ⟨rfl, j, rfl⟩)
        go_ret
        exact ⟨by rw [HF.out]; rfl, below_drewN HB1.out _⟩
      · rw [hsrt] at HS1
        have HSR := Lib.hid (srtB_iff.1 hsrt)
        clear hsrt
        have HRI1 := Lib.hid (fun j => HRI.out _ (below_drewN HB1.out j))
        cases hasc : ascB (dat L)
        · rw [hasc] at HRI1
          have HF := Lib.hid (shpB_false (xs := xs) (Q := dat L) (fun h => by rw [ascB_true h.asc] at hasc; cases hasc))
          clear hasc
          go_wp2_with (first | (go_at_call 124; refine HS1.out.mono ?_; rintro e w2 ⟨rfl, j, rfl⟩) | (go_at_call 125; refine (HRI1.out _).mono ?_; rintro e w2 ⟨rfl, j2, rfl⟩))
          go_ret
          exact ⟨by rw [HF.out]; rfl, below_drewN HB1.out _⟩
        · rw [hasc] at HRI1
          have HAS := Lib.hid (ascB_iff.1 hasc)
          clear hasc
          go_wp2_with fail
          refine HS1.out.mono ?_
          rintro e w2 ⟨rfl, j, hw⟩
          have HB2 : Hid (Below w.heap.size w w2) := Lib.hid (hw ▸ below_drewN HB1.out j)
          have HK2 : Hid (w2.heap[w.heap.size]? = some (.cells #[.slice A n c, .slice A' m c'] 30 (0, 0))) := Lib.hid (hw ▸ HK1.out)
          have HRI2 := Lib.hid (hw ▸ HRI1.out j)
          clear hw x0 x1 xf0 xf1 lx
          obtain ⟨x0, x1, xf0, xf1, lx⟩ := blk2cells HK2.out
          go_wp2_with fail
          refine HRI2.out.mono ?_
          rintro e w3 ⟨rfl, j2, hw⟩
          have HB3 : Hid (Below w.heap.size w w3) := Lib.hid (hw ▸ below_drewN HB2.out j2)
          have HK3 : Hid (w3.heap[w.heap.size]? = some (.cells #[.slice A n c, .slice A' m c'] 30 (0, 0))) := Lib.hid (hw ▸ HK2.out)
          clear hw x0 x1 xf0 xf1 lx
          obtain ⟨x0, x1, xf0, xf1, lx⟩ := blk2cells HK3.out
          have hsz3 := HB3.out.size
          have HALL := Lib.hid (allR_any A' m c' L 127 #[.pointer (some ⟨w3.heap.size, 0, none⟩), .pointer (some ⟨w.heap.size, 0, none⟩)] (fun r => entB xs r.xs) (w3.alloc (.cells #[.int .i64 ((n : Int) - 1)] 2)) (fun args w => Tryz.call127 args w) Hm.out (by omega) ((HR'.out.below (HB3.out.alloc hsz3 _)).out) (fun r hr o => by
            obtain ⟨i, hi, rfl⟩ := List.getElem_of_mem hr
            have hbo : Below w.heap.size w ((w3.alloc (.cells #[.int .i64 ((n : Int) - 1)] 2)).alloc o) := (HB3.out.alloc hsz3 _).alloc (by simp; omega) o
            have hin := (HR'.out.below hbo).inn i hi
            have hle := HL.out i hi
            rw [rg_of hi] at hin hle
            refine entAsk _ w3.heap.size w.heap.size n c A xs L[i] Hn.out h16 HD.out ?_ ?_ (HR.out.below hbo) hin hle
            · exact new_cell2 _ _ _ _
            · exact cell_keep x0 (((Below.refl _ _).alloc (Nat.le_refl _) _).alloc (by simp) o)))
          have HFIN := Lib.hid (all_shp (xs := xs) (L := L) (by rw [← Hn.out]; exact h16) HD.out HSR.out HAS.out)
          clear HRI HRI1 HSO HS1 HRI2
          go_wp2_with fail
          refine HALL.out.mono ?_
          rintro e w4 ⟨rfl, hb⟩
          have HB4 := Lib.hid ((HB3.out.alloc hsz3 (.cells #[.int .i64 ((n : Int) - 1)] 2)).trans (hb.mono (by simp; omega)))
          clear hb
          rw [HFIN.out]
          go_wp2_with fail
          go_ret
          exact ⟨rfl, HB4.out⟩
  · have HF := Lib.hid (shpB_false (xs := xs) (Q := dat L) (fun h => by have := h.len; omega))
    clear hR hR' hn hm hl hb0 hk0
    go_enter Tryz.func91, Tryz.ntmps91
    go_wp2_with fail
    go_ret
    exact ⟨by rw [HF.out]; rfl, HB0.out⟩
end Go.Proofs.YtdkmdmpaflgfaaaGreatDoor

namespace Go.Proofs.YtdkmdmpaflgfaaaGreatDoor
open Go.RowKit

theorem xsumf_take {f : Nat → Nat} (l : List Nat) {k : Nat} (hk : k < l.length) : xsumf f (l.take (k + 1)) = xr (xsumf f (l.take k)) (f (l.getD k 0)) := by
  rw [List.take_succ_eq_append_getElem hk, xsumf_append, xsumf_cons]
  congr 1
  simp [List.getD, hk, xsumf, xr_zero]
theorem xr_eq_zero {a b : Nat} : xr a b = 0 ↔ a = b := by
  constructor
  · intro h
    have := xr_xr a b
    rw [h, xr_zero] at this; exact this
  · rintro rfl; exact xr_self a
theorem relN_le {a b k : Nat} (hk : k < (relN a b).length) : 2 * (relN a b).getD k 0 ≤ a := (mem_relN (b := b) (by simp [List.getD, hk])).1
theorem relN_len (a b : Nat) : (relN a b).length ≤ a / 2 + 1 := relF_len a b (a / 2 + 1)

/-- no fault: nil -/
def FaultN (ok : Prop) (w : World) (e : Ending) (w' : World) : Prop := ((e = .returned (.slice none 0 0) ∧ ok) ∨ ∃ g, e = .returned (.slice (some ⟨g, 0, none⟩) 3 3) ∧ ¬ ok) ∧ Below w.heap.size w w'
attribute [local go_sem] i64_xor_nat in
set_option maxRecDepth 100000 in
set_option maxHeartbeats 4000000 in
theorem fault_any (g : Nat) (A : Option Addr) (n c : Nat) (xs : List Int) (Q : List (List Int)) (w : World) (hn : n = xs.length) (hs : Shp xs Q) (ht : TblAt w g A n c Q) :
    Calls Tryz.prog 92 #[.pointer (some ⟨g, 0, none⟩)] w (FaultN (IsMod xs Q) w) := by
  have hn16 : n ≤ 16 := by rw [hn]; exact hs.len
  have HSQ := Lib.hid (fun (z y : Int) (v : Nat) W (hb : Below w.heap.size w W) hz hy hv => square_any g A n c xs Q z y v W hn hs hz hy hv (ht.below hb))
  have HC := Lib.hid ht.c0
  have HALT := Lib.hid (fun (z : Int) {v : Nat} (hv : v < 2 ^ xs.length) => act_lt hs hv z)
  have HSM := Lib.hid (fun (v : Nat) (hv : v < 2 ^ xs.length) => sm_of_len hs.len hv)
  have Hn := Lib.hid hn
  have HS := Lib.hid hs
  clear hn hs ht
  go_enter Tryz.func92, Tryz.ntmps92
  go_wp2_with fail
  go_loopw [3] (fun s3 wr => ∃ a : Nat, 1 ≤ a ∧ a ≤ 21 ∧ s3 = .int .i64 a ∧ Hid (∀ a' b i : Nat, 1 ≤ a' → a' < a → a' < 2 * b → a' + b ≤ 20 → i < n → OkAt Q a' b (2 ^ i)) ∧ Below w.heap.size w wr) (fun i _ => 21 - (intOf i).toNat)
  case atStart => exact ⟨1, by omega, by omega, rfl, Lib.hid (fun a' b i h1 h2 => by omega), Below.refl _ _⟩
  case round =>
    obtain ⟨a, ha1, ha2, rfl, HOA, hbel⟩ := hrel
    have HBL := Lib.hid hbel
    by_cases hlt : a ≤ 20
    · clear hbel
      go_wp2_with fail
      go_loopw [4] (fun s4 wr => ∃ b : Nat, a < 2 * b ∧ b ≤ 21 ∧ s4 = .int .i64 b ∧ Hid (∀ b' i : Nat, a < 2 * b' → b' < b → a + b' ≤ 20 → i < n → OkAt Q a b' (2 ^ i)) ∧ Below w.heap.size w wr) (fun i _ => 21 - (intOf i).toNat)
      case atStart => exact ⟨a / 2 + 1, by omega, by omega, congrArg (Value.int .i64) (by omega), Lib.hid (fun b' i h1 h2 => by omega), HBL.out⟩
      case round =>
        obtain ⟨b, hb2, hb3, rfl, HOB, hbel⟩ := hrel
        have HBL := Lib.hid hbel
        have hsz := hbel.size
        by_cases hlt2 : a + b ≤ 20
        · have hlt2' : (a : Int) + b ≤ 20 := by omega
          have HR := Lib.hid (relation_any a b wr ha1 hb2 (by omega))
          clear hbel
          go_wp2_with fail
          refine HR.out.mono ?_
          rintro e w1 ⟨gr, k, cr, rfl, hk, ho, hb⟩
          have HB1 := Lib.hid (HBL.out.trans (hb.mono hsz))
          have HK := hk
          have HRR := Lib.hid (owns_Rd ho)
          have hk20 : k ≤ 20 := by have := relN_len a b; have := hk.out; omega
          have hc0 := cell_keep HC.out (HB1.out)
          clear hk ho hb
          go_wp2_with fail
          go_loop [31] (fun s => ∃ v : Nat, v ≤ n ∧ s = .int .i64 v ∧ Hid (∀ i : Nat, i < v → OkAt Q a b (2 ^ i))) (fun i => n - (intOf i).toNat)
          case atStart => exact ⟨0, by omega, rfl, Lib.hid (fun i h => by omega)⟩
          case round =>
            obtain ⟨v, hv, rfl, HOV⟩ := hrel
            by_cases hlt3 : v < n
            · have HE : Hid (((2 ^ v : Nat) : Int) = (2 : Int) ^ v) := Lib.hid (by simp)
              obtain ⟨hp1, hp2⟩ := pow2_bd (d := v) (by omega)
              have HV : Hid (2 ^ v < 2 ^ xs.length) := Lib.hid (pow_lt_pow (by rw [← Hn.out]; exact hlt3))
              have HQ1 := Lib.hid (HSQ.out (b : Int) ((2 : Int) ^ v) (2 ^ v) w1 HB1.out (by omega) HE.out.symm HV.out)
              have HQ2 := Lib.hid (HSQ.out (a : Int) ((act Q (b : Int) (2 ^ v) : Nat) : Int) _ w1 HB1.out (by omega) rfl (HALT.out (b : Int) HV.out))
              have HXL := Lib.hid (HALT.out (a : Int) (HALT.out (b : Int) HV.out))
              have HF := Lib.hid (fun j : Nat => HALT.out ((a + b - j : Nat) : Int) (HALT.out (j : Int) HV.out))
              have HQ3 := Lib.hid (fun (j : Nat) (hj : 2 * j ≤ a) => HSQ.out (j : Int) ((2 : Int) ^ v) (2 ^ v) w1 HB1.out (by omega) HE.out.symm HV.out)
              have HQ4 := Lib.hid (fun (j : Nat) (hj : 2 * j ≤ a) => HSQ.out ((a + b - j : Nat) : Int) ((act Q (j : Int) (2 ^ v) : Nat) : Int) _ w1 HB1.out (by omega) rfl (HALT.out (j : Int) HV.out))
              obtain ⟨F, hF⟩ : ∃ F : Nat → Nat, F = fun j : Nat => act Q ((a + b - j : Nat) : Int) (act Q (j : Int) (2 ^ v)) := ⟨_, rfl⟩
              have HOK : Hid (OkAt Q a b (2 ^ v) ↔ act Q (a : Int) (act Q (b : Int) (2 ^ v)) = xsumf F (relN a b)) := Lib.hid (by rw [hF]; exact Iff.rfl)
              have HFJ : Hid (∀ j : Nat, act Q ((a + b - j : Nat) : Int) (act Q (j : Int) (2 ^ v)) = F j) := Lib.hid (fun j => by rw [hF])
              clear hF
              go_wp2_with fail
              refine HQ1.out.mono ?_
              rintro e w' ⟨rfl, rfl⟩
              go_wp2_with fail
              refine HQ2.out.mono ?_
              rintro e w' ⟨rfl, rfl⟩
              generalize act Q (a : Int) (act Q (b : Int) (2 ^ v)) = X at *
              have hXs := HSM.out _ HXL.out
              clear HQ1 HQ2
              go_wp2_with fail
              go_loop [7, 44] (fun x i => ∃ q : Nat, q ≤ k ∧ i = .int .i64 q ∧ x = .int .i64 ((xr X (xsumf F ((relN a b).take q)) : Nat) : Int)) (fun _ i => k - (intOf i).toNat)
              case atStart => exact ⟨0, by omega, rfl, by rw [show xsumf F ((relN a b).take 0) = 0 from rfl, xr_zero]⟩
              case round =>
                obtain ⟨q, hq, rfl, rfl⟩ := hrel
                have h1 : Sm (xr X (xsumf F ((relN a b).take q))) := hXs.xr (HSM.out _ (xsumf_lt F _ fun j _ => by rw [← HFJ.out j]; exact HF.out j))
                by_cases hlt4 : q < k
                · have hqR : q < (relN a b).length := by rw [← HK.out]; exact hlt4
                  obtain ⟨b1, o1, he1, hcj⟩ := HRR.out.atN hqR
                  injection he1 with he1
                  injection he1 with he1 he2 _
                  subst he1
                  subst he2
                  rw [Nat.zero_add] at hcj
                  have hj := relN_le hqR
                  have HX := Lib.hid (xsumf_take (f := F) (relN a b) hqR)
                  generalize (relN a b).getD q 0 = j at *
                  have HP3 := Lib.hid (HQ3.out j hj)
                  have HP4 := Lib.hid (HQ4.out j hj)
                  have h2 : Sm (F j) := HSM.out _ (by rw [← HFJ.out j]; exact HF.out j)
                  have e3 : ((a + b - j : Nat) : Int) = (a : Int) + b - j := by omega
                  rw [HFJ.out j, e3] at HP4
                  have HXX : Hid (xr X (xsumf F ((relN a b).take (q + 1))) = xr (xr X (xsumf F ((relN a b).take q))) (F j)) := Lib.hid (by rw [HX.out, xr_assoc])
                  have hj20 : j ≤ 20 := by omega
                  generalize xr X (xsumf F ((relN a b).take q)) = Y at *
                  generalize F j = Z at *
                  clear e3
                  go_wp2_with fail
                  refine HP3.out.mono ?_
                  rintro e w' ⟨rfl, rfl⟩
                  go_wp2_with fail
                  refine HP4.out.mono ?_
                  rintro e w' ⟨rfl, rfl⟩
                  go_wp2_with fail
                  go_round
                  case rel => exact ⟨q + 1, by omega, by go_num, by rw [HXX.out]⟩
                  case measure => simp [intOf]; omega
                · have he : (relN a b).take q = relN a b := List.take_of_length_le (by rw [← HK.out]; omega)
                  rw [he] at h1 ⊢
                  by_cases hz : xr X (xsumf F (relN a b)) = 0
                  · have HYES := Lib.hid (HOK.out.2 (xr_eq_zero.1 hz))
                    have hzb : (((xr X (xsumf F (relN a b)) : Nat) : Int) != 0) = false := by rw [hz]; rfl
                    generalize xr X (xsumf F (relN a b)) = Y at *
                    clear hz he
                    go_wp2_with fail
                    go_round
                    case rel =>
                      refine ⟨v + 1, by omega, by go_num, Lib.hid (fun i hi => ?_)⟩
                      by_cases e : i = v
                      · subst e; exact HYES.out
                      · exact HOV.out i (by omega)
                    case measure => simp [intOf]; omega
                  · have HNO := Lib.hid (show ¬ IsMod xs Q from fun hm => hz (xr_eq_zero.2 (HOK.out.1 (hm.ok a b ha1 hb2 hlt2 v (by rw [← Hn.out]; exact hlt3)))))
                    have hzb : (((xr X (xsumf F (relN a b)) : Nat) : Int) != 0) = true := by simp; omega
                    generalize xr X (xsumf F (relN a b)) = Y at *
                    clear hz he
                    go_wp2_with fail
                    go_ret
                    exact ⟨.inr ⟨_, rfl, HNO.out⟩, HB1.out.alloc HB1.out.size _⟩
            · obtain rfl : v = n := by omega
              go_wp2_with fail
              go_roundw
              case rel =>
                refine ⟨b + 1, by omega, by omega, by go_num, Lib.hid (fun b' i h1 h2 h3 hi => ?_), HB1.out⟩
                by_cases e : b' = b
                · subst e; exact HOV.out i hi
                · exact HOB.out b' i h1 (by omega) h3 hi
              case measure => simp [intOf]; omega
        · have hlt2' : ¬ (a : Int) + b ≤ 20 := by omega
          clear hbel
          go_wp2_with fail
          go_roundw
          case rel =>
            refine ⟨a + 1, by omega, by omega, by go_num, Lib.hid (fun a' b' i h1 h2 h3 h4 hi => ?_), HBL.out⟩
            by_cases e : a' = a
            · subst e; exact HOB.out b' i h3 (by omega) h4 hi
            · exact HOA.out a' b' i h1 (by omega) h3 h4 hi
          case measure => simp [intOf]; omega
    · obtain rfl : a = 21 := by omega
      have HOK : Hid (IsMod xs Q) := Lib.hid ⟨HS.out, fun a' b h1 h2 h3 i hi => HOA.out a' b i h1 (by omega) h2 h3 (by rw [Hn.out]; exact hi)⟩
      clear hbel
      go_wp2_with fail
      go_ret
      exact ⟨.inl ⟨rfl, HOK.out⟩, HBL.out⟩

set_option maxHeartbeats 1000000 in
theorem isModule_any (A A' : Option Addr) (n c m c' : Nat) (xs : List Int) (L : List Row) (w : World) (hn : n = xs.length) (hsm : n ≤ 1048576) (hR : Rd w A (iv xs)) (hm : m = L.length) (hm1 : m ≤ 1048576) (hl : ∀ i, i < L.length → (rg L i).xs.length ≤ 1048576) (hR' : RdR w A' L) :
    Calls Tryz.prog 55 #[.agg #[.slice A n c, .slice A' m c']] w fun e w' => e = .returned (.bool (modB xs (dat L))) ∧ Below w.heap.size w w' := by
  have hb0 : Below w.heap.size w (w.alloc (.cells #[.slice A n c, .slice A' m c'] 30)) := (Below.refl _ _).alloc (Nat.le_refl _) _
  have hk0 := blk_new w (.cells #[.slice A n c, .slice A' m c'] 30)
  obtain ⟨x0, x1, xf0, xf1, lx⟩ := blk2cells hk0
  have HSH := Lib.hid (isTable_any A A' n c m c' xs L _ hn hsm (hR.below hb0) hm hm1 hl (hR'.below hb0))
  have HB0 := Lib.hid hb0
  have HK0 := Lib.hid hk0
  have q24 : ∀ (w : World) (a : Option Addr) (n c n' c' : Nat), (binOp .eql 22 (.slice a n c) (.slice none n' c')).run Tryz.prog w = .ok (.bool a.isNone) w := fun w a n c n' c' => Lib.run_eql_slice_nil w _ _ a n c n' c' Tryz.underlying22
  cases hs : shpB xs (dat L)
  · rw [hs] at HSH
    have HF := Lib.hid (modB_no (fun h => shpB_not hs h.shp))
    clear hb0 hk0 hn hR hm hl hR' hs
    go_enter Tryz.func55, Tryz.ntmps55
    go_wp2_with (go_at_call 91; refine HSH.out.mono ?_; rintro e w1 ⟨rfl, hb⟩; have HB1 := Lib.hid (HB0.out.trans (hb.mono HB0.out.size)); clear hb)
    go_ret
    exact ⟨by rw [HF.out]; rfl, HB1.out⟩
  · rw [hs] at HSH
    have hshp := shpB_iff.1 hs
    have HTO := Lib.hid (fun W (hb : Below w.heap.size w W) => tableOf_any A A' n c m c' xs L W hn hm hm1 hshp (hR'.below hb))
    have HFA := Lib.hid (fun g W ht => fault_any g A n c xs (dat L) W hn hshp ht)
    clear hb0 hk0 hn hR hm hl hR' hs hshp
    go_enter Tryz.func55, Tryz.ntmps55
    go_wp2_with fail
    refine HSH.out.mono ?_
    rintro e w1 ⟨rfl, hb⟩
    have HB1 := Lib.hid (HB0.out.trans (hb.mono HB0.out.size))
    have HK1 := Lib.hid (blk_kept HK0.out hb)
    clear hb x0 x1 xf0 xf1 lx
    obtain ⟨x0, x1, xf0, xf1, lx⟩ := blk2cells HK1.out
    go_wp2_with fail
    refine (HTO.out _ HB1.out).mono ?_
    rintro e w2 ⟨g, h, rfl, ht⟩
    have HB2 := Lib.hid (HB1.out.trans (ht.bel.mono HB1.out.size))
    have HFA2 := Lib.hid (HFA.out g w2 ht.rd)
    clear ht
    go_wp2_with fail
    refine HFA2.out.mono ?_
    rintro e w3 ⟨hor, hb⟩
    have HB3 := Lib.hid (HB2.out.trans (hb.mono HB2.out.size))
    clear hb
    rcases hor with ⟨rfl, hok⟩ | ⟨gf, rfl, hno⟩
    · have HT := Lib.hid (modB_yes hok)
      clear hok
      go_wp2_with fail
      go_ret
      exact ⟨by rw [HT.out]; rfl, HB3.out⟩
    · have HT := Lib.hid (modB_no hno)
      clear hno
      go_wp2_with fail
      go_ret
      exact ⟨by rw [HT.out]; rfl, HB3.out⟩
end Go.Proofs.YtdkmdmpaflgfaaaGreatDoor

namespace Go.Proofs.YtdkmdmpaflgfaaaGreatDoor
open Go.RowKit

theorem ModIn.isM {w : World} {A A' : Option Addr} {n m : Nat} {xs : List Int} {L : List Row} (h : ModIn w A n A' m xs L) (c c' : Nat) (W : World) (hb : Below w.heap.size w W) :
    Calls Tryz.prog 55 #[.agg #[.slice A n c, .slice A' m c']] W fun e w' => e = .returned (.bool (modB xs (dat L))) ∧ Below W.heap.size W w' :=
  isModule_any A A' n c m c' xs L W h.r.hn h.hsm (h.r.deg.below hb) h.r.hm h.r.hm1 h.hl (h.r.act.below hb)
theorem ModR.table {w : World} {A A' : Option Addr} {n m : Nat} {xs : List Int} {L : List Row} (h : ModR w A n A' m xs L) (hs : Shp xs (dat L)) (c c' : Nat) (W : World) (hb : Below w.heap.size w W) :
    Calls Tryz.prog 81 #[.agg #[.slice A n c, .slice A' m c']] W fun e w' => ∃ g, e = .returned (.pointer (some ⟨g, 0, none⟩)) ∧ TblAt w' g A n c (dat L) ∧ Below W.heap.size W w' :=
  (tableOf_any A A' n c m c' xs L W h.hn h.hm h.hm1 hs (h.act.below hb)).mono fun _ _ ⟨g, _, he, ht⟩ => ⟨g, he, ht.rd, ht.bel⟩

end Go.Proofs.YtdkmdmpaflgfaaaGreatDoor
