/- the reference's l02Low, l02Without · the reference's l02Put, l02Reduce · the reference's l02Reduce · the reference: Margolis counts by an element · Margolis elements; both sides make them; the reference's codes · the reference: MargolisCounts, HasNoMargolis · slices.IndexFunc, ContainsFunc and impl's all over rows of rows · impl's isTable -/
import Derived.Test.YtdkmdmpaflgfaaaGreatDoorBxab
import Derived.Test.YtdkmdmpaflgfaaaGreatDoorBxaa
import Derived.Deep.Onto
import Derived.Test.YtdkmdmpaflgfaaaGreatDoorBxah
import Derived.Test.YtdkmdmpaflgfaaaGreatDoorBxan
import Derived.Test.YtdkmdmpaflgfaaaGreatDoorBxac
import Derived.Test.YtdkmdmpaflgfaaaGreatDoorBxaj
set_option linter.all false
namespace Go.Proofs.YtdkmdmpaflgfaaaGreatDoor
open Go.RowKit

def pw (p : Nat) : Nat := 2 ^ p
theorem low_val {a : Nat} (h0 : a ≠ 0) (h : Sm a) : bits .and .i64 (a : Int) (wrap64 (-(a : Int))) = ((pw (pv a) : Nat) : Int) := by
  unfold Sm at h
  obtain ⟨hl, hk⟩ := Lib.lowest_bit 64 a h0 (by omega)
  have e : wrap64 (-(a : Int)) = -(a : Int) := by unfold wrap64; omega
  have hp : 2 ^ pv a ≤ a := by
    have : a &&& (2 ^ 64 - a) ≤ a := Nat.and_le_left
    unfold pv; omega
  rw [e]
  show IntKind.i64.wrap ((BitVec.ofInt 64 (a : Int) &&& BitVec.ofInt 64 (-(a : Int))).toNat : Int) = _
  have e2 : (BitVec.ofInt 64 (-(a : Int))).toNat = 2 ^ 64 - a := by
    rw [BitVec.toNat_ofInt]
    omega
  rw [BitVec.toNat_and, ofInt64_nat a (by omega), e2, hl, IntKind.wrap_i64]
  unfold pw pv at *
  omega
theorem pw_sm {p : Nat} (h : p ≤ 62) : Sm (pw p) := by
  unfold Sm pw
  have : 2 ^ p ≤ 2 ^ 62 := Nat.pow_le_pow_right (by omega) h
  have e : (2 ^ 62 : Nat) = 4611686018427387904 := by decide
  omega
theorem and_pw (v p : Nat) : an v (pw p) = if tb v p then pw p else 0 := by
  apply Nat.eq_of_testBit_eq
  intro i
  unfold an pw tb
  rw [Nat.testBit_and, Nat.testBit_two_pow]
  by_cases h : p = i
  · subst h
    cases hb : v.testBit p <;> simp
  · split
    · rw [Nat.testBit_two_pow]; simp [h]
    · simp [h]
theorem and_pw_ne {v p : Nat} (hv : Sm v) (hp : p ≤ 62) : (bits .and .i64 (v : Int) ((pw p : Nat) : Int) != 0) = tb v p := by
  rw [i64_and_nat hv (pw_sm hp), and_pw]
  cases tb v p with
  | true => exact bne_iff_ne.2 (fun e => Nat.ne_of_gt (Nat.two_pow_pos p) (Int.ofNat_eq_zero.1 e))
  | false => rfl
theorem pw_lt (p q : Nat) : (((pw p : Nat) : Int) < ((pw q : Nat) : Int)) = (p < q) := by
  unfold pw
  rw [Int.ofNat_lt]
  exact propext (Nat.pow_lt_pow_iff_right (by omega))

theorem pw_ltN (p q : Nat) : (pw p < pw q) = (p < q) := by
  unfold pw; exact propext (Nat.pow_lt_pow_iff_right (by omega))

set_option maxHeartbeats 400000 in
theorem low_any (x : Nat) (h0 : x ≠ 0) (hx : Sm x) (w : World) : Calls Tryz.prog 107 #[.int .i64 x] w fun e w' => e = .returned (.int .i64 (pw (pv x))) ∧ w = w' := by
  have hl := low_val h0 hx
  go_enter Tryz.func107, Tryz.ntmps107
  go_wp2
  go_ret
  exact ⟨rfl, rfl⟩

theorem leftS_take_succ (S : List Nat) (x k : Nat) (h : k < S.length) : leftS (S.take (k + 1)) x = if tb (leftS (S.take k) x) (pv (S.getD k 0)) then xr (leftS (S.take k) x) (S.getD k 0) else leftS (S.take k) x := by
  unfold leftS; rw [fold_take_succ _ _ _ _ 0 h]

attribute [local go_sem] i64_xor_nat and_pw_ne in
set_option maxHeartbeats 1000000 in
theorem without_any (A : Option Addr) (n c : Nat) (S : List Nat) (x : Nat) (w : World) (hn : n = S.length) (hsmall : n ≤ 1000000) (hx : Sm x) (hS : ∀ r ∈ S, r ≠ 0 ∧ Sm r) (hA : Rd w A (nv S)) :
    Calls Tryz.prog 158 #[.slice A n c, .int .i64 x] w fun e w' => e = .returned (.int .i64 (leftS S x)) ∧ w = w' := by
  have Hn := Lib.hid hn; clear hn
  go_enter Tryz.func158, Tryz.ntmps158
  go_wp2_with fail
  go_loop [1, 5] (fun v i => ∃ k : Nat, k ≤ n ∧ i = .int .i64 k ∧ v = .int .i64 (leftS (S.take k) x)) (fun _ i => n - (intOf i).toNat)
  case atStart => exact ⟨0, by omega, rfl, rfl⟩
  case round =>
    obtain ⟨k, hk, rfl, rfl⟩ := hrel
    by_cases hlt : k < n
    · have hkL : k < S.length := by rw [← Hn.out]; exact hlt
      obtain ⟨b, o, rfl, hc⟩ := hA.atN hkL
      have hm : S.getD k 0 ∈ S := by simp [List.getD, hkL]
      obtain ⟨g0, g1⟩ := hS _ hm
      have Hs := Lib.hid (leftS_take_succ S x k hkL)
      have hp : Sm (leftS (S.take k) x) := leftS_sm (fun r hr => hS r (List.mem_of_mem_take hr)) hx
      generalize leftS (S.take k) x = v at *
      generalize S.getD k 0 = r at *
      have hpv := pv_le g0 g1
      have HL := Lib.hid (fun W => low_any r g0 g1 W)
      clear hA hS hm
      cases hb : tb v (pv r)
      all_goals
        go_wp2_with (go_at_call 107; refine (HL.out _).mono ?_; rintro e w' ⟨rfl, rfl⟩)
        go_round
        case rel => exact ⟨k + 1, by omega, by go_num, by rw [Hs.out, hb]; rfl⟩
        case measure => simp [intOf]; omega
    · have ek : S.take k = S := List.take_of_length_le (by rw [← Hn.out]; omega)
      rw [ek]
      go_wp2_with fail
      go_ret
      exact ⟨rfl, rfl⟩
end Go.Proofs.YtdkmdmpaflgfaaaGreatDoor

namespace Go.Proofs.YtdkmdmpaflgfaaaGreatDoor
open Go.RowKit

theorem nv_snoc (xs : List Nat) (x : Nat) : nv xs ++ [.int .i64 (x : Int)] = nv (xs ++ [x]) := by simp [nv]

/-- the loop of l02Put after k rounds -/
def putK (x : Nat) (S : List Nat) (k : Nat) : List Nat × Bool := (S.take k).foldl (putStep x) ([], false)
theorem putK_succ (x : Nat) (S : List Nat) (k : Nat) (h : k < S.length) : putK x S (k + 1) = putStep x (putK x S k) (S.getD k 0) := fold_take_succ _ _ _ _ 0 h
theorem putStep_len (x : Nat) (p : List Nat × Bool) (r : Nat) : (putStep x p r).1.length ≤ p.1.length + 2 := by
  unfold putStep; split <;> simp
theorem putK_len (x : Nat) (S : List Nat) (k : Nat) : (putK x S k).1.length ≤ 2 * k := by
  induction k with
  | zero => simp [putK]
  | succ k ih =>
    by_cases h : k < S.length
    · rw [putK_succ x S k h]; have := putStep_len x (putK x S k) (S.getD k 0); omega
    · have : putK x S (k + 1) = putK x S k := by unfold putK; rw [List.take_of_length_le (by omega), List.take_of_length_le (by omega)]
      rw [this]; omega

/-- a row of the call's own made longer by one -/
theorem below_app {H : Nat} {w wr w1 : World} {v : Value} {n : Nat} {xs : List Value} {e : TypeId} (hb : Below H w wr) (hH : H ≤ wr.heap.size) (hown : wr.ownsRow H e 1 v n xs) {o : Obj} (hg : (wr.alloc o).grownBy w1 v.ownBlock) : Below H w w1 :=
  (hb.alloc hH o).grown hg (by simp; omega) (fun k hk => (hown.lt k hk).1)

theorem own_cast {w : World} {B : Nat} {e : TypeId} {v : Value} {n m : Nat} {xs ys : List Value} (h : w.ownsRow B e 1 v n xs) (hn : n = m) (hx : xs = ys) : w.ownsRow B e 1 v m ys := by
  subst hn; subst hx; exact h

attribute [local go_sem] i64_xor_nat and_pw_ne pw_lt pw_ltN in
set_option maxRecDepth 100000 in
set_option maxHeartbeats 2000000 in
theorem put_any (B : Nat) (v : Value) (S : List Nat) (x : Nat) (w : World) (hB : B ≤ w.heap.size) (hown : w.ownsRow B 2 1 v S.length (nv S)) (hsmall : S.length ≤ 1000000) (hx : Sm x) (hS : Red S) :
    Calls Tryz.prog 108 #[v, .int .i64 x] w fun e w' => ∃ v', e = .returned v' ∧ w'.ownsRow B 2 1 v' (putS S x).length (nv (putS S x)) ∧ Below w.heap.size w w' ∧ (v' = v ∨ w'.ownsRow w.heap.size 2 1 v' (putS S x).length (nv (putS S x))) := by
  obtain ⟨A, c, rfl, _, hA, _⟩ := owns_shape hown
  have hR := owns_Rd hown
  have hw := without_any A S.length c S x w rfl hsmall hx hS.ne hR
  by_cases h0 : leftS S x = 0
  · rw [h0] at hw
    have HW := Lib.hid hw
    have e : putS S x = S := by unfold putS; rw [if_pos h0]
    have HE := Lib.hid e
    have HO := Lib.hid hown
    clear hw e h0 hR hA hown hS
    go_enter Tryz.func108, Tryz.ntmps108
    go_wp2_with (go_at_call 158; refine HW.out.mono ?_; rintro e w' ⟨rfl, rfl⟩)
    go_ret
    exact ⟨_, rfl, by rw [HE.out]; exact HO.out, Below.refl _ _, .inl rfl⟩
  · have e : putS S x = putEnd (leftS S x) (putK (leftS S x) S S.length) := by unfold putS putK; rw [if_neg h0, List.take_length]
    have hsm := leftS_sm hS.ne hx
    generalize leftS S x = y at *
    have HW := Lib.hid hw
    have HE := Lib.hid e
    have hy0 : ((y : Int) == 0) = false := by simp; exact h0
    have hpy := pv_le h0 hsm
    have HLy := Lib.hid (fun W => low_any y h0 hsm W)
    have HR := Lib.hid hR
    have HS := Lib.hid hS.ne
    clear hw e hR hA hown hS h0
    go_enter Tryz.func108, Tryz.ntmps108
    go_wp2_with (first | (go_at_call 158; refine HW.out.mono ?_; rintro e w' ⟨rfl, rfl⟩) | (go_at_call 107; refine (HLy.out _).mono ?_; rintro e w' ⟨rfl, rfl⟩))
    go_loopw [6, 7, 8] (fun o d i wr => ∃ k : Nat, k ≤ S.length ∧ i = .int .i64 k ∧ d = .bool (putK y S k).2 ∧ wr.ownsRow w.heap.size 2 1 o (putK y S k).1.length (nv (putK y S k).1) ∧ Below w.heap.size w wr) (fun _ _ i _ => S.length - (intOf i).toNat)
    case atStart => exact ⟨0, by omega, rfl, rfl, World.ownsRow_made w #[] 0 (Nat.le_refl _) (by decide) (by simp), (Below.refl _ _).alloc (Nat.le_refl _) _⟩
    case round =>
      obtain ⟨k, hk, rfl, rfl, hown, hbel⟩ := hrel
      have hsz : w.heap.size ≤ wr.heap.size := hbel.size
      by_cases hlt : k < S.length
      · have hc := (HR.out.below hbel).atN hlt
        obtain ⟨b, o, rfl, hc⟩ := hc
        have hm : S.getD k 0 ∈ S := by simp [List.getD, hlt]
        obtain ⟨g0, g1⟩ := HS.out _ hm
        have Hs := Lib.hid (putK_succ y S k hlt)
        have hl := putK_len y S k
        generalize putK y S k = p at *
        generalize S.getD k 0 = r at *
        obtain ⟨out, done⟩ := p
        have hpv := pv_le g0 g1
        have HL := Lib.hid (fun W => low_any r g0 g1 W)
        have HO := Lib.hid hown
        have HB := Lib.hid hbel
        clear hown hbel hm
        simp only at hl
        cases done
        · by_cases hp : pv y < pv r
          · cases hb : tb r (pv y)
            · go_wp2_with (first | (go_at_call 107; refine (HL.out _).mono ?_; rintro e w' ⟨rfl, rfl⟩) | (at_builtin; refine wpList_app1 _ _ _ _ _ etI (by rfl) (by rfl) w.heap.size _ out.length (nv out) (by rfl) ?_ _ (.int .i64 (y : Int)) (by rfl) ?_ (by rfl) ?_ ?_ ?_; exact HO.out.alloc _; exact new_cell _ _ _; omega; (simp; omega); (intro g1' cap1 w1 hown1 hgrow1 hat1 hlt1; have HO1 : Hid (w1.ownsRow w.heap.size 2 1 (.slice (some ⟨g1', 0, none⟩) (out.length + 1) cap1) (out.length + 1) (nv (out ++ [y]))) := (by rw [← nv_snoc]; exact hown1); have HB1 := Lib.hid (below_app HB.out hsz HO.out hgrow1); have hsz1 : w.heap.size ≤ w1.heap.size := HB1.out.size; clear hown1 hgrow1 hat1 hlt1)) | (at_builtin; refine wpList_app1 _ _ _ _ _ etI (by rfl) (by rfl) w.heap.size _ (out.length + 1) (nv (out ++ [y])) (by rfl) ?_ _ (.int .i64 (r : Int)) (by rfl) ?_ (by rfl) ?_ ?_ ?_; exact HO1.out.alloc _; exact new_cell _ _ _; omega; (simp; omega); (intro g2' cap2 w2 hown2 hgrow2 hat2 hlt2; have HO2 : Hid (w2.ownsRow w.heap.size 2 1 (.slice (some ⟨g2', 0, none⟩) (out.length + 1 + 1) cap2) (out.length + 1 + 1) (nv (out ++ [y] ++ [r]))) := (by rw [← nv_snoc]; exact hown2); have HB2 := Lib.hid (below_app HB1.out hsz1 HO1.out hgrow2); clear hown2 hgrow2 hat2 hlt2)))
              go_roundw
              case rel => exact ⟨k + 1, by omega, by go_num, by rw [Hs.out]; simp [putStep, hp], own_cast HO2.out (by rw [Hs.out]; simp [putStep, hp]) (by rw [Hs.out]; simp [putStep, stepS, hb, hp]), HB2.out⟩
              case measure => simp [intOf]; omega
            · go_wp2_with (first | (go_at_call 107; refine (HL.out _).mono ?_; rintro e w' ⟨rfl, rfl⟩) | (at_builtin; refine wpList_app1 _ _ _ _ _ etI (by rfl) (by rfl) w.heap.size _ out.length (nv out) (by rfl) ?_ _ (.int .i64 (y : Int)) (by rfl) ?_ (by rfl) ?_ ?_ ?_; exact HO.out.alloc _; exact new_cell _ _ _; omega; (simp; omega); (intro g1' cap1 w1 hown1 hgrow1 hat1 hlt1; have HO1 : Hid (w1.ownsRow w.heap.size 2 1 (.slice (some ⟨g1', 0, none⟩) (out.length + 1) cap1) (out.length + 1) (nv (out ++ [y]))) := (by rw [← nv_snoc]; exact hown1); have HB1 := Lib.hid (below_app HB.out hsz HO.out hgrow1); have hsz1 : w.heap.size ≤ w1.heap.size := HB1.out.size; clear hown1 hgrow1 hat1 hlt1)) | (at_builtin; refine wpList_app1 _ _ _ _ _ etI (by rfl) (by rfl) w.heap.size _ (out.length + 1) (nv (out ++ [y])) (by rfl) ?_ _ (.int .i64 (xr r y : Int)) (by rfl) ?_ (by rfl) ?_ ?_ ?_; exact HO1.out.alloc _; exact new_cell _ _ _; omega; (simp; omega); (intro g2' cap2 w2 hown2 hgrow2 hat2 hlt2; have HO2 : Hid (w2.ownsRow w.heap.size 2 1 (.slice (some ⟨g2', 0, none⟩) (out.length + 1 + 1) cap2) (out.length + 1 + 1) (nv (out ++ [y] ++ [xr r y]))) := (by rw [← nv_snoc]; exact hown2); have HB2 := Lib.hid (below_app HB1.out hsz1 HO1.out hgrow2); clear hown2 hgrow2 hat2 hlt2)))
              go_roundw
              case rel => exact ⟨k + 1, by omega, by go_num, by rw [Hs.out]; simp [putStep, hp], own_cast HO2.out (by rw [Hs.out]; simp [putStep, hp]) (by rw [Hs.out]; simp [putStep, stepS, hb, hp]), HB2.out⟩
              case measure => simp [intOf]; omega
          · have hp' : decide (pv y < pv r) = false := by simpa using hp
            cases hb : tb r (pv y)
            · go_wp2_with (first | (go_at_call 107; refine (HL.out _).mono ?_; rintro e w' ⟨rfl, rfl⟩) | (at_builtin; refine wpList_app1 _ _ _ _ _ etI (by rfl) (by rfl) w.heap.size _ out.length (nv out) (by rfl) ?_ _ (.int .i64 (r : Int)) (by rfl) ?_ (by rfl) ?_ ?_ ?_; exact HO.out.alloc _; exact new_cell _ _ _; omega; (simp; omega); (intro g1' cap1 w1 hown1 hgrow1 hat1 hlt1; have HO1 : Hid (w1.ownsRow w.heap.size 2 1 (.slice (some ⟨g1', 0, none⟩) (out.length + 1) cap1) (out.length + 1) (nv (out ++ [r]))) := (by rw [← nv_snoc]; exact hown1); have HB1 := Lib.hid (below_app HB.out hsz HO.out hgrow1); have hsz1 : w.heap.size ≤ w1.heap.size := HB1.out.size; clear hown1 hgrow1 hat1 hlt1)))
              go_roundw
              case rel => exact ⟨k + 1, by omega, by go_num, by rw [Hs.out]; simp [putStep, hp], own_cast HO1.out (by rw [Hs.out]; simp [putStep, hp]) (by rw [Hs.out]; simp [putStep, stepS, hb, hp]), HB1.out⟩
              case measure => simp [intOf]; omega
            · go_wp2_with (first | (go_at_call 107; refine (HL.out _).mono ?_; rintro e w' ⟨rfl, rfl⟩) | (at_builtin; refine wpList_app1 _ _ _ _ _ etI (by rfl) (by rfl) w.heap.size _ out.length (nv out) (by rfl) ?_ _ (.int .i64 (xr r y : Int)) (by rfl) ?_ (by rfl) ?_ ?_ ?_; exact HO.out.alloc _; exact new_cell _ _ _; omega; (simp; omega); (intro g1' cap1 w1 hown1 hgrow1 hat1 hlt1; have HO1 : Hid (w1.ownsRow w.heap.size 2 1 (.slice (some ⟨g1', 0, none⟩) (out.length + 1) cap1) (out.length + 1) (nv (out ++ [xr r y]))) := (by rw [← nv_snoc]; exact hown1); have HB1 := Lib.hid (below_app HB.out hsz HO.out hgrow1); have hsz1 : w.heap.size ≤ w1.heap.size := HB1.out.size; clear hown1 hgrow1 hat1 hlt1)))
              go_roundw
              case rel => exact ⟨k + 1, by omega, by go_num, by rw [Hs.out]; simp [putStep, hp], own_cast HO1.out (by rw [Hs.out]; simp [putStep, hp]) (by rw [Hs.out]; simp [putStep, stepS, hb, hp]), HB1.out⟩
              case measure => simp [intOf]; omega
        · cases hb : tb r (pv y)
          · go_wp2_with (first | (go_at_call 107; refine (HL.out _).mono ?_; rintro e w' ⟨rfl, rfl⟩) | (at_builtin; refine wpList_app1 _ _ _ _ _ etI (by rfl) (by rfl) w.heap.size _ out.length (nv out) (by rfl) ?_ _ (.int .i64 (r : Int)) (by rfl) ?_ (by rfl) ?_ ?_ ?_; exact HO.out.alloc _; exact new_cell _ _ _; omega; (simp; omega); (intro g1' cap1 w1 hown1 hgrow1 hat1 hlt1; have HO1 : Hid (w1.ownsRow w.heap.size 2 1 (.slice (some ⟨g1', 0, none⟩) (out.length + 1) cap1) (out.length + 1) (nv (out ++ [r]))) := (by rw [← nv_snoc]; exact hown1); have HB1 := Lib.hid (below_app HB.out hsz HO.out hgrow1); have hsz1 : w.heap.size ≤ w1.heap.size := HB1.out.size; clear hown1 hgrow1 hat1 hlt1)))
            go_roundw
            case rel => exact ⟨k + 1, by omega, by go_num, by rw [Hs.out]; simp [putStep], own_cast HO1.out (by rw [Hs.out]; simp [putStep]) (by rw [Hs.out]; simp [putStep, stepS, hb]), HB1.out⟩
            case measure => simp [intOf]; omega
          · go_wp2_with (first | (go_at_call 107; refine (HL.out _).mono ?_; rintro e w' ⟨rfl, rfl⟩) | (at_builtin; refine wpList_app1 _ _ _ _ _ etI (by rfl) (by rfl) w.heap.size _ out.length (nv out) (by rfl) ?_ _ (.int .i64 (xr r y : Int)) (by rfl) ?_ (by rfl) ?_ ?_ ?_; exact HO.out.alloc _; exact new_cell _ _ _; omega; (simp; omega); (intro g1' cap1 w1 hown1 hgrow1 hat1 hlt1; have HO1 : Hid (w1.ownsRow w.heap.size 2 1 (.slice (some ⟨g1', 0, none⟩) (out.length + 1) cap1) (out.length + 1) (nv (out ++ [xr r y]))) := (by rw [← nv_snoc]; exact hown1); have HB1 := Lib.hid (below_app HB.out hsz HO.out hgrow1); have hsz1 : w.heap.size ≤ w1.heap.size := HB1.out.size; clear hown1 hgrow1 hat1 hlt1)))
            go_roundw
            case rel => exact ⟨k + 1, by omega, by go_num, by rw [Hs.out]; simp [putStep], own_cast HO1.out (by rw [Hs.out]; simp [putStep]) (by rw [Hs.out]; simp [putStep, stepS, hb]), HB1.out⟩
            case measure => simp [intOf]; omega
      · have ek : k = S.length := by omega
        subst ek
        have hl := putK_len y S S.length
        generalize putK y S S.length = p at *
        obtain ⟨out, done⟩ := p
        have HO := Lib.hid hown
        have HB := Lib.hid hbel
        clear hown hbel
        simp only at hl
        cases done
        · go_wp2_with (at_builtin; refine wpList_app1 _ _ _ _ _ etI (by rfl) (by rfl) w.heap.size _ out.length (nv out) (by rfl) ?_ _ (.int .i64 (y : Int)) (by rfl) ?_ (by rfl) ?_ ?_ ?_; exact HO.out.alloc _; exact new_cell _ _ _; omega; (simp; omega); (intro g1' cap1 w1 hown1 hgrow1 hat1 hlt1; have HO1 : Hid (w1.ownsRow w.heap.size 2 1 (.slice (some ⟨g1', 0, none⟩) (out.length + 1) cap1) (out.length + 1) (nv (out ++ [y]))) := (by rw [← nv_snoc]; exact hown1); have HB1 := Lib.hid (below_app HB.out hsz HO.out hgrow1); have hsz1 : w.heap.size ≤ w1.heap.size := HB1.out.size; clear hown1 hgrow1 hat1 hlt1))
          go_ret
          refine ⟨_, rfl, own_cast ((HO1.out).mono hB) (by rw [HE.out]; simp [putEnd]) (by rw [HE.out]; simp [putEnd]), HB1.out, .inr (own_cast HO1.out (by rw [HE.out]; simp [putEnd]) (by rw [HE.out]; simp [putEnd]))⟩
        · go_wp2_with fail
          go_ret
          refine ⟨_, rfl, own_cast ((HO.out).mono hB) (by rw [HE.out]; simp [putEnd]) (by rw [HE.out]; simp [putEnd]), HB.out, .inr (own_cast HO.out (by rw [HE.out]; simp [putEnd]) (by rw [HE.out]; simp [putEnd]))⟩
end Go.Proofs.YtdkmdmpaflgfaaaGreatDoor

namespace Go.Proofs.YtdkmdmpaflgfaaaGreatDoor
open Go.RowKit

set_option maxHeartbeats 1000000 in
theorem reduce_any (A : Option Addr) (n c : Nat) (rows : List Nat) (w : World) (hn : n = rows.length) (hsmall : n ≤ 1000000) (hS : ∀ r ∈ rows, Sm r) (hR : Rd w A (nv rows)) :
    Calls Tryz.prog 90 #[.slice A n c] w fun e w' => ∃ v', e = .returned v' ∧ w'.ownsRow w.heap.size 2 1 v' (reduceS rows).length (nv (reduceS rows)) ∧ Below w.heap.size w w' := by
  have Hn := Lib.hid hn
  have HR := Lib.hid hR
  have HS := Lib.hid hS
  clear hn hR hS
  go_enter Tryz.func90, Tryz.ntmps90
  go_wp2_with fail
  go_loopw [3, 4] (fun o i wr => ∃ k : Nat, k ≤ n ∧ i = .int .i64 k ∧ wr.ownsRow w.heap.size 2 1 o (reduceS (rows.take k)).length (nv (reduceS (rows.take k))) ∧ Below w.heap.size w wr) (fun _ i _ => n - (intOf i).toNat)
  case atStart => exact ⟨0, by omega, rfl, World.ownsRow_made w #[] 0 (Nat.le_refl _) (by decide) (by simp), (Below.refl _ _).alloc (Nat.le_refl _) _⟩
  case round =>
    obtain ⟨k, hk, rfl, hown, hbel⟩ := hrel
    have hsz : w.heap.size ≤ wr.heap.size := hbel.size
    by_cases hlt : k < n
    · have hkL : k < rows.length := by rw [← Hn.out]; exact hlt
      obtain ⟨b, o, rfl, hc⟩ := (HR.out.below hbel).atN hkL
      have hm : rows.getD k 0 ∈ rows := by simp [List.getD, hkL]
      have g1 := HS.out _ hm
      have Hs := Lib.hid (reduceS_take_succ rows k hkL)
      have hl := reduceS_length_le (rows.take k)
      rw [List.length_take] at hl
      have hred := red_reduce (rows := rows.take k) (fun r hr => HS.out r (List.mem_of_mem_take hr))
      generalize reduceS (rows.take k) = T at *
      generalize rows.getD k 0 = r at *
      have hp := put_any w.heap.size _ T r wr hsz hown (by omega) g1 hred
      have HP := Lib.hid hp
      have HB := Lib.hid hbel
      clear hp hown hbel hred hm
      go_wp2_with (go_at_call 108; refine HP.out.mono ?_; rintro e w1 ⟨v1, rfl, hown1, hb1, _⟩)
      go_roundw
      case rel => exact ⟨k + 1, by omega, by go_num, by rw [Hs.out]; exact hown1, HB.out.trans (hb1.mono hsz)⟩
      case measure => simp [intOf]; omega
    · have ek : rows.take k = rows := List.take_of_length_le (by rw [← Hn.out]; omega)
      rw [ek] at hown
      have HO := Lib.hid hown
      have HB := Lib.hid hbel
      clear hown hbel
      go_wp2_with fail
      go_ret
      exact ⟨_, rfl, HO.out, HB.out⟩

/-- the numbers of a list of masks -/
def toN (xs : List Int) : List Nat := xs.map Int.toNat
end Go.Proofs.YtdkmdmpaflgfaaaGreatDoor

namespace Go.Proofs.YtdkmdmpaflgfaaaGreatDoor
open Go.RowKit

/-- the rows at the basis elements of a degree -/
def fromT (xs : List Int) (F : List Nat) (d : Int) (k : Nat) : List Nat := (idx xs d k).map fun i => F.getD i 0
theorem fromT_succ (xs : List Int) (F : List Nat) (d : Int) (k : Nat) : fromT xs F d (k + 1) = fromT xs F d k ++ if xs.getD k 0 = d then [F.getD k 0] else [] := by
  unfold fromT; rw [idx_succ, List.map_append]
  by_cases h : xs.getD k 0 = d
  · rw [if_pos h, if_pos h]; rfl
  · rw [if_neg h, if_neg h]; rfl
theorem fromT_len (xs : List Int) (F : List Nat) (d : Int) (k : Nat) : (fromT xs F d k).length ≤ k := by unfold fromT; rw [List.length_map]; exact idx_len xs d k
theorem fromT_sm {xs : List Int} {F : List Nat} (hF : ∀ r ∈ F, Sm r) (d : Int) (k : Nat) : ∀ r ∈ fromT xs F d k, Sm r := fun r hr => by
  obtain ⟨i, _, rfl⟩ := List.mem_map.1 hr
  by_cases hi : i < F.length
  · exact hF _ (getD_memP hi 0)
  · rw [show F.getD i 0 = 0 by simp [List.getD, hi]]; exact Sm.zero
theorem rkN_leV : ∀ (n : Nat) (S : List Nat), rkN n S ≤ S.length
  | 0, _ => Nat.zero_le _
  | _ + 1, [] => Nat.le_refl _
  | n + 1, r :: S => by
    unfold rkN
    split
    · exact Nat.le_trans (rkN_leV n S) (by simp)
    · have := rkN_leV n (S.map (clr (lo r) r))
      rw [List.length_map] at this
      rw [List.length_cons]; omega
theorem reduceS_len_le {S : List Nat} (hS : ∀ r ∈ S, Sm r) : (reduceS S).length ≤ S.length := by rw [← rk_reduce hS]; exact rkN_leV _ S
/-- the count of a degree -/
def cntM (xs : List Int) (F : List Nat) (step d : Int) : Int := ((fromT xs F d xs.length).length : Int) - (reduceS (fromT xs F d xs.length)).length - (reduceS (fromT xs F (d - step) xs.length)).length
def margR (xs : List Int) (F : List Nat) (step : Int) (k : Nat) : List Int := (List.range k).map fun (d : Nat) => cntM xs F step (d : Int)
theorem margR_succ (xs : List Int) (F : List Nat) (step : Int) (k : Nat) : margR xs F step (k + 1) = margR xs F step k ++ [cntM xs F step (k : Int)] := by
  unfold margR; rw [List.range_succ, List.map_append]; rfl

/-- two rows of the call's own, in two blocks -/
structure Two (w : World) (B : Nat) (v u : Value) (S T : List Nat) : Prop where
  a : w.ownsRow B 2 1 v S.length (nv S)
  b : w.ownsRow B 2 1 u T.length (nv T)
  ne : v.ownBlock ≠ u.ownBlock
theorem Two.below {w w' : World} {B : Nat} {v u : Value} {S T : List Nat} (h : Two w B v u S T) (hb : Below w.heap.size w w') : Two w' B v u S T := ⟨owns_later h.a hb, owns_later h.b hb, h.ne⟩
theorem Two.app1 {w w' : World} {B g cap n : Nat} {v u : Value} {S T : List Nat} {x : Nat} {o : Obj} (h : Two w B v u S T) (hn : n = S.length) (ho : w'.ownsRow B 2 1 (.slice (some ⟨g, 0, none⟩) (n + 1) cap) (n + 1) (nv S ++ [.int .i64 (x : Int)])) (hg : (w.alloc o).grownBy w' v.ownBlock) (hat : v.ownBlock = some g ∨ g = (w.alloc o).heap.size) :
    Two w' B (.slice (some ⟨g, 0, none⟩) (S ++ [x]).length cap) u (S ++ [x]) T := by
  subst hn
  refine ⟨by rw [nv_snocV] at ho; rw [List.length_append]; exact ho, owns_keeps h.b (((Keeps.refl w []).alloc o).trans (Keeps.of_grown hg) (T := [v.ownBlock]) (by simp)) (.inr (by simpa using h.ne.symm)), ?_⟩
  show (some g : Option Nat) ≠ u.ownBlock
  rcases hat with e | e
  · rw [← e]; exact h.ne
  · intro e2; have := (h.b.lt g e2.symm).2; simp at e; omega
theorem Two.symm {w : World} {B : Nat} {v u : Value} {S T : List Nat} (h : Two w B v u S T) : Two w B u v T S := ⟨h.b, h.a, h.ne.symm⟩

set_option maxRecDepth 100000 in
set_option maxHeartbeats 8000000 in
theorem l13Counts_any (d : Int) (hd : d ≤ 40) (A A' W : Option Addr) (n c m c' k ck : Nat) (xs : List Int) (L T : List Row) (w : World) (hn : n = xs.length) (hm : m = L.length) (hs : Shp xs (dat L)) (hm1 : m ≤ 1048576) (hk : k = T.length) (hk0 : 0 < k) (hk1 : k ≤ 1000000) (hT : As (dat T)) (hE : ∀ t ∈ dat T, Ex d t)
    (hA : Rd w A (iv xs)) (hR : RdR w A' L) (hW : RdR w W T) :
    Calls Tryz.prog 53 #[.agg #[.slice A n c, .slice A' m c'], .slice W k ck] w fun e w' => ∃ v', e = .returned v' ∧ w'.ownsRow w.heap.size 2 1 v' 21 (iv (margR xs (mactF (dat L) d (dat T) n) d 21)) ∧ Below w.heap.size w w' := by
  have hn16 : n ≤ 16 := by rw [hn]; exact hs.len
  have h0 := first_ex hk hk0 hE
  have HRS := Lib.hid (fun W' (hb : Below w.heap.size w W') => l13Rows_any d hd A A' W n c m c' k ck xs L T W' hn hm hs hm1 hk hk0 hk1 hT hE (hR.below hb) (hW.below hb))
  have hT0 : 0 < T.length := by rw [← hk]; exact hk0
  obtain ⟨b0, o0, rfl, hc0⟩ := hW.at_ hT0
  have hr0 := hW.inn 0 hT0
  have hex0 := hE (rg T 0).xs (List.mem_map.2 ⟨_, rg_mem hT0, rfl⟩)
  have hl5 := hex0.len5 hd
  have HBD : Hid (BdD (rg T 0).xs) := Lib.hid ⟨by omega, fun j => by
    by_cases hj : j < (rg T 0).xs.length
    · have hm : (rg T 0).xs.getD j 0 ∈ (rg T 0).xs := getD_memP hj 0
      have h1 := hex0.nn _ hm
      have h2 := hex0.le _ hm
      omega
    · rw [show (rg T 0).xs.getD j 0 = 0 by simp [List.getD, hj]]; omega⟩
  have HDG : Hid (degP (rg T 0).xs = d) := Lib.hid (by rw [← degW_P]; exact hex0.deg)
  simp only [Nat.add_zero] at hc0
  generalize rg T 0 = r0' at *
  obtain ⟨r0A, r0c, r0x⟩ := r0'
  simp only at hc0 hr0 HBD HDG
  have HD0 := Lib.hid (fun W' (hb : Below w.heap.size w W') => l01Degree_any r0A r0x.length r0c r0x W' rfl HBD.out (hr0.below hb))
  have HFS : Hid (∀ r ∈ mactF (dat L) d (dat T) n, Sm r) := Lib.hid (fun r hr => by
    obtain ⟨i, hi, rfl⟩ := List.mem_map.1 hr
    exact hs.sm (mact_lt hs d _ (pow_lt_len (by rw [← hn]; exact List.mem_range.1 hi))))
  have HFL := Lib.hid (mactF_len (dat L) d (dat T) n)
  generalize mactF (dat L) d (dat T) n = F at *
  have Hn := Lib.hid hn
  have HA := Lib.hid hA
  have HDGR := Lib.hid hs.deg
  have hwb : (w.alloc (.cells #[.slice A n c, .slice A' m c'] 30)).heap.size = w.heap.size + 1 := by simp
  have HB0 := Lib.hid ((Below.refl w.heap.size w).alloc (Nat.le_refl _) (.cells #[.slice A n c, .slice A' m c'] 30))
  obtain ⟨wb, HWBE⟩ : ∃ wb, Hid (wb = w.alloc (.cells #[.slice A n c, .slice A' m c'] 30)) := ⟨_, Lib.hid rfl⟩
  have hblk : wb.heap[w.heap.size]? = some (.cells #[.slice A n c, .slice A' m c'] 30 (0, 0)) := by rw [HWBE.out]; exact blk_new w _
  rw [← HWBE.out] at HB0 hwb
  have HWB := Lib.hid hwb
  have KB := Lib.hid (fun w' (hb : Below (w.heap.size + 1) wb w') => blk2cells (blk_below hblk hb (by omega)))
  have HMN := Lib.hid (fun w' (hb : Below (w.heap.size + 1) wb w') => HB0.out.trans (hb.mono (Nat.le_succ _)))
  have KS := Lib.hid (fun w' (hb : Below (w.heap.size + 1) wb w') => show w'.cell? ⟨w.heap.size, 0, none⟩ = some (.slice A n c) ∧ w'.cell? ⟨w.heap.size, 1, none⟩ = some (.slice A' m c') ∧ w'.cell? ⟨b0, o0, none⟩ = some (.slice r0A r0x.length r0c) from ⟨(KB.out w' hb).1, (KB.out w' hb).2.1, cell_keep hc0 (HMN.out w' hb)⟩)
  clear hn hm hs hk hT hE hA hR hW hwb hblk hc0 hr0 hex0 hl5 hT0
  go_enter Tryz.func53, Tryz.ntmps53
  go_wp2_with fail
  rw [← HWBE.out]
  have HB_0 := Lib.hid (Below.drew (Below.refl wb.heap.size wb))
  have HBL := Lib.hid (fun w' (hb : Below wb.heap.size wb w') => show Below (w.heap.size + 1) wb w' from by have := HWB.out; rw [← this]; exact hb)
  go_cut [5, 6, 7] (fun o5 o6 o7 wx => ∃ A5 c5 A6 c6, o5 = .slice A5 n c5 ∧ o6 = .slice A6 0 c6 ∧ o7 = .int .i64 d ∧ wx.ownsRow (w.heap.size + 1) 2 1 (.slice A5 n c5) n (nv F) ∧ wx.ownsRow (w.heap.size + 1) 2 1 (.slice A6 0 c6) 0 (iv []) ∧ ((Value.slice A5 n c5).ownBlock = none ∨ (Value.slice A5 n c5).ownBlock ≠ (Value.slice A6 0 c6).ownBlock) ∧ Below (w.heap.size + 1) wb wx)
  case first =>
    refine wp_region_held_drew (S := (fun w' => w'.cell? ⟨w.heap.size, 0, none⟩ = some (.slice A n c) ∧ w'.cell? ⟨w.heap.size, 1, none⟩ = some (.slice A' m c') ∧ w'.cell? ⟨b0, o0, none⟩ = some (.slice r0A r0x.length r0c))) (by kernel_rfl) (by (first | exact KS.out _ (HBL.out _ HB_0.out) | exact KS.out _ (HBL.out _ HB_1.out) | exact KS.out _ (HBL.out _ (HB_0.out.alloc (Nat.le_refl _) _)) | exact KS.out _ (HBL.out _ (HB_1.out.alloc HB_1.out.size _)))) (fun hHeld => ?_)
    refine wpAnyH_take (i := 0) (oi := ?oim1_1) (v := ?vm1_1) ?hm1_1 (by kernel_rfl) (by kernel_rfl) (by kernel_rfl) ?qm1_1 (Or.inl ⟨?wm1_1, ?ym1_1⟩) (by assumption) ?rm1_1
    case hm1_1 => (simp only [List.getElem?_toArray, List.getElem?_cons_succ, List.getElem?_cons_zero]; rfl)
    case qm1_1 => exact fun _ _ _ h => h
    case wm1_1 => rfl
    case ym1_1 => (intro w hSw; (try dsimp only at hSw); go_simp <;> with_reducible rfl)
    try simp only [Act.put, List.setIfInBounds_toArray, List.set_cons_zero, List.set_cons_succ]
    refine wpAnyH_take (i := 1) (oi := ?oim1_2) (v := ?vm1_2) ?hm1_2 (by kernel_rfl) (by kernel_rfl) (by kernel_rfl) ?qm1_2 (Or.inl ⟨?wm1_2, ?ym1_2⟩) (by assumption) ?rm1_2
    case hm1_2 => (simp only [List.getElem?_toArray, List.getElem?_cons_succ, List.getElem?_cons_zero]; rfl)
    case qm1_2 => exact fun _ _ _ h => h
    case wm1_2 => rfl
    case ym1_2 => (intro w hSw; (try dsimp only at hSw); go_simp <;> with_reducible rfl)
    try simp only [Act.put, List.setIfInBounds_toArray, List.set_cons_zero, List.set_cons_succ]
    refine wpAnyH_take (i := 4) (oi := ?oim1_3) (v := ?vm1_3) ?hm1_3 (by kernel_rfl) (by kernel_rfl) (by kernel_rfl) ?qm1_3 (Or.inl ⟨?wm1_3, ?ym1_3⟩) (by assumption) ?rm1_3
    case hm1_3 => (simp only [List.getElem?_toArray, List.getElem?_cons_succ, List.getElem?_cons_zero]; rfl)
    case qm1_3 => exact fun _ _ _ h => h
    case wm1_3 => rfl
    case ym1_3 => (intro w hSw; (try dsimp only at hSw); go_simp <;> with_reducible rfl)
    try simp only [Act.put, List.setIfInBounds_toArray, List.set_cons_zero, List.set_cons_succ]
    refine wpAnyH_take (i := 5) (oi := ?oim1_4) (v := ?vm1_4) ?hm1_4 (by kernel_rfl) (by kernel_rfl) (by kernel_rfl) ?qm1_4 (Or.inl ⟨?wm1_4, ?ym1_4⟩) (by assumption) ?rm1_4
    case hm1_4 => (simp only [List.getElem?_toArray, List.getElem?_cons_succ, List.getElem?_cons_zero]; rfl)
    case qm1_4 => exact fun _ _ _ h => h
    case wm1_4 => rfl
    case ym1_4 => (intro w hSw; (try dsimp only at hSw); go_simp <;> with_reducible rfl)
    try simp only [Act.put, List.setIfInBounds_toArray, List.set_cons_zero, List.set_cons_succ]
    refine wpAnyH_take (i := 6) (oi := ?oim1_5) (v := ?vm1_5) ?hm1_5 (by kernel_rfl) (by kernel_rfl) (by kernel_rfl) ?qm1_5 (Or.inl ⟨?wm1_5, ?ym1_5⟩) (by assumption) ?rm1_5
    case hm1_5 => (simp only [List.getElem?_toArray, List.getElem?_cons_succ, List.getElem?_cons_zero]; rfl)
    case qm1_5 => exact fun _ _ _ h => h
    case wm1_5 => rfl
    case ym1_5 => (intro w hSw; (try dsimp only at hSw); go_simp <;> with_reducible rfl)
    try simp only [Act.put, List.setIfInBounds_toArray, List.set_cons_zero, List.set_cons_succ]
    refine wpAnyH_ready (rs := [2, 3]) (by kernel_rfl) (by simp) ?_
    refine AllReadyH.cons (o := ?oim1_6) ?hm1_6 (fun K hK => ?km1_6) ?mm1_6
    case hm1_6 => (simp only [List.getElem?_toArray, List.getElem?_cons_succ, List.getElem?_cons_zero]; rfl)
    case km1_6 =>
      go_simp
      (go_at_call 88); (first | refine (HRS.out _ (HMN.out _ (HBL.out _ HB_0.out))).mono ?_ | refine (HRS.out _ (HMN.out _ (HBL.out _ (HB_0.out.alloc (Nat.le_refl _) _)))).mono ?_); rintro e w5 ⟨v5, rfl, ho5, hb5⟩; (obtain ⟨A5, c5, rfl, hc5, _⟩ := owns_shape ho5); have HB5 := Lib.hid hb5; have HO5 := Lib.hid ho5; (first | have HB_1 := Lib.hid (HB_0.out.trans (hb5.mono HB_0.out.size)) | have HB_1 := Lib.hid ((HB_0.out.alloc (Nat.le_refl _) _).trans (hb5.mono (HB_0.out.alloc (Nat.le_refl _) _).size))); clear hb5 ho5
      refine hK.out _ _ (by (first | exact KS.out _ (HBL.out _ HB_0.out) | exact KS.out _ (HBL.out _ HB_1.out) | exact KS.out _ (HBL.out _ (HB_0.out.alloc (Nat.le_refl _) _)) | exact KS.out _ (HBL.out _ (HB_1.out.alloc HB_1.out.size _)))) (fun hHeld => ?_)
      clear hK K
      try simp only [Act.put, List.setIfInBounds_toArray, List.set_cons_zero, List.set_cons_succ]
      refine wpAnyH_ready (rs := [3, 7]) (by kernel_rfl) (by simp) ?_
      refine AllReadyH.cons (o := ?oim1_7) ?hm1_7 (fun K hK => ?km1_7) ?mm1_7
      case hm1_7 => (simp only [List.getElem?_toArray, List.getElem?_cons_succ, List.getElem?_cons_zero]; rfl)
      case km1_7 =>
        go_simp
        refine hK.out _ _ (by (first | exact KS.out _ (HBL.out _ HB_0.out) | exact KS.out _ (HBL.out _ HB_1.out) | exact KS.out _ (HBL.out _ (HB_0.out.alloc (Nat.le_refl _) _)) | exact KS.out _ (HBL.out _ (HB_1.out.alloc HB_1.out.size _)))) (fun hHeld => ?_)
        clear hK K
        try simp only [Act.put, List.setIfInBounds_toArray, List.set_cons_zero, List.set_cons_succ]
        refine wpAnyH_ready (rs := [7]) (by kernel_rfl) (by simp) ?_
        refine AllReadyH.cons (o := ?oim1_8) ?hm1_8 (fun K hK => ?km1_8) ?mm1_8
        case hm1_8 => (simp only [List.getElem?_toArray, List.getElem?_cons_succ, List.getElem?_cons_zero]; rfl)
        case km1_8 =>
          go_simp
          (go_at_call 89); (first | refine (HD0.out _ (HMN.out _ (HBL.out _ HB_1.out))).mono ?_ | refine (HD0.out _ (HMN.out _ (HBL.out _ (HB_1.out.alloc HB_1.out.size _)))).mono ?_); rintro e w6 ⟨rfl, rfl⟩
          refine hK.out _ _ (by (first | exact KS.out _ (HBL.out _ HB_0.out) | exact KS.out _ (HBL.out _ HB_1.out) | exact KS.out _ (HBL.out _ (HB_0.out.alloc (Nat.le_refl _) _)) | exact KS.out _ (HBL.out _ (HB_1.out.alloc HB_1.out.size _)))) (fun hHeld => ?_)
          clear hK K
          try simp only [Act.put, List.setIfInBounds_toArray, List.set_cons_zero, List.set_cons_succ]
          refine wpAnyH_take (i := 8) (oi := ?oim1_9) (v := ?vm1_9) ?hm1_9 (by kernel_rfl) (by kernel_rfl) (by kernel_rfl) ?qm1_9 (Or.inl ⟨?wm1_9, ?ym1_9⟩) (by assumption) ?rm1_9
          case hm1_9 => (simp only [List.getElem?_toArray, List.getElem?_cons_succ, List.getElem?_cons_zero]; rfl)
          case qm1_9 => exact fun _ _ _ h => h
          case wm1_9 => rfl
          case ym1_9 => (intro w hSw; (try dsimp only at hSw); go_simp <;> with_reducible rfl)
          try simp only [Act.put, List.setIfInBounds_toArray, List.set_cons_zero, List.set_cons_succ]
          refine wpAnyH_take (i := 9) (oi := ?oim1_10) (v := ?vm1_10) ?hm1_10 (by kernel_rfl) (by kernel_rfl) (by kernel_rfl) ?qm1_10 (Or.inl ⟨?wm1_10, ?ym1_10⟩) (by assumption) ?rm1_10
          case hm1_10 => (simp only [List.getElem?_toArray, List.getElem?_cons_succ, List.getElem?_cons_zero]; rfl)
          case qm1_10 => exact fun _ _ _ h => h
          case wm1_10 => rfl
          case ym1_10 => (intro w hSw; (try dsimp only at hSw); go_simp <;> with_reducible rfl)
          try simp only [Act.put, List.setIfInBounds_toArray, List.set_cons_zero, List.set_cons_succ]
          refine wpAnyH_take (i := 10) (oi := ?oim1_11) (v := ?vm1_11) ?hm1_11 (by kernel_rfl) (by kernel_rfl) (by kernel_rfl) ?qm1_11 (Or.inl ⟨?wm1_11, ?ym1_11⟩) (by assumption) ?rm1_11
          case hm1_11 => (simp only [List.getElem?_toArray, List.getElem?_cons_succ, List.getElem?_cons_zero]; rfl)
          case qm1_11 => exact fun _ _ _ h => h
          case wm1_11 => rfl
          case ym1_11 => (intro w hSw; (try dsimp only at hSw); go_simp <;> with_reducible rfl)
          try simp only [Act.put, List.setIfInBounds_toArray, List.set_cons_zero, List.set_cons_succ]
          refine wpAnyH_done (by kernel_rfl) ?_ _
          go_wp2_with fail
          go_meet
          have hsb : w.heap.size + 1 ≤ wb.heap.size := by have := HWB.out; omega
          have hsd : w.heap.size + 1 ≤ wb.drew.heap.size := hsb
          first
            | exact ⟨A5, _, _, _, rfl, rfl, by rw [HDG.out], owns_later (HO5.out.mono hsd) ((Below.refl _ _).alloc (Nat.le_refl _) _), World.ownsRow_made (e := 2) (size := 1) _ #[] 0 (Nat.le_trans hsb HB_1.out.size) (by decide) (by simp), by (by_cases hnb : (Value.slice A5 n c5).ownBlock = none); exact .inl hnb; exact .inr (fun e => by have := (HO5.out.lt _ e).2; simp at this), HBL.out _ (HB_1.out.alloc HB_1.out.size _)⟩
            | exact ⟨A5, _, _, _, rfl, rfl, by rw [HDG.out], HO5.out.mono (by simp; omega), owns_later (World.ownsRow_made (e := 2) (size := 1) wb.drew #[] 0 hsd (by decide) (by simp)) HB5.out, by (by_cases hnb : (Value.slice A5 n c5).ownBlock = none); exact .inl hnb; exact .inr (fun e => by have h7 := (HO5.out.lt wb.heap.size e).1; have h8 : (wb.drew.alloc (.cells #[] 2)).heap.size = wb.heap.size + 1 := (by simp); omega), HBL.out _ HB_1.out⟩
        exact AllReadyH.nil
      refine AllReadyH.cons (o := ?oim1_12) ?hm1_12 (fun K hK => ?km1_12) ?mm1_12
      case hm1_12 => (simp only [List.getElem?_toArray, List.getElem?_cons_succ, List.getElem?_cons_zero]; rfl)
      case km1_12 =>
        go_simp
        (go_at_call 89); (first | refine (HD0.out _ (HMN.out _ (HBL.out _ HB_1.out))).mono ?_ | refine (HD0.out _ (HMN.out _ (HBL.out _ (HB_1.out.alloc HB_1.out.size _)))).mono ?_); rintro e w6 ⟨rfl, rfl⟩
        refine hK.out _ _ (by (first | exact KS.out _ (HBL.out _ HB_0.out) | exact KS.out _ (HBL.out _ HB_1.out) | exact KS.out _ (HBL.out _ (HB_0.out.alloc (Nat.le_refl _) _)) | exact KS.out _ (HBL.out _ (HB_1.out.alloc HB_1.out.size _)))) (fun hHeld => ?_)
        clear hK K
        try simp only [Act.put, List.setIfInBounds_toArray, List.set_cons_zero, List.set_cons_succ]
        refine wpAnyH_take (i := 8) (oi := ?oim1_13) (v := ?vm1_13) ?hm1_13 (by kernel_rfl) (by kernel_rfl) (by kernel_rfl) ?qm1_13 (Or.inl ⟨?wm1_13, ?ym1_13⟩) (by assumption) ?rm1_13
        case hm1_13 => (simp only [List.getElem?_toArray, List.getElem?_cons_succ, List.getElem?_cons_zero]; rfl)
        case qm1_13 => exact fun _ _ _ h => h
        case wm1_13 => rfl
        case ym1_13 => (intro w hSw; (try dsimp only at hSw); go_simp <;> with_reducible rfl)
        try simp only [Act.put, List.setIfInBounds_toArray, List.set_cons_zero, List.set_cons_succ]
        refine wpAnyH_ready (rs := [3]) (by kernel_rfl) (by simp) ?_
        refine AllReadyH.cons (o := ?oim1_14) ?hm1_14 (fun K hK => ?km1_14) ?mm1_14
        case hm1_14 => (simp only [List.getElem?_toArray, List.getElem?_cons_succ, List.getElem?_cons_zero]; rfl)
        case km1_14 =>
          go_simp
          refine hK.out _ _ (by (first | exact KS.out _ (HBL.out _ HB_0.out) | exact KS.out _ (HBL.out _ HB_1.out) | exact KS.out _ (HBL.out _ (HB_0.out.alloc (Nat.le_refl _) _)) | exact KS.out _ (HBL.out _ (HB_1.out.alloc HB_1.out.size _)))) (fun hHeld => ?_)
          clear hK K
          try simp only [Act.put, List.setIfInBounds_toArray, List.set_cons_zero, List.set_cons_succ]
          refine wpAnyH_take (i := 9) (oi := ?oim1_15) (v := ?vm1_15) ?hm1_15 (by kernel_rfl) (by kernel_rfl) (by kernel_rfl) ?qm1_15 (Or.inl ⟨?wm1_15, ?ym1_15⟩) (by assumption) ?rm1_15
          case hm1_15 => (simp only [List.getElem?_toArray, List.getElem?_cons_succ, List.getElem?_cons_zero]; rfl)
          case qm1_15 => exact fun _ _ _ h => h
          case wm1_15 => rfl
          case ym1_15 => (intro w hSw; (try dsimp only at hSw); go_simp <;> with_reducible rfl)
          try simp only [Act.put, List.setIfInBounds_toArray, List.set_cons_zero, List.set_cons_succ]
          refine wpAnyH_take (i := 10) (oi := ?oim1_16) (v := ?vm1_16) ?hm1_16 (by kernel_rfl) (by kernel_rfl) (by kernel_rfl) ?qm1_16 (Or.inl ⟨?wm1_16, ?ym1_16⟩) (by assumption) ?rm1_16
          case hm1_16 => (simp only [List.getElem?_toArray, List.getElem?_cons_succ, List.getElem?_cons_zero]; rfl)
          case qm1_16 => exact fun _ _ _ h => h
          case wm1_16 => rfl
          case ym1_16 => (intro w hSw; (try dsimp only at hSw); go_simp <;> with_reducible rfl)
          try simp only [Act.put, List.setIfInBounds_toArray, List.set_cons_zero, List.set_cons_succ]
          refine wpAnyH_done (by kernel_rfl) ?_ _
          go_wp2_with fail
          go_meet
          have hsb : w.heap.size + 1 ≤ wb.heap.size := by have := HWB.out; omega
          have hsd : w.heap.size + 1 ≤ wb.drew.heap.size := hsb
          first
            | exact ⟨A5, _, _, _, rfl, rfl, by rw [HDG.out], owns_later (HO5.out.mono hsd) ((Below.refl _ _).alloc (Nat.le_refl _) _), World.ownsRow_made (e := 2) (size := 1) _ #[] 0 (Nat.le_trans hsb HB_1.out.size) (by decide) (by simp), by (by_cases hnb : (Value.slice A5 n c5).ownBlock = none); exact .inl hnb; exact .inr (fun e => by have := (HO5.out.lt _ e).2; simp at this), HBL.out _ (HB_1.out.alloc HB_1.out.size _)⟩
            | exact ⟨A5, _, _, _, rfl, rfl, by rw [HDG.out], HO5.out.mono (by simp; omega), owns_later (World.ownsRow_made (e := 2) (size := 1) wb.drew #[] 0 hsd (by decide) (by simp)) HB5.out, by (by_cases hnb : (Value.slice A5 n c5).ownBlock = none); exact .inl hnb; exact .inr (fun e => by have h7 := (HO5.out.lt wb.heap.size e).1; have h8 : (wb.drew.alloc (.cells #[] 2)).heap.size = wb.heap.size + 1 := (by simp); omega), HBL.out _ HB_1.out⟩
        exact AllReadyH.nil
      exact AllReadyH.nil
    refine AllReadyH.cons (o := ?oim1_17) ?hm1_17 (fun K hK => ?km1_17) ?mm1_17
    case hm1_17 => (simp only [List.getElem?_toArray, List.getElem?_cons_succ, List.getElem?_cons_zero]; rfl)
    case km1_17 =>
      go_simp
      refine hK.out _ _ (by (first | exact KS.out _ (HBL.out _ HB_0.out) | exact KS.out _ (HBL.out _ HB_1.out) | exact KS.out _ (HBL.out _ (HB_0.out.alloc (Nat.le_refl _) _)) | exact KS.out _ (HBL.out _ (HB_1.out.alloc HB_1.out.size _)))) (fun hHeld => ?_)
      clear hK K
      try simp only [Act.put, List.setIfInBounds_toArray, List.set_cons_zero, List.set_cons_succ]
      refine wpAnyH_ready (rs := [2]) (by kernel_rfl) (by simp) ?_
      refine AllReadyH.cons (o := ?oim1_18) ?hm1_18 (fun K hK => ?km1_18) ?mm1_18
      case hm1_18 => (simp only [List.getElem?_toArray, List.getElem?_cons_succ, List.getElem?_cons_zero]; rfl)
      case km1_18 =>
        go_simp
        (go_at_call 88); (first | refine (HRS.out _ (HMN.out _ (HBL.out _ HB_0.out))).mono ?_ | refine (HRS.out _ (HMN.out _ (HBL.out _ (HB_0.out.alloc (Nat.le_refl _) _)))).mono ?_); rintro e w5 ⟨v5, rfl, ho5, hb5⟩; (obtain ⟨A5, c5, rfl, hc5, _⟩ := owns_shape ho5); have HB5 := Lib.hid hb5; have HO5 := Lib.hid ho5; (first | have HB_1 := Lib.hid (HB_0.out.trans (hb5.mono HB_0.out.size)) | have HB_1 := Lib.hid ((HB_0.out.alloc (Nat.le_refl _) _).trans (hb5.mono (HB_0.out.alloc (Nat.le_refl _) _).size))); clear hb5 ho5
        refine hK.out _ _ (by (first | exact KS.out _ (HBL.out _ HB_0.out) | exact KS.out _ (HBL.out _ HB_1.out) | exact KS.out _ (HBL.out _ (HB_0.out.alloc (Nat.le_refl _) _)) | exact KS.out _ (HBL.out _ (HB_1.out.alloc HB_1.out.size _)))) (fun hHeld => ?_)
        clear hK K
        try simp only [Act.put, List.setIfInBounds_toArray, List.set_cons_zero, List.set_cons_succ]
        refine wpAnyH_ready (rs := [7]) (by kernel_rfl) (by simp) ?_
        refine AllReadyH.cons (o := ?oim1_19) ?hm1_19 (fun K hK => ?km1_19) ?mm1_19
        case hm1_19 => (simp only [List.getElem?_toArray, List.getElem?_cons_succ, List.getElem?_cons_zero]; rfl)
        case km1_19 =>
          go_simp
          (go_at_call 89); (first | refine (HD0.out _ (HMN.out _ (HBL.out _ HB_1.out))).mono ?_ | refine (HD0.out _ (HMN.out _ (HBL.out _ (HB_1.out.alloc HB_1.out.size _)))).mono ?_); rintro e w6 ⟨rfl, rfl⟩
          refine hK.out _ _ (by (first | exact KS.out _ (HBL.out _ HB_0.out) | exact KS.out _ (HBL.out _ HB_1.out) | exact KS.out _ (HBL.out _ (HB_0.out.alloc (Nat.le_refl _) _)) | exact KS.out _ (HBL.out _ (HB_1.out.alloc HB_1.out.size _)))) (fun hHeld => ?_)
          clear hK K
          try simp only [Act.put, List.setIfInBounds_toArray, List.set_cons_zero, List.set_cons_succ]
          refine wpAnyH_take (i := 8) (oi := ?oim1_20) (v := ?vm1_20) ?hm1_20 (by kernel_rfl) (by kernel_rfl) (by kernel_rfl) ?qm1_20 (Or.inl ⟨?wm1_20, ?ym1_20⟩) (by assumption) ?rm1_20
          case hm1_20 => (simp only [List.getElem?_toArray, List.getElem?_cons_succ, List.getElem?_cons_zero]; rfl)
          case qm1_20 => exact fun _ _ _ h => h
          case wm1_20 => rfl
          case ym1_20 => (intro w hSw; (try dsimp only at hSw); go_simp <;> with_reducible rfl)
          try simp only [Act.put, List.setIfInBounds_toArray, List.set_cons_zero, List.set_cons_succ]
          refine wpAnyH_take (i := 9) (oi := ?oim1_21) (v := ?vm1_21) ?hm1_21 (by kernel_rfl) (by kernel_rfl) (by kernel_rfl) ?qm1_21 (Or.inl ⟨?wm1_21, ?ym1_21⟩) (by assumption) ?rm1_21
          case hm1_21 => (simp only [List.getElem?_toArray, List.getElem?_cons_succ, List.getElem?_cons_zero]; rfl)
          case qm1_21 => exact fun _ _ _ h => h
          case wm1_21 => rfl
          case ym1_21 => (intro w hSw; (try dsimp only at hSw); go_simp <;> with_reducible rfl)
          try simp only [Act.put, List.setIfInBounds_toArray, List.set_cons_zero, List.set_cons_succ]
          refine wpAnyH_take (i := 10) (oi := ?oim1_22) (v := ?vm1_22) ?hm1_22 (by kernel_rfl) (by kernel_rfl) (by kernel_rfl) ?qm1_22 (Or.inl ⟨?wm1_22, ?ym1_22⟩) (by assumption) ?rm1_22
          case hm1_22 => (simp only [List.getElem?_toArray, List.getElem?_cons_succ, List.getElem?_cons_zero]; rfl)
          case qm1_22 => exact fun _ _ _ h => h
          case wm1_22 => rfl
          case ym1_22 => (intro w hSw; (try dsimp only at hSw); go_simp <;> with_reducible rfl)
          try simp only [Act.put, List.setIfInBounds_toArray, List.set_cons_zero, List.set_cons_succ]
          refine wpAnyH_done (by kernel_rfl) ?_ _
          go_wp2_with fail
          go_meet
          have hsb : w.heap.size + 1 ≤ wb.heap.size := by have := HWB.out; omega
          have hsd : w.heap.size + 1 ≤ wb.drew.heap.size := hsb
          first
            | exact ⟨A5, _, _, _, rfl, rfl, by rw [HDG.out], owns_later (HO5.out.mono hsd) ((Below.refl _ _).alloc (Nat.le_refl _) _), World.ownsRow_made (e := 2) (size := 1) _ #[] 0 (Nat.le_trans hsb HB_1.out.size) (by decide) (by simp), by (by_cases hnb : (Value.slice A5 n c5).ownBlock = none); exact .inl hnb; exact .inr (fun e => by have := (HO5.out.lt _ e).2; simp at this), HBL.out _ (HB_1.out.alloc HB_1.out.size _)⟩
            | exact ⟨A5, _, _, _, rfl, rfl, by rw [HDG.out], HO5.out.mono (by simp; omega), owns_later (World.ownsRow_made (e := 2) (size := 1) wb.drew #[] 0 hsd (by decide) (by simp)) HB5.out, by (by_cases hnb : (Value.slice A5 n c5).ownBlock = none); exact .inl hnb; exact .inr (fun e => by have h7 := (HO5.out.lt wb.heap.size e).1; have h8 : (wb.drew.alloc (.cells #[] 2)).heap.size = wb.heap.size + 1 := (by simp); omega), HBL.out _ HB_1.out⟩
        exact AllReadyH.nil
      exact AllReadyH.nil
    exact AllReadyH.nil
  case rest =>
  obtain ⟨A5, c5, A6, c6, rfl, rfl, rfl, ho5, ho6, hne, hbx⟩ := hcut
  have HO5 := Lib.hid ho5
  have HO6 := Lib.hid ho6
  have HNE := Lib.hid hne
  have HBX := Lib.hid hbx
  clear ho5 ho6 hne hbx
  go_wp2_with fail
  go_loopw [6, 8] (fun v6 v8 wr => ∃ q : Nat, ∃ A6 c6, q ≤ 21 ∧ v8 = .int .i64 q ∧ v6 = .slice A6 q c6 ∧ wr.ownsRow (w.heap.size + 1) 2 1 (.slice A6 q c6) q (iv (margR xs F d q)) ∧ wr.ownsRow (w.heap.size + 1) 2 1 (.slice A5 n c5) n (nv F) ∧ Hid ((Value.slice A5 n c5).ownBlock = none ∨ (Value.slice A5 n c5).ownBlock ≠ (Value.slice A6 q c6).ownBlock) ∧ Below (w.heap.size + 1) wb wr) (fun _ v8 _ => 21 - (intOf v8).toNat)
  case atStart => exact ⟨0, A6, c6, Nat.zero_le _, rfl, rfl, HO6.out, HO5.out, HNE, HBX.out⟩
  case round =>
    obtain ⟨q, A6, c6, hq, rfl, rfl, ho6, ho5, HNE, hbel⟩ := hrel
    obtain ⟨wv, hwv⟩ : ∃ wv, wv = wr := ⟨_, rfl⟩
    subst hwv
    have HO6 := Lib.hid ho6
    have HO5 := Lib.hid ho5
    have HB := Lib.hid hbel
    have hsz : w.heap.size + 1 ≤ wv.heap.size := by have := hbel.size; have := HWB.out; omega
    by_cases hlt : q < 21
    · have hq20 : (q : Int) ≤ 20 := by omega
      clear ho6 ho5 hbel
      go_wp2_with fail
      go_loopw [9, 10, 11] (fun v9 v10 v11 wr => ∃ i : Nat, ∃ A9 c9 A10 c10, ∃ S T : List Nat, i ≤ n ∧ v11 = .int .i64 i ∧ v9 = .slice A9 S.length c9 ∧ v10 = .slice A10 T.length c10 ∧ Hid (S = fromT xs F (q : Int) i) ∧ Hid (T = fromT xs F ((q : Int) - d) i) ∧ Two wr wv.heap.size (.slice A9 S.length c9) (.slice A10 T.length c10) S T ∧ Below wv.heap.size wv wr) (fun _ _ v11 _ => n - (intOf v11).toNat)
      case atStart =>
        refine ⟨0, _, _, _, _, [], [], Nat.zero_le _, rfl, rfl, rfl, Lib.hid rfl, Lib.hid rfl, ⟨?_, ?_, by simp [Value.ownBlock]⟩, ((Below.refl _ _).alloc (Nat.le_refl _) _).alloc (by simp) _⟩
        · exact (World.ownsRow_made (e := 2) (size := 1) wv #[] 0 (Nat.le_refl _) (by decide) (by simp)).alloc _
        · have := World.ownsRow_made (e := 2) (size := 1) (wv.alloc (.cells #[] 2)) #[] 0 (base := wv.heap.size) (by simp) (by decide) (by simp)
          simpa [nv] using this
      case round =>
        obtain ⟨i, A9, c9, A10, c10, S, T, hi, rfl, rfl, rfl, HS, HT, htwo, hbel⟩ := hrel
        have HTW := Lib.hid htwo
        have HBI := Lib.hid hbel
        have hs2 := hbel.size
        have HBN := Lib.hid (HB.out.trans (hbel.mono hsz))
        have hSl : S.length ≤ 16 := by rw [HS.out]; exact Nat.le_trans (fromT_len _ _ _ _) (by omega)
        have hTl : T.length ≤ 16 := by rw [HT.out]; exact Nat.le_trans (fromT_len _ _ _ _) (by omega)
        have hqS : S.length < 1099511627776 := by omega
        have hqT : T.length < 1099511627776 := by omega
        by_cases hlt2 : i < n
        · have hix : i < xs.length := by rw [← Hn.out]; exact hlt2
          have hiF : i < F.length := by rw [HFL.out]; exact hlt2
          obtain ⟨b, o, rfl, hcd⟩ := (HA.out.below (HMN.out _ HBN.out)).atI hix
          obtain ⟨b5, o5, e5, hcf⟩ := (owns_Rd (owns_later HO5.out hbel)).atN hiF
          subst e5
          obtain ⟨x0, x1, xf0, xf1, lx⟩ := KB.out wr HBN.out
          obtain ⟨d1, d2⟩ := HDGR.out i hix
          have HF1 := Lib.hid (fromT_succ xs F (q : Int) i)
          have HF2 := Lib.hid (fromT_succ xs F ((q : Int) - d) i)
          have KC := Lib.hid (fun w' (hb : Below wv.heap.size wv w') => show w'.cell? ⟨b, o + i, none⟩ = some (.int .i64 (xs.getD i 0)) ∧ w'.cell? ⟨b5, o5 + i, none⟩ = some (.int .i64 ((F.getD i 0 : Nat) : Int)) ∧ w'.cell? ⟨w.heap.size, 0, none⟩ = some (.slice (some ⟨b, o, none⟩) n c) from ⟨(HA.out.below (HMN.out _ (HB.out.trans (hb.mono hsz)))).cellI hix, by
            obtain ⟨b6, o6, e6, h6⟩ := (owns_Rd (owns_later HO5.out hb)).atN hiF
            injection e6 with e6
            injection e6 with e61 e62 _
            rw [e61, e62]; exact h6, (KB.out w' (HB.out.trans (hb.mono hsz))).1⟩)
          generalize xs.getD i 0 = y at *
          generalize F.getD i 0 = z at *
          have hBw : wv.heap.size ≤ wr.heap.size := hs2
          by_cases h1 : y = (q : Int)
          · by_cases h2 : y = (q : Int) - d
            · have hf1 : (y == (q : Int)) = true := by simpa using h1
              have hf2 : (y == (q : Int) - d) = true := by simpa using h2
              rw [if_pos h1] at HF1
              rw [if_pos h2] at HF2
              clear h1 h2 htwo hbel
              go_wp2_with (at_builtin; first | (refine wpList_app1 _ _ _ _ _ etI (by rfl) (by rfl) wv.heap.size (.slice A9 S.length c9) S.length (nv S) (by rfl) (HTW.out.a.alloc _) _ (.int .i64 (z : Nat)) (by rfl) (new_cell _ _ _) (by rfl) hqS (Nat.le_trans hBw (by simp)) ?_; (intro g1 p1 w1 hown1 hg1 hat1 hlt1; have HT1 := Lib.hid (Two.app1 HTW.out rfl hown1 hg1 hat1); have HB1 := Lib.hid (below_app2 HBI.out hBw HTW.out.a hg1); have hK1 := KC.out _ HB1.out; obtain ⟨k1, k2, k3⟩ := hK1; have hBw1 : wv.heap.size ≤ w1.heap.size := HB1.out.size; clear hown1 hg1 hat1 hlt1)) | (refine wpList_app1 _ _ _ _ _ etI (by rfl) (by rfl) wv.heap.size (.slice A10 T.length c10) T.length (nv T) (by rfl) (HT1.out.b.alloc _) _ (.int .i64 (z : Nat)) (by rfl) (new_cell _ _ _) (by rfl) hqT (Nat.le_trans hBw1 (by simp)) ?_; (intro g2 p2 w2 hown2 hg2 hat2 hlt2; have HT2 := Lib.hid (Two.app1 HT1.out.symm rfl hown2 hg2 hat2).symm; have HB2 := Lib.hid (below_app2 HB1.out hBw1 HT1.out.b hg2); clear hown2 hg2 hat2 hlt2)))
              go_roundw
              case rel => exact ⟨i + 1, some ⟨g1, 0, none⟩, p1, some ⟨g2, 0, none⟩, p2, S ++ [z], T ++ [z], by omega, by go_num, by simp, by simp, Lib.hid (by rw [HF1.out, ← HS.out]), Lib.hid (by rw [HF2.out, ← HT.out]), HT2.out, HB2.out⟩
              case measure => simp [intOf]; omega
            · have hf1 : (y == (q : Int)) = true := by simpa using h1
              have hf2 : (y == (q : Int) - d) = false := by simpa using h2
              rw [if_pos h1] at HF1
              rw [if_neg h2, List.append_nil] at HF2
              clear h1 h2 htwo hbel
              go_wp2_with (at_builtin; refine wpList_app1 _ _ _ _ _ etI (by rfl) (by rfl) wv.heap.size (.slice A9 S.length c9) S.length (nv S) (by rfl) (HTW.out.a.alloc _) _ (.int .i64 (z : Nat)) (by rfl) (new_cell _ _ _) (by rfl) hqS (Nat.le_trans hBw (by simp)) ?_; (intro g1 p1 w1 hown1 hg1 hat1 hlt1; have HT1 := Lib.hid (Two.app1 HTW.out rfl hown1 hg1 hat1); have HB1 := Lib.hid (below_app2 HBI.out hBw HTW.out.a hg1); have hK1 := KC.out _ HB1.out; obtain ⟨k1, k2, k3⟩ := hK1; have hBw1 : wv.heap.size ≤ w1.heap.size := HB1.out.size; clear hown1 hg1 hat1 hlt1))
              go_roundw
              case rel => exact ⟨i + 1, some ⟨g1, 0, none⟩, p1, A10, c10, S ++ [z], T, by omega, by go_num, by simp, rfl, Lib.hid (by rw [HF1.out, ← HS.out]), Lib.hid (by rw [HF2.out, ← HT.out]), HT1.out, HB1.out⟩
              case measure => simp [intOf]; omega
          · by_cases h2 : y = (q : Int) - d
            · have hf1 : (y == (q : Int)) = false := by simpa using h1
              have hf2 : (y == (q : Int) - d) = true := by simpa using h2
              rw [if_neg h1, List.append_nil] at HF1
              rw [if_pos h2] at HF2
              clear h1 h2 htwo hbel
              go_wp2_with (at_builtin; refine wpList_app1 _ _ _ _ _ etI (by rfl) (by rfl) wv.heap.size (.slice A10 T.length c10) T.length (nv T) (by rfl) (HTW.out.b.alloc _) _ (.int .i64 (z : Nat)) (by rfl) (new_cell _ _ _) (by rfl) hqT (Nat.le_trans hBw (by simp)) ?_; (intro g2 p2 w2 hown2 hg2 hat2 hlt2; have HT2 := Lib.hid (Two.app1 HTW.out.symm rfl hown2 hg2 hat2).symm; have HB2 := Lib.hid (below_app2 HBI.out hBw HTW.out.b hg2); clear hown2 hg2 hat2 hlt2))
              go_roundw
              case rel => exact ⟨i + 1, A9, c9, some ⟨g2, 0, none⟩, p2, S, T ++ [z], by omega, by go_num, rfl, by simp, Lib.hid (by rw [HF1.out, ← HS.out]), Lib.hid (by rw [HF2.out, ← HT.out]), HT2.out, HB2.out⟩
              case measure => simp [intOf]; omega
            · have hf1 : (y == (q : Int)) = false := by simpa using h1
              have hf2 : (y == (q : Int) - d) = false := by simpa using h2
              rw [if_neg h1, List.append_nil] at HF1
              rw [if_neg h2, List.append_nil] at HF2
              clear h1 h2 htwo hbel
              go_wp2_with fail
              go_roundw
              case rel => exact ⟨i + 1, A9, c9, A10, c10, S, T, by omega, by go_num, rfl, rfl, Lib.hid (by rw [HF1.out, ← HS.out]), Lib.hid (by rw [HF2.out, ← HT.out]), HTW.out, HBI.out⟩
              case measure => simp [intOf]; omega
        · obtain rfl : i = n := by omega
          have HSM1 : Hid (∀ r ∈ S, Sm r) := Lib.hid (by rw [HS.out]; exact fromT_sm HFS.out _ _)
          have HSM2 : Hid (∀ r ∈ T, Sm r) := Lib.hid (by rw [HT.out]; exact fromT_sm HFS.out _ _)
          have hr1 := reduceS_len_le HSM1.out
          have hr2 := reduceS_len_le HSM2.out
          have HCM : Hid (cntM xs F d (q : Int) = (S.length : Int) - (reduceS S).length - (reduceS T).length) := Lib.hid (by rw [HS.out, HT.out, Hn.out]; rfl)
          have HMS := Lib.hid (margR_succ xs F d q)
          have HR1 := Lib.hid (reduce_any A9 S.length c9 S wr rfl (by omega) HSM1.out (owns_Rd HTW.out.a))
          have HR2 := Lib.hid (fun W (hb : Below wr.heap.size wr W) => reduce_any A10 T.length c10 T W rfl (by omega) HSM2.out (owns_Rd (HTW.out.below hb).b))
          have hqq : q < 1099511627776 := by omega
          clear htwo hbel
          go_wp2_with fail
          refine HR1.out.mono ?_
          rintro e w1 ⟨v1, rfl, ho1, hb1⟩
          obtain ⟨B1, d1, rfl, _, _, _⟩ := owns_shape ho1
          have HB1 := Lib.hid hb1
          clear ho1 hb1
          go_wp2_with fail
          refine (HR2.out _ HB1.out).mono ?_
          rintro e w2 ⟨v2, rfl, ho2, hb2⟩
          obtain ⟨B2, d2, rfl, _, _, _⟩ := owns_shape ho2
          have HB2 := Lib.hid (HB1.out.trans (hb2.mono HB1.out.size))
          have HBV := Lib.hid (HBI.out.trans (HB2.out.mono hs2))
          have HBB := Lib.hid (HB.out.trans (HBV.out.mono hsz))
          have hs3 : w.heap.size + 1 ≤ w2.heap.size := Nat.le_trans hsz HBV.out.size
          clear ho2 hb2
          go_wp2_with (at_builtin; refine wpList_app1 _ _ _ _ _ etI (by rfl) (by rfl) (w.heap.size + 1) (.slice A6 q c6) q (iv (margR xs F d q)) (by rfl) ((owns_later HO6.out HBV.out).alloc _) _ (.int .i64 ((S.length : Int) - ((reduceS S).length : Int) - ((reduceS T).length : Int))) (by rfl) (new_cell _ _ _) (by rfl) hqq (Nat.le_trans hs3 (by simp)) ?_; (intro g3 c3 w3 hown3 hg3 hat3 hlt3; have HO3 := Lib.hid hown3; have HG3 := Lib.hid hg3; have HA3 := Lib.hid hat3; clear hown3 hg3 hat3 hlt3))
          go_roundw
          case rel =>
            refine ⟨q + 1, some ⟨g3, 0, none⟩, c3, by omega, by go_num, rfl, ?_, ?_, Lib.hid ?_, below_app2 HBB.out hs3 (owns_later HO6.out HBV.out) HG3.out⟩
            · rw [HMS.out, HCM.out, ← iv_snocI]; exact HO3.out
            · exact owns_keeps (owns_later HO5.out HBV.out) (((Keeps.refl _ []).alloc _).trans (Keeps.of_grown HG3.out) (T := [(Value.slice A6 q c6).ownBlock]) (by simp)) (by simpa using HNE.out)
            · rcases HA3.out with e | e
              · rw [show (Value.slice (some ⟨g3, 0, none⟩) (q + 1) c3).ownBlock = (Value.slice A6 q c6).ownBlock from e.symm]; exact HNE.out
              · by_cases h5 : (Value.slice A5 i c5).ownBlock = none
                · exact .inl h5
                · refine .inr fun e2 => ?_
                  have h6 := ((owns_later HO5.out HBV.out).lt g3 e2).2
                  simp at e
                  omega
          case measure => simp [intOf]; omega
    · obtain rfl : q = 21 := by omega
      clear ho6 ho5 hbel
      go_wp2_with fail
      go_ret
      exact ⟨_, rfl, HO6.out.mono (Nat.le_succ _), HMN.out _ HB.out⟩
end Go.Proofs.YtdkmdmpaflgfaaaGreatDoor

namespace Go.Proofs.YtdkmdmpaflgfaaaGreatDoor
open Go.RowKit

def pwr (s t : Nat) : List Int := List.replicate (t - 1) 0 ++ [2 ^ s]
def stepM (s t : Nat) : Int := 2 ^ s * (2 ^ t - 1)
theorem pow_posI (s : Nat) : (1 : Int) ≤ 2 ^ s := by
  have h2 : 1 ≤ 2 ^ s := Nat.one_le_two_pow
  have h3 : ((2 ^ s : Nat) : Int) = (2 : Int) ^ s := by rw [Int.natCast_pow]; rfl
  omega
theorem degW_rep : ∀ (j k : Nat), degW j (List.replicate k 0) = 0
  | _, 0 => rfl
  | j, k + 1 => by simp [List.replicate_succ, degW, degW_rep (j + 1) k]
theorem tr_rep : ∀ (k : Nat) (x : Int), x ≠ 0 → Tr (List.replicate k 0 ++ [x])
  | 0, x, h => ⟨fun _ => h, trivial⟩
  | k + 1, x, h => ⟨fun e => by simp at e, tr_rep k x h⟩
theorem pwr_ex (s : Nat) {t : Nat} (ht : 1 ≤ t) : Ex (stepM s t) (pwr s t) := by
  have hp := pow_posI s
  refine ⟨fun x hx => ?_, tr_rep _ _ (by omega), ?_⟩
  · rcases List.mem_append.1 hx with h | h
    · rw [(List.mem_replicate.1 h).2]; omega
    · rw [List.mem_singleton.1 h]; omega
  · unfold pwr stepM
    rw [degW_snoc, degW_rep, List.length_replicate, Int.zero_add, show 0 + (t - 1) + 1 = t by omega]
theorem pwr_len (s : Nat) {t : Nat} (ht : 1 ≤ t) : (pwr s t).length = t := by simp [pwr]; omega
theorem one_as (r : List Int) : As [r] := List.pairwise_singleton _ _
theorem one_ex {d : Int} {r : List Int} (h : Ex d r) : ∀ t ∈ [r], Ex d t := fun t ht => by rw [List.mem_singleton.1 ht]; exact h
theorem rep_setI (n : Nat) (x : Int) (hn : 1 ≤ n) : (List.replicate n (0 : Int)).set (n - 1) x = List.replicate (n - 1) 0 ++ [x] := by
  obtain ⟨m, rfl⟩ : ∃ m, n = m + 1 := ⟨n - 1, by omega⟩
  rw [List.replicate_succ', Nat.add_sub_cancel, List.set_append_right _ _ (by simp)]
  simp
theorem pow5 {d : Nat} (h : d ≤ 5) : (1 : Int) ≤ 2 ^ d ∧ (2 : Int) ^ d ≤ 32 := by
  have h1 : 2 ^ d ≤ 2 ^ 5 := Nat.pow_le_pow_right (by omega) h
  have h2 : 1 ≤ 2 ^ d := Nat.one_le_two_pow
  have h3 : ((2 ^ d : Nat) : Int) = (2 : Int) ^ d := by rw [Int.natCast_pow]; rfl
  rw [← h3]; omega
theorem stepM_bd {s t : Nat} (hs : s ≤ 5) (ht : t ≤ 5) : 0 ≤ stepM s t ∧ stepM s t ≤ 992 := by
  obtain ⟨a1, a2⟩ := pow5 hs
  obtain ⟨b1, b2⟩ := pow5 ht
  refine ⟨Int.mul_nonneg (by omega) (by omega), ?_⟩
  have := Int.mul_le_mul a2 (show (2 : Int) ^ t - 1 ≤ 31 by omega) (by omega) (by omega)
  unfold stepM; omega
/-- numbers that are taken -/
def rangeM (s t : Int) : Bool := inB t 1 5 && inB s 0 (t - 1)
theorem rangeM_nat {s t : Int} (h : rangeM s t = true) : ∃ a b : Nat, s = a ∧ t = b ∧ a < b ∧ b ≤ 5 := by
  unfold rangeM inB at h
  simp only [Bool.and_eq_true, decide_eq_true_eq] at h
  exact ⟨s.toNat, t.toNat, by omega, by omega, by omega, by omega⟩
def codeM (b : Bool) (s t : Int) : Int := if b = true then (if rangeM s t = true then (if stepM s.toNat t.toNat ≤ 40 then 0 else 3) else 2) else 1
theorem codeM_no (s t : Int) : codeM false s t = 1 := by unfold codeM; rw [if_neg (by simp)]
theorem codeM_out {s t : Int} (h : rangeM s t = false) : codeM true s t = 2 := by unfold codeM; rw [if_pos rfl, if_neg (by rw [h]; simp)]
theorem codeM_in {s t : Int} (h : rangeM s t = true) : codeM true s t = if stepM s.toNat t.toNat ≤ 40 then 0 else 3 := by unfold codeM; rw [if_pos rfl, if_pos h]

set_option maxRecDepth 100000 in
set_option maxHeartbeats 1000000 in
theorem l06Power_any (s t : Nat) (ht : 1 ≤ t) (ht5 : t ≤ 5) (w : World) :
    Calls Tryz.prog 54 #[.int .i64 t, .int .i64 (2 ^ s)] w fun e w' => ∃ g, e = .returned (.slice (some ⟨g, 0, none⟩) t t) ∧ w'.ownsRow w.heap.size 2 1 (.slice (some ⟨g, 0, none⟩) t t) t (iv (pwr s t)) ∧ Below w.heap.size w w' := by
  have hmk := run_make_row' (P := Tryz.prog) 22 2 (.int .i64 0) 8 Tryz.underlying22 infoI rfl .i64 .i64 t (by omega) (by omega)
  have hO := made_own w w.heap.size t (Nat.le_refl _) (by omega)
  have hst := (World.ownsRow.stored hO (t - 1) (.int .i64 (2 ^ s))).1
  rw [← iv_set, rep_setI t _ ht, World.setCell_alloc_at _ _ _ _ _ rfl] at hst
  have HST := Lib.hid hst
  have hfz := hO.frozenAt (t - 1)
  have hc := owns_getD hO (k := t - 1) (by omega)
  have hp := pow_posI s
  have h1 : ((t : Int) == 0) = false := by simp; omega
  have h2 : ((2 ^ s : Int) == 0) = false := by simp; omega
  have ht0 : (1 : Int) ≤ t := by omega
  have hti : ((t : Int) - 1).toNat = t - 1 := by omega
  have hti0 : (0 : Int) ≤ (t : Int) - 1 := by omega
  have HB := Lib.hid ((Below.refl w.heap.size w).alloc (Nat.le_refl _) (.cells ((madeCells #[.int .i64 0] t).setIfInBounds (t - 1) (.int .i64 (2 ^ s))) 2))
  clear hst hO
  go_enter Tryz.func54, Tryz.ntmps54
  go_wp2_with fail
  go_ret
  exact ⟨_, rfl, HST.out, HB.out⟩
set_option maxRecDepth 100000 in
set_option maxHeartbeats 1000000 in
theorem elementP_any (s t : Nat) (hs : s ≤ 5) (ht : 1 ≤ t) (ht5 : t ≤ 5) (w : World) :
    Calls Tryz.prog 56 #[.int .i64 s, .int .i64 t] w fun e w' => ∃ g, e = .returned (.slice (some ⟨g, 0, none⟩) t t) ∧ w'.ownsRow w.heap.size 2 1 (.slice (some ⟨g, 0, none⟩) t t) t (iv (pwr s t)) ∧ Below w.heap.size w w' := by
  have hmk := run_make_row' (P := Tryz.prog) 22 2 (.int .i64 0) 8 Tryz.underlying22 infoI rfl .i64 .i64 t (by omega) (by omega)
  have hO := made_own w w.heap.size t (Nat.le_refl _) (by omega)
  have hst := (World.ownsRow.stored hO (t - 1) (.int .i64 (2 ^ s))).1
  rw [← iv_set, rep_setI t _ ht, World.setCell_alloc_at _ _ _ _ _ rfl] at hst
  have HST := Lib.hid hst
  have hfz := hO.frozenAt (t - 1)
  have hc := owns_getD hO (k := t - 1) (by omega)
  obtain ⟨hp, hp2⟩ := pow5 hs
  have ht0 : (1 : Int) ≤ t := by omega
  have hti : ((t : Int) - 1).toNat = t - 1 := by omega
  have hti0 : (0 : Int) ≤ (t : Int) - 1 := by omega
  have HB := Lib.hid ((Below.refl w.heap.size w).alloc (Nat.le_refl _) (.cells ((madeCells #[.int .i64 0] t).setIfInBounds (t - 1) (.int .i64 (2 ^ s))) 2))
  clear hst hO
  go_enter Tryz.func56, Tryz.ntmps56
  go_wp2_with fail
  go_ret
  exact ⟨_, rfl, HST.out, HB.out⟩
set_option maxRecDepth 100000 in
set_option maxHeartbeats 2000000 in
theorem l13Code_any (A A' : Option Addr) (n c m c' : Nat) (xs : List Int) (L : List Row) (s t : Int) (w : World) (hM : ModIn w A n A' m xs L) :
    Calls Tryz.prog 52 #[.agg #[.slice A n c, .slice A' m c'], .int .i64 s, .int .i64 t] w fun e w' => e = .returned (.int .i64 (codeM (modB xs (dat L)) s t)) ∧ Below w.heap.size w w' := by
  have HIS := Lib.hid (fun W hb => hM.is c c' W hb)
  obtain ⟨x0, x1, xf0, xf1, lx⟩ := blk2cells (blk_new w (.cells #[.slice A n c, .slice A' m c'] 30))
  have HB0 := Lib.hid ((Below.refl w.heap.size w).alloc (Nat.le_refl _) (.cells #[.slice A n c, .slice A' m c'] 30))
  clear hM
  generalize modB xs (dat L) = b at *
  go_enter Tryz.func52, Tryz.ntmps52
  go_wp2_with fail
  refine (HIS.out _ HB0.out).mono ?_
  rintro e w1 ⟨rfl, hb1⟩
  have HB1 := Lib.hid (HB0.out.trans (hb1.mono HB0.out.size))
  clear hb1
  cases b with
  | false =>
    have HC := Lib.hid (codeM_no s t)
    go_wp2_with fail
    go_ret
    exact ⟨by rw [HC.out]; rfl, HB1.out⟩
  | true =>
    have HI1 := Lib.hid (l01In_any t 1 5)
    have HI2 := Lib.hid (l01In_any s 0 (t - 1))
    cases ht : inB t 1 5 with
    | false =>
      have HC := Lib.hid (codeM_out (s := s) (t := t) (by unfold rangeM; rw [ht]; rfl))
      have HT := Lib.hid ht
      clear ht
      go_wp2_with fail
      refine (HI1.out _).mono ?_
      rintro e w2 ⟨rfl, rfl⟩
      rw [HT.out]
      go_wp2_with fail
      go_ret
      exact ⟨by rw [HC.out]; rfl, HB1.out⟩
    | true =>
      have htb : 1 ≤ t ∧ t ≤ 5 := by unfold inB at ht; simpa using ht
      obtain ⟨ht1, ht5⟩ := htb
      have HT := Lib.hid ht
      cases hs : inB s 0 (t - 1) with
      | false =>
        have HC := Lib.hid (codeM_out (s := s) (t := t) (by unfold rangeM; rw [hs, Bool.and_false]))
        have HS := Lib.hid hs
        clear ht hs
        go_wp2_with fail
        refine (HI1.out _).mono ?_
        rintro e w2 ⟨rfl, rfl⟩
        rw [HT.out]
        go_wp2_with fail
        refine (HI2.out _).mono ?_
        rintro e w2 ⟨rfl, rfl⟩
        rw [HS.out]
        go_wp2_with fail
        go_ret
        exact ⟨by rw [HC.out]; rfl, HB1.out⟩
      | true =>
        have hrg : rangeM s t = true := by unfold rangeM; rw [ht, hs]; rfl
        have HC := Lib.hid (codeM_in hrg)
        have HS := Lib.hid hs
        obtain ⟨a, b, rfl, rfl, hab, hb5⟩ := rangeM_nat hrg
        clear ht hs hrg
        obtain ⟨p1, p2⟩ := pow5 (d := a) (by omega)
        obtain ⟨q1, q2⟩ := pow5 (d := b) (by omega)
        obtain ⟨m1, m2⟩ := stepM_bd (s := a) (t := b) (by omega) hb5
        have HSE : Hid ((2 : Int) ^ a * (2 ^ b - 1) = stepM a b) := Lib.hid rfl
        unfold stepM at m1 m2
        rw [Int.toNat_natCast, Int.toNat_natCast, ← HSE.out] at HC
        go_wp2_with fail
        refine (HI1.out _).mono ?_
        rintro e w2 ⟨rfl, rfl⟩
        rw [HT.out]
        go_wp2_with fail
        refine (HI2.out _).mono ?_
        rintro e w2 ⟨rfl, rfl⟩
        rw [HS.out]
        by_cases h40 : (2 : Int) ^ a * (2 ^ b - 1) ≤ 40
        · have HC2 := Lib.hid (HC.out.trans (if_pos h40))
          go_wp2_with fail
          go_ret
          exact ⟨by rw [HC2.out]; rfl, HB1.out⟩
        · have HC2 := Lib.hid (HC.out.trans (if_neg h40))
          go_wp2_with fail
          go_ret
          exact ⟨by rw [HC2.out]; rfl, HB1.out⟩
end Go.Proofs.YtdkmdmpaflgfaaaGreatDoor

namespace Go.Proofs.YtdkmdmpaflgfaaaGreatDoor
open Go.RowKit

noncomputable def margOf (xs : List Int) (L : List Row) (s t : Int) : List Int × Int :=
  if codeM (modB xs (dat L)) s t = 0 then (margR xs (mactF (dat L) (stepM s.toNat t.toNat) [pwr s.toNat t.toNat] xs.length) (stepM s.toNat t.toNat) 21, 0) else ([], codeM (modB xs (dat L)) s t)
theorem margOf_dat {xs : List Int} {L M : List Row} (h : dat M = dat L) (s t : Int) : margOf xs M s t = margOf xs L s t := by unfold margOf; rw [h]
theorem margOf_len (xs : List Int) (L : List Row) (s t : Int) : (margOf xs L s t).1.length ≤ 1000 := by
  unfold margOf; split <;> simp [margR]
theorem codeM_zero {b : Bool} {s t : Int} (h : codeM b s t = 0) : b = true ∧ rangeM s t = true ∧ stepM s.toNat t.toNat ≤ 40 := by
  unfold codeM at h
  cases b with
  | false => simp at h
  | true =>
    rw [if_pos rfl] at h
    cases hr : rangeM s t with
    | false => rw [hr] at h; simp at h
    | true =>
      rw [hr, if_pos rfl] at h
      refine ⟨rfl, rfl, ?_⟩
      by_cases h4 : stepM s.toNat t.toNat ≤ 40
      · exact h4
      · rw [if_neg h4] at h; omega
theorem codeM_bd (b : Bool) (s t : Int) : 0 ≤ codeM b s t ∧ codeM b s t ≤ 3 := by
  unfold codeM
  split
  · split
    · split <;> omega
    · omega
  · omega
theorem shp_of {xs : List Int} {Q : List (List Int)} (h : modB xs Q = true) : Shp xs Q := (modB_iff.1 h).shp
theorem own_row_ty {w : World} {B g n c : Nat} {xs : List Int} (h : w.ownsRow B 2 1 (.slice (some ⟨g, 0, none⟩) n c) n (iv xs)) : xs ≠ [] → ∀ a, (some ⟨g, 0, none⟩ : Option Addr) = some a → ety w a.block = some 2 := fun _ a ha => owns_ety h (by injection ha with ha; rw [← ha]; rfl)
/-- one row of the call's own, in a new block -/
theorem rdR_one {w : World} {B g n c : Nat} {xs : List Int} (h : w.ownsRow B 2 1 (.slice (some ⟨g, 0, none⟩) n c) n (iv xs)) (hn : n = xs.length) : RdR (w.alloc (.cells #[.slice (some ⟨g, 0, none⟩) n c] 22)) (some ⟨w.heap.size, 0, none⟩) [⟨some ⟨g, 0, none⟩, c, xs⟩] := by
  subst hn
  exact (RdY.one (owns_Rd h) (owns_cap h) (own_row_ty h)).rd

set_option maxRecDepth 100000 in
set_option maxHeartbeats 2000000 in
theorem specMargolisCounts_any (A A' : Option Addr) (n c m c' : Nat) (xs : List Int) (L : List Row) (s t : Int) (w : World) (hM : ModIn w A n A' m xs L) :
    Calls Tryz.prog 20 #[.agg #[.slice A n c, .slice A' m c'], .int .i64 s, .int .i64 t] w (ResS (margOf xs L s t) w) := by
  have HCO := Lib.hid (fun W hb => l13Code_any A A' n c m c' xs L s t W (hM.below hb))
  have hn := hM.r.hn
  have hwb : (w.alloc (.cells #[.slice A n c, .slice A' m c'] 30)).heap.size = w.heap.size + 1 := by simp
  have HB0 := Lib.hid ((Below.refl w.heap.size w).alloc (Nat.le_refl _) (.cells #[.slice A n c, .slice A' m c'] 30))
  have KB := Lib.hid (fun w' (hb : Below (w.heap.size + 1) (w.alloc (.cells #[.slice A n c, .slice A' m c'] 30)) w') => blk2cells (blk_below (blk_new w (.cells #[.slice A n c, .slice A' m c'] 30)) hb (by omega)))
  have KS := Lib.hid (fun w' (hb : Below (w.heap.size + 1) (w.alloc (.cells #[.slice A n c, .slice A' m c'] 30)) w') => show w'.cell? ⟨w.heap.size, 0, none⟩ = some (.slice A n c) ∧ w'.cell? ⟨w.heap.size, 1, none⟩ = some (.slice A' m c') from ⟨(KB.out w' hb).1, (KB.out w' hb).2.1⟩)
  obtain ⟨x0, x1, xf0, xf1, lx⟩ := blk2cells (blk_new w (.cells #[.slice A n c, .slice A' m c'] 30))
  have HWB := Lib.hid hwb
  have HMM := Lib.hid hM
  have Hn := Lib.hid hn
  have HMO : Hid (margOf xs L s t = if codeM (modB xs (dat L)) s t = 0 then (margR xs (mactF (dat L) (stepM s.toNat t.toNat) [pwr s.toNat t.toNat] xs.length) (stepM s.toNat t.toNat) 21, 0) else ([], codeM (modB xs (dat L)) s t)) := Lib.hid rfl
  have HC0 := Lib.hid (fun (h : codeM (modB xs (dat L)) s t = 0) => codeM_zero h)
  clear hM hn hwb
  generalize hcd : codeM (modB xs (dat L)) s t = cd at *
  have HCD := Lib.hid hcd
  clear hcd
  go_enter Tryz.func20, Tryz.ntmps20
  go_wp2_with fail
  refine (HCO.out _ HB0.out).mono ?_
  rintro e w1 ⟨rfl, hb1⟩
  have HB1 := Lib.hid (HB0.out.trans (hb1.mono HB0.out.size))
  have HX1 := Lib.hid (show Below (w.heap.size + 1) (w.alloc (.cells #[.slice A n c, .slice A' m c'] 30)) w1 from by have := HWB.out; rw [← this]; exact hb1)
  clear hb1
  by_cases h0 : cd = 0
  · obtain ⟨hmb, hrg, h40⟩ := HC0.out h0
    have HE := Lib.hid (HMO.out.trans (if_pos h0))
    obtain ⟨a, b, rfl, rfl, hab, hb5⟩ := rangeM_nat hrg
    rw [Int.toNat_natCast, Int.toNat_natCast] at HE h40
    have HSH := Lib.hid (shp_of hmb)
    have HPW := Lib.hid (fun W => l06Power_any a b (by omega) hb5 W)
    have HCN := Lib.hid (fun (g : Nat) W (hb : Below w.heap.size w W) hR => l13Counts_any (stepM a b) h40 A A' (some ⟨W.heap.size, 0, none⟩) n c m c' 1 1 xs L [⟨some ⟨g, 0, none⟩, b, pwr a b⟩] (W.alloc (.cells #[.slice (some ⟨g, 0, none⟩) b b] 22)) Hn.out HMM.out.r.hm HSH.out HMM.out.r.hm1 rfl (by omega) (by omega) (one_as _) (one_ex (pwr_ex a (by omega))) ((HMM.out.r.deg.below hb).alloc _) ((HMM.out.r.act.below hb).alloc _) hR)
    obtain ⟨p1, p2⟩ := pow5 (d := a) (by omega)
    have HPL := Lib.hid (pwr_len a (show 1 ≤ b by omega))
    subst h0
    obtain ⟨y0, y1, yf0, yf1, ly⟩ := KB.out w1 HX1.out
    have HB_0 := Lib.hid (Below.drew (Below.refl w1.heap.size w1))
    have hs1 : w.heap.size + 1 ≤ w1.heap.size := by omega
    have HX_0 := Lib.hid (HX1.out.trans (HB_0.out.mono hs1))
    have HVAL : Hid (IntKind.i64.wrap (2 ^ min (IntKind.u64.wrap (a : Int)).toNat 64) = 2 ^ a) := Lib.hid (by
      rw [show IntKind.u64.wrap (a : Int) = a by rw [IntKind.wrap_u64]; omega, Int.toNat_natCast, Nat.min_eq_left (by omega), IntKind.wrap_i64]; omega)
    clear x0 x1 xf0 xf1 lx hrg hmb h40
    go_wp2_with fail
    go_region_held3 (fun w' => w'.cell? ⟨w.heap.size, 0, none⟩ = some (.slice A n c) ∧ w'.cell? ⟨w.heap.size, 1, none⟩ = some (.slice A' m c'))
      (first | exact KS.out _ HX_0.out | exact KS.out _ HX_1.out | exact KS.out _ (HX_1.out.alloc (by have := HX_1.out.size; have := HWB.out; omega) _) | exact KS.out _ HX_2.out)
      (first
        | (go_at_call 54; rw [HVAL.out]; (with_reducible refine (HPW.out _).mono ?_); (rintro e w2 ⟨g, rfl, ho, hb⟩; have HO2 := Lib.hid ho; have HB_1 := Lib.hid (HB_0.out.trans (hb.mono HB_0.out.size)); have HX_1 := Lib.hid (HX1.out.trans (HB_1.out.mono hs1)); have HW_1 := Lib.hid (HB1.out.trans (HB_1.out.mono HB1.out.size)); clear ho hb))
        | (go_at_call 53; (with_reducible refine (HCN.out g w2 HW_1.out (rdR_one HO2.out HPL.out.symm)).mono ?_); (rintro e w3 ⟨v3, rfl, ho, hb⟩; have HO3 := Lib.hid ho; have HB_3 := Lib.hid (show Below w2.heap.size w2 w3 from ((Below.refl _ _).alloc (Nat.le_refl _) _).trans (hb.mono (by simp))); have HX_2 := Lib.hid (HX_1.out.trans (HB_3.out.mono (by have := HX_1.out.size; have := HWB.out; omega))); clear ho hb)))
    go_wp2_with fail
    go_ret2
    have hs2 : w.heap.size ≤ w2.heap.size := HW_1.out.size
    have h3 := HO3.out.mono (show w.heap.size ≤ _ by simp; omega)
    exact ⟨v3, by rw [HE.out]; rfl, by rw [HE.out]; simp only [margR, List.length_map, List.length_range]; rw [← Hn.out]; exact h3, HW_1.out.trans (HB_3.out.mono hs2)⟩
  · have HE := Lib.hid (HMO.out.trans (if_neg h0))
    have h0b : (cd == 0) = false := by simpa using h0
    clear h0
    go_wp2_with fail
    go_ret2
    exact ⟨_, by rw [HE.out]; rfl, by rw [HE.out]; exact World.ownsRow_nil _ _ _ _, HB1.out⟩
end Go.Proofs.YtdkmdmpaflgfaaaGreatDoor

namespace Go.Proofs.YtdkmdmpaflgfaaaGreatDoor
open Go.RowKit

set_option maxHeartbeats 400000 in
theorem indexFuncR_any (A : Option Addr) (n c : Nat) (L : List Row) (fn : FuncId) (cv : Value) (p : Row → Bool) (w : World) (hcf : Ent fn) (hn : n = L.length) (hsm : n ≤ 1099511627776) (hR : Rd w A (hv L))
    (hf : ∀ r ∈ L, Asks Tryz.prog fn cv w r.val (p r)) :
    Calls Tryz.prog 219 #[.slice A n c, .func (.func fn) #[] #[cv]] w fun e w' =>
      e = .returned (.int .i64 (placeOf (L.findIdx? p))) ∧ ∃ m, w.drewN m = w' := by
  have Hn := Lib.hid hn; clear hn
  have HF := Lib.hid hf; clear hf
  have HR := Lib.hid hR; clear hR
  unfold Ent at hcf
  go_enter Tryz.func219, Tryz.ntmps219
  go_wp2_with fail
  go_loopw [8] (fun i wr => ∃ k : Nat, k ≤ n ∧ i = .int .i64 k ∧ (∃ m, wr = w.drewN m) ∧ (L.take k).findIdx? p = none) (fun i _ => n - (intOf i).toNat)
  case atStart => exact ⟨0, by omega, rfl, ⟨0, rfl⟩, by simp⟩
  case round =>
    obtain ⟨k, hk, rfl, ⟨m, rfl⟩, hp⟩ := hrel
    have HP := Lib.hid hp; clear hp
    by_cases hlt : k < n
    · have hkL : k < L.length := by rw [← Hn.out]; exact hlt
      obtain ⟨b, o, rfl, hc⟩ : ∃ b o, A = some ⟨b, o, none⟩ ∧ w.cell? ⟨b, o + k, none⟩ = some (rg L k).val := by
        rcases HR.out with h' | ⟨b, o, rfl, h'⟩
        · have := congrArg List.length h'; simp [hv_length] at this; subst this; simp at hkL
        · exact ⟨b, o, rfl, h' k _ (hv_get hkL)⟩
      have ha := HF.out _ (rg_mem hkL) m
      have HX := Lib.hid (rg_of hkL)
      generalize rg L k = x at *
      have HA := Lib.hid ha; clear ha
      generalize hv : x.val = v at *
      clear hv
      cases hb : p x
      · rw [hb] at HA
        go_wp2_with fail
        refine HA.out.mono ?_
        rintro e w' ⟨rfl, m', rfl⟩
        go_wp2_with fail
        go_roundw
        case rel => exact ⟨k + 1, by omega, by go_num, ⟨m', rfl⟩, by rw [List.take_succ_eq_append_getElem hkL, List.findIdx?_append, HP.out, ← HX.out]; simp [hb]⟩
        case measure => simp [intOf]; omega
      · rw [hb] at HA
        go_wp2_with fail
        refine HA.out.mono ?_
        rintro e w' ⟨rfl, m', rfl⟩
        go_wp2_with fail
        go_ret
        refine ⟨?_, m', rfl⟩
        have e : L.findIdx? p = some k := by
          rw [← List.take_append_drop k L, List.findIdx?_append, HP.out, List.drop_eq_getElem_cons hkL, ← HX.out]
          simp [hb, Nat.min_eq_left (Nat.le_of_lt hkL), List.findIdx?_cons]
        rw [e]
        rfl
    · have ek : L.take k = L := List.take_of_length_le (by rw [← Hn.out]; omega)
      go_wp2_with fail
      go_ret
      refine ⟨?_, m, rfl⟩
      have e : L.findIdx? p = none := by rw [← ek, HP.out]
      rw [e]
      rfl

set_option maxHeartbeats 400000 in
theorem containsFuncR_any (A : Option Addr) (n c : Nat) (L : List Row) (fn : FuncId) (cv : Value) (p : Row → Bool) (w : World) (hcf : Ent fn) (hn : n = L.length) (hsm : n ≤ 1099511627776) (hR : Rd w A (hv L))
    (hf : ∀ r ∈ L, Asks Tryz.prog fn cv w r.val (p r)) :
    Calls Tryz.prog 173 #[.slice A n c, .func (.func fn) #[] #[cv]] w fun e w' =>
      e = .returned (.bool (L.any p)) ∧ ∃ m, w.drewN m = w' := by
  have HC := Lib.hid (indexFuncR_any A n c L fn cv p w hcf hn hsm hR hf)
  clear hn hR hf hsm
  cases h : L.findIdx? p with
  | none =>
    rw [h] at HC
    have e : L.any p = false := by rw [List.any_eq_false]; rw [findIdx_none] at h; simpa using h
    have HE := Lib.hid e; clear e h
    go_enter Tryz.func173, Tryz.ntmps173
    go_wp2_with (go_at_call 219; refine HC.out.mono ?_; rintro e w' ⟨rfl, m', rfl⟩)
    go_ret
    exact ⟨by rw [HE.out]; rfl, m', rfl⟩
  | some k =>
    rw [h] at HC
    have e : L.any p = true := by
      cases ha : L.any p with
      | true => rfl
      | false =>
        rw [List.any_eq_false] at ha
        have : L.findIdx? p = none := by rw [findIdx_none]; simpa using ha
        rw [this] at h; cases h
    have HE := Lib.hid e; clear e h
    have hk : ¬ (k : Int) < 0 := by omega
    go_enter Tryz.func173, Tryz.ntmps173
    go_wp2_with (go_at_call 219; refine HC.out.mono ?_; rintro e w' ⟨rfl, m', rfl⟩)
    go_ret
    exact ⟨by rw [HE.out]; simp [placeOf], m', rfl⟩

/-- What a predicate's closure of several captured variables answers. -/
def AsksN (P : Program) (fn : FuncId) (cvs : Array Value) (w : World) (x : Value) (b : Bool) : Prop :=
  ∀ m, Calls P fn (#[x] ++ cvs) (w.drewN m) fun e w' => e = .returned (.bool b) ∧ ∃ m', w.drewN m' = w'
set_option maxHeartbeats 400000 in
/-- all(lists, holds), 'holds' a closure that only looks. -/
theorem allR_any (A : Option Addr) (n c : Nat) (L : List Row) (fn : FuncId) (cvs : Array Value) (p : Row → Bool) (w : World) (hcf : Ent fn) (hn : n = L.length) (hsm : n ≤ 1099511627776) (hR : Rd w A (hv L))
    (hf : ∀ r ∈ L, ∀ o, AsksN Tryz.prog fn cvs (w.alloc o) r.val (p r)) :
    Calls Tryz.prog 126 #[.slice A n c, .func (.func fn) #[] cvs] w fun e w' =>
      e = .returned (.bool (L.all p)) ∧ Below w.heap.size w w' := by
  have key : ∀ r ∈ L, Asks Tryz.prog 174 (.pointer (some ⟨w.heap.size, 0, none⟩)) (w.alloc (.cells #[.func (.func fn) #[] cvs] 110)) r.val (!(p r)) := by
    intro r hr m
    have HF := Lib.hid (hf r hr (.cells #[.func (.func fn) #[] cvs] 110) m)
    clear hf hR
    unfold Ent at hcf
    have hc : (w.alloc (.cells #[.func (.func fn) #[] cvs] 110)).cell? ⟨w.heap.size, 0, none⟩ = some (.func (.func fn) #[] cvs) := new_cell _ _ _
    generalize r.val = v at *
    go_enter Tryz.func174, Tryz.ntmps174
    go_wp2_with fail
    refine HF.out.mono ?_
    rintro e w' ⟨rfl, m', rfl⟩
    go_wp2_with fail
    go_ret
    exact ⟨rfl, m', rfl⟩
  have hR' : Rd (w.alloc (.cells #[.func (.func fn) #[] cvs] 110)) A (hv L) := hR.alloc _
  have HC := Lib.hid (containsFuncR_any A n c L _ _ _ _ (fun args w => Tryz.call174 args w) hn hsm hR' key)
  have e : (!(L.any fun x => !(p x))) = L.all p := by simp [List.all_eq_not_any_not]
  have HE := Lib.hid e; clear e key hR' hR hf hn hsm
  go_enter Tryz.func126, Tryz.ntmps126
  go_wp2_with (go_at_call 173; refine HC.out.mono ?_; rintro e w' ⟨rfl, m', rfl⟩)
  go_ret
  exact ⟨by rw [← HE.out]; rfl, below_drewN ((Below.refl _ _).alloc (Nat.le_refl _) _) m'⟩
end Go.Proofs.YtdkmdmpaflgfaaaGreatDoor

namespace Go.Proofs.YtdkmdmpaflgfaaaGreatDoor
open Go.RowKit

noncomputable def entB (xs e : List Int) : Bool := @decide (EntM xs e) (Classical.propDecidable _)
theorem entB_true {xs e : List Int} (h : EntM xs e) : entB xs e = true := by unfold entB; simp [h]
theorem entB_false {xs e : List Int} (h : ¬ EntM xs e) : entB xs e = false := by unfold entB; simp [h]
theorem entB_iff {xs e : List Int} : entB xs e = true ↔ EntM xs e := by unfold entB; simp

theorem isStem_any (x : Int) (w : World) : Calls Tryz.prog 123 #[.int .i64 x] w fun e w' => e = .returned (.bool (inB x 0 20)) ∧ w = w' := by
  have HI := Lib.hid (fun W => in_any x 0 20 W)
  go_enter Tryz.func123, Tryz.ntmps123
  go_wp2_with (go_at_call 102; refine (HI.out _).mono ?_; rintro e w' ⟨rfl, rfl⟩)
  go_ret
  exact ⟨rfl, rfl⟩

set_option maxRecDepth 100000 in
set_option maxHeartbeats 2000000 in
theorem entAsk (wc : World) (lb mb n c : Nat) (A : Option Addr) (xs : List Int) (r : Row) (hn : n = xs.length) (hn16 : n ≤ 16) (hd : ∀ i, i < xs.length → 0 ≤ xs.getD i 0 ∧ xs.getD i 0 ≤ 20)
    (hlc : wc.cell? ⟨lb, 0, none⟩ = some (.int .i64 ((n : Int) - 1))) (hmc : wc.cell? ⟨mb, 0, none⟩ = some (.slice A n c)) (hR : Rd wc A (iv xs)) (hr : Rd wc r.A (iv r.xs)) (hle : r.xs.length ≤ 1048576) :
    AsksN Tryz.prog 127 #[.pointer (some ⟨lb, 0, none⟩), .pointer (some ⟨mb, 0, none⟩)] wc r.val (entB xs r.xs) := by
  intro q
  obtain ⟨rA, rc, rx⟩ := r
  simp only [Row.val] at hr hle ⊢
  show Calls Tryz.prog 127 #[.slice rA rx.length rc, .pointer (some ⟨lb, 0, none⟩), .pointer (some ⟨mb, 0, none⟩)] (wc.drewN q) _
  have HNO := Lib.hid (fun (h : ¬ EntM xs rx) => entB_false h)
  have Hn := Lib.hid hn
  have HD := Lib.hid hd
  by_cases h3 : rx.length = 3
  · have HR := Lib.hid hR
    obtain ⟨b1, o1, rfl, hy0⟩ := hr.atI (k := 0) (by omega)
    rw [Nat.add_zero] at hy0
    have hy1 := hr.cellI (k := 1) (by omega)
    have hy2 := hr.cellI (k := 2) (by omega)
    have HI0 := Lib.hid (fun W => in_any (rx.getD 0 0) 1 20 W)
    have HI1 := Lib.hid (fun W => in_any (rx.getD 1 0) 0 ((n : Int) - 1) W)
    have HI2 := Lib.hid (fun W => in_any (rx.getD 2 0) 0 ((n : Int) - 1) W)
    have HM := Lib.hid (fun (g0 : 1 ≤ rx.getD 0 0) g1 g2 g3 g4 g5 => entB_true (⟨h3, g0, g1, g2, g3, g4, g5⟩ : EntM xs rx))
    have HN0 := Lib.hid (fun (h : ¬ (1 ≤ rx.getD 0 0 ∧ rx.getD 0 0 ≤ 20)) => HNO.out (fun e => h ⟨e.pos, e.le20 hd⟩))
    have HN1 := Lib.hid (fun (h : ¬ (0 ≤ rx.getD 1 0 ∧ rx.getD 1 0 ≤ (n : Int) - 1)) => HNO.out (fun e => h ⟨e.lo1, by have := e.hi1; omega⟩))
    have HN2 := Lib.hid (fun (h : ¬ (0 ≤ rx.getD 2 0 ∧ rx.getD 2 0 ≤ (n : Int) - 1)) => HNO.out (fun e => h ⟨e.lo2, by have := e.hi2; omega⟩))
    have HN3 := Lib.hid (fun (h : ¬ xs.getD (rx.getD 2 0).toNat 0 = xs.getD (rx.getD 1 0).toNat 0 + rx.getD 0 0) => HNO.out (fun e => h e.dg))
    rw [h3]
    clear hr hle hn hd hR HNO h3
    generalize rx.getD 0 0 = e0 at *
    generalize rx.getD 1 0 = e1 at *
    generalize rx.getD 2 0 = e2 at *
    cases hb0 : inB e0 1 20
    · rw [hb0] at HI0
      have HF := Lib.hid (HN0.out (inB_not hb0))
      clear hb0
      go_enter Tryz.func127, Tryz.ntmps127
      go_wp2_with fail
      go_big_quiet ((go_at_call 102; first | with_reducible exact quiet_add_left (HI0.out _) | with_reducible exact quiet_left (HI0.out _)))
      go_wp2_with fail
      go_ret
      exact ⟨by rw [HF.out]; rfl, _, by rw [World.drewN_drewN]⟩
    · rw [hb0] at HI0
      obtain ⟨hlo0, hhi0⟩ := inB_true2 hb0
      clear hb0
      cases hb1 : inB e1 0 ((n : Int) - 1)
      · rw [hb1] at HI1
        have HF := Lib.hid (HN1.out (inB_not hb1))
        clear hb1
        go_enter Tryz.func127, Tryz.ntmps127
        go_wp2_with fail
        go_big_quiet ((go_at_call 102; first | with_reducible exact quiet_add_left (HI0.out _) | with_reducible exact quiet_left (HI0.out _) | with_reducible exact quiet_add_left (HI1.out _) | with_reducible exact quiet_left (HI1.out _)))
        go_wp2_with fail
        go_ret
        exact ⟨by rw [HF.out]; rfl, _, by rw [World.drewN_drewN]⟩
      · rw [hb1] at HI1
        obtain ⟨hlo1, hhi1⟩ := inB_true2 hb1
        clear hb1
        cases hb2 : inB e2 0 ((n : Int) - 1)
        · rw [hb2] at HI2
          have HF := Lib.hid (HN2.out (inB_not hb2))
          clear hb2
          go_enter Tryz.func127, Tryz.ntmps127
          go_wp2_with fail
          go_big_quiet ((go_at_call 102; first | with_reducible exact quiet_add_left (HI0.out _) | with_reducible exact quiet_left (HI0.out _) | with_reducible exact quiet_add_left (HI1.out _) | with_reducible exact quiet_left (HI1.out _) | with_reducible exact quiet_add_left (HI2.out _) | with_reducible exact quiet_left (HI2.out _)))
          go_wp2_with fail
          go_ret
          exact ⟨by rw [HF.out]; rfl, _, by rw [World.drewN_drewN]⟩
        · rw [hb2] at HI2
          obtain ⟨hlo2, hhi2⟩ := inB_true2 hb2
          clear hb2
          obtain ⟨i1, rfl⟩ := Int.eq_ofNat_of_zero_le hlo1
          obtain ⟨i2, rfl⟩ := Int.eq_ofNat_of_zero_le hlo2
          rw [Int.toNat_natCast, Int.toNat_natCast] at HN3 HM
          have hi1 : i1 < n := by omega
          have hi2 : i2 < n := by omega
          obtain ⟨b3, o3, rfl, hd1⟩ := HR.out.atI (k := i1) (by rw [← Hn.out]; exact hi1)
          have hd2 := HR.out.cellI (k := i2) (by rw [← Hn.out]; exact hi2)
          have hbd1 := HD.out i1 (by rw [← Hn.out]; exact hi1)
          have hbd2 := HD.out i2 (by rw [← Hn.out]; exact hi2)
          have hi1' : (i1 : Int) < (n : Int) := by omega
          have hi2' : (i2 : Int) < (n : Int) := by omega
          generalize xs.getD i1 0 = d1 at *
          generalize xs.getD i2 0 = d2 at *
          obtain ⟨g1, g2⟩ := hbd1
          obtain ⟨g3, g4⟩ := hbd2
          have hw2 : IntKind.i64.wrap (d1 + e0) = d1 + e0 := by rw [IntKind.wrap_i64]; omega
          by_cases heq : d2 = d1 + e0
          · have HEN := Lib.hid (HM.out (by omega) (by omega) (by rw [← Hn.out]; exact hi1') (by omega) (by rw [← Hn.out]; exact hi2') (by omega))
            have heb : (d2 == d1 + e0) = true := by simpa using heq
            clear heq
            go_enter Tryz.func127, Tryz.ntmps127
            go_wp2_with fail
            go_big_quiet ((go_at_call 102; first | with_reducible exact quiet_add_left (HI0.out _) | with_reducible exact quiet_left (HI0.out _) | with_reducible exact quiet_add_left (HI1.out _) | with_reducible exact quiet_left (HI1.out _) | with_reducible exact quiet_add_left (HI2.out _) | with_reducible exact quiet_left (HI2.out _)))
            go_wp2_with fail
            go_big_quiet (fail)
            go_wp2_with fail
            go_ret
            exact ⟨by rw [HEN.out]; rfl, _, by rw [World.drewN_drewN, World.drewN_drewN]⟩
          · have HF := Lib.hid (HN3.out (by omega))
            have heb : (d2 == d1 + e0) = false := by simpa using heq
            clear heq
            go_enter Tryz.func127, Tryz.ntmps127
            go_wp2_with fail
            go_big_quiet ((go_at_call 102; first | with_reducible exact quiet_add_left (HI0.out _) | with_reducible exact quiet_left (HI0.out _) | with_reducible exact quiet_add_left (HI1.out _) | with_reducible exact quiet_left (HI1.out _) | with_reducible exact quiet_add_left (HI2.out _) | with_reducible exact quiet_left (HI2.out _)))
            go_wp2_with fail
            go_big_quiet (fail)
            go_wp2_with fail
            go_ret
            exact ⟨by rw [HF.out]; rfl, _, by rw [World.drewN_drewN, World.drewN_drewN]⟩
  · have hrb : ((rx.length : Int) != 3) = true := by simp; omega
    have HF := Lib.hid (HNO.out (fun e => h3 e.len))
    clear hr hn hd hR HNO h3
    go_enter Tryz.func127, Tryz.ntmps127
    go_wp2_with fail
    go_big_quiet (fail)
    go_wp2_with fail
    go_ret
    exact ⟨by rw [HF.out]; rfl, _, by rw [World.drewN_drewN]⟩
end Go.Proofs.YtdkmdmpaflgfaaaGreatDoor
