/- spanOf · the reference's l02Low, l02Without · the reference's l02Put, l02Reduce · the reference's l02Reduce · IsMatrix and the reference's l02Is · the reference's l02Is · the reference's l02Reduce, RankOf · eqMatrix; the program's RankOf · FnExactRankOf: the walk of the law · plain mathematics: spaces, echelon lists, solutions · plain mathematics: the reference's solving, inverses · plain mathematics: the inverse of a matrix, by both ways · HasMask: both sides · l02Both, equalColumns; ComplementRows on both sides · an append onto one of two own rows (split from S) · ComplementRows on both sides · own rows beside a span -/
import Derived.Test.YtjhlmalpcelbaaaDoorBxad
import Derived.Test.YtjhlmalpcelbaaaDoorBxaa
import Derived.Deep.Onto
import Derived.Test.YtjhlmalpcelbaaaDoorBxab
set_option linter.all false
namespace Go.Proofs.YtjhlmalpcelbaaaDoor
open Go.RowKit

/-- What the two contracts of 'add' say together. -/
def AddRes (L : List (Nat × Nat)) (p : Nat × Nat) : Value := .tuple #[.int .i64 (if (leftN L p).1 = 0 then (leftN L p).2 else 0 : Nat), .bool (decide ((leftN L p).1 ≠ 0))]
theorem add_any (B bs : Nat) (v1 v2 : Value) (L : List (Nat × Nat)) (x y : Nat) (w : World) (hT : Tab w) (hB : 0 < B) (hBw : B ≤ w.heap.size) (hs : SpanAt w B bs v1 v2 L) (hsmall : L.length ≤ 1000000)
    (hx : Sm x) (hy : Sm y) (hg : Good L) :
    Calls Tryd.prog 60 #[.pointer (some ⟨bs, 0, none⟩), .int .i64 x, .int .i64 y] w fun e w' => e = .returned (AddRes L (x, y)) ∧ AddPost w B bs v1 v2 (addL L (x, y)) w' := by
  by_cases h0 : (leftN L (x, y)).1 = 0
  · refine (add_no B bs v1 v2 L x y w hT hs hsmall hx hy hg h0).mono ?_
    rintro e w' ⟨rfl, m, rfl⟩
    refine ⟨by simp [AddRes, h0], Keeps.ofDrewN w m, v1, v2, ?_, .inl rfl, .inl rfl⟩
    unfold addL; rw [if_pos h0]
    exact hs.keeps (Keeps.ofDrewN (S := []) w m) (by simp) (.inr (by simp)) (.inr (by simp))
  · refine (add_yes B bs v1 v2 L x y w hT hB hBw hs hsmall hx hy hg h0).mono ?_
    rintro e w' ⟨rfl, h⟩
    refine ⟨by simp [AddRes, h0], ?_⟩
    unfold addL; rw [if_neg h0]; exact h

theorem AddPost.below {w w' : World} {B bs : Nat} {v1 v2 : Value} {L N : List (Nat × Nat)} (h : AddPost w B bs v1 v2 N w') (hs : SpanAt w B bs v1 v2 L) (hBw : B ≤ w.heap.size) : Below B w w' :=
  h.1.to_below hBw (fun j hj => by
    simp only [List.mem_cons, List.not_mem_nil, or_false] at hj
    rcases hj with hj | hj | hj
    · injection hj with hj; rw [hj]; exact hs.lo
    · exact (hs.own1.lt j hj.symm).1
    · exact (hs.own2.lt j hj.symm).1)

theorem Tab.below {B : Nat} {w w' : World} (h : Tab w) (hb : Below B w w') (hB : 0 < B) : Tab w' := fun j hj => (hb.cell (p := ⟨0, j, none⟩) hB).trans (h j hj)
theorem SpanAt.new (w : World) : SpanAt (w.alloc (.cells #[.slice none 0 0, .slice none 0 0] 68)) w.heap.size w.heap.size (.slice none 0 0) (.slice none 0 0) [] :=
  ⟨heap_alloc_new w _, Nat.le_refl _, World.ownsRow_nil _ _ _ _, World.ownsRow_nil _ _ _ _, .inl rfl⟩

set_option maxHeartbeats 1000000 in
theorem spanOf_any (A : Option Addr) (n c : Nat) (rows : List Nat) (w : World) (hT : Tab w) (hw : 0 < w.heap.size) (hn : n = rows.length) (hsmall : n ≤ 1000000) (hS : ∀ r ∈ rows, Sm r) (hR : Rd w A (nv rows)) :
    Calls Tryd.prog 59 #[.slice A n c] w fun e w' => e = .returned (.pointer (some ⟨w.heap.size, 0, none⟩)) ∧ (∃ v1 v2, SpanAt w' w.heap.size w.heap.size v1 v2 (spanL (zs rows))) ∧ Below w.heap.size w w' := by
  have Hn := Lib.hid hn
  have HR := Lib.hid hR
  have HS := Lib.hid hS
  have HT := Lib.hid hT
  have hsp := SpanAt.new w
  have HSP := Lib.hid hsp
  clear hn hR hS hT hsp
  go_enter Tryd.func59, Tryd.ntmps59
  go_wp2_with fail
  go_loopw [10] (fun i wr => ∃ k : Nat, k ≤ n ∧ i = .int .i64 k ∧ (∃ v1 v2, SpanAt wr w.heap.size w.heap.size v1 v2 (spanL (zs (rows.take k)))) ∧ Below w.heap.size w wr) (fun i _ => n - (intOf i).toNat)
  case atStart => exact ⟨0, by omega, rfl, ⟨_, _, HSP.out⟩, (Below.refl _ _).alloc (Nat.le_refl _) _⟩
  case round =>
    obtain ⟨k, hk, rfl, ⟨v1, v2, hsp⟩, hbel⟩ := hrel
    have hsz : w.heap.size ≤ wr.heap.size := hbel.size
    by_cases hlt : k < n
    · have hkL : k < rows.length := by rw [← Hn.out]; exact hlt
      obtain ⟨b, o, rfl, hc⟩ := (HR.out.below hbel).atN hkL
      have hm : rows.getD k 0 ∈ rows := by simp [List.getD, hkL]
      have g1 := HS.out _ hm
      have e1 : zs (rows.take (k + 1)) = (zs rows).take (k + 1) := by simp [zs, List.map_take]
      have e2 : zs (rows.take k) = (zs rows).take k := by simp [zs, List.map_take]
      have e3 : (zs rows).getD k (0, 0) = (rows.getD k 0, 0) := by simp [zs, List.getD, hkL]
      have Hs : Hid (spanL (zs (rows.take (k + 1))) = addL (spanL (zs (rows.take k))) (rows.getD k 0, 0)) := by
        show _ = _; rw [e1, e2, spanL_take_succ (zs rows) k (by rw [zs_length]; exact hkL), e3]
      have hl := spanL_length_le (zs (rows.take k))
      rw [zs_length, List.length_take] at hl
      have hgd := (spanL_perm (zs (rows.take k)) (fun p hp => by
        obtain ⟨r, hr, rfl⟩ := List.mem_map.1 hp; exact ⟨HS.out r (List.mem_of_mem_take hr), Sm.zero⟩)).2.2
      generalize spanL (zs (rows.take k)) = L at *
      generalize rows.getD k 0 = r at *
      have hp := add_any w.heap.size w.heap.size v1 v2 L r 0 wr (HT.out.below hbel hw) hw hsz hsp (by omega) g1 Sm.zero hgd
      have HP := Lib.hid hp
      have HB := Lib.hid hbel
      have HSQ := Lib.hid hsp
      clear hp hsp hbel hm hgd e1 e2 e3 hl
      go_wp2_with (go_at_call 60; refine HP.out.mono ?_; rintro e w1 ⟨rfl, hpost⟩)
      have HPO := Lib.hid hpost
      clear hpost
      go_roundw
      case rel =>
        obtain ⟨_, u1, u2, hs2, _, _⟩ := HPO.out
        exact ⟨k + 1, by omega, by go_num, ⟨u1, u2, by rw [Hs.out]; exact hs2⟩, HB.out.trans (HPO.out.below HSQ.out hsz)⟩
      case measure => simp [intOf]; omega
    · have ek : rows.take k = rows := List.take_of_length_le (by rw [← Hn.out]; omega)
      rw [ek] at hsp
      have HS' := Lib.hid hsp
      have HB := Lib.hid hbel
      clear hsp hbel
      go_wp2_with fail
      go_ret
      exact ⟨rfl, ⟨v1, v2, HS'.out⟩, HB.out⟩
end Go.Proofs.YtjhlmalpcelbaaaDoor

namespace Go.Proofs.YtjhlmalpcelbaaaDoor
open Go.RowKit

def pw (p : Nat) : Nat := 2 ^ p
theorem low_val {a : Nat} (h0 : a ≠ 0) (h : Sm a) : bits .and .i64 (a : Int) (wrap64 (-(a : Int))) = ((pw (pv a) : Nat) : Int) := by
  unfold Sm at h
  obtain ⟨hl, hk⟩ := Lib.lowest_bit 64 a h0 (by omega)
  have e : wrap64 (-(a : Int)) = -(a : Int) := by unfold wrap64; omega
  have hp : 2 ^ pv a ≤ a := by
    have : a &&& (2 ^ 64 - a) ≤ a := Nat.and_le_left
    unfold pv; omega
  rw [e]
  show IntKind.i64.wrap ((BitVec.ofInt 64 (a : Int) &&& BitVec.ofInt 64 (-(a : Int))).toNat : Int) = _
  have e2 : (BitVec.ofInt 64 (-(a : Int))).toNat = 2 ^ 64 - a := by
    rw [BitVec.toNat_ofInt]
    omega
  rw [BitVec.toNat_and, ofInt64_nat a (by omega), e2, hl, IntKind.wrap_i64]
  unfold pw pv at *
  omega
theorem pw_sm {p : Nat} (h : p ≤ 62) : Sm (pw p) := by
  unfold Sm pw
  have : 2 ^ p ≤ 2 ^ 62 := Nat.pow_le_pow_right (by omega) h
  have e : (2 ^ 62 : Nat) = 4611686018427387904 := by decide
  omega
theorem and_pw (v p : Nat) : an v (pw p) = if tb v p then pw p else 0 := by
  apply Nat.eq_of_testBit_eq
  intro i
  unfold an pw tb
  rw [Nat.testBit_and, Nat.testBit_two_pow]
  by_cases h : p = i
  · subst h
    cases hb : v.testBit p <;> simp
  · split
    · rw [Nat.testBit_two_pow]; simp [h]
    · simp [h]
theorem and_pw_ne {v p : Nat} (hv : Sm v) (hp : p ≤ 62) : (bits .and .i64 (v : Int) ((pw p : Nat) : Int) != 0) = tb v p := by
  rw [i64_and_nat hv (pw_sm hp), and_pw]
  cases tb v p with
  | true => exact bne_iff_ne.2 (fun e => Nat.ne_of_gt (Nat.two_pow_pos p) (Int.ofNat_eq_zero.1 e))
  | false => rfl
theorem pw_lt (p q : Nat) : (((pw p : Nat) : Int) < ((pw q : Nat) : Int)) = (p < q) := by
  unfold pw
  rw [Int.ofNat_lt]
  exact propext (Nat.pow_lt_pow_iff_right (by omega))

theorem pw_ltN (p q : Nat) : (pw p < pw q) = (p < q) := by
  unfold pw; exact propext (Nat.pow_lt_pow_iff_right (by omega))

set_option maxHeartbeats 400000 in
theorem low_any (x : Nat) (h0 : x ≠ 0) (hx : Sm x) (w : World) : Calls Tryd.prog 94 #[.int .i64 x] w fun e w' => e = .returned (.int .i64 (pw (pv x))) ∧ w = w' := by
  have hl := low_val h0 hx
  go_enter Tryd.func94, Tryd.ntmps94
  go_wp2
  go_ret
  exact ⟨rfl, rfl⟩

theorem leftS_take_succ (S : List Nat) (x k : Nat) (h : k < S.length) : leftS (S.take (k + 1)) x = if tb (leftS (S.take k) x) (pv (S.getD k 0)) then xr (leftS (S.take k) x) (S.getD k 0) else leftS (S.take k) x := by
  unfold leftS; rw [fold_take_succ _ _ _ _ 0 h]

attribute [local go_sem] i64_xor_nat and_pw_ne in
set_option maxHeartbeats 1000000 in
theorem without_any (A : Option Addr) (n c : Nat) (S : List Nat) (x : Nat) (w : World) (hn : n = S.length) (hsmall : n ≤ 1000000) (hx : Sm x) (hS : ∀ r ∈ S, r ≠ 0 ∧ Sm r) (hA : Rd w A (nv S)) :
    Calls Tryd.prog 61 #[.slice A n c, .int .i64 x] w fun e w' => e = .returned (.int .i64 (leftS S x)) ∧ w = w' := by
  have Hn := Lib.hid hn; clear hn
  go_enter Tryd.func61, Tryd.ntmps61
  go_wp2_with fail
  go_loop [1, 5] (fun v i => ∃ k : Nat, k ≤ n ∧ i = .int .i64 k ∧ v = .int .i64 (leftS (S.take k) x)) (fun _ i => n - (intOf i).toNat)
  case atStart => exact ⟨0, by omega, rfl, rfl⟩
  case round =>
    obtain ⟨k, hk, rfl, rfl⟩ := hrel
    by_cases hlt : k < n
    · have hkL : k < S.length := by rw [← Hn.out]; exact hlt
      obtain ⟨b, o, rfl, hc⟩ := hA.atN hkL
      have hm : S.getD k 0 ∈ S := by simp [List.getD, hkL]
      obtain ⟨g0, g1⟩ := hS _ hm
      have Hs := Lib.hid (leftS_take_succ S x k hkL)
      have hp : Sm (leftS (S.take k) x) := leftS_sm (fun r hr => hS r (List.mem_of_mem_take hr)) hx
      generalize leftS (S.take k) x = v at *
      generalize S.getD k 0 = r at *
      have hpv := pv_le g0 g1
      have HL := Lib.hid (fun W => low_any r g0 g1 W)
      clear hA hS hm
      cases hb : tb v (pv r)
      all_goals
        go_wp2_with (go_at_call 94; refine (HL.out _).mono ?_; rintro e w' ⟨rfl, rfl⟩)
        go_round
        case rel => exact ⟨k + 1, by omega, by go_num, by rw [Hs.out, hb]; rfl⟩
        case measure => simp [intOf]; omega
    · have ek : S.take k = S := List.take_of_length_le (by rw [← Hn.out]; omega)
      rw [ek]
      go_wp2_with fail
      go_ret
      exact ⟨rfl, rfl⟩
end Go.Proofs.YtjhlmalpcelbaaaDoor

namespace Go.Proofs.YtjhlmalpcelbaaaDoor
open Go.RowKit

theorem nv_snoc (xs : List Nat) (x : Nat) : nv xs ++ [.int .i64 (x : Int)] = nv (xs ++ [x]) := by simp [nv]

/-- the loop of l02Put after k rounds -/
def putK (x : Nat) (S : List Nat) (k : Nat) : List Nat × Bool := (S.take k).foldl (putStep x) ([], false)
theorem putK_succ (x : Nat) (S : List Nat) (k : Nat) (h : k < S.length) : putK x S (k + 1) = putStep x (putK x S k) (S.getD k 0) := fold_take_succ _ _ _ _ 0 h
theorem putStep_len (x : Nat) (p : List Nat × Bool) (r : Nat) : (putStep x p r).1.length ≤ p.1.length + 2 := by
  unfold putStep; split <;> simp
theorem putK_len (x : Nat) (S : List Nat) (k : Nat) : (putK x S k).1.length ≤ 2 * k := by
  induction k with
  | zero => simp [putK]
  | succ k ih =>
    by_cases h : k < S.length
    · rw [putK_succ x S k h]; have := putStep_len x (putK x S k) (S.getD k 0); omega
    · have : putK x S (k + 1) = putK x S k := by unfold putK; rw [List.take_of_length_le (by omega), List.take_of_length_le (by omega)]
      rw [this]; omega

/-- a row of the call's own made longer by one -/
theorem below_app {H : Nat} {w wr w1 : World} {v : Value} {n : Nat} {xs : List Value} {e : TypeId} (hb : Below H w wr) (hH : H ≤ wr.heap.size) (hown : wr.ownsRow H e 1 v n xs) {o : Obj} (hg : (wr.alloc o).grownBy w1 v.ownBlock) : Below H w w1 :=
  (hb.alloc hH o).grown hg (by simp; omega) (fun k hk => (hown.lt k hk).1)

theorem own_cast {w : World} {B : Nat} {e : TypeId} {v : Value} {n m : Nat} {xs ys : List Value} (h : w.ownsRow B e 1 v n xs) (hn : n = m) (hx : xs = ys) : w.ownsRow B e 1 v m ys := by
  subst hn; subst hx; exact h

attribute [local go_sem] i64_xor_nat and_pw_ne pw_lt pw_ltN in
set_option maxRecDepth 100000 in
set_option maxHeartbeats 2000000 in
theorem put_any (B : Nat) (v : Value) (S : List Nat) (x : Nat) (w : World) (hB : B ≤ w.heap.size) (hown : w.ownsRow B 2 1 v S.length (nv S)) (hsmall : S.length ≤ 1000000) (hx : Sm x) (hS : Red S) :
    Calls Tryd.prog 56 #[v, .int .i64 x] w fun e w' => ∃ v', e = .returned v' ∧ w'.ownsRow B 2 1 v' (putS S x).length (nv (putS S x)) ∧ Below w.heap.size w w' ∧ (v' = v ∨ w'.ownsRow w.heap.size 2 1 v' (putS S x).length (nv (putS S x))) := by
  obtain ⟨A, c, rfl, _, hA, _⟩ := owns_shape hown
  have hR := owns_Rd hown
  have hw := without_any A S.length c S x w rfl hsmall hx hS.ne hR
  by_cases h0 : leftS S x = 0
  · rw [h0] at hw
    have HW := Lib.hid hw
    have e : putS S x = S := by unfold putS; rw [if_pos h0]
    have HE := Lib.hid e
    have HO := Lib.hid hown
    clear hw e h0 hR hA hown hS
    go_enter Tryd.func56, Tryd.ntmps56
    go_wp2_with (go_at_call 61; refine HW.out.mono ?_; rintro e w' ⟨rfl, rfl⟩)
    go_ret
    exact ⟨_, rfl, by rw [HE.out]; exact HO.out, Below.refl _ _, .inl rfl⟩
  · have e : putS S x = putEnd (leftS S x) (putK (leftS S x) S S.length) := by unfold putS putK; rw [if_neg h0, List.take_length]
    have hsm := leftS_sm hS.ne hx
    generalize leftS S x = y at *
    have HW := Lib.hid hw
    have HE := Lib.hid e
    have hy0 : ((y : Int) == 0) = false := by simp; exact h0
    have hpy := pv_le h0 hsm
    have HLy := Lib.hid (fun W => low_any y h0 hsm W)
    have HR := Lib.hid hR
    have HS := Lib.hid hS.ne
    clear hw e hR hA hown hS h0
    go_enter Tryd.func56, Tryd.ntmps56
    go_wp2_with (first | (go_at_call 61; refine HW.out.mono ?_; rintro e w' ⟨rfl, rfl⟩) | (go_at_call 94; refine (HLy.out _).mono ?_; rintro e w' ⟨rfl, rfl⟩))
    go_loopw [6, 7, 8] (fun o d i wr => ∃ k : Nat, k ≤ S.length ∧ i = .int .i64 k ∧ d = .bool (putK y S k).2 ∧ wr.ownsRow w.heap.size 2 1 o (putK y S k).1.length (nv (putK y S k).1) ∧ Below w.heap.size w wr) (fun _ _ i _ => S.length - (intOf i).toNat)
    case atStart => exact ⟨0, by omega, rfl, rfl, World.ownsRow_made w #[] 0 (Nat.le_refl _) (by decide) (by simp), (Below.refl _ _).alloc (Nat.le_refl _) _⟩
    case round =>
      obtain ⟨k, hk, rfl, rfl, hown, hbel⟩ := hrel
      have hsz : w.heap.size ≤ wr.heap.size := hbel.size
      by_cases hlt : k < S.length
      · have hc := (HR.out.below hbel).atN hlt
        obtain ⟨b, o, rfl, hc⟩ := hc
        have hm : S.getD k 0 ∈ S := by simp [List.getD, hlt]
        obtain ⟨g0, g1⟩ := HS.out _ hm
        have Hs := Lib.hid (putK_succ y S k hlt)
        have hl := putK_len y S k
        generalize putK y S k = p at *
        generalize S.getD k 0 = r at *
        obtain ⟨out, done⟩ := p
        have hpv := pv_le g0 g1
        have HL := Lib.hid (fun W => low_any r g0 g1 W)
        have HO := Lib.hid hown
        have HB := Lib.hid hbel
        clear hown hbel hm
        simp only at hl
        cases done
        · by_cases hp : pv y < pv r
          · cases hb : tb r (pv y)
            · go_wp2_with (first | (go_at_call 94; refine (HL.out _).mono ?_; rintro e w' ⟨rfl, rfl⟩) | (at_builtin; refine wpList_app1 _ _ _ _ _ etI (by rfl) (by rfl) w.heap.size _ out.length (nv out) (by rfl) ?_ _ (.int .i64 (y : Int)) (by rfl) ?_ (by rfl) ?_ ?_ ?_; exact HO.out.alloc _; exact new_cell _ _ _; omega; (simp; omega); (intro g1' cap1 w1 hown1 hgrow1 hat1 hlt1; have HO1 : Hid (w1.ownsRow w.heap.size 2 1 (.slice (some ⟨g1', 0, none⟩) (out.length + 1) cap1) (out.length + 1) (nv (out ++ [y]))) := (by rw [← nv_snoc]; exact hown1); have HB1 := Lib.hid (below_app HB.out hsz HO.out hgrow1); have hsz1 : w.heap.size ≤ w1.heap.size := HB1.out.size; clear hown1 hgrow1 hat1 hlt1)) | (at_builtin; refine wpList_app1 _ _ _ _ _ etI (by rfl) (by rfl) w.heap.size _ (out.length + 1) (nv (out ++ [y])) (by rfl) ?_ _ (.int .i64 (r : Int)) (by rfl) ?_ (by rfl) ?_ ?_ ?_; exact HO1.out.alloc _; exact new_cell _ _ _; omega; (simp; omega); (intro g2' cap2 w2 hown2 hgrow2 hat2 hlt2; have HO2 : Hid (w2.ownsRow w.heap.size 2 1 (.slice (some ⟨g2', 0, none⟩) (out.length + 1 + 1) cap2) (out.length + 1 + 1) (nv (out ++ [y] ++ [r]))) := (by rw [← nv_snoc]; exact hown2); have HB2 := Lib.hid (below_app HB1.out hsz1 HO1.out hgrow2); clear hown2 hgrow2 hat2 hlt2)))
              go_roundw
              case rel => exact ⟨k + 1, by omega, by go_num, by rw [Hs.out]; simp [putStep, hp], own_cast HO2.out (by rw [Hs.out]; simp [putStep, hp]) (by rw [Hs.out]; simp [putStep, stepS, hb, hp]), HB2.out⟩
              case measure => simp [intOf]; omega
            · go_wp2_with (first | (go_at_call 94; refine (HL.out _).mono ?_; rintro e w' ⟨rfl, rfl⟩) | (at_builtin; refine wpList_app1 _ _ _ _ _ etI (by rfl) (by rfl) w.heap.size _ out.length (nv out) (by rfl) ?_ _ (.int .i64 (y : Int)) (by rfl) ?_ (by rfl) ?_ ?_ ?_; exact HO.out.alloc _; exact new_cell _ _ _; omega; (simp; omega); (intro g1' cap1 w1 hown1 hgrow1 hat1 hlt1; have HO1 : Hid (w1.ownsRow w.heap.size 2 1 (.slice (some ⟨g1', 0, none⟩) (out.length + 1) cap1) (out.length + 1) (nv (out ++ [y]))) := (by rw [← nv_snoc]; exact hown1); have HB1 := Lib.hid (below_app HB.out hsz HO.out hgrow1); have hsz1 : w.heap.size ≤ w1.heap.size := HB1.out.size; clear hown1 hgrow1 hat1 hlt1)) | (at_builtin; refine wpList_app1 _ _ _ _ _ etI (by rfl) (by rfl) w.heap.size _ (out.length + 1) (nv (out ++ [y])) (by rfl) ?_ _ (.int .i64 (xr r y : Int)) (by rfl) ?_ (by rfl) ?_ ?_ ?_; exact HO1.out.alloc _; exact new_cell _ _ _; omega; (simp; omega); (intro g2' cap2 w2 hown2 hgrow2 hat2 hlt2; have HO2 : Hid (w2.ownsRow w.heap.size 2 1 (.slice (some ⟨g2', 0, none⟩) (out.length + 1 + 1) cap2) (out.length + 1 + 1) (nv (out ++ [y] ++ [xr r y]))) := (by rw [← nv_snoc]; exact hown2); have HB2 := Lib.hid (below_app HB1.out hsz1 HO1.out hgrow2); clear hown2 hgrow2 hat2 hlt2)))
              go_roundw
              case rel => exact ⟨k + 1, by omega, by go_num, by rw [Hs.out]; simp [putStep, hp], own_cast HO2.out (by rw [Hs.out]; simp [putStep, hp]) (by rw [Hs.out]; simp [putStep, stepS, hb, hp]), HB2.out⟩
              case measure => simp [intOf]; omega
          · have hp' : decide (pv y < pv r) = false := by simpa using hp
            cases hb : tb r (pv y)
            · go_wp2_with (first | (go_at_call 94; refine (HL.out _).mono ?_; rintro e w' ⟨rfl, rfl⟩) | (at_builtin; refine wpList_app1 _ _ _ _ _ etI (by rfl) (by rfl) w.heap.size _ out.length (nv out) (by rfl) ?_ _ (.int .i64 (r : Int)) (by rfl) ?_ (by rfl) ?_ ?_ ?_; exact HO.out.alloc _; exact new_cell _ _ _; omega; (simp; omega); (intro g1' cap1 w1 hown1 hgrow1 hat1 hlt1; have HO1 : Hid (w1.ownsRow w.heap.size 2 1 (.slice (some ⟨g1', 0, none⟩) (out.length + 1) cap1) (out.length + 1) (nv (out ++ [r]))) := (by rw [← nv_snoc]; exact hown1); have HB1 := Lib.hid (below_app HB.out hsz HO.out hgrow1); have hsz1 : w.heap.size ≤ w1.heap.size := HB1.out.size; clear hown1 hgrow1 hat1 hlt1)))
              go_roundw
              case rel => exact ⟨k + 1, by omega, by go_num, by rw [Hs.out]; simp [putStep, hp], own_cast HO1.out (by rw [Hs.out]; simp [putStep, hp]) (by rw [Hs.out]; simp [putStep, stepS, hb, hp]), HB1.out⟩
              case measure => simp [intOf]; omega
            · go_wp2_with (first | (go_at_call 94; refine (HL.out _).mono ?_; rintro e w' ⟨rfl, rfl⟩) | (at_builtin; refine wpList_app1 _ _ _ _ _ etI (by rfl) (by rfl) w.heap.size _ out.length (nv out) (by rfl) ?_ _ (.int .i64 (xr r y : Int)) (by rfl) ?_ (by rfl) ?_ ?_ ?_; exact HO.out.alloc _; exact new_cell _ _ _; omega; (simp; omega); (intro g1' cap1 w1 hown1 hgrow1 hat1 hlt1; have HO1 : Hid (w1.ownsRow w.heap.size 2 1 (.slice (some ⟨g1', 0, none⟩) (out.length + 1) cap1) (out.length + 1) (nv (out ++ [xr r y]))) := (by rw [← nv_snoc]; exact hown1); have HB1 := Lib.hid (below_app HB.out hsz HO.out hgrow1); have hsz1 : w.heap.size ≤ w1.heap.size := HB1.out.size; clear hown1 hgrow1 hat1 hlt1)))
              go_roundw
              case rel => exact ⟨k + 1, by omega, by go_num, by rw [Hs.out]; simp [putStep, hp], own_cast HO1.out (by rw [Hs.out]; simp [putStep, hp]) (by rw [Hs.out]; simp [putStep, stepS, hb, hp]), HB1.out⟩
              case measure => simp [intOf]; omega
        · cases hb : tb r (pv y)
          · go_wp2_with (first | (go_at_call 94; refine (HL.out _).mono ?_; rintro e w' ⟨rfl, rfl⟩) | (at_builtin; refine wpList_app1 _ _ _ _ _ etI (by rfl) (by rfl) w.heap.size _ out.length (nv out) (by rfl) ?_ _ (.int .i64 (r : Int)) (by rfl) ?_ (by rfl) ?_ ?_ ?_; exact HO.out.alloc _; exact new_cell _ _ _; omega; (simp; omega); (intro g1' cap1 w1 hown1 hgrow1 hat1 hlt1; have HO1 : Hid (w1.ownsRow w.heap.size 2 1 (.slice (some ⟨g1', 0, none⟩) (out.length + 1) cap1) (out.length + 1) (nv (out ++ [r]))) := (by rw [← nv_snoc]; exact hown1); have HB1 := Lib.hid (below_app HB.out hsz HO.out hgrow1); have hsz1 : w.heap.size ≤ w1.heap.size := HB1.out.size; clear hown1 hgrow1 hat1 hlt1)))
            go_roundw
            case rel => exact ⟨k + 1, by omega, by go_num, by rw [Hs.out]; simp [putStep], own_cast HO1.out (by rw [Hs.out]; simp [putStep]) (by rw [Hs.out]; simp [putStep, stepS, hb]), HB1.out⟩
            case measure => simp [intOf]; omega
          · go_wp2_with (first | (go_at_call 94; refine (HL.out _).mono ?_; rintro e w' ⟨rfl, rfl⟩) | (at_builtin; refine wpList_app1 _ _ _ _ _ etI (by rfl) (by rfl) w.heap.size _ out.length (nv out) (by rfl) ?_ _ (.int .i64 (xr r y : Int)) (by rfl) ?_ (by rfl) ?_ ?_ ?_; exact HO.out.alloc _; exact new_cell _ _ _; omega; (simp; omega); (intro g1' cap1 w1 hown1 hgrow1 hat1 hlt1; have HO1 : Hid (w1.ownsRow w.heap.size 2 1 (.slice (some ⟨g1', 0, none⟩) (out.length + 1) cap1) (out.length + 1) (nv (out ++ [xr r y]))) := (by rw [← nv_snoc]; exact hown1); have HB1 := Lib.hid (below_app HB.out hsz HO.out hgrow1); have hsz1 : w.heap.size ≤ w1.heap.size := HB1.out.size; clear hown1 hgrow1 hat1 hlt1)))
            go_roundw
            case rel => exact ⟨k + 1, by omega, by go_num, by rw [Hs.out]; simp [putStep], own_cast HO1.out (by rw [Hs.out]; simp [putStep]) (by rw [Hs.out]; simp [putStep, stepS, hb]), HB1.out⟩
            case measure => simp [intOf]; omega
      · have ek : k = S.length := by omega
        subst ek
        have hl := putK_len y S S.length
        generalize putK y S S.length = p at *
        obtain ⟨out, done⟩ := p
        have HO := Lib.hid hown
        have HB := Lib.hid hbel
        clear hown hbel
        simp only at hl
        cases done
        · go_wp2_with (at_builtin; refine wpList_app1 _ _ _ _ _ etI (by rfl) (by rfl) w.heap.size _ out.length (nv out) (by rfl) ?_ _ (.int .i64 (y : Int)) (by rfl) ?_ (by rfl) ?_ ?_ ?_; exact HO.out.alloc _; exact new_cell _ _ _; omega; (simp; omega); (intro g1' cap1 w1 hown1 hgrow1 hat1 hlt1; have HO1 : Hid (w1.ownsRow w.heap.size 2 1 (.slice (some ⟨g1', 0, none⟩) (out.length + 1) cap1) (out.length + 1) (nv (out ++ [y]))) := (by rw [← nv_snoc]; exact hown1); have HB1 := Lib.hid (below_app HB.out hsz HO.out hgrow1); have hsz1 : w.heap.size ≤ w1.heap.size := HB1.out.size; clear hown1 hgrow1 hat1 hlt1))
          go_ret
          refine ⟨_, rfl, own_cast ((HO1.out).mono hB) (by rw [HE.out]; simp [putEnd]) (by rw [HE.out]; simp [putEnd]), HB1.out, .inr (own_cast HO1.out (by rw [HE.out]; simp [putEnd]) (by rw [HE.out]; simp [putEnd]))⟩
        · go_wp2_with fail
          go_ret
          refine ⟨_, rfl, own_cast ((HO.out).mono hB) (by rw [HE.out]; simp [putEnd]) (by rw [HE.out]; simp [putEnd]), HB.out, .inr (own_cast HO.out (by rw [HE.out]; simp [putEnd]) (by rw [HE.out]; simp [putEnd]))⟩
end Go.Proofs.YtjhlmalpcelbaaaDoor

namespace Go.Proofs.YtjhlmalpcelbaaaDoor
open Go.RowKit

set_option maxHeartbeats 1000000 in
theorem reduce_any (A : Option Addr) (n c : Nat) (rows : List Nat) (w : World) (hn : n = rows.length) (hsmall : n ≤ 1000000) (hS : ∀ r ∈ rows, Sm r) (hR : Rd w A (nv rows)) :
    Calls Tryd.prog 55 #[.slice A n c] w fun e w' => ∃ v', e = .returned v' ∧ w'.ownsRow w.heap.size 2 1 v' (reduceS rows).length (nv (reduceS rows)) ∧ Below w.heap.size w w' := by
  have Hn := Lib.hid hn
  have HR := Lib.hid hR
  have HS := Lib.hid hS
  clear hn hR hS
  go_enter Tryd.func55, Tryd.ntmps55
  go_wp2_with fail
  go_loopw [3, 4] (fun o i wr => ∃ k : Nat, k ≤ n ∧ i = .int .i64 k ∧ wr.ownsRow w.heap.size 2 1 o (reduceS (rows.take k)).length (nv (reduceS (rows.take k))) ∧ Below w.heap.size w wr) (fun _ i _ => n - (intOf i).toNat)
  case atStart => exact ⟨0, by omega, rfl, World.ownsRow_made w #[] 0 (Nat.le_refl _) (by decide) (by simp), (Below.refl _ _).alloc (Nat.le_refl _) _⟩
  case round =>
    obtain ⟨k, hk, rfl, hown, hbel⟩ := hrel
    have hsz : w.heap.size ≤ wr.heap.size := hbel.size
    by_cases hlt : k < n
    · have hkL : k < rows.length := by rw [← Hn.out]; exact hlt
      obtain ⟨b, o, rfl, hc⟩ := (HR.out.below hbel).atN hkL
      have hm : rows.getD k 0 ∈ rows := by simp [List.getD, hkL]
      have g1 := HS.out _ hm
      have Hs := Lib.hid (reduceS_take_succ rows k hkL)
      have hl := reduceS_length_le (rows.take k)
      rw [List.length_take] at hl
      have hred := red_reduce (rows := rows.take k) (fun r hr => HS.out r (List.mem_of_mem_take hr))
      generalize reduceS (rows.take k) = T at *
      generalize rows.getD k 0 = r at *
      have hp := put_any w.heap.size _ T r wr hsz hown (by omega) g1 hred
      have HP := Lib.hid hp
      have HB := Lib.hid hbel
      clear hp hown hbel hred hm
      go_wp2_with (go_at_call 56; refine HP.out.mono ?_; rintro e w1 ⟨v1, rfl, hown1, hb1, _⟩)
      go_roundw
      case rel => exact ⟨k + 1, by omega, by go_num, by rw [Hs.out]; exact hown1, HB.out.trans (hb1.mono hsz)⟩
      case measure => simp [intOf]; omega
    · have ek : rows.take k = rows := List.take_of_length_le (by rw [← Hn.out]; omega)
      rw [ek] at hown
      have HO := Lib.hid hown
      have HB := Lib.hid hbel
      clear hown hbel
      go_wp2_with fail
      go_ret
      exact ⟨_, rfl, HO.out, HB.out⟩

/-- the numbers of a list of masks -/
def toN (xs : List Int) : List Nat := xs.map Int.toNat
end Go.Proofs.YtjhlmalpcelbaaaDoor

namespace Go.Proofs.YtjhlmalpcelbaaaDoor
open Go.RowKit

def isMat (c : Int) (xs : List Int) : Bool := inB c 0 60 && (decide (xs.length ≤ 200) && xs.all fun x => maskB x c.toNat)
theorem inB_true {n lo hi : Int} (h : inB n lo hi = true) : lo ≤ n ∧ n ≤ hi := by simpa [inB] using h

theorem isMatrix_closure (c : Int) (hc0 : 0 ≤ c) (hc1 : c ≤ 60) (mb : Nat) (w : World) (hm : w.cell? ⟨mb, 0, none⟩ = some (.int .i64 c)) (x : Int) :
    Asks Tryd.prog 70 (.pointer (some ⟨mb, 0, none⟩)) w (.int .i64 x) (maskB x c.toNat) := by
  intro m
  obtain ⟨d, rfl⟩ := Int.eq_ofNat_of_zero_le hc0
  rw [Int.toNat_natCast]
  go_enter Tryd.func70, Tryd.ntmps70
  go_wp2_with (go_at_call 62; refine (isMask_any x d (by omega) _).mono ?_; rintro e w' ⟨rfl, rfl⟩)
  go_ret
  exact ⟨rfl, m, rfl⟩

set_option maxHeartbeats 400000 in
theorem isMatrix_any (c : Int) (A : Option Addr) (n cap : Nat) (xs : List Int) (w : World) (hn : n = xs.length) (hsm : n ≤ 1099511627776) (hR : Rd w A (iv xs)) :
    Calls Tryd.prog 22 #[.agg #[.int .i64 c, .slice A n cap]] w fun e w' => e = .returned (.bool (isMat c xs)) ∧ Below w.heap.size w w' := by
  have hin := fun W => in_any c 0 60 W
  cases hi : inB c 0 60 with
  | false =>
    rw [hi] at hin
    have e : isMat c xs = false := by simp [isMat, hi]
    have HE := Lib.hid e
    have HI := Lib.hid hin
    clear e hi hin hR hn
    go_enter Tryd.func22, Tryd.ntmps22
    go_wp2_with (go_at_call 68; refine (HI.out _).mono ?_; rintro e w' ⟨rfl, rfl⟩)
    go_ret
    exact ⟨by rw [HE.out]; rfl, (Below.refl _ _).alloc (Nat.le_refl _) _⟩
  | true =>
    rw [hi] at hin
    obtain ⟨hc0, hc1⟩ := inB_true hi
    by_cases hl : n ≤ 200
    · have e : isMat c xs = xs.all fun x => maskB x c.toNat := by simp [isMat, hi, ← hn, hl]
      have hb := box2 w (.int .i64 c) (.slice A n cap) 26
      have ha := all_any A n cap xs 70 (.pointer (some ⟨w.heap.size, 0, none⟩)) (fun x => maskB x c.toNat) (w.alloc (.cells #[.int .i64 c, .slice A n cap] 26)) (fun args w => Tryd.call70 args w) hn hsm
        (hR.alloc _) (fun x _ o => isMatrix_closure c hc0 hc1 w.heap.size _ (by rw [World.cell?_alloc_lt _ _ _ (by simp)]; exact hb.1) x)
      have HE := Lib.hid e
      have HI := Lib.hid hin
      have HA := Lib.hid ha
      clear e hi hin hR hn ha hc0 hc1 hb
      go_enter Tryd.func22, Tryd.ntmps22
      go_wp2_with (first | (go_at_call 68; refine (HI.out _).mono ?_; rintro e w' ⟨rfl, rfl⟩) | (go_at_call 69; refine HA.out.mono ?_; rintro e w' ⟨rfl, hb1⟩))
      go_ret
      exact ⟨by rw [HE.out]; rfl, ((Below.refl _ _).alloc (Nat.le_refl _) _).trans (hb1.mono (by simp))⟩
    · have e : isMat c xs = false := by simp [isMat, ← hn]; omega
      have HE := Lib.hid e
      have HI := Lib.hid hin
      clear e hi hin hR hn hc0 hc1
      go_enter Tryd.func22, Tryd.ntmps22
      go_wp2_with (go_at_call 68; refine (HI.out _).mono ?_; rintro e w' ⟨rfl, rfl⟩)
      go_ret
      exact ⟨by rw [HE.out]; rfl, (Below.refl _ _).alloc (Nat.le_refl _) _⟩
end Go.Proofs.YtjhlmalpcelbaaaDoor

namespace Go.Proofs.YtjhlmalpcelbaaaDoor
open Go.RowKit

theorem pow60 {d : Nat} (h : d ≤ 60) : (2 : Int) ^ d ≤ 1152921504606846976 := by
  have h1 : 2 ^ d ≤ 2 ^ 60 := Nat.pow_le_pow_right (by omega) h
  have h2 : (2 ^ 60 : Nat) = 1152921504606846976 := by decide
  rw [h2] at h1
  have h3 : ((2 ^ d : Nat) : Int) ≤ 1152921504606846976 := by omega
  rwa [Int.natCast_pow] at h3
theorem pow_pos' (d : Nat) : (1 : Int) ≤ 2 ^ d := by
  have h1 : 1 ≤ 2 ^ d := Nat.one_le_two_pow
  have h3 : (1 : Int) ≤ ((2 ^ d : Nat) : Int) := by omega
  rwa [Int.natCast_pow] at h3

set_option maxHeartbeats 400000 in
theorem l02Is_any (c : Int) (A : Option Addr) (n cap : Nat) (xs : List Int) (w : World) (hn : n = xs.length) (hsm : n ≤ 1099511627776) (hR : Rd w A (iv xs)) :
    Calls Tryd.prog 67 #[.agg #[.int .i64 c, .slice A n cap]] w fun e w' => e = .returned (.bool (isMat c xs)) ∧ Below w.heap.size w w' := by
  have hin := fun W => l01In_any c 0 60 W
  cases hi : inB c 0 60 with
  | false =>
    rw [hi] at hin
    have e : isMat c xs = false := by simp [isMat, hi]
    have HE := Lib.hid e
    have HI := Lib.hid hin
    clear e hi hin hR hn
    go_enter Tryd.func67, Tryd.ntmps67
    go_wp2_with (go_at_call 75; refine (HI.out _).mono ?_; rintro e w' ⟨rfl, rfl⟩)
    go_ret
    exact ⟨by rw [HE.out]; rfl, (Below.refl _ _).alloc (Nat.le_refl _) _⟩
  | true =>
    rw [hi] at hin
    obtain ⟨hc0, hc1⟩ := inB_true hi
    by_cases hl : n ≤ 200
    · obtain ⟨d, rfl⟩ := Int.eq_ofNat_of_zero_le hc0
      have hd : d ≤ 60 := by omega
      have e : isMat d xs = xs.all fun x => maskB x d := by simp [isMat, hi, ← hn, hl]
      have hb := box2 w (.int .i64 d) (.slice A n cap) 26
      have hR1 := hR.alloc (.cells #[.int .i64 d, .slice A n cap] 26)
      have HE := Lib.hid e
      have HI := Lib.hid hin
      have Hn := Lib.hid hn
      have p1 := pow60 hd
      have p2 := pow_pos' d
      clear e hi hin hR hn hc0 hc1
      obtain ⟨b0, b1⟩ := hb
      go_enter Tryd.func67, Tryd.ntmps67
      go_wp2_with (go_at_call 75; refine (HI.out _).mono ?_; rintro e w' ⟨rfl, rfl⟩)
      go_loopw [3] (fun i wr => ∃ k : Nat, k ≤ n ∧ i = .int .i64 k ∧ (∃ m, wr = (w.alloc (.cells #[.int .i64 d, .slice A n cap] 26)).drewN m) ∧ ((xs.take k).all fun x => maskB x d) = true) (fun i _ => n - (intOf i).toNat)
      case atStart => exact ⟨0, by omega, rfl, ⟨0, rfl⟩, by simp⟩
      case round =>
        obtain ⟨k, hk, rfl, ⟨m, rfl⟩, hp⟩ := hrel
        have HP := Lib.hid hp; clear hp
        by_cases hlt : k < n
        · have hkL : k < xs.length := by rw [← Hn.out]; exact hlt
          obtain ⟨b, o, rfl, hc⟩ := hR1.atI hkL
          have hx : xs[k] = xs.getD k 0 := by simp [List.getD, hkL]
          have HX := Lib.hid hx; clear hx hR1
          generalize xs.getD k 0 = x at *
          have HC := Lib.hid (fun W => l01In_any x 0 (2 ^ d - 1) W)
          cases hb : maskB x d
          · have HB : Hid (inB x 0 (2 ^ d - 1) = false) := hb
            rw [HB.out] at HC
            go_wp2_with fail
            go_quiet ((go_at_call 75; first | exact quiet_add_left (HC.out _) | exact quiet_left (HC.out _)))
            go_wp2_with fail
            go_ret
            have ha : (xs.all fun x => maskB x d) = false := by
              rw [List.all_eq_false]; exact ⟨x, by rw [← HX.out]; exact List.getElem_mem hkL, by simp [hb]⟩
            exact ⟨by rw [HE.out, ha]; rfl, by (repeat (first | apply below_drewN | apply Below.drew)); exact (Below.refl _ _).alloc (Nat.le_refl _) _⟩
          · have HB : Hid (inB x 0 (2 ^ d - 1) = true) := hb
            rw [HB.out] at HC
            go_wp2_with fail
            go_quiet ((go_at_call 75; first | exact quiet_add_left (HC.out _) | exact quiet_left (HC.out _)))
            go_wp2_with fail
            go_roundw
            case rel => exact ⟨k + 1, by omega, by go_num, ⟨_, rfl⟩, by rw [List.take_succ_eq_append_getElem hkL, List.all_append, HP.out, HX.out]; simp [hb]⟩
            case measure => simp [intOf]; omega
        · have ek : xs.take k = xs := List.take_of_length_le (by rw [← Hn.out]; omega)
          go_wp2_with fail
          go_ret
          have ha : (xs.all fun x => maskB x d) = true := by rw [← HP.out, ek]
          exact ⟨by rw [HE.out, ha]; rfl, below_drewN ((Below.refl _ _).alloc (Nat.le_refl _) _) _⟩
    · have e : isMat c xs = false := by simp [isMat, ← hn]; omega
      have HE := Lib.hid e
      have HI := Lib.hid hin
      clear e hi hin hR hn hc0 hc1
      go_enter Tryd.func67, Tryd.ntmps67
      go_wp2_with (go_at_call 75; refine (HI.out _).mono ?_; rintro e w' ⟨rfl, rfl⟩)
      go_ret
      exact ⟨by rw [HE.out]; rfl, (Below.refl _ _).alloc (Nat.le_refl _) _⟩
end Go.Proofs.YtjhlmalpcelbaaaDoor

namespace Go.Proofs.YtjhlmalpcelbaaaDoor
open Go.RowKit

theorem iv_toN {xs : List Int} (h : ∀ x ∈ xs, 0 ≤ x) : iv xs = nv (toN xs) := by
  unfold iv nv toN
  rw [List.map_map]
  apply List.map_congr_left
  intro x hx
  simp [Int.toNat_of_nonneg (h x hx)]
theorem isMat_nonneg {c : Int} {xs : List Int} (h : isMat c xs = true) : ∀ x ∈ xs, 0 ≤ x ∧ Sm x.toNat := by
  intro x hx
  unfold isMat at h
  simp only [Bool.and_eq_true, List.all_eq_true] at h
  obtain ⟨hc0, hc1⟩ := inB_true h.1
  have hm := inB_true (h.2.2 x hx)
  have hp := pow60 (d := c.toNat) (by omega)
  unfold Sm
  omega
theorem isMat_len {c : Int} {xs : List Int} (h : isMat c xs = true) : xs.length ≤ 200 := by
  unfold isMat at h
  simp only [Bool.and_eq_true, decide_eq_true_eq] at h
  exact h.2.1

/-- What RankOf answers. -/
def rankOf (c : Int) (xs : List Int) : Int × Int := if isMat c xs then ((reduceS (toN xs)).length, 0) else (0, 1)

set_option maxHeartbeats 1000000 in
theorem specRank_any (c : Int) (A : Option Addr) (n cap : Nat) (xs : List Int) (w : World) (hn : n = xs.length) (hsm : n ≤ 1099511627776) (hR : Rd w A (iv xs)) :
    Calls Tryd.prog 40 #[.agg #[.int .i64 c, .slice A n cap]] w fun e w' => e = .returned (.tuple #[.int .i64 (rankOf c xs).1, .int .i64 (rankOf c xs).2]) ∧ Below w.heap.size w w' := by
  have hb := box2 w (.int .i64 c) (.slice A n cap) 26
  have hR1 := hR.alloc (.cells #[.int .i64 c, .slice A n cap] 26)
  have his := l02Is_any c A n cap xs _ hn hsm hR1
  cases hi : isMat c xs with
  | false =>
    rw [hi] at his
    have e : rankOf c xs = (0, 1) := by simp [rankOf, hi]
    have HI := Lib.hid his
    have HE := Lib.hid e
    clear his e hR hR1 hb hn hi
    go_enter Tryd.func40, Tryd.ntmps40
    go_wp2_with (go_at_call 67; refine HI.out.mono ?_; rintro e w1 ⟨rfl, hb1⟩)
    go_ret2
    exact ⟨by rw [HE.out]; rfl, ((Below.refl _ _).alloc (Nat.le_refl _) _).trans (hb1.mono (by simp))⟩
  | true =>
    rw [hi] at his
    have e : rankOf c xs = (((reduceS (toN xs)).length : Int), 0) := by simp [rankOf, hi]
    have hnn := isMat_nonneg hi
    have hlen := isMat_len hi
    rw [iv_toN (fun x hx => (hnn x hx).1)] at hR1
    have hS : ∀ r ∈ toN xs, Sm r := by
      intro r hr; obtain ⟨x, hx, rfl⟩ := List.mem_map.1 hr; exact (hnn x hx).2
    have HI := Lib.hid his
    have HE := Lib.hid e
    have HR := Lib.hid hR1
    have Hn := Lib.hid hn
    have HS := Lib.hid hS
    obtain ⟨b0, b1⟩ := hb
    clear his e hR hR1 hn hi hnn hS
    go_enter Tryd.func40, Tryd.ntmps40
    go_wp2_with fail
    refine HI.out.mono ?_
    rintro e w1 ⟨rfl, hb1⟩
    have d1 : w1.cell? ⟨w.heap.size, 1, none⟩ = some (.slice A n cap) := (hb1.cell (p := ⟨w.heap.size, 1, none⟩) (by simp)).trans b1
    have hr := reduce_any A n cap (toN xs) w1 (by rw [Hn.out]; simp [toN]) (by rw [Hn.out]; omega) HS.out (HR.out.below hb1)
    have HRD := Lib.hid hr
    have HB := Lib.hid hb1
    clear hr hb1
    go_wp2_with fail
    refine HRD.out.mono ?_
    rintro e w2 ⟨v2, rfl, hown2, hb2⟩
    obtain ⟨A2, c2, rfl, _, _, _⟩ := owns_shape hown2
    have HB2 := Lib.hid hb2
    clear hb2 hown2
    go_wp2_with fail
    go_ret2
    refine ⟨by rw [HE.out]; rfl, ((Below.refl _ _).alloc (Nat.le_refl _) _).trans ((HB.out.mono (by simp)).trans (HB2.out.mono ?_))⟩
    have := HB.out.size; simp at this; omega
end Go.Proofs.YtjhlmalpcelbaaaDoor

namespace Go.Proofs.YtjhlmalpcelbaaaDoor
open Go.RowKit

def eqMat (c : Int) (xs : List Int) (c' : Int) (ys : List Int) : Bool := c == c' && eqI xs ys
set_option maxHeartbeats 1000000 in
theorem implRank_any (c : Int) (A : Option Addr) (n cap : Nat) (xs : List Int) (w : World) (hT : Tab w) (hw : 0 < w.heap.size) (hn : n = xs.length) (hsm : n ≤ 1099511627776) (hR : Rd w A (iv xs)) :
    Calls Tryd.prog 16 #[.agg #[.int .i64 c, .slice A n cap]] w fun e w' => e = .returned (.tuple #[.int .i64 (rankOf c xs).1, .int .i64 (rankOf c xs).2]) ∧ Below w.heap.size w w' := by
  have hb := blk_new w (.cells #[.int .i64 c, .slice A n cap] 26)
  have hR1 := hR.alloc (.cells #[.int .i64 c, .slice A n cap] 26)
  have his := isMatrix_any c A n cap xs _ hn hsm hR1
  have hT1 : Tab (w.alloc (.cells #[.int .i64 c, .slice A n cap] 26)) := hT.below ((Below.refl _ _).alloc (Nat.le_refl _) _) hw
  cases hi : isMat c xs with
  | false =>
    rw [hi] at his
    have e : rankOf c xs = (0, 1) := by simp [rankOf, hi]
    have HI := Lib.hid his
    have HE := Lib.hid e
    clear his e hR hR1 hb hn hi hT hT1
    go_enter Tryd.func16, Tryd.ntmps16
    go_wp2_with (go_at_call 22; refine HI.out.mono ?_; rintro e w1 ⟨rfl, hb1⟩)
    go_ret2
    exact ⟨by rw [HE.out]; rfl, ((Below.refl _ _).alloc (Nat.le_refl _) _).trans (hb1.mono (by simp))⟩
  | true =>
    rw [hi] at his
    have hnn := isMat_nonneg hi
    have hlen := isMat_len hi
    rw [iv_toN (fun x hx => (hnn x hx).1)] at hR1
    have hS : ∀ r ∈ toN xs, Sm r := by
      intro r hr; obtain ⟨x, hx, rfl⟩ := List.mem_map.1 hr; exact (hnn x hx).2
    have hlen2 : (spanL (zs (toN xs))).length = (reduceS (toN xs)).length := by
      have h := (spanL_perm (zs (toN xs)) (fun p hp => by obtain ⟨r, hr, rfl⟩ := List.mem_map.1 hp; exact ⟨hS r hr, Sm.zero⟩)).1.length_eq
      rw [r1_length, r1_zs] at h; exact h
    have e : rankOf c xs = (((spanL (zs (toN xs))).length : Int), 0) := by simp [rankOf, hi, hlen2]
    have HI := Lib.hid his
    have HE := Lib.hid e
    have HR := Lib.hid hR1
    have Hn := Lib.hid hn
    have HS := Lib.hid hS
    have HT := Lib.hid hT1
    have HK := Lib.hid hb
    clear his e hR hR1 hn hi hnn hS hT hT1 hb hlen2
    go_enter Tryd.func16, Tryd.ntmps16
    go_wp2_with fail
    refine HI.out.mono ?_
    rintro e w1 ⟨rfl, hb1⟩
    obtain ⟨d0, d1, _, _, hsz⟩ := blk2cells (blk_below HK.out hb1 (by simp))
    have hr := spanOf_any A n cap (toN xs) w1 (HT.out.below hb1 (by simp)) (by omega) (by rw [Hn.out]; simp [toN]) (by rw [Hn.out]; omega) HS.out (HR.out.below hb1)
    have HRD := Lib.hid hr
    have HB := Lib.hid hb1
    clear hr hb1
    go_wp2_with fail
    refine HRD.out.mono ?_
    rintro e w2 ⟨rfl, ⟨v1, v2, hsp⟩, hb2⟩
    have hown := hsp.own1
    obtain ⟨A2, c2, rfl, _, _, _⟩ := owns_shape hown
    have s0 := hsp.c0
    have HB2 := Lib.hid hb2
    clear hb2 hown hsp
    go_wp2_with fail
    go_ret2
    refine ⟨by rw [HE.out]; rfl, ((Below.refl _ _).alloc (Nat.le_refl _) _).trans ((HB.out.mono (by simp)).trans (HB2.out.mono ?_))⟩
    have := HB.out.size; simp at this; omega
end Go.Proofs.YtjhlmalpcelbaaaDoor

namespace Go.Proofs.YtjhlmalpcelbaaaDoor
open Go.RowKit

theorem szV_neg {n : Nat} (h : ¬ n ≤ 1048576) : szV n 1048576 = -1 := by unfold szV; rw [if_pos (by omega)]
theorem szV_pos {n : Nat} (h : n ≤ 1048576) : szV n 1048576 = 1048576 - n := by unfold szV; rw [if_neg (by omega)]
theorem eqMat_self (c : Int) (xs : List Int) : eqMat c xs c xs = true := by simp [eqMat, eqI]

/-- two blocks of two cells, and their cells: what a region that loads them holds on to -/
theorem two_blks {w : World} {g g' : Nat} {u v u' v' : Value} {t t' : TypeId} (h : w.heap[g]? = some (.cells #[u, v] t (0, 0)) ∧ w.heap[g']? = some (.cells #[u', v'] t' (0, 0))) :
    (w.heap[g]? = some (.cells #[u, v] t (0, 0)) ∧ w.heap[g']? = some (.cells #[u', v'] t' (0, 0))) ∧ w.cell? ⟨g, 0, none⟩ = some u ∧ w.cell? ⟨g, 1, none⟩ = some v ∧ w.cell? ⟨g', 0, none⟩ = some u' ∧ w.cell? ⟨g', 1, none⟩ = some v' :=
  ⟨h, (blk2cells h.1).1, (blk2cells h.1).2.1, (blk2cells h.2).1, (blk2cells h.2).2.1⟩
theorem blks_below {B : Nat} {w w' : World} {g g' : Nat} {x x' : Obj} (h : w.heap[g]? = some x ∧ w.heap[g']? = some x') (hb : Below B w w') (hB : w.heap.size ≤ B := by exact Nat.le_refl _) : w'.heap[g]? = some x ∧ w'.heap[g']? = some x' :=
  ⟨blk_below h.1 hb (Nat.lt_of_lt_of_le (Array.getElem?_eq_some_iff.1 h.1).1 hB), blk_below h.2 hb (Nat.lt_of_lt_of_le (Array.getElem?_eq_some_iff.1 h.2).1 hB)⟩

end Go.Proofs.YtjhlmalpcelbaaaDoor

namespace Go.Proofs.YtjhlmalpcelbaaaDoor
end Go.Proofs.YtjhlmalpcelbaaaDoor

namespace Go.Proofs.YtjhlmalpcelbaaaDoor
end Go.Proofs.YtjhlmalpcelbaaaDoor

namespace Go.Proofs.YtjhlmalpcelbaaaDoor

section
variable {S : List Nat} {n : Nat}
structure Sq (S : List Nat) (n : Nat) : Prop where
  len : S.length = n
  lt : ∀ r ∈ S, r < 2 ^ n
  le : n ≤ 60
theorem Sq.sm (h : Sq S n) : ∀ r ∈ S, Sm r := fun r hr => sm_of_lt (by have := h.le; omega) (h.lt r hr)
theorem Sq.usm (h : Sq S n) : ∀ p ∈ us 0 S, SmP p := us_sm h.sm (by have := h.le; have := h.len; omega)
theorem Sq.red (h : Sq S n) : Red (r1 (spanL (us 0 S))) := (spanL_perm _ h.usm).2.1
theorem Sq.good (h : Sq S n) : Good (spanL (us 0 S)) := (spanL_perm _ h.usm).2.2
theorem Sq.lt2 (h : Sq S n) : ∀ r ∈ spanL (us 0 S), Lt2 n n r := by
  have e := h.len
  exact add_all (P := Lt2 n n) (fun _ _ hL hp => Lt2.addL hL hp) _ [] (fun p hp => by have := us_lt h.lt hp; rwa [e] at this) (by simp)
theorem Sq.dif (h : Sq S n) : ∀ r ∈ spanL (us 0 S), Dif S r = 0 := add_all (P := fun r => Dif S r = 0) (fun _ _ hL hp => Dif.addL hL hp) _ [] (fun p hp => us_dif hp) (by simp)
theorem Sq.len_iff (h : Sq S n) : (spanL (us 0 S)).length = n ↔ freeRows S := by
  have := span_len (us 0 S) S.length (by rw [us_length]; exact Nat.le_refl _)
  rw [List.take_of_length_le (by rw [us_length]; exact Nat.le_refl _), h.len] at this
  rw [this, freeRows, h.len]
theorem Sq.pivs (h : Sq S n) : ∀ x ∈ (r1 (spanL (us 0 S))).map pv, x < n := by
  intro x hx
  obtain ⟨r, hr, rfl⟩ := List.mem_map.1 hx
  have h1 := h.red.ne r hr
  obtain ⟨p, hp, rfl⟩ := List.mem_map.1 hr
  exact pv_lt h1.1 h1.2 (h.lt2 p hp).1
theorem Sq.all_piv (h : Sq S n) (hf : freeRows S) : ∀ j, j < n → j ∈ (r1 (spanL (us 0 S))).map pv :=
  pig3 h.red.nodup h.pivs (by rw [List.length_map, r1_length, h.len_iff.2 hf])
/-- where the rows are free, each row of the span has one digit -/
theorem Sq.row (h : Sq S n) (hf : freeRows S) {p : Nat × Nat} (hp : p ∈ spanL (us 0 S)) : p.1 = 2 ^ pv p.1 := by
  have hm : p.1 ∈ r1 (spanL (us 0 S)) := List.mem_map_of_mem hp
  have h1 := h.red.ne p.1 hm
  refine eq_of_tb fun j => ?_
  rw [tb_pow]
  by_cases hj : pv p.1 = j
  · subst hj; rw [tb_pv h1.1 h1.2]; simp
  · rw [decide_eq_false hj]
    rcases Nat.lt_or_ge j n with hlt | hge
    · obtain ⟨s, hs, e⟩ := List.mem_map.1 (h.all_piv hf j hlt)
      have hne : p.1 ≠ s := fun e' => hj (by rw [e']; exact e)
      have := h.red.apart p.1 hm s hs hne
      rw [e] at this; exact this
    · exact tb_of_lt (h.lt2 p hp).1 hge
/-- the reference finds all solutions just where the rows are free -/
theorem Sq.sol (h : Sq S n) : (∀ j, j < n → (solL S (2 ^ j)).1 = 0) ↔ freeRows S := by
  have hsp : ∀ v, Sp (r1 (spanL (us 0 S))) v ↔ Sp S v := fun v => by rw [sp_span, us_r1]
  constructor
  · intro hs
    rw [← h.len_iff]
    have h1 := pig1 n _ h.red.nodup h.pivs
    have h2 := pig2 n ((r1 (spanL (us 0 S))).map pv) (fun j hj => by
      refine Decidable.byContradiction fun hm => ?_
      have h3 : Sp (r1 (spanL (us 0 S))) (2 ^ j) := (hsp _).2 ((sol_iff h.sm _).1 (hs j hj))
      have h4 := h.red.ech.zero _ h3 (fun r hr => by
        rw [tb_pow]; refine decide_eq_false fun e => hm ?_
        rw [e]; exact List.mem_map_of_mem hr)
      have := Nat.two_pow_pos j
      omega)
    rw [List.length_map, r1_length] at h1 h2
    omega
  · intro hf j hj
    rw [sol_iff h.sm, ← hsp]
    obtain ⟨r, hr, e⟩ := List.mem_map.1 (h.all_piv hf j hj)
    obtain ⟨p, hp, rfl⟩ := List.mem_map.1 hr
    have := h.row hf hp
    rw [e] at this
    rw [← this]; exact .mem hr
theorem Sq.inj (h : Sq S n) (hf : freeRows S) : ∀ z, z < 2 ^ n → comb S 0 z = 0 → z = 0 := by
  intro z hz h0
  have e := h.len
  refine comb_inj (fun t ht hsp => ?_) n z (by omega) hz h0
  have h1 := hf t ht
  rw [us_take, leftN_fst, us_getD S 0 t ht] at h1
  have hsm : ∀ p ∈ us 0 (S.take t), SmP p := us_sm (fun r hr => h.sm r (List.mem_of_mem_take hr)) (by rw [List.length_take]; have := h.le; omega)
  have hr := (spanL_perm _ hsm).2.1
  refine h1 ((hr.ech.sp_iff _).1 ?_)
  rw [sp_span, us_r1]
  exact hsp
/-- the companion of the row with the digit j is the reference's solution for that digit -/
theorem Sq.comp (h : Sq S n) (hf : freeRows S) {p : Nat × Nat} (hp : p ∈ spanL (us 0 S)) : p.2 = (solL S (2 ^ pv p.1)).2 := by
  have hj : pv p.1 < n := h.pivs _ (List.mem_map_of_mem (List.mem_map_of_mem hp))
  have h1 := dif_zero.1 (h.dif p hp)
  have h2 := sol_comb (S := S) (2 ^ pv p.1) (h.sol.2 hf _ hj)
  have e := h.len
  have h3 := sol_lt h.lt (v := 2 ^ pv p.1) (Nat.pow_lt_pow_right (by omega) hj)
  rw [e] at h3
  have h4 := h.inj hf (xr p.2 (solL S (2 ^ pv p.1)).2) (Nat.xor_lt_two_pow (h.lt2 p hp).2 h3) (by rw [comb_xr, h1, h2, ← h.row hf hp, xr_self])
  have := congrArg (xr p.2) h4
  rw [xr_xr, xr_zero] at this
  exact this.symm

/-- what the program's loop over the span lays down -/
def putC (out : List Nat) (p : Nat × Nat) : List Nat := out.set (pv p.1) p.2
theorem putC_length : ∀ (L : List (Nat × Nat)) (out : List Nat), (L.foldl putC out).length = out.length
  | [], _ => rfl
  | p :: L, out => by rw [List.foldl_cons, putC_length L]; simp [putC]
theorem putC_getD {f : Nat → Nat} : ∀ (L : List (Nat × Nat)) (out : List Nat), (∀ p ∈ L, p.2 = f (pv p.1)) → ∀ j, j < out.length → (out.getD j 0 = f j ∨ j ∈ (r1 L).map pv) → (L.foldl putC out).getD j 0 = f j
  | [], out, _, j, _, h => by
    rcases h with h | h
    · exact h
    · simp [r1] at h
  | p :: L, out, hL, j, hj, h => by
    rw [List.foldl_cons]
    refine putC_getD L (putC out p) (fun q hq => hL q (List.mem_cons_of_mem _ hq)) j (by simpa [putC] using hj) ?_
    by_cases e : pv p.1 = j
    · refine .inl ?_
      subst e
      simp [putC, List.getD, hj, hL p (List.mem_cons_self ..)]
    · rcases h with h | h
      · refine .inl ?_
        simp only [putC, List.getD, List.getElem?_set, if_neg e]
        simpa [List.getD] using h
      · refine .inr ?_
        simp only [r1, List.map_cons, List.mem_cons] at h ⊢
        rcases h with h | h
        · exact absurd h.symm e
        · exact h
/-- both ways to the inverse -/
theorem Sq.inverse (h : Sq S n) (hf : freeRows S) : (spanL (us 0 S)).foldl putC (List.replicate n 0) = (List.range n).map fun j => (solL S (2 ^ j)).2 := by
  apply List.ext_getElem
  · rw [putC_length]; simp
  · intro j h1 h2
    have hj : j < n := by simpa using h2
    have := putC_getD (f := fun j => (solL S (2 ^ j)).2) (spanL (us 0 S)) (List.replicate n 0) (fun p hp => h.comp hf hp) j (by simpa using hj) (.inr (h.all_piv hf j hj))
    simp only [List.getD, List.getElem?_eq_getElem h1, Option.getD_some] at this
    rw [this]; simp
end
end Go.Proofs.YtjhlmalpcelbaaaDoor

namespace Go.Proofs.YtjhlmalpcelbaaaDoor
open Go.RowKit

/-- What HasMask answers. -/
def hasOf (c : Int) (xs : List Int) (v : Int) : Bool × Int :=
  if isMat c xs then (if maskB v c.toNat then (decide (leftS (reduceS (toN xs)) v.toNat = 0), 0) else (false, 2)) else (false, 1)

theorem l02Mask_any (v : Int) (d : Nat) (hd : d ≤ 60) (w : World) : Calls Tryd.prog 78 #[.int .i64 v, .int .i64 d] w fun e w' => e = .returned (.bool (maskB v d)) ∧ w = w' := by
  have h1 := fun W => l01In_any d 0 60 W
  have h2 := fun W => l01In_any v 0 (2 ^ d - 1) W
  rw [show inB (d : Int) 0 60 = true by simp [inB]; omega] at h1
  have e : inB v 0 (2 ^ d - 1) = maskB v d := rfl
  rw [e] at h2
  have H1 := Lib.hid h1
  have H2 := Lib.hid h2
  have p1 := pow60 hd
  have p2 := pow_pos' d
  clear h1 h2 e
  go_enter Tryd.func78, Tryd.ntmps78
  go_wp2_with fail
  refine (H1.out _).mono ?_
  rintro e w' ⟨rfl, rfl⟩
  go_wp2_with fail
  refine (H2.out _).mono ?_
  rintro e w' ⟨rfl, rfl⟩
  go_wp2_with fail
  go_ret
  exact ⟨rfl, rfl⟩

theorem has_any (B bs : Nat) (v1 v2 : Value) (L : List (Nat × Nat)) (x : Nat) (w : World) (hT : Tab w) (hs : SpanAt w B bs v1 v2 L) (hsmall : L.length ≤ 1000000) (hx : Sm x) (hg : Good L) :
    Calls Tryd.prog 63 #[.pointer (some ⟨bs, 0, none⟩), .int .i64 x] w fun e w' => e = .returned (.bool (decide (leftS (r1 L) x = 0))) ∧ ∃ m, w.drewN m = w' := by
  obtain ⟨A1, c1, rfl, _, _, _⟩ := owns_shape hs.own1
  obtain ⟨A2, c2, rfl, _, _, _⟩ := owns_shape hs.own2
  have hl := left_any bs A1 A2 L.length c1 c2 L x 0 w hT rfl hsmall hx Sm.zero hg hs.c0 hs.c1 (owns_Rd hs.own1) (owns_Rd hs.own2)
  have e : (leftN L (x, 0)).1 = leftS (r1 L) x := leftN_fst L (x, 0)
  rw [e] at hl
  generalize leftS (r1 L) x = y at *
  generalize (leftN L (x, 0)).2 = z at *
  have HL := Lib.hid hl
  clear hl hg hs e
  by_cases h0 : y = 0
  · subst h0
    go_enter Tryd.func63, Tryd.ntmps63
    go_wp2_with (go_at_call 95; refine HL.out.mono ?_; rintro e w' ⟨rfl, m, rfl⟩)
    go_ret
    exact ⟨rfl, m, rfl⟩
  · have hb : ((y : Int) == 0) = false := by simp; exact h0
    have HD : Hid (decide (y = 0) = false) := by show _ = _; simpa using h0
    clear h0
    go_enter Tryd.func63, Tryd.ntmps63
    go_wp2_with (go_at_call 95; refine HL.out.mono ?_; rintro e w' ⟨rfl, m, rfl⟩)
    go_ret
    exact ⟨by rw [HD.out]; rfl, m, rfl⟩

theorem maskB_sm {v : Int} {d : Nat} (hd : d ≤ 60) (h : maskB v d = true) : 0 ≤ v ∧ Sm v.toNat := by
  have hm := inB_true h
  have hp := pow60 hd
  unfold Sm; omega
theorem isMat_cols {c : Int} {xs : List Int} (h : isMat c xs = true) : ∃ d : Nat, c = d ∧ d ≤ 60 := by
  unfold isMat at h
  simp only [Bool.and_eq_true] at h
  obtain ⟨h0, h1⟩ := inB_true h.1
  exact ⟨c.toNat, by omega, by omega⟩
theorem isMat_sm {c : Int} {xs : List Int} (h : isMat c xs = true) : ∀ r ∈ toN xs, Sm r := by
  intro r hr; obtain ⟨x, hx, rfl⟩ := List.mem_map.1 hr; exact (isMat_nonneg h x hx).2
theorem span_zs {c : Int} {xs : List Int} (h : isMat c xs = true) : (r1 (spanL (zs (toN xs)))).Perm (reduceS (toN xs)) ∧ Red (r1 (spanL (zs (toN xs)))) ∧ Good (spanL (zs (toN xs))) := by
  have := spanL_perm (zs (toN xs)) (fun p hp => by obtain ⟨r, hr, rfl⟩ := List.mem_map.1 hp; exact ⟨isMat_sm h r hr, Sm.zero⟩)
  rwa [r1_zs] at this

set_option maxRecDepth 100000 in
set_option maxHeartbeats 1000000 in
theorem specHas_any (c : Int) (A : Option Addr) (n cap : Nat) (xs : List Int) (v : Int) (w : World) (hn : n = xs.length) (hsm : n ≤ 1099511627776) (hR : Rd w A (iv xs)) :
    Calls Tryd.prog 46 #[.agg #[.int .i64 c, .slice A n cap], .int .i64 v] w fun e w' => e = .returned (.tuple #[.bool (hasOf c xs v).1, .int .i64 (hasOf c xs v).2]) ∧ Below w.heap.size w w' := by
  have hb := blk_new w (.cells #[.int .i64 c, .slice A n cap] 26)
  have hR1 := hR.alloc (.cells #[.int .i64 c, .slice A n cap] 26)
  have his := l02Is_any c A n cap xs _ hn hsm hR1
  cases hi : isMat c xs with
  | false =>
    rw [hi] at his
    have HE : Hid (hasOf c xs v = (false, 1)) := by show _ = _; simp [hasOf, hi]
    have HI := Lib.hid his
    clear his hR hR1 hb hn hi
    go_enter Tryd.func46, Tryd.ntmps46
    go_wp2_with (go_at_call 67; refine HI.out.mono ?_; rintro e w1 ⟨rfl, hb1⟩)
    go_ret2
    exact ⟨by rw [HE.out]; rfl, ((Below.refl _ _).alloc (Nat.le_refl _) _).trans (hb1.mono (by simp))⟩
  | true =>
    rw [hi] at his
    obtain ⟨d, rfl, hd⟩ := isMat_cols hi
    have hmk := fun W => l02Mask_any v d hd W
    cases hm : maskB v d with
    | false =>
      rw [hm] at hmk
      have HE : Hid (hasOf d xs v = (false, 2)) := by show _ = _; simp [hasOf, hi, hm]
      have HI := Lib.hid his
      have HM := Lib.hid hmk
      have HK := Lib.hid hb
      clear his hmk hR hR1 hb hn hi hm
      go_enter Tryd.func46, Tryd.ntmps46
      go_wp2_with fail
      refine HI.out.mono ?_
      rintro e w1 ⟨rfl, hb1⟩
      obtain ⟨d0, d1, _, _, hsz⟩ := blk2cells (blk_below HK.out hb1 (by simp))
      have HB := Lib.hid hb1
      clear hb1
      go_wp2_with (go_at_call 78; refine (HM.out _).mono ?_; rintro e w2 ⟨rfl, rfl⟩)
      go_ret2
      exact ⟨by rw [HE.out]; rfl, ((Below.refl _ _).alloc (Nat.le_refl _) _).trans (HB.out.mono (by simp))⟩
    | true =>
      rw [hm] at hmk
      have hlen := isMat_len hi
      have hnn := isMat_nonneg hi
      have hS := isMat_sm hi
      obtain ⟨hv0, hv1⟩ := maskB_sm hd hm
      have hred := red_reduce hS
      rw [iv_toN (fun x hx => (hnn x hx).1)] at hR1
      have HE : Hid (hasOf d xs v = (decide (leftS (reduceS (toN xs)) v.toNat = 0), 0)) := by show _ = _; simp [hasOf, hi, hm]
      obtain ⟨x, rfl⟩ := Int.eq_ofNat_of_zero_le hv0
      rw [Int.toNat_natCast] at HE hv1
      have hl := reduceS_length_le (toN xs)
      rw [show (toN xs).length = xs.length by simp [toN]] at hl
      have HI := Lib.hid his
      have HM := Lib.hid hmk
      have HK := Lib.hid hb
      have HR := Lib.hid hR1
      have Hn := Lib.hid hn
      have HS := Lib.hid hS
      have HRed := Lib.hid hred
      clear his hmk hR hR1 hb hn hi hm hnn hS hred hv0
      go_enter Tryd.func46, Tryd.ntmps46
      go_wp2_with fail
      refine HI.out.mono ?_
      rintro e w1 ⟨rfl, hb1⟩
      obtain ⟨d0, d1, _, _, hsz⟩ := blk2cells (blk_below HK.out hb1 (by simp))
      have hr := reduce_any A n cap (toN xs) w1 (by rw [Hn.out]; simp [toN]) (by rw [Hn.out]; omega) HS.out (HR.out.below hb1)
      have HRD := Lib.hid hr
      have HB := Lib.hid hb1
      clear hr hb1
      go_wp2_with (go_at_call 78; refine (HM.out _).mono ?_; rintro e w2 ⟨rfl, rfl⟩)
      refine HRD.out.mono ?_
      rintro e w2 ⟨v2, rfl, hown2, hb2⟩
      obtain ⟨A2, c2, rfl, _, _, _⟩ := owns_shape hown2
      have hwo := without_any A2 _ c2 (reduceS (toN xs)) x w2 rfl (by omega) hv1 HRed.out.ne (owns_Rd hown2)
      have HW := Lib.hid hwo
      have HB2 := Lib.hid hb2
      have hfin : Below w.heap.size w w2 := ((Below.refl _ _).alloc (Nat.le_refl _) _).trans ((HB.out.mono (by simp)).trans (HB2.out.mono (by have := HB.out.size; simp at this; omega)))
      have HF := Lib.hid hfin
      clear hwo hb2 hown2 hfin
      generalize leftS (reduceS (toN xs)) x = y at *
      by_cases h0 : y = 0
      · subst h0
        go_wp2_with fail
        refine HW.out.mono ?_
        rintro e w3 ⟨rfl, rfl⟩
        go_wp2_with fail
        go_ret2
        exact ⟨by rw [HE.out]; rfl, HF.out⟩
      · have hyb : ((y : Int) == 0) = false := by simp; exact h0
        have HD : Hid (decide (y = 0) = false) := by show _ = _; simpa using h0
        clear h0
        go_wp2_with fail
        refine HW.out.mono ?_
        rintro e w3 ⟨rfl, rfl⟩
        go_wp2_with fail
        go_ret2
        exact ⟨by rw [HE.out, HD.out]; rfl, HF.out⟩

set_option maxRecDepth 100000 in
set_option maxHeartbeats 1000000 in
theorem implHas_any (c : Int) (A : Option Addr) (n cap : Nat) (xs : List Int) (v : Int) (w : World) (hT : Tab w) (hw : 0 < w.heap.size) (hn : n = xs.length) (hsm : n ≤ 1099511627776) (hR : Rd w A (iv xs)) :
    Calls Tryd.prog 17 #[.agg #[.int .i64 c, .slice A n cap], .int .i64 v] w fun e w' => e = .returned (.tuple #[.bool (hasOf c xs v).1, .int .i64 (hasOf c xs v).2]) ∧ Below w.heap.size w w' := by
  have hb := blk_new w (.cells #[.int .i64 c, .slice A n cap] 26)
  have hR1 := hR.alloc (.cells #[.int .i64 c, .slice A n cap] 26)
  have his := isMatrix_any c A n cap xs _ hn hsm hR1
  have hT1 : Tab (w.alloc (.cells #[.int .i64 c, .slice A n cap] 26)) := hT.below ((Below.refl _ _).alloc (Nat.le_refl _) _) hw
  cases hi : isMat c xs with
  | false =>
    rw [hi] at his
    have HE : Hid (hasOf c xs v = (false, 1)) := by show _ = _; simp [hasOf, hi]
    have HI := Lib.hid his
    clear his hR hR1 hb hn hi hT hT1
    go_enter Tryd.func17, Tryd.ntmps17
    go_wp2_with (go_at_call 22; refine HI.out.mono ?_; rintro e w1 ⟨rfl, hb1⟩)
    go_ret2
    exact ⟨by rw [HE.out]; rfl, ((Below.refl _ _).alloc (Nat.le_refl _) _).trans (hb1.mono (by simp))⟩
  | true =>
    rw [hi] at his
    obtain ⟨d, rfl, hd⟩ := isMat_cols hi
    have hmk := fun W => isMask_any v d (by omega) W
    cases hm : maskB v d with
    | false =>
      rw [hm] at hmk
      have HE : Hid (hasOf d xs v = (false, 2)) := by show _ = _; simp [hasOf, hi, hm]
      have HI := Lib.hid his
      have HM := Lib.hid hmk
      have HK := Lib.hid hb
      clear his hmk hR hR1 hb hn hi hm hT hT1
      go_enter Tryd.func17, Tryd.ntmps17
      go_wp2_with fail
      refine HI.out.mono ?_
      rintro e w1 ⟨rfl, hb1⟩
      obtain ⟨d0, d1, _, _, hsz⟩ := blk2cells (blk_below HK.out hb1 (by simp))
      have HB := Lib.hid hb1
      clear hb1
      go_wp2_with (go_at_call 62; refine (HM.out _).mono ?_; rintro e w2 ⟨rfl, rfl⟩)
      go_ret2
      exact ⟨by rw [HE.out]; rfl, ((Below.refl _ _).alloc (Nat.le_refl _) _).trans (HB.out.mono (by simp))⟩
    | true =>
      rw [hm] at hmk
      have hlen := isMat_len hi
      have hnn := isMat_nonneg hi
      have hS := isMat_sm hi
      have hsp := span_zs hi
      obtain ⟨hv0, hv1⟩ := maskB_sm hd hm
      rw [iv_toN (fun x hx => (hnn x hx).1)] at hR1
      have HE0 : hasOf d xs v = (decide (leftS (reduceS (toN xs)) v.toNat = 0), 0) := by simp [hasOf, hi, hm]
      rw [← leftS_perm hsp.2.1 hsp.1] at HE0
      have HE := Lib.hid HE0
      clear HE0
      obtain ⟨x, rfl⟩ := Int.eq_ofNat_of_zero_le hv0
      rw [Int.toNat_natCast] at HE hv1
      have hl := spanL_length_le (zs (toN xs))
      rw [zs_length, show (toN xs).length = xs.length by simp [toN]] at hl
      have HI := Lib.hid his
      have HM := Lib.hid hmk
      have HK := Lib.hid hb
      have HR := Lib.hid hR1
      have Hn := Lib.hid hn
      have HS := Lib.hid hS
      have HG := Lib.hid hsp.2.2
      have HT := Lib.hid hT1
      clear his hmk hR hR1 hb hn hi hm hnn hS hsp hv0 hT hT1
      go_enter Tryd.func17, Tryd.ntmps17
      go_wp2_with fail
      refine HI.out.mono ?_
      rintro e w1 ⟨rfl, hb1⟩
      obtain ⟨d0, d1, _, _, hsz⟩ := blk2cells (blk_below HK.out hb1 (by simp))
      have hr := spanOf_any A n cap (toN xs) w1 (HT.out.below hb1 (by simp)) (by omega) (by rw [Hn.out]; simp [toN]) (by rw [Hn.out]; omega) HS.out (HR.out.below hb1)
      have HTb := Lib.hid (HT.out.below hb1 (by simp))
      have HRD := Lib.hid hr
      have HB := Lib.hid hb1
      clear hr hb1
      go_wp2_with (go_at_call 62; refine (HM.out _).mono ?_; rintro e w2 ⟨rfl, rfl⟩)
      refine HRD.out.mono ?_
      rintro e w2 ⟨rfl, ⟨u1, u2, hsp⟩, hb2⟩
      have hh := has_any _ _ u1 u2 _ x w2 (HTb.out.below hb2 (by omega)) hsp (by omega) hv1 HG.out
      have HW := Lib.hid hh
      have HB2 := Lib.hid hb2
      have hfin : Below w.heap.size w w2 := ((Below.refl _ _).alloc (Nat.le_refl _) _).trans ((HB.out.mono (by simp)).trans (HB2.out.mono (by have := HB.out.size; simp at this; omega)))
      have HF := Lib.hid hfin
      clear hh hb2 hsp hfin
      generalize decide (leftS (r1 (spanL (zs (toN xs)))) x = 0) = y at *
      go_wp2_with fail
      refine HW.out.mono ?_
      rintro e w3 ⟨rfl, m, rfl⟩
      go_wp2_with fail
      go_ret2
      exact ⟨by rw [HE.out]; rfl, below_drewN HF.out m⟩
end Go.Proofs.YtjhlmalpcelbaaaDoor

namespace Go.Proofs.YtjhlmalpcelbaaaDoor
open Go.RowKit

/-- a block that a call keeps -/
theorem blk_keep {w w' : World} {g : Nat} {x : Obj} (h : w.heap[g]? = some x) (hb : Below w.heap.size w w') : w'.heap[g]? = some x := (hb.block g (Array.getElem?_eq_some_iff.1 h).1).trans h

def bothOf (c : Int) (xs : List Int) (c' : Int) (ys : List Int) : Int := if isMat c xs && isMat c' ys then (if c = c' then 0 else 2) else 1

section
variable (c c' : Int) (A A' : Option Addr) (n n' cap cap' : Nat) (xs ys : List Int) (w : World)
set_option maxHeartbeats 1000000 in
theorem l02Both_any (hn : n = xs.length) (hn' : n' = ys.length) (hsm : n ≤ 1099511627776) (hsm' : n' ≤ 1099511627776) (hR : Rd w A (iv xs)) (hR' : Rd w A' (iv ys)) :
    Calls Tryd.prog 54 #[.agg #[.int .i64 c, .slice A n cap], .agg #[.int .i64 c', .slice A' n' cap']] w fun e w' => e = .returned (.int .i64 (bothOf c xs c' ys)) ∧ Below w.heap.size w w' := by
  have hb1 := blk_alloc (blk_new w (.cells #[.int .i64 c, .slice A n cap] 26)) (.cells #[.int .i64 c', .slice A' n' cap'] 26)
  have hb2 := blk_new1 w (.cells #[.int .i64 c, .slice A n cap] 26) (.cells #[.int .i64 c', .slice A' n' cap'] 26)
  have hbel : Below w.heap.size w ((w.alloc (.cells #[.int .i64 c, .slice A n cap] 26)).alloc (.cells #[.int .i64 c', .slice A' n' cap'] 26)) := ((Below.refl _ _).alloc (Nat.le_refl _) _).alloc (by simp) _
  have h1 := l02Is_any c A n cap xs _ hn hsm (hR.below hbel)
  have HK1 := Lib.hid hb1
  have HK2 := Lib.hid hb2
  have HB := Lib.hid hbel
  have HR' := Lib.hid (hR'.below hbel)
  have Hn' := Lib.hid hn'
  clear hb1 hb2 hbel hR hR' hn hn'
  cases hi : isMat c xs with
  | false =>
    rw [hi] at h1
    have HE : Hid (bothOf c xs c' ys = 1) := by show _ = _; simp [bothOf, hi]
    have H1 := Lib.hid h1
    clear h1 hi
    go_enter Tryd.func54, Tryd.ntmps54
    go_wp2_with fail
    refine H1.out.mono ?_
    rintro e w1 ⟨rfl, hb⟩
    have HB1 := Lib.hid hb
    clear hb
    go_wp2_with fail
    go_ret
    exact ⟨by rw [HE.out]; rfl, HB.out.trans (HB1.out.mono HB.out.size)⟩
  | true =>
    rw [hi] at h1
    have H1 := Lib.hid h1
    clear h1
    go_enter Tryd.func54, Tryd.ntmps54
    go_wp2_with fail
    refine H1.out.mono ?_
    rintro e w1 ⟨rfl, hb⟩
    have hk1 := blk_keep HK1.out hb
    have hk2 := blk_keep HK2.out hb
    have h2 := l02Is_any c' A' n' cap' ys w1 Hn'.out hsm' (HR'.out.below hb)
    obtain ⟨x0, x1, _, _, _⟩ := blk2cells hk1
    obtain ⟨y0, y1, _, _, _⟩ := blk2cells hk2
    have HB1 := Lib.hid (HB.out.trans (hb.mono HB.out.size))
    have HK1' := Lib.hid hk1
    have HK2' := Lib.hid hk2
    clear hb hk1 hk2
    cases hj : isMat c' ys with
    | false =>
      rw [hj] at h2
      have HE : Hid (bothOf c xs c' ys = 1) := by show _ = _; simp [bothOf, hj]
      have H2 := Lib.hid h2
      clear h2 hj hi
      go_wp2_with fail
      refine H2.out.mono ?_
      rintro e w2 ⟨rfl, hb⟩
      have HB2 := Lib.hid hb
      clear hb
      go_wp2_with fail
      go_ret
      exact ⟨by rw [HE.out]; rfl, HB1.out.trans (HB2.out.mono HB1.out.size)⟩
    | true =>
      rw [hj] at h2
      have H2 := Lib.hid h2
      clear h2
      by_cases hc : c = c'
      · subst hc
        have HE : Hid (bothOf c xs c ys = 0) := by show _ = _; simp [bothOf, hi, hj]
        clear hi hj
        go_wp2_with fail
        refine H2.out.mono ?_
        rintro e w2 ⟨rfl, hb⟩
        obtain ⟨x0', x1', _, _, _⟩ := blk2cells (blk_keep HK1'.out hb)
        obtain ⟨y0', y1', _, _, _⟩ := blk2cells (blk_keep HK2'.out hb)
        have HB2 := Lib.hid hb
        clear hb
        go_wp2_with fail
        go_ret
        exact ⟨by rw [HE.out]; rfl, HB1.out.trans (HB2.out.mono HB1.out.size)⟩
      · have HE : Hid (bothOf c xs c' ys = 2) := by show _ = _; simp [bothOf, hi, hj, hc]
        have hcb : (c != c') = true := by simpa using hc
        clear hi hj hc
        go_wp2_with fail
        refine H2.out.mono ?_
        rintro e w2 ⟨rfl, hb⟩
        obtain ⟨x0', x1', _, _, _⟩ := blk2cells (blk_keep HK1'.out hb)
        obtain ⟨y0', y1', _, _, _⟩ := blk2cells (blk_keep HK2'.out hb)
        have HB2 := Lib.hid hb
        clear hb
        go_wp2_with fail
        go_ret
        exact ⟨by rw [HE.out]; rfl, HB1.out.trans (HB2.out.mono HB1.out.size)⟩

set_option maxHeartbeats 1000000 in
theorem equalColumns_any (hn : n = xs.length) (hn' : n' = ys.length) (hsm : n ≤ 1099511627776) (hsm' : n' ≤ 1099511627776) (hR : Rd w A (iv xs)) (hR' : Rd w A' (iv ys)) :
    Calls Tryd.prog 51 #[.agg #[.int .i64 c, .slice A n cap], .agg #[.int .i64 c', .slice A' n' cap']] w fun e w' => e = .returned (.int .i64 (bothOf c xs c' ys)) ∧ Below w.heap.size w w' := by
  have hb1 := blk_alloc (blk_new w (.cells #[.int .i64 c, .slice A n cap] 26)) (.cells #[.int .i64 c', .slice A' n' cap'] 26)
  have hb2 := blk_new1 w (.cells #[.int .i64 c, .slice A n cap] 26) (.cells #[.int .i64 c', .slice A' n' cap'] 26)
  have hbel : Below w.heap.size w ((w.alloc (.cells #[.int .i64 c, .slice A n cap] 26)).alloc (.cells #[.int .i64 c', .slice A' n' cap'] 26)) := ((Below.refl _ _).alloc (Nat.le_refl _) _).alloc (by simp) _
  have h1 := isMatrix_any c A n cap xs _ hn hsm (hR.below hbel)
  have HK1 := Lib.hid hb1
  have HK2 := Lib.hid hb2
  have HB := Lib.hid hbel
  have HR' := Lib.hid (hR'.below hbel)
  have Hn' := Lib.hid hn'
  clear hb1 hb2 hbel hR hR' hn hn'
  cases hi : isMat c xs with
  | false =>
    rw [hi] at h1
    have HE : Hid (bothOf c xs c' ys = 1) := by show _ = _; simp [bothOf, hi]
    have H1 := Lib.hid h1
    clear h1 hi
    go_enter Tryd.func51, Tryd.ntmps51
    go_wp2_with fail
    refine H1.out.mono ?_
    rintro e w1 ⟨rfl, hb⟩
    have HB1 := Lib.hid hb
    clear hb
    go_wp2_with fail
    go_ret
    exact ⟨by rw [HE.out]; rfl, HB.out.trans (HB1.out.mono HB.out.size)⟩
  | true =>
    rw [hi] at h1
    have H1 := Lib.hid h1
    clear h1
    go_enter Tryd.func51, Tryd.ntmps51
    go_wp2_with fail
    refine H1.out.mono ?_
    rintro e w1 ⟨rfl, hb⟩
    have hk1 := blk_keep HK1.out hb
    have hk2 := blk_keep HK2.out hb
    have h2 := isMatrix_any c' A' n' cap' ys w1 Hn'.out hsm' (HR'.out.below hb)
    obtain ⟨x0, x1, _, _, _⟩ := blk2cells hk1
    obtain ⟨y0, y1, _, _, _⟩ := blk2cells hk2
    have HB1 := Lib.hid (HB.out.trans (hb.mono HB.out.size))
    have HK1' := Lib.hid hk1
    have HK2' := Lib.hid hk2
    clear hb hk1 hk2
    cases hj : isMat c' ys with
    | false =>
      rw [hj] at h2
      have HE : Hid (bothOf c xs c' ys = 1) := by show _ = _; simp [bothOf, hj]
      have H2 := Lib.hid h2
      clear h2 hj hi
      go_wp2_with fail
      refine H2.out.mono ?_
      rintro e w2 ⟨rfl, hb⟩
      have HB2 := Lib.hid hb
      clear hb
      go_wp2_with fail
      go_ret
      exact ⟨by rw [HE.out]; rfl, HB1.out.trans (HB2.out.mono HB1.out.size)⟩
    | true =>
      rw [hj] at h2
      have H2 := Lib.hid h2
      clear h2
      by_cases hc : c = c'
      · subst hc
        have HE : Hid (bothOf c xs c ys = 0) := by show _ = _; simp [bothOf, hi, hj]
        clear hi hj
        go_wp2_with fail
        refine H2.out.mono ?_
        rintro e w2 ⟨rfl, hb⟩
        obtain ⟨x0', x1', _, _, _⟩ := blk2cells (blk_keep HK1'.out hb)
        obtain ⟨y0', y1', _, _, _⟩ := blk2cells (blk_keep HK2'.out hb)
        have HB2 := Lib.hid hb
        clear hb
        go_wp2_with fail
        go_ret
        exact ⟨by rw [HE.out]; rfl, HB1.out.trans (HB2.out.mono HB1.out.size)⟩
      · have HE : Hid (bothOf c xs c' ys = 2) := by show _ = _; simp [bothOf, hi, hj, hc]
        have hcb : (c != c') = true := by simpa using hc
        clear hi hj hc
        go_wp2_with fail
        refine H2.out.mono ?_
        rintro e w2 ⟨rfl, hb⟩
        obtain ⟨x0', x1', _, _, _⟩ := blk2cells (blk_keep HK1'.out hb)
        obtain ⟨y0', y1', _, _, _⟩ := blk2cells (blk_keep HK2'.out hb)
        have HB2 := Lib.hid hb
        clear hb
        go_wp2_with fail
        go_ret
        exact ⟨by rw [HE.out]; rfl, HB1.out.trans (HB2.out.mono HB1.out.size)⟩

end
end Go.Proofs.YtjhlmalpcelbaaaDoor

namespace Go.Proofs.YtjhlmalpcelbaaaDoor
open Go.RowKit

/-- an own row that is not the one appended to stays, and stays apart -/
theorem own_other_app {w w' : World} {B n g : Nat} {e : TypeId} {a b : Value} {xs : List Value} {o : Obj} (ha : w.ownsRow B e 1 a n xs) (hne : a.ownBlock = none ∨ a.ownBlock ≠ b.ownBlock) (hg : (w.alloc o).grownBy w' b.ownBlock) (hat : b.ownBlock = some g ∨ g = (w.alloc o).heap.size) :
    w'.ownsRow B e 1 a n xs ∧ (a.ownBlock = none ∨ a.ownBlock ≠ some g) := by
  refine ⟨(ha.alloc o).kept hg hne, ?_⟩
  by_cases h0 : a.ownBlock = none
  · exact .inl h0
  · refine .inr fun h => ?_
    rcases hne with hne | hne
    · exact h0 hne
    · rcases hat with hat | hat
      · exact hne (h.trans hat.symm)
      · have := (ha.lt g h).2; simp at hat; omega
end Go.Proofs.YtjhlmalpcelbaaaDoor

namespace Go.Proofs.YtjhlmalpcelbaaaDoor
open Go.RowKit

/-- the reference's loop: the rows, the places of the new ones, the next place -/
def compStep (p : List Nat × List Nat × Nat) (b : Nat) : List Nat × List Nat × Nat := (putS p.1 b, if leftS p.1 b = 0 then p.2.1 else p.2.1 ++ [p.2.2], p.2.2 + 1)
def compK (S : List Nat) (bs : List Nat) (k : Nat) : List Nat × List Nat × Nat := (bs.take k).foldl compStep (S, [], 0)
theorem compK_succ (S bs : List Nat) (k : Nat) (h : k < bs.length) : compK S bs (k + 1) = compStep (compK S bs k) (bs.getD k 0) := fold_take_succ _ _ _ _ 0 h
theorem compK_inv {S bs : List Nat} (hS : Red S) (hb : ∀ b ∈ bs, Sm b) : ∀ k, k ≤ bs.length → Red (compK S bs k).1 ∧ (compK S bs k).1.length ≤ S.length + k ∧ (compK S bs k).2.1.length ≤ k ∧ (compK S bs k).2.2 = k := by
  intro k
  induction k with
  | zero => intro _; exact ⟨hS, by simp [compK], by simp [compK], rfl⟩
  | succ k ih =>
    intro hk
    obtain ⟨h1, h2, h3, h4⟩ := ih (by omega)
    rw [compK_succ S bs k (by omega)]
    have hm : Sm (bs.getD k 0) := hb _ (by simp [List.getD, show k < bs.length by omega])
    refine ⟨red_put h1 hm, ?_, ?_, ?_⟩
    · have := putS_length_le (compK S bs k).1 (bs.getD k 0); simp only [compStep]; omega
    · simp only [compStep]; split
      · omega
      · simp; omega
    · simp only [compStep, h4]

/-- the program's loop -/
def compStepI (p : List (Nat × Nat) × List Nat × Nat) (b : Nat) : List (Nat × Nat) × List Nat × Nat := (addL p.1 (b, 0), if (leftN p.1 (b, 0)).1 = 0 then p.2.1 else p.2.1 ++ [p.2.2], p.2.2 + 1)
def compKI (L : List (Nat × Nat)) (bs : List Nat) (k : Nat) : List (Nat × Nat) × List Nat × Nat := (bs.take k).foldl compStepI (L, [], 0)
theorem compKI_succ (L : List (Nat × Nat)) (bs : List Nat) (k : Nat) (h : k < bs.length) : compKI L bs (k + 1) = compStepI (compKI L bs k) (bs.getD k 0) := fold_take_succ _ _ _ _ 0 h
theorem compKI_inv {S bs : List Nat} {L : List (Nat × Nat)} (hp : (r1 L).Perm S) (hL : Red (r1 L)) (hg : Good L) (hb : ∀ b ∈ bs, Sm b) : ∀ k, k ≤ bs.length →
    (r1 (compKI L bs k).1).Perm (compK S bs k).1 ∧ Red (r1 (compKI L bs k).1) ∧ Good (compKI L bs k).1 ∧ (compKI L bs k).1.length ≤ L.length + k ∧ (compKI L bs k).2 = (compK S bs k).2 := by
  intro k
  induction k with
  | zero => intro _; exact ⟨hp, hL, hg, by simp [compKI], rfl⟩
  | succ k ih =>
    intro hk
    obtain ⟨h1, h2, h3, h4, h5⟩ := ih (by omega)
    rw [compK_succ S bs k (by omega), compKI_succ L bs k (by omega)]
    have hm : Sm (bs.getD k 0) := hb _ (by simp [List.getD, show k < bs.length by omega])
    refine ⟨addL_perm h1 h2 (bs.getD k 0, 0), addL_red h2 hm, addL_good h2 h3 ⟨hm, Sm.zero⟩, ?_, ?_⟩
    · have := addL_length_le (compKI L bs k).1 (bs.getD k 0, 0); simp only [compStepI]; omega
    · simp only [compStepI, compStep, h5]
      rw [leftN_fst, leftS_perm h2 h1]

/-- what l02Put hands back is apart from an own row from which its argument was apart -/
theorem put_apart {w w' : World} {B n m : Nat} {e e' : TypeId} {v v' o : Value} {xs ys : List Value} (hor : v' = v ∨ w'.ownsRow w.heap.size e 1 v' n xs) (hne : v.ownBlock = none ∨ v.ownBlock ≠ o.ownBlock) (ho : w.ownsRow B e' 1 o m ys) : v'.ownBlock = none ∨ v'.ownBlock ≠ o.ownBlock := by
  rcases hor with rfl | h
  · exact hne
  · by_cases h0 : v'.ownBlock = none
    · exact .inl h0
    · refine .inr fun e => ?_
      obtain ⟨k, hk⟩ := Option.ne_none_iff_exists'.1 h0
      have h1 := (h.lt k hk).1
      have h2 := (ho.lt k (e.symm.trans hk)).2
      omega

/-- What ComplementRows answers. -/
def compOf (c : Int) (xs : List Int) (c' : Int) (ys : List Int) : List Nat × Int :=
  if bothOf c xs c' ys = 0 then ((compK (reduceS (toN xs)) (toN ys) (toN ys).length).2.1, 0) else ([], bothOf c xs c' ys)
theorem bothOf_zero {c c' : Int} {xs ys : List Int} (h : bothOf c xs c' ys = 0) : isMat c xs = true ∧ isMat c' ys = true ∧ c = c' := by
  unfold bothOf at h
  split at h
  · rename_i hb
    simp only [Bool.and_eq_true] at hb
    split at h
    · exact ⟨hb.1, hb.2, by assumption⟩
    · cases h
  · cases h

set_option maxRecDepth 100000 in
set_option maxHeartbeats 2000000 in
theorem specComp_any (c c' : Int) (A A' : Option Addr) (n n' cap cap' : Nat) (xs ys : List Int) (w : World) (hn : n = xs.length) (hn' : n' = ys.length) (hsm : n ≤ 1099511627776) (hsm' : n' ≤ 1099511627776) (hR : Rd w A (iv xs)) (hR' : Rd w A' (iv ys)) :
    Calls Tryd.prog 14 #[.agg #[.int .i64 c, .slice A n cap], .agg #[.int .i64 c', .slice A' n' cap']] w fun e w' =>
      ∃ v, e = .returned (.tuple #[v, .int .i64 (compOf c xs c' ys).2]) ∧ w'.ownsRow w.heap.size 2 1 v (compOf c xs c' ys).1.length (nv (compOf c xs c' ys).1) ∧ Below w.heap.size w w' := by
  have hb1 := blk_alloc (blk_new w (.cells #[.int .i64 c, .slice A n cap] 26)) (.cells #[.int .i64 c', .slice A' n' cap'] 26)
  have hb2 := blk_new1 w (.cells #[.int .i64 c, .slice A n cap] 26) (.cells #[.int .i64 c', .slice A' n' cap'] 26)
  have hbel : Below w.heap.size w ((w.alloc (.cells #[.int .i64 c, .slice A n cap] 26)).alloc (.cells #[.int .i64 c', .slice A' n' cap'] 26)) := ((Below.refl _ _).alloc (Nat.le_refl _) _).alloc (by simp) _
  have h1 := l02Both_any c c' A A' n n' cap cap' xs ys _ hn hn' hsm hsm' (hR.below hbel) (hR'.below hbel)
  have HK1 := Lib.hid hb1
  have HK2 := Lib.hid hb2
  have HB := Lib.hid hbel
  have HR := Lib.hid hR
  have HR' := Lib.hid hR'
  have Hn := Lib.hid hn
  have Hn' := Lib.hid hn'
  clear hb1 hb2 hbel hR hR' hn hn'
  by_cases h0 : bothOf c xs c' ys = 0
  · obtain ⟨hi, hj, hc⟩ := bothOf_zero h0
    rw [h0] at h1
    have H1 := Lib.hid h1
    have HE : Hid (compOf c xs c' ys = ((compK (reduceS (toN xs)) (toN ys) (toN ys).length).2.1, 0)) := by show _ = _; unfold compOf; rw [if_pos h0]
    have hlx := isMat_len hi
    have hly := isMat_len hj
    have HSx := Lib.hid (isMat_sm hi)
    have HSy := Lib.hid (isMat_sm hj)
    have HRx : Hid (Rd w A (nv (toN xs))) := by have := HR.out; rw [iv_toN (fun x hx => (isMat_nonneg hi x hx).1)] at this; exact this
    have HRy : Hid (Rd w A' (nv (toN ys))) := by have := HR'.out; rw [iv_toN (fun x hx => (isMat_nonneg hj x hx).1)] at this; exact this
    have lx : (toN xs).length = xs.length := by simp [toN]
    have ly : (toN ys).length = ys.length := by simp [toN]
    have hlyN : (toN ys).length ≤ 200 := by rw [ly]; exact hly
    have Lx := Lib.hid lx
    have Ly := Lib.hid ly
    clear h1 h0 hi hj hc lx ly
    go_enter Tryd.func14, Tryd.ntmps14
    go_wp2_with fail
    refine H1.out.mono ?_
    rintro e w1 ⟨rfl, hb⟩
    have HK1a := Lib.hid (blk_keep HK1.out hb)
    have HK2a := Lib.hid (blk_keep HK2.out hb)
    have HB1 := Lib.hid (HB.out.trans (hb.mono HB.out.size))
    obtain ⟨x0, x1, _, _, _⟩ := blk2cells HK1a.out
    clear hb
    go_wp2_with fail
    refine (reduce_any A n cap (toN xs) w1 (by rw [Hn.out, Lx.out]) (by rw [Hn.out]; omega) HSx.out (HRx.out.below HB1.out)).mono ?_
    rintro e w2 ⟨v2, rfl, hown2, hb⟩
    have HK2b := Lib.hid (blk_keep HK2a.out hb)
    have HB2 := Lib.hid (HB1.out.trans (hb.mono HB1.out.size))
    have HO2 := Lib.hid (hown2.mono HB1.out.size)
    have HL2 := Lib.hid (fun k hk => (hown2.lt k hk).2)
    clear hb hown2 x0 x1
    go_wp2_with fail
    go_loopw [7, 8, 9] (fun r o i wr => ∃ k : Nat, k ≤ n' ∧ i = .int .i64 k ∧ wr.ownsRow w.heap.size 2 1 r (compK (reduceS (toN xs)) (toN ys) k).1.length (nv (compK (reduceS (toN xs)) (toN ys) k).1) ∧
        wr.ownsRow w.heap.size 2 1 o (compK (reduceS (toN xs)) (toN ys) k).2.1.length (nv (compK (reduceS (toN xs)) (toN ys) k).2.1) ∧ (r.ownBlock = none ∨ r.ownBlock ≠ o.ownBlock) ∧
        wr.heap[w.heap.size + 1]? = some (.cells #[.int .i64 c', .slice A' n' cap'] 26 (0, 0)) ∧ Below w.heap.size w wr) (fun _ _ i _ => n' - (intOf i).toNat)
    case atStart =>
      refine ⟨0, by omega, rfl, ?_, ?_, ?_, ?_, HB2.out.alloc HB2.out.size _⟩
      · exact HO2.out.alloc _
      · exact World.ownsRow_made w2 #[] 0 HB2.out.size (by decide) (by simp)
      · by_cases hv : v2.ownBlock = none
        · exact .inl hv
        · refine .inr fun e => ?_
          have := HL2.out w2.heap.size (e.trans rfl)
          omega
      · exact blk_alloc HK2b.out _
    case round =>
      obtain ⟨k, hk, rfl, hor, hoo, hne, hbk, hbel⟩ := hrel
      have hsz : w.heap.size ≤ wr.heap.size := hbel.size
      obtain ⟨y0, y1, _, _, hly2⟩ := blk2cells hbk
      by_cases hlt : k < n'
      · have hkL : k < (toN ys).length := by rw [Ly.out, ← Hn'.out]; exact hlt
        obtain ⟨b, o', rfl, hc⟩ := (HRy.out.below hbel).atN hkL
        have hm : (toN ys).getD k 0 ∈ toN ys := by simp only [List.getD, List.getElem?_eq_getElem hkL, Option.getD_some]; exact List.getElem_mem hkL
        have g1 := HSy.out _ hm
        have Hs := Lib.hid (compK_succ (reduceS (toN xs)) (toN ys) k hkL)
        obtain ⟨i1, i2, i3, i4⟩ := compK_inv (red_reduce HSx.out) HSy.out k (by omega)
        have hrl := reduceS_length_le (toN xs)
        rw [Lx.out] at hrl
        generalize compK (reduceS (toN xs)) (toN ys) k = p at *
        generalize (toN ys).getD k 0 = x at *
        obtain ⟨S, out, kk⟩ := p
        simp only at i1 i2 i3 i4 hor hoo
        subst i4
        obtain ⟨Ar, cr, rfl, _, _, _⟩ := owns_shape hor
        have hwo := fun W (h : W = wr) => without_any Ar S.length cr S x W rfl (by omega) g1 i1.ne (by rw [h]; exact owns_Rd hor)
        have HW := Lib.hid hwo
        have HOR := Lib.hid hor
        have HOO := Lib.hid hoo
        have HNE := Lib.hid hne
        have HBK := Lib.hid hbk
        have HB := Lib.hid hbel
        have HI := Lib.hid i1
        clear hwo hor hoo hne hbk hbel hm i1
        by_cases h0 : leftS S x = 0
        · rw [h0] at HW
          have e : putS S x = S := by unfold putS; rw [if_pos h0]
          have HS1 : Hid (compStep (S, out, kk) x = (S, out, kk + 1)) := by show _ = _; simp [compStep, h0, e]
          clear h0 e
          go_wp2_with (go_at_call 61; refine (HW.out _ rfl).mono ?_; rintro e w' ⟨rfl, rfl⟩)
          go_roundw
          case rel => exact ⟨kk + 1, by omega, by go_num, by rw [Hs.out, HS1.out]; exact HOR.out, by rw [Hs.out, HS1.out]; exact HOO.out, HNE.out, HBK.out, HB.out⟩
          case measure => simp [intOf]; omega
        · have HS1 : Hid (compStep (S, out, kk) x = (putS S x, out ++ [kk], kk + 1)) := by show _ = _; simp [compStep, h0]
          have hyb : ((leftS S x : Nat) : Int) ≠ 0 := by omega
          have hyb2 : (((leftS S x : Nat) : Int) != 0) = true := by simpa using h0
          generalize leftS S x = y at *
          clear h0 hyb
          go_wp2_with (go_at_call 61; refine (HW.out _ rfl).mono ?_; rintro e w' ⟨rfl, rfl⟩)
          refine (put_any w.heap.size _ S x wr hsz HOR.out (by omega) g1 HI.out).mono ?_
          rintro e w1 ⟨v1, rfl, hown1, hb1, hor1⟩
          have hoo1 := owns_keeps HOO.out (Keeps.of_below hb1) (.inr (by simp))
          have hne1 := put_apart hor1 HNE.out HOO.out
          have HO1 := Lib.hid hown1
          have HOO1 := Lib.hid hoo1
          have HN1 := Lib.hid hne1
          have HBK1 := Lib.hid (blk_keep HBK.out hb1)
          have HB1 := Lib.hid (HB.out.trans (hb1.mono hsz))
          have hsz1 : w.heap.size ≤ w1.heap.size := HB1.out.size
          have hb1s := hb1.size
          clear hown1 hoo1 hne1 hor1 hb1
          go_wp2_with (at_builtin; refine wpList_app1 _ _ _ _ _ etI (by rfl) (by rfl) w.heap.size _ out.length (nv out) (by rfl) ?_ _ (.int .i64 (kk : Int)) (by rfl) ?_ (by rfl) ?_ ?_ ?_; exact HOO1.out.alloc _; exact new_cell _ _ _; omega; (simp; omega); (intro g2 cap2 w2' hown2 hgrow2 hat2 hlt2; have HO2' : Hid (w2'.ownsRow w.heap.size 2 1 (.slice (some ⟨g2, 0, none⟩) (out.length + 1) cap2) (out.length + 1) (nv (out ++ [kk]))) := (by rw [← nv_snoc]; exact hown2); have HG2 := Lib.hid hgrow2; have HA2 := Lib.hid hat2; clear hown2 hgrow2 hat2 hlt2))
          go_roundw
          case rel =>
            obtain ⟨k1, k2⟩ := own_other_app HO1.out HN1.out HG2.out HA2.out
            refine ⟨kk + 1, by omega, by go_num, by rw [Hs.out, HS1.out]; exact k1, by rw [Hs.out, HS1.out]; exact own_cast HO2'.out (by simp) rfl, k2, ?_, ?_⟩
            · exact blk_grown (blk_alloc HBK1.out _) HG2.out (own_ne HOO1.out HBK1.out (by decide))
            · exact below_app HB1.out hsz1 HOO1.out HG2.out
          case measure => simp [intOf]; omega
      · have ek : k = (toN ys).length := by rw [Ly.out, ← Hn'.out]; omega
        have HOO := Lib.hid hoo
        have HB := Lib.hid hbel
        clear hor hoo hne hbk hbel
        go_wp2_with fail
        go_ret2
        exact ⟨_, by rw [HE.out]; rfl, by rw [HE.out]; rw [← ek]; exact HOO.out, HB.out⟩
  · have HE : Hid (compOf c xs c' ys = ([], bothOf c xs c' ys)) := by show _ = _; unfold compOf; rw [if_neg h0]
    have hcb : (bothOf c xs c' ys != 0) = true := by simpa using h0
    generalize bothOf c xs c' ys = code at *
    have H1 := Lib.hid h1
    clear h1 h0
    go_enter Tryd.func14, Tryd.ntmps14
    go_wp2_with fail
    refine H1.out.mono ?_
    rintro e w1 ⟨rfl, hb⟩
    have HB1 := Lib.hid (HB.out.trans (hb.mono HB.out.size))
    clear hb
    go_wp2_with fail
    go_ret2
    exact ⟨_, by rw [HE.out]; rfl, by rw [HE.out]; exact World.ownsRow_nil _ _ _ _, HB1.out⟩
end Go.Proofs.YtjhlmalpcelbaaaDoor

namespace Go.Proofs.YtjhlmalpcelbaaaDoor
open Go.RowKit

theorem own_cast2 {w : World} {B : Nat} {e : TypeId} {v : Value} {n m : Nat} {xs ys : List Value} (h : w.ownsRow B e 1 v n xs) (hn : n = m) (hx : xs = ys) : w.ownsRow B e 1 v m ys := by
  subst hn; subst hx; exact h
theorem nv_snoc2 (xs : List Nat) (x : Nat) : nv xs ++ [.int .i64 (x : Int)] = nv (xs ++ [x]) := by simp [nv]
/-- a span beside an own row -/
theorem span_own_add {w w' : World} {B B' bs m : Nat} {v1 v2 o : Value} {L N : List (Nat × Nat)} {ys : List Value} (hs : SpanAt w B bs v1 v2 L) (ho : w.ownsRow B' 2 1 o m ys) (h1 : o.ownBlock ≠ v1.ownBlock) (h2 : o.ownBlock ≠ v2.ownBlock)
    (hp : AddPost w B bs v1 v2 N w') : w'.ownsRow B' 2 1 o m ys ∧ ∃ u1 u2, SpanAt w' B bs u1 u2 N ∧ o.ownBlock ≠ u1.ownBlock ∧ o.ownBlock ≠ u2.ownBlock := by
  obtain ⟨hk, u1, u2, hs', hu1, hu2⟩ := hp
  have hb := own_ne ho hs.blk (by decide)
  refine ⟨owns_keeps ho hk (.inr ?_), u1, u2, hs', ?_, ?_⟩
  · simp only [List.mem_cons, List.not_mem_nil, or_false, not_or]; exact ⟨hb, h1, h2⟩
  · rcases hu1 with e | ⟨k, e, hk'⟩
    · rw [e]; exact h1
    · intro e'; have := (ho.lt k (e'.trans e)).2; omega
  · rcases hu2 with e | ⟨k, e, hk'⟩
    · rw [e]; exact h2
    · intro e'; have := (ho.lt k (e'.trans e)).2; omega
/-- an append to the own row beside a span -/
theorem span_own_app {w w' : World} {B g bs : Nat} {v1 v2 o : Value} {L : List (Nat × Nat)} {ob : Obj} (hs : SpanAt w B bs v1 v2 L) (hb : o.ownBlock ≠ some bs) (h1 : o.ownBlock ≠ v1.ownBlock) (h2 : o.ownBlock ≠ v2.ownBlock)
    (hg : (w.alloc ob).grownBy w' o.ownBlock) (hat : o.ownBlock = some g ∨ g = (w.alloc ob).heap.size) : SpanAt w' B bs v1 v2 L ∧ some g ≠ v1.ownBlock ∧ some g ≠ v2.ownBlock := by
  refine ⟨hs.keeps (((Keeps.refl w []).alloc ob).trans (Keeps.of_grown hg) (T := [o.ownBlock]) (by simp)) (by simpa using hb.symm) (.inr (by simpa using h1.symm)) (.inr (by simpa using h2.symm)), ?_, ?_⟩
  · rcases hat with h | h
    · rw [← h]; exact h1
    · intro e; have := (hs.own1.lt g e.symm).2; simp at h; omega
  · rcases hat with h | h
    · rw [← h]; exact h2
    · intro e; have := (hs.own2.lt g e.symm).2; simp at h; omega

end Go.Proofs.YtjhlmalpcelbaaaDoor
