/- the reference's l02Put, l02Reduce -/
import Derived.Test.YtchmplpgamekjaaDoorG
import Derived.Deep.Onto
namespace Go.Proofs.YtchmplpgamekjaaDoor
open Go.RowKit

theorem nv_snoc (xs : List Nat) (x : Nat) : nv xs ++ [.int .i64 (x : Int)] = nv (xs ++ [x]) := by simp [nv]

/-- the loop of l02Put after k rounds -/
def putK (x : Nat) (S : List Nat) (k : Nat) : List Nat × Bool := (S.take k).foldl (putStep x) ([], false)
theorem putK_succ (x : Nat) (S : List Nat) (k : Nat) (h : k < S.length) : putK x S (k + 1) = putStep x (putK x S k) (S.getD k 0) := fold_take_succ _ _ _ _ 0 h
theorem putStep_len (x : Nat) (p : List Nat × Bool) (r : Nat) : (putStep x p r).1.length ≤ p.1.length + 2 := by
  unfold putStep; split <;> simp
theorem putK_len (x : Nat) (S : List Nat) (k : Nat) : (putK x S k).1.length ≤ 2 * k := by
  induction k with
  | zero => simp [putK]
  | succ k ih =>
    by_cases h : k < S.length
    · rw [putK_succ x S k h]; have := putStep_len x (putK x S k) (S.getD k 0); omega
    · have : putK x S (k + 1) = putK x S k := by unfold putK; rw [List.take_of_length_le (by omega), List.take_of_length_le (by omega)]
      rw [this]; omega

/-- a row of the call's own made longer by one -/
theorem below_app {H : Nat} {w wr w1 : World} {v : Value} {n : Nat} {xs : List Value} {e : TypeId} (hb : Below H w wr) (hH : H ≤ wr.heap.size) (hown : wr.ownsRow H e 1 v n xs) {o : Obj} (hg : (wr.alloc o).grownBy w1 v.ownBlock) : Below H w w1 :=
  (hb.alloc hH o).grown hg (by simp; omega) (fun k hk => (hown.lt k hk).1)

theorem own_cast {w : World} {B : Nat} {e : TypeId} {v : Value} {n m : Nat} {xs ys : List Value} (h : w.ownsRow B e 1 v n xs) (hn : n = m) (hx : xs = ys) : w.ownsRow B e 1 v m ys := by
  subst hn; subst hx; exact h

attribute [local go_sem] i64_xor_nat and_pw_ne pw_lt pw_ltN in
set_option maxRecDepth 100000 in
set_option maxHeartbeats 2000000 in
theorem put_any (B : Nat) (v : Value) (S : List Nat) (x : Nat) (w : World) (hB : B ≤ w.heap.size) (hown : w.ownsRow B 2 1 v S.length (nv S)) (hsmall : S.length ≤ 1000000) (hx : Sm x) (hS : Red S) :
    Calls Tryd.prog 80 #[v, .int .i64 x] w fun e w' => ∃ v', e = .returned v' ∧ w'.ownsRow B 2 1 v' (putS S x).length (nv (putS S x)) ∧ Below w.heap.size w w' ∧ (v' = v ∨ w'.ownsRow w.heap.size 2 1 v' (putS S x).length (nv (putS S x))) := by
  obtain ⟨A, c, rfl, _, hA, _⟩ := owns_shape hown
  have hR := owns_Rd hown
  have hw := without_any A S.length c S x w rfl hsmall hx hS.ne hR
  by_cases h0 : leftS S x = 0
  · rw [h0] at hw
    have HW := Lib.hid hw
    have e : putS S x = S := by unfold putS; rw [if_pos h0]
    have HE := Lib.hid e
    have HO := Lib.hid hown
    clear hw e h0 hR hA hown hS
    go_enter Tryd.func80, Tryd.ntmps80
    go_wp2_with (go_at_call 73; refine HW.out.mono ?_; rintro e w' ⟨rfl, rfl⟩)
    go_ret
    exact ⟨_, rfl, by rw [HE.out]; exact HO.out, Below.refl _ _, .inl rfl⟩
  · have e : putS S x = putEnd (leftS S x) (putK (leftS S x) S S.length) := by unfold putS putK; rw [if_neg h0, List.take_length]
    have hsm := leftS_sm hS.ne hx
    generalize leftS S x = y at *
    have HW := Lib.hid hw
    have HE := Lib.hid e
    have hy0 : ((y : Int) == 0) = false := by simp; exact h0
    have hpy := pv_le h0 hsm
    have HLy := Lib.hid (fun W => low_any y h0 hsm W)
    have HR := Lib.hid hR
    have HS := Lib.hid hS.ne
    clear hw e hR hA hown hS h0
    go_enter Tryd.func80, Tryd.ntmps80
    go_wp2_with (first | (go_at_call 73; refine HW.out.mono ?_; rintro e w' ⟨rfl, rfl⟩) | (go_at_call 111; refine (HLy.out _).mono ?_; rintro e w' ⟨rfl, rfl⟩))
    go_loopw [6, 7, 8] (fun o d i wr => ∃ k : Nat, k ≤ S.length ∧ i = .int .i64 k ∧ d = .bool (putK y S k).2 ∧ wr.ownsRow w.heap.size 2 1 o (putK y S k).1.length (nv (putK y S k).1) ∧ Below w.heap.size w wr) (fun _ _ i _ => S.length - (intOf i).toNat)
    case atStart => exact ⟨0, by omega, rfl, rfl, World.ownsRow_made w #[] 0 (Nat.le_refl _) (by decide) (by simp), (Below.refl _ _).alloc (Nat.le_refl _) _⟩
    case round =>
      obtain ⟨k, hk, rfl, rfl, hown, hbel⟩ := hrel
      have hsz : w.heap.size ≤ wr.heap.size := hbel.size
      by_cases hlt : k < S.length
      · have hc := (HR.out.below hbel).atN hlt
        obtain ⟨b, o, rfl, hc⟩ := hc
        have hm : S.getD k 0 ∈ S := by simp [List.getD, hlt]
        obtain ⟨g0, g1⟩ := HS.out _ hm
        have Hs := Lib.hid (putK_succ y S k hlt)
        have hl := putK_len y S k
        generalize putK y S k = p at *
        generalize S.getD k 0 = r at *
        obtain ⟨out, done⟩ := p
        have hpv := pv_le g0 g1
        have HL := Lib.hid (fun W => low_any r g0 g1 W)
        have HO := Lib.hid hown
        have HB := Lib.hid hbel
        clear hown hbel hm
        simp only at hl
        cases done
        · by_cases hp : pv y < pv r
          · cases hb : tb r (pv y)
            · go_wp2_with (first | (go_at_call 111; refine (HL.out _).mono ?_; rintro e w' ⟨rfl, rfl⟩) | (at_builtin; refine wpList_app1 _ _ _ _ _ etI (by rfl) (by rfl) w.heap.size _ out.length (nv out) (by rfl) ?_ _ (.int .i64 (y : Int)) (by rfl) ?_ (by rfl) ?_ ?_ ?_; exact HO.out.alloc _; exact new_cell _ _ _; omega; (simp; omega); (intro g1' cap1 w1 hown1 hgrow1 hat1 hlt1; have HO1 : Hid (w1.ownsRow w.heap.size 2 1 (.slice (some ⟨g1', 0, none⟩) (out.length + 1) cap1) (out.length + 1) (nv (out ++ [y]))) := (by rw [← nv_snoc]; exact hown1); have HB1 := Lib.hid (below_app HB.out hsz HO.out hgrow1); have hsz1 : w.heap.size ≤ w1.heap.size := HB1.out.size; clear hown1 hgrow1 hat1 hlt1)) | (at_builtin; refine wpList_app1 _ _ _ _ _ etI (by rfl) (by rfl) w.heap.size _ (out.length + 1) (nv (out ++ [y])) (by rfl) ?_ _ (.int .i64 (r : Int)) (by rfl) ?_ (by rfl) ?_ ?_ ?_; exact HO1.out.alloc _; exact new_cell _ _ _; omega; (simp; omega); (intro g2' cap2 w2 hown2 hgrow2 hat2 hlt2; have HO2 : Hid (w2.ownsRow w.heap.size 2 1 (.slice (some ⟨g2', 0, none⟩) (out.length + 1 + 1) cap2) (out.length + 1 + 1) (nv (out ++ [y] ++ [r]))) := (by rw [← nv_snoc]; exact hown2); have HB2 := Lib.hid (below_app HB1.out hsz1 HO1.out hgrow2); clear hown2 hgrow2 hat2 hlt2)))
              go_roundw
              case rel => exact ⟨k + 1, by omega, by go_num, by rw [Hs.out]; simp [putStep, hp], own_cast HO2.out (by rw [Hs.out]; simp [putStep, hp]) (by rw [Hs.out]; simp [putStep, stepS, hb, hp]), HB2.out⟩
              case measure => simp [intOf]; omega
            · go_wp2_with (first | (go_at_call 111; refine (HL.out _).mono ?_; rintro e w' ⟨rfl, rfl⟩) | (at_builtin; refine wpList_app1 _ _ _ _ _ etI (by rfl) (by rfl) w.heap.size _ out.length (nv out) (by rfl) ?_ _ (.int .i64 (y : Int)) (by rfl) ?_ (by rfl) ?_ ?_ ?_; exact HO.out.alloc _; exact new_cell _ _ _; omega; (simp; omega); (intro g1' cap1 w1 hown1 hgrow1 hat1 hlt1; have HO1 : Hid (w1.ownsRow w.heap.size 2 1 (.slice (some ⟨g1', 0, none⟩) (out.length + 1) cap1) (out.length + 1) (nv (out ++ [y]))) := (by rw [← nv_snoc]; exact hown1); have HB1 := Lib.hid (below_app HB.out hsz HO.out hgrow1); have hsz1 : w.heap.size ≤ w1.heap.size := HB1.out.size; clear hown1 hgrow1 hat1 hlt1)) | (at_builtin; refine wpList_app1 _ _ _ _ _ etI (by rfl) (by rfl) w.heap.size _ (out.length + 1) (nv (out ++ [y])) (by rfl) ?_ _ (.int .i64 (xr r y : Int)) (by rfl) ?_ (by rfl) ?_ ?_ ?_; exact HO1.out.alloc _; exact new_cell _ _ _; omega; (simp; omega); (intro g2' cap2 w2 hown2 hgrow2 hat2 hlt2; have HO2 : Hid (w2.ownsRow w.heap.size 2 1 (.slice (some ⟨g2', 0, none⟩) (out.length + 1 + 1) cap2) (out.length + 1 + 1) (nv (out ++ [y] ++ [xr r y]))) := (by rw [← nv_snoc]; exact hown2); have HB2 := Lib.hid (below_app HB1.out hsz1 HO1.out hgrow2); clear hown2 hgrow2 hat2 hlt2)))
              go_roundw
              case rel => exact ⟨k + 1, by omega, by go_num, by rw [Hs.out]; simp [putStep, hp], own_cast HO2.out (by rw [Hs.out]; simp [putStep, hp]) (by rw [Hs.out]; simp [putStep, stepS, hb, hp]), HB2.out⟩
              case measure => simp [intOf]; omega
          · have hp' : decide (pv y < pv r) = false := by simpa using hp
            cases hb : tb r (pv y)
            · go_wp2_with (first | (go_at_call 111; refine (HL.out _).mono ?_; rintro e w' ⟨rfl, rfl⟩) | (at_builtin; refine wpList_app1 _ _ _ _ _ etI (by rfl) (by rfl) w.heap.size _ out.length (nv out) (by rfl) ?_ _ (.int .i64 (r : Int)) (by rfl) ?_ (by rfl) ?_ ?_ ?_; exact HO.out.alloc _; exact new_cell _ _ _; omega; (simp; omega); (intro g1' cap1 w1 hown1 hgrow1 hat1 hlt1; have HO1 : Hid (w1.ownsRow w.heap.size 2 1 (.slice (some ⟨g1', 0, none⟩) (out.length + 1) cap1) (out.length + 1) (nv (out ++ [r]))) := (by rw [← nv_snoc]; exact hown1); have HB1 := Lib.hid (below_app HB.out hsz HO.out hgrow1); have hsz1 : w.heap.size ≤ w1.heap.size := HB1.out.size; clear hown1 hgrow1 hat1 hlt1)))
              go_roundw
              case rel => exact ⟨k + 1, by omega, by go_num, by rw [Hs.out]; simp [putStep, hp], own_cast HO1.out (by rw [Hs.out]; simp [putStep, hp]) (by rw [Hs.out]; simp [putStep, stepS, hb, hp]), HB1.out⟩
              case measure => simp [intOf]; omega
            · go_wp2_with (first | (go_at_call 111; refine (HL.out _).mono ?_; rintro e w' ⟨rfl, rfl⟩) | (at_builtin; refine wpList_app1 _ _ _ _ _ etI (by rfl) (by rfl) w.heap.size _ out.length (nv out) (by rfl) ?_ _ (.int .i64 (xr r y : Int)) (by rfl) ?_ (by rfl) ?_ ?_ ?_; exact HO.out.alloc _; exact new_cell _ _ _; omega; (simp; omega); (intro g1' cap1 w1 hown1 hgrow1 hat1 hlt1; have HO1 : Hid (w1.ownsRow w.heap.size 2 1 (.slice (some ⟨g1', 0, none⟩) (out.length + 1) cap1) (out.length + 1) (nv (out ++ [xr r y]))) := (by rw [← nv_snoc]; exact hown1); have HB1 := Lib.hid (below_app HB.out hsz HO.out hgrow1); have hsz1 : w.heap.size ≤ w1.heap.size := HB1.out.size; clear hown1 hgrow1 hat1 hlt1)))
              go_roundw
              case rel => exact ⟨k + 1, by omega, by go_num, by rw [Hs.out]; simp [putStep, hp], own_cast HO1.out (by rw [Hs.out]; simp [putStep, hp]) (by rw [Hs.out]; simp [putStep, stepS, hb, hp]), HB1.out⟩
              case measure => simp [intOf]; omega
        · cases hb : tb r (pv y)
          · go_wp2_with (first | (go_at_call 111; refine (HL.out _).mono ?_; rintro e w' ⟨rfl, rfl⟩) | (at_builtin; refine wpList_app1 _ _ _ _ _ etI (by rfl) (by rfl) w.heap.size _ out.length (nv out) (by rfl) ?_ _ (.int .i64 (r : Int)) (by rfl) ?_ (by rfl) ?_ ?_ ?_; exact HO.out.alloc _; exact new_cell _ _ _; omega; (simp; omega); (intro g1' cap1 w1 hown1 hgrow1 hat1 hlt1; have HO1 : Hid (w1.ownsRow w.heap.size 2 1 (.slice (some ⟨g1', 0, none⟩) (out.length + 1) cap1) (out.length + 1) (nv (out ++ [r]))) := (by rw [← nv_snoc]; exact hown1); have HB1 := Lib.hid (below_app HB.out hsz HO.out hgrow1); have hsz1 : w.heap.size ≤ w1.heap.size := HB1.out.size; clear hown1 hgrow1 hat1 hlt1)))
            go_roundw
            case rel => exact ⟨k + 1, by omega, by go_num, by rw [Hs.out]; simp [putStep], own_cast HO1.out (by rw [Hs.out]; simp [putStep]) (by rw [Hs.out]; simp [putStep, stepS, hb]), HB1.out⟩
            case measure => simp [intOf]; omega
          · go_wp2_with (first | (go_at_call 111; refine (HL.out _).mono ?_; rintro e w' ⟨rfl, rfl⟩) | (at_builtin; refine wpList_app1 _ _ _ _ _ etI (by rfl) (by rfl) w.heap.size _ out.length (nv out) (by rfl) ?_ _ (.int .i64 (xr r y : Int)) (by rfl) ?_ (by rfl) ?_ ?_ ?_; exact HO.out.alloc _; exact new_cell _ _ _; omega; (simp; omega); (intro g1' cap1 w1 hown1 hgrow1 hat1 hlt1; have HO1 : Hid (w1.ownsRow w.heap.size 2 1 (.slice (some ⟨g1', 0, none⟩) (out.length + 1) cap1) (out.length + 1) (nv (out ++ [xr r y]))) := (by rw [← nv_snoc]; exact hown1); have HB1 := Lib.hid (below_app HB.out hsz HO.out hgrow1); have hsz1 : w.heap.size ≤ w1.heap.size := HB1.out.size; clear hown1 hgrow1 hat1 hlt1)))
            go_roundw
            case rel => exact ⟨k + 1, by omega, by go_num, by rw [Hs.out]; simp [putStep], own_cast HO1.out (by rw [Hs.out]; simp [putStep]) (by rw [Hs.out]; simp [putStep, stepS, hb]), HB1.out⟩
            case measure => simp [intOf]; omega
      · have ek : k = S.length := by omega
        subst ek
        have hl := putK_len y S S.length
        generalize putK y S S.length = p at *
        obtain ⟨out, done⟩ := p
        have HO := Lib.hid hown
        have HB := Lib.hid hbel
        clear hown hbel
        simp only at hl
        cases done
        · go_wp2_with (at_builtin; refine wpList_app1 _ _ _ _ _ etI (by rfl) (by rfl) w.heap.size _ out.length (nv out) (by rfl) ?_ _ (.int .i64 (y : Int)) (by rfl) ?_ (by rfl) ?_ ?_ ?_; exact HO.out.alloc _; exact new_cell _ _ _; omega; (simp; omega); (intro g1' cap1 w1 hown1 hgrow1 hat1 hlt1; have HO1 : Hid (w1.ownsRow w.heap.size 2 1 (.slice (some ⟨g1', 0, none⟩) (out.length + 1) cap1) (out.length + 1) (nv (out ++ [y]))) := (by rw [← nv_snoc]; exact hown1); have HB1 := Lib.hid (below_app HB.out hsz HO.out hgrow1); have hsz1 : w.heap.size ≤ w1.heap.size := HB1.out.size; clear hown1 hgrow1 hat1 hlt1))
          go_ret
          refine ⟨_, rfl, own_cast ((HO1.out).mono hB) (by rw [HE.out]; simp [putEnd]) (by rw [HE.out]; simp [putEnd]), HB1.out, .inr (own_cast HO1.out (by rw [HE.out]; simp [putEnd]) (by rw [HE.out]; simp [putEnd]))⟩
        · go_wp2_with fail
          go_ret
          refine ⟨_, rfl, own_cast ((HO.out).mono hB) (by rw [HE.out]; simp [putEnd]) (by rw [HE.out]; simp [putEnd]), HB.out, .inr (own_cast HO.out (by rw [HE.out]; simp [putEnd]) (by rw [HE.out]; simp [putEnd]))⟩
end Go.Proofs.YtchmplpgamekjaaDoor
