/- the reference's l02Put, l02Reduce · the reference's l12Basis -/
import Derived.Test.YtpchigdhnnkpcaaGreatDoorBxal
import Derived.Deep.Onto
import Derived.Test.YtpchigdhnnkpcaaGreatDoorBxai
import Derived.Test.YtpchigdhnnkpcaaGreatDoorBxak
import Derived.Test.YtpchigdhnnkpcaaGreatDoorBxaf
import Derived.Test.YtpchigdhnnkpcaaGreatDoorBxag
set_option linter.all false
namespace Go.Proofs.YtpchigdhnnkpcaaGreatDoor
open Go.RowKit

theorem nv_snoc (xs : List Nat) (x : Nat) : nv xs ++ [.int .i64 (x : Int)] = nv (xs ++ [x]) := by simp [nv]

/-- the loop of l02Put after k rounds -/
def putK (x : Nat) (S : List Nat) (k : Nat) : List Nat × Bool := (S.take k).foldl (putStep x) ([], false)
theorem putK_succ (x : Nat) (S : List Nat) (k : Nat) (h : k < S.length) : putK x S (k + 1) = putStep x (putK x S k) (S.getD k 0) := fold_take_succ _ _ _ _ 0 h
theorem putStep_len (x : Nat) (p : List Nat × Bool) (r : Nat) : (putStep x p r).1.length ≤ p.1.length + 2 := by
  unfold putStep; split <;> simp
theorem putK_len (x : Nat) (S : List Nat) (k : Nat) : (putK x S k).1.length ≤ 2 * k := by
  induction k with
  | zero => simp [putK]
  | succ k ih =>
    by_cases h : k < S.length
    · rw [putK_succ x S k h]; have := putStep_len x (putK x S k) (S.getD k 0); omega
    · have : putK x S (k + 1) = putK x S k := by unfold putK; rw [List.take_of_length_le (by omega), List.take_of_length_le (by omega)]
      rw [this]; omega

/-- a row of the call's own made longer by one -/
theorem below_app {H : Nat} {w wr w1 : World} {v : Value} {n : Nat} {xs : List Value} {e : TypeId} (hb : Below H w wr) (hH : H ≤ wr.heap.size) (hown : wr.ownsRow H e 1 v n xs) {o : Obj} (hg : (wr.alloc o).grownBy w1 v.ownBlock) : Below H w w1 :=
  (hb.alloc hH o).grown hg (by simp; omega) (fun k hk => (hown.lt k hk).1)

theorem own_cast {w : World} {B : Nat} {e : TypeId} {v : Value} {n m : Nat} {xs ys : List Value} (h : w.ownsRow B e 1 v n xs) (hn : n = m) (hx : xs = ys) : w.ownsRow B e 1 v m ys := by
  subst hn; subst hx; exact h

attribute [local go_sem] i64_xor_nat and_pw_ne pw_lt pw_ltN in
set_option maxRecDepth 100000 in
set_option maxHeartbeats 2000000 in
theorem put_any (B : Nat) (v : Value) (S : List Nat) (x : Nat) (w : World) (hB : B ≤ w.heap.size) (hown : w.ownsRow B 2 1 v S.length (nv S)) (hsmall : S.length ≤ 1000000) (hx : Sm x) (hS : Red S) :
    Calls Tryz.prog 69 #[v, .int .i64 x] w fun e w' => ∃ v', e = .returned v' ∧ w'.ownsRow B 2 1 v' (putS S x).length (nv (putS S x)) ∧ Below w.heap.size w w' ∧ (v' = v ∨ w'.ownsRow w.heap.size 2 1 v' (putS S x).length (nv (putS S x))) := by
  obtain ⟨A, c, rfl, _, hA, _⟩ := owns_shape hown
  have hR := owns_Rd hown
  have hw := without_any A S.length c S x w rfl hsmall hx hS.ne hR
  by_cases h0 : leftS S x = 0
  · rw [h0] at hw
    have HW := Lib.hid hw
    have e : putS S x = S := by unfold putS; rw [if_pos h0]
    have HE := Lib.hid e
    have HO := Lib.hid hown
    clear hw e h0 hR hA hown hS
    go_enter Tryz.func69, Tryz.ntmps69
    go_wp2_with (go_at_call 91; refine HW.out.mono ?_; rintro e w' ⟨rfl, rfl⟩)
    go_ret
    exact ⟨_, rfl, by rw [HE.out]; exact HO.out, Below.refl _ _, .inl rfl⟩
  · have e : putS S x = putEnd (leftS S x) (putK (leftS S x) S S.length) := by unfold putS putK; rw [if_neg h0, List.take_length]
    have hsm := leftS_sm hS.ne hx
    generalize leftS S x = y at *
    have HW := Lib.hid hw
    have HE := Lib.hid e
    have hy0 : ((y : Int) == 0) = false := by simp; exact h0
    have hpy := pv_le h0 hsm
    have HLy := Lib.hid (fun W => low_any y h0 hsm W)
    have HR := Lib.hid hR
    have HS := Lib.hid hS.ne
    clear hw e hR hA hown hS h0
    go_enter Tryz.func69, Tryz.ntmps69
    go_wp2_with (first | (go_at_call 91; refine HW.out.mono ?_; rintro e w' ⟨rfl, rfl⟩) | (go_at_call 82; refine (HLy.out _).mono ?_; rintro e w' ⟨rfl, rfl⟩))
    go_loopw [6, 7, 8] (fun o d i wr => ∃ k : Nat, k ≤ S.length ∧ i = .int .i64 k ∧ d = .bool (putK y S k).2 ∧ wr.ownsRow w.heap.size 2 1 o (putK y S k).1.length (nv (putK y S k).1) ∧ Below w.heap.size w wr) (fun _ _ i _ => S.length - (intOf i).toNat)
    case atStart => exact ⟨0, by omega, rfl, rfl, World.ownsRow_made w #[] 0 (Nat.le_refl _) (by decide) (by simp), (Below.refl _ _).alloc (Nat.le_refl _) _⟩
    case round =>
      obtain ⟨k, hk, rfl, rfl, hown, hbel⟩ := hrel
      have hsz : w.heap.size ≤ wr.heap.size := hbel.size
      by_cases hlt : k < S.length
      · have hc := (HR.out.below hbel).atN hlt
        obtain ⟨b, o, rfl, hc⟩ := hc
        have hm : S.getD k 0 ∈ S := by simp [List.getD, hlt]
        obtain ⟨g0, g1⟩ := HS.out _ hm
        have Hs := Lib.hid (putK_succ y S k hlt)
        have hl := putK_len y S k
        generalize putK y S k = p at *
        generalize S.getD k 0 = r at *
        obtain ⟨out, done⟩ := p
        have hpv := pv_le g0 g1
        have HL := Lib.hid (fun W => low_any r g0 g1 W)
        have HO := Lib.hid hown
        have HB := Lib.hid hbel
        clear hown hbel hm
        simp only at hl
        cases done
        · by_cases hp : pv y < pv r
          · cases hb : tb r (pv y)
            · go_wp2_with (first | (go_at_call 82; refine (HL.out _).mono ?_; rintro e w' ⟨rfl, rfl⟩) | (at_builtin; refine wpList_app1 _ _ _ _ _ etI (by rfl) (by rfl) w.heap.size _ out.length (nv out) (by rfl) ?_ _ (.int .i64 (y : Int)) (by rfl) ?_ (by rfl) ?_ ?_ ?_; exact HO.out.alloc _; exact new_cell _ _ _; omega; (simp; omega); (intro g1' cap1 w1 hown1 hgrow1 hat1 hlt1; have HO1 : Hid (w1.ownsRow w.heap.size 2 1 (.slice (some ⟨g1', 0, none⟩) (out.length + 1) cap1) (out.length + 1) (nv (out ++ [y]))) := (by rw [← nv_snoc]; exact hown1); have HB1 := Lib.hid (below_app HB.out hsz HO.out hgrow1); have hsz1 : w.heap.size ≤ w1.heap.size := HB1.out.size; clear hown1 hgrow1 hat1 hlt1)) | (at_builtin; refine wpList_app1 _ _ _ _ _ etI (by rfl) (by rfl) w.heap.size _ (out.length + 1) (nv (out ++ [y])) (by rfl) ?_ _ (.int .i64 (r : Int)) (by rfl) ?_ (by rfl) ?_ ?_ ?_; exact HO1.out.alloc _; exact new_cell _ _ _; omega; (simp; omega); (intro g2' cap2 w2 hown2 hgrow2 hat2 hlt2; have HO2 : Hid (w2.ownsRow w.heap.size 2 1 (.slice (some ⟨g2', 0, none⟩) (out.length + 1 + 1) cap2) (out.length + 1 + 1) (nv (out ++ [y] ++ [r]))) := (by rw [← nv_snoc]; exact hown2); have HB2 := Lib.hid (below_app HB1.out hsz1 HO1.out hgrow2); clear hown2 hgrow2 hat2 hlt2)))
              go_roundw
              case rel => exact ⟨k + 1, by omega, by go_num, by rw [Hs.out]; simp [putStep, hp], own_cast HO2.out (by rw [Hs.out]; simp [putStep, hp]) (by rw [Hs.out]; simp [putStep, stepS, hb, hp]), HB2.out⟩
              case measure => simp [intOf]; omega
            · go_wp2_with (first | (go_at_call 82; refine (HL.out _).mono ?_; rintro e w' ⟨rfl, rfl⟩) | (at_builtin; refine wpList_app1 _ _ _ _ _ etI (by rfl) (by rfl) w.heap.size _ out.length (nv out) (by rfl) ?_ _ (.int .i64 (y : Int)) (by rfl) ?_ (by rfl) ?_ ?_ ?_; exact HO.out.alloc _; exact new_cell _ _ _; omega; (simp; omega); (intro g1' cap1 w1 hown1 hgrow1 hat1 hlt1; have HO1 : Hid (w1.ownsRow w.heap.size 2 1 (.slice (some ⟨g1', 0, none⟩) (out.length + 1) cap1) (out.length + 1) (nv (out ++ [y]))) := (by rw [← nv_snoc]; exact hown1); have HB1 := Lib.hid (below_app HB.out hsz HO.out hgrow1); have hsz1 : w.heap.size ≤ w1.heap.size := HB1.out.size; clear hown1 hgrow1 hat1 hlt1)) | (at_builtin; refine wpList_app1 _ _ _ _ _ etI (by rfl) (by rfl) w.heap.size _ (out.length + 1) (nv (out ++ [y])) (by rfl) ?_ _ (.int .i64 (xr r y : Int)) (by rfl) ?_ (by rfl) ?_ ?_ ?_; exact HO1.out.alloc _; exact new_cell _ _ _; omega; (simp; omega); (intro g2' cap2 w2 hown2 hgrow2 hat2 hlt2; have HO2 : Hid (w2.ownsRow w.heap.size 2 1 (.slice (some ⟨g2', 0, none⟩) (out.length + 1 + 1) cap2) (out.length + 1 + 1) (nv (out ++ [y] ++ [xr r y]))) := (by rw [← nv_snoc]; exact hown2); have HB2 := Lib.hid (below_app HB1.out hsz1 HO1.out hgrow2); clear hown2 hgrow2 hat2 hlt2)))
              go_roundw
              case rel => exact ⟨k + 1, by omega, by go_num, by rw [Hs.out]; simp [putStep, hp], own_cast HO2.out (by rw [Hs.out]; simp [putStep, hp]) (by rw [Hs.out]; simp [putStep, stepS, hb, hp]), HB2.out⟩
              case measure => simp [intOf]; omega
          · have hp' : decide (pv y < pv r) = false := by simpa using hp
            cases hb : tb r (pv y)
            · go_wp2_with (first | (go_at_call 82; refine (HL.out _).mono ?_; rintro e w' ⟨rfl, rfl⟩) | (at_builtin; refine wpList_app1 _ _ _ _ _ etI (by rfl) (by rfl) w.heap.size _ out.length (nv out) (by rfl) ?_ _ (.int .i64 (r : Int)) (by rfl) ?_ (by rfl) ?_ ?_ ?_; exact HO.out.alloc _; exact new_cell _ _ _; omega; (simp; omega); (intro g1' cap1 w1 hown1 hgrow1 hat1 hlt1; have HO1 : Hid (w1.ownsRow w.heap.size 2 1 (.slice (some ⟨g1', 0, none⟩) (out.length + 1) cap1) (out.length + 1) (nv (out ++ [r]))) := (by rw [← nv_snoc]; exact hown1); have HB1 := Lib.hid (below_app HB.out hsz HO.out hgrow1); have hsz1 : w.heap.size ≤ w1.heap.size := HB1.out.size; clear hown1 hgrow1 hat1 hlt1)))
              go_roundw
              case rel => exact ⟨k + 1, by omega, by go_num, by rw [Hs.out]; simp [putStep, hp], own_cast HO1.out (by rw [Hs.out]; simp [putStep, hp]) (by rw [Hs.out]; simp [putStep, stepS, hb, hp]), HB1.out⟩
              case measure => simp [intOf]; omega
            · go_wp2_with (first | (go_at_call 82; refine (HL.out _).mono ?_; rintro e w' ⟨rfl, rfl⟩) | (at_builtin; refine wpList_app1 _ _ _ _ _ etI (by rfl) (by rfl) w.heap.size _ out.length (nv out) (by rfl) ?_ _ (.int .i64 (xr r y : Int)) (by rfl) ?_ (by rfl) ?_ ?_ ?_; exact HO.out.alloc _; exact new_cell _ _ _; omega; (simp; omega); (intro g1' cap1 w1 hown1 hgrow1 hat1 hlt1; have HO1 : Hid (w1.ownsRow w.heap.size 2 1 (.slice (some ⟨g1', 0, none⟩) (out.length + 1) cap1) (out.length + 1) (nv (out ++ [xr r y]))) := (by rw [← nv_snoc]; exact hown1); have HB1 := Lib.hid (below_app HB.out hsz HO.out hgrow1); have hsz1 : w.heap.size ≤ w1.heap.size := HB1.out.size; clear hown1 hgrow1 hat1 hlt1)))
              go_roundw
              case rel => exact ⟨k + 1, by omega, by go_num, by rw [Hs.out]; simp [putStep, hp], own_cast HO1.out (by rw [Hs.out]; simp [putStep, hp]) (by rw [Hs.out]; simp [putStep, stepS, hb, hp]), HB1.out⟩
              case measure => simp [intOf]; omega
        · cases hb : tb r (pv y)
          · go_wp2_with (first | (go_at_call 82; refine (HL.out _).mono ?_; rintro e w' ⟨rfl, rfl⟩) | (at_builtin; refine wpList_app1 _ _ _ _ _ etI (by rfl) (by rfl) w.heap.size _ out.length (nv out) (by rfl) ?_ _ (.int .i64 (r : Int)) (by rfl) ?_ (by rfl) ?_ ?_ ?_; exact HO.out.alloc _; exact new_cell _ _ _; omega; (simp; omega); (intro g1' cap1 w1 hown1 hgrow1 hat1 hlt1; have HO1 : Hid (w1.ownsRow w.heap.size 2 1 (.slice (some ⟨g1', 0, none⟩) (out.length + 1) cap1) (out.length + 1) (nv (out ++ [r]))) := (by rw [← nv_snoc]; exact hown1); have HB1 := Lib.hid (below_app HB.out hsz HO.out hgrow1); have hsz1 : w.heap.size ≤ w1.heap.size := HB1.out.size; clear hown1 hgrow1 hat1 hlt1)))
            go_roundw
            case rel => exact ⟨k + 1, by omega, by go_num, by rw [Hs.out]; simp [putStep], own_cast HO1.out (by rw [Hs.out]; simp [putStep]) (by rw [Hs.out]; simp [putStep, stepS, hb]), HB1.out⟩
            case measure => simp [intOf]; omega
          · go_wp2_with (first | (go_at_call 82; refine (HL.out _).mono ?_; rintro e w' ⟨rfl, rfl⟩) | (at_builtin; refine wpList_app1 _ _ _ _ _ etI (by rfl) (by rfl) w.heap.size _ out.length (nv out) (by rfl) ?_ _ (.int .i64 (xr r y : Int)) (by rfl) ?_ (by rfl) ?_ ?_ ?_; exact HO.out.alloc _; exact new_cell _ _ _; omega; (simp; omega); (intro g1' cap1 w1 hown1 hgrow1 hat1 hlt1; have HO1 : Hid (w1.ownsRow w.heap.size 2 1 (.slice (some ⟨g1', 0, none⟩) (out.length + 1) cap1) (out.length + 1) (nv (out ++ [xr r y]))) := (by rw [← nv_snoc]; exact hown1); have HB1 := Lib.hid (below_app HB.out hsz HO.out hgrow1); have hsz1 : w.heap.size ≤ w1.heap.size := HB1.out.size; clear hown1 hgrow1 hat1 hlt1)))
            go_roundw
            case rel => exact ⟨k + 1, by omega, by go_num, by rw [Hs.out]; simp [putStep], own_cast HO1.out (by rw [Hs.out]; simp [putStep]) (by rw [Hs.out]; simp [putStep, stepS, hb]), HB1.out⟩
            case measure => simp [intOf]; omega
      · have ek : k = S.length := by omega
        subst ek
        have hl := putK_len y S S.length
        generalize putK y S S.length = p at *
        obtain ⟨out, done⟩ := p
        have HO := Lib.hid hown
        have HB := Lib.hid hbel
        clear hown hbel
        simp only at hl
        cases done
        · go_wp2_with (at_builtin; refine wpList_app1 _ _ _ _ _ etI (by rfl) (by rfl) w.heap.size _ out.length (nv out) (by rfl) ?_ _ (.int .i64 (y : Int)) (by rfl) ?_ (by rfl) ?_ ?_ ?_; exact HO.out.alloc _; exact new_cell _ _ _; omega; (simp; omega); (intro g1' cap1 w1 hown1 hgrow1 hat1 hlt1; have HO1 : Hid (w1.ownsRow w.heap.size 2 1 (.slice (some ⟨g1', 0, none⟩) (out.length + 1) cap1) (out.length + 1) (nv (out ++ [y]))) := (by rw [← nv_snoc]; exact hown1); have HB1 := Lib.hid (below_app HB.out hsz HO.out hgrow1); have hsz1 : w.heap.size ≤ w1.heap.size := HB1.out.size; clear hown1 hgrow1 hat1 hlt1))
          go_ret
          refine ⟨_, rfl, own_cast ((HO1.out).mono hB) (by rw [HE.out]; simp [putEnd]) (by rw [HE.out]; simp [putEnd]), HB1.out, .inr (own_cast HO1.out (by rw [HE.out]; simp [putEnd]) (by rw [HE.out]; simp [putEnd]))⟩
        · go_wp2_with fail
          go_ret
          refine ⟨_, rfl, own_cast ((HO.out).mono hB) (by rw [HE.out]; simp [putEnd]) (by rw [HE.out]; simp [putEnd]), HB.out, .inr (own_cast HO.out (by rw [HE.out]; simp [putEnd]) (by rw [HE.out]; simp [putEnd]))⟩
end Go.Proofs.YtpchigdhnnkpcaaGreatDoor

namespace Go.Proofs.YtpchigdhnnkpcaaGreatDoor
open Go.RowKit

theorem byDeg_len {xs : List Int} {S : List Nat} (hs : SrtL xs) (hn : xs.length ≤ 62) (hS : ∀ r ∈ S, r < 2 ^ xs.length) (k : Nat) : (byDeg xs S k).length ≤ xs.length := by
  have hsm : ∀ r ∈ S, Sm r := fun r hr => sm_of_lt (a := xs.length) hn (hS r hr)
  obtain ⟨h1, _, h3⟩ := byDeg_all hs hsm k
  exact red_len h1 (fun r hr => by obtain ⟨d, _, hr⟩ := h3 r hr; exact (part_mem hsm hr).1.lt)
/-- the reduced rows of a degree among the first k masks -/
def partT (xs : List Int) (S : List Nat) (d : Int) (k : Nat) : List Nat := reduceS ((S.take k).filter (homB xs d))
theorem partT_succ {xs : List Int} {S : List Nat} {d : Int} {k : Nat} (h : k < S.length) : partT xs S d (k + 1) = if homB xs d (S.getD k 0) = true then putS (partT xs S d k) (S.getD k 0) else partT xs S d k := by
  unfold partT
  have e : S[k] = S.getD k 0 := by simp [List.getD, h]
  rw [List.take_succ_eq_append_getElem h, e, List.filter_append]
  by_cases hb : homB xs d (S.getD k 0) = true
  · rw [if_pos hb, List.filter_cons_of_pos hb]; exact reduce_snoc _ _
  · rw [if_neg hb, List.filter_cons_of_neg hb]; simp
theorem partT_all {xs : List Int} {S : List Nat} {d : Int} {k : Nat} (h : S.length ≤ k) : partT xs S d k = part xs S d := by
  unfold partT part; rw [List.take_of_length_le h]
theorem partT_len {xs : List Int} {S : List Nat} (hn : xs.length ≤ 62) (hS : ∀ r ∈ S, r < 2 ^ xs.length) (d : Int) (k : Nat) : Red (partT xs S d k) ∧ (partT xs S d k).length ≤ xs.length := by
  have hsm : ∀ r ∈ (S.take k).filter (homB xs d), Sm r := fun r hr => sm_of_lt (a := xs.length) hn (hS r (List.mem_of_mem_take (List.mem_filter.1 hr).1))
  have h1 := red_reduce hsm
  exact ⟨h1, red_len h1 fun r hr => sp_lt (fun r hr => hS r (List.mem_of_mem_take (List.mem_filter.1 hr).1)) ((sp_reduce hsm r).1 (.mem hr))⟩

set_option maxRecDepth 100000 in
set_option maxHeartbeats 4000000 in
theorem l12Basis_any (A A' C : Option Addr) (n c m c' k cc : Nat) (xs : List Int) (T : List Nat) (w : World) (hn : n = xs.length) (hn16 : n ≤ 16) (hx : SrtL xs) (hR : Rd w A (iv xs)) (hk : k = T.length) (hk1 : k ≤ 1000000) (hT : ∀ r ∈ T, r < 2 ^ n) (hC : Rd w C (nv T)) :
    Calls Tryz.prog 59 #[.agg #[.slice A n c, .slice A' m c'], .slice C k cc] w fun e w' => ∃ v, e = .returned v ∧ w'.ownsRow w.heap.size 2 1 v (byDeg xs T 21).length (nv (byDeg xs T 21)) ∧ Below w.heap.size w w' := by
  have hk0 := blk_new w (.cells #[.slice A n c, .slice A' m c'] 29)
  have hb0 : Below w.heap.size w (w.alloc (.cells #[.slice A n c, .slice A' m c'] 29)) := (Below.refl _ _).alloc (Nat.le_refl _) _
  have HLB := Lib.hid (fun k => byDeg_len hx (by omega) (fun r hr => by rw [← hn]; exact hT r hr) k)
  have HLP := Lib.hid (fun d k => partT_len (xs := xs) (S := T) (by omega) (fun r hr => by rw [← hn]; exact hT r hr) d k)
  have HTS : Hid (∀ r ∈ T, Sm r) := Lib.hid (fun r hr => sm_of_lt (a := n) (by omega) (hT r hr))
  have HDS : Hid (∀ d, Sm (dmask xs d)) := Lib.hid (fun d => sm_of_lt (a := xs.length) (by omega) (dmask_lt xs d))
  have HDG := Lib.hid (fun (d : Int) (W : World) (hb : Below w.heap.size w W) => l12Degree_any A A' n c m c' xs d W hn (by omega) (hR.below hb))
  have HC := Lib.hid hC
  have Hk := Lib.hid hk
  have Hn := Lib.hid hn
  clear hn hR hk hT hC hx
  obtain ⟨x0, x1, xf0, xf1, lx⟩ := blk2cells hk0
  have hz0 : (w.alloc (.cells #[.slice A n c, .slice A' m c'] 29)).heap.size = w.heap.size + 1 := by simp
  go_enter Tryz.func59, Tryz.ntmps59
  go_wp2_with fail
  generalize w.alloc (.cells #[.slice A n c, .slice A' m c'] 29) = w0 at *
  rw [← hz0]
  have HB0 := Lib.hid hb0
  have HK0 := Lib.hid hk0
  have hs0 := hb0.size
  clear hz0 hb0 hk0 x0 x1 xf0 xf1 lx
  go_loopw [5, 6] (fun o s6 wr => ∃ d : Nat, d ≤ 21 ∧ s6 = .int .i64 d ∧ wr.ownsRow w0.heap.size 2 1 o (byDeg xs T d).length (nv (byDeg xs T d)) ∧ Below w0.heap.size w0 wr) (fun _ s => fun _ => 21 - (intOf s).toNat)
  case atStart => exact ⟨0, by omega, rfl, World.ownsRow_made w0 #[] 0 (Nat.le_refl _) (by decide) (by simp), (Below.refl _ _).alloc (Nat.le_refl _) _⟩
  case round =>
    obtain ⟨d, hd, rfl, hown, hbel⟩ := hrel
    have HO := Lib.hid hown
    have HB := Lib.hid hbel
    have hsz := hbel.size
    by_cases hd20 : d ≤ 20
    · have hdi : (d : Int) ≤ 20 := by omega
      have HDC := Lib.hid (HDG.out (d : Int) wr (HB0.out.trans (hbel.mono hs0)))
      obtain ⟨x0, x1, xf0, xf1, lx⟩ := blk2cells (blk_kept HK0.out hbel)
      obtain ⟨Ao, co, rfl, _⟩ := owns_shape hown
      clear hown hbel
      go_wp2_with fail
      refine HDC.out.mono ?_
      rintro e w2 ⟨rfl, hb⟩
      have HB2 := Lib.hid (HB.out.trans (hb.mono hsz))
      have HO2 := Lib.hid (owns_keeps HO.out (Keeps.of_below hb) (.inr (by simp)))
      have hs2 := HB2.out.size
      clear hb x0 x1 xf0 xf1 lx
      go_wp2_with fail
      go_loopw [8, 9] (fun o s9 wr => ∃ i : Nat, i ≤ k ∧ s9 = .int .i64 i ∧ wr.ownsRow w2.heap.size 2 1 o (partT xs T (d : Int) i).length (nv (partT xs T (d : Int) i)) ∧ Below w2.heap.size w2 wr) (fun _ s => fun _ => k - (intOf s).toNat)
      case atStart => exact ⟨0, by omega, rfl, World.ownsRow_made w2 #[] 0 (Nat.le_refl _) (by decide) (by simp), (Below.refl _ _).alloc (Nat.le_refl _) _⟩
      case round =>
        obtain ⟨i, hi, rfl, hown, hbel⟩ := hrel
        have HOi := Lib.hid hown
        have HBi := Lib.hid hbel
        have hszi := hbel.size
        by_cases hik : i < k
        · have hiT : i < T.length := by rw [← Hk.out]; exact hik
          obtain ⟨b, o, rfl, hc⟩ := (HC.out.below (HB0.out.trans ((HB2.out.trans (hbel.mono hs2)).mono hs0))).atN hiT
          have hsm := HTS.out _ (getD_mem hiT)
          have HPS := Lib.hid (partT_succ (xs := xs) (d := (d : Int)) hiT)
          have hand := i64_andnot_nat hsm (HDS.out (d : Int))
          have hhb : homB xs (d : Int) (T.getD i 0) = (nt (T.getD i 0) (dmask xs (d : Int)) == 0) := rfl
          obtain ⟨hpr, hpl⟩ := HLP.out (d : Int) i
          have HPU := Lib.hid (put_any w2.heap.size _ _ (T.getD i 0) wr hszi hown (by rw [← Hn.out] at hpl; omega) hsm hpr)
          generalize T.getD i 0 = t at *
          generalize dmask xs (d : Int) = u at *
          obtain ⟨Ai, ci, rfl, _⟩ := owns_shape hown
          clear hsm hpr hpl
          generalize nt t u = z at *
          by_cases hz : z = 0
          · have hzb : ((z : Int) == 0) = true := by simp [hz]
            have HPS2 : Hid (partT xs T (d : Int) (i + 1) = putS (partT xs T (d : Int) i) t) := Lib.hid (by rw [HPS.out, hhb, if_pos (by simp [hz])])
            clear hown hbel hz hhb
            go_wp2_with fail
            refine HPU.out.mono ?_
            rintro e w3 ⟨v3, rfl, ho, hb, _⟩
            rw [← HPS2.out] at ho
            have HO3 := Lib.hid ho
            have HB3 := Lib.hid (HBi.out.trans (hb.mono hszi))
            clear ho hb
            go_wp2_with fail
            go_roundw
            case rel => exact ⟨i + 1, by omega, by go_num, HO3.out, HB3.out⟩
            case measure => simp [intOf]; omega
          · have hzb : ((z : Int) == 0) = false := by simp; omega
            have HPS2 : Hid (partT xs T (d : Int) (i + 1) = partT xs T (d : Int) i) := Lib.hid (by rw [HPS.out, hhb, if_neg (by simpa using hz)])
            clear hown hbel hz hhb
            go_wp2_with fail
            go_roundw
            case rel => exact ⟨i + 1, by omega, by go_num, by rw [HPS2.out]; exact HOi.out, HBi.out⟩
            case measure => simp [intOf]; omega
        · obtain rfl : i = k := by omega
          have HPA : Hid (partT xs T (d : Int) i = part xs T (d : Int)) := Lib.hid (partT_all (by rw [← Hk.out]; exact Nat.le_refl _))
          rw [HPA.out] at hown
          obtain ⟨Ai, ci, rfl, _⟩ := owns_shape hown
          have HRP := Lib.hid (owns_Rd hown)
          have hpl : (part xs T (d : Int)).length ≤ 16 := by
            have := (HLP.out (d : Int) i).2
            rw [HPA.out] at this; rw [← Hn.out] at this; omega
          have hbl : (byDeg xs T d).length ≤ 16 := by have := HLB.out d; rw [← Hn.out] at this; omega
          have HBD : Hid (byDeg xs T (d + 1) = byDeg xs T d ++ part xs T (d : Int)) := Lib.hid rfl
          have HOr := Lib.hid (owns_keeps HO2.out (Keeps.of_below hbel) (.inr (by simp)))
          have HBr := Lib.hid (HB2.out.trans (hbel.mono hs2))
          have hszr := HBr.out.size
          clear hown hbel
          generalize part xs T (d : Int) = pp at *
          generalize hbb : byDeg xs T d = bb at *
          go_wp2_with (at_builtin; refine wpList_appR _ _ _ _ _ etI (by rfl) (by rfl) w0.heap.size (.slice Ao bb.length co) bb.length (nv bb) (by rfl) HOr.out Ai pp.length ci (nv pp) (by rfl) (nv_length _).symm HRP.out (nv_one _) (by omega) hszr ?_; (intro v' w' hown' hg' hat'; have HOn := Lib.hid hown'; have HBn := Lib.hid (HBr.out.grown hg' hszr (fun k hk => (HOr.out.lt k hk).1)); clear hown' hg' hat'))
          go_roundw
          case rel => exact ⟨d + 1, by omega, by go_num, by rw [HBD.out, List.length_append, show nv (bb ++ pp) = nv bb ++ nv pp by simp [nv]]; exact HOn.out, HBn.out⟩
          case measure => simp [intOf]; omega
    · obtain rfl : d = 21 := by omega
      clear hown hbel
      go_wp2_with fail
      go_ret
      exact ⟨_, rfl, HO.out.mono hs0, HB0.out.trans (HB.out.mono hs0)⟩
end Go.Proofs.YtpchigdhnnkpcaaGreatDoor
