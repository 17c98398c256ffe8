/- impl's all over rows, by a closure that may make memory; isMonomial, sameDegree, IsPoly · sameDegree, IsPoly · impl.SubstituteForms (printed by mkuj.py) · the reference's l08Is -/
import Derived.Test.YtnffpjdlpjkioaaBxam
import Derived.Test.YtnffpjdlpjkioaaBxad
import Derived.Test.YtnffpjdlpjkioaaBxac
import Derived.Test.YtnffpjdlpjkioaaBxal
import Derived.Deep.RegionHeld3
set_option linter.all false
namespace Go.Proofs.Ytnffpjdlpjkioaa
open Go.RowKit

/-- What a predicate's closure answers, in any world that the given one grows into. -/
def AsksB (P : Program) (fn : FuncId) (cvs : Array Value) (w : World) (x : Value) (b : Bool) : Prop :=
  ∀ W, Below w.heap.size w W → Calls P fn (#[x] ++ cvs) W fun e w' => e = .returned (.bool b) ∧ Below W.heap.size W w'

set_option maxHeartbeats 400000 in
theorem indexFuncB_any (A : Option Addr) (n c : Nat) (L : List Row) (fn : FuncId) (cv : Value) (p : Row → Bool) (w : World) (hcf : Ent fn) (hn : n = L.length) (hsm : n ≤ 1099511627776) (hR : Rd w A (hv L))
    (hf : ∀ r ∈ L, AsksB Try.prog fn #[cv] w r.val (p r)) :
    Calls Try.prog 120 #[.slice A n c, .func (.func fn) #[] #[cv]] w fun e w' =>
      e = .returned (.int .i64 (placeOf (L.findIdx? p))) ∧ Below w.heap.size w w' := by
  have Hn := Lib.hid hn; clear hn
  have HF := Lib.hid hf; clear hf
  have HR := Lib.hid hR; clear hR
  unfold Ent at hcf
  go_enter Try.func120, Try.ntmps120
  go_wp2_with fail
  go_loopw [8] (fun i wr => ∃ k : Nat, k ≤ n ∧ i = .int .i64 k ∧ Below w.heap.size w wr ∧ (L.take k).findIdx? p = none) (fun i _ => n - (intOf i).toNat)
  case atStart => exact ⟨0, by omega, rfl, Below.refl _ _, by simp⟩
  case round =>
    obtain ⟨k, hk, rfl, hb0, hp⟩ := hrel
    have HP := Lib.hid hp; clear hp
    have HB := Lib.hid hb0
    by_cases hlt : k < n
    · have hkL : k < L.length := by rw [← Hn.out]; exact hlt
      obtain ⟨b, o, rfl, hc0⟩ : ∃ b o, A = some ⟨b, o, none⟩ ∧ w.cell? ⟨b, o + k, none⟩ = some (rg L k).val := by
        rcases HR.out with h' | ⟨b, o, rfl, h'⟩
        · have := congrArg List.length h'; simp [hv_length] at this; subst this; simp at hkL
        · exact ⟨b, o, rfl, h' k _ (hv_get hkL)⟩
      have hbl := World.block_lt_of_cell? _ _ hc0
      have hc := (hb0.cell hbl).trans hc0
      have ha := HF.out _ (rg_mem hkL) wr hb0
      have HX := Lib.hid (rg_of hkL)
      clear hc0 hbl hb0
      generalize rg L k = x at *
      have HA := Lib.hid ha; clear ha
      generalize hv : x.val = v at *
      clear hv
      cases hb : p x
      · rw [hb] at HA
        go_wp2_with fail
        refine HA.out.mono ?_
        rintro e w' ⟨rfl, hb1⟩
        have HB1 := Lib.hid (HB.out.trans (hb1.mono HB.out.size))
        clear hb1
        go_wp2_with fail
        go_roundw
        case rel => exact ⟨k + 1, by omega, by go_num, HB1.out, by rw [List.take_succ_eq_append_getElem hkL, List.findIdx?_append, HP.out, ← HX.out]; simp [hb]⟩
        case measure => simp [intOf]; omega
      · rw [hb] at HA
        go_wp2_with fail
        refine HA.out.mono ?_
        rintro e w' ⟨rfl, hb1⟩
        have HB1 := Lib.hid (HB.out.trans (hb1.mono HB.out.size))
        clear hb1
        go_wp2_with fail
        go_ret
        refine ⟨?_, HB1.out⟩
        have e : L.findIdx? p = some k := by
          rw [← List.take_append_drop k L, List.findIdx?_append, HP.out, List.drop_eq_getElem_cons hkL, ← HX.out]
          simp [hb, Nat.min_eq_left (Nat.le_of_lt hkL), List.findIdx?_cons]
        rw [e]
        rfl
    · have ek : L.take k = L := List.take_of_length_le (by rw [← Hn.out]; omega)
      clear hb0
      go_wp2_with fail
      go_ret
      refine ⟨?_, HB.out⟩
      have e : L.findIdx? p = none := by rw [← ek, HP.out]
      rw [e]
      rfl

set_option maxHeartbeats 400000 in
theorem containsFuncB_any (A : Option Addr) (n c : Nat) (L : List Row) (fn : FuncId) (cv : Value) (p : Row → Bool) (w : World) (hcf : Ent fn) (hn : n = L.length) (hsm : n ≤ 1099511627776) (hR : Rd w A (hv L))
    (hf : ∀ r ∈ L, AsksB Try.prog fn #[cv] w r.val (p r)) :
    Calls Try.prog 107 #[.slice A n c, .func (.func fn) #[] #[cv]] w fun e w' =>
      e = .returned (.bool (L.any p)) ∧ Below w.heap.size w w' := by
  have HC := Lib.hid (indexFuncB_any A n c L fn cv p w hcf hn hsm hR hf)
  clear hn hR hf hsm
  cases h : L.findIdx? p with
  | none =>
    rw [h] at HC
    have e : L.any p = false := by rw [List.any_eq_false]; rw [findIdx_none] at h; simpa using h
    have HE := Lib.hid e; clear e h
    go_enter Try.func107, Try.ntmps107
    go_wp2_with (go_at_call 120; refine HC.out.mono ?_; rintro e w' ⟨rfl, hb⟩)
    go_ret
    exact ⟨by rw [HE.out]; rfl, hb⟩
  | some k =>
    rw [h] at HC
    have e : L.any p = true := by
      cases ha : L.any p with
      | true => rfl
      | false =>
        rw [List.any_eq_false] at ha
        have : L.findIdx? p = none := by rw [findIdx_none]; simpa using ha
        rw [this] at h; cases h
    have HE := Lib.hid e; clear e h
    have hk : ¬ (k : Int) < 0 := by omega
    go_enter Try.func107, Try.ntmps107
    go_wp2_with (go_at_call 120; refine HC.out.mono ?_; rintro e w' ⟨rfl, hb⟩)
    go_ret
    exact ⟨by rw [HE.out]; simp [placeOf], hb⟩

set_option maxHeartbeats 400000 in
/-- all(lists, holds), 'holds' a closure that may make memory. -/
theorem allB_any (A : Option Addr) (n c : Nat) (L : List Row) (fn : FuncId) (cvs : Array Value) (p : Row → Bool) (w : World) (hcf : Ent fn) (hn : n = L.length) (hsm : n ≤ 1099511627776) (hR : Rd w A (hv L))
    (hf : ∀ r ∈ L, AsksB Try.prog fn cvs w r.val (p r)) :
    Calls Try.prog 84 #[.slice A n c, .func (.func fn) #[] cvs] w fun e w' =>
      e = .returned (.bool (L.all p)) ∧ Below w.heap.size w w' := by
  have hB0 : Below w.heap.size w (w.alloc (.cells #[.func (.func fn) #[] cvs] 70)) := (Below.refl _ _).alloc (Nat.le_refl _) _
  have key : ∀ r ∈ L, AsksB Try.prog 108 #[.pointer (some ⟨w.heap.size, 0, none⟩)] (w.alloc (.cells #[.func (.func fn) #[] cvs] 70)) r.val (!(p r)) := by
    intro r hr W hW
    have HF := Lib.hid (hf r hr W (hB0.trans (hW.mono hB0.size)))
    clear hf hR
    unfold Ent at hcf
    have hc : W.cell? ⟨w.heap.size, 0, none⟩ = some (.func (.func fn) #[] cvs) := (hW.cell (by simp)).trans (new_cell _ _ _)
    clear hW
    generalize r.val = v at *
    go_enter Try.func108, Try.ntmps108
    go_wp2_with fail
    refine HF.out.mono ?_
    rintro e w' ⟨rfl, hb⟩
    have HB := Lib.hid hb
    clear hb
    go_wp2_with fail
    go_ret
    exact ⟨rfl, HB.out⟩
  have hR' : Rd (w.alloc (.cells #[.func (.func fn) #[] cvs] 70)) A (hv L) := hR.alloc _
  have HC := Lib.hid (containsFuncB_any A n c L _ _ _ _ (fun args w => Try.call108 args w) hn hsm hR' key)
  have e : (!(L.any fun x => !(p x))) = L.all p := by simp [List.all_eq_not_any_not]
  have HE := Lib.hid e
  have HB0 := Lib.hid hB0
  clear e key hR' hR hf hn hsm hB0
  go_enter Try.func84, Try.ntmps84
  go_wp2_with (go_at_call 107; refine HC.out.mono ?_; rintro e w' ⟨rfl, hb⟩)
  go_ret
  exact ⟨by rw [← HE.out]; rfl, HB0.out.trans (hb.mono HB0.out.size)⟩

set_option maxHeartbeats 1000000 in
theorem sum40_any (A : Option Addr) (n c : Nat) (xs : List Int) (w : World) (hn : n = xs.length) (hsm : n ≤ 100000000) (hb : ∀ x ∈ xs, 0 ≤ x ∧ x ≤ 40) (hR : Rd w A (iv xs)) :
    Calls Try.prog 89 #[.slice A n c] w fun e w' => e = .returned (.int .i64 xs.sum) ∧ w = w' := by
  have HR := Lib.hid hR
  have Hn := Lib.hid hn
  have HB := Lib.hid (sum_bd hb)
  have HX := Lib.hid hb
  clear hR hn hb
  go_enter Try.func89, Try.ntmps89
  go_wp2_with fail
  go_loop [3, 8] (fun s i => ∃ k : Nat, ∃ t : Int, k ≤ n ∧ i = .int .i64 k ∧ s = .int .i64 t ∧ Hid (t = (xs.take k).sum)) (fun _ i => n - (intOf i).toNat)
  case atStart => exact ⟨0, 0, by omega, rfl, rfl, Lib.hid (by simp)⟩
  case round =>
    obtain ⟨k, t, hk, rfl, rfl, HQ⟩ := hrel
    by_cases hlt : k < n
    · have hkL : k < xs.length := by rw [← Hn.out]; exact hlt
      obtain ⟨b, o, rfl, hc⟩ := HR.out.atI hkL
      have hx := HX.out _ (show xs.getD k 0 ∈ xs from by simp [List.getD, hkL])
      have ht := HB.out k (by omega)
      have HS := Lib.hid (sum_take_succ hkL)
      rw [← HQ.out] at ht
      generalize xs.getD k 0 = z at *
      clear hkL
      go_wp2_with fail
      go_round
      case rel => exact ⟨k + 1, t + z, by omega, by go_num, by go_num, Lib.hid (by rw [HS.out, HQ.out])⟩
      case measure => simp [intOf]; omega
    · have HF : Hid (xs.sum = t) := Lib.hid (by rw [HQ.out, List.take_of_length_le (by rw [← Hn.out]; omega)])
      go_wp2_with fail
      go_ret
      exact ⟨by rw [HF.out]; rfl, rfl⟩

/-- exponents of k variables, of degree at most 40 -/
def monoB (k : Int) (x : List Int) : Bool := decide ((x.length : Int) = k) && (x.all (fun e => inB e 0 40) && decide (x.sum ≤ 40))
theorem monoB_iff {k : Int} {x : List Int} : monoB k x = true ↔ (x.length : Int) = k ∧ (∀ e ∈ x, 0 ≤ e ∧ e ≤ 40) ∧ x.sum ≤ 40 := by
  unfold monoB
  rw [Bool.and_eq_true, Bool.and_eq_true, decide_eq_true_eq, decide_eq_true_eq, List.all_eq_true]
  refine and_congr_right fun _ => and_congr_left fun _ => ?_
  exact forall_congr' fun e => imp_congr_right fun _ => inB_iff
theorem degree_closure (w : World) (x : Int) : Asks0 Try.prog 99 w (.int .i64 x) (inB x 0 40) := by
  intro m
  go_enter Try.func99, Try.ntmps99
  go_wp2_with (go_at_call 38; refine (in_any x 0 40 _).mono ?_; rintro e w' ⟨rfl, rfl⟩)
  go_ret
  exact ⟨rfl, m, rfl⟩

set_option maxHeartbeats 1000000 in
theorem isMonomial_any (k : Int) (A : Option Addr) (n c : Nat) (xs : List Int) (w : World) (hn : n = xs.length) (hsm : n ≤ 100000000) (hR : Rd w A (iv xs)) :
    Calls Try.prog 86 #[.slice A n c, .int .i64 k] w fun e w' => e = .returned (.bool (monoB k xs)) ∧ Below w.heap.size w w' := by
  have HA := Lib.hid (all0_any A n c xs 99 (fun e => inB e 0 40) w (fun args w => Try.call99 args w) hn (by omega) hR (fun x _ o => degree_closure _ x))
  have HM : Hid (monoB k xs = (decide ((n : Int) = k) && (xs.all (fun e => inB e 0 40) && decide (xs.sum ≤ 40)))) := Lib.hid (by unfold monoB; rw [hn])
  have HS := Lib.hid (fun (h : ∀ x ∈ xs, 0 ≤ x ∧ x ≤ 40) W (hb : Below w.heap.size w W) => sum40_any A n c xs W hn hsm h (hR.below hb))
  clear hn hR
  by_cases h1 : (n : Int) = k
  · have HK := Lib.hid h1
    rw [decide_eq_true h1] at HM
    clear h1
    have hk : (n : Int) = k := HK.out
    cases h2 : xs.all (fun e => inB e 0 40) with
    | false =>
      rw [h2] at HM HA
      subst hk
      go_enter Try.func86, Try.ntmps86
      go_wp2_with fail
      refine HA.out.mono ?_
      rintro e w1 ⟨rfl, hb⟩
      have HB := Lib.hid hb
      clear hb
      go_wp2_with fail
      go_ret
      exact ⟨by rw [HM.out]; rfl, HB.out⟩
    | true =>
      have HXX := Lib.hid (fun x hx => inB_iff.1 (List.all_eq_true.1 h2 x hx))
      rw [h2] at HM HA
      subst hk
      by_cases h3 : xs.sum ≤ 40
      · rw [decide_eq_true h3] at HM
        generalize xs.sum = s at *
        go_enter Try.func86, Try.ntmps86
        go_wp2_with fail
        refine HA.out.mono ?_
        rintro e w1 ⟨rfl, hb⟩
        have HB := Lib.hid hb
        clear hb
        go_wp2_with fail
        refine (HS.out HXX.out _ HB.out).mono ?_
        rintro e w2 ⟨rfl, rfl⟩
        go_wp2_with fail
        go_ret
        exact ⟨by rw [HM.out]; rfl, HB.out⟩
      · rw [decide_eq_false h3] at HM
        generalize xs.sum = s at *
        have HF : Hid (decide (s ≤ 40) = false) := Lib.hid (decide_eq_false h3)
        go_enter Try.func86, Try.ntmps86
        go_wp2_with fail
        refine HA.out.mono ?_
        rintro e w1 ⟨rfl, hb⟩
        have HB := Lib.hid hb
        clear hb
        go_wp2_with fail
        refine (HS.out HXX.out _ HB.out).mono ?_
        rintro e w2 ⟨rfl, rfl⟩
        go_wp2_with fail
        go_ret
        exact ⟨by rw [HM.out]; show Ending.returned (.bool (decide (s ≤ 40))) = _; rw [HF.out]; rfl, HB.out⟩
  · rw [decide_eq_false h1] at HM
    clear HA HS
    go_enter Try.func86, Try.ntmps86
    go_wp2_with fail
    go_ret
    exact ⟨by rw [HM.out]; rfl, Below.refl _ _⟩
end Go.Proofs.Ytnffpjdlpjkioaa

namespace Go.Proofs.Ytnffpjdlpjkioaa
open Go.RowKit

/-- all of the degree of the first -/
def sameB (Q : LL) : Bool := Q.all fun x => decide (x.sum = (Q.getD 0 []).sum)
/-- exponents that sums bear -/
def Small (x : List Int) : Prop := x.length ≤ 100000000 ∧ ∀ e ∈ x, 0 ≤ e ∧ e ≤ 40

set_option maxHeartbeats 1000000 in
theorem sameDeg_closure (b2 b3 bL oL n c nr cr nx cx : Nat) (rA xA : Option Addr) (rx x0 : List Int) (W : World) (h3 : W.cell? ⟨b3, 0, none⟩ = some (.func (.func 89) #[] #[])) (h2 : W.cell? ⟨b2, 0, none⟩ = some (.slice (some ⟨bL, oL, none⟩) n c)) (hn : 0 < n)
    (hL : W.cell? ⟨bL, oL, none⟩ = some (.slice xA nx cx)) (hnr : nr = rx.length) (hnx : nx = x0.length) (hr : Small rx) (hx : Small x0) (hR : Rd W rA (iv rx)) (hX : Rd W xA (iv x0)) :
    Calls Try.prog 109 #[.slice rA nr cr, .pointer (some ⟨b3, 0, none⟩), .pointer (some ⟨b2, 0, none⟩)] W fun e w' => e = .returned (.bool (decide (rx.sum = x0.sum))) ∧ Below W.heap.size W w' := by
  have HS1 := Lib.hid (fun m => sum40_any rA nr cr rx (W.drewN m) hnr (by rw [hnr]; exact hr.1) hr.2 (hR.drewN m))
  have HS2 := Lib.hid (fun m => sum40_any xA nx cx x0 (W.drewN m) hnx (by rw [hnx]; exact hx.1) hx.2 (hX.drewN m))
  have HS3 := Lib.hid (sum40_any rA nr cr rx W.drew hnr (by rw [hnr]; exact hr.1) hr.2 hR)
  have HS4 := Lib.hid (sum40_any xA nx cx x0 W.drew hnx (by rw [hnx]; exact hx.1) hx.2 hX)
  have HB := Lib.hid (Below.drew (Below.refl W.heap.size W))
  clear hR hX hr hx hnr hnx
  generalize rx.sum = s at *
  generalize x0.sum = t at *
  go_enter Try.func109, Try.ntmps109
  go_wp2_with fail
  go_region_held3 (fun w' => w'.cell? ⟨b3, 0, none⟩ = some (.func (.func 89) #[] #[]) ∧ w'.cell? ⟨b2, 0, none⟩ = some (.slice (some ⟨bL, oL, none⟩) n c) ∧ w'.cell? ⟨bL, oL, none⟩ = some (.slice xA nx cx))
    (exact ⟨h3, h2, hL⟩)
    (first
      | (go_at_call 89; (with_reducible refine HS3.out.mono ?_); rintro e w1 ⟨rfl, rfl⟩)
      | (go_at_call 89; (with_reducible refine HS4.out.mono ?_); rintro e w1 ⟨rfl, rfl⟩))
  all_goals go_wp2_with fail
  all_goals go_ret
  all_goals exact ⟨rfl, HB.out⟩

set_option maxHeartbeats 1000000 in
theorem sameDegree_any (A : Option Addr) (n c : Nat) (L : List Row) (w : World) (hn : n = L.length) (hsm : n ≤ 1099511627776) (hl : ∀ x ∈ dat L, Small x) (hR : RdR w A L) :
    Calls Try.prog 88 #[.slice A n c, .func (.func 89) #[] #[]] w fun e w' => e = .returned (.bool (sameB (dat L))) ∧ Below w.heap.size w w' := by
  have hB : Below w.heap.size w ((w.alloc (.cells #[.slice A n c] 22)).alloc (.cells #[.func (.func 89) #[] #[]] 89)) := ((Below.refl _ _).alloc (Nat.le_refl _) _).alloc (by simp) _
  have hc2 : ((w.alloc (.cells #[.slice A n c] 22)).alloc (.cells #[.func (.func 89) #[] #[]] 89)).cell? ⟨w.heap.size, 0, none⟩ = some (.slice A n c) := new_cell2 _ _ _ _
  have hc3 : ((w.alloc (.cells #[.slice A n c] 22)).alloc (.cells #[.func (.func 89) #[] #[]] 89)).cell? ⟨w.heap.size + 1, 0, none⟩ = some (.func (.func 89) #[] #[]) := new_cell1 _ _ _ _
  have e : (L.all fun r => decide (r.xs.sum = ((dat L).getD 0 []).sum)) = sameB (dat L) := by unfold sameB dat; rw [List.all_map]; rfl
  have hall := allB_any A n c L 109 #[.pointer (some ⟨w.heap.size + 1, 0, none⟩), .pointer (some ⟨w.heap.size, 0, none⟩)] (fun r => decide (r.xs.sum = ((dat L).getD 0 []).sum)) _ (fun args w => Try.call109 args w) hn hsm (hR.out.below hB) (fun r hr W hW => by
    have hL0 : 0 < L.length := List.length_pos_of_mem hr
    have hRW := hR.below (hB.trans (hW.mono hB.size))
    obtain ⟨bL, oL, rfl, hcl⟩ := hRW.at_ hL0
    obtain ⟨i, hi, ei⟩ := List.mem_iff_getElem.1 hr
    have e2 : rg L i = r := by simp [rg, List.getD, hi, ei]
    have hri := hRW.inn i hi
    rw [e2] at hri
    have h := sameDeg_closure w.heap.size (w.heap.size + 1) bL oL n c r.xs.length r.c (rg L 0).xs.length (rg L 0).c r.A (rg L 0).A r.xs (rg L 0).xs W ((hW.cell (by simp)).trans hc3) ((hW.cell (by simp; omega)).trans hc2) (by omega) (by simpa using hcl) rfl rfl (hl _ (List.mem_map.2 ⟨r, hr, rfl⟩)) (hl _ (by rw [← dat_getD]; simp [List.getD, dat_length, hL0])) hri (hRW.inn 0 hL0)
    rw [← dat_getD] at h
    exact h)
  rw [e] at hall
  have HA := Lib.hid hall
  have HB := Lib.hid hB
  clear hall hB hc2 hc3 e hn hl hR
  go_enter Try.func88, Try.ntmps88
  go_wp2_with fail
  refine HA.out.mono ?_
  rintro e w1 ⟨rfl, hb⟩
  have HB1 := Lib.hid (HB.out.trans (hb.mono HB.out.size))
  clear hb
  go_wp2_with fail
  go_ret
  exact ⟨rfl, HB1.out⟩

/-- what IsPoly answers -/
noncomputable def polyB (k : Int) (Q : LL) : Bool := inB k 1 4 && (decide (Q.length ≤ 2000) && (Q.all (monoB k) && (ascB Q && sameB Q)))
theorem mono_small {k : Int} {x : List Int} (h : monoB k x = true) (hl : x.length ≤ 100000000) : Small x := ⟨hl, (monoB_iff.1 h).2.1⟩
theorem isPoly_closure (k : Int) (A' : Option Addr) (n c : Nat) (r : Row) (b : Nat) (W : World) (hb : W.cell? ⟨b, 0, none⟩ = some (.int .i64 k)) (hl : r.xs.length ≤ 100000000) (hR : Rd W r.A (iv r.xs)) :
    Calls Try.prog 85 (#[r.val] ++ #[.pointer (some ⟨b, 0, none⟩)]) W fun e w' => e = .returned (.bool (monoB k r.xs)) ∧ Below W.heap.size W w' := by
  have HM := Lib.hid (isMonomial_any k r.A r.xs.length r.c r.xs W rfl hl hR)
  show Calls Try.prog 85 #[.slice r.A r.xs.length r.c, .pointer (some ⟨b, 0, none⟩)] W _
  clear hR
  generalize r.xs.length = m at *
  go_enter Try.func85, Try.ntmps85
  go_wp2_with fail
  refine HM.out.mono ?_
  rintro e w' ⟨rfl, hb⟩
  have HB := Lib.hid hb
  clear hb
  go_wp2_with fail
  go_ret
  exact ⟨rfl, HB.out⟩

set_option maxRecDepth 100000 in
set_option maxHeartbeats 2000000 in
theorem isPoly_any (k : Int) (A : Option Addr) (n c : Nat) (L : List Row) (w : World) (hn : n = L.length) (hsm : n ≤ 1048576) (hl : ∀ i, i < L.length → (rg L i).xs.length ≤ 1048576) (hR : RdR w A L) :
    Calls Try.prog 52 #[.agg #[.int .i64 k, .slice A n c]] w fun e w' => e = .returned (.bool (polyB k (dat L))) ∧ Below w.heap.size w w' := by
  have hb := blk_new w (.cells #[.int .i64 k, .slice A n c] 24)
  have hB : Below w.heap.size w (w.alloc (.cells #[.int .i64 k, .slice A n c] 24)) := (Below.refl _ _).alloc (Nat.le_refl _) _
  have HK := Lib.hid hb
  have HB := Lib.hid hB
  obtain ⟨x0, x1, xf0, xf1, lx⟩ := blk2cells hb
  have hlr : ∀ r ∈ L, r.xs.length ≤ 1048576 := fun r hr => by
    obtain ⟨i, hi, e⟩ := List.mem_iff_getElem.1 hr
    have := hl i hi
    have e2 : rg L i = r := by simp [rg, List.getD, hi, e]
    rwa [e2] at this
  have hall := allB_any A n c L 85 #[.pointer (some ⟨w.heap.size, 0, none⟩)] (fun r => monoB k r.xs) _ (fun args w => Try.call85 args w) hn (by omega) (hR.out.below hB) (fun r hr W hW => by
    obtain ⟨i, hi, ei⟩ := List.mem_iff_getElem.1 hr
    have e2 : rg L i = r := by simp [rg, List.getD, hi, ei]
    have hri := (hR.below (hB.trans (hW.mono hB.size))).inn i hi
    rw [e2] at hri
    have := hlr r hr
    exact isPoly_closure k A n c r w.heap.size W ((hW.cell (by simp)).trans x0) (by omega) hri)
  have e : (L.all fun r => monoB k r.xs) = (dat L).all (monoB k) := by unfold dat; rw [List.all_map]; rfl
  rw [e] at hall
  have HA := Lib.hid hall
  have HC := Lib.hid (fun W => isCount_any k W)
  have HRI := Lib.hid (fun W (hb : Below w.heap.size w W) => rising_any A n c L W hn (by omega) (fun i hi => by have := hl i hi; omega) (hR.below hb))
  have HSD := Lib.hid (fun (hx : (dat L).all (monoB k) = true) W (hb : Below w.heap.size w W) => sameDegree_any A n c L W hn (by omega) (fun x hx' => mono_small (List.all_eq_true.1 hx x hx') (by
    obtain ⟨r, hr, rfl⟩ := List.mem_map.1 hx'
    have := hlr r hr
    omega)) (hR.below hb))
  have HP : Hid (polyB k (dat L) = (inB k 1 4 && (decide (n ≤ 2000) && ((dat L).all (monoB k) && (ascB (dat L) && sameB (dat L)))))) := Lib.hid (by unfold polyB; rw [dat_length, hn])
  clear hall e hlr hn hl hR hB hb
  generalize dat L = Q at *
  generalize polyB k Q = pb at *
  cases h1 : inB k 1 4 with
  | false =>
    rw [h1] at HP
    go_enter Try.func52, Try.ntmps52
    go_wp2_with fail
    refine HA.out.mono ?_
    rintro e w1 ⟨rfl, hb1⟩
    have HB1 := Lib.hid (HB.out.trans (hb1.mono HB.out.size))
    have HK1 := Lib.hid (blk_below HK.out hb1 (by simp))
    clear hb1 x0 x1 xf0 xf1 lx
    obtain ⟨x0, x1, xf0, xf1, lx⟩ := blk2cells HK1.out
    go_wp2_with fail
    refine (HC.out _).mono ?_
    rintro e w2 ⟨rfl, rfl⟩
    rw [h1]
    go_wp2_with fail
    go_ret
    exact ⟨by rw [HP.out]; rfl, HB1.out⟩
  | true =>
    have H1 := Lib.hid h1
    rw [h1] at HP
    clear h1
    by_cases h2 : n ≤ 2000
    · rw [decide_eq_true h2] at HP
      cases h3 : Q.all (monoB k) with
      | false =>
        rw [h3] at HP HA
        go_enter Try.func52, Try.ntmps52
        go_wp2_with fail
        refine HA.out.mono ?_
        rintro e w1 ⟨rfl, hb1⟩
        have HB1 := Lib.hid (HB.out.trans (hb1.mono HB.out.size))
        have HK1 := Lib.hid (blk_below HK.out hb1 (by simp))
        clear hb1 x0 x1 xf0 xf1 lx
        obtain ⟨x0, x1, xf0, xf1, lx⟩ := blk2cells HK1.out
        go_wp2_with fail
        refine (HC.out _).mono ?_
        rintro e w2 ⟨rfl, rfl⟩
        rw [H1.out]
        go_wp2_with fail
        go_ret
        exact ⟨by rw [HP.out]; rfl, HB1.out⟩
      | true =>
        have H3 := Lib.hid h3
        rw [h3] at HP HA
        clear h3
        cases h4 : ascB Q with
        | false =>
          have H4 := Lib.hid h4
          rw [h4] at HP
          clear h4
          go_enter Try.func52, Try.ntmps52
          go_wp2_with fail
          refine HA.out.mono ?_
          rintro e w1 ⟨rfl, hb1⟩
          have HB1 := Lib.hid (HB.out.trans (hb1.mono HB.out.size))
          have HK1 := Lib.hid (blk_below HK.out hb1 (by simp))
          clear hb1 x0 x1 xf0 xf1 lx
          obtain ⟨x0, x1, xf0, xf1, lx⟩ := blk2cells HK1.out
          go_wp2_with fail
          refine (HC.out _).mono ?_
          rintro e w2 ⟨rfl, rfl⟩
          rw [H1.out]
          go_wp2_with fail
          refine (HRI.out _ HB1.out).mono ?_
          rintro e w2 ⟨rfl, m, rfl⟩
          rw [H4.out]
          go_wp2_with fail
          go_ret
          exact ⟨by rw [HP.out]; rfl, below_drewN HB1.out m⟩
        | true =>
          have H4 := Lib.hid h4
          rw [h4] at HP
          clear h4
          go_enter Try.func52, Try.ntmps52
          go_wp2_with fail
          refine HA.out.mono ?_
          rintro e w1 ⟨rfl, hb1⟩
          have HB1 := Lib.hid (HB.out.trans (hb1.mono HB.out.size))
          have HK1 := Lib.hid (blk_below HK.out hb1 (by simp))
          clear hb1 x0 x1 xf0 xf1 lx
          obtain ⟨x0, x1, xf0, xf1, lx⟩ := blk2cells HK1.out
          go_wp2_with fail
          refine (HC.out _).mono ?_
          rintro e w2 ⟨rfl, rfl⟩
          rw [H1.out]
          go_wp2_with fail
          refine (HRI.out _ HB1.out).mono ?_
          rintro e w2 ⟨rfl, m, rfl⟩
          rw [H4.out]
          have HB2 := Lib.hid (below_drewN HB1.out m)
          go_wp2_with fail
          refine (HSD.out H3.out _ HB2.out).mono ?_
          rintro e w3 ⟨rfl, hb3⟩
          have HB3 := Lib.hid (HB2.out.trans (hb3.mono HB2.out.size))
          clear hb3
          go_wp2_with fail
          go_ret
          exact ⟨by rw [HP.out]; rfl, HB3.out⟩
    · rw [decide_eq_false h2] at HP
      go_enter Try.func52, Try.ntmps52
      go_wp2_with fail
      refine HA.out.mono ?_
      rintro e w1 ⟨rfl, hb1⟩
      have HB1 := Lib.hid (HB.out.trans (hb1.mono HB.out.size))
      have HK1 := Lib.hid (blk_below HK.out hb1 (by simp))
      clear hb1 x0 x1 xf0 xf1 lx
      obtain ⟨x0, x1, xf0, xf1, lx⟩ := blk2cells HK1.out
      go_wp2_with fail
      refine (HC.out _).mono ?_
      rintro e w2 ⟨rfl, rfl⟩
      rw [H1.out]
      go_wp2_with fail
      go_ret
      exact ⟨by rw [HP.out]; rfl, HB1.out⟩
end Go.Proofs.Ytnffpjdlpjkioaa

namespace Go.Proofs.Ytnffpjdlpjkioaa
open Go.RowKit Go.Maps Go.ChangeMaps Go.MapKept

theorem polyB_hom {k : Int} {Q : LL} (h : polyB k Q = true) : ∃ (m d : Nat), k = (m : Int) ∧ 1 ≤ m ∧ m ≤ 4 ∧ d ≤ 40 ∧ HomM m d Q ∧ Q.length ≤ 2000 ∧ As Q := by
  unfold polyB at h
  rw [Bool.and_eq_true, Bool.and_eq_true, Bool.and_eq_true, Bool.and_eq_true, decide_eq_true_eq, List.all_eq_true] at h
  obtain ⟨h1, h2, h3, h4, h5⟩ := h
  obtain ⟨k1, k2⟩ := inB_iff.1 h1
  obtain ⟨m, rfl⟩ := Int.eq_ofNat_of_zero_le (show 0 ≤ k by omega)
  have hA : As Q := ascP_as (by unfold ascB at h4; simpa using h4)
  cases Q with
  | nil => exact ⟨m, 0, rfl, by omega, by omega, by omega, HomM.nil, h2, hA⟩
  | cons x Q =>
    have hx := monoB_iff.1 (h3 x (List.mem_cons_self ..))
    have hs := (le_sum (fun e he => (hx.2.1 e he).1)).1
    obtain ⟨d, hd⟩ := Int.eq_ofNat_of_zero_le hs
    refine ⟨m, d, rfl, by omega, by omega, by have := hx.2.2; omega, fun y hy => ?_, h2, hA⟩
    have hy' := monoB_iff.1 (h3 y hy)
    refine ⟨by have := hy'.1; omega, fun e he => (hy'.2.1 e he).1, ?_⟩
    unfold sameB at h5
    have := List.all_eq_true.1 h5 y hy
    have := of_decide_eq_true this
    rw [this]
    exact hd
/-- what SubstituteForms answers -/
noncomputable def subsF (k : Int) (Q : LL) (fs : List Int) : Int × LL × Int :=
  if polyB k Q = true then if (fs.length : Int) = k then if fs.all (formOk k.toNat) = true then toldOf k.toNat (putB k.toNat fs Q) else (0, [], 2) else (0, [], 2) else (0, [], 1)
theorem substForm_closure (k : Nat) (hk : k ≤ 60) (mb : Nat) (w : World) (hm : w.cell? ⟨mb, 0, none⟩ = some (.int .i64 k)) (x : Int) :
    Asks Try.prog 53 (.pointer (some ⟨mb, 0, none⟩)) w (.int .i64 x) (formOk k x) := by
  intro m
  go_enter Try.func53, Try.ntmps53
  go_wp2_with (go_at_call 45; refine (isForm_any x k hk _).mono ?_; rintro e w' ⟨rfl, rfl⟩)
  go_ret
  exact ⟨rfl, m, rfl⟩
theorem blk_two (w : World) (u v x y : Value) (t t' : TypeId) :
    ((w.alloc (.cells #[u, v] t)).alloc (.cells #[x, y] t')).heap[w.heap.size]? = some (.cells #[u, v] t (0, 0)) ∧ ((w.alloc (.cells #[u, v] t)).alloc (.cells #[x, y] t')).heap[w.heap.size + 1]? = some (.cells #[x, y] t' (0, 0)) ∧
      Below w.heap.size w ((w.alloc (.cells #[u, v] t)).alloc (.cells #[x, y] t')) :=
  ⟨blk_alloc (blk_new w _) _, blk_new1 w _ _, ((Below.refl _ _).alloc (Nat.le_refl _) _).alloc (by simp) _⟩

set_option maxRecDepth 100000 in
set_option maxHeartbeats 4000000 in
theorem implSubstituteForms_any (k : Int) (A F : Option Addr) (n c nf' cf : Nat) (L : List Row) (fs : List Int) (w : World) (hn : n = L.length) (hsm : n ≤ 1048576) (hl : ∀ i, i < L.length → (rg L i).xs.length ≤ 1048576) (hR : RdR w A L) (hnf : nf' = fs.length) (hsf : nf' ≤ 1048576) (hF : Rd w F (iv fs)) :
    Calls Try.prog 23 #[.agg #[.int .i64 k, .slice A n c], .slice F nf' cf] w (ResPoly (subsF k (dat L) fs) w) := by
  obtain ⟨hb0, hb, hB⟩ := blk_two w (.int .i64 k) (.slice A n c) (.int .i64 0) (.slice none 0 0) 24 24
  have HB := Lib.hid hB
  have HK0 := Lib.hid hb0
  have HK := Lib.hid hb
  have HR := Lib.hid hR
  have HF := Lib.hid hF
  have Hn := Lib.hid hn
  have HNF := Lib.hid hnf
  obtain ⟨y0, y1, fy0, fy1, ly⟩ := blk2cells hb
  obtain ⟨x0, x1, xf0, xf1, lx⟩ := blk2cells hb0
  have HIP := Lib.hid (isPoly_any k A n c L _ hn hsm hl (hR.below hB))
  have HFF : Hid (subsF k (dat L) fs = if polyB k (dat L) = true then if (fs.length : Int) = k then if fs.all (formOk k.toNat) = true then toldOf k.toNat (putB k.toNat fs (dat L)) else (0, [], 2) else (0, [], 2) else (0, [], 1)) := Lib.hid rfl
  have HPH := Lib.hid (fun h => polyB_hom (k := k) (Q := dat L) h)
  clear hB hb hb0 hR hn hl hF hnf
  cases h1 : polyB k (dat L) with
  | false =>
    have HE : Hid (subsF k (dat L) fs = (0, [], 1)) := Lib.hid (by rw [HFF.out, h1, if_neg (by simp)])
    go_enter Try.func23, Try.ntmps23
    go_wp2_with fail
    refine HIP.out.mono ?_
    rintro e w1 ⟨rfl, hb1⟩
    rw [h1]
    have HB1 := Lib.hid (HB.out.trans (hb1.mono HB.out.size))
    have HK1 := Lib.hid (blk_below HK.out hb1 (by simp))
    have HK01 := Lib.hid (blk_below HK0.out hb1 (by simp; omega))
    clear hb1 y0 y1 fy0 fy1 ly x0 x1 xf0 xf1 lx
    obtain ⟨y0, y1, fy0, fy1, ly⟩ := blk2cells HK1.out
    obtain ⟨x0, x1, xf0, xf1, lx⟩ := blk2cells HK01.out
    go_wp2_with fail
    refine bodyPost_ret (v := .tuple #[.agg #[.int .i64 0, .slice none 0 0], .int .i64 1]) ?_ rfl ⟨_, [], by rw [HE.out], OwnR.nil _ _, by rw [HE.out]; rfl, ?_⟩
    · simp [results, Try.results23, go_sem, y0, y1]
    · exact (HB1.out.setCell (p := ⟨w.heap.size + 1, 0, none⟩) (by simp) _).setCell (p := ⟨w.heap.size + 1, 1, none⟩) (by simp) _
  | true =>
    obtain ⟨m, d, rfl, hm1, hm4, hd, hQ, hL2, hAs⟩ := HPH.out h1
    rw [if_pos h1, Int.toNat_natCast] at HFF
    have HQ := Lib.hid hQ
    have hn2 : n ≤ 2000 := by rw [Hn.out, ← dat_length]; exact hL2
    clear hQ hL2 hAs
    by_cases h2 : nf' = m
    · subst h2
      rw [if_pos (by rw [HNF.out])] at HFF
      cases h3 : fs.all (formOk nf') with
      | false =>
        have HE : Hid (subsF nf' (dat L) fs = (0, [], 2)) := Lib.hid (by rw [HFF.out, h3, if_neg (by simp)])
        go_enter Try.func23, Try.ntmps23
        go_wp2_with fail
        refine HIP.out.mono ?_
        rintro e w1 ⟨rfl, hb1⟩
        rw [h1]
        have HB1 := Lib.hid (HB.out.trans (hb1.mono HB.out.size))
        have HK1 := Lib.hid (blk_below HK.out hb1 (by simp))
        have HK01 := Lib.hid (blk_below HK0.out hb1 (by simp; omega))
        clear hb1 y0 y1 fy0 fy1 ly x0 x1 xf0 xf1 lx
        obtain ⟨y0, y1, fy0, fy1, ly⟩ := blk2cells HK1.out
        obtain ⟨x0, x1, xf0, xf1, lx⟩ := blk2cells HK01.out
        have ha := all_any F nf' cf fs 53 (.pointer (some ⟨w.heap.size, 0, none⟩)) (formOk nf') w1 (fun args w => Try.call53 args w) HNF.out (by omega)
          (HF.out.below HB1.out) (fun x _ o => substForm_closure nf' (by omega) w.heap.size _ (by rw [World.cell?_alloc_lt _ _ _ lx]; exact x0) x)
        have HA := Lib.hid ha
        clear ha
        rw [h3] at HA
        go_wp2_with fail
        refine HA.out.mono ?_
        rintro e w2 ⟨rfl, hb2⟩
        have HB2 := Lib.hid (HB1.out.trans (hb2.mono HB1.out.size))
        have HK2 := Lib.hid (blk_below HK1.out hb2 ly)
        have HK02 := Lib.hid (blk_below HK01.out hb2 lx)
        clear hb2 y0 y1 fy0 fy1 ly x0 x1 xf0 xf1 lx
        obtain ⟨y0, y1, fy0, fy1, ly⟩ := blk2cells HK2.out
        obtain ⟨x0, x1, xf0, xf1, lx⟩ := blk2cells HK02.out
        go_wp2_with fail
        refine bodyPost_ret (v := .tuple #[.agg #[.int .i64 0, .slice none 0 0], .int .i64 2]) ?_ rfl ⟨_, [], by rw [HE.out], OwnR.nil _ _, by rw [HE.out]; rfl, ?_⟩
        · simp [results, Try.results23, go_sem, y0, y1]
        · exact (HB2.out.setCell (p := ⟨w.heap.size + 1, 0, none⟩) (by simp) _).setCell (p := ⟨w.heap.size + 1, 1, none⟩) (by simp) _
      | true =>
        rw [if_pos h3] at HFF
        have HXX : Hid (∀ x ∈ fs, 0 ≤ x ∧ x < 2 ^ nf') := Lib.hid (fun x hx => formOk_iff.1 (List.all_eq_true.1 h3 x hx))
        go_enter Try.func23, Try.ntmps23
        go_wp2_with fail
        refine HIP.out.mono ?_
        rintro e w1 ⟨rfl, hb1⟩
        rw [h1]
        have HB1 := Lib.hid (HB.out.trans (hb1.mono HB.out.size))
        have HK1 := Lib.hid (blk_below HK.out hb1 (by simp))
        have HK01 := Lib.hid (blk_below HK0.out hb1 (by simp; omega))
        clear hb1 y0 y1 fy0 fy1 ly x0 x1 xf0 xf1 lx
        obtain ⟨y0, y1, fy0, fy1, ly⟩ := blk2cells HK1.out
        obtain ⟨x0, x1, xf0, xf1, lx⟩ := blk2cells HK01.out
        have ha := all_any F nf' cf fs 53 (.pointer (some ⟨w.heap.size, 0, none⟩)) (formOk nf') w1 (fun args w => Try.call53 args w) HNF.out (by omega)
          (HF.out.below HB1.out) (fun x _ o => substForm_closure nf' (by omega) w.heap.size _ (by rw [World.cell?_alloc_lt _ _ _ lx]; exact x0) x)
        have HA := Lib.hid ha
        clear ha
        rw [h3] at HA
        go_wp2_with fail
        refine HA.out.mono ?_
        rintro e w2 ⟨rfl, hb2⟩
        have HB2 := Lib.hid (HB1.out.trans (hb2.mono HB1.out.size))
        have HK2 := Lib.hid (blk_below HK1.out hb2 ly)
        have HK02 := Lib.hid (blk_below HK01.out hb2 lx)
        clear hb2 y0 y1 fy0 fy1 ly x0 x1 xf0 xf1 lx
        obtain ⟨y0, y1, fy0, fy1, ly⟩ := blk2cells HK2.out
        obtain ⟨x0, x1, xf0, xf1, lx⟩ := blk2cells HK02.out
        have HSU := Lib.hid (fun W (hb : Below w.heap.size w W) => substituted_any nf' d A F n c cf L fs W hm4 Hn.out hn2 HQ.out hd HNF.out.symm HXX.out (HR.out.below hb) (HF.out.below hb))
        have HPB := Lib.hid (putB_hom (fs := fs) HQ.out (show d < 64 by omega))
        have KS := Lib.hid (fun w' (hb : Below w2.heap.size w2 w') => show w'.cell? ⟨w.heap.size, 0, none⟩ = some (.int .i64 nf') ∧ w'.cell? ⟨w.heap.size, 1, none⟩ = some (.slice A n c) from ⟨(hb.cell lx).trans x0, (hb.cell lx).trans x1⟩)
        have HB0 := Lib.hid (Below.drew (Below.refl w2.heap.size w2))
        have HLY := Lib.hid ly
        have HLX := Lib.hid lx
        clear h1 h3 HIP HA y0 y1 fy0 fy1 ly x0 x1 xf0 xf1 lx
        go_wp2_with fail
        refine wp_region_held_drew (S := (fun w' => w'.cell? ⟨w.heap.size, 0, none⟩ = some (.int .i64 nf') ∧ w'.cell? ⟨w.heap.size, 1, none⟩ = some (.slice A n c))) (by kernel_rfl) (by (first | exact KS.out _ HB0.out | exact KS.out _ HB3.out | exact KS.out _ HB4.out | exact ⟨keeps_cell (((Keeps.refl w4 [some (w.heap.size + 1)]).setCell (p := ⟨w.heap.size + 1, 0, none⟩) (by simp) _).setCell (p := ⟨w.heap.size + 1, 1, none⟩) (by simp) _) (KS.out _ HB4.out).1 (by simp), keeps_cell (((Keeps.refl w4 [some (w.heap.size + 1)]).setCell (p := ⟨w.heap.size + 1, 0, none⟩) (by simp) _).setCell (p := ⟨w.heap.size + 1, 1, none⟩) (by simp) _) (KS.out _ HB4.out).2 (by simp)⟩)) (fun hHeld => ?_)
        refine wpAnyH_take (i := 0) (oi := ?oim1_1) (v := ?vm1_1) ?hm1_1 (by kernel_rfl) (by kernel_rfl) (by kernel_rfl) ?qm1_1 (Or.inl ⟨?wm1_1, ?ym1_1⟩) (by assumption) ?rm1_1
        case hm1_1 => (simp only [List.getElem?_toArray, List.getElem?_cons_succ, List.getElem?_cons_zero]; rfl)
        case qm1_1 => exact fun _ _ _ h => h
        case wm1_1 => rfl
        case ym1_1 => (intro w hSw; (try dsimp only at hSw); go_simp <;> with_reducible rfl)
        try simp only [Act.put, List.setIfInBounds_toArray, List.set_cons_zero, List.set_cons_succ]
        refine wpAnyH_take (i := 1) (oi := ?oim1_2) (v := ?vm1_2) ?hm1_2 (by kernel_rfl) (by kernel_rfl) (by kernel_rfl) ?qm1_2 (Or.inl ⟨?wm1_2, ?ym1_2⟩) (by assumption) ?rm1_2
        case hm1_2 => (simp only [List.getElem?_toArray, List.getElem?_cons_succ, List.getElem?_cons_zero]; rfl)
        case qm1_2 => exact fun _ _ _ h => h
        case wm1_2 => rfl
        case ym1_2 => (intro w hSw; (try dsimp only at hSw); go_simp <;> with_reducible rfl)
        try simp only [Act.put, List.setIfInBounds_toArray, List.set_cons_zero, List.set_cons_succ]
        refine wpAnyH_take (i := 2) (oi := ?oim1_3) (v := ?vm1_3) ?hm1_3 (by kernel_rfl) (by kernel_rfl) (by kernel_rfl) ?qm1_3 (Or.inl ⟨?wm1_3, ?ym1_3⟩) (by assumption) ?rm1_3
        case hm1_3 => (simp only [List.getElem?_toArray, List.getElem?_cons_succ, List.getElem?_cons_zero]; rfl)
        case qm1_3 => exact fun _ _ _ h => h
        case wm1_3 => rfl
        case ym1_3 => (intro w hSw; (try dsimp only at hSw); go_simp <;> with_reducible rfl)
        try simp only [Act.put, List.setIfInBounds_toArray, List.set_cons_zero, List.set_cons_succ]
        refine wpAnyH_take (i := 3) (oi := ?oim1_4) (v := ?vm1_4) ?hm1_4 (by kernel_rfl) (by kernel_rfl) (by kernel_rfl) ?qm1_4 (Or.inl ⟨?wm1_4, ?ym1_4⟩) (by assumption) ?rm1_4
        case hm1_4 => (simp only [List.getElem?_toArray, List.getElem?_cons_succ, List.getElem?_cons_zero]; rfl)
        case qm1_4 => exact fun _ _ _ h => h
        case wm1_4 => rfl
        case ym1_4 => (intro w hSw; (try dsimp only at hSw); go_simp <;> with_reducible rfl)
        try simp only [Act.put, List.setIfInBounds_toArray, List.set_cons_zero, List.set_cons_succ]
        refine wpAnyH_take (i := 4) (oi := ?oim1_5) (v := ?vm1_5) ?hm1_5 (by kernel_rfl) (by kernel_rfl) (by kernel_rfl) ?qm1_5 (Or.inl ⟨?wm1_5, ?ym1_5⟩) (by assumption) ?rm1_5
        case hm1_5 => (simp only [List.getElem?_toArray, List.getElem?_cons_succ, List.getElem?_cons_zero]; rfl)
        case qm1_5 => exact fun _ _ _ h => h
        case wm1_5 => rfl
        case ym1_5 => (intro w hSw; (try dsimp only at hSw); go_simp <;> with_reducible rfl)
        try simp only [Act.put, List.setIfInBounds_toArray, List.set_cons_zero, List.set_cons_succ]
        refine wpAnyH_ready (rs := [5]) (by kernel_rfl) (by simp) ?_
        refine AllReadyH.cons (o := ?oim1_6) ?hm1_6 (fun K hK => ?km1_6) ?mm1_6
        case hm1_6 => (simp only [List.getElem?_toArray, List.getElem?_cons_succ, List.getElem?_cons_zero]; rfl)
        case km1_6 =>
          go_simp
          (go_at_call 54; refine (HSU.out w2.drew (HB2.out.trans (HB0.out.mono HB2.out.size))).mono ?_; rintro e w3 ⟨g, rfl, hg, hP, hb3⟩; have HB3 := Lib.hid (HB0.out.trans hb3); have HP3 := Lib.hid hP; clear hP hb3)
          refine hK.out _ _ (by (first | exact KS.out _ HB0.out | exact KS.out _ HB3.out | exact KS.out _ HB4.out | exact ⟨keeps_cell (((Keeps.refl w4 [some (w.heap.size + 1)]).setCell (p := ⟨w.heap.size + 1, 0, none⟩) (by simp) _).setCell (p := ⟨w.heap.size + 1, 1, none⟩) (by simp) _) (KS.out _ HB4.out).1 (by simp), keeps_cell (((Keeps.refl w4 [some (w.heap.size + 1)]).setCell (p := ⟨w.heap.size + 1, 0, none⟩) (by simp) _).setCell (p := ⟨w.heap.size + 1, 1, none⟩) (by simp) _) (KS.out _ HB4.out).2 (by simp)⟩)) (fun hHeld => ?_)
          clear hK K
          try simp only [Act.put, List.setIfInBounds_toArray, List.set_cons_zero, List.set_cons_succ]
          refine wpAnyH_ready (rs := [6]) (by kernel_rfl) (by simp) ?_
          refine AllReadyH.cons (o := ?oim1_7) ?hm1_7 (fun K hK => ?km1_7) ?mm1_7
          case hm1_7 => (simp only [List.getElem?_toArray, List.getElem?_cons_succ, List.getElem?_cons_zero]; rfl)
          case km1_7 =>
            go_simp
            (go_at_call 39; refine (told_any g nf' _ w3 HP3.out (HPB.out.mon (by omega)) hm4).mono ?_; rintro e w4 ⟨v4, R, rfl, ho4, hd4, hb4⟩; have HB4 := Lib.hid (HB3.out.trans (hb4.mono HB3.out.size)); have HO4 := Lib.hid (ho4.mono (B' := w.heap.size) (Nat.le_trans HB2.out.size HB3.out.size)); have HD4 := Lib.hid hd4; have HK4 := Lib.hid (blk_below HK2.out HB4.out HLY.out); obtain ⟨y0, y1, fy0, fy1, ly⟩ := blk2cells HK4.out; obtain ⟨A1, c1, rfl, -, -, -⟩ := owns_shape ho4.out; clear ho4 hd4 hb4)
            refine hK.out _ _ (by (first | exact KS.out _ HB0.out | exact KS.out _ HB3.out | exact KS.out _ HB4.out | exact ⟨keeps_cell (((Keeps.refl w4 [some (w.heap.size + 1)]).setCell (p := ⟨w.heap.size + 1, 0, none⟩) (by simp) _).setCell (p := ⟨w.heap.size + 1, 1, none⟩) (by simp) _) (KS.out _ HB4.out).1 (by simp), keeps_cell (((Keeps.refl w4 [some (w.heap.size + 1)]).setCell (p := ⟨w.heap.size + 1, 0, none⟩) (by simp) _).setCell (p := ⟨w.heap.size + 1, 1, none⟩) (by simp) _) (KS.out _ HB4.out).2 (by simp)⟩)) (fun hHeld => ?_)
            clear hK K
            try simp only [Act.put, List.setIfInBounds_toArray, List.set_cons_zero, List.set_cons_succ]
            refine wpAnyH_take (i := 7) (oi := ?oim1_8) (v := ?vm1_8) ?hm1_8 (by kernel_rfl) (by kernel_rfl) (by kernel_rfl) ?qm1_8 (Or.inl ⟨?wm1_8, ?ym1_8⟩) (by assumption) ?rm1_8
            case hm1_8 => (simp only [List.getElem?_toArray, List.getElem?_cons_succ, List.getElem?_cons_zero]; rfl)
            case qm1_8 => exact fun _ _ _ h => h
            case wm1_8 => rfl
            case ym1_8 => (intro w hSw; (try dsimp only at hSw); go_simp <;> with_reducible rfl)
            try simp only [Act.put, List.setIfInBounds_toArray, List.set_cons_zero, List.set_cons_succ]
            refine wpAnyH_take (i := 8) (oi := ?oim1_9) (v := ?vm1_9) ?hm1_9 (by kernel_rfl) (by kernel_rfl) (by kernel_rfl) ?qm1_9 (Or.inl ⟨?wm1_9, ?ym1_9⟩) (by assumption) ?rm1_9
            case hm1_9 => (simp only [List.getElem?_toArray, List.getElem?_cons_succ, List.getElem?_cons_zero]; rfl)
            case qm1_9 => exact fun _ _ _ h => h
            case wm1_9 => rfl
            case ym1_9 => (intro w hSw; (try dsimp only at hSw); go_simp <;> with_reducible rfl)
            try simp only [Act.put, List.setIfInBounds_toArray, List.set_cons_zero, List.set_cons_succ]
            refine wpAnyH_ready (rs := [9]) (by kernel_rfl) (by simp) ?_
            refine AllReadyH.cons (o := ?oim1_10) ?hm1_10 (fun K hK => ?km1_10) ?mm1_10
            case hm1_10 => (simp only [List.getElem?_toArray, List.getElem?_cons_succ, List.getElem?_cons_zero]; rfl)
            case km1_10 =>
              go_simp
              refine hK.out _ _ (by (first | exact KS.out _ HB0.out | exact KS.out _ HB3.out | exact KS.out _ HB4.out | exact ⟨keeps_cell (((Keeps.refl w4 [some (w.heap.size + 1)]).setCell (p := ⟨w.heap.size + 1, 0, none⟩) (by simp) _).setCell (p := ⟨w.heap.size + 1, 1, none⟩) (by simp) _) (KS.out _ HB4.out).1 (by simp), keeps_cell (((Keeps.refl w4 [some (w.heap.size + 1)]).setCell (p := ⟨w.heap.size + 1, 0, none⟩) (by simp) _).setCell (p := ⟨w.heap.size + 1, 1, none⟩) (by simp) _) (KS.out _ HB4.out).2 (by simp)⟩)) (fun hHeld => ?_)
              clear hK K
              try simp only [Act.put, List.setIfInBounds_toArray, List.set_cons_zero, List.set_cons_succ]
              refine wpAnyH_take (i := 10) (oi := ?oim1_11) (v := ?vm1_11) ?hm1_11 (by kernel_rfl) (by kernel_rfl) (by kernel_rfl) ?qm1_11 (Or.inl ⟨?wm1_11, ?ym1_11⟩) (by assumption) ?rm1_11
              case hm1_11 => (simp only [List.getElem?_toArray, List.getElem?_cons_succ, List.getElem?_cons_zero]; rfl)
              case qm1_11 => exact fun _ _ _ h => h
              case wm1_11 => rfl
              case ym1_11 => (intro w hSw; (try dsimp only at hSw); go_simp <;> with_reducible rfl)
              try simp only [Act.put, List.setIfInBounds_toArray, List.set_cons_zero, List.set_cons_succ]
              refine wpAnyH_done (by kernel_rfl) ?_ _
              go_wp2_with fail
              rw [HFF.out]
              refine bodyPost_ret (v := .tuple #[.agg #[.int .i64 (toldOf nf' (putB nf' fs (dat L))).1, .slice A1 R.length c1], .int .i64 (toldOf nf' (putB nf' fs (dat L))).2.2]) ?_ rfl ⟨_, R, rfl, HO4.out.box2 HK4.out (by decide) (by decide) _ _, HD4.out, ?_⟩
              · simp [results, Try.results23, go_sem, y0, y1]
              · exact ((HB2.out.trans (HB4.out.mono HB2.out.size)).setCell (p := ⟨w.heap.size + 1, 0, none⟩) (by simp) _).setCell (p := ⟨w.heap.size + 1, 1, none⟩) (by simp) _
            exact AllReadyH.nil
          exact AllReadyH.nil
        exact AllReadyH.nil
    · have hne : ((nf' : Int) != (m : Int)) = true := by simpa using (show ¬ (nf' : Int) = m by omega)
      have HE : Hid (subsF m (dat L) fs = (0, [], 2)) := Lib.hid (by rw [HFF.out, if_neg (by rw [← HNF.out]; omega)])
      clear h2
      go_enter Try.func23, Try.ntmps23
      go_wp2_with fail
      refine HIP.out.mono ?_
      rintro e w1 ⟨rfl, hb1⟩
      rw [h1]
      have HB1 := Lib.hid (HB.out.trans (hb1.mono HB.out.size))
      have HK1 := Lib.hid (blk_below HK.out hb1 (by simp))
      have HK01 := Lib.hid (blk_below HK0.out hb1 (by simp; omega))
      clear hb1 y0 y1 fy0 fy1 ly x0 x1 xf0 xf1 lx
      obtain ⟨y0, y1, fy0, fy1, ly⟩ := blk2cells HK1.out
      obtain ⟨x0, x1, xf0, xf1, lx⟩ := blk2cells HK01.out
      go_wp2_with fail
      refine bodyPost_ret (v := .tuple #[.agg #[.int .i64 0, .slice none 0 0], .int .i64 2]) ?_ rfl ⟨_, [], by rw [HE.out], OwnR.nil _ _, by rw [HE.out]; rfl, ?_⟩
      · simp [results, Try.results23, go_sem, y0, y1]
      · exact (HB1.out.setCell (p := ⟨w.heap.size + 1, 0, none⟩) (by simp) _).setCell (p := ⟨w.heap.size + 1, 1, none⟩) (by simp) _
end Go.Proofs.Ytnffpjdlpjkioaa

namespace Go.Proofs.Ytnffpjdlpjkioaa
open Go.RowKit

set_option maxHeartbeats 1000000 in
theorem l03Degree_any (A : Option Addr) (n c : Nat) (xs : List Int) (w : World) (hn : n = xs.length) (hsm : n ≤ 100000000) (hb : ∀ x ∈ xs, 0 ≤ x ∧ x ≤ 40) (hR : Rd w A (iv xs)) :
    Calls Try.prog 82 #[.slice A n c] w fun e w' => e = .returned (.int .i64 xs.sum) ∧ w = w' := by
  have HR := Lib.hid hR
  have Hn := Lib.hid hn
  have HB := Lib.hid (sum_bd hb)
  have HX := Lib.hid hb
  clear hR hn hb
  go_enter Try.func82, Try.ntmps82
  go_wp2_with fail
  go_loop [3, 4] (fun s i => ∃ k : Nat, ∃ t : Int, k ≤ n ∧ i = .int .i64 k ∧ s = .int .i64 t ∧ Hid (t = (xs.take k).sum)) (fun _ i => n - (intOf i).toNat)
  case atStart => exact ⟨0, 0, by omega, rfl, rfl, Lib.hid (by simp)⟩
  case round =>
    obtain ⟨k, t, hk, rfl, rfl, HQ⟩ := hrel
    by_cases hlt : k < n
    · have hkL : k < xs.length := by rw [← Hn.out]; exact hlt
      obtain ⟨b, o, rfl, hc⟩ := HR.out.atI hkL
      have hx := HX.out _ (show xs.getD k 0 ∈ xs from by simp [List.getD, hkL])
      have ht := HB.out k (by omega)
      have HS := Lib.hid (sum_take_succ hkL)
      rw [← HQ.out] at ht
      generalize xs.getD k 0 = z at *
      clear hkL
      go_wp2_with fail
      go_round
      case rel => exact ⟨k + 1, t + z, by omega, by go_num, by go_num, Lib.hid (by rw [HS.out, HQ.out])⟩
      case measure => simp [intOf]; omega
    · have HF : Hid (xs.sum = t) := Lib.hid (by rw [HQ.out, List.take_of_length_le (by rw [← Hn.out]; omega)])
      go_wp2_with fail
      go_ret
      exact ⟨by rw [HF.out]; rfl, rfl⟩

/-- a term that is fine beside the first -/
def goodT (k : Int) (s0 : Int) (x : List Int) : Bool := monoB k x && decide (x.sum = s0)
theorem polyB_good {k : Int} {Q : LL} : polyB k Q = (inB k 1 4 && (decide (Q.length ≤ 2000) && (ascB Q && Q.all (goodT k (Q.getD 0 []).sum)))) := by
  unfold polyB sameB goodT
  have e : (Q.all fun x => monoB k x && decide (x.sum = (Q.getD 0 []).sum)) = (Q.all (monoB k) && Q.all fun x => decide (x.sum = (Q.getD 0 []).sum)) := by
    rw [Bool.eq_iff_iff, Bool.and_eq_true, List.all_eq_true, List.all_eq_true, List.all_eq_true]
    constructor
    · intro h
      exact ⟨fun x hx => (Bool.and_eq_true _ _ ▸ h x hx).1, fun x hx => (Bool.and_eq_true _ _ ▸ h x hx).2⟩
    · rintro ⟨h1, h2⟩ x hx
      rw [h1 x hx, h2 x hx]
      rfl
  rw [e]
  cases inB k 1 4 <;> cases decide (Q.length ≤ 2000) <;> cases Q.all (monoB k) <;> cases ascB Q <;> simp

set_option maxRecDepth 100000 in
set_option maxHeartbeats 4000000 in
theorem l08Is_any (k : Int) (A : Option Addr) (n c : Nat) (L : List Row) (w : World) (hn : n = L.length) (hsm : n ≤ 1048576) (hl : ∀ i, i < L.length → (rg L i).xs.length ≤ 1048576) (hR : RdR w A L) :
    Calls Try.prog 48 #[.agg #[.int .i64 k, .slice A n c]] w fun e w' => e = .returned (.bool (polyB k (dat L))) ∧ Below w.heap.size w w' := by
  have hb := blk_new w (.cells #[.int .i64 k, .slice A n c] 24)
  have hB : Below w.heap.size w (w.alloc (.cells #[.int .i64 k, .slice A n c] 24)) := (Below.refl _ _).alloc (Nat.le_refl _) _
  have HK := Lib.hid hb
  have HB := Lib.hid hB
  obtain ⟨x0, x1, xf0, xf1, lx⟩ := blk2cells hb
  have HC := Lib.hid (fun W => l01In_any k 1 4 W)
  have HAS := Lib.hid (fun W (hb : Below w.heap.size w W) => l01Ascending_any A n c L W hn (by omega) (fun i hi => by have := hl i hi; omega) (hR.below hb))
  have HP : Hid (polyB k (dat L) = (inB k 1 4 && (decide (n ≤ 2000) && (ascB (dat L) && (dat L).all (goodT k ((dat L).getD 0 []).sum))))) := Lib.hid (by rw [polyB_good, dat_length, hn])
  have Hn := Lib.hid hn
  have HR := Lib.hid hR
  have HL := Lib.hid hl
  clear hn hl hR hB
  cases h1 : inB k 1 4 with
  | false =>
    rw [h1] at HP
    go_enter Try.func48, Try.ntmps48
    go_wp2_with fail
    refine (HC.out _).mono ?_
    rintro e w2 ⟨rfl, rfl⟩
    rw [h1]
    go_wp2_with fail
    go_ret
    exact ⟨by rw [HP.out]; rfl, HB.out⟩
  | true =>
    obtain ⟨k1, k2⟩ := inB_iff.1 h1
    obtain ⟨k, rfl⟩ := Int.eq_ofNat_of_zero_le (show 0 ≤ k by omega)
    have H1 := Lib.hid h1
    rw [h1] at HP
    clear h1
    by_cases h2 : n ≤ 2000
    · rw [decide_eq_true h2] at HP
      cases h4 : ascB (dat L) with
      | false =>
        have H4 := Lib.hid h4
        rw [h4] at HP
        clear h4
        go_enter Try.func48, Try.ntmps48
        go_wp2_with fail
        refine (HC.out _).mono ?_
        rintro e w2 ⟨rfl, rfl⟩
        rw [H1.out]
        go_wp2_with fail
        refine (HAS.out _ HB.out).mono ?_
        rintro e w2 ⟨rfl, m, rfl⟩
        rw [H4.out]
        go_wp2_with fail
        go_ret
        exact ⟨by rw [HP.out]; rfl, below_drewN HB.out m⟩
      | true =>
        have H4 := Lib.hid h4
        rw [h4] at HP
        clear h4
        go_enter Try.func48, Try.ntmps48
        go_wp2_with fail
        refine (HC.out _).mono ?_
        rintro e w2 ⟨rfl, rfl⟩
        rw [H1.out]
        go_wp2_with fail
        refine (HAS.out _ HB.out).mono ?_
        rintro e w2 ⟨rfl, m, rfl⟩
        rw [H4.out]
        have HB2 := Lib.hid (below_drewN HB.out m)
        have HK2 : Hid (((w.alloc (.cells #[.int .i64 k, .slice A n c] 24)).drewN m).heap[w.heap.size]? = some (.cells #[.int .i64 k, .slice A n c] 24 (0, 0))) := Lib.hid HK.out
        generalize hW : (w.alloc (.cells #[.int .i64 k, .slice A n c] 24)).drewN m = W at *
        clear hW hb x0 x1 xf0 xf1 lx
        obtain ⟨x0, x1, xf0, xf1, lx⟩ := blk2cells HK2.out
        obtain ⟨s0, hs0⟩ : ∃ s0, ((dat L).getD 0 []).sum = s0 := ⟨_, rfl⟩
        have HS0 := Lib.hid hs0
        rw [hs0] at HP
        clear hs0
        go_wp2_with fail
        go_loopw [3] (fun o wr => ∃ i : Nat, o = .int .i64 i ∧ i ≤ n ∧ (∀ t, t < i → goodT k s0 ((dat L).getD t []) = true) ∧ Below W.heap.size W wr) (fun o _ => n - (intOf o).toNat)
        case atStart => exact ⟨0, rfl, by omega, fun t ht => by omega, Below.refl _ _⟩
        case round =>
          obtain ⟨i, rfl, hi, hall, hbw⟩ := hrel
          have HALL := Lib.hid hall
          have HBW := Lib.hid hbw
          have HB3 := Lib.hid (HB2.out.trans (hbw.mono HB2.out.size))
          have HK3 := Lib.hid (blk_below HK2.out hbw lx)
          clear hall hbw x0 x1 xf0 xf1 lx
          obtain ⟨x0, x1, xf0, xf1, lx⟩ := blk2cells HK3.out
          by_cases hlt : i < n
          · have hjL : i < L.length := by rw [← Hn.out]; exact hlt
            have hR3 := HR.out.below HB3.out
            obtain ⟨b, o, rfl, hc⟩ := hR3.at_ hjL
            have HIN := Lib.hid (hR3.inn i hjL)
            have hxl := HL.out i hjL
            have HX := Lib.hid (dat_getD L i)
            have HMEM : Hid ((dat L).getD i [] ∈ dat L) := Lib.hid (by simp [List.getD, dat_length, hjL])
            have h0L : 0 < L.length := by omega
            obtain ⟨_, _, eA, hc0⟩ := hR3.at_ h0L
            cases eA
            have HIN0 := Lib.hid (hR3.inn 0 h0L)
            have HX0 := Lib.hid (dat_getD L 0)
            have HN0 := Lib.hid (show 0 < n by omega)
            have HB4 := Lib.hid (Below.drew HB3.out)
            have HBW4 := Lib.hid (Below.drew HBW.out)
            clear hR3 hjL h0L
            simp only [Nat.add_zero] at hc0
            rw [HX.out] at HMEM
            have HBAD : Hid (goodT k s0 (rg L i).xs = false → polyB k (dat L) = false) := Lib.hid fun h => by
              have : (dat L).all (goodT k s0) = false := by
                rw [List.all_eq_false]
                exact ⟨_, HMEM.out, by rw [h]; simp⟩
              rw [HP.out, this]; rfl
            have HGD : Hid (goodT k s0 (rg L i).xs = true → goodT k s0 ((dat L).getD i []) = true) := Lib.hid fun h => by rw [HX.out]; exact h
            have HS0x : Hid ((rg L 0).xs.sum = s0) := Lib.hid (by rw [← HX0.out]; exact HS0.out)
            have HG0 : Hid (goodT k s0 (rg L 0).xs = true ∨ i = 0) := Lib.hid (by
              by_cases h : i = 0
              · exact .inr h
              · exact .inl (by rw [← HX0.out]; exact HALL.out 0 (by omega)))
            have HEQ : Hid (i = 0 → (rg L 0).xs = (rg L i).xs) := Lib.hid (fun h => by rw [h])
            clear HX HX0 HMEM
            generalize rg L i = r at *
            generalize rg L 0 = r0 at *
            obtain ⟨rA, rc, rx⟩ := r
            obtain ⟨qA, qc, qx⟩ := r0
            simp only at hc hc0 hxl HIN HIN0 HBAD HGD HS0x HG0 HEQ
            go_wp2_with fail
            go_region_held3 (fun w' => w'.cell? ⟨w.heap.size, 0, none⟩ = some (.int .i64 k) ∧ w'.cell? ⟨w.heap.size, 1, none⟩ = some (.slice (some ⟨b, o, none⟩) n c) ∧ w'.cell? ⟨b, o + i, none⟩ = some (.slice rA rx.length rc))
              (exact ⟨x0, x1, hc⟩)
              (fail)
            have hx0' : wr.drew.cell? ⟨w.heap.size, 0, none⟩ = some (.int .i64 k) := x0
            have hx1' : wr.drew.cell? ⟨w.heap.size, 1, none⟩ = some (.slice (some ⟨b, o, none⟩) n c) := x1
            have hc' : wr.drew.cell? ⟨b, o + i, none⟩ = some (.slice rA rx.length rc) := hc
            have hc0' : wr.drew.cell? ⟨b, o, none⟩ = some (.slice qA qx.length qc) := hc0
            have HIN' : Hid (Rd wr.drew rA (iv rx)) := Lib.hid HIN.out
            have HIN0' : Hid (Rd wr.drew qA (iv qx)) := Lib.hid HIN0.out
            clear x0 x1 xf0 xf1 lx hc hc0 HIN HIN0
            generalize wr.drew = wd at *
            by_cases hlen : (rx.length : Int) = (k : Int)
            · have hne : ((rx.length : Int) != (k : Int)) = false := by simpa using hlen
              have HLEN := Lib.hid hlen
              clear hlen
              generalize hnx : rx.length = nx at *
              have HNX := Lib.hid hnx
              clear hnx
              rw [hne]
              clear hne
              go_wp2_with fail
              go_loopw [4] (fun o wr => ∃ j : Nat, o = .int .i64 j ∧ j ≤ nx ∧ (∀ t, t < j → inB (rx.getD t 0) 0 40 = true) ∧ wr = wd) (fun o _ => nx - (intOf o).toNat)
              case atStart => exact ⟨0, rfl, by omega, fun t ht => by omega, rfl⟩
              case round =>
                obtain ⟨j, rfl, hj, hin, rfl⟩ := hrel
                have HIN2 := Lib.hid hin
                clear hin
                by_cases hjl : j < nx
                · have hjx : j < rx.length := by rw [HNX.out]; exact hjl
                  obtain ⟨bx, ox, rfl, hcx⟩ := HIN'.out.atI hjx
                  have hji : (j : Int) < (nx : Int) := by omega
                  have HMX : Hid (rx.getD j 0 ∈ rx) := Lib.hid (by simp [List.getD, hjx])
                  have HXJ : Hid (∀ z, rx.getD j 0 = z → inB z 0 40 = true → ∀ t, t < j + 1 → inB (rx.getD t 0) 0 40 = true) := Lib.hid (fun z hz hzb t ht => by
                    by_cases e : t = j
                    · subst e; rw [hz]; exact hzb
                    · exact HIN2.out t (by omega))
                  clear hjx
                  generalize hz : rx.getD j 0 = z at *
                  have HZ := Lib.hid (HXJ.out z rfl)
                  clear hz HXJ
                  cases hzb : inB z 0 40 with
                  | false =>
                    have HE := Lib.hid (HBAD.out (by
                      unfold goodT monoB
                      have : (rx.all fun e => inB e 0 40) = false := by rw [List.all_eq_false]; exact ⟨z, HMX.out, by rw [hzb]; simp⟩
                      rw [this]; simp))
                    go_wp2_with fail
                    refine (l01In_any z 0 40 _).mono ?_
                    rintro e w2 ⟨rfl, rfl⟩
                    rw [hzb]
                    go_wp2_with fail
                    go_ret
                    exact ⟨by rw [HE.out]; rfl, HB4.out⟩
                  | true =>
                    have HZB := Lib.hid hzb
                    clear hzb
                    go_wp2_with fail
                    refine (l01In_any z 0 40 _).mono ?_
                    rintro e w2 ⟨rfl, rfl⟩
                    rw [HZB.out]
                    go_wp2_with fail
                    go_roundw
                    case rel => exact ⟨j + 1, by go_num, by omega, HZ.out HZB.out, trivial⟩
                    case measure => simp [intOf]; omega
                · have ej : j = nx := by omega
                  have hji : ¬ (j : Int) < (nx : Int) := by omega
                  have hall : ∀ x ∈ rx, 0 ≤ x ∧ x ≤ 40 := fun x hx => by
                    obtain ⟨t, ht, rfl⟩ := List.getElem_of_mem hx
                    have := HIN2.out t (by rw [ej, ← HNX.out]; exact ht)
                    rw [inB_iff] at this
                    simpa [List.getD, ht] using this
                  have hallB : (rx.all fun e => inB e 0 40) = true := List.all_eq_true.2 fun x hx => inB_iff.2 (hall x hx)
                  have HD1 := Lib.hid (l03Degree_any rA nx rc rx wr HNX.out.symm (by omega) hall HIN'.out)
                  have HQS : Hid (∀ x ∈ qx, 0 ≤ x ∧ x ≤ 40) := Lib.hid (by
                    rcases HG0.out with h | h
                    · exact (monoB_iff.1 (by unfold goodT at h; exact (Bool.and_eq_true _ _ ▸ h).1)).2.1
                    · rw [HEQ.out h]; exact hall)
                  have HQL : Hid (qx.length ≤ 100000000) := Lib.hid (by
                    rcases HG0.out with h | h
                    · have := (monoB_iff.1 (by unfold goodT at h; exact (Bool.and_eq_true _ _ ▸ h).1 : monoB k qx = true)).1
                      omega
                    · rw [HEQ.out h, HNX.out]; omega)
                  have HD2 := Lib.hid (l03Degree_any qA qx.length qc qx wr rfl HQL.out HQS.out HIN0'.out)
                  have HGT : Hid (goodT k s0 rx = (decide (rx.sum ≤ 40) && decide (rx.sum = s0))) := Lib.hid (by
                    unfold goodT monoB
                    rw [HNX.out, decide_eq_true HLEN.out, hallB]; simp)
                  rw [HS0x.out] at HD2
                  generalize rx.sum = d at *
                  have hn0 : (0 : Int) < (n : Int) := by have := HN0.out; omega
                  have hn0' := HN0.out
                  clear ej hall hallB HIN2
                  by_cases hd : d ≤ 40
                  · have hd' : ¬ 40 < d := by omega
                    by_cases hds : d = s0
                    · have HGG : Hid (goodT k s0 rx = true) := Lib.hid (by rw [HGT.out, decide_eq_true hd, decide_eq_true hds]; rfl)
                      have hne2 : (d != s0) = false := by simpa using hds
                      have HDS := Lib.hid hds
                      clear hds
                      go_wp2_with fail
                      refine HD1.out.mono ?_
                      rintro e w2 ⟨rfl, rfl⟩
                      go_wp2_with fail
                      refine HD2.out.mono ?_
                      rintro e w2 ⟨rfl, rfl⟩
                      go_wp2_with fail
                      go_roundw
                      case rel =>
                        refine ⟨i + 1, by go_num, by omega, fun t ht => ?_, HBW4.out⟩
                        by_cases e : t = i
                        · subst e; exact HGD.out HGG.out
                        · exact HALL.out t (by omega)
                      case measure => simp [intOf]; omega
                    · have HE := Lib.hid (HBAD.out (by rw [HGT.out, decide_eq_false hds]; simp))
                      have hne2 : (d != s0) = true := by simpa using hds
                      clear hds
                      go_wp2_with fail
                      refine HD1.out.mono ?_
                      rintro e w2 ⟨rfl, rfl⟩
                      go_wp2_with fail
                      refine HD2.out.mono ?_
                      rintro e w2 ⟨rfl, rfl⟩
                      go_wp2_with fail
                      go_ret
                      exact ⟨by rw [HE.out]; rfl, HB4.out⟩
                  · have hd' : 40 < d := by omega
                    have HE := Lib.hid (HBAD.out (by rw [HGT.out, decide_eq_false hd]; rfl))
                    clear hd
                    go_wp2_with fail
                    refine HD1.out.mono ?_
                    rintro e w2 ⟨rfl, rfl⟩
                    go_wp2_with fail
                    go_ret
                    exact ⟨by rw [HE.out]; rfl, HB4.out⟩
            · have hne : ((rx.length : Int) != (k : Int)) = true := by simpa using hlen
              have HE := Lib.hid (HBAD.out (by unfold goodT monoB; rw [decide_eq_false hlen]; rfl))
              clear hlen
              go_wp2_with fail
              go_ret
              exact ⟨by rw [HE.out]; rfl, HB4.out⟩
          · have ei : i = n := by omega
            have hall : (dat L).all (goodT k s0) = true := List.all_eq_true.2 (fun x hx => by
              obtain ⟨t, ht, rfl⟩ := List.getElem_of_mem hx
              have := HALL.out t (by rw [ei, Hn.out, ← dat_length]; exact ht)
              simpa [List.getD, ht] using this)
            have HE : Hid (polyB k (dat L) = true) := Lib.hid (by rw [HP.out, hall]; rfl)
            have hii : ¬ (i : Int) < (n : Int) := by omega
            clear ei hall
            go_wp2_with fail
            go_ret
            exact ⟨by rw [HE.out]; rfl, HB3.out⟩
    · rw [decide_eq_false h2] at HP
      have h2' : (2000 : Int) < (n : Int) := by omega
      go_enter Try.func48, Try.ntmps48
      go_wp2_with fail
      refine (HC.out _).mono ?_
      rintro e w2 ⟨rfl, rfl⟩
      rw [H1.out]
      go_wp2_with fail
      go_ret
      exact ⟨by rw [HP.out]; rfl, HB.out⟩
end Go.Proofs.Ytnffpjdlpjkioaa
