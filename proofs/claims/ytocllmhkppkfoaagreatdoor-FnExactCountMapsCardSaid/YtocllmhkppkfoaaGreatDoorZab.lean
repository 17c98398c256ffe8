/- predicates: in, isMask, all, IsMatrix and the reference's l01In, l02Is · the laws' own helpers: sizes, copies, comparisons of slices of ints · the laws' own helpers at matrices · the laws' marks: markInt64S, heldInt64S, markMatrix, heldMatrix -/
import Derived.Test.YtocllmhkppkfoaaGreatDoorZaa
import Derived.Deep.Onto
namespace Go.Proofs.YtocllmhkppkfoaaGreatDoor
open Go.RowKit

def inB (n lo hi : Int) : Bool := decide (lo ≤ n) && decide (n ≤ hi)
theorem in_any (n lo hi : Int) (w : World) : Calls Tryz.prog 52 #[.int .i64 n, .int .i64 lo, .int .i64 hi] w fun e w' => e = .returned (.bool (inB n lo hi)) ∧ w = w' := by
  by_cases h1 : lo ≤ n
  · by_cases h2 : n ≤ hi
    · go_enter Tryz.func52, Tryz.ntmps52
      go_wp2
      go_ret
      exact ⟨by simp [inB, h1, h2], rfl⟩
    · go_enter Tryz.func52, Tryz.ntmps52
      go_wp2
      go_ret
      exact ⟨by simp [inB, h1, h2], rfl⟩
  · go_enter Tryz.func52, Tryz.ntmps52
    go_wp2
    go_ret
    exact ⟨by rw [show inB n lo hi = false by simp [inB]; omega]; rfl, rfl⟩
theorem l01In_any (n lo hi : Int) (w : World) : Calls Tryz.prog 61 #[.int .i64 n, .int .i64 lo, .int .i64 hi] w fun e w' => e = .returned (.bool (inB n lo hi)) ∧ w = w' := by
  by_cases h1 : lo ≤ n
  · by_cases h2 : n ≤ hi
    · go_enter Tryz.func61, Tryz.ntmps61
      go_wp2
      go_ret
      exact ⟨by simp [inB, h1, h2], rfl⟩
    · go_enter Tryz.func61, Tryz.ntmps61
      go_wp2
      go_ret
      exact ⟨by simp [inB, h1, h2], rfl⟩
  · go_enter Tryz.func61, Tryz.ntmps61
    go_wp2
    go_ret
    exact ⟨by rw [show inB n lo hi = false by simp [inB]; omega]; rfl, rfl⟩

/-- is v a mask of d digits? -/
def maskB (v : Int) (d : Nat) : Bool := inB v 0 (2 ^ d - 1)
theorem maskB_iff (v : Int) (d : Nat) : (decide (0 ≤ v) && (v / 2 ^ d == 0)) = maskB v d := by
  have hp : (0 : Int) < 2 ^ d := Int.pow_pos (by decide)
  unfold maskB inB
  by_cases h : 0 ≤ v
  · have : (v / 2 ^ d == 0) = decide (v ≤ 2 ^ d - 1) := by
      rw [Bool.eq_iff_iff]
      simp only [beq_iff_eq, decide_eq_true_eq]
      constructor
      · intro e
        have := fun h' => Int.le_ediv_of_mul_le (a := 1) (b := v) hp h'
        omega
      · intro e; exact Int.ediv_eq_zero_of_lt h (by omega)
    rw [this]
  · simp [h]
theorem all_getD {xs : List Int} {p : Int → Bool} : xs.all p = true ↔ ∀ t, t < xs.length → p (xs.getD t 0) = true := by
  rw [List.all_eq_true]
  constructor
  · intro h t ht
    exact h _ (by simp [List.getD, ht])
  · intro h x hx
    obtain ⟨t, ht, rfl⟩ := List.getElem_of_mem hx
    have := h t ht
    simpa [List.getD, ht] using this
theorem inB_true2 {n lo hi : Int} (h : inB n lo hi = true) : lo ≤ n ∧ n ≤ hi := by simpa [inB] using h
/-- Calling function fn by its value enters it. -/
def Ent (fn : FuncId) : Prop := ∀ args w, (callFunc fn args).run Tryz.prog w = .ok (.enter fn args) w
/-- a found place as Go returns it -/
def placeOf (o : Option Nat) : Int := match o with | some k => (k : Int) | none => -1
/-- What a predicate's closure answers, the world being as it was but for draws. -/
def Asks (P : Program) (fn : FuncId) (cv : Value) (w : World) (x : Value) (b : Bool) : Prop :=
  ∀ m, Calls P fn #[x, cv] (w.drewN m) fun e w' => e = .returned (.bool b) ∧ ∃ m', w.drewN m' = w'

set_option maxHeartbeats 400000 in
theorem indexFunc_any (A : Option Addr) (n c : Nat) (xs : List Int) (fn : FuncId) (cv : Value) (p : Int → Bool) (w : World) (hcf : Ent fn) (hn : n = xs.length) (hsm : n ≤ 1099511627776) (hR : Rd w A (iv xs))
    (hf : ∀ x ∈ xs, Asks Tryz.prog fn cv w (.int .i64 x) (p x)) :
    Calls Tryz.prog 88 #[.slice A n c, .func (.func fn) #[] #[cv]] w fun e w' =>
      e = .returned (.int .i64 (placeOf (xs.findIdx? p))) ∧ ∃ m, w.drewN m = w' := by
  have Hn := Lib.hid hn; clear hn
  have HF := Lib.hid hf; clear hf
  unfold Ent at hcf
  go_enter Tryz.func88, Tryz.ntmps88
  go_wp2_with fail
  go_loopw [8] (fun i wr => ∃ k : Nat, k ≤ n ∧ i = .int .i64 k ∧ (∃ m, wr = w.drewN m) ∧ (xs.take k).findIdx? p = none) (fun i _ => n - (intOf i).toNat)
  case atStart => exact ⟨0, by omega, rfl, ⟨0, rfl⟩, by simp⟩
  case round =>
    obtain ⟨k, hk, rfl, ⟨m, rfl⟩, hp⟩ := hrel
    have HP := Lib.hid hp; clear hp
    by_cases hlt : k < n
    · have hkL : k < xs.length := by rw [← Hn.out]; exact hlt
      obtain ⟨b, o, rfl, hc⟩ := hR.atI hkL
      have hm : xs.getD k 0 ∈ xs := by simp [List.getD, hkL]
      have ha := HF.out _ hm m
      have hx : xs[k] = xs.getD k 0 := by simp [List.getD, hkL]
      have HX := Lib.hid hx; clear hx hm hR
      generalize xs.getD k 0 = x at *
      have HA := Lib.hid ha; clear ha
      cases hb : p x
      · rw [hb] at HA
        go_wp2_with fail
        refine HA.out.mono ?_
        rintro e w' ⟨rfl, m', rfl⟩
        go_wp2_with fail
        go_roundw
        case rel => exact ⟨k + 1, by omega, by go_num, ⟨m', rfl⟩, by rw [List.take_succ_eq_append_getElem hkL, List.findIdx?_append, HP.out, HX.out]; simp [hb]⟩
        case measure => simp [intOf]; omega
      · rw [hb] at HA
        go_wp2_with fail
        refine HA.out.mono ?_
        rintro e w' ⟨rfl, m', rfl⟩
        go_wp2_with fail
        go_ret
        refine ⟨?_, m', rfl⟩
        have e : xs.findIdx? p = some k := by
          rw [← List.take_append_drop k xs, List.findIdx?_append, HP.out, List.drop_eq_getElem_cons hkL, HX.out]
          simp [hb, Nat.min_eq_left (Nat.le_of_lt hkL), List.findIdx?_cons]
        rw [e]
        rfl
    · have ek : xs.take k = xs := List.take_of_length_le (by rw [← Hn.out]; omega)
      go_wp2_with fail
      go_ret
      refine ⟨?_, m, rfl⟩
      have e : xs.findIdx? p = none := by rw [← ek, HP.out]
      rw [e]
      rfl

theorem findIdx_none {α : Type} (p : α → Bool) (xs : List α) : (xs.findIdx? p = none) = (∀ x ∈ xs, p x = false) := by
  simp

set_option maxHeartbeats 400000 in
theorem containsFunc_any (A : Option Addr) (n c : Nat) (xs : List Int) (fn : FuncId) (cv : Value) (p : Int → Bool) (w : World) (hcf : Ent fn) (hn : n = xs.length) (hsm : n ≤ 1099511627776) (hR : Rd w A (iv xs))
    (hf : ∀ x ∈ xs, Asks Tryz.prog fn cv w (.int .i64 x) (p x)) :
    Calls Tryz.prog 68 #[.slice A n c, .func (.func fn) #[] #[cv]] w fun e w' =>
      e = .returned (.bool (xs.any p)) ∧ ∃ m, w.drewN m = w' := by
  have HC := Lib.hid (indexFunc_any A n c xs fn cv p w hcf hn hsm hR hf)
  clear hn hR hf hsm
  cases h : xs.findIdx? p with
  | none =>
    rw [h] at HC
    have e : xs.any p = false := by rw [List.any_eq_false]; rw [findIdx_none] at h; simpa using h
    have HE := Lib.hid e; clear e h
    go_enter Tryz.func68, Tryz.ntmps68
    go_wp2_with (go_at_call 88; refine HC.out.mono ?_; rintro e w' ⟨rfl, m', rfl⟩)
    go_ret
    exact ⟨by rw [HE.out]; rfl, m', rfl⟩
  | some k =>
    rw [h] at HC
    have e : xs.any p = true := by
      cases ha : xs.any p with
      | true => rfl
      | false =>
        rw [List.any_eq_false] at ha
        have : xs.findIdx? p = none := by rw [findIdx_none]; simpa using ha
        rw [this] at h; cases h
    have HE := Lib.hid e; clear e h
    have hk : ¬ (k : Int) < 0 := by omega
    go_enter Tryz.func68, Tryz.ntmps68
    go_wp2_with (go_at_call 88; refine HC.out.mono ?_; rintro e w' ⟨rfl, m', rfl⟩)
    go_ret
    exact ⟨by rw [HE.out]; simp [placeOf], m', rfl⟩

set_option maxHeartbeats 400000 in
/-- all(list, holds), 'holds' a closure that only looks. -/
theorem all_any (A : Option Addr) (n c : Nat) (xs : List Int) (fn : FuncId) (cv : Value) (p : Int → Bool) (w : World) (hcf : Ent fn) (hn : n = xs.length) (hsm : n ≤ 1099511627776) (hR : Rd w A (iv xs))
    (hf : ∀ x ∈ xs, ∀ o, Asks Tryz.prog fn cv (w.alloc o) (.int .i64 x) (p x)) :
    Calls Tryz.prog 46 #[.slice A n c, .func (.func fn) #[] #[cv]] w fun e w' =>
      e = .returned (.bool (xs.all p)) ∧ Below w.heap.size w w' := by
  have key : ∀ x ∈ xs, Asks Tryz.prog 69 (.pointer (some ⟨w.heap.size, 0, none⟩)) (w.alloc (.cells #[.func (.func fn) #[] #[cv]] 78)) (.int .i64 x) (!(p x)) := by
    intro x hx m
    have HF := Lib.hid (hf x hx (.cells #[.func (.func fn) #[] #[cv]] 78) m)
    clear hf hR
    unfold Ent at hcf
    have hc : (w.alloc (.cells #[.func (.func fn) #[] #[cv]] 78)).cell? ⟨w.heap.size, 0, none⟩ = some (.func (.func fn) #[] #[cv]) := new_cell _ _ _
    go_enter Tryz.func69, Tryz.ntmps69
    go_wp2_with fail
    refine HF.out.mono ?_
    rintro e w' ⟨rfl, m', rfl⟩
    go_wp2_with fail
    go_ret
    exact ⟨rfl, m', rfl⟩
  have hR' : Rd (w.alloc (.cells #[.func (.func fn) #[] #[cv]] 78)) A (iv xs) := hR.alloc _
  have HC := Lib.hid (containsFunc_any A n c xs _ _ _ _ (fun args w => Tryz.call69 args w) hn hsm hR' key)
  have e : (!(xs.any fun x => !(p x))) = xs.all p := by simp [List.all_eq_not_any_not]
  have HE := Lib.hid e; clear e key hR' hR hf hn hsm
  go_enter Tryz.func46, Tryz.ntmps46
  go_wp2_with (go_at_call 68; refine HC.out.mono ?_; rintro e w' ⟨rfl, m', rfl⟩)
  go_ret
  exact ⟨by rw [← HE.out]; rfl, below_drewN ((Below.refl _ _).alloc (Nat.le_refl _) _) m'⟩
/-- .. of a function that holds nothing -/
def Asks0 (P : Program) (fn : FuncId) (w : World) (x : Value) (b : Bool) : Prop :=
  ∀ m, Calls P fn #[x] (w.drewN m) fun e w' => e = .returned (.bool b) ∧ ∃ m', w.drewN m' = w'
set_option maxHeartbeats 400000 in
/-- all(list, holds), 'holds' a function that only looks. -/
theorem all0_any (A : Option Addr) (n c : Nat) (xs : List Int) (fn : FuncId) (p : Int → Bool) (w : World) (hcf : Ent fn) (hn : n = xs.length) (hsm : n ≤ 1099511627776) (hR : Rd w A (iv xs))
    (hf : ∀ x ∈ xs, ∀ o, Asks0 Tryz.prog fn (w.alloc o) (.int .i64 x) (p x)) :
    Calls Tryz.prog 46 #[.slice A n c, .func (.func fn) #[] #[]] w fun e w' =>
      e = .returned (.bool (xs.all p)) ∧ Below w.heap.size w w' := by
  have key : ∀ x ∈ xs, Asks Tryz.prog 69 (.pointer (some ⟨w.heap.size, 0, none⟩)) (w.alloc (.cells #[.func (.func fn) #[] #[]] 78)) (.int .i64 x) (!(p x)) := by
    intro x hx m
    have HF := Lib.hid (hf x hx (.cells #[.func (.func fn) #[] #[]] 78) m)
    clear hf hR
    unfold Ent at hcf
    have hc : (w.alloc (.cells #[.func (.func fn) #[] #[]] 78)).cell? ⟨w.heap.size, 0, none⟩ = some (.func (.func fn) #[] #[]) := new_cell _ _ _
    go_enter Tryz.func69, Tryz.ntmps69
    go_wp2_with fail
    refine HF.out.mono ?_
    rintro e w' ⟨rfl, m', rfl⟩
    go_wp2_with fail
    go_ret
    exact ⟨rfl, m', rfl⟩
  have hR' : Rd (w.alloc (.cells #[.func (.func fn) #[] #[]] 78)) A (iv xs) := hR.alloc _
  have HC := Lib.hid (containsFunc_any A n c xs _ _ _ _ (fun args w => Tryz.call69 args w) hn hsm hR' key)
  have e : (!(xs.any fun x => !(p x))) = xs.all p := by simp [List.all_eq_not_any_not]
  have HE := Lib.hid e; clear e key hR' hR hf hn hsm
  go_enter Tryz.func46, Tryz.ntmps46
  go_wp2_with (go_at_call 68; refine HC.out.mono ?_; rintro e w' ⟨rfl, m', rfl⟩)
  go_ret
  exact ⟨by rw [← HE.out]; rfl, below_drewN ((Below.refl _ _).alloc (Nat.le_refl _) _) m'⟩
end Go.Proofs.YtocllmhkppkfoaaGreatDoor

namespace Go.Proofs.YtocllmhkppkfoaaGreatDoor
open Go.RowKit

def szV (n : Nat) (left : Int) : Int := if left - n < 0 then -1 else left - n
theorem szInts_any (A : Option Addr) (n c : Nat) (left : Int) (w : World) (hsm : n ≤ 9223372036854775807) (h0 : 0 ≤ left) (h1 : left ≤ 1048576) :
    Calls Tryz.prog 9 #[.slice A n c, .int .i64 left] w fun e w' => e = .returned (.int .i64 (szV n left)) ∧ w = w' := by
  by_cases h : left - n < 0
  · have HE : Hid (szV n left = -1) := by show _ = _; unfold szV; rw [if_pos h]
    go_enter Tryz.func9, Tryz.ntmps9
    go_wp2
    go_ret
    exact ⟨by rw [HE.out]; rfl, rfl⟩
  · have HE : Hid (szV n left = left - n) := by show _ = _; unfold szV; rw [if_neg h]
    go_enter Tryz.func9, Tryz.ntmps9
    go_wp2
    go_ret
    exact ⟨by rw [HE.out]; rfl, rfl⟩

theorem iv_set (xs : List Int) (k : Nat) (x : Int) : iv (xs.set k x) = (iv xs).set k (.int .i64 x) := by simp [iv, List.map_set]
theorem take_set_succ {ys xs : List Int} {k : Nat} (hk : k < ys.length) (hk' : k < xs.length) (h : ys.take k = xs.take k) : (ys.set k (xs.getD k 0)).take (k + 1) = xs.take (k + 1) := by
  rw [List.take_succ_eq_append_getElem (by simpa using hk), List.take_succ_eq_append_getElem hk', List.take_set, List.set_eq_of_length_le (by simp; omega), h]
  simp [List.getD, hk']

theorem iv_replicate (n : Nat) : (madeCells #[Value.int .i64 0] n).toList = iv (List.replicate n 0) := by
  simp [iv, madeCells]
  apply List.ext_getElem?
  intro i
  by_cases h : i < n
  · simp [h, Nat.mod_one]
  · simp [h]

set_option maxRecDepth 100000 in
set_option maxHeartbeats 1000000 in
theorem toInts_any (A : Option Addr) (n c : Nat) (xs : List Int) (w : World) (hn : n = xs.length) (hsm : n ≤ 1048576) (hR : Rd w A (iv xs)) :
    Calls Tryz.prog 12 #[.slice A n c] w fun e w' => ∃ g, e = .returned (.slice (some ⟨g, 0, none⟩) n n) ∧ w'.ownsRow w.heap.size 2 1 (.slice (some ⟨g, 0, none⟩) n n) n (iv xs) ∧ Below w.heap.size w w' := by
  obtain ⟨i0, hi0, hz0, hz1, hz2⟩ := info_parts infoI
  have Hn := Lib.hid hn
  have HR := Lib.hid hR
  clear hn hR
  go_enter Tryz.func12, Tryz.ntmps12
  go_wp2_with (at_make; refine wpList_make_full _ rfl _ _ 22 rfl w.heap.size 2 i0 _ 1 Tryz.underlying22 hi0 hz0 hz1 _ _ _ _ n rfl rfl rfl rfl ?b1 ?b2 ?b3 ?_)
  case b1 => rw [hz2]; omega
  case b2 => unfold maxLen; omega
  case b3 => exact Nat.le_refl _
  intro w1 hown hgrow
  have HG := Lib.hid (Below.grown (Below.refl w.heap.size w) hgrow (Nat.le_refl _) (by intro k h; cases h))
  have HO : Hid (w1.ownsRow w.heap.size 2 1 (.slice (some ⟨w.heap.size, 0, none⟩) n n) n (iv (List.replicate n 0))) := by rw [← iv_replicate]; exact hown
  clear hown hgrow hi0 hz0 hz1 hz2
  go_wp2_with fail
  go_loopw [4] (fun i wr => ∃ k : Nat, k ≤ n ∧ i = .int .i64 k ∧ (∃ ys : List Int, ys.length = n ∧ ys.take k = xs.take k ∧ wr.ownsRow w.heap.size 2 1 (.slice (some ⟨w.heap.size, 0, none⟩) n n) n (iv ys)) ∧ Below w.heap.size w wr) (fun i _ => n - (intOf i).toNat)
  case atStart => exact ⟨0, by omega, rfl, ⟨_, by simp, by simp, HO.out⟩, HG.out⟩
  case round =>
    obtain ⟨k, hk, rfl, ⟨ys, hyl, hyt, hown⟩, hbel⟩ := hrel
    have hsz : w.heap.size ≤ wr.heap.size := hbel.size
    by_cases hlt : k < n
    · have hkL : k < xs.length := by rw [← Hn.out]; exact hlt
      obtain ⟨b, o, rfl, hc⟩ := (HR.out.below hbel).atI hkL
      have hcell : wr.cell? ⟨w.heap.size, k, none⟩ = some (.int .i64 (ys.getD k 0)) := by
        rw [hown.cellAt k (by omega)]; simp [iv, List.getD, show k < ys.length by omega]
      have hfz := hown.frozenAt k
      have HT := Lib.hid (take_set_succ (by omega) hkL hyt)
      generalize xs.getD k 0 = x at *
      generalize ys.getD k 0 = y at *
      have HO := Lib.hid hown
      have HB := Lib.hid hbel
      have HY := Lib.hid hyl
      clear hown hbel hyl hyt
      go_wp2_with fail
      go_roundw
      case rel =>
        refine ⟨k + 1, by omega, by go_num, ⟨ys.set k x, by rw [List.length_set]; exact HY.out, HT.out, ?_⟩, HB.out.setCell (p := ⟨w.heap.size, k, none⟩) (Nat.le_refl _) _⟩
        rw [iv_set]; exact (World.ownsRow.stored HO.out k _).1
      case measure => simp [intOf]; omega
    · have ek : xs.take k = xs := List.take_of_length_le (by rw [← Hn.out]; omega)
      have ek2 : ys.take k = ys := List.take_of_length_le (by omega)
      have e : ys = xs := by rw [← ek, ← ek2]; exact hyt
      rw [e] at hown
      have HO := Lib.hid hown
      have HB := Lib.hid hbel
      clear hown hbel e hyt hyl ek ek2
      go_wp2_with fail
      go_ret
      exact ⟨w.heap.size, rfl, HO.out, HB.out⟩
end Go.Proofs.YtocllmhkppkfoaaGreatDoor

namespace Go.Proofs.YtocllmhkppkfoaaGreatDoor
open Go.RowKit

/-- two lists of ints are equal -/
def eqI (xs ys : List Int) : Bool := xs == ys
set_option maxHeartbeats 1000000 in
theorem eqInts_any (A A' : Option Addr) (n n' c c' : Nat) (xs ys : List Int) (w : World) (hn : n = xs.length) (hn' : n' = ys.length) (hsm : n ≤ 1099511627776) (hsm' : n' ≤ 1099511627776) (hR : Rd w A (iv xs)) (hR' : Rd w A' (iv ys)) :
    Calls Tryz.prog 15 #[.slice A n c, .slice A' n' c'] w fun e w' => e = .returned (.bool (eqI xs ys)) ∧ ∃ m, w.drewN m = w' := by
  by_cases hl : n = n'
  · subst hl
    have Hn := Lib.hid hn
    have Hn' := Lib.hid hn'
    clear hn hn'
    go_enter Tryz.func15, Tryz.ntmps15
    go_wp2_with fail
    go_loopw [5] (fun i wr => ∃ k : Nat, k ≤ n ∧ i = .int .i64 k ∧ (∃ m, wr = w.drewN m) ∧ xs.take k = ys.take k) (fun i _ => n - (intOf i).toNat)
    case atStart => exact ⟨0, by omega, rfl, ⟨0, rfl⟩, by simp⟩
    case round =>
      obtain ⟨k, hk, rfl, ⟨m, rfl⟩, hp⟩ := hrel
      have HP := Lib.hid hp; clear hp
      by_cases hlt : k < n
      · have hkL : k < xs.length := by rw [← Hn.out]; exact hlt
        have hkL' : k < ys.length := by rw [← Hn'.out]; exact hlt
        obtain ⟨b, o, rfl, hc⟩ := hR.atI hkL
        obtain ⟨b', o', rfl, hc'⟩ := hR'.atI hkL'
        have hx : xs[k] = xs.getD k 0 := by simp [List.getD, hkL]
        have hy : ys[k] = ys.getD k 0 := by simp [List.getD, hkL']
        have HX := Lib.hid hx; have HY := Lib.hid hy; clear hx hy hR hR'
        generalize xs.getD k 0 = x at *
        generalize ys.getD k 0 = y at *
        by_cases hxy : x = y
        · subst hxy
          go_wp2_with fail
          go_quiet (fail)
          go_wp2_with fail
          go_roundw
          case rel => exact ⟨k + 1, by omega, by go_num, ⟨_, rfl⟩, by rw [List.take_succ_eq_append_getElem hkL, List.take_succ_eq_append_getElem hkL', HP.out, HX.out, HY.out]⟩
          case measure => simp [intOf]; omega
        · have hb : (x != y) = true := by simpa using hxy
          have HXY := Lib.hid hxy; clear hxy
          go_wp2_with fail
          go_quiet (fail)
          go_wp2_with fail
          go_ret
          have e : eqI xs ys = false := by
            unfold eqI
            rw [beq_eq_false_iff_ne]
            intro e; subst e
            exact HXY.out (HX.out.symm.trans HY.out)
          exact ⟨by rw [e]; rfl, m + nq, by rw [World.drewN_drewN]⟩
      · have ek : xs.take k = xs := List.take_of_length_le (by rw [← Hn.out]; omega)
        have ek' : ys.take k = ys := List.take_of_length_le (by rw [← Hn'.out]; omega)
        have e : eqI xs ys = true := by
          unfold eqI; rw [beq_iff_eq, ← ek, ← ek']; exact HP.out
        have HE := Lib.hid e; clear e ek ek'
        go_wp2_with fail
        go_ret
        exact ⟨by rw [HE.out]; rfl, m, rfl⟩
  · have e : eqI xs ys = false := by
      unfold eqI; rw [beq_eq_false_iff_ne]; intro e; subst e; omega
    have hb : ((n : Int) != (n' : Int)) = true := by simp; omega
    have HE := Lib.hid e; clear e hn hn' hl hR hR'
    go_enter Tryz.func15, Tryz.ntmps15
    go_wp2_with fail
    go_ret
    exact ⟨by rw [HE.out]; rfl, 0, rfl⟩
end Go.Proofs.YtocllmhkppkfoaaGreatDoor

namespace Go.Proofs.YtocllmhkppkfoaaGreatDoor
open Go.RowKit

/-- what a mark leaves in a slice of n elements -/
def marks (k : Int) (n : Nat) : List Int := (List.range n).map fun (i : Nat) => k + (i : Int)
theorem marks_length (k : Int) (n : Nat) : (marks k n).length = n := by simp [marks]
theorem marks_getD (k : Int) (n j : Nat) (h : j < n) : (marks k n).getD j 0 = k + j := by simp [marks, List.getD, h]

end Go.Proofs.YtocllmhkppkfoaaGreatDoor
