/- predicates: in, isMask, all, IsMatrix and the reference's l01In, l02Is -/
import Derived.Test.YtocllmhkppkfoaaLib
import Derived.Test.YtocllmhkppkfoaaP
namespace Go.Proofs.Ytocllmhkppkfoaa
open Go.RowKit

def inB (n lo hi : Int) : Bool := decide (lo ≤ n) && decide (n ≤ hi)
theorem in_any (n lo hi : Int) (w : World) : Calls Try.prog 40 #[.int .i64 n, .int .i64 lo, .int .i64 hi] w fun e w' => e = .returned (.bool (inB n lo hi)) ∧ w = w' := by
  by_cases h1 : lo ≤ n
  · by_cases h2 : n ≤ hi
    · go_enter Try.func40, Try.ntmps40
      go_wp2
      go_ret
      exact ⟨by simp [inB, h1, h2], rfl⟩
    · go_enter Try.func40, Try.ntmps40
      go_wp2
      go_ret
      exact ⟨by simp [inB, h1, h2], rfl⟩
  · go_enter Try.func40, Try.ntmps40
    go_wp2
    go_ret
    exact ⟨by rw [show inB n lo hi = false by simp [inB]; omega]; rfl, rfl⟩
theorem l01In_any (n lo hi : Int) (w : World) : Calls Try.prog 38 #[.int .i64 n, .int .i64 lo, .int .i64 hi] w fun e w' => e = .returned (.bool (inB n lo hi)) ∧ w = w' := by
  by_cases h1 : lo ≤ n
  · by_cases h2 : n ≤ hi
    · go_enter Try.func38, Try.ntmps38
      go_wp2
      go_ret
      exact ⟨by simp [inB, h1, h2], rfl⟩
    · go_enter Try.func38, Try.ntmps38
      go_wp2
      go_ret
      exact ⟨by simp [inB, h1, h2], rfl⟩
  · go_enter Try.func38, Try.ntmps38
    go_wp2
    go_ret
    exact ⟨by rw [show inB n lo hi = false by simp [inB]; omega]; rfl, rfl⟩

/-- is v a mask of d digits? -/
def maskB (v : Int) (d : Nat) : Bool := inB v 0 (2 ^ d - 1)
theorem maskB_iff (v : Int) (d : Nat) : (decide (0 ≤ v) && (v / 2 ^ d == 0)) = maskB v d := by
  have hp : (0 : Int) < 2 ^ d := Int.pow_pos (by decide)
  unfold maskB inB
  by_cases h : 0 ≤ v
  · have : (v / 2 ^ d == 0) = decide (v ≤ 2 ^ d - 1) := by
      rw [Bool.eq_iff_iff]
      simp only [beq_iff_eq, decide_eq_true_eq]
      constructor
      · intro e
        have := fun h' => Int.le_ediv_of_mul_le (a := 1) (b := v) hp h'
        omega
      · intro e; exact Int.ediv_eq_zero_of_lt h (by omega)
    rw [this]
  · simp [h]
theorem all_getD {xs : List Int} {p : Int → Bool} : xs.all p = true ↔ ∀ t, t < xs.length → p (xs.getD t 0) = true := by
  rw [List.all_eq_true]
  constructor
  · intro h t ht
    exact h _ (by simp [List.getD, ht])
  · intro h x hx
    obtain ⟨t, ht, rfl⟩ := List.getElem_of_mem hx
    have := h t ht
    simpa [List.getD, ht] using this
theorem inB_true2 {n lo hi : Int} (h : inB n lo hi = true) : lo ≤ n ∧ n ≤ hi := by simpa [inB] using h
/-- Calling function fn by its value enters it. -/
def Ent (fn : FuncId) : Prop := ∀ args w, (callFunc fn args).run Try.prog w = .ok (.enter fn args) w
/-- a found place as Go returns it -/
def placeOf (o : Option Nat) : Int := match o with | some k => (k : Int) | none => -1
/-- What a predicate's closure answers, the world being as it was but for draws. -/
def Asks (P : Program) (fn : FuncId) (cv : Value) (w : World) (x : Value) (b : Bool) : Prop :=
  ∀ m, Calls P fn #[x, cv] (w.drewN m) fun e w' => e = .returned (.bool b) ∧ ∃ m', w.drewN m' = w'

set_option maxHeartbeats 400000 in
theorem indexFunc_any (A : Option Addr) (n c : Nat) (xs : List Int) (fn : FuncId) (cv : Value) (p : Int → Bool) (w : World) (hcf : Ent fn) (hn : n = xs.length) (hsm : n ≤ 1099511627776) (hR : Rd w A (iv xs))
    (hf : ∀ x ∈ xs, Asks Try.prog fn cv w (.int .i64 x) (p x)) :
    Calls Try.prog 86 #[.slice A n c, .func (.func fn) #[] #[cv]] w fun e w' =>
      e = .returned (.int .i64 (placeOf (xs.findIdx? p))) ∧ ∃ m, w.drewN m = w' := by
  have Hn := Lib.hid hn; clear hn
  have HF := Lib.hid hf; clear hf
  unfold Ent at hcf
  go_enter Try.func86, Try.ntmps86
  go_wp2_with fail
  go_loopw [8] (fun i wr => ∃ k : Nat, k ≤ n ∧ i = .int .i64 k ∧ (∃ m, wr = w.drewN m) ∧ (xs.take k).findIdx? p = none) (fun i _ => n - (intOf i).toNat)
  case atStart => exact ⟨0, by omega, rfl, ⟨0, rfl⟩, by simp⟩
  case round =>
    obtain ⟨k, hk, rfl, ⟨m, rfl⟩, hp⟩ := hrel
    have HP := Lib.hid hp; clear hp
    by_cases hlt : k < n
    · have hkL : k < xs.length := by rw [← Hn.out]; exact hlt
      obtain ⟨b, o, rfl, hc⟩ := hR.atI hkL
      have hm : xs.getD k 0 ∈ xs := by simp [List.getD, hkL]
      have ha := HF.out _ hm m
      have hx : xs[k] = xs.getD k 0 := by simp [List.getD, hkL]
      have HX := Lib.hid hx; clear hx hm hR
      generalize xs.getD k 0 = x at *
      have HA := Lib.hid ha; clear ha
      cases hb : p x
      · rw [hb] at HA
        go_wp2_with fail
        refine HA.out.mono ?_
        rintro e w' ⟨rfl, m', rfl⟩
        go_wp2_with fail
        go_roundw
        case rel => exact ⟨k + 1, by omega, by go_num, ⟨m', rfl⟩, by rw [List.take_succ_eq_append_getElem hkL, List.findIdx?_append, HP.out, HX.out]; simp [hb]⟩
        case measure => simp [intOf]; omega
      · rw [hb] at HA
        go_wp2_with fail
        refine HA.out.mono ?_
        rintro e w' ⟨rfl, m', rfl⟩
        go_wp2_with fail
        go_ret
        refine ⟨?_, m', rfl⟩
        have e : xs.findIdx? p = some k := by
          rw [← List.take_append_drop k xs, List.findIdx?_append, HP.out, List.drop_eq_getElem_cons hkL, HX.out]
          simp [hb, Nat.min_eq_left (Nat.le_of_lt hkL), List.findIdx?_cons]
        rw [e]
        rfl
    · have ek : xs.take k = xs := List.take_of_length_le (by rw [← Hn.out]; omega)
      go_wp2_with fail
      go_ret
      refine ⟨?_, m, rfl⟩
      have e : xs.findIdx? p = none := by rw [← ek, HP.out]
      rw [e]
      rfl

theorem findIdx_none {α : Type} (p : α → Bool) (xs : List α) : (xs.findIdx? p = none) = (∀ x ∈ xs, p x = false) := by
  simp

set_option maxHeartbeats 400000 in
theorem containsFunc_any (A : Option Addr) (n c : Nat) (xs : List Int) (fn : FuncId) (cv : Value) (p : Int → Bool) (w : World) (hcf : Ent fn) (hn : n = xs.length) (hsm : n ≤ 1099511627776) (hR : Rd w A (iv xs))
    (hf : ∀ x ∈ xs, Asks Try.prog fn cv w (.int .i64 x) (p x)) :
    Calls Try.prog 65 #[.slice A n c, .func (.func fn) #[] #[cv]] w fun e w' =>
      e = .returned (.bool (xs.any p)) ∧ ∃ m, w.drewN m = w' := by
  have HC := Lib.hid (indexFunc_any A n c xs fn cv p w hcf hn hsm hR hf)
  clear hn hR hf hsm
  cases h : xs.findIdx? p with
  | none =>
    rw [h] at HC
    have e : xs.any p = false := by rw [List.any_eq_false]; rw [findIdx_none] at h; simpa using h
    have HE := Lib.hid e; clear e h
    go_enter Try.func65, Try.ntmps65
    go_wp2_with (go_at_call 86; refine HC.out.mono ?_; rintro e w' ⟨rfl, m', rfl⟩)
    go_ret
    exact ⟨by rw [HE.out]; rfl, m', rfl⟩
  | some k =>
    rw [h] at HC
    have e : xs.any p = true := by
      cases ha : xs.any p with
      | true => rfl
      | false =>
        rw [List.any_eq_false] at ha
        have : xs.findIdx? p = none := by rw [findIdx_none]; simpa using ha
        rw [this] at h; cases h
    have HE := Lib.hid e; clear e h
    have hk : ¬ (k : Int) < 0 := by omega
    go_enter Try.func65, Try.ntmps65
    go_wp2_with (go_at_call 86; refine HC.out.mono ?_; rintro e w' ⟨rfl, m', rfl⟩)
    go_ret
    exact ⟨by rw [HE.out]; simp [placeOf], m', rfl⟩

set_option maxHeartbeats 400000 in
/-- all(list, holds), 'holds' a closure that only looks. -/
theorem all_any (A : Option Addr) (n c : Nat) (xs : List Int) (fn : FuncId) (cv : Value) (p : Int → Bool) (w : World) (hcf : Ent fn) (hn : n = xs.length) (hsm : n ≤ 1099511627776) (hR : Rd w A (iv xs))
    (hf : ∀ x ∈ xs, ∀ o, Asks Try.prog fn cv (w.alloc o) (.int .i64 x) (p x)) :
    Calls Try.prog 41 #[.slice A n c, .func (.func fn) #[] #[cv]] w fun e w' =>
      e = .returned (.bool (xs.all p)) ∧ Below w.heap.size w w' := by
  have key : ∀ x ∈ xs, Asks Try.prog 66 (.pointer (some ⟨w.heap.size, 0, none⟩)) (w.alloc (.cells #[.func (.func fn) #[] #[cv]] 61)) (.int .i64 x) (!(p x)) := by
    intro x hx m
    have HF := Lib.hid (hf x hx (.cells #[.func (.func fn) #[] #[cv]] 61) m)
    clear hf hR
    unfold Ent at hcf
    have hc : (w.alloc (.cells #[.func (.func fn) #[] #[cv]] 61)).cell? ⟨w.heap.size, 0, none⟩ = some (.func (.func fn) #[] #[cv]) := new_cell _ _ _
    go_enter Try.func66, Try.ntmps66
    go_wp2_with fail
    refine HF.out.mono ?_
    rintro e w' ⟨rfl, m', rfl⟩
    go_wp2_with fail
    go_ret
    exact ⟨rfl, m', rfl⟩
  have hR' : Rd (w.alloc (.cells #[.func (.func fn) #[] #[cv]] 61)) A (iv xs) := hR.alloc _
  have HC := Lib.hid (containsFunc_any A n c xs _ _ _ _ (fun args w => Try.call66 args w) hn hsm hR' key)
  have e : (!(xs.any fun x => !(p x))) = xs.all p := by simp [List.all_eq_not_any_not]
  have HE := Lib.hid e; clear e key hR' hR hf hn hsm
  go_enter Try.func41, Try.ntmps41
  go_wp2_with (go_at_call 65; refine HC.out.mono ?_; rintro e w' ⟨rfl, m', rfl⟩)
  go_ret
  exact ⟨by rw [← HE.out]; rfl, below_drewN ((Below.refl _ _).alloc (Nat.le_refl _) _) m'⟩
/-- .. of a function that holds nothing -/
def Asks0 (P : Program) (fn : FuncId) (w : World) (x : Value) (b : Bool) : Prop :=
  ∀ m, Calls P fn #[x] (w.drewN m) fun e w' => e = .returned (.bool b) ∧ ∃ m', w.drewN m' = w'
set_option maxHeartbeats 400000 in
/-- all(list, holds), 'holds' a function that only looks. -/
theorem all0_any (A : Option Addr) (n c : Nat) (xs : List Int) (fn : FuncId) (p : Int → Bool) (w : World) (hcf : Ent fn) (hn : n = xs.length) (hsm : n ≤ 1099511627776) (hR : Rd w A (iv xs))
    (hf : ∀ x ∈ xs, ∀ o, Asks0 Try.prog fn (w.alloc o) (.int .i64 x) (p x)) :
    Calls Try.prog 41 #[.slice A n c, .func (.func fn) #[] #[]] w fun e w' =>
      e = .returned (.bool (xs.all p)) ∧ Below w.heap.size w w' := by
  have key : ∀ x ∈ xs, Asks Try.prog 66 (.pointer (some ⟨w.heap.size, 0, none⟩)) (w.alloc (.cells #[.func (.func fn) #[] #[]] 61)) (.int .i64 x) (!(p x)) := by
    intro x hx m
    have HF := Lib.hid (hf x hx (.cells #[.func (.func fn) #[] #[]] 61) m)
    clear hf hR
    unfold Ent at hcf
    have hc : (w.alloc (.cells #[.func (.func fn) #[] #[]] 61)).cell? ⟨w.heap.size, 0, none⟩ = some (.func (.func fn) #[] #[]) := new_cell _ _ _
    go_enter Try.func66, Try.ntmps66
    go_wp2_with fail
    refine HF.out.mono ?_
    rintro e w' ⟨rfl, m', rfl⟩
    go_wp2_with fail
    go_ret
    exact ⟨rfl, m', rfl⟩
  have hR' : Rd (w.alloc (.cells #[.func (.func fn) #[] #[]] 61)) A (iv xs) := hR.alloc _
  have HC := Lib.hid (containsFunc_any A n c xs _ _ _ _ (fun args w => Try.call66 args w) hn hsm hR' key)
  have e : (!(xs.any fun x => !(p x))) = xs.all p := by simp [List.all_eq_not_any_not]
  have HE := Lib.hid e; clear e key hR' hR hf hn hsm
  go_enter Try.func41, Try.ntmps41
  go_wp2_with (go_at_call 65; refine HC.out.mono ?_; rintro e w' ⟨rfl, m', rfl⟩)
  go_ret
  exact ⟨by rw [← HE.out]; rfl, below_drewN ((Below.refl _ _).alloc (Nat.le_refl _) _) m'⟩
end Go.Proofs.Ytocllmhkppkfoaa
