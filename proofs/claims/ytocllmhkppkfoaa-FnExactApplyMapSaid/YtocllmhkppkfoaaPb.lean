/- slices.IndexFunc, ContainsFunc and impl's all over rows of rows -/
import Derived.Test.YtocllmhkppkfoaaRw
import Derived.Test.YtocllmhkppkfoaaD
namespace Go.Proofs.Ytocllmhkppkfoaa
open Go.RowKit

set_option maxHeartbeats 400000 in
theorem indexFuncR_any (A : Option Addr) (n c : Nat) (L : List Row) (fn : FuncId) (cv : Value) (p : Row → Bool) (w : World) (hcf : Ent fn) (hn : n = L.length) (hsm : n ≤ 1099511627776) (hR : Rd w A (hv L))
    (hf : ∀ r ∈ L, Asks Try.prog fn cv w r.val (p r)) :
    Calls Try.prog 120 #[.slice A n c, .func (.func fn) #[] #[cv]] w fun e w' =>
      e = .returned (.int .i64 (placeOf (L.findIdx? p))) ∧ ∃ m, w.drewN m = w' := by
  have Hn := Lib.hid hn; clear hn
  have HF := Lib.hid hf; clear hf
  have HR := Lib.hid hR; clear hR
  unfold Ent at hcf
  go_enter Try.func120, Try.ntmps120
  go_wp2_with fail
  go_loopw [8] (fun i wr => ∃ k : Nat, k ≤ n ∧ i = .int .i64 k ∧ (∃ m, wr = w.drewN m) ∧ (L.take k).findIdx? p = none) (fun i _ => n - (intOf i).toNat)
  case atStart => exact ⟨0, by omega, rfl, ⟨0, rfl⟩, by simp⟩
  case round =>
    obtain ⟨k, hk, rfl, ⟨m, rfl⟩, hp⟩ := hrel
    have HP := Lib.hid hp; clear hp
    by_cases hlt : k < n
    · have hkL : k < L.length := by rw [← Hn.out]; exact hlt
      obtain ⟨b, o, rfl, hc⟩ : ∃ b o, A = some ⟨b, o, none⟩ ∧ w.cell? ⟨b, o + k, none⟩ = some (rg L k).val := by
        rcases HR.out with h' | ⟨b, o, rfl, h'⟩
        · have := congrArg List.length h'; simp [hv_length] at this; subst this; simp at hkL
        · exact ⟨b, o, rfl, h' k _ (hv_get hkL)⟩
      have ha := HF.out _ (rg_mem hkL) m
      have HX := Lib.hid (rg_of hkL)
      generalize rg L k = x at *
      have HA := Lib.hid ha; clear ha
      generalize hv : x.val = v at *
      clear hv
      cases hb : p x
      · rw [hb] at HA
        go_wp2_with fail
        refine HA.out.mono ?_
        rintro e w' ⟨rfl, m', rfl⟩
        go_wp2_with fail
        go_roundw
        case rel => exact ⟨k + 1, by omega, by go_num, ⟨m', rfl⟩, by rw [List.take_succ_eq_append_getElem hkL, List.findIdx?_append, HP.out, ← HX.out]; simp [hb]⟩
        case measure => simp [intOf]; omega
      · rw [hb] at HA
        go_wp2_with fail
        refine HA.out.mono ?_
        rintro e w' ⟨rfl, m', rfl⟩
        go_wp2_with fail
        go_ret
        refine ⟨?_, m', rfl⟩
        have e : L.findIdx? p = some k := by
          rw [← List.take_append_drop k L, List.findIdx?_append, HP.out, List.drop_eq_getElem_cons hkL, ← HX.out]
          simp [hb, Nat.min_eq_left (Nat.le_of_lt hkL), List.findIdx?_cons]
        rw [e]
        rfl
    · have ek : L.take k = L := List.take_of_length_le (by rw [← Hn.out]; omega)
      go_wp2_with fail
      go_ret
      refine ⟨?_, m, rfl⟩
      have e : L.findIdx? p = none := by rw [← ek, HP.out]
      rw [e]
      rfl

set_option maxHeartbeats 400000 in
theorem containsFuncR_any (A : Option Addr) (n c : Nat) (L : List Row) (fn : FuncId) (cv : Value) (p : Row → Bool) (w : World) (hcf : Ent fn) (hn : n = L.length) (hsm : n ≤ 1099511627776) (hR : Rd w A (hv L))
    (hf : ∀ r ∈ L, Asks Try.prog fn cv w r.val (p r)) :
    Calls Try.prog 112 #[.slice A n c, .func (.func fn) #[] #[cv]] w fun e w' =>
      e = .returned (.bool (L.any p)) ∧ ∃ m, w.drewN m = w' := by
  have HC := Lib.hid (indexFuncR_any A n c L fn cv p w hcf hn hsm hR hf)
  clear hn hR hf hsm
  cases h : L.findIdx? p with
  | none =>
    rw [h] at HC
    have e : L.any p = false := by rw [List.any_eq_false]; rw [findIdx_none] at h; simpa using h
    have HE := Lib.hid e; clear e h
    go_enter Try.func112, Try.ntmps112
    go_wp2_with (go_at_call 120; refine HC.out.mono ?_; rintro e w' ⟨rfl, m', rfl⟩)
    go_ret
    exact ⟨by rw [HE.out]; rfl, m', rfl⟩
  | some k =>
    rw [h] at HC
    have e : L.any p = true := by
      cases ha : L.any p with
      | true => rfl
      | false =>
        rw [List.any_eq_false] at ha
        have : L.findIdx? p = none := by rw [findIdx_none]; simpa using ha
        rw [this] at h; cases h
    have HE := Lib.hid e; clear e h
    have hk : ¬ (k : Int) < 0 := by omega
    go_enter Try.func112, Try.ntmps112
    go_wp2_with (go_at_call 120; refine HC.out.mono ?_; rintro e w' ⟨rfl, m', rfl⟩)
    go_ret
    exact ⟨by rw [HE.out]; simp [placeOf], m', rfl⟩

/-- What a predicate's closure of several captured variables answers. -/
def AsksN (P : Program) (fn : FuncId) (cvs : Array Value) (w : World) (x : Value) (b : Bool) : Prop :=
  ∀ m, Calls P fn (#[x] ++ cvs) (w.drewN m) fun e w' => e = .returned (.bool b) ∧ ∃ m', w.drewN m' = w'
set_option maxHeartbeats 400000 in
/-- all(lists, holds), 'holds' a closure that only looks. -/
theorem allR_any (A : Option Addr) (n c : Nat) (L : List Row) (fn : FuncId) (cvs : Array Value) (p : Row → Bool) (w : World) (hcf : Ent fn) (hn : n = L.length) (hsm : n ≤ 1099511627776) (hR : Rd w A (hv L))
    (hf : ∀ r ∈ L, ∀ o, AsksN Try.prog fn cvs (w.alloc o) r.val (p r)) :
    Calls Try.prog 101 #[.slice A n c, .func (.func fn) #[] cvs] w fun e w' =>
      e = .returned (.bool (L.all p)) ∧ Below w.heap.size w w' := by
  have key : ∀ r ∈ L, Asks Try.prog 113 (.pointer (some ⟨w.heap.size, 0, none⟩)) (w.alloc (.cells #[.func (.func fn) #[] cvs] 39)) r.val (!(p r)) := by
    intro r hr m
    have HF := Lib.hid (hf r hr (.cells #[.func (.func fn) #[] cvs] 39) m)
    clear hf hR
    unfold Ent at hcf
    have hc : (w.alloc (.cells #[.func (.func fn) #[] cvs] 39)).cell? ⟨w.heap.size, 0, none⟩ = some (.func (.func fn) #[] cvs) := new_cell _ _ _
    generalize r.val = v at *
    go_enter Try.func113, Try.ntmps113
    go_wp2_with fail
    refine HF.out.mono ?_
    rintro e w' ⟨rfl, m', rfl⟩
    go_wp2_with fail
    go_ret
    exact ⟨rfl, m', rfl⟩
  have hR' : Rd (w.alloc (.cells #[.func (.func fn) #[] cvs] 39)) A (hv L) := hR.alloc _
  have HC := Lib.hid (containsFuncR_any A n c L _ _ _ _ (fun args w => Try.call113 args w) hn hsm hR' key)
  have e : (!(L.any fun x => !(p x))) = L.all p := by simp [List.all_eq_not_any_not]
  have HE := Lib.hid e; clear e key hR' hR hf hn hsm
  go_enter Try.func101, Try.ntmps101
  go_wp2_with (go_at_call 112; refine HC.out.mono ?_; rintro e w' ⟨rfl, m', rfl⟩)
  go_ret
  exact ⟨by rw [← HE.out]; rfl, below_drewN ((Below.refl _ _).alloc (Nat.le_refl _) _) m'⟩
end Go.Proofs.Ytocllmhkppkfoaa
