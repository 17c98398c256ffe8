/- the laws' own helpers: sizes, copies, comparisons of slices of ints · the laws' own helpers at matrices · the laws' marks: markInt64S, heldInt64S, markMatrix, heldMatrix · rows of rows: slices of slices of ints -/
import Derived.Test.YtpchigdhnnkpcaaGreatDoorZaa
import Derived.Deep.Onto
namespace Go.Proofs.YtpchigdhnnkpcaaGreatDoor
open Go.RowKit

def szV (n : Nat) (left : Int) : Int := if left - n < 0 then -1 else left - n
theorem szInts_any (A : Option Addr) (n c : Nat) (left : Int) (w : World) (hsm : n ≤ 9223372036854775807) (h0 : 0 ≤ left) (h1 : left ≤ 1048576) :
    Calls Tryz.prog 37 #[.slice A n c, .int .i64 left] w fun e w' => e = .returned (.int .i64 (szV n left)) ∧ w = w' := by
  by_cases h : left - n < 0
  · have HE : Hid (szV n left = -1) := by show _ = _; unfold szV; rw [if_pos h]
    go_enter Tryz.func37, Tryz.ntmps37
    go_wp2
    go_ret
    exact ⟨by rw [HE.out]; rfl, rfl⟩
  · have HE : Hid (szV n left = left - n) := by show _ = _; unfold szV; rw [if_neg h]
    go_enter Tryz.func37, Tryz.ntmps37
    go_wp2
    go_ret
    exact ⟨by rw [HE.out]; rfl, rfl⟩

theorem iv_set (xs : List Int) (k : Nat) (x : Int) : iv (xs.set k x) = (iv xs).set k (.int .i64 x) := by simp [iv, List.map_set]
theorem take_set_succ {ys xs : List Int} {k : Nat} (hk : k < ys.length) (hk' : k < xs.length) (h : ys.take k = xs.take k) : (ys.set k (xs.getD k 0)).take (k + 1) = xs.take (k + 1) := by
  rw [List.take_succ_eq_append_getElem (by simpa using hk), List.take_succ_eq_append_getElem hk', List.take_set, List.set_eq_of_length_le (by simp; omega), h]
  simp [List.getD, hk']

theorem iv_replicate (n : Nat) : (madeCells #[Value.int .i64 0] n).toList = iv (List.replicate n 0) := by
  simp [iv, madeCells]
  apply List.ext_getElem?
  intro i
  by_cases h : i < n
  · simp [h, Nat.mod_one]
  · simp [h]

set_option maxRecDepth 100000 in
set_option maxHeartbeats 1000000 in
theorem toInts_any (A : Option Addr) (n c : Nat) (xs : List Int) (w : World) (hn : n = xs.length) (hsm : n ≤ 1048576) (hR : Rd w A (iv xs)) :
    Calls Tryz.prog 43 #[.slice A n c] w fun e w' => ∃ g, e = .returned (.slice (some ⟨g, 0, none⟩) n n) ∧ w'.ownsRow w.heap.size 2 1 (.slice (some ⟨g, 0, none⟩) n n) n (iv xs) ∧ Below w.heap.size w w' := by
  obtain ⟨i0, hi0, hz0, hz1, hz2⟩ := info_parts infoI
  have Hn := Lib.hid hn
  have HR := Lib.hid hR
  clear hn hR
  go_enter Tryz.func43, Tryz.ntmps43
  go_wp2_with (at_make; refine wpList_make_full _ rfl _ _ 22 rfl w.heap.size 2 i0 _ 1 Tryz.underlying22 hi0 hz0 hz1 _ _ _ _ n rfl rfl rfl rfl ?b1 ?b2 ?b3 ?_)
  case b1 => rw [hz2]; omega
  case b2 => unfold maxLen; omega
  case b3 => exact Nat.le_refl _
  intro w1 hown hgrow
  have HG := Lib.hid (Below.grown (Below.refl w.heap.size w) hgrow (Nat.le_refl _) (by intro k h; cases h))
  have HO : Hid (w1.ownsRow w.heap.size 2 1 (.slice (some ⟨w.heap.size, 0, none⟩) n n) n (iv (List.replicate n 0))) := by rw [← iv_replicate]; exact hown
  clear hown hgrow hi0 hz0 hz1 hz2
  go_wp2_with fail
  go_loopw [4] (fun i wr => ∃ k : Nat, k ≤ n ∧ i = .int .i64 k ∧ (∃ ys : List Int, ys.length = n ∧ ys.take k = xs.take k ∧ wr.ownsRow w.heap.size 2 1 (.slice (some ⟨w.heap.size, 0, none⟩) n n) n (iv ys)) ∧ Below w.heap.size w wr) (fun i _ => n - (intOf i).toNat)
  case atStart => exact ⟨0, by omega, rfl, ⟨_, by simp, by simp, HO.out⟩, HG.out⟩
  case round =>
    obtain ⟨k, hk, rfl, ⟨ys, hyl, hyt, hown⟩, hbel⟩ := hrel
    have hsz : w.heap.size ≤ wr.heap.size := hbel.size
    by_cases hlt : k < n
    · have hkL : k < xs.length := by rw [← Hn.out]; exact hlt
      obtain ⟨b, o, rfl, hc⟩ := (HR.out.below hbel).atI hkL
      have hcell : wr.cell? ⟨w.heap.size, k, none⟩ = some (.int .i64 (ys.getD k 0)) := by
        rw [hown.cellAt k (by omega)]; simp [iv, List.getD, show k < ys.length by omega]
      have hfz := hown.frozenAt k
      have HT := Lib.hid (take_set_succ (by omega) hkL hyt)
      generalize xs.getD k 0 = x at *
      generalize ys.getD k 0 = y at *
      have HO := Lib.hid hown
      have HB := Lib.hid hbel
      have HY := Lib.hid hyl
      clear hown hbel hyl hyt
      go_wp2_with fail
      go_roundw
      case rel =>
        refine ⟨k + 1, by omega, by go_num, ⟨ys.set k x, by rw [List.length_set]; exact HY.out, HT.out, ?_⟩, HB.out.setCell (p := ⟨w.heap.size, k, none⟩) (Nat.le_refl _) _⟩
        rw [iv_set]; exact (World.ownsRow.stored HO.out k _).1
      case measure => simp [intOf]; omega
    · have ek : xs.take k = xs := List.take_of_length_le (by rw [← Hn.out]; omega)
      have ek2 : ys.take k = ys := List.take_of_length_le (by omega)
      have e : ys = xs := by rw [← ek, ← ek2]; exact hyt
      rw [e] at hown
      have HO := Lib.hid hown
      have HB := Lib.hid hbel
      clear hown hbel e hyt hyl ek ek2
      go_wp2_with fail
      go_ret
      exact ⟨w.heap.size, rfl, HO.out, HB.out⟩
end Go.Proofs.YtpchigdhnnkpcaaGreatDoor

namespace Go.Proofs.YtpchigdhnnkpcaaGreatDoor
open Go.RowKit

/-- two lists of ints are equal -/
def eqI (xs ys : List Int) : Bool := xs == ys
set_option maxHeartbeats 1000000 in
theorem eqInts_any (A A' : Option Addr) (n n' c c' : Nat) (xs ys : List Int) (w : World) (hn : n = xs.length) (hn' : n' = ys.length) (hsm : n ≤ 1099511627776) (hsm' : n' ≤ 1099511627776) (hR : Rd w A (iv xs)) (hR' : Rd w A' (iv ys)) :
    Calls Tryz.prog 49 #[.slice A n c, .slice A' n' c'] w fun e w' => e = .returned (.bool (eqI xs ys)) ∧ ∃ m, w.drewN m = w' := by
  by_cases hl : n = n'
  · subst hl
    have Hn := Lib.hid hn
    have Hn' := Lib.hid hn'
    clear hn hn'
    go_enter Tryz.func49, Tryz.ntmps49
    go_wp2_with fail
    go_loopw [5] (fun i wr => ∃ k : Nat, k ≤ n ∧ i = .int .i64 k ∧ (∃ m, wr = w.drewN m) ∧ xs.take k = ys.take k) (fun i _ => n - (intOf i).toNat)
    case atStart => exact ⟨0, by omega, rfl, ⟨0, rfl⟩, by simp⟩
    case round =>
      obtain ⟨k, hk, rfl, ⟨m, rfl⟩, hp⟩ := hrel
      have HP := Lib.hid hp; clear hp
      by_cases hlt : k < n
      · have hkL : k < xs.length := by rw [← Hn.out]; exact hlt
        have hkL' : k < ys.length := by rw [← Hn'.out]; exact hlt
        obtain ⟨b, o, rfl, hc⟩ := hR.atI hkL
        obtain ⟨b', o', rfl, hc'⟩ := hR'.atI hkL'
        have hx : xs[k] = xs.getD k 0 := by simp [List.getD, hkL]
        have hy : ys[k] = ys.getD k 0 := by simp [List.getD, hkL']
        have HX := Lib.hid hx; have HY := Lib.hid hy; clear hx hy hR hR'
        generalize xs.getD k 0 = x at *
        generalize ys.getD k 0 = y at *
        by_cases hxy : x = y
        · subst hxy
          go_wp2_with fail
          go_quiet (fail)
          go_wp2_with fail
          go_roundw
          case rel => exact ⟨k + 1, by omega, by go_num, ⟨_, rfl⟩, by rw [List.take_succ_eq_append_getElem hkL, List.take_succ_eq_append_getElem hkL', HP.out, HX.out, HY.out]⟩
          case measure => simp [intOf]; omega
        · have hb : (x != y) = true := by simpa using hxy
          have HXY := Lib.hid hxy; clear hxy
          go_wp2_with fail
          go_quiet (fail)
          go_wp2_with fail
          go_ret
          have e : eqI xs ys = false := by
            unfold eqI
            rw [beq_eq_false_iff_ne]
            intro e; subst e
            exact HXY.out (HX.out.symm.trans HY.out)
          exact ⟨by rw [e]; rfl, m + nq, by rw [World.drewN_drewN]⟩
      · have ek : xs.take k = xs := List.take_of_length_le (by rw [← Hn.out]; omega)
        have ek' : ys.take k = ys := List.take_of_length_le (by rw [← Hn'.out]; omega)
        have e : eqI xs ys = true := by
          unfold eqI; rw [beq_iff_eq, ← ek, ← ek']; exact HP.out
        have HE := Lib.hid e; clear e ek ek'
        go_wp2_with fail
        go_ret
        exact ⟨by rw [HE.out]; rfl, m, rfl⟩
  · have e : eqI xs ys = false := by
      unfold eqI; rw [beq_eq_false_iff_ne]; intro e; subst e; omega
    have hb : ((n : Int) != (n' : Int)) = true := by simp; omega
    have HE := Lib.hid e; clear e hn hn' hl hR hR'
    go_enter Tryz.func49, Tryz.ntmps49
    go_wp2_with fail
    go_ret
    exact ⟨by rw [HE.out]; rfl, 0, rfl⟩
end Go.Proofs.YtpchigdhnnkpcaaGreatDoor

namespace Go.Proofs.YtpchigdhnnkpcaaGreatDoor
open Go.RowKit

/-- what a mark leaves in a slice of n elements -/
def marks (k : Int) (n : Nat) : List Int := (List.range n).map fun (i : Nat) => k + (i : Int)
theorem marks_length (k : Int) (n : Nat) : (marks k n).length = n := by simp [marks]
theorem marks_getD (k : Int) (n j : Nat) (h : j < n) : (marks k n).getD j 0 = k + j := by simp [marks, List.getD, h]

set_option maxHeartbeats 1000000 in
theorem markInts_any (B : Nat) (v : Value) (n : Nat) (xs : List Int) (k : Int) (w : World) (hown : w.ownsRow B 2 1 v n (iv xs)) (hsm : n ≤ 1099511627776) (h0 : 0 ≤ k) (h1 : k ≤ 1099511627776) :
    Calls Tryz.prog 50 #[v, .int .i64 k] w fun e w' => e = .returned (.int .i64 (k + n)) ∧ w'.ownsRow B 2 1 v n (iv (marks k n)) ∧ Keeps w w' [v.ownBlock] := by
  have hlx : xs.length = n := by have := hown.1; simpa [iv] using this
  obtain ⟨A, c, rfl, _, hA, _⟩ := owns_shape hown
  have HO := Lib.hid hown
  have HX := Lib.hid hlx
  have HA := Lib.hid hA
  clear hown hlx hA
  go_enter Tryz.func50, Tryz.ntmps50
  go_wp2_with fail
  go_loopw [1, 5] (fun q i wr => ∃ j : Nat, j ≤ n ∧ i = .int .i64 j ∧ q = .int .i64 (k + j) ∧ (∃ ys : List Int, ys.length = n ∧ ys.take j = (marks k n).take j ∧ wr.ownsRow B 2 1 (.slice A n c) n (iv ys)) ∧ Keeps w wr [(Value.slice A n c).ownBlock]) (fun _ i _ => n - (intOf i).toNat)
  case atStart => exact ⟨0, by omega, rfl, by simp, ⟨xs, HX.out, by simp, HO.out⟩, Keeps.refl w _⟩
  case round =>
    obtain ⟨j, hj, rfl, rfl, ⟨ys, hyl, hyt, hown⟩, hkp⟩ := hrel
    by_cases hlt : j < n
    · obtain ⟨g, rfl, _, _⟩ := HA.out (by omega)
      have hcell : wr.cell? ⟨g, j, none⟩ = some (.int .i64 (ys.getD j 0)) := by
        rw [hown.cellAt j (by omega)]; simp [iv, List.getD, show j < ys.length by omega]
      have hfz := hown.frozenAt j
      have ht := take_set_succ (ys := ys) (xs := marks k n) (k := j) (by omega) (by rw [marks_length]; exact hlt) hyt
      rw [marks_getD k n j hlt] at ht
      generalize ys.getD j 0 = y at *
      have HT := Lib.hid ht
      have HO' := Lib.hid hown
      have HK := Lib.hid hkp
      have HY := Lib.hid hyl
      clear ht hown hkp hyl hyt
      go_wp2_with fail
      go_roundw
      case rel =>
        refine ⟨j + 1, by omega, by go_num, by simp; omega, ⟨ys.set j (k + j), by rw [List.length_set]; exact HY.out, HT.out, ?_⟩, HK.out.setCell (p := ⟨g, j, none⟩) (by simp [Value.ownBlock]) _⟩
        rw [iv_set]; exact (World.ownsRow.stored HO'.out j _).1
      case measure => simp [intOf]; omega
    · have ej : j = n := by omega
      subst ej
      have e : ys = marks k j := by
        rw [List.take_of_length_le (by omega), List.take_of_length_le (by rw [marks_length]; omega)] at hyt; exact hyt
      rw [e] at hown
      have HO' := Lib.hid hown
      have HK := Lib.hid hkp
      clear hown hkp e hyt hyl
      go_wp2_with fail
      go_ret
      exact ⟨rfl, HO'.out, HK.out⟩

set_option maxHeartbeats 1000000 in
theorem heldInts_any (A : Option Addr) (n c : Nat) (k : Int) (w : World) (hR : Rd w A (iv (marks k n))) (hsm : n ≤ 1099511627776) (h0 : 0 ≤ k) (h1 : k ≤ 1099511627776) :
    Calls Tryz.prog 51 #[.slice A n c, .int .i64 k] w fun e w' => e = .returned (.int .i64 (k + n)) ∧ w = w' := by
  have HR := Lib.hid hR
  clear hR
  go_enter Tryz.func51, Tryz.ntmps51
  go_wp2_with fail
  go_loop [1, 5] (fun q i => ∃ j : Nat, j ≤ n ∧ i = .int .i64 j ∧ q = .int .i64 (k + j)) (fun _ i => n - (intOf i).toNat)
  case atStart => exact ⟨0, by omega, rfl, by simp⟩
  case round =>
    obtain ⟨j, hj, rfl, rfl⟩ := hrel
    by_cases hlt : j < n
    · obtain ⟨b, o, rfl, hc⟩ := HR.out.atI (k := j) (by rw [marks_length]; exact hlt)
      rw [marks_getD k n j hlt] at hc
      go_wp2_with fail
      go_round
      case rel => exact ⟨j + 1, by omega, by go_num, by simp; omega⟩
      case measure => simp [intOf]; omega
    · have ej : j = n := by omega
      subst ej
      go_wp2_with fail
      go_ret
      exact ⟨rfl, rfl⟩

end Go.Proofs.YtpchigdhnnkpcaaGreatDoor

namespace Go.Proofs.YtpchigdhnnkpcaaGreatDoor
open Go.RowKit

theorem infoS : (Tryz.prog.info? 22).map (fun i => (i.zero, i.size, i.bytes)) = some (some (.slice none 0 0), 1, 24) := by kernel_rfl
theorem etS : ET Tryz.prog 23 22 24 := ET.mk' (z := .slice none 0 0) Tryz.underlying23 (by kernel_rfl) (by decide) (by decide)

/-- an inner slice: where it lies, its capacity, its numbers -/
structure Row where
  A : Option Addr
  c : Nat
  xs : List Int
def Row.val (r : Row) : Value := .slice r.A r.xs.length r.c
def r0 : Row := ⟨none, 0, []⟩
def hv (L : List Row) : List Value := L.map Row.val
def dat (L : List Row) : List (List Int) := L.map Row.xs
def rg (L : List Row) (k : Nat) : Row := L.getD k r0
def tot (L : List Row) : Nat := (L.map fun r => r.xs.length).sum
theorem hv_length (L : List Row) : (hv L).length = L.length := by simp [hv]
theorem dat_length (L : List Row) : (dat L).length = L.length := by simp [dat]
theorem rg_of {L : List Row} {k : Nat} (h : k < L.length) : rg L k = L[k] := by simp [rg, List.getD, h]
theorem rg_mem {L : List Row} {k : Nat} (h : k < L.length) : rg L k ∈ L := by rw [rg_of h]; exact List.getElem_mem h
theorem hv_get {L : List Row} {k : Nat} (h : k < L.length) : (hv L)[k]? = some (rg L k).val := by
  rw [rg_of h]; simp [hv, h]
theorem dat_getD (L : List Row) (k : Nat) : (dat L).getD k [] = (rg L k).xs := by
  simp only [dat, rg, List.getD, List.getElem?_map]; cases L[k]? <;> rfl
theorem rg_set {L : List Row} {j : Nat} (hj : j < L.length) (r : Row) (i : Nat) : rg (L.set j r) i = if i = j then r else rg L i := by
  simp only [rg, List.getD, List.getElem?_set]
  by_cases h : j = i
  · subst h; simp [hj]
  · simp [h, Ne.symm h]
theorem tot_succ {L : List Row} {k : Nat} (h : k < L.length) : tot (L.take (k + 1)) = tot (L.take k) + (rg L k).xs.length := by
  rw [List.take_succ_eq_append_getElem h, rg_of h]; simp only [tot, List.map_append, List.sum_append, List.map_cons, List.map_nil, List.sum_cons, List.sum_nil, Nat.add_zero]
theorem tot_take_le (L : List Row) (k : Nat) : tot (L.take k) ≤ tot L := by
  conv => rhs; rw [← List.take_append_drop k L]
  simp only [tot, List.map_append, List.sum_append]; omega
theorem tot_all {L : List Row} {k : Nat} (h : L.length ≤ k) : tot (L.take k) = tot L := by rw [List.take_of_length_le h]
theorem len_le_tot {L : List Row} {k : Nat} (h : k < L.length) : (rg L k).xs.length ≤ tot L := by
  have h1 := tot_succ h
  have h2 := tot_take_le L (k + 1)
  omega
theorem rows_ext {L M : List Row} (hl : M.length = L.length) (h : ∀ i, i < L.length → (rg M i).xs = (rg L i).xs) : dat M = dat L := by
  apply List.ext_getElem (by simp [dat, hl])
  intro i h1 h2
  simp only [dat, List.length_map] at h1 h2
  have := h i h2
  rw [rg_of h1, rg_of h2] at this
  simpa [dat] using this
theorem dat_xs {L M : List Row} (h : dat M = dat L) : M.length = L.length ∧ ∀ i, (rg M i).xs = (rg L i).xs := by
  refine ⟨by have := congrArg List.length h; simpa [dat] using this, fun i => ?_⟩
  rw [← dat_getD, ← dat_getD, h]

/-- The slice at A reads as the rows L. -/
structure RdR (w : World) (A : Option Addr) (L : List Row) : Prop where
  out : Rd w A (hv L)
  inn : ∀ i, i < L.length → Rd w (rg L i).A (iv (rg L i).xs)
  cap : ∀ i, i < L.length → (rg L i).xs.length ≤ (rg L i).c
section
variable {w w' : World} {A : Option Addr} {L : List Row}
theorem RdR.at_ (h : RdR w A L) {k : Nat} (hk : k < L.length) :
    ∃ b o, A = some ⟨b, o, none⟩ ∧ w.cell? ⟨b, o + k, none⟩ = some (.slice (rg L k).A (rg L k).xs.length (rg L k).c) := by
  rcases h.out with h' | ⟨b, o, rfl, h'⟩
  · have := congrArg List.length h'; simp [hv_length] at this; subst this; simp at hk
  · exact ⟨b, o, rfl, h' k _ (hv_get hk)⟩
theorem RdR.below {B : Nat} (h : RdR w A L) (hb : Below B w w') (hB : w.heap.size ≤ B := by exact Nat.le_refl _) : RdR w' A L :=
  ⟨h.out.below hb hB, fun i hi => (h.inn i hi).below hb hB, h.cap⟩
theorem RdR.alloc (h : RdR w A L) (o : Obj) : RdR (w.alloc o) A L := ⟨h.out.alloc o, fun i hi => (h.inn i hi).alloc o, h.cap⟩
end

theorem RdR.cell {w : World} {b o : Nat} {L : List Row} (h : RdR w (some ⟨b, o, none⟩) L) {k : Nat} (hk : k < L.length) : w.cell? ⟨b, o + k, none⟩ = some (.slice (rg L k).A (rg L k).xs.length (rg L k).c) := by
  obtain ⟨b', o', e, hc⟩ := h.at_ hk
  injection e with e
  injection e with e1 e2 _
  subst e1; subst e2
  exact hc
theorem Rd.cellI {w : World} {b o : Nat} {xs : List Int} (h : Rd w (some ⟨b, o, none⟩) (iv xs)) {k : Nat} (hk : k < xs.length) : w.cell? ⟨b, o + k, none⟩ = some (.int .i64 (xs.getD k 0)) := by
  obtain ⟨b', o', e, hc⟩ := h.atI hk
  injection e with e
  injection e with e1 e2 _
  subst e1; subst e2
  exact hc
theorem owns_getD {w : World} {B g n c k : Nat} {ys : List Int} (h : w.ownsRow B 2 1 (.slice (some ⟨g, 0, none⟩) n c) n (iv ys)) (hk : k < n) : w.cell? ⟨g, k, none⟩ = some (.int .i64 (ys.getD k 0)) := by
  have hl : ys.length = n := by have := h.1; simpa [iv] using this
  rw [h.cellAt k (by omega)]; simp [iv, List.getD, show k < ys.length by omega]
theorem Rd.drewN {w : World} {A : Option Addr} {vs : List Value} (h : Rd w A vs) (m : Nat) : Rd (w.drewN m) A vs := h
theorem RdR.drewN {w : World} {A : Option Addr} {L : List Row} (h : RdR w A L) (m : Nat) : RdR (w.drewN m) A L := ⟨h.out, h.inn, h.cap⟩

/-- Rows of rows of the call's own: the outer one, the inner ones, no two of these in one block. -/
structure OwnR (w : World) (B : Nat) (v : Value) (L : List Row) : Prop where
  out : w.ownsRow B 22 1 v L.length (hv L)
  inn : ∀ i, i < L.length → w.ownsRow B 2 1 (rg L i).val (rg L i).xs.length (iv (rg L i).xs)
  dis : ∀ i j, i < L.length → j < L.length → i ≠ j → (rg L i).val.ownBlock = none ∨ (rg L i).val.ownBlock ≠ (rg L j).val.ownBlock

theorem own_ne2 {w : World} {B B' n n' : Nat} {e e' : TypeId} {v v' : Value} {xs xs' : List Value} (h : w.ownsRow B e 1 v n xs) (h' : w.ownsRow B' e' 1 v' n' xs') (hne : e ≠ e') : v.ownBlock = none ∨ v.ownBlock ≠ v'.ownBlock := by
  rcases h.2 with ⟨rfl, _⟩ | ⟨g, cap, cur, rfl, _, hg, _⟩
  · exact .inl rfl
  · refine .inr fun he => ?_
    rcases h'.2 with ⟨rfl, _⟩ | ⟨g', cap', cur', rfl, _, hg', _⟩
    · cases he
    · have : g = g' := by simpa [Value.ownBlock] using he
      subst this
      rw [hg] at hg'
      injection hg' with hg'
      injection hg' with _ ht
      exact hne ht
theorem owns_cap {w : World} {B n c : Nat} {e : TypeId} {A : Option Addr} {xs : List Value} (h : w.ownsRow B e 1 (.slice A n c) n xs) : n ≤ c := by
  rcases h.2 with ⟨hv, h0⟩ | ⟨g, cap, cur, hv, _, _, hc, _⟩
  · omega
  · injection hv with _ _ hc'
    omega
theorem cell_keep {w w' : World} {a : Addr} {v : Value} (h : w.cell? a = some v) (hb : Below w.heap.size w w') : w'.cell? a = some v := (hb.cell (World.block_lt_of_cell? w a h)).trans h
theorem none_or_symm {a b : Option Nat} (h : a = none ∨ a ≠ b) : b = none ∨ b ≠ a := by
  by_cases hb : b = none
  · exact .inl hb
  · refine .inr fun e => ?_
    rcases h with h | h
    · exact hb (e.trans h)
    · exact h e.symm

section
variable {w w' : World} {B : Nat} {v : Value} {L : List Row}
theorem OwnR.rd {A : Option Addr} {n c : Nat} (h : OwnR w B (.slice A n c) L) (hn : n = L.length) : RdR w A L := by
  subst hn
  exact ⟨owns_Rd h.out, fun i hi => owns_Rd (h.inn i hi), fun i hi => owns_cap (h.inn i hi)⟩
theorem OwnR.oi (h : OwnR w B v L) {i : Nat} (hi : i < L.length) : v.ownBlock = none ∨ v.ownBlock ≠ (rg L i).val.ownBlock := own_ne2 h.out (h.inn i hi) (by decide)
theorem OwnR.io (h : OwnR w B v L) {i : Nat} (hi : i < L.length) : (rg L i).val.ownBlock = none ∨ (rg L i).val.ownBlock ≠ v.ownBlock := own_ne2 (h.inn i hi) h.out (by decide)
theorem OwnR.keeps {S : List (Option Nat)} (h : OwnR w B v L) (hk : Keeps w w' S) (h1 : v.ownBlock = none ∨ v.ownBlock ∉ S) (h2 : ∀ i, i < L.length → (rg L i).val.ownBlock = none ∨ (rg L i).val.ownBlock ∉ S) : OwnR w' B v L :=
  ⟨owns_keeps h.out hk h1, fun i hi => owns_keeps (h.inn i hi) hk (h2 i hi), h.dis⟩
theorem OwnR.later (h : OwnR w B v L) (hb : Below w.heap.size w w') : OwnR w' B v L := h.keeps (Keeps.of_below hb) (.inr (by simp)) (fun _ _ => .inr (by simp))
theorem OwnR.mono {B' : Nat} (h : OwnR w B v L) (hB : B' ≤ B) : OwnR w B' v L := ⟨h.out.mono hB, fun i hi => (h.inn i hi).mono hB, h.dis⟩
theorem OwnR.drewN (h : OwnR w B v L) (m : Nat) : OwnR (w.drewN m) B v L := h.keeps (S := []) (Keeps.ofDrewN w m) (.inr (by simp)) (fun _ _ => .inr (by simp))
/-- an inner row stored at place j of the outer one -/
theorem OwnR.put {g n c j : Nat} {r : Row} (h : OwnR w B (.slice (some ⟨g, 0, none⟩) n c) L) (hn : n = L.length) (hj : j < L.length) (hr : w.ownsRow B 2 1 r.val r.xs.length (iv r.xs))
    (hd : ∀ i, i < L.length → i ≠ j → r.val.ownBlock = none ∨ r.val.ownBlock ≠ (rg L i).val.ownBlock) :
    OwnR (w.setCell ⟨g, j, none⟩ r.val) B (.slice (some ⟨g, 0, none⟩) n c) (L.set j r) := by
  subst hn
  have ks : Keeps w (w.setCell ⟨g, j, none⟩ r.val) [some g] := (Keeps.refl w [some g]).setCell (p := ⟨g, j, none⟩) (by simp) _
  have hrg : r.val.ownBlock = none ∨ r.val.ownBlock ∉ [some g] := by
    have := own_ne2 hr h.out (by decide)
    simpa [Value.ownBlock] using this
  refine ⟨?_, ?_, ?_⟩
  · have := (World.ownsRow.stored h.out j r.val).1
    rw [List.length_set]
    have e : hv (L.set j r) = (hv L).set j r.val := by simp [hv, List.map_set]
    rw [e]; exact this
  · intro i hi
    rw [List.length_set] at hi
    rw [rg_set hj]
    split
    · exact owns_keeps hr ks hrg
    · exact owns_keeps (h.inn i hi) ks (by have := h.io hi; simpa [Value.ownBlock] using this)
  · intro i i' hi hi' hne
    rw [List.length_set] at hi hi'
    rw [rg_set hj, rg_set hj]
    by_cases e1 : i = j
    · by_cases e2 : i' = j
      · omega
      · rw [if_pos e1, if_neg e2]; exact hd i' hi' e2
    · by_cases e2 : i' = j
      · rw [if_neg e1, if_pos e2]; exact none_or_symm (hd i hi e1)
      · rw [if_neg e1, if_neg e2]; exact h.dis i i' hi hi' hne
/-- an inner row written, the others as they were -/
theorem OwnR.inset {j : Nat} {ys : List Int} (h : OwnR w B v L) (hj : j < L.length) (hl : ys.length = (rg L j).xs.length) (hk : Keeps w w' [(rg L j).val.ownBlock])
    (hr : w'.ownsRow B 2 1 (rg L j).val (rg L j).xs.length (iv ys)) : OwnR w' B v (L.set j ⟨(rg L j).A, (rg L j).c, ys⟩) := by
  have ev : Row.val ⟨(rg L j).A, (rg L j).c, ys⟩ = (rg L j).val := by simp [Row.val, hl]
  refine ⟨?_, ?_, ?_⟩
  · rw [List.length_set]
    have e : hv (L.set j ⟨(rg L j).A, (rg L j).c, ys⟩) = hv L := by
      unfold hv
      rw [List.map_set, ev, rg_of hj]
      apply List.ext_getElem?
      intro i
      rw [List.getElem?_set]
      split
      · rename_i e; subst e; simp [hj]
      · rfl
    rw [e]
    exact owns_keeps h.out hk (by have := h.oi hj; simpa using this)
  · intro i hi
    rw [List.length_set] at hi
    rw [rg_set hj]
    split
    · rw [ev]; simp only [hl]; exact hr
    · rename_i hne
      exact owns_keeps (h.inn i hi) hk (by have := h.dis i j hi hj hne; simpa using this)
  · intro i i' hi hi' hne
    rw [List.length_set] at hi hi'
    rw [rg_set hj, rg_set hj]
    by_cases e1 : i = j
    · by_cases e2 : i' = j
      · omega
      · rw [if_pos e1, if_neg e2, ev, ← e1]; exact h.dis i i' hi hi' hne
    · by_cases e2 : i' = j
      · rw [if_neg e1, if_pos e2, ev, ← e2]; exact h.dis i i' hi hi' hne
      · rw [if_neg e1, if_neg e2]; exact h.dis i i' hi hi' hne
/-- an inner row appended -/
theorem OwnR.app {g c : Nat} {o : Obj} {r : Row} (h : OwnR w B v L) (hr : w.ownsRow B 2 1 r.val r.xs.length (iv r.xs)) (hd : ∀ i, i < L.length → r.val.ownBlock = none ∨ r.val.ownBlock ≠ (rg L i).val.ownBlock)
    (hown : w'.ownsRow B 22 1 (.slice (some ⟨g, 0, none⟩) (L.length + 1) c) (L.length + 1) (hv L ++ [r.val])) (hg : (w.alloc o).grownBy w' v.ownBlock) :
    OwnR w' B (.slice (some ⟨g, 0, none⟩) (L.length + 1) c) (L ++ [r]) := by
  have hk : Keeps w w' [v.ownBlock] := ((Keeps.refl w []).alloc o).trans (Keeps.of_grown hg) (by simp)
  have hrv : r.val.ownBlock = none ∨ r.val.ownBlock ≠ v.ownBlock := own_ne2 hr h.out (by decide)
  have e0 : ∀ i, i < L.length → rg (L ++ [r]) i = rg L i := fun i hi => by simp [rg, List.getD, List.getElem?_append, hi]
  have e1 : rg (L ++ [r]) L.length = r := by simp [rg, List.getD]
  refine ⟨?_, ?_, ?_⟩
  · rw [List.length_append]; simpa [hv] using hown
  · intro i hi
    rw [List.length_append] at hi
    simp only [List.length_singleton] at hi
    by_cases h1 : i < L.length
    · rw [e0 i h1]; exact owns_keeps (h.inn i h1) hk (by have := h.io h1; simpa using this)
    · have : i = L.length := by omega
      subst this
      rw [e1]; exact owns_keeps hr hk (by simpa using hrv)
  · intro i j hi hj hne
    rw [List.length_append] at hi hj
    simp only [List.length_singleton] at hi hj
    by_cases h1 : i < L.length
    · by_cases h2 : j < L.length
      · rw [e0 i h1, e0 j h2]; exact h.dis i j h1 h2 hne
      · have : j = L.length := by omega
        subst this
        rw [e0 i h1, e1]; exact none_or_symm (hd i h1)
    · have : i = L.length := by omega
      subst this
      rw [e1, e0 j (by omega)]; exact hd j (by omega)
theorem OwnR.cell {g n c k : Nat} (h : OwnR w B (.slice (some ⟨g, 0, none⟩) n c) L) (hn : n = L.length) (hk : k < L.length) : w.cell? ⟨g, k, none⟩ = some (rg L k).val ∧ w.frozen? ⟨g, k, none⟩ = false := by
  subst hn
  exact ⟨by rw [h.out.cellAt k (by omega)]; exact hv_get hk, h.out.frozenAt k⟩
theorem OwnR.nil (w : World) (B : Nat) : OwnR w B (.slice none 0 0) [] := ⟨World.ownsRow_nil _ _ _ _, (fun i hi => by cases hi), (fun i j hi => by cases hi)⟩
theorem OwnR.made (w : World) (hB : B ≤ w.heap.size) : OwnR (w.alloc (.cells #[] 22)) B (.slice (some ⟨w.heap.size, 0, none⟩) 0 0) [] :=
  ⟨World.ownsRow_made w #[] 0 hB (by decide) (by simp), (fun i hi => by cases hi), (fun i j hi => by cases hi)⟩
end
end Go.Proofs.YtpchigdhnnkpcaaGreatDoor
