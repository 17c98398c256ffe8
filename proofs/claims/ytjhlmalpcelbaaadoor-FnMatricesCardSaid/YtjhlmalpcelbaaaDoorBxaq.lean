/- rows of rows: slices of slices of ints · bits, masks and digits; ListsOfMatrix of both sides · ListsOfMatrix of both sides · ListsOfMatrix of the reference · draws: DrawMatrixOfLists · MatrixOfLists of the program · MatrixOfLists of the reference -/
import Derived.Test.YtjhlmalpcelbaaaDoorBxaa
import Derived.Test.YtjhlmalpcelbaaaDoorBxak
import Derived.Test.YtjhlmalpcelbaaaDoorBxai
import Derived.Test.YtjhlmalpcelbaaaDoorBxag
import Derived.ArgAppend
import Derived.Test.YtjhlmalpcelbaaaDoorBxal
set_option linter.all false
namespace Go.Proofs.YtjhlmalpcelbaaaDoor
open Go.RowKit

theorem infoS : (Tryd.prog.info? 24).map (fun i => (i.zero, i.size, i.bytes)) = some (some (.slice none 0 0), 1, 24) := by kernel_rfl
theorem etS : ET Tryd.prog 40 24 24 := ET.mk' (z := .slice none 0 0) Tryd.underlying40 (by kernel_rfl) (by decide) (by decide)

/-- an inner slice: where it lies, its capacity, its numbers -/
structure Row where
  A : Option Addr
  c : Nat
  xs : List Int
def Row.val (r : Row) : Value := .slice r.A r.xs.length r.c
def r0 : Row := ⟨none, 0, []⟩
def hv (L : List Row) : List Value := L.map Row.val
def dat (L : List Row) : List (List Int) := L.map Row.xs
def rg (L : List Row) (k : Nat) : Row := L.getD k r0
def tot (L : List Row) : Nat := (L.map fun r => r.xs.length).sum
theorem hv_length (L : List Row) : (hv L).length = L.length := by simp [hv]
theorem dat_length (L : List Row) : (dat L).length = L.length := by simp [dat]
theorem rg_of {L : List Row} {k : Nat} (h : k < L.length) : rg L k = L[k] := by simp [rg, List.getD, h]
theorem rg_mem {L : List Row} {k : Nat} (h : k < L.length) : rg L k ∈ L := by rw [rg_of h]; exact List.getElem_mem h
theorem hv_get {L : List Row} {k : Nat} (h : k < L.length) : (hv L)[k]? = some (rg L k).val := by
  rw [rg_of h]; simp [hv, h]
theorem dat_getD (L : List Row) (k : Nat) : (dat L).getD k [] = (rg L k).xs := by
  simp only [dat, rg, List.getD, List.getElem?_map]; cases L[k]? <;> rfl
theorem rg_set {L : List Row} {j : Nat} (hj : j < L.length) (r : Row) (i : Nat) : rg (L.set j r) i = if i = j then r else rg L i := by
  simp only [rg, List.getD, List.getElem?_set]
  by_cases h : j = i
  · subst h; simp [hj]
  · simp [h, Ne.symm h]
theorem tot_succ {L : List Row} {k : Nat} (h : k < L.length) : tot (L.take (k + 1)) = tot (L.take k) + (rg L k).xs.length := by
  rw [List.take_succ_eq_append_getElem h, rg_of h]; simp only [tot, List.map_append, List.sum_append, List.map_cons, List.map_nil, List.sum_cons, List.sum_nil, Nat.add_zero]
theorem tot_take_le (L : List Row) (k : Nat) : tot (L.take k) ≤ tot L := by
  conv => rhs; rw [← List.take_append_drop k L]
  simp only [tot, List.map_append, List.sum_append]; omega
theorem tot_all {L : List Row} {k : Nat} (h : L.length ≤ k) : tot (L.take k) = tot L := by rw [List.take_of_length_le h]
theorem len_le_tot {L : List Row} {k : Nat} (h : k < L.length) : (rg L k).xs.length ≤ tot L := by
  have h1 := tot_succ h
  have h2 := tot_take_le L (k + 1)
  omega
theorem rows_ext {L M : List Row} (hl : M.length = L.length) (h : ∀ i, i < L.length → (rg M i).xs = (rg L i).xs) : dat M = dat L := by
  apply List.ext_getElem (by simp [dat, hl])
  intro i h1 h2
  simp only [dat, List.length_map] at h1 h2
  have := h i h2
  rw [rg_of h1, rg_of h2] at this
  simpa [dat] using this
theorem dat_xs {L M : List Row} (h : dat M = dat L) : M.length = L.length ∧ ∀ i, (rg M i).xs = (rg L i).xs := by
  refine ⟨by have := congrArg List.length h; simpa [dat] using this, fun i => ?_⟩
  rw [← dat_getD, ← dat_getD, h]

/-- The slice at A reads as the rows L. -/
structure RdR (w : World) (A : Option Addr) (L : List Row) : Prop where
  out : Rd w A (hv L)
  inn : ∀ i, i < L.length → Rd w (rg L i).A (iv (rg L i).xs)
  cap : ∀ i, i < L.length → (rg L i).xs.length ≤ (rg L i).c
section
variable {w w' : World} {A : Option Addr} {L : List Row}
theorem RdR.at_ (h : RdR w A L) {k : Nat} (hk : k < L.length) :
    ∃ b o, A = some ⟨b, o, none⟩ ∧ w.cell? ⟨b, o + k, none⟩ = some (.slice (rg L k).A (rg L k).xs.length (rg L k).c) := by
  rcases h.out with h' | ⟨b, o, rfl, h'⟩
  · have := congrArg List.length h'; simp [hv_length] at this; subst this; simp at hk
  · exact ⟨b, o, rfl, h' k _ (hv_get hk)⟩
theorem RdR.below {B : Nat} (h : RdR w A L) (hb : Below B w w') (hB : w.heap.size ≤ B := by exact Nat.le_refl _) : RdR w' A L :=
  ⟨h.out.below hb hB, fun i hi => (h.inn i hi).below hb hB, h.cap⟩
theorem RdR.alloc (h : RdR w A L) (o : Obj) : RdR (w.alloc o) A L := ⟨h.out.alloc o, fun i hi => (h.inn i hi).alloc o, h.cap⟩
end

theorem RdR.cell {w : World} {b o : Nat} {L : List Row} (h : RdR w (some ⟨b, o, none⟩) L) {k : Nat} (hk : k < L.length) : w.cell? ⟨b, o + k, none⟩ = some (.slice (rg L k).A (rg L k).xs.length (rg L k).c) := by
  obtain ⟨b', o', e, hc⟩ := h.at_ hk
  injection e with e
  injection e with e1 e2 _
  subst e1; subst e2
  exact hc
theorem Rd.cellI {w : World} {b o : Nat} {xs : List Int} (h : Rd w (some ⟨b, o, none⟩) (iv xs)) {k : Nat} (hk : k < xs.length) : w.cell? ⟨b, o + k, none⟩ = some (.int .i64 (xs.getD k 0)) := by
  obtain ⟨b', o', e, hc⟩ := h.atI hk
  injection e with e
  injection e with e1 e2 _
  subst e1; subst e2
  exact hc
theorem owns_getD {w : World} {B g n c k : Nat} {ys : List Int} (h : w.ownsRow B 2 1 (.slice (some ⟨g, 0, none⟩) n c) n (iv ys)) (hk : k < n) : w.cell? ⟨g, k, none⟩ = some (.int .i64 (ys.getD k 0)) := by
  have hl : ys.length = n := by have := h.1; simpa [iv] using this
  rw [h.cellAt k (by omega)]; simp [iv, List.getD, show k < ys.length by omega]
theorem Rd.drewN {w : World} {A : Option Addr} {vs : List Value} (h : Rd w A vs) (m : Nat) : Rd (w.drewN m) A vs := h
theorem RdR.drewN {w : World} {A : Option Addr} {L : List Row} (h : RdR w A L) (m : Nat) : RdR (w.drewN m) A L := ⟨h.out, h.inn, h.cap⟩

/-- Rows of rows of the call's own: the outer one, the inner ones, no two of these in one block. -/
structure OwnR (w : World) (B : Nat) (v : Value) (L : List Row) : Prop where
  out : w.ownsRow B 24 1 v L.length (hv L)
  inn : ∀ i, i < L.length → w.ownsRow B 2 1 (rg L i).val (rg L i).xs.length (iv (rg L i).xs)
  dis : ∀ i j, i < L.length → j < L.length → i ≠ j → (rg L i).val.ownBlock = none ∨ (rg L i).val.ownBlock ≠ (rg L j).val.ownBlock

theorem own_ne2 {w : World} {B B' n n' : Nat} {e e' : TypeId} {v v' : Value} {xs xs' : List Value} (h : w.ownsRow B e 1 v n xs) (h' : w.ownsRow B' e' 1 v' n' xs') (hne : e ≠ e') : v.ownBlock = none ∨ v.ownBlock ≠ v'.ownBlock := by
  rcases h.2 with ⟨rfl, _⟩ | ⟨g, cap, cur, rfl, _, hg, _⟩
  · exact .inl rfl
  · refine .inr fun he => ?_
    rcases h'.2 with ⟨rfl, _⟩ | ⟨g', cap', cur', rfl, _, hg', _⟩
    · cases he
    · have : g = g' := by simpa [Value.ownBlock] using he
      subst this
      rw [hg] at hg'
      injection hg' with hg'
      injection hg' with _ ht
      exact hne ht
theorem owns_cap {w : World} {B n c : Nat} {e : TypeId} {A : Option Addr} {xs : List Value} (h : w.ownsRow B e 1 (.slice A n c) n xs) : n ≤ c := by
  rcases h.2 with ⟨hv, h0⟩ | ⟨g, cap, cur, hv, _, _, hc, _⟩
  · omega
  · injection hv with _ _ hc'
    omega
theorem cell_keep {w w' : World} {a : Addr} {v : Value} (h : w.cell? a = some v) (hb : Below w.heap.size w w') : w'.cell? a = some v := (hb.cell (World.block_lt_of_cell? w a h)).trans h
theorem none_or_symm {a b : Option Nat} (h : a = none ∨ a ≠ b) : b = none ∨ b ≠ a := by
  by_cases hb : b = none
  · exact .inl hb
  · refine .inr fun e => ?_
    rcases h with h | h
    · exact hb (e.trans h)
    · exact h e.symm

section
variable {w w' : World} {B : Nat} {v : Value} {L : List Row}
theorem OwnR.rd {A : Option Addr} {n c : Nat} (h : OwnR w B (.slice A n c) L) (hn : n = L.length) : RdR w A L := by
  subst hn
  exact ⟨owns_Rd h.out, fun i hi => owns_Rd (h.inn i hi), fun i hi => owns_cap (h.inn i hi)⟩
theorem OwnR.oi (h : OwnR w B v L) {i : Nat} (hi : i < L.length) : v.ownBlock = none ∨ v.ownBlock ≠ (rg L i).val.ownBlock := own_ne2 h.out (h.inn i hi) (by decide)
theorem OwnR.io (h : OwnR w B v L) {i : Nat} (hi : i < L.length) : (rg L i).val.ownBlock = none ∨ (rg L i).val.ownBlock ≠ v.ownBlock := own_ne2 (h.inn i hi) h.out (by decide)
theorem OwnR.keeps {S : List (Option Nat)} (h : OwnR w B v L) (hk : Keeps w w' S) (h1 : v.ownBlock = none ∨ v.ownBlock ∉ S) (h2 : ∀ i, i < L.length → (rg L i).val.ownBlock = none ∨ (rg L i).val.ownBlock ∉ S) : OwnR w' B v L :=
  ⟨owns_keeps h.out hk h1, fun i hi => owns_keeps (h.inn i hi) hk (h2 i hi), h.dis⟩
theorem OwnR.later (h : OwnR w B v L) (hb : Below w.heap.size w w') : OwnR w' B v L := h.keeps (Keeps.of_below hb) (.inr (by simp)) (fun _ _ => .inr (by simp))
theorem OwnR.mono {B' : Nat} (h : OwnR w B v L) (hB : B' ≤ B) : OwnR w B' v L := ⟨h.out.mono hB, fun i hi => (h.inn i hi).mono hB, h.dis⟩
theorem OwnR.drewN (h : OwnR w B v L) (m : Nat) : OwnR (w.drewN m) B v L := h.keeps (S := []) (Keeps.ofDrewN w m) (.inr (by simp)) (fun _ _ => .inr (by simp))
/-- an inner row stored at place j of the outer one -/
theorem OwnR.put {g n c j : Nat} {r : Row} (h : OwnR w B (.slice (some ⟨g, 0, none⟩) n c) L) (hn : n = L.length) (hj : j < L.length) (hr : w.ownsRow B 2 1 r.val r.xs.length (iv r.xs))
    (hd : ∀ i, i < L.length → i ≠ j → r.val.ownBlock = none ∨ r.val.ownBlock ≠ (rg L i).val.ownBlock) :
    OwnR (w.setCell ⟨g, j, none⟩ r.val) B (.slice (some ⟨g, 0, none⟩) n c) (L.set j r) := by
  subst hn
  have ks : Keeps w (w.setCell ⟨g, j, none⟩ r.val) [some g] := (Keeps.refl w [some g]).setCell (p := ⟨g, j, none⟩) (by simp) _
  have hrg : r.val.ownBlock = none ∨ r.val.ownBlock ∉ [some g] := by
    have := own_ne2 hr h.out (by decide)
    simpa [Value.ownBlock] using this
  refine ⟨?_, ?_, ?_⟩
  · have := (World.ownsRow.stored h.out j r.val).1
    rw [List.length_set]
    have e : hv (L.set j r) = (hv L).set j r.val := by simp [hv, List.map_set]
    rw [e]; exact this
  · intro i hi
    rw [List.length_set] at hi
    rw [rg_set hj]
    split
    · exact owns_keeps hr ks hrg
    · exact owns_keeps (h.inn i hi) ks (by have := h.io hi; simpa [Value.ownBlock] using this)
  · intro i i' hi hi' hne
    rw [List.length_set] at hi hi'
    rw [rg_set hj, rg_set hj]
    by_cases e1 : i = j
    · by_cases e2 : i' = j
      · omega
      · rw [if_pos e1, if_neg e2]; exact hd i' hi' e2
    · by_cases e2 : i' = j
      · rw [if_neg e1, if_pos e2]; exact none_or_symm (hd i hi e1)
      · rw [if_neg e1, if_neg e2]; exact h.dis i i' hi hi' hne
/-- an inner row written, the others as they were -/
theorem OwnR.inset {j : Nat} {ys : List Int} (h : OwnR w B v L) (hj : j < L.length) (hl : ys.length = (rg L j).xs.length) (hk : Keeps w w' [(rg L j).val.ownBlock])
    (hr : w'.ownsRow B 2 1 (rg L j).val (rg L j).xs.length (iv ys)) : OwnR w' B v (L.set j ⟨(rg L j).A, (rg L j).c, ys⟩) := by
  have ev : Row.val ⟨(rg L j).A, (rg L j).c, ys⟩ = (rg L j).val := by simp [Row.val, hl]
  refine ⟨?_, ?_, ?_⟩
  · rw [List.length_set]
    have e : hv (L.set j ⟨(rg L j).A, (rg L j).c, ys⟩) = hv L := by
      unfold hv
      rw [List.map_set, ev, rg_of hj]
      apply List.ext_getElem?
      intro i
      rw [List.getElem?_set]
      split
      · rename_i e; subst e; simp [hj]
      · rfl
    rw [e]
    exact owns_keeps h.out hk (by have := h.oi hj; simpa using this)
  · intro i hi
    rw [List.length_set] at hi
    rw [rg_set hj]
    split
    · rw [ev]; simp only [hl]; exact hr
    · rename_i hne
      exact owns_keeps (h.inn i hi) hk (by have := h.dis i j hi hj hne; simpa using this)
  · intro i i' hi hi' hne
    rw [List.length_set] at hi hi'
    rw [rg_set hj, rg_set hj]
    by_cases e1 : i = j
    · by_cases e2 : i' = j
      · omega
      · rw [if_pos e1, if_neg e2, ev, ← e1]; exact h.dis i i' hi hi' hne
    · by_cases e2 : i' = j
      · rw [if_neg e1, if_pos e2, ev, ← e2]; exact h.dis i i' hi hi' hne
      · rw [if_neg e1, if_neg e2]; exact h.dis i i' hi hi' hne
/-- an inner row appended -/
theorem OwnR.app {g c : Nat} {o : Obj} {r : Row} (h : OwnR w B v L) (hr : w.ownsRow B 2 1 r.val r.xs.length (iv r.xs)) (hd : ∀ i, i < L.length → r.val.ownBlock = none ∨ r.val.ownBlock ≠ (rg L i).val.ownBlock)
    (hown : w'.ownsRow B 24 1 (.slice (some ⟨g, 0, none⟩) (L.length + 1) c) (L.length + 1) (hv L ++ [r.val])) (hg : (w.alloc o).grownBy w' v.ownBlock) :
    OwnR w' B (.slice (some ⟨g, 0, none⟩) (L.length + 1) c) (L ++ [r]) := by
  have hk : Keeps w w' [v.ownBlock] := ((Keeps.refl w []).alloc o).trans (Keeps.of_grown hg) (by simp)
  have hrv : r.val.ownBlock = none ∨ r.val.ownBlock ≠ v.ownBlock := own_ne2 hr h.out (by decide)
  have e0 : ∀ i, i < L.length → rg (L ++ [r]) i = rg L i := fun i hi => by simp [rg, List.getD, List.getElem?_append, hi]
  have e1 : rg (L ++ [r]) L.length = r := by simp [rg, List.getD]
  refine ⟨?_, ?_, ?_⟩
  · rw [List.length_append]; simpa [hv] using hown
  · intro i hi
    rw [List.length_append] at hi
    simp only [List.length_singleton] at hi
    by_cases h1 : i < L.length
    · rw [e0 i h1]; exact owns_keeps (h.inn i h1) hk (by have := h.io h1; simpa using this)
    · have : i = L.length := by omega
      subst this
      rw [e1]; exact owns_keeps hr hk (by simpa using hrv)
  · intro i j hi hj hne
    rw [List.length_append] at hi hj
    simp only [List.length_singleton] at hi hj
    by_cases h1 : i < L.length
    · by_cases h2 : j < L.length
      · rw [e0 i h1, e0 j h2]; exact h.dis i j h1 h2 hne
      · have : j = L.length := by omega
        subst this
        rw [e0 i h1, e1]; exact none_or_symm (hd i h1)
    · have : i = L.length := by omega
      subst this
      rw [e1, e0 j (by omega)]; exact hd j (by omega)
theorem OwnR.cell {g n c k : Nat} (h : OwnR w B (.slice (some ⟨g, 0, none⟩) n c) L) (hn : n = L.length) (hk : k < L.length) : w.cell? ⟨g, k, none⟩ = some (rg L k).val ∧ w.frozen? ⟨g, k, none⟩ = false := by
  subst hn
  exact ⟨by rw [h.out.cellAt k (by omega)]; exact hv_get hk, h.out.frozenAt k⟩
theorem OwnR.nil (w : World) (B : Nat) : OwnR w B (.slice none 0 0) [] := ⟨World.ownsRow_nil _ _ _ _, (fun i hi => by cases hi), (fun i j hi => by cases hi)⟩
theorem OwnR.made (w : World) (hB : B ≤ w.heap.size) : OwnR (w.alloc (.cells #[] 24)) B (.slice (some ⟨w.heap.size, 0, none⟩) 0 0) [] :=
  ⟨World.ownsRow_made w #[] 0 hB (by decide) (by simp), (fun i hi => by cases hi), (fun i j hi => by cases hi)⟩
end
end Go.Proofs.YtjhlmalpcelbaaaDoor

namespace Go.Proofs.YtjhlmalpcelbaaaDoor
open Go.RowKit

theorem i64_bit_int {a n : Nat} (ha : Sm a) : bits .and .i64 ((a : Int) / 2 ^ n) 1 = bit a n := by
  rw [i64_bit_nat ha]
  unfold bit
  cases tb a n <;> rfl
theorem sm_pow {v n : Nat} (hn : n ≤ 62) (h : v < 2 ^ n) : Sm v := by
  unfold Sm
  have : (2 : Nat) ^ n ≤ 2 ^ 62 := Nat.pow_le_pow_right (by omega) hn
  omega
theorem pow62 {d : Nat} (h : d ≤ 62) : (0 : Int) ≤ 2 ^ d ∧ (2 : Int) ^ d ≤ 4611686018427387904 := by
  have e : ((2 ^ d : Nat) : Int) = (2 : Int) ^ d := by simp
  have h1 : (2 : Nat) ^ d ≤ 2 ^ 62 := Nat.pow_le_pow_right (by omega) h
  rw [← e]
  generalize (2 : Nat) ^ d = q at *
  omega
theorem i64_or_zero {a : Nat} (ha : Sm a) : bits .or .i64 (a : Int) 0 = (a : Int) := by
  have := i64_or_nat ha Sm.zero
  rw [show orr a 0 = a by unfold orr; simp] at this
  exact this
theorem inB01 (x : Int) : inB x 0 1 = (decide (0 ≤ x) && decide (x ≤ 1)) := rfl
theorem isBit_any (x : Int) (w : World) : Calls Tryd.prog 73 #[.int .i64 x] w fun e w' => e = .returned (.bool (decide (0 ≤ x) && decide (x ≤ 1))) ∧ w = w' := by
  have HI := Lib.hid (fun W => in_any x 0 1 W)
  rw [inB01] at HI
  go_enter Tryd.func73, Tryd.ntmps73
  go_wp2_with fail
  refine (HI.out _).mono ?_
  rintro e w' ⟨rfl, rfl⟩
  go_wp2_with fail
  go_ret
  exact ⟨rfl, rfl⟩
theorem bit_closure (w : World) (x : Int) : Asks0 Tryd.prog 73 w (.int .i64 x) (decide (0 ≤ x) && decide (x ≤ 1)) := by
  intro m
  exact (isBit_any x (w.drewN m)).mono fun e w' ⟨he, hw⟩ => ⟨he, m, hw⟩


attribute [local go_sem] i64_or_nat in
set_option maxHeartbeats 1000000 in
theorem maskOf_any (V : Option Addr) (n cv v : Nat) (w : World) (hn : n ≤ 62) (hv : v < 2 ^ n) (hV : Rd w V (iv (bitsL v n))) :
    Calls Tryd.prog 74 #[.slice V n cv] w fun e w' => e = .returned (.int .i64 (v : Nat)) ∧ w = w' := by
  have HV := Lib.hid hV
  have HM := Lib.hid (mk_bits hv)
  have HLT := Lib.hid (fun j => mk_lt ((bitsL v n).take j))
  clear hV hv
  go_enter Tryd.func74, Tryd.ntmps74
  go_wp2_with fail
  go_loop [3, 8] (fun t i => ∃ k : Nat, k ≤ n ∧ i = .int .i64 k ∧ t = .int .i64 (mk ((bitsL v n).take k) : Nat)) (fun _ i => n - (intOf i).toNat)
  case atStart => exact ⟨0, by omega, rfl, rfl⟩
  case round =>
    obtain ⟨k, hk, rfl, rfl⟩ := hrel
    by_cases hlt : k < n
    · obtain ⟨b, o, rfl, hc⟩ := HV.out.atI (k := k) (by rw [bitsL_length]; exact hlt)
      rw [bitsL_getD _ hlt] at hc
      have hms := mk_take (v := bitsL v n) (k := k) (by rw [bitsL_length]; exact hlt)
      rw [bitsL_getD _ hlt] at hms
      have h1 : Sm (mk ((bitsL v n).take k)) := sm_pow (n := 62) (by omega) (Nat.lt_of_lt_of_le (HLT.out k) (Nat.pow_le_pow_right (by omega) (by rw [List.length_take]; omega)))
      have h2 : Sm (2 ^ k) := sm_pow (n := k + 1) (by omega) (pow_lt_pow (by omega))
      have he : ((2 ^ k : Nat) : Int) = (2 : Int) ^ k := by simp
      have hor := i64_or_nat h1 h2
      rw [he] at hor
      obtain ⟨p1, p2⟩ := pow62 (d := k) (by omega)
      generalize mk ((bitsL v n).take k) = p at *
      cases hb : tb v k
      · rw [bit_none hb] at hc hms
        have HE : Hid (mk ((bitsL v n).take (k + 1)) = p) := Lib.hid (by rw [hms, if_neg (by omega)]; unfold orr; simp)
        have hz := i64_or_zero h1
        clear hms he hor
        go_wp2_with fail
        go_round
        case rel => exact ⟨k + 1, by omega, by go_num, by rw [HE.out]⟩
        case measure => simp [intOf]; omega
      · rw [bit_one hb] at hc hms
        have HE : Hid (mk ((bitsL v n).take (k + 1)) = orr p (2 ^ k)) := Lib.hid (by rw [hms, if_pos rfl])
        clear hms he
        go_wp2_with fail
        go_round
        case rel => exact ⟨k + 1, by omega, by go_num, by rw [HE.out]⟩
        case measure => simp [intOf]; omega
    · have e : (bitsL v n).take k = bitsL v n := List.take_of_length_le (by rw [bitsL_length]; omega)
      rw [e, HM.out]
      clear e
      go_wp2_with fail
      go_ret
      exact ⟨rfl, rfl⟩

attribute [local go_sem] i64_bit_int in
set_option maxHeartbeats 1000000 in
theorem digitsOf_any (n v : Nat) (w : World) (hn : n ≤ 62) (hv : Sm v) :
    Calls Tryd.prog 66 #[.int .i64 v, .int .i64 n] w fun e w' => ∃ g cap, e = .returned (.slice (some ⟨g, 0, none⟩) n cap) ∧ w'.ownsRow w.heap.size 2 1 (.slice (some ⟨g, 0, none⟩) n cap) n (iv (bitsL v n)) ∧ Below w.heap.size w w' := by
  go_enter Tryd.func66, Tryd.ntmps66
  go_wp2_with fail
  go_loopw [5, 9] (fun vv i wr => ∃ k g cap : Nat, k ≤ n ∧ i = .int .i64 k ∧ vv = .slice (some ⟨g, 0, none⟩) k cap ∧ wr.ownsRow w.heap.size 2 1 (.slice (some ⟨g, 0, none⟩) k cap) k (iv ((bitsL v n).take k)) ∧ Below w.heap.size w wr) (fun _ i _ => n - (intOf i).toNat)
  case atStart => exact ⟨0, w.heap.size, 0, by omega, rfl, rfl, World.ownsRow_made w #[] 0 (Nat.le_refl _) (by decide) (by simp), (Below.refl _ _).alloc (Nat.le_refl _) _⟩
  case round =>
    obtain ⟨k, g, cap, hk, rfl, rfl, hown, hbel⟩ := hrel
    have HO := Lib.hid hown
    have HB := Lib.hid hbel
    have hsz := hbel.size
    by_cases hlt : k < n
    · have HTS : Hid ((bitsL v n).take (k + 1) = (bitsL v n).take k ++ [bit v k]) := Lib.hid (bitsL_take _ hlt)
      have hmin : min k 64 = k := by omega
      clear hown hbel
      go_wp2_with (at_builtin; refine wpList_app1 _ _ _ _ _ etI (by rfl) (by rfl) w.heap.size (.slice (some ⟨g, 0, none⟩) k cap) k (iv ((bitsL v n).take k)) (by rfl) (HO.out.alloc _) _ (.int .i64 (bit v k)) (by rfl) (new_cell _ _ _) (by rfl) (by omega) (Nat.le_trans hsz (Nat.le_of_lt (by simp))) ?_; (intro g1 cap1 w1 hown1 hgrow1 hat1 hlt1; have HO1 := Lib.hid hown1; have HB1 := Lib.hid (below_app2 HB.out hsz HO.out hgrow1); clear hown1 hgrow1 hat1 hlt1))
      go_roundw
      case rel => exact ⟨k + 1, g1, cap1, by omega, by go_num, rfl, by rw [HTS.out, iv_append]; exact HO1.out, HB1.out⟩
      case measure => simp [intOf]; omega
    · obtain rfl : k = n := by omega
      have he : (bitsL v k).take k = bitsL v k := List.take_of_length_le (by rw [bitsL_length]; exact Nat.le_refl _)
      rw [he] at HO
      clear hown hbel he
      go_wp2_with fail
      go_ret
      exact ⟨g, cap, rfl, HO.out, HB.out⟩
theorem dat_append1 (R : List Row) (r : Row) : dat (R ++ [r]) = dat R ++ [r.xs] := by simp [dat]
theorem OwnR.push {wr w1 : World} {B g cap n : Nat} {v : Value} {R : List Row} {ws : List Int} (hR : OwnR wr B v R) (hb : Below wr.heap.size wr w1) (ho : w1.ownsRow wr.heap.size 2 1 (.slice (some ⟨g, 0, none⟩) n cap) n (iv ws)) (hn : n = ws.length) (hB : B ≤ wr.heap.size)
    {o : Obj} {g2 c2 : Nat} {w3 : World} (hown : w3.ownsRow B 24 1 (.slice (some ⟨g2, 0, none⟩) (R.length + 1) c2) (R.length + 1) (hv R ++ [.slice (some ⟨g, 0, none⟩) n cap])) (hg : (w1.alloc o).grownBy w3 v.ownBlock) :
    OwnR w3 B (.slice (some ⟨g2, 0, none⟩) (R.length + 1) c2) (R ++ [⟨some ⟨g, 0, none⟩, cap, ws⟩]) := by
  subst hn
  refine (hR.later hb).app (r := ⟨some ⟨g, 0, none⟩, cap, ws⟩) (ho.mono hB) ?_ hown hg
  intro i hi
  refine .inr fun e => ?_
  have h1 := (ho.lt g rfl).1
  have h2 := ((hR.inn i hi).lt g (by rw [← e]; rfl)).2
  omega


end Go.Proofs.YtjhlmalpcelbaaaDoor

namespace Go.Proofs.YtjhlmalpcelbaaaDoor
open Go.RowKit

/-- what ListsOfMatrix answers -/
def lomOf (c : Int) (xs : List Int) : List (List Int) × Int := if isMat c xs = true then ((toN xs).map (fun r => bitsL r c.toNat), 0) else ([], 1)
/-- rows that a call hands back with a code -/
def RowsOut (D : List (List Int)) (q : Int) (w : World) (e : Ending) (w' : World) : Prop :=
  ∃ (A1 : Option Addr) (c1 : Nat) (R : List Row), e = .returned (.tuple #[.slice A1 R.length c1, .int .i64 q]) ∧ OwnR w' w.heap.size (.slice A1 R.length c1) R ∧ dat R = D ∧ Below w.heap.size w w'

set_option maxRecDepth 100000 in
set_option maxHeartbeats 4000000 in
theorem implLom_any (c : Int) (A : Option Addr) (n cap : Nat) (xs : List Int) (w : World) (hn : n = xs.length) (hsm : n ≤ 1099511627776) (hR : Rd w A (iv xs)) :
    Calls Tryd.prog 19 #[.agg #[.int .i64 c, .slice A n cap]] w (RowsOut (lomOf c xs).1 (lomOf c xs).2 w) := by
  have hb1 := blk_new w (.cells #[.int .i64 c, .slice A n cap] 26)
  have hbel : Below w.heap.size w (w.alloc (.cells #[.int .i64 c, .slice A n cap] 26)) := (Below.refl _ _).alloc (Nat.le_refl _) _
  have h1 := isMatrix_any c A n cap xs _ hn hsm (hR.below hbel)
  have HK1 := Lib.hid hb1
  have HB := Lib.hid hbel
  have HR := Lib.hid hR
  have Hn := Lib.hid hn
  clear hb1 hbel hR hn
  cases hi : isMat c xs with
  | false =>
    rw [hi] at h1
    have HE : Hid (lomOf c xs = ([], 1)) := by show _ = _; simp [lomOf, hi]
    have H1 := Lib.hid h1
    clear h1 hi
    go_enter Tryd.func19, Tryd.ntmps19
    go_wp2_with fail
    refine H1.out.mono ?_
    rintro e w1 ⟨rfl, hb⟩
    have HB1 := Lib.hid (HB.out.trans (hb.mono HB.out.size))
    clear hb
    go_wp2_with fail
    go_ret2
    rw [HE.out]
    exact ⟨none, 0, [], rfl, OwnR.nil _ _, rfl, HB1.out⟩
  | true =>
    rw [hi] at h1
    have H1 := Lib.hid h1
    obtain ⟨d, rfl, hd60⟩ := isMat_cols hi
    have HE : Hid (lomOf d xs = ((toN xs).map (fun r => bitsL r d), 0)) := by show _ = _; unfold lomOf; rw [if_pos hi]; rfl
    have HSx := Lib.hid (isMat_sm hi)
    have HRx : Hid (Rd w A (nv (toN xs))) := by have := HR.out; rw [iv_toN (fun x hx => (isMat_nonneg hi x hx).1)] at this; exact this
    have Lx := Lib.hid (toN_len xs)
    have hlx := isMat_len hi
    have hn200 : n ≤ 200 := by rw [Hn.out]; exact hlx
    clear h1 hi hlx
    go_enter Tryd.func19, Tryd.ntmps19
    go_wp2_with fail
    refine H1.out.mono ?_
    rintro e w1 ⟨rfl, hb⟩
    have HKa := Lib.hid (blk_keep HK1.out hb)
    obtain ⟨x0, x1, _, _, hlx⟩ := blk2cells HKa.out
    have HB1 := Lib.hid (HB.out.trans (hb.mono HB.out.size))
    have hs1 := HB1.out.size
    clear hb
    go_wp2_with fail
    go_loopw [4, 14] (fun v i wr => ∃ (k : Nat) (R : List Row) (A1 : Option Addr) (c1 : Nat), k ≤ n ∧ i = .int .i64 k ∧ v = .slice A1 R.length c1 ∧ R.length = k ∧ dat R = ((toN xs).take k).map (fun r => bitsL r d) ∧ OwnR wr w1.heap.size (.slice A1 R.length c1) R ∧ Below w1.heap.size w1 wr) (fun _ i _ => n - (intOf i).toNat)
    case atStart => exact ⟨0, [], some ⟨w1.heap.size, 0, none⟩, 0, by omega, rfl, rfl, rfl, rfl, OwnR.made w1 (Nat.le_refl _), (Below.refl _ _).alloc (Nat.le_refl _) _⟩
    case round =>
      obtain ⟨k, R, A1, c1, hk, rfl, rfl, hRl, hdat, hown, hbel⟩ := hrel
      have HO := Lib.hid hown
      have HBL := Lib.hid hbel
      have HD := Lib.hid hdat
      have HRl := Lib.hid hRl
      have hsz := hbel.size
      have hq : R.length < 1099511627776 := by omega
      by_cases hlt : k < n
      · have hkL : k < (toN xs).length := by rw [Lx.out, ← Hn.out]; exact hlt
        obtain ⟨b, o, rfl, hc⟩ := (HRx.out.below (HB1.out.trans (HBL.out.mono hs1))).atN hkL
        obtain ⟨x0, x1, _, _, _⟩ := blk2cells (blk_below HKa.out hbel hlx)
        have hz := HSx.out _ (getD_mem hkL)
        have HP : Hid (((toN xs).take (k + 1)).map (fun r => bitsL r d) = ((toN xs).take k).map (fun r => bitsL r d) ++ [bitsL ((toN xs).getD k 0) d]) := Lib.hid (by
          rw [List.take_succ_eq_append_getElem hkL, List.map_append]
          simp [List.getD, hkL])
        have hlti : (k : Int) < (n : Int) := by omega
        generalize (toN xs).getD k 0 = z at *
        have HDG := Lib.hid (fun W => digitsOf_any d z W (by omega) hz)
        clear hown hbel hdat hRl
        go_wp2_with fail
        refine (HDG.out _).mono ?_
        rintro e w2 ⟨g, cp, rfl, hdo, hdb⟩
        have HDO := Lib.hid hdo
        have HDB := Lib.hid hdb
        have hs2 := hdb.size
        clear hdo hdb x0 x1
        go_wp2_with (at_builtin; refine wpList_app1 _ _ _ _ _ etS (by rfl) (by rfl) w1.heap.size (.slice A1 R.length c1) R.length (hv R) (by rfl) ((HO.out.later HDB.out).out.alloc _) _ (.slice (some ⟨g, 0, none⟩) d cp) (by rfl) (new_cell _ _ _) (by rfl) (by omega) (by simp; omega) ?_; (intro g2 cap2 w3 hown3 hg3 hat3 hlt3; have HQ := Lib.hid (OwnR.push HO.out HDB.out HDO.out (bitsL_length _ _).symm hsz hown3 hg3); have HQ2 := Lib.hid (below_app (HBL.out.trans (HDB.out.mono hsz)) (by omega) (HO.out.later HDB.out).out hg3); clear hown3 hg3 hat3 hlt3))
        go_roundw
        case rel => exact ⟨k + 1, R ++ [⟨some ⟨g, 0, none⟩, cp, bitsL z d⟩], _, _, by omega, by go_num, by rw [List.length_append]; rfl, by rw [List.length_append, HRl.out]; rfl, by rw [dat_append1, HD.out, HP.out], by rw [List.length_append]; exact HQ.out, HQ2.out⟩
        case measure => simp [intOf]; omega
      · have hlti : ¬ (k : Int) < (n : Int) := by omega
        have ek : (toN xs).take k = toN xs := List.take_of_length_le (by rw [Lx.out, ← Hn.out]; omega)
        rw [ek] at HD
        clear hown hbel hdat hRl ek
        go_wp2_with fail
        go_ret2
        rw [HE.out]
        exact ⟨A1, c1, R, rfl, HO.out.mono hs1, HD.out, HB1.out.trans (HBL.out.mono hs1)⟩
end Go.Proofs.YtjhlmalpcelbaaaDoor

namespace Go.Proofs.YtjhlmalpcelbaaaDoor
open Go.RowKit

attribute [local go_sem] i64_bit_int in
set_option maxRecDepth 100000 in
set_option maxHeartbeats 4000000 in
theorem specLom_any (c : Int) (A : Option Addr) (n cap : Nat) (xs : List Int) (w : World) (hn : n = xs.length) (hsm : n ≤ 1099511627776) (hR : Rd w A (iv xs)) :
    Calls Tryd.prog 20 #[.agg #[.int .i64 c, .slice A n cap]] w (RowsOut (lomOf c xs).1 (lomOf c xs).2 w) := by
  have hb1 := blk_new w (.cells #[.int .i64 c, .slice A n cap] 26)
  have hbel : Below w.heap.size w (w.alloc (.cells #[.int .i64 c, .slice A n cap] 26)) := (Below.refl _ _).alloc (Nat.le_refl _) _
  have h1 := l02Is_any c A n cap xs _ hn hsm (hR.below hbel)
  have HK1 := Lib.hid hb1
  have HB := Lib.hid hbel
  have HR := Lib.hid hR
  have Hn := Lib.hid hn
  clear hb1 hbel hR hn
  cases hi : isMat c xs with
  | false =>
    rw [hi] at h1
    have HE : Hid (lomOf c xs = ([], 1)) := by show _ = _; simp [lomOf, hi]
    have H1 := Lib.hid h1
    clear h1 hi
    go_enter Tryd.func20, Tryd.ntmps20
    go_wp2_with fail
    refine H1.out.mono ?_
    rintro e w1 ⟨rfl, hb⟩
    have HB1 := Lib.hid (HB.out.trans (hb.mono HB.out.size))
    clear hb
    go_wp2_with fail
    go_ret2
    rw [HE.out]
    exact ⟨none, 0, [], rfl, OwnR.nil _ _, rfl, HB1.out⟩
  | true =>
    rw [hi] at h1
    have H1 := Lib.hid h1
    obtain ⟨d, rfl, hd60⟩ := isMat_cols hi
    have HE : Hid (lomOf d xs = ((toN xs).map (fun r => bitsL r d), 0)) := by show _ = _; unfold lomOf; rw [if_pos hi]; rfl
    have HSx := Lib.hid (isMat_sm hi)
    have HRx : Hid (Rd w A (nv (toN xs))) := by have := HR.out; rw [iv_toN (fun x hx => (isMat_nonneg hi x hx).1)] at this; exact this
    have Lx := Lib.hid (toN_len xs)
    have hlx := isMat_len hi
    have hn200 : n ≤ 200 := by rw [Hn.out]; exact hlx
    clear h1 hi hlx
    go_enter Tryd.func20, Tryd.ntmps20
    go_wp2_with fail
    refine H1.out.mono ?_
    rintro e w1 ⟨rfl, hb⟩
    have HKa := Lib.hid (blk_keep HK1.out hb)
    obtain ⟨x0, x1, _, _, hlx⟩ := blk2cells HKa.out
    have HB1 := Lib.hid (HB.out.trans (hb.mono HB.out.size))
    have hs1 := HB1.out.size
    clear hb
    go_wp2_with fail
    go_loopw [4, 5] (fun v i wr => ∃ (k : Nat) (R : List Row) (A1 : Option Addr) (c1 : Nat), k ≤ n ∧ i = .int .i64 k ∧ v = .slice A1 R.length c1 ∧ R.length = k ∧ dat R = ((toN xs).take k).map (fun r => bitsL r d) ∧ OwnR wr w1.heap.size (.slice A1 R.length c1) R ∧ Below w1.heap.size w1 wr) (fun _ i _ => n - (intOf i).toNat)
    case atStart => exact ⟨0, [], some ⟨w1.heap.size, 0, none⟩, 0, by omega, rfl, rfl, rfl, rfl, OwnR.made w1 (Nat.le_refl _), (Below.refl _ _).alloc (Nat.le_refl _) _⟩
    case round =>
      obtain ⟨k, R, A1, c1, hk, rfl, rfl, hRl, hdat, hown, hbel⟩ := hrel
      obtain ⟨wv, hwv⟩ : ∃ wv, wv = wr := ⟨_, rfl⟩
      subst hwv
      have HO := Lib.hid hown
      have HBL := Lib.hid hbel
      have HD := Lib.hid hdat
      have HRl := Lib.hid hRl
      have hsz := hbel.size
      have hq : R.length < 1099511627776 := by omega
      have HKb := Lib.hid (blk_below HKa.out hbel hlx)
      clear x0 x1
      obtain ⟨x0, x1, _, _, hlv⟩ := blk2cells HKb.out
      by_cases hlt : k < n
      · have hkL : k < (toN xs).length := by rw [Lx.out, ← Hn.out]; exact hlt
        have hz := HSx.out _ (getD_mem hkL)
        have HP : Hid (((toN xs).take (k + 1)).map (fun r => bitsL r d) = ((toN xs).take k).map (fun r => bitsL r d) ++ [bitsL ((toN xs).getD k 0) d]) := Lib.hid (by
          rw [List.take_succ_eq_append_getElem hkL, List.map_append]
          simp [List.getD, hkL])
        have hlti : (k : Int) < (n : Int) := by omega
        have HRz := Lib.hid ((HRx.out.below (HB1.out.trans (hbel.mono hs1))).atN hkL)
        generalize (toN xs).getD k 0 = z at *
        clear hown hbel hdat hRl
        go_wp2_with fail
        go_loopw [6, 7] (fun vv j wr => ∃ m g cp : Nat, m ≤ d ∧ j = .int .i64 m ∧ vv = .slice (some ⟨g, 0, none⟩) m cp ∧ wr.ownsRow wv.heap.size 2 1 (.slice (some ⟨g, 0, none⟩) m cp) m (iv ((bitsL z d).take m)) ∧ Below wv.heap.size wv wr) (fun _ j _ => d - (intOf j).toNat)
        case atStart => exact ⟨0, wv.heap.size, 0, by omega, rfl, rfl, World.ownsRow_made wv #[] 0 (Nat.le_refl _) (by decide) (by simp), (Below.refl _ _).alloc (Nat.le_refl _) _⟩
        case round =>
          obtain ⟨m, g, cp, hm, rfl, rfl, hown2, hbel2⟩ := hrel
          have HO2 := Lib.hid hown2
          have HB2 := Lib.hid hbel2
          have hsz2 := hbel2.size
          obtain ⟨b, o, rfl, hc⟩ := HRz.out
          have hcr := (hbel2.cell (World.block_lt_of_cell? _ _ hc)).trans hc
          clear x0 x1
          obtain ⟨x0, x1, _, _, _⟩ := blk2cells (blk_below HKb.out hbel2 hlv)
          by_cases hlm : m < d
          · have HTS : Hid ((bitsL z d).take (m + 1) = (bitsL z d).take m ++ [bit z m]) := Lib.hid (bitsL_take _ hlm)
            have hmin : min m 64 = m := by omega
            have hlmi : (m : Int) < (d : Int) := by omega
            clear hown2 hbel2 hc
            go_wp2_with (at_builtin; refine wpList_app1 _ _ _ _ _ etI (by rfl) (by rfl) wv.heap.size (.slice (some ⟨g, 0, none⟩) m cp) m (iv ((bitsL z d).take m)) (by rfl) (HO2.out.alloc _) _ (.int .i64 (bit z m)) (by rfl) (new_cell _ _ _) (by rfl) (by omega) (Nat.le_trans hsz2 (Nat.le_of_lt (by simp))) ?_; (intro g1 cap1 w3 hown3 hg3 hat3 hlt3; have HO1 := Lib.hid hown3; have HBN := Lib.hid (below_app HB2.out (by omega) HO2.out hg3); clear hown3 hg3 hat3 hlt3))
            go_roundw
            case rel => exact ⟨m + 1, g1, cap1, by omega, by go_num, rfl, by rw [HTS.out, iv_append]; exact HO1.out, HBN.out⟩
            case measure => simp [intOf]; omega
          · have hlmi : ¬ (m : Int) < (d : Int) := by omega
            obtain rfl : m = d := by omega
            have he : (bitsL z m).take m = bitsL z m := List.take_of_length_le (by rw [bitsL_length]; exact Nat.le_refl _)
            rw [he] at HO2
            clear hown2 hbel2 he hc hcr
            go_wp2_with (at_builtin; refine wpList_app1 _ _ _ _ _ etS (by rfl) (by rfl) w1.heap.size (.slice A1 R.length c1) R.length (hv R) (by rfl) ((HO.out.later HB2.out).out.alloc _) _ (.slice (some ⟨g, 0, none⟩) m cp) (by rfl) (new_cell _ _ _) (by rfl) (by omega) (by simp; omega) ?_; (intro g2 cap2 w3 hown3 hg3 hat3 hlt3; have HQ := Lib.hid (OwnR.push HO.out HB2.out HO2.out (bitsL_length _ _).symm hsz hown3 hg3); have HQ2 := Lib.hid (below_app (HBL.out.trans (HB2.out.mono hsz)) (by omega) (HO.out.later HB2.out).out hg3); clear hown3 hg3 hat3 hlt3))
            go_roundw
            case rel => exact ⟨k + 1, R ++ [⟨some ⟨g, 0, none⟩, cp, bitsL z m⟩], _, _, by omega, by go_num, by rw [List.length_append]; rfl, by rw [List.length_append, HRl.out]; rfl, by rw [dat_append1, HD.out, HP.out], by rw [List.length_append]; exact HQ.out, HQ2.out⟩
            case measure => simp [intOf]; omega
      · have hlti : ¬ (k : Int) < (n : Int) := by omega
        have ek : (toN xs).take k = toN xs := List.take_of_length_le (by rw [Lx.out, ← Hn.out]; omega)
        rw [ek] at HD
        clear hown hbel hdat hRl ek
        go_wp2_with fail
        go_ret2
        rw [HE.out]
        exact ⟨A1, c1, R, rfl, HO.out.mono hs1, HD.out, HB1.out.trans (HBL.out.mono hs1)⟩
end Go.Proofs.YtjhlmalpcelbaaaDoor

namespace Go.Proofs.YtjhlmalpcelbaaaDoor
open Go.RowKit

/-- a number and rows that are drawn -/
def RowsDrawn (w : World) (e : Ending) (w' : World) : Prop :=
  ∃ (y : Int) (A1 : Option Addr) (c1 : Nat) (R : List Row), e = .returned (.tuple #[.int .i64 y, .slice A1 R.length c1]) ∧ RdR w' A1 R ∧ (∀ i, i < R.length → (rg R i).xs.length ≤ 1000) ∧ R.length ≤ 1000 ∧ Below w.heap.size w w'
/-- the rows beside the source and the matrix -/
structure LAt (w wr : World) (g B : Nat) (A : Option Addr) (n c : Nat) (bs : List Nat) (g5 : Nat) (cl : Int) (v5 : Value) (A6 : Option Addr) (c6 : Nat) (R : List Row) : Prop where
  src : SrcAt wr g A n c bs
  box : wr.heap[g5]? = some (.cells #[.int .i64 cl, v5] 26 (0, 0))
  rows : OwnR wr B (.slice A6 R.length c6) R
  bel : Below w.heap.size w wr
  gB : g < B
  hB : w.heap.size ≤ g
  sz : B ≤ wr.heap.size
theorem LAt.step {w wr w' : World} {g B : Nat} {A : Option Addr} {n c : Nat} {bs : List Nat} {g5 : Nat} {cl : Int} {v5 : Value} {A6 : Option Addr} {c6 : Nat} {R : List Row} (h : LAt w wr g B A n c bs g5 cl v5 A6 c6 R) (hs : SrcAt w' g A n c bs) (hk : Keeps wr w' [some g]) : LAt w w' g B A n c bs g5 cl v5 A6 c6 R := by
  have h1 := h.hB
  refine ⟨hs, (hk.block _ (Array.getElem?_eq_some_iff.1 h.box).1 (by simp; exact h.src.box_ne h.box)).trans h.box, h.rows.keeps hk (own_off h.rows.out h.gB) (fun i hi => own_off (h.rows.inn i hi) h.gB), h.bel.trans (hk.to_below h.bel.size (fun j hj => by simp only [List.mem_singleton] at hj; injection hj with hj; omega)), h.gB, h.hB, Nat.le_trans h.sz hk.size⟩

theorem LAt.put {w w5 w7 : World} {g B : Nat} {A : Option Addr} {n c : Nat} {bs : List Nat} {g5 b6 g7 cp k : Nat} {cl : Int} {v5 : Value} {c6 : Nat} {R : List Row} {ys : List Int} (h : LAt w w5 g B A n c bs g5 cl v5 (some ⟨b6, 0, none⟩) c6 R) (hA : ∀ a, A = some a → a.block < w.heap.size) (hR0 : 0 < R.length) (hb6 : B ≤ b6)
    (ho : w7.ownsRow w5.heap.size 2 1 (.slice (some ⟨g7, 0, none⟩) k cp) k (iv ys)) (hk : k = ys.length) (hb : Below w5.heap.size w5 w7) :
    LAt w (w7.setCell ⟨b6, 0, none⟩ (.slice (some ⟨g7, 0, none⟩) k cp)) g B A n c bs g5 cl v5 (some ⟨b6, 0, none⟩) c6 (R.set 0 ⟨some ⟨g7, 0, none⟩, cp, ys⟩) := by
  subst hk
  have hkp := Keeps.of_below hb
  have hrw := h.rows.later hb
  have hsz := h.sz
  have hgB := h.gB
  have hwg := h.hB
  have hbx := (hb.block g5 (Array.getElem?_eq_some_iff.1 h.box).1).trans h.box
  have hne : b6 ≠ g5 := fun e => own_ne hrw.out hbx (by decide) (by rw [e]; rfl)
  have hput := hrw.put (r := ⟨some ⟨g7, 0, none⟩, cp, ys⟩) rfl hR0 (ho.mono h.sz) (fun i hi _ => .inr fun e => by
    have h1 := (ho.lt g7 rfl).1
    have h2 := ((h.rows.inn i hi).lt g7 (by rw [← e]; rfl)).2
    omega)
  have k1 := (Keeps.refl w7 [some b6]).setCell (p := ⟨b6, 0, none⟩) (by simp) (.slice (some ⟨g7, 0, none⟩) ys.length cp)
  have hs7 := h.src.keeps hkp (by simp) (by simp)
  refine ⟨hs7.keeps k1 (by simp; omega) (fun a ha => by have := hA a ha; simp; omega), (k1.block _ (Array.getElem?_eq_some_iff.1 hbx).1 (by simp; omega)).trans hbx, ?_, (h.bel.trans (hb.mono h.bel.size)).trans (k1.to_below (Nat.le_trans h.bel.size hb.size) (fun j hj => by simp only [List.mem_singleton] at hj; injection hj with hj; omega)), h.gB, h.hB, Nat.le_trans h.sz (Nat.le_trans hb.size k1.size)⟩
  rw [List.length_set]
  exact hput

section
variable {w : World} {ops : Array Oper} {rest : List Oper} {o : Oper} {a : Act} {Q : Exit → Act → World → Prop}
/-- a fresh slice of one int, and the rest of a row appended to it -/
theorem wpList_tail (s x : Operand) (hgd : o.guard = none) (ho : o.op = .call { callee := .builtin .append, args := #[s, x], argTypes := #[24, 24] })
    (u : Int) (ad : Addr) (m c' : Nat) (xs : List Int) (hs : a.eval s = .slice (some ⟨w.heap.size, 0, none⟩) 1 1) (hx : a.eval x = .slice (some ad) m c') (hm : xs.length = m)
    (hc : ∀ j v, (iv xs)[j]? = some v → (w.alloc (.cells #[.int .i64 u] 2)).cell? (ad.add j) = some v) (hn : m ≤ 1000000)
    (h : ∀ g cp w', w'.ownsRow w.heap.size 2 1 (.slice (some ⟨g, 0, none⟩) (1 + m) cp) (1 + m) (iv (u :: xs)) → Below w.heap.size w w' → wpList Tryd.prog ops Q rest (a.put o.dst (.slice (some ⟨g, 0, none⟩) (1 + m) cp)) w') :
    wpList Tryd.prog ops Q (o :: rest) a (w.alloc (.cells #[.int .i64 u] 2)) := by
  obtain ⟨i, zz, hi, hz0, hz1, hz2, hz3⟩ := etI.inf
  have hb : Below w.heap.size w (w.alloc (.cells #[.int .i64 u] 2)) := (Below.refl _ _).alloc (Nat.le_refl _) _
  refine wpList_append_arg _ hgd s x _ ho 2 i zz 1 8 etI.und hi hz0 hz1 hz2 hz3 (by omega) w.heap.size 0 1 1 [.int .i64 u] hs (by simp) ?_ ad m c' (iv xs) hx (by rw [iv_length, hm, Nat.mul_one]) hc (iv_one _) ?_ (by unfold maxLen; omega) (by omega) ?_ ?_
  · intro j v hj
    have : j = 0 := by
      have := (List.getElem?_eq_some_iff.1 hj).1
      simpa using this
    subst this
    simp at hj
    subst hj
    exact new_cell _ _ _
  · intro hr j hj
    rw [iv_length, hm] at hj
    omega
  · intro hr
    have h0 : m = 0 := by omega
    have hx0 : xs = [] := List.eq_nil_of_length_eq_zero (by omega)
    subst hx0
    subst h0
    refine h w.heap.size 1 _ ?_ hb
    exact ⟨by simp [iv], .inr ⟨w.heap.size, 1, _, rfl, Nat.le_refl _, blk_new w _, Nat.le_refl _, by unfold maxLen; omega, by simp, by simp [iv]⟩⟩
  · intro hr v' w' ho' hg'
    obtain ⟨A', cp, rfl, hc', hA', _⟩ := owns_shape ho'
    obtain ⟨g', rfl, h1, h2⟩ := hA' (by omega)
    refine h g' cp w' ?_ ?_
    · have e : iv (u :: xs) = [.int .i64 u] ++ iv xs := by simp [iv]
      rw [e]
      exact ho'.mono (by simp)
    · exact ⟨hg'.os.trans hb.os, hg'.tape.trans hb.tape, hg'.output.trans hb.output, Nat.le_trans hb.size hg'.size, fun k hk => (hg'.block k (Nat.lt_of_lt_of_le hk hb.size) (by simp)).trans (hb.block k hk)⟩
end

set_option maxRecDepth 100000 in
set_option maxHeartbeats 4000000 in
theorem drawMol_any (A : Option Addr) (n c : Nat) (bs : List Nat) (w : World) (hn : n = bs.length) (hsm : n ≤ 4096) (hby : ∀ b ∈ bs, b < 256) (hR : Rd w A (bv bs)) (hlt : ∀ a, A = some a → a.block < w.heap.size) :
    Calls Tryd.prog 24 #[.slice A n c] w (RowsDrawn w) := by
  have HFR := Lib.hid (from_any A n c bs w hn hsm hby hR hlt)
  have HA := Lib.hid hlt
  clear hn hby hR hlt
  go_enter Tryd.func24, Tryd.ntmps24
  go_wp2_with fail
  refine HFR.out.mono ?_
  rintro e w1 ⟨rfl, hs1, hb1⟩
  have HS1 := Lib.hid hs1
  have HB1 := Lib.hid hb1
  have hg1 := hs1.lt
  clear hs1 hb1
  go_wp2_with fail
  refine (draw_any w.heap.size A n c bs w1 HS1.out (fun a ha => by have := HA.out a ha; omega)).mono ?_
  rintro e w2 ⟨cl, v1, xs, rfl, ho1, hxl, hs2, hk2⟩
  obtain ⟨A5, c5, rfl, _, _, _⟩ := owns_shape ho1
  have hsz2 := hk2.size
  have HB2 : Hid (Below w.heap.size w (w2.alloc (.cells #[.int .i64 cl, .slice A5 xs.length c5] 26))) := Lib.hid (((HB1.out.trans (hk2.to_below (by omega) (fun j hj => by simp only [List.mem_singleton] at hj; injection hj with hj; omega)))).alloc (by omega) _)
  have HS2 := Lib.hid (hs2.keeps ((Keeps.refl w2 []).alloc (.cells #[.int .i64 cl, .slice A5 xs.length c5] 26)) (by simp) (by simp))
  have HX2 := Lib.hid (blk_new w2 (.cells #[.int .i64 cl, .slice A5 xs.length c5] 26))
  have HLM := Lib.hid (specLom_any cl A5 xs.length c5 xs (w2.alloc (.cells #[.int .i64 cl, .slice A5 xs.length c5] 26)) rfl (by omega) ((owns_Rd ho1).alloc _))
  clear ho1 hs2 hk2
  go_wp2_with fail
  refine HLM.out.mono ?_
  rintro e w3 ⟨A6, c6, R, rfl, hrows, hdat, hb3⟩
  have hszB : (w2.alloc (.cells #[.int .i64 cl, .slice A5 xs.length c5] 26)).heap.size = w2.heap.size + 1 := by simp
  have hkp := Keeps.of_below hb3
  rw [hszB] at hrows hb3
  have H3 : Hid (LAt w w3 w.heap.size (w2.heap.size + 1) A n c bs w2.heap.size cl (.slice A5 xs.length c5) A6 c6 R) := Lib.hid ⟨HS2.out.keeps hkp (by simp) (by simp), (hb3.block _ (by simp)).trans HX2.out, hrows, HB2.out.trans (hb3.mono (by omega)), by omega, Nat.le_refl _, by have := hb3.size; omega⟩
  have HLN : Hid (R.length ≤ 200 ∧ ∀ i, i < R.length → (rg R i).xs.length ≤ 60) := Lib.hid (by
    have hl := congrArg List.length hdat
    rw [dat_length] at hl
    unfold lomOf at hl hdat
    split at hl
    · rename_i hi
      rw [if_pos hi] at hdat
      obtain ⟨d, rfl, hd⟩ := isMat_cols hi
      have hlx := isMat_len hi
      refine ⟨by rw [hl]; simp [toN]; exact hlx, fun i hir => ?_⟩
      rw [← dat_getD, hdat]
      have hil : i < (toN xs).length := by rw [hl] at hir; simpa using hir
      have : ((toN xs).map (fun r => bitsL r (d : Int).toNat)).getD i [] = bitsL ((toN xs).getD i 0) (d : Int).toNat := by simp [List.getD, hil]
      show (((toN xs).map (fun r => bitsL r (d : Int).toNat)).getD i []).length ≤ 60
      rw [this, bitsL_length]
      simpa using hd
    · simp at hl
      refine ⟨by rw [hl]; simp, fun i hir => ?_⟩
      rw [hl] at hir
      simp at hir)
  generalize hg5 : w2.heap.size = g5 at *
  clear hrows hdat hb3 hkp HLM HX2 HS2 HB2 HFR HS1 HB1 hszB
  go_upto_region 4 with (fail)
  go_cut [31] (fun o31 wx => LAt w wx w.heap.size (g5 + 1) A n c bs g5 cl (.slice A5 xs.length c5) A6 c6 R ∧ (o31 = .bool false ∨ (o31 = .bool true ∧ 0 < R.length ∧ 0 < (rg R 0).xs.length)))
  case first =>
    by_cases hR0 : 0 < R.length
    · have hR0i : (0 : Int) < (R.length : Int) := by omega
      obtain ⟨b6, o6, rfl, hc6⟩ := (H3.out.rows.rd rfl).at_ hR0
      simp only [Nat.add_zero] at hc6
      by_cases hr0 : 0 < (rg R 0).xs.length
      · have hr0i : (0 : Int) < ((rg R 0).xs.length : Int) := by omega
        go_wp2_with fail
        refine (next_any w.heap.size A n c bs 10 (by omega) _ H3.out.src).mono ?_
        rintro e w4 ⟨x, rfl, _, _, _, hs4, hk4⟩
        have H4 := Lib.hid (H3.out.step hs4 hk4)
        clear hs4 hk4
        by_cases hx : x = 0
        · subst hx
          go_wp2_with fail
          go_meet
          exact ⟨H4.out, .inr ⟨rfl, hR0, hr0⟩⟩
        · have hxb : (x == 0) = false := by simpa using hx
          go_wp2_with fail
          go_meet
          exact ⟨H4.out, .inl (by first | rfl | rw [hxb])⟩
      · have hr0i : ¬ (0 : Int) < ((rg R 0).xs.length : Int) := by omega
        go_wp2_with fail
        go_meet
        exact ⟨H3.out, .inl (by first | rfl | rw [decide_eq_false hr0i])⟩
    · have hR0i : ¬ (0 : Int) < (R.length : Int) := by omega
      go_wp2_with fail
      go_meet
      exact ⟨H3.out, .inl (by first | rfl | rw [decide_eq_false hR0i])⟩
  case rest =>
  obtain ⟨h5, ho31⟩ := hcut
  have H5 := Lib.hid h5
  clear h5 H3
  generalize wc = w5 at *
  go_upto_if 31 with (fail)
  go_cut [] (fun wx => ∃ R', LAt w wx w.heap.size (g5 + 1) A n c bs g5 cl (.slice A5 xs.length c5) A6 c6 R' ∧ R'.length = R.length ∧ ∀ i, i < R'.length → (rg R' i).xs.length ≤ 61)
  case first =>
    rcases ho31 with rfl | ⟨rfl, hR0, hr0⟩
    · go_wp2_with fail
      go_meet
      exact ⟨R, H5.out, rfl, fun i hi => Nat.le_trans (HLN.out.2 i hi) (by omega)⟩
    · have hR0i : (0 : Int) < (R.length : Int) := by omega
      obtain ⟨A6', c6', e6, _, h6, _⟩ := owns_shape H5.out.rows.out
      obtain ⟨b6, e6', hb6, hb6lt⟩ := h6 hR0
      injection e6 with e61 e62 e63
      subst e61
      subst e6'
      obtain ⟨hc6, hf6⟩ := H5.out.rows.cell rfl hR0
      have hin := H5.out.rows.inn 0 hR0
      have hrl := HLN.out.2 0 hR0
      obtain ⟨Ar, cr, er, hlc, h7, _⟩ := owns_shape hin
      obtain ⟨br, er', hbr, hbr2⟩ := h7 hr0
      obtain ⟨r, hr⟩ : ∃ r : Row, rg R 0 = r := ⟨_, rfl⟩
      rw [hr] at hc6 hin hrl er hlc hr0
      have HRG := Lib.hid hr
      obtain ⟨rA, rc, rx⟩ := r
      simp only [Row.val] at hc6 er hin hrl hlc hr0
      injection er with er1 _ er3
      subst er1
      subst er3
      subst er'
      subst e63
      have HIN := Lib.hid hin
      have h1len : (1 : Int) ≤ (rx.length : Int) := by omega
      have hlci : (rx.length : Int) ≤ (rc : Int) := by omega
      clear hin hr h6 h7 e62
      have HCC : Hid (∀ j v, (iv rx.tail)[j]? = some v → (w5.alloc (.cells #[.int .i64 2] 2)).cell? ⟨br, 1 + j, none⟩ = some v) := Lib.hid (by
        intro j v hj
        have hjl := (List.getElem?_eq_some_iff.1 hj).1
        rw [iv_length, List.length_tail] at hjl
        have h1 := HIN.out.cellAt (j + 1) (by omega)
        have e : (iv rx)[j + 1]? = (iv rx.tail)[j]? := by cases rx <;> simp [iv]
        rw [e, hj] at h1
        rw [Nat.add_comm 1 j]
        exact ((Below.refl w5.heap.size w5).alloc (Nat.le_refl _) _).cell (World.block_lt_of_cell? w5 _ h1) |>.trans h1)
      have htl : rx.tail.length = rx.length - 1 := by simp
      by_cases hcap : rc = 1
      · have hl1 : rx.length = 1 := by omega
        subst hcap
        rw [hl1] at hc6
        go_wp2_with (at_builtin; refine wpList_tail _ _ (by rfl) (by rfl) 2 ⟨br, 0, none⟩ 0 0 [] (by rfl) (by rfl) rfl (fun j v hj => by simp [iv] at hj) (by omega) ?_; (intro g7 cp7 w7 ho7 hb7; have HO7 := Lib.hid ho7; have HB7 := Lib.hid hb7; have hc7 := (hb7.cell (p := ⟨b6, 0, none⟩) hb6lt).trans hc6; have hf7 := (hb7.frozen (p := ⟨b6, 0, none⟩) hb6lt).trans hf6; clear ho7 hb7))
        go_meet
        refine ⟨_, LAt.put H5.out HA.out hR0 hb6 HO7.out (rfl) HB7.out, List.length_set .., fun i hi => ?_⟩
        rw [List.length_set] at hi
        rw [rg_set hR0]
        split
        · show (2 :: ([] : List Int)).length ≤ 61
          simp
        · exact Nat.le_trans (HLN.out.2 i hi) (by omega)
      · have hcap2 : ((rc : Int) == 1) = false := by simp; omega
        go_wp2_with (at_builtin; refine wpList_tail _ _ (by rfl) (by rfl) 2 ⟨br, 1, none⟩ (rx.length - 1) (rc - 1) rx.tail (by rfl) (by rfl) htl (fun j v hj => by rw [Addr.add_lit]; exact HCC.out j v hj) (by omega) ?_; (intro g7 cp7 w7 ho7 hb7; have HO7 := Lib.hid ho7; have HB7 := Lib.hid hb7; have hc7 := (hb7.cell (p := ⟨b6, 0, none⟩) hb6lt).trans hc6; have hf7 := (hb7.frozen (p := ⟨b6, 0, none⟩) hb6lt).trans hf6; clear ho7 hb7))
        go_meet
        refine ⟨_, LAt.put H5.out HA.out hR0 hb6 HO7.out (by rw [List.length_cons, htl]; omega) HB7.out, List.length_set .., fun i hi => ?_⟩
        rw [List.length_set] at hi
        rw [rg_set hR0]
        split
        · show (2 :: rx.tail).length ≤ 61
          rw [List.length_cons, htl]; omega
        · exact Nat.le_trans (HLN.out.2 i hi) (by omega)
  case rest =>
  obtain ⟨R', h7, hRl, hRi⟩ := hcut
  have H7 := Lib.hid h7
  clear h7 H5
  generalize wc = w8 at *
  obtain ⟨z0, z1, _, _, _⟩ := blk2cells H7.out.box
  have H7d := Lib.hid (H7.out.step (H7.out.src.keeps ((Keeps.refl w8 []).drew) (by simp) (by simp)) ((Keeps.refl w8 [some w.heap.size]).drew))
  have HRl := Lib.hid hRl
  have HRi := Lib.hid hRi
  clear hRi
  go_wp2_with fail
  refine wp_region_held_drew (S := (fun w' => w'.cell? ⟨g5, 0, none⟩ = some (.int .i64 cl))) (by kernel_rfl) (by (first | exact z0 | exact (blk2cells H9.out.box).1)) (fun hHeld => ?_)
  refine wpAnyH_take (i := 0) (oi := ?oim1_1) (v := ?vm1_1) ?hm1_1 (by kernel_rfl) (by kernel_rfl) (by kernel_rfl) ?qm1_1 (Or.inl ⟨?wm1_1, ?ym1_1⟩) (by assumption) ?rm1_1
  case hm1_1 => (simp only [List.getElem?_toArray, List.getElem?_cons_succ, List.getElem?_cons_zero]; rfl)
  case qm1_1 => exact fun _ _ _ h => h
  case wm1_1 => rfl
  case ym1_1 => (intro w hSw; (try dsimp only at hSw); go_simp <;> with_reducible rfl)
  try simp only [Act.put, List.setIfInBounds_toArray, List.set_cons_zero, List.set_cons_succ]
  refine wpAnyH_take (i := 1) (oi := ?oim1_2) (v := ?vm1_2) ?hm1_2 (by kernel_rfl) (by kernel_rfl) (by kernel_rfl) ?qm1_2 (Or.inl ⟨?wm1_2, ?ym1_2⟩) (by assumption) ?rm1_2
  case hm1_2 => (simp only [List.getElem?_toArray, List.getElem?_cons_succ, List.getElem?_cons_zero]; rfl)
  case qm1_2 => exact fun _ _ _ h => h
  case wm1_2 => rfl
  case ym1_2 => (intro w hSw; (try dsimp only at hSw); go_simp <;> with_reducible rfl)
  try simp only [Act.put, List.setIfInBounds_toArray, List.set_cons_zero, List.set_cons_succ]
  refine wpAnyH_take (i := 2) (oi := ?oim1_3) (v := ?vm1_3) ?hm1_3 (by kernel_rfl) (by kernel_rfl) (by kernel_rfl) ?qm1_3 (Or.inl ⟨?wm1_3, ?ym1_3⟩) (by assumption) ?rm1_3
  case hm1_3 => (simp only [List.getElem?_toArray, List.getElem?_cons_succ, List.getElem?_cons_zero]; rfl)
  case qm1_3 => exact fun _ _ _ h => h
  case wm1_3 => rfl
  case ym1_3 => (intro w hSw; (try dsimp only at hSw); go_simp <;> with_reducible rfl)
  try simp only [Act.put, List.setIfInBounds_toArray, List.set_cons_zero, List.set_cons_succ]
  refine wpAnyH_take (i := 6) (oi := ?oim1_4) (v := ?vm1_4) ?hm1_4 (by kernel_rfl) (by kernel_rfl) (by kernel_rfl) ?qm1_4 (Or.inl ⟨?wm1_4, ?ym1_4⟩) (by assumption) ?rm1_4
  case hm1_4 => (simp only [List.getElem?_toArray, List.getElem?_cons_succ, List.getElem?_cons_zero]; rfl)
  case qm1_4 => exact fun _ _ _ h => h
  case wm1_4 => rfl
  case ym1_4 => (intro w hSw; (try dsimp only at hSw); go_simp <;> with_reducible rfl)
  try simp only [Act.put, List.setIfInBounds_toArray, List.set_cons_zero, List.set_cons_succ]
  refine wpAnyH_ready (rs := [3]) (by kernel_rfl) (by simp) ?_
  refine AllReadyH.cons (o := ?oim1_5) ?hm1_5 (fun K hK => ?km1_5) ?mm1_5
  case hm1_5 => (simp only [List.getElem?_toArray, List.getElem?_cons_succ, List.getElem?_cons_zero]; rfl)
  case km1_5 =>
    go_simp
    (go_at_call 72); refine (next_any w.heap.size A n c bs 16 (by omega) _ H7d.out.src).mono ?_; rintro e w9 ⟨x, rfl, _, _, _, hs9, hk9⟩; have H9 := Lib.hid (H7d.out.step hs9 hk9); clear hs9 hk9
    refine hK.out _ _ (by (first | exact z0 | exact (blk2cells H9.out.box).1)) (fun hHeld => ?_)
    clear hK K
    try simp only [Act.put, List.setIfInBounds_toArray, List.set_cons_zero, List.set_cons_succ]
    refine wpAnyH_take (i := 4) (oi := ?oim1_6) (v := ?vm1_6) ?hm1_6 (by kernel_rfl) (by kernel_rfl) (by kernel_rfl) ?qm1_6 (Or.inl ⟨?wm1_6, ?ym1_6⟩) (by assumption) ?rm1_6
    case hm1_6 => (simp only [List.getElem?_toArray, List.getElem?_cons_succ, List.getElem?_cons_zero]; rfl)
    case qm1_6 => exact fun _ _ _ h => h
    case wm1_6 => rfl
    case ym1_6 => (intro w hSw; (try dsimp only at hSw); go_simp <;> with_reducible rfl)
    try simp only [Act.put, List.setIfInBounds_toArray, List.set_cons_zero, List.set_cons_succ]
    refine wpAnyH_take (i := 5) (oi := ?oim1_7) (v := ?vm1_7) ?hm1_7 (by kernel_rfl) (by kernel_rfl) (by kernel_rfl) ?qm1_7 (Or.inl ⟨?wm1_7, ?ym1_7⟩) (by assumption) ?rm1_7
    case hm1_7 => (simp only [List.getElem?_toArray, List.getElem?_cons_succ, List.getElem?_cons_zero]; rfl)
    case qm1_7 => exact fun _ _ _ h => h
    case wm1_7 => rfl
    case ym1_7 => (intro w hSw; (try dsimp only at hSw); go_simp <;> with_reducible rfl)
    try simp only [Act.put, List.setIfInBounds_toArray, List.set_cons_zero, List.set_cons_succ]
    refine wpAnyH_take (i := 7) (oi := ?oim1_8) (v := ?vm1_8) ?hm1_8 (by kernel_rfl) (by kernel_rfl) (by kernel_rfl) ?qm1_8 (Or.inl ⟨?wm1_8, ?ym1_8⟩) (by assumption) ?rm1_8
    case hm1_8 => (simp only [List.getElem?_toArray, List.getElem?_cons_succ, List.getElem?_cons_zero]; rfl)
    case qm1_8 => exact fun _ _ _ h => h
    case wm1_8 => rfl
    case ym1_8 => (intro w hSw; (try dsimp only at hSw); go_simp <;> with_reducible rfl)
    try simp only [Act.put, List.setIfInBounds_toArray, List.set_cons_zero, List.set_cons_succ]
    refine wpAnyH_take (i := 8) (oi := ?oim1_9) (v := ?vm1_9) ?hm1_9 (by kernel_rfl) (by kernel_rfl) (by kernel_rfl) ?qm1_9 (Or.inl ⟨?wm1_9, ?ym1_9⟩) (by assumption) ?rm1_9
    case hm1_9 => (simp only [List.getElem?_toArray, List.getElem?_cons_succ, List.getElem?_cons_zero]; rfl)
    case qm1_9 => exact fun _ _ _ h => h
    case wm1_9 => rfl
    case ym1_9 => (intro w hSw; (try dsimp only at hSw); go_simp <;> with_reducible rfl)
    try simp only [Act.put, List.setIfInBounds_toArray, List.set_cons_zero, List.set_cons_succ]
    refine wpAnyH_done (by kernel_rfl) ?_ _
    go_wp2_with fail
    go_ret2
    have hR2 := HLN.out.1
    rw [← HRl.out]
    exact ⟨_, A6, c6, R', rfl, H9.out.rows.rd rfl, fun i hi => Nat.le_trans (HRi.out i hi) (by omega), by have := HRl.out; omega, H9.out.bel⟩
  exact AllReadyH.nil
end Go.Proofs.YtjhlmalpcelbaaaDoor

namespace Go.Proofs.YtjhlmalpcelbaaaDoor
open Go.RowKit

/-- what MatrixOfLists answers -/
def molOf (c : Int) (D : List (List Int)) : Int × List Nat × Int :=
  if (inB c 0 60 && decide (D.length ≤ 200)) = true then (if (D.all (vecB c.toNat)) = true then (c, D.map mk, 0) else (0, [], 2)) else (0, [], 2)
theorem molOf_bad {d : Nat} {D : List (List Int)} {k : Nat} (hk : k < D.length) (h : vecB d (D.getD k []) = false) : molOf d D = (0, [], 2) := by
  unfold molOf
  split
  · rw [if_neg]
    intro h2
    rw [List.all_eq_true] at h2
    have := h2 (D.getD k []) (by rw [List.getD_eq_getElem?_getD, List.getElem?_eq_getElem hk]; exact List.getElem_mem hk)
    rw [Int.toNat_natCast, h] at this
    cases this
  · rfl
theorem molOf_good {d : Nat} {D : List (List Int)} (hd : d ≤ 60) (hl : D.length ≤ 200) (h : ∀ j, j < D.length → vecB d (D.getD j []) = true) : molOf d D = ((d : Int), D.map mk, 0) := by
  unfold molOf
  rw [if_pos (by simp [inB]; omega), if_pos]
  rw [List.all_eq_true]
  intro x hx
  obtain ⟨j, hj, rfl⟩ := List.getElem_of_mem hx
  have := h j hj
  rwa [List.getD_eq_getElem?_getD, List.getElem?_eq_getElem hj] at this

set_option maxRecDepth 100000 in
set_option maxHeartbeats 8000000 in
theorem implMol_any (c : Int) (A : Option Addr) (n cap : Nat) (L : List Row) (w : World) (hn : n = L.length) (hsm : n ≤ 1000000) (hin : ∀ i, i < L.length → (rg L i).xs.length ≤ 1000000) (hR : RdR w A L) :
    Calls Tryd.prog 25 #[.int .i64 c, .slice A n cap] w fun e w' =>
      ∃ v, e = .returned (.tuple #[.agg #[.int .i64 (molOf c (dat L)).1, v], .int .i64 (molOf c (dat L)).2.2]) ∧ w'.ownsRow w.heap.size 2 1 v (molOf c (dat L)).2.1.length (nv (molOf c (dat L)).2.1) ∧ Below w.heap.size w w' := by
  have HZ := Lib.hid (blk_new w (.cells #[.int .i64 0, .slice none 0 0] 26))
  have HB := Lib.hid ((Below.refl w.heap.size w).alloc (Nat.le_refl _) (.cells #[.int .i64 0, .slice none 0 0] 26))
  have HSZ : Hid ((w.alloc (.cells #[.int .i64 0, .slice none 0 0] 26)).heap.size = w.heap.size + 1) := Lib.hid (by simp)
  have HR := Lib.hid hR
  have Hn := Lib.hid hn
  have HIN := Lib.hid hin
  have HI := Lib.hid (fun W => in_any c 0 60 W)
  clear hR hn hin
  cases hi : inB c 0 60 with
  | false =>
    rw [hi] at HI
    have HE : Hid (molOf c (dat L) = (0, [], 2)) := by show _ = _; unfold molOf; rw [if_neg (by simp [hi])]
    obtain ⟨y0, y1, fy0, fy1, _⟩ := blk2cells HZ.out
    clear hi
    go_enter Tryd.func25, Tryd.ntmps25
    go_wp2_with fail
    refine (HI.out _).mono ?_
    rintro e w1 ⟨rfl, rfl⟩
    go_wp2_with fail
    refine bodyPost_ret (v := .tuple #[.agg #[.int .i64 0, .slice none 0 0], .int .i64 2]) ?_ rfl ⟨_, by rw [HE.out], by rw [HE.out]; exact World.ownsRow_nil _ _ _ _, ?_⟩
    · simp [results, Tryd.results25, go_sem, y0, y1]
    · first | exact HB.out | exact (HB.out.setCell (p := ⟨w.heap.size, 0, none⟩) (by simp) _).setCell (p := ⟨w.heap.size, 1, none⟩) (by simp) _
  | true =>
    rw [hi] at HI
    obtain ⟨hc0, hc60⟩ := inB_true hi
    obtain ⟨d, rfl⟩ := Int.eq_ofNat_of_zero_le hc0
    by_cases hl : 200 < n
    · have HE : Hid (molOf d (dat L) = (0, [], 2)) := by show _ = _; unfold molOf; rw [if_neg (by rw [dat_length]; simp; intro; rw [← Hn.out]; omega)]
      have hli : (200 : Int) < (n : Int) := by omega
      clear hi
      go_enter Tryd.func25, Tryd.ntmps25
      go_wp2_with fail
      refine (HI.out _).mono ?_
      rintro e w1 ⟨rfl, rfl⟩
      obtain ⟨y0, y1, fy0, fy1, _⟩ := blk2cells HZ.out
      go_wp2_with fail
      refine bodyPost_ret (v := .tuple #[.agg #[.int .i64 0, .slice none 0 0], .int .i64 2]) ?_ rfl ⟨_, by rw [HE.out], by rw [HE.out]; exact World.ownsRow_nil _ _ _ _, ?_⟩
      · simp [results, Tryd.results25, go_sem, y0, y1]
      · first | exact HB.out | exact (HB.out.setCell (p := ⟨w.heap.size, 0, none⟩) (by simp) _).setCell (p := ⟨w.heap.size, 1, none⟩) (by simp) _
    · have hli : ¬ (200 : Int) < (n : Int) := by omega
      have hd60 : d ≤ 60 := by omega
      clear hi
      go_enter Tryd.func25, Tryd.ntmps25
      go_wp2_with fail
      refine (HI.out _).mono ?_
      rintro e w1 ⟨rfl, rfl⟩
      go_wp2_with fail
      go_loopw [22] (fun i wr => ∃ k : Nat, k ≤ n ∧ i = .int .i64 k ∧ Hid (∀ j, j < k → vecB d ((dat L).getD j []) = true) ∧ OutAt wr (w.heap.size + 1) (w.heap.size + 1) d k (((dat L).take k).map mk) ∧ wr.heap[w.heap.size]? = some (.cells #[.int .i64 0, .slice none 0 0] 26 (0, 0)) ∧ Below w.heap.size w wr ∧ w.heap.size + 1 ≤ wr.heap.size) (fun i _ => n - (intOf i).toNat)
      case atStart => exact ⟨0, by omega, rfl, Lib.hid (fun j hj => absurd hj (by omega)), ⟨_, by have := blk_new1 w (.cells #[.int .i64 0, .slice none 0 0] 26) (.cells #[.int .i64 d, .slice none 0 0] 26); exact this, World.ownsRow_nil _ _ _ _⟩, blk_alloc HZ.out _, HB.out.alloc (by simp) _, by simp⟩
      case round =>
        obtain ⟨k, hk, rfl, HV, ⟨v, hbo, hoo⟩, hbr, hbel, hsz⟩ := hrel
        obtain ⟨y0, y1, fy0, fy1, _⟩ := blk2cells hbr
        obtain ⟨z0, z1, fz0, fz1, lz⟩ := blk2cells hbo
        obtain ⟨Av, cv, rfl, _, _, _⟩ := owns_shape hoo
        have HO := Lib.hid hoo
        have HBO := Lib.hid hbo
        have HBR := Lib.hid hbr
        have HBL := Lib.hid hbel
        clear hoo hbo hbr hbel
        by_cases hlt : k < n
        · have hkL : k < L.length := by rw [← Hn.out]; exact hlt
          have hlti : (k : Int) < (n : Int) := by omega
          have hA1 := HR.out.below HBL.out
          obtain ⟨b1, o1, rfl, hc1⟩ := hA1.at_ hkL
          have HR1 := Lib.hid (hA1.inn k hkL)
          have hl1 := HIN.out k hkL
          have HX : Hid ((dat L).getD k [] = (rg L k).xs) := Lib.hid (dat_getD L k)
          clear hA1
          generalize rg L k = r at *
          obtain ⟨rA, rc, rx⟩ := r
          simp only at hc1 HR1 hl1 HX
          by_cases hrl : rx.length = d
          · have HAL := Lib.hid (all0_any rA rx.length rc rx 73 (fun x => decide (0 ≤ x) && decide (x ≤ 1)) wr (fun args w => Tryd.call73 args w) rfl (by omega) HR1.out (fun x _ o => bit_closure _ x))
            cases hv : vecB d rx with
            | true =>
              obtain ⟨q1, q2⟩ := vec_bits hv
              have hall : (rx.all fun x => decide (0 ≤ x) && decide (x ≤ 1)) = true := by
                unfold vecB at hv
                simp only [Bool.and_eq_true] at hv
                exact hv.1
              rw [hall] at HAL
              have HP : Hid (((dat L).take (k + 1)).map mk = ((dat L).take k).map mk ++ [mk rx]) := Lib.hid (by
                have hkD : k < (dat L).length := by rw [dat_length]; exact hkL
                rw [List.take_succ_eq_append_getElem hkD, List.map_append, ← HX.out]
                simp [List.getD, hkD])
              have HMO := Lib.hid (fun W (hb : Below wr.heap.size wr W) => maskOf_any rA d rc (mk rx) W (by omega) q2 (by rw [← q1]; exact HR1.out.below hb))
              have HV2 : Hid (∀ j, j < k + 1 → vecB d ((dat L).getD j []) = true) := Lib.hid (fun j hj => by
                by_cases e : j = k
                · subst e; rw [HX.out]; exact hv
                · exact HV.out j (by omega))
              subst hrl
              generalize mk rx = yv at *
              generalize ((dat L).take k).map mk = P at *
              have hlb : ((rx.length : Int) != (rx.length : Int)) = false := by simp
              clear q1 q2 hall hv HV
              go_wp2_with fail
              refine HAL.out.mono ?_
              rintro e w2 ⟨rfl, hb2⟩
              have HB2 := Lib.hid hb2
              have HO2 := Lib.hid (owns_keeps HO.out (Keeps.of_below hb2) (.inr (by simp)))
              have HBO2 := Lib.hid (blk_keep HBO.out hb2)
              have HBR2 := Lib.hid (blk_keep HBR.out hb2)
              have hsz2 := hb2.size
              clear hb2 y0 y1 fy0 fy1 z0 z1 fz0 fz1 lz hc1
              obtain ⟨z0, z1, fz0, fz1, lz⟩ := blk2cells HBO2.out
              go_wp2_with fail
              refine wp_region_K (S := (fun w' => w'.cell? ⟨w.heap.size + 1, 1, none⟩ = some (.slice Av k cv))) 6 (by kernel_rfl) (by (first | exact z1 | exact (((Below.refl w2.heap.size w2).drew.alloc (Nat.le_refl _) _).cell (World.block_lt_of_cell? w2 _ z1)).trans z1 | exact p1)) (fun hHeld => ?_)
              refine wpAnyK_take (i := 0) (oi := ?oik1_1) (v := ?vk1_1) ?hk1_1 (by kernel_rfl) (by kernel_rfl) (by kernel_rfl) (by kernel_rfl) ?qk1_1 (Or.inl ⟨?wk1_1, ?yk1_1⟩) (by assumption) ?rk1_1
              case hk1_1 => (simp only [List.getElem?_toArray, List.getElem?_cons_succ, List.getElem?_cons_zero]; rfl)
              case qk1_1 => exact fun _ _ _ h => h
              case wk1_1 => rfl
              case yk1_1 => (intro w hSw; (try dsimp only at hSw); go_simp <;> with_reducible rfl)
              try simp only [Act.put, List.setIfInBounds_toArray, List.set_cons_zero, List.set_cons_succ]
              refine wpAnyK_take (i := 1) (oi := ?oik1_2) (v := ?vk1_2) ?hk1_2 (by kernel_rfl) (by kernel_rfl) (by kernel_rfl) (by kernel_rfl) ?qk1_2 (Or.inl ⟨?wk1_2, ?yk1_2⟩) (by assumption) ?rk1_2
              case hk1_2 => (simp only [List.getElem?_toArray, List.getElem?_cons_succ, List.getElem?_cons_zero]; rfl)
              case qk1_2 => exact fun _ _ _ h => h
              case wk1_2 => rfl
              case yk1_2 => (intro w hSw; (try dsimp only at hSw); go_simp <;> with_reducible rfl)
              try simp only [Act.put, List.setIfInBounds_toArray, List.set_cons_zero, List.set_cons_succ]
              refine wpAnyK_take (i := 2) (oi := ?oik1_3) (v := ?vk1_3) ?hk1_3 (by kernel_rfl) (by kernel_rfl) (by kernel_rfl) (by kernel_rfl) ?qk1_3 (Or.inl ⟨?wk1_3, ?yk1_3⟩) (by assumption) ?rk1_3
              case hk1_3 => (simp only [List.getElem?_toArray, List.getElem?_cons_succ, List.getElem?_cons_zero]; rfl)
              case qk1_3 => exact fun _ _ _ h => h
              case wk1_3 => rfl
              case yk1_3 => (intro w hSw; (try dsimp only at hSw); go_simp <;> with_reducible rfl)
              try simp only [Act.put, List.setIfInBounds_toArray, List.set_cons_zero, List.set_cons_succ]
              refine wpAnyK_ready (rs := [3]) (by kernel_rfl) (by simp) ?_
              refine AllReadyK.cons (o := ?oik1_4) ?hk1_4 (fun K hK => ?kk1_4) ?mk1_4
              case hk1_4 => (simp only [List.getElem?_toArray, List.getElem?_cons_succ, List.getElem?_cons_zero]; rfl)
              case kk1_4 =>
                go_simp
                (go_at_call 74; refine (HMO.out w2.drew HB2.out.drew).mono ?_; rintro e w' ⟨rfl, rfl⟩)
                refine hK.out _ _ (by (first | exact z1 | exact (((Below.refl w2.heap.size w2).drew.alloc (Nat.le_refl _) _).cell (World.block_lt_of_cell? w2 _ z1)).trans z1 | exact p1)) (fun hHeld => ?_)
                clear hK K
                try simp only [Act.put, List.setIfInBounds_toArray, List.set_cons_zero, List.set_cons_succ]
                refine wpAnyK_ready (rs := [4]) (by kernel_rfl) (by simp) ?_
                refine AllReadyK.cons (o := ?oik1_5) ?hk1_5 (fun K hK => ?kk1_5) ?mk1_5
                case hk1_5 => (simp only [List.getElem?_toArray, List.getElem?_cons_succ, List.getElem?_cons_zero]; rfl)
                case kk1_5 =>
                  go_simp
                  refine hK.out _ _ (by (first | exact z1 | exact (((Below.refl w2.heap.size w2).drew.alloc (Nat.le_refl _) _).cell (World.block_lt_of_cell? w2 _ z1)).trans z1 | exact p1)) (fun hHeld => ?_)
                  clear hK K
                  try simp only [Act.put, List.setIfInBounds_toArray, List.set_cons_zero, List.set_cons_succ]
                  refine wpAnyK_ready (rs := [5]) (by kernel_rfl) (by simp) ?_
                  refine AllReadyK.cons (o := ?oik1_6) ?hk1_6 (fun K hK => ?kk1_6) ?mk1_6
                  case hk1_6 => (simp only [List.getElem?_toArray, List.getElem?_cons_succ, List.getElem?_cons_zero]; rfl)
                  case kk1_6 =>
                    (refine step_app1 _ _ _ _ _ etI (by rfl) (by rfl) (w.heap.size + 1) (.slice Av k cv) k (nv P) (by rfl) ?_ _ (.int .i64 (yv : Int)) (by rfl) ?_ (by rfl) ?_ ?_ ?_; exact HO2.out.drew.alloc _; exact new_cell _ _ _; omega; exact Nat.le_trans (by omega : w.heap.size + 1 ≤ w2.heap.size) (by simp); (intro g2 cap2 w3 hown3 hg3 hat3 hlt3; have HQ := Lib.hid (OutAt.app (w2 := w2.drew) (Nat.le_refl _) HBO2.out HO2.out.drew hown3 hg3); have hb4 := blk2cells (blk_grown (w := (w2.alloc (.cells #[.int .i64 (yv : Int)] 2)).drew) (blk_alloc HBO2.out (.cells #[.int .i64 (yv : Int)] 2)) hg3 (own_ne HO2.out HBO2.out (by decide))); obtain ⟨p0, p1, pf0, pf1, pl⟩ := hb4; clear hown3 hg3 hat3 hlt3))
                    refine hK.out _ _ (by (first | exact z1 | exact (((Below.refl w2.heap.size w2).drew.alloc (Nat.le_refl _) _).cell (World.block_lt_of_cell? w2 _ z1)).trans z1 | exact p1)) (fun hHeld => ?_)
                    clear hK K
                    try simp only [Act.put, List.setIfInBounds_toArray, List.set_cons_zero, List.set_cons_succ]
                    refine wpAnyK_ready (rs := [6]) (by kernel_rfl) (by simp) ?_
                    refine AllReadyK.fin (o := ?oik1_7) (by decide) ?hk1_7 (fun K hK => ?kk1_7) ?mk1_7
                    case hk1_7 => (simp only [List.getElem?_toArray, List.getElem?_cons_succ, List.getElem?_cons_zero]; rfl)
                    case kk1_7 =>
                      go_simp
                      refine hK.out _ _ ?_
                      clear hK K
                      try simp only [Act.put, List.setIfInBounds_toArray, List.set_cons_zero, List.set_cons_succ]
                      refine wpAnyK_ready (rs := [7]) (by kernel_rfl) (by simp) ?_
                      refine AllReadyK.fin (o := ?oik1_8) (by decide) ?hk1_8 (fun K hK => ?kk1_8) ?mk1_8
                      case hk1_8 => (simp only [List.getElem?_toArray, List.getElem?_cons_succ, List.getElem?_cons_zero]; rfl)
                      case kk1_8 =>
                        go_simp
                        refine hK.out _ _ ?_
                        clear hK K
                        try simp only [Act.put, List.setIfInBounds_toArray, List.set_cons_zero, List.set_cons_succ]
                        refine wpAnyK_done (by kernel_rfl) ?_ _
                        go_wp2_with fail
                        go_roundw
                        case rel =>
                          obtain ⟨q1, q2⟩ := HQ.out
                          have q3 := q2.size
                          exact ⟨k + 1, by omega, by go_num, HV2.out, by rw [HP.out]; exact q1, blk_below (w := w2.drew) HBR2.out q2 (by omega), (HBL.out.trans (HB2.out.mono HBL.out.size)).trans (Below.trans ((Below.refl _ _).drew) (q2.mono (by omega))), Nat.le_trans (by omega : w.heap.size + 1 ≤ w2.heap.size) q3⟩
                        case measure => simp [intOf]; omega
                      exact AllReadyK.nil
                    exact AllReadyK.nil
                  exact AllReadyK.nil
                exact AllReadyK.nil
              exact AllReadyK.nil
            | false =>
              have HE : Hid (molOf d (dat L) = (0, [], 2)) := Lib.hid (molOf_bad (by rw [dat_length]; exact hkL) (by rw [HX.out]; exact hv))
              have hall : (rx.all fun x => decide (0 ≤ x) && decide (x ≤ 1)) = false := by
                unfold vecB at hv
                rw [hrl] at hv
                simpa using hv
              rw [hall] at HAL
              subst hrl
              have hlb : ((rx.length : Int) != (rx.length : Int)) = false := by simp
              clear hall hv HV
              go_wp2_with fail
              refine HAL.out.mono ?_
              rintro e w2 ⟨rfl, hb2⟩
              have HB2 := Lib.hid (HBL.out.trans (hb2.mono HBL.out.size))
              have HBR2 := Lib.hid (blk_keep HBR.out hb2)
              clear hb2 y0 y1 fy0 fy1 z0 z1 fz0 fz1 lz hc1
              obtain ⟨y0, y1, fy0, fy1, _⟩ := blk2cells HBR2.out
              go_wp2_with fail
              refine bodyPost_ret (v := .tuple #[.agg #[.int .i64 0, .slice none 0 0], .int .i64 2]) ?_ rfl ⟨_, by rw [HE.out], by rw [HE.out]; exact World.ownsRow_nil _ _ _ _, ?_⟩
              · simp [results, Tryd.results25, go_sem, y0, y1]
              · exact (HB2.out.setCell (p := ⟨w.heap.size, 0, none⟩) (by simp) _).setCell (p := ⟨w.heap.size, 1, none⟩) (by simp) _
          · have HE : Hid (molOf d (dat L) = (0, [], 2)) := Lib.hid (molOf_bad (by rw [dat_length]; exact hkL) (by
              rw [HX.out, Bool.eq_false_iff]; intro h; exact hrl (vecB_iff.1 h).1))
            have hlb : ((rx.length : Int) != (d : Int)) = true := by simp; omega
            clear HV hrl
            go_wp2_with fail
            refine bodyPost_ret (v := .tuple #[.agg #[.int .i64 0, .slice none 0 0], .int .i64 2]) ?_ rfl ⟨_, by rw [HE.out], by rw [HE.out]; exact World.ownsRow_nil _ _ _ _, ?_⟩
            · simp [results, Tryd.results25, go_sem, y0, y1]
            · exact (HBL.out.setCell (p := ⟨w.heap.size, 0, none⟩) (by simp) _).setCell (p := ⟨w.heap.size, 1, none⟩) (by simp) _
        · have hlti : ¬ (k : Int) < (n : Int) := by omega
          have ekn : k = L.length := by rw [← Hn.out]; omega
          have ek : (dat L).take k = dat L := List.take_of_length_le (by rw [dat_length]; omega)
          rw [ek] at HO
          have HE : Hid (molOf d (dat L) = ((d : Int), (dat L).map mk, 0)) := Lib.hid (molOf_good hd60 (by rw [dat_length, ← Hn.out]; omega) (fun j hj => HV.out j (by rw [dat_length] at hj; omega)))
          have HEK := Lib.hid ekn
          clear ek ekn hlt hk
          go_wp2_with fail
          refine bodyPost_ret (v := .tuple #[.agg #[.int .i64 d, .slice Av k cv], .int .i64 0]) ?_ rfl ⟨_, by rw [HE.out], ?_, ?_⟩
          · simp [results, Tryd.results25, go_sem, y0, y1]
          · rw [HE.out]
            refine own_cast (owns_keeps HO.out (((Keeps.refl wr [some w.heap.size]).setCell (p := ⟨w.heap.size, 0, none⟩) (by simp) _).setCell (p := ⟨w.heap.size, 1, none⟩) (by simp) _) (.inr ?_) |>.mono (by omega)) (by rw [List.length_map, dat_length, HEK.out]) rfl
            simp only [List.mem_singleton]
            exact own_ne HO.out HBR.out (by decide)
          · exact (HBL.out.setCell (p := ⟨w.heap.size, 0, none⟩) (by simp) _).setCell (p := ⟨w.heap.size, 1, none⟩) (by simp) _
end Go.Proofs.YtjhlmalpcelbaaaDoor

namespace Go.Proofs.YtjhlmalpcelbaaaDoor
open Go.RowKit

attribute [local go_sem] i64_or_nat in
set_option maxRecDepth 100000 in
set_option maxHeartbeats 8000000 in
theorem specMol_any (c : Int) (A : Option Addr) (n cap : Nat) (L : List Row) (w : World) (hn : n = L.length) (hsm : n ≤ 1000000) (hin : ∀ i, i < L.length → (rg L i).xs.length ≤ 1000000) (hR : RdR w A L) :
    Calls Tryd.prog 26 #[.int .i64 c, .slice A n cap] w fun e w' =>
      ∃ v, e = .returned (.tuple #[.agg #[.int .i64 (molOf c (dat L)).1, v], .int .i64 (molOf c (dat L)).2.2]) ∧ w'.ownsRow w.heap.size 2 1 v (molOf c (dat L)).2.1.length (nv (molOf c (dat L)).2.1) ∧ Below w.heap.size w w' := by
  have HZ := Lib.hid (blk_new w (.cells #[.int .i64 0, .slice none 0 0] 26))
  have HB := Lib.hid ((Below.refl w.heap.size w).alloc (Nat.le_refl _) (.cells #[.int .i64 0, .slice none 0 0] 26))
  have HSZ : Hid ((w.alloc (.cells #[.int .i64 0, .slice none 0 0] 26)).heap.size = w.heap.size + 1) := Lib.hid (by simp)
  have HR := Lib.hid hR
  have Hn := Lib.hid hn
  have HIN := Lib.hid hin
  have HI := Lib.hid (fun W => l01In_any c 0 60 W)
  clear hR hn hin
  cases hi : inB c 0 60 with
  | false =>
    rw [hi] at HI
    have HE : Hid (molOf c (dat L) = (0, [], 2)) := by show _ = _; unfold molOf; rw [if_neg (by simp [hi])]
    obtain ⟨y0, y1, fy0, fy1, _⟩ := blk2cells HZ.out
    clear hi
    go_enter Tryd.func26, Tryd.ntmps26
    go_wp2_with fail
    refine (HI.out _).mono ?_
    rintro e w1 ⟨rfl, rfl⟩
    go_wp2_with fail
    refine bodyPost_ret (v := .tuple #[.agg #[.int .i64 0, .slice none 0 0], .int .i64 2]) ?_ rfl ⟨_, by rw [HE.out], by rw [HE.out]; exact World.ownsRow_nil _ _ _ _, ?_⟩
    · simp [results, Tryd.results26, go_sem, y0, y1]
    · first | exact HB.out | exact (HB.out.setCell (p := ⟨w.heap.size, 0, none⟩) (by simp) _).setCell (p := ⟨w.heap.size, 1, none⟩) (by simp) _
  | true =>
    rw [hi] at HI
    obtain ⟨hc0, hc60⟩ := inB_true hi
    obtain ⟨d, rfl⟩ := Int.eq_ofNat_of_zero_le hc0
    by_cases hl : 200 < n
    · have HE : Hid (molOf d (dat L) = (0, [], 2)) := by show _ = _; unfold molOf; rw [if_neg (by rw [dat_length]; simp; intro; rw [← Hn.out]; omega)]
      have hli : (200 : Int) < (n : Int) := by omega
      clear hi
      go_enter Tryd.func26, Tryd.ntmps26
      go_wp2_with fail
      refine (HI.out _).mono ?_
      rintro e w1 ⟨rfl, rfl⟩
      obtain ⟨y0, y1, fy0, fy1, _⟩ := blk2cells HZ.out
      go_wp2_with fail
      refine bodyPost_ret (v := .tuple #[.agg #[.int .i64 0, .slice none 0 0], .int .i64 2]) ?_ rfl ⟨_, by rw [HE.out], by rw [HE.out]; exact World.ownsRow_nil _ _ _ _, ?_⟩
      · simp [results, Tryd.results26, go_sem, y0, y1]
      · first | exact HB.out | exact (HB.out.setCell (p := ⟨w.heap.size, 0, none⟩) (by simp) _).setCell (p := ⟨w.heap.size, 1, none⟩) (by simp) _
    · have hli : ¬ (200 : Int) < (n : Int) := by omega
      have hd60 : d ≤ 60 := by omega
      clear hi
      go_enter Tryd.func26, Tryd.ntmps26
      go_wp2_with fail
      refine (HI.out _).mono ?_
      rintro e w1 ⟨rfl, rfl⟩
      go_wp2_with fail
      go_loopw [7] (fun i wr => ∃ k : Nat, k ≤ n ∧ i = .int .i64 k ∧ Hid (∀ j, j < k → vecB d ((dat L).getD j []) = true) ∧ OutAt wr (w.heap.size + 1) (w.heap.size + 1) d k (((dat L).take k).map mk) ∧ wr.heap[w.heap.size]? = some (.cells #[.int .i64 0, .slice none 0 0] 26 (0, 0)) ∧ Below w.heap.size w wr ∧ w.heap.size + 1 ≤ wr.heap.size) (fun i _ => n - (intOf i).toNat)
      case atStart => exact ⟨0, by omega, rfl, Lib.hid (fun j hj => absurd hj (by omega)), ⟨_, by have := blk_new1 w (.cells #[.int .i64 0, .slice none 0 0] 26) (.cells #[.int .i64 d, .slice none 0 0] 26); exact this, World.ownsRow_nil _ _ _ _⟩, blk_alloc HZ.out _, HB.out.alloc (by simp) _, by simp⟩
      case round =>
        obtain ⟨k, hk, rfl, HV, ⟨v, hbo, hoo⟩, hbr, hbel, hsz⟩ := hrel
        obtain ⟨y0, y1, fy0, fy1, _⟩ := blk2cells hbr
        obtain ⟨z0, z1, fz0, fz1, lz⟩ := blk2cells hbo
        obtain ⟨Av, cv, rfl, _, _, _⟩ := owns_shape hoo
        have HO := Lib.hid hoo
        have HBO := Lib.hid hbo
        have HBR := Lib.hid hbr
        have HBL := Lib.hid hbel
        clear hoo hbo hbr hbel
        by_cases hlt : k < n
        · have hkL : k < L.length := by rw [← Hn.out]; exact hlt
          have hlti : (k : Int) < (n : Int) := by omega
          have hA1 := HR.out.below HBL.out
          obtain ⟨b1, o1, rfl, hc1⟩ := hA1.at_ hkL
          have HR1 := Lib.hid (hA1.inn k hkL)
          have hl1 := HIN.out k hkL
          have HX : Hid ((dat L).getD k [] = (rg L k).xs) := Lib.hid (dat_getD L k)
          clear hA1
          generalize rg L k = r at *
          obtain ⟨rA, rc, rx⟩ := r
          simp only at hc1 HR1 hl1 HX
          by_cases hrl : rx.length = d
          · have HP : Hid (((dat L).take (k + 1)).map mk = ((dat L).take k).map mk ++ [mk rx]) := Lib.hid (by
              have hkD : k < (dat L).length := by rw [dat_length]; exact hkL
              rw [List.take_succ_eq_append_getElem hkD, List.map_append, ← HX.out]
              simp [List.getD, hkD])
            subst hrl
            have hlb : ((rx.length : Int) != (rx.length : Int)) = false := by simp
            have HVV := HV
            clear HV
            go_wp2_with fail
            obtain ⟨wv, hwv⟩ : ∃ wv, wv = wr := ⟨_, rfl⟩
            subst hwv
            go_loop [8, 9] (fun t j => ∃ m : Nat, m ≤ rx.length ∧ j = .int .i64 m ∧ t = .int .i64 (mk (rx.take m) : Nat) ∧ Hid (∀ i, i < m → 0 ≤ rx.getD i 0 ∧ rx.getD i 0 ≤ 1)) (fun _ j => rx.length - (intOf j).toNat)
            case atStart => exact ⟨0, by omega, rfl, rfl, Lib.hid (fun i hi => absurd hi (by omega))⟩
            case round =>
              obtain ⟨m, hm, rfl, rfl, HBT⟩ := hrel
              by_cases hlm : m < rx.length
              · have hlmi : (m : Int) < (rx.length : Int) := by omega
                obtain ⟨b2, o2, rfl, hc2⟩ := HR1.out.atI hlm
                have HMT := Lib.hid (mk_take (v := rx) hlm)
                have HII := Lib.hid (fun W => l01In_any (rx.getD m 0) 0 1 W)
                have hms : mk (rx.take m) < 2 ^ m := by
                  have := mk_lt (rx.take m)
                  rwa [List.length_take, Nat.min_eq_left (by omega)] at this
                have h1 : Sm (mk (rx.take m)) := sm_pow (n := m) (by omega) hms
                have hBD : Hid (¬ inB (rx.getD m 0) 0 1 = true → vecB rx.length rx = false) := Lib.hid (fun h => by
                  rw [Bool.eq_false_iff]
                  intro h2
                  have h3 := (vecB_iff.1 h2).2 m hlm
                  exact h (by simp [inB]; exact h3))
                have hIB : Hid (inB (rx.getD m 0) 0 1 = true → 0 ≤ rx.getD m 0 ∧ rx.getD m 0 ≤ 1) := Lib.hid (fun h => inB_true h)
                obtain ⟨x, HXE⟩ : ∃ x, Hid (rx.getD m 0 = x) := ⟨_, Lib.hid rfl⟩
                rw [HXE.out] at hc2 HMT HII hBD hIB
                have h2 : Sm (2 ^ m) := sm_pow (n := m + 1) (by omega) (pow_lt_pow (by omega))
                have hor := i64_or_nat h1 h2
                have he : ((2 ^ m : Nat) : Int) = (2 : Int) ^ m := by simp
                rw [he] at hor
                obtain ⟨p1, p2⟩ := pow62 (d := m) (by omega)
                have hmin : min m 64 = m := by omega
                cases hib : inB x 0 1 with
                | true =>
                  have hb01 := hIB.out hib
                  rw [hib] at HII
                  have HBT2 : Hid (∀ i, i < m + 1 → 0 ≤ rx.getD i 0 ∧ rx.getD i 0 ≤ 1) := Lib.hid (fun i hi => by
                    by_cases e : i = m
                    · subst e; rw [HXE.out]; exact hb01
                    · exact HBT.out i (by omega))
                  generalize mk (rx.take m) = p at *
                  have hx01 : x = 0 ∨ x = 1 := by omega
                  clear hib hBD hIB HBT hb01 HXE he
                  rcases hx01 with rfl | rfl
                  · have HE2 : Hid (mk (rx.take (m + 1)) = p) := Lib.hid (by rw [HMT.out, if_neg (by omega)]; unfold orr; simp)
                    have hz := i64_or_zero h1
                    clear HMT hor
                    go_wp2_with fail
                    refine (HII.out _).mono ?_
                    rintro e w2 ⟨rfl, rfl⟩
                    go_wp2_with fail
                    go_round
                    case rel => exact ⟨m + 1, by omega, by go_num, by rw [HE2.out], HBT2⟩
                    case measure => simp [intOf]; omega
                  · have HE2 : Hid (mk (rx.take (m + 1)) = orr p (2 ^ m)) := Lib.hid (by rw [HMT.out, if_pos rfl])
                    clear HMT
                    go_wp2_with fail
                    refine (HII.out _).mono ?_
                    rintro e w2 ⟨rfl, rfl⟩
                    go_wp2_with fail
                    go_round
                    case rel => exact ⟨m + 1, by omega, by go_num, by rw [HE2.out], HBT2⟩
                    case measure => simp [intOf]; omega
                | false =>
                  have HE : Hid (molOf rx.length (dat L) = (0, [], 2)) := Lib.hid (molOf_bad (by rw [dat_length]; exact hkL) (by rw [HX.out]; exact hBD.out (by rw [hib]; simp)))
                  rw [hib] at HII
                  clear hib HBT hBD hIB
                  go_wp2_with fail
                  refine (HII.out _).mono ?_
                  rintro e w2 ⟨rfl, rfl⟩
                  go_wp2_with fail
                  refine bodyPost_ret (v := .tuple #[.agg #[.int .i64 0, .slice none 0 0], .int .i64 2]) ?_ rfl ⟨_, by rw [HE.out], by rw [HE.out]; exact World.ownsRow_nil _ _ _ _, ?_⟩
                  · simp [results, Tryd.results26, go_sem, y0, y1]
                  · exact (HBL.out.setCell (p := ⟨w.heap.size, 0, none⟩) (by simp) _).setCell (p := ⟨w.heap.size, 1, none⟩) (by simp) _
              · have hlmi : ¬ (m : Int) < (rx.length : Int) := by omega
                have em : m = rx.length := by omega
                have HV2 : Hid (∀ j, j < k + 1 → vecB rx.length ((dat L).getD j []) = true) := Lib.hid (fun j hj => by
                  by_cases e : j = k
                  · subst e; rw [HX.out]; exact vecB_iff.2 ⟨rfl, fun i hi => HBT.out i (by omega)⟩
                  · exact HVV.out j (by omega))
                have et : rx.take m = rx := List.take_of_length_le (by omega)
                rw [et]
                clear HBT em et hlm hm
                generalize mk rx = yv at *
                generalize ((dat L).take k).map mk = P at *
                go_wp2_with (at_builtin; refine wpList_app1 _ _ _ _ _ etI (by rfl) (by rfl) (w.heap.size + 1) (.slice Av k cv) k (nv P) (by rfl) (HO.out.alloc _) _ (.int .i64 (yv : Int)) (by rfl) (new_cell _ _ _) (by rfl) (by omega) (Nat.le_trans hsz (Nat.le_of_lt (by simp))) ?_; (intro g2 cap2 w3 hown3 hg3 hat3 hlt3; have HQ := Lib.hid (OutAt.app (Nat.le_refl _) HBO.out HO.out hown3 hg3); have hb4 := blk2cells (blk_grown (blk_alloc HBO.out (.cells #[.int .i64 (yv : Int)] 2)) hg3 (own_ne HO.out HBO.out (by decide))); obtain ⟨p0, p1, pf0, pf1, pl⟩ := hb4; clear hown3 hg3 hat3 hlt3))
                go_roundw
                case rel =>
                  obtain ⟨q1, q2⟩ := HQ.out
                  have q3 := q2.size
                  exact ⟨k + 1, by omega, by go_num, HV2.out, by rw [HP.out]; exact q1, blk_below HBR.out q2 (by omega), HBL.out.trans (q2.mono (by omega)), Nat.le_trans hsz q3⟩
                case measure => simp [intOf]; omega
          · have HE : Hid (molOf d (dat L) = (0, [], 2)) := Lib.hid (molOf_bad (by rw [dat_length]; exact hkL) (by
              rw [HX.out, Bool.eq_false_iff]; intro h; exact hrl (vecB_iff.1 h).1))
            have hlb : ((rx.length : Int) != (d : Int)) = true := by simp; omega
            clear HV hrl
            go_wp2_with fail
            refine bodyPost_ret (v := .tuple #[.agg #[.int .i64 0, .slice none 0 0], .int .i64 2]) ?_ rfl ⟨_, by rw [HE.out], by rw [HE.out]; exact World.ownsRow_nil _ _ _ _, ?_⟩
            · simp [results, Tryd.results26, go_sem, y0, y1]
            · exact (HBL.out.setCell (p := ⟨w.heap.size, 0, none⟩) (by simp) _).setCell (p := ⟨w.heap.size, 1, none⟩) (by simp) _
        · have hlti : ¬ (k : Int) < (n : Int) := by omega
          have ekn : k = L.length := by rw [← Hn.out]; omega
          have ek : (dat L).take k = dat L := List.take_of_length_le (by rw [dat_length]; omega)
          rw [ek] at HO
          have HE : Hid (molOf d (dat L) = ((d : Int), (dat L).map mk, 0)) := Lib.hid (molOf_good hd60 (by rw [dat_length, ← Hn.out]; omega) (fun j hj => HV.out j (by rw [dat_length] at hj; omega)))
          have HEK := Lib.hid ekn
          clear ek ekn hlt hk
          go_wp2_with fail
          refine bodyPost_ret (v := .tuple #[.agg #[.int .i64 d, .slice Av k cv], .int .i64 0]) ?_ rfl ⟨_, by rw [HE.out], ?_, ?_⟩
          · simp [results, Tryd.results26, go_sem, y0, y1]
          · rw [HE.out]
            refine own_cast (owns_keeps HO.out (((Keeps.refl wr [some w.heap.size]).setCell (p := ⟨w.heap.size, 0, none⟩) (by simp) _).setCell (p := ⟨w.heap.size, 1, none⟩) (by simp) _) (.inr ?_) |>.mono (by omega)) (by rw [List.length_map, dat_length, HEK.out]) rfl
            simp only [List.mem_singleton]
            exact own_ne HO.out HBR.out (by decide)
          · exact (HBL.out.setCell (p := ⟨w.heap.size, 0, none⟩) (by simp) _).setCell (p := ⟨w.heap.size, 1, none⟩) (by simp) _
end Go.Proofs.YtjhlmalpcelbaaaDoor
