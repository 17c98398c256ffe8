/- rows of rows: slices of slices of ints · the laws' own helpers at rows of rows · the laws' own helpers at rows of rows: equality, marks -/
import Derived.Test.YtocllmhkppkfoaaGreatDoorZab
namespace Go.Proofs.YtocllmhkppkfoaaGreatDoor
open Go.RowKit

theorem infoS : (Tryz.prog.info? 22).map (fun i => (i.zero, i.size, i.bytes)) = some (some (.slice none 0 0), 1, 24) := by kernel_rfl
theorem etS : ET Tryz.prog 23 22 24 := ET.mk' (z := .slice none 0 0) Tryz.underlying23 (by kernel_rfl) (by decide) (by decide)

/-- an inner slice: where it lies, its capacity, its numbers -/
structure Row where
  A : Option Addr
  c : Nat
  xs : List Int
def Row.val (r : Row) : Value := .slice r.A r.xs.length r.c
def r0 : Row := ⟨none, 0, []⟩
def hv (L : List Row) : List Value := L.map Row.val
def dat (L : List Row) : List (List Int) := L.map Row.xs
def rg (L : List Row) (k : Nat) : Row := L.getD k r0
def tot (L : List Row) : Nat := (L.map fun r => r.xs.length).sum
theorem hv_length (L : List Row) : (hv L).length = L.length := by simp [hv]
theorem dat_length (L : List Row) : (dat L).length = L.length := by simp [dat]
theorem rg_of {L : List Row} {k : Nat} (h : k < L.length) : rg L k = L[k] := by simp [rg, List.getD, h]
theorem rg_mem {L : List Row} {k : Nat} (h : k < L.length) : rg L k ∈ L := by rw [rg_of h]; exact List.getElem_mem h
theorem hv_get {L : List Row} {k : Nat} (h : k < L.length) : (hv L)[k]? = some (rg L k).val := by
  rw [rg_of h]; simp [hv, h]
theorem dat_getD (L : List Row) (k : Nat) : (dat L).getD k [] = (rg L k).xs := by
  simp only [dat, rg, List.getD, List.getElem?_map]; cases L[k]? <;> rfl
theorem rg_set {L : List Row} {j : Nat} (hj : j < L.length) (r : Row) (i : Nat) : rg (L.set j r) i = if i = j then r else rg L i := by
  simp only [rg, List.getD, List.getElem?_set]
  by_cases h : j = i
  · subst h; simp [hj]
  · simp [h, Ne.symm h]
theorem tot_succ {L : List Row} {k : Nat} (h : k < L.length) : tot (L.take (k + 1)) = tot (L.take k) + (rg L k).xs.length := by
  rw [List.take_succ_eq_append_getElem h, rg_of h]; simp only [tot, List.map_append, List.sum_append, List.map_cons, List.map_nil, List.sum_cons, List.sum_nil, Nat.add_zero]
theorem tot_take_le (L : List Row) (k : Nat) : tot (L.take k) ≤ tot L := by
  conv => rhs; rw [← List.take_append_drop k L]
  simp only [tot, List.map_append, List.sum_append]; omega
theorem tot_all {L : List Row} {k : Nat} (h : L.length ≤ k) : tot (L.take k) = tot L := by rw [List.take_of_length_le h]
theorem len_le_tot {L : List Row} {k : Nat} (h : k < L.length) : (rg L k).xs.length ≤ tot L := by
  have h1 := tot_succ h
  have h2 := tot_take_le L (k + 1)
  omega
theorem rows_ext {L M : List Row} (hl : M.length = L.length) (h : ∀ i, i < L.length → (rg M i).xs = (rg L i).xs) : dat M = dat L := by
  apply List.ext_getElem (by simp [dat, hl])
  intro i h1 h2
  simp only [dat, List.length_map] at h1 h2
  have := h i h2
  rw [rg_of h1, rg_of h2] at this
  simpa [dat] using this
theorem dat_xs {L M : List Row} (h : dat M = dat L) : M.length = L.length ∧ ∀ i, (rg M i).xs = (rg L i).xs := by
  refine ⟨by have := congrArg List.length h; simpa [dat] using this, fun i => ?_⟩
  rw [← dat_getD, ← dat_getD, h]

/-- The slice at A reads as the rows L. -/
structure RdR (w : World) (A : Option Addr) (L : List Row) : Prop where
  out : Rd w A (hv L)
  inn : ∀ i, i < L.length → Rd w (rg L i).A (iv (rg L i).xs)
  cap : ∀ i, i < L.length → (rg L i).xs.length ≤ (rg L i).c
section
variable {w w' : World} {A : Option Addr} {L : List Row}
theorem RdR.at_ (h : RdR w A L) {k : Nat} (hk : k < L.length) :
    ∃ b o, A = some ⟨b, o, none⟩ ∧ w.cell? ⟨b, o + k, none⟩ = some (.slice (rg L k).A (rg L k).xs.length (rg L k).c) := by
  rcases h.out with h' | ⟨b, o, rfl, h'⟩
  · have := congrArg List.length h'; simp [hv_length] at this; subst this; simp at hk
  · exact ⟨b, o, rfl, h' k _ (hv_get hk)⟩
theorem RdR.below {B : Nat} (h : RdR w A L) (hb : Below B w w') (hB : w.heap.size ≤ B := by exact Nat.le_refl _) : RdR w' A L :=
  ⟨h.out.below hb hB, fun i hi => (h.inn i hi).below hb hB, h.cap⟩
theorem RdR.alloc (h : RdR w A L) (o : Obj) : RdR (w.alloc o) A L := ⟨h.out.alloc o, fun i hi => (h.inn i hi).alloc o, h.cap⟩
end

theorem RdR.cell {w : World} {b o : Nat} {L : List Row} (h : RdR w (some ⟨b, o, none⟩) L) {k : Nat} (hk : k < L.length) : w.cell? ⟨b, o + k, none⟩ = some (.slice (rg L k).A (rg L k).xs.length (rg L k).c) := by
  obtain ⟨b', o', e, hc⟩ := h.at_ hk
  injection e with e
  injection e with e1 e2 _
  subst e1; subst e2
  exact hc
theorem Rd.cellI {w : World} {b o : Nat} {xs : List Int} (h : Rd w (some ⟨b, o, none⟩) (iv xs)) {k : Nat} (hk : k < xs.length) : w.cell? ⟨b, o + k, none⟩ = some (.int .i64 (xs.getD k 0)) := by
  obtain ⟨b', o', e, hc⟩ := h.atI hk
  injection e with e
  injection e with e1 e2 _
  subst e1; subst e2
  exact hc
theorem owns_getD {w : World} {B g n c k : Nat} {ys : List Int} (h : w.ownsRow B 2 1 (.slice (some ⟨g, 0, none⟩) n c) n (iv ys)) (hk : k < n) : w.cell? ⟨g, k, none⟩ = some (.int .i64 (ys.getD k 0)) := by
  have hl : ys.length = n := by have := h.1; simpa [iv] using this
  rw [h.cellAt k (by omega)]; simp [iv, List.getD, show k < ys.length by omega]
theorem Rd.drewN {w : World} {A : Option Addr} {vs : List Value} (h : Rd w A vs) (m : Nat) : Rd (w.drewN m) A vs := h
theorem RdR.drewN {w : World} {A : Option Addr} {L : List Row} (h : RdR w A L) (m : Nat) : RdR (w.drewN m) A L := ⟨h.out, h.inn, h.cap⟩

/-- Rows of rows of the call's own: the outer one, the inner ones, no two of these in one block. -/
structure OwnR (w : World) (B : Nat) (v : Value) (L : List Row) : Prop where
  out : w.ownsRow B 22 1 v L.length (hv L)
  inn : ∀ i, i < L.length → w.ownsRow B 2 1 (rg L i).val (rg L i).xs.length (iv (rg L i).xs)
  dis : ∀ i j, i < L.length → j < L.length → i ≠ j → (rg L i).val.ownBlock = none ∨ (rg L i).val.ownBlock ≠ (rg L j).val.ownBlock

theorem own_ne2 {w : World} {B B' n n' : Nat} {e e' : TypeId} {v v' : Value} {xs xs' : List Value} (h : w.ownsRow B e 1 v n xs) (h' : w.ownsRow B' e' 1 v' n' xs') (hne : e ≠ e') : v.ownBlock = none ∨ v.ownBlock ≠ v'.ownBlock := by
  rcases h.2 with ⟨rfl, _⟩ | ⟨g, cap, cur, rfl, _, hg, _⟩
  · exact .inl rfl
  · refine .inr fun he => ?_
    rcases h'.2 with ⟨rfl, _⟩ | ⟨g', cap', cur', rfl, _, hg', _⟩
    · cases he
    · have : g = g' := by simpa [Value.ownBlock] using he
      subst this
      rw [hg] at hg'
      injection hg' with hg'
      injection hg' with _ ht
      exact hne ht
theorem owns_cap {w : World} {B n c : Nat} {e : TypeId} {A : Option Addr} {xs : List Value} (h : w.ownsRow B e 1 (.slice A n c) n xs) : n ≤ c := by
  rcases h.2 with ⟨hv, h0⟩ | ⟨g, cap, cur, hv, _, _, hc, _⟩
  · omega
  · injection hv with _ _ hc'
    omega
theorem cell_keep {w w' : World} {a : Addr} {v : Value} (h : w.cell? a = some v) (hb : Below w.heap.size w w') : w'.cell? a = some v := (hb.cell (World.block_lt_of_cell? w a h)).trans h
theorem none_or_symm {a b : Option Nat} (h : a = none ∨ a ≠ b) : b = none ∨ b ≠ a := by
  by_cases hb : b = none
  · exact .inl hb
  · refine .inr fun e => ?_
    rcases h with h | h
    · exact hb (e.trans h)
    · exact h e.symm

section
variable {w w' : World} {B : Nat} {v : Value} {L : List Row}
theorem OwnR.rd {A : Option Addr} {n c : Nat} (h : OwnR w B (.slice A n c) L) (hn : n = L.length) : RdR w A L := by
  subst hn
  exact ⟨owns_Rd h.out, fun i hi => owns_Rd (h.inn i hi), fun i hi => owns_cap (h.inn i hi)⟩
theorem OwnR.oi (h : OwnR w B v L) {i : Nat} (hi : i < L.length) : v.ownBlock = none ∨ v.ownBlock ≠ (rg L i).val.ownBlock := own_ne2 h.out (h.inn i hi) (by decide)
theorem OwnR.io (h : OwnR w B v L) {i : Nat} (hi : i < L.length) : (rg L i).val.ownBlock = none ∨ (rg L i).val.ownBlock ≠ v.ownBlock := own_ne2 (h.inn i hi) h.out (by decide)
theorem OwnR.keeps {S : List (Option Nat)} (h : OwnR w B v L) (hk : Keeps w w' S) (h1 : v.ownBlock = none ∨ v.ownBlock ∉ S) (h2 : ∀ i, i < L.length → (rg L i).val.ownBlock = none ∨ (rg L i).val.ownBlock ∉ S) : OwnR w' B v L :=
  ⟨owns_keeps h.out hk h1, fun i hi => owns_keeps (h.inn i hi) hk (h2 i hi), h.dis⟩
theorem OwnR.later (h : OwnR w B v L) (hb : Below w.heap.size w w') : OwnR w' B v L := h.keeps (Keeps.of_below hb) (.inr (by simp)) (fun _ _ => .inr (by simp))
theorem OwnR.mono {B' : Nat} (h : OwnR w B v L) (hB : B' ≤ B) : OwnR w B' v L := ⟨h.out.mono hB, fun i hi => (h.inn i hi).mono hB, h.dis⟩
theorem OwnR.drewN (h : OwnR w B v L) (m : Nat) : OwnR (w.drewN m) B v L := h.keeps (S := []) (Keeps.ofDrewN w m) (.inr (by simp)) (fun _ _ => .inr (by simp))
/-- an inner row stored at place j of the outer one -/
theorem OwnR.put {g n c j : Nat} {r : Row} (h : OwnR w B (.slice (some ⟨g, 0, none⟩) n c) L) (hn : n = L.length) (hj : j < L.length) (hr : w.ownsRow B 2 1 r.val r.xs.length (iv r.xs))
    (hd : ∀ i, i < L.length → i ≠ j → r.val.ownBlock = none ∨ r.val.ownBlock ≠ (rg L i).val.ownBlock) :
    OwnR (w.setCell ⟨g, j, none⟩ r.val) B (.slice (some ⟨g, 0, none⟩) n c) (L.set j r) := by
  subst hn
  have ks : Keeps w (w.setCell ⟨g, j, none⟩ r.val) [some g] := (Keeps.refl w [some g]).setCell (p := ⟨g, j, none⟩) (by simp) _
  have hrg : r.val.ownBlock = none ∨ r.val.ownBlock ∉ [some g] := by
    have := own_ne2 hr h.out (by decide)
    simpa [Value.ownBlock] using this
  refine ⟨?_, ?_, ?_⟩
  · have := (World.ownsRow.stored h.out j r.val).1
    rw [List.length_set]
    have e : hv (L.set j r) = (hv L).set j r.val := by simp [hv, List.map_set]
    rw [e]; exact this
  · intro i hi
    rw [List.length_set] at hi
    rw [rg_set hj]
    split
    · exact owns_keeps hr ks hrg
    · exact owns_keeps (h.inn i hi) ks (by have := h.io hi; simpa [Value.ownBlock] using this)
  · intro i i' hi hi' hne
    rw [List.length_set] at hi hi'
    rw [rg_set hj, rg_set hj]
    by_cases e1 : i = j
    · by_cases e2 : i' = j
      · omega
      · rw [if_pos e1, if_neg e2]; exact hd i' hi' e2
    · by_cases e2 : i' = j
      · rw [if_neg e1, if_pos e2]; exact none_or_symm (hd i hi e1)
      · rw [if_neg e1, if_neg e2]; exact h.dis i i' hi hi' hne
/-- an inner row written, the others as they were -/
theorem OwnR.inset {j : Nat} {ys : List Int} (h : OwnR w B v L) (hj : j < L.length) (hl : ys.length = (rg L j).xs.length) (hk : Keeps w w' [(rg L j).val.ownBlock])
    (hr : w'.ownsRow B 2 1 (rg L j).val (rg L j).xs.length (iv ys)) : OwnR w' B v (L.set j ⟨(rg L j).A, (rg L j).c, ys⟩) := by
  have ev : Row.val ⟨(rg L j).A, (rg L j).c, ys⟩ = (rg L j).val := by simp [Row.val, hl]
  refine ⟨?_, ?_, ?_⟩
  · rw [List.length_set]
    have e : hv (L.set j ⟨(rg L j).A, (rg L j).c, ys⟩) = hv L := by
      unfold hv
      rw [List.map_set, ev, rg_of hj]
      apply List.ext_getElem?
      intro i
      rw [List.getElem?_set]
      split
      · rename_i e; subst e; simp [hj]
      · rfl
    rw [e]
    exact owns_keeps h.out hk (by have := h.oi hj; simpa using this)
  · intro i hi
    rw [List.length_set] at hi
    rw [rg_set hj]
    split
    · rw [ev]; simp only [hl]; exact hr
    · rename_i hne
      exact owns_keeps (h.inn i hi) hk (by have := h.dis i j hi hj hne; simpa using this)
  · intro i i' hi hi' hne
    rw [List.length_set] at hi hi'
    rw [rg_set hj, rg_set hj]
    by_cases e1 : i = j
    · by_cases e2 : i' = j
      · omega
      · rw [if_pos e1, if_neg e2, ev, ← e1]; exact h.dis i i' hi hi' hne
    · by_cases e2 : i' = j
      · rw [if_neg e1, if_pos e2, ev, ← e2]; exact h.dis i i' hi hi' hne
      · rw [if_neg e1, if_neg e2]; exact h.dis i i' hi hi' hne
/-- an inner row appended -/
theorem OwnR.app {g c : Nat} {o : Obj} {r : Row} (h : OwnR w B v L) (hr : w.ownsRow B 2 1 r.val r.xs.length (iv r.xs)) (hd : ∀ i, i < L.length → r.val.ownBlock = none ∨ r.val.ownBlock ≠ (rg L i).val.ownBlock)
    (hown : w'.ownsRow B 22 1 (.slice (some ⟨g, 0, none⟩) (L.length + 1) c) (L.length + 1) (hv L ++ [r.val])) (hg : (w.alloc o).grownBy w' v.ownBlock) :
    OwnR w' B (.slice (some ⟨g, 0, none⟩) (L.length + 1) c) (L ++ [r]) := by
  have hk : Keeps w w' [v.ownBlock] := ((Keeps.refl w []).alloc o).trans (Keeps.of_grown hg) (by simp)
  have hrv : r.val.ownBlock = none ∨ r.val.ownBlock ≠ v.ownBlock := own_ne2 hr h.out (by decide)
  have e0 : ∀ i, i < L.length → rg (L ++ [r]) i = rg L i := fun i hi => by simp [rg, List.getD, List.getElem?_append, hi]
  have e1 : rg (L ++ [r]) L.length = r := by simp [rg, List.getD]
  refine ⟨?_, ?_, ?_⟩
  · rw [List.length_append]; simpa [hv] using hown
  · intro i hi
    rw [List.length_append] at hi
    simp only [List.length_singleton] at hi
    by_cases h1 : i < L.length
    · rw [e0 i h1]; exact owns_keeps (h.inn i h1) hk (by have := h.io h1; simpa using this)
    · have : i = L.length := by omega
      subst this
      rw [e1]; exact owns_keeps hr hk (by simpa using hrv)
  · intro i j hi hj hne
    rw [List.length_append] at hi hj
    simp only [List.length_singleton] at hi hj
    by_cases h1 : i < L.length
    · by_cases h2 : j < L.length
      · rw [e0 i h1, e0 j h2]; exact h.dis i j h1 h2 hne
      · have : j = L.length := by omega
        subst this
        rw [e0 i h1, e1]; exact none_or_symm (hd i h1)
    · have : i = L.length := by omega
      subst this
      rw [e1, e0 j (by omega)]; exact hd j (by omega)
theorem OwnR.cell {g n c k : Nat} (h : OwnR w B (.slice (some ⟨g, 0, none⟩) n c) L) (hn : n = L.length) (hk : k < L.length) : w.cell? ⟨g, k, none⟩ = some (rg L k).val ∧ w.frozen? ⟨g, k, none⟩ = false := by
  subst hn
  exact ⟨by rw [h.out.cellAt k (by omega)]; exact hv_get hk, h.out.frozenAt k⟩
theorem OwnR.nil (w : World) (B : Nat) : OwnR w B (.slice none 0 0) [] := ⟨World.ownsRow_nil _ _ _ _, (fun i hi => by cases hi), (fun i j hi => by cases hi)⟩
theorem OwnR.made (w : World) (hB : B ≤ w.heap.size) : OwnR (w.alloc (.cells #[] 22)) B (.slice (some ⟨w.heap.size, 0, none⟩) 0 0) [] :=
  ⟨World.ownsRow_made w #[] 0 hB (by decide) (by simp), (fun i hi => by cases hi), (fun i j hi => by cases hi)⟩
end
end Go.Proofs.YtocllmhkppkfoaaGreatDoor

namespace Go.Proofs.YtocllmhkppkfoaaGreatDoor
open Go.RowKit

/-- what the size of rows of rows leaves -/
def SzOk (n t : Nat) (left z : Int) : Prop := z = -1 ∨ (0 ≤ z ∧ z + n + t = left)
set_option maxHeartbeats 1000000 in
theorem szRows_any (A : Option Addr) (n c : Nat) (L : List Row) (left : Int) (w : World) (hn : n = L.length) (hsm : n ≤ 9223372036854775807) (hl : ∀ i, i < L.length → (rg L i).xs.length ≤ 9223372036854775807) (h0 : 0 ≤ left) (h1 : left ≤ 1048576) (hR : RdR w A L) :
    Calls Tryz.prog 10 #[.slice A n c, .int .i64 left] w fun e w' => ∃ z : Int, e = .returned (.int .i64 z) ∧ SzOk n (tot L) left z ∧ w = w' := by
  by_cases h : left - n < 0
  · go_enter Tryz.func10, Tryz.ntmps10
    go_wp2_with fail
    go_ret
    exact ⟨-1, rfl, .inl rfl, rfl⟩
  · have Hn := Lib.hid hn
    have HR := Lib.hid hR
    have HL := Lib.hid hl
    clear hn hR hl
    go_enter Tryz.func10, Tryz.ntmps10
    go_wp2_with fail
    go_loop [1, 5] (fun q i => ∃ k t : Nat, k ≤ n ∧ i = .int .i64 k ∧ Hid (t = tot (L.take k)) ∧ (t : Int) ≤ left - n ∧ q = .int .i64 (left - n - t)) (fun _ i => n - (intOf i).toNat)
    case atStart => exact ⟨0, 0, by omega, rfl, Lib.hid (by simp [tot]), by omega, by simp⟩
    case round =>
      obtain ⟨k, t, hk, rfl, HT, ht, rfl⟩ := hrel
      by_cases hlt : k < n
      · have hkL : k < L.length := by rw [← Hn.out]; exact hlt
        obtain ⟨b, o, rfl, hc⟩ := HR.out.at_ hkL
        have hs := HL.out k hkL
        have HS := Lib.hid (tot_succ hkL)
        have hz := fun W => szInts_any (rg L k).A (rg L k).xs.length (rg L k).c (left - n - t) W hs (by omega) (by omega)
        generalize rg L k = r at *
        by_cases h2 : left - n - t - r.xs.length < 0
        · rw [show szV r.xs.length (left - n - t) = -1 by unfold szV; rw [if_pos h2]] at hz
          have HZ := Lib.hid hz
          clear hz
          go_wp2_with (go_at_call 9; refine (HZ.out _).mono ?_; rintro e w' ⟨rfl, rfl⟩)
          go_ret
          exact ⟨-1, rfl, .inl rfl, rfl⟩
        · rw [show szV r.xs.length (left - n - t) = left - n - t - r.xs.length by unfold szV; rw [if_neg h2]] at hz
          have HZ := Lib.hid hz
          clear hz
          go_wp2_with (go_at_call 9; refine (HZ.out _).mono ?_; rintro e w' ⟨rfl, rfl⟩)
          go_round
          case rel => exact ⟨k + 1, t + r.xs.length, by omega, by go_num, Lib.hid (by rw [HS.out, HT.out]), by omega, by simp; omega⟩
          case measure => simp [intOf]; omega
      · have e : t = tot L := by rw [HT.out, tot_all (by rw [← Hn.out]; omega)]
        have HE := Lib.hid e
        clear e
        go_wp2_with fail
        go_ret
        exact ⟨left - n - t, rfl, .inr ⟨by omega, by rw [← HE.out]; omega⟩, rfl⟩

theorem hv_replicate (n : Nat) : (madeCells #[Value.slice none 0 0] n).toList = hv (List.replicate n r0) := by
  simp [hv, madeCells, Row.val, r0]
  apply List.ext_getElem?
  intro i
  by_cases h : i < n
  · simp [h, Nat.mod_one]
  · simp [h]
theorem rg_replicate (n i : Nat) : rg (List.replicate n r0) i = r0 := by
  simp only [rg, List.getD, List.getElem?_replicate]
  split <;> rfl

set_option maxRecDepth 100000 in
set_option maxHeartbeats 2000000 in
theorem toRows_any (A : Option Addr) (n c : Nat) (L : List Row) (w : World) (hn : n = L.length) (hsm : n ≤ 1048576) (hl : ∀ i, i < L.length → (rg L i).xs.length ≤ 1048576) (hR : RdR w A L) :
    Calls Tryz.prog 13 #[.slice A n c] w fun e w' => ∃ g M, e = .returned (.slice (some ⟨g, 0, none⟩) n n) ∧ dat M = dat L ∧ OwnR w' w.heap.size (.slice (some ⟨g, 0, none⟩) n n) M ∧ Below w.heap.size w w' := by
  obtain ⟨i0, hi0, hz0, hz1, hz2⟩ := info_parts infoS
  have Hn := Lib.hid hn
  have HR := Lib.hid hR
  have HL := Lib.hid hl
  clear hn hR hl
  go_enter Tryz.func13, Tryz.ntmps13
  go_wp2_with (at_make; refine wpList_make_full _ rfl _ _ 23 rfl w.heap.size 22 i0 _ 1 Tryz.underlying23 hi0 hz0 hz1 _ _ _ _ n rfl rfl rfl rfl ?b1 ?b2 ?b3 ?_)
  case b1 => rw [hz2]; omega
  case b2 => unfold maxLen; omega
  case b3 => exact Nat.le_refl _
  intro w1 hown hgrow
  have HG := Lib.hid (Below.grown (Below.refl w.heap.size w) hgrow (Nat.le_refl _) (by intro k h; cases h))
  have HO : Hid (OwnR w1 w.heap.size (.slice (some ⟨w.heap.size, 0, none⟩) n n) (List.replicate n r0)) := by
    show OwnR _ _ _ _
    rw [hv_replicate] at hown
    refine ⟨by rw [List.length_replicate]; exact hown, ?_, ?_⟩
    · intro i hi; rw [rg_replicate]; exact World.ownsRow_nil _ _ _ _
    · intro i j hi hj hne; rw [rg_replicate]; exact .inl rfl
  clear hown hgrow hi0 hz0 hz1 hz2
  go_wp2_with fail
  go_loopw [4] (fun i wr => ∃ k : Nat, k ≤ n ∧ i = .int .i64 k ∧ (∃ M : List Row, M.length = n ∧ (∀ i, i < k → (rg M i).xs = (rg L i).xs) ∧ OwnR wr w.heap.size (.slice (some ⟨w.heap.size, 0, none⟩) n n) M) ∧ Below w.heap.size w wr) (fun i _ => n - (intOf i).toNat)
  case atStart => exact ⟨0, by omega, rfl, ⟨_, by simp, (fun i hi => by omega), HO.out⟩, HG.out⟩
  case round =>
    obtain ⟨k, hk, rfl, ⟨M, hml, hmt, hown⟩, hbel⟩ := hrel
    have hsz : w.heap.size ≤ wr.heap.size := hbel.size
    by_cases hlt : k < n
    · have hkL : k < L.length := by rw [← Hn.out]; exact hlt
      obtain ⟨b, o, rfl, hc⟩ := (HR.out.below hbel).at_ hkL
      have hRi := (HR.out.below hbel).inn k hkL
      have hs := HL.out k hkL
      have HT := Lib.hid hmt
      have HO' := Lib.hid hown
      have HB := Lib.hid hbel
      have HM := Lib.hid hml
      have HX : Hid ((rg L k).xs = (rg L k).xs) := Lib.hid rfl
      have HC := Lib.hid (toInts_any (rg L k).A (rg L k).xs.length (rg L k).c (rg L k).xs wr rfl hs hRi)
      clear hmt hown hbel hml hRi
      generalize hr : rg L k = r at *
      have Hr := Lib.hid hr
      clear hr
      go_wp2_with fail
      refine HC.out.mono ?_
      rintro e w2 ⟨g, rfl, ho, hb⟩
      have hO2 := HO'.out.later hb
      obtain ⟨hcell, hfz⟩ := hO2.cell HM.out.symm (k := k) (by rw [HM.out]; exact hlt)
      have hsz2 := hb.size
      have hg := ho.lt g rfl
      have HP := Lib.hid (OwnR.put (r := ⟨some ⟨g, 0, none⟩, r.xs.length, r.xs⟩) hO2 HM.out.symm (by rw [HM.out]; exact hlt) (ho.mono hsz) (fun i hi hne => .inr (by
        intro e
        have h1 := ((HO'.out.inn i hi).lt g (by rw [← e]; rfl)).2
        omega)))
      have HB2 := Lib.hid (HB.out.trans (hb.mono hsz))
      generalize (rg M k).val = oldv at *
      clear ho hb hO2
      go_wp2_with fail
      go_roundw
      case rel =>
        refine ⟨k + 1, by omega, by go_num, ⟨_, by rw [List.length_set]; exact HM.out, ?_, HP.out⟩, HB2.out.setCell (p := ⟨w.heap.size, k, none⟩) (Nat.le_refl _) _⟩
        intro i hi
        rw [rg_set (by rw [HM.out]; exact hlt)]
        split
        · rename_i e; subst e; rw [Hr.out]
        · exact HT.out i (by omega)
      case measure => simp [intOf]; omega
    · have e : dat M = dat L := rows_ext (by rw [hml]; exact Hn.out) (fun i hi => hmt i (by rw [← Hn.out] at hi; omega))
      have HE := Lib.hid e
      have HO' := Lib.hid hown
      have HB := Lib.hid hbel
      clear hown hbel hmt hml e
      go_wp2_with fail
      go_ret
      exact ⟨w.heap.size, M, rfl, HE.out, HO'.out, HB.out⟩
end Go.Proofs.YtocllmhkppkfoaaGreatDoor

namespace Go.Proofs.YtocllmhkppkfoaaGreatDoor
open Go.RowKit

theorem eqI_refl (xs : List Int) : eqI xs xs = true := by simp [eqI]
theorem quiet_any {P : Program} {f : FuncId} {args : Array Value} {w : World} {n : Nat} {v : Value}
    (h : Calls P f args (w.drewN n) fun e w' => e = .returned v ∧ ∃ m, (w.drewN n).drewN m = w') : Calls P f args (w.drewN n) fun e w'' => e = .returned v ∧ ∃ m, w'' = w.drewN m :=
  h.mono fun _ _ ⟨he, m, hm⟩ => ⟨he, n + m, by rw [← hm, World.drewN_drewN]⟩
theorem quiet_any_add {P : Program} {f : FuncId} {args : Array Value} {w : World} {a n : Nat} {v : Value}
    (h : Calls P f args (w.drewN (a + n)) fun e w' => e = .returned v ∧ ∃ m, (w.drewN (a + n)).drewN m = w') : Calls P f args (w.drewN (a + n)) fun e w'' => e = .returned v ∧ ∃ m, w'' = w.drewN (a + m) :=
  h.mono fun _ _ ⟨he, m, hm⟩ => ⟨he, n + m, by rw [← hm, World.drewN_drewN, Nat.add_assoc]⟩

set_option maxRecDepth 100000 in
set_option maxHeartbeats 1000000 in
theorem eqRows_any (A A' : Option Addr) (n n' c c' : Nat) (L M : List Row) (w : World) (hn : n = L.length) (hn' : n' = M.length) (hsm : n ≤ 1099511627776) (hl : ∀ i, i < L.length → (rg L i).xs.length ≤ 1099511627776) (hd : dat M = dat L) (hR : RdR w A L) (hR' : RdR w A' M) :
    Calls Tryz.prog 16 #[.slice A n c, .slice A' n' c'] w fun e w' => e = .returned (.bool true) ∧ ∃ m, w.drewN m = w' := by
  obtain ⟨hml, hx⟩ := dat_xs hd
  obtain rfl : n = n' := by omega
  have Hn := Lib.hid hn
  have Hn' := Lib.hid hn'
  have HR := Lib.hid hR
  have HR' := Lib.hid hR'
  have HX := Lib.hid hx
  have HL := Lib.hid hl
  clear hn hn' hR hR' hx hl hml hd
  go_enter Tryz.func16, Tryz.ntmps16
  go_wp2_with fail
  go_loopw [5] (fun i wr => ∃ k : Nat, k ≤ n ∧ i = .int .i64 k ∧ (∃ m, wr = w.drewN m)) (fun i _ => n - (intOf i).toNat)
  case atStart => exact ⟨0, by omega, rfl, ⟨0, rfl⟩⟩
  case round =>
    obtain ⟨k, hk, rfl, ⟨m, rfl⟩⟩ := hrel
    by_cases hlt : k < n
    · have hkL : k < L.length := by rw [← Hn.out]; exact hlt
      have hkM : k < M.length := by rw [← Hn'.out]; exact hlt
      obtain ⟨b, o, rfl, hc⟩ := HR.out.at_ hkL
      obtain ⟨b', o', rfl, hc'⟩ := HR'.out.at_ hkM
      have h1 := HR.out.inn k hkL
      have h2 := HR'.out.inn k hkM
      have hs := HL.out k hkL
      have he := HX.out k
      generalize rg L k = r at *
      generalize rg M k = s at *
      rw [he] at h2 hc'
      have HE := Lib.hid (fun W hb => eqInts_any r.A s.A r.xs.length r.xs.length r.c s.c r.xs r.xs W rfl rfl hs hs (Rd.below h1 hb) (Rd.below h2 hb))
      rw [eqI_refl] at HE
      clear h1 h2 he
      go_wp2_with fail
      go_quiet ((go_at_call 15; first | exact quiet_any_add (HE.out _ (below_drewN (Below.refl _ _) _)) | exact quiet_any (HE.out _ (below_drewN (Below.refl _ _) _))))
      go_wp2_with fail
      go_roundw
      case rel => exact ⟨k + 1, by omega, by go_num, ⟨_, rfl⟩⟩
      case measure => simp [intOf]; omega
    · go_wp2_with fail
      go_ret
      exact ⟨rfl, m, rfl⟩

/-- all but the blocks lo .. hi is as it was -/
structure Within (lo hi : Nat) (w w' : World) : Prop where
  os : w'.os = w.os
  tape : w'.tape = w.tape
  output : w'.output = w.output
  size : w.heap.size ≤ w'.heap.size
  block : ∀ k, k < w.heap.size → (k < lo ∨ hi ≤ k) → w'.heap[k]? = w.heap[k]?
section
variable {w w1 w' : World} {lo hi : Nat}
theorem Within.refl (w : World) (lo hi : Nat) : Within lo hi w w := ⟨rfl, rfl, rfl, Nat.le_refl _, fun _ _ _ => rfl⟩
theorem Within.trans (h : Within lo hi w w1) (k : Within lo hi w1 w') : Within lo hi w w' :=
  ⟨k.os.trans h.os, k.tape.trans h.tape, k.output.trans h.output, Nat.le_trans h.size k.size, fun j hj hn => (k.block j (Nat.lt_of_lt_of_le hj h.size) hn).trans (h.block j hj hn)⟩
theorem Within.of_keeps {b : Option Nat} (h : Keeps w w' [b]) (hb : ∀ k, b = some k → lo ≤ k ∧ k < hi) : Within lo hi w w' :=
  ⟨h.os, h.tape, h.output, h.size, fun j hj hn => h.block j hj (by
    simp only [List.mem_singleton]
    intro e
    have := hb j e.symm
    omega)⟩
theorem Within.of_below (h : Below w.heap.size w w') : Within lo hi w w' := ⟨h.os, h.tape, h.output, h.size, fun j hj _ => h.block j hj⟩
theorem Within.to_below {B : Nat} (h : Within lo hi w w') (hB : B ≤ w.heap.size) (hlo : B ≤ lo) : Below B w w' :=
  ⟨h.os, h.tape, h.output, h.size, fun j hj => h.block j (by omega) (.inl (by omega))⟩
end

/-- all but the inner rows of L is as it was -/
structure OnlyR (L : List Row) (w w' : World) : Prop where
  os : w'.os = w.os
  tape : w'.tape = w.tape
  output : w'.output = w.output
  size : w.heap.size ≤ w'.heap.size
  block : ∀ k, k < w.heap.size → (∀ i, i < L.length → (rg L i).val.ownBlock ≠ some k) → w'.heap[k]? = w.heap[k]?
section
variable {w w1 w' : World} {L : List Row}
theorem OnlyR.refl (w : World) (L : List Row) : OnlyR L w w := ⟨rfl, rfl, rfl, Nat.le_refl _, fun _ _ _ => rfl⟩
theorem OnlyR.trans (h : OnlyR L w w1) (k : OnlyR L w1 w') : OnlyR L w w' :=
  ⟨k.os.trans h.os, k.tape.trans h.tape, k.output.trans h.output, Nat.le_trans h.size k.size, fun j hj hn => (k.block j (Nat.lt_of_lt_of_le hj h.size) hn).trans (h.block j hj hn)⟩
theorem OnlyR.of_keeps {j : Nat} (hj : j < L.length) (h : Keeps w w' [(rg L j).val.ownBlock]) : OnlyR L w w' :=
  ⟨h.os, h.tape, h.output, h.size, fun k hk hn => h.block k hk (by simp only [List.mem_singleton]; exact fun e => hn j hj e.symm)⟩
theorem OnlyR.own {B n : Nat} {e : TypeId} {v : Value} {xs : List Value} (h : OnlyR L w w') (ho : w.ownsRow B e 1 v n xs) (hd : ∀ i, i < L.length → v.ownBlock = none ∨ v.ownBlock ≠ (rg L i).val.ownBlock) : w'.ownsRow B e 1 v n xs := by
  refine ⟨ho.1, ?_⟩
  rcases ho.2 with h0 | ⟨g, cap, cur, rfl, hb, hg, rest⟩
  · exact .inl h0
  · refine .inr ⟨g, cap, cur, rfl, hb, ?_, rest⟩
    rw [h.block g (Array.getElem?_eq_some_iff.1 hg).1 (fun i hi e => by
      rcases hd i hi with h' | h'
      · cases h'
      · exact h' e.symm)]
    exact hg
theorem OnlyR.within {B hi : Nat} {v : Value} (h : OnlyR L w w') (ho : OwnR w B v L) (hh : ∀ i, i < L.length → ∀ k, (rg L i).val.ownBlock = some k → k < hi) : Within B hi w w' :=
  ⟨h.os, h.tape, h.output, h.size, fun k hk hn => h.block k hk (fun i hi' e => by
    have h1 := ((ho.inn i hi').lt k e).1
    have h2 := hh i hi' k e
    omega)⟩
end

/-- rows of rows that hold the marks from k0 on, up to place j -/
def MarkTo (k0 : Int) (L M : List Row) (j : Nat) : Prop :=
  M.length = L.length ∧ ∀ i, i < L.length → (rg M i).A = (rg L i).A ∧ (rg M i).c = (rg L i).c ∧ (rg M i).xs.length = (rg L i).xs.length ∧ (i < j → (rg M i).xs = marks (k0 + tot (L.take i)) (rg L i).xs.length)
def marksR (k0 : Int) : List Row → List Row
  | [] => []
  | r :: L => ⟨r.A, r.c, marks k0 r.xs.length⟩ :: marksR (k0 + r.xs.length) L
theorem marksR_length (k0 : Int) (L : List Row) : (marksR k0 L).length = L.length := by
  induction L generalizing k0 with
  | nil => rfl
  | cons r L ih => simp [marksR, ih]
theorem rg_cons_succ (r : Row) (L : List Row) (i : Nat) : rg (r :: L) (i + 1) = rg L i := by simp [rg, List.getD]
theorem rg_cons_zero (r : Row) (L : List Row) : rg (r :: L) 0 = r := by simp [rg, List.getD]
theorem rg_marksR (k0 : Int) (L : List Row) (i : Nat) (hi : i < L.length) : rg (marksR k0 L) i = ⟨(rg L i).A, (rg L i).c, marks (k0 + tot (L.take i)) (rg L i).xs.length⟩ := by
  induction L generalizing k0 i with
  | nil => simp at hi
  | cons r L ih =>
    cases i with
    | zero => simp [marksR, rg_cons_zero, tot]
    | succ i =>
      simp only [marksR, rg_cons_succ]
      rw [ih _ _ (by simpa using hi)]
      have : (k0 + (r.xs.length : Int) + (tot (L.take i) : Int)) = k0 + (tot ((r :: L).take (i + 1)) : Int) := by simp [tot]; omega
      rw [this]
theorem markTo_all {k0 : Int} {L M : List Row} (h : MarkTo k0 L M L.length) : M = marksR k0 L := by
  apply List.ext_getElem (by rw [h.1, marksR_length])
  intro i h1 h2
  have hi : i < L.length := by rw [← h.1]; exact h1
  obtain ⟨a, b, c, d⟩ := h.2 i hi
  have e := rg_marksR k0 L i hi
  rw [rg_of h2] at e
  rw [e]
  rw [rg_of h1] at a b c d
  rw [← a, ← b, ← d hi]
theorem marksR_tot (k0 : Int) (L : List Row) : tot (marksR k0 L) = tot L := by
  induction L generalizing k0 with
  | nil => rfl
  | cons r L ih => simp only [tot, marksR, List.map_cons, List.sum_cons, marks_length]; have := ih (k0 + r.xs.length); simp only [tot] at this; rw [this]

end Go.Proofs.YtocllmhkppkfoaaGreatDoor
