/- rows of rows that are read in blocks of a known type: what outlasts the growth of an outer row · l01Put with rows that are read in blocks of known types (printed by mkputy.py) · the reference's products of terms -/
import Derived.Test.YtnffpjdlpjkioaaBxae
import Derived.Test.YtnffpjdlpjkioaaBxai
import Derived.Test.YtnffpjdlpjkioaaBxad
set_option linter.all false
namespace Go.Proofs.Ytnffpjdlpjkioaa
open Go.RowKit

def ety (w : World) (k : Nat) : Option TypeId := match w.heap[k]? with
  | some (.cells _ t _) => some t
  | _ => none
theorem ety_eq {w w' : World} {k : Nat} (h : w'.heap[k]? = w.heap[k]?) : ety w' k = ety w k := by unfold ety; rw [h]
theorem ety_lt {w : World} {k : Nat} {t : TypeId} (h : ety w k = some t) : k < w.heap.size := by
  rcases Nat.lt_or_ge k w.heap.size with hk | hk
  · exact hk
  · unfold ety at h; rw [Array.getElem?_eq_none hk] at h; cases h
theorem owns_ety {w : World} {B n k : Nat} {e : TypeId} {v : Value} {xs : List Value} (h : w.ownsRow B e 1 v n xs) (hk : v.ownBlock = some k) : ety w k = some e := by
  rcases h.2 with ⟨rfl, _⟩ | ⟨g, cap, cur, rfl, _, hg, _⟩
  · cases hk
  · have : g = k := by simpa [Value.ownBlock] using hk
    subst this
    unfold ety; rw [hg]
theorem ety_alloc (w : World) (cs : Array Value) (t : TypeId) : ety (w.alloc (.cells cs t)) w.heap.size = some t := by
  unfold ety; rw [heap_alloc_new]
/-- rows of rows, read in blocks of their types -/
structure RdY (w : World) (A : Option Addr) (L : List Row) : Prop where
  rd : RdR w A L
  tyo : L ≠ [] → ∀ a, A = some a → ety w a.block = some 30
  tyi : ∀ i, i < L.length → (rg L i).xs ≠ [] → ∀ a, (rg L i).A = some a → ety w a.block = some 2
/-- of no type that is read -/
def OffY (w : World) (S : List (Option Nat)) : Prop := ∀ j, some j ∈ S → ety w j ≠ some 30 ∧ ety w j ≠ some 2
theorem OffY.nil (w : World) : OffY w [] := fun j hj => by cases hj
theorem OffY.own {w : World} {B n : Nat} {v : Value} {xs : List Value} (h : w.ownsRow B 22 1 v n xs) : OffY w [v.ownBlock] := fun j hj => by
  rw [List.mem_singleton] at hj
  rw [owns_ety h hj.symm]
  exact ⟨by decide, by decide⟩
theorem rdY_one {w w' : World} {S : List (Option Nat)} {A : Option Addr} {vs : List Value} {t : TypeId} (hk : Keeps w w' S) (h : Rd w A vs) (ht : vs ≠ [] → ∀ a, A = some a → ety w a.block = some t) (hS : ∀ j, some j ∈ S → ety w j ≠ some t) :
    Rd w' A vs ∧ (vs ≠ [] → ∀ a, A = some a → ety w' a.block = some t) := by
  by_cases h0 : vs = []
  · exact ⟨.inl h0, fun h => absurd h0 h⟩
  · have hno : ∀ a, A = some a → some a.block ∉ S := fun a ha hm => hS _ hm (ht h0 a ha)
    refine ⟨h.keeps hk hno, fun _ a ha => ?_⟩
    rw [ety_eq (hk.block _ (ety_lt (ht h0 a ha)) (hno a ha))]
    exact ht h0 a ha
theorem iv_nil {xs : List Int} : iv xs = [] ↔ xs = [] := by simp [iv]
theorem hv_nil {L : List Row} : hv L = [] ↔ L = [] := by simp [hv]
section
variable {w w' : World} {A : Option Addr} {L : List Row}
theorem RdY.keeps {S : List (Option Nat)} (h : RdY w A L) (hk : Keeps w w' S) (hS : OffY w S) : RdY w' A L := by
  have h1 := rdY_one (t := 30) hk h.rd.out (fun h0 => h.tyo (fun e => h0 (hv_nil.2 e))) (fun j hj => (hS j hj).1)
  have h2 := fun i hi => rdY_one (t := 2) hk (h.rd.inn i hi) (fun h0 => h.tyi i hi (fun e => h0 (iv_nil.2 e))) (fun j hj => (hS j hj).2)
  exact ⟨⟨h1.1, fun i hi => (h2 i hi).1, h.rd.cap⟩, fun h0 => h1.2 (fun e => h0 (hv_nil.1 e)), fun i hi h0 => (h2 i hi).2 (fun e => h0 (iv_nil.1 e))⟩
theorem RdY.below (h : RdY w A L) (hb : Below w.heap.size w w') : RdY w' A L := h.keeps (Keeps.of_below hb) (OffY.nil w)
theorem OwnR.rdY {B n c : Nat} (h : OwnR w B (.slice A n c) L) (hn : n = L.length) : RdY w A L := by
  refine ⟨h.rd hn, fun h0 a ha => owns_ety h.out (by rw [ha]; rfl), fun i hi h0 a ha => owns_ety (h.inn i hi) (by simp [Row.val, ha, Value.ownBlock])⟩
/-- one row in a new block -/
theorem RdY.one {rA : Option Addr} {rc : Nat} {rx : List Int} (h : Rd w rA (iv rx)) (hc : rx.length ≤ rc) (ht : rx ≠ [] → ∀ a, rA = some a → ety w a.block = some 2) :
    RdY (w.alloc (.cells #[.slice rA rx.length rc] 30)) (some ⟨w.heap.size, 0, none⟩) [⟨rA, rc, rx⟩] := by
  have hb : Below w.heap.size w (w.alloc (.cells #[.slice rA rx.length rc] 30)) := (Below.refl _ _).alloc (Nat.le_refl _) _
  have h1 := rdY_one (t := 2) (Keeps.of_below hb) h (fun h0 => ht (fun e => h0 (iv_nil.2 e))) (fun j hj => by cases hj)
  have e0 : ∀ i : Nat, i < 1 → rg [⟨rA, rc, rx⟩] i = ⟨rA, rc, rx⟩ := by
    intro i hi
    obtain rfl : i = 0 := by omega
    rfl
  refine ⟨⟨.inr ⟨_, 0, rfl, fun j v hj => ?_⟩, fun i hi => by rw [e0 i hi]; exact h1.1, fun i hi => by rw [e0 i hi]; exact hc⟩, fun _ a ha => ?_, fun i hi h0 a ha => ?_⟩
  · have : j = 0 := by have := (List.getElem?_eq_some_iff.1 hj).1; simpa [hv] using this
    subst this
    have hv' : Value.slice rA rx.length rc = v := by simpa [hv, Row.val] using hj
    rw [← hv']
    exact new_cell w _ _
  · injection ha with ha; subst ha; exact ety_alloc w _ _
  · rw [e0 i hi] at h0 ha; exact h1.2 (fun e => h0 (iv_nil.1 e)) a ha
end
/-- an outer row of the call's own, its items to be read -/
structure OwnY (w : World) (B : Nat) (v : Value) (L : List Cub) : Prop where
  out : w.ownsRow B 22 1 v L.length (cvs L)
  inn : ∀ i, i < L.length → RdY w (cg L i).A (cg L i).rows
section
variable {w w' : World} {B : Nat} {v : Value} {L : List Cub}
theorem OwnY.keeps {S : List (Option Nat)} (h : OwnY w B v L) (hk : Keeps w w' S) (hv : v.ownBlock = none ∨ v.ownBlock ∉ S) (hS : OffY w S) : OwnY w' B v L :=
  ⟨owns_keeps h.out hk hv, fun i hi => (h.inn i hi).keeps hk hS⟩
theorem OwnY.below (h : OwnY w B v L) (hb : Below w.heap.size w w') : OwnY w' B v L := h.keeps (Keeps.of_below hb) (.inr (by simp)) (OffY.nil w)
theorem OwnY.made (w : World) (hB : B ≤ w.heap.size) : OwnY (w.alloc (.cells #[] 22)) B (.slice (some ⟨w.heap.size, 0, none⟩) 0 0) [] :=
  ⟨World.ownsRow_made w #[] 0 hB (by decide) (by simp), fun i hi => by cases hi⟩
theorem OwnY.rdC {A : Option Addr} {n c : Nat} (h : OwnY w B (.slice A n c) L) (hn : n = L.length) : RdC w A L := by
  subst hn; exact ⟨owns_Rd h.out, fun i hi => (h.inn i hi).rd⟩
theorem cg_snocY (L : List Cub) (x : Cub) (i : Nat) (hi : i < (L ++ [x]).length) : (i < L.length ∧ cg (L ++ [x]) i = cg L i) ∨ (i = L.length ∧ cg (L ++ [x]) i = x) := by
  simp at hi
  by_cases h : i < L.length
  · left; exact ⟨h, by simp [cg, List.getD, List.getElem?_append_left h]⟩
  · right
    obtain rfl : i = L.length := by omega
    exact ⟨rfl, by simp [cg, List.getD]⟩
theorem OwnY.push {w1 w2 : World} {g cap : Nat} {x : Cub} {ob : Obj} (h : OwnY w B v L) (hb : Below w.heap.size w w1) (hx : RdY w1 x.A x.rows)
    (ho : w2.ownsRow B 22 1 (.slice (some ⟨g, 0, none⟩) (L.length + 1) cap) (L.length + 1) (cvs L ++ [x.val])) (hg : (w1.alloc ob).grownBy w2 v.ownBlock) :
    OwnY w2 B (.slice (some ⟨g, 0, none⟩) (L ++ [x]).length cap) (L ++ [x]) := by
  have hk : Keeps w1 w2 [v.ownBlock] := ((Keeps.refl w1 []).alloc ob).trans (Keeps.of_grown hg) (by simp)
  have h1 := h.below hb
  have hoff := OffY.own h1.out
  refine ⟨?_, fun i hi => ?_⟩
  · rw [List.length_append, show cvs (L ++ [x]) = cvs L ++ [x.val] by simp [cvs]]; exact ho
  · rcases cg_snocY L x i hi with ⟨h2, e⟩ | ⟨_, e⟩
    · rw [e]; exact (h1.inn i h2).keeps hk hoff
    · rw [e]; exact hx.keeps hk hoff
/-- the growth of another outer row -/
theorem OwnY.push_off {w1 w2 : World} {B' m : Nat} {u : Value} {ys : List Value} {ob : Obj} (h : OwnY w B v L) (hb : Below w.heap.size w w1) (hu : w.ownsRow B' 22 1 u m ys) (hne : v.ownBlock = none ∨ v.ownBlock ≠ u.ownBlock) (hg : (w1.alloc ob).grownBy w2 u.ownBlock) : OwnY w2 B v L := by
  have hk : Keeps w1 w2 [u.ownBlock] := ((Keeps.refl w1 []).alloc ob).trans (Keeps.of_grown hg) (by simp)
  exact (h.below hb).keeps hk (by simpa using hne) (OffY.own (owns_later hu hb))
theorem RdY.push_off {w1 w2 : World} {A : Option Addr} {M : List Row} {B' m : Nat} {u : Value} {ys : List Value} {ob : Obj} (h : RdY w1 A M) (hu : w1.ownsRow B' 22 1 u m ys) (hg : (w1.alloc ob).grownBy w2 u.ownBlock) : RdY w2 A M :=
  h.keeps (((Keeps.refl w1 []).alloc ob).trans (Keeps.of_grown hg) (T := [u.ownBlock]) (by simp)) (OffY.own hu)
end
end Go.Proofs.Ytnffpjdlpjkioaa

namespace Go.Proofs.Ytnffpjdlpjkioaa
open Go.RowKit

/-- rows of known types come back, to be read -/
def RdResY (Q : LL) (w : World) (e : Ending) (w' : World) : Prop := ∃ A c M, e = .returned (.slice A M.length c) ∧ dat M = Q ∧ RdY w' A M ∧ M.length ≤ c ∧ Below w.heap.size w w'
/-- ints that are read in a block of ints -/
def RdT (w : World) (A : Option Addr) (xs : List Value) : Prop := Rd w A xs ∧ (xs ≠ [] → ∀ a, A = some a → ety w a.block = some 2)
theorem RdT.below {w w' : World} {A : Option Addr} {xs : List Value} (h : RdT w A xs) (hb : Below w.heap.size w w') : RdT w' A xs := rdY_one (Keeps.of_below hb) h.1 h.2 (fun j hj => by cases hj)
theorem owns_RdT {w : World} {B n c : Nat} {A : Option Addr} {xs : List Value} (h : w.ownsRow B 2 1 (.slice A n c) n xs) : RdT w A xs := ⟨owns_Rd h, fun _ a ha => owns_ety h (by rw [ha]; rfl)⟩
theorem RdY.mk' {w : World} {A : Option Addr} {L : List Row} (h : Rd w A (hv L)) (ht : L ≠ [] → ∀ a, A = some a → ety w a.block = some 30) (k : ∀ r ∈ L, RdT w r.A (iv r.xs) ∧ r.xs.length ≤ r.c) : RdY w A L := by
  have hm : ∀ i, i < L.length → rg L i ∈ L := fun i hi => by
    have e : rg L i = L[i] := by simp [rg, List.getD, hi]
    rw [e]; exact List.getElem_mem hi
  exact ⟨RdR.mk' h fun r hr => ⟨(k r hr).1.1, (k r hr).2⟩, ht, fun i hi h0 => (k _ (hm i hi)).1.2 (fun e => h0 (iv_nil.1 e))⟩
theorem RdY.all {w : World} {A : Option Addr} {L : List Row} (h : RdY w A L) : ∀ r ∈ L, RdT w r.A (iv r.xs) ∧ r.xs.length ≤ r.c := fun r hr => by
  obtain ⟨i, hi, e⟩ := List.mem_iff_getElem.1 hr
  have e2 : rg L i = r := by simp [rg, List.getD, hi, e]
  have h1 := h.rd.all r hr
  have h2 := h.tyi i hi
  rw [e2] at h2
  exact ⟨⟨h1.1, fun h0 => h2 (fun e => h0 (iv_nil.2 e))⟩, h1.2⟩
theorem put_inY {w w7 : World} {A : Option Addr} {n i p g cap B : Nat} {x : List Int} {L : List Row} {v7 : Value} {Q : LL} (hR : RdY w A L) (hb : Below w.heap.size w w7)
    (ho : w7.ownsRow B 30 1 v7 (0 + i + (1 + (n - i))) ([] ++ (hv L).take i ++ ([.slice (some ⟨g, 0, none⟩) p cap] ++ (hv L).drop i))) (hx : RdT w7 (some ⟨g, 0, none⟩) (iv x)) (hcap : p ≤ cap) (hp : p = x.length) (hQ : Q = (dat L).take i ++ x :: (dat L).drop i) (hn : n = L.length) :
    RdResY Q w (.returned v7) w7 := by
  subst hp
  have hl := ho.1
  obtain ⟨A6, c6, rfl, hc, _⟩ := owns_shape ho
  have e : [] ++ (hv L).take i ++ ([.slice (some ⟨g, 0, none⟩) x.length cap] ++ (hv L).drop i) = hv (L.take i ++ ⟨some ⟨g, 0, none⟩, cap, x⟩ :: L.drop i) := by rw [hv_take, hv_drop, hv_app]; rfl
  rw [e] at ho hl
  have hll : 0 + i + (1 + (n - i)) = (L.take i ++ ⟨some ⟨g, 0, none⟩, cap, x⟩ :: L.drop i).length := by rw [Nat.mul_one] at hl; rw [← hl, hv_length]
  rw [hll] at ho hc ⊢
  refine ⟨A6, c6, _, rfl, ?_, RdY.mk' (owns_Rd ho) (fun _ a ha => owns_ety ho (by rw [ha]; rfl)) fun r hr => ?_, hc, hb⟩
  · rw [hQ, dat_app, dat_tk, dat_drop]; rfl
  · rcases List.mem_append.1 hr with h | h
    · exact (hR.below hb).all r (List.mem_of_mem_take h)
    · rcases List.mem_cons.1 h with h | h
      · subst h; exact ⟨hx, hcap⟩
      · exact (hR.below hb).all r (List.mem_of_mem_drop h)
theorem put_outY {w w6 : World} {A : Option Addr} {n i : Nat} {L : List Row} {v6 : Value} {Q : LL} (hR : RdY w A L) (hb : Below w.heap.size w w6) (ho : w6.ownsRow w.heap.size 30 1 v6 (0 + i + (n - (i + 1))) ([] ++ (hv L).take i ++ (hv L).drop (i + 1))) (hQ : Q = (dat L).take i ++ (dat L).drop (i + 1)) (hn : n = L.length) :
    RdResY Q w (.returned v6) w6 := by
  have hl := ho.1
  obtain ⟨A6, c6, rfl, hc, _⟩ := owns_shape ho
  have e : [] ++ (hv L).take i ++ (hv L).drop (i + 1) = hv (L.take i ++ L.drop (i + 1)) := by rw [hv_take, hv_drop, hv_app]; rfl
  rw [e] at ho hl
  have hll : 0 + i + (n - (i + 1)) = (L.take i ++ L.drop (i + 1)).length := by rw [Nat.mul_one] at hl; rw [← hl, hv_length]
  rw [hll] at ho hc ⊢
  refine ⟨A6, c6, _, rfl, ?_, RdY.mk' (owns_Rd ho) (fun _ a ha => owns_ety ho (by rw [ha]; rfl)) fun r hr => ?_, hc, hb⟩
  · rw [hQ, dat_app, dat_drop, dat_tk]
  · refine (hR.below hb).all r ?_
    rcases List.mem_append.1 hr with h | h
    · exact List.mem_of_mem_take h
    · exact List.mem_of_mem_drop h

set_option maxRecDepth 100000 in
set_option maxHeartbeats 2000000 in
theorem l01PutY_any (A B : Option Addr) (n c p cp : Nat) (L : List Row) (x : List Int) (w : World) (hn : n = L.length) (hcap : n ≤ c) (hsm : n ≤ 600000000000) (hl : ∀ i, i < L.length → (rg L i).xs.length ≤ 1000000) (hp : p = x.length) (hp1 : p ≤ 1000000) (hR : RdY w A L) (hX : Rd w B (iv x)) :
    Calls Try.prog 102 #[.slice A n c, .slice B p cp] w (RdResY (putR (dat L) x) w) := by
  have hk := ahead_le (dat L) x
  rw [dat_length, ← hn] at hk
  have HLT := Lib.hid (ahead_lt (dat L) x)
  have HGE := Lib.hid (ahead_ge (dat L) x)
  have HPA := Lib.hid (putR_ahead (dat L) x)
  have HRY := Lib.hid hR
  have HR := Lib.hid hR.rd
  have HX := Lib.hid hX
  have Hn := Lib.hid hn
  have Hp := Lib.hid hp
  have HL := Lib.hid hl
  generalize ahead (dat L) x = k at *
  clear hR hX hn hp hl
  go_enter Try.func102, Try.ntmps102
  go_wp2_with fail
  go_loopw [5] (fun v5 wr => ∃ i : Nat, i ≤ k ∧ v5 = .int .i64 i ∧ Below w.heap.size w wr) (fun v5 _ => k - (intOf v5).toNat)
  case atStart => exact ⟨0, by omega, rfl, Below.refl _ _⟩
  case round =>
    obtain ⟨i, hi, rfl, hbel⟩ := hrel
    have HB := Lib.hid hbel
    by_cases hlt : i < k
    · have hiL : i < L.length := by rw [← Hn.out]; omega
      obtain ⟨b, o, rfl, hc⟩ := (HR.out.below hbel).at_ hiL
      have hri := (HR.out.below hbel).inn i hiL
      have hli := HL.out i hiL
      have hlx := HLT.out i hlt
      rw [dat_getD] at hlx
      generalize rg L i = r at *
      obtain ⟨rA, rc, rx⟩ := r
      simp only at hc hri hli hlx
      have hx2 := HX.out.below hbel
      have HC := Lib.hid (fun W hb => l01Less_any rA B rx.length p rc cp rx x W rfl Hp.out (by omega) (by omega) (Rd.below hri hb) (Rd.below hx2 hb))
      rw [hlx] at HC
      have hin : (i : Int) < (n : Int) := by omega
      clear hbel hri hx2 hlx hiL
      go_wp2_with fail
      refine (HC.out _ (Below.refl _ _)).mono ?_
      rintro e w' ⟨rfl, m, rfl⟩
      go_wp2_with fail
      go_roundw
      case rel => exact ⟨i + 1, by omega, by go_num, below_drewN HB.out _⟩
      case measure => simp [intOf]; omega
    · obtain rfl : i = k := by omega
      by_cases hin : i < n
      · have hiL : i < L.length := by rw [← Hn.out]; omega
        obtain ⟨b, o, rfl, hc⟩ := (HR.out.below hbel).at_ hiL
        have hri := (HR.out.below hbel).inn i hiL
        have hli := HL.out i hiL
        have hlx := HGE.out (by rw [dat_length]; exact hiL)
        have HQ : Hid ((dat L).getD i [] = (rg L i).xs) := Lib.hid (dat_getD L i)
        rw [HQ.out] at hlx HPA
        have HI := Lib.hid hiL
        generalize rg L i = r at *
        obtain ⟨rA, rc, rx⟩ := r
        simp only at hc hri hli hlx HPA
        have hx2 := HX.out.below hbel
        have HC := Lib.hid (fun W hb => l01Less_any rA B rx.length p rc cp rx x W rfl Hp.out (by omega) (by omega) (Rd.below hri hb) (Rd.below hx2 hb))
        rw [hlx] at HC
        have HS := Lib.hid (fun W hb => l01Same_any rA B rx.length p rc cp rx x W rfl Hp.out (by omega) (by omega) (Rd.below hri hb) (Rd.below hx2 hb))
        have hini : (i : Int) < (n : Int) := by omega
        by_cases hs : rx = x
        · have hb : (rx == x) = true := by rw [hs]; exact beq_self_eq_true x
          rw [hb] at HS
          rw [if_pos ⟨by rw [dat_length]; exact hiL, hs⟩] at HPA
          clear hbel hri hx2 hlx hiL hs hb
          go_wp2_with fail
          refine (HC.out _ (Below.refl _ _)).mono ?_
          rintro e w' ⟨rfl, m, rfl⟩
          go_wp2_with fail
          refine (HS.out _ (below_drewN (Below.refl _ _) _)).mono ?_
          rintro e w' ⟨rfl, m2, hw⟩
          have HB2 : Hid (Below w.heap.size w w') := Lib.hid (by subst hw; exact below_drewN (below_drewN HB.out m) m2)
          clear hw
          have hs2 := HB2.out.size
          have hin1 : (i : Int) + 1 ≤ (n : Int) := by omega
          have hic : (i : Int) ≤ (c : Int) := by omega
          have hi0 : 0 ≤ (i : Int) := by omega
          have hi1 : 0 ≤ (i : Int) + 1 := by omega
          have hc0 : c ≠ 0 := by omega
          have hti : ((i : Int) + 1).toNat = i + 1 := by omega
          have hw1 : IntKind.i64.wrap ((i : Int) + 1) = (i : Int) + 1 := by rw [IntKind.wrap_i64]; omega
          have HR2 := Lib.hid (HR.out.out.below HB2.out)
          by_cases hcc : c = i + 1
          · have HD0 := Lib.hid (show (hv L).drop (i + 1) = [] from List.drop_of_length_le (by rw [hv_length, ← Hn.out]; omega))
            subst hcc
            have hic2 : (i : Int) ≤ (i : Int) + 1 := by omega
            go_wp2_with fail
            refine wp_region_held_drew (S := (fun w' => True)) (by kernel_rfl) (by trivial) (fun hHeld => ?_)
            refine wpAnyH_take (i := 1) (oi := ?oim1_1) (v := ?vm1_1) ?hm1_1 (by kernel_rfl) (by kernel_rfl) (by kernel_rfl) ?qm1_1 (Or.inl ⟨?wm1_1, ?ym1_1⟩) (by assumption) ?rm1_1
            case hm1_1 => (simp only [List.getElem?_toArray, List.getElem?_cons_succ, List.getElem?_cons_zero]; rfl)
            case qm1_1 => exact fun _ _ _ h => h
            case wm1_1 => rfl
            case ym1_1 => (intro w hSw; (try dsimp only at hSw); go_simp <;> with_reducible rfl)
            try simp only [Act.put, List.setIfInBounds_toArray, List.set_cons_zero, List.set_cons_succ]
            refine wpAnyH_take (i := 2) (oi := ?oim1_2) (v := ?vm1_2) ?hm1_2 (by kernel_rfl) (by kernel_rfl) (by kernel_rfl) ?qm1_2 (Or.inl ⟨?wm1_2, ?ym1_2⟩) (by assumption) ?rm1_2
            case hm1_2 => (simp only [List.getElem?_toArray, List.getElem?_cons_succ, List.getElem?_cons_zero]; rfl)
            case qm1_2 => exact fun _ _ _ h => h
            case wm1_2 => rfl
            case ym1_2 => (intro w hSw; (try dsimp only at hSw); go_simp <;> with_reducible rfl)
            try simp only [Act.put, List.setIfInBounds_toArray, List.set_cons_zero, List.set_cons_succ]
            refine wpAnyH_take (i := 3) (oi := ?oim1_3) (v := ?vm1_3) ?hm1_3 (by kernel_rfl) (by kernel_rfl) (by kernel_rfl) ?qm1_3 (Or.inl ⟨?wm1_3, ?ym1_3⟩) (by assumption) ?rm1_3
            case hm1_3 => (simp only [List.getElem?_toArray, List.getElem?_cons_succ, List.getElem?_cons_zero]; rfl)
            case qm1_3 => exact fun _ _ _ h => h
            case wm1_3 => rfl
            case ym1_3 => (intro w hSw; (try dsimp only at hSw); go_simp <;> with_reducible rfl)
            try simp only [Act.put, List.setIfInBounds_toArray, List.set_cons_zero, List.set_cons_succ]
            refine wpAnyH_take (i := 5) (oi := ?oim1_4) (v := ?vm1_4) ?hm1_4 (by kernel_rfl) (by kernel_rfl) (by kernel_rfl) ?qm1_4 (Or.inl ⟨?wm1_4, ?ym1_4⟩) (by assumption) ?rm1_4
            case hm1_4 => (simp only [List.getElem?_toArray, List.getElem?_cons_succ, List.getElem?_cons_zero]; rfl)
            case qm1_4 => exact fun _ _ _ h => h
            case wm1_4 => rfl
            case ym1_4 => (intro w hSw; (try dsimp only at hSw); go_simp <;> with_reducible rfl)
            try simp only [Act.put, List.setIfInBounds_toArray, List.set_cons_zero, List.set_cons_succ]
            refine wpAnyH_take (i := 6) (oi := ?oim1_5) (v := ?vm1_5) ?hm1_5 (by kernel_rfl) (by kernel_rfl) (by kernel_rfl) ?qm1_5 (Or.inl ⟨?wm1_5, ?ym1_5⟩) (by assumption) ?rm1_5
            case hm1_5 => (simp only [List.getElem?_toArray, List.getElem?_cons_succ, List.getElem?_cons_zero]; rfl)
            case qm1_5 => exact fun _ _ _ h => h
            case wm1_5 => rfl
            case ym1_5 => (intro w hSw; (try dsimp only at hSw); go_simp <;> with_reducible rfl)
            try simp only [Act.put, List.setIfInBounds_toArray, List.set_cons_zero, List.set_cons_succ]
            refine wpAnyH_take (i := 7) (oi := ?oim1_6) (v := ?vm1_6) ?hm1_6 (by kernel_rfl) (by kernel_rfl) (by kernel_rfl) ?qm1_6 (Or.inl ⟨?wm1_6, ?ym1_6⟩) (by assumption) ?rm1_6
            case hm1_6 => (simp only [List.getElem?_toArray, List.getElem?_cons_succ, List.getElem?_cons_zero]; rfl)
            case qm1_6 => exact fun _ _ _ h => h
            case wm1_6 => rfl
            case ym1_6 => (intro w hSw; (try dsimp only at hSw); go_simp <;> with_reducible rfl)
            try simp only [Act.put, List.setIfInBounds_toArray, List.set_cons_zero, List.set_cons_succ]
            refine wpAnyH_take (i := 8) (oi := ?oim1_7) (v := ?vm1_7) ?hm1_7 (by kernel_rfl) (by kernel_rfl) (by kernel_rfl) ?qm1_7 (Or.inl ⟨?wm1_7, ?ym1_7⟩) (by assumption) ?rm1_7
            case hm1_7 => (simp only [List.getElem?_toArray, List.getElem?_cons_succ, List.getElem?_cons_zero]; rfl)
            case qm1_7 => exact fun _ _ _ h => h
            case wm1_7 => rfl
            case ym1_7 => (intro w hSw; (try dsimp only at hSw); go_simp <;> with_reducible rfl)
            try simp only [Act.put, List.setIfInBounds_toArray, List.set_cons_zero, List.set_cons_succ]
            refine wpAnyH_ready (rs := [0]) (by kernel_rfl) (by simp) ?_
            refine AllReadyH.cons (o := ?oim1_8) ?hm1_8 (fun K hK => ?km1_8) ?mm1_8
            case hm1_8 => (simp only [List.getElem?_toArray, List.getElem?_cons_succ, List.getElem?_cons_zero]; rfl)
            case km1_8 =>
              go_simp
              refine hK.out _ _ (by trivial) (fun hHeld => ?_)
              clear hK K
              try simp only [Act.put, List.setIfInBounds_toArray, List.set_cons_zero, List.set_cons_succ]
              refine wpAnyH_ready (rs := [4]) (by kernel_rfl) (by simp) ?_
              refine AllReadyH.cons (o := ?oim1_9) ?hm1_9 (fun K hK => ?km1_9) ?mm1_9
              case hm1_9 => (simp only [List.getElem?_toArray, List.getElem?_cons_succ, List.getElem?_cons_zero]; rfl)
              case km1_9 =>
                (refine step_appR _ _ _ _ _ etS (by rfl) (by rfl) w.heap.size (.slice (some ⟨w'.heap.size, 0, none⟩) 0 0) 0 [] (by rfl) ?_ (some ⟨b, o, none⟩) i _ ((hv L).take i) (by rfl) ?_ ?_ (one_take _) ?_ ?_ ?_; exact World.ownsRow_made w' #[] 0 hs2 (by decide) (by simp); (rw [List.length_take, hv_length]; have := Hn.out; omega); exact rd_take (HR2.out.below ((Below.refl _ _).alloc (Nat.le_refl _) _)) i; omega; exact put_sz HB2.out _; (intro v5 w5 hown hg hat; have HO5 := Lib.hid hown; have HG5 := Lib.hid hg; have HB5 : Hid (Below w.heap.size w w5) := Lib.hid (put_b5 HB2.out hg); clear hown hg hat))
                refine hK.out _ _ (by trivial) (fun hHeld => ?_)
                clear hK K
                try simp only [Act.put, List.setIfInBounds_toArray, List.set_cons_zero, List.set_cons_succ]
                refine wpAnyH_ready (rs := [9]) (by kernel_rfl) (by simp) ?_
                refine AllReadyH.cons (o := ?oim1_10) ?hm1_10 (fun K hK => ?km1_10) ?mm1_10
                case hm1_10 => (simp only [List.getElem?_toArray, List.getElem?_cons_succ, List.getElem?_cons_zero]; rfl)
                case km1_10 =>
                  (refine step_appR _ _ _ _ _ etS (by rfl) (by rfl) w.heap.size v5 (0 + i) ([] ++ (hv L).take i) (by rfl) HO5.out _ 0 _ [] (by rfl) (by rfl) (.inl rfl) (fun u hu => (by cases hu)) ?_ HB5.out.size ?_; omega; (intro v6 w6 hown hg hat; have HO6 := Lib.hid hown; have HB6 := Lib.hid (HB5.out.grown hg HB5.out.size (fun k hk => (HO5.out.lt k hk).1)); clear hown hg hat))
                  refine hK.out _ _ (by trivial) (fun hHeld => ?_)
                  clear hK K
                  try simp only [Act.put, List.setIfInBounds_toArray, List.set_cons_zero, List.set_cons_succ]
                  refine wpAnyH_take (i := 10) (oi := ?oim1_11) (v := ?vm1_11) ?hm1_11 (by kernel_rfl) (by kernel_rfl) (by kernel_rfl) ?qm1_11 (Or.inl ⟨?wm1_11, ?ym1_11⟩) (by assumption) ?rm1_11
                  case hm1_11 => (simp only [List.getElem?_toArray, List.getElem?_cons_succ, List.getElem?_cons_zero]; rfl)
                  case qm1_11 => exact fun _ _ _ h => h
                  case wm1_11 => rfl
                  case ym1_11 => (intro w hSw; (try dsimp only at hSw); go_simp <;> with_reducible rfl)
                  try simp only [Act.put, List.setIfInBounds_toArray, List.set_cons_zero, List.set_cons_succ]
                  refine wpAnyH_done (by kernel_rfl) ?_ _
                  go_wp2_with fail
                  go_ret
                  exact put_outY HRY.out HB6.out (by rw [HD0.out, show n - (i + 1) = 0 from by omega]; exact HO6.out) HPA.out Hn.out
                exact AllReadyH.nil
              exact AllReadyH.nil
            exact AllReadyH.nil
          · have hcc2 : c ≠ i + 1 := hcc
            go_wp2_with fail
            refine wp_region_held_drew (S := (fun w' => True)) (by kernel_rfl) (by trivial) (fun hHeld => ?_)
            refine wpAnyH_take (i := 1) (oi := ?oim2_1) (v := ?vm2_1) ?hm2_1 (by kernel_rfl) (by kernel_rfl) (by kernel_rfl) ?qm2_1 (Or.inl ⟨?wm2_1, ?ym2_1⟩) (by assumption) ?rm2_1
            case hm2_1 => (simp only [List.getElem?_toArray, List.getElem?_cons_succ, List.getElem?_cons_zero]; rfl)
            case qm2_1 => exact fun _ _ _ h => h
            case wm2_1 => rfl
            case ym2_1 => (intro w hSw; (try dsimp only at hSw); go_simp <;> with_reducible rfl)
            try simp only [Act.put, List.setIfInBounds_toArray, List.set_cons_zero, List.set_cons_succ]
            refine wpAnyH_take (i := 2) (oi := ?oim2_2) (v := ?vm2_2) ?hm2_2 (by kernel_rfl) (by kernel_rfl) (by kernel_rfl) ?qm2_2 (Or.inl ⟨?wm2_2, ?ym2_2⟩) (by assumption) ?rm2_2
            case hm2_2 => (simp only [List.getElem?_toArray, List.getElem?_cons_succ, List.getElem?_cons_zero]; rfl)
            case qm2_2 => exact fun _ _ _ h => h
            case wm2_2 => rfl
            case ym2_2 => (intro w hSw; (try dsimp only at hSw); go_simp <;> with_reducible rfl)
            try simp only [Act.put, List.setIfInBounds_toArray, List.set_cons_zero, List.set_cons_succ]
            refine wpAnyH_take (i := 3) (oi := ?oim2_3) (v := ?vm2_3) ?hm2_3 (by kernel_rfl) (by kernel_rfl) (by kernel_rfl) ?qm2_3 (Or.inl ⟨?wm2_3, ?ym2_3⟩) (by assumption) ?rm2_3
            case hm2_3 => (simp only [List.getElem?_toArray, List.getElem?_cons_succ, List.getElem?_cons_zero]; rfl)
            case qm2_3 => exact fun _ _ _ h => h
            case wm2_3 => rfl
            case ym2_3 => (intro w hSw; (try dsimp only at hSw); go_simp <;> with_reducible rfl)
            try simp only [Act.put, List.setIfInBounds_toArray, List.set_cons_zero, List.set_cons_succ]
            refine wpAnyH_take (i := 5) (oi := ?oim2_4) (v := ?vm2_4) ?hm2_4 (by kernel_rfl) (by kernel_rfl) (by kernel_rfl) ?qm2_4 (Or.inl ⟨?wm2_4, ?ym2_4⟩) (by assumption) ?rm2_4
            case hm2_4 => (simp only [List.getElem?_toArray, List.getElem?_cons_succ, List.getElem?_cons_zero]; rfl)
            case qm2_4 => exact fun _ _ _ h => h
            case wm2_4 => rfl
            case ym2_4 => (intro w hSw; (try dsimp only at hSw); go_simp <;> with_reducible rfl)
            try simp only [Act.put, List.setIfInBounds_toArray, List.set_cons_zero, List.set_cons_succ]
            refine wpAnyH_take (i := 6) (oi := ?oim2_5) (v := ?vm2_5) ?hm2_5 (by kernel_rfl) (by kernel_rfl) (by kernel_rfl) ?qm2_5 (Or.inl ⟨?wm2_5, ?ym2_5⟩) (by assumption) ?rm2_5
            case hm2_5 => (simp only [List.getElem?_toArray, List.getElem?_cons_succ, List.getElem?_cons_zero]; rfl)
            case qm2_5 => exact fun _ _ _ h => h
            case wm2_5 => rfl
            case ym2_5 => (intro w hSw; (try dsimp only at hSw); go_simp <;> with_reducible rfl)
            try simp only [Act.put, List.setIfInBounds_toArray, List.set_cons_zero, List.set_cons_succ]
            refine wpAnyH_take (i := 7) (oi := ?oim2_6) (v := ?vm2_6) ?hm2_6 (by kernel_rfl) (by kernel_rfl) (by kernel_rfl) ?qm2_6 (Or.inl ⟨?wm2_6, ?ym2_6⟩) (by assumption) ?rm2_6
            case hm2_6 => (simp only [List.getElem?_toArray, List.getElem?_cons_succ, List.getElem?_cons_zero]; rfl)
            case qm2_6 => exact fun _ _ _ h => h
            case wm2_6 => rfl
            case ym2_6 => (intro w hSw; (try dsimp only at hSw); go_simp <;> with_reducible rfl)
            try simp only [Act.put, List.setIfInBounds_toArray, List.set_cons_zero, List.set_cons_succ]
            refine wpAnyH_take (i := 8) (oi := ?oim2_7) (v := ?vm2_7) ?hm2_7 (by kernel_rfl) (by kernel_rfl) (by kernel_rfl) ?qm2_7 (Or.inl ⟨?wm2_7, ?ym2_7⟩) (by assumption) ?rm2_7
            case hm2_7 => (simp only [List.getElem?_toArray, List.getElem?_cons_succ, List.getElem?_cons_zero]; rfl)
            case qm2_7 => exact fun _ _ _ h => h
            case wm2_7 => rfl
            case ym2_7 => (intro w hSw; (try dsimp only at hSw); go_simp <;> with_reducible rfl)
            try simp only [Act.put, List.setIfInBounds_toArray, List.set_cons_zero, List.set_cons_succ]
            refine wpAnyH_ready (rs := [0]) (by kernel_rfl) (by simp) ?_
            refine AllReadyH.cons (o := ?oim2_8) ?hm2_8 (fun K hK => ?km2_8) ?mm2_8
            case hm2_8 => (simp only [List.getElem?_toArray, List.getElem?_cons_succ, List.getElem?_cons_zero]; rfl)
            case km2_8 =>
              go_simp
              refine hK.out _ _ (by trivial) (fun hHeld => ?_)
              clear hK K
              try simp only [Act.put, List.setIfInBounds_toArray, List.set_cons_zero, List.set_cons_succ]
              refine wpAnyH_ready (rs := [4]) (by kernel_rfl) (by simp) ?_
              refine AllReadyH.cons (o := ?oim2_9) ?hm2_9 (fun K hK => ?km2_9) ?mm2_9
              case hm2_9 => (simp only [List.getElem?_toArray, List.getElem?_cons_succ, List.getElem?_cons_zero]; rfl)
              case km2_9 =>
                (refine step_appR _ _ _ _ _ etS (by rfl) (by rfl) w.heap.size (.slice (some ⟨w'.heap.size, 0, none⟩) 0 0) 0 [] (by rfl) ?_ (some ⟨b, o, none⟩) i _ ((hv L).take i) (by rfl) ?_ ?_ (one_take _) ?_ ?_ ?_; exact World.ownsRow_made w' #[] 0 hs2 (by decide) (by simp); (rw [List.length_take, hv_length]; have := Hn.out; omega); exact rd_take (HR2.out.below ((Below.refl _ _).alloc (Nat.le_refl _) _)) i; omega; exact put_sz HB2.out _; (intro v5 w5 hown hg hat; have HO5 := Lib.hid hown; have HG5 := Lib.hid hg; have HB5 : Hid (Below w.heap.size w w5) := Lib.hid (put_b5 HB2.out hg); clear hown hg hat))
                refine hK.out _ _ (by trivial) (fun hHeld => ?_)
                clear hK K
                try simp only [Act.put, List.setIfInBounds_toArray, List.set_cons_zero, List.set_cons_succ]
                refine wpAnyH_ready (rs := [9]) (by kernel_rfl) (by simp) ?_
                refine AllReadyH.cons (o := ?oim2_10) ?hm2_10 (fun K hK => ?km2_10) ?mm2_10
                case hm2_10 => (simp only [List.getElem?_toArray, List.getElem?_cons_succ, List.getElem?_cons_zero]; rfl)
                case km2_10 =>
                  (refine step_appR _ _ _ _ _ etS (by rfl) (by rfl) w.heap.size v5 (0 + i) ([] ++ (hv L).take i) (by rfl) HO5.out _ (n - (i + 1)) _ ((hv L).drop (i + 1)) (by rfl) ?_ ?_ (one_drop _) ?_ HB5.out.size ?_; (rw [List.length_drop, hv_length, Hn.out]); (have h := rd_drop (HR.out.out.below HB5.out) (i + 1); first | exact h | simpa [Addr.add] using h); omega; (intro v6 w6 hown hg hat; have HO6 := Lib.hid hown; have HB6 := Lib.hid (HB5.out.grown hg HB5.out.size (fun k hk => (HO5.out.lt k hk).1)); clear hown hg hat))
                  refine hK.out _ _ (by trivial) (fun hHeld => ?_)
                  clear hK K
                  try simp only [Act.put, List.setIfInBounds_toArray, List.set_cons_zero, List.set_cons_succ]
                  refine wpAnyH_take (i := 10) (oi := ?oim2_11) (v := ?vm2_11) ?hm2_11 (by kernel_rfl) (by kernel_rfl) (by kernel_rfl) ?qm2_11 (Or.inl ⟨?wm2_11, ?ym2_11⟩) (by assumption) ?rm2_11
                  case hm2_11 => (simp only [List.getElem?_toArray, List.getElem?_cons_succ, List.getElem?_cons_zero]; rfl)
                  case qm2_11 => exact fun _ _ _ h => h
                  case wm2_11 => rfl
                  case ym2_11 => (intro w hSw; (try dsimp only at hSw); go_simp <;> with_reducible rfl)
                  try simp only [Act.put, List.setIfInBounds_toArray, List.set_cons_zero, List.set_cons_succ]
                  refine wpAnyH_done (by kernel_rfl) ?_ _
                  go_wp2_with fail
                  go_ret
                  exact put_outY HRY.out HB6.out HO6.out HPA.out Hn.out
                exact AllReadyH.nil
              exact AllReadyH.nil
            exact AllReadyH.nil
        · have hb : (rx == x) = false := by simpa using hs
          rw [hb] at HS
          rw [if_neg (fun h => hs h.2)] at HPA
          clear hbel hri hx2 hlx hiL hs hb
          go_wp2_with fail
          refine (HC.out _ (Below.refl _ _)).mono ?_
          rintro e w' ⟨rfl, m, rfl⟩
          go_wp2_with fail
          refine (HS.out _ (below_drewN (Below.refl _ _) _)).mono ?_
          rintro e w' ⟨rfl, m2, hw⟩
          have HB2 : Hid (Below w.heap.size w w') := Lib.hid (by subst hw; exact below_drewN (below_drewN HB.out m) m2)
          clear hw
          have hs2 := HB2.out.size
          have hic : (i : Int) ≤ (c : Int) := by omega
          have hin2 : (i : Int) ≤ (n : Int) := by omega
          have hi0 : 0 ≤ (i : Int) := by omega
          have hc0 : c ≠ 0 := by omega
          have hci : c ≠ i := by omega
          have HCO := Lib.hid (fun W (hb : Below w.heap.size w W) => l01Own_any B p cp (iv x) W (by rw [iv_length]; exact Hp.out) (by omega) (iv_one _) (HX.out.below hb))
          go_wp2_with fail
          refine wp_region_held_drew (S := (fun w' => True)) (by kernel_rfl) (by trivial) (fun hHeld => ?_)
          refine wpAnyH_take (i := 0) (oi := ?oim3_1) (v := ?vm3_1) ?hm3_1 (by kernel_rfl) (by kernel_rfl) (by kernel_rfl) ?qm3_1 (Or.inl ⟨?wm3_1, ?ym3_1⟩) (by assumption) ?rm3_1
          case hm3_1 => (simp only [List.getElem?_toArray, List.getElem?_cons_succ, List.getElem?_cons_zero]; rfl)
          case qm3_1 => exact fun _ _ _ h => h
          case wm3_1 => rfl
          case ym3_1 => (intro w hSw; (try dsimp only at hSw); go_simp <;> with_reducible rfl)
          try simp only [Act.put, List.setIfInBounds_toArray, List.set_cons_zero, List.set_cons_succ]
          refine wpAnyH_take (i := 3) (oi := ?oim3_2) (v := ?vm3_2) ?hm3_2 (by kernel_rfl) (by kernel_rfl) (by kernel_rfl) ?qm3_2 (Or.inl ⟨?wm3_2, ?ym3_2⟩) (by assumption) ?rm3_2
          case hm3_2 => (simp only [List.getElem?_toArray, List.getElem?_cons_succ, List.getElem?_cons_zero]; rfl)
          case qm3_2 => exact fun _ _ _ h => h
          case wm3_2 => rfl
          case ym3_2 => (intro w hSw; (try dsimp only at hSw); go_simp <;> with_reducible rfl)
          try simp only [Act.put, List.setIfInBounds_toArray, List.set_cons_zero, List.set_cons_succ]
          refine wpAnyH_take (i := 4) (oi := ?oim3_3) (v := ?vm3_3) ?hm3_3 (by kernel_rfl) (by kernel_rfl) (by kernel_rfl) ?qm3_3 (Or.inl ⟨?wm3_3, ?ym3_3⟩) (by assumption) ?rm3_3
          case hm3_3 => (simp only [List.getElem?_toArray, List.getElem?_cons_succ, List.getElem?_cons_zero]; rfl)
          case qm3_3 => exact fun _ _ _ h => h
          case wm3_3 => rfl
          case ym3_3 => (intro w hSw; (try dsimp only at hSw); go_simp <;> with_reducible rfl)
          try simp only [Act.put, List.setIfInBounds_toArray, List.set_cons_zero, List.set_cons_succ]
          refine wpAnyH_take (i := 5) (oi := ?oim3_4) (v := ?vm3_4) ?hm3_4 (by kernel_rfl) (by kernel_rfl) (by kernel_rfl) ?qm3_4 (Or.inl ⟨?wm3_4, ?ym3_4⟩) (by assumption) ?rm3_4
          case hm3_4 => (simp only [List.getElem?_toArray, List.getElem?_cons_succ, List.getElem?_cons_zero]; rfl)
          case qm3_4 => exact fun _ _ _ h => h
          case wm3_4 => rfl
          case ym3_4 => (intro w hSw; (try dsimp only at hSw); go_simp <;> with_reducible rfl)
          try simp only [Act.put, List.setIfInBounds_toArray, List.set_cons_zero, List.set_cons_succ]
          refine wpAnyH_ready (rs := [1]) (by kernel_rfl) (by simp) ?_
          refine AllReadyH.cons (o := ?oim3_5) ?hm3_5 (fun K hK => ?km3_5) ?mm3_5
          case hm3_5 => (simp only [List.getElem?_toArray, List.getElem?_cons_succ, List.getElem?_cons_zero]; rfl)
          case km3_5 =>
            go_simp
            go_at_call 75; refine (HCO.out _ (below_drewN HB2.out 1)).mono ?_; rintro e w1 ⟨g, cap, rfl, ho, hb⟩; have hcg := owns_cap ho; have HXg := Lib.hid (owns_RdT ho); have HB1 := Lib.hid ((HB2.out.drew).trans (hb.mono hs2)); clear ho hb
            refine hK.out _ _ (by trivial) (fun hHeld => ?_)
            clear hK K
            try simp only [Act.put, List.setIfInBounds_toArray, List.set_cons_zero, List.set_cons_succ]
            refine wpAnyH_ready (rs := [2]) (by kernel_rfl) (by simp) ?_
            refine AllReadyH.cons (o := ?oim3_6) ?hm3_6 (fun K hK => ?km3_6) ?mm3_6
            case hm3_6 => (simp only [List.getElem?_toArray, List.getElem?_cons_succ, List.getElem?_cons_zero]; rfl)
            case km3_6 =>
              go_simp
              refine hK.out _ _ (by trivial) (fun hHeld => ?_)
              clear hK K
              try simp only [Act.put, List.setIfInBounds_toArray, List.set_cons_zero, List.set_cons_succ]
              refine wpAnyH_ready (rs := [6]) (by kernel_rfl) (by simp) ?_
              refine AllReadyH.cons (o := ?oim3_7) ?hm3_7 (fun K hK => ?km3_7) ?mm3_7
              case hm3_7 => (simp only [List.getElem?_toArray, List.getElem?_cons_succ, List.getElem?_cons_zero]; rfl)
              case km3_7 =>
                (refine step_appR _ _ _ _ _ etS (by rfl) (by rfl) w1.heap.size (.slice (some ⟨w1.heap.size, 0, none⟩) 1 1) 1 [.slice (some ⟨g, 0, none⟩) p cap] (by rfl) ?_ _ (n - i) _ ((hv L).drop i) (by rfl) ?_ ?_ (one_drop _) ?_ ?_ ?_; exact row_cell w1 _ (Nat.le_refl _); (rw [List.length_drop, hv_length, Hn.out]); (have h := rd_drop (HR.out.out.below ((HB1.out.alloc HB1.out.size (.cells #[.slice (some ⟨g, 0, none⟩) p cap] 30)).drew)) i; first | exact h | simpa [Addr.add] using h); omega; exact put_sz (Below.refl w1.heap.size w1) _ (Nat.le_refl _); (intro v5 w5 hown hg hat; have HB5 := Lib.hid (put_b6 hg); have HO5 := Lib.hid hown; clear hown hg hat))
                refine hK.out _ _ (by trivial) (fun hHeld => ?_)
                clear hK K
                try simp only [Act.put, List.setIfInBounds_toArray, List.set_cons_zero, List.set_cons_succ]
                refine wpAnyH_take (i := 7) (oi := ?oim3_8) (v := ?vm3_8) ?hm3_8 (by kernel_rfl) (by kernel_rfl) (by kernel_rfl) ?qm3_8 (Or.inl ⟨?wm3_8, ?ym3_8⟩) (by assumption) ?rm3_8
                case hm3_8 => (simp only [List.getElem?_toArray, List.getElem?_cons_succ, List.getElem?_cons_zero]; rfl)
                case qm3_8 => exact fun _ _ _ h => h
                case wm3_8 => rfl
                case ym3_8 => (intro w hSw; (try dsimp only at hSw); go_simp <;> with_reducible rfl)
                try simp only [Act.put, List.setIfInBounds_toArray, List.set_cons_zero, List.set_cons_succ]
                refine wpAnyH_done (by kernel_rfl) ?_ _
                have HX5 := Lib.hid (HXg.out.below HB5.out)
                have HB05 := Lib.hid (HB1.out.trans (HB5.out.mono HB1.out.size))
                obtain ⟨A5, c5, rfl, _⟩ := owns_shape HO5.out
                have HR5 := Lib.hid (HR.out.out.below HB05.out)
                go_wp2_with (first | (at_builtin; refine wpList_appR _ _ _ _ _ etS (by rfl) (by rfl) w5.heap.size (.slice (some ⟨w5.heap.size, 0, none⟩) 0 0) 0 [] (by rfl) (World.ownsRow_made w5 #[] 0 (Nat.le_refl _) (by decide) (by simp)) _ i _ ((hv L).take i) (by rfl) (by rw [List.length_take, hv_length]; have := Hn.out; omega) (rd_take (HR5.out.below ((Below.refl _ _).alloc (Nat.le_refl _) _)) i) (one_take _) ?_ (Nat.le_of_lt (by simp)) ?_; omega; (intro v6 w6 hown hg hat; have HO6 := Lib.hid hown; have HB6 := Lib.hid (put_b6 hg); clear hown hg hat)) | (at_builtin; refine wpList_appR _ _ _ _ _ etS (by rfl) (by rfl) w5.heap.size v6 (0 + i) ([] ++ (hv L).take i) (by rfl) HO6.out A5 _ c5 ([.slice (some ⟨g, 0, none⟩) p cap] ++ (hv L).drop i) (by rfl) (by have h := HO5.out.1; rw [Nat.mul_one] at h; exact h.symm) (owns_Rd (owns_later HO5.out HB6.out)) (fun u hu => by rcases List.mem_append.1 hu with h | h; (exact slice_one u h); (exact one_drop _ u h)) ?_ HB6.out.size ?_; omega; (intro v7 w7 hown hg hat; have HO7 := Lib.hid hown; have HB7 := Lib.hid (HB6.out.grown hg HB6.out.size (fun k hk => (HO6.out.lt k hk).1)); clear hown hg hat)))
                go_ret
                exact put_inY HRY.out (HB05.out.trans (HB7.out.mono HB05.out.size)) HO7.out (HX5.out.below HB7.out) hcg Hp.out HPA.out Hn.out
              exact AllReadyH.nil
            exact AllReadyH.nil
          exact AllReadyH.nil
      · have hp0 : ¬ i < (dat L).length := by rw [dat_length, ← Hn.out]; exact hin
        rw [if_neg (fun h => hp0 h.1)] at HPA
        obtain rfl : i = n := by omega
        obtain ⟨w', hw'⟩ : ∃ w', w' = wr := ⟨_, rfl⟩
        subst hw'
        have HB2 := HB
        have hs2 := hbel.size
        have HCO := Lib.hid (fun W (hb : Below w.heap.size w W) => l01Own_any B p cp (iv x) W (by rw [iv_length]; exact Hp.out) (by omega) (iv_one _) (HX.out.below hb))
        have HD0 := Lib.hid (show (hv L).drop i = [] from List.drop_of_length_le (by rw [hv_length, ← Hn.out]; omega))
        clear hbel hp0 hin hlt hi hk
        by_cases hn0 : i = 0
        · subst hn0
          have HT0 := Lib.hid (show (hv L).take 0 = [] from List.take_zero)
          by_cases hc0 : c = 0
          · subst hc0
            go_wp2_with fail
            refine wp_region_held_drew (S := (fun w' => True)) (by kernel_rfl) (by trivial) (fun hHeld => ?_)
            refine wpAnyH_take (i := 0) (oi := ?oim4_1) (v := ?vm4_1) ?hm4_1 (by kernel_rfl) (by kernel_rfl) (by kernel_rfl) ?qm4_1 (Or.inl ⟨?wm4_1, ?ym4_1⟩) (by assumption) ?rm4_1
            case hm4_1 => (simp only [List.getElem?_toArray, List.getElem?_cons_succ, List.getElem?_cons_zero]; rfl)
            case qm4_1 => exact fun _ _ _ h => h
            case wm4_1 => rfl
            case ym4_1 => (intro w hSw; (try dsimp only at hSw); go_simp <;> with_reducible rfl)
            try simp only [Act.put, List.setIfInBounds_toArray, List.set_cons_zero, List.set_cons_succ]
            refine wpAnyH_take (i := 3) (oi := ?oim4_2) (v := ?vm4_2) ?hm4_2 (by kernel_rfl) (by kernel_rfl) (by kernel_rfl) ?qm4_2 (Or.inl ⟨?wm4_2, ?ym4_2⟩) (by assumption) ?rm4_2
            case hm4_2 => (simp only [List.getElem?_toArray, List.getElem?_cons_succ, List.getElem?_cons_zero]; rfl)
            case qm4_2 => exact fun _ _ _ h => h
            case wm4_2 => rfl
            case ym4_2 => (intro w hSw; (try dsimp only at hSw); go_simp <;> with_reducible rfl)
            try simp only [Act.put, List.setIfInBounds_toArray, List.set_cons_zero, List.set_cons_succ]
            refine wpAnyH_take (i := 4) (oi := ?oim4_3) (v := ?vm4_3) ?hm4_3 (by kernel_rfl) (by kernel_rfl) (by kernel_rfl) ?qm4_3 (Or.inl ⟨?wm4_3, ?ym4_3⟩) (by assumption) ?rm4_3
            case hm4_3 => (simp only [List.getElem?_toArray, List.getElem?_cons_succ, List.getElem?_cons_zero]; rfl)
            case qm4_3 => exact fun _ _ _ h => h
            case wm4_3 => rfl
            case ym4_3 => (intro w hSw; (try dsimp only at hSw); go_simp <;> with_reducible rfl)
            try simp only [Act.put, List.setIfInBounds_toArray, List.set_cons_zero, List.set_cons_succ]
            refine wpAnyH_take (i := 5) (oi := ?oim4_4) (v := ?vm4_4) ?hm4_4 (by kernel_rfl) (by kernel_rfl) (by kernel_rfl) ?qm4_4 (Or.inl ⟨?wm4_4, ?ym4_4⟩) (by assumption) ?rm4_4
            case hm4_4 => (simp only [List.getElem?_toArray, List.getElem?_cons_succ, List.getElem?_cons_zero]; rfl)
            case qm4_4 => exact fun _ _ _ h => h
            case wm4_4 => rfl
            case ym4_4 => (intro w hSw; (try dsimp only at hSw); go_simp <;> with_reducible rfl)
            try simp only [Act.put, List.setIfInBounds_toArray, List.set_cons_zero, List.set_cons_succ]
            refine wpAnyH_ready (rs := [1]) (by kernel_rfl) (by simp) ?_
            refine AllReadyH.cons (o := ?oim4_5) ?hm4_5 (fun K hK => ?km4_5) ?mm4_5
            case hm4_5 => (simp only [List.getElem?_toArray, List.getElem?_cons_succ, List.getElem?_cons_zero]; rfl)
            case km4_5 =>
              go_simp
              go_at_call 75; refine (HCO.out _ (below_drewN HB2.out 1)).mono ?_; rintro e w1 ⟨g, cap, rfl, ho, hb⟩; have hcg := owns_cap ho; have HXg := Lib.hid (owns_RdT ho); have HB1 := Lib.hid ((HB2.out.drew).trans (hb.mono hs2)); clear ho hb
              refine hK.out _ _ (by trivial) (fun hHeld => ?_)
              clear hK K
              try simp only [Act.put, List.setIfInBounds_toArray, List.set_cons_zero, List.set_cons_succ]
              refine wpAnyH_ready (rs := [2]) (by kernel_rfl) (by simp) ?_
              refine AllReadyH.cons (o := ?oim4_6) ?hm4_6 (fun K hK => ?km4_6) ?mm4_6
              case hm4_6 => (simp only [List.getElem?_toArray, List.getElem?_cons_succ, List.getElem?_cons_zero]; rfl)
              case km4_6 =>
                go_simp
                refine hK.out _ _ (by trivial) (fun hHeld => ?_)
                clear hK K
                try simp only [Act.put, List.setIfInBounds_toArray, List.set_cons_zero, List.set_cons_succ]
                refine wpAnyH_ready (rs := [6]) (by kernel_rfl) (by simp) ?_
                refine AllReadyH.cons (o := ?oim4_7) ?hm4_7 (fun K hK => ?km4_7) ?mm4_7
                case hm4_7 => (simp only [List.getElem?_toArray, List.getElem?_cons_succ, List.getElem?_cons_zero]; rfl)
                case km4_7 =>
                  (refine step_appR _ _ _ _ _ etS (by rfl) (by rfl) w1.heap.size (.slice (some ⟨w1.heap.size, 0, none⟩) 1 1) 1 [.slice (some ⟨g, 0, none⟩) p cap] (by rfl) ?_ _ 0 _ [] (by rfl) (by rfl) (.inl rfl) (fun u hu => (by cases hu)) ?_ ?_ ?_; exact row_cell w1 _ (Nat.le_refl _); omega; exact put_sz (Below.refl w1.heap.size w1) _ (Nat.le_refl _); (intro v5 w5 hown hg hat; have HB5 := Lib.hid (put_b6 hg); have HO5 := Lib.hid hown; clear hown hg hat))
                  refine hK.out _ _ (by trivial) (fun hHeld => ?_)
                  clear hK K
                  try simp only [Act.put, List.setIfInBounds_toArray, List.set_cons_zero, List.set_cons_succ]
                  refine wpAnyH_take (i := 7) (oi := ?oim4_8) (v := ?vm4_8) ?hm4_8 (by kernel_rfl) (by kernel_rfl) (by kernel_rfl) ?qm4_8 (Or.inl ⟨?wm4_8, ?ym4_8⟩) (by assumption) ?rm4_8
                  case hm4_8 => (simp only [List.getElem?_toArray, List.getElem?_cons_succ, List.getElem?_cons_zero]; rfl)
                  case qm4_8 => exact fun _ _ _ h => h
                  case wm4_8 => rfl
                  case ym4_8 => (intro w hSw; (try dsimp only at hSw); go_simp <;> with_reducible rfl)
                  try simp only [Act.put, List.setIfInBounds_toArray, List.set_cons_zero, List.set_cons_succ]
                  refine wpAnyH_done (by kernel_rfl) ?_ _
                  have HX5 := Lib.hid (HXg.out.below HB5.out)
                  have HB05 := Lib.hid (HB1.out.trans (HB5.out.mono HB1.out.size))
                  obtain ⟨A5, c5, rfl, _⟩ := owns_shape HO5.out
                  have HR5 := Lib.hid (HR.out.out.below HB05.out)
                  go_wp2_with (first | (at_builtin; refine wpList_appR _ _ _ _ _ etS (by rfl) (by rfl) w5.heap.size (.slice (some ⟨w5.heap.size, 0, none⟩) 0 0) 0 [] (by rfl) (World.ownsRow_made w5 #[] 0 (Nat.le_refl _) (by decide) (by simp)) _ 0 _ [] (by rfl) (by rfl) (.inl rfl) (fun u hu => (by cases hu)) ?_ (Nat.le_of_lt (by simp)) ?_; omega; (intro v6 w6 hown hg hat; have HO6 := Lib.hid hown; have HB6 := Lib.hid (put_b6 hg); clear hown hg hat)) | (at_builtin; refine wpList_appR _ _ _ _ _ etS (by rfl) (by rfl) w5.heap.size v6 (0 + 0) ([] ++ []) (by rfl) HO6.out A5 _ c5 ([.slice (some ⟨g, 0, none⟩) p cap] ++ []) (by rfl) (by rfl) (owns_Rd (owns_later HO5.out HB6.out)) slice_one ?_ HB6.out.size ?_; omega; (intro v7 w7 hown hg hat; have HO7 := Lib.hid hown; have HB7 := Lib.hid (HB6.out.grown hg HB6.out.size (fun k hk => (HO6.out.lt k hk).1)); clear hown hg hat)))
                  go_ret
                  exact put_inY HRY.out (HB05.out.trans (HB7.out.mono HB05.out.size)) (by rw [HD0.out, HT0.out]; exact HO7.out) (HX5.out.below HB7.out) hcg Hp.out HPA.out Hn.out
                exact AllReadyH.nil
              exact AllReadyH.nil
            exact AllReadyH.nil
          · go_wp2_with fail
            refine wp_region_held_drew (S := (fun w' => True)) (by kernel_rfl) (by trivial) (fun hHeld => ?_)
            refine wpAnyH_take (i := 0) (oi := ?oim5_1) (v := ?vm5_1) ?hm5_1 (by kernel_rfl) (by kernel_rfl) (by kernel_rfl) ?qm5_1 (Or.inl ⟨?wm5_1, ?ym5_1⟩) (by assumption) ?rm5_1
            case hm5_1 => (simp only [List.getElem?_toArray, List.getElem?_cons_succ, List.getElem?_cons_zero]; rfl)
            case qm5_1 => exact fun _ _ _ h => h
            case wm5_1 => rfl
            case ym5_1 => (intro w hSw; (try dsimp only at hSw); go_simp <;> with_reducible rfl)
            try simp only [Act.put, List.setIfInBounds_toArray, List.set_cons_zero, List.set_cons_succ]
            refine wpAnyH_take (i := 3) (oi := ?oim5_2) (v := ?vm5_2) ?hm5_2 (by kernel_rfl) (by kernel_rfl) (by kernel_rfl) ?qm5_2 (Or.inl ⟨?wm5_2, ?ym5_2⟩) (by assumption) ?rm5_2
            case hm5_2 => (simp only [List.getElem?_toArray, List.getElem?_cons_succ, List.getElem?_cons_zero]; rfl)
            case qm5_2 => exact fun _ _ _ h => h
            case wm5_2 => rfl
            case ym5_2 => (intro w hSw; (try dsimp only at hSw); go_simp <;> with_reducible rfl)
            try simp only [Act.put, List.setIfInBounds_toArray, List.set_cons_zero, List.set_cons_succ]
            refine wpAnyH_take (i := 4) (oi := ?oim5_3) (v := ?vm5_3) ?hm5_3 (by kernel_rfl) (by kernel_rfl) (by kernel_rfl) ?qm5_3 (Or.inl ⟨?wm5_3, ?ym5_3⟩) (by assumption) ?rm5_3
            case hm5_3 => (simp only [List.getElem?_toArray, List.getElem?_cons_succ, List.getElem?_cons_zero]; rfl)
            case qm5_3 => exact fun _ _ _ h => h
            case wm5_3 => rfl
            case ym5_3 => (intro w hSw; (try dsimp only at hSw); go_simp <;> with_reducible rfl)
            try simp only [Act.put, List.setIfInBounds_toArray, List.set_cons_zero, List.set_cons_succ]
            refine wpAnyH_take (i := 5) (oi := ?oim5_4) (v := ?vm5_4) ?hm5_4 (by kernel_rfl) (by kernel_rfl) (by kernel_rfl) ?qm5_4 (Or.inl ⟨?wm5_4, ?ym5_4⟩) (by assumption) ?rm5_4
            case hm5_4 => (simp only [List.getElem?_toArray, List.getElem?_cons_succ, List.getElem?_cons_zero]; rfl)
            case qm5_4 => exact fun _ _ _ h => h
            case wm5_4 => rfl
            case ym5_4 => (intro w hSw; (try dsimp only at hSw); go_simp <;> with_reducible rfl)
            try simp only [Act.put, List.setIfInBounds_toArray, List.set_cons_zero, List.set_cons_succ]
            refine wpAnyH_ready (rs := [1]) (by kernel_rfl) (by simp) ?_
            refine AllReadyH.cons (o := ?oim5_5) ?hm5_5 (fun K hK => ?km5_5) ?mm5_5
            case hm5_5 => (simp only [List.getElem?_toArray, List.getElem?_cons_succ, List.getElem?_cons_zero]; rfl)
            case km5_5 =>
              go_simp
              go_at_call 75; refine (HCO.out _ (below_drewN HB2.out 1)).mono ?_; rintro e w1 ⟨g, cap, rfl, ho, hb⟩; have hcg := owns_cap ho; have HXg := Lib.hid (owns_RdT ho); have HB1 := Lib.hid ((HB2.out.drew).trans (hb.mono hs2)); clear ho hb
              refine hK.out _ _ (by trivial) (fun hHeld => ?_)
              clear hK K
              try simp only [Act.put, List.setIfInBounds_toArray, List.set_cons_zero, List.set_cons_succ]
              refine wpAnyH_ready (rs := [2]) (by kernel_rfl) (by simp) ?_
              refine AllReadyH.cons (o := ?oim5_6) ?hm5_6 (fun K hK => ?km5_6) ?mm5_6
              case hm5_6 => (simp only [List.getElem?_toArray, List.getElem?_cons_succ, List.getElem?_cons_zero]; rfl)
              case km5_6 =>
                go_simp
                refine hK.out _ _ (by trivial) (fun hHeld => ?_)
                clear hK K
                try simp only [Act.put, List.setIfInBounds_toArray, List.set_cons_zero, List.set_cons_succ]
                refine wpAnyH_ready (rs := [6]) (by kernel_rfl) (by simp) ?_
                refine AllReadyH.cons (o := ?oim5_7) ?hm5_7 (fun K hK => ?km5_7) ?mm5_7
                case hm5_7 => (simp only [List.getElem?_toArray, List.getElem?_cons_succ, List.getElem?_cons_zero]; rfl)
                case km5_7 =>
                  (refine step_appR _ _ _ _ _ etS (by rfl) (by rfl) w1.heap.size (.slice (some ⟨w1.heap.size, 0, none⟩) 1 1) 1 [.slice (some ⟨g, 0, none⟩) p cap] (by rfl) ?_ _ 0 _ [] (by rfl) (by rfl) (.inl rfl) (fun u hu => (by cases hu)) ?_ ?_ ?_; exact row_cell w1 _ (Nat.le_refl _); omega; exact put_sz (Below.refl w1.heap.size w1) _ (Nat.le_refl _); (intro v5 w5 hown hg hat; have HB5 := Lib.hid (put_b6 hg); have HO5 := Lib.hid hown; clear hown hg hat))
                  refine hK.out _ _ (by trivial) (fun hHeld => ?_)
                  clear hK K
                  try simp only [Act.put, List.setIfInBounds_toArray, List.set_cons_zero, List.set_cons_succ]
                  refine wpAnyH_take (i := 7) (oi := ?oim5_8) (v := ?vm5_8) ?hm5_8 (by kernel_rfl) (by kernel_rfl) (by kernel_rfl) ?qm5_8 (Or.inl ⟨?wm5_8, ?ym5_8⟩) (by assumption) ?rm5_8
                  case hm5_8 => (simp only [List.getElem?_toArray, List.getElem?_cons_succ, List.getElem?_cons_zero]; rfl)
                  case qm5_8 => exact fun _ _ _ h => h
                  case wm5_8 => rfl
                  case ym5_8 => (intro w hSw; (try dsimp only at hSw); go_simp <;> with_reducible rfl)
                  try simp only [Act.put, List.setIfInBounds_toArray, List.set_cons_zero, List.set_cons_succ]
                  refine wpAnyH_done (by kernel_rfl) ?_ _
                  have HX5 := Lib.hid (HXg.out.below HB5.out)
                  have HB05 := Lib.hid (HB1.out.trans (HB5.out.mono HB1.out.size))
                  obtain ⟨A5, c5, rfl, _⟩ := owns_shape HO5.out
                  have HR5 := Lib.hid (HR.out.out.below HB05.out)
                  go_wp2_with (first | (at_builtin; refine wpList_appR _ _ _ _ _ etS (by rfl) (by rfl) w5.heap.size (.slice (some ⟨w5.heap.size, 0, none⟩) 0 0) 0 [] (by rfl) (World.ownsRow_made w5 #[] 0 (Nat.le_refl _) (by decide) (by simp)) _ 0 _ [] (by rfl) (by rfl) (.inl rfl) (fun u hu => (by cases hu)) ?_ (Nat.le_of_lt (by simp)) ?_; omega; (intro v6 w6 hown hg hat; have HO6 := Lib.hid hown; have HB6 := Lib.hid (put_b6 hg); clear hown hg hat)) | (at_builtin; refine wpList_appR _ _ _ _ _ etS (by rfl) (by rfl) w5.heap.size v6 (0 + 0) ([] ++ []) (by rfl) HO6.out A5 _ c5 ([.slice (some ⟨g, 0, none⟩) p cap] ++ []) (by rfl) (by rfl) (owns_Rd (owns_later HO5.out HB6.out)) slice_one ?_ HB6.out.size ?_; omega; (intro v7 w7 hown hg hat; have HO7 := Lib.hid hown; have HB7 := Lib.hid (HB6.out.grown hg HB6.out.size (fun k hk => (HO6.out.lt k hk).1)); clear hown hg hat)))
                  go_ret
                  exact put_inY HRY.out (HB05.out.trans (HB7.out.mono HB05.out.size)) (by rw [HD0.out, HT0.out]; exact HO7.out) (HX5.out.below HB7.out) hcg Hp.out HPA.out Hn.out
                exact AllReadyH.nil
              exact AllReadyH.nil
            exact AllReadyH.nil
        · obtain ⟨b, o, rfl, _⟩ := HR.out.at_ (k := 0) (by rw [← Hn.out]; omega)
          have hii : (i : Int) ≤ (c : Int) := by omega
          have hi0 : 0 ≤ (i : Int) := by omega
          by_cases hc0 : c = i
          · subst hc0
            go_wp2_with fail
            refine wp_region_held_drew (S := (fun w' => True)) (by kernel_rfl) (by trivial) (fun hHeld => ?_)
            refine wpAnyH_take (i := 0) (oi := ?oim6_1) (v := ?vm6_1) ?hm6_1 (by kernel_rfl) (by kernel_rfl) (by kernel_rfl) ?qm6_1 (Or.inl ⟨?wm6_1, ?ym6_1⟩) (by assumption) ?rm6_1
            case hm6_1 => (simp only [List.getElem?_toArray, List.getElem?_cons_succ, List.getElem?_cons_zero]; rfl)
            case qm6_1 => exact fun _ _ _ h => h
            case wm6_1 => rfl
            case ym6_1 => (intro w hSw; (try dsimp only at hSw); go_simp <;> with_reducible rfl)
            try simp only [Act.put, List.setIfInBounds_toArray, List.set_cons_zero, List.set_cons_succ]
            refine wpAnyH_take (i := 3) (oi := ?oim6_2) (v := ?vm6_2) ?hm6_2 (by kernel_rfl) (by kernel_rfl) (by kernel_rfl) ?qm6_2 (Or.inl ⟨?wm6_2, ?ym6_2⟩) (by assumption) ?rm6_2
            case hm6_2 => (simp only [List.getElem?_toArray, List.getElem?_cons_succ, List.getElem?_cons_zero]; rfl)
            case qm6_2 => exact fun _ _ _ h => h
            case wm6_2 => rfl
            case ym6_2 => (intro w hSw; (try dsimp only at hSw); go_simp <;> with_reducible rfl)
            try simp only [Act.put, List.setIfInBounds_toArray, List.set_cons_zero, List.set_cons_succ]
            refine wpAnyH_take (i := 4) (oi := ?oim6_3) (v := ?vm6_3) ?hm6_3 (by kernel_rfl) (by kernel_rfl) (by kernel_rfl) ?qm6_3 (Or.inl ⟨?wm6_3, ?ym6_3⟩) (by assumption) ?rm6_3
            case hm6_3 => (simp only [List.getElem?_toArray, List.getElem?_cons_succ, List.getElem?_cons_zero]; rfl)
            case qm6_3 => exact fun _ _ _ h => h
            case wm6_3 => rfl
            case ym6_3 => (intro w hSw; (try dsimp only at hSw); go_simp <;> with_reducible rfl)
            try simp only [Act.put, List.setIfInBounds_toArray, List.set_cons_zero, List.set_cons_succ]
            refine wpAnyH_take (i := 5) (oi := ?oim6_4) (v := ?vm6_4) ?hm6_4 (by kernel_rfl) (by kernel_rfl) (by kernel_rfl) ?qm6_4 (Or.inl ⟨?wm6_4, ?ym6_4⟩) (by assumption) ?rm6_4
            case hm6_4 => (simp only [List.getElem?_toArray, List.getElem?_cons_succ, List.getElem?_cons_zero]; rfl)
            case qm6_4 => exact fun _ _ _ h => h
            case wm6_4 => rfl
            case ym6_4 => (intro w hSw; (try dsimp only at hSw); go_simp <;> with_reducible rfl)
            try simp only [Act.put, List.setIfInBounds_toArray, List.set_cons_zero, List.set_cons_succ]
            refine wpAnyH_ready (rs := [1]) (by kernel_rfl) (by simp) ?_
            refine AllReadyH.cons (o := ?oim6_5) ?hm6_5 (fun K hK => ?km6_5) ?mm6_5
            case hm6_5 => (simp only [List.getElem?_toArray, List.getElem?_cons_succ, List.getElem?_cons_zero]; rfl)
            case km6_5 =>
              go_simp
              go_at_call 75; refine (HCO.out _ (below_drewN HB2.out 1)).mono ?_; rintro e w1 ⟨g, cap, rfl, ho, hb⟩; have hcg := owns_cap ho; have HXg := Lib.hid (owns_RdT ho); have HB1 := Lib.hid ((HB2.out.drew).trans (hb.mono hs2)); clear ho hb
              refine hK.out _ _ (by trivial) (fun hHeld => ?_)
              clear hK K
              try simp only [Act.put, List.setIfInBounds_toArray, List.set_cons_zero, List.set_cons_succ]
              refine wpAnyH_ready (rs := [2]) (by kernel_rfl) (by simp) ?_
              refine AllReadyH.cons (o := ?oim6_6) ?hm6_6 (fun K hK => ?km6_6) ?mm6_6
              case hm6_6 => (simp only [List.getElem?_toArray, List.getElem?_cons_succ, List.getElem?_cons_zero]; rfl)
              case km6_6 =>
                go_simp
                refine hK.out _ _ (by trivial) (fun hHeld => ?_)
                clear hK K
                try simp only [Act.put, List.setIfInBounds_toArray, List.set_cons_zero, List.set_cons_succ]
                refine wpAnyH_ready (rs := [6]) (by kernel_rfl) (by simp) ?_
                refine AllReadyH.cons (o := ?oim6_7) ?hm6_7 (fun K hK => ?km6_7) ?mm6_7
                case hm6_7 => (simp only [List.getElem?_toArray, List.getElem?_cons_succ, List.getElem?_cons_zero]; rfl)
                case km6_7 =>
                  (refine step_appR _ _ _ _ _ etS (by rfl) (by rfl) w1.heap.size (.slice (some ⟨w1.heap.size, 0, none⟩) 1 1) 1 [.slice (some ⟨g, 0, none⟩) p cap] (by rfl) ?_ _ 0 _ [] (by rfl) (by rfl) (.inl rfl) (fun u hu => (by cases hu)) ?_ ?_ ?_; exact row_cell w1 _ (Nat.le_refl _); omega; exact put_sz (Below.refl w1.heap.size w1) _ (Nat.le_refl _); (intro v5 w5 hown hg hat; have HB5 := Lib.hid (put_b6 hg); have HO5 := Lib.hid hown; clear hown hg hat))
                  refine hK.out _ _ (by trivial) (fun hHeld => ?_)
                  clear hK K
                  try simp only [Act.put, List.setIfInBounds_toArray, List.set_cons_zero, List.set_cons_succ]
                  refine wpAnyH_take (i := 7) (oi := ?oim6_8) (v := ?vm6_8) ?hm6_8 (by kernel_rfl) (by kernel_rfl) (by kernel_rfl) ?qm6_8 (Or.inl ⟨?wm6_8, ?ym6_8⟩) (by assumption) ?rm6_8
                  case hm6_8 => (simp only [List.getElem?_toArray, List.getElem?_cons_succ, List.getElem?_cons_zero]; rfl)
                  case qm6_8 => exact fun _ _ _ h => h
                  case wm6_8 => rfl
                  case ym6_8 => (intro w hSw; (try dsimp only at hSw); go_simp <;> with_reducible rfl)
                  try simp only [Act.put, List.setIfInBounds_toArray, List.set_cons_zero, List.set_cons_succ]
                  refine wpAnyH_done (by kernel_rfl) ?_ _
                  have HX5 := Lib.hid (HXg.out.below HB5.out)
                  have HB05 := Lib.hid (HB1.out.trans (HB5.out.mono HB1.out.size))
                  obtain ⟨A5, c5, rfl, _⟩ := owns_shape HO5.out
                  have HR5 := Lib.hid (HR.out.out.below HB05.out)
                  go_wp2_with (first | (at_builtin; refine wpList_appR _ _ _ _ _ etS (by rfl) (by rfl) w5.heap.size (.slice (some ⟨w5.heap.size, 0, none⟩) 0 0) 0 [] (by rfl) (World.ownsRow_made w5 #[] 0 (Nat.le_refl _) (by decide) (by simp)) _ c _ ((hv L).take c) (by rfl) (by rw [List.length_take, hv_length]; have := Hn.out; omega) (rd_take (HR5.out.below ((Below.refl _ _).alloc (Nat.le_refl _) _)) c) (one_take _) ?_ (Nat.le_of_lt (by simp)) ?_; omega; (intro v6 w6 hown hg hat; have HO6 := Lib.hid hown; have HB6 := Lib.hid (put_b6 hg); clear hown hg hat)) | (at_builtin; refine wpList_appR _ _ _ _ _ etS (by rfl) (by rfl) w5.heap.size v6 (0 + c) ([] ++ (hv L).take c) (by rfl) HO6.out A5 _ c5 ([.slice (some ⟨g, 0, none⟩) p cap] ++ []) (by rfl) (by rfl) (owns_Rd (owns_later HO5.out HB6.out)) slice_one ?_ HB6.out.size ?_; omega; (intro v7 w7 hown hg hat; have HO7 := Lib.hid hown; have HB7 := Lib.hid (HB6.out.grown hg HB6.out.size (fun k hk => (HO6.out.lt k hk).1)); clear hown hg hat)))
                  go_ret
                  exact put_inY HRY.out (HB05.out.trans (HB7.out.mono HB05.out.size)) (by rw [HD0.out, Nat.sub_self]; exact HO7.out) (HX5.out.below HB7.out) hcg Hp.out HPA.out Hn.out
                exact AllReadyH.nil
              exact AllReadyH.nil
            exact AllReadyH.nil
          · have hcz : c ≠ 0 := by omega
            go_wp2_with fail
            refine wp_region_held_drew (S := (fun w' => True)) (by kernel_rfl) (by trivial) (fun hHeld => ?_)
            refine wpAnyH_take (i := 0) (oi := ?oim7_1) (v := ?vm7_1) ?hm7_1 (by kernel_rfl) (by kernel_rfl) (by kernel_rfl) ?qm7_1 (Or.inl ⟨?wm7_1, ?ym7_1⟩) (by assumption) ?rm7_1
            case hm7_1 => (simp only [List.getElem?_toArray, List.getElem?_cons_succ, List.getElem?_cons_zero]; rfl)
            case qm7_1 => exact fun _ _ _ h => h
            case wm7_1 => rfl
            case ym7_1 => (intro w hSw; (try dsimp only at hSw); go_simp <;> with_reducible rfl)
            try simp only [Act.put, List.setIfInBounds_toArray, List.set_cons_zero, List.set_cons_succ]
            refine wpAnyH_take (i := 3) (oi := ?oim7_2) (v := ?vm7_2) ?hm7_2 (by kernel_rfl) (by kernel_rfl) (by kernel_rfl) ?qm7_2 (Or.inl ⟨?wm7_2, ?ym7_2⟩) (by assumption) ?rm7_2
            case hm7_2 => (simp only [List.getElem?_toArray, List.getElem?_cons_succ, List.getElem?_cons_zero]; rfl)
            case qm7_2 => exact fun _ _ _ h => h
            case wm7_2 => rfl
            case ym7_2 => (intro w hSw; (try dsimp only at hSw); go_simp <;> with_reducible rfl)
            try simp only [Act.put, List.setIfInBounds_toArray, List.set_cons_zero, List.set_cons_succ]
            refine wpAnyH_take (i := 4) (oi := ?oim7_3) (v := ?vm7_3) ?hm7_3 (by kernel_rfl) (by kernel_rfl) (by kernel_rfl) ?qm7_3 (Or.inl ⟨?wm7_3, ?ym7_3⟩) (by assumption) ?rm7_3
            case hm7_3 => (simp only [List.getElem?_toArray, List.getElem?_cons_succ, List.getElem?_cons_zero]; rfl)
            case qm7_3 => exact fun _ _ _ h => h
            case wm7_3 => rfl
            case ym7_3 => (intro w hSw; (try dsimp only at hSw); go_simp <;> with_reducible rfl)
            try simp only [Act.put, List.setIfInBounds_toArray, List.set_cons_zero, List.set_cons_succ]
            refine wpAnyH_take (i := 5) (oi := ?oim7_4) (v := ?vm7_4) ?hm7_4 (by kernel_rfl) (by kernel_rfl) (by kernel_rfl) ?qm7_4 (Or.inl ⟨?wm7_4, ?ym7_4⟩) (by assumption) ?rm7_4
            case hm7_4 => (simp only [List.getElem?_toArray, List.getElem?_cons_succ, List.getElem?_cons_zero]; rfl)
            case qm7_4 => exact fun _ _ _ h => h
            case wm7_4 => rfl
            case ym7_4 => (intro w hSw; (try dsimp only at hSw); go_simp <;> with_reducible rfl)
            try simp only [Act.put, List.setIfInBounds_toArray, List.set_cons_zero, List.set_cons_succ]
            refine wpAnyH_ready (rs := [1]) (by kernel_rfl) (by simp) ?_
            refine AllReadyH.cons (o := ?oim7_5) ?hm7_5 (fun K hK => ?km7_5) ?mm7_5
            case hm7_5 => (simp only [List.getElem?_toArray, List.getElem?_cons_succ, List.getElem?_cons_zero]; rfl)
            case km7_5 =>
              go_simp
              go_at_call 75; refine (HCO.out _ (below_drewN HB2.out 1)).mono ?_; rintro e w1 ⟨g, cap, rfl, ho, hb⟩; have hcg := owns_cap ho; have HXg := Lib.hid (owns_RdT ho); have HB1 := Lib.hid ((HB2.out.drew).trans (hb.mono hs2)); clear ho hb
              refine hK.out _ _ (by trivial) (fun hHeld => ?_)
              clear hK K
              try simp only [Act.put, List.setIfInBounds_toArray, List.set_cons_zero, List.set_cons_succ]
              refine wpAnyH_ready (rs := [2]) (by kernel_rfl) (by simp) ?_
              refine AllReadyH.cons (o := ?oim7_6) ?hm7_6 (fun K hK => ?km7_6) ?mm7_6
              case hm7_6 => (simp only [List.getElem?_toArray, List.getElem?_cons_succ, List.getElem?_cons_zero]; rfl)
              case km7_6 =>
                go_simp
                refine hK.out _ _ (by trivial) (fun hHeld => ?_)
                clear hK K
                try simp only [Act.put, List.setIfInBounds_toArray, List.set_cons_zero, List.set_cons_succ]
                refine wpAnyH_ready (rs := [6]) (by kernel_rfl) (by simp) ?_
                refine AllReadyH.cons (o := ?oim7_7) ?hm7_7 (fun K hK => ?km7_7) ?mm7_7
                case hm7_7 => (simp only [List.getElem?_toArray, List.getElem?_cons_succ, List.getElem?_cons_zero]; rfl)
                case km7_7 =>
                  (refine step_appR _ _ _ _ _ etS (by rfl) (by rfl) w1.heap.size (.slice (some ⟨w1.heap.size, 0, none⟩) 1 1) 1 [.slice (some ⟨g, 0, none⟩) p cap] (by rfl) ?_ _ 0 _ [] (by rfl) (by rfl) (.inl rfl) (fun u hu => (by cases hu)) ?_ ?_ ?_; exact row_cell w1 _ (Nat.le_refl _); omega; exact put_sz (Below.refl w1.heap.size w1) _ (Nat.le_refl _); (intro v5 w5 hown hg hat; have HB5 := Lib.hid (put_b6 hg); have HO5 := Lib.hid hown; clear hown hg hat))
                  refine hK.out _ _ (by trivial) (fun hHeld => ?_)
                  clear hK K
                  try simp only [Act.put, List.setIfInBounds_toArray, List.set_cons_zero, List.set_cons_succ]
                  refine wpAnyH_take (i := 7) (oi := ?oim7_8) (v := ?vm7_8) ?hm7_8 (by kernel_rfl) (by kernel_rfl) (by kernel_rfl) ?qm7_8 (Or.inl ⟨?wm7_8, ?ym7_8⟩) (by assumption) ?rm7_8
                  case hm7_8 => (simp only [List.getElem?_toArray, List.getElem?_cons_succ, List.getElem?_cons_zero]; rfl)
                  case qm7_8 => exact fun _ _ _ h => h
                  case wm7_8 => rfl
                  case ym7_8 => (intro w hSw; (try dsimp only at hSw); go_simp <;> with_reducible rfl)
                  try simp only [Act.put, List.setIfInBounds_toArray, List.set_cons_zero, List.set_cons_succ]
                  refine wpAnyH_done (by kernel_rfl) ?_ _
                  have HX5 := Lib.hid (HXg.out.below HB5.out)
                  have HB05 := Lib.hid (HB1.out.trans (HB5.out.mono HB1.out.size))
                  obtain ⟨A5, c5, rfl, _⟩ := owns_shape HO5.out
                  have HR5 := Lib.hid (HR.out.out.below HB05.out)
                  go_wp2_with (first | (at_builtin; refine wpList_appR _ _ _ _ _ etS (by rfl) (by rfl) w5.heap.size (.slice (some ⟨w5.heap.size, 0, none⟩) 0 0) 0 [] (by rfl) (World.ownsRow_made w5 #[] 0 (Nat.le_refl _) (by decide) (by simp)) _ i _ ((hv L).take i) (by rfl) (by rw [List.length_take, hv_length]; have := Hn.out; omega) (rd_take (HR5.out.below ((Below.refl _ _).alloc (Nat.le_refl _) _)) i) (one_take _) ?_ (Nat.le_of_lt (by simp)) ?_; omega; (intro v6 w6 hown hg hat; have HO6 := Lib.hid hown; have HB6 := Lib.hid (put_b6 hg); clear hown hg hat)) | (at_builtin; refine wpList_appR _ _ _ _ _ etS (by rfl) (by rfl) w5.heap.size v6 (0 + i) ([] ++ (hv L).take i) (by rfl) HO6.out A5 _ c5 ([.slice (some ⟨g, 0, none⟩) p cap] ++ []) (by rfl) (by rfl) (owns_Rd (owns_later HO5.out HB6.out)) slice_one ?_ HB6.out.size ?_; omega; (intro v7 w7 hown hg hat; have HO7 := Lib.hid hown; have HB7 := Lib.hid (HB6.out.grown hg HB6.out.size (fun k hk => (HO6.out.lt k hk).1)); clear hown hg hat)))
                  go_ret
                  exact put_inY HRY.out (HB05.out.trans (HB7.out.mono HB05.out.size)) (by rw [HD0.out, Nat.sub_self]; exact HO7.out) (HX5.out.below HB7.out) hcg Hp.out HPA.out Hn.out
                exact AllReadyH.nil
              exact AllReadyH.nil
            exact AllReadyH.nil
end Go.Proofs.Ytnffpjdlpjkioaa

namespace Go.Proofs.Ytnffpjdlpjkioaa
open Go.RowKit

/-- all sums of exponents, one of each list -/
def prodM (P Q : LL) : LL := P.flatMap fun a => Q.map (plusM a)
theorem prodM_snoc (P Q : LL) (a : List Int) : prodM (P ++ [a]) Q = prodM P Q ++ Q.map (plusM a) := by simp [prodM]
theorem prodM_len (P Q : LL) : (prodM P Q).length = P.length * Q.length := by
  induction P with
  | nil => simp [prodM]
  | cons a P ih => simp only [prodM, List.flatMap_cons, List.length_append, List.length_map, List.length_cons] at *; rw [ih, Nat.succ_mul]; omega
/-- rows of k exponents in bounds -/
def Exps (k : Nat) (P : LL) : Prop := ∀ x ∈ P, x.length = k ∧ ∀ e ∈ x, 0 ≤ e ∧ e < 1152921504606846976
theorem Exps.getD {k : Nat} {P : LL} (h : Exps k P) {i : Nat} (hi : i < P.length) : (P.getD i []).length = k ∧ ∀ j, j < k → 0 ≤ (P.getD i []).getD j 0 ∧ (P.getD i []).getD j 0 < 1152921504606846976 := by
  have hm : P.getD i [] ∈ P := by simp [List.getD, hi]
  obtain ⟨h1, h2⟩ := h _ hm
  refine ⟨h1, fun j hj => h2 _ ?_⟩
  generalize P.getD i [] = x at *
  have : j < x.length := by omega
  rw [List.getD, List.getElem?_eq_getElem this]
  exact List.getElem_mem this
theorem prodM_lens {k : Nat} {P Q : LL} (hP : Exps k P) (hQ : Exps k Q) : ∀ x ∈ prodM P Q, x.length = k := fun x hx => by
  obtain ⟨a, ha, hx⟩ := List.mem_flatMap.1 hx
  obtain ⟨b, hb, rfl⟩ := List.mem_map.1 hx
  exact plusM_length (hP a ha).1 (hQ b hb).1
theorem row_len {R : List Row} {M : LL} {k : Nat} (h : dat R = nf M) (hM : ∀ x ∈ M, x.length = k) (hk : k ≤ 1000000) : ∀ i, i < R.length → (rg R i).xs.length ≤ 1000000 := fun i hi => by
  rw [← dat_getD, h]
  have hi2 : i < (nf M).length := by rw [← h, dat_length]; exact hi
  have : (nf M).getD i [] ∈ nf M := by simp [List.getD, hi2]
  rw [hM _ (nf_sub this)]
  exact hk

theorem RdY.nil (w : World) (A : Option Addr) : RdY w A [] := RdY.mk' (Rd.nil _ _) (fun h => absurd rfl h) (fun r hr => by cases hr)
theorem RdY.drew {w : World} {A : Option Addr} {L : List Row} (h : RdY w A L) : RdY w.drew A L := ⟨⟨h.rd.out, h.rd.inn, h.rd.cap⟩, h.tyo, h.tyi⟩

set_option maxRecDepth 100000 in
set_option maxHeartbeats 4000000 in
theorem l08Times_any (A B : Option Addr) (n m c c' k : Nat) (L K : List Row) (w : World) (hn : n = L.length) (hm : m = K.length) (hL : Exps k (dat L)) (hK : Exps k (dat K)) (hk : k ≤ 1000000) (hsm : n * m + n + m ≤ 100000000000) (hA : RdR w A L) (hB : RdR w B K) :
    Calls Try.prog 70 #[.slice A n c, .slice B m c'] w (RdResY (nf (prodM (dat L) (dat K))) w) := by
  have HA := Lib.hid hA
  have HB := Lib.hid hB
  have Hn := Lib.hid hn
  have Hm := Lib.hid hm
  have HL := Lib.hid hL
  have HK := Lib.hid hK
  have HLD : Hid ((dat L).length = n) := Lib.hid (by rw [dat_length, hn])
  have HKD : Hid ((dat K).length = m) := Lib.hid (by rw [dat_length, hm])
  have HX := Lib.hid (fun (i : Nat) (x : List Int) (j : Nat) => (nf_len (prodM ((dat L).take i) (dat K) ++ ((dat K).take j).map (plusM x))))
  have HSM := Lib.hid hsm
  have hn9 : n ≤ 100000000000 := by omega
  have hm9 : m ≤ 100000000000 := by omega
  clear hA hB hn hm hL hK hsm
  go_enter Try.func70, Try.ntmps70
  go_wp2_with fail
  go_loopw [5, 6] (fun vv i wr => ∃ (k1 : Nat) (Ao : Option Addr) (co : Nat) (R : List Row), k1 ≤ n ∧ i = .int .i64 k1 ∧ vv = .slice Ao R.length co ∧ dat R = nf (prodM ((dat L).take k1) (dat K)) ∧ RdY wr Ao R ∧ R.length ≤ co ∧ Below w.heap.size w wr) (fun _ i _ => n - (intOf i).toNat)
  case atStart => exact ⟨0, some ⟨w.heap.size, 0, none⟩, 0, [], by omega, rfl, rfl, rfl, RdY.nil _ _, Nat.le_refl _, (Below.refl _ _).alloc (Nat.le_refl _) _⟩
  case round =>
    obtain ⟨i, Ao, co, R, hi, rfl, rfl, hdat, hR, hco, hb⟩ := hrel
    have HD := Lib.hid hdat
    have HR := Lib.hid hR
    have HBL := Lib.hid hb
    clear hdat hR hb
    obtain ⟨wv, hwv⟩ : ∃ wv, wv = wr := ⟨_, rfl⟩
    subst hwv
    by_cases hlt : i < n
    · have hli : (i : Int) < (n : Int) := by omega
      have HTS : Hid ((dat L).take (i + 1) = (dat L).take i ++ [(dat L).getD i []]) := Lib.hid (by
        rw [List.take_succ_eq_append_getElem (by rw [HLD.out]; exact hlt)]
        simp [List.getD, HLD.out, hlt])
      have HE := Lib.hid (HL.out.getD (i := i) (by rw [HLD.out]; exact hlt))
      obtain ⟨ba, oa, rfl, hca0⟩ := HA.out.at_ (k := i) (by rw [← Hn.out]; exact hlt)
      have hba := World.block_lt_of_cell? _ _ hca0
      have HCA := Lib.hid hca0
      have HIA := Lib.hid (HA.out.inn i (by rw [← Hn.out]; exact hlt))
      have HGA := Lib.hid (dat_getD L i)
      clear hca0
      generalize (dat L).getD i [] = x at *
      go_wp2_with fail
      go_loopw [5, 7] (fun vv j wr => ∃ (k2 : Nat) (Ao : Option Addr) (co : Nat) (R : List Row), k2 ≤ m ∧ j = .int .i64 k2 ∧ vv = .slice Ao R.length co ∧ dat R = nf (prodM ((dat L).take i) (dat K) ++ ((dat K).take k2).map (plusM x)) ∧ RdY wr Ao R ∧ R.length ≤ co ∧ Below w.heap.size w wr) (fun _ j _ => m - (intOf j).toNat)
      case atStart => exact ⟨0, Ao, co, R, by omega, rfl, rfl, by rw [HD.out]; simp, HR.out, hco, HBL.out⟩
      case round =>
        obtain ⟨j, A2, c2, S, hj, rfl, rfl, hdat, hS, hc2, hb2⟩ := hrel
        by_cases hlt2 : j < m
        · have hlj : (j : Int) < (m : Int) := by omega
          have HTS2 : Hid ((dat K).take (j + 1) = (dat K).take j ++ [(dat K).getD j []]) := Lib.hid (by
            rw [List.take_succ_eq_append_getElem (by rw [HKD.out]; exact hlt2)]
            simp [List.getD, HKD.out, hlt2])
          have HE2 := Lib.hid (HK.out.getD (i := j) (by rw [HKD.out]; exact hlt2))
          obtain ⟨bb, ob, rfl, hcb0⟩ := HB.out.at_ (k := j) (by rw [← Hm.out]; exact hlt2)
          have hbb := World.block_lt_of_cell? _ _ hcb0
          have hca := (hb2.cell hba).trans HCA.out
          have hcb := (hb2.cell hbb).trans hcb0
          have HIB := Lib.hid (HB.out.inn j (by rw [← Hm.out]; exact hlt2))
          have HGB := Lib.hid (dat_getD K j)
          have HXij := Lib.hid (HX.out i x j)
          have hlens : ∀ z ∈ prodM ((dat L).take i) (dat K) ++ ((dat K).take j).map (plusM x), z.length = k := fun z hz => by
            rcases List.mem_append.1 hz with hz | hz
            · exact prodM_lens (fun y hy => HL.out y (List.mem_of_mem_take hy)) HK.out z hz
            · obtain ⟨y, hy, rfl⟩ := List.mem_map.1 hz
              exact plusM_length HE.out.1 (HK.out y (List.mem_of_mem_take hy)).1
          have HRL := Lib.hid (row_len hdat hlens hk)
          have HSL : Hid (S.length ≤ 600000000000) := Lib.hid (by
            have h1 := HXij.out
            rw [← hdat, dat_length, List.length_append, prodM_len, List.length_map, List.length_take, List.length_take, HKD.out, HLD.out] at h1
            have h2 : min i n * m ≤ n * m := Nat.mul_le_mul_right _ (Nat.min_le_right _ _)
            have := HSM.out
            omega)
          have HST := Lib.hid hS
          have HDT := Lib.hid hdat
          have HB2 := Lib.hid hb2
          clear hlens hS hdat hcb0
          generalize (dat K).getD j [] = y at *
          generalize rg L i = r at *
          generalize rg K j = s at *
          have hxl : r.xs.length = k := by rw [← HGA.out]; exact HE.out.1
          have hyl : s.xs.length = k := by rw [← HGB.out]; exact HE2.out.1
          rw [hxl] at hca
          rw [hyl] at hcb
          have HP := Lib.hid (fun W (hb : Below w.heap.size w W) => l08Plus_any r.A s.A k r.c s.c r.xs s.xs W hxl.symm hyl.symm hk (by rw [← HGA.out]; exact HE.out.2) (by rw [← HGB.out]; exact HE2.out.2) (HIA.out.below hb) (HIB.out.below hb))
          have HPL := Lib.hid (plusM_length hxl hyl)
          rw [← HGA.out, ← HGB.out] at HPL
          rw [← HGA.out, ← HGB.out] at HP
          clear hxl hyl hba hbb hb2
          go_wp2_with fail
          refine wp_region_held_drew (S := (fun w' => w'.cell? ⟨ba, oa + i, none⟩ = some (.slice r.A k r.c) ∧ w'.cell? ⟨bb, ob + j, none⟩ = some (.slice s.A k s.c))) (by kernel_rfl) (by (first | exact ⟨hca, hcb⟩ | exact ⟨cell_keep (w := wr.drew) hca H1.out, cell_keep (w := wr.drew) hcb H1.out⟩ | exact ⟨cell_keep (w := wr.drew) hca H2.out, cell_keep (w := wr.drew) hcb H2.out⟩)) (fun hHeld => ?_)
          refine wpAnyH_take (i := 0) (oi := ?oim1_1) (v := ?vm1_1) ?hm1_1 (by kernel_rfl) (by kernel_rfl) (by kernel_rfl) ?qm1_1 (Or.inl ⟨?wm1_1, ?ym1_1⟩) (by assumption) ?rm1_1
          case hm1_1 => (simp only [List.getElem?_toArray, List.getElem?_cons_succ, List.getElem?_cons_zero]; rfl)
          case qm1_1 => exact fun _ _ _ h => h
          case wm1_1 => rfl
          case ym1_1 => (intro w hSw; (try dsimp only at hSw); go_simp <;> with_reducible rfl)
          try simp only [Act.put, List.setIfInBounds_toArray, List.set_cons_zero, List.set_cons_succ]
          refine wpAnyH_take (i := 1) (oi := ?oim1_2) (v := ?vm1_2) ?hm1_2 (by kernel_rfl) (by kernel_rfl) (by kernel_rfl) ?qm1_2 (Or.inl ⟨?wm1_2, ?ym1_2⟩) (by assumption) ?rm1_2
          case hm1_2 => (simp only [List.getElem?_toArray, List.getElem?_cons_succ, List.getElem?_cons_zero]; rfl)
          case qm1_2 => exact fun _ _ _ h => h
          case wm1_2 => rfl
          case ym1_2 => (intro w hSw; (try dsimp only at hSw); go_simp <;> with_reducible rfl)
          try simp only [Act.put, List.setIfInBounds_toArray, List.set_cons_zero, List.set_cons_succ]
          refine wpAnyH_take (i := 2) (oi := ?oim1_3) (v := ?vm1_3) ?hm1_3 (by kernel_rfl) (by kernel_rfl) (by kernel_rfl) ?qm1_3 (Or.inl ⟨?wm1_3, ?ym1_3⟩) (by assumption) ?rm1_3
          case hm1_3 => (simp only [List.getElem?_toArray, List.getElem?_cons_succ, List.getElem?_cons_zero]; rfl)
          case qm1_3 => exact fun _ _ _ h => h
          case wm1_3 => rfl
          case ym1_3 => (intro w hSw; (try dsimp only at hSw); go_simp <;> with_reducible rfl)
          try simp only [Act.put, List.setIfInBounds_toArray, List.set_cons_zero, List.set_cons_succ]
          refine wpAnyH_take (i := 3) (oi := ?oim1_4) (v := ?vm1_4) ?hm1_4 (by kernel_rfl) (by kernel_rfl) (by kernel_rfl) ?qm1_4 (Or.inl ⟨?wm1_4, ?ym1_4⟩) (by assumption) ?rm1_4
          case hm1_4 => (simp only [List.getElem?_toArray, List.getElem?_cons_succ, List.getElem?_cons_zero]; rfl)
          case qm1_4 => exact fun _ _ _ h => h
          case wm1_4 => rfl
          case ym1_4 => (intro w hSw; (try dsimp only at hSw); go_simp <;> with_reducible rfl)
          try simp only [Act.put, List.setIfInBounds_toArray, List.set_cons_zero, List.set_cons_succ]
          refine wpAnyH_take (i := 4) (oi := ?oim1_5) (v := ?vm1_5) ?hm1_5 (by kernel_rfl) (by kernel_rfl) (by kernel_rfl) ?qm1_5 (Or.inl ⟨?wm1_5, ?ym1_5⟩) (by assumption) ?rm1_5
          case hm1_5 => (simp only [List.getElem?_toArray, List.getElem?_cons_succ, List.getElem?_cons_zero]; rfl)
          case qm1_5 => exact fun _ _ _ h => h
          case wm1_5 => rfl
          case ym1_5 => (intro w hSw; (try dsimp only at hSw); go_simp <;> with_reducible rfl)
          try simp only [Act.put, List.setIfInBounds_toArray, List.set_cons_zero, List.set_cons_succ]
          refine wpAnyH_take (i := 5) (oi := ?oim1_6) (v := ?vm1_6) ?hm1_6 (by kernel_rfl) (by kernel_rfl) (by kernel_rfl) ?qm1_6 (Or.inl ⟨?wm1_6, ?ym1_6⟩) (by assumption) ?rm1_6
          case hm1_6 => (simp only [List.getElem?_toArray, List.getElem?_cons_succ, List.getElem?_cons_zero]; rfl)
          case qm1_6 => exact fun _ _ _ h => h
          case wm1_6 => rfl
          case ym1_6 => (intro w hSw; (try dsimp only at hSw); go_simp <;> with_reducible rfl)
          try simp only [Act.put, List.setIfInBounds_toArray, List.set_cons_zero, List.set_cons_succ]
          refine wpAnyH_take (i := 6) (oi := ?oim1_7) (v := ?vm1_7) ?hm1_7 (by kernel_rfl) (by kernel_rfl) (by kernel_rfl) ?qm1_7 (Or.inl ⟨?wm1_7, ?ym1_7⟩) (by assumption) ?rm1_7
          case hm1_7 => (simp only [List.getElem?_toArray, List.getElem?_cons_succ, List.getElem?_cons_zero]; rfl)
          case qm1_7 => exact fun _ _ _ h => h
          case wm1_7 => rfl
          case ym1_7 => (intro w hSw; (try dsimp only at hSw); go_simp <;> with_reducible rfl)
          try simp only [Act.put, List.setIfInBounds_toArray, List.set_cons_zero, List.set_cons_succ]
          refine wpAnyH_take (i := 7) (oi := ?oim1_8) (v := ?vm1_8) ?hm1_8 (by kernel_rfl) (by kernel_rfl) (by kernel_rfl) ?qm1_8 (Or.inl ⟨?wm1_8, ?ym1_8⟩) (by assumption) ?rm1_8
          case hm1_8 => (simp only [List.getElem?_toArray, List.getElem?_cons_succ, List.getElem?_cons_zero]; rfl)
          case qm1_8 => exact fun _ _ _ h => h
          case wm1_8 => rfl
          case ym1_8 => (intro w hSw; (try dsimp only at hSw); go_simp <;> with_reducible rfl)
          try simp only [Act.put, List.setIfInBounds_toArray, List.set_cons_zero, List.set_cons_succ]
          refine wpAnyH_take (i := 8) (oi := ?oim1_9) (v := ?vm1_9) ?hm1_9 (by kernel_rfl) (by kernel_rfl) (by kernel_rfl) ?qm1_9 (Or.inl ⟨?wm1_9, ?ym1_9⟩) (by assumption) ?rm1_9
          case hm1_9 => (simp only [List.getElem?_toArray, List.getElem?_cons_succ, List.getElem?_cons_zero]; rfl)
          case qm1_9 => exact fun _ _ _ h => h
          case wm1_9 => rfl
          case ym1_9 => (intro w hSw; (try dsimp only at hSw); go_simp <;> with_reducible rfl)
          try simp only [Act.put, List.setIfInBounds_toArray, List.set_cons_zero, List.set_cons_succ]
          refine wpAnyH_ready (rs := [9]) (by kernel_rfl) (by simp) ?_
          refine AllReadyH.cons (o := ?oim1_10) ?hm1_10 (fun K hK => ?km1_10) ?mm1_10
          case hm1_10 => (simp only [List.getElem?_toArray, List.getElem?_cons_succ, List.getElem?_cons_zero]; rfl)
          case km1_10 =>
            go_simp
            (go_at_call 103; refine (HP.out wr.drew HB2.out.drew).mono ?_; rintro e w1 ⟨g1, cap1, rfl, ho1, hb1⟩; have H1 := Lib.hid hb1; have HO1 := Lib.hid ho1; clear hb1 ho1)
            refine hK.out _ _ (by (first | exact ⟨hca, hcb⟩ | exact ⟨cell_keep (w := wr.drew) hca H1.out, cell_keep (w := wr.drew) hcb H1.out⟩ | exact ⟨cell_keep (w := wr.drew) hca H2.out, cell_keep (w := wr.drew) hcb H2.out⟩)) (fun hHeld => ?_)
            clear hK K
            try simp only [Act.put, List.setIfInBounds_toArray, List.set_cons_zero, List.set_cons_succ]
            refine wpAnyH_ready (rs := [10]) (by kernel_rfl) (by simp) ?_
            refine AllReadyH.cons (o := ?oim1_11) ?hm1_11 (fun K hK => ?km1_11) ?mm1_11
            case hm1_11 => (simp only [List.getElem?_toArray, List.getElem?_cons_succ, List.getElem?_cons_zero]; rfl)
            case km1_11 =>
              go_simp
              (go_at_call 102; refine (l01PutY_any A2 (some ⟨g1, 0, none⟩) S.length c2 k cap1 S (plusM x y) w1 rfl hc2 HSL.out HRL.out HPL.out.symm hk (HST.out.drew.below H1.out) (owns_Rd HO1.out)).mono ?_; rintro e w2 ⟨A3, c3, T, rfl, hd3, hr3, hc3, hb3⟩; have H2 := Lib.hid (H1.out.trans (hb3.mono H1.out.size)); have HD3 := Lib.hid hd3; have HR3 := Lib.hid hr3; clear hd3 hr3 hb3)
              refine hK.out _ _ (by (first | exact ⟨hca, hcb⟩ | exact ⟨cell_keep (w := wr.drew) hca H1.out, cell_keep (w := wr.drew) hcb H1.out⟩ | exact ⟨cell_keep (w := wr.drew) hca H2.out, cell_keep (w := wr.drew) hcb H2.out⟩)) (fun hHeld => ?_)
              clear hK K
              try simp only [Act.put, List.setIfInBounds_toArray, List.set_cons_zero, List.set_cons_succ]
              refine wpAnyH_take (i := 11) (oi := ?oim1_12) (v := ?vm1_12) ?hm1_12 (by kernel_rfl) (by kernel_rfl) (by kernel_rfl) ?qm1_12 (Or.inl ⟨?wm1_12, ?ym1_12⟩) (by assumption) ?rm1_12
              case hm1_12 => (simp only [List.getElem?_toArray, List.getElem?_cons_succ, List.getElem?_cons_zero]; rfl)
              case qm1_12 => exact fun _ _ _ h => h
              case wm1_12 => rfl
              case ym1_12 => (intro w hSw; (try dsimp only at hSw); go_simp <;> with_reducible rfl)
              try simp only [Act.put, List.setIfInBounds_toArray, List.set_cons_zero, List.set_cons_succ]
              refine wpAnyH_done (by kernel_rfl) ?_ _
              go_wp2_with fail
              go_roundw
              case rel => exact ⟨j + 1, A3, c3, T, by omega, by go_num, rfl, by rw [HD3.out, HDT.out, HTS2.out, List.map_append, ← List.append_assoc]; exact (nf_snoc _ _).symm, HR3.out, hc3, HB2.out.drew.trans (H2.out.mono HB2.out.size)⟩
              case measure => simp [intOf]; omega
            exact AllReadyH.nil
          exact AllReadyH.nil
        · have hlj : ¬ (j : Int) < (m : Int) := by omega
          have e : (dat K).take j = dat K := List.take_of_length_le (by rw [HKD.out]; omega)
          rw [e] at hdat
          have HDT := Lib.hid hdat
          clear hdat e
          go_wp2_with fail
          go_roundw
          case rel => exact ⟨i + 1, A2, c2, S, by omega, by go_num, rfl, by rw [HDT.out, HTS.out, prodM_snoc], hS, hc2, hb2⟩
          case measure => simp [intOf]; omega
    · have hli : ¬ (i : Int) < (n : Int) := by omega
      have e : (dat L).take i = dat L := List.take_of_length_le (by rw [HLD.out]; omega)
      rw [e] at HD
      clear e
      go_wp2_with fail
      go_ret
      exact ⟨Ao, co, R, rfl, HD.out, HR.out, hco, HBL.out⟩
end Go.Proofs.Ytnffpjdlpjkioaa
