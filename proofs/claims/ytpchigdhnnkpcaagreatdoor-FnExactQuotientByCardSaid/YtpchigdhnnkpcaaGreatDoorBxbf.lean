/- plain mathematics: the least part that has some vectors (law) -/
import Derived.Test.YtpchigdhnnkpcaaGreatDoorBxag
set_option linter.all false
namespace Go.Proofs.YtpchigdhnnkpcaaGreatDoor
open Go.RowKit

/-- the least part with the rows T -/
inductive GSp (Q : List (List Int)) (T : List Nat) : Nat → Prop
  | mem {r : Nat} : r ∈ T → GSp Q T r
  | zero : GSp Q T 0
  | add {a b : Nat} : GSp Q T a → GSp Q T b → GSp Q T (xr a b)
  | act {a j : Nat} : 1 ≤ j → j ≤ 20 → GSp Q T a → GSp Q T (act Q (j : Int) a)
theorem GSp.sp {Q : List (List Int)} {T A : List Nat} (h : ∀ r ∈ A, GSp Q T r) {v : Nat} (hv : Sp A v) : GSp Q T v := by
  induction hv with
  | zero => exact .zero
  | add hm _ ih => exact .add (h _ hm) ih
theorem sp_act {Q : List (List Int)} {A U : List Nat} {n : Int} (h : ∀ a ∈ A, Sp U (act Q n a)) {v : Nat} (hv : Sp A v) : Sp U (act Q n v) := by
  induction hv with
  | zero => rw [act_zero]; exact .zero
  | add hm _ ih => rw [act_lin]; exact (h _ hm).plus ih
structure GenB (Q : List (List Int)) (T A : List Nat) : Prop where
  low : ∀ r ∈ A, GSp Q T r
  top : ∀ r ∈ T, Sp A r
  act : ∀ v ∈ A, ∀ j : Nat, 1 ≤ j → j ≤ 20 → Sp A (act Q (j : Int) v)
theorem GenB.iff {Q : List (List Int)} {T A : List Nat} (h : GenB Q T A) (z : Nat) : Sp A z ↔ GSp Q T z := by
  constructor
  · exact GSp.sp h.low
  · intro hz
    induction hz with
    | mem hm => exact h.top _ hm
    | zero => exact .zero
    | add _ _ i1 i2 => exact i1.plus i2
    | act h1 h2 _ ih => exact sp_act (fun a ha => h.act a ha _ h1 h2) ih
theorem GenB.reduce {Q : List (List Int)} {T A : List Nat} (h : GenB Q T A) (hA : ∀ r ∈ A, Sm r) : GenB Q T (reduceS A) :=
  ⟨fun r hr => GSp.sp h.low ((sp_reduce hA r).1 (.mem hr)), fun r hr => (sp_reduce hA r).2 (h.top r hr),
   fun v hv j h1 h2 => (sp_reduce hA _).2 (sp_act (fun a ha => h.act a ha j h1 h2) ((sp_reduce hA v).1 (.mem hv)))⟩
/-- its rows, reduced and in order -/
structure IsGen (Q : List (List Int)) (T S : List Nat) : Prop where
  gen : GenB Q T S
  red : Red S
  asc : Asc S
open Classical in
noncomputable def genR (Q : List (List Int)) (T : List Nat) : List Nat := if h : ∃ S, IsGen Q T S then h.choose else []
theorem IsGen.eq {Q : List (List Int)} {T S : List Nat} (h : IsGen Q T S) : S = genR Q T := by
  have hex : ∃ S, IsGen Q T S := ⟨S, h⟩
  have e : genR Q T = hex.choose := by unfold genR; rw [dif_pos hex]
  have h2 := hex.choose_spec
  rw [e]
  exact red_asc_unique h.red h2.red h.asc h2.asc fun v => by rw [h.gen.iff, h2.gen.iff]

/-! ### the squares of a mask -/
def acts (Q : List (List Int)) (v k : Nat) : List Nat := (List.range k).map fun j => act Q ((j + 1 : Nat) : Int) v
theorem acts_succ (Q : List (List Int)) (v k : Nat) : acts Q v (k + 1) = acts Q v k ++ [act Q ((k + 1 : Nat) : Int) v] := by
  unfold acts; rw [List.range_succ, List.map_append, List.map_singleton]
theorem acts_len (Q : List (List Int)) (v k : Nat) : (acts Q v k).length = k := by simp [acts]
theorem mem_acts {Q : List (List Int)} {v k r : Nat} : r ∈ acts Q v k ↔ ∃ j : Nat, 1 ≤ j ∧ j ≤ k ∧ r = act Q (j : Int) v := by
  unfold acts
  rw [List.mem_map]
  constructor
  · rintro ⟨j, hj, rfl⟩; exact ⟨j + 1, by omega, by have := List.mem_range.1 hj; omega, rfl⟩
  · rintro ⟨j, h1, h2, rfl⟩; exact ⟨j - 1, List.mem_range.2 (by omega), by rw [show j - 1 + 1 = j by omega]⟩
def moreT (Q : List (List Int)) (b : List Nat) : Nat → List Nat
  | 0 => b
  | i + 1 => moreT Q b i ++ acts Q (b.getD i 0) 20
theorem moreT_len (Q : List (List Int)) (b : List Nat) : ∀ k, (moreT Q b k).length = b.length + 20 * k
  | 0 => rfl
  | k + 1 => by show (moreT Q b k ++ acts Q (b.getD k 0) 20).length = _; rw [List.length_append, moreT_len, acts_len]; omega
theorem moreT_low (Q : List (List Int)) (b : List Nat) : ∀ k, ∀ r ∈ b, r ∈ moreT Q b k
  | 0 => fun r hr => hr
  | k + 1 => fun r hr => List.mem_append.2 (.inl (moreT_low Q b k r hr))
theorem moreT_all (Q : List (List Int)) (b : List Nat) : ∀ k, ∀ i, i < k → ∀ j : Nat, 1 ≤ j → j ≤ 20 → act Q (j : Int) (b.getD i 0) ∈ moreT Q b k
  | 0 => fun i hi => by omega
  | k + 1 => fun i hi j h1 h2 => by
    refine List.mem_append.2 ?_
    by_cases e : i = k
    · subst e; exact .inr (mem_acts.2 ⟨j, h1, h2, rfl⟩)
    · exact .inl (moreT_all Q b k i (by omega) j h1 h2)
theorem moreT_mem (Q : List (List Int)) (b : List Nat) : ∀ k, k ≤ b.length → ∀ r ∈ moreT Q b k, r ∈ b ∨ ∃ v ∈ b, ∃ j : Nat, 1 ≤ j ∧ j ≤ 20 ∧ r = act Q (j : Int) v
  | 0, _ => fun r hr => .inl hr
  | k + 1, h => fun r hr => by
    rcases List.mem_append.1 hr with hr | hr
    · exact moreT_mem Q b k (by omega) r hr
    · obtain ⟨j, h1, h2, e⟩ := mem_acts.1 hr
      exact .inr ⟨_, getD_mem (show k < b.length by omega), j, h1, h2, e⟩

/-! ### dimensions of nested spaces -/
theorem fold_grow : ∀ (C S : List Nat), S.length ≤ (C.foldl putS S).length ∧ ((C.foldl putS S).length = S.length → C.foldl putS S = S)
  | [], S => ⟨Nat.le_refl _, fun _ => rfl⟩
  | c :: C, S => by
    rw [List.foldl_cons]
    by_cases h : leftS S c = 0
    · have e : putS S c = S := by unfold putS; rw [if_pos h]
      rw [e]; exact fold_grow C S
    · have hl := (putS_perm S c h).length_eq
      rw [List.length_append, List.length_map, List.length_singleton] at hl
      have h2 := (fold_grow C (putS S c)).1
      exact ⟨by omega, fun h3 => by omega⟩
theorem dim_le {P R : Nat → Prop} {k l : Nat} (h1 : Dim P k) (h2 : Dim R l) (h : ∀ v, P v → R v) : k ≤ l ∧ (k = l → ∀ v, R v → P v) := by
  obtain ⟨B, b1, b2, b3, rfl⟩ := h1
  obtain ⟨C, c1, c2, c3, rfl⟩ := h2
  have hBC : ∀ r ∈ B ++ C, Sm r := fun r hr => by
    rcases List.mem_append.1 hr with hr | hr
    · exact b1 r hr
    · exact c1 r hr
  have hs : ∀ v, Sp (B ++ C) v ↔ Sp C v := fun v => by
    constructor
    · intro hv
      refine hv.trans fun r hr => ?_
      rcases List.mem_append.1 hr with hr | hr
      · exact (c3 r).2 (h r ((b3 r).1 (.mem hr)))
      · exact .mem hr
    · exact Sp.mono fun r hr => List.mem_append.2 (.inr hr)
  have e1 : reduceS (B ++ C) = C.foldl putS (reduceS B) := by unfold reduceS; rw [List.foldl_append]
  have e2 := reduce_unique hBC c1 hs
  have l1 := fre_len b1 b2
  have l2 := fre_len c1 c2
  obtain ⟨g1, g2⟩ := fold_grow C (reduceS B)
  rw [← e1, e2] at g1 g2
  refine ⟨by omega, fun e v hv => ?_⟩
  have e3 := g2 (by omega)
  exact (b3 v).1 ((sp_reduce b1 v).1 (by rw [← e3]; exact (sp_reduce c1 v).2 ((c3 v).2 hv)))

/-! ### the reference's loop -/
structure SI (xs : List Int) (Q : List (List Int)) (T b : List Nat) : Prop where
  red : Red b
  asc : Asc b
  low : ∀ r ∈ b, GSp Q T r
  top : ∀ r ∈ T, Sp b r
  hom : ∀ r ∈ b, r ≠ 0 ∧ r < 2 ^ xs.length ∧ ∃ d : Nat, d < 21 ∧ Hom xs (d : Int) r
theorem Shp.sml {xs : List Int} {Q : List (List Int)} (hs : Shp xs Q) {r : Nat} (h : r < 2 ^ xs.length) : Sm r := sm_of_lt (a := xs.length) (by have := hs.len; omega) h
theorem SI.of {xs : List Int} {Q : List (List Int)} {T M : List Nat} (hs : Shp xs Q) (hM : ∀ r ∈ M, r < 2 ^ xs.length) (hh : ∀ r ∈ M, r ≠ 0 → ∃ d : Nat, d < 21 ∧ Hom xs (d : Int) r) (h1 : ∀ r ∈ M, GSp Q T r) (h2 : ∀ r ∈ T, Sp M r) : SI xs Q T (byDeg xs M 21) := by
  have hm : ∀ r ∈ M, Sm r := fun r hr => hs.sml (hM r hr)
  obtain ⟨a1, a2, a3⟩ := byDeg_all hs.srtL hm 21
  have hsp := byDeg_sp hs.srtL hm (k := 21) hh
  refine ⟨a1, a2, fun r hr => GSp.sp h1 ((hsp r).1 (.mem hr)), fun r hr => (hsp r).2 (h2 r hr), fun r hr => ?_⟩
  obtain ⟨d, hd, hr⟩ := a3 r hr
  obtain ⟨q1, q2, _, _⟩ := part_mem hm hr
  exact ⟨q2, q1.lt, d, hd, q1⟩
theorem SI.more {xs : List Int} {Q : List (List Int)} {T b : List Nat} (hs : Shp xs Q) (h : SI xs Q T b) : (∀ r ∈ moreT Q b b.length, r < 2 ^ xs.length) ∧ (∀ r ∈ moreT Q b b.length, r ≠ 0 → ∃ d : Nat, d < 21 ∧ Hom xs (d : Int) r) := by
  constructor
  · intro r hr
    rcases moreT_mem Q b b.length (Nat.le_refl _) r hr with hr | ⟨v, hv, j, _, _, rfl⟩
    · exact (h.hom r hr).2.1
    · exact act_lt hs (h.hom v hv).2.1 _
  · intro r hr h0
    rcases moreT_mem Q b b.length (Nat.le_refl _) r hr with hr | ⟨v, hv, j, _, _, rfl⟩
    · exact (h.hom r hr).2.2
    · obtain ⟨_, hlt, d, hd, hh⟩ := h.hom v hv
      have h2 := act_hom hs (n := (j : Int)) hh
      obtain ⟨p1, p2⟩ := h2.pv h0 (hs.sml (act_lt hs hlt _))
      have := (hs.deg _ p1).2
      exact ⟨d + j, by omega, by rw [Int.natCast_add]; exact h2⟩
theorem SI.step {xs : List Int} {Q : List (List Int)} {T b : List Nat} (hs : Shp xs Q) (h : SI xs Q T b) :
    SI xs Q T (byDeg xs (moreT Q b b.length) 21) ∧ b.length ≤ (byDeg xs (moreT Q b b.length) 21).length ∧ ((byDeg xs (moreT Q b b.length) 21).length = b.length → IsGen Q T b) := by
  obtain ⟨m1, m2⟩ := h.more hs
  have hm : ∀ r ∈ moreT Q b b.length, Sm r := fun r hr => hs.sml (m1 r hr)
  have hsp := byDeg_sp hs.srtL hm (k := 21) m2
  have hS : SI xs Q T (byDeg xs (moreT Q b b.length) 21) := by
    refine SI.of hs m1 m2 (fun r hr => ?_) fun r hr => (h.top r hr).mono (moreT_low Q b _)
    rcases moreT_mem Q b b.length (Nat.le_refl _) r hr with hr | ⟨v, hv, j, h1, h2, rfl⟩
    · exact h.low r hr
    · exact .act h1 h2 (h.low v hv)
  have hd := dim_le (dim_red h.red) (dim_red hS.red) fun v hv => (hsp v).2 (hv.mono (moreT_low Q b _))
  refine ⟨hS, hd.1, fun e => ⟨⟨h.low, h.top, fun v hv j h1 h2 => ?_⟩, h.red, h.asc⟩⟩
  obtain ⟨i, hi, e2⟩ := List.getElem_of_mem hv
  have e3 : b.getD i 0 = v := by simp [List.getD, hi, e2]
  refine hd.2 e.symm _ ((hsp _).2 (.mem ?_))
  rw [← e3]
  exact moreT_all Q b b.length i hi j h1 h2

/-! ### the program's loop -/
structure GI (Q : List (List Int)) (T A q : List Nat) : Prop where
  low : ∀ r ∈ A, GSp Q T r
  lowq : ∀ r ∈ q, GSp Q T r
  top : ∀ r ∈ T, r ∈ A ∨ r ∈ q
  act : ∀ v ∈ A, ∀ j : Nat, 1 ≤ j → j ≤ 20 → Sp (A ++ q) (act Q (j : Int) v)
theorem GI.start (Q : List (List Int)) (T : List Nat) : GI Q T [] T := ⟨by simp, fun r hr => .mem hr, fun r hr => .inr hr, by simp⟩
theorem GI.skip {Q : List (List Int)} {T A q : List Nat} {v : Nat} (h : GI Q T A (v :: q)) (hv : Sp A v) : GI Q T (A ++ [v]) q := by
  have hsub : ∀ r ∈ A ++ v :: q, r ∈ A ++ [v] ++ q := fun r hr => by simpa using hr
  refine ⟨fun r hr => ?_, fun r hr => h.lowq r (List.mem_cons_of_mem _ hr), fun r hr => ?_, fun u hu j h1 h2 => ?_⟩
  · rcases List.mem_append.1 hr with hr | hr
    · exact h.low r hr
    · rw [List.mem_singleton] at hr; subst hr; exact h.lowq _ (List.mem_cons_self ..)
  · rcases h.top r hr with hr | hr
    · exact .inl (by simp [hr])
    · rcases List.mem_cons.1 hr with hr | hr
      · exact .inl (by simp [hr])
      · exact .inr hr
  · rcases List.mem_append.1 hu with hu | hu
    · exact (h.act u hu j h1 h2).mono hsub
    · rw [List.mem_singleton] at hu; subst hu
      exact (sp_act (fun a ha => h.act a ha j h1 h2) hv).mono hsub
theorem GI.take {Q : List (List Int)} {T A q : List Nat} {v : Nat} (h : GI Q T A (v :: q)) : GI Q T (A ++ [v]) (q ++ acts Q v 20) := by
  have hsub : ∀ r ∈ A ++ v :: q, r ∈ A ++ [v] ++ (q ++ acts Q v 20) := fun r hr => by
    simp only [List.mem_append, List.mem_cons, List.mem_singleton, List.not_mem_nil, or_false] at hr ⊢
    rcases hr with hr | hr | hr
    · exact .inl (.inl hr)
    · exact .inl (.inr hr)
    · exact .inr (.inl hr)
  have hv := h.lowq v (List.mem_cons_self ..)
  refine ⟨fun r hr => ?_, fun r hr => ?_, fun r hr => ?_, fun u hu j h1 h2 => ?_⟩
  · rcases List.mem_append.1 hr with hr | hr
    · exact h.low r hr
    · rw [List.mem_singleton] at hr; subst hr; exact hv
  · rcases List.mem_append.1 hr with hr | hr
    · exact h.lowq r (List.mem_cons_of_mem _ hr)
    · obtain ⟨j, h1, h2, rfl⟩ := mem_acts.1 hr; exact .act h1 h2 hv
  · rcases h.top r hr with hr | hr
    · exact .inl (by simp [hr])
    · rcases List.mem_cons.1 hr with hr | hr
      · exact .inl (by simp [hr])
      · exact .inr (by simp [hr])
  · rcases List.mem_append.1 hu with hu | hu
    · exact (h.act u hu j h1 h2).mono hsub
    · rw [List.mem_singleton] at hu; subst hu
      exact .mem (List.mem_append.2 (.inr (List.mem_append.2 (.inr (mem_acts.2 ⟨j, h1, h2, rfl⟩)))))
theorem GI.done {Q : List (List Int)} {T A : List Nat} (h : GI Q T A []) (hA : ∀ r ∈ A, Sm r) : IsGen Q T (reduceS A) :=
  ⟨GenB.reduce ⟨h.low, fun r hr => by rcases h.top r hr with hr | hr; exact .mem hr; simp at hr, fun v hv j h1 h2 => by have := h.act v hv j h1 h2; rwa [List.append_nil] at this⟩ hA, red_reduce hA, asc_reduce hA⟩
end Go.Proofs.YtpchigdhnnkpcaaGreatDoor
