/- plain: a Margolis element makes 0 twice · plain mathematics: the least part that has some vectors (law) · plain: no Margolis count is negative · the program: HasNoMargolis, FreeRankOver, IsFreeOver · the program: IsFreeOver · both sides of the Margolis functions, flat; the program's and the reference's answer · FnExactMargolisCounts: the walk of the law (printed by mkl2.py) · arguments opened: slices of ints, rows of rows -/
import Derived.Test.YtdkmdmpaflgfaaaGreatDoorBxar
import Derived.Test.YtdkmdmpaflgfaaaGreatDoorBxan
import Derived.Test.YtdkmdmpaflgfaaaGreatDoorBxad
import Derived.Test.YtdkmdmpaflgfaaaGreatDoorBxab
import Derived.Deep.RegionHeld3
import Derived.Test.YtdkmdmpaflgfaaaGreatDoorBxaa
import Derived.ProofKit
import Derived.Lib.SmallJoins
import Derived.Deep.Matrix
set_option linter.all false
namespace Go.Proofs.YtdkmdmpaflgfaaaGreatDoor

theorem xsumf_xr2 {α : Type} (f g : α → Nat) : ∀ l : List α, xsumf (fun a => xr (f a) (g a)) l = xr (xsumf f l) (xsumf g l)
  | [] => (xr_self 0).symm
  | a :: l => by
    rw [xsumf_cons, xsumf_cons, xsumf_cons, xsumf_xr2 f g l]
    unfold xr
    rw [Nat.xor_assoc, Nat.xor_assoc, ← Nat.xor_assoc (g a), ← Nat.xor_assoc (xsumf f l), Nat.xor_comm (g a)]
theorem xsumf_flat {α β : Type} (f : β → Nat) (g : α → List β) : ∀ l : List α, xsumf f (l.flatMap g) = xsumf (fun a => xsumf f (g a)) l
  | [] => rfl
  | a :: l => by rw [List.flatMap_cons, xsumf_append, xsumf_cons, xsumf_flat f g l]
theorem wordM_lin (Q : List (List Int)) : ∀ (u : List Int) (x y : Nat), wordM Q u (xr x y) = xr (wordM Q u x) (wordM Q u y)
  | [], _, _ => rfl
  | n :: u, x, y => by
    show act Q n (wordM Q u (xr x y)) = xr (act Q n (wordM Q u x)) (act Q n (wordM Q u y))
    rw [wordM_lin Q u, act_lin]
theorem wordM_zero (Q : List (List Int)) (u : List Int) : wordM Q u 0 = 0 := by
  have := wordM_lin Q u 0 0
  rw [xr_self, xr_self] at this; exact this
theorem wordM_xsumf {α : Type} (Q : List (List Int)) (u : List Int) (f : α → Nat) : ∀ l : List α, wordM Q u (xsumf f l) = xsumf (fun a => wordM Q u (f a)) l
  | [] => wordM_zero Q u
  | a :: l => by rw [xsumf_cons, xsumf_cons, wordM_lin, wordM_xsumf Q u f l]
theorem wordM_app (Q : List (List Int)) (u s : List Int) (x : Nat) : wordM Q (u ++ s) x = wordM Q u (wordM Q s x) := by
  unfold wordM; rw [List.foldr_append]
theorem xsumf_putR (f : List Int → Nat) : ∀ (Q : LL) (x : List Int), xsumf f (putR Q x) = xr (xsumf f Q) (f x) := fun Q x => by
  rw [putR_ahead]
  have e : Q = Q.take (ahead Q x) ++ Q.drop (ahead Q x) := (List.take_append_drop _ _).symm
  split
  · rename_i h
    have e2 : Q.drop (ahead Q x) = x :: Q.drop (ahead Q x + 1) := by
      rw [List.drop_eq_getElem_cons h.1]
      congr 1
      have := h.2
      simpa [List.getD, h.1] using this
    conv => rhs; rw [e, e2]
    rw [xsumf_append, xsumf_append, xsumf_cons]
    unfold xr
    rw [Nat.xor_assoc, Nat.xor_comm (f x), Nat.xor_assoc, Nat.xor_self, Nat.xor_zero]
  · conv => rhs; rw [e]
    rw [xsumf_append, xsumf_append, xsumf_cons]
    unfold xr
    rw [Nat.xor_assoc, Nat.xor_comm (f x)]
theorem xsumf_foldl (f : List Int → Nat) : ∀ (L Q : LL), xsumf f (L.foldl putR Q) = xr (xsumf f Q) (xsumf f L)
  | [], Q => by
    show xsumf f Q = xr (xsumf f Q) 0
    unfold xr; rw [Nat.xor_zero]
  | x :: L, Q => by
    rw [List.foldl_cons, xsumf_foldl f L, xsumf_putR, xsumf_cons]
    unfold xr; rw [Nat.xor_assoc]
theorem xsumf_nf (f : List Int → Nat) (L : LL) : xsumf f (nf L) = xsumf f L := by
  unfold nf; rw [xsumf_foldl]
  show xr 0 _ = _
  unfold xr; rw [Nat.zero_xor]

/-! ### words brought into admissible ones -/
def badAt : List Int → Option (List Int × Nat × Nat × List Int)
  | [] => none
  | [_] => none
  | a :: b :: t => if a < 2 * b then some ([], a.toNat, b.toNat, t) else (badAt (b :: t)).map fun x => (a :: x.1, x.2)
theorem badAt_ok : ∀ {w p s : List Int} {a b : Nat}, (∀ x ∈ w, 1 ≤ x) → badAt w = some (p, a, b, s) → w = p ++ (a : Int) :: (b : Int) :: s ∧ a < 2 * b ∧ 1 ≤ a
  | [], _, _, _, _, _, h => by simp [badAt] at h
  | [_], _, _, _, _, _, h => by simp [badAt] at h
  | x :: y :: t, p, s, a, b, hw, h => by
    have hx := hw x (List.mem_cons_self ..)
    have hy := hw y (List.mem_cons_of_mem _ (List.mem_cons_self ..))
    unfold badAt at h
    split at h
    · rename_i hlt
      injection h with h
      injection h with h1 h
      injection h with h2 h
      injection h with h3 h4
      subst h1; subst h4
      refine ⟨?_, by omega, by omega⟩
      rw [List.nil_append, ← h2, ← h3, Int.toNat_of_nonneg (by omega), Int.toNat_of_nonneg (by omega)]
    · rw [Option.map_eq_some_iff] at h
      obtain ⟨⟨p', a', b', s'⟩, h1, h2⟩ := h
      injection h2 with h3 h4
      injection h4 with h4 h5
      injection h5 with h5 h6
      subst h3; subst h4; subst h5; subst h6
      obtain ⟨i1, i2, i3⟩ := badAt_ok (fun z hz => hw z (List.mem_cons_of_mem _ hz)) h1
      exact ⟨by rw [i1]; rfl, i2, i3⟩
def redW : Nat → List Int → LL
  | 0, w => [w]
  | f + 1, w => match badAt w with
    | none => [w]
    | some (p, a, b, s) => (ademF a b).flatMap fun u => redW f (p ++ (u ++ s))
section
variable {xs : List Int} {Q : List (List Int)}
theorem ok_all (h : IsMod xs Q) {a b : Nat} (ha : 1 ≤ a) (hab : a < 2 * b) (h20 : a + b ≤ 20) {v : Nat} (hv : v < 2 ^ xs.length) : OkAt Q a b v := by
  unfold OkAt
  refine lin_ext (f := fun v => act Q (a : Int) (act Q (b : Int) v)) (g := adem Q a b) (fun x y => ?_) (fun x y => ?_) xs.length (fun k hk => h.ok a b ha hab h20 k hk) v hv
  · show act Q _ (act Q _ (xr x y)) = _; rw [act_lin, act_lin]
  · unfold adem
    rw [← xsumf_xr2]
    exact xsumf_congr _ fun j _ => by rw [act_lin, act_lin]
theorem adem_word (h : IsMod xs Q) {a b : Nat} (ha : 1 ≤ a) (hab : a < 2 * b) (h20 : a + b ≤ 20) {v : Nat} (hv : v < 2 ^ xs.length) : wordM Q [(a : Int), (b : Int)] v = xsumf (fun w => wordM Q w v) (ademF a b) := by
  rw [adem_form]; exact ok_all h ha hab h20 hv
theorem adem_mem {a b : Nat} (ha : 1 ≤ a) (hb : 1 ≤ b) {u : List Int} (hu : u ∈ ademF a b) : (∀ x ∈ u, 1 ≤ x) ∧ u.sum = (a : Int) + b := by
  obtain ⟨j, hj, rfl⟩ := List.mem_map.1 hu
  have h1 := (mem_relN (List.mem_reverse.1 hj)).1
  unfold ademW; split
  · exact ⟨fun x hx => by rw [List.mem_singleton.1 hx]; omega, by simp⟩
  · refine ⟨fun x hx => ?_, by simp; omega⟩
    rcases List.mem_cons.1 hx with e | hx
    · rw [e]; omega
    · rw [List.mem_singleton.1 hx]; omega
theorem sum_appI (p s : List Int) : (p ++ s).sum = p.sum + s.sum := by simp
theorem nn_sum : ∀ {p : List Int}, (∀ x ∈ p, 1 ≤ x) → 0 ≤ p.sum
  | [], _ => by simp
  | x :: p, h => by
    have := nn_sum (p := p) fun z hz => h z (List.mem_cons_of_mem _ hz)
    have := h x (List.mem_cons_self ..)
    rw [List.sum_cons]; omega
theorem redW_ok (h : IsMod xs Q) {v : Nat} (hv : v < 2 ^ xs.length) : ∀ (f : Nat) (w : List Int), (∀ x ∈ w, 1 ≤ x) → w.sum ≤ 20 → xsumf (fun u => wordM Q u v) (redW f w) = wordM Q w v
  | 0, w, _, _ => by
    unfold redW; rw [xsumf_cons]
    show xr _ 0 = _
    unfold xr; rw [Nat.xor_zero]
  | f + 1, w, hw, hs => by
    unfold redW
    cases hb : badAt w with
    | none =>
      show xsumf _ [w] = _
      rw [xsumf_cons]
      show xr _ 0 = _
      unfold xr; rw [Nat.xor_zero]
    | some r =>
      obtain ⟨p, a, b, s⟩ := r
      obtain ⟨e, hab, ha⟩ := badAt_ok hw hb
      show xsumf _ ((ademF a b).flatMap fun u => redW f (p ++ (u ++ s))) = _
      subst e
      have hp : ∀ x ∈ p, 1 ≤ x := fun x hx => hw x (List.mem_append_left _ hx)
      have hss : ∀ x ∈ s, 1 ≤ x := fun x hx => hw x (List.mem_append_right _ (List.mem_cons_of_mem _ (List.mem_cons_of_mem _ hx)))
      have p1 := nn_sum hp
      have p2 := nn_sum hss
      rw [sum_appI, List.sum_cons, List.sum_cons] at hs
      rw [xsumf_flat, xsumf_congr (g := fun u => wordM Q p (wordM Q u (wordM Q s v))) _ fun u hu => ?_]
      · rw [← wordM_xsumf, ← adem_word h ha hab (by omega) (wordM_lt h.shp hv s), ← wordM_app, ← wordM_app, List.append_assoc]; rfl
      · obtain ⟨u1, u2⟩ := adem_mem ha (by omega) hu
        have h1 : ∀ x ∈ p ++ (u ++ s), 1 ≤ x := fun x hx => by
          rcases List.mem_append.1 hx with h1 | h1
          · exact hp x h1
          · rcases List.mem_append.1 h1 with h2 | h2
            · exact u1 x h2
            · exact hss x h2
        rw [redW_ok h hv f (p ++ (u ++ s)) h1 (by rw [sum_appI, sum_appI, u2]; omega), wordM_app, wordM_app]
/-- the product of two elements by words -/
def prodW (P R : LL) : LL := nf (P.flatMap fun u => R.flatMap fun v => redW 60 (u ++ v))
theorem prodW_ok (h : IsMod xs Q) {P R : LL} (hP : ∀ u ∈ P, ∀ r ∈ R, (∀ x ∈ u ++ r, 1 ≤ x) ∧ (u ++ r).sum ≤ 20) {v : Nat} (hv : v < 2 ^ xs.length) :
    xsumf (fun u => wordM Q u (xsumf (fun r => wordM Q r v) R)) P = xsumf (fun u => wordM Q u v) (prodW P R) := by
  unfold prodW
  rw [xsumf_nf, xsumf_flat]
  refine xsumf_congr _ fun u hu => ?_
  rw [xsumf_flat, wordM_xsumf]
  refine xsumf_congr _ fun r hr => ?_
  obtain ⟨h1, h2⟩ := hP u hu r hr
  rw [redW_ok h hv 60 (u ++ r) h1 h2, wordM_app]
end
theorem isW_pos {d : Int} {w : List Int} (h : IsW d w) : (∀ x ∈ w, 1 ≤ x) ∧ w.sum = d := by
  obtain ⟨r, hr, rfl⟩ := h
  refine ⟨fun x hx => ?_, by rw [lead_deg, hr.deg]⟩
  have := lead_adw hr.nn hr.tr (Int.le_refl _)
  have key : ∀ {m : Int} {t : List Int}, AdW m t → ∀ x ∈ t, 1 ≤ x := by
    intro m t
    induction t generalizing m with
    | nil => intro _ x hx; cases hx
    | cons a t ih =>
      intro h x hx
      rcases List.mem_cons.1 hx with e | hx
      · rw [e]; exact h.1
      · exact ih h.2.2 x hx
  exact key this x hx
/-- the four elements that can act twice -/
theorem twice_zero : prodW (sqP 1 [pwr 0 1]) (sqP 1 [pwr 0 1]) = [] ∧ prodW (sqP 3 [pwr 0 2]) (sqP 3 [pwr 0 2]) = [] ∧ prodW (sqP 6 [pwr 1 2]) (sqP 6 [pwr 1 2]) = [] ∧ prodW (sqP 7 [pwr 0 3]) (sqP 7 [pwr 0 3]) = [] := by
  decide +kernel
end Go.Proofs.YtdkmdmpaflgfaaaGreatDoor

namespace Go.Proofs.YtdkmdmpaflgfaaaGreatDoor
open Go.RowKit

/-- the least part with the rows T -/
inductive GSp (Q : List (List Int)) (T : List Nat) : Nat → Prop
  | mem {r : Nat} : r ∈ T → GSp Q T r
  | zero : GSp Q T 0
  | add {a b : Nat} : GSp Q T a → GSp Q T b → GSp Q T (xr a b)
  | act {a j : Nat} : 1 ≤ j → j ≤ 20 → GSp Q T a → GSp Q T (act Q (j : Int) a)
theorem GSp.sp {Q : List (List Int)} {T A : List Nat} (h : ∀ r ∈ A, GSp Q T r) {v : Nat} (hv : Sp A v) : GSp Q T v := by
  induction hv with
  | zero => exact .zero
  | add hm _ ih => exact .add (h _ hm) ih
theorem sp_act {Q : List (List Int)} {A U : List Nat} {n : Int} (h : ∀ a ∈ A, Sp U (act Q n a)) {v : Nat} (hv : Sp A v) : Sp U (act Q n v) := by
  induction hv with
  | zero => rw [act_zero]; exact .zero
  | add hm _ ih => rw [act_lin]; exact (h _ hm).plus ih
structure GenB (Q : List (List Int)) (T A : List Nat) : Prop where
  low : ∀ r ∈ A, GSp Q T r
  top : ∀ r ∈ T, Sp A r
  act : ∀ v ∈ A, ∀ j : Nat, 1 ≤ j → j ≤ 20 → Sp A (act Q (j : Int) v)
theorem GenB.iff {Q : List (List Int)} {T A : List Nat} (h : GenB Q T A) (z : Nat) : Sp A z ↔ GSp Q T z := by
  constructor
  · exact GSp.sp h.low
  · intro hz
    induction hz with
    | mem hm => exact h.top _ hm
    | zero => exact .zero
    | add _ _ i1 i2 => exact i1.plus i2
    | act h1 h2 _ ih => exact sp_act (fun a ha => h.act a ha _ h1 h2) ih
theorem GenB.reduce {Q : List (List Int)} {T A : List Nat} (h : GenB Q T A) (hA : ∀ r ∈ A, Sm r) : GenB Q T (reduceS A) :=
  ⟨fun r hr => GSp.sp h.low ((sp_reduce hA r).1 (.mem hr)), fun r hr => (sp_reduce hA r).2 (h.top r hr),
   fun v hv j h1 h2 => (sp_reduce hA _).2 (sp_act (fun a ha => h.act a ha j h1 h2) ((sp_reduce hA v).1 (.mem hv)))⟩
/-- its rows, reduced and in order -/
structure IsGen (Q : List (List Int)) (T S : List Nat) : Prop where
  gen : GenB Q T S
  red : Red S
  asc : Asc S
open Classical in
noncomputable def genR (Q : List (List Int)) (T : List Nat) : List Nat := if h : ∃ S, IsGen Q T S then h.choose else []
theorem IsGen.eq {Q : List (List Int)} {T S : List Nat} (h : IsGen Q T S) : S = genR Q T := by
  have hex : ∃ S, IsGen Q T S := ⟨S, h⟩
  have e : genR Q T = hex.choose := by unfold genR; rw [dif_pos hex]
  have h2 := hex.choose_spec
  rw [e]
  exact red_asc_unique h.red h2.red h.asc h2.asc fun v => by rw [h.gen.iff, h2.gen.iff]

/-! ### the squares of a mask -/
def acts (Q : List (List Int)) (v k : Nat) : List Nat := (List.range k).map fun j => act Q ((j + 1 : Nat) : Int) v
theorem acts_succ (Q : List (List Int)) (v k : Nat) : acts Q v (k + 1) = acts Q v k ++ [act Q ((k + 1 : Nat) : Int) v] := by
  unfold acts; rw [List.range_succ, List.map_append, List.map_singleton]
theorem acts_len (Q : List (List Int)) (v k : Nat) : (acts Q v k).length = k := by simp [acts]
theorem mem_acts {Q : List (List Int)} {v k r : Nat} : r ∈ acts Q v k ↔ ∃ j : Nat, 1 ≤ j ∧ j ≤ k ∧ r = act Q (j : Int) v := by
  unfold acts
  rw [List.mem_map]
  constructor
  · rintro ⟨j, hj, rfl⟩; exact ⟨j + 1, by omega, by have := List.mem_range.1 hj; omega, rfl⟩
  · rintro ⟨j, h1, h2, rfl⟩; exact ⟨j - 1, List.mem_range.2 (by omega), by rw [show j - 1 + 1 = j by omega]⟩
def moreT (Q : List (List Int)) (b : List Nat) : Nat → List Nat
  | 0 => b
  | i + 1 => moreT Q b i ++ acts Q (b.getD i 0) 20
theorem moreT_len (Q : List (List Int)) (b : List Nat) : ∀ k, (moreT Q b k).length = b.length + 20 * k
  | 0 => rfl
  | k + 1 => by show (moreT Q b k ++ acts Q (b.getD k 0) 20).length = _; rw [List.length_append, moreT_len, acts_len]; omega
theorem moreT_low (Q : List (List Int)) (b : List Nat) : ∀ k, ∀ r ∈ b, r ∈ moreT Q b k
  | 0 => fun r hr => hr
  | k + 1 => fun r hr => List.mem_append.2 (.inl (moreT_low Q b k r hr))
theorem moreT_all (Q : List (List Int)) (b : List Nat) : ∀ k, ∀ i, i < k → ∀ j : Nat, 1 ≤ j → j ≤ 20 → act Q (j : Int) (b.getD i 0) ∈ moreT Q b k
  | 0 => fun i hi => by omega
  | k + 1 => fun i hi j h1 h2 => by
    refine List.mem_append.2 ?_
    by_cases e : i = k
    · subst e; exact .inr (mem_acts.2 ⟨j, h1, h2, rfl⟩)
    · exact .inl (moreT_all Q b k i (by omega) j h1 h2)
theorem moreT_mem (Q : List (List Int)) (b : List Nat) : ∀ k, k ≤ b.length → ∀ r ∈ moreT Q b k, r ∈ b ∨ ∃ v ∈ b, ∃ j : Nat, 1 ≤ j ∧ j ≤ 20 ∧ r = act Q (j : Int) v
  | 0, _ => fun r hr => .inl hr
  | k + 1, h => fun r hr => by
    rcases List.mem_append.1 hr with hr | hr
    · exact moreT_mem Q b k (by omega) r hr
    · obtain ⟨j, h1, h2, e⟩ := mem_acts.1 hr
      exact .inr ⟨_, getD_mem (show k < b.length by omega), j, h1, h2, e⟩

/-! ### dimensions of nested spaces -/
theorem fold_grow : ∀ (C S : List Nat), S.length ≤ (C.foldl putS S).length ∧ ((C.foldl putS S).length = S.length → C.foldl putS S = S)
  | [], S => ⟨Nat.le_refl _, fun _ => rfl⟩
  | c :: C, S => by
    rw [List.foldl_cons]
    by_cases h : leftS S c = 0
    · have e : putS S c = S := by unfold putS; rw [if_pos h]
      rw [e]; exact fold_grow C S
    · have hl := (putS_perm S c h).length_eq
      rw [List.length_append, List.length_map, List.length_singleton] at hl
      have h2 := (fold_grow C (putS S c)).1
      exact ⟨by omega, fun h3 => by omega⟩
theorem dim_le {P R : Nat → Prop} {k l : Nat} (h1 : Dim P k) (h2 : Dim R l) (h : ∀ v, P v → R v) : k ≤ l ∧ (k = l → ∀ v, R v → P v) := by
  obtain ⟨B, b1, b2, b3, rfl⟩ := h1
  obtain ⟨C, c1, c2, c3, rfl⟩ := h2
  have hBC : ∀ r ∈ B ++ C, Sm r := fun r hr => by
    rcases List.mem_append.1 hr with hr | hr
    · exact b1 r hr
    · exact c1 r hr
  have hs : ∀ v, Sp (B ++ C) v ↔ Sp C v := fun v => by
    constructor
    · intro hv
      refine hv.trans fun r hr => ?_
      rcases List.mem_append.1 hr with hr | hr
      · exact (c3 r).2 (h r ((b3 r).1 (.mem hr)))
      · exact .mem hr
    · exact Sp.mono fun r hr => List.mem_append.2 (.inr hr)
  have e1 : reduceS (B ++ C) = C.foldl putS (reduceS B) := by unfold reduceS; rw [List.foldl_append]
  have e2 := reduce_unique hBC c1 hs
  have l1 := fre_len b1 b2
  have l2 := fre_len c1 c2
  obtain ⟨g1, g2⟩ := fold_grow C (reduceS B)
  rw [← e1, e2] at g1 g2
  refine ⟨by omega, fun e v hv => ?_⟩
  have e3 := g2 (by omega)
  exact (b3 v).1 ((sp_reduce b1 v).1 (by rw [← e3]; exact (sp_reduce c1 v).2 ((c3 v).2 hv)))

/-! ### the reference's loop -/
structure SI (xs : List Int) (Q : List (List Int)) (T b : List Nat) : Prop where
  red : Red b
  asc : Asc b
  low : ∀ r ∈ b, GSp Q T r
  top : ∀ r ∈ T, Sp b r
  hom : ∀ r ∈ b, r ≠ 0 ∧ r < 2 ^ xs.length ∧ ∃ d : Nat, d < 21 ∧ Hom xs (d : Int) r
theorem Shp.sml {xs : List Int} {Q : List (List Int)} (hs : Shp xs Q) {r : Nat} (h : r < 2 ^ xs.length) : Sm r := sm_of_lt (a := xs.length) (by have := hs.len; omega) h
theorem SI.of {xs : List Int} {Q : List (List Int)} {T M : List Nat} (hs : Shp xs Q) (hM : ∀ r ∈ M, r < 2 ^ xs.length) (hh : ∀ r ∈ M, r ≠ 0 → ∃ d : Nat, d < 21 ∧ Hom xs (d : Int) r) (h1 : ∀ r ∈ M, GSp Q T r) (h2 : ∀ r ∈ T, Sp M r) : SI xs Q T (byDeg xs M 21) := by
  have hm : ∀ r ∈ M, Sm r := fun r hr => hs.sml (hM r hr)
  obtain ⟨a1, a2, a3⟩ := byDeg_all hs.srtL hm 21
  have hsp := byDeg_sp hs.srtL hm (k := 21) hh
  refine ⟨a1, a2, fun r hr => GSp.sp h1 ((hsp r).1 (.mem hr)), fun r hr => (hsp r).2 (h2 r hr), fun r hr => ?_⟩
  obtain ⟨d, hd, hr⟩ := a3 r hr
  obtain ⟨q1, q2, _, _⟩ := part_mem hm hr
  exact ⟨q2, q1.lt, d, hd, q1⟩
theorem SI.more {xs : List Int} {Q : List (List Int)} {T b : List Nat} (hs : Shp xs Q) (h : SI xs Q T b) : (∀ r ∈ moreT Q b b.length, r < 2 ^ xs.length) ∧ (∀ r ∈ moreT Q b b.length, r ≠ 0 → ∃ d : Nat, d < 21 ∧ Hom xs (d : Int) r) := by
  constructor
  · intro r hr
    rcases moreT_mem Q b b.length (Nat.le_refl _) r hr with hr | ⟨v, hv, j, _, _, rfl⟩
    · exact (h.hom r hr).2.1
    · exact act_lt hs (h.hom v hv).2.1 _
  · intro r hr h0
    rcases moreT_mem Q b b.length (Nat.le_refl _) r hr with hr | ⟨v, hv, j, _, _, rfl⟩
    · exact (h.hom r hr).2.2
    · obtain ⟨_, hlt, d, hd, hh⟩ := h.hom v hv
      have h2 := act_hom hs (n := (j : Int)) hh
      obtain ⟨p1, p2⟩ := h2.pv h0 (hs.sml (act_lt hs hlt _))
      have := (hs.deg _ p1).2
      exact ⟨d + j, by omega, by rw [Int.natCast_add]; exact h2⟩
theorem SI.step {xs : List Int} {Q : List (List Int)} {T b : List Nat} (hs : Shp xs Q) (h : SI xs Q T b) :
    SI xs Q T (byDeg xs (moreT Q b b.length) 21) ∧ b.length ≤ (byDeg xs (moreT Q b b.length) 21).length ∧ ((byDeg xs (moreT Q b b.length) 21).length = b.length → IsGen Q T b) := by
  obtain ⟨m1, m2⟩ := h.more hs
  have hm : ∀ r ∈ moreT Q b b.length, Sm r := fun r hr => hs.sml (m1 r hr)
  have hsp := byDeg_sp hs.srtL hm (k := 21) m2
  have hS : SI xs Q T (byDeg xs (moreT Q b b.length) 21) := by
    refine SI.of hs m1 m2 (fun r hr => ?_) fun r hr => (h.top r hr).mono (moreT_low Q b _)
    rcases moreT_mem Q b b.length (Nat.le_refl _) r hr with hr | ⟨v, hv, j, h1, h2, rfl⟩
    · exact h.low r hr
    · exact .act h1 h2 (h.low v hv)
  have hd := dim_le (dim_red h.red) (dim_red hS.red) fun v hv => (hsp v).2 (hv.mono (moreT_low Q b _))
  refine ⟨hS, hd.1, fun e => ⟨⟨h.low, h.top, fun v hv j h1 h2 => ?_⟩, h.red, h.asc⟩⟩
  obtain ⟨i, hi, e2⟩ := List.getElem_of_mem hv
  have e3 : b.getD i 0 = v := by simp [List.getD, hi, e2]
  refine hd.2 e.symm _ ((hsp _).2 (.mem ?_))
  rw [← e3]
  exact moreT_all Q b b.length i hi j h1 h2

/-! ### the program's loop -/
structure GI (Q : List (List Int)) (T A q : List Nat) : Prop where
  low : ∀ r ∈ A, GSp Q T r
  lowq : ∀ r ∈ q, GSp Q T r
  top : ∀ r ∈ T, r ∈ A ∨ r ∈ q
  act : ∀ v ∈ A, ∀ j : Nat, 1 ≤ j → j ≤ 20 → Sp (A ++ q) (act Q (j : Int) v)
theorem GI.start (Q : List (List Int)) (T : List Nat) : GI Q T [] T := ⟨by simp, fun r hr => .mem hr, fun r hr => .inr hr, by simp⟩
theorem GI.skip {Q : List (List Int)} {T A q : List Nat} {v : Nat} (h : GI Q T A (v :: q)) (hv : Sp A v) : GI Q T (A ++ [v]) q := by
  have hsub : ∀ r ∈ A ++ v :: q, r ∈ A ++ [v] ++ q := fun r hr => by simpa using hr
  refine ⟨fun r hr => ?_, fun r hr => h.lowq r (List.mem_cons_of_mem _ hr), fun r hr => ?_, fun u hu j h1 h2 => ?_⟩
  · rcases List.mem_append.1 hr with hr | hr
    · exact h.low r hr
    · rw [List.mem_singleton] at hr; subst hr; exact h.lowq _ (List.mem_cons_self ..)
  · rcases h.top r hr with hr | hr
    · exact .inl (by simp [hr])
    · rcases List.mem_cons.1 hr with hr | hr
      · exact .inl (by simp [hr])
      · exact .inr hr
  · rcases List.mem_append.1 hu with hu | hu
    · exact (h.act u hu j h1 h2).mono hsub
    · rw [List.mem_singleton] at hu; subst hu
      exact (sp_act (fun a ha => h.act a ha j h1 h2) hv).mono hsub
theorem GI.take {Q : List (List Int)} {T A q : List Nat} {v : Nat} (h : GI Q T A (v :: q)) : GI Q T (A ++ [v]) (q ++ acts Q v 20) := by
  have hsub : ∀ r ∈ A ++ v :: q, r ∈ A ++ [v] ++ (q ++ acts Q v 20) := fun r hr => by
    simp only [List.mem_append, List.mem_cons, List.mem_singleton, List.not_mem_nil, or_false] at hr ⊢
    rcases hr with hr | hr | hr
    · exact .inl (.inl hr)
    · exact .inl (.inr hr)
    · exact .inr (.inl hr)
  have hv := h.lowq v (List.mem_cons_self ..)
  refine ⟨fun r hr => ?_, fun r hr => ?_, fun r hr => ?_, fun u hu j h1 h2 => ?_⟩
  · rcases List.mem_append.1 hr with hr | hr
    · exact h.low r hr
    · rw [List.mem_singleton] at hr; subst hr; exact hv
  · rcases List.mem_append.1 hr with hr | hr
    · exact h.lowq r (List.mem_cons_of_mem _ hr)
    · obtain ⟨j, h1, h2, rfl⟩ := mem_acts.1 hr; exact .act h1 h2 hv
  · rcases h.top r hr with hr | hr
    · exact .inl (by simp [hr])
    · rcases List.mem_cons.1 hr with hr | hr
      · exact .inl (by simp [hr])
      · exact .inr (by simp [hr])
  · rcases List.mem_append.1 hu with hu | hu
    · exact (h.act u hu j h1 h2).mono hsub
    · rw [List.mem_singleton] at hu; subst hu
      exact .mem (List.mem_append.2 (.inr (List.mem_append.2 (.inr (mem_acts.2 ⟨j, h1, h2, rfl⟩)))))
theorem GI.done {Q : List (List Int)} {T A : List Nat} (h : GI Q T A []) (hA : ∀ r ∈ A, Sm r) : IsGen Q T (reduceS A) :=
  ⟨GenB.reduce ⟨h.low, fun r hr => by rcases h.top r hr with hr | hr; exact .mem hr; simp at hr, fun v hv j h1 h2 => by have := h.act v hv j h1 h2; rwa [List.append_nil] at this⟩ hA, red_reduce hA, asc_reduce hA⟩
end Go.Proofs.YtdkmdmpaflgfaaaGreatDoor

namespace Go.Proofs.YtdkmdmpaflgfaaaGreatDoor

theorem mact_lin (Q : List (List Int)) (d : Int) (T : LL) (x y : Nat) : mact Q d T (xr x y) = xr (mact Q d T x) (mact Q d T y) := by
  unfold mact; rw [← xsumf_xr2]
  exact xsumf_congr _ fun u _ => wordM_lin Q u x y
theorem comb_mactF (Q : List (List Int)) (d : Int) (T : LL) (n : Nat) {v : Nat} (hv : v < 2 ^ n) : comb (mactF Q d T n) 0 v = mact Q d T v :=
  lin_ext (f := comb (mactF Q d T n) 0) (g := mact Q d T) (comb_xr _ 0) (mact_lin Q d T) n (fun k hk => by
    have := comb_pow (mactF Q d T n) 0 k
    rw [Nat.zero_add] at this
    rw [this, mactF_getD Q d T hk]) v hv
theorem four {a b : Nat} (hab : a < b) (hb : b ≤ 5) (h : 2 * stepM a b ≤ 20) : (a = 0 ∧ b = 1) ∨ (a = 0 ∧ b = 2) ∨ (a = 1 ∧ b = 2) ∨ (a = 0 ∧ b = 3) := by
  have h1 : b = 1 ∨ b = 2 ∨ b = 3 ∨ b = 4 ∨ b = 5 := by omega
  have h2 : a = 0 ∨ a = 1 ∨ a = 2 ∨ a = 3 ∨ a = 4 := by omega
  unfold stepM at h
  rcases h1 with rfl | rfl | rfl | rfl | rfl <;> rcases h2 with rfl | rfl | rfl | rfl | rfl <;> first | omega | (exfalso; revert h; decide)
section
variable {xs : List Int} {Q : List (List Int)}
theorem mact_twice (h : IsMod xs Q) {a b : Nat} (hab : a < b) (hb : b ≤ 5) (h40 : stepM a b ≤ 40) {v : Nat} (hv : v < 2 ^ xs.length) : mact Q (stepM a b) [pwr a b] (mact Q (stepM a b) [pwr a b] v) = 0 := by
  have hx := pwr_ex a (show 1 ≤ b by omega)
  obtain ⟨m1, m2⟩ := stepM_bd (s := a) (t := b) (by omega) hb
  have hok := sqP_ok m1 (show stepM a b ≤ 63 by omega) (one_as (pwr a b)) (one_ex hx)
  by_cases h20 : 2 * stepM a b ≤ 20
  · have hP : ∀ u ∈ sqP (stepM a b) [pwr a b], ∀ r ∈ sqP (stepM a b) [pwr a b], (∀ x ∈ u ++ r, 1 ≤ x) ∧ (u ++ r).sum ≤ 20 := fun u hu r hr => by
      obtain ⟨u1, u2⟩ := isW_pos (hok.ws u hu)
      obtain ⟨r1, r2⟩ := isW_pos (hok.ws r hr)
      refine ⟨fun x hx => ?_, by rw [sum_appI, u2, r2]; omega⟩
      rcases List.mem_append.1 hx with k | k
      · exact u1 x k
      · exact r1 x k
    have h1 := prodW_ok h hP hv
    have h2 : prodW (sqP (stepM a b) [pwr a b]) (sqP (stepM a b) [pwr a b]) = [] := by
      rcases four hab hb h20 with ⟨rfl, rfl⟩ | ⟨rfl, rfl⟩ | ⟨rfl, rfl⟩ | ⟨rfl, rfl⟩
      · exact twice_zero.1
      · exact twice_zero.2.1
      · exact twice_zero.2.2.1
      · exact twice_zero.2.2.2
    rw [h2] at h1
    exact h1
  · refine lin_ext (f := fun v => mact Q (stepM a b) [pwr a b] (mact Q (stepM a b) [pwr a b] v)) (g := fun _ => 0) (fun x y => ?_) (fun x y => (xr_self 0).symm) xs.length (fun k hk => ?_) v hv
    · show mact Q _ _ (mact Q _ _ (xr x y)) = _; rw [mact_lin, mact_lin]
    · have h1 := mact_hom h.shp hok.ws (mact_hom h.shp hok.ws (Hom.pow (xs := xs) hk))
      have hk0 := h.shp.deg k hk
      exact h1.eq_zero fun j hj => by
        have := h.shp.deg j hj
        omega
/-- the image lies in the kernel -/
theorem img_le_ker (h : IsMod xs Q) {a b : Nat} (hab : a < b) (hb : b ≤ 5) (h40 : stepM a b ≤ 40) (d : Nat) (hd : d ≤ 20) :
    (ofDeg xs (d : Int) (reduceS (mactF Q (stepM a b) [pwr a b] xs.length))).length ≤ (ofDeg xs (d : Int) (kerR (mactF Q (stepM a b) [pwr a b] xs.length))).length := by
  have hx := pwr_ex a (show 1 ≤ b by omega)
  obtain ⟨m1, m2⟩ := stepM_bd (s := a) (t := b) (by omega) hb
  have hF := mactF_step h.shp m1 (show stepM a b ≤ 63 by omega) (one_as (pwr a b)) (one_ex hx)
  have hsm := hF.sm h.shp
  have hlen := hF.len
  have h1 := ker_dim hF h.shp d hd
  rw [img_deg hF h.shp d hd]
  refine (dim_le (rk_dim _ (fromT xs _ ((d : Int) - stepM a b) xs.length) rfl (fromT_sm hsm _ _)) h1 fun v hv => ?_).1
  refine Sp.trans (fun r hr => ?_) hv
  obtain ⟨i, hi, rfl⟩ := List.mem_map.1 hr
  obtain ⟨i1, i2⟩ := mem_idx.1 hi
  refine (kerD_sp hsm (by have := h.shp.len; omega) (d : Int) _).2 ⟨?_, ?_⟩
  · have := hF.hom i i1
    rwa [i2, show (d : Int) - stepM a b + stepM a b = d by omega] at this
  · rw [mactF_getD _ _ _ i1, comb_mactF _ _ _ _ (mact_lt h.shp _ _ (pow_lt_len i1))]
    exact mact_twice h hab hb h40 (pow_lt_len i1)
theorem margR_nn (h : IsMod xs Q) {a b : Nat} (hab : a < b) (hb : b ≤ 5) (h40 : stepM a b ≤ 40) : ∀ x ∈ margR xs (mactF Q (stepM a b) [pwr a b] xs.length) (stepM a b) 21, 0 ≤ x ∧ x ≤ 16 := fun x hx' => by
  obtain ⟨d, hd, rfl⟩ := List.mem_map.1 hx'
  rw [List.mem_range] at hd
  have hx := pwr_ex a (show 1 ≤ b by omega)
  obtain ⟨m1, m2⟩ := stepM_bd (s := a) (t := b) (by omega) hb
  have hF := mactF_step h.shp m1 (show stepM a b ≤ 63 by omega) (one_as (pwr a b)) (one_ex hx)
  have h1 := img_le_ker h hab hb h40 d (by omega)
  have h2 := ker_deg hF h.shp d (by omega)
  have h3 := fromT_len xs (mactF Q (stepM a b) [pwr a b] xs.length) (d : Int) xs.length
  have h4 := h.shp.len
  rw [cntM_law hF h.shp d (by omega), cnt_degL, cnt_degL]
  omega
end
theorem margOf_nn (xs : List Int) (L : List Row) (s t : Int) : ∀ x ∈ (margOf xs L s t).1, 0 ≤ x ∧ x ≤ 16 := by
  unfold margOf
  split
  · rename_i h0
    obtain ⟨h1, h2, h3⟩ := codeM_zero h0
    obtain ⟨a, b, rfl, rfl, hab, hb⟩ := rangeM_nat h2
    rw [Int.toNat_natCast, Int.toNat_natCast] at h3 ⊢
    exact margR_nn (modB_iff.1 h1) hab hb h3
  · intro x hx; cases hx
theorem sum_zero_iff : ∀ {ys : List Int}, (∀ x ∈ ys, 0 ≤ x ∧ x ≤ 16) → ((ys.sum == 0) = ys.all fun x => x == 0) ∧ 0 ≤ ys.sum
  | [], _ => ⟨rfl, by simp⟩
  | y :: ys, h => by
    have hy := h y (List.mem_cons_self ..)
    obtain ⟨i1, i2⟩ := sum_zero_iff (ys := ys) fun x hx => h x (List.mem_cons_of_mem _ hx)
    refine ⟨?_, by rw [List.sum_cons]; omega⟩
    rw [List.sum_cons, List.all_cons, ← i1]
    by_cases h1 : y = 0
    · subst h1; simp
    · have e1 : (y == 0) = false := by simpa using h1
      have e2 : (y + ys.sum == 0) = false := by simp; omega
      rw [e1, e2]; rfl
/-- the program's way of saying that there is none -/
theorem hasNoOf_sum (xs : List Int) (L : List Row) (s t : Int) : hasNoOf xs L s t = if (margOf xs L s t).2 = 0 then ((margOf xs L s t).1.sum == 0, 0) else (false, (margOf xs L s t).2) := by
  unfold hasNoOf; rw [(sum_zero_iff (margOf_nn xs L s t)).1]
end Go.Proofs.YtdkmdmpaflgfaaaGreatDoor

namespace Go.Proofs.YtdkmdmpaflgfaaaGreatDoor
open Go.RowKit

set_option maxRecDepth 100000 in
set_option maxHeartbeats 2000000 in
theorem implHasNoMargolis_any (A A' : Option Addr) (n c m c' : Nat) (xs : List Int) (L : List Row) (s t : Int) (w : World) (hT : Tab w) (hw : 0 < w.heap.size) (hM : ModIn w A n A' m xs L) :
    Calls Tryz.prog 26 #[.agg #[.slice A n c, .slice A' m c'], .int .i64 s, .int .i64 t] w (ResB (hasNoOf xs L s t) w) := by
  have HC := Lib.hid (fun W (hb : Below w.heap.size w W) => implMargolisCounts_any A A' n c m c' xs L s t W (hT.below hb hw) (by have := hb.size; omega) (hM.below hb))
  have HB0 := Lib.hid ((Below.refl w.heap.size w).alloc (Nat.le_refl _) (.cells #[.slice A n c, .slice A' m c'] 30))
  have HLN := Lib.hid (margOf_len xs L s t)
  have HOF := Lib.hid (hasNoOf_sum xs L s t)
  have HNN := Lib.hid (margOf_nn xs L s t)
  clear hM hT hw
  generalize margOf xs L s t = r at *
  obtain ⟨ys, cd⟩ := r
  simp only at HLN HOF HNN
  go_enter Tryz.func26, Tryz.ntmps26
  go_wp2_with fail
  refine (HC.out _ HB0.out).mono ?_
  rintro e w1 ⟨v1, rfl, ho1, hb1⟩
  obtain ⟨A1, c1, rfl, _, _, _⟩ := owns_shape ho1
  have HO1 := Lib.hid ho1
  have HB1 := Lib.hid (HB0.out.trans (hb1.mono HB0.out.size))
  clear ho1 hb1
  by_cases h0 : cd = 0
  · have HE := Lib.hid (HOF.out.trans (if_pos h0))
    subst h0
    go_wp2_with fail
    refine (sum_any A1 ys.length c1 ys w1 rfl (by have := HLN.out; omega) (fun x hx => by have := HNN.out x hx; omega) (owns_Rd HO1.out)).mono ?_
    rintro e w2 ⟨rfl, rfl⟩
    generalize ys.sum = sm at *
    go_wp2_with fail
    go_ret2
    exact ⟨by rw [HE.out]; rfl, HB1.out⟩
  · have HE := Lib.hid (HOF.out.trans (if_neg h0))
    have h0b : (cd == 0) = false := by simpa using h0
    clear h0
    go_wp2_with fail
    go_ret2
    exact ⟨by rw [HE.out]; rfl, HB1.out⟩

theorem rdR_oneR {w : World} {g c : Nat} {xs : List Int} (h : Rd w (some ⟨g, 0, none⟩) (iv xs)) (hc : xs.length ≤ c) : RdR (w.alloc (.cells #[.slice (some ⟨g, 0, none⟩) xs.length c] 22)) (some ⟨w.heap.size, 0, none⟩) [⟨some ⟨g, 0, none⟩, c, xs⟩] := by
  have e0 : ∀ i : Nat, i < 1 → rg [⟨some ⟨g, 0, none⟩, c, xs⟩] i = ⟨some ⟨g, 0, none⟩, c, xs⟩ := by
    intro i hi
    obtain rfl : i = 0 := by omega
    rfl
  refine ⟨.inr ⟨_, 0, rfl, fun j v hj => ?_⟩, fun i hi => by rw [e0 i hi]; exact h.alloc _, fun i hi => by rw [e0 i hi]; exact hc⟩
  have : j = 0 := by have := (List.getElem?_eq_some_iff.1 hj).1; simpa [hv] using this
  subst this
  have hv' : Value.slice (some ⟨g, 0, none⟩) xs.length c = v := by simpa [hv, Row.val] using hj
  rw [← hv']
  exact new_cell w _ _
theorem frOf_mod {xs : List Int} {L : List Row} (h : List Int) (hm : modB xs (dat L) = false) : frOf xs L h = (0, 0, 1) := by unfold frOf; rw [hm]; rfl
theorem frOf_top {xs : List Int} {L : List Row} {h : List Int} (hm : modB xs (dat L) = true) (ht : (topR h).2 ≠ 0) : frOf xs L h = (0, 0, (topR h).2) := by unfold frOf; rw [if_pos hm, if_neg ht]
theorem frOf_good {xs : List Int} {L : List Row} {h : List Int} (hm : modB xs (dat L) = true) (ht : (topR h).2 = 0) : frOf xs L h = (((reduceS (mactF (dat L) (degP (topL h)) [topL h] xs.length)).length : Int), 2 ^ sumN h, 0) := by
  unfold frOf; rw [if_pos hm, if_pos ht, (topR_ok ht).2.1]

set_option maxRecDepth 100000 in
set_option maxHeartbeats 4000000 in
theorem implFreeRankOver_any (A A' H : Option Addr) (n c m c' k ck : Nat) (xs : List Int) (L : List Row) (h : List Int) (w : World) (hT : Tab w) (hw : 0 < w.heap.size) (hM : ModIn w A n A' m xs L) (hk : k = h.length) (hk1 : k ≤ 1048576) (hH : Rd w H (iv h)) :
    Calls Tryz.prog 29 #[.agg #[.slice A n c, .slice A' m c'], .slice H k ck] w (ResI ((frOf xs L h).1, (frOf xs L h).2.2) w) := by
  have HIS := Lib.hid (fun W hb => hM.isM c c' W hb)
  have HTP := Lib.hid (fun W (hb : Below w.heap.size w W) => topped_any H k ck h W hk hk1 (hH.below hb))
  have HTE := Lib.hid (fun (hp : profB h = true) W (hb : Below w.heap.size w W) => topExponents_any H k ck h W hk hp (hH.below hb))
  have hwb : (w.alloc (.cells #[.slice A n c, .slice A' m c'] 30)).heap.size = w.heap.size + 1 := by simp
  have HB0 := Lib.hid ((Below.refl w.heap.size w).alloc (Nat.le_refl _) (.cells #[.slice A n c, .slice A' m c'] 30))
  have KB := Lib.hid (fun w' (hb : Below (w.heap.size + 1) (w.alloc (.cells #[.slice A n c, .slice A' m c'] 30)) w') => blk2cells (blk_below (blk_new w (.cells #[.slice A n c, .slice A' m c'] 30)) hb (by omega)))
  have KS := Lib.hid (fun w' (hb : Below (w.heap.size + 1) (w.alloc (.cells #[.slice A n c, .slice A' m c'] 30)) w') => show w'.cell? ⟨w.heap.size, 0, none⟩ = some (.slice A n c) ∧ w'.cell? ⟨w.heap.size, 1, none⟩ = some (.slice A' m c') from ⟨(KB.out w' hb).1, (KB.out w' hb).2.1⟩)
  obtain ⟨x0, x1, xf0, xf1, lx⟩ := blk2cells (blk_new w (.cells #[.slice A n c, .slice A' m c'] 30))
  have HWB := Lib.hid hwb
  have HMM := Lib.hid hM
  have HTT := Lib.hid (fun W (hb : Below w.heap.size w W) => (⟨hT.below hb hw, by have := hb.size; omega⟩ : Tab W ∧ 0 < W.heap.size))
  clear hM hwb hT hw hH hk
  go_enter Tryz.func29, Tryz.ntmps29
  go_wp2_with fail
  refine (HIS.out _ HB0.out).mono ?_
  rintro e w1 ⟨rfl, hb1⟩
  have HB1 := Lib.hid (HB0.out.trans (hb1.mono HB0.out.size))
  have HX1 := Lib.hid (show Below (w.heap.size + 1) (w.alloc (.cells #[.slice A n c, .slice A' m c'] 30)) w1 from by have := HWB.out; rw [← this]; exact hb1)
  clear hb1
  cases hmb : modB xs (dat L) with
  | false =>
    have HE := Lib.hid (frOf_mod h hmb)
    clear hmb
    go_wp2_with fail
    go_ret2
    exact ⟨by rw [HE.out]; rfl, HB1.out⟩
  | true =>
    have HSH := Lib.hid (shp_of hmb)
    have hs1 : w.heap.size + 1 ≤ w1.heap.size := by have := HX1.out.size; have := HWB.out; omega
    by_cases h0 : (topR h).2 = 0
    · have HE := Lib.hid (frOf_good hmb h0)
      obtain ⟨hp, ht, h40, hex, hsn⟩ := topR_ok h0
      have HP := Lib.hid hp
      have HAC := Lib.hid (fun (g cg : Nat) W (hb : Below w.heap.size w W) hR => actionOf_any (degP (topL h)) h40 A A' (some ⟨W.heap.size, 0, none⟩) n c m c' 1 1 xs L [⟨some ⟨g, 0, none⟩, cg, topL h⟩] (W.alloc (.cells #[.slice (some ⟨g, 0, none⟩) (topL h).length cg] 22)) HMM.out.r.hn HMM.out.r.hm HSH.out HMM.out.r.hm1 rfl (by omega) (one_as _) (one_ex hex) ((HMM.out.r.deg.below hb).alloc _) ((HMM.out.r.act.below hb).alloc _) hR)
      have hm0 : 0 ≤ degP (topL h) := by rw [← degW_P]; exact deg_nn 0 hex.nn
      have HSF := Lib.hid (mactF_step HSH.out hm0 (show degP (topL h) ≤ 63 by omega) (one_as (topL h)) (one_ex hex))
      have hdt : ∀ g cg, dat [(⟨some ⟨g, 0, none⟩, cg, topL h⟩ : Row)] = [topL h] := fun _ _ => rfl
      simp only [hdt] at HAC
      have HFL : Hid (n = (mactF (dat L) (degP (topL h)) [topL h] n).length) := Lib.hid (mactF_len _ _ _ _).symm
      have HFS : Hid (∀ r ∈ mactF (dat L) (degP (topL h)) [topL h] n, Sm r) := Lib.hid (by rw [HMM.out.r.hn]; exact HSF.out.sm HSH.out)
      have HE2 : Hid (frOf xs L h = (((reduceS (mactF (dat L) (degP (topL h)) [topL h] n)).length : Int), 2 ^ sumN h, 0)) := Lib.hid (by rw [HE.out, HMM.out.r.hn])
      have hn16 : n ≤ 16 := by rw [HMM.out.r.hn]; exact HSH.out.len
      have HRE := Lib.hid (fun (A3 : Option Addr) (c3 : Nat) W (hb : Below w.heap.size w W) hR => reduced_any A3 n c3 (mactF (dat L) (degP (topL h)) [topL h] n) W (HTT.out W hb).1 (HTT.out W hb).2 HFL.out (by omega) HFS.out hR)
      have HTL : Hid ((topR h).2 = 0) := Lib.hid h0
      clear h40 hex hdt hp h0 hmb ht hm0
      generalize mactF (dat L) (degP (topL h)) [topL h] n = F at *
      generalize topL h = q at *
      go_wp2_with fail
      refine (HTP.out _ HB1.out).mono ?_
      rintro e w2 ⟨rfl, hb2⟩
      rw [HTL.out]
      have HX2 := Lib.hid (HX1.out.trans (hb2.mono hs1))
      have HB2 := Lib.hid (HB1.out.trans (hb2.mono HB1.out.size))
      have hs2 : w.heap.size + 1 ≤ w2.heap.size := by have := HX2.out.size; have := HWB.out; omega
      have HMN := Lib.hid (fun W (hb : Below (w.heap.size + 1) (w.alloc (.cells #[.slice A n c, .slice A' m c'] 30)) W) => HB0.out.trans (hb.mono (Nat.le_succ _)))
      clear hb2 x0 x1 xf0 xf1 lx
      obtain ⟨y0, y1, yf0, yf1, ly⟩ := KB.out w2 HX2.out
      have HB_0 := Lib.hid (Below.drew (Below.refl w2.heap.size w2))
      have HX_0 := Lib.hid (HX2.out.trans (HB_0.out.mono hs2))
      go_wp2_with fail
      go_region_held3 (fun w' => w'.cell? ⟨w.heap.size, 0, none⟩ = some (.slice A n c) ∧ w'.cell? ⟨w.heap.size, 1, none⟩ = some (.slice A' m c'))
        (first | exact KS.out _ HX_0.out | exact KS.out _ HX_1.out | exact KS.out _ (HX_1.out.alloc (by have := HX_1.out.size; have := HWB.out; omega) _) | exact KS.out _ HX_2.out | exact KS.out _ HX_3.out)
        (first
          | (go_at_call 66; (with_reducible refine (HTE.out HP.out _ (HMN.out _ HX_0.out)).mono ?_); (rintro e w3 ⟨g, cg, rfl, hr, hb, hcg⟩; have HR3 := Lib.hid hr; have HCG := Lib.hid hcg; have HB_1 := Lib.hid (HB_0.out.trans (hb.mono HB_0.out.size)); have HX_1 := Lib.hid (HX2.out.trans (HB_1.out.mono hs2)); clear hr hb hcg))
          | (go_at_call 58; (with_reducible refine (HAC.out g cg w3 (HMN.out _ HX_1.out) (rdR_oneR HR3.out HCG.out)).mono ?_); (rintro e w4 ⟨v4, rfl, ho, hb⟩; obtain ⟨A4, c4, rfl, _, _, _⟩ := owns_shape ho; have HO4 := Lib.hid (owns_Rd ho); have HB_2 := Lib.hid (HB_1.out.trans ((show Below w3.heap.size w3 w4 from ((Below.refl _ _).alloc (Nat.le_refl _) _).trans (hb.mono (by simp))).mono HB_1.out.size)); have HX_2 := Lib.hid (HX2.out.trans (HB_2.out.mono hs2)); clear ho hb))
          | (go_at_call 62; (with_reducible refine (HRE.out _ _ _ (HMN.out _ HX_2.out) HO4.out).mono ?_); (rintro e w5 ⟨v5, rfl, ho, hb⟩; obtain ⟨A5, c5, rfl, _, _, _⟩ := owns_shape ho; have HB_3 := Lib.hid (HB_2.out.trans (hb.mono HB_2.out.size)); have HX_3 := Lib.hid (HX2.out.trans (HB_3.out.mono hs2)); clear ho hb)))
      go_wp2_with fail
      go_ret2
      exact ⟨by rw [HE2.out]; rfl, HMN.out _ HX_3.out⟩
    · have HE := Lib.hid (frOf_top hmb h0)
      generalize (topR h).2 = cd at *
      have h0b : (cd == 0) = false := by simpa using h0
      clear h0 hmb
      go_wp2_with fail
      refine (HTP.out _ HB1.out).mono ?_
      rintro e w2 ⟨rfl, hb2⟩
      have HB2 := Lib.hid (HB1.out.trans (hb2.mono HB1.out.size))
      clear hb2
      go_wp2_with fail
      go_ret2
      exact ⟨by rw [HE.out]; rfl, HB2.out⟩
end Go.Proofs.YtdkmdmpaflgfaaaGreatDoor

namespace Go.Proofs.YtdkmdmpaflgfaaaGreatDoor
open Go.RowKit

theorem sumN_sum : ∀ {h : List Int}, (∀ x ∈ h, 0 ≤ x) → h.sum = (sumN h : Int)
  | [], _ => rfl
  | x :: h, hx => by
    have ih := sumN_sum (h := h) fun y hy => hx y (List.mem_cons_of_mem _ hy)
    have h0 := hx x (List.mem_cons_self ..)
    have e : sumN (x :: h) = x.toNat + sumN h := rfl
    rw [List.sum_cons, ih, e]
    omega
theorem frOf_zero {xs : List Int} {L : List Row} {h : List Int} (h0 : (frOf xs L h).2.2 = 0) : modB xs (dat L) = true ∧ (topR h).2 = 0 := by
  cases hm : modB xs (dat L) with
  | false => rw [frOf_mod h hm] at h0; simp at h0
  | true =>
    refine ⟨rfl, Classical.byContradiction fun ht => ?_⟩
    rw [frOf_top hm ht] at h0
    exact ht h0
theorem prof_all {h : List Int} (hp : profB h = true) : ∀ x ∈ h, 0 ≤ x ∧ x ≤ 10 := fun x hx => by
  obtain ⟨i, hi, rfl⟩ := List.getElem_of_mem hx
  have := ((profB_iff h).1 hp).2 i hi
  unfold inB at this
  simp only [Bool.and_eq_true, decide_eq_true_eq] at this
  simpa [List.getD, hi] using this

set_option maxRecDepth 100000 in
set_option maxHeartbeats 2000000 in
theorem implIsFreeOver_any (A A' H : Option Addr) (n c m c' k ck : Nat) (xs : List Int) (L : List Row) (h : List Int) (w : World) (hT : Tab w) (hw : 0 < w.heap.size) (hM : ModIn w A n A' m xs L) (hk : k = h.length) (hk1 : k ≤ 1048576) (hH : Rd w H (iv h)) :
    Calls Tryz.prog 31 #[.agg #[.slice A n c, .slice A' m c'], .slice H k ck] w (ResB (isFreeOf xs L h) w) := by
  have HC := Lib.hid (fun W (hb : Below w.heap.size w W) => implFreeRankOver_any A A' H n c m c' k ck xs L h W (hT.below hb hw) (by have := hb.size; omega) (hM.below hb) hk hk1 (hH.below hb))
  have HB0 := Lib.hid ((Below.refl w.heap.size w).alloc (Nat.le_refl _) (.cells #[.slice A n c, .slice A' m c'] 30))
  have hwb : (w.alloc (.cells #[.slice A n c, .slice A' m c'] 30)).heap.size = w.heap.size + 1 := by simp
  have KB := Lib.hid (fun w' (hb : Below (w.heap.size + 1) (w.alloc (.cells #[.slice A n c, .slice A' m c'] 30)) w') => blk2cells (blk_below (blk_new w (.cells #[.slice A n c, .slice A' m c'] 30)) hb (by omega)))
  have HWB := Lib.hid hwb
  have HOF : Hid (isFreeOf xs L h = if (frOf xs L h).2.2 = 0 then ((frOf xs L h).1 * (frOf xs L h).2.1 == (xs.length : Int), 0) else (false, (frOf xs L h).2.2)) := Lib.hid rfl
  have Hn := Lib.hid hM.r.hn
  have hnb := hM.hsm
  have HBD := Lib.hid (frOf_bd xs L h)
  have HGD := Lib.hid (fun (h0 : (frOf xs L h).2.2 = 0) => show (frOf xs L h).2.1 = 2 ^ sumN h ∧ profB h = true ∧ sumN h ≤ 40 from by
    obtain ⟨h1, h2⟩ := frOf_zero h0
    rw [frOf_good h1 h2]
    exact ⟨rfl, (topR_ok h2).1, (topR_ok h2).2.2.2.2⟩)
  have HH := Lib.hid hH
  have HK := Lib.hid hk
  clear hM hk hH hwb hT hw
  generalize frOf xs L h = r at *
  obtain ⟨a, b, cd⟩ := r
  simp only at HBD HOF HGD
  rw [← Hn.out] at HOF
  go_enter Tryz.func31, Tryz.ntmps31
  go_wp2_with fail
  refine (HC.out _ HB0.out).mono ?_
  rintro e w1 ⟨rfl, hb1⟩
  have HB1 := Lib.hid (HB0.out.trans (hb1.mono HB0.out.size))
  obtain ⟨y0, y1, yf0, yf1, ly⟩ := KB.out w1 (show Below (w.heap.size + 1) (w.alloc (.cells #[.slice A n c, .slice A' m c'] 30)) w1 from by have := HWB.out; rw [← this]; exact hb1)
  clear hb1
  by_cases h0 : cd = 0
  · have HE := Lib.hid (HOF.out.trans (if_pos h0))
    obtain ⟨g1, g2, g3⟩ := HGD.out h0
    subst h0
    obtain ⟨a1, a2, b1, b2⟩ := HBD.out
    have hpa := prof_all g2
    have hk16 := ((profB_iff h).1 g2).1
    have hsum := sumN_sum (fun x hx => (hpa x hx).1)
    have HSU := Lib.hid (fun W (hb : Below w.heap.size w W) => sum_any H k ck h W HK.out (by have := HK.out; omega) (fun x hx => ⟨(hpa x hx).1, by have := (hpa x hx).2; omega⟩) (HH.out.below hb))
    rw [hsum] at HSU
    generalize sumN h = sn at *
    subst g1
    have m1 : 0 ≤ a * 2 ^ sn := Int.mul_nonneg a1 b1
    have m2 : a * 2 ^ sn ≤ 18014398509481984 := by
      have := Int.mul_le_mul a2 b2 b1 (by omega)
      omega
    have HVAL : Hid (IntKind.i64.wrap (a * 2 ^ sn) = a * 2 ^ sn) := Lib.hid (by rw [IntKind.wrap_i64]; omega)
    clear hsum hpa g2 hk16
    have HB_0 := Lib.hid (Below.drew (Below.refl w1.heap.size w1))
    go_wp2_with fail
    refine wp_region_held_drew (S := (fun w' => w'.cell? ⟨w.heap.size, 0, none⟩ = some (.slice A n c))) (by kernel_rfl) (by exact y0) (fun hHeld => ?_)
    refine wpAnyH_take (i := 0) (oi := ?or1_0) (v := ?vr1_0) ?hr1_0 (by kernel_rfl) (by kernel_rfl) (by kernel_rfl) ?qr1_0 (Or.inl ⟨?wr1_0, ?yr1_0⟩) (by assumption) ?rr1_0
    case hr1_0 => (simp only [List.getElem?_toArray, List.getElem?_cons_succ, List.getElem?_cons_zero]; rfl)
    case qr1_0 => exact fun _ _ _ h => h
    case wr1_0 => rfl
    case yr1_0 => (intro w hSw; (try dsimp only at hSw); go_simp <;> with_reducible rfl)
    try simp only [Act.put, List.setIfInBounds_toArray, List.set_cons_zero, List.set_cons_succ]
    refine wpAnyH_take (i := 1) (oi := ?or1_1) (v := ?vr1_1) ?hr1_1 (by kernel_rfl) (by kernel_rfl) (by kernel_rfl) ?qr1_1 (Or.inl ⟨?wr1_1, ?yr1_1⟩) (by assumption) ?rr1_1
    case hr1_1 => (simp only [List.getElem?_toArray, List.getElem?_cons_succ, List.getElem?_cons_zero]; rfl)
    case qr1_1 => exact fun _ _ _ h => h
    case wr1_1 => rfl
    case yr1_1 => (intro w hSw; (try dsimp only at hSw); go_simp <;> with_reducible rfl)
    try simp only [Act.put, List.setIfInBounds_toArray, List.set_cons_zero, List.set_cons_succ]
    refine wpAnyH_take (i := 2) (oi := ?or1_2) (v := ?vr1_2) ?hr1_2 (by kernel_rfl) (by kernel_rfl) (by kernel_rfl) ?qr1_2 (Or.inl ⟨?wr1_2, ?yr1_2⟩) (by assumption) ?rr1_2
    case hr1_2 => (simp only [List.getElem?_toArray, List.getElem?_cons_succ, List.getElem?_cons_zero]; rfl)
    case qr1_2 => exact fun _ _ _ h => h
    case wr1_2 => rfl
    case yr1_2 => (intro w hSw; (try dsimp only at hSw); go_simp <;> with_reducible rfl)
    try simp only [Act.put, List.setIfInBounds_toArray, List.set_cons_zero, List.set_cons_succ]
    refine wpAnyH_take (i := 3) (oi := ?or1_3) (v := ?vr1_3) ?hr1_3 (by kernel_rfl) (by kernel_rfl) (by kernel_rfl) ?qr1_3 (Or.inl ⟨?wr1_3, ?yr1_3⟩) (by assumption) ?rr1_3
    case hr1_3 => (simp only [List.getElem?_toArray, List.getElem?_cons_succ, List.getElem?_cons_zero]; rfl)
    case qr1_3 => exact fun _ _ _ h => h
    case wr1_3 => rfl
    case yr1_3 => (intro w hSw; (try dsimp only at hSw); go_simp <;> with_reducible rfl)
    try simp only [Act.put, List.setIfInBounds_toArray, List.set_cons_zero, List.set_cons_succ]
    refine wpAnyH_take (i := 4) (oi := ?or1_4) (v := ?vr1_4) ?hr1_4 (by kernel_rfl) (by kernel_rfl) (by kernel_rfl) ?qr1_4 (Or.inl ⟨?wr1_4, ?yr1_4⟩) (by assumption) ?rr1_4
    case hr1_4 => (simp only [List.getElem?_toArray, List.getElem?_cons_succ, List.getElem?_cons_zero]; rfl)
    case qr1_4 => exact fun _ _ _ h => h
    case wr1_4 => rfl
    case yr1_4 => (intro w hSw; (try dsimp only at hSw); go_simp <;> with_reducible rfl)
    try simp only [Act.put, List.setIfInBounds_toArray, List.set_cons_zero, List.set_cons_succ]
    refine wpAnyH_take (i := 7) (oi := ?or1_7) (v := ?vr1_7) ?hr1_7 (by kernel_rfl) (by kernel_rfl) (by kernel_rfl) ?qr1_7 (Or.inl ⟨?wr1_7, ?yr1_7⟩) (by assumption) ?rr1_7
    case hr1_7 => (simp only [List.getElem?_toArray, List.getElem?_cons_succ, List.getElem?_cons_zero]; rfl)
    case qr1_7 => exact fun _ _ _ h => h
    case wr1_7 => rfl
    case yr1_7 => (intro w hSw; (try dsimp only at hSw); go_simp <;> with_reducible rfl)
    try simp only [Act.put, List.setIfInBounds_toArray, List.set_cons_zero, List.set_cons_succ]
    refine wpAnyH_take (i := 8) (oi := ?or1_8) (v := ?vr1_8) ?hr1_8 (by kernel_rfl) (by kernel_rfl) (by kernel_rfl) ?qr1_8 (Or.inl ⟨?wr1_8, ?yr1_8⟩) (by assumption) ?rr1_8
    case hr1_8 => (simp only [List.getElem?_toArray, List.getElem?_cons_succ, List.getElem?_cons_zero]; rfl)
    case qr1_8 => exact fun _ _ _ h => h
    case wr1_8 => rfl
    case yr1_8 => (intro w hSw; (try dsimp only at hSw); go_simp <;> with_reducible rfl)
    try simp only [Act.put, List.setIfInBounds_toArray, List.set_cons_zero, List.set_cons_succ]
    refine wpAnyH_take (i := 9) (oi := ?or1_9) (v := ?vr1_9) ?hr1_9 (by kernel_rfl) (by kernel_rfl) (by kernel_rfl) ?qr1_9 (Or.inl ⟨?wr1_9, ?yr1_9⟩) (by assumption) ?rr1_9
    case hr1_9 => (simp only [List.getElem?_toArray, List.getElem?_cons_succ, List.getElem?_cons_zero]; rfl)
    case qr1_9 => exact fun _ _ _ h => h
    case wr1_9 => rfl
    case yr1_9 => (intro w hSw; (try dsimp only at hSw); go_simp <;> with_reducible rfl)
    try simp only [Act.put, List.setIfInBounds_toArray, List.set_cons_zero, List.set_cons_succ]
    refine wpAnyH_take (i := 12) (oi := ?or1_12) (v := ?vr1_12) ?hr1_12 (by kernel_rfl) (by kernel_rfl) (by kernel_rfl) ?qr1_12 (Or.inl ⟨?wr1_12, ?yr1_12⟩) (by assumption) ?rr1_12
    case hr1_12 => (simp only [List.getElem?_toArray, List.getElem?_cons_succ, List.getElem?_cons_zero]; rfl)
    case qr1_12 => exact fun _ _ _ h => h
    case wr1_12 => rfl
    case yr1_12 => (intro w hSw; (try dsimp only at hSw); go_simp <;> with_reducible rfl)
    try simp only [Act.put, List.setIfInBounds_toArray, List.set_cons_zero, List.set_cons_succ]
    refine wpAnyH_ready (rs := [5]) (by kernel_rfl) (by simp) ?_
    refine AllReadyH.cons (o := ?or1_5) ?hr1_5 (fun K hK => ?kr1_5) AllReadyH.nil
    case hr1_5 => (simp only [List.getElem?_toArray, List.getElem?_cons_succ, List.getElem?_cons_zero]; rfl)
    go_simp
    go_at_call 63; refine (HSU.out _ HB1.out.drew).mono ?_; rintro e w2 ⟨rfl, rfl⟩
    refine hK.out _ _ (by exact y0) (fun hHeld => ?_)
    clear hK K
    try simp only [Act.put, List.setIfInBounds_toArray, List.set_cons_zero, List.set_cons_succ]
    refine wpAnyH_take (i := 6) (oi := ?or1_6) (v := ?vr1_6) ?hr1_6 (by kernel_rfl) (by kernel_rfl) (by kernel_rfl) ?qr1_6 (Or.inl ⟨?wr1_6, ?yr1_6⟩) (by assumption) ?rr1_6
    case hr1_6 => (simp only [List.getElem?_toArray, List.getElem?_cons_succ, List.getElem?_cons_zero]; rfl)
    case qr1_6 => exact fun _ _ _ h => h
    case wr1_6 => rfl
    case yr1_6 => (intro w hSw; (try dsimp only at hSw); go_simp <;> with_reducible rfl)
    try simp only [Act.put, List.setIfInBounds_toArray, List.set_cons_zero, List.set_cons_succ]
    refine wpAnyH_take (i := 10) (oi := ?or1_10) (v := ?vr1_10) ?hr1_10 (by kernel_rfl) (by kernel_rfl) (by kernel_rfl) ?qr1_10 (Or.inl ⟨?wr1_10, ?yr1_10⟩) (by assumption) ?rr1_10
    case hr1_10 => (simp only [List.getElem?_toArray, List.getElem?_cons_succ, List.getElem?_cons_zero]; rfl)
    case qr1_10 => exact fun _ _ _ h => h
    case wr1_10 => rfl
    case yr1_10 => (intro w hSw; (try dsimp only at hSw); go_simp <;> with_reducible rfl)
    try simp only [Act.put, List.setIfInBounds_toArray, List.set_cons_zero, List.set_cons_succ]
    refine wpAnyH_take (i := 11) (oi := ?or1_11) (v := ?vr1_11) ?hr1_11 (by kernel_rfl) (by kernel_rfl) (by kernel_rfl) ?qr1_11 (Or.inl ⟨?wr1_11, ?yr1_11⟩) (by assumption) ?rr1_11
    case hr1_11 => (simp only [List.getElem?_toArray, List.getElem?_cons_succ, List.getElem?_cons_zero]; rfl)
    case qr1_11 => exact fun _ _ _ h => h
    case wr1_11 => rfl
    case yr1_11 => (intro w hSw; (try dsimp only at hSw); go_simp <;> with_reducible rfl)
    try simp only [Act.put, List.setIfInBounds_toArray, List.set_cons_zero, List.set_cons_succ]
    refine wpAnyH_take (i := 13) (oi := ?or1_13) (v := ?vr1_13) ?hr1_13 (by kernel_rfl) (by kernel_rfl) (by kernel_rfl) ?qr1_13 (Or.inl ⟨?wr1_13, ?yr1_13⟩) (by assumption) ?rr1_13
    case hr1_13 => (simp only [List.getElem?_toArray, List.getElem?_cons_succ, List.getElem?_cons_zero]; rfl)
    case qr1_13 => exact fun _ _ _ h => h
    case wr1_13 => rfl
    case yr1_13 => (intro w hSw; (try dsimp only at hSw); go_simp <;> with_reducible rfl)
    try simp only [Act.put, List.setIfInBounds_toArray, List.set_cons_zero, List.set_cons_succ]
    refine wpAnyH_take (i := 14) (oi := ?or1_14) (v := ?vr1_14) ?hr1_14 (by kernel_rfl) (by kernel_rfl) (by kernel_rfl) ?qr1_14 (Or.inl ⟨?wr1_14, ?yr1_14⟩) (by assumption) ?rr1_14
    case hr1_14 => (simp only [List.getElem?_toArray, List.getElem?_cons_succ, List.getElem?_cons_zero]; rfl)
    case qr1_14 => exact fun _ _ _ h => h
    case wr1_14 => rfl
    case yr1_14 => (intro w hSw; (try dsimp only at hSw); go_simp <;> with_reducible rfl)
    try simp only [Act.put, List.setIfInBounds_toArray, List.set_cons_zero, List.set_cons_succ]
    refine wpAnyH_done (by kernel_rfl) ?_ _
    go_wp2_with fail
    go_ret2
    exact ⟨by rw [HE.out]; exact congrArg (fun z : Int => Ending.returned (.tuple #[.bool (z == (n : Int)), .int .i64 0])) HVAL.out, HB1.out.drew⟩
  · have HE := Lib.hid (HOF.out.trans (if_neg h0))
    have h0b : (cd == 0) = false := by simpa using h0
    clear h0
    go_wp2_with fail
    refine wp_region_held_drew (S := (fun w' => w'.cell? ⟨w.heap.size, 0, none⟩ = some (.slice A n c))) (by kernel_rfl) (by exact y0) (fun hHeld => ?_)
    refine wpAnyH_take (i := 0) (oi := ?or2_0) (v := ?vr2_0) ?hr2_0 (by kernel_rfl) (by kernel_rfl) (by kernel_rfl) ?qr2_0 (Or.inl ⟨?wr2_0, ?yr2_0⟩) (by assumption) ?rr2_0
    case hr2_0 => (simp only [List.getElem?_toArray, List.getElem?_cons_succ, List.getElem?_cons_zero]; rfl)
    case qr2_0 => exact fun _ _ _ h => h
    case wr2_0 => rfl
    case yr2_0 => (intro w hSw; (try dsimp only at hSw); go_simp <;> with_reducible rfl)
    try simp only [Act.put, List.setIfInBounds_toArray, List.set_cons_zero, List.set_cons_succ]
    refine wpAnyH_take (i := 1) (oi := ?or2_1) (v := ?vr2_1) ?hr2_1 (by kernel_rfl) (by kernel_rfl) (by kernel_rfl) ?qr2_1 (Or.inl ⟨?wr2_1, ?yr2_1⟩) (by assumption) ?rr2_1
    case hr2_1 => (simp only [List.getElem?_toArray, List.getElem?_cons_succ, List.getElem?_cons_zero]; rfl)
    case qr2_1 => exact fun _ _ _ h => h
    case wr2_1 => rfl
    case yr2_1 => (intro w hSw; (try dsimp only at hSw); go_simp <;> with_reducible rfl)
    try simp only [Act.put, List.setIfInBounds_toArray, List.set_cons_zero, List.set_cons_succ]
    refine wpAnyH_take (i := 2) (oi := ?or2_2) (v := ?vr2_2) ?hr2_2 (by kernel_rfl) (by kernel_rfl) (by kernel_rfl) ?qr2_2 (Or.inl ⟨?wr2_2, ?yr2_2⟩) (by assumption) ?rr2_2
    case hr2_2 => (simp only [List.getElem?_toArray, List.getElem?_cons_succ, List.getElem?_cons_zero]; rfl)
    case qr2_2 => exact fun _ _ _ h => h
    case wr2_2 => rfl
    case yr2_2 => (intro w hSw; (try dsimp only at hSw); go_simp <;> with_reducible rfl)
    try simp only [Act.put, List.setIfInBounds_toArray, List.set_cons_zero, List.set_cons_succ]
    refine wpAnyH_take (i := 3) (oi := ?or2_3) (v := undef) ?hr2_3 (by kernel_rfl) (by kernel_rfl) (by kernel_rfl) ?qr2_3 (Or.inr ⟨?wr2_3, rfl⟩) (by assumption) ?rr2_3
    case hr2_3 => (simp only [List.getElem?_toArray, List.getElem?_cons_succ, List.getElem?_cons_zero]; rfl)
    case qr2_3 => exact fun _ _ _ h => h
    case wr2_3 => rfl
    try simp only [Act.put, List.setIfInBounds_toArray, List.set_cons_zero, List.set_cons_succ]
    refine wpAnyH_take (i := 4) (oi := ?or2_4) (v := undef) ?hr2_4 (by kernel_rfl) (by kernel_rfl) (by kernel_rfl) ?qr2_4 (Or.inr ⟨?wr2_4, rfl⟩) (by assumption) ?rr2_4
    case hr2_4 => (simp only [List.getElem?_toArray, List.getElem?_cons_succ, List.getElem?_cons_zero]; rfl)
    case qr2_4 => exact fun _ _ _ h => h
    case wr2_4 => rfl
    try simp only [Act.put, List.setIfInBounds_toArray, List.set_cons_zero, List.set_cons_succ]
    refine wpAnyH_take (i := 5) (oi := ?or2_5) (v := undef) ?hr2_5 (by kernel_rfl) (by kernel_rfl) (by kernel_rfl) ?qr2_5 (Or.inr ⟨?wr2_5, rfl⟩) (by assumption) ?rr2_5
    case hr2_5 => (simp only [List.getElem?_toArray, List.getElem?_cons_succ, List.getElem?_cons_zero]; rfl)
    case qr2_5 => exact fun _ _ _ h => h
    case wr2_5 => rfl
    try simp only [Act.put, List.setIfInBounds_toArray, List.set_cons_zero, List.set_cons_succ]
    refine wpAnyH_take (i := 6) (oi := ?or2_6) (v := undef) ?hr2_6 (by kernel_rfl) (by kernel_rfl) (by kernel_rfl) ?qr2_6 (Or.inr ⟨?wr2_6, rfl⟩) (by assumption) ?rr2_6
    case hr2_6 => (simp only [List.getElem?_toArray, List.getElem?_cons_succ, List.getElem?_cons_zero]; rfl)
    case qr2_6 => exact fun _ _ _ h => h
    case wr2_6 => rfl
    try simp only [Act.put, List.setIfInBounds_toArray, List.set_cons_zero, List.set_cons_succ]
    refine wpAnyH_take (i := 7) (oi := ?or2_7) (v := undef) ?hr2_7 (by kernel_rfl) (by kernel_rfl) (by kernel_rfl) ?qr2_7 (Or.inr ⟨?wr2_7, rfl⟩) (by assumption) ?rr2_7
    case hr2_7 => (simp only [List.getElem?_toArray, List.getElem?_cons_succ, List.getElem?_cons_zero]; rfl)
    case qr2_7 => exact fun _ _ _ h => h
    case wr2_7 => rfl
    try simp only [Act.put, List.setIfInBounds_toArray, List.set_cons_zero, List.set_cons_succ]
    refine wpAnyH_take (i := 8) (oi := ?or2_8) (v := undef) ?hr2_8 (by kernel_rfl) (by kernel_rfl) (by kernel_rfl) ?qr2_8 (Or.inr ⟨?wr2_8, rfl⟩) (by assumption) ?rr2_8
    case hr2_8 => (simp only [List.getElem?_toArray, List.getElem?_cons_succ, List.getElem?_cons_zero]; rfl)
    case qr2_8 => exact fun _ _ _ h => h
    case wr2_8 => rfl
    try simp only [Act.put, List.setIfInBounds_toArray, List.set_cons_zero, List.set_cons_succ]
    refine wpAnyH_take (i := 9) (oi := ?or2_9) (v := undef) ?hr2_9 (by kernel_rfl) (by kernel_rfl) (by kernel_rfl) ?qr2_9 (Or.inr ⟨?wr2_9, rfl⟩) (by assumption) ?rr2_9
    case hr2_9 => (simp only [List.getElem?_toArray, List.getElem?_cons_succ, List.getElem?_cons_zero]; rfl)
    case qr2_9 => exact fun _ _ _ h => h
    case wr2_9 => rfl
    try simp only [Act.put, List.setIfInBounds_toArray, List.set_cons_zero, List.set_cons_succ]
    refine wpAnyH_take (i := 10) (oi := ?or2_10) (v := undef) ?hr2_10 (by kernel_rfl) (by kernel_rfl) (by kernel_rfl) ?qr2_10 (Or.inr ⟨?wr2_10, rfl⟩) (by assumption) ?rr2_10
    case hr2_10 => (simp only [List.getElem?_toArray, List.getElem?_cons_succ, List.getElem?_cons_zero]; rfl)
    case qr2_10 => exact fun _ _ _ h => h
    case wr2_10 => rfl
    try simp only [Act.put, List.setIfInBounds_toArray, List.set_cons_zero, List.set_cons_succ]
    refine wpAnyH_take (i := 11) (oi := ?or2_11) (v := ?vr2_11) ?hr2_11 (by kernel_rfl) (by kernel_rfl) (by kernel_rfl) ?qr2_11 (Or.inl ⟨?wr2_11, ?yr2_11⟩) (by assumption) ?rr2_11
    case hr2_11 => (simp only [List.getElem?_toArray, List.getElem?_cons_succ, List.getElem?_cons_zero]; rfl)
    case qr2_11 => exact fun _ _ _ h => h
    case wr2_11 => rfl
    case yr2_11 => (intro w hSw; (try dsimp only at hSw); go_simp <;> with_reducible rfl)
    try simp only [Act.put, List.setIfInBounds_toArray, List.set_cons_zero, List.set_cons_succ]
    refine wpAnyH_take (i := 12) (oi := ?or2_12) (v := ?vr2_12) ?hr2_12 (by kernel_rfl) (by kernel_rfl) (by kernel_rfl) ?qr2_12 (Or.inl ⟨?wr2_12, ?yr2_12⟩) (by assumption) ?rr2_12
    case hr2_12 => (simp only [List.getElem?_toArray, List.getElem?_cons_succ, List.getElem?_cons_zero]; rfl)
    case qr2_12 => exact fun _ _ _ h => h
    case wr2_12 => rfl
    case yr2_12 => (intro w hSw; (try dsimp only at hSw); go_simp <;> with_reducible rfl)
    try simp only [Act.put, List.setIfInBounds_toArray, List.set_cons_zero, List.set_cons_succ]
    refine wpAnyH_take (i := 13) (oi := ?or2_13) (v := ?vr2_13) ?hr2_13 (by kernel_rfl) (by kernel_rfl) (by kernel_rfl) ?qr2_13 (Or.inl ⟨?wr2_13, ?yr2_13⟩) (by assumption) ?rr2_13
    case hr2_13 => (simp only [List.getElem?_toArray, List.getElem?_cons_succ, List.getElem?_cons_zero]; rfl)
    case qr2_13 => exact fun _ _ _ h => h
    case wr2_13 => rfl
    case yr2_13 => (intro w hSw; (try dsimp only at hSw); go_simp <;> with_reducible rfl)
    try simp only [Act.put, List.setIfInBounds_toArray, List.set_cons_zero, List.set_cons_succ]
    refine wpAnyH_take (i := 14) (oi := ?or2_14) (v := ?vr2_14) ?hr2_14 (by kernel_rfl) (by kernel_rfl) (by kernel_rfl) ?qr2_14 (Or.inl ⟨?wr2_14, ?yr2_14⟩) (by assumption) ?rr2_14
    case hr2_14 => (simp only [List.getElem?_toArray, List.getElem?_cons_succ, List.getElem?_cons_zero]; rfl)
    case qr2_14 => exact fun _ _ _ h => h
    case wr2_14 => rfl
    case yr2_14 => (intro w hSw; (try dsimp only at hSw); go_simp <;> with_reducible rfl)
    try simp only [Act.put, List.setIfInBounds_toArray, List.set_cons_zero, List.set_cons_succ]
    refine wpAnyH_done (by kernel_rfl) ?_ _
    go_wp2_with fail
    go_ret2
    exact ⟨by rw [HE.out]; rfl, HB1.out.drew⟩
end Go.Proofs.YtdkmdmpaflgfaaaGreatDoor

namespace Go.Proofs.YtdkmdmpaflgfaaaGreatDoor
open Go.RowKit

noncomputable def margolisCountsFOf (xs : List Int) (L : List Row) (s t : Int) : List Int × Int := margOf xs L s t
noncomputable def hasNoMargolisFOf (xs : List Int) (L : List Row) (s t : Int) : Bool × Int := hasNoOf xs L s t
noncomputable def freeRankOverFOf (xs : List Int) (L : List Row) (h : List Int) : Int × Int := ((frOf xs L h).1, (frOf xs L h).2.2)
noncomputable def isFreeOverFOf (xs : List Int) (L : List Row) (h : List Int) : Bool × Int := isFreeOf xs L h
theorem margolisCountsFOf_dat {xs : List Int} {L M : List Row} {s t : Int} (h : dat M = dat L) : margolisCountsFOf xs M s t = margolisCountsFOf xs L s t := margOf_dat h s t
theorem hasNoMargolisFOf_dat {xs : List Int} {L M : List Row} {s t : Int} (h : dat M = dat L) : hasNoMargolisFOf xs M s t = hasNoMargolisFOf xs L s t := hasNoOf_dat h s t
theorem freeRankOverFOf_dat {xs : List Int} {L M : List Row} {h : List Int} (e : dat M = dat L) : freeRankOverFOf xs M h = freeRankOverFOf xs L h := by unfold freeRankOverFOf; rw [frOf_dat e]
theorem isFreeOverFOf_dat {xs : List Int} {L M : List Row} {h : List Int} (e : dat M = dat L) : isFreeOverFOf xs M h = isFreeOverFOf xs L h := by unfold isFreeOverFOf isFreeOf; rw [frOf_dat e]
theorem margolisCountsFOf_len (xs : List Int) (L : List Row) (s t : Int) : (margolisCountsFOf xs L s t).1.length ≤ 1000 := margOf_len xs L s t
theorem specMargolisCountsF_any (A0 : Option Addr) (n0 c0 : Nat) (xs0 : List Int) (B0 : Option Addr) (m0 d0 : Nat) (L0 : List Row) (a1 : Int) (a2 : Int) (w : World) (hn0 : n0 = xs0.length) (hs0 : n0 ≤ 1048576) (hR0 : Rd w A0 (iv xs0)) (hm0 : m0 = L0.length) (ht0 : m0 ≤ 1048576) (hl0 : ∀ i, i < L0.length → (rg L0 i).xs.length ≤ 1048576) (hQ0 : RdR w B0 L0) :
    Calls Tryz.prog 20 #[.agg #[.slice A0 n0 c0, .slice B0 m0 d0], .int .i64 a1, .int .i64 a2] w (ResS (margolisCountsFOf xs0 L0 a1 a2) w) := specMargolisCounts_any A0 B0 n0 c0 m0 d0 xs0 L0 a1 a2 w ⟨⟨hn0, hR0, hm0, ht0, hQ0⟩, hs0, hl0⟩
theorem implMargolisCountsF_any (A0 : Option Addr) (n0 c0 : Nat) (xs0 : List Int) (B0 : Option Addr) (m0 d0 : Nat) (L0 : List Row) (a1 : Int) (a2 : Int) (w : World) (hT : Tab w) (hw : 0 < w.heap.size) (hn0 : n0 = xs0.length) (hs0 : n0 ≤ 1048576) (hR0 : Rd w A0 (iv xs0)) (hm0 : m0 = L0.length) (ht0 : m0 ≤ 1048576) (hl0 : ∀ i, i < L0.length → (rg L0 i).xs.length ≤ 1048576) (hQ0 : RdR w B0 L0) :
    Calls Tryz.prog 21 #[.agg #[.slice A0 n0 c0, .slice B0 m0 d0], .int .i64 a1, .int .i64 a2] w (ResS (margolisCountsFOf xs0 L0 a1 a2) w) := implMargolisCounts_any A0 B0 n0 c0 m0 d0 xs0 L0 a1 a2 w hT hw ⟨⟨hn0, hR0, hm0, ht0, hQ0⟩, hs0, hl0⟩
theorem specHasNoMargolisF_any (A0 : Option Addr) (n0 c0 : Nat) (xs0 : List Int) (B0 : Option Addr) (m0 d0 : Nat) (L0 : List Row) (a1 : Int) (a2 : Int) (w : World) (hn0 : n0 = xs0.length) (hs0 : n0 ≤ 1048576) (hR0 : Rd w A0 (iv xs0)) (hm0 : m0 = L0.length) (ht0 : m0 ≤ 1048576) (hl0 : ∀ i, i < L0.length → (rg L0 i).xs.length ≤ 1048576) (hQ0 : RdR w B0 L0) :
    Calls Tryz.prog 25 #[.agg #[.slice A0 n0 c0, .slice B0 m0 d0], .int .i64 a1, .int .i64 a2] w (ResB (hasNoMargolisFOf xs0 L0 a1 a2) w) := specHasNoMargolis_any A0 B0 n0 c0 m0 d0 xs0 L0 a1 a2 w ⟨⟨hn0, hR0, hm0, ht0, hQ0⟩, hs0, hl0⟩
theorem implHasNoMargolisF_any (A0 : Option Addr) (n0 c0 : Nat) (xs0 : List Int) (B0 : Option Addr) (m0 d0 : Nat) (L0 : List Row) (a1 : Int) (a2 : Int) (w : World) (hT : Tab w) (hw : 0 < w.heap.size) (hn0 : n0 = xs0.length) (hs0 : n0 ≤ 1048576) (hR0 : Rd w A0 (iv xs0)) (hm0 : m0 = L0.length) (ht0 : m0 ≤ 1048576) (hl0 : ∀ i, i < L0.length → (rg L0 i).xs.length ≤ 1048576) (hQ0 : RdR w B0 L0) :
    Calls Tryz.prog 26 #[.agg #[.slice A0 n0 c0, .slice B0 m0 d0], .int .i64 a1, .int .i64 a2] w (ResB (hasNoMargolisFOf xs0 L0 a1 a2) w) := implHasNoMargolis_any A0 B0 n0 c0 m0 d0 xs0 L0 a1 a2 w hT hw ⟨⟨hn0, hR0, hm0, ht0, hQ0⟩, hs0, hl0⟩
theorem specFreeRankOverF_any (A0 : Option Addr) (n0 c0 : Nat) (xs0 : List Int) (B0 : Option Addr) (m0 d0 : Nat) (L0 : List Row) (A1 : Option Addr) (n1 c1 : Nat) (xs1 : List Int) (w : World) (hn0 : n0 = xs0.length) (hs0 : n0 ≤ 1048576) (hR0 : Rd w A0 (iv xs0)) (hm0 : m0 = L0.length) (ht0 : m0 ≤ 1048576) (hl0 : ∀ i, i < L0.length → (rg L0 i).xs.length ≤ 1048576) (hQ0 : RdR w B0 L0) (hn1 : n1 = xs1.length) (hs1 : n1 ≤ 1048576) (hR1 : Rd w A1 (iv xs1)) :
    Calls Tryz.prog 27 #[.agg #[.slice A0 n0 c0, .slice B0 m0 d0], .slice A1 n1 c1] w (ResI (freeRankOverFOf xs0 L0 xs1) w) := specFreeRankOver_any A0 B0 A1 n0 c0 m0 d0 n1 c1 xs0 L0 xs1 w ⟨⟨hn0, hR0, hm0, ht0, hQ0⟩, hs0, hl0⟩ hn1 hs1 hR1
theorem implFreeRankOverF_any (A0 : Option Addr) (n0 c0 : Nat) (xs0 : List Int) (B0 : Option Addr) (m0 d0 : Nat) (L0 : List Row) (A1 : Option Addr) (n1 c1 : Nat) (xs1 : List Int) (w : World) (hT : Tab w) (hw : 0 < w.heap.size) (hn0 : n0 = xs0.length) (hs0 : n0 ≤ 1048576) (hR0 : Rd w A0 (iv xs0)) (hm0 : m0 = L0.length) (ht0 : m0 ≤ 1048576) (hl0 : ∀ i, i < L0.length → (rg L0 i).xs.length ≤ 1048576) (hQ0 : RdR w B0 L0) (hn1 : n1 = xs1.length) (hs1 : n1 ≤ 1048576) (hR1 : Rd w A1 (iv xs1)) :
    Calls Tryz.prog 29 #[.agg #[.slice A0 n0 c0, .slice B0 m0 d0], .slice A1 n1 c1] w (ResI (freeRankOverFOf xs0 L0 xs1) w) := implFreeRankOver_any A0 B0 A1 n0 c0 m0 d0 n1 c1 xs0 L0 xs1 w hT hw ⟨⟨hn0, hR0, hm0, ht0, hQ0⟩, hs0, hl0⟩ hn1 hs1 hR1
theorem specIsFreeOverF_any (A0 : Option Addr) (n0 c0 : Nat) (xs0 : List Int) (B0 : Option Addr) (m0 d0 : Nat) (L0 : List Row) (A1 : Option Addr) (n1 c1 : Nat) (xs1 : List Int) (w : World) (hn0 : n0 = xs0.length) (hs0 : n0 ≤ 1048576) (hR0 : Rd w A0 (iv xs0)) (hm0 : m0 = L0.length) (ht0 : m0 ≤ 1048576) (hl0 : ∀ i, i < L0.length → (rg L0 i).xs.length ≤ 1048576) (hQ0 : RdR w B0 L0) (hn1 : n1 = xs1.length) (hs1 : n1 ≤ 1048576) (hR1 : Rd w A1 (iv xs1)) :
    Calls Tryz.prog 30 #[.agg #[.slice A0 n0 c0, .slice B0 m0 d0], .slice A1 n1 c1] w (ResB (isFreeOverFOf xs0 L0 xs1) w) := specIsFreeOver_any A0 B0 A1 n0 c0 m0 d0 n1 c1 xs0 L0 xs1 w ⟨⟨hn0, hR0, hm0, ht0, hQ0⟩, hs0, hl0⟩ hn1 hs1 hR1
theorem implIsFreeOverF_any (A0 : Option Addr) (n0 c0 : Nat) (xs0 : List Int) (B0 : Option Addr) (m0 d0 : Nat) (L0 : List Row) (A1 : Option Addr) (n1 c1 : Nat) (xs1 : List Int) (w : World) (hT : Tab w) (hw : 0 < w.heap.size) (hn0 : n0 = xs0.length) (hs0 : n0 ≤ 1048576) (hR0 : Rd w A0 (iv xs0)) (hm0 : m0 = L0.length) (ht0 : m0 ≤ 1048576) (hl0 : ∀ i, i < L0.length → (rg L0 i).xs.length ≤ 1048576) (hQ0 : RdR w B0 L0) (hn1 : n1 = xs1.length) (hs1 : n1 ≤ 1048576) (hR1 : Rd w A1 (iv xs1)) :
    Calls Tryz.prog 31 #[.agg #[.slice A0 n0 c0, .slice B0 m0 d0], .slice A1 n1 c1] w (ResB (isFreeOverFOf xs0 L0 xs1) w) := implIsFreeOver_any A0 B0 A1 n0 c0 m0 d0 n1 c1 xs0 L0 xs1 w hT hw ⟨⟨hn0, hR0, hm0, ht0, hQ0⟩, hs0, hl0⟩ hn1 hs1 hR1
end Go.Proofs.YtdkmdmpaflgfaaaGreatDoor

namespace Go.Proofs.YtdkmdmpaflgfaaaGreatDoor
open Go.RowKit

set_option maxRecDepth 100000 in
set_option maxHeartbeats 8000000 in
theorem lawMargolisCountsF_any (A0 : Option Addr) (n0 c0 : Nat) (xs0 : List Int) (B0 : Option Addr) (m0 d0 : Nat) (L0 : List Row) (a1 : Int) (a2 : Int) (w : World) (hT : Tab w) (hw : 0 < w.heap.size) (hn0 : n0 = xs0.length) (hs0 : n0 ≤ 9223372036854775807) (hR0 : Rd w A0 (iv xs0)) (hm0 : m0 = L0.length) (ht0 : m0 ≤ 9223372036854775807) (hl0 : ∀ i, i < L0.length → (rg L0 i).xs.length ≤ 9223372036854775807) (hQ0 : RdR w B0 L0) :
    Calls Tryz.prog 4 #[.agg #[.slice A0 n0 c0, .slice B0 m0 d0], .int .i64 a1, .int .i64 a2] w fun e w' => e = .returned (.bool true) ∧ Below w.heap.size w w' := by
  have hI := (Inw.start w).allocBox #[.slice A0 n0 c0, .slice B0 m0 d0] 25
  have I0 := Lib.hid hI
  clear hI
  have HT := Lib.hid hT
  clear hT
  have Hn0 := Lib.hid hn0
  have HR0 := Lib.hid hR0
  have Hm0 := Lib.hid hm0
  have HL0 := Lib.hid hl0
  have HQ0 := Lib.hid hQ0
  clear hn0 hR0 hm0 hl0 hQ0
  go_enter Tryz.func4, Tryz.ntmps4
  go_wp2_with fail
  refine (szModule_any A0 B0 n0 c0 m0 d0 L0 (1048576) _ hs0 Hm0.out ht0 HL0.out (by omega) (by omega) (HQ0.out.below I0.out.bel)).mono ?_
  rintro e w1 ⟨z0, rfl, hz, hb⟩
  have I1 := Lib.hid (I0.out.step hb)
  clear hb
  obtain ⟨u_a0_1, v_a0_1, x_a0_1, y_a0_1, z_a0_1⟩ := blk2cells (I1.out.box 0 rfl)
  rcases hz with rfl | ⟨hz0, hy0⟩
  · go_wp2_with fail
    go_ret
    exact ⟨rfl, I1.out.bel⟩
  have hi0 : ¬ z0 < 0 := by omega
  have hk0 : tot L0 ≤ 1048576 := by omega
  have HLL0 := Lib.hid (fun i (hi : i < L0.length) => Nat.le_trans (len_le_tot hi) hk0)
  have HTO0 := Lib.hid (fun W (hb : Below w.heap.size w W) => toModule_any A0 B0 n0 c0 m0 d0 xs0 L0 W Hn0.out (by omega) (HR0.out.below hb) Hm0.out (by omega) HLL0.out (HQ0.out.below hb))
  obtain ⟨rr, hrr⟩ : ∃ rr, margolisCountsFOf xs0 L0 a1 a2 = rr := ⟨_, rfl⟩
  have hlen := margolisCountsFOf_len xs0 L0 a1 a2
  rw [hrr] at hlen
  have HDD := Lib.hid (fun (M0 : List Row) (e0 : dat M0 = dat L0) => (margolisCountsFOf_dat e0).trans hrr)
  clear hrr
  have hnb0 : n0 ≤ 1048576 := by omega
  have hmb0 : m0 ≤ 1048576 := by omega
  have HSP := Lib.hid (fun (W : World) (C0 : Option Addr) (r0 : Rd W C0 (iv xs0)) (E0 : Option Addr) (M0 : List Row) (e0 : dat M0 = dat L0) (q0 : RdR W E0 M0) => show Calls Tryz.prog 20 #[.agg #[.slice C0 n0 n0, .slice E0 m0 m0], .int .i64 a1, .int .i64 a2] W (ResS rr W) from by
    have h : Calls Tryz.prog 20 #[.agg #[.slice C0 n0 n0, .slice E0 m0 m0], .int .i64 a1, .int .i64 a2] W (ResS (margolisCountsFOf xs0 M0 a1 a2) W) := specMargolisCountsF_any C0 n0 n0 xs0 E0 m0 m0 M0 a1 a2 W Hn0.out (by omega) r0 (by rw [Hm0.out, (dat_xs e0).1]) (by omega) (by intro i hi; rw [(dat_xs e0).2 i]; exact HLL0.out i (by rw [← (dat_xs e0).1]; exact hi)) q0
    rw [HDD.out M0 e0] at h
    exact h)
  have HIM := Lib.hid (fun (W : World) (tb : Tab W) (tw : 0 < W.heap.size) (C0 : Option Addr) (r0 : Rd W C0 (iv xs0)) (E0 : Option Addr) (M0 : List Row) (e0 : dat M0 = dat L0) (q0 : RdR W E0 M0) => show Calls Tryz.prog 21 #[.agg #[.slice C0 n0 n0, .slice E0 m0 m0], .int .i64 a1, .int .i64 a2] W (ResS rr W) from by
    have h : Calls Tryz.prog 21 #[.agg #[.slice C0 n0 n0, .slice E0 m0 m0], .int .i64 a1, .int .i64 a2] W (ResS (margolisCountsFOf xs0 M0 a1 a2) W) := implMargolisCountsF_any C0 n0 n0 xs0 E0 m0 m0 M0 a1 a2 W tb tw Hn0.out (by omega) r0 (by rw [Hm0.out, (dat_xs e0).1]) (by omega) (by intro i hi; rw [(dat_xs e0).2 i]; exact HLL0.out i (by rw [← (dat_xs e0).1]; exact hi)) q0
    rw [HDD.out M0 e0] at h
    exact h)
  go_wp2_with fail
  clear hz0 hy0 hi0 hs0 ht0
  refine (HTO0.out _ I1.out.bel).mono ?_
  rintro e w2 ⟨gs0, hs0, Ms0, rfl, hd, ho, hb⟩
  have I2 := Lib.hid (I1.out.pushMod hb ho)
  have HDs0 := Lib.hid hd
  clear hd
  clear ho hb
  clear u_a0_1 v_a0_1 x_a0_1 y_a0_1 z_a0_1
  obtain ⟨u_a0_2, v_a0_2, x_a0_2, y_a0_2, z_a0_2⟩ := blk2cells (I2.out.box 1 rfl)
  go_wp2_with fail
  refine (HSP.out _ _ (owns_Rd (by have h := (I2.out.mod 0 rfl).deg; rw [← Hn0.out] at h; exact h)) _ _ HDs0.out ((I2.out.mod 0 rfl).act.rd (by rw [Hm0.out, (dat_xs HDs0.out).1]))).mono ?_
  rintro e w3 ⟨vs, rfl, ho, hb⟩
  have I3 := Lib.hid (I2.out.pushOwn hb ho)
  clear ho hb
  obtain ⟨As, ks, rfl, _, _, _⟩ := owns_shape (I3.out.own 0 rfl)
  clear u_a0_2 v_a0_2 x_a0_2 y_a0_2 z_a0_2
  obtain ⟨u_a0_3, v_a0_3, x_a0_3, y_a0_3, z_a0_3⟩ := blk2cells (I3.out.box 2 rfl)
  go_wp2_with fail
  refine (HTO0.out _ I3.out.bel).mono ?_
  rintro e w4 ⟨gx0, hx0, Mx0, rfl, hd, ho, hb⟩
  have I4 := Lib.hid (I3.out.pushMod hb ho)
  have HDx0 := Lib.hid hd
  clear hd
  clear ho hb
  clear u_a0_3 v_a0_3 x_a0_3 y_a0_3 z_a0_3
  obtain ⟨u_a0_4, v_a0_4, x_a0_4, y_a0_4, z_a0_4⟩ := blk2cells (I4.out.box 3 rfl)
  go_wp2_with fail
  have hI := I4.out.allocBox #[.slice (some ⟨gx0, 0, none⟩) n0 n0, .slice (some ⟨hx0, 0, none⟩) m0 m0] 30
  refine (HIM.out _ (HT.out.below hI.bel hw) (by have := hI.size; omega) _ (owns_Rd (by have h := (hI.mod 1 rfl).deg; rw [← Hn0.out] at h; exact h)) _ _ HDx0.out ((hI.mod 1 rfl).act.rd (by rw [Hm0.out, (dat_xs HDx0.out).1]))).mono ?_
  rintro e w5 ⟨vg, rfl, ho, hb⟩
  have I5 := Lib.hid (hI.pushOwn hb ho)
  clear ho hb
  obtain ⟨Ag, kg, rfl, _, _, _⟩ := owns_shape (I5.out.own 0 rfl)
  clear hI
  clear u_a0_4 v_a0_4 x_a0_4 y_a0_4 z_a0_4
  obtain ⟨u_a0_5, v_a0_5, x_a0_5, y_a0_5, z_a0_5⟩ := blk2cells (I5.out.box 5 rfl)
  obtain ⟨u_b0_5, v_b0_5, x_b0_5, y_b0_5, z_b0_5⟩ := blk2cells (I5.out.box 1 rfl)
  go_wp2_with fail
  refine (eqIntsB_any _ _ _ _ _ rr.1 _ rfl (by omega) (owns_Rd (I5.out.own 0 rfl)) (owns_Rd (I5.out.own 3 rfl))).mono ?_
  rintro e w6 ⟨rfl, hb⟩
  have I6 := Lib.hid (I5.out.step hb)
  clear hb
  clear u_a0_5 v_a0_5 x_a0_5 y_a0_5 z_a0_5 u_b0_5 v_b0_5 x_b0_5 y_b0_5 z_b0_5
  obtain ⟨u_a0_6, v_a0_6, x_a0_6, y_a0_6, z_a0_6⟩ := blk2cells (I6.out.box 5 rfl)
  obtain ⟨u_b0_6, v_b0_6, x_b0_6, y_b0_6, z_b0_6⟩ := blk2cells (I6.out.box 1 rfl)
  go_wp2_with fail
  have KS := Lib.hid (fun w' (hb : Below w6.heap.size w6 w') => show w'.cell? ⟨w4.heap.size, 0, none⟩ = some (.slice (some ⟨gx0, 0, none⟩) n0 n0) ∧ w'.cell? ⟨w4.heap.size, 1, none⟩ = some (.slice (some ⟨hx0, 0, none⟩) m0 m0) ∧ w'.cell? ⟨w.heap.size, 0, none⟩ = some (.slice A0 n0 c0) ∧ w'.cell? ⟨w.heap.size, 1, none⟩ = some (.slice B0 m0 d0) from by
    have J := I6.out.step hb
    exact ⟨(blk2cells (J.box 1 rfl)).1, (blk2cells (J.box 1 rfl)).2.1, (blk2cells (J.box 5 rfl)).1, (blk2cells (J.box 5 rfl)).2.1⟩)
  have HB_0 := Lib.hid (Below.drew (Below.refl w6.heap.size w6))
  have I7 := Lib.hid I6.out.drew
  clear u_a0_6 v_a0_6 x_a0_6 y_a0_6 z_a0_6 u_b0_6 v_b0_6 x_b0_6 y_b0_6 z_b0_6
  go_region_held3 (fun w' => w'.cell? ⟨w4.heap.size, 0, none⟩ = some (.slice (some ⟨gx0, 0, none⟩) n0 n0) ∧ w'.cell? ⟨w4.heap.size, 1, none⟩ = some (.slice (some ⟨hx0, 0, none⟩) m0 m0) ∧ w'.cell? ⟨w.heap.size, 0, none⟩ = some (.slice A0 n0 c0) ∧ w'.cell? ⟨w.heap.size, 1, none⟩ = some (.slice B0 m0 d0))
      (first | exact KS.out _ HB_0.out | exact KS.out _ HB_1.out | exact KS.out _ HB_2.out)
      (first
        | (go_at_call 13; (with_reducible refine (HTO0.out _ I7.out.bel).mono ?_); (rintro e w7 ⟨ge0, he0, Me0, rfl, hd, ho, hb⟩; have I8 := Lib.hid (I7.out.pushMod hb ho); have HDe0 := Lib.hid hd; have HB_1 := Lib.hid (HB_0.out.trans (hb.mono HB_0.out.size)); clear ho hb hd))
        | (go_at_call 16; (with_reducible refine (eqModule_any _ _ _ _ n0 n0 n0 m0 m0 m0 xs0 _ _ _ Hn0.out (by omega) (by rw [Hm0.out, (dat_xs HDx0.out).1]) (by omega) (by intro i hi; rw [(dat_xs HDx0.out).2 i]; exact HLL0.out i (by rw [← (dat_xs HDx0.out).1]; exact hi)) (HDe0.out.trans HDx0.out.symm) (owns_Rd (by have h := (I8.out.mod 3 rfl).deg; rw [← Hn0.out] at h; exact h)) (owns_Rd (by have h := (I8.out.mod 0 rfl).deg; rw [← Hn0.out] at h; exact h)) ((I8.out.mod 3 rfl).act.rd (by rw [Hm0.out, (dat_xs HDx0.out).1])) ((I8.out.mod 0 rfl).act.rd (by rw [Hm0.out, (dat_xs HDe0.out).1]))).mono ?_); (rintro e w8 ⟨rfl, hb⟩; have I9 := Lib.hid (I8.out.step hb); have HB_2 := Lib.hid (HB_1.out.trans (hb.mono HB_1.out.size)); clear hb)))
  clear HB_0 HB_1 HB_2 KS
  obtain ⟨u_a0_9, v_a0_9, x_a0_9, y_a0_9, z_a0_9⟩ := blk2cells (I9.out.box 6 rfl)
  obtain ⟨u_b0_9, v_b0_9, x_b0_9, y_b0_9, z_b0_9⟩ := blk2cells (I9.out.box 2 rfl)
  go_wp2_with fail
  have HKB0 := Lib.hid (show (0 : Int) ≤ 1 ∧ (1 : Int) ≤ 1 from ⟨by decide, by decide⟩)
  have hxl0 : xs0.length ≤ 1048576 := by rw [← Hn0.out]; exact hnb0
  have hqx0 : tot Mx0 = tot L0 := tot_dat HDx0.out
  have htx0 : tot Mx0 ≤ 1048576 := by rw [hqx0]; exact hk0
  clear hqx0
  have hBx0 := (I9.out.mod 3 rfl).deg.lt gx0 rfl
  refine (markModule_any _ _ _ _ xs0 Mx0 (1) _ (Nat.le_trans hBx0.1 (Nat.le_of_lt hBx0.2)) (I9.out.mod 3 rfl) (I9.out.modUp 3 rfl) (Nat.le_trans hxl0 (by decide)) (by rw [(dat_xs HDx0.out).1, ← Hm0.out]; exact Nat.le_trans hmb0 (by decide)) (Nat.le_trans htx0 (by decide)) HKB0.out.1 (Int.le_trans HKB0.out.2 (by decide))).mono ?_
  clear hBx0
  rintro e w9 ⟨rfl, ho, hk⟩
  have I10 := Lib.hid (I9.out.markMod 3 rfl hk ho)
  clear ho hk
  have HKB1 : Hid (0 ≤ (1 + xs0.length + tot Mx0 : Int) ∧ (1 + xs0.length + tot Mx0 : Int) ≤ 2097153) := Lib.hid (kb_add2 HKB0.out hxl0 htx0)
  clear u_a0_9 v_a0_9 x_a0_9 y_a0_9 z_a0_9 u_b0_9 v_b0_9 x_b0_9 y_b0_9 z_b0_9
  obtain ⟨u_a0_10, v_a0_10, x_a0_10, y_a0_10, z_a0_10⟩ := blk2cells (I10.out.box 6 rfl)
  obtain ⟨u_b0_10, v_b0_10, x_b0_10, y_b0_10, z_b0_10⟩ := blk2cells (I10.out.box 2 rfl)
  have hnn0 : ¬ (1 + xs0.length + tot Mx0 : Int) < 0 := Int.not_lt.2 HKB1.out.1
  go_wp2_with fail
  refine (eqIntsB_any _ _ _ _ _ rr.1 _ rfl (by omega) (owns_Rd (I10.out.own 1 rfl)) (owns_Rd (I10.out.own 4 rfl))).mono ?_
  rintro e w10 ⟨rfl, hb⟩
  have I11 := Lib.hid (I10.out.step hb)
  clear hb
  clear u_a0_10 v_a0_10 x_a0_10 y_a0_10 z_a0_10 u_b0_10 v_b0_10 x_b0_10 y_b0_10 z_b0_10
  obtain ⟨u_a0_11, v_a0_11, x_a0_11, y_a0_11, z_a0_11⟩ := blk2cells (I11.out.box 6 rfl)
  obtain ⟨u_b0_11, v_b0_11, x_b0_11, y_b0_11, z_b0_11⟩ := blk2cells (I11.out.box 2 rfl)
  go_wp2_with fail
  refine (markInts_any _ _ rr.1.length rr.1 1 _ (I11.out.own 1 rfl) (by omega) (by omega) (by omega)).mono ?_
  rintro e w11 ⟨rfl, ho, hk⟩
  have I12 := Lib.hid (I11.out.markOwn 1 rfl hk ho)
  clear ho hk
  clear u_a0_11 v_a0_11 x_a0_11 y_a0_11 z_a0_11 u_b0_11 v_b0_11 x_b0_11 y_b0_11 z_b0_11
  obtain ⟨u_a0_12, v_a0_12, x_a0_12, y_a0_12, z_a0_12⟩ := blk2cells (I12.out.box 6 rfl)
  obtain ⟨u_b0_12, v_b0_12, x_b0_12, y_b0_12, z_b0_12⟩ := blk2cells (I12.out.box 2 rfl)
  go_wp2_with fail
  refine (heldInts_any _ rr.1.length _ 1 _ (owns_Rd (I12.out.own 1 rfl)) (by omega) (by omega) (by omega)).mono ?_
  rintro e w' ⟨rfl, rfl⟩
  go_wp2_with fail
  refine (HTO0.out _ I12.out.bel).mono ?_
  rintro e w12 ⟨gh0, hh0, Mh0, rfl, hd, ho, hb⟩
  have I13 := Lib.hid (I12.out.pushMod hb ho)
  have HDh0 := Lib.hid hd
  clear hd
  clear ho hb
  clear u_a0_12 v_a0_12 x_a0_12 y_a0_12 z_a0_12 u_b0_12 v_b0_12 x_b0_12 y_b0_12 z_b0_12
  obtain ⟨u_a0_13, v_a0_13, x_a0_13, y_a0_13, z_a0_13⟩ := blk2cells (I13.out.box 7 rfl)
  obtain ⟨u_b0_13, v_b0_13, x_b0_13, y_b0_13, z_b0_13⟩ := blk2cells (I13.out.box 3 rfl)
  go_wp2_with fail
  refine (HIM.out _ (HT.out.below I13.out.bel hw) (by have := I13.out.size; omega) _ (owns_Rd (by have h := (I13.out.mod 0 rfl).deg; rw [← Hn0.out] at h; exact h)) _ _ HDh0.out ((I13.out.mod 0 rfl).act.rd (by rw [Hm0.out, (dat_xs HDh0.out).1]))).mono ?_
  rintro e w13 ⟨vh, rfl, ho, hb⟩
  have I14 := Lib.hid (I13.out.pushOwn hb ho)
  clear ho hb
  obtain ⟨Ah, kh, rfl, _, _, _⟩ := owns_shape (I14.out.own 0 rfl)
  clear u_a0_13 v_a0_13 x_a0_13 y_a0_13 z_a0_13 u_b0_13 v_b0_13 x_b0_13 y_b0_13 z_b0_13
  obtain ⟨u_a0_14, v_a0_14, x_a0_14, y_a0_14, z_a0_14⟩ := blk2cells (I14.out.box 8 rfl)
  obtain ⟨u_b0_14, v_b0_14, x_b0_14, y_b0_14, z_b0_14⟩ := blk2cells (I14.out.box 4 rfl)
  go_wp2_with fail
  refine (eqIntsB_any _ _ _ _ _ rr.1 _ rfl (by omega) (owns_Rd (I14.out.own 0 rfl)) (owns_Rd (I14.out.own 6 rfl))).mono ?_
  rintro e w14 ⟨rfl, hb⟩
  have I15 := Lib.hid (I14.out.step hb)
  clear hb
  clear u_a0_14 v_a0_14 x_a0_14 y_a0_14 z_a0_14 u_b0_14 v_b0_14 x_b0_14 y_b0_14 z_b0_14
  obtain ⟨u_a0_15, v_a0_15, x_a0_15, y_a0_15, z_a0_15⟩ := blk2cells (I15.out.box 8 rfl)
  obtain ⟨u_b0_15, v_b0_15, x_b0_15, y_b0_15, z_b0_15⟩ := blk2cells (I15.out.box 4 rfl)
  go_wp2_with fail
  refine (heldInts_any _ rr.1.length _ 1 _ (owns_Rd (I15.out.own 3 rfl)) (by omega) (by omega) (by omega)).mono ?_
  rintro e w' ⟨rfl, rfl⟩
  go_wp2_with fail
  go_ret
  exact ⟨rfl, I15.out.bel⟩
end Go.Proofs.YtdkmdmpaflgfaaaGreatDoor

namespace Go.Proofs.YtdkmdmpaflgfaaaGreatDoor
open Go.ChangeShapes Go.WideShapes Go.ChangeAt Go.RowKit Go.Joins Go.Deep

section
variable {H : Type} {enc : TypeId × Value → H} {P : Program} {w : World} {base : Nat} {held : Bool}
/-- cells from an address on, as a list -/
theorem Rd_of_cells {a : Addr} {vs : List Value} (h : ∀ j v, vs[j]? = some v → w.cell? (a.add j) = some v) : Rd w (some a) vs := by
  by_cases h0 : vs = []
  · exact .inl h0
  · right
    obtain ⟨b, off, spot⟩ := a
    obtain ⟨v, vs', rfl⟩ : ∃ v vs', vs = v :: vs' := by cases vs with | nil => exact absurd rfl h0 | cons v vs' => exact ⟨v, vs', rfl⟩
    have h1 := h 0 v rfl
    have hspot : spot = none := by simpa [Addr.add] using World.cell?_spot h1
    subst hspot
    refine ⟨b, off, rfl, fun j u hj => ?_⟩
    have := h j u hj
    rwa [Addr.add_lit] at this
theorem ints_Rd {fuel : Nat} {t e : TypeId} {v : Value} {y : DataW H × List MemPlace} (ht : P.underlying t = some (.slice e)) (he : P.underlying e = some (.int .i64)) (hc : P.cellsOf e = 1)
    (hf : DataW.trod enc P w base (fun _ => true) held fuel t [v] = some y) :
    ∃ A n c xs, v = .slice A n c ∧ n = xs.length ∧ n ≤ maxLen ∧ Rd w A (iv xs) ∧ ∀ x ∈ xs, (Lit.int .i64 x).wf = true := by
  rcases open_ints ht he hc hf with ⟨hcs, _⟩ | ⟨a, len, cap, zs, hcs, _, hl, hm, hz, _, hcell, hwz⟩
  · injection hcs with hcs _
    exact ⟨none, 0, 0, [], hcs, rfl, Nat.zero_le _, .inl rfl, by simp⟩
  · injection hcs with hcs _
    simp only [if_true] at hz
    refine ⟨some a, len, cap, zs.take len, hcs, by rw [List.length_take, hz]; omega, by omega, ?_, fun x hx => hwz x (List.mem_of_mem_take hx)⟩
    refine Rd_of_cells fun j v hj => ?_
    have hjl : j < len := by
      have := (List.getElem?_eq_some_iff.1 hj).1
      simp [iv] at this; omega
    have h2 := hcell j (by omega)
    rw [h2]
    simp only [iv, List.getElem?_map, List.getElem?_take, hjl, if_true] at hj
    rw [List.getElem?_eq_getElem (show j < zs.length by omega)] at hj
    simp only [Option.map_some] at hj
    rw [← hj, List.getD, List.getElem?_eq_getElem (show j < zs.length by omega)]
    rfl
theorem open_intsl {r : Reach} {b0 : Nat} {t e : TypeId} {v : Value} {d : DataW H} {p : List MemPlace} (ht : P.underlying t = some (.slice e)) (he : P.underlying e = some (.int .i64)) (hc : P.cellsOf e = 1)
    (hv : Value.okWide P w r b0 t v) (h : DataW.Trod enc P w base (fun _ => true) held t v d p) :
    ∃ A n c xs, v = .slice A n c ∧ n = xs.length ∧ n ≤ maxLen ∧ Rd w A (iv xs) ∧ ∀ x ∈ xs, (Lit.int .i64 x).wf = true := by
  obtain ⟨a0, len0, cap0, rfl⟩ := okWide_slice ht hv
  obtain ⟨fuel, hf⟩ := h
  exact ints_Rd ht he hc hf

theorem rg_range (n : Nat) (f : Nat → Row) (i : Nat) (h : i < n) : rg ((List.range n).map f) i = f i := by
  simp [rg, List.getD, h]
theorem rows_RdR {fuel : Nat} {t e q : TypeId} {v : Value} {y : DataW H × List MemPlace} (ht : P.underlying t = some (.slice e)) (he : P.underlying e = some (.slice q)) (hq : P.underlying q = some (.int .i64)) (ce : P.cellsOf e = 1) (cq : P.cellsOf q = 1)
    (hf : DataW.trod enc P w base (fun _ => true) held fuel t [v] = some y) :
    ∃ A n c L, v = .slice A n c ∧ n = L.length ∧ n ≤ maxLen ∧ RdR w A L ∧ ∀ i, i < L.length → (rg L i).xs.length ≤ maxLen := by
  rcases open_int_rows ht he hq ce cq hf with ⟨hcs, _⟩ | ⟨a, len, cap, A, Ln, C, Z, hcs, _, hl, hm, _, hr⟩
  · injection hcs with hcs _
    exact ⟨none, 0, 0, [], hcs, rfl, Nat.zero_le _, ⟨.inl rfl, (fun i hi => by cases hi), (fun i hi => by cases hi)⟩, (fun i hi => by cases hi)⟩
  · injection hcs with hcs _
    have hlen : ∀ r, r < len → ((Z r).take (Ln r)).length = Ln r := fun r h => by
      obtain ⟨_, h2, _, h4, _⟩ := hr r (by omega)
      rw [List.length_take, h4]; omega
    refine ⟨some a, len, cap, (List.range len).map fun r => ⟨A r, C r, (Z r).take (Ln r)⟩, hcs, by simp, by omega, ⟨?_, ?_, ?_⟩, ?_⟩
    · refine Rd_of_cells fun j v hj => ?_
      have hjl : j < len := by
        have := (List.getElem?_eq_some_iff.1 hj).1
        simp [hv] at this; exact this
      rw [hv_get (by simpa using hjl), rg_range _ _ _ hjl] at hj
      obtain ⟨h1, _⟩ := hr j (by omega)
      rw [h1, ← hj, Row.val]
      simp only [hlen j hjl]
    · intro i hi
      have hil : i < len := by simpa using hi
      rw [rg_range _ _ _ hil]
      obtain ⟨_, h2, _, h4, _, h6, h7⟩ := hr i (by omega)
      simp only
      cases hA : A i with
      | none =>
        have := h6 hA
        left
        have : ((Z i).take (Ln i)) = [] := List.eq_nil_of_length_eq_zero (by rw [hlen i hil]; omega)
        rw [this]; rfl
      | some a' =>
        refine Rd_of_cells fun j v hj => ?_
        have hjl : j < Ln i := by
          have := (List.getElem?_eq_some_iff.1 hj).1
          rw [iv_length, hlen i hil] at this; exact this
        have h3 := (h7 a' hA).2 j (by omega)
        rw [h3]
        simp only [iv, List.getElem?_map, List.getElem?_take, hjl, if_true] at hj
        rw [List.getElem?_eq_getElem (show j < (Z i).length by omega)] at hj
        simp only [Option.map_some] at hj
        rw [← hj, List.getD, List.getElem?_eq_getElem (show j < (Z i).length by omega)]
        rfl
    · intro i hi
      have hil : i < len := by simpa using hi
      rw [rg_range _ _ _ hil]
      obtain ⟨_, h2, h3, _⟩ := hr i (by omega)
      simp only [hlen i hil]; exact h2
    · intro i hi
      have hil : i < len := by simpa using hi
      rw [rg_range _ _ _ hil]
      obtain ⟨_, h2, h3, _⟩ := hr i (by omega)
      simp only [hlen i hil]; omega
theorem open_rowsl {r : Reach} {b0 : Nat} {t e q : TypeId} {v : Value} {d : DataW H} {p : List MemPlace} (ht : P.underlying t = some (.slice e)) (he : P.underlying e = some (.slice q)) (hq : P.underlying q = some (.int .i64)) (ce : P.cellsOf e = 1) (cq : P.cellsOf q = 1)
    (hv : Value.okWide P w r b0 t v) (h : DataW.Trod enc P w base (fun _ => true) held t v d p) :
    ∃ A n c L, v = .slice A n c ∧ n = L.length ∧ n ≤ maxLen ∧ RdR w A L ∧ ∀ i, i < L.length → (rg L i).xs.length ≤ maxLen := by
  obtain ⟨a0, len0, cap0, rfl⟩ := okWide_slice ht hv
  obtain ⟨fuel, hf⟩ := h
  exact rows_RdR ht he hq ce cq hf
/-- a struct of a slice of ints and rows of rows: a module -/
theorem open_module {r : Reach} {b0 : Nat} {t q : TypeId} {f0 f1 : Field} {v : Value} {d : DataW H} {p : List MemPlace} (hs : P.underlying t = some (.struct #[f0, f1])) (hone : oneCellFields P #[f0, f1] = true) (hC : P.cellsOf t = 2)
    (h0 : P.underlying f0.type = some (.slice q)) (h1 : P.underlying f1.type = some (.slice f0.type)) (hq : P.underlying q = some (.int .i64)) (c0 : P.cellsOf f0.type = 1) (cq : P.cellsOf q = 1)
    (hv : Value.okWide P w r b0 t v) (h : DataW.Trod enc P w base (fun _ => true) held t v d p) :
    ∃ A n c xs A' n' c' L, v = .agg #[.slice A n c, .slice A' n' c'] ∧ n = xs.length ∧ n ≤ maxLen ∧ Rd w A (iv xs) ∧ n' = L.length ∧ n' ≤ maxLen ∧ RdR w A' L ∧ ∀ i, i < L.length → (rg L i).xs.length ≤ maxLen := by
  obtain ⟨c0', c1', y0, y1, m, rfl, rfl, rfl, hy0, hy1⟩ := open_agg2 hs hone hC hv h
  obtain ⟨A, n, c, xs, rfl, hn, hm, hR, hwf⟩ := ints_Rd h0 hq cq hy0
  obtain ⟨A', n', c', L, rfl, hn', hm', hR', hl'⟩ := rows_RdR h1 h0 hq c0 cq hy1
  exact ⟨A, n, c, xs, A', n', c', L, rfl, hn, hm, hR, hn', hm', hR', hl'⟩
end
end Go.Proofs.YtdkmdmpaflgfaaaGreatDoor
