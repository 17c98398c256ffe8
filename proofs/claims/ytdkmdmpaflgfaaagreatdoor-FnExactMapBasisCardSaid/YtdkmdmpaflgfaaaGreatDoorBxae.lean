/- modules: what they are (no program in sight) · masks as lists of digits (no program in sight) · vectors, their masks, maps of modules (no program in sight) · homogeneous spaces, dimensions, ranks by elimination (no program in sight) -/
import Derived.Test.YtdkmdmpaflgfaaaGreatDoorBxac
import Derived.Test.YtdkmdmpaflgfaaaGreatDoorBxad
set_option linter.all false
namespace Go.Proofs.YtdkmdmpaflgfaaaGreatDoor

/-! ### lists of numbers in order -/
def lexLt : List Int → List Int → Bool
  | [], [] => false
  | [], _ :: _ => true
  | _ :: _, [] => false
  | a :: x, b :: y => if a = b then lexLt x y else decide (a < b)
theorem lexLt_irrefl : ∀ x, lexLt x x = false
  | [] => rfl
  | a :: x => by simp only [lexLt, if_true]; exact lexLt_irrefl x
theorem lexLt_trans : ∀ {x y z : List Int}, lexLt x y = true → lexLt y z = true → lexLt x z = true
  | [], [], _, h, _ => by simp [lexLt] at h
  | [], _ :: _, [], _, h => by simp [lexLt] at h
  | [], _ :: _, _ :: _, _, _ => rfl
  | _ :: _, [], _, h, _ => by simp [lexLt] at h
  | _ :: _, _ :: _, [], _, h => by simp [lexLt] at h
  | a :: x, b :: y, c :: z, h1, h2 => by
    simp only [lexLt] at h1 h2 ⊢
    by_cases e1 : a = b
    · rw [if_pos e1] at h1
      by_cases e2 : b = c
      · rw [if_pos e2] at h2; rw [if_pos (e1.trans e2)]; exact lexLt_trans h1 h2
      · rw [if_neg e2] at h2; rw [if_neg (by rw [e1]; exact e2), e1]; exact h2
    · rw [if_neg e1] at h1
      simp only [decide_eq_true_eq] at h1
      by_cases e2 : b = c
      · rw [if_neg (by omega)]; simp; omega
      · rw [if_neg e2] at h2; simp only [decide_eq_true_eq] at h2; rw [if_neg (by omega)]; simp; omega
def AscP (Q : List (List Int)) : Prop := ∀ i, i + 1 < Q.length → lexLt (Q.getD i []) (Q.getD (i + 1) []) = true
theorem AscP.lt {Q : List (List Int)} (h : AscP Q) : ∀ d i, i + d + 1 < Q.length → lexLt (Q.getD i []) (Q.getD (i + d + 1) []) = true := by
  intro d
  induction d with
  | zero => intro i hi; exact h i hi
  | succ d ih => intro i hi; exact lexLt_trans (ih i (by omega)) (h (i + d + 1) (by omega))
theorem AscP.nodup {Q : List (List Int)} (h : AscP Q) : Q.Nodup := by
  rw [List.nodup_iff_pairwise_ne, List.pairwise_iff_getElem]
  intro i j hi hj hij e
  have := h.lt (j - i - 1) i (by omega)
  rw [show i + (j - i - 1) + 1 = j by omega] at this
  simp only [List.getD, List.getElem?_eq_getElem hi, List.getElem?_eq_getElem hj, Option.getD_some] at this
  rw [e, lexLt_irrefl] at this; cases this

/-! ### what a square makes of a mask -/
def hit (n : Int) (v : Nat) (e : List Int) : Nat := if e.getD 0 0 = n ∧ tb v (e.getD 1 0).toNat = true then 2 ^ (e.getD 2 0).toNat else 0
def actE (Q : List (List Int)) (n : Int) (v : Nat) : Nat := Q.foldl (fun a e => xr a (hit n v e)) 0
def act (Q : List (List Int)) (n : Int) (v : Nat) : Nat := if n = 0 then v else actE Q n v
theorem hit_lin (n : Int) (v w : Nat) (e : List Int) : hit n (xr v w) e = xr (hit n v e) (hit n w e) := by
  unfold hit
  rw [tb_xr]
  by_cases h : e.getD 0 0 = n
  · rw [h]
    cases tb v (e.getD 1 0).toNat <;> cases tb w (e.getD 1 0).toNat <;> simp [xr_self, xr_zero, zero_xr]
  · rw [if_neg (fun hh => h hh.1), if_neg (fun hh => h hh.1), if_neg (fun hh => h hh.1)]; rfl
theorem xfold {α : Type} (f : α → Nat) : ∀ (Q : List α) (a : Nat), Q.foldl (fun a e => xr a (f e)) a = xr a (Q.foldl (fun a e => xr a (f e)) 0) := by
  intro Q
  induction Q with
  | nil => intro a; exact (xr_zero a).symm
  | cons e Q ih => intro a; simp only [List.foldl_cons]; rw [ih, ih (xr 0 (f e)), zero_xr, xr_assoc]
theorem actE_cons (e : List Int) (Q : List (List Int)) (n : Int) (v : Nat) : actE (e :: Q) n v = xr (hit n v e) (actE Q n v) := by
  unfold actE; simp only [List.foldl_cons]; rw [xfold, zero_xr]
theorem actE_lin (Q : List (List Int)) (n : Int) (v w : Nat) : actE Q n (xr v w) = xr (actE Q n v) (actE Q n w) := by
  induction Q with
  | nil => exact (xr_self 0).symm
  | cons e Q ih => rw [actE_cons, actE_cons, actE_cons, ih, hit_lin]; simp only [xr_assoc]; rw [xr_left (hit n w e)]
theorem act_lin (Q : List (List Int)) (n : Int) (v w : Nat) : act Q n (xr v w) = xr (act Q n v) (act Q n w) := by
  unfold act; split
  · rfl
  · exact actE_lin Q n v w
theorem act_zero (Q : List (List Int)) (n : Int) : act Q n 0 = 0 := by have := act_lin Q n 0 0; rw [xr_self, xr_self] at this; exact this
theorem act0 (Q : List (List Int)) (v : Nat) : act Q 0 v = v := by unfold act; rw [if_pos rfl]
theorem act_pos {n : Int} (h : n ≠ 0) (Q : List (List Int)) (v : Nat) : act Q n v = actE Q n v := by unfold act; rw [if_neg h]

/-! ### shapes of modules -/
structure EntM (xs : List Int) (e : List Int) : Prop where
  len : e.length = 3
  pos : 1 ≤ e.getD 0 0
  lo1 : 0 ≤ e.getD 1 0
  hi1 : e.getD 1 0 < xs.length
  lo2 : 0 ≤ e.getD 2 0
  hi2 : e.getD 2 0 < xs.length
  dg : xs.getD (e.getD 2 0).toNat 0 = xs.getD (e.getD 1 0).toNat 0 + e.getD 0 0
structure Shp (xs : List Int) (Q : List (List Int)) : Prop where
  len : xs.length ≤ 16
  deg : ∀ i, i < xs.length → 0 ≤ xs.getD i 0 ∧ xs.getD i 0 ≤ 20
  srt : ∀ i, i + 1 < xs.length → xs.getD i 0 ≤ xs.getD (i + 1) 0
  asc : AscP Q
  ent : ∀ k, k < Q.length → EntM xs (Q.getD k [])
theorem getD_of_mem {Q : List (List Int)} {e : List Int} (h : e ∈ Q) : ∃ k, k < Q.length ∧ Q.getD k [] = e := by
  obtain ⟨k, hk, rfl⟩ := List.getElem_of_mem h
  exact ⟨k, hk, by simp [List.getD, hk]⟩
section
variable {xs : List Int} {Q : List (List Int)}
theorem Shp.mem (h : Shp xs Q) {e : List Int} (he : e ∈ Q) : EntM xs e := by
  obtain ⟨k, hk, rfl⟩ := getD_of_mem he
  exact h.ent k hk
theorem EntM.le20 (hd : ∀ i, i < xs.length → 0 ≤ xs.getD i 0 ∧ xs.getD i 0 ≤ 20) {e : List Int} (h : EntM xs e) : e.getD 0 0 ≤ 20 := by
  have h1 := hd (e.getD 2 0).toNat (by have := h.lo2; have := h.hi2; omega)
  have h2 := hd (e.getD 1 0).toNat (by have := h.lo1; have := h.hi1; omega)
  have := h.dg
  omega
theorem Shp.le20 (h : Shp xs Q) {e : List Int} (he : e ∈ Q) : e.getD 0 0 ≤ 20 := (h.mem he).le20 h.deg
theorem pow_lt_pow {a b : Nat} (h : a < b) : 2 ^ a < 2 ^ b := Nat.pow_lt_pow_right (by omega) h
theorem xr_lt {a b n : Nat} (ha : a < 2 ^ n) (hb : b < 2 ^ n) : xr a b < 2 ^ n := Nat.xor_lt_two_pow ha hb
theorem hit_lt {e : List Int} (h : EntM xs e) (n : Int) (v : Nat) : hit n v e < 2 ^ xs.length := by
  unfold hit; split
  · exact pow_lt_pow (by have := h.lo2; have := h.hi2; omega)
  · exact Nat.two_pow_pos _
theorem actE_lt (n : Int) (v : Nat) : ∀ {Q : List (List Int)}, (∀ e ∈ Q, EntM xs e) → actE Q n v < 2 ^ xs.length
  | [], _ => Nat.two_pow_pos _
  | e :: Q, h => by
    rw [actE_cons]
    exact xr_lt (hit_lt (h e (List.mem_cons_self ..)) n v) (actE_lt n v fun f hf => h f (List.mem_cons_of_mem _ hf))
theorem act_lt (h : Shp xs Q) {v : Nat} (hv : v < 2 ^ xs.length) (n : Int) : act Q n v < 2 ^ xs.length := by
  unfold act; split
  · exact hv
  · exact actE_lt n v fun e he => h.mem he
theorem actE_big (n : Int) (v : Nat) : ∀ {Q : List (List Int)}, (∀ e ∈ Q, e.getD 0 0 ≠ n) → actE Q n v = 0
  | [], _ => rfl
  | e :: Q, h => by
    rw [actE_cons, actE_big n v fun f hf => h f (List.mem_cons_of_mem _ hf)]
    unfold hit
    rw [if_neg (fun hh => h e (List.mem_cons_self ..) hh.1)]; rfl
theorem act_big (h : Shp xs Q) {n : Int} (hn : 20 < n) (v : Nat) : act Q n v = 0 := by
  rw [act_pos (by omega)]
  exact actE_big n v fun e he => by have := h.le20 he; omega
theorem act_neg (h : Shp xs Q) {n : Int} (hn : n < 0) (v : Nat) : act Q n v = 0 := by
  rw [act_pos (by omega)]
  exact actE_big n v fun e he => by have := (h.mem he).pos; omega

/-! ### the table of squares -/
def sqStep (n i : Nat) (a : Nat) (e : List Int) : Nat := if e.getD 0 0 = (n : Int) ∧ e.getD 1 0 = (i : Int) then orr a (2 ^ (e.getD 2 0).toNat) else a
def sqOr (Q : List (List Int)) (n i : Nat) : Nat := Q.foldl (sqStep n i) (if n = 0 then 2 ^ i else 0)
def sqRow (Q : List (List Int)) (size n : Nat) : List Nat := (List.range size).map (sqOr Q n)
theorem sqRow_length (Q : List (List Int)) (size n : Nat) : (sqRow Q size n).length = size := by simp [sqRow]
theorem sqRow_getD (Q : List (List Int)) {size n i : Nat} (h : i < size) : (sqRow Q size n).getD i 0 = sqOr Q n i := by simp [sqRow, List.getD, h]
theorem orr_xr {a c : Nat} (h : tb a c = false) : orr a (2 ^ c) = xr a (2 ^ c) := by
  apply eq_of_tb
  intro n
  rw [tb_xr, tb_pow]
  unfold orr tb
  rw [Nat.testBit_or, Nat.testBit_two_pow]
  by_cases e : c = n
  · subst e; unfold tb at h; rw [h]; simp
  · simp [e]
theorem list3 {e : List Int} (h : e.length = 3) : e = [e.getD 0 0, e.getD 1 0, e.getD 2 0] := by
  match e, h with
  | [a, b, c], _ => rfl
theorem sq_fold (n i : Nat) : ∀ (Q : List (List Int)) (a : Nat), (∀ e ∈ Q, EntM xs e) → Q.Nodup → (∀ e ∈ Q, e.getD 0 0 = (n : Int) → e.getD 1 0 = (i : Int) → tb a (e.getD 2 0).toNat = false) → Q.foldl (sqStep n i) a = xr a (actE Q n (2 ^ i)) := by
  intro Q
  induction Q with
  | nil => intro a _ _ _; exact (xr_zero a).symm
  | cons e Q ih =>
    intro a hQ hnd hf
    have he := hQ e (List.mem_cons_self ..)
    have hnd' := List.nodup_cons.1 hnd
    rw [actE_cons, List.foldl_cons]
    by_cases hm : e.getD 0 0 = (n : Int) ∧ e.getD 1 0 = (i : Int)
    · have h1 : sqStep n i a e = xr a (2 ^ (e.getD 2 0).toNat) := by
        unfold sqStep; rw [if_pos hm]; exact orr_xr (hf e (List.mem_cons_self ..) hm.1 hm.2)
      have h2 : hit (n : Int) (2 ^ i) e = 2 ^ (e.getD 2 0).toNat := by
        unfold hit; rw [if_pos ⟨hm.1, by rw [tb_pow, hm.2]; simp⟩]
      rw [h1, h2, ih _ (fun f hf' => hQ f (List.mem_cons_of_mem _ hf')) hnd'.2, xr_assoc]
      intro f hf' g1 g2
      rw [tb_xr, tb_pow, hf f (List.mem_cons_of_mem _ hf') g1 g2]
      simp only [Bool.false_xor, decide_eq_false_iff_not]
      intro e2
      apply hnd'.1
      have hfe := hQ f (List.mem_cons_of_mem _ hf')
      have : f = e := by
        rw [list3 hfe.len, list3 he.len, g1, g2, hm.1, hm.2]
        have := hfe.lo2; have := he.lo2
        rw [show e.getD 2 0 = f.getD 2 0 by omega]
      rw [← this]; exact hf'
    · have h1 : sqStep n i a e = a := by unfold sqStep; rw [if_neg hm]
      have h2 : hit (n : Int) (2 ^ i) e = 0 := by
        unfold hit; rw [if_neg]
        intro hh
        apply hm
        refine ⟨hh.1, ?_⟩
        have := hh.2
        rw [tb_pow] at this
        simp only [decide_eq_true_eq] at this
        have := he.lo1
        omega
      rw [h1, h2, zero_xr, ih a (fun f hf' => hQ f (List.mem_cons_of_mem _ hf')) hnd'.2 (fun f hf' => hf f (List.mem_cons_of_mem _ hf'))]
theorem sqOr_act (h : Shp xs Q) (n i : Nat) : sqOr Q n i = act Q n (2 ^ i) := by
  unfold sqOr
  by_cases h0 : n = 0
  · subst h0
    rw [if_pos rfl]
    rw [sq_fold (xs := xs) 0 i Q _ (fun e he => h.mem he) h.asc.nodup (fun e he h1 => by have := (h.mem he).pos; omega)]
    rw [actE_big _ _ fun e he => by have := (h.mem he).pos; omega, xr_zero]
    exact (act0 Q _).symm
  · rw [if_neg h0, sq_fold (xs := xs) n i Q _ (fun e he => h.mem he) h.asc.nodup (fun e he _ _ => tb_zero _), zero_xr, act_pos (by omega)]
/-- the product with the rows of a square is the square -/
theorem sq_times (h : Shp xs Q) (n : Nat) {v : Nat} (hv : v < 2 ^ xs.length) : comb (sqRow Q xs.length n) 0 v = act Q n v :=
  lin_ext (f := comb (sqRow Q xs.length n) 0) (g := act Q n) (comb_xr _ 0) (act_lin Q n) xs.length (fun k hk => by
    have := comb_pow (sqRow Q xs.length n) 0 k
    rw [Nat.zero_add] at this
    rw [this, sqRow_getD Q hk, sqOr_act h]) v hv

/-! ### degrees -/
def Hom (xs : List Int) (d : Int) (v : Nat) : Prop := ∀ c, tb v c = true → c < xs.length ∧ xs.getD c 0 = d
theorem Hom.zero (xs : List Int) (d : Int) : Hom xs d 0 := fun c h => by rw [tb_zero] at h; cases h
theorem Hom.xr {d : Int} {v w : Nat} (hv : Hom xs d v) (hw : Hom xs d w) : Hom xs d (xr v w) := fun c h => by
  rw [tb_xr] at h
  cases h1 : tb v c
  · rw [h1] at h; exact hw c (by simpa using h)
  · exact hv c h1
theorem Hom.pow {i : Nat} (hi : i < xs.length) : Hom xs (xs.getD i 0) (2 ^ i) := fun c h => by
  rw [tb_pow] at h; simp only [decide_eq_true_eq] at h; subst h; exact ⟨hi, rfl⟩
theorem Hom.eq_zero {d : Int} {v : Nat} (hv : Hom xs d v) (h : ∀ i, i < xs.length → xs.getD i 0 ≠ d) : v = 0 := eq_of_tb fun c => by
  rw [tb_zero]
  cases hc : tb v c with
  | false => rfl
  | true => exact absurd (hv c hc).2 (h c (hv c hc).1)
theorem Hom.lt {d : Int} {v : Nat} (hv : Hom xs d v) : v < 2 ^ xs.length := lt_of_tb fun m hm => by
  cases hc : tb v m with
  | false => rfl
  | true => have := (hv m hc).1; omega
theorem hom_hit {e : List Int} (he : EntM xs e) (n d : Int) {v : Nat} (hv : Hom xs d v) : Hom xs (d + n) (hit n v e) := by
  unfold hit; split
  · rename_i h
    have h1 := (hv _ h.2).2
    have h2 := he.dg
    rw [h1, h.1] at h2
    rw [← h2]
    exact Hom.pow (by have := he.lo2; have := he.hi2; omega)
  · exact Hom.zero _ _
theorem hom_actE (n d : Int) {v : Nat} (hv : Hom xs d v) : ∀ {Q : List (List Int)}, (∀ e ∈ Q, EntM xs e) → Hom xs (d + n) (actE Q n v)
  | [], _ => Hom.zero _ _
  | e :: Q, h => by
    rw [actE_cons]
    exact (hom_hit (h e (List.mem_cons_self ..)) n d hv).xr (hom_actE n d hv fun f hf => h f (List.mem_cons_of_mem _ hf))
theorem act_hom (h : Shp xs Q) {n d : Int} {v : Nat} (hv : Hom xs d v) : Hom xs (d + n) (act Q n v) := by
  unfold act; split
  · rename_i h0; subst h0; rw [Int.add_zero]; exact hv
  · exact hom_actE n d hv fun e he => h.mem he
theorem Shp.mono (h : Shp xs Q) : ∀ d i, i + d < xs.length → xs.getD i 0 ≤ xs.getD (i + d) 0 := by
  intro d
  induction d with
  | zero => intro i _; exact Int.le_refl _
  | succ d ih => intro i hi; exact Int.le_trans (ih i (by omega)) (h.srt (i + d) (by omega))
theorem Shp.mono' (h : Shp xs Q) {i j : Nat} (hij : i ≤ j) (hj : j < xs.length) : xs.getD i 0 ≤ xs.getD j 0 := by
  have := h.mono (j - i) i (by omega)
  rwa [show i + (j - i) = j by omega] at this

/-! ### Adem's relations -/
def xsumf {α : Type} (f : α → Nat) (l : List α) : Nat := l.foldl (fun x j => xr x (f j)) 0
theorem xsumf_cons {α : Type} (f : α → Nat) (a : α) (l : List α) : xsumf f (a :: l) = xr (f a) (xsumf f l) := by
  unfold xsumf; simp only [List.foldl_cons]; rw [xfold, zero_xr]
theorem xsumf_append {α : Type} (f : α → Nat) (l m : List α) : xsumf f (l ++ m) = xr (xsumf f l) (xsumf f m) := by
  induction l with
  | nil => exact (zero_xr _).symm
  | cons a l ih => rw [List.cons_append, xsumf_cons, xsumf_cons, ih, xr_assoc]
theorem xsumf_reverse {α : Type} (f : α → Nat) (l : List α) : xsumf f l.reverse = xsumf f l := by
  induction l with
  | nil => rfl
  | cons a l ih => rw [List.reverse_cons, xsumf_append, ih, xsumf_cons, xsumf_cons, xr_comm]; simp only [xsumf, List.foldl_nil]; rw [xr_zero]
theorem xsumf_map {α β : Type} (f : β → Nat) (g : α → β) (l : List α) : xsumf f (l.map g) = xsumf (fun a => f (g a)) l := by
  unfold xsumf; rw [List.foldl_map]
theorem xsumf_zero {α : Type} (f : α → Nat) : ∀ (l : List α), (∀ a ∈ l, f a = 0) → xsumf f l = 0
  | [], _ => rfl
  | a :: l, h => by rw [xsumf_cons, h a (List.mem_cons_self ..), xsumf_zero f l fun b hb => h b (List.mem_cons_of_mem _ hb)]; rfl
theorem xsumf_congr {α : Type} {f g : α → Nat} : ∀ (l : List α), (∀ a ∈ l, f a = g a) → xsumf f l = xsumf g l
  | [], _ => rfl
  | a :: l, h => by rw [xsumf_cons, xsumf_cons, h a (List.mem_cons_self ..), xsumf_congr l fun b hb => h b (List.mem_cons_of_mem _ hb)]
/-- does j occur in Adem's relation for a and b? -/
def relB (a b j : Nat) : Bool := an (b - j - 1) (a - 2 * j) == a - 2 * j
def relN (a b : Nat) : List Nat := (List.range (a / 2 + 1)).filter (relB a b)
def adem (Q : List (List Int)) (a b v : Nat) : Nat := xsumf (fun j => act Q ((a + b - j : Nat) : Int) (act Q (j : Int) v)) (relN a b)
def OkAt (Q : List (List Int)) (a b v : Nat) : Prop := act Q (a : Int) (act Q (b : Int) v) = adem Q a b v
structure IsMod (xs : List Int) (Q : List (List Int)) : Prop where
  shp : Shp xs Q
  ok : ∀ a b : Nat, 1 ≤ a → a < 2 * b → a + b ≤ 20 → ∀ i, i < xs.length → OkAt Q a b (2 ^ i)
noncomputable def modB (xs : List Int) (Q : List (List Int)) : Bool := @decide (IsMod xs Q) (Classical.propDecidable _)
theorem modB_iff : modB xs Q = true ↔ IsMod xs Q := by unfold modB; simp
theorem modB_false : modB xs Q = false ↔ ¬ IsMod xs Q := by unfold modB; simp
theorem mem_relN {a b j : Nat} (h : j ∈ relN a b) : 2 * j ≤ a ∧ relB a b j = true := by
  unfold relN at h
  rw [List.mem_filter, List.mem_range] at h
  exact ⟨by omega, h.2⟩
/-- beyond the span of the degrees nothing is left of two squares -/
theorem far_zero (h : Shp xs Q) {a b i : Nat} (hi : i < xs.length) (hs : ∀ j, j < xs.length → xs.getD j 0 < xs.getD i 0 + a + b) (c e : Nat) (hc : c + e = a + b) : act Q (c : Int) (act Q (e : Int) (2 ^ i)) = 0 := by
  have h1 := act_hom h (n := (c : Int)) (act_hom h (n := (e : Int)) (Hom.pow hi))
  exact h1.eq_zero fun j hj => by have := hs j hj; omega
theorem far_ok (h : Shp xs Q) {a b i : Nat} (hi : i < xs.length) (hab : a < 2 * b) (hs : ∀ j, j < xs.length → xs.getD j 0 < xs.getD i 0 + a + b) : OkAt Q a b (2 ^ i) := by
  unfold OkAt adem
  rw [far_zero h hi hs a b rfl, xsumf_zero]
  intro j hj
  have := (mem_relN hj).1
  exact far_zero h hi hs _ _ (by omega)
/-- the words of Adem's relation, in order -/
def ademW (a b j : Nat) : List Int := if j = 0 then [((a + b : Nat) : Int)] else [((a + b - j : Nat) : Int), (j : Int)]
def wordM (Q : List (List Int)) (w : List Int) (v : Nat) : Nat := w.foldr (fun n v => act Q n v) v
theorem wordM_adem (Q : List (List Int)) (a b j v : Nat) : wordM Q (ademW a b j) v = act Q ((a + b - j : Nat) : Int) (act Q (j : Int) v) := by
  unfold ademW; split
  · rename_i h; subst h; simp only [wordM, List.foldr_cons, List.foldr_nil, Int.natCast_zero]; rw [act0]; rfl
  · rfl
def ademF (a b : Nat) : List (List Int) := ((relN a b).reverse).map (ademW a b)
theorem adem_form (Q : List (List Int)) (a b v : Nat) : xsumf (fun w => wordM Q w v) (ademF a b) = adem Q a b v := by
  unfold ademF adem
  rw [xsumf_map, xsumf_reverse]
  exact xsumf_congr _ fun j _ => wordM_adem Q a b j v
end
end Go.Proofs.YtdkmdmpaflgfaaaGreatDoor

namespace Go.Proofs.YtdkmdmpaflgfaaaGreatDoor

def bit (v i : Nat) : Int := if tb v i = true then 1 else 0
theorem bit_bd (v i : Nat) : 0 ≤ bit v i ∧ bit v i ≤ 1 := by unfold bit; split <;> omega
theorem bit_one {v i : Nat} (h : tb v i = true) : bit v i = 1 := by unfold bit; rw [if_pos h]
theorem bit_none {v i : Nat} (h : tb v i = false) : bit v i = 0 := by unfold bit; rw [if_neg (by rw [h]; simp)]
theorem bit_iff (v i : Nat) : bit v i = 1 ↔ tb v i = true := by unfold bit; split <;> simp_all
theorem bit_xr (v w i : Nat) : bit (xr v w) i = (bit v i + bit w i) % 2 := by
  unfold bit; rw [tb_xr]; cases tb v i <;> cases tb w i <;> simp
def bitsL (v n : Nat) : List Int := (List.range n).map (bit v)
theorem bitsL_length (v n : Nat) : (bitsL v n).length = n := by simp [bitsL]
theorem bitsL_getD (v : Nat) {n i : Nat} (h : i < n) : (bitsL v n).getD i 0 = bit v i := by simp [bitsL, List.getD, h]
theorem list_ext_getD {x y : List Int} {n : Nat} (hx : x.length = n) (hy : y.length = n) (h : ∀ i, i < n → x.getD i 0 = y.getD i 0) : x = y := by
  apply List.ext_getElem (by omega)
  intro i h1 h2
  have := h i (by omega)
  simpa [List.getD, h1, h2] using this
theorem bitsL_inj {v w n : Nat} (hv : v < 2 ^ n) (hw : w < 2 ^ n) (h : bitsL v n = bitsL w n) : v = w := eq_of_tb fun m => by
  rcases Nat.lt_or_ge m n with hm | hm
  · have e : bit v m = bit w m := by rw [← bitsL_getD v hm, ← bitsL_getD w hm, h]
    cases h1 : tb v m <;> cases h2 : tb w m <;> simp [bit, h1, h2] at e <;> rfl
  · rw [tb_of_lt hv hm, tb_of_lt hw hm]
theorem bitsL_zero (n : Nat) : bitsL 0 n = List.replicate n 0 := list_ext_getD (bitsL_length _ _) (by simp) fun i hi => by
  rw [bitsL_getD _ hi, bit_none (tb_zero i)]; simp [List.getD, hi]
theorem set_getD (x : List Int) (c i : Nat) (y : Int) (hc : c < x.length) : (x.set c y).getD i 0 = if i = c then y else x.getD i 0 := by
  simp only [List.getD, List.getElem?_set]
  by_cases h : c = i
  · subst h; simp [hc]
  · simp [h, Ne.symm h]
theorem bitsL_flip (v : Nat) {n c : Nat} (h : c < n) : (bitsL v n).set c (1 - bit v c) = bitsL (xr v (2 ^ c)) n := list_ext_getD (by simp [bitsL_length]) (bitsL_length _ _) fun i hi => by
  rw [set_getD _ _ _ _ (by rw [bitsL_length]; exact h), bitsL_getD _ hi, bitsL_getD _ hi]
  unfold bit
  rw [tb_xr, tb_pow]
  by_cases e : i = c
  · subst e; simp; cases tb v i <;> simp
  · rw [if_neg e]; simp [show ¬ c = i from fun x => e x.symm]
theorem bitsL_unit {n k : Nat} (hk : k < n) : (List.replicate n (0 : Int)).set k 1 = bitsL (2 ^ k) n := by
  have := bitsL_flip 0 hk
  rw [bit_none (tb_zero k), zero_xr, bitsL_zero] at this
  simpa using this
theorem take_succ_getD {x : List Int} {k : Nat} (h : k < x.length) : x.take (k + 1) = x.take k ++ [x.getD k 0] := by
  rw [List.take_succ_eq_append_getElem h]; simp [List.getD, h]
theorem bitsL_take (v : Nat) {n k : Nat} (h : k < n) : (bitsL v n).take (k + 1) = (bitsL v n).take k ++ [bit v k] := by
  rw [take_succ_getD (by rw [bitsL_length]; exact h), bitsL_getD _ h]
end Go.Proofs.YtdkmdmpaflgfaaaGreatDoor

namespace Go.Proofs.YtdkmdmpaflgfaaaGreatDoor

/-! ### the mask of a list of digits -/
def mk : List Int → Nat
  | [] => 0
  | x :: v => (if x = 1 then 1 else 0) + 2 * mk v
theorem tb_mk : ∀ (v : List Int) (i : Nat), tb (mk v) i = decide (v.getD i 0 = 1)
  | [], i => by simp [mk, tb_zero]
  | x :: v, 0 => by
    unfold tb mk
    rw [Nat.testBit_zero]
    by_cases h : x = 1 <;> simp [h] <;> omega
  | x :: v, i + 1 => by
    have := tb_mk v i
    unfold tb at this ⊢
    rw [Nat.testBit_succ, show mk (x :: v) / 2 = mk v by rw [show mk (x :: v) = (if x = 1 then 1 else 0) + 2 * mk v from rfl]; split <;> omega, this]
    simp
theorem mk_lt (v : List Int) : mk v < 2 ^ v.length := lt_of_tb fun m hm => by
  rw [tb_mk]; simp [List.getD, List.getElem?_eq_none hm]
theorem mk_bits {v n : Nat} (h : v < 2 ^ n) : mk (bitsL v n) = v := eq_of_tb fun i => by
  rw [tb_mk]
  rcases Nat.lt_or_ge i n with hi | hi
  · rw [bitsL_getD _ hi]
    cases hb : tb v i
    · rw [bit_none hb]; rfl
    · rw [bit_one hb]; rfl
  · rw [tb_of_lt h hi]
    simp [List.getD, List.getElem?_eq_none (show (bitsL v n).length ≤ i by rw [bitsL_length]; exact hi)]
/-- is a list a vector of n digits? -/
def vecB (n : Nat) (v : List Int) : Bool := (v.all fun x => decide (0 ≤ x) && decide (x ≤ 1)) && decide (v.length = n)
theorem vecB_iff {n : Nat} {v : List Int} : vecB n v = true ↔ v.length = n ∧ ∀ i, i < v.length → 0 ≤ v.getD i 0 ∧ v.getD i 0 ≤ 1 := by
  unfold vecB
  rw [Bool.and_eq_true, List.all_eq_true, decide_eq_true_eq]
  constructor
  · rintro ⟨h1, h2⟩
    refine ⟨h2, fun i hi => ?_⟩
    have := h1 (v[i]) (List.getElem_mem hi)
    simpa [List.getD, hi] using this
  · rintro ⟨h1, h2⟩
    refine ⟨fun x hx => ?_, h1⟩
    obtain ⟨i, hi, rfl⟩ := List.getElem_of_mem hx
    simpa [List.getD, hi] using h2 i hi
theorem vec_bits {n : Nat} {v : List Int} (h : vecB n v = true) : v = bitsL (mk v) n ∧ mk v < 2 ^ n := by
  obtain ⟨h1, h2⟩ := vecB_iff.1 h
  refine ⟨list_ext_getD h1 (bitsL_length _ _) fun i hi => ?_, by have := mk_lt v; rwa [h1] at this⟩
  rw [bitsL_getD _ hi]
  obtain ⟨a, b⟩ := h2 i (by omega)
  unfold bit
  rw [tb_mk]
  by_cases e : v.getD i 0 = 1
  · rw [if_pos (by simpa using e)]; exact e
  · rw [if_neg (by simpa using e)]; omega
theorem vecB_bits {v n : Nat} : vecB n (bitsL v n) = true := vecB_iff.2 ⟨bitsL_length _ _, fun i hi => by
  rw [bitsL_length] at hi
  rw [bitsL_getD _ hi]; exact bit_bd v i⟩
theorem mk_take {v : List Int} {k : Nat} (hk : k < v.length) : mk (v.take (k + 1)) = orr (mk (v.take k)) (if v.getD k 0 = 1 then 2 ^ k else 0) := by
  apply eq_of_tb
  intro i
  have e : ∀ j, (v.take j).getD i 0 = if i < j then v.getD i 0 else 0 := fun j => by
    simp only [List.getD, List.getElem?_take]; split <;> rfl
  unfold orr
  rw [show tb (mk (v.take k) ||| (if v.getD k 0 = 1 then 2 ^ k else 0)) i = (tb (mk (v.take k)) i || tb (if v.getD k 0 = 1 then 2 ^ k else 0) i) by unfold tb; exact Nat.testBit_or ..]
  rw [tb_mk, tb_mk, e, e]
  by_cases h : v.getD k 0 = 1
  · rw [if_pos h, tb_pow]
    by_cases hi : i < k
    · simp [hi, show i < k + 1 by omega, show ¬ k = i by omega]
    · by_cases hik : i = k
      · subst hik; have h' := h; simp only [List.getD_eq_getElem?_getD] at h'; simp [h']
      · simp [hi, show ¬ i < k + 1 by omega, show ¬ k = i by omega]
  · rw [if_neg h, tb_zero]
    by_cases hi : i < k
    · simp [hi, show i < k + 1 by omega]
    · by_cases hik : i = k
      · subst hik; have h' := h; simp only [List.getD_eq_getElem?_getD] at h'; simp [h']
      · simp [hi, show ¬ i < k + 1 by omega]

/-! ### the digits of a degree -/
def dmTo (xs : List Int) (d : Int) : Nat → Nat
  | 0 => 0
  | k + 1 => if xs.getD k 0 = d then orr (dmTo xs d k) (2 ^ k) else dmTo xs d k
def dmask (xs : List Int) (d : Int) : Nat := dmTo xs d xs.length
theorem tb_orr (a b i : Nat) : tb (orr a b) i = (tb a i || tb b i) := by unfold tb orr; exact Nat.testBit_or ..
theorem tb_dmTo (xs : List Int) (d : Int) : ∀ k i, tb (dmTo xs d k) i = (decide (i < k) && decide (xs.getD i 0 = d))
  | 0, i => by simp [dmTo, tb_zero]
  | k + 1, i => by
    unfold dmTo
    by_cases h : xs.getD k 0 = d
    · rw [if_pos h, tb_orr, tb_dmTo xs d k, tb_pow]
      by_cases hi : i < k
      · simp [hi, show i < k + 1 by omega, show ¬ k = i by omega]
      · by_cases hik : i = k
        · subst hik; have h' := h; simp only [List.getD_eq_getElem?_getD] at h'; simp [h']
        · simp [hi, show ¬ i < k + 1 by omega, show ¬ k = i by omega]
    · rw [if_neg h, tb_dmTo xs d k]
      by_cases hi : i < k
      · simp [hi, show i < k + 1 by omega]
      · by_cases hik : i = k
        · subst hik; have h' := h; simp only [List.getD_eq_getElem?_getD] at h'; simp [h']
        · simp [hi, show ¬ i < k + 1 by omega]
theorem tb_dmask (xs : List Int) (d : Int) (i : Nat) : tb (dmask xs d) i = (decide (i < xs.length) && decide (xs.getD i 0 = d)) := tb_dmTo xs d _ i
theorem dmTo_lt (xs : List Int) (d : Int) (k : Nat) : dmTo xs d k < 2 ^ k := lt_of_tb fun m hm => by rw [tb_dmTo]; simp; omega
theorem dmask_lt (xs : List Int) (d : Int) : dmask xs d < 2 ^ xs.length := dmTo_lt xs d _
/-- a without the digits of b -/
def nt (a b : Nat) : Nat := a ^^^ (a &&& b)
theorem tb_nt (a b i : Nat) : tb (nt a b) i = (tb a i && !tb b i) := by
  unfold tb nt
  rw [Nat.testBit_xor, Nat.testBit_and]
  cases a.testBit i <;> cases b.testBit i <;> rfl
theorem nt_lt {a b n : Nat} (ha : a < 2 ^ n) : nt a b < 2 ^ n := lt_of_tb fun m hm => by rw [tb_nt, tb_of_lt ha hm]; rfl
theorem nt_hom {xs : List Int} {d : Int} {v : Nat} : nt v (dmask xs d) = 0 ↔ Hom xs d v := by
  constructor
  · intro h c hc
    have := congrArg (fun z => tb z c) h
    simp only [tb_nt, tb_zero, hc, tb_dmask] at this
    simpa using this
  · intro h
    apply eq_of_tb
    intro c
    rw [tb_nt, tb_zero, tb_dmask]
    cases hc : tb v c with
    | false => rfl
    | true => obtain ⟨a, b⟩ := h c hc; rw [decide_eq_true a, decide_eq_true b]; rfl

/-! ### maps -/
structure MapP (xs : List Int) (Q : List (List Int)) (ys : List Int) (R P : List (List Int)) : Prop where
  len : P.length = xs.length
  vec : ∀ i, i < P.length → vecB ys.length (P.getD i []) = true
  hom : ∀ i, i < P.length → Hom ys (xs.getD i 0) (mk (P.getD i []))
  eqn : ∀ i, i < P.length → ∀ j : Nat, 1 ≤ j → j ≤ 20 → comb (P.map mk) 0 (act Q (j : Int) (2 ^ i)) = act R (j : Int) (mk (P.getD i []))
noncomputable def mapB (xs : List Int) (Q : List (List Int)) (ys : List Int) (R P : List (List Int)) : Bool := @decide (MapP xs Q ys R P) (Classical.propDecidable _)
theorem mapB_iff {xs : List Int} {Q : List (List Int)} {ys : List Int} {R P : List (List Int)} : mapB xs Q ys R P = true ↔ MapP xs Q ys R P := by unfold mapB; simp
theorem mapB_no {xs : List Int} {Q : List (List Int)} {ys : List Int} {R P : List (List Int)} (h : ¬ MapP xs Q ys R P) : mapB xs Q ys R P = false := by unfold mapB; simp [h]
theorem mapB_yes {xs : List Int} {Q : List (List Int)} {ys : List Int} {R P : List (List Int)} (h : MapP xs Q ys R P) : mapB xs Q ys R P = true := mapB_iff.2 h
theorem mks_getD {P : List (List Int)} {i : Nat} (h : i < P.length) : (P.map mk).getD i 0 = mk (P.getD i []) := by simp [List.getD, h]
theorem comb_lt {S : List Nat} {n : Nat} (h : ∀ r ∈ S, r < 2 ^ n) : ∀ i x, comb S i x < 2 ^ n := by
  induction S with
  | nil => intro i x; exact Nat.two_pow_pos _
  | cons r S ih =>
    intro i x
    simp only [comb]
    refine xr_lt ?_ (ih (fun s hs => h s (List.mem_cons_of_mem _ hs)) _ _)
    split
    · exact h r (List.mem_cons_self ..)
    · exact Nat.two_pow_pos _
theorem mks_lt {P : List (List Int)} {n : Nat} (h : ∀ i, i < P.length → vecB n (P.getD i []) = true) : ∀ r ∈ P.map mk, r < 2 ^ n := by
  intro r hr
  obtain ⟨p, hp, rfl⟩ := List.mem_map.1 hr
  obtain ⟨i, hi, rfl⟩ := List.getElem_of_mem hp
  have := h i hi
  simp only [List.getD, hi, List.getElem?_eq_getElem, Option.getD_some] at this
  exact (vec_bits this).2
end Go.Proofs.YtdkmdmpaflgfaaaGreatDoor

namespace Go.Proofs.YtdkmdmpaflgfaaaGreatDoor

/-! ### homogeneous masks -/
theorem hom_sp {xs : List Int} {d : Int} {S : List Nat} (h : ∀ r ∈ S, Hom xs d r) {v : Nat} (hv : Sp S v) : Hom xs d v := by
  induction hv with
  | zero => exact Hom.zero _ _
  | add hm _ ih => exact (h _ hm).xr ih
theorem Hom.pv {xs : List Int} {d : Int} {v : Nat} (h : Hom xs d v) (h0 : v ≠ 0) (hs : Sm v) : Go.Proofs.YtdkmdmpaflgfaaaGreatDoor.pv v < xs.length ∧ xs.getD (Go.Proofs.YtdkmdmpaflgfaaaGreatDoor.pv v) 0 = d := h _ (tb_pv h0 hs)
def homB (xs : List Int) (d : Int) (v : Nat) : Bool := nt v (dmask xs d) == 0
theorem homB_iff {xs : List Int} {d : Int} {v : Nat} : homB xs d v = true ↔ Hom xs d v := by unfold homB; rw [beq_iff_eq]; exact nt_hom
theorem red_nodup {S : List Nat} (h : Red S) : S.Nodup := List.Pairwise.of_map pv (fun _ _ h e => h (congrArg pv e)) h.nodup
/-- a reduced list in order is what its space's rows reduce to -/
theorem red_asc_unique {S T : List Nat} (hS : Red S) (hT : Red T) (aS : Asc S) (aT : Asc T) (h : ∀ v, Sp S v ↔ Sp T v) : S = T :=
  asc_unique aS aT ((List.perm_ext_iff_of_nodup (red_nodup hS) (red_nodup hT)).2 fun r => ⟨red_sub hS hT h r, red_sub hT hS (fun v => (h v).symm) r⟩)
theorem Red.append {S T : List Nat} (hS : Red S) (hT : Red T) (h : ∀ r ∈ S, ∀ s ∈ T, tb r (pv s) = false ∧ tb s (pv r) = false) : Red (S ++ T) :=
  ⟨fun r hr => by rcases List.mem_append.1 hr with hr | hr; exact hS.ne r hr; exact hT.ne r hr, List.pairwise_append.2 ⟨hS.off, hT.off, h⟩⟩
theorem Asc.append {S T : List Nat} (hS : Asc S) (hT : Asc T) (h : ∀ r ∈ S, ∀ s ∈ T, pv r < pv s) : Asc (S ++ T) := List.pairwise_append.2 ⟨hS, hT, h⟩
def part (xs : List Int) (S : List Nat) (d : Int) : List Nat := reduceS (S.filter (homB xs d))
/-- the reduced rows of the degrees 0 .. k - 1, one degree behind the other -/
def byDeg (xs : List Int) (S : List Nat) : Nat → List Nat
  | 0 => []
  | k + 1 => byDeg xs S k ++ part xs S (k : Int)
theorem sm_filter {S : List Nat} (hS : ∀ r ∈ S, Sm r) (p : Nat → Bool) : ∀ r ∈ S.filter p, Sm r := fun r hr => hS r (List.mem_filter.1 hr).1
theorem part_mem {xs : List Int} {S : List Nat} (hS : ∀ r ∈ S, Sm r) {d : Int} {r : Nat} (hr : r ∈ part xs S d) : Hom xs d r ∧ r ≠ 0 ∧ Sm r ∧ Sp S r := by
  have h1 := (red_reduce (sm_filter hS (homB xs d))).ne r hr
  have h2 := (sp_reduce (sm_filter hS (homB xs d)) r).1 (.mem hr)
  exact ⟨hom_sp (fun s hs => homB_iff.1 (List.mem_filter.1 hs).2) h2, h1.1, h1.2, h2.mono fun s hs => (List.mem_filter.1 hs).1⟩
def SrtL (xs : List Int) : Prop := ∀ i j, i ≤ j → j < xs.length → xs.getD i 0 ≤ xs.getD j 0
theorem byDeg_all {xs : List Int} {S : List Nat} (hx : SrtL xs) (hS : ∀ r ∈ S, Sm r) : ∀ k, Red (byDeg xs S k) ∧ Asc (byDeg xs S k) ∧ ∀ r ∈ byDeg xs S k, ∃ d : Nat, d < k ∧ r ∈ part xs S (d : Int)
  | 0 => ⟨Red.nil, .nil, by simp [byDeg]⟩
  | k + 1 => by
    obtain ⟨h1, h2, h3⟩ := byDeg_all hx hS k
    have rp := red_reduce (sm_filter hS (homB xs (k : Int)))
    have ap := asc_reduce (sm_filter hS (homB xs (k : Int)))
    have key : ∀ r ∈ byDeg xs S k, ∀ s ∈ part xs S (k : Int), tb r (pv s) = false ∧ tb s (pv r) = false ∧ pv r < pv s := by
      intro r hr s hs
      obtain ⟨d, hd, hr⟩ := h3 r hr
      obtain ⟨a1, a2, a3, _⟩ := part_mem hS hr
      obtain ⟨b1, b2, b3, _⟩ := part_mem hS hs
      obtain ⟨p1, p2⟩ := a1.pv a2 a3
      obtain ⟨q1, q2⟩ := b1.pv b2 b3
      refine ⟨?_, ?_, ?_⟩
      · cases h : tb r (pv s) with
        | false => rfl
        | true => have := (a1 _ h).2; omega
      · cases h : tb s (pv r) with
        | false => rfl
        | true => have := (b1 _ h).2; omega
      · rcases Nat.lt_or_ge (pv r) (pv s) with h | h
        · exact h
        · have := hx _ _ h p1; omega
    refine ⟨h1.append rp fun r hr s hs => ⟨(key r hr s hs).1, (key r hr s hs).2.1⟩, h2.append ap fun r hr s hs => (key r hr s hs).2.2, fun r hr => ?_⟩
    rcases List.mem_append.1 hr with hr | hr
    · obtain ⟨d, hd, hr⟩ := h3 r hr; exact ⟨d, by omega, hr⟩
    · exact ⟨k, by omega, hr⟩
theorem part_byDeg {xs : List Int} {S : List Nat} {d k : Nat} (h : d < k) : ∀ r ∈ part xs S (d : Int), r ∈ byDeg xs S k := by
  induction k with
  | zero => omega
  | succ k ih =>
    intro r hr
    unfold byDeg
    rcases Nat.lt_or_ge d k with h1 | h1
    · exact List.mem_append_left _ (ih h1 r hr)
    · have e : d = k := by omega
      subst e; exact List.mem_append_right _ hr
theorem byDeg_sp {xs : List Int} {S : List Nat} (hx : SrtL xs) (hS : ∀ r ∈ S, Sm r) {k : Nat} (hh : ∀ r ∈ S, r ≠ 0 → ∃ d : Nat, d < k ∧ Hom xs (d : Int) r) (v : Nat) : Sp (byDeg xs S k) v ↔ Sp S v := by
  constructor
  · exact Sp.trans fun r hr => by
      obtain ⟨d, _, hr⟩ := (byDeg_all hx hS k).2.2 r hr
      exact (part_mem hS hr).2.2.2
  · refine Sp.trans fun r hr => ?_
    by_cases h0 : r = 0
    · subst h0; exact .zero
    · obtain ⟨d, hd, hr'⟩ := hh r hr h0
      have : Sp (part xs S (d : Int)) r := (sp_reduce (sm_filter hS _) r).2 (.mem (List.mem_filter.2 ⟨hr, homB_iff.2 hr'⟩))
      exact this.mono (part_byDeg hd)
/-- THE REDUCED ROWS OF HOMOGENEOUS ROWS, DEGREE BY DEGREE -/
theorem byDeg_eq {xs : List Int} {S : List Nat} (hx : SrtL xs) (hS : ∀ r ∈ S, Sm r) {k : Nat} (hh : ∀ r ∈ S, r ≠ 0 → ∃ d : Nat, d < k ∧ Hom xs (d : Int) r) : byDeg xs S k = reduceS S := by
  obtain ⟨h1, h2, _⟩ := byDeg_all hx hS k
  exact red_asc_unique h1 (red_reduce hS) h2 (asc_reduce hS) fun v => by rw [byDeg_sp hx hS hh, sp_reduce hS]
/-- how many rows of a degree -/
def ofDeg (xs : List Int) (d : Int) (R : List Nat) : List Nat := R.filter fun r => decide (xs.getD (pv r) 0 = d)
theorem ofDeg_byDeg {xs : List Int} {S : List Nat} (hS : ∀ r ∈ S, Sm r) (d : Nat) : ∀ k, d < k → ofDeg xs (d : Int) (byDeg xs S k) = part xs S (d : Int) := by
  have no : ∀ k, k ≤ d → ofDeg xs (d : Int) (byDeg xs S k) = [] := by
    intro k
    induction k with
    | zero => intro _; rfl
    | succ k ih =>
      intro h
      unfold ofDeg byDeg
      rw [List.filter_append, show (byDeg xs S k).filter _ = [] from ih (by omega), List.nil_append, List.filter_eq_nil_iff]
      intro r hr
      obtain ⟨a1, a2, a3, _⟩ := part_mem hS hr
      have := (a1.pv a2 a3).2
      simp only [decide_eq_true_eq]; omega
  intro k
  induction k with
  | zero => intro h; omega
  | succ k ih =>
    intro h
    unfold ofDeg byDeg
    rw [List.filter_append]
    rcases Nat.lt_or_ge d k with h1 | h1
    · rw [show (byDeg xs S k).filter _ = part xs S (d : Int) from ih h1]
      rw [List.filter_eq_nil_iff.2, List.append_nil]
      intro r hr
      obtain ⟨a1, a2, a3, _⟩ := part_mem hS hr
      have := (a1.pv a2 a3).2
      simp only [decide_eq_true_eq]; omega
    · have e : k = d := by omega
      subst e
      rw [show (byDeg xs S k).filter _ = [] from no k (Nat.le_refl _), List.nil_append, List.filter_eq_self]
      intro r hr
      obtain ⟨a1, a2, a3, _⟩ := part_mem hS hr
      have := (a1.pv a2 a3).2
      simp only [decide_eq_true_eq]; exact this

/-! ### dimensions -/
def Dim (P : Nat → Prop) (k : Nat) : Prop := ∃ B : List Nat, (∀ r ∈ B, Sm r) ∧ Fre B ∧ (∀ v, Sp B v ↔ P v) ∧ B.length = k
theorem Dim.unique {P : Nat → Prop} {k l : Nat} (h1 : Dim P k) (h2 : Dim P l) : k = l := by
  obtain ⟨B, b1, b2, b3, rfl⟩ := h1
  obtain ⟨C, c1, c2, c3, rfl⟩ := h2
  rw [← fre_len b1 b2, ← fre_len c1 c2, reduce_unique b1 c1 fun v => by rw [b3, c3]]
theorem Dim.congr {P Q : Nat → Prop} {k : Nat} (h : Dim P k) (e : ∀ v, P v ↔ Q v) : Dim Q k := by
  obtain ⟨B, b1, b2, b3, b4⟩ := h
  exact ⟨B, b1, b2, fun v => by rw [b3, e], b4⟩
theorem dim_red {S : List Nat} (h : Red S) : Dim (Sp S) S.length := ⟨S, fun r hr => (h.ne r hr).2, h.fre, fun _ => Iff.rfl, rfl⟩
theorem dim_reduce {S : List Nat} (hS : ∀ r ∈ S, Sm r) : Dim (Sp S) (reduceS S).length := (dim_red (red_reduce hS)).congr fun v => sp_reduce hS v
theorem fre_snoc {B : List Nat} {r : Nat} (h : Fre B) (hr : ¬ Sp B r) : Fre (B ++ [r]) := by
  intro k hk
  rw [List.length_append, List.length_singleton] at hk
  rcases Nat.lt_or_ge k B.length with h1 | h1
  · rw [List.take_append_of_le_length (by omega), show (B ++ [r]).getD k 0 = B.getD k 0 by simp [List.getD, List.getElem?_append_left h1]]
    exact h k h1
  · have e : k = B.length := by omega
    subst e
    rw [show (B ++ [r]).take B.length = B by simp, show (B ++ [r]).getD B.length 0 = r by simp [List.getD]]
    exact hr
/-- a linear map -/
structure Lin (f : Nat → Nat) : Prop where
  add : ∀ x y, f (xr x y) = xr (f x) (f y)
theorem Lin.zero {f : Nat → Nat} (h : Lin f) : f 0 = 0 := by have := h.add 0 0; rw [xr_self, xr_self] at this; exact this
theorem sp_map {f : Nat → Nat} (h : Lin f) {B : List Nat} (w : Nat) : Sp (B.map f) w ↔ ∃ v, Sp B v ∧ w = f v := by
  constructor
  · intro hw
    induction hw with
    | zero => exact ⟨0, .zero, h.zero.symm⟩
    | add hm _ ih =>
      obtain ⟨v, hv, rfl⟩ := ih
      obtain ⟨r, hr, rfl⟩ := List.mem_map.1 hm
      exact ⟨xr r v, .add hr hv, (h.add r v).symm⟩
  · rintro ⟨v, hv, rfl⟩
    induction hv with
    | zero => rw [h.zero]; exact .zero
    | add hm _ ih => rw [h.add]; exact .add (List.mem_map_of_mem hm) ih
theorem fre_map {f : Nat → Nat} (h : Lin f) {B : List Nat} (hB : Fre B) (hi : ∀ v, Sp B v → f v = 0 → v = 0) : Fre (B.map f) := by
  intro k hk hs
  rw [List.length_map] at hk
  rw [← List.map_take, show (B.map f).getD k 0 = f (B.getD k 0) by simp [List.getD, hk], sp_map h] at hs
  obtain ⟨v, hv, e⟩ := hs
  have hv' : Sp B v := hv.mono fun r hr => List.mem_of_mem_take hr
  have h0 := hi (xr (B.getD k 0) v) ((Sp.mem (by simp [List.getD, hk])).plus hv') (by rw [h.add, e, xr_self])
  refine hB k hk ?_
  have e2 : B.getD k 0 = v := by have := congrArg (xr (B.getD k 0)) h0; rw [xr_xr, xr_zero] at this; exact this.symm
  rw [e2]; exact hv
theorem Dim.map {P Q : Nat → Prop} {k : Nat} {f : Nat → Nat} (h : Dim P k) (hf : Lin f) (hi : ∀ v, P v → f v = 0 → v = 0) (hs : ∀ v, P v → Sm (f v)) (hQ : ∀ w, Q w ↔ ∃ v, P v ∧ w = f v) : Dim Q k := by
  obtain ⟨B, b1, b2, b3, b4⟩ := h
  refine ⟨B.map f, fun r hr => ?_, fre_map hf b2 fun v hv => hi v ((b3 v).1 hv), fun w => ?_, by rw [List.length_map, b4]⟩
  · obtain ⟨v, hv, rfl⟩ := List.mem_map.1 hr
    exact hs v ((b3 v).1 (.mem hv))
  · rw [sp_map hf, hQ]
    exact ⟨fun ⟨v, h1, h2⟩ => ⟨v, (b3 v).1 h1, h2⟩, fun ⟨v, h1, h2⟩ => ⟨v, (b3 v).2 h1, h2⟩⟩

/-! ### ranks by elimination -/
/-- the least digit that is 1 -/
def lo (v : Nat) : Nat := ((List.range (v + 1)).find? (tb v)).getD 0
theorem lo_spec {v : Nat} (h : v ≠ 0) : tb v (lo v) = true ∧ ∀ m, m < lo v → tb v m = false := by
  unfold lo
  cases hf : (List.range (v + 1)).find? (tb v) with
  | none =>
    exfalso
    apply h
    rw [List.find?_eq_none] at hf
    refine eq_zero_of_tb fun n => ?_
    rcases Nat.lt_or_ge n (v + 1) with h1 | h1
    · have := hf n (List.mem_range.2 h1); simpa using this
    · exact tb_of_lt (Nat.lt_of_lt_of_le (Nat.lt_two_pow_self) (Nat.pow_le_pow_right (by omega) (by omega : v ≤ n))) (Nat.le_refl _)
  | some i =>
    rw [List.find?_range_eq_some] at hf
    refine ⟨hf.1, fun m hm => ?_⟩
    have := hf.2.2 m (by simpa using hm)
    simpa using this
def clr (p r s : Nat) : Nat := if tb s p = true then xr s r else s
theorem clr_lin (p r : Nat) : Lin (clr p r) := ⟨fun x y => by
  unfold clr
  rw [tb_xr]
  cases h1 : tb x p <;> cases h2 : tb y p <;> simp
  · rw [xr_assoc]
  · rw [xr_assoc, xr_assoc, xr_comm y r]
  · rw [xr_assoc x r, xr_left r y r, xr_self, xr_zero]⟩
theorem clr_off {p r : Nat} (h : tb r p = true) (s : Nat) : tb (clr p r s) p = false := by
  unfold clr
  cases h1 : tb s p <;> simp [tb_xr, h1, h]
def rkN : Nat → List Nat → Nat
  | 0, _ => 0
  | _ + 1, [] => 0
  | n + 1, r :: S => if r = 0 then rkN n S else 1 + rkN n (S.map (clr (lo r) r))
def rkS (S : List Nat) : Nat := rkN S.length S
theorem rkS_nil : rkS [] = 0 := rfl
theorem rkS_cons (r : Nat) (S : List Nat) : rkS (r :: S) = if r = 0 then rkS S else 1 + rkS (S.map (clr (lo r) r)) := by
  unfold rkS; simp only [List.length_cons, List.length_map, rkN]
theorem rk_dim : ∀ (n : Nat) (S : List Nat), S.length = n → (∀ r ∈ S, Sm r) → Dim (Sp S) (rkS S) := by
  intro n
  induction n with
  | zero =>
    intro S hl _
    rw [List.eq_nil_of_length_eq_zero hl]
    exact ⟨[], by simp, fun k hk => by simp at hk, fun _ => Iff.rfl, rfl⟩
  | succ n ih =>
    intro S hl hS
    match S, hl with
    | r :: S, hl =>
      rw [rkS_cons]
      have hr := hS r (List.mem_cons_self ..)
      have hS' : ∀ s ∈ S, Sm s := fun s hs => hS s (List.mem_cons_of_mem _ hs)
      by_cases h0 : r = 0
      · rw [if_pos h0]
        refine (ih S (by simpa using hl) hS').congr fun v => ⟨Sp.mono fun s hs => List.mem_cons_of_mem _ hs, fun h => ?_⟩
        rcases sp_cons h with h | h
        · exact h
        · rwa [h0, zero_xr] at h
      · rw [if_neg h0]
        obtain ⟨hp, _⟩ := lo_spec h0
        generalize lo r = p at *
        have hc : ∀ s ∈ S.map (clr p r), Sm s := fun s hs => by
          obtain ⟨t, ht, rfl⟩ := List.mem_map.1 hs
          unfold clr; split
          · exact (hS' t ht).xr hr
          · exact hS' t ht
        obtain ⟨B, b1, b2, b3, b4⟩ := ih (S.map (clr p r)) (by simpa using hl) hc
        have hoff : ∀ s ∈ S.map (clr p r), tb s p = false := fun s hs => by
          obtain ⟨t, ht, rfl⟩ := List.mem_map.1 hs
          exact clr_off hp t
        refine ⟨B ++ [r], fun s hs => ?_, fre_snoc b2 fun h => ?_, fun v => ?_, by rw [List.length_append, b4]; simp; omega⟩
        · rcases List.mem_append.1 hs with hs | hs
          · exact b1 s hs
          · rw [List.mem_singleton.1 hs]; exact hr
        · rw [((b3 r).1 h).off hoff] at hp; cases hp
        · rw [sp_congr (U := [r]) b3 v]
          have hcl : ∀ t, Sp [r] (xr t (clr p r t)) := fun t => by
            unfold clr; split
            · rw [xr_xr]; exact .mem (List.mem_singleton.2 rfl)
            · rw [xr_self]; exact .zero
          constructor
          · refine Sp.trans fun s hs => ?_
            rcases List.mem_append.1 hs with hs | hs
            · obtain ⟨t, ht, rfl⟩ := List.mem_map.1 hs
              have h1 : Sp (r :: S) (xr t (clr p r t)) := (hcl t).mono fun x hx => by rw [List.mem_singleton.1 hx]; exact List.mem_cons_self ..
              have h2 : Sp (r :: S) t := .mem (List.mem_cons_of_mem _ ht)
              have := h2.plus h1
              rwa [xr_xr] at this
            · rw [List.mem_singleton.1 hs]; exact .mem (List.mem_cons_self ..)
          · refine Sp.trans fun s hs => ?_
            rcases List.mem_cons.1 hs with rfl | hs
            · exact .mem (List.mem_append_right _ (List.mem_singleton.2 rfl))
            · have h1 : Sp (S.map (clr p r) ++ [r]) (xr s (clr p r s)) := (hcl s).mono fun x hx => List.mem_append_right _ hx
              have h2 : Sp (S.map (clr p r) ++ [r]) (clr p r s) := .mem (List.mem_append_left _ (List.mem_map_of_mem hs))
              have := h1.plus h2
              rwa [xr_assoc, xr_self, xr_zero] at this
/-- the rank by elimination is the number of reduced rows -/
theorem rk_reduce {S : List Nat} (hS : ∀ r ∈ S, Sm r) : rkS S = (reduceS S).length := (rk_dim _ S rfl hS).unique (dim_reduce hS)

/-! ### kernels of any rows -/
theorem comb_shift : ∀ (S : List Nat) (i z : Nat), comb S (i + 1) z = comb S i (z / 2)
  | [], _, _ => rfl
  | s :: S, i, z => by
    simp only [comb]
    rw [comb_shift S (i + 1) z, show tb z (i + 1) = tb (z / 2) i by unfold tb; rw [Nat.testBit_succ]]
theorem comb_map {f : Nat → Nat} (h : Lin f) : ∀ (S : List Nat) (i z : Nat), comb (S.map f) i z = f (comb S i z)
  | [], _, _ => h.zero.symm
  | s :: S, i, z => by
    simp only [comb, List.map_cons]
    rw [comb_map h S (i + 1) z, h.add]
    congr 1
    split
    · rfl
    · exact h.zero.symm
theorem tb_double (v : Nat) (b : Bool) (i : Nat) : tb (xr (2 * v) b.toNat) i = if i = 0 then b else tb v (i - 1) := by
  rw [tb_xr]
  cases i with
  | zero =>
    rw [if_pos rfl]
    have e1 : tb (2 * v) 0 = false := by unfold tb; rw [Nat.testBit_zero]; simp
    rw [e1]; cases b <;> rfl
  | succ i =>
    rw [if_neg (Nat.succ_ne_zero i)]
    have e1 : tb (2 * v) (i + 1) = tb v i := by unfold tb; rw [Nat.testBit_succ]; congr 1; omega
    have e2 : tb b.toNat (i + 1) = false := by
      cases b
      · exact tb_zero _
      · unfold tb; rw [Nat.testBit_succ]; simp
    rw [e1, e2]; simp
theorem half_double (v : Nat) (b : Bool) : xr (2 * v) b.toNat / 2 = v := by
  apply eq_of_tb
  intro i
  have := tb_double v b (i + 1)
  rw [if_neg (Nat.succ_ne_zero i)] at this
  unfold tb at this ⊢
  rw [Nat.testBit_succ] at this
  exact this
theorem double_half (z : Nat) : xr (2 * (z / 2)) (tb z 0).toNat = z := by
  apply eq_of_tb
  intro i
  rw [tb_double]
  cases i with
  | zero => rw [if_pos rfl]
  | succ i => rw [if_neg (Nat.succ_ne_zero i)]; unfold tb; rw [Nat.testBit_succ]; simp
theorem dbl_lin {b : Nat → Bool} (hb : ∀ x y, b (xr x y) = (b x ^^ b y)) : Lin fun v => xr (2 * v) (b v).toNat := ⟨fun x y => by
  apply eq_of_tb
  intro i
  rw [tb_xr (xr (2 * x) (b x).toNat), tb_double, tb_double, tb_double]
  split
  · exact hb x y
  · exact tb_xr x y _⟩
def KerP (R : List Nat) (z : Nat) : Prop := z < 2 ^ R.length ∧ comb R 0 z = 0
theorem ker_cons {r : Nat} {S : List Nat} (z : Nat) : KerP (r :: S) z ↔ z / 2 < 2 ^ S.length ∧ xr (if tb z 0 = true then r else 0) (comb S 0 (z / 2)) = 0 := by
  unfold KerP
  simp only [comb, List.length_cons]
  rw [comb_shift S 0 z, Nat.pow_succ]
  constructor
  · rintro ⟨h1, h2⟩; exact ⟨by omega, h2⟩
  · rintro ⟨h1, h2⟩; exact ⟨by omega, h2⟩
/-- THE RANK BY ELIMINATION AND THE KERNEL FILL UP THE NUMBER OF ROWS, whatever the rows' size -/
theorem rk_ker : ∀ (n : Nat) (R : List Nat), R.length = n → n ≤ 62 → ∃ k, k + rkS R = R.length ∧ Dim (KerP R) k := by
  intro n
  induction n with
  | zero =>
    intro R hl _
    rw [List.eq_nil_of_length_eq_zero hl]
    refine ⟨0, rfl, [], by simp, fun k hk => by simp at hk, fun v => ⟨fun h => ?_, fun h => ?_⟩, rfl⟩
    · have : v = 0 := by
        cases h with
        | zero => rfl
        | add hm _ => cases hm
      subst this; exact ⟨by simp, rfl⟩
    · have : v = 0 := by have := h.1; simpa using this
      subst this; exact .zero
  | succ n ih =>
    intro R hl hn
    match R, hl with
    | r :: S, hl =>
      have hlS : S.length = n := by simpa using hl
      rw [rkS_cons]
      by_cases h0 : r = 0
      · rw [if_pos h0]
        obtain ⟨k, hk, B, b1, b2, b3, b4⟩ := ih S hlS (by omega)
        have hlin : Lin fun v => 2 * v := by
          have h := dbl_lin (b := fun _ => false) fun _ _ => rfl
          have e : (fun v => xr (2 * v) (false).toNat) = fun v => 2 * v := by funext v; exact xr_zero _
          rwa [e] at h
        have hbit : ∀ v, Sp (B.map fun v => 2 * v) v → tb v 0 = false := fun v => Sp.off fun s hs => by
          obtain ⟨t, _, rfl⟩ := List.mem_map.1 hs
          unfold tb; rw [Nat.testBit_zero]; simp
        refine ⟨k + 1, by simp; omega, (B.map fun v => 2 * v) ++ [1], fun s hs => ?_, fre_snoc (fre_map hlin b2 fun v _ h => by omega) fun h => ?_, fun v => ?_, by simp [b4]⟩
        · rcases List.mem_append.1 hs with hs | hs
          · obtain ⟨t, ht, rfl⟩ := List.mem_map.1 hs
            have := ((b3 t).1 (.mem ht)).1
            refine sm_of_lt (a := n + 1) hn ?_
            rw [hlS] at this; rw [Nat.pow_succ]; omega
          · rw [List.mem_singleton.1 hs]; exact Sm.one
        · have := hbit 1 h; cases this
        · rw [ker_cons]
          constructor
          · intro h
            obtain ⟨a, b, ha, hb, rfl⟩ := sp_append h
            rw [sp_map hlin] at ha
            obtain ⟨u, hu, rfl⟩ := ha
            obtain ⟨k1, k2⟩ := (b3 u).1 hu
            have hb' : b = 0 ∨ b = 1 := by
              rcases sp_cons hb with h | h
              · left
                have h' : ∀ q, Sp [] q → q = 0 := fun q hq => by
                  cases hq with
                  | zero => rfl
                  | add hm _ => cases hm
                exact h' _ h
              · right
                have h' : ∀ q, Sp [] q → q = 0 := fun q hq => by
                  cases hq with
                  | zero => rfl
                  | add hm _ => cases hm
                have := congrArg (xr 1) (h' _ h); rw [xr_xr, xr_zero] at this; exact this
            have e : xr (2 * u) b / 2 = u := by
              rcases hb' with rfl | rfl
              · exact half_double u false
              · exact half_double u true
            rw [e, h0]
            refine ⟨k1, ?_⟩
            rw [k2]; split <;> rfl
          · rintro ⟨h1, h2⟩
            rw [h0] at h2
            have h2' : comb S 0 (v / 2) = 0 := by
              have : (if tb v 0 = true then 0 else 0) = 0 := by split <;> rfl
              rw [this, zero_xr] at h2; exact h2
            have hs : Sp (B.map fun v => 2 * v) (2 * (v / 2)) := (sp_map hlin _).2 ⟨v / 2, (b3 _).2 ⟨h1, h2'⟩, rfl⟩
            rw [← double_half v]
            refine (hs.mono fun x hx => List.mem_append_left _ hx).plus ?_
            cases tb v 0
            · exact .zero
            · exact .mem (List.mem_append_right _ (List.mem_singleton.2 rfl))
      · rw [if_neg h0]
        obtain ⟨hp, _⟩ := lo_spec h0
        generalize lo r = p at *
        obtain ⟨k, hk, hd⟩ := ih (S.map (clr p r)) (by simpa using hlS) (by omega)
        rw [List.length_map] at hk
        have hlin : Lin fun v => xr (2 * v) (tb (comb S 0 v) p).toNat := dbl_lin (b := fun v => tb (comb S 0 v) p) fun x y => by rw [comb_xr, tb_xr]
        have hK : ∀ v, KerP (S.map (clr p r)) v ↔ v < 2 ^ S.length ∧ clr p r (comb S 0 v) = 0 := fun v => by
          unfold KerP; rw [List.length_map, comb_map (clr_lin p r)]
        refine ⟨k, by simp only [List.length_cons]; omega, hd.map hlin ?_ ?_ ?_⟩
        · intro v _ h
          have := half_double v (tb (comb S 0 v) p)
          have h' : xr (2 * v) (tb (comb S 0 v) p).toNat = 0 := h
          rw [h'] at this; simpa using this.symm
        · intro v hv
          have h1 := ((hK v).1 hv).1
          refine sm_of_lt (a := n + 1) hn ?_
          have h2 := half_double v (tb (comb S 0 v) p)
          rw [hlS] at h1; rw [Nat.pow_succ]; omega
        · intro w
          rw [ker_cons]
          constructor
          · rintro ⟨h1, h2⟩
            have e : comb S 0 (w / 2) = if tb w 0 = true then r else 0 := by
              have := congrArg (xr (if tb w 0 = true then r else 0)) h2
              rw [xr_xr, xr_zero] at this; exact this
            have e2 : tb (comb S 0 (w / 2)) p = tb w 0 := by
              rw [e]; cases tb w 0
              · simp [tb_zero]
              · simp [hp]
            refine ⟨w / 2, (hK _).2 ⟨h1, ?_⟩, ?_⟩
            · rw [e]; unfold clr
              cases tb w 0
              · simp [tb_zero]
              · simp [hp, xr_self]
            · simp only [e2]; exact (double_half w).symm
          · rintro ⟨v, hv, rfl⟩
            obtain ⟨h1, h2⟩ := (hK v).1 hv
            rw [half_double]
            refine ⟨h1, ?_⟩
            have e0 : tb (xr (2 * v) (tb (comb S 0 v) p).toNat) 0 = tb (comb S 0 v) p := by rw [tb_double, if_pos rfl]
            rw [e0]
            unfold clr at h2
            cases hb : tb (comb S 0 v) p
            · rw [hb] at h2; simp at h2 ⊢; rw [h2]; rfl
            · rw [hb] at h2; simp at h2 ⊢; rw [xr_comm]; exact h2

/-! ### reduced kernels and meets -/
def kerS (S : List Nat) (k : Nat) : List Nat := kerOut (fun k => spanL ((us 0 S).take k)) S k
theorem kerS_succ (S : List Nat) (k : Nat) : kerS S (k + 1) = kerStep (spanL ((us 0 S).take k)) (S.getD k 0, 2 ^ k) (kerS S k) := rfl
theorem red_len {S : List Nat} {n : Nat} (h : Red S) (hlt : ∀ r ∈ S, r < 2 ^ n) : S.length ≤ n := by
  have := pig1 n (S.map pv) h.nodup (fun x hx => by
    obtain ⟨r, hr, rfl⟩ := List.mem_map.1 hx
    exact pv_lt (h.ne r hr).1 (h.ne r hr).2 (hlt r hr))
  simpa using this
def kerR (S : List Nat) : List Nat := reduceS (kerS S S.length)
theorem kerR_sp {S : List Nat} (hS : ∀ r ∈ S, Sm r) (hl : S.length ≤ 62) (z : Nat) : Sp (kerR S) z ↔ z < 2 ^ S.length ∧ comb S 0 z = 0 := by
  have hK := kerG_span hS hl
  unfold kerR
  rw [sp_reduce (S := kerS S S.length) (hK.sm hl)]
  exact hK.sp_iff z
theorem kerR_red {S : List Nat} (hS : ∀ r ∈ S, Sm r) (hl : S.length ≤ 62) : Red (kerR S) := red_reduce (rows := kerS S S.length) ((kerG_span hS hl).sm hl)
theorem kerR_ok {S : List Nat} (hS : ∀ r ∈ S, Sm r) (hl : S.length ≤ 62) : (∀ r ∈ kerR S, Sm r) ∧ (kerR S).length ≤ S.length :=
  ⟨fun r hr => ((kerR_red hS hl).ne r hr).2, red_len (kerR_red hS hl) fun r hr => ((kerR_sp hS hl r).1 (.mem hr)).1⟩
theorem meetS_sp {A B : List Nat} (hA : ∀ r ∈ A, Sm r) (hB : ∀ r ∈ B, Sm r) (u : Nat) : Sp (meetS A B) u ↔ Sp A u ∧ Sp B u := by
  have hG := meetG_span hA hB
  unfold meetS
  rw [sp_reduce (hG.sm hA)]
  exact hG.sp_iff u
theorem meetS_red {A B : List Nat} (hA : ∀ r ∈ A, Sm r) (hB : ∀ r ∈ B, Sm r) : Red (meetS A B) ∧ Asc (meetS A B) := ⟨red_reduce ((meetG_span hA hB).sm hA), asc_reduce ((meetG_span hA hB).sm hA)⟩
end Go.Proofs.YtdkmdmpaflgfaaaGreatDoor
