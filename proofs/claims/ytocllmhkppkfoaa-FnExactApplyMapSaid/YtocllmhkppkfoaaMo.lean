/- modules: what they are (no program in sight) -/
import Derived.Test.YtocllmhkppkfoaaCb
namespace Go.Proofs.Ytocllmhkppkfoaa

/-! ### lists of numbers in order -/
def lexLt : List Int → List Int → Bool
  | [], [] => false
  | [], _ :: _ => true
  | _ :: _, [] => false
  | a :: x, b :: y => if a = b then lexLt x y else decide (a < b)
theorem lexLt_irrefl : ∀ x, lexLt x x = false
  | [] => rfl
  | a :: x => by simp only [lexLt, if_true]; exact lexLt_irrefl x
theorem lexLt_trans : ∀ {x y z : List Int}, lexLt x y = true → lexLt y z = true → lexLt x z = true
  | [], [], _, h, _ => by simp [lexLt] at h
  | [], _ :: _, [], _, h => by simp [lexLt] at h
  | [], _ :: _, _ :: _, _, _ => rfl
  | _ :: _, [], _, h, _ => by simp [lexLt] at h
  | _ :: _, _ :: _, [], _, h => by simp [lexLt] at h
  | a :: x, b :: y, c :: z, h1, h2 => by
    simp only [lexLt] at h1 h2 ⊢
    by_cases e1 : a = b
    · rw [if_pos e1] at h1
      by_cases e2 : b = c
      · rw [if_pos e2] at h2; rw [if_pos (e1.trans e2)]; exact lexLt_trans h1 h2
      · rw [if_neg e2] at h2; rw [if_neg (by rw [e1]; exact e2), e1]; exact h2
    · rw [if_neg e1] at h1
      simp only [decide_eq_true_eq] at h1
      by_cases e2 : b = c
      · rw [if_neg (by omega)]; simp; omega
      · rw [if_neg e2] at h2; simp only [decide_eq_true_eq] at h2; rw [if_neg (by omega)]; simp; omega
def AscP (Q : List (List Int)) : Prop := ∀ i, i + 1 < Q.length → lexLt (Q.getD i []) (Q.getD (i + 1) []) = true
theorem AscP.lt {Q : List (List Int)} (h : AscP Q) : ∀ d i, i + d + 1 < Q.length → lexLt (Q.getD i []) (Q.getD (i + d + 1) []) = true := by
  intro d
  induction d with
  | zero => intro i hi; exact h i hi
  | succ d ih => intro i hi; exact lexLt_trans (ih i (by omega)) (h (i + d + 1) (by omega))
theorem AscP.nodup {Q : List (List Int)} (h : AscP Q) : Q.Nodup := by
  rw [List.nodup_iff_pairwise_ne, List.pairwise_iff_getElem]
  intro i j hi hj hij e
  have := h.lt (j - i - 1) i (by omega)
  rw [show i + (j - i - 1) + 1 = j by omega] at this
  simp only [List.getD, List.getElem?_eq_getElem hi, List.getElem?_eq_getElem hj, Option.getD_some] at this
  rw [e, lexLt_irrefl] at this; cases this

/-! ### what a square makes of a mask -/
def hit (n : Int) (v : Nat) (e : List Int) : Nat := if e.getD 0 0 = n ∧ tb v (e.getD 1 0).toNat = true then 2 ^ (e.getD 2 0).toNat else 0
def actE (Q : List (List Int)) (n : Int) (v : Nat) : Nat := Q.foldl (fun a e => xr a (hit n v e)) 0
def act (Q : List (List Int)) (n : Int) (v : Nat) : Nat := if n = 0 then v else actE Q n v
theorem hit_lin (n : Int) (v w : Nat) (e : List Int) : hit n (xr v w) e = xr (hit n v e) (hit n w e) := by
  unfold hit
  rw [tb_xr]
  by_cases h : e.getD 0 0 = n
  · rw [h]
    cases tb v (e.getD 1 0).toNat <;> cases tb w (e.getD 1 0).toNat <;> simp [xr_self, xr_zero, zero_xr]
  · rw [if_neg (fun hh => h hh.1), if_neg (fun hh => h hh.1), if_neg (fun hh => h hh.1)]; rfl
theorem xfold {α : Type} (f : α → Nat) : ∀ (Q : List α) (a : Nat), Q.foldl (fun a e => xr a (f e)) a = xr a (Q.foldl (fun a e => xr a (f e)) 0) := by
  intro Q
  induction Q with
  | nil => intro a; exact (xr_zero a).symm
  | cons e Q ih => intro a; simp only [List.foldl_cons]; rw [ih, ih (xr 0 (f e)), zero_xr, xr_assoc]
theorem actE_cons (e : List Int) (Q : List (List Int)) (n : Int) (v : Nat) : actE (e :: Q) n v = xr (hit n v e) (actE Q n v) := by
  unfold actE; simp only [List.foldl_cons]; rw [xfold, zero_xr]
theorem actE_lin (Q : List (List Int)) (n : Int) (v w : Nat) : actE Q n (xr v w) = xr (actE Q n v) (actE Q n w) := by
  induction Q with
  | nil => exact (xr_self 0).symm
  | cons e Q ih => rw [actE_cons, actE_cons, actE_cons, ih, hit_lin]; simp only [xr_assoc]; rw [xr_left (hit n w e)]
theorem act_lin (Q : List (List Int)) (n : Int) (v w : Nat) : act Q n (xr v w) = xr (act Q n v) (act Q n w) := by
  unfold act; split
  · rfl
  · exact actE_lin Q n v w
theorem act_zero (Q : List (List Int)) (n : Int) : act Q n 0 = 0 := by have := act_lin Q n 0 0; rw [xr_self, xr_self] at this; exact this
theorem act0 (Q : List (List Int)) (v : Nat) : act Q 0 v = v := by unfold act; rw [if_pos rfl]
theorem act_pos {n : Int} (h : n ≠ 0) (Q : List (List Int)) (v : Nat) : act Q n v = actE Q n v := by unfold act; rw [if_neg h]

/-! ### shapes of modules -/
structure EntM (xs : List Int) (e : List Int) : Prop where
  len : e.length = 3
  pos : 1 ≤ e.getD 0 0
  lo1 : 0 ≤ e.getD 1 0
  hi1 : e.getD 1 0 < xs.length
  lo2 : 0 ≤ e.getD 2 0
  hi2 : e.getD 2 0 < xs.length
  dg : xs.getD (e.getD 2 0).toNat 0 = xs.getD (e.getD 1 0).toNat 0 + e.getD 0 0
structure Shp (xs : List Int) (Q : List (List Int)) : Prop where
  len : xs.length ≤ 16
  deg : ∀ i, i < xs.length → 0 ≤ xs.getD i 0 ∧ xs.getD i 0 ≤ 20
  srt : ∀ i, i + 1 < xs.length → xs.getD i 0 ≤ xs.getD (i + 1) 0
  asc : AscP Q
  ent : ∀ k, k < Q.length → EntM xs (Q.getD k [])
theorem getD_of_mem {Q : List (List Int)} {e : List Int} (h : e ∈ Q) : ∃ k, k < Q.length ∧ Q.getD k [] = e := by
  obtain ⟨k, hk, rfl⟩ := List.getElem_of_mem h
  exact ⟨k, hk, by simp [List.getD, hk]⟩
section
variable {xs : List Int} {Q : List (List Int)}
theorem Shp.mem (h : Shp xs Q) {e : List Int} (he : e ∈ Q) : EntM xs e := by
  obtain ⟨k, hk, rfl⟩ := getD_of_mem he
  exact h.ent k hk
theorem EntM.le20 (hd : ∀ i, i < xs.length → 0 ≤ xs.getD i 0 ∧ xs.getD i 0 ≤ 20) {e : List Int} (h : EntM xs e) : e.getD 0 0 ≤ 20 := by
  have h1 := hd (e.getD 2 0).toNat (by have := h.lo2; have := h.hi2; omega)
  have h2 := hd (e.getD 1 0).toNat (by have := h.lo1; have := h.hi1; omega)
  have := h.dg
  omega
theorem Shp.le20 (h : Shp xs Q) {e : List Int} (he : e ∈ Q) : e.getD 0 0 ≤ 20 := (h.mem he).le20 h.deg
theorem pow_lt_pow {a b : Nat} (h : a < b) : 2 ^ a < 2 ^ b := Nat.pow_lt_pow_right (by omega) h
theorem xr_lt {a b n : Nat} (ha : a < 2 ^ n) (hb : b < 2 ^ n) : xr a b < 2 ^ n := Nat.xor_lt_two_pow ha hb
theorem hit_lt {e : List Int} (h : EntM xs e) (n : Int) (v : Nat) : hit n v e < 2 ^ xs.length := by
  unfold hit; split
  · exact pow_lt_pow (by have := h.lo2; have := h.hi2; omega)
  · exact Nat.two_pow_pos _
theorem actE_lt (n : Int) (v : Nat) : ∀ {Q : List (List Int)}, (∀ e ∈ Q, EntM xs e) → actE Q n v < 2 ^ xs.length
  | [], _ => Nat.two_pow_pos _
  | e :: Q, h => by
    rw [actE_cons]
    exact xr_lt (hit_lt (h e (List.mem_cons_self ..)) n v) (actE_lt n v fun f hf => h f (List.mem_cons_of_mem _ hf))
theorem act_lt (h : Shp xs Q) {v : Nat} (hv : v < 2 ^ xs.length) (n : Int) : act Q n v < 2 ^ xs.length := by
  unfold act; split
  · exact hv
  · exact actE_lt n v fun e he => h.mem he
theorem actE_big (n : Int) (v : Nat) : ∀ {Q : List (List Int)}, (∀ e ∈ Q, e.getD 0 0 ≠ n) → actE Q n v = 0
  | [], _ => rfl
  | e :: Q, h => by
    rw [actE_cons, actE_big n v fun f hf => h f (List.mem_cons_of_mem _ hf)]
    unfold hit
    rw [if_neg (fun hh => h e (List.mem_cons_self ..) hh.1)]; rfl
theorem act_big (h : Shp xs Q) {n : Int} (hn : 20 < n) (v : Nat) : act Q n v = 0 := by
  rw [act_pos (by omega)]
  exact actE_big n v fun e he => by have := h.le20 he; omega
theorem act_neg (h : Shp xs Q) {n : Int} (hn : n < 0) (v : Nat) : act Q n v = 0 := by
  rw [act_pos (by omega)]
  exact actE_big n v fun e he => by have := (h.mem he).pos; omega

/-! ### the table of squares -/
def sqStep (n i : Nat) (a : Nat) (e : List Int) : Nat := if e.getD 0 0 = (n : Int) ∧ e.getD 1 0 = (i : Int) then orr a (2 ^ (e.getD 2 0).toNat) else a
def sqOr (Q : List (List Int)) (n i : Nat) : Nat := Q.foldl (sqStep n i) (if n = 0 then 2 ^ i else 0)
def sqRow (Q : List (List Int)) (size n : Nat) : List Nat := (List.range size).map (sqOr Q n)
theorem sqRow_length (Q : List (List Int)) (size n : Nat) : (sqRow Q size n).length = size := by simp [sqRow]
theorem sqRow_getD (Q : List (List Int)) {size n i : Nat} (h : i < size) : (sqRow Q size n).getD i 0 = sqOr Q n i := by simp [sqRow, List.getD, h]
theorem orr_xr {a c : Nat} (h : tb a c = false) : orr a (2 ^ c) = xr a (2 ^ c) := by
  apply eq_of_tb
  intro n
  rw [tb_xr, tb_pow]
  unfold orr tb
  rw [Nat.testBit_or, Nat.testBit_two_pow]
  by_cases e : c = n
  · subst e; unfold tb at h; rw [h]; simp
  · simp [e]
theorem list3 {e : List Int} (h : e.length = 3) : e = [e.getD 0 0, e.getD 1 0, e.getD 2 0] := by
  match e, h with
  | [a, b, c], _ => rfl
theorem sq_fold (n i : Nat) : ∀ (Q : List (List Int)) (a : Nat), (∀ e ∈ Q, EntM xs e) → Q.Nodup → (∀ e ∈ Q, e.getD 0 0 = (n : Int) → e.getD 1 0 = (i : Int) → tb a (e.getD 2 0).toNat = false) → Q.foldl (sqStep n i) a = xr a (actE Q n (2 ^ i)) := by
  intro Q
  induction Q with
  | nil => intro a _ _ _; exact (xr_zero a).symm
  | cons e Q ih =>
    intro a hQ hnd hf
    have he := hQ e (List.mem_cons_self ..)
    have hnd' := List.nodup_cons.1 hnd
    rw [actE_cons, List.foldl_cons]
    by_cases hm : e.getD 0 0 = (n : Int) ∧ e.getD 1 0 = (i : Int)
    · have h1 : sqStep n i a e = xr a (2 ^ (e.getD 2 0).toNat) := by
        unfold sqStep; rw [if_pos hm]; exact orr_xr (hf e (List.mem_cons_self ..) hm.1 hm.2)
      have h2 : hit (n : Int) (2 ^ i) e = 2 ^ (e.getD 2 0).toNat := by
        unfold hit; rw [if_pos ⟨hm.1, by rw [tb_pow, hm.2]; simp⟩]
      rw [h1, h2, ih _ (fun f hf' => hQ f (List.mem_cons_of_mem _ hf')) hnd'.2, xr_assoc]
      intro f hf' g1 g2
      rw [tb_xr, tb_pow, hf f (List.mem_cons_of_mem _ hf') g1 g2]
      simp only [Bool.false_xor, decide_eq_false_iff_not]
      intro e2
      apply hnd'.1
      have hfe := hQ f (List.mem_cons_of_mem _ hf')
      have : f = e := by
        rw [list3 hfe.len, list3 he.len, g1, g2, hm.1, hm.2]
        have := hfe.lo2; have := he.lo2
        rw [show e.getD 2 0 = f.getD 2 0 by omega]
      rw [← this]; exact hf'
    · have h1 : sqStep n i a e = a := by unfold sqStep; rw [if_neg hm]
      have h2 : hit (n : Int) (2 ^ i) e = 0 := by
        unfold hit; rw [if_neg]
        intro hh
        apply hm
        refine ⟨hh.1, ?_⟩
        have := hh.2
        rw [tb_pow] at this
        simp only [decide_eq_true_eq] at this
        have := he.lo1
        omega
      rw [h1, h2, zero_xr, ih a (fun f hf' => hQ f (List.mem_cons_of_mem _ hf')) hnd'.2 (fun f hf' => hf f (List.mem_cons_of_mem _ hf'))]
theorem sqOr_act (h : Shp xs Q) (n i : Nat) : sqOr Q n i = act Q n (2 ^ i) := by
  unfold sqOr
  by_cases h0 : n = 0
  · subst h0
    rw [if_pos rfl]
    rw [sq_fold (xs := xs) 0 i Q _ (fun e he => h.mem he) h.asc.nodup (fun e he h1 => by have := (h.mem he).pos; omega)]
    rw [actE_big _ _ fun e he => by have := (h.mem he).pos; omega, xr_zero]
    exact (act0 Q _).symm
  · rw [if_neg h0, sq_fold (xs := xs) n i Q _ (fun e he => h.mem he) h.asc.nodup (fun e he _ _ => tb_zero _), zero_xr, act_pos (by omega)]
/-- the product with the rows of a square is the square -/
theorem sq_times (h : Shp xs Q) (n : Nat) {v : Nat} (hv : v < 2 ^ xs.length) : comb (sqRow Q xs.length n) 0 v = act Q n v :=
  lin_ext (f := comb (sqRow Q xs.length n) 0) (g := act Q n) (comb_xr _ 0) (act_lin Q n) xs.length (fun k hk => by
    have := comb_pow (sqRow Q xs.length n) 0 k
    rw [Nat.zero_add] at this
    rw [this, sqRow_getD Q hk, sqOr_act h]) v hv

/-! ### degrees -/
def Hom (xs : List Int) (d : Int) (v : Nat) : Prop := ∀ c, tb v c = true → c < xs.length ∧ xs.getD c 0 = d
theorem Hom.zero (xs : List Int) (d : Int) : Hom xs d 0 := fun c h => by rw [tb_zero] at h; cases h
theorem Hom.xr {d : Int} {v w : Nat} (hv : Hom xs d v) (hw : Hom xs d w) : Hom xs d (xr v w) := fun c h => by
  rw [tb_xr] at h
  cases h1 : tb v c
  · rw [h1] at h; exact hw c (by simpa using h)
  · exact hv c h1
theorem Hom.pow {i : Nat} (hi : i < xs.length) : Hom xs (xs.getD i 0) (2 ^ i) := fun c h => by
  rw [tb_pow] at h; simp only [decide_eq_true_eq] at h; subst h; exact ⟨hi, rfl⟩
theorem Hom.eq_zero {d : Int} {v : Nat} (hv : Hom xs d v) (h : ∀ i, i < xs.length → xs.getD i 0 ≠ d) : v = 0 := eq_of_tb fun c => by
  rw [tb_zero]
  cases hc : tb v c with
  | false => rfl
  | true => exact absurd (hv c hc).2 (h c (hv c hc).1)
theorem Hom.lt {d : Int} {v : Nat} (hv : Hom xs d v) : v < 2 ^ xs.length := lt_of_tb fun m hm => by
  cases hc : tb v m with
  | false => rfl
  | true => have := (hv m hc).1; omega
theorem hom_hit {e : List Int} (he : EntM xs e) (n d : Int) {v : Nat} (hv : Hom xs d v) : Hom xs (d + n) (hit n v e) := by
  unfold hit; split
  · rename_i h
    have h1 := (hv _ h.2).2
    have h2 := he.dg
    rw [h1, h.1] at h2
    rw [← h2]
    exact Hom.pow (by have := he.lo2; have := he.hi2; omega)
  · exact Hom.zero _ _
theorem hom_actE (n d : Int) {v : Nat} (hv : Hom xs d v) : ∀ {Q : List (List Int)}, (∀ e ∈ Q, EntM xs e) → Hom xs (d + n) (actE Q n v)
  | [], _ => Hom.zero _ _
  | e :: Q, h => by
    rw [actE_cons]
    exact (hom_hit (h e (List.mem_cons_self ..)) n d hv).xr (hom_actE n d hv fun f hf => h f (List.mem_cons_of_mem _ hf))
theorem act_hom (h : Shp xs Q) {n d : Int} {v : Nat} (hv : Hom xs d v) : Hom xs (d + n) (act Q n v) := by
  unfold act; split
  · rename_i h0; subst h0; rw [Int.add_zero]; exact hv
  · exact hom_actE n d hv fun e he => h.mem he
theorem Shp.mono (h : Shp xs Q) : ∀ d i, i + d < xs.length → xs.getD i 0 ≤ xs.getD (i + d) 0 := by
  intro d
  induction d with
  | zero => intro i _; exact Int.le_refl _
  | succ d ih => intro i hi; exact Int.le_trans (ih i (by omega)) (h.srt (i + d) (by omega))
theorem Shp.mono' (h : Shp xs Q) {i j : Nat} (hij : i ≤ j) (hj : j < xs.length) : xs.getD i 0 ≤ xs.getD j 0 := by
  have := h.mono (j - i) i (by omega)
  rwa [show i + (j - i) = j by omega] at this

/-! ### Adem's relations -/
def xsumf {α : Type} (f : α → Nat) (l : List α) : Nat := l.foldl (fun x j => xr x (f j)) 0
theorem xsumf_cons {α : Type} (f : α → Nat) (a : α) (l : List α) : xsumf f (a :: l) = xr (f a) (xsumf f l) := by
  unfold xsumf; simp only [List.foldl_cons]; rw [xfold, zero_xr]
theorem xsumf_append {α : Type} (f : α → Nat) (l m : List α) : xsumf f (l ++ m) = xr (xsumf f l) (xsumf f m) := by
  induction l with
  | nil => exact (zero_xr _).symm
  | cons a l ih => rw [List.cons_append, xsumf_cons, xsumf_cons, ih, xr_assoc]
theorem xsumf_reverse {α : Type} (f : α → Nat) (l : List α) : xsumf f l.reverse = xsumf f l := by
  induction l with
  | nil => rfl
  | cons a l ih => rw [List.reverse_cons, xsumf_append, ih, xsumf_cons, xsumf_cons, xr_comm]; simp only [xsumf, List.foldl_nil]; rw [xr_zero]
theorem xsumf_map {α β : Type} (f : β → Nat) (g : α → β) (l : List α) : xsumf f (l.map g) = xsumf (fun a => f (g a)) l := by
  unfold xsumf; rw [List.foldl_map]
theorem xsumf_zero {α : Type} (f : α → Nat) : ∀ (l : List α), (∀ a ∈ l, f a = 0) → xsumf f l = 0
  | [], _ => rfl
  | a :: l, h => by rw [xsumf_cons, h a (List.mem_cons_self ..), xsumf_zero f l fun b hb => h b (List.mem_cons_of_mem _ hb)]; rfl
theorem xsumf_congr {α : Type} {f g : α → Nat} : ∀ (l : List α), (∀ a ∈ l, f a = g a) → xsumf f l = xsumf g l
  | [], _ => rfl
  | a :: l, h => by rw [xsumf_cons, xsumf_cons, h a (List.mem_cons_self ..), xsumf_congr l fun b hb => h b (List.mem_cons_of_mem _ hb)]
/-- does j occur in Adem's relation for a and b? -/
def relB (a b j : Nat) : Bool := an (b - j - 1) (a - 2 * j) == a - 2 * j
def relN (a b : Nat) : List Nat := (List.range (a / 2 + 1)).filter (relB a b)
def adem (Q : List (List Int)) (a b v : Nat) : Nat := xsumf (fun j => act Q ((a + b - j : Nat) : Int) (act Q (j : Int) v)) (relN a b)
def OkAt (Q : List (List Int)) (a b v : Nat) : Prop := act Q (a : Int) (act Q (b : Int) v) = adem Q a b v
structure IsMod (xs : List Int) (Q : List (List Int)) : Prop where
  shp : Shp xs Q
  ok : ∀ a b : Nat, 1 ≤ a → a < 2 * b → a + b ≤ 20 → ∀ i, i < xs.length → OkAt Q a b (2 ^ i)
noncomputable def modB (xs : List Int) (Q : List (List Int)) : Bool := @decide (IsMod xs Q) (Classical.propDecidable _)
theorem modB_iff : modB xs Q = true ↔ IsMod xs Q := by unfold modB; simp
theorem modB_false : modB xs Q = false ↔ ¬ IsMod xs Q := by unfold modB; simp
theorem mem_relN {a b j : Nat} (h : j ∈ relN a b) : 2 * j ≤ a ∧ relB a b j = true := by
  unfold relN at h
  rw [List.mem_filter, List.mem_range] at h
  exact ⟨by omega, h.2⟩
/-- beyond the span of the degrees nothing is left of two squares -/
theorem far_zero (h : Shp xs Q) {a b i : Nat} (hi : i < xs.length) (hs : ∀ j, j < xs.length → xs.getD j 0 < xs.getD i 0 + a + b) (c e : Nat) (hc : c + e = a + b) : act Q (c : Int) (act Q (e : Int) (2 ^ i)) = 0 := by
  have h1 := act_hom h (n := (c : Int)) (act_hom h (n := (e : Int)) (Hom.pow hi))
  exact h1.eq_zero fun j hj => by have := hs j hj; omega
theorem far_ok (h : Shp xs Q) {a b i : Nat} (hi : i < xs.length) (hab : a < 2 * b) (hs : ∀ j, j < xs.length → xs.getD j 0 < xs.getD i 0 + a + b) : OkAt Q a b (2 ^ i) := by
  unfold OkAt adem
  rw [far_zero h hi hs a b rfl, xsumf_zero]
  intro j hj
  have := (mem_relN hj).1
  exact far_zero h hi hs _ _ (by omega)
/-- the words of Adem's relation, in order -/
def ademW (a b j : Nat) : List Int := if j = 0 then [((a + b : Nat) : Int)] else [((a + b - j : Nat) : Int), (j : Int)]
def wordM (Q : List (List Int)) (w : List Int) (v : Nat) : Nat := w.foldr (fun n v => act Q n v) v
theorem wordM_adem (Q : List (List Int)) (a b j v : Nat) : wordM Q (ademW a b j) v = act Q ((a + b - j : Nat) : Int) (act Q (j : Int) v) := by
  unfold ademW; split
  · rename_i h; subst h; simp only [wordM, List.foldr_cons, List.foldr_nil, Int.natCast_zero]; rw [act0]; rfl
  · rfl
def ademF (a b : Nat) : List (List Int) := ((relN a b).reverse).map (ademW a b)
theorem adem_form (Q : List (List Int)) (a b v : Nat) : xsumf (fun w => wordM Q w v) (ademF a b) = adem Q a b v := by
  unfold ademF adem
  rw [xsumf_map, xsumf_reverse]
  exact xsumf_congr _ fun j _ => wordM_adem Q a b j v
end
end Go.Proofs.Ytocllmhkppkfoaa
