/- modules: what they are (no program in sight) · masks as lists of digits (no program in sight) · vectors, their masks, maps of modules (no program in sight) -/
import Derived.Test.YtpchigdhnnkpcaaGreatDoorZae
namespace Go.Proofs.YtpchigdhnnkpcaaGreatDoor

/-! ### lists of numbers in order -/
def lexLt : List Int → List Int → Bool
  | [], [] => false
  | [], _ :: _ => true
  | _ :: _, [] => false
  | a :: x, b :: y => if a = b then lexLt x y else decide (a < b)
theorem lexLt_irrefl : ∀ x, lexLt x x = false
  | [] => rfl
  | a :: x => by simp only [lexLt, if_true]; exact lexLt_irrefl x
theorem lexLt_trans : ∀ {x y z : List Int}, lexLt x y = true → lexLt y z = true → lexLt x z = true
  | [], [], _, h, _ => by simp [lexLt] at h
  | [], _ :: _, [], _, h => by simp [lexLt] at h
  | [], _ :: _, _ :: _, _, _ => rfl
  | _ :: _, [], _, h, _ => by simp [lexLt] at h
  | _ :: _, _ :: _, [], _, h => by simp [lexLt] at h
  | a :: x, b :: y, c :: z, h1, h2 => by
    simp only [lexLt] at h1 h2 ⊢
    by_cases e1 : a = b
    · rw [if_pos e1] at h1
      by_cases e2 : b = c
      · rw [if_pos e2] at h2; rw [if_pos (e1.trans e2)]; exact lexLt_trans h1 h2
      · rw [if_neg e2] at h2; rw [if_neg (by rw [e1]; exact e2), e1]; exact h2
    · rw [if_neg e1] at h1
      simp only [decide_eq_true_eq] at h1
      by_cases e2 : b = c
      · rw [if_neg (by omega)]; simp; omega
      · rw [if_neg e2] at h2; simp only [decide_eq_true_eq] at h2; rw [if_neg (by omega)]; simp; omega
def AscP (Q : List (List Int)) : Prop := ∀ i, i + 1 < Q.length → lexLt (Q.getD i []) (Q.getD (i + 1) []) = true
theorem AscP.lt {Q : List (List Int)} (h : AscP Q) : ∀ d i, i + d + 1 < Q.length → lexLt (Q.getD i []) (Q.getD (i + d + 1) []) = true := by
  intro d
  induction d with
  | zero => intro i hi; exact h i hi
  | succ d ih => intro i hi; exact lexLt_trans (ih i (by omega)) (h (i + d + 1) (by omega))
theorem AscP.nodup {Q : List (List Int)} (h : AscP Q) : Q.Nodup := by
  rw [List.nodup_iff_pairwise_ne, List.pairwise_iff_getElem]
  intro i j hi hj hij e
  have := h.lt (j - i - 1) i (by omega)
  rw [show i + (j - i - 1) + 1 = j by omega] at this
  simp only [List.getD, List.getElem?_eq_getElem hi, List.getElem?_eq_getElem hj, Option.getD_some] at this
  rw [e, lexLt_irrefl] at this; cases this

/-! ### what a square makes of a mask -/
def hit (n : Int) (v : Nat) (e : List Int) : Nat := if e.getD 0 0 = n ∧ tb v (e.getD 1 0).toNat = true then 2 ^ (e.getD 2 0).toNat else 0
def actE (Q : List (List Int)) (n : Int) (v : Nat) : Nat := Q.foldl (fun a e => xr a (hit n v e)) 0
def act (Q : List (List Int)) (n : Int) (v : Nat) : Nat := if n = 0 then v else actE Q n v
theorem hit_lin (n : Int) (v w : Nat) (e : List Int) : hit n (xr v w) e = xr (hit n v e) (hit n w e) := by
  unfold hit
  rw [tb_xr]
  by_cases h : e.getD 0 0 = n
  · rw [h]
    cases tb v (e.getD 1 0).toNat <;> cases tb w (e.getD 1 0).toNat <;> simp [xr_self, xr_zero, zero_xr]
  · rw [if_neg (fun hh => h hh.1), if_neg (fun hh => h hh.1), if_neg (fun hh => h hh.1)]; rfl
theorem xfold {α : Type} (f : α → Nat) : ∀ (Q : List α) (a : Nat), Q.foldl (fun a e => xr a (f e)) a = xr a (Q.foldl (fun a e => xr a (f e)) 0) := by
  intro Q
  induction Q with
  | nil => intro a; exact (xr_zero a).symm
  | cons e Q ih => intro a; simp only [List.foldl_cons]; rw [ih, ih (xr 0 (f e)), zero_xr, xr_assoc]
theorem actE_cons (e : List Int) (Q : List (List Int)) (n : Int) (v : Nat) : actE (e :: Q) n v = xr (hit n v e) (actE Q n v) := by
  unfold actE; simp only [List.foldl_cons]; rw [xfold, zero_xr]
theorem actE_lin (Q : List (List Int)) (n : Int) (v w : Nat) : actE Q n (xr v w) = xr (actE Q n v) (actE Q n w) := by
  induction Q with
  | nil => exact (xr_self 0).symm
  | cons e Q ih => rw [actE_cons, actE_cons, actE_cons, ih, hit_lin]; simp only [xr_assoc]; rw [xr_left (hit n w e)]
theorem act_lin (Q : List (List Int)) (n : Int) (v w : Nat) : act Q n (xr v w) = xr (act Q n v) (act Q n w) := by
  unfold act; split
  · rfl
  · exact actE_lin Q n v w
theorem act_zero (Q : List (List Int)) (n : Int) : act Q n 0 = 0 := by have := act_lin Q n 0 0; rw [xr_self, xr_self] at this; exact this
theorem act0 (Q : List (List Int)) (v : Nat) : act Q 0 v = v := by unfold act; rw [if_pos rfl]
theorem act_pos {n : Int} (h : n ≠ 0) (Q : List (List Int)) (v : Nat) : act Q n v = actE Q n v := by unfold act; rw [if_neg h]

/-! ### shapes of modules -/
structure EntM (xs : List Int) (e : List Int) : Prop where
  len : e.length = 3
  pos : 1 ≤ e.getD 0 0
  lo1 : 0 ≤ e.getD 1 0
  hi1 : e.getD 1 0 < xs.length
  lo2 : 0 ≤ e.getD 2 0
  hi2 : e.getD 2 0 < xs.length
  dg : xs.getD (e.getD 2 0).toNat 0 = xs.getD (e.getD 1 0).toNat 0 + e.getD 0 0
structure Shp (xs : List Int) (Q : List (List Int)) : Prop where
  len : xs.length ≤ 16
  deg : ∀ i, i < xs.length → 0 ≤ xs.getD i 0 ∧ xs.getD i 0 ≤ 20
  srt : ∀ i, i + 1 < xs.length → xs.getD i 0 ≤ xs.getD (i + 1) 0
  asc : AscP Q
  ent : ∀ k, k < Q.length → EntM xs (Q.getD k [])
theorem getD_of_mem {Q : List (List Int)} {e : List Int} (h : e ∈ Q) : ∃ k, k < Q.length ∧ Q.getD k [] = e := by
  obtain ⟨k, hk, rfl⟩ := List.getElem_of_mem h
  exact ⟨k, hk, by simp [List.getD, hk]⟩
section
variable {xs : List Int} {Q : List (List Int)}
theorem Shp.mem (h : Shp xs Q) {e : List Int} (he : e ∈ Q) : EntM xs e := by
  obtain ⟨k, hk, rfl⟩ := getD_of_mem he
  exact h.ent k hk
theorem EntM.le20 (hd : ∀ i, i < xs.length → 0 ≤ xs.getD i 0 ∧ xs.getD i 0 ≤ 20) {e : List Int} (h : EntM xs e) : e.getD 0 0 ≤ 20 := by
  have h1 := hd (e.getD 2 0).toNat (by have := h.lo2; have := h.hi2; omega)
  have h2 := hd (e.getD 1 0).toNat (by have := h.lo1; have := h.hi1; omega)
  have := h.dg
  omega
theorem Shp.le20 (h : Shp xs Q) {e : List Int} (he : e ∈ Q) : e.getD 0 0 ≤ 20 := (h.mem he).le20 h.deg
theorem pow_lt_pow {a b : Nat} (h : a < b) : 2 ^ a < 2 ^ b := Nat.pow_lt_pow_right (by omega) h
theorem xr_lt {a b n : Nat} (ha : a < 2 ^ n) (hb : b < 2 ^ n) : xr a b < 2 ^ n := Nat.xor_lt_two_pow ha hb
theorem hit_lt {e : List Int} (h : EntM xs e) (n : Int) (v : Nat) : hit n v e < 2 ^ xs.length := by
  unfold hit; split
  · exact pow_lt_pow (by have := h.lo2; have := h.hi2; omega)
  · exact Nat.two_pow_pos _
theorem actE_lt (n : Int) (v : Nat) : ∀ {Q : List (List Int)}, (∀ e ∈ Q, EntM xs e) → actE Q n v < 2 ^ xs.length
  | [], _ => Nat.two_pow_pos _
  | e :: Q, h => by
    rw [actE_cons]
    exact xr_lt (hit_lt (h e (List.mem_cons_self ..)) n v) (actE_lt n v fun f hf => h f (List.mem_cons_of_mem _ hf))
theorem act_lt (h : Shp xs Q) {v : Nat} (hv : v < 2 ^ xs.length) (n : Int) : act Q n v < 2 ^ xs.length := by
  unfold act; split
  · exact hv
  · exact actE_lt n v fun e he => h.mem he
theorem actE_big (n : Int) (v : Nat) : ∀ {Q : List (List Int)}, (∀ e ∈ Q, e.getD 0 0 ≠ n) → actE Q n v = 0
  | [], _ => rfl
  | e :: Q, h => by
    rw [actE_cons, actE_big n v fun f hf => h f (List.mem_cons_of_mem _ hf)]
    unfold hit
    rw [if_neg (fun hh => h e (List.mem_cons_self ..) hh.1)]; rfl
theorem act_big (h : Shp xs Q) {n : Int} (hn : 20 < n) (v : Nat) : act Q n v = 0 := by
  rw [act_pos (by omega)]
  exact actE_big n v fun e he => by have := h.le20 he; omega
theorem act_neg (h : Shp xs Q) {n : Int} (hn : n < 0) (v : Nat) : act Q n v = 0 := by
  rw [act_pos (by omega)]
  exact actE_big n v fun e he => by have := (h.mem he).pos; omega

/-! ### the table of squares -/
def sqStep (n i : Nat) (a : Nat) (e : List Int) : Nat := if e.getD 0 0 = (n : Int) ∧ e.getD 1 0 = (i : Int) then orr a (2 ^ (e.getD 2 0).toNat) else a
def sqOr (Q : List (List Int)) (n i : Nat) : Nat := Q.foldl (sqStep n i) (if n = 0 then 2 ^ i else 0)
def sqRow (Q : List (List Int)) (size n : Nat) : List Nat := (List.range size).map (sqOr Q n)
theorem sqRow_length (Q : List (List Int)) (size n : Nat) : (sqRow Q size n).length = size := by simp [sqRow]
theorem sqRow_getD (Q : List (List Int)) {size n i : Nat} (h : i < size) : (sqRow Q size n).getD i 0 = sqOr Q n i := by simp [sqRow, List.getD, h]
theorem orr_xr {a c : Nat} (h : tb a c = false) : orr a (2 ^ c) = xr a (2 ^ c) := by
  apply eq_of_tb
  intro n
  rw [tb_xr, tb_pow]
  unfold orr tb
  rw [Nat.testBit_or, Nat.testBit_two_pow]
  by_cases e : c = n
  · subst e; unfold tb at h; rw [h]; simp
  · simp [e]
theorem list3 {e : List Int} (h : e.length = 3) : e = [e.getD 0 0, e.getD 1 0, e.getD 2 0] := by
  match e, h with
  | [a, b, c], _ => rfl
theorem sq_fold (n i : Nat) : ∀ (Q : List (List Int)) (a : Nat), (∀ e ∈ Q, EntM xs e) → Q.Nodup → (∀ e ∈ Q, e.getD 0 0 = (n : Int) → e.getD 1 0 = (i : Int) → tb a (e.getD 2 0).toNat = false) → Q.foldl (sqStep n i) a = xr a (actE Q n (2 ^ i)) := by
  intro Q
  induction Q with
  | nil => intro a _ _ _; exact (xr_zero a).symm
  | cons e Q ih =>
    intro a hQ hnd hf
    have he := hQ e (List.mem_cons_self ..)
    have hnd' := List.nodup_cons.1 hnd
    rw [actE_cons, List.foldl_cons]
    by_cases hm : e.getD 0 0 = (n : Int) ∧ e.getD 1 0 = (i : Int)
    · have h1 : sqStep n i a e = xr a (2 ^ (e.getD 2 0).toNat) := by
        unfold sqStep; rw [if_pos hm]; exact orr_xr (hf e (List.mem_cons_self ..) hm.1 hm.2)
      have h2 : hit (n : Int) (2 ^ i) e = 2 ^ (e.getD 2 0).toNat := by
        unfold hit; rw [if_pos ⟨hm.1, by rw [tb_pow, hm.2]; simp⟩]
      rw [h1, h2, ih _ (fun f hf' => hQ f (List.mem_cons_of_mem _ hf')) hnd'.2, xr_assoc]
      intro f hf' g1 g2
      rw [tb_xr, tb_pow, hf f (List.mem_cons_of_mem _ hf') g1 g2]
      simp only [Bool.false_xor, decide_eq_false_iff_not]
      intro e2
      apply hnd'.1
      have hfe := hQ f (List.mem_cons_of_mem _ hf')
      have : f = e := by
        rw [list3 hfe.len, list3 he.len, g1, g2, hm.1, hm.2]
        have := hfe.lo2; have := he.lo2
        rw [show e.getD 2 0 = f.getD 2 0 by omega]
      rw [← this]; exact hf'
    · have h1 : sqStep n i a e = a := by unfold sqStep; rw [if_neg hm]
      have h2 : hit (n : Int) (2 ^ i) e = 0 := by
        unfold hit; rw [if_neg]
        intro hh
        apply hm
        refine ⟨hh.1, ?_⟩
        have := hh.2
        rw [tb_pow] at this
        simp only [decide_eq_true_eq] at this
        have := he.lo1
        omega
      rw [h1, h2, zero_xr, ih a (fun f hf' => hQ f (List.mem_cons_of_mem _ hf')) hnd'.2 (fun f hf' => hf f (List.mem_cons_of_mem _ hf'))]
theorem sqOr_act (h : Shp xs Q) (n i : Nat) : sqOr Q n i = act Q n (2 ^ i) := by
  unfold sqOr
  by_cases h0 : n = 0
  · subst h0
    rw [if_pos rfl]
    rw [sq_fold (xs := xs) 0 i Q _ (fun e he => h.mem he) h.asc.nodup (fun e he h1 => by have := (h.mem he).pos; omega)]
    rw [actE_big _ _ fun e he => by have := (h.mem he).pos; omega, xr_zero]
    exact (act0 Q _).symm
  · rw [if_neg h0, sq_fold (xs := xs) n i Q _ (fun e he => h.mem he) h.asc.nodup (fun e he _ _ => tb_zero _), zero_xr, act_pos (by omega)]
/-- the product with the rows of a square is the square -/
theorem sq_times (h : Shp xs Q) (n : Nat) {v : Nat} (hv : v < 2 ^ xs.length) : comb (sqRow Q xs.length n) 0 v = act Q n v :=
  lin_ext (f := comb (sqRow Q xs.length n) 0) (g := act Q n) (comb_xr _ 0) (act_lin Q n) xs.length (fun k hk => by
    have := comb_pow (sqRow Q xs.length n) 0 k
    rw [Nat.zero_add] at this
    rw [this, sqRow_getD Q hk, sqOr_act h]) v hv

/-! ### degrees -/
def Hom (xs : List Int) (d : Int) (v : Nat) : Prop := ∀ c, tb v c = true → c < xs.length ∧ xs.getD c 0 = d
theorem Hom.zero (xs : List Int) (d : Int) : Hom xs d 0 := fun c h => by rw [tb_zero] at h; cases h
theorem Hom.xr {d : Int} {v w : Nat} (hv : Hom xs d v) (hw : Hom xs d w) : Hom xs d (xr v w) := fun c h => by
  rw [tb_xr] at h
  cases h1 : tb v c
  · rw [h1] at h; exact hw c (by simpa using h)
  · exact hv c h1
theorem Hom.pow {i : Nat} (hi : i < xs.length) : Hom xs (xs.getD i 0) (2 ^ i) := fun c h => by
  rw [tb_pow] at h; simp only [decide_eq_true_eq] at h; subst h; exact ⟨hi, rfl⟩
theorem Hom.eq_zero {d : Int} {v : Nat} (hv : Hom xs d v) (h : ∀ i, i < xs.length → xs.getD i 0 ≠ d) : v = 0 := eq_of_tb fun c => by
  rw [tb_zero]
  cases hc : tb v c with
  | false => rfl
  | true => exact absurd (hv c hc).2 (h c (hv c hc).1)
theorem Hom.lt {d : Int} {v : Nat} (hv : Hom xs d v) : v < 2 ^ xs.length := lt_of_tb fun m hm => by
  cases hc : tb v m with
  | false => rfl
  | true => have := (hv m hc).1; omega
theorem hom_hit {e : List Int} (he : EntM xs e) (n d : Int) {v : Nat} (hv : Hom xs d v) : Hom xs (d + n) (hit n v e) := by
  unfold hit; split
  · rename_i h
    have h1 := (hv _ h.2).2
    have h2 := he.dg
    rw [h1, h.1] at h2
    rw [← h2]
    exact Hom.pow (by have := he.lo2; have := he.hi2; omega)
  · exact Hom.zero _ _
theorem hom_actE (n d : Int) {v : Nat} (hv : Hom xs d v) : ∀ {Q : List (List Int)}, (∀ e ∈ Q, EntM xs e) → Hom xs (d + n) (actE Q n v)
  | [], _ => Hom.zero _ _
  | e :: Q, h => by
    rw [actE_cons]
    exact (hom_hit (h e (List.mem_cons_self ..)) n d hv).xr (hom_actE n d hv fun f hf => h f (List.mem_cons_of_mem _ hf))
theorem act_hom (h : Shp xs Q) {n d : Int} {v : Nat} (hv : Hom xs d v) : Hom xs (d + n) (act Q n v) := by
  unfold act; split
  · rename_i h0; subst h0; rw [Int.add_zero]; exact hv
  · exact hom_actE n d hv fun e he => h.mem he
theorem Shp.mono (h : Shp xs Q) : ∀ d i, i + d < xs.length → xs.getD i 0 ≤ xs.getD (i + d) 0 := by
  intro d
  induction d with
  | zero => intro i _; exact Int.le_refl _
  | succ d ih => intro i hi; exact Int.le_trans (ih i (by omega)) (h.srt (i + d) (by omega))
theorem Shp.mono' (h : Shp xs Q) {i j : Nat} (hij : i ≤ j) (hj : j < xs.length) : xs.getD i 0 ≤ xs.getD j 0 := by
  have := h.mono (j - i) i (by omega)
  rwa [show i + (j - i) = j by omega] at this

/-! ### Adem's relations -/
def xsumf {α : Type} (f : α → Nat) (l : List α) : Nat := l.foldl (fun x j => xr x (f j)) 0
theorem xsumf_cons {α : Type} (f : α → Nat) (a : α) (l : List α) : xsumf f (a :: l) = xr (f a) (xsumf f l) := by
  unfold xsumf; simp only [List.foldl_cons]; rw [xfold, zero_xr]
theorem xsumf_append {α : Type} (f : α → Nat) (l m : List α) : xsumf f (l ++ m) = xr (xsumf f l) (xsumf f m) := by
  induction l with
  | nil => exact (zero_xr _).symm
  | cons a l ih => rw [List.cons_append, xsumf_cons, xsumf_cons, ih, xr_assoc]
theorem xsumf_reverse {α : Type} (f : α → Nat) (l : List α) : xsumf f l.reverse = xsumf f l := by
  induction l with
  | nil => rfl
  | cons a l ih => rw [List.reverse_cons, xsumf_append, ih, xsumf_cons, xsumf_cons, xr_comm]; simp only [xsumf, List.foldl_nil]; rw [xr_zero]
theorem xsumf_map {α β : Type} (f : β → Nat) (g : α → β) (l : List α) : xsumf f (l.map g) = xsumf (fun a => f (g a)) l := by
  unfold xsumf; rw [List.foldl_map]
theorem xsumf_zero {α : Type} (f : α → Nat) : ∀ (l : List α), (∀ a ∈ l, f a = 0) → xsumf f l = 0
  | [], _ => rfl
  | a :: l, h => by rw [xsumf_cons, h a (List.mem_cons_self ..), xsumf_zero f l fun b hb => h b (List.mem_cons_of_mem _ hb)]; rfl
theorem xsumf_congr {α : Type} {f g : α → Nat} : ∀ (l : List α), (∀ a ∈ l, f a = g a) → xsumf f l = xsumf g l
  | [], _ => rfl
  | a :: l, h => by rw [xsumf_cons, xsumf_cons, h a (List.mem_cons_self ..), xsumf_congr l fun b hb => h b (List.mem_cons_of_mem _ hb)]
/-- does j occur in Adem's relation for a and b? -/
def relB (a b j : Nat) : Bool := an (b - j - 1) (a - 2 * j) == a - 2 * j
def relN (a b : Nat) : List Nat := (List.range (a / 2 + 1)).filter (relB a b)
def adem (Q : List (List Int)) (a b v : Nat) : Nat := xsumf (fun j => act Q ((a + b - j : Nat) : Int) (act Q (j : Int) v)) (relN a b)
def OkAt (Q : List (List Int)) (a b v : Nat) : Prop := act Q (a : Int) (act Q (b : Int) v) = adem Q a b v
structure IsMod (xs : List Int) (Q : List (List Int)) : Prop where
  shp : Shp xs Q
  ok : ∀ a b : Nat, 1 ≤ a → a < 2 * b → a + b ≤ 20 → ∀ i, i < xs.length → OkAt Q a b (2 ^ i)
noncomputable def modB (xs : List Int) (Q : List (List Int)) : Bool := @decide (IsMod xs Q) (Classical.propDecidable _)
theorem modB_iff : modB xs Q = true ↔ IsMod xs Q := by unfold modB; simp
theorem modB_false : modB xs Q = false ↔ ¬ IsMod xs Q := by unfold modB; simp
theorem mem_relN {a b j : Nat} (h : j ∈ relN a b) : 2 * j ≤ a ∧ relB a b j = true := by
  unfold relN at h
  rw [List.mem_filter, List.mem_range] at h
  exact ⟨by omega, h.2⟩
/-- beyond the span of the degrees nothing is left of two squares -/
theorem far_zero (h : Shp xs Q) {a b i : Nat} (hi : i < xs.length) (hs : ∀ j, j < xs.length → xs.getD j 0 < xs.getD i 0 + a + b) (c e : Nat) (hc : c + e = a + b) : act Q (c : Int) (act Q (e : Int) (2 ^ i)) = 0 := by
  have h1 := act_hom h (n := (c : Int)) (act_hom h (n := (e : Int)) (Hom.pow hi))
  exact h1.eq_zero fun j hj => by have := hs j hj; omega
theorem far_ok (h : Shp xs Q) {a b i : Nat} (hi : i < xs.length) (hab : a < 2 * b) (hs : ∀ j, j < xs.length → xs.getD j 0 < xs.getD i 0 + a + b) : OkAt Q a b (2 ^ i) := by
  unfold OkAt adem
  rw [far_zero h hi hs a b rfl, xsumf_zero]
  intro j hj
  have := (mem_relN hj).1
  exact far_zero h hi hs _ _ (by omega)
/-- the words of Adem's relation, in order -/
def ademW (a b j : Nat) : List Int := if j = 0 then [((a + b : Nat) : Int)] else [((a + b - j : Nat) : Int), (j : Int)]
def wordM (Q : List (List Int)) (w : List Int) (v : Nat) : Nat := w.foldr (fun n v => act Q n v) v
theorem wordM_adem (Q : List (List Int)) (a b j v : Nat) : wordM Q (ademW a b j) v = act Q ((a + b - j : Nat) : Int) (act Q (j : Int) v) := by
  unfold ademW; split
  · rename_i h; subst h; simp only [wordM, List.foldr_cons, List.foldr_nil, Int.natCast_zero]; rw [act0]; rfl
  · rfl
def ademF (a b : Nat) : List (List Int) := ((relN a b).reverse).map (ademW a b)
theorem adem_form (Q : List (List Int)) (a b v : Nat) : xsumf (fun w => wordM Q w v) (ademF a b) = adem Q a b v := by
  unfold ademF adem
  rw [xsumf_map, xsumf_reverse]
  exact xsumf_congr _ fun j _ => wordM_adem Q a b j v
end
end Go.Proofs.YtpchigdhnnkpcaaGreatDoor

namespace Go.Proofs.YtpchigdhnnkpcaaGreatDoor

def bit (v i : Nat) : Int := if tb v i = true then 1 else 0
theorem bit_bd (v i : Nat) : 0 ≤ bit v i ∧ bit v i ≤ 1 := by unfold bit; split <;> omega
theorem bit_one {v i : Nat} (h : tb v i = true) : bit v i = 1 := by unfold bit; rw [if_pos h]
theorem bit_none {v i : Nat} (h : tb v i = false) : bit v i = 0 := by unfold bit; rw [if_neg (by rw [h]; simp)]
theorem bit_iff (v i : Nat) : bit v i = 1 ↔ tb v i = true := by unfold bit; split <;> simp_all
theorem bit_xr (v w i : Nat) : bit (xr v w) i = (bit v i + bit w i) % 2 := by
  unfold bit; rw [tb_xr]; cases tb v i <;> cases tb w i <;> simp
def bitsL (v n : Nat) : List Int := (List.range n).map (bit v)
theorem bitsL_length (v n : Nat) : (bitsL v n).length = n := by simp [bitsL]
theorem bitsL_getD (v : Nat) {n i : Nat} (h : i < n) : (bitsL v n).getD i 0 = bit v i := by simp [bitsL, List.getD, h]
theorem list_ext_getD {x y : List Int} {n : Nat} (hx : x.length = n) (hy : y.length = n) (h : ∀ i, i < n → x.getD i 0 = y.getD i 0) : x = y := by
  apply List.ext_getElem (by omega)
  intro i h1 h2
  have := h i (by omega)
  simpa [List.getD, h1, h2] using this
theorem bitsL_inj {v w n : Nat} (hv : v < 2 ^ n) (hw : w < 2 ^ n) (h : bitsL v n = bitsL w n) : v = w := eq_of_tb fun m => by
  rcases Nat.lt_or_ge m n with hm | hm
  · have e : bit v m = bit w m := by rw [← bitsL_getD v hm, ← bitsL_getD w hm, h]
    cases h1 : tb v m <;> cases h2 : tb w m <;> simp [bit, h1, h2] at e <;> rfl
  · rw [tb_of_lt hv hm, tb_of_lt hw hm]
theorem bitsL_zero (n : Nat) : bitsL 0 n = List.replicate n 0 := list_ext_getD (bitsL_length _ _) (by simp) fun i hi => by
  rw [bitsL_getD _ hi, bit_none (tb_zero i)]; simp [List.getD, hi]
theorem set_getD (x : List Int) (c i : Nat) (y : Int) (hc : c < x.length) : (x.set c y).getD i 0 = if i = c then y else x.getD i 0 := by
  simp only [List.getD, List.getElem?_set]
  by_cases h : c = i
  · subst h; simp [hc]
  · simp [h, Ne.symm h]
theorem bitsL_flip (v : Nat) {n c : Nat} (h : c < n) : (bitsL v n).set c (1 - bit v c) = bitsL (xr v (2 ^ c)) n := list_ext_getD (by simp [bitsL_length]) (bitsL_length _ _) fun i hi => by
  rw [set_getD _ _ _ _ (by rw [bitsL_length]; exact h), bitsL_getD _ hi, bitsL_getD _ hi]
  unfold bit
  rw [tb_xr, tb_pow]
  by_cases e : i = c
  · subst e; simp; cases tb v i <;> simp
  · rw [if_neg e]; simp [show ¬ c = i from fun x => e x.symm]
theorem bitsL_unit {n k : Nat} (hk : k < n) : (List.replicate n (0 : Int)).set k 1 = bitsL (2 ^ k) n := by
  have := bitsL_flip 0 hk
  rw [bit_none (tb_zero k), zero_xr, bitsL_zero] at this
  simpa using this
theorem take_succ_getD {x : List Int} {k : Nat} (h : k < x.length) : x.take (k + 1) = x.take k ++ [x.getD k 0] := by
  rw [List.take_succ_eq_append_getElem h]; simp [List.getD, h]
theorem bitsL_take (v : Nat) {n k : Nat} (h : k < n) : (bitsL v n).take (k + 1) = (bitsL v n).take k ++ [bit v k] := by
  rw [take_succ_getD (by rw [bitsL_length]; exact h), bitsL_getD _ h]
end Go.Proofs.YtpchigdhnnkpcaaGreatDoor

namespace Go.Proofs.YtpchigdhnnkpcaaGreatDoor

/-! ### the mask of a list of digits -/
def mk : List Int → Nat
  | [] => 0
  | x :: v => (if x = 1 then 1 else 0) + 2 * mk v
theorem tb_mk : ∀ (v : List Int) (i : Nat), tb (mk v) i = decide (v.getD i 0 = 1)
  | [], i => by simp [mk, tb_zero]
  | x :: v, 0 => by
    unfold tb mk
    rw [Nat.testBit_zero]
    by_cases h : x = 1 <;> simp [h] <;> omega
  | x :: v, i + 1 => by
    have := tb_mk v i
    unfold tb at this ⊢
    rw [Nat.testBit_succ, show mk (x :: v) / 2 = mk v by rw [show mk (x :: v) = (if x = 1 then 1 else 0) + 2 * mk v from rfl]; split <;> omega, this]
    simp
theorem mk_lt (v : List Int) : mk v < 2 ^ v.length := lt_of_tb fun m hm => by
  rw [tb_mk]; simp [List.getD, List.getElem?_eq_none hm]
theorem mk_bits {v n : Nat} (h : v < 2 ^ n) : mk (bitsL v n) = v := eq_of_tb fun i => by
  rw [tb_mk]
  rcases Nat.lt_or_ge i n with hi | hi
  · rw [bitsL_getD _ hi]
    cases hb : tb v i
    · rw [bit_none hb]; rfl
    · rw [bit_one hb]; rfl
  · rw [tb_of_lt h hi]
    simp [List.getD, List.getElem?_eq_none (show (bitsL v n).length ≤ i by rw [bitsL_length]; exact hi)]
/-- is a list a vector of n digits? -/
def vecB (n : Nat) (v : List Int) : Bool := (v.all fun x => decide (0 ≤ x) && decide (x ≤ 1)) && decide (v.length = n)
theorem vecB_iff {n : Nat} {v : List Int} : vecB n v = true ↔ v.length = n ∧ ∀ i, i < v.length → 0 ≤ v.getD i 0 ∧ v.getD i 0 ≤ 1 := by
  unfold vecB
  rw [Bool.and_eq_true, List.all_eq_true, decide_eq_true_eq]
  constructor
  · rintro ⟨h1, h2⟩
    refine ⟨h2, fun i hi => ?_⟩
    have := h1 (v[i]) (List.getElem_mem hi)
    simpa [List.getD, hi] using this
  · rintro ⟨h1, h2⟩
    refine ⟨fun x hx => ?_, h1⟩
    obtain ⟨i, hi, rfl⟩ := List.getElem_of_mem hx
    simpa [List.getD, hi] using h2 i hi
theorem vec_bits {n : Nat} {v : List Int} (h : vecB n v = true) : v = bitsL (mk v) n ∧ mk v < 2 ^ n := by
  obtain ⟨h1, h2⟩ := vecB_iff.1 h
  refine ⟨list_ext_getD h1 (bitsL_length _ _) fun i hi => ?_, by have := mk_lt v; rwa [h1] at this⟩
  rw [bitsL_getD _ hi]
  obtain ⟨a, b⟩ := h2 i (by omega)
  unfold bit
  rw [tb_mk]
  by_cases e : v.getD i 0 = 1
  · rw [if_pos (by simpa using e)]; exact e
  · rw [if_neg (by simpa using e)]; omega
theorem vecB_bits {v n : Nat} : vecB n (bitsL v n) = true := vecB_iff.2 ⟨bitsL_length _ _, fun i hi => by
  rw [bitsL_length] at hi
  rw [bitsL_getD _ hi]; exact bit_bd v i⟩
theorem mk_take {v : List Int} {k : Nat} (hk : k < v.length) : mk (v.take (k + 1)) = orr (mk (v.take k)) (if v.getD k 0 = 1 then 2 ^ k else 0) := by
  apply eq_of_tb
  intro i
  have e : ∀ j, (v.take j).getD i 0 = if i < j then v.getD i 0 else 0 := fun j => by
    simp only [List.getD, List.getElem?_take]; split <;> rfl
  unfold orr
  rw [show tb (mk (v.take k) ||| (if v.getD k 0 = 1 then 2 ^ k else 0)) i = (tb (mk (v.take k)) i || tb (if v.getD k 0 = 1 then 2 ^ k else 0) i) by unfold tb; exact Nat.testBit_or ..]
  rw [tb_mk, tb_mk, e, e]
  by_cases h : v.getD k 0 = 1
  · rw [if_pos h, tb_pow]
    by_cases hi : i < k
    · simp [hi, show i < k + 1 by omega, show ¬ k = i by omega]
    · by_cases hik : i = k
      · subst hik; have h' := h; simp only [List.getD_eq_getElem?_getD] at h'; simp [h']
      · simp [hi, show ¬ i < k + 1 by omega, show ¬ k = i by omega]
  · rw [if_neg h, tb_zero]
    by_cases hi : i < k
    · simp [hi, show i < k + 1 by omega]
    · by_cases hik : i = k
      · subst hik; have h' := h; simp only [List.getD_eq_getElem?_getD] at h'; simp [h']
      · simp [hi, show ¬ i < k + 1 by omega]

/-! ### the digits of a degree -/
def dmTo (xs : List Int) (d : Int) : Nat → Nat
  | 0 => 0
  | k + 1 => if xs.getD k 0 = d then orr (dmTo xs d k) (2 ^ k) else dmTo xs d k
def dmask (xs : List Int) (d : Int) : Nat := dmTo xs d xs.length
theorem tb_orr (a b i : Nat) : tb (orr a b) i = (tb a i || tb b i) := by unfold tb orr; exact Nat.testBit_or ..
theorem tb_dmTo (xs : List Int) (d : Int) : ∀ k i, tb (dmTo xs d k) i = (decide (i < k) && decide (xs.getD i 0 = d))
  | 0, i => by simp [dmTo, tb_zero]
  | k + 1, i => by
    unfold dmTo
    by_cases h : xs.getD k 0 = d
    · rw [if_pos h, tb_orr, tb_dmTo xs d k, tb_pow]
      by_cases hi : i < k
      · simp [hi, show i < k + 1 by omega, show ¬ k = i by omega]
      · by_cases hik : i = k
        · subst hik; have h' := h; simp only [List.getD_eq_getElem?_getD] at h'; simp [h']
        · simp [hi, show ¬ i < k + 1 by omega, show ¬ k = i by omega]
    · rw [if_neg h, tb_dmTo xs d k]
      by_cases hi : i < k
      · simp [hi, show i < k + 1 by omega]
      · by_cases hik : i = k
        · subst hik; have h' := h; simp only [List.getD_eq_getElem?_getD] at h'; simp [h']
        · simp [hi, show ¬ i < k + 1 by omega]
theorem tb_dmask (xs : List Int) (d : Int) (i : Nat) : tb (dmask xs d) i = (decide (i < xs.length) && decide (xs.getD i 0 = d)) := tb_dmTo xs d _ i
theorem dmTo_lt (xs : List Int) (d : Int) (k : Nat) : dmTo xs d k < 2 ^ k := lt_of_tb fun m hm => by rw [tb_dmTo]; simp; omega
theorem dmask_lt (xs : List Int) (d : Int) : dmask xs d < 2 ^ xs.length := dmTo_lt xs d _
/-- a without the digits of b -/
def nt (a b : Nat) : Nat := a ^^^ (a &&& b)
theorem tb_nt (a b i : Nat) : tb (nt a b) i = (tb a i && !tb b i) := by
  unfold tb nt
  rw [Nat.testBit_xor, Nat.testBit_and]
  cases a.testBit i <;> cases b.testBit i <;> rfl
theorem nt_lt {a b n : Nat} (ha : a < 2 ^ n) : nt a b < 2 ^ n := lt_of_tb fun m hm => by rw [tb_nt, tb_of_lt ha hm]; rfl
theorem nt_hom {xs : List Int} {d : Int} {v : Nat} : nt v (dmask xs d) = 0 ↔ Hom xs d v := by
  constructor
  · intro h c hc
    have := congrArg (fun z => tb z c) h
    simp only [tb_nt, tb_zero, hc, tb_dmask] at this
    simpa using this
  · intro h
    apply eq_of_tb
    intro c
    rw [tb_nt, tb_zero, tb_dmask]
    cases hc : tb v c with
    | false => rfl
    | true => obtain ⟨a, b⟩ := h c hc; rw [decide_eq_true a, decide_eq_true b]; rfl

/-! ### maps -/
structure MapP (xs : List Int) (Q : List (List Int)) (ys : List Int) (R P : List (List Int)) : Prop where
  len : P.length = xs.length
  vec : ∀ i, i < P.length → vecB ys.length (P.getD i []) = true
  hom : ∀ i, i < P.length → Hom ys (xs.getD i 0) (mk (P.getD i []))
  eqn : ∀ i, i < P.length → ∀ j : Nat, 1 ≤ j → j ≤ 20 → comb (P.map mk) 0 (act Q (j : Int) (2 ^ i)) = act R (j : Int) (mk (P.getD i []))
noncomputable def mapB (xs : List Int) (Q : List (List Int)) (ys : List Int) (R P : List (List Int)) : Bool := @decide (MapP xs Q ys R P) (Classical.propDecidable _)
theorem mapB_iff {xs : List Int} {Q : List (List Int)} {ys : List Int} {R P : List (List Int)} : mapB xs Q ys R P = true ↔ MapP xs Q ys R P := by unfold mapB; simp
theorem mapB_no {xs : List Int} {Q : List (List Int)} {ys : List Int} {R P : List (List Int)} (h : ¬ MapP xs Q ys R P) : mapB xs Q ys R P = false := by unfold mapB; simp [h]
theorem mapB_yes {xs : List Int} {Q : List (List Int)} {ys : List Int} {R P : List (List Int)} (h : MapP xs Q ys R P) : mapB xs Q ys R P = true := mapB_iff.2 h
theorem mks_getD {P : List (List Int)} {i : Nat} (h : i < P.length) : (P.map mk).getD i 0 = mk (P.getD i []) := by simp [List.getD, h]
theorem comb_lt {S : List Nat} {n : Nat} (h : ∀ r ∈ S, r < 2 ^ n) : ∀ i x, comb S i x < 2 ^ n := by
  induction S with
  | nil => intro i x; exact Nat.two_pow_pos _
  | cons r S ih =>
    intro i x
    simp only [comb]
    refine xr_lt ?_ (ih (fun s hs => h s (List.mem_cons_of_mem _ hs)) _ _)
    split
    · exact h r (List.mem_cons_self ..)
    · exact Nat.two_pow_pos _
theorem mks_lt {P : List (List Int)} {n : Nat} (h : ∀ i, i < P.length → vecB n (P.getD i []) = true) : ∀ r ∈ P.map mk, r < 2 ^ n := by
  intro r hr
  obtain ⟨p, hp, rfl⟩ := List.mem_map.1 hr
  obtain ⟨i, hi, rfl⟩ := List.getElem_of_mem hp
  have := h i hi
  simp only [List.getD, hi, List.getElem?_eq_getElem, Option.getD_some] at this
  exact (vec_bits this).2
end Go.Proofs.YtpchigdhnnkpcaaGreatDoor
