/- plain mathematics of masks: reduced lists of rows · plain mathematics: the product of a mask and rows · modules: what they are (no program in sight) -/
import Derived.Test.YtocllmhkppkfoaaGreatDoorZaa
namespace Go.Proofs.YtocllmhkppkfoaaGreatDoor

theorem tb_xr (a b n : Nat) : tb (xr a b) n = (tb a n ^^ tb b n) := by simp [tb, xr, Nat.testBit_xor]
theorem xr_comm (a b : Nat) : xr a b = xr b a := Nat.xor_comm a b
theorem xr_assoc (a b c : Nat) : xr (xr a b) c = xr a (xr b c) := Nat.xor_assoc a b c
theorem xr_zero (a : Nat) : xr a 0 = a := Nat.xor_zero a
theorem zero_xr (a : Nat) : xr 0 a = a := Nat.zero_xor a
theorem xr_self (a : Nat) : xr a a = 0 := Nat.xor_self a
theorem eq_of_tb {a b : Nat} (h : ∀ n, tb a n = tb b n) : a = b := Nat.eq_of_testBit_eq h
theorem tb_zero (n : Nat) : tb 0 n = false := Nat.zero_testBit n

/-- the pivot of a number that is no 0 is its least digit that is 1 -/
theorem tb_pv {a : Nat} (h0 : a ≠ 0) (h : Sm a) : tb a (pv a) = true := by
  unfold Sm at h
  obtain ⟨m, hm, _⟩ := Lib.ctzFrom_spec 64 a (by omega) (by omega)
  have e : pv a = Lib.ctzFrom 64 a := by unfold pv Lib.ctz; rw [if_neg h0]
  rw [e]
  unfold tb
  conv => lhs; arg 1; rw [hm]
  rw [Nat.testBit_eq_decide_div_mod_eq, Nat.mul_div_cancel_left _ (Nat.two_pow_pos _)]
  simp only [decide_eq_true_eq]; omega
theorem tb_lt_pv {a n : Nat} (h0 : a ≠ 0) (h : Sm a) (hn : n < pv a) : tb a n = false := by
  unfold Sm at h
  obtain ⟨m, hm, _⟩ := Lib.ctzFrom_spec 64 a (by omega) (by omega)
  have e : pv a = Lib.ctzFrom 64 a := by unfold pv Lib.ctz; rw [if_neg h0]
  rw [e] at hn
  obtain ⟨d, hd⟩ : ∃ d, Lib.ctzFrom 64 a = n + 1 + d := ⟨Lib.ctzFrom 64 a - n - 1, by omega⟩
  unfold tb
  rw [hm, Nat.testBit_eq_decide_div_mod_eq, hd, Nat.pow_add, Nat.pow_add, Nat.mul_assoc, Nat.mul_assoc, Nat.mul_div_cancel_left _ (Nat.two_pow_pos _)]
  simp [Nat.mul_assoc]
theorem pv_eq {a n : Nat} (h0 : a ≠ 0) (h : Sm a) (h1 : tb a n = true) (h2 : ∀ m, m < n → tb a m = false) : pv a = n := by
  rcases Nat.lt_trichotomy (pv a) n with hlt | heq | hgt
  · have := h2 _ hlt; rw [tb_pv h0 h] at this; cases this
  · exact heq
  · have := tb_lt_pv h0 h hgt; rw [h1] at this; cases this

/-- what is left of a mask by rows -/
def leftS (S : List Nat) (x : Nat) : Nat := S.foldl (fun x r => if tb x (pv r) then xr x r else x) x
/-- Reduced: no row is 0, all are small, and no row has another one's pivot. -/
structure Red (S : List Nat) : Prop where
  ne : ∀ r ∈ S, r ≠ 0 ∧ Sm r
  off : S.Pairwise fun r s => tb r (pv s) = false ∧ tb s (pv r) = false

theorem Red.nil : Red [] := ⟨by simp, .nil⟩
theorem Red.tail {r : Nat} {S : List Nat} (h : Red (r :: S)) : Red S := ⟨fun s hs => h.ne s (List.mem_cons_of_mem _ hs), (List.pairwise_cons.1 h.off).2⟩
theorem Red.perm {S T : List Nat} (h : Red S) (hp : S.Perm T) : Red T :=
  ⟨fun r hr => h.ne r (hp.mem_iff.2 hr), (hp.pairwise_iff (fun h => ⟨h.2, h.1⟩)).1 h.off⟩

theorem leftS_cons (r : Nat) (S : List Nat) (x : Nat) : leftS (r :: S) x = leftS S (if tb x (pv r) then xr x r else x) := rfl
/-- rows that lack a digit do not turn it -/
theorem tb_leftS {S : List Nat} {n : Nat} (h : ∀ r ∈ S, tb r n = false) : ∀ x, tb (leftS S x) n = tb x n := by
  induction S with
  | nil => intro x; rfl
  | cons r S ih =>
    intro x
    rw [leftS_cons, ih (fun s hs => h s (List.mem_cons_of_mem _ hs))]
    split
    · rw [tb_xr, h r (List.mem_cons_self ..)]; simp
    · rfl
theorem leftS_sm {S : List Nat} (h : ∀ r ∈ S, r ≠ 0 ∧ Sm r) : ∀ {x}, Sm x → Sm (leftS S x) := by
  induction S with
  | nil => intro x hx; exact hx
  | cons r S ih =>
    intro x hx
    rw [leftS_cons]
    refine ih (fun s hs => h s (List.mem_cons_of_mem _ hs)) ?_
    split
    · exact hx.xr (h r (List.mem_cons_self ..)).2
    · exact hx
/-- what is left has none of the pivots -/
theorem leftS_off {S : List Nat} (h : Red S) : ∀ x, ∀ r ∈ S, tb (leftS S x) (pv r) = false := by
  induction S with
  | nil => intro x r hr; cases hr
  | cons r S ih =>
    intro x s hs
    have hp := (List.pairwise_cons.1 h.off).1
    have hr := h.ne r (List.mem_cons_self ..)
    rw [leftS_cons]
    rcases List.mem_cons.1 hs with rfl | hs
    · rw [tb_leftS (fun t ht => (hp t ht).2)]
      split
      · rename_i h1; rw [tb_xr, h1, tb_pv hr.1 hr.2]; rfl
      · rename_i h1; simpa using h1
    · exact ih h.tail _ s hs

/-- the sum of rows -/
def xsum : List Nat → Nat
  | [] => 0
  | r :: S => xr r (xsum S)
theorem xsum_perm {S T : List Nat} (h : S.Perm T) : xsum S = xsum T := by
  induction h with
  | nil => rfl
  | cons r _ ih => simp only [xsum, ih]
  | swap r s S => simp only [xsum, ← xr_assoc, xr_comm s r]
  | trans _ _ h1 h2 => exact h1.trans h2
theorem leftS_eq {S : List Nat} (h : Red S) : ∀ x, leftS S x = xr x (xsum (S.filter fun r => tb x (pv r))) := by
  induction S with
  | nil => intro x; exact (xr_zero x).symm
  | cons r S ih =>
    intro x
    have hp := (List.pairwise_cons.1 h.off).1
    rw [leftS_cons, ih h.tail]
    by_cases hb : tb x (pv r) = true
    · rw [if_pos hb, List.filter_cons_of_pos (by simpa using hb)]
      have e : (S.filter fun s => tb (xr x r) (pv s)) = S.filter fun s => tb x (pv s) := by
        apply List.filter_congr
        intro s hs
        rw [tb_xr, (hp s hs).1]; simp
      rw [e]
      simp only [xsum, xr_assoc]
    · rw [if_neg hb, List.filter_cons_of_neg (by simpa using hb)]
theorem leftS_perm {S T : List Nat} (h : Red S) (hp : S.Perm T) (x : Nat) : leftS S x = leftS T x := by
  rw [leftS_eq h, leftS_eq (h.perm hp), xsum_perm (hp.filter _)]

/-- a row as it is when the new row x comes in -/
def stepS (x r : Nat) : Nat := if tb r (pv x) then xr r x else r
/-- what the reference's loop does -/
def putStep (x : Nat) (p : List Nat × Bool) (r : Nat) : List Nat × Bool :=
  if !p.2 && decide (pv x < pv r) then (p.1 ++ [x, stepS x r], true) else (p.1 ++ [stepS x r], p.2)
def putEnd (x : Nat) (p : List Nat × Bool) : List Nat := if p.2 then p.1 else p.1 ++ [x]
def putS (S : List Nat) (x : Nat) : List Nat :=
  if leftS S x = 0 then S else putEnd (leftS S x) (S.foldl (putStep (leftS S x)) ([], false))
def reduceS (rows : List Nat) : List Nat := rows.foldl putS []

theorem putStep_perm (x : Nat) : ∀ (S : List Nat) (p : List Nat × Bool), (putEnd x (S.foldl (putStep x) p)).Perm (putEnd x p ++ S.map (stepS x))
  | [], p => by simp
  | r :: S, p => by
    refine (putStep_perm x S (putStep x p r)).trans ?_
    rw [List.map_cons]
    have : (putEnd x (putStep x p r)).Perm (putEnd x p ++ [stepS x r]) := by
      obtain ⟨out, done⟩ := p
      cases done with
      | true => simp [putStep, putEnd]
      | false =>
        by_cases hc : pv x < pv r
        · simp [putStep, putEnd, hc]
        · simp only [putStep, putEnd, hc, decide_false, Bool.and_false, Bool.false_eq_true, if_false]
          simp only [List.append_assoc]
          exact List.Perm.append_left out (List.Perm.swap ..)
    have := List.Perm.append_right (S.map (stepS x)) this
    simpa using this
theorem putS_perm (S : List Nat) (x : Nat) (h : leftS S x ≠ 0) : (putS S x).Perm (S.map (stepS (leftS S x)) ++ [leftS S x]) := by
  unfold putS
  rw [if_neg h]
  refine (putStep_perm _ S ([], false)).trans ?_
  simp only [putEnd, Bool.false_eq_true, if_false, List.nil_append]
  exact List.perm_append_comm

theorem stepS_sm {x r : Nat} (hx : Sm x) (hr : Sm r) : Sm (stepS x r) := by
  unfold stepS; split
  · exact hr.xr hx
  · exact hr
/-- the pivots stay, and the new row's pivot goes -/
theorem stepS_pv {x r : Nat} (hx : Sm x) (hx0 : x ≠ 0) (hr : Sm r) (hr0 : r ≠ 0) (h : tb x (pv r) = false) : stepS x r ≠ 0 ∧ pv (stepS x r) = pv r ∧ tb (stepS x r) (pv x) = false := by
  have hrr := tb_pv hr0 hr
  have hxx := tb_pv hx0 hx
  have ht : tb (stepS x r) (pv r) = true := by
    unfold stepS; split
    · rw [tb_xr, hrr, h]; rfl
    · exact hrr
  have h0 : stepS x r ≠ 0 := by intro e; rw [e, tb_zero] at ht; cases ht
  refine ⟨h0, ?_, ?_⟩
  · refine pv_eq h0 (stepS_sm hx hr) ht ?_
    intro m hm
    unfold stepS; split
    · rename_i hb
      have hlt : pv r < pv x := by
        rcases Nat.lt_trichotomy (pv r) (pv x) with hlt | heq | hgt
        · exact hlt
        · rw [heq, hxx] at h; cases h
        · have := tb_lt_pv hr0 hr hgt; rw [hb] at this; cases this
      rw [tb_xr, tb_lt_pv hr0 hr hm, tb_lt_pv hx0 hx (by omega)]; rfl
    · exact tb_lt_pv hr0 hr hm
  · unfold stepS; split
    · rename_i hb; rw [tb_xr, hb, hxx]; rfl
    · rename_i hb; simpa using hb

theorem red_step {S : List Nat} {x : Nat} (h : Red S) (hx : Sm x) (hx0 : x ≠ 0) (hoff : ∀ r ∈ S, tb x (pv r) = false) : Red (S.map (stepS x) ++ [x]) := by
  have key := fun r hr => stepS_pv hx hx0 (h.ne r hr).2 (h.ne r hr).1 (hoff r hr)
  refine ⟨?_, ?_⟩
  · intro r hr
    rcases List.mem_append.1 hr with hr | hr
    · obtain ⟨s, hs, rfl⟩ := List.mem_map.1 hr
      exact ⟨(key s hs).1, stepS_sm hx (h.ne s hs).2⟩
    · rw [List.mem_singleton.1 hr]; exact ⟨hx0, hx⟩
  · rw [List.pairwise_append]
    refine ⟨?_, by simp, ?_⟩
    · rw [List.pairwise_map]
      refine (List.Pairwise.and_mem.1 h.off).imp ?_
      intro r s ⟨hr, hs, h1, h2⟩
      rw [(key r hr).2.1, (key s hs).2.1]
      constructor
      · unfold stepS; split
        · rw [tb_xr, h1, hoff s hs]; rfl
        · exact h1
      · unfold stepS; split
        · rw [tb_xr, h2, hoff r hr]; rfl
        · exact h2
    · intro r hr s hs
      obtain ⟨t, ht, rfl⟩ := List.mem_map.1 hr
      rw [List.mem_singleton.1 hs]
      exact ⟨(key t ht).2.2, by rw [(key t ht).2.1]; exact hoff t ht⟩
theorem red_put {S : List Nat} {x : Nat} (h : Red S) (hx : Sm x) : Red (putS S x) := by
  by_cases h0 : leftS S x = 0
  · unfold putS; rw [if_pos h0]; exact h
  · exact (red_step h (leftS_sm h.ne hx) h0 (leftS_off h x)).perm (putS_perm S x h0).symm
theorem red_reduce {rows : List Nat} (h : ∀ r ∈ rows, Sm r) : Red (reduceS rows) := by
  unfold reduceS
  have : ∀ (rows S : List Nat), Red S → (∀ r ∈ rows, Sm r) → Red (rows.foldl putS S) := by
    intro rows
    induction rows with
    | nil => intro S hS _; exact hS
    | cons r rows ih => intro S hS h; exact ih _ (red_put hS (h r (List.mem_cons_self ..))) (fun s hs => h s (List.mem_cons_of_mem _ hs))
  exact this rows [] Red.nil h
theorem putS_length_le (S : List Nat) (x : Nat) : (putS S x).length ≤ S.length + 1 := by
  by_cases h : leftS S x = 0
  · unfold putS; rw [if_pos h]; omega
  · rw [(putS_perm S x h).length_eq]; simp
end Go.Proofs.YtocllmhkppkfoaaGreatDoor

namespace Go.Proofs.YtocllmhkppkfoaaGreatDoor

theorem xr_xr (a b : Nat) : xr a (xr a b) = b := by rw [← xr_assoc, xr_self, zero_xr]
theorem xr_left (a b c : Nat) : xr a (xr b c) = xr b (xr a c) := by rw [← xr_assoc, xr_comm a b, xr_assoc]
/-- the product of a mask and rows, the first row being the mask's digit i -/
def comb : List Nat → Nat → Nat → Nat
  | [], _, _ => 0
  | r :: S, i, x => xr (if tb x i then r else 0) (comb S (i + 1) x)
theorem comb_xr (S : List Nat) : ∀ i x y, comb S i (xr x y) = xr (comb S i x) (comb S i y) := by
  induction S with
  | nil => intro i x y; exact (xr_self 0).symm
  | cons r S ih =>
    intro i x y
    simp only [comb, ih, tb_xr]
    cases tb x i <;> cases tb y i <;> simp [zero_xr, xr_zero, xr_assoc]
    · rw [xr_left]
    · rw [xr_left _ r, xr_xr]
theorem comb_low (S : List Nat) : ∀ i x, (∀ m, i ≤ m → tb x m = false) → comb S i x = 0 := by
  induction S with
  | nil => intro i x _; rfl
  | cons r S ih => intro i x h; simp only [comb, h i (Nat.le_refl _), ih (i + 1) x fun m hm => h m (by omega)]; simp [xr_zero]
theorem tb_pow (i j : Nat) : tb (2 ^ i) j = decide (i = j) := Nat.testBit_two_pow
theorem comb_pow (S : List Nat) : ∀ i k, comb S i (2 ^ (i + k)) = S.getD k 0 := by
  induction S with
  | nil => intro i k; simp [comb]
  | cons r S ih =>
    intro i k
    simp only [comb, tb_pow]
    cases k with
    | zero =>
      rw [comb_low S (i + 1) (2 ^ (i + 0)) (fun m hm => by rw [tb_pow]; simp; omega)]
      simp [xr_zero]
    | succ k =>
      have := ih (i + 1) k
      rw [show i + 1 + k = i + (k + 1) by omega] at this
      rw [this]
      simp [zero_xr]
theorem lt_of_tb {z n : Nat} (h : ∀ m, n ≤ m → tb z m = false) : z < 2 ^ n := Nat.lt_pow_two_of_testBit z h
theorem tb_of_lt {z n m : Nat} (h : z < 2 ^ n) (hm : n ≤ m) : tb z m = false := Nat.testBit_lt_two_pow (Nat.lt_of_lt_of_le h (Nat.pow_le_pow_right (by omega) hm))
/-- two sums that agree at single digits agree -/
theorem lin_ext {f g : Nat → Nat} (hf : ∀ x y, f (xr x y) = xr (f x) (f y)) (hg : ∀ x y, g (xr x y) = xr (g x) (g y)) : ∀ n, (∀ k, k < n → f (2 ^ k) = g (2 ^ k)) → ∀ v, v < 2 ^ n → f v = g v := by
  have z : ∀ {h : Nat → Nat}, (∀ x y, h (xr x y) = xr (h x) (h y)) → h 0 = 0 := fun {h} hh => by have := hh 0 0; rw [xr_self, xr_self] at this; exact this
  intro n
  induction n with
  | zero => intro _ v hv; obtain rfl : v = 0 := by simpa using hv
            rw [z hf, z hg]
  | succ n ih =>
    intro h v hv
    have h' := ih (fun k hk => h k (by omega))
    cases hb : tb v n
    · refine h' v (lt_of_tb fun m hm => ?_)
      rcases Nat.lt_or_ge n m with h1 | h1
      · exact tb_of_lt hv (by omega)
      · rw [show m = n by omega]; exact hb
    · have e : v = xr (2 ^ n) (xr (2 ^ n) v) := (xr_xr _ _).symm
      have hl : xr (2 ^ n) v < 2 ^ n := lt_of_tb fun m hm => by
        rw [tb_xr, tb_pow]
        rcases Nat.lt_or_ge n m with h1 | h1
        · rw [tb_of_lt hv (by omega)]; simp; omega
        · rw [show m = n by omega, hb]; simp
      rw [e, hf, hg, h n (by omega), h' _ hl]
end Go.Proofs.YtocllmhkppkfoaaGreatDoor

namespace Go.Proofs.YtocllmhkppkfoaaGreatDoor

/-! ### lists of numbers in order -/
def lexLt : List Int → List Int → Bool
  | [], [] => false
  | [], _ :: _ => true
  | _ :: _, [] => false
  | a :: x, b :: y => if a = b then lexLt x y else decide (a < b)
theorem lexLt_irrefl : ∀ x, lexLt x x = false
  | [] => rfl
  | a :: x => by simp only [lexLt, if_true]; exact lexLt_irrefl x
theorem lexLt_trans : ∀ {x y z : List Int}, lexLt x y = true → lexLt y z = true → lexLt x z = true
  | [], [], _, h, _ => by simp [lexLt] at h
  | [], _ :: _, [], _, h => by simp [lexLt] at h
  | [], _ :: _, _ :: _, _, _ => rfl
  | _ :: _, [], _, h, _ => by simp [lexLt] at h
  | _ :: _, _ :: _, [], _, h => by simp [lexLt] at h
  | a :: x, b :: y, c :: z, h1, h2 => by
    simp only [lexLt] at h1 h2 ⊢
    by_cases e1 : a = b
    · rw [if_pos e1] at h1
      by_cases e2 : b = c
      · rw [if_pos e2] at h2; rw [if_pos (e1.trans e2)]; exact lexLt_trans h1 h2
      · rw [if_neg e2] at h2; rw [if_neg (by rw [e1]; exact e2), e1]; exact h2
    · rw [if_neg e1] at h1
      simp only [decide_eq_true_eq] at h1
      by_cases e2 : b = c
      · rw [if_neg (by omega)]; simp; omega
      · rw [if_neg e2] at h2; simp only [decide_eq_true_eq] at h2; rw [if_neg (by omega)]; simp; omega
def AscP (Q : List (List Int)) : Prop := ∀ i, i + 1 < Q.length → lexLt (Q.getD i []) (Q.getD (i + 1) []) = true
theorem AscP.lt {Q : List (List Int)} (h : AscP Q) : ∀ d i, i + d + 1 < Q.length → lexLt (Q.getD i []) (Q.getD (i + d + 1) []) = true := by
  intro d
  induction d with
  | zero => intro i hi; exact h i hi
  | succ d ih => intro i hi; exact lexLt_trans (ih i (by omega)) (h (i + d + 1) (by omega))
theorem AscP.nodup {Q : List (List Int)} (h : AscP Q) : Q.Nodup := by
  rw [List.nodup_iff_pairwise_ne, List.pairwise_iff_getElem]
  intro i j hi hj hij e
  have := h.lt (j - i - 1) i (by omega)
  rw [show i + (j - i - 1) + 1 = j by omega] at this
  simp only [List.getD, List.getElem?_eq_getElem hi, List.getElem?_eq_getElem hj, Option.getD_some] at this
  rw [e, lexLt_irrefl] at this; cases this

/-! ### what a square makes of a mask -/
def hit (n : Int) (v : Nat) (e : List Int) : Nat := if e.getD 0 0 = n ∧ tb v (e.getD 1 0).toNat = true then 2 ^ (e.getD 2 0).toNat else 0
def actE (Q : List (List Int)) (n : Int) (v : Nat) : Nat := Q.foldl (fun a e => xr a (hit n v e)) 0
def act (Q : List (List Int)) (n : Int) (v : Nat) : Nat := if n = 0 then v else actE Q n v
theorem hit_lin (n : Int) (v w : Nat) (e : List Int) : hit n (xr v w) e = xr (hit n v e) (hit n w e) := by
  unfold hit
  rw [tb_xr]
  by_cases h : e.getD 0 0 = n
  · rw [h]
    cases tb v (e.getD 1 0).toNat <;> cases tb w (e.getD 1 0).toNat <;> simp [xr_self, xr_zero, zero_xr]
  · rw [if_neg (fun hh => h hh.1), if_neg (fun hh => h hh.1), if_neg (fun hh => h hh.1)]; rfl
theorem xfold {α : Type} (f : α → Nat) : ∀ (Q : List α) (a : Nat), Q.foldl (fun a e => xr a (f e)) a = xr a (Q.foldl (fun a e => xr a (f e)) 0) := by
  intro Q
  induction Q with
  | nil => intro a; exact (xr_zero a).symm
  | cons e Q ih => intro a; simp only [List.foldl_cons]; rw [ih, ih (xr 0 (f e)), zero_xr, xr_assoc]
theorem actE_cons (e : List Int) (Q : List (List Int)) (n : Int) (v : Nat) : actE (e :: Q) n v = xr (hit n v e) (actE Q n v) := by
  unfold actE; simp only [List.foldl_cons]; rw [xfold, zero_xr]
theorem actE_lin (Q : List (List Int)) (n : Int) (v w : Nat) : actE Q n (xr v w) = xr (actE Q n v) (actE Q n w) := by
  induction Q with
  | nil => exact (xr_self 0).symm
  | cons e Q ih => rw [actE_cons, actE_cons, actE_cons, ih, hit_lin]; simp only [xr_assoc]; rw [xr_left (hit n w e)]
theorem act_lin (Q : List (List Int)) (n : Int) (v w : Nat) : act Q n (xr v w) = xr (act Q n v) (act Q n w) := by
  unfold act; split
  · rfl
  · exact actE_lin Q n v w
theorem act_zero (Q : List (List Int)) (n : Int) : act Q n 0 = 0 := by have := act_lin Q n 0 0; rw [xr_self, xr_self] at this; exact this
theorem act0 (Q : List (List Int)) (v : Nat) : act Q 0 v = v := by unfold act; rw [if_pos rfl]
theorem act_pos {n : Int} (h : n ≠ 0) (Q : List (List Int)) (v : Nat) : act Q n v = actE Q n v := by unfold act; rw [if_neg h]

/-! ### shapes of modules -/
structure EntM (xs : List Int) (e : List Int) : Prop where
  len : e.length = 3
  pos : 1 ≤ e.getD 0 0
  lo1 : 0 ≤ e.getD 1 0
  hi1 : e.getD 1 0 < xs.length
  lo2 : 0 ≤ e.getD 2 0
  hi2 : e.getD 2 0 < xs.length
  dg : xs.getD (e.getD 2 0).toNat 0 = xs.getD (e.getD 1 0).toNat 0 + e.getD 0 0
structure Shp (xs : List Int) (Q : List (List Int)) : Prop where
  len : xs.length ≤ 16
  deg : ∀ i, i < xs.length → 0 ≤ xs.getD i 0 ∧ xs.getD i 0 ≤ 20
  srt : ∀ i, i + 1 < xs.length → xs.getD i 0 ≤ xs.getD (i + 1) 0
  asc : AscP Q
  ent : ∀ k, k < Q.length → EntM xs (Q.getD k [])
theorem getD_of_mem {Q : List (List Int)} {e : List Int} (h : e ∈ Q) : ∃ k, k < Q.length ∧ Q.getD k [] = e := by
  obtain ⟨k, hk, rfl⟩ := List.getElem_of_mem h
  exact ⟨k, hk, by simp [List.getD, hk]⟩
section
variable {xs : List Int} {Q : List (List Int)}
theorem Shp.mem (h : Shp xs Q) {e : List Int} (he : e ∈ Q) : EntM xs e := by
  obtain ⟨k, hk, rfl⟩ := getD_of_mem he
  exact h.ent k hk
theorem EntM.le20 (hd : ∀ i, i < xs.length → 0 ≤ xs.getD i 0 ∧ xs.getD i 0 ≤ 20) {e : List Int} (h : EntM xs e) : e.getD 0 0 ≤ 20 := by
  have h1 := hd (e.getD 2 0).toNat (by have := h.lo2; have := h.hi2; omega)
  have h2 := hd (e.getD 1 0).toNat (by have := h.lo1; have := h.hi1; omega)
  have := h.dg
  omega
theorem Shp.le20 (h : Shp xs Q) {e : List Int} (he : e ∈ Q) : e.getD 0 0 ≤ 20 := (h.mem he).le20 h.deg
theorem pow_lt_pow {a b : Nat} (h : a < b) : 2 ^ a < 2 ^ b := Nat.pow_lt_pow_right (by omega) h
theorem xr_lt {a b n : Nat} (ha : a < 2 ^ n) (hb : b < 2 ^ n) : xr a b < 2 ^ n := Nat.xor_lt_two_pow ha hb
theorem hit_lt {e : List Int} (h : EntM xs e) (n : Int) (v : Nat) : hit n v e < 2 ^ xs.length := by
  unfold hit; split
  · exact pow_lt_pow (by have := h.lo2; have := h.hi2; omega)
  · exact Nat.two_pow_pos _
theorem actE_lt (n : Int) (v : Nat) : ∀ {Q : List (List Int)}, (∀ e ∈ Q, EntM xs e) → actE Q n v < 2 ^ xs.length
  | [], _ => Nat.two_pow_pos _
  | e :: Q, h => by
    rw [actE_cons]
    exact xr_lt (hit_lt (h e (List.mem_cons_self ..)) n v) (actE_lt n v fun f hf => h f (List.mem_cons_of_mem _ hf))
theorem act_lt (h : Shp xs Q) {v : Nat} (hv : v < 2 ^ xs.length) (n : Int) : act Q n v < 2 ^ xs.length := by
  unfold act; split
  · exact hv
  · exact actE_lt n v fun e he => h.mem he
theorem actE_big (n : Int) (v : Nat) : ∀ {Q : List (List Int)}, (∀ e ∈ Q, e.getD 0 0 ≠ n) → actE Q n v = 0
  | [], _ => rfl
  | e :: Q, h => by
    rw [actE_cons, actE_big n v fun f hf => h f (List.mem_cons_of_mem _ hf)]
    unfold hit
    rw [if_neg (fun hh => h e (List.mem_cons_self ..) hh.1)]; rfl
theorem act_big (h : Shp xs Q) {n : Int} (hn : 20 < n) (v : Nat) : act Q n v = 0 := by
  rw [act_pos (by omega)]
  exact actE_big n v fun e he => by have := h.le20 he; omega
theorem act_neg (h : Shp xs Q) {n : Int} (hn : n < 0) (v : Nat) : act Q n v = 0 := by
  rw [act_pos (by omega)]
  exact actE_big n v fun e he => by have := (h.mem he).pos; omega

/-! ### the table of squares -/
def sqStep (n i : Nat) (a : Nat) (e : List Int) : Nat := if e.getD 0 0 = (n : Int) ∧ e.getD 1 0 = (i : Int) then orr a (2 ^ (e.getD 2 0).toNat) else a
def sqOr (Q : List (List Int)) (n i : Nat) : Nat := Q.foldl (sqStep n i) (if n = 0 then 2 ^ i else 0)
def sqRow (Q : List (List Int)) (size n : Nat) : List Nat := (List.range size).map (sqOr Q n)
theorem sqRow_length (Q : List (List Int)) (size n : Nat) : (sqRow Q size n).length = size := by simp [sqRow]
theorem sqRow_getD (Q : List (List Int)) {size n i : Nat} (h : i < size) : (sqRow Q size n).getD i 0 = sqOr Q n i := by simp [sqRow, List.getD, h]
theorem orr_xr {a c : Nat} (h : tb a c = false) : orr a (2 ^ c) = xr a (2 ^ c) := by
  apply eq_of_tb
  intro n
  rw [tb_xr, tb_pow]
  unfold orr tb
  rw [Nat.testBit_or, Nat.testBit_two_pow]
  by_cases e : c = n
  · subst e; unfold tb at h; rw [h]; simp
  · simp [e]
theorem list3 {e : List Int} (h : e.length = 3) : e = [e.getD 0 0, e.getD 1 0, e.getD 2 0] := by
  match e, h with
  | [a, b, c], _ => rfl
theorem sq_fold (n i : Nat) : ∀ (Q : List (List Int)) (a : Nat), (∀ e ∈ Q, EntM xs e) → Q.Nodup → (∀ e ∈ Q, e.getD 0 0 = (n : Int) → e.getD 1 0 = (i : Int) → tb a (e.getD 2 0).toNat = false) → Q.foldl (sqStep n i) a = xr a (actE Q n (2 ^ i)) := by
  intro Q
  induction Q with
  | nil => intro a _ _ _; exact (xr_zero a).symm
  | cons e Q ih =>
    intro a hQ hnd hf
    have he := hQ e (List.mem_cons_self ..)
    have hnd' := List.nodup_cons.1 hnd
    rw [actE_cons, List.foldl_cons]
    by_cases hm : e.getD 0 0 = (n : Int) ∧ e.getD 1 0 = (i : Int)
    · have h1 : sqStep n i a e = xr a (2 ^ (e.getD 2 0).toNat) := by
        unfold sqStep; rw [if_pos hm]; exact orr_xr (hf e (List.mem_cons_self ..) hm.1 hm.2)
      have h2 : hit (n : Int) (2 ^ i) e = 2 ^ (e.getD 2 0).toNat := by
        unfold hit; rw [if_pos ⟨hm.1, by rw [tb_pow, hm.2]; simp⟩]
      rw [h1, h2, ih _ (fun f hf' => hQ f (List.mem_cons_of_mem _ hf')) hnd'.2, xr_assoc]
      intro f hf' g1 g2
      rw [tb_xr, tb_pow, hf f (List.mem_cons_of_mem _ hf') g1 g2]
      simp only [Bool.false_xor, decide_eq_false_iff_not]
      intro e2
      apply hnd'.1
      have hfe := hQ f (List.mem_cons_of_mem _ hf')
      have : f = e := by
        rw [list3 hfe.len, list3 he.len, g1, g2, hm.1, hm.2]
        have := hfe.lo2; have := he.lo2
        rw [show e.getD 2 0 = f.getD 2 0 by omega]
      rw [← this]; exact hf'
    · have h1 : sqStep n i a e = a := by unfold sqStep; rw [if_neg hm]
      have h2 : hit (n : Int) (2 ^ i) e = 0 := by
        unfold hit; rw [if_neg]
        intro hh
        apply hm
        refine ⟨hh.1, ?_⟩
        have := hh.2
        rw [tb_pow] at this
        simp only [decide_eq_true_eq] at this
        have := he.lo1
        omega
      rw [h1, h2, zero_xr, ih a (fun f hf' => hQ f (List.mem_cons_of_mem _ hf')) hnd'.2 (fun f hf' => hf f (List.mem_cons_of_mem _ hf'))]
theorem sqOr_act (h : Shp xs Q) (n i : Nat) : sqOr Q n i = act Q n (2 ^ i) := by
  unfold sqOr
  by_cases h0 : n = 0
  · subst h0
    rw [if_pos rfl]
    rw [sq_fold (xs := xs) 0 i Q _ (fun e he => h.mem he) h.asc.nodup (fun e he h1 => by have := (h.mem he).pos; omega)]
    rw [actE_big _ _ fun e he => by have := (h.mem he).pos; omega, xr_zero]
    exact (act0 Q _).symm
  · rw [if_neg h0, sq_fold (xs := xs) n i Q _ (fun e he => h.mem he) h.asc.nodup (fun e he _ _ => tb_zero _), zero_xr, act_pos (by omega)]
/-- the product with the rows of a square is the square -/
theorem sq_times (h : Shp xs Q) (n : Nat) {v : Nat} (hv : v < 2 ^ xs.length) : comb (sqRow Q xs.length n) 0 v = act Q n v :=
  lin_ext (f := comb (sqRow Q xs.length n) 0) (g := act Q n) (comb_xr _ 0) (act_lin Q n) xs.length (fun k hk => by
    have := comb_pow (sqRow Q xs.length n) 0 k
    rw [Nat.zero_add] at this
    rw [this, sqRow_getD Q hk, sqOr_act h]) v hv

/-! ### degrees -/
def Hom (xs : List Int) (d : Int) (v : Nat) : Prop := ∀ c, tb v c = true → c < xs.length ∧ xs.getD c 0 = d
theorem Hom.zero (xs : List Int) (d : Int) : Hom xs d 0 := fun c h => by rw [tb_zero] at h; cases h
theorem Hom.xr {d : Int} {v w : Nat} (hv : Hom xs d v) (hw : Hom xs d w) : Hom xs d (xr v w) := fun c h => by
  rw [tb_xr] at h
  cases h1 : tb v c
  · rw [h1] at h; exact hw c (by simpa using h)
  · exact hv c h1
theorem Hom.pow {i : Nat} (hi : i < xs.length) : Hom xs (xs.getD i 0) (2 ^ i) := fun c h => by
  rw [tb_pow] at h; simp only [decide_eq_true_eq] at h; subst h; exact ⟨hi, rfl⟩
theorem Hom.eq_zero {d : Int} {v : Nat} (hv : Hom xs d v) (h : ∀ i, i < xs.length → xs.getD i 0 ≠ d) : v = 0 := eq_of_tb fun c => by
  rw [tb_zero]
  cases hc : tb v c with
  | false => rfl
  | true => exact absurd (hv c hc).2 (h c (hv c hc).1)
theorem Hom.lt {d : Int} {v : Nat} (hv : Hom xs d v) : v < 2 ^ xs.length := lt_of_tb fun m hm => by
  cases hc : tb v m with
  | false => rfl
  | true => have := (hv m hc).1; omega
theorem hom_hit {e : List Int} (he : EntM xs e) (n d : Int) {v : Nat} (hv : Hom xs d v) : Hom xs (d + n) (hit n v e) := by
  unfold hit; split
  · rename_i h
    have h1 := (hv _ h.2).2
    have h2 := he.dg
    rw [h1, h.1] at h2
    rw [← h2]
    exact Hom.pow (by have := he.lo2; have := he.hi2; omega)
  · exact Hom.zero _ _
theorem hom_actE (n d : Int) {v : Nat} (hv : Hom xs d v) : ∀ {Q : List (List Int)}, (∀ e ∈ Q, EntM xs e) → Hom xs (d + n) (actE Q n v)
  | [], _ => Hom.zero _ _
  | e :: Q, h => by
    rw [actE_cons]
    exact (hom_hit (h e (List.mem_cons_self ..)) n d hv).xr (hom_actE n d hv fun f hf => h f (List.mem_cons_of_mem _ hf))
theorem act_hom (h : Shp xs Q) {n d : Int} {v : Nat} (hv : Hom xs d v) : Hom xs (d + n) (act Q n v) := by
  unfold act; split
  · rename_i h0; subst h0; rw [Int.add_zero]; exact hv
  · exact hom_actE n d hv fun e he => h.mem he
theorem Shp.mono (h : Shp xs Q) : ∀ d i, i + d < xs.length → xs.getD i 0 ≤ xs.getD (i + d) 0 := by
  intro d
  induction d with
  | zero => intro i _; exact Int.le_refl _
  | succ d ih => intro i hi; exact Int.le_trans (ih i (by omega)) (h.srt (i + d) (by omega))
theorem Shp.mono' (h : Shp xs Q) {i j : Nat} (hij : i ≤ j) (hj : j < xs.length) : xs.getD i 0 ≤ xs.getD j 0 := by
  have := h.mono (j - i) i (by omega)
  rwa [show i + (j - i) = j by omega] at this

/-! ### Adem's relations -/
def xsumf {α : Type} (f : α → Nat) (l : List α) : Nat := l.foldl (fun x j => xr x (f j)) 0
theorem xsumf_cons {α : Type} (f : α → Nat) (a : α) (l : List α) : xsumf f (a :: l) = xr (f a) (xsumf f l) := by
  unfold xsumf; simp only [List.foldl_cons]; rw [xfold, zero_xr]
theorem xsumf_append {α : Type} (f : α → Nat) (l m : List α) : xsumf f (l ++ m) = xr (xsumf f l) (xsumf f m) := by
  induction l with
  | nil => exact (zero_xr _).symm
  | cons a l ih => rw [List.cons_append, xsumf_cons, xsumf_cons, ih, xr_assoc]
theorem xsumf_reverse {α : Type} (f : α → Nat) (l : List α) : xsumf f l.reverse = xsumf f l := by
  induction l with
  | nil => rfl
  | cons a l ih => rw [List.reverse_cons, xsumf_append, ih, xsumf_cons, xsumf_cons, xr_comm]; simp only [xsumf, List.foldl_nil]; rw [xr_zero]
theorem xsumf_map {α β : Type} (f : β → Nat) (g : α → β) (l : List α) : xsumf f (l.map g) = xsumf (fun a => f (g a)) l := by
  unfold xsumf; rw [List.foldl_map]
theorem xsumf_zero {α : Type} (f : α → Nat) : ∀ (l : List α), (∀ a ∈ l, f a = 0) → xsumf f l = 0
  | [], _ => rfl
  | a :: l, h => by rw [xsumf_cons, h a (List.mem_cons_self ..), xsumf_zero f l fun b hb => h b (List.mem_cons_of_mem _ hb)]; rfl
theorem xsumf_congr {α : Type} {f g : α → Nat} : ∀ (l : List α), (∀ a ∈ l, f a = g a) → xsumf f l = xsumf g l
  | [], _ => rfl
  | a :: l, h => by rw [xsumf_cons, xsumf_cons, h a (List.mem_cons_self ..), xsumf_congr l fun b hb => h b (List.mem_cons_of_mem _ hb)]
/-- does j occur in Adem's relation for a and b? -/
def relB (a b j : Nat) : Bool := an (b - j - 1) (a - 2 * j) == a - 2 * j
def relN (a b : Nat) : List Nat := (List.range (a / 2 + 1)).filter (relB a b)
def adem (Q : List (List Int)) (a b v : Nat) : Nat := xsumf (fun j => act Q ((a + b - j : Nat) : Int) (act Q (j : Int) v)) (relN a b)
def OkAt (Q : List (List Int)) (a b v : Nat) : Prop := act Q (a : Int) (act Q (b : Int) v) = adem Q a b v
structure IsMod (xs : List Int) (Q : List (List Int)) : Prop where
  shp : Shp xs Q
  ok : ∀ a b : Nat, 1 ≤ a → a < 2 * b → a + b ≤ 20 → ∀ i, i < xs.length → OkAt Q a b (2 ^ i)
noncomputable def modB (xs : List Int) (Q : List (List Int)) : Bool := @decide (IsMod xs Q) (Classical.propDecidable _)
theorem modB_iff : modB xs Q = true ↔ IsMod xs Q := by unfold modB; simp
theorem modB_false : modB xs Q = false ↔ ¬ IsMod xs Q := by unfold modB; simp
theorem mem_relN {a b j : Nat} (h : j ∈ relN a b) : 2 * j ≤ a ∧ relB a b j = true := by
  unfold relN at h
  rw [List.mem_filter, List.mem_range] at h
  exact ⟨by omega, h.2⟩
/-- beyond the span of the degrees nothing is left of two squares -/
theorem far_zero (h : Shp xs Q) {a b i : Nat} (hi : i < xs.length) (hs : ∀ j, j < xs.length → xs.getD j 0 < xs.getD i 0 + a + b) (c e : Nat) (hc : c + e = a + b) : act Q (c : Int) (act Q (e : Int) (2 ^ i)) = 0 := by
  have h1 := act_hom h (n := (c : Int)) (act_hom h (n := (e : Int)) (Hom.pow hi))
  exact h1.eq_zero fun j hj => by have := hs j hj; omega
theorem far_ok (h : Shp xs Q) {a b i : Nat} (hi : i < xs.length) (hab : a < 2 * b) (hs : ∀ j, j < xs.length → xs.getD j 0 < xs.getD i 0 + a + b) : OkAt Q a b (2 ^ i) := by
  unfold OkAt adem
  rw [far_zero h hi hs a b rfl, xsumf_zero]
  intro j hj
  have := (mem_relN hj).1
  exact far_zero h hi hs _ _ (by omega)
/-- the words of Adem's relation, in order -/
def ademW (a b j : Nat) : List Int := if j = 0 then [((a + b : Nat) : Int)] else [((a + b - j : Nat) : Int), (j : Int)]
def wordM (Q : List (List Int)) (w : List Int) (v : Nat) : Nat := w.foldr (fun n v => act Q n v) v
theorem wordM_adem (Q : List (List Int)) (a b j v : Nat) : wordM Q (ademW a b j) v = act Q ((a + b - j : Nat) : Int) (act Q (j : Int) v) := by
  unfold ademW; split
  · rename_i h; subst h; simp only [wordM, List.foldr_cons, List.foldr_nil, Int.natCast_zero]; rw [act0]; rfl
  · rfl
def ademF (a b : Nat) : List (List Int) := ((relN a b).reverse).map (ademW a b)
theorem adem_form (Q : List (List Int)) (a b v : Nat) : xsumf (fun w => wordM Q w v) (ademF a b) = adem Q a b v := by
  unfold ademF adem
  rw [xsumf_map, xsumf_reverse]
  exact xsumf_congr _ fun j _ => wordM_adem Q a b j v
end
end Go.Proofs.YtocllmhkppkfoaaGreatDoor
