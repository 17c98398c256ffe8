/- generators and annihilated vectors of modules: what their numbers are (no program in sight) · maps between modules: their equations and solutions, by both ways (no program in sight) · the images that masks of unknowns tell; the first map that has an inverse (no program in sight) -/
import Derived.Test.YtdkmdmpaflgfaaaGreatDoorBxae
set_option linter.all false
namespace Go.Proofs.YtdkmdmpaflgfaaaGreatDoor

section
variable {xs : List Int} {Q : List (List Int)}
theorem Shp.srtL (h : Shp xs Q) : SrtL xs := fun _ _ hij hj => h.mono' hij hj
theorem Shp.sm (h : Shp xs Q) {v : Nat} (hv : v < 2 ^ xs.length) : Sm v := sm_of_lt (a := xs.length) (by have := h.len; omega) hv
theorem tb_an (a b i : Nat) : tb (an a b) i = (tb a i && tb b i) := by unfold tb an; exact Nat.testBit_and ..
theorem an_xr (a b m : Nat) : an (xr a b) m = xr (an a m) (an b m) := eq_of_tb fun i => by
  rw [tb_an, tb_xr, tb_xr, tb_an, tb_an]; cases tb a i <;> cases tb b i <;> cases tb m i <;> rfl

theorem sp_lt {S : List Nat} {n : Nat} (h : ∀ r ∈ S, r < 2 ^ n) {v : Nat} (hv : Sp S v) : v < 2 ^ n := by
  induction hv with
  | zero => exact Nat.two_pow_pos _
  | add hm _ ih => exact xr_lt (h _ hm) ih

/-! ### how many of a degree -/
def cnt (l : List Int) (d : Int) : Nat := l.countP fun x => decide (x = d)
theorem cnt_take {l : List Int} {k : Nat} (h : k < l.length) (d : Int) : cnt (l.take (k + 1)) d = cnt (l.take k) d + if l.getD k 0 = d then 1 else 0 := by
  rw [take_succ_getD h]
  unfold cnt
  rw [List.countP_append, List.countP_singleton]
  congr 1
  by_cases e : l.getD k 0 = d
  · rw [if_pos e, if_pos (by simpa using e)]
  · rw [if_neg e, if_neg (by simpa using e)]
theorem cnt_ofDeg (xs : List Int) (Z : List Nat) (d : Int) : cnt (Z.map fun r => xs.getD (pv r) 0) d = (ofDeg xs d Z).length := by
  unfold cnt ofDeg
  rw [List.countP_map, List.countP_eq_length_filter]; rfl
theorem cnt_idx (xs : List Int) (d : Int) : ∀ k, k ≤ xs.length → ((List.range k).filter fun v => decide (xs.getD v 0 = d)).length = cnt (xs.take k) d
  | 0, _ => rfl
  | k + 1, h => by
    rw [List.range_succ, List.filter_append, List.length_append, cnt_idx xs d k (by omega), cnt_take (by omega)]
    congr 1
    by_cases e : xs.getD k 0 = d
    · rw [if_pos e, List.filter_cons_of_pos (by simpa using e)]; rfl
    · rw [if_neg e, List.filter_cons_of_neg (by simpa using e)]; rfl

/-! ### generators -/
/-- all squares of the basis, of the degrees 1 .. k -/
def sqAll (Q : List (List Int)) (size : Nat) : Nat → List Nat
  | 0 => []
  | k + 1 => sqAll Q size k ++ sqRow Q size (k + 1)
theorem sqAll_length (Q : List (List Int)) (size : Nat) : ∀ k, (sqAll Q size k).length = k * size
  | 0 => by simp [sqAll]
  | k + 1 => by unfold sqAll; rw [List.length_append, sqAll_length Q size k, sqRow_length, Nat.succ_mul]
theorem mem_sqAll {size : Nat} {r : Nat} : ∀ k, r ∈ sqAll Q size k ↔ ∃ n i, n < k ∧ i < size ∧ r = sqOr Q (n + 1) i
  | 0 => by simp [sqAll]
  | k + 1 => by
    unfold sqAll
    rw [List.mem_append, mem_sqAll k]
    constructor
    · rintro (⟨n, i, hn, hi, rfl⟩ | h)
      · exact ⟨n, i, by omega, hi, rfl⟩
      · unfold sqRow at h
        obtain ⟨i, hi, rfl⟩ := List.mem_map.1 h
        exact ⟨k, i, by omega, List.mem_range.1 hi, rfl⟩
    · rintro ⟨n, i, hn, hi, rfl⟩
      by_cases e : n = k
      · subst e; right; unfold sqRow; exact List.mem_map.2 ⟨i, List.mem_range.2 hi, rfl⟩
      · left; exact ⟨n, i, by omega, hi, rfl⟩
/-- the squares of basis elements below a degree that come into it -/
def genTo (xs : List Int) (Q : List (List Int)) (d : Int) (k : Nat) : List Nat := ((List.range k).filter fun v => decide (xs.getD v 0 < d)).map fun v => act Q (d - xs.getD v 0) (2 ^ v)
theorem genTo_succ (xs : List Int) (Q : List (List Int)) (d : Int) (k : Nat) : genTo xs Q d (k + 1) = genTo xs Q d k ++ if xs.getD k 0 < d then [act Q (d - xs.getD k 0) (2 ^ k)] else [] := by
  unfold genTo
  rw [List.range_succ, List.filter_append, List.map_append]
  congr 1
  by_cases e : xs.getD k 0 < d
  · rw [if_pos e, List.filter_cons_of_pos (by simpa using e)]; rfl
  · rw [if_neg e, List.filter_cons_of_neg (by simpa using e)]; rfl
def genRows (xs : List Int) (Q : List (List Int)) (d : Int) : List Nat := genTo xs Q d xs.length
theorem genTo_mem {d : Int} {k r : Nat} (h : r ∈ genTo xs Q d k) : ∃ v, v < k ∧ xs.getD v 0 < d ∧ r = act Q (d - xs.getD v 0) (2 ^ v) := by
  unfold genTo at h
  obtain ⟨v, hv, rfl⟩ := List.mem_map.1 h
  obtain ⟨h1, h2⟩ := List.mem_filter.1 hv
  exact ⟨v, List.mem_range.1 h1, by simpa using h2, rfl⟩
theorem mem_genTo {d : Int} {k v : Nat} (hv : v < k) (hd : xs.getD v 0 < d) : act Q (d - xs.getD v 0) (2 ^ v) ∈ genTo xs Q d k := by
  unfold genTo
  exact List.mem_map.2 ⟨v, List.mem_filter.2 ⟨List.mem_range.2 hv, by simpa using hd⟩, rfl⟩
theorem pow_lt_len {v : Nat} (h : v < xs.length) : 2 ^ v < 2 ^ xs.length := pow_lt_pow h
theorem genTo_lt (h : Shp xs Q) {d : Int} {k r : Nat} (hk : k ≤ xs.length) (hr : r ∈ genTo xs Q d k) : r < 2 ^ xs.length := by
  obtain ⟨v, hv, _, rfl⟩ := genTo_mem hr
  exact act_lt h (pow_lt_len (by omega)) _
theorem sqAll_sm (h : Shp xs Q) {k : Nat} : ∀ r ∈ sqAll Q xs.length k, Sm r := fun r hr => by
  obtain ⟨n, i, hn, hi, rfl⟩ := (mem_sqAll k).1 hr
  rw [sqOr_act h]; exact h.sm (act_lt h (pow_lt_len hi) _)
/-- as many reduced squares of a degree as the rank of the squares that come into it -/
theorem gen_law (h : Shp xs Q) (d : Nat) (hd : d ≤ 20) : (ofDeg xs (d : Int) (reduceS (sqAll Q xs.length 20))).length = rkS (genRows xs Q (d : Int)) := by
  have hS := sqAll_sm (k := 20) h
  have hh : ∀ r ∈ sqAll Q xs.length 20, r ≠ 0 → ∃ d : Nat, d < 21 ∧ Hom xs (d : Int) r := by
    intro r hr h0
    obtain ⟨n, i, hn, hi, rfl⟩ := (mem_sqAll 20).1 hr
    rw [sqOr_act h] at h0 ⊢
    have hH := act_hom h (n := ((n + 1 : Nat) : Int)) (Hom.pow (xs := xs) hi)
    have hp := hH.pv h0 (h.sm (act_lt h (pow_lt_len hi) _))
    have h1 := h.deg _ hp.1
    have h2 := h.deg i hi
    refine ⟨(xs.getD i 0 + ((n + 1 : Nat) : Int)).toNat, by omega, ?_⟩
    rw [Int.toNat_of_nonneg (by omega)]; exact hH
  have e := byDeg_eq h.srtL hS hh
  rw [← e, ofDeg_byDeg hS d 21 (by omega)]
  unfold part
  refine (dim_reduce (sm_filter hS _)).unique ((rk_dim _ (genRows xs Q (d : Int)) rfl fun r hr => h.sm (genTo_lt h (Nat.le_refl _) hr)).congr fun v => ?_)
  constructor
  · refine Sp.trans fun r hr => .mem (List.mem_filter.2 ?_)
    obtain ⟨v, hv, hlt, rfl⟩ := genTo_mem hr
    have h2 := h.deg v hv
    have e : (d : Int) - xs.getD v 0 = (((d : Int) - xs.getD v 0 - 1).toNat + 1 : Nat) := by omega
    refine ⟨(mem_sqAll 20).2 ⟨((d : Int) - xs.getD v 0 - 1).toNat, v, by omega, hv, ?_⟩, homB_iff.2 ?_⟩
    · rw [sqOr_act h, ← e]
    · have := act_hom h (n := (d : Int) - xs.getD v 0) (Hom.pow (xs := xs) hv)
      rwa [show xs.getD v 0 + ((d : Int) - xs.getD v 0) = d by omega] at this
  · refine Sp.trans fun r hr => ?_
    obtain ⟨hr, hb⟩ := List.mem_filter.1 hr
    obtain ⟨n, i, hn, hi, rfl⟩ := (mem_sqAll 20).1 hr
    by_cases h0 : sqOr Q (n + 1) i = 0
    · rw [h0]; exact .zero
    · have hH := homB_iff.1 hb
      rw [sqOr_act h] at h0 hH ⊢
      have hs := h.sm (act_lt h (pow_lt_len hi) ((n + 1 : Nat) : Int))
      have p1 := (hH.pv h0 hs).2
      have p2 := ((act_hom h (n := ((n + 1 : Nat) : Int)) (Hom.pow (xs := xs) hi)).pv h0 hs).2
      have e : ((n + 1 : Nat) : Int) = (d : Int) - xs.getD i 0 := by omega
      rw [e]
      exact .mem (mem_genTo hi (by omega))

/-! ### annihilated vectors -/
theorem tb_shl (b m i : Nat) : tb (b <<< m) i = (decide (m ≤ i) && tb b (i - m)) := by unfold tb; exact Nat.testBit_shiftLeft ..
theorem shl_xr (a b m : Nat) : (xr a b) <<< m = xr (a <<< m) (b <<< m) := eq_of_tb fun i => by
  rw [tb_shl, tb_xr, tb_xr, tb_shl, tb_shl]; cases decide (m ≤ i) <;> simp
theorem shl_lt {b n m : Nat} (h : b < 2 ^ n) : b <<< m < 2 ^ (m + n) := lt_of_tb fun i hi => by
  rw [tb_shl, tb_of_lt h (by omega)]; simp
/-- all squares of a vector, one behind the other -/
def bigR (Q : List (List Int)) (n v : Nat) : Nat → Nat
  | 0 => 0
  | k + 1 => xr (bigR Q n v k) (act Q ((k + 1 : Nat) : Int) v <<< (k * n))
theorem bigR_lt (h : Shp xs Q) {v : Nat} (hv : v < 2 ^ xs.length) : ∀ k, bigR Q xs.length v k < 2 ^ (k * xs.length)
  | 0 => Nat.two_pow_pos _
  | k + 1 => by
    unfold bigR
    refine xr_lt (Nat.lt_of_lt_of_le (bigR_lt h hv k) (Nat.pow_le_pow_right (by omega) (Nat.mul_le_mul_right _ (by omega)))) ?_
    rw [Nat.succ_mul]; exact shl_lt (act_lt h hv _)
theorem bigR_lin (Q : List (List Int)) (n : Nat) : ∀ k, Lin fun v => bigR Q n v k
  | 0 => ⟨fun _ _ => (xr_self 0).symm⟩
  | k + 1 => ⟨fun x y => by
    show xr (bigR Q n (xr x y) k) (act Q ((k + 1 : Nat) : Int) (xr x y) <<< (k * n)) = xr (xr (bigR Q n x k) (act Q ((k + 1 : Nat) : Int) x <<< (k * n))) (xr (bigR Q n y k) (act Q ((k + 1 : Nat) : Int) y <<< (k * n)))
    rw [(bigR_lin Q n k).add, act_lin, shl_xr]
    simp only [xr_assoc]
    rw [xr_left (bigR Q n y k)]⟩
theorem bigR_zero (h : Shp xs Q) {v : Nat} (hv : v < 2 ^ xs.length) : ∀ k, bigR Q xs.length v k = 0 ↔ ∀ t, t < k → act Q ((t + 1 : Nat) : Int) v = 0
  | 0 => by simp [bigR]
  | k + 1 => by
    have hl := bigR_lt h hv k
    constructor
    · intro h0
      have hb : ∀ i, (tb (bigR Q xs.length v k) i ^^ (decide (k * xs.length ≤ i) && tb (act Q ((k + 1 : Nat) : Int) v) (i - k * xs.length))) = false := fun i => by
        have := congrArg (fun z => tb z i) h0
        simp only [bigR] at this
        rwa [tb_xr, tb_shl, tb_zero] at this
      have h1 : bigR Q xs.length v k = 0 := eq_zero_of_tb fun i => by
        rcases Nat.lt_or_ge i (k * xs.length) with hi | hi
        · have := hb i
          rw [decide_eq_false (by omega)] at this
          simpa using this
        · exact tb_of_lt hl hi
      have h2 : act Q ((k + 1 : Nat) : Int) v = 0 := eq_zero_of_tb fun i => by
        have := hb (i + k * xs.length)
        rw [tb_of_lt hl (by omega), decide_eq_true (by omega), Nat.add_sub_cancel] at this
        simpa using this
      intro t ht
      by_cases e : t = k
      · subst e; exact h2
      · exact (bigR_zero h hv k).1 h1 t (by omega)
    · intro h0
      unfold bigR
      rw [(bigR_zero h hv k).2 fun t ht => h0 t (by omega), h0 k (by omega)]
      rw [Nat.zero_shiftLeft]; rfl
theorem bits_app (a b m n : Nat) (ha : a < 2 ^ m) : bitsL (xr a (b <<< m)) (m + n) = bitsL a m ++ bitsL b n := by
  have e : (m + n) = (bitsL a m ++ bitsL b n).length := by rw [List.length_append, bitsL_length, bitsL_length]
  refine list_ext_getD (bitsL_length _ _) e.symm fun i hi => ?_
  rw [bitsL_getD _ hi]
  rcases Nat.lt_or_ge i m with h1 | h1
  · rw [show (bitsL a m ++ bitsL b n).getD i 0 = (bitsL a m).getD i 0 by simp [List.getD, List.getElem?_append_left (show i < (bitsL a m).length by rw [bitsL_length]; exact h1)], bitsL_getD _ h1]
    unfold bit
    rw [tb_xr, tb_shl, decide_eq_false (by omega)]; simp
  · rw [show (bitsL a m ++ bitsL b n).getD i 0 = (bitsL b n).getD (i - m) 0 by simp [List.getD, List.getElem?_append_right (show (bitsL a m).length ≤ i by rw [bitsL_length]; exact h1), bitsL_length], bitsL_getD _ (by omega)]
    unfold bit
    rw [tb_xr, tb_shl, decide_eq_true h1, tb_of_lt ha h1]; simp
theorem bigR_bits (h : Shp xs Q) {v : Nat} (hv : v < 2 ^ xs.length) (k : Nat) : bitsL (bigR Q xs.length v (k + 1)) ((k + 1) * xs.length) = bitsL (bigR Q xs.length v k) (k * xs.length) ++ bitsL (act Q ((k + 1 : Nat) : Int) v) xs.length := by
  rw [Nat.succ_mul]; exact bits_app _ _ _ _ (bigR_lt h hv k)
def annTo (xs : List Int) (Q : List (List Int)) (d : Int) (k : Nat) : List Nat := ((List.range k).filter fun v => decide (xs.getD v 0 = d)).map fun v => bigR Q xs.length (2 ^ v) 20
theorem annTo_succ (xs : List Int) (Q : List (List Int)) (d : Int) (k : Nat) : annTo xs Q d (k + 1) = annTo xs Q d k ++ if xs.getD k 0 = d then [bigR Q xs.length (2 ^ k) 20] else [] := by
  unfold annTo
  rw [List.range_succ, List.filter_append, List.map_append]
  congr 1
  by_cases e : xs.getD k 0 = d
  · rw [if_pos e, List.filter_cons_of_pos (by simpa using e)]; rfl
  · rw [if_neg e, List.filter_cons_of_neg (by simpa using e)]; rfl
def annRows (xs : List Int) (Q : List (List Int)) (d : Int) : List Nat := annTo xs Q d xs.length
theorem annTo_lt (h : Shp xs Q) {d : Int} {k r : Nat} (hk : k ≤ xs.length) (hr : r ∈ annTo xs Q d k) : r < 2 ^ (20 * xs.length) := by
  unfold annTo at hr
  obtain ⟨v, hv, rfl⟩ := List.mem_map.1 hr
  exact bigR_lt h (pow_lt_len (Nat.lt_of_lt_of_le (List.mem_range.1 (List.mem_filter.1 hv).1) hk)) 20
theorem annTo_length (xs : List Int) (Q : List (List Int)) (d : Int) {k : Nat} (hk : k ≤ xs.length) : (annTo xs Q d k).length = cnt (xs.take k) d := by
  unfold annTo; rw [List.length_map]; exact cnt_idx xs d k hk
/-- vectors of which all squares make 0 -/
def AnnZ (xs : List Int) (Q : List (List Int)) (v : Nat) : Prop := v < 2 ^ xs.length ∧ ∀ t, t < 20 → act Q ((t + 1 : Nat) : Int) v = 0
theorem AnnZ.xr {v w : Nat} (hv : AnnZ xs Q v) (hw : AnnZ xs Q w) : AnnZ xs Q (xr v w) :=
  ⟨xr_lt hv.1 hw.1, fun t ht => by rw [act_lin, hv.2 t ht, hw.2 t ht]; rfl⟩
theorem AnnZ.zero (xs : List Int) (Q : List (List Int)) : AnnZ xs Q 0 := ⟨Nat.two_pow_pos _, fun _ _ => act_zero _ _⟩
theorem AnnZ.sp {S : List Nat} (h : ∀ r ∈ S, AnnZ xs Q r) {v : Nat} (hv : Sp S v) : AnnZ xs Q v := by
  induction hv with
  | zero => exact AnnZ.zero _ _
  | add hm _ ih => exact (h _ hm).xr ih
/-- no digit of a degree -/
def NoDeg (xs : List Int) (d : Int) (v : Nat) : Prop := ∀ c, tb v c = true → c < xs.length ∧ xs.getD c 0 ≠ d
theorem NoDeg.zero (xs : List Int) (d : Int) : NoDeg xs d 0 := fun c h => by rw [tb_zero] at h; cases h
theorem NoDeg.xr {d : Int} {v w : Nat} (hv : NoDeg xs d v) (hw : NoDeg xs d w) : NoDeg xs d (xr v w) := fun c h => by
  rw [tb_xr] at h
  cases h1 : tb v c
  · rw [h1] at h; exact hw c (by simpa using h)
  · exact hv c h1
theorem noDeg_hit {e : List Int} (he : EntM xs e) (n d : Int) {v : Nat} (hv : NoDeg xs d v) : NoDeg xs (d + n) (hit n v e) := by
  unfold hit; split
  · rename_i h
    have h1 := (hv _ h.2).2
    have h2 := he.dg
    intro c hc
    rw [tb_pow] at hc; simp only [decide_eq_true_eq] at hc
    subst hc
    refine ⟨by have := he.lo2; have := he.hi2; omega, ?_⟩
    rw [h2, h.1]; omega
  · exact NoDeg.zero _ _
theorem noDeg_actE (n d : Int) {v : Nat} (hv : NoDeg xs d v) : ∀ {Q : List (List Int)}, (∀ e ∈ Q, EntM xs e) → NoDeg xs (d + n) (actE Q n v)
  | [], _ => NoDeg.zero _ _
  | e :: Q, h => by
    rw [actE_cons]
    exact (noDeg_hit (h e (List.mem_cons_self ..)) n d hv).xr (noDeg_actE n d hv fun f hf => h f (List.mem_cons_of_mem _ hf))
theorem Hom.noDeg {d : Int} {v : Nat} (h : Hom xs d v) (h2 : NoDeg xs d v) : v = 0 := eq_zero_of_tb fun c => by
  cases hc : tb v c with
  | false => rfl
  | true => exact absurd (h c hc).2 (h2 c hc).2
theorem comp_hom (xs : List Int) (d : Int) (v : Nat) : Hom xs d (an v (dmask xs d)) := fun c hc => by
  rw [tb_an, tb_dmask] at hc
  simp only [Bool.and_eq_true, decide_eq_true_eq] at hc
  exact hc.2
theorem hom_comp {d : Int} {v : Nat} (h : Hom xs d v) : an v (dmask xs d) = v := eq_of_tb fun c => by
  rw [tb_an, tb_dmask]
  cases hc : tb v c with
  | false => rfl
  | true => rw [decide_eq_true (h c hc).1, decide_eq_true (h c hc).2]; rfl
theorem AnnZ.comp (h : Shp xs Q) {v : Nat} (hv : AnnZ xs Q v) (d : Int) : AnnZ xs Q (an v (dmask xs d)) := by
  have hc := comp_hom xs d v
  refine ⟨hc.lt, fun t ht => ?_⟩
  have e : Go.Proofs.YtdkmdmpaflgfaaaGreatDoor.xr (an v (dmask xs d)) (nt v (dmask xs d)) = v := eq_of_tb fun i => by
    rw [tb_xr, tb_an, tb_nt]; cases tb v i <;> cases tb (dmask xs d) i <;> rfl
  have h0 := hv.2 t ht
  rw [← e, act_lin] at h0
  have e2 : act Q ((t + 1 : Nat) : Int) (an v (dmask xs d)) = act Q ((t + 1 : Nat) : Int) (nt v (dmask xs d)) := by
    have := congrArg (Go.Proofs.YtdkmdmpaflgfaaaGreatDoor.xr (act Q ((t + 1 : Nat) : Int) (an v (dmask xs d)))) h0
    rw [xr_xr, xr_zero] at this; exact this.symm
  have hH := act_hom h (n := ((t + 1 : Nat) : Int)) hc
  refine hH.noDeg ?_
  rw [e2, act_pos (by omega)]
  refine noDeg_actE _ _ (fun c hc => ?_) fun e he => h.mem he
  rw [tb_nt, tb_dmask] at hc
  simp only [Bool.and_eq_true, Bool.not_eq_true', Bool.and_eq_false_iff, decide_eq_false_iff_not] at hc
  have hlt : c < xs.length := by
    rcases Nat.lt_or_ge c xs.length with h1 | h1
    · exact h1
    · rw [tb_of_lt hv.1 h1] at hc; cases hc.1
  refine ⟨hlt, ?_⟩
  rcases hc.2 with h1 | h1
  · exact absurd hlt h1
  · exact h1
/-- the digits of the degrees below k -/
def lowR (xs : List Int) (v : Nat) : Nat → Nat
  | 0 => 0
  | k + 1 => xr (an v (dmask xs (k : Int))) (lowR xs v k)
theorem tb_lowR (xs : List Int) (v : Nat) : ∀ k i, tb (lowR xs v k) i = (tb v i && (decide (i < xs.length) && decide (0 ≤ xs.getD i 0 ∧ xs.getD i 0 < (k : Int))))
  | 0, i => by
    unfold lowR
    rw [tb_zero, decide_eq_false (show ¬ (0 ≤ xs.getD i 0 ∧ xs.getD i 0 < ((0 : Nat) : Int)) by omega)]; simp
  | k + 1, i => by
    unfold lowR
    rw [tb_xr, tb_an, tb_dmask, tb_lowR xs v k i]
    by_cases h : xs.getD i 0 = (k : Int)
    · rw [decide_eq_true h, decide_eq_false (show ¬ (0 ≤ xs.getD i 0 ∧ xs.getD i 0 < (k : Int)) by omega), decide_eq_true (show 0 ≤ xs.getD i 0 ∧ xs.getD i 0 < ((k + 1 : Nat) : Int) by omega)]
      cases tb v i <;> cases decide (i < xs.length) <;> rfl
    · rw [decide_eq_false h]
      have e : decide (0 ≤ xs.getD i 0 ∧ xs.getD i 0 < (k : Int)) = decide (0 ≤ xs.getD i 0 ∧ xs.getD i 0 < ((k + 1 : Nat) : Int)) := by
        apply decide_eq_decide.2; omega
      rw [e]
      cases tb v i <;> cases decide (i < xs.length) <;> simp
theorem lowR_all (h : Shp xs Q) {v : Nat} (hv : v < 2 ^ xs.length) : lowR xs v 21 = v := eq_of_tb fun i => by
  rw [tb_lowR]
  rcases Nat.lt_or_ge i xs.length with h1 | h1
  · have := h.deg i h1
    rw [decide_eq_true h1, decide_eq_true (show 0 ≤ xs.getD i 0 ∧ xs.getD i 0 < ((21 : Nat) : Int) by omega)]; simp
  · rw [tb_of_lt hv h1]; rfl
theorem sp_lowR {S : List Nat} {v : Nat} : ∀ k, (∀ d, d < k → Sp S (an v (dmask xs ((d : Nat) : Int)))) → Sp S (lowR xs v k)
  | 0, _ => .zero
  | k + 1, h => (h k (by omega)).plus (sp_lowR k fun d hd => h d (by omega))
theorem sp_bits {S : List Nat} : ∀ n w, w < 2 ^ n → (∀ i, tb w i = true → 2 ^ i ∈ S) → Sp S w
  | 0, w, hw, _ => by
    have : w = 0 := by simpa using hw
    subst this; exact .zero
  | n + 1, w, hw, h => by
    cases hb : tb w n
    · exact sp_bits n w (lt_of_top hw hb) h
    · have h1 : xr (2 ^ n) w < 2 ^ n := lt_of_tb fun m hm => by
        rw [tb_xr, tb_pow]
        by_cases e : n = m
        · subst e; rw [hb]; simp
        · rw [decide_eq_false e, tb_of_lt hw (by omega)]; rfl
      have h2 := sp_bits (S := S) n _ h1 fun i hi => h i (by
        rw [tb_xr, tb_pow] at hi
        by_cases e : n = i
        · subst e; exact hb
        · rw [decide_eq_false e] at hi; simpa using hi)
      have := Sp.add (h n hb) h2
      rwa [xr_xr] at this
theorem fre_pows : ∀ {I : List Nat}, I.Nodup → Fre (I.map fun v => 2 ^ v) := by
  intro I hI k hk hs
  rw [List.length_map] at hk
  rw [← List.map_take, show (I.map fun v => 2 ^ v).getD k 0 = 2 ^ I[k] by simp [List.getD, hk]] at hs
  have := hs.off (n := I[k]) fun r hr => by
    obtain ⟨v, hv, rfl⟩ := List.mem_map.1 hr
    rw [tb_pow]
    simp only [decide_eq_false_iff_not]
    rintro rfl
    obtain ⟨j, hj, e⟩ := List.getElem_of_mem hv
    rw [List.length_take] at hj
    rw [List.getElem_take] at e
    exact (List.pairwise_iff_getElem.1 hI) j k (by omega) hk (by omega) e
  rw [tb_pow] at this; simp at this
/-- THE NUMBER OF ANNIHILATED VECTORS OF A DEGREE AND THE RANK OF ALL SQUARES OF THE DEGREE FILL UP ITS DIMENSION -/
theorem ann_law (h : Shp xs Q) {Z : List Nat} (hZ : Red Z) (hA : Asc Z) (hs : ∀ v, Sp Z v ↔ AnnZ xs Q v) (d : Nat) (hd : d ≤ 20) : (ofDeg xs (d : Int) Z).length + rkS (annRows xs Q (d : Int)) = cnt xs (d : Int) := by
  have hmS : ∀ r, r ∈ (Z.flatMap fun r => (List.range 21).map fun d => an r (dmask xs ((d : Nat) : Int))) ↔ ∃ s ∈ Z, ∃ d, d < 21 ∧ r = an s (dmask xs ((d : Nat) : Int)) := by
    intro r
    rw [List.mem_flatMap]
    constructor
    · rintro ⟨s, hs, hr⟩
      obtain ⟨d, hd, rfl⟩ := List.mem_map.1 hr
      exact ⟨s, hs, d, List.mem_range.1 hd, rfl⟩
    · rintro ⟨s, hs, d, hd, rfl⟩
      exact ⟨s, hs, List.mem_map.2 ⟨d, List.mem_range.2 hd, rfl⟩⟩
  generalize (Z.flatMap fun r => (List.range 21).map fun d => an r (dmask xs ((d : Nat) : Int))) = S at hmS
  have hann : ∀ r ∈ S, AnnZ xs Q r := fun r hr => by
    obtain ⟨s, hs', d, _, rfl⟩ := (hmS r).1 hr
    exact ((hs s).1 (.mem hs')).comp h _
  have hS : ∀ r ∈ S, Sm r := fun r hr => h.sm (hann r hr).1
  have hh : ∀ r ∈ S, r ≠ 0 → ∃ d : Nat, d < 21 ∧ Hom xs (d : Int) r := fun r hr _ => by
    obtain ⟨s, _, d, hd, rfl⟩ := (hmS r).1 hr
    exact ⟨d, hd, comp_hom xs _ s⟩
  have e1 : reduceS S = Z := red_asc_unique (red_reduce hS) hZ (asc_reduce hS) hA fun v => by
    rw [sp_reduce hS]
    constructor
    · exact fun hv => (hs v).2 (AnnZ.sp hann hv)
    · refine Sp.trans fun r hr => ?_
      have hr1 := (hs r).1 (.mem hr)
      rw [← lowR_all h hr1.1]
      exact sp_lowR 21 fun d hd => .mem ((hmS _).2 ⟨r, hr, d, hd, rfl⟩)
  have e := byDeg_eq h.srtL hS hh
  rw [← e1, ← e, ofDeg_byDeg hS d 21 (by omega)]
  unfold part
  have hD := (dim_reduce (sm_filter hS (homB xs (d : Int)))).congr (Q := fun v => AnnZ xs Q v ∧ Hom xs (d : Int) v) fun v => by
    constructor
    · intro hv
      exact ⟨AnnZ.sp (fun r hr => hann r (List.mem_filter.1 hr).1) hv, hom_sp (fun r hr => homB_iff.1 (List.mem_filter.1 hr).2) hv⟩
    · rintro ⟨h1, h2⟩
      have key : ∀ u, Sp Z u → Sp (S.filter (homB xs (d : Int))) (an u (dmask xs (d : Int))) := by
        intro u hu
        induction hu with
        | zero => rw [show an 0 (dmask xs (d : Int)) = 0 from Nat.zero_and _]; exact .zero
        | add hm _ ih =>
          rw [an_xr]
          exact .add (List.mem_filter.2 ⟨(hmS _).2 ⟨_, hm, d, by omega, rfl⟩, homB_iff.2 (comp_hom xs _ _)⟩) ih
      have := key v ((hs v).2 h1)
      rwa [hom_comp h2] at this
  have hR : (annRows xs Q (d : Int)).length = cnt xs (d : Int) := by
    unfold annRows; rw [annTo_length xs Q _ (Nat.le_refl _), List.take_of_length_le (Nat.le_refl _)]
  have hle : cnt xs (d : Int) ≤ 16 := Nat.le_trans List.countP_le_length h.len
  obtain ⟨k, hk, hK⟩ := rk_ker _ (annRows xs Q (d : Int)) rfl (by omega)
  have hI : ((List.range xs.length).filter fun v => decide (xs.getD v 0 = (d : Int))).Nodup := List.Pairwise.filter _ List.nodup_range
  have hIm : ∀ i, i ∈ ((List.range xs.length).filter fun v => decide (xs.getD v 0 = (d : Int))) ↔ i < xs.length ∧ xs.getD i 0 = (d : Int) := fun i => by
    rw [List.mem_filter, List.mem_range, decide_eq_true_eq]
  have hRB : annRows xs Q (d : Int) = (((List.range xs.length).filter fun v => decide (xs.getD v 0 = (d : Int))).map fun v => 2 ^ v).map fun v => bigR Q xs.length v 20 := by
    unfold annRows annTo; rw [List.map_map]; rfl
  generalize ((List.range xs.length).filter fun v => decide (xs.getD v 0 = (d : Int))) = I at *
  have hBm : ∀ r ∈ I.map (fun v => 2 ^ v), r < 2 ^ xs.length ∧ Hom xs (d : Int) r := fun r hr => by
    obtain ⟨i, hi, rfl⟩ := List.mem_map.1 hr
    obtain ⟨a, b⟩ := (hIm i).1 hi
    refine ⟨pow_lt_len a, ?_⟩
    rw [← b]; exact Hom.pow a
  have hF := fre_pows hI
  generalize hB : I.map (fun v => 2 ^ v) = B at *
  have hlen : (annRows xs Q (d : Int)).length = B.length := by rw [hRB, List.length_map]
  have hclt : ∀ z, comb B 0 z < 2 ^ xs.length := fun z => comb_lt (fun r hr => (hBm r hr).1) 0 z
  have hD2 : Dim (fun v => AnnZ xs Q v ∧ Hom xs (d : Int) v) k := by
    refine hK.map (f := comb B 0) ⟨fun x y => comb_xr B 0 x y⟩ ?_ (fun v _ => h.sm (hclt v)) fun w => ?_
    · intro z hz h0
      refine comb_inj hF B.length z (Nat.le_refl _) ?_ h0
      have := hz.1; rwa [hlen] at this
    · constructor
      · rintro ⟨h1, h2⟩
        have hw : Sp B w := sp_bits xs.length w h1.1 fun i hi => by
          rw [← hB]; exact List.mem_map.2 ⟨i, (hIm i).2 (h2 i hi), rfl⟩
        have hBs : ∀ r ∈ B, Sm r := fun r hr => h.sm (hBm r hr).1
        have h0 := (sol_iff hBs w).2 hw
        have hc := sol_comb w h0
        have hz := sol_lt (fun r hr => (hBm r hr).1) h1.1
        refine ⟨(solL B w).2, ⟨by rw [hlen]; exact hz, ?_⟩, hc.symm⟩
        rw [hRB, comb_map (bigR_lin Q xs.length 20), hc]
        exact (bigR_zero h h1.1 20).2 h1.2
      · rintro ⟨z, hz, rfl⟩
        have h0 := hz.2
        rw [hRB, comb_map (bigR_lin Q xs.length 20)] at h0
        exact ⟨⟨hclt z, (bigR_zero h (hclt z) 20).1 h0⟩, hom_sp (fun r hr => (hBm r hr).2) (comb_sp B 0 z)⟩
  have := hD.unique hD2
  rw [this, ← hR]; exact hk
end
end Go.Proofs.YtdkmdmpaflgfaaaGreatDoor

namespace Go.Proofs.YtdkmdmpaflgfaaaGreatDoor

/-! ### products of masks -/
def dot (a x : Nat) : Nat → Bool
  | 0 => false
  | n + 1 => dot a x n ^^ (tb a n && tb x n)
theorem dot_xr (a x y : Nat) : ∀ n, dot a (xr x y) n = (dot a x n ^^ dot a y n)
  | 0 => rfl
  | n + 1 => by
    unfold dot
    rw [dot_xr a x y n, tb_xr]
    cases dot a x n <;> cases dot a y n <;> cases tb a n <;> cases tb x n <;> cases tb y n <;> rfl
theorem dot_zero (a : Nat) : ∀ n, dot a 0 n = false
  | 0 => rfl
  | n + 1 => by unfold dot; rw [dot_zero a n, tb_zero]; simp
/-- only one place counts -/
theorem dot_one {a x p : Nat} : ∀ n, (∀ j, j < n → j ≠ p → (tb a j && tb x j) = false) → dot a x n = (decide (p < n) && (tb a p && tb x p))
  | 0, _ => by simp [dot]
  | n + 1, h => by
    unfold dot
    rw [dot_one n fun j hj hp => h j (by omega) hp]
    by_cases e : n = p
    · subst e; simp
    · rw [h n (by omega) e]
      have : decide (p < n + 1) = decide (p < n) := decide_eq_decide.2 (by omega)
      rw [this]; simp
theorem dot_pow {a u n : Nat} (hu : u < n) : dot a (2 ^ u) n = tb a u := by
  rw [dot_one (p := u) n fun j _ hp => by rw [tb_pow, decide_eq_false (by omega)]; simp]
  rw [tb_pow]; simp [hu]
/-- the columns of rows -/
def trTo (C : List Nat) (u : Nat) : Nat → Nat
  | 0 => 0
  | i + 1 => if tb (C.getD i 0) u = true then orr (trTo C u i) (2 ^ i) else trTo C u i
theorem tb_trTo (C : List Nat) (u : Nat) : ∀ k i, tb (trTo C u k) i = (decide (i < k) && tb (C.getD i 0) u)
  | 0, i => by simp [trTo, tb_zero]
  | k + 1, i => by
    unfold trTo
    by_cases e : i = k
    · subst e
      split
      · rename_i h; rw [tb_orr, tb_pow, h]; simp
      · rename_i h
        rw [tb_trTo]
        cases hb : tb (C.getD i 0) u
        · simp
        · exact absurd hb h
    · have e2 : decide (i < k + 1) = decide (i < k) := decide_eq_decide.2 (by omega)
      split
      · rw [tb_orr, tb_pow, tb_trTo, e2, decide_eq_false (show ¬ k = i by omega)]; simp
      · rw [tb_trTo, e2]
def trL (C : List Nat) (U : Nat) : List Nat := (List.range U).map fun u => trTo C u C.length
theorem trL_length (C : List Nat) (U : Nat) : (trL C U).length = U := by simp [trL]
theorem trL_getD (C : List Nat) {U u : Nat} (h : u < U) : (trL C U).getD u 0 = trTo C u C.length := by simp [trL, List.getD, h]
theorem comb_succ' (S : List Nat) (x : Nat) {k : Nat} (hk : k < S.length) : comb (S.take (k + 1)) 0 x = xr (comb (S.take k) 0 x) (if tb x k = true then S.getD k 0 else 0) := by
  have h := comb_take (S.take (k + 1)) 0 k (x &&& (2 ^ (k + 1) - 1)) (by rw [List.length_take]; omega) (fun m hm => by
    have : (x &&& (2 ^ (k + 1) - 1)) < 2 ^ (k + 1) := Nat.lt_of_le_of_lt Nat.and_le_right (by have := Nat.two_pow_pos (k + 1); omega)
    exact tb_of_lt this (by omega))
  have hb : ∀ m, m ≤ k → tb (x &&& (2 ^ (k + 1) - 1)) m = tb x m := fun m hm => by
    unfold tb; rw [Nat.testBit_and, Nat.testBit_two_pow_sub_one]; simp; omega
  have hc : ∀ (T : List Nat) i, i + T.length ≤ k + 1 → comb T i (x &&& (2 ^ (k + 1) - 1)) = comb T i x := by
    intro T
    induction T with
    | nil => intro i _; rfl
    | cons r T ih =>
      intro i hi
      simp only [List.length_cons] at hi
      simp only [comb]
      rw [hb i (by omega), ih (i + 1) (by omega)]
  rw [hc _ 0 (by rw [List.length_take]; omega), Nat.zero_add, hb k (Nat.le_refl _)] at h
  rw [h, List.take_take, show min k (k + 1) = k by omega, hc _ 0 (by rw [List.length_take]; omega)]
  congr 1
  have : (S.take (k + 1)).getD k 0 = S.getD k 0 := by simp [List.getD, List.getElem?_take]
  rw [this]
theorem tb_comb_tr (C : List Nat) (U x i : Nat) (hi : i < C.length) : ∀ k, k ≤ U → tb (comb ((trL C U).take k) 0 x) i = dot (C.getD i 0) x k
  | 0, _ => by unfold dot; rw [List.take_zero]; exact tb_zero i
  | k + 1, hk => by
    have e : tb (if tb x k = true then trTo C k C.length else 0) i = (tb (C.getD i 0) k && tb x k) := by
      cases hb : tb x k
      · rw [if_neg (by simp), tb_zero]; simp
      · rw [if_pos rfl, tb_trTo, decide_eq_true hi]; simp
    rw [comb_succ' _ _ (by rw [trL_length]; omega), tb_xr, tb_comb_tr C U x i hi k (by omega), trL_getD C (by omega), e]
    rfl
/-- the unknowns' masks for which all equations hold -/
def EqK (C : List Nat) (U x : Nat) : Prop := x < 2 ^ U ∧ ∀ r ∈ C, dot r x U = false
theorem eqK_tr {C : List Nat} {U : Nat} (x : Nat) (hC : C.length ≤ 62) : x < 2 ^ (trL C U).length ∧ comb (trL C U) 0 x = 0 ↔ EqK C U x := by
  rw [trL_length]
  unfold EqK
  have hall : comb (trL C U) 0 x = comb ((trL C U).take U) 0 x := by rw [List.take_of_length_le (by rw [trL_length]; exact Nat.le_refl _)]
  constructor
  · rintro ⟨h1, h2⟩
    refine ⟨h1, fun r hr => ?_⟩
    obtain ⟨i, hi, rfl⟩ := List.getElem_of_mem hr
    have := tb_comb_tr C U x i hi U (Nat.le_refl _)
    rw [← hall, h2, tb_zero] at this
    rw [show C[i] = C.getD i 0 by simp [List.getD, hi]]; exact this.symm
  · rintro ⟨h1, h2⟩
    refine ⟨h1, eq_zero_of_tb fun i => ?_⟩
    rcases Nat.lt_or_ge i C.length with hi | hi
    · rw [hall, tb_comb_tr C U x i hi U (Nat.le_refl _)]
      exact h2 _ (by simp [List.getD, hi])
    · have : comb (trL C U) 0 x < 2 ^ C.length := comb_lt (fun r hr => by
        unfold trL at hr
        obtain ⟨u, _, rfl⟩ := List.mem_map.1 hr
        exact lt_of_tb fun m hm => by rw [tb_trTo, decide_eq_false (by omega)]; rfl) 0 x
      exact tb_of_lt this hi

/-! ### solutions -/
def isPv (C : List Nat) (u : Nat) : Bool := C.any fun r => decide (pv r = u)
def ownTo (C : List Nat) (u : Nat) : Nat → Nat
  | 0 => 2 ^ u
  | i + 1 => if tb (C.getD i 0) u = true then orr (ownTo C u i) (2 ^ pv (C.getD i 0)) else ownTo C u i
def ownU (C : List Nat) (u : Nat) : Nat := ownTo C u C.length
theorem tb_ownTo (C : List Nat) (u : Nat) : ∀ k m, tb (ownTo C u k) m = true ↔ m = u ∨ ∃ i, i < k ∧ tb (C.getD i 0) u = true ∧ pv (C.getD i 0) = m
  | 0, m => by
    unfold ownTo; rw [tb_pow]
    simp only [decide_eq_true_eq]
    constructor
    · intro h; exact .inl h.symm
    · rintro (h | ⟨i, hi, _⟩)
      · exact h.symm
      · omega
  | k + 1, m => by
    unfold ownTo
    split
    · rename_i h
      rw [tb_orr, tb_pow, Bool.or_eq_true, tb_ownTo C u k m, decide_eq_true_eq]
      constructor
      · rintro ((h1 | ⟨i, a, b, c⟩) | h1)
        · exact .inl h1
        · exact .inr ⟨i, by omega, b, c⟩
        · exact .inr ⟨k, by omega, h, h1⟩
      · rintro (h1 | ⟨i, a, b, c⟩)
        · exact .inl (.inl h1)
        · by_cases e : i = k
          · subst e; exact .inr c
          · exact .inl (.inr ⟨i, by omega, b, c⟩)
    · rename_i h
      rw [tb_ownTo C u k m]
      constructor
      · rintro (h1 | ⟨i, a, b, c⟩)
        · exact .inl h1
        · exact .inr ⟨i, by omega, b, c⟩
      · rintro (h1 | ⟨i, a, b, c⟩)
        · exact .inl h1
        · by_cases e : i = k
          · subst e; exact absurd b h
          · exact .inr ⟨i, by omega, b, c⟩
theorem tb_ownU (C : List Nat) (u m : Nat) : tb (ownU C u) m = true ↔ m = u ∨ ∃ r ∈ C, tb r u = true ∧ pv r = m := by
  unfold ownU
  rw [tb_ownTo]
  constructor
  · rintro (h | ⟨i, a, b, c⟩)
    · exact .inl h
    · exact .inr ⟨_, getD_mem a, b, c⟩
  · rintro (h | ⟨r, hr, b, c⟩)
    · exact .inl h
    · obtain ⟨i, hi, rfl⟩ := List.getElem_of_mem hr
      refine .inr ⟨i, hi, ?_⟩
      rw [show C.getD i 0 = C[i] by simp [List.getD, hi]]; exact ⟨b, c⟩
def solsTo (C : List Nat) (k : Nat) : List Nat := ((List.range k).filter fun u => !isPv C u).map (ownU C)
theorem solsTo_succ (C : List Nat) (k : Nat) : solsTo C (k + 1) = solsTo C k ++ if isPv C k = true then [] else [ownU C k] := by
  unfold solsTo
  rw [List.range_succ, List.filter_append, List.map_append]
  congr 1
  cases h : isPv C k
  · rw [List.filter_cons_of_pos (by simp [h])]; rfl
  · rw [List.filter_cons_of_neg (by simp [h])]; rfl
theorem mem_solsTo {C : List Nat} {k r : Nat} : r ∈ solsTo C k ↔ ∃ u, u < k ∧ isPv C u = false ∧ r = ownU C u := by
  unfold solsTo
  constructor
  · intro h
    obtain ⟨u, hu, rfl⟩ := List.mem_map.1 h
    obtain ⟨a, b⟩ := List.mem_filter.1 hu
    exact ⟨u, List.mem_range.1 a, by simpa using b, rfl⟩
  · rintro ⟨u, hu, hp, rfl⟩
    exact List.mem_map.2 ⟨u, List.mem_filter.2 ⟨List.mem_range.2 hu, by simp [hp]⟩, rfl⟩
theorem isPv_no {C : List Nat} {u : Nat} (h : isPv C u = false) : ∀ r ∈ C, pv r ≠ u := fun r hr e => by
  unfold isPv at h
  rw [List.any_eq_false] at h
  exact h r hr (by simpa using e)
theorem isPv_yes {C : List Nat} {u : Nat} (h : isPv C u = true) : ∃ r ∈ C, pv r = u := by
  unfold isPv at h
  obtain ⟨r, hr, e⟩ := List.any_eq_true.1 h
  exact ⟨r, hr, by simpa using e⟩
section
variable {C : List Nat} {U : Nat}
theorem ownU_lt (hC : Red C) (hlt : ∀ r ∈ C, r < 2 ^ U) {u : Nat} (hu : u < U) : ownU C u < 2 ^ U := lt_of_tb fun m hm => by
  cases h : tb (ownU C u) m with
  | false => rfl
  | true =>
    rcases (tb_ownU C u m).1 h with h1 | ⟨r, hr, _, h1⟩
    · omega
    · have := pv_lt (hC.ne r hr).1 (hC.ne r hr).2 (hlt r hr); omega
theorem ownU_eq (hC : Red C) (hlt : ∀ r ∈ C, r < 2 ^ U) {u : Nat} (hu : u < U) (hp : isPv C u = false) : EqK C U (ownU C u) := by
  refine ⟨ownU_lt hC hlt hu, fun r hr => ?_⟩
  have hn := isPv_no hp
  have hpr : tb r (pv r) = true := tb_pv (hC.ne r hr).1 (hC.ne r hr).2
  have hpu := pv_lt (hC.ne r hr).1 (hC.ne r hr).2 (hlt r hr)
  -- 2^u and the rest, which has of r's digits the pivot alone
  have e : ownU C u = xr (2 ^ u) (xr (2 ^ u) (ownU C u)) := (xr_xr _ _).symm
  rw [e, dot_xr, dot_pow hu]
  rw [dot_one (p := pv r) U fun j _ hj => by
    cases h1 : tb r j with
    | false => rfl
    | true =>
      rw [Bool.true_and, tb_xr, tb_pow]
      by_cases eu : u = j
      · subst eu
        rw [(tb_ownU C u u).2 (.inl rfl)]; simp
      · rw [decide_eq_false eu]
        cases h2 : tb (ownU C u) j with
        | false => rfl
        | true =>
          rcases (tb_ownU C u j).1 h2 with h3 | ⟨s, hs, _, h3⟩
          · exact absurd h3.symm eu
          · exfalso
            by_cases ers : r = s
            · subst ers; exact hj h3.symm
            · have := hC.apart r hr s hs ers
              rw [h3, h1] at this; cases this]
  rw [decide_eq_true hpu, Bool.true_and, hpr, Bool.true_and, tb_xr, tb_pow, decide_eq_false (fun h => hn r hr h.symm)]
  have h5 : tb (ownU C u) (pv r) = tb r u := by
    cases h1 : tb r u with
    | true => exact (tb_ownU C u _).2 (.inr ⟨r, hr, h1, rfl⟩)
    | false =>
      cases h2 : tb (ownU C u) (pv r) with
      | false => rfl
      | true =>
        rcases (tb_ownU C u _).1 h2 with h3 | ⟨s, hs, h4, h3⟩
        · exact absurd h3 (hn r hr)
        · by_cases ers : s = r
          · subst ers; rw [h1] at h4; cases h4
          · have := hC.apart s hs r hr ers
            rw [← h3, tb_pv (hC.ne s hs).1 (hC.ne s hs).2] at this; cases this
  rw [h5]; cases tb r u <;> rfl
theorem EqK.xr {x y : Nat} (hx : EqK C U x) (hy : EqK C U y) : EqK C U (xr x y) :=
  ⟨xr_lt hx.1 hy.1, fun r hr => by rw [dot_xr, hx.2 r hr, hy.2 r hr]; rfl⟩
/-- a solution whose digits are pivots alone is 0 -/
theorem eqK_piv (hC : Red C) (hlt : ∀ r ∈ C, r < 2 ^ U) {x : Nat} (hx : EqK C U x) (h : ∀ u, isPv C u = false → tb x u = false) : x = 0 := eq_zero_of_tb fun k => by
  cases hk : tb x k with
  | false => rfl
  | true =>
    exfalso
    cases hp : isPv C k with
    | false => rw [h k hp] at hk; cases hk
    | true =>
      obtain ⟨r, hr, rfl⟩ := isPv_yes hp
      have hpr : tb r (pv r) = true := tb_pv (hC.ne r hr).1 (hC.ne r hr).2
      have hpu := pv_lt (hC.ne r hr).1 (hC.ne r hr).2 (hlt r hr)
      have h0 := hx.2 r hr
      rw [dot_one (p := pv r) U fun j _ hj => by
        cases h1 : tb r j with
        | false => rfl
        | true =>
          rw [Bool.true_and]
          cases h2 : tb x j with
          | false => rfl
          | true =>
            exfalso
            cases hq : isPv C j with
            | false => rw [h j hq] at h2; cases h2
            | true =>
              obtain ⟨s, hs, rfl⟩ := isPv_yes hq
              by_cases ers : r = s
              · subst ers; exact hj rfl
              · have := hC.apart r hr s hs ers
                rw [h1] at this; cases this] at h0
      rw [decide_eq_true hpu, hpr, hk] at h0; cases h0
theorem sols_all (hC : Red C) (hlt : ∀ r ∈ C, r < 2 ^ U) : ∀ k, k ≤ U → ∀ x, EqK C U x → (∀ u, k ≤ u → isPv C u = false → tb x u = false) → Sp (solsTo C U) x
  | 0, _, x, hx, h => by
    rw [eqK_piv hC hlt hx fun u hu => h u (Nat.zero_le _) hu]; exact .zero
  | k + 1, hk, x, hx, h => by
    cases hp : isPv C k with
    | true =>
      refine sols_all hC hlt k (by omega) x hx fun u hu hq => h u ?_ hq
      rcases Nat.lt_or_ge k u with h1 | h1
      · omega
      · have : u = k := by omega
        subst this; rw [hp] at hq; cases hq
    | false =>
      cases hb : tb x k with
      | false =>
        refine sols_all hC hlt k (by omega) x hx fun u hu hq => ?_
        rcases Nat.lt_or_ge k u with h1 | h1
        · exact h u (by omega) hq
        · have : u = k := by omega
          subst this; exact hb
      | true =>
        have ho := ownU_eq hC hlt (by omega : k < U) hp
        have hm : ownU C k ∈ solsTo C U := mem_solsTo.2 ⟨k, by omega, hp, rfl⟩
        have := sols_all hC hlt k (by omega) (Go.Proofs.YtdkmdmpaflgfaaaGreatDoor.xr (ownU C k) x) (ho.xr hx) fun u hu hq => by
          rw [tb_xr]
          have h1 : tb (ownU C k) u = decide (u = k) := by
            cases h2 : tb (ownU C k) u with
            | true =>
              rcases (tb_ownU C k u).1 h2 with h3 | ⟨s, hs, _, h3⟩
              · exact (decide_eq_true h3).symm
              · exact absurd h3 (isPv_no hq s hs)
            | false =>
              symm; rw [decide_eq_false_iff_not]; rintro rfl
              rw [(tb_ownU C u u).2 (.inl rfl)] at h2; cases h2
          rw [h1]
          by_cases e : u = k
          · subst e; rw [hb]; simp
          · rw [h u (by omega) hq, decide_eq_false e]; rfl
        have h2 := Sp.add hm this
        rwa [xr_xr] at h2
theorem sols_sp (hC : Red C) (hlt : ∀ r ∈ C, r < 2 ^ U) (x : Nat) : Sp (solsTo C U) x ↔ EqK C U x := by
  constructor
  · intro hx
    induction hx with
    | zero => exact ⟨Nat.two_pow_pos _, fun r _ => dot_zero r U⟩
    | add hm _ ih =>
      obtain ⟨u, hu, hp, rfl⟩ := mem_solsTo.1 hm
      exact (ownU_eq hC hlt hu hp).xr ih
  · intro hx
    exact sols_all hC hlt U (Nat.le_refl _) x hx fun u hu _ => tb_of_lt hx.1 hu
theorem sols_sm (hC : Red C) (hlt : ∀ r ∈ C, r < 2 ^ U) (hU : U ≤ 60) : ∀ r ∈ solsTo C U, Sm r := fun r hr => sm_of_lt (a := U) (by omega) ((sols_sp hC hlt r).1 (.mem hr)).1
/-- BOTH WAYS TO THE SOLUTIONS GIVE ONE LIST -/
theorem sols_ker (hC : Red C) (hlt : ∀ r ∈ C, r < 2 ^ U) (hU : U ≤ 60) : kerR (trL C U) = reduceS (solsTo C U) := by
  have hCl : C.length ≤ 62 := by have := red_len hC hlt; omega
  have hT : ∀ r ∈ trL C U, Sm r := fun r hr => by
    unfold trL at hr
    obtain ⟨u, _, rfl⟩ := List.mem_map.1 hr
    refine sm_of_lt (a := C.length) hCl (lt_of_tb fun m hm => ?_)
    rw [tb_trTo, decide_eq_false (by omega)]; rfl
  have hl : (trL C U).length ≤ 62 := by rw [trL_length]; omega
  have hs := sols_sm hC hlt hU
  refine red_asc_unique (kerR_red hT hl) (red_reduce hs) ?_ (asc_reduce hs) fun v => ?_
  · unfold kerR; exact asc_reduce ((kerG_span hT hl).sm hl)
  · rw [kerR_sp hT hl, sp_reduce hs, sols_sp hC hlt]; exact eqK_tr v hCl
end

/-! ### the equations of maps -/
def unkC (xs ys : List Int) (i : Nat) (k : Nat) : List (Nat × Nat) := ((List.range k).filter fun c => decide (xs.getD i 0 = ys.getD c 0)).map fun c => (i, c)
theorem unkC_succ (xs ys : List Int) (i k : Nat) : unkC xs ys i (k + 1) = unkC xs ys i k ++ if xs.getD i 0 = ys.getD k 0 then [(i, k)] else [] := by
  unfold unkC
  rw [List.range_succ, List.filter_append, List.map_append]
  congr 1
  by_cases e : xs.getD i 0 = ys.getD k 0
  · rw [if_pos e, List.filter_cons_of_pos (by simpa using e)]; rfl
  · rw [if_neg e, List.filter_cons_of_neg (by simpa using e)]; rfl
def unkI (xs ys : List Int) : Nat → List (Nat × Nat)
  | 0 => []
  | i + 1 => unkI xs ys i ++ unkC xs ys i ys.length
def unk (xs ys : List Int) : List (Nat × Nat) := unkI xs ys xs.length
theorem unkI_mem {xs ys : List Int} {p : Nat × Nat} : ∀ {k : Nat}, p ∈ unkI xs ys k → p.1 < k ∧ p.2 < ys.length ∧ xs.getD p.1 0 = ys.getD p.2 0
  | 0, h => by cases h
  | k + 1, h => by
    unfold unkI at h
    rcases List.mem_append.1 h with h | h
    · have := unkI_mem h; exact ⟨by omega, this.2⟩
    · unfold unkC at h
      obtain ⟨c, hc, rfl⟩ := List.mem_map.1 h
      obtain ⟨h1, h2⟩ := List.mem_filter.1 hc
      exact ⟨by simp, List.mem_range.1 h1, by simpa using h2⟩
theorem unkI_len (xs ys : List Int) : ∀ k, (unkI xs ys k).length ≤ k * ys.length
  | 0 => by simp [unkI]
  | k + 1 => by
    unfold unkI
    rw [List.length_append, Nat.succ_mul]
    have h1 := unkI_len xs ys k
    have h2 : (unkC xs ys k ys.length).length ≤ ys.length := by
      unfold unkC; rw [List.length_map]; exact Nat.le_trans (List.length_filter_le _ _) (by simp)
    omega
/-- one equation: the digits of the unknowns below t -/
def eqM (P : List (Nat × Nat)) (Q R : List (List Int)) (i j c : Nat) : Nat → Nat
  | 0 => 0
  | t + 1 => xr (xr (eqM P Q R i j c t) (if tb (act Q (j : Int) (2 ^ i)) (P.getD t (0, 0)).1 = true ∧ (P.getD t (0, 0)).2 = c then 2 ^ t else 0)) (if (P.getD t (0, 0)).1 = i ∧ tb (act R (j : Int) (2 ^ (P.getD t (0, 0)).2)) c = true then 2 ^ t else 0)
theorem pow_lt_succ (t : Nat) : 2 ^ t < 2 ^ (t + 1) := Nat.pow_lt_pow_right (by omega) (by omega)
theorem eqM_lt (P : List (Nat × Nat)) (Q R : List (List Int)) (i j c : Nat) : ∀ t, eqM P Q R i j c t < 2 ^ t
  | 0 => Nat.two_pow_pos _
  | t + 1 => by
    have h1 : eqM P Q R i j c t < 2 ^ (t + 1) := Nat.lt_trans (eqM_lt P Q R i j c t) (pow_lt_succ t)
    have h2 : ∀ p : Prop, [Decidable p] → (if p then 2 ^ t else 0) < 2 ^ (t + 1) := fun p _ => by
      split
      · exact pow_lt_succ t
      · exact Nat.two_pow_pos _
    unfold eqM
    exact xr_lt (xr_lt h1 (h2 _)) (h2 _)
def eqR (P : List (Nat × Nat)) (Q R : List (List Int)) (i j c : Nat) : Nat := eqM P Q R i j c P.length
def eqK' (P : List (Nat × Nat)) (Q R : List (List Int)) (i j : Nat) (k : Nat) : List Nat := (List.range k).map fun c => eqR P Q R i j c
theorem eqK'_succ (P : List (Nat × Nat)) (Q R : List (List Int)) (i j k : Nat) : eqK' P Q R i j (k + 1) = eqK' P Q R i j k ++ [eqR P Q R i j k] := by
  unfold eqK'; rw [List.range_succ, List.map_append]; rfl
/-- the reference's order: i, then j, then c -/
def eqSJ (P : List (Nat × Nat)) (Q R : List (List Int)) (p i : Nat) : Nat → List Nat
  | 0 => []
  | j + 1 => eqSJ P Q R p i j ++ eqK' P Q R i (j + 1) p
def eqSI (P : List (Nat × Nat)) (Q R : List (List Int)) (p : Nat) : Nat → List Nat
  | 0 => []
  | i + 1 => eqSI P Q R p i ++ eqSJ P Q R p i 20
/-- the program's order: j, then i, then c -/
def eqII (P : List (Nat × Nat)) (Q R : List (List Int)) (p j : Nat) : Nat → List Nat
  | 0 => []
  | i + 1 => eqII P Q R p j i ++ eqK' P Q R i j p
def eqIJ (P : List (Nat × Nat)) (Q R : List (List Int)) (n p : Nat) : Nat → List Nat
  | 0 => []
  | j + 1 => eqIJ P Q R n p j ++ eqII P Q R p (j + 1) n
section
variable {P : List (Nat × Nat)} {Q R : List (List Int)} {n p : Nat} {r : Nat}
theorem mem_eqK' {i j k : Nat} : r ∈ eqK' P Q R i j k ↔ ∃ c, c < k ∧ r = eqR P Q R i j c := by
  unfold eqK'
  rw [List.mem_map]
  constructor
  · rintro ⟨c, hc, rfl⟩; exact ⟨c, List.mem_range.1 hc, rfl⟩
  · rintro ⟨c, hc, rfl⟩; exact ⟨c, List.mem_range.2 hc, rfl⟩
theorem mem_eqSJ {i : Nat} : ∀ {k : Nat}, r ∈ eqSJ P Q R p i k ↔ ∃ j c, j < k ∧ c < p ∧ r = eqR P Q R i (j + 1) c
  | 0 => by simp [eqSJ]
  | k + 1 => by
    unfold eqSJ
    rw [List.mem_append, mem_eqSJ, mem_eqK']
    constructor
    · rintro (⟨j, c, a, b, e⟩ | ⟨c, b, e⟩)
      · exact ⟨j, c, by omega, b, e⟩
      · exact ⟨k, c, by omega, b, e⟩
    · rintro ⟨j, c, a, b, e⟩
      by_cases h : j = k
      · subst h; exact .inr ⟨c, b, e⟩
      · exact .inl ⟨j, c, by omega, b, e⟩
theorem mem_eqSI : ∀ {k : Nat}, r ∈ eqSI P Q R p k ↔ ∃ i j c, i < k ∧ j < 20 ∧ c < p ∧ r = eqR P Q R i (j + 1) c
  | 0 => by simp [eqSI]
  | k + 1 => by
    unfold eqSI
    rw [List.mem_append, mem_eqSI, mem_eqSJ]
    constructor
    · rintro (⟨i, j, c, a, h⟩ | ⟨j, c, h⟩)
      · exact ⟨i, j, c, by omega, h⟩
      · exact ⟨k, j, c, by omega, h⟩
    · rintro ⟨i, j, c, a, h⟩
      by_cases e : i = k
      · subst e; exact .inr ⟨j, c, h⟩
      · exact .inl ⟨i, j, c, by omega, h⟩
theorem mem_eqII {j : Nat} : ∀ {k : Nat}, r ∈ eqII P Q R p j k ↔ ∃ i c, i < k ∧ c < p ∧ r = eqR P Q R i j c
  | 0 => by simp [eqII]
  | k + 1 => by
    unfold eqII
    rw [List.mem_append, mem_eqII, mem_eqK']
    constructor
    · rintro (⟨i, c, a, b, e⟩ | ⟨c, b, e⟩)
      · exact ⟨i, c, by omega, b, e⟩
      · exact ⟨k, c, by omega, b, e⟩
    · rintro ⟨i, c, a, b, e⟩
      by_cases h : i = k
      · subst h; exact .inr ⟨c, b, e⟩
      · exact .inl ⟨i, c, by omega, b, e⟩
theorem mem_eqIJ : ∀ {k : Nat}, r ∈ eqIJ P Q R n p k ↔ ∃ i j c, i < n ∧ j < k ∧ c < p ∧ r = eqR P Q R i (j + 1) c
  | 0 => by simp [eqIJ]
  | k + 1 => by
    unfold eqIJ
    rw [List.mem_append, mem_eqIJ, mem_eqII]
    constructor
    · rintro (⟨i, j, c, a, b, h⟩ | ⟨i, c, a, h⟩)
      · exact ⟨i, j, c, a, by omega, h⟩
      · exact ⟨i, k, c, a, by omega, h⟩
    · rintro ⟨i, j, c, a, b, h⟩
      by_cases e : j = k
      · subst e; exact .inr ⟨i, c, a, h⟩
      · exact .inl ⟨i, j, c, a, by omega, h⟩
theorem eqSI_lt {k : Nat} : ∀ r ∈ eqSI P Q R p k, r < 2 ^ P.length := fun r hr => by
  obtain ⟨i, j, c, _, _, _, rfl⟩ := mem_eqSI.1 hr; exact eqM_lt _ _ _ _ _ _ _
theorem eqIJ_lt {k : Nat} : ∀ r ∈ eqIJ P Q R n p k, r < 2 ^ P.length := fun r hr => by
  obtain ⟨i, j, c, _, _, _, rfl⟩ := mem_eqIJ.1 hr; exact eqM_lt _ _ _ _ _ _ _
/-- the equations in both orders reduce to one list -/
theorem eqs_same (hP : P.length ≤ 60) : reduceS (eqIJ P Q R n p 20) = reduceS (eqSI P Q R p n) :=
  reduce_unique (fun r hr => sm_of_lt (a := P.length) (by omega) (eqIJ_lt r hr)) (fun r hr => sm_of_lt (a := P.length) (by omega) (eqSI_lt r hr)) (sp_same fun r => by
    rw [mem_eqIJ, mem_eqSI])
end
/-- the reduced masks of the basis of the maps -/
def mapsL (xs : List Int) (Q : List (List Int)) (ys : List Int) (R : List (List Int)) : List Nat := reduceS (solsTo (reduceS (eqSI (unk xs ys) Q R ys.length xs.length)) (unk xs ys).length)
theorem mapsL_ker {xs ys : List Int} {Q R : List (List Int)} (hP : (unk xs ys).length ≤ 60) : kerR (trL (reduceS (eqIJ (unk xs ys) Q R xs.length ys.length 20)) (unk xs ys).length) = mapsL xs Q ys R := by
  rw [eqs_same hP]
  have hs : ∀ r ∈ eqSI (unk xs ys) Q R ys.length xs.length, Sm r := fun r hr => sm_of_lt (a := (unk xs ys).length) (by omega) (eqSI_lt r hr)
  exact sols_ker (red_reduce hs) (fun r hr => sp_lt eqSI_lt ((sp_reduce hs r).1 (.mem hr))) hP
end Go.Proofs.YtdkmdmpaflgfaaaGreatDoor

namespace Go.Proofs.YtdkmdmpaflgfaaaGreatDoor

/-- the images' masks when the first u unknowns are told -/
def imT (P : List (Nat × Nat)) (n x : Nat) : Nat → List Nat
  | 0 => List.replicate n 0
  | u + 1 => if tb x u = true then (imT P n x u).set (P.getD u (0, 0)).1 (orr ((imT P n x u).getD (P.getD u (0, 0)).1 0) (2 ^ (P.getD u (0, 0)).2)) else imT P n x u
def imgs (P : List (Nat × Nat)) (n x : Nat) : List Nat := imT P n x P.length
theorem imT_len (P : List (Nat × Nat)) (n x : Nat) : ∀ u, (imT P n x u).length = n
  | 0 => by simp [imT]
  | u + 1 => by
    unfold imT
    split
    · rw [List.length_set]; exact imT_len P n x u
    · exact imT_len P n x u
theorem imgs_len (P : List (Nat × Nat)) (n x : Nat) : (imgs P n x).length = n := imT_len P n x _
theorem imT_no {P : List (Nat × Nat)} {n x u : Nat} (h : tb x u = false) : imT P n x (u + 1) = imT P n x u := by
  show (if tb x u = true then _ else _) = _
  rw [h, if_neg (by simp)]
theorem imT_yes {P : List (Nat × Nat)} {n x u : Nat} (h : tb x u = true) : imT P n x (u + 1) = (imT P n x u).set (P.getD u (0, 0)).1 (orr ((imT P n x u).getD (P.getD u (0, 0)).1 0) (2 ^ (P.getD u (0, 0)).2)) := by
  show (if tb x u = true then _ else _) = _
  rw [if_pos h]
theorem getD_setZ (l : List Nat) (i j v : Nat) : (l.set i v).getD j 0 = if i = j ∧ i < l.length then v else l.getD j 0 := by
  simp only [List.getD, List.getElem?_set]
  by_cases e : i = j
  · subst e
    by_cases hl : i < l.length
    · rw [if_pos rfl, if_pos hl, if_pos ⟨rfl, hl⟩]; rfl
    · rw [if_pos rfl, if_neg hl, if_neg (fun h => hl h.2), List.getElem?_eq_none (by omega)]
  · rw [if_neg e, if_neg (fun h => e h.1)]
theorem orr_ltZ {a b p : Nat} (ha : a < 2 ^ p) (hb : b < 2 ^ p) : orr a b < 2 ^ p := lt_of_tb fun m hm => by
  rw [tb_orr, tb_of_lt ha hm, tb_of_lt hb hm]; rfl
theorem imT_lt {P : List (Nat × Nat)} {n p x : Nat} (hP : ∀ u, u < P.length → (P.getD u (0, 0)).2 < p) : ∀ u, u ≤ P.length → ∀ i, (imT P n x u).getD i 0 < 2 ^ p
  | 0, _, i => by
    have h0 : (List.replicate n 0).getD i 0 = 0 := by
      simp only [List.getD, List.getElem?_replicate]; split <;> rfl
    show (List.replicate n 0).getD i 0 < _
    rw [h0]; exact Nat.two_pow_pos _
  | u + 1, hu, i => by
    cases h : tb x u
    · rw [imT_no h]; exact imT_lt hP u (by omega) i
    · rw [imT_yes h, getD_setZ]
      split
      · exact orr_ltZ (imT_lt hP u (by omega) _) (Nat.pow_lt_pow_right (by omega) (hP u (by omega)))
      · exact imT_lt hP u (by omega) i
theorem imgs_lt {P : List (Nat × Nat)} {n p x : Nat} (hP : ∀ u, u < P.length → (P.getD u (0, 0)).2 < p) : ∀ r ∈ imgs P n x, r < 2 ^ p := fun r hr => by
  obtain ⟨i, hi, rfl⟩ := List.getElem_of_mem hr
  have := imT_lt (n := n) (x := x) hP P.length (Nat.le_refl _) i
  have e : (imgs P n x).getD i 0 = (imgs P n x)[i] := by simp [List.getD, hi]
  rw [← e]; exact this

/-! ### the first that has an inverse -/
def isoB (P : List (Nat × Nat)) (K : List Nat) (n p x : Nat) : Bool := decide ((reduceS (imgs P n (comb K 0 x))).length = p)
theorem find_range {f : Nat → Bool} {N : Nat} : ∀ {x : Nat}, x < N → (∀ y, y < x → f y = false) → f x = true → (List.range N).find? f = some x := by
  intro x hx hlt hf
  have : List.range N = List.range x ++ (x :: (List.range' (x + 1) (N - x - 1))) := by
    rw [List.range_eq_range', List.range_eq_range']
    have h1 : List.range' 0 N = List.range' 0 x ++ List.range' x (N - x) := by
      have := List.range'_append_1 (s := 0) (m := x) (n := N - x)
      rw [Nat.zero_add] at this
      rw [this, show x + (N - x) = N by omega]
    rw [h1]
    congr 1
    have h2 : N - x = (N - x - 1) + 1 := by omega
    conv => lhs; rw [h2]
    rfl
  rw [this, List.find?_append]
  have h0 : (List.range x).find? f = none := List.find?_eq_none.2 fun y hy => by rw [hlt y (List.mem_range.1 hy)]; simp
  rw [h0]
  simp [hf]
theorem find_none {f : Nat → Bool} {N : Nat} (h : ∀ y, y < N → f y = false) : (List.range N).find? f = none := List.find?_eq_none.2 fun y hy => by rw [h y (List.mem_range.1 hy)]; simp
noncomputable def isoOf (xs : List Int) (Q : List (List Int)) (ys : List Int) (R : List (List Int)) : List (List Int) × Int :=
  if modB xs Q = true ∧ modB ys R = true then
    if (unk xs ys).length ≤ 60 then
      if (mapsL xs Q ys R).length ≤ 12 then
        if xs.length = ys.length then
          match (List.range (2 ^ (mapsL xs Q ys R).length)).find? (isoB (unk xs ys) (mapsL xs Q ys R) xs.length ys.length) with
          | some x => ((imgs (unk xs ys) xs.length (comb (mapsL xs Q ys R) 0 x)).map (fun v => bitsL v ys.length), 0)
          | none => ([], 4)
        else ([], 4)
      else ([], 3)
    else ([], 3)
  else ([], 1)
section
variable {xs ys : List Int} {Q R : List (List Int)}
theorem isoOf_1 (h : ¬ (modB xs Q = true ∧ modB ys R = true)) : isoOf xs Q ys R = ([], 1) := by unfold isoOf; rw [if_neg h]
theorem isoOf_2 (h : modB xs Q = true ∧ modB ys R = true) (h2 : ¬ (unk xs ys).length ≤ 60) : isoOf xs Q ys R = ([], 3) := by unfold isoOf; rw [if_pos h, if_neg h2]
theorem isoOf_3 (h : modB xs Q = true ∧ modB ys R = true) (h2 : (unk xs ys).length ≤ 60) (h3 : ¬ (mapsL xs Q ys R).length ≤ 12) : isoOf xs Q ys R = ([], 3) := by unfold isoOf; rw [if_pos h, if_pos h2, if_neg h3]
theorem isoOf_4 (h : modB xs Q = true ∧ modB ys R = true) (h2 : (unk xs ys).length ≤ 60) (h3 : (mapsL xs Q ys R).length ≤ 12) (h4 : xs.length ≠ ys.length) : isoOf xs Q ys R = ([], 4) := by unfold isoOf; rw [if_pos h, if_pos h2, if_pos h3, if_neg h4]
theorem isoOf_5 (h : modB xs Q = true ∧ modB ys R = true) (h2 : (unk xs ys).length ≤ 60) (h3 : (mapsL xs Q ys R).length ≤ 12) (h4 : xs.length = ys.length) (h5 : ∀ y, y < 2 ^ (mapsL xs Q ys R).length → isoB (unk xs ys) (mapsL xs Q ys R) xs.length ys.length y = false) : isoOf xs Q ys R = ([], 4) := by
  unfold isoOf; rw [if_pos h, if_pos h2, if_pos h3, if_pos h4, find_none h5]
theorem isoOf_0 (h : modB xs Q = true ∧ modB ys R = true) (h2 : (unk xs ys).length ≤ 60) (h3 : (mapsL xs Q ys R).length ≤ 12) (h4 : xs.length = ys.length) {x : Nat} (hx : x < 2 ^ (mapsL xs Q ys R).length) (h5 : ∀ y, y < x → isoB (unk xs ys) (mapsL xs Q ys R) xs.length ys.length y = false) (h6 : isoB (unk xs ys) (mapsL xs Q ys R) xs.length ys.length x = true) :
    isoOf xs Q ys R = ((imgs (unk xs ys) xs.length (comb (mapsL xs Q ys R) 0 x)).map (fun v => bitsL v ys.length), 0) := by
  unfold isoOf; rw [if_pos h, if_pos h2, if_pos h3, if_pos h4, find_range hx h5 h6]
theorem isoOf_len (hm : modB xs Q = true → xs.length ≤ 16) (hn : modB ys R = true → ys.length ≤ 16) : (isoOf xs Q ys R).1.length ≤ 16 ∧ ∀ r ∈ (isoOf xs Q ys R).1, r.length ≤ 16 := by
  unfold isoOf
  split
  · rename_i h
    have h1 := hm h.1
    have h2 := hn h.2
    split
    · split
      · split
        · split
          · refine ⟨by rw [List.length_map, imgs_len]; exact h1, fun r hr => ?_⟩
            obtain ⟨v, _, rfl⟩ := List.mem_map.1 hr
            rw [bitsL_length]; exact h2
          · simp
        · simp
      · simp
    · simp
  · simp
theorem mapsL_lt (h : (unk xs ys).length ≤ 60) : ∀ r ∈ mapsL xs Q ys R, r < 2 ^ (unk xs ys).length := by
  have hs : ∀ r ∈ eqSI (unk xs ys) Q R ys.length xs.length, Sm r := fun r hr => sm_of_lt (a := (unk xs ys).length) (by omega) (eqSI_lt r hr)
  have hC := red_reduce hs
  have hlt : ∀ r ∈ reduceS (eqSI (unk xs ys) Q R ys.length xs.length), r < 2 ^ (unk xs ys).length := fun r hr => sp_lt eqSI_lt ((sp_reduce hs r).1 (.mem hr))
  intro r hr
  have h3 := (sp_reduce (sols_sm hC hlt h) r).1 (.mem hr)
  exact ((sols_sp hC hlt r).1 h3).1
theorem unk_in (u : Nat) (hu : u < (unk xs ys).length) : ((unk xs ys).getD u (0, 0)).1 < xs.length ∧ ((unk xs ys).getD u (0, 0)).2 < ys.length := by
  have hm : (unk xs ys).getD u (0, 0) ∈ unkI xs ys xs.length := by
    show _ ∈ unk xs ys
    simp [List.getD, hu]
  have h2 := unkI_mem hm
  exact ⟨h2.1, h2.2.1⟩
theorem masks_bits {S : List Nat} {p : Nat} (h : ∀ r ∈ S, r < 2 ^ p) : (S.map (fun v => bitsL v p)).map mk = S := by
  rw [List.map_map]
  conv => rhs; rw [← List.map_id S]
  exact List.map_congr_left fun r hr => mk_bits (h r hr)
end
end Go.Proofs.YtdkmdmpaflgfaaaGreatDoor
