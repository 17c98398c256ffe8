/- parts of modules: kernels by degrees, tables of parts (no program in sight) · append of a slice that reads as a list, nil let in; copies of slices of ints · counts of partitions up to 14, on both sides · the reference's vectors: l11Unit, l11Act, l11Plus, l01Same, l11Word, l11Words · the reference's vectors: l11Plus, l01Same · impl's times, tableOf -/
import Derived.Test.YtpchigdhnnkpcaaGreatDoorBxaf
import Derived.Test.YtpchigdhnnkpcaaGreatDoorBxac
import Derived.Test.YtpchigdhnnkpcaaGreatDoorBxaa
import Derived.Maps.AppendAt
import Derived.Deep.AppendLies
import Derived.Deep.OwnRows
import Derived.Test.YtpchigdhnnkpcaaGreatDoorBxae
import Derived.Test.YtpchigdhnnkpcaaGreatDoorBxab
import Derived.StillTailTactics
import Derived.Deep.DeepCutAuto
set_option linter.all false
namespace Go.Proofs.YtpchigdhnnkpcaaGreatDoor

theorem comb_zeroZ (S : List Nat) (i : Nat) : comb S i 0 = 0 := by
  have := comb_xr S i 0 0; rw [xr_self, xr_self] at this; exact this
theorem an_linZ (u x y : Nat) : an (xr x y) u = xr (an x u) (an y u) := eq_of_tb fun i => by
  rw [tb_an, tb_xr, tb_xr, tb_an, tb_an]; cases tb x i <;> cases tb y i <;> cases tb u i <;> rfl
theorem an_powZ (i u : Nat) : an (2 ^ i) u = if tb u i = true then 2 ^ i else 0 := eq_of_tb fun c => by
  rw [tb_an, tb_pow]
  by_cases e : i = c
  · subst e
    cases h : tb u i
    · rw [if_neg (by simp), tb_zero]; simp
    · rw [if_pos rfl, tb_pow]; simp
  · rw [decide_eq_false e, Bool.false_and]
    split
    · rw [tb_pow, decide_eq_false e]
    · rw [tb_zero]
section
variable {xs ys : List Int} {F : List Nat}
/-- the component of a degree goes to the component -/
theorem comb_comp (hF : F.length = xs.length) (hh : ∀ i, i < F.length → Hom ys (xs.getD i 0) (F.getD i 0)) (d : Int) {z : Nat} (hz : z < 2 ^ xs.length) : comb F 0 (an z (dmask xs d)) = an (comb F 0 z) (dmask ys d) := by
  refine lin_ext (f := fun z => comb F 0 (an z (dmask xs d))) (g := fun z => an (comb F 0 z) (dmask ys d)) ?_ ?_ xs.length ?_ z hz
  · intro x y; show comb F 0 (an (xr x y) _) = _; rw [an_linZ, comb_xr]
  · intro x y; show an (comb F 0 (xr x y)) _ = _; rw [comb_xr, an_linZ]
  · intro k hk
    show comb F 0 (an (2 ^ k) _) = an (comb F 0 (2 ^ k)) _
    have hp : comb F 0 (2 ^ k) = F.getD k 0 := by have := comb_pow F 0 k; rwa [Nat.zero_add] at this
    rw [an_powZ, tb_dmask, decide_eq_true hk, Bool.true_and, hp]
    have h1 := hh k (by omega)
    by_cases e : xs.getD k 0 = d
    · rw [decide_eq_true e, if_pos rfl, hp]; rw [e] at h1; exact (hom_comp h1).symm
    · rw [decide_eq_false e, if_neg (by simp), comb_zeroZ]
      refine (eq_zero_of_tb fun c => ?_).symm
      rw [tb_an, tb_dmask]
      cases hc : tb (F.getD k 0) c with
      | false => rfl
      | true => rw [decide_eq_false (fun h => e ((h1 c hc).2.symm.trans h))]; simp
end

/-! ### places of a degree -/
def idx (xs : List Int) (d : Int) (k : Nat) : List Nat := (List.range k).filter fun i => decide (xs.getD i 0 = d)
theorem idx_succ (xs : List Int) (d : Int) (k : Nat) : idx xs d (k + 1) = idx xs d k ++ if xs.getD k 0 = d then [k] else [] := by
  unfold idx
  rw [List.range_succ, List.filter_append]
  congr 1
  by_cases e : xs.getD k 0 = d
  · rw [if_pos e, List.filter_cons_of_pos (by simpa using e)]; rfl
  · rw [if_neg e, List.filter_cons_of_neg (by simpa using e)]; rfl
theorem mem_idx {xs : List Int} {d : Int} {k i : Nat} : i ∈ idx xs d k ↔ i < k ∧ xs.getD i 0 = d := by
  unfold idx; rw [List.mem_filter, List.mem_range]; simp
theorem idx_nodup (xs : List Int) (d : Int) (k : Nat) : (idx xs d k).Nodup := List.Nodup.sublist List.filter_sublist List.nodup_range
theorem idx_len (xs : List Int) (d : Int) (k : Nat) : (idx xs d k).length ≤ k := Nat.le_trans (List.length_filter_le _ _) (by simp)
/-- a mask of places, told by the digits of a list of them -/
def keptT (I : List Nat) (x : Nat) : Nat → Nat
  | 0 => 0
  | i + 1 => if tb x i = true then orr (keptT I x i) (2 ^ (I.getD i 0)) else keptT I x i
def kept (I : List Nat) (x : Nat) : Nat := keptT I x I.length
theorem tb_keptT (I : List Nat) (x : Nat) : ∀ k p, tb (keptT I x k) p = true ↔ ∃ i, i < k ∧ tb x i = true ∧ I.getD i 0 = p
  | 0, p => by unfold keptT; rw [tb_zero]; simp
  | k + 1, p => by
    unfold keptT
    split
    · rename_i h
      rw [tb_orr, tb_pow, Bool.or_eq_true, tb_keptT I x k p, decide_eq_true_eq]
      constructor
      · rintro (⟨i, a, b, c⟩ | h1)
        · exact ⟨i, by omega, b, c⟩
        · exact ⟨k, by omega, h, h1⟩
      · rintro ⟨i, a, b, c⟩
        by_cases e : i = k
        · subst e; exact .inr c
        · exact .inl ⟨i, by omega, b, c⟩
    · rename_i h
      rw [tb_keptT I x k p]
      constructor
      · rintro ⟨i, a, b, c⟩; exact ⟨i, by omega, b, c⟩
      · rintro ⟨i, a, b, c⟩
        by_cases e : i = k
        · subst e; exact absurd b h
        · exact ⟨i, by omega, b, c⟩
theorem tb_kept (I : List Nat) (x p : Nat) : tb (kept I x) p = true ↔ ∃ i, i < I.length ∧ tb x i = true ∧ I.getD i 0 = p := tb_keptT I x _ p
theorem nodup_getD {I : List Nat} (h : I.Nodup) {i j : Nat} (hi : i < I.length) (hj : j < I.length) (e : I.getD i 0 = I.getD j 0) : i = j := by
  have e1 : I.getD i 0 = I[i] := by simp [List.getD, hi]
  have e2 : I.getD j 0 = I[j] := by simp [List.getD, hj]
  rw [e1, e2] at e
  exact (List.getElem_inj h).1 e
theorem tb_kept_at {I : List Nat} (h : I.Nodup) (x : Nat) {i : Nat} (hi : i < I.length) : tb (kept I x) (I.getD i 0) = tb x i := by
  cases hb : tb x i with
  | true => exact (tb_kept I x _).2 ⟨i, hi, hb, rfl⟩
  | false =>
    cases hc : tb (kept I x) (I.getD i 0) with
    | false => rfl
    | true =>
      obtain ⟨j, hj, b, c⟩ := (tb_kept I x _).1 hc
      have := nodup_getD h hj hi c
      subst this; rw [hb] at b; cases b
theorem tb_kept_out {I : List Nat} {x p : Nat} (h : p ∉ I) : tb (kept I x) p = false := by
  cases hc : tb (kept I x) p with
  | false => rfl
  | true =>
    obtain ⟨j, hj, _, c⟩ := (tb_kept I x _).1 hc
    exact absurd (c ▸ getD_mem hj) h
theorem mem_getD {I : List Nat} {p : Nat} (h : p ∈ I) : ∃ i, i < I.length ∧ I.getD i 0 = p := by
  obtain ⟨i, hi, e⟩ := List.getElem_of_mem h
  exact ⟨i, hi, by simp [List.getD, hi, e]⟩
theorem kept_lin {I : List Nat} (h : I.Nodup) : Lin (kept I) := ⟨fun x y => eq_of_tb fun p => by
  by_cases hp : p ∈ I
  · obtain ⟨i, hi, rfl⟩ := mem_getD hp
    rw [tb_xr, tb_kept_at h _ hi, tb_kept_at h _ hi, tb_kept_at h _ hi, tb_xr]
  · rw [tb_xr, tb_kept_out hp, tb_kept_out hp, tb_kept_out hp]; rfl⟩
theorem kept_pow {I : List Nat} (h : I.Nodup) {k : Nat} (hk : k < I.length) : kept I (2 ^ k) = 2 ^ (I.getD k 0) := eq_of_tb fun p => by
  by_cases hp : p ∈ I
  · obtain ⟨i, hi, rfl⟩ := mem_getD hp
    rw [tb_kept_at h _ hi, tb_pow, tb_pow]
    by_cases e : k = i
    · subst e; simp
    · rw [decide_eq_false e, decide_eq_false (fun h2 => e (nodup_getD h hk hi h2))]
  · rw [tb_kept_out hp, tb_pow, decide_eq_false (fun h2 => hp (by rw [← h2]; exact getD_mem hk))]
theorem comb_kept {I F : List Nat} (h : I.Nodup) {x : Nat} (hx : x < 2 ^ I.length) : comb F 0 (kept I x) = comb (I.map fun i => F.getD i 0) 0 x := by
  refine lin_ext (f := fun x => comb F 0 (kept I x)) (g := fun x => comb (I.map fun i => F.getD i 0) 0 x) ?_ ?_ I.length ?_ x hx
  · intro x y; show comb F 0 (kept I (xr x y)) = _; rw [(kept_lin h).add, comb_xr]
  · intro x y; exact comb_xr _ _ _ _
  · intro k hk
    show comb F 0 (kept I (2 ^ k)) = comb _ 0 (2 ^ k)
    rw [kept_pow h hk]
    have h1 := comb_pow F 0 (I.getD k 0)
    have h2 := comb_pow (I.map fun i => F.getD i 0) 0 k
    rw [Nat.zero_add] at h1 h2
    rw [h1, h2]
    simp [List.getD, hk]
/-- the digits of a list of places -/
def unT (I : List Nat) (z : Nat) : Nat → Nat
  | 0 => 0
  | i + 1 => if tb z (I.getD i 0) = true then orr (unT I z i) (2 ^ i) else unT I z i
theorem tb_unT (I : List Nat) (z : Nat) : ∀ k i, tb (unT I z k) i = (decide (i < k) && tb z (I.getD i 0))
  | 0, i => by simp [unT, tb_zero]
  | k + 1, i => by
    unfold unT
    by_cases e : i = k
    · subst e
      split
      · rename_i h; rw [tb_orr, tb_pow, h]; simp
      · rename_i h
        rw [tb_unT]
        cases hb : tb z (I.getD i 0)
        · simp
        · exact absurd hb h
    · have e2 : decide (i < k + 1) = decide (i < k) := decide_eq_decide.2 (by omega)
      split
      · rw [tb_orr, tb_pow, tb_unT, e2, decide_eq_false (show ¬ k = i by omega)]; simp
      · rw [tb_unT, e2]
theorem kept_un {I : List Nat} (h : I.Nodup) {z : Nat} (hz : ∀ p, tb z p = true → p ∈ I) : unT I z I.length < 2 ^ I.length ∧ kept I (unT I z I.length) = z := by
  refine ⟨lt_of_tb fun m hm => by rw [tb_unT, decide_eq_false (by omega)]; rfl, eq_of_tb fun p => ?_⟩
  by_cases hp : p ∈ I
  · obtain ⟨i, hi, rfl⟩ := mem_getD hp
    rw [tb_kept_at h _ hi, tb_unT, decide_eq_true hi]; simp
  · rw [tb_kept_out hp]
    cases hc : tb z p with
    | false => rfl
    | true => exact absurd (hz p hc) hp

/-! ### kernels, degree by degree -/
def kerD (xs : List Int) (F : List Nat) (d : Int) : List Nat := (kerR ((idx xs d xs.length).map fun i => F.getD i 0)).map (kept (idx xs d xs.length))
def kerAll (xs : List Int) (F : List Nat) : Nat → List Nat
  | 0 => []
  | d + 1 => kerAll xs F d ++ kerD xs F (d : Int)
section
variable {xs ys : List Int} {F : List Nat}
theorem kerD_sp (hF : ∀ r ∈ F, Sm r) (hn : xs.length ≤ 62) (d : Int) (z : Nat) : Sp (kerD xs F d) z ↔ Hom xs d z ∧ comb F 0 z = 0 := by
  have hnd := idx_nodup xs d xs.length
  have hl := idx_len xs d xs.length
  have hR : ∀ r ∈ (idx xs d xs.length).map fun i => F.getD i 0, Sm r := fun r hr => by
    obtain ⟨i, _, rfl⟩ := List.mem_map.1 hr
    by_cases hi : i < F.length
    · exact hF _ (getD_mem hi)
    · have : F.getD i 0 = 0 := by simp [List.getD, List.getElem?_eq_none (show F.length ≤ i by omega)]
      rw [this]; exact Sm.zero
  unfold kerD
  rw [sp_map (kept_lin hnd)]
  constructor
  · rintro ⟨v, hv, rfl⟩
    obtain ⟨h1, h2⟩ := (kerR_sp hR (by rw [List.length_map]; omega) v).1 hv
    rw [List.length_map] at h1
    refine ⟨fun c hc => ?_, by rw [comb_kept hnd h1]; exact h2⟩
    obtain ⟨i, hi, _, rfl⟩ := (tb_kept _ _ _).1 hc
    exact mem_idx.1 (getD_mem hi)
  · rintro ⟨h1, h2⟩
    obtain ⟨h3, h4⟩ := kept_un (I := idx xs d xs.length) hnd (z := z) (fun p hp => mem_idx.2 (h1 p hp))
    refine ⟨_, (kerR_sp hR (by rw [List.length_map]; omega) _).2 ⟨by rw [List.length_map]; exact h3, ?_⟩, h4.symm⟩
    rw [← comb_kept hnd h3, h4]; exact h2
theorem kerAll_hom {k : Nat} (hF : ∀ r ∈ F, Sm r) (hn : xs.length ≤ 62) : ∀ r ∈ kerAll xs F k, ∃ d : Nat, d < k ∧ Hom xs (d : Int) r ∧ comb F 0 r = 0 := by
  induction k with
  | zero => intro r hr; cases hr
  | succ k ih =>
    intro r hr
    rcases List.mem_append.1 hr with hr | hr
    · obtain ⟨d, a, b⟩ := ih r hr; exact ⟨d, by omega, b⟩
    · exact ⟨k, by omega, (kerD_sp hF hn (k : Int) r).1 (.mem hr)⟩
theorem kerAll_back (hl : F.length = xs.length) (hh : ∀ i, i < F.length → Hom ys (xs.getD i 0) (F.getD i 0)) (hF : ∀ r ∈ F, Sm r) (hn : xs.length ≤ 62) : ∀ (k : Nat) (z : Nat), (∀ c, tb z c = true → c < xs.length ∧ ∃ d : Nat, d < k ∧ xs.getD c 0 = (d : Int)) → comb F 0 z = 0 → Sp (kerAll xs F k) z
  | 0, z, hz, _ => by
    have : z = 0 := eq_zero_of_tb fun c => by
      cases hc : tb z c with
      | false => rfl
      | true => obtain ⟨_, d, hd, _⟩ := hz c hc; omega
    subst this; exact .zero
  | k + 1, z, hz, h0 => by
    have hzl : z < 2 ^ xs.length := lt_of_tb fun m hm => by
      cases hc : tb z m with
      | false => rfl
      | true => have := (hz m hc).1; omega
    have hc1 : comb F 0 (an z (dmask xs (k : Int))) = 0 := by rw [comb_comp hl hh _ hzl, h0]; exact eq_zero_of_tb fun c => by rw [tb_an, tb_zero]; rfl
    have e : xr (an z (dmask xs (k : Int))) (nt z (dmask xs (k : Int))) = z := eq_of_tb fun i => by
      rw [tb_xr, tb_an, tb_nt]; cases tb z i <;> cases tb (dmask xs (k : Int)) i <;> rfl
    have hc2 : comb F 0 (nt z (dmask xs (k : Int))) = 0 := by
      have h1 := h0
      rw [← e, comb_xr, hc1, zero_xr] at h1; exact h1
    have s1 : Sp (kerD xs F (k : Int)) (an z (dmask xs (k : Int))) := (kerD_sp hF hn _ _).2 ⟨comp_hom xs _ z, hc1⟩
    have s2 := kerAll_back hl hh hF hn k (nt z (dmask xs (k : Int))) (fun c hc => by
      rw [tb_nt, tb_dmask] at hc
      have hzc : tb z c = true := by cases h : tb z c <;> simp_all
      obtain ⟨h1, d, hd, h2⟩ := hz c hzc
      refine ⟨h1, d, ?_, h2⟩
      rcases Nat.lt_or_ge d k with h3 | h3
      · exact h3
      · have : d = k := by omega
        subst this
        rw [hzc, decide_eq_true h1, decide_eq_true h2] at hc; simp at hc) hc2
    rw [← e]
    exact (s1.mono fun r hr => List.mem_append_right _ hr).plus (s2.mono fun r hr => List.mem_append_left _ hr)
theorem kerAll_eq {Q : List (List Int)} (hs : Shp xs Q) (hl : F.length = xs.length) (hh : ∀ i, i < F.length → Hom ys (xs.getD i 0) (F.getD i 0)) (hF : ∀ r ∈ F, Sm r) (hx : SrtL xs) : byDeg xs (kerAll xs F 21) 21 = kerR F := by
  have hn : xs.length ≤ 62 := by have := hs.len; omega
  have hsm : ∀ r ∈ kerAll xs F 21, Sm r := fun r hr => by
    obtain ⟨d, _, h, _⟩ := kerAll_hom hF hn r hr
    exact sm_of_lt (a := xs.length) hn h.lt
  rw [byDeg_eq hx hsm (fun r hr _ => by obtain ⟨d, h1, h2, _⟩ := kerAll_hom hF hn r hr; exact ⟨d, h1, h2⟩)]
  have hkS : ∀ r ∈ kerS F F.length, Sm r := (kerG_span hF (by omega)).sm (by omega)
  unfold kerR
  refine reduce_unique hsm hkS fun z => ?_
  have h1 := kerR_sp hF (show F.length ≤ 62 by omega) z
  unfold kerR at h1
  rw [sp_reduce hkS] at h1
  rw [h1, hl]
  constructor
  · intro h
    refine ⟨?_, ?_⟩
    · refine sp_lt (fun r hr => ?_) h
      obtain ⟨d, _, h2, _⟩ := kerAll_hom hF hn r hr; exact h2.lt
    · clear h1
      induction h with
      | zero => exact comb_zeroZ _ _
      | add hm _ ih =>
        obtain ⟨d, _, _, h3⟩ := kerAll_hom hF hn _ hm
        rw [comb_xr, h3, ih]; rfl
  · rintro ⟨h2, h3⟩
    refine kerAll_back hl hh hF hn 21 z (fun c hc => ?_) h3
    have hcl : c < xs.length := by
      rcases Nat.lt_or_ge c xs.length with h | h
      · exact h
      · rw [tb_of_lt h2 h] at hc; cases hc
    have := hs.deg c hcl
    exact ⟨hcl, (xs.getD c 0).toNat, by omega, by omega⟩
end

/-! ### the table of a part -/
def partD (xs : List Int) (S : List Nat) : List Int := S.map fun r => xs.getD (pv r) 0
def partC (Q : List (List Int)) (S : List Nat) (j i : Nat) : Nat → List (List Int)
  | 0 => []
  | c + 1 => partC Q S j i c ++ if tb (act Q (j : Int) (S.getD i 0)) (pv (S.getD c 0)) = true then [[(j : Int), (i : Int), (c : Int)]] else []
def partI (Q : List (List Int)) (S : List Nat) (j : Nat) : Nat → List (List Int)
  | 0 => []
  | i + 1 => partI Q S j i ++ partC Q S j i S.length
def partJ (Q : List (List Int)) (S : List Nat) : Nat → List (List Int)
  | 0 => []
  | j + 1 => partJ Q S j ++ partI Q S (j + 1) S.length
def partA (Q : List (List Int)) (S : List Nat) : List (List Int) := partJ Q S 20
theorem partC_len (Q : List (List Int)) (S : List Nat) (j i : Nat) : ∀ c, (partC Q S j i c).length ≤ c
  | 0 => by simp [partC]
  | c + 1 => by
    unfold partC; rw [List.length_append]
    have := partC_len Q S j i c
    split <;> simp <;> omega
theorem partI_len (Q : List (List Int)) (S : List Nat) (j : Nat) : ∀ i, (partI Q S j i).length ≤ i * S.length
  | 0 => by simp [partI]
  | i + 1 => by
    unfold partI; rw [List.length_append, Nat.succ_mul]
    have h1 := partI_len Q S j i
    have h2 := partC_len Q S j i S.length
    omega
theorem partJ_len (Q : List (List Int)) (S : List Nat) : ∀ j, (partJ Q S j).length ≤ j * (S.length * S.length)
  | 0 => by simp [partJ]
  | j + 1 => by
    unfold partJ; rw [List.length_append, Nat.succ_mul]
    have h1 := partJ_len Q S j
    have h2 := partI_len Q S (j + 1) S.length
    omega
theorem partD_len (xs : List Int) (S : List Nat) : (partD xs S).length = S.length := by simp [partD]
theorem partD_getD (xs : List Int) {S : List Nat} {i : Nat} (h : i < S.length) : (partD xs S).getD i 0 = xs.getD (pv (S.getD i 0)) 0 := by simp [partD, List.getD, h]
/-- an entry's degrees fit -/
theorem part_deg {xs : List Int} {Q : List (List Int)} {S : List Nat} (hs : Shp xs Q) (hh : ∀ r ∈ S, r ≠ 0 ∧ Sm r ∧ ∃ d, Hom xs d r) {i c j : Nat} (hi : i < S.length) (hc : c < S.length) (h : tb (act Q (j : Int) (S.getD i 0)) (pv (S.getD c 0)) = true) : (partD xs S).getD c 0 = (partD xs S).getD i 0 + (j : Int) := by
  obtain ⟨h0, hsm, d, hd⟩ := hh _ (getD_mem hi)
  have h1 := (act_hom hs (n := (j : Int)) hd _ h).2
  have h2 := (hd.pv h0 hsm).2
  rw [partD_getD xs hc, partD_getD xs hi, h1, h2]
/-- the digits of a mask by a reduced basis -/
def cooT (S : List Nat) (v : Nat) : Nat → Nat
  | 0 => 0
  | c + 1 => if tb v (pv (S.getD c 0)) = true then orr (cooT S v c) (2 ^ c) else cooT S v c
theorem tb_cooT (S : List Nat) (v : Nat) : ∀ k c, tb (cooT S v k) c = (decide (c < k) && tb v (pv (S.getD c 0)))
  | 0, c => by simp [cooT, tb_zero]
  | k + 1, c => by
    unfold cooT
    by_cases e : c = k
    · subst e
      split
      · rename_i h; rw [tb_orr, tb_pow, h]; simp
      · rename_i h
        rw [tb_cooT]
        cases hb : tb v (pv (S.getD c 0))
        · simp
        · exact absurd hb h
    · have e2 : decide (c < k + 1) = decide (c < k) := decide_eq_decide.2 (by omega)
      split
      · rw [tb_orr, tb_pow, tb_cooT, e2, decide_eq_false (show ¬ k = c by omega)]; simp
      · rw [tb_cooT, e2]
end Go.Proofs.YtpchigdhnnkpcaaGreatDoor

namespace Go.Proofs.YtpchigdhnnkpcaaGreatDoor
open Go.RowKit

/-! ### append of a slice that reads as a list, nil let in, onto an own row -/
section
variable {P : Program} {w : World}
theorem append_nothing (t ty e : TypeId) (i : TypeInfo) (size : Nat) (ht : P.underlying t = some (.slice e)) (hi : P.info? e = some i) (base : Nat)
    (v : Value) (n : Nat) (xs : List Value) (hown : w.ownsRow base e size v n xs) (c : Nat) : (Builtin.append_ #[t, t] ty #[v, .slice none 0 c]).run P w = .ok v w := by
  rcases hown.2 with ⟨rfl, rfl⟩ | ⟨g, cap, cur, rfl, _, _, hnc, _⟩
  · simp [Builtin.append_, run_underlying ht, sizeOf, typeInfo, hi, Builtin.lenOf, Builtin.firstCells]
  · simp [Builtin.append_, run_underlying ht, sizeOf, typeInfo, hi, Builtin.lenOf, Builtin.firstCells, hnc, storeCells]
theorem wp_appR {o : Oper} {a : Act} {K : Act → World → Prop} {Q : Exit → Act → World → Prop} (s x : Operand) (t e : TypeId) (bytes : Nat) (E : ET P t e bytes)
    (ho : o.op = .call { callee := .builtin .append, args := #[s, x], argTypes := #[t, t] })
    (base : Nat) (v : Value) (n : Nat) (xs : List Value) (hs : a.eval s = v) (hown : w.ownsRow base e 1 v n xs)
    (A : Option Addr) (m c : Nat) (news : List Value) (hx : a.eval x = .slice A m c) (hm : m = news.length) (hr : Rd w A news) (h1 : ∀ u ∈ news, u.oneCell' = true)
    (hn : n + m < 1099511627776) (hbase : base ≤ w.heap.size)
    (h : ∀ v' w', w'.ownsRow base e 1 v' (n + m) (xs ++ news) → w.grownBy w' v.ownBlock → (v'.ownBlock = v.ownBlock ∨ v'.ownBlock = some w.heap.size) → K (a.put o.dst v') w') : Oper.wp P o a w K Q := by
  obtain ⟨i, z, hi, hz0, hz1, hz2, hz3⟩ := E.inf
  have hsm := E.small
  have key : ∃ v' w', (Builtin.append_ #[t, t] o.type #[v, .slice A m c]).run P w = .ok v' w' ∧ w'.ownsRow base e 1 v' (n + m) (xs ++ news) ∧ w.grownBy w' v.ownBlock ∧ (v'.ownBlock = v.ownBlock ∨ v'.ownBlock = some w.heap.size) := by
    rcases A with _ | ad
    · have h0 : news = [] := by
        rcases hr with h | ⟨b, o', h, _⟩
        · exact h
        · cases h
      subst h0
      have hm0 : m = 0 := by simpa using hm
      subst hm0
      exact ⟨v, w, append_nothing t o.type e i 1 E.und hi base v n xs hown c, by simpa using hown, World.grownBy.refl w _, .inl rfl⟩
    · have hcells : ∀ j u, news[j]? = some u → w.cell? (ad.add j) = some u := by
        intro j u hj
        rcases hr with h | ⟨b, o', h, hc⟩
        · subst h; simp at hj
        · injection h with h; subst h
          rw [Addr.add_lit]; exact hc j u hj
      obtain ⟨v', w', hrun, h2, h3, _, h5⟩ := run_append_own_at (P := P) w base t o.type e i z 1 bytes E.und hi hz0 hz1 hz2 hz3 (by omega) v n xs hown ad m c news (by omega) hcells h1 (by unfold maxLen; omega)
        (Nat.le_trans (Nat.mul_le_mul (show n + m ≤ 1099511627776 by omega) hsm) (by decide)) hbase
      exact ⟨v', w', hrun, h2, h3, h5⟩
  obtain ⟨v', w', hrun, h2, h3, h4⟩ := key
  unfold Oper.wp execOp
  simp only [ho, resolve, invoke, builtin, Sem.run_bind, Sem.run_pure, Result.andThen_ok, List.map_toArray, List.map_cons, List.map_nil, hs, hx, hrun]
  exact h v' w' h2 h3 h4
theorem wpList_appR {ops : Array Oper} {rest : List Oper} {o : Oper} {a : Act} {Q : Exit → Act → World → Prop} (s x : Operand) (t e : TypeId) (bytes : Nat) (E : ET P t e bytes) (hgd : o.guard = none)
    (ho : o.op = .call { callee := .builtin .append, args := #[s, x], argTypes := #[t, t] })
    (base : Nat) (v : Value) (n : Nat) (xs : List Value) (hs : a.eval s = v) (hown : w.ownsRow base e 1 v n xs)
    (A : Option Addr) (m c : Nat) (news : List Value) (hx : a.eval x = .slice A m c) (hm : m = news.length) (hr : Rd w A news) (h1 : ∀ u ∈ news, u.oneCell' = true)
    (hn : n + m < 1099511627776) (hbase : base ≤ w.heap.size)
    (h : ∀ v' w', w'.ownsRow base e 1 v' (n + m) (xs ++ news) → w.grownBy w' v.ownBlock → (v'.ownBlock = v.ownBlock ∨ v'.ownBlock = some w.heap.size) → wpList P ops Q rest (a.put o.dst v') w') : wpList P ops Q (o :: rest) a w :=
  wpList_plain hgd fun _ hK => wp_appR s x t e bytes E ho base v n xs hs hown A m c news hx hm hr h1 hn hbase fun v' w' h2 h3 h4 => hK _ _ (h v' w' h2 h3 h4)
/-- .. at a step of a region that draws its order -/
theorem step_appR {ops : Array Oper} {o : Oper} {a : Act} {K : Act → World → Prop} {Q : Exit → Act → World → Prop} {E' : Prop} (s x : Operand) (t e : TypeId) (bytes : Nat) (E : ET P t e bytes) (hgd : o.guard = none)
    (ho : o.op = .call { callee := .builtin .append, args := #[s, x], argTypes := #[t, t] })
    (base : Nat) (v : Value) (n : Nat) (xs : List Value) (hs : a.eval s = v) (hown : w.ownsRow base e 1 v n xs)
    (A : Option Addr) (m c : Nat) (news : List Value) (hx : a.eval x = .slice A m c) (hm : m = news.length) (hr : Rd w A news) (h1 : ∀ u ∈ news, u.oneCell' = true)
    (hn : n + m < 1099511627776) (hbase : base ≤ w.heap.size)
    (h : ∀ v' w', w'.ownsRow base e 1 v' (n + m) (xs ++ news) → w.grownBy w' v.ownBlock → (v'.ownBlock = v.ownBlock ∨ v'.ownBlock = some w.heap.size) → K (a.put o.dst v') w') :
    if Region.wanted o (yielded ops a.tmps) = true then Oper.wp P o a w K Q else E' := by
  rw [if_pos (by simp [Region.wanted, hgd])]
  exact wp_appR s x t e bytes E ho base v n xs hs hown A m c news hx hm hr h1 hn hbase h
end
theorem below_app2 {H : Nat} {w wr w1 : World} {v : Value} {n : Nat} {xs : List Value} {e : TypeId} (hb : Below H w wr) (hH : H ≤ wr.heap.size) (hown : wr.ownsRow H e 1 v n xs) {o : Obj} (hg : (wr.alloc o).grownBy w1 v.ownBlock) : Below H w w1 :=
  (hb.alloc hH o).grown hg (by simp; omega) (fun k hk => (hown.lt k hk).1)
theorem iv_append (xs ys : List Int) : iv (xs ++ ys) = iv xs ++ iv ys := by simp [iv]
theorem nv_one (S : List Nat) : ∀ u ∈ nv S, u.oneCell' = true := by
  intro u hu
  obtain ⟨x, _, rfl⟩ := List.mem_map.1 hu
  rfl
theorem iv_one (S : List Int) : ∀ u ∈ iv S, u.oneCell' = true := by
  intro u hu
  obtain ⟨x, _, rfl⟩ := List.mem_map.1 hu
  rfl

set_option maxHeartbeats 1000000 in
theorem copyOf_any (A : Option Addr) (n c : Nat) (vs : List Value) (w : World) (hn : n = vs.length) (hsm : n ≤ 1000000000) (h1 : ∀ u ∈ vs, u.oneCell' = true) (hR : Rd w A vs) :
    Calls Tryz.prog 103 #[.slice A n c] w fun e w' => ∃ g cap, e = .returned (.slice (some ⟨g, 0, none⟩) n cap) ∧ w'.ownsRow w.heap.size 2 1 (.slice (some ⟨g, 0, none⟩) n cap) n vs ∧ Below w.heap.size w w' := by
  have HR := Lib.hid hR
  have Hn := Lib.hid hn
  have H1 := Lib.hid h1
  clear hR hn h1
  go_enter Tryz.func103, Tryz.ntmps103
  go_wp2_with (at_builtin; refine wpList_appR _ _ _ _ _ etI (by rfl) (by rfl) w.heap.size (.slice (some ⟨w.heap.size, 0, none⟩) 0 0) 0 [] (by rfl) ?_ A n c vs (by rfl) Hn.out ?_ H1.out ?_ ?_ ?_; exact World.ownsRow_made w #[] 0 (Nat.le_refl _) (by decide) (by simp); exact HR.out.alloc _; omega; (simp); (intro v' w' hown hg hat; have HO := Lib.hid hown; have HG := Lib.hid hg; have HA := Lib.hid hat; clear hown hg hat))
  go_ret
  have ho := HO.out
  rw [Nat.zero_add, List.nil_append] at ho
  have hb : Below w.heap.size w w' := ((Below.refl _ _).alloc (Nat.le_refl _) _).grown HG.out (by simp) (fun k hk => by simp [Value.ownBlock] at hk; omega)
  rcases ho.2 with ⟨rfl, _⟩ | ⟨g, cap, cur, rfl, _⟩
  · rcases HA.out with h | h <;> simp [Value.ownBlock] at h
  · exact ⟨g, cap, rfl, ho, hb⟩

set_option maxHeartbeats 1000000 in
theorem l01Own_any (A : Option Addr) (n c : Nat) (vs : List Value) (w : World) (hn : n = vs.length) (hsm : n ≤ 1000000000) (h1 : ∀ u ∈ vs, u.oneCell' = true) (hR : Rd w A vs) :
    Calls Tryz.prog 128 #[.slice A n c] w fun e w' => ∃ g cap, e = .returned (.slice (some ⟨g, 0, none⟩) n cap) ∧ w'.ownsRow w.heap.size 2 1 (.slice (some ⟨g, 0, none⟩) n cap) n vs ∧ Below w.heap.size w w' := by
  have HR := Lib.hid hR
  have Hn := Lib.hid hn
  have H1 := Lib.hid h1
  clear hR hn h1
  go_enter Tryz.func128, Tryz.ntmps128
  go_wp2_with (at_builtin; refine wpList_appR _ _ _ _ _ etI (by rfl) (by rfl) w.heap.size (.slice (some ⟨w.heap.size, 0, none⟩) 0 0) 0 [] (by rfl) ?_ A n c vs (by rfl) Hn.out ?_ H1.out ?_ ?_ ?_; exact World.ownsRow_made w #[] 0 (Nat.le_refl _) (by decide) (by simp); exact HR.out.alloc _; omega; (simp); (intro v' w' hown hg hat; have HO := Lib.hid hown; have HG := Lib.hid hg; have HA := Lib.hid hat; clear hown hg hat))
  go_ret
  have ho := HO.out
  rw [Nat.zero_add, List.nil_append] at ho
  have hb : Below w.heap.size w w' := ((Below.refl _ _).alloc (Nat.le_refl _) _).grown HG.out (by simp) (fun k hk => by simp [Value.ownBlock] at hk; omega)
  rcases ho.2 with ⟨rfl, _⟩ | ⟨g, cap, cur, rfl, _⟩
  · rcases HA.out with h | h <;> simp [Value.ownBlock] at h
  · exact ⟨g, cap, rfl, ho, hb⟩

end Go.Proofs.YtpchigdhnnkpcaaGreatDoor

namespace Go.Proofs.YtpchigdhnnkpcaaGreatDoor
open Go.RowKit

def cntIn (x m : Nat) (ys : List Int) : List Int := ys.set m (wrap64 (ys.getD m 0 + ys.getD (m - x) 0))
def cntRow (x : Nat) : Nat → List Int → List Int
  | 0, ys => ys
  | j + 1, ys => cntIn x (x + j) (cntRow x j ys)
def cntW (s : Nat) : Nat := 2 ^ (s + 1) - 1
def cntAll : Nat → List Int
  | 0 => 1 :: List.replicate 14 0
  | s + 1 => cntRow (cntW s) (15 - cntW s) (cntAll s)
def cnt14 : List Int := cntAll 3
theorem cnt14_len : cnt14.length = 15 := by decide +kernel
theorem cnt14_bd : ∀ i, i < 15 → 0 ≤ cnt14.getD i 0 ∧ cnt14.getD i 0 ≤ 1000 := by decide +kernel
theorem cntW_lt : ∀ s, s < 3 → 1 ≤ cntW s ∧ cntW s ≤ 14 ∧ cntW (s + 1) = 2 * cntW s + 1 := by decide
theorem cntW_le : ∀ s, s < 3 → 2 * cntW s + 1 ≤ 15 := by decide
theorem made_own (w : World) (B n : Nat) (hB : B ≤ w.heap.size) (hn : n ≤ 1099511627776) : (w.alloc (.cells (madeCells #[.int .i64 0] n) 2)).ownsRow B 2 1 (.slice (some ⟨w.heap.size, 0, none⟩) n n) n (iv (List.replicate n 0)) := by
  refine ⟨by simp [iv], .inr ⟨w.heap.size, n, _, rfl, hB, blk_new w _, Nat.le_refl _, by unfold maxLen; omega, by simp [madeCells], ?_⟩⟩
  rw [← iv_replicate, List.take_of_length_le (by simp [madeCells])]
theorem made_own1 (w : World) : (w.alloc (.cells ((madeCells #[.int .i64 0] 15).setIfInBounds 0 (.int .i64 1)) 2)).ownsRow w.heap.size 2 1 (.slice (some ⟨w.heap.size, 0, none⟩) 15 15) 15 (iv (cntAll 0)) := by
  have h := (World.ownsRow.stored (made_own w w.heap.size 15 (Nat.le_refl _) (by omega)) 0 (.int .i64 1)).1
  rw [World.setCell_alloc_at _ _ _ _ _ rfl] at h
  exact h
end Go.Proofs.YtpchigdhnnkpcaaGreatDoor

namespace Go.Proofs.YtpchigdhnnkpcaaGreatDoor
open Go.RowKit

theorem act_take_succ (Q : List (List Int)) (z : Int) (v : Nat) {k : Nat} (hk : k < Q.length) : actE (Q.take (k + 1)) z v = xr (actE (Q.take k) z v) (hit z v (Q.getD k [])) := fold_take_succ _ _ _ _ _ hk
theorem dat_take (L : List Row) (k : Nat) : (dat L).take k = dat (L.take k) := by simp [dat, List.map_take]

set_option maxHeartbeats 1000000 in
theorem l11Unit_any (n k : Nat) (w : World) (hk : k < n) (hn : n ≤ 1000) :
    Calls Tryz.prog 132 #[.int .i64 n, .int .i64 k] w fun e w' => ∃ g cap, e = .returned (.slice (some ⟨g, 0, none⟩) n cap) ∧ w'.ownsRow w.heap.size 2 1 (.slice (some ⟨g, 0, none⟩) n cap) n (iv (bitsL (2 ^ k) n)) ∧ Below w.heap.size w w' := by
  have hmk := run_make_row' (P := Tryz.prog) 22 2 (.int .i64 0) 8 Tryz.underlying22 infoI rfl .i64 .i64 n (by omega) (by omega)
  have hO := made_own w w.heap.size n (Nat.le_refl _) (by omega)
  have hc := owns_getD hO (k := k) hk
  have hf := hO.frozenAt k
  have h3 := (World.ownsRow.stored hO k (.int .i64 1)).1
  rw [← iv_set, bitsL_unit hk] at h3
  have H3 := Lib.hid h3
  have HB : Hid (Below w.heap.size w ((w.alloc (.cells (madeCells #[.int .i64 0] n) 2)).setCell ⟨w.heap.size, k, none⟩ (.int .i64 1))) := Lib.hid (((Below.refl _ _).alloc (Nat.le_refl _) _).setCell (p := ⟨w.heap.size, k, none⟩) (Nat.le_refl _) _)
  clear hO h3
  go_enter Tryz.func132, Tryz.ntmps132
  go_wp2_with fail
  go_ret
  have h4 := H3.out
  have hb := HB.out
  rw [World.setCell_alloc_at _ _ _ _ _ rfl] at h4 hb
  exact ⟨w.heap.size, n, rfl, h4, hb⟩

set_option maxRecDepth 100000 in
set_option maxHeartbeats 2000000 in
theorem l11Act_any (A A' V : Option Addr) (n c m c' cv : Nat) (xs : List Int) (L : List Row) (z : Int) (v : Nat) (w : World) (hn : n = xs.length) (hm : m = L.length) (hs : Shp xs (dat L)) (hm1 : m ≤ 1048576) (hR : RdR w A' L) (hV : Rd w V (iv (bitsL v n))) :
    Calls Tryz.prog 109 #[.agg #[.slice A n c, .slice A' m c'], .int .i64 z, .slice V n cv] w fun e w' => ∃ g cap, e = .returned (.slice (some ⟨g, 0, none⟩) n cap) ∧ w'.ownsRow w.heap.size 2 1 (.slice (some ⟨g, 0, none⟩) n cap) n (iv (bitsL (act (dat L) z v) n)) ∧ Below w.heap.size w w' := by
  have hn16 : n ≤ 16 := by rw [hn]; exact hs.len
  by_cases h0 : z = 0
  · subst h0
    have HC := Lib.hid (l01Own_any V n cv (iv (bitsL v n)) (w.alloc (.cells #[.slice A n c, .slice A' m c'] 29)) (by rw [iv_length, bitsL_length]) (by omega) (iv_one _) (hV.alloc _))
    clear hR hV hn hm hs
    go_enter Tryz.func109, Tryz.ntmps109
    go_wp2_with fail
    refine HC.out.mono ?_
    rintro e w1 ⟨g, cap, rfl, ho, hb⟩
    have HO := Lib.hid ho
    have HB := Lib.hid hb
    clear ho hb
    go_wp2_with fail
    go_ret
    refine ⟨g, cap, rfl, ?_, ((Below.refl _ _).alloc (Nat.le_refl _) _).trans (HB.out.mono (by simp))⟩
    rw [act0]; exact HO.out.mono (by simp)
  · have h0b : (z == 0) = false := by simpa using h0
    have hmk := run_make_row' (P := Tryz.prog) 22 2 (.int .i64 0) 8 Tryz.underlying22 infoI rfl .i64 .i64 n (by omega) (by omega)
    have HACT : Hid (act (dat L) z v = actE (dat L) z v) := Lib.hid (act_pos h0 _ _)
    have HS := Lib.hid hs
    have HR := Lib.hid hR
    have HV := Lib.hid hV
    have Hn := Lib.hid hn
    have Hm := Lib.hid hm
    clear hs hR hV hn hm
    obtain ⟨x0, x1, xf0, xf1, lx⟩ := blk2cells (blk_new w (.cells #[.slice A n c, .slice A' m c'] 29))
    go_enter Tryz.func109, Tryz.ntmps109
    go_wp2_with fail
    clear hmk x0 x1 xf0 xf1 lx
    go_loopw [8] (fun i wr => ∃ k : Nat, k ≤ m ∧ i = .int .i64 k ∧ wr.ownsRow w.heap.size 2 1 (.slice (some ⟨w.heap.size + 1, 0, none⟩) n n) n (iv (bitsL (actE ((dat L).take k) z v) n)) ∧ wr.heap[w.heap.size]? = some (.cells #[.slice A n c, .slice A' m c'] 29 (0, 0)) ∧ Below w.heap.size w wr) (fun i _ => m - (intOf i).toNat)
    case atStart =>
      refine ⟨0, by omega, rfl, ?_, blk_alloc (blk_new w _) _, ((Below.refl _ _).alloc (Nat.le_refl _) _).alloc (by simp) _⟩
      have := made_own (w.alloc (.cells #[.slice A n c, .slice A' m c'] 29)) w.heap.size n (by simp) (by omega)
      rw [← bitsL_zero] at this
      rw [show actE ((dat L).take 0) z v = 0 from rfl]
      simpa using this
    case round =>
      obtain ⟨k, hk, rfl, hown, hblk, hbel⟩ := hrel
      have HO := Lib.hid hown
      have HB := Lib.hid hbel
      have HK := Lib.hid hblk
      obtain ⟨x0, x1, xf0, xf1, lx⟩ := blk2cells hblk
      by_cases hlt : k < m
      · have hkL : k < L.length := by rw [← Hm.out]; exact hlt
        have hR1 := HR.out.below hbel
        obtain ⟨b, o, rfl, hcell⟩ := hR1.at_ hkL
        have hin := hR1.inn k hkL
        have hent := HS.out.ent k (by rw [dat_length]; exact hkL)
        have hst := act_take_succ (dat L) z v (k := k) (by rw [dat_length]; exact hkL)
        rw [dat_getD] at hent hst
        generalize rg L k = r at *
        obtain ⟨rA, rc, rx⟩ := r
        simp only at hcell hin hent hst
        have hl3 := hent.len
        rw [hl3] at hcell
        obtain ⟨b1, o1, rfl, hy0⟩ := hin.atI (k := 0) (by omega)
        rw [Nat.add_zero] at hy0
        have hy1 := hin.cellI (k := 1) (by omega)
        have hy2 := hin.cellI (k := 2) (by omega)
        have hlo1 := hent.lo1
        have hhi1 := hent.hi1
        have hlo2 := hent.lo2
        have hhi2 := hent.hi2
        rw [← Hn.out] at hhi1 hhi2
        have HST := Lib.hid hst
        have HH : Hid (hit z v rx = if rx.getD 0 0 = z ∧ tb v (rx.getD 1 0).toNat = true then 2 ^ (rx.getD 2 0).toNat else 0) := Lib.hid rfl
        clear hst hent hin hR1 hl3
        generalize rx.getD 0 0 = e0 at *
        generalize rx.getD 1 0 = e1 at *
        generalize rx.getD 2 0 = e2 at *
        obtain ⟨i1, rfl⟩ := Int.eq_ofNat_of_zero_le hlo1
        obtain ⟨i2, rfl⟩ := Int.eq_ofNat_of_zero_le hlo2
        have hi1 : i1 < n := by omega
        have hi2 : i2 < n := by omega
        rw [Int.toNat_natCast, Int.toNat_natCast] at HH
        by_cases he : e0 = z
        · subst he
          obtain ⟨vb, vo, rfl, hvc⟩ := (HV.out.below hbel).atI (k := i1) (by rw [bitsL_length]; exact hi1)
          rw [bitsL_getD _ hi1] at hvc
          cases htb : tb v i1
          · rw [bit_none htb] at hvc
            have HH2 := Lib.hid (HH.out.trans (if_neg (by rw [htb]; simp)))
            clear hown hbel hblk htb
            go_wp2_with fail
            go_roundw
            case rel => exact ⟨k + 1, by omega, by go_num, by rw [HST.out, HH2.out, xr_zero]; exact HO.out, HK.out, HB.out⟩
            case measure => simp [intOf]; omega
          · rw [bit_one htb] at hvc
            have HH2 := Lib.hid (HH.out.trans (if_pos ⟨rfl, htb⟩))
            have hoc := owns_getD hown hi2
            rw [bitsL_getD _ hi2] at hoc
            have fz := hown.frozenAt i2
            obtain ⟨bd1, bd2⟩ := bit_bd (actE ((dat L).take k) e0 v) i2
            have HSTO : Hid ((wr.setCell ⟨w.heap.size + 1, i2, none⟩ (.int .i64 (1 - bit (actE ((dat L).take k) e0 v) i2))).ownsRow w.heap.size 2 1 (.slice (some ⟨w.heap.size + 1, 0, none⟩) n n) n (iv (bitsL (xr (actE ((dat L).take k) e0 v) (2 ^ i2)) n))) := Lib.hid (by
              rw [← bitsL_flip _ hi2, iv_set]; exact (World.ownsRow.stored HO.out i2 _).1)
            generalize bit (actE ((dat L).take k) e0 v) i2 = y at *
            clear hown hbel hblk htb
            go_wp2_with fail
            go_still_tail 12, (by kernel_rfl)
            go_wp2_with fail
            go_roundw
            case rel => exact ⟨k + 1, by omega, by go_num, by rw [HST.out, HH2.out]; exact owns_keeps HSTO.out (Keeps.drew (S := []) (Keeps.refl _ _)) (.inr (by simp)), blk_seto HK.out ⟨w.heap.size + 1, i2, none⟩ (by simp) _, (HB.out.setCell (p := ⟨w.heap.size + 1, i2, none⟩) (by simp) _).drew⟩
            case measure => simp [intOf]; omega
        · have heb : (e0 == z) = false := by simpa using he
          have HH2 := Lib.hid (HH.out.trans (if_neg (fun h => he h.1)))
          clear hown hbel hblk he
          go_wp2_with fail
          go_roundw
          case rel => exact ⟨k + 1, by omega, by go_num, by rw [HST.out, HH2.out, xr_zero]; exact HO.out, HK.out, HB.out⟩
          case measure => simp [intOf]; omega
      · obtain rfl : k = m := by omega
        have he : (dat L).take k = dat L := List.take_of_length_le (by rw [dat_length, ← Hm.out]; exact Nat.le_refl _)
        rw [he] at HO
        clear hown hbel hblk he
        go_wp2_with fail
        go_ret
        exact ⟨w.heap.size + 1, n, rfl, by rw [HACT.out]; exact HO.out, HB.out⟩
end Go.Proofs.YtpchigdhnnkpcaaGreatDoor

namespace Go.Proofs.YtpchigdhnnkpcaaGreatDoor
open Go.RowKit

theorem below_app2d {H : Nat} {w wr w1 : World} {v : Value} {n : Nat} {xs : List Value} {e : TypeId} (hb : Below H w wr) (hH : H ≤ wr.heap.size) (hown : wr.ownsRow H e 1 v n xs) {o : Obj} (hg : (wr.alloc o).drew.grownBy w1 v.ownBlock) : Below H w w1 :=
  ((hb.alloc hH o).drew).grown hg (by simp; omega) (fun k hk => (hown.lt k hk).1)
set_option maxHeartbeats 2000000 in
theorem l11Plus_any (A B : Option Addr) (n ca cb a b : Nat) (w : World) (hn : n ≤ 1000) (hA : Rd w A (iv (bitsL a n))) (hB : Rd w B (iv (bitsL b n))) :
    Calls Tryz.prog 153 #[.slice A n ca, .slice B n cb] w fun e w' => ∃ g cap, e = .returned (.slice (some ⟨g, 0, none⟩) n cap) ∧ w'.ownsRow w.heap.size 2 1 (.slice (some ⟨g, 0, none⟩) n cap) n (iv (bitsL (xr a b) n)) ∧ Below w.heap.size w w' := by
  have HA := Lib.hid hA
  have HB := Lib.hid hB
  clear hA hB
  go_enter Tryz.func153, Tryz.ntmps153
  go_wp2_with fail
  go_loopw [5, 6] (fun v i wr => ∃ k g cap : Nat, k ≤ n ∧ i = .int .i64 k ∧ v = .slice (some ⟨g, 0, none⟩) k cap ∧ wr.ownsRow w.heap.size 2 1 (.slice (some ⟨g, 0, none⟩) k cap) k (iv ((bitsL (xr a b) n).take k)) ∧ Below w.heap.size w wr) (fun _ i _ => n - (intOf i).toNat)
  case atStart => exact ⟨0, w.heap.size, 0, by omega, rfl, rfl, World.ownsRow_made w #[] 0 (Nat.le_refl _) (by decide) (by simp), (Below.refl _ _).alloc (Nat.le_refl _) _⟩
  case round =>
    obtain ⟨k, g, cap, hk, rfl, rfl, hown, hbel⟩ := hrel
    have HO := Lib.hid hown
    have HBL := Lib.hid hbel
    have hsz := hbel.size
    by_cases hlt : k < n
    · obtain ⟨b1, o1, rfl, hc1⟩ := (HA.out.below hbel).atI (k := k) (by rw [bitsL_length]; exact hlt)
      obtain ⟨b2, o2, rfl, hc2⟩ := (HB.out.below hbel).atI (k := k) (by rw [bitsL_length]; exact hlt)
      rw [bitsL_getD _ hlt] at hc1 hc2
      have HTS : Hid ((bitsL (xr a b) n).take (k + 1) = (bitsL (xr a b) n).take k ++ [(bit a k + bit b k) % 2]) := Lib.hid (by rw [bitsL_take _ hlt, bit_xr])
      obtain ⟨p1, p2⟩ := bit_bd a k
      obtain ⟨q1, q2⟩ := bit_bd b k
      have HKP : Hid (∀ w', Below w.heap.size w w' → w'.cell? ⟨b1, o1 + k, none⟩ = some (.int .i64 (bit a k)) ∧ w'.cell? ⟨b2, o2 + k, none⟩ = some (.int .i64 (bit b k))) := Lib.hid (fun w' hb => by
        have h1 := (HA.out.below hb).cellI (k := k) (by rw [bitsL_length]; exact hlt)
        have h2 := (HB.out.below hb).cellI (k := k) (by rw [bitsL_length]; exact hlt)
        rw [bitsL_getD _ hlt] at h1 h2
        exact ⟨h1, h2⟩)
      generalize bit a k = x at *
      generalize bit b k = y at *
      have hw1 : IntKind.i64.wrap (x + y) = x + y := by rw [IntKind.wrap_i64]; omega
      have hw2 : (x + y).tmod 2 = (x + y) % 2 := Int.tmod_eq_emod_of_nonneg (by omega)
      clear hown hbel
      go_wp2_with fail
      go_region_held3 (fun w' => w'.cell? ⟨b1, o1 + k, none⟩ = some (.int .i64 x) ∧ w'.cell? ⟨b2, o2 + k, none⟩ = some (.int .i64 y))
        (first | exact HKP.out _ (HBL.out.alloc hsz _) | exact HKP.out _ (HBL.out.alloc hsz _).drew | exact HKP.out _ HBL.out.drew | exact HKP.out _ HBL.out | exact HKP.out _ HB1.out)
        ((refine step_app1 _ _ _ _ _ etI (by rfl) (by rfl) w.heap.size (.slice (some ⟨g, 0, none⟩) k cap) k (iv ((bitsL (xr a b) n).take k)) (by rfl) ?_ _ (.int .i64 ((x + y) % 2)) (by rfl) ?_ (by rfl) ?_ ?_ ?_; exact (HO.out.alloc _).drew; exact drew_cell (new_cell _ _ _); omega; (simp; omega); (intro g1 cap1 w1 hown1 hgrow1 hat1 hlt1; have HO1 := Lib.hid hown1; have HB1 := Lib.hid (below_app2d HBL.out hsz HO.out hgrow1); clear hown1 hgrow1 hat1 hlt1)))
      go_wp2_with fail
      go_roundw
      case rel => exact ⟨k + 1, g1, cap1, by omega, by go_num, rfl, by rw [HTS.out, iv_append]; exact HO1.out, HB1.out⟩
      case measure => simp [intOf]; omega
    · obtain rfl : k = n := by omega
      have he : (bitsL (xr a b) k).take k = bitsL (xr a b) k := List.take_of_length_le (by rw [bitsL_length]; exact Nat.le_refl _)
      rw [he] at HO
      clear hown hbel he
      go_wp2_with fail
      go_ret
      exact ⟨g, cap, rfl, HO.out, HBL.out⟩

set_option maxHeartbeats 1000000 in
theorem l01Same_any (A B : Option Addr) (n n' c c' : Nat) (x y : List Int) (w : World) (hn : n = x.length) (hn' : n' = y.length) (hsm : n ≤ 1099511627776) (hsm' : n' ≤ 1099511627776) (hA : Rd w A (iv x)) (hB : Rd w B (iv y)) :
    Calls Tryz.prog 133 #[.slice A n c, .slice B n' c'] w fun e w' => e = .returned (.bool (x == y)) ∧ ∃ m, w.drewN m = w' := by
  by_cases hnn : n = n'
  · subst hnn
    have HA := Lib.hid hA
    have HB := Lib.hid hB
    have Hn := Lib.hid hn
    have Hn' := Lib.hid hn'
    clear hA hB hn hn' hsm'
    go_enter Tryz.func133, Tryz.ntmps133
    go_wp2_with fail
    go_loopw [5] (fun i wr => ∃ k j : Nat, k ≤ n ∧ i = .int .i64 k ∧ wr = w.drewN j ∧ Hid (∀ t, t < k → x.getD t 0 = y.getD t 0)) (fun i _ => n - (intOf i).toNat)
    case atStart => exact ⟨0, 0, by omega, rfl, rfl, Lib.hid (fun t ht => by omega)⟩
    case round =>
      obtain ⟨k, j, hk, rfl, rfl, HQ⟩ := hrel
      by_cases hlt : k < n
      · obtain ⟨b1, o1, rfl, hc1⟩ := HA.out.atI (k := k) (by rw [← Hn.out]; exact hlt)
        obtain ⟨b2, o2, rfl, hc2⟩ := HB.out.atI (k := k) (by rw [← Hn'.out]; exact hlt)
        generalize hp : x.getD k 0 = p at *
        generalize hq : y.getD k 0 = q at *
        have HP := Lib.hid hp
        have HQ' := Lib.hid hq
        clear hp hq
        by_cases e : p = q
        · subst e
          go_wp2_with fail
          go_quiet (fail)
          go_wp2_with fail
          go_roundw
          case rel =>
            refine ⟨k + 1, _, by omega, by go_num, rfl, Lib.hid (fun t ht => ?_)⟩
            by_cases e : t = k
            · subst e; rw [HP.out, HQ'.out]
            · exact HQ.out t (by omega)
          case measure => simp [intOf]; omega
        · have heb : (p != q) = true := by simpa using e
          have HF : Hid ((x == y) = false) := Lib.hid (by
            rw [beq_eq_false_iff_ne]; intro h; subst h; exact e (HP.out.symm.trans HQ'.out))
          clear e
          go_wp2_with fail
          go_quiet (fail)
          go_wp2_with fail
          go_ret
          exact ⟨by rw [HF.out]; rfl, _, by rw [World.drewN_drewN]⟩
      · have HT : Hid ((x == y) = true) := Lib.hid (by
          rw [beq_iff_eq]
          exact list_ext_getD Hn.out.symm Hn'.out.symm (fun i hi => HQ.out i (by omega)))
        go_wp2_with fail
        go_ret
        exact ⟨by rw [HT.out]; rfl, j, rfl⟩
  · have hnb : ((n : Int) != (n' : Int)) = true := by simp; omega
    have HF : Hid ((x == y) = false) := Lib.hid (by
      rw [beq_eq_false_iff_ne]; intro h; subst h; exact hnn (hn.trans hn'.symm))
    clear hA hB hn hn' hnn
    go_enter Tryz.func133, Tryz.ntmps133
    go_wp2_with fail
    go_ret
    exact ⟨by rw [HF.out]; rfl, 0, rfl⟩
end Go.Proofs.YtpchigdhnnkpcaaGreatDoor

namespace Go.Proofs.YtpchigdhnnkpcaaGreatDoor
open Go.RowKit

theorem comb_snoc : ∀ (S : List Nat) (r i x : Nat), comb (S ++ [r]) i x = xr (comb S i x) (if tb x (i + S.length) = true then r else 0)
  | [], r, i, x => by simp [comb, xr_zero, zero_xr]
  | s :: S, r, i, x => by
    simp only [List.cons_append, comb, comb_snoc S r (i + 1) x, List.length_cons, xr_assoc]
    rw [show i + 1 + S.length = i + (S.length + 1) by omega]
theorem comb_succ (S : List Nat) (x : Nat) {k : Nat} (h : k < S.length) : comb (S.take (k + 1)) 0 x = xr (comb (S.take k) 0 x) (if tb x k = true then S.getD k 0 else 0) := by
  rw [List.take_succ_eq_append_getElem h, comb_snoc, List.length_take, Nat.min_eq_left (Nat.le_of_lt h), Nat.zero_add]
  simp [List.getD, h]
theorem comb_sm : ∀ (S : List Nat) (i x : Nat), (∀ r ∈ S, Sm r) → Sm (comb S i x)
  | [], _, _, _ => Sm.zero
  | r :: S, i, x, h => by
    simp only [comb]
    refine Sm.xr ?_ (comb_sm S (i + 1) x fun s hs => h s (List.mem_cons_of_mem _ hs))
    split
    · exact h r (List.mem_cons_self ..)
    · exact Sm.zero
attribute [local go_sem] i64_xor_nat i64_bit_test in
set_option maxHeartbeats 1000000 in
theorem times_any (A : Option Addr) (n c : Nat) (S : List Nat) (x : Nat) (w : World) (hn : n = S.length) (hsm : n ≤ 64) (hx : Sm x) (hS : ∀ r ∈ S, Sm r) (hR : Rd w A (nv S)) :
    Calls Tryz.prog 46 #[.int .i64 x, .slice A n c] w fun e w' => e = .returned (.int .i64 (comb S 0 x : Nat)) ∧ w = w' := by
  have HR := Lib.hid hR
  have Hn := Lib.hid hn
  have HS := Lib.hid hS
  clear hR hn hS
  go_enter Tryz.func46, Tryz.ntmps46
  go_wp2_with fail
  go_loop [5, 10] (fun t i => ∃ k : Nat, k ≤ n ∧ i = .int .i64 k ∧ t = .int .i64 (comb (S.take k) 0 x : Nat)) (fun _ i => n - (intOf i).toNat)
  case atStart => exact ⟨0, by omega, rfl, rfl⟩
  case round =>
    obtain ⟨k, hk, rfl, rfl⟩ := hrel
    by_cases hlt : k < n
    · have hkL : k < S.length := by rw [← Hn.out]; exact hlt
      obtain ⟨b, o, rfl, hc⟩ := HR.out.atN hkL
      have HC := Lib.hid (comb_succ S x hkL)
      have h1 : Sm (comb (S.take k) 0 x) := comb_sm _ _ _ fun r hr => HS.out r (List.mem_of_mem_take hr)
      have h2 : Sm (S.getD k 0) := HS.out _ (by simp [List.getD, hkL])
      generalize comb (S.take k) 0 x = p at *
      generalize S.getD k 0 = q at *
      have hmin : min k 64 = k := by omega
      cases hb : tb x k
      · have HE := Lib.hid (HC.out.trans (by rw [hb]; simp [xr_zero] : _ = p))
        go_wp2_with fail
        go_round
        case rel => exact ⟨k + 1, by omega, by go_num, by rw [HE.out]⟩
        case measure => simp [intOf]; omega
      · have HE := Lib.hid (HC.out.trans (by rw [hb]; simp : _ = xr p q))
        go_wp2_with fail
        go_round
        case rel => exact ⟨k + 1, by omega, by go_num, by rw [HE.out]⟩
        case measure => simp [intOf]; omega
    · have e : S.take k = S := List.take_of_length_le (by rw [← Hn.out]; omega)
      rw [e]
      clear e
      go_wp2_with fail
      go_ret
      exact ⟨rfl, rfl⟩

/-- the table of a module under way: the block of the table, m rows made, their numbers -/
structure TbM (w0 w : World) (g : Nat) (A : Option Addr) (n c : Nat) (h : Nat → Nat) (m : Nat) (S : Nat → List Nat) : Prop where
  blk : ∃ cs : Array Value, w.heap[g]? = some (.cells cs 89 (0, 0)) ∧ cs.size = 22 ∧ cs[0]? = some (.slice A n c) ∧ ∀ k, k < m → cs[1 + k]? = some (.slice (some ⟨h k, 0, none⟩) n n)
  own : ∀ k, k < m → w.ownsRow w0.heap.size 2 1 (.slice (some ⟨h k, 0, none⟩) n n) n (nv (S k))
  inj : ∀ k j, k < m → j < m → k ≠ j → h k ≠ h j
  ge : w0.heap.size ≤ g
  bel : Below w0.heap.size w0 w
section
variable {w0 w : World} {g : Nat} {A : Option Addr} {n c : Nat} {h : Nat → Nat} {m : Nat} {S : Nat → List Nat}
theorem TbM.cell (t : TbM w0 w g A n c h m S) {k : Nat} (hk : k < m) : w.cell? ⟨g, 1 + k, none⟩ = some (.slice (some ⟨h k, 0, none⟩) n n) := by
  obtain ⟨cs, hb, _, _, hc⟩ := t.blk
  rw [cell_of_row w g (1 + k) cs _ _ hb]; exact hc k hk
theorem TbM.cell0 (t : TbM w0 w g A n c h m S) : w.cell? ⟨g, 0, none⟩ = some (.slice A n c) := by
  obtain ⟨cs, hb, _, h0, _⟩ := t.blk
  rw [cell_of_row w g 0 cs _ _ hb]; exact h0
theorem TbM.frozen (t : TbM w0 w g A n c h m S) (i : Nat) : w.frozen? ⟨g, i, none⟩ = false := by
  obtain ⟨cs, hb, _⟩ := t.blk
  simp [World.frozen?, hb]
theorem TbM.old (t : TbM w0 w g A n c h m S) {i : Nat} (hi : i < 22) : ∃ v, w.cell? ⟨g, i, none⟩ = some v := by
  obtain ⟨cs, hb, hs, _⟩ := t.blk
  rw [cell_of_row w g i cs _ _ hb]
  exact ⟨cs[i], by simp [hs, hi]⟩
theorem TbM.lt (t : TbM w0 w g A n c h m S) : g < w.heap.size := by
  obtain ⟨cs, hb, _⟩ := t.blk
  exact (Array.getElem?_eq_some_iff.1 hb).1
theorem TbM.ne (t : TbM w0 w g A n c h m S) {k : Nat} (hk : k < m) : h k ≠ g := by
  obtain ⟨cs, hb, _⟩ := t.blk
  have := own_ne_blk (t.own k hk) hb (by decide)
  simpa [Value.ownBlock] using this
theorem TbM.congr {S' : Nat → List Nat} (t : TbM w0 w g A n c h m S) (e : ∀ k, k < m → S k = S' k) : TbM w0 w g A n c h m S' :=
  ⟨t.blk, fun k hk => by rw [← e k hk]; exact t.own k hk, t.inj, t.ge, t.bel⟩
theorem TbM.below {w' : World} (t : TbM w0 w g A n c h m S) (hb : Below w.heap.size w w') : TbM w0 w' g A n c h m S := by
  obtain ⟨cs, hk, rest⟩ := t.blk
  exact ⟨⟨cs, blk_kept hk hb, rest⟩, fun k hk => owns_keeps (t.own k hk) (Keeps.of_below hb) (.inr (by simp)), t.inj, t.ge, t.bel.trans (hb.mono t.bel.size)⟩
/-- a number stored into a row -/
theorem TbM.store (t : TbM w0 w g A n c h m S) {k : Nat} (hk : k < m) (b x : Nat) : TbM w0 (w.setCell ⟨h k, b, none⟩ (.int .i64 (x : Int))) g A n c h m (fun j => if j = k then (S k).set b x else S j) := by
  have ks : Keeps w (w.setCell ⟨h k, b, none⟩ (.int .i64 (x : Int))) [some (h k)] := (Keeps.refl w [some (h k)]).setCell (p := ⟨h k, b, none⟩) (by simp) _
  obtain ⟨cs, hb, rest⟩ := t.blk
  refine ⟨⟨cs, blk_seto hb _ (t.ne hk) _, rest⟩, fun j hj => ?_, t.inj, t.ge, t.bel.setCell (p := ⟨h k, b, none⟩) ((t.own k hk).lt (h k) rfl).1 _⟩
  by_cases e : j = k
  · subst e
    rw [if_pos rfl]
    have := (World.ownsRow.stored (t.own j hk) b (.int .i64 (x : Int))).1
    have e2 : nv ((S j).set b x) = (nv (S j)).set b (.int .i64 (x : Int)) := by simp [nv, List.map_set]
    rw [e2]; exact this
  · rw [if_neg e]
    exact owns_keeps (t.own j hj) ks (.inr (by simp only [Value.ownBlock, List.mem_singleton, Option.some.injEq]; exact t.inj j k hj hk e))
/-- one more row made -/
theorem TbM.make (t : TbM w0 w g A n c h m S) (hm : m < 21) (hn : n ≤ 1099511627776) : TbM w0 ((w.alloc (.cells (madeCells #[.int .i64 0] n) 2)).setCell ⟨g, 1 + m, none⟩ (.slice (some ⟨w.heap.size, 0, none⟩) n n)) g A n c (fun k => if k = m then w.heap.size else h k) (m + 1) (fun k => if k = m then List.replicate n 0 else S k) := by
  have hlt := t.lt
  have t1 := t.below ((Below.refl _ _).alloc (Nat.le_refl _) (.cells (madeCells #[.int .i64 0] n) 2))
  have ho := made_own w w0.heap.size n t.bel.size hn
  have ks : Keeps (w.alloc (.cells (madeCells #[.int .i64 0] n) 2)) ((w.alloc (.cells (madeCells #[.int .i64 0] n) 2)).setCell ⟨g, 1 + m, none⟩ (.slice (some ⟨w.heap.size, 0, none⟩) n n)) [some g] := (Keeps.refl _ [some g]).setCell (p := ⟨g, 1 + m, none⟩) (by simp) _
  obtain ⟨cs, hb, hs, h0, hc⟩ := t1.blk
  refine ⟨⟨cs.setIfInBounds (1 + m) (.slice (some ⟨w.heap.size, 0, none⟩) n n), heap_setCell_same _ _ _ _ _ _ hb, by simp [hs], ?_, ?_⟩, ?_, ?_, t.ge, t1.bel.setCell (p := ⟨g, 1 + m, none⟩) t.ge _⟩
  · rw [Array.getElem?_setIfInBounds]; rw [if_neg (by omega)]; exact h0
  · intro k hk
    rw [Array.getElem?_setIfInBounds]
    by_cases e : k = m
    · subst e; rw [if_pos rfl, if_pos (by rw [hs]; omega)]; simp
    · rw [if_neg (by omega)]; simp only [if_neg e]; exact hc k (by omega)
  · intro k hk
    by_cases e : k = m
    · subst e
      simp only [if_true]
      have e2 : nv (List.replicate n 0) = iv (List.replicate n 0) := by simp [nv, iv]
      rw [e2]
      exact owns_keeps ho ks (.inr (by simp [Value.ownBlock]; omega))
    · simp only [if_neg e]
      exact owns_keeps (t1.own k (by omega)) ks (.inr (by simp only [Value.ownBlock, List.mem_singleton, Option.some.injEq]; exact t.ne (k := k) (by omega)))
  · intro k j hk hj hne
    have hl : ∀ i, i < m → h i < w.heap.size := fun i hi => ((t.own i hi).lt (h i) rfl).2
    by_cases e : k = m
    · by_cases e2 : j = m
      · omega
      · simp only [if_pos e, if_neg e2]; have := hl j (by omega); omega
    · by_cases e2 : j = m
      · simp only [if_neg e, if_pos e2]; have := hl k (by omega); omega
      · simp only [if_neg e, if_neg e2]; exact t.inj k j (by omega) (by omega) hne
theorem TbM.drew (t : TbM w0 w g A n c h m S) : TbM w0 w.drew g A n c h m S := t.below (Below.drew (Below.refl _ _))
end
end Go.Proofs.YtpchigdhnnkpcaaGreatDoor
