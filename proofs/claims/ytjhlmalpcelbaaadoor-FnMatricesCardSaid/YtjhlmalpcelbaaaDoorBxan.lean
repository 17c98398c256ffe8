/- plain mathematics: products, transposes, kernels, solutions, inverses · FnRanks: the walk of the law (printed by mkranks.py) -/
import Derived.Test.YtjhlmalpcelbaaaDoorBxal
import Derived.Test.YtjhlmalpcelbaaaDoorBxam
import Derived.Test.YtjhlmalpcelbaaaDoorBxak
import Derived.Test.YtjhlmalpcelbaaaDoorBxai
import Derived.Test.YtjhlmalpcelbaaaDoorBxaj
set_option linter.all false
namespace Go.Proofs.YtjhlmalpcelbaaaDoor

/-- an exclusive sum of so many bits -/
def par (f : Nat → Bool) : Nat → Bool
  | 0 => false
  | n + 1 => par f n ^^ f n
theorem par_congr {f h : Nat → Bool} : ∀ n, (∀ k, k < n → f k = h k) → par f n = par h n
  | 0, _ => rfl
  | n + 1, e => by rw [par, par, par_congr n (fun k hk => e k (by omega)), e n (by omega)]
theorem tb_combT (S : List Nat) (x i : Nat) : ∀ m, m ≤ S.length → tb (comb (S.take m) 0 x) i = par (fun k => tb x k && tb (S.getD k 0) i) m
  | 0, _ => by simp [comb, par, tb_zero]
  | m + 1, hm => by
    rw [comb_succ S x (show m < S.length by omega), tb_xr, tb_combT S x i m (by omega), par]
    congr 1
    cases tb x m
    · simp [tb_zero]
    · simp
theorem tb_comb (S : List Nat) (x i : Nat) : tb (comb S 0 x) i = par (fun k => tb x k && tb (S.getD k 0) i) S.length := by
  have := tb_combT S x i S.length (Nat.le_refl _)
  rwa [List.take_length] at this
theorem comb_zeroB (S : List Nat) (i : Nat) : comb S i 0 = 0 := comb_low S i 0 fun m _ => tb_zero m
/-- products are associative with masks -/
theorem comb_mapB (T : List Nat) : ∀ (S : List Nat) (i x : Nat), comb T 0 (comb S i x) = comb (S.map (comb T 0)) i x
  | [], i, x => comb_zeroB T 0
  | r :: S, i, x => by
    simp only [comb, List.map_cons, comb_xr, comb_mapB T S (i + 1) x]
    congr 1
    split
    · rfl
    · exact comb_zeroB T 0
theorem comb_spB (S : List Nat) (i x : Nat) : Sp S (comb S i x) := by
  have h : ∀ (L : List Nat) (i : Nat), (∀ r ∈ L, r ∈ S) → Sp S (comb L i x) := by
    intro L
    induction L with
    | nil => intro i _; exact .zero
    | cons r L ih =>
      intro i hL
      simp only [comb]
      refine Sp.plus ?_ (ih (i + 1) fun s hs => hL s (List.mem_cons_of_mem _ hs))
      split
      · exact .mem (hL r (List.mem_cons_self ..))
      · exact .zero
  exact h S i fun _ h => h
theorem getD_colS (S : List Nat) (c : Nat) {j : Nat} (hj : j < c) : (turnS S c).getD j 0 = colF S j S.length := by
  simp [turnS, List.getD, hj]
theorem tb_turn (S : List Nat) (c : Nat) {j : Nat} (hj : j < c) (i : Nat) : tb ((turnS S c).getD j 0) i = (decide (i < S.length) && tb (S.getD i 0) j) := by
  rw [getD_colS S c hj, tb_colF]
theorem turn_lt (S : List Nat) (c : Nat) : ∀ r ∈ turnS S c, r < 2 ^ S.length := by
  intro r hr
  obtain ⟨j, _, rfl⟩ := List.mem_map.1 hr
  exact colF_lt S j S.length
/-- transposes undo each other -/
theorem turn_turn {S : List Nat} {c : Nat} (h : ∀ r ∈ S, r < 2 ^ c) : turnS (turnS S c) S.length = S := by
  refine List.ext_getElem (by simp [turnS]) fun i h1 h2 => ?_
  have e1 : (turnS (turnS S c) S.length)[i] = (turnS (turnS S c) S.length).getD i 0 := by simp [List.getD, h1]
  have e2 : S[i] = S.getD i 0 := by simp [List.getD, h2]
  rw [e1, e2]
  refine eq_of_tb fun j => ?_
  rw [tb_turn _ _ h2, turnS_len]
  by_cases hj : j < c
  · rw [tb_turn S c hj]; simp [hj, h2]
  · have : tb (S.getD i 0) j = false := tb_of_lt (h _ (getD_mem h2)) (by omega)
    rw [this]; simp [hj]
/-- columns of products are combinations of the columns of the first factor -/
theorem col_comb (R C : List Nat) (j : Nat) (hC : ∀ x ∈ C, x < 2 ^ R.length) : colF (C.map (comb R 0)) j C.length = comb (turnS C R.length) 0 (colF R j R.length) := by
  refine eq_of_tb fun i => ?_
  rw [tb_colF, tb_comb, turnS_len]
  by_cases hi : i < C.length
  · have e : (C.map (comb R 0)).getD i 0 = comb R 0 (C.getD i 0) := by simp [List.getD, hi]
    rw [e, tb_comb]
    simp only [hi, decide_true, Bool.true_and]
    refine par_congr _ fun k hk => ?_
    rw [tb_colF, tb_turn C R.length hk]
    simp [hk, hi, Bool.and_comm]
  · have e : ∀ n, n ≤ R.length → par (fun k => tb (colF R j R.length) k && tb ((turnS C R.length).getD k 0) i) n = false := by
      intro n
      induction n with
      | zero => intro _; rfl
      | succ n ih =>
        intro hn
        rw [par, ih (by omega), tb_turn C R.length (show n < R.length by omega)]
        simp [hi]
    rw [e _ (Nat.le_refl _)]; simp [hi]
theorem fold_growB : ∀ (C S : List Nat), S.length ≤ (C.foldl putS S).length
  | [], _ => Nat.le_refl _
  | c :: C, S => by
    rw [List.foldl_cons]
    refine Nat.le_trans ?_ (fold_growB C (putS S c))
    rw [putS_len]
    split <;> omega
theorem sub_len {T D : List Nat} (hT : ∀ r ∈ T, Sm r) (hD : ∀ r ∈ D, Sm r) (h : ∀ r ∈ T, Sp D r) : (reduceS T).length ≤ (reduceS D).length := by
  have hTD : ∀ r ∈ T ++ D, Sm r := fun r hr => by
    rcases List.mem_append.1 hr with hr | hr
    · exact hT r hr
    · exact hD r hr
  have hs : ∀ v, Sp (T ++ D) v ↔ Sp D v := fun v => by
    constructor
    · intro hv
      refine hv.trans fun r hr => ?_
      rcases List.mem_append.1 hr with hr | hr
      · exact h r hr
      · exact .mem hr
    · exact Sp.mono fun r hr => List.mem_append.2 (.inr hr)
  have e1 : reduceS (T ++ D) = D.foldl putS (reduceS T) := by unfold reduceS; rw [List.foldl_append]
  rw [← reduce_unique hTD hD hs, e1]
  exact fold_growB D (reduceS T)
theorem reduce_le (D : List Nat) (hD : ∀ r ∈ D, Sm r) : (reduceS D).length ≤ D.length := by
  have h := comp_rank [] D
  have h2 := (compK_inv (red_reduce (rows := []) (by simp)) hD D.length (Nat.le_refl _)).2.2.1
  have e : (reduceS []).length = 0 := rfl
  rw [e] at h
  simp only [List.nil_append] at h
  omega
/-- the rank of the transpose is no greater -/
theorem rank_turn_le {S : List Nat} {d : Nat} (h : ∀ r ∈ S, r < 2 ^ d) (hd : d ≤ 60) (hl : S.length ≤ 60) : (reduceS (turnS S d)).length ≤ (reduceS S).length := by
  have hS : ∀ r ∈ S, Sm r := fun r hr => sm_of_lt (by omega) (h r hr)
  have hR : ∀ r ∈ reduceS S, Sm r := fun r hr => ((red_reduce hS).ne r hr).2
  have hRl : (reduceS S).length ≤ 60 := Nat.le_trans (reduce_le S hS) hl
  have hR62 : ∀ r ∈ reduceS S, r < 2 ^ 63 := fun r hr => hR r hr
  -- rows as combinations of the reduced rows
  have hz : ∀ r ∈ S, ∃ z, z < 2 ^ (reduceS S).length ∧ comb (reduceS S) 0 z = r := fun r hr => by
    have h0 : (solL (reduceS S) r).1 = 0 := (sol_iff hR r).2 ((sp_reduce hS r).2 (.mem hr))
    exact ⟨(solL (reduceS S) r).2, sol_lt (a := 63) hR62 (hS r hr), sol_comb r h0⟩
  obtain ⟨C, hC1, hC2⟩ : ∃ C : List Nat, C.map (comb (reduceS S) 0) = S ∧ ∀ x ∈ C, x < 2 ^ (reduceS S).length := by
    have : ∀ L : List Nat, (∀ r ∈ L, r ∈ S) → ∃ C : List Nat, C.map (comb (reduceS S) 0) = L ∧ ∀ x ∈ C, x < 2 ^ (reduceS S).length := by
      intro L
      induction L with
      | nil => intro _; exact ⟨[], rfl, by simp⟩
      | cons r L ih =>
        intro hL
        obtain ⟨C, h1, h2⟩ := ih fun s hs => hL s (List.mem_cons_of_mem _ hs)
        obtain ⟨z, z1, z2⟩ := hz r (hL r (List.mem_cons_self ..))
        exact ⟨z :: C, by simp [h1, z2], fun x hx => by
          rcases List.mem_cons.1 hx with rfl | hx
          · exact z1
          · exact h2 x hx⟩
    exact this S fun _ h => h
  have hCl : C.length = S.length := by rw [← hC1]; simp
  have hDs : ∀ r ∈ turnS C (reduceS S).length, Sm r := fun r hr => sm_of_lt (by omega) (turn_lt C _ r hr)
  have hTs : ∀ r ∈ turnS S d, Sm r := fun r hr => sm_of_lt (by omega) (turn_lt S _ r hr)
  refine Nat.le_trans (sub_len hTs hDs fun r hr => ?_) (Nat.le_trans (reduce_le _ hDs) (by rw [turnS_len]; exact Nat.le_refl _))
  obtain ⟨j, _, rfl⟩ := List.mem_map.1 hr
  have := col_comb (reduceS S) C j hC2
  rw [hC1, hCl] at this
  rw [this]
  exact comb_spB _ _ _
/-- row rank and column rank -/
theorem rank_turn {S : List Nat} {d : Nat} (h : ∀ r ∈ S, r < 2 ^ d) (hd : d ≤ 60) (hl : S.length ≤ 60) : (reduceS (turnS S d)).length = (reduceS S).length := by
  refine Nat.le_antisymm (rank_turn_le h hd hl) ?_
  have := rank_turn_le (turn_lt S d) hl (by rw [turnS_len]; exact hd)
  rwa [turn_turn h] at this

/-! ### what the law FnRanks asks -/
theorem toN_nI (S : List Nat) : toN (nI S) = S := by simp [toN, nI, List.map_map, Function.comp_def]
theorem isMat_nI {c : Nat} {S : List Nat} (hc : c ≤ 60) (hl : S.length ≤ 200) (h : ∀ r ∈ S, r < 2 ^ c) : isMat c (nI S) = true := by
  unfold isMat
  have h1 : inB (c : Int) 0 60 = true := by simp [inB]; omega
  rw [h1, Bool.true_and, Bool.and_eq_true, List.all_eq_true]
  refine ⟨by simpa [nI] using hl, fun x hx => ?_⟩
  obtain ⟨r, hr, rfl⟩ := List.mem_map.1 hx
  exact mask_natD (h r hr)
theorem solv_law {c : Int} {xs : List Int} {v : Int} (h : (solvOf c xs v).2 = 0) : timesOf (solvOf c xs v).1 c xs = (v, 0) ∧ hasOf c xs v = (true, 0) := by
  unfold solvOf at h ⊢
  split at h
  · rename_i h0
    obtain ⟨hi, hl⟩ := fewOf_zero h0
    split at h
    · rename_i hm
      split at h
      · rename_i hz
        rw [if_pos h0, if_pos hm, if_pos hz]
        obtain ⟨d, rfl, hd⟩ := isMat_cols hi
        rw [Int.toNat_natCast] at hm
        obtain ⟨hv0, hvs⟩ := maskB_sm hd hm
        obtain ⟨u, rfl⟩ := Int.eq_ofNat_of_zero_le hv0
        rw [Int.toNat_natCast] at hvs hz ⊢
        have hS := isMat_sm hi
        have hlt := rows_lt hi
        have hul : u < 2 ^ 63 := hvs
        have hg := kerG_sol hS
        have hls := (least_spec (reduceS (kerK (toN xs) (toN xs).length)) (solL (toN xs) u).2).1
        rw [topsOf_sp, kerK_all, sp_reduce (hg.sm (by rw [toN_len]; omega)), hg.sp_iff] at hls
        have hsl := sol_lt (a := 63) (fun r hr => hS r hr) hul
        have e : lsolOf (toN xs) u = leftT (topsOf (reduceS (kerK (toN xs) (toN xs).length))) (solL (toN xs) u).2 := rfl
        rw [← kerK_all] at hls
        rw [← e] at hls
        have hx : lsolOf (toN xs) u < 2 ^ (toN xs).length := by
          have h3 := xr_lt hls.1 hsl
          rwa [xr_comm, ← xr_assoc, xr_self, zero_xr] at h3
        have hcm : comb (toN xs) 0 (lsolOf (toN xs) u) = u := by
          have h4 := hls.2
          rw [comb_xr, sol_comb u hz] at h4
          have h5 := congrArg (xr u) h4
          rwa [← xr_assoc, xr_self, zero_xr, xr_zero] at h5
        refine ⟨?_, has_in hi ((sol_iff hS u).1 hz)⟩
        unfold timesOf
        rw [if_pos hi, if_pos (by rw [mask_natD (by rwa [toN_len] at hx)]; simpa using hl), Int.toNat_natCast, hcm]
      · cases h
    · cases h
  · rename_i h0; exact absurd h h0
theorem turn_law {c : Int} {xs : List Int} (h : fewOf c xs = 0) : rankOf (xs.length : Int) (nI (turnS (toN xs) c.toNat)) = (((reduceS (toN xs)).length : Int), 0) := by
  obtain ⟨hi, hl⟩ := fewOf_zero h
  obtain ⟨d, rfl, hd⟩ := isMat_cols hi
  have hlt := rows_lt hi
  rw [Int.toNat_natCast] at hlt ⊢
  have hm : isMat (xs.length : Int) (nI (turnS (toN xs) d)) = true := isMat_nI hl (by rw [turnS_len]; omega) (fun r hr => by have := turn_lt (toN xs) d r hr; rwa [toN_len] at this)
  unfold rankOf
  rw [if_pos hm, toN_nI, rank_turn hlt hd (by rw [toN_len]; exact hl)]
theorem ker_law {c : Int} {xs : List Int} (h : fewOf c xs = 0) : (rankOf c xs).1 + ((kerOf c xs).2.1.length : Int) = xs.length ∧ ∀ z ∈ (kerOf c xs).2.1, timesOf (z : Int) c xs = (0, 0) := by
  obtain ⟨hi, hl⟩ := fewOf_zero h
  have hS := isMat_sm hi
  have hK : (kerOf c xs).2.1 = kerR (toN xs) := by
    unfold kerOf
    rw [if_pos h]
    exact kernel_both hS (by rw [toN_len]; omega)
  rw [hK]
  refine ⟨?_, fun z hz => ?_⟩
  · obtain ⟨k, hk, hD⟩ := rk_ker _ (toN xs) rfl (by rw [toN_len]; omega)
    have h1 := (dim_red (kerR_red hS (by rw [toN_len]; omega))).congr (Q := KerP (toN xs)) fun z => kerR_sp hS (by rw [toN_len]; omega) z
    rw [h1.unique hD]
    have h2 : rkS (toN xs) = (reduceS (toN xs)).length := rk_reduce hS
    unfold rankOf
    rw [if_pos hi]
    rw [h2, toN_len] at hk
    show ((reduceS (toN xs)).length : Int) + (k : Int) = _
    omega
  · obtain ⟨h1, h2⟩ := (kerR_sp hS (by rw [toN_len]; omega) z).1 (.mem hz)
    rw [toN_len] at h1
    unfold timesOf
    rw [if_pos hi, if_pos (by rw [mask_natD h1]; simpa using hl), Int.toNat_natCast, h2]
    rfl

def idn (n : Nat) : List Nat := (List.range n).map fun j => 2 ^ j
theorem idn_len (n : Nat) : (idn n).length = n := by simp [idn]
theorem idn_get {n j : Nat} (h : j < n) : (idn n).getD j 0 = 2 ^ j := by simp [idn, List.getD, h]
theorem par_one (f : Nat → Bool) (i : Nat) : ∀ m, par (fun k => f k && decide (k = i)) m = (decide (i < m) && f i)
  | 0 => by simp [par]
  | m + 1 => by
    rw [par, par_one f i m]
    by_cases h : m = i
    · subst h; simp
    · have : decide (i < m + 1) = decide (i < m) := by apply decide_eq_decide.2; omega
      rw [this]; simp [h]
theorem comb_idn {n y : Nat} (h : y < 2 ^ n) : comb (idn n) 0 y = y := by
  refine eq_of_tb fun i => ?_
  rw [tb_comb, idn_len, par_congr n (h := fun k => tb y k && decide (k = i)) (fun k hk => by rw [idn_get hk, tb_pow]), par_one]
  by_cases hi : i < n
  · simp [hi]
  · rw [tb_of_lt h (by omega)]; simp
theorem inv_law {c : Int} {xs : List Int} (h : (invOf c xs).2.2 = 0) : (invOf c xs).1 = c ∧ mulOf (invOf c xs).1 (nI (invOf c xs).2.1) c xs = (c, idn xs.length, 0) ∧ mulOf c xs (invOf c xs).1 (nI (invOf c xs).2.1) = (c, idn xs.length, 0) := by
  unfold invOf at h ⊢
  split at h
  · rename_i hi
    split at h
    · rename_i hc
      split at h
      · rename_i hs
        subst hc
        rw [if_pos hi, if_pos rfl, if_pos hs]
        have hq := isMat_sq hi rfl
        have hf := hq.sol.1 hs
        have hlt := rows_lt hi
        rw [Int.toNat_natCast] at hlt
        have hn : (toN xs).length = xs.length := toN_len xs
        have h60 : xs.length ≤ 60 := by obtain ⟨d, hd, h6⟩ := isMat_cols hi; omega
        refine ⟨rfl, ?_, ?_⟩
        all_goals
          have hIlt : ∀ r ∈ (List.range xs.length).map (fun j => (solL (toN xs) (2 ^ j)).2), r < 2 ^ xs.length := fun r hr => by
            obtain ⟨j, hj, rfl⟩ := List.mem_map.1 hr
            have := sol_lt (a := xs.length) hlt (Nat.pow_lt_pow_right (by omega) (List.mem_range.1 hj))
            rwa [hn] at this
          have hIm : isMat (xs.length : Int) (nI ((List.range xs.length).map fun j => (solL (toN xs) (2 ^ j)).2)) = true := isMat_nI h60 (by simp; omega) hIlt
          have hIc : ((List.range xs.length).map (fun j => (solL (toN xs) (2 ^ j)).2)).map (comb (toN xs) 0) = idn xs.length := by
            rw [List.map_map]
            exact List.map_congr_left fun j hj => sol_comb _ (hs j (List.mem_range.1 hj))
          have hIl : ((List.range xs.length).map (fun j => (solL (toN xs) (2 ^ j)).2)).length = xs.length := by simp
          generalize (List.range xs.length).map (fun j => (solL (toN xs) (2 ^ j)).2) = I at *
          unfold mulOf
          dsimp only
        · rw [if_pos (by rw [hIm, hi]; rfl), if_pos rfl, toN_nI, hIc]
        · rw [if_pos (by rw [hIm, hi]; rfl), if_pos (by simp [nI, hIl]), toN_nI]
          congr 2
          refine List.ext_getElem (by simp [idn, hn]) fun i h1 h2 => ?_
          have hil : i < (toN xs).length := by simpa using h1
          have e1 : ((toN xs).map (comb I 0))[i] = comb I 0 ((toN xs).getD i 0) := by simp [List.getD, hil]
          have e2 : (idn xs.length)[i] = 2 ^ i := by simp [idn]
          rw [e1, e2]
          have hy : (toN xs).getD i 0 < 2 ^ xs.length := hlt _ (getD_mem hil)
          have h3 : comb (toN xs) 0 (comb I 0 ((toN xs).getD i 0)) = (toN xs).getD i 0 := by rw [comb_mapB, hIc, comb_idn hy]
          have h4 : comb (toN xs) 0 (2 ^ i) = (toN xs).getD i 0 := by have := comb_pow (toN xs) 0 i; rwa [Nat.zero_add] at this
          have h5 : comb (toN xs) 0 (xr (comb I 0 ((toN xs).getD i 0)) (2 ^ i)) = 0 := by rw [comb_xr, h3, h4, xr_self]
          have hsp := comb_spB I 0 ((toN xs).getD i 0)
          have h6 := hq.inj hf _ (xr_lt (sp_ltD hIlt hsp) (Nat.pow_lt_pow_right (by omega) (by omega))) h5
          have h7 : xr (xr (comb I 0 ((toN xs).getD i 0)) (2 ^ i)) (2 ^ i) = xr 0 (2 ^ i) := by rw [h6]
          rwa [xr_assoc, xr_self, xr_zero, zero_xr] at h7
      · cases h
    · cases h
  · cases h
theorem inv_len {c : Int} {xs : List Int} (h : (invOf c xs).2.2 = 0) : xs.length ≤ 60 := by
  unfold invOf at h
  split at h
  · rename_i hi
    split at h
    · rename_i hc
      obtain ⟨d, hd, h6⟩ := isMat_cols hi
      omega
    · cases h
  · cases h
theorem ker_few (c : Int) (xs : List Int) : (kerOf c xs).2.2 = fewOf c xs := by
  unfold kerOf
  split
  · rename_i h; exact h.symm
  · rfl
theorem ker_none {c : Int} {xs : List Int} (h : (kerOf c xs).2.2 ≠ 0) : (kerOf c xs).2.1 = [] := by
  rw [ker_few] at h
  unfold kerOf
  rw [if_neg h]
theorem rank_nat (c : Int) (xs : List Int) : ∃ ra : Nat, (rankOf c xs).1 = (ra : Int) := by
  unfold rankOf
  split
  · exact ⟨_, rfl⟩
  · exact ⟨0, rfl⟩
theorem rank_red {c : Int} {xs : List Int} (h : fewOf c xs = 0) : (((reduceS (toN xs)).length : Nat) : Int) = (rankOf c xs).1 := by
  unfold rankOf
  rw [if_pos (fewOf_zero h).1]
theorem turn_val {c : Int} {xs : List Int} (h : fewOf c xs = 0) : turnOf c xs = ((xs.length : Int), turnS (toN xs) c.toNat, 0) ∧ (turnS (toN xs) c.toNat).length ≤ 60 := by
  refine ⟨by unfold turnOf; rw [if_pos h], ?_⟩
  obtain ⟨hi, _⟩ := fewOf_zero h
  obtain ⟨d, rfl, hd⟩ := isMat_cols hi
  rw [turnS_len]
  exact hd
end Go.Proofs.YtjhlmalpcelbaaaDoor

namespace Go.Proofs.YtjhlmalpcelbaaaDoor
open Go.RowKit

theorem shl_i {i : Nat} (h : i ≤ 60) : IntKind.i64.wrap ((2 : Int) ^ i) = ((2 ^ i : Nat) : Int) := by
  have h1 := shl_one h
  unfold wrap64 at h1
  rw [IntKind.wrap_i64]
  generalize (2 : Int) ^ i = z at *
  generalize (((2 : Nat) ^ i : Nat) : Int) = y at *
  omega
theorem rankOf_bound (c : Int) (xs : List Int) : 0 ≤ (rankOf c xs).1 ∧ (rankOf c xs).1 ≤ 200 := by
  unfold rankOf
  split
  · rename_i h
    have h1 := reduce_le (toN xs) (isMat_sm h)
    have h2 := isMat_len h
    rw [toN_len] at h1
    exact ⟨by show (0 : Int) ≤ ((reduceS (toN xs)).length : Int); omega, by show ((reduceS (toN xs)).length : Int) ≤ 200; omega⟩
  · exact ⟨by simp, by simp⟩

set_option maxRecDepth 100000 in
set_option maxHeartbeats 16000000 in
theorem lawRanks_any (A : Option Addr) (n c : Nat) (bs : List Nat) (w : World) (hT : Tab w) (hw : 0 < w.heap.size) (hn : n = bs.length) (hby : ∀ b ∈ bs, b < 256) (hR : Rd w A (bv bs)) (hlt : ∀ a, A = some a → a.block < w.heap.size) :
    Calls Tryd.prog 5 #[.slice A n c] w fun e w' => e = .returned (.bool true) ∧ Below w.heap.size w w' := by
  have HG := fun W => big_any A n c W
  by_cases hbig : 4096 < n
  · rw [show decide (4096 < n) = true by simpa using hbig] at HG
    clear hT hn hby hR hlt hbig
    go_enter Tryd.func5, Tryd.ntmps5
    go_wp2_with fail
    refine (HG _).mono ?_
    rintro e w1 ⟨rfl, rfl⟩
    go_wp2_with fail
    go_ret
    exact ⟨rfl, Below.refl _ _⟩
  · rw [show decide (4096 < n) = false by simpa using hbig] at HG
    have hsm : n ≤ 4096 := by omega
    have HT := Lib.hid hT
    have Hn := Lib.hid hn
    have HBY := Lib.hid hby
    have HRc := Lib.hid hR
    have HLT := Lib.hid hlt
    have I0 := Lib.hid (Inv.start w)
    clear hT hn hby hR hlt hbig
    go_enter Tryd.func5, Tryd.ntmps5
    go_wp2_with fail
    refine (HG _).mono ?_
    rintro e w0 ⟨rfl, rfl⟩
    clear HG
    have HC := Lib.hid (drawKer_any A n c bs _ Hn.out hsm HBY.out (HRc.out.below I0.out.bel) (fun a ha => Nat.lt_of_lt_of_le (HLT.out a ha) I0.out.size))
    go_wp2_with fail
    refine HC.out.mono ?_
    rintro e w2 ⟨c1, A1, k1, xs, rfl, ho, hl1, hb⟩
    have I1 := Lib.hid ((I0.out.pushOwn hb ho rfl).allocBox #[.int .i64 c1, .slice A1 xs.length k1] 26 rfl)
    clear ho hb HC
    obtain ⟨rk, HRK⟩ : ∃ rk, Hid (rankOf c1 xs = rk) := ⟨_, Lib.hid rfl⟩
    obtain ⟨kk, HKK⟩ : ∃ kk, Hid (kerOf c1 xs = kk) := ⟨_, Lib.hid rfl⟩
    have hlk : kk.2.1.length ≤ 1000 := by rw [← HKK.out]; exact kerOf_len _ _
    obtain ⟨a0, a1, _, _, _⟩ := blk2cells (I1.out.box 0 rfl)
    have HC := Lib.hid (implRank_any c1 A1 xs.length k1 xs _ (HT.out.below I1.out.bel hw) (Nat.lt_of_lt_of_le hw I1.out.size) rfl (by omega) (owns_Rd (I1.out.own 1 rfl)))
    rw [HRK.out] at HC
    try dsimp only at HC
    go_wp2_with fail
    refine HC.out.mono ?_
    rintro e w3 ⟨rfl, hb⟩
    have I2 := Lib.hid (I1.out.step hb)
    clear hb HC
    clear a0 a1
    obtain ⟨a0, a1, _, _, _⟩ := blk2cells (I2.out.box 0 rfl)
    have HC := Lib.hid (specRank_any c1 A1 xs.length k1 xs _ rfl (by omega) (owns_Rd (I2.out.own 1 rfl)))
    rw [HRK.out] at HC
    try dsimp only at HC
    go_wp2_with fail
    refine HC.out.mono ?_
    rintro e w4 ⟨rfl, hb⟩
    have I3 := Lib.hid (I2.out.step hb)
    clear hb HC
    clear a0 a1
    obtain ⟨a0, a1, _, _, _⟩ := blk2cells (I3.out.box 0 rfl)
    have HC := Lib.hid (implKer_any c1 A1 xs.length k1 xs _ (HT.out.below I3.out.bel hw) (Nat.lt_of_lt_of_le hw I3.out.size) rfl (by omega) (owns_Rd (I3.out.own 1 rfl)))
    rw [HKK.out] at HC
    try dsimp only at HC
    go_wp2_with fail
    refine HC.out.mono ?_
    rintro e w5 ⟨v, rfl, ho, hb⟩
    obtain ⟨A8, k8, rfl, _, _, _⟩ := owns_shape ho
    have I4 := Lib.hid ((I3.out.pushOwn hb ho rfl).allocBox #[.int .i64 kk.1, .slice A8 kk.2.1.length k8] 26 rfl)
    clear ho hb HC
    clear a0 a1
    obtain ⟨a0, a1, _, _, _⟩ := blk2cells (I4.out.box 2 rfl)
    have HC := Lib.hid (specKer_any c1 A1 xs.length k1 xs _ rfl (by omega) (owns_Rd (I4.out.own 3 rfl)))
    rw [HKK.out] at HC
    try dsimp only at HC
    go_wp2_with fail
    refine HC.out.mono ?_
    rintro e w6 ⟨v, rfl, ho, hb⟩
    obtain ⟨A10, k10, rfl, _, _, _⟩ := owns_shape ho
    have I5 := Lib.hid ((I4.out.pushOwn hb ho rfl).allocBox #[.int .i64 kk.1, .slice A10 kk.2.1.length k10] 26 rfl)
    clear ho hb HC
    clear a0 a1
    obtain ⟨a0, a1, _, _, _⟩ := blk2cells (I5.out.box 2 rfl)
    obtain ⟨b0, b1, _, _, _⟩ := blk2cells (I5.out.box 0 rfl)
    have HC := Lib.hid (matrix9_same kk.1 A8 A10 k8 k10 kk.2.1 _ (by omega) (owns_Rd (I5.out.own 3 rfl)) (owns_Rd (I5.out.own 1 rfl)))
    go_wp2_with fail
    refine HC.out.mono ?_
    rintro e w7 ⟨rfl, hb⟩
    have I6 := Lib.hid (I5.out.step hb)
    clear hb HC
    clear a0 a1 b0 b1
    have HC := Lib.hid (drawSolve_any A n c bs _ Hn.out hsm HBY.out (HRc.out.below I6.out.bel) (fun a ha => Nat.lt_of_lt_of_le (HLT.out a ha) I6.out.size))
    go_wp2_with fail
    refine HC.out.mono ?_
    rintro e w8 ⟨c2, A2, k2, ys, v, rfl, ho, hl2, hb⟩
    have I7 := Lib.hid ((I6.out.pushOwn hb ho rfl).allocBox #[.int .i64 c2, .slice A2 ys.length k2] 26 rfl)
    clear ho hb HC
    obtain ⟨sv, HSV⟩ : ∃ sv, Hid (solvOf c2 ys v = sv) := ⟨_, Lib.hid rfl⟩
    obtain ⟨hv, HHV⟩ : ∃ hv, Hid (hasOf c2 ys v = hv) := ⟨_, Lib.hid rfl⟩
    obtain ⟨a0, a1, _, _, _⟩ := blk2cells (I7.out.box 0 rfl)
    have HC := Lib.hid (implSolv_any c2 A2 ys.length k2 ys v _ (HT.out.below I7.out.bel hw) (Nat.lt_of_lt_of_le hw I7.out.size) rfl (by omega) (owns_Rd (I7.out.own 1 rfl)))
    rw [HSV.out] at HC
    try dsimp only at HC
    go_wp2_with fail
    refine HC.out.mono ?_
    rintro e w9 ⟨rfl, hb⟩
    have I8 := Lib.hid (I7.out.step hb)
    clear hb HC
    clear a0 a1
    obtain ⟨a0, a1, _, _, _⟩ := blk2cells (I8.out.box 0 rfl)
    have HC := Lib.hid (specSolv_any c2 A2 ys.length k2 ys v _ rfl (by omega) (owns_Rd (I8.out.own 1 rfl)))
    rw [HSV.out] at HC
    try dsimp only at HC
    go_wp2_with fail
    refine HC.out.mono ?_
    rintro e w10 ⟨rfl, hb⟩
    have I9 := Lib.hid (I8.out.step hb)
    clear hb HC
    clear a0 a1
    obtain ⟨a0, a1, _, _, _⟩ := blk2cells (I9.out.box 0 rfl)
    have HC := Lib.hid (implHas_any c2 A2 ys.length k2 ys v _ (HT.out.below I9.out.bel hw) (Nat.lt_of_lt_of_le hw I9.out.size) rfl (by omega) (owns_Rd (I9.out.own 1 rfl)))
    rw [HHV.out] at HC
    try dsimp only at HC
    go_wp2_with fail
    refine HC.out.mono ?_
    rintro e w11 ⟨rfl, hb⟩
    have I10 := Lib.hid (I9.out.step hb)
    clear hb HC
    clear a0 a1
    obtain ⟨a0, a1, _, _, _⟩ := blk2cells (I10.out.box 0 rfl)
    have HC := Lib.hid (specHas_any c2 A2 ys.length k2 ys v _ rfl (by omega) (owns_Rd (I10.out.own 1 rfl)))
    rw [HHV.out] at HC
    try dsimp only at HC
    go_wp2_with fail
    refine HC.out.mono ?_
    rintro e w12 ⟨rfl, hb⟩
    have I11 := Lib.hid (I10.out.step hb)
    clear hb HC
    clear a0 a1
    go_upto_if 128 with (fail)
    go_cut [15, 17, 18, 19, 20, 21, 22, 23] (fun _ _ _ _ _ _ _ _ wx => Below w12.heap.size w12 wx)
    case first =>
      by_cases hs : sv.2 = 0
      · have hlaw := solv_law (show (solvOf c2 ys v).2 = 0 by rw [HSV.out]; exact hs)
        rw [HSV.out, HHV.out] at hlaw
        obtain ⟨hl3, hl4⟩ := hlaw
        have e1 : hv.1 = true := by rw [hl4]
        have e2 : hv.2 = 0 := by rw [hl4]
        rw [hs, e1, e2]
        clear hs e1 e2 hl4
        obtain ⟨a0, a1, _, _, _⟩ := blk2cells (I11.out.box 0 rfl)
        have HC := Lib.hid (implTimes_any sv.1 c2 A2 ys.length k2 ys _ rfl (by omega) (owns_Rd (I11.out.own 1 rfl)))
        rw [hl3] at HC
        try dsimp only at HC
        go_wp2_with fail
        refine HC.out.mono ?_
        clear hl3
        have J0 := Lib.hid (Below.refl w12.heap.size w12)
        rintro e w13 ⟨rfl, hb⟩
        have I12 := Lib.hid (I11.out.step hb)
        have J1 := Lib.hid (J0.out.trans (hb.mono J0.out.size))
        clear hb HC
        clear a0 a1
        go_wp2_with fail
        go_meet
        exact J1.out
      · have hsb : (sv.2 == 0) = false := by simpa using hs
        clear hs
        go_wp2_with fail
        go_meet
        exact Below.refl _ _
    case rest =>
    have I12 := Lib.hid (I11.out.step hcut)
    clear hcut
    generalize wc = w13 at *
    have HC := Lib.hid (drawInv_any A n c bs _ Hn.out hsm HBY.out (HRc.out.below I12.out.bel) (fun a ha => Nat.lt_of_lt_of_le (HLT.out a ha) I12.out.size))
    go_wp2_with fail
    refine HC.out.mono ?_
    rintro e w14 ⟨c3, A3, k3, zs, rfl, ho, hl3, hb⟩
    have I13 := Lib.hid ((I12.out.pushOwn hb ho rfl).allocBox #[.int .i64 c3, .slice A3 zs.length k3] 26 rfl)
    clear ho hb HC
    obtain ⟨iq, HIV⟩ : ∃ iq, Hid (invOf c3 zs = iq) := ⟨_, Lib.hid rfl⟩
    have hli : iq.2.1.length ≤ 1000 := by rw [← HIV.out]; exact invOf_len _ _
    obtain ⟨a0, a1, _, _, _⟩ := blk2cells (I13.out.box 0 rfl)
    have HC := Lib.hid (implInv_any c3 A3 zs.length k3 zs _ (HT.out.below I13.out.bel hw) (Nat.lt_of_lt_of_le hw I13.out.size) rfl (by omega) (owns_Rd (I13.out.own 1 rfl)))
    rw [HIV.out] at HC
    try dsimp only at HC
    go_wp2_with fail
    refine HC.out.mono ?_
    rintro e w15 ⟨v, rfl, ho, hb⟩
    obtain ⟨A25, k25, rfl, _, _, _⟩ := owns_shape ho
    have I14 := Lib.hid ((I13.out.pushOwn hb ho rfl).allocBox #[.int .i64 iq.1, .slice A25 iq.2.1.length k25] 26 rfl)
    clear ho hb HC
    clear a0 a1
    obtain ⟨a0, a1, _, _, _⟩ := blk2cells (I14.out.box 2 rfl)
    have HC := Lib.hid (specInv_any c3 A3 zs.length k3 zs _ rfl (by omega) (owns_Rd (I14.out.own 3 rfl)))
    rw [HIV.out] at HC
    try dsimp only at HC
    go_wp2_with fail
    refine HC.out.mono ?_
    rintro e w16 ⟨v, rfl, ho, hb⟩
    obtain ⟨A27, k27, rfl, _, _, _⟩ := owns_shape ho
    have I15 := Lib.hid ((I14.out.pushOwn hb ho rfl).allocBox #[.int .i64 iq.1, .slice A27 iq.2.1.length k27] 26 rfl)
    clear ho hb HC
    clear a0 a1
    obtain ⟨a0, a1, _, _, _⟩ := blk2cells (I15.out.box 2 rfl)
    obtain ⟨b0, b1, _, _, _⟩ := blk2cells (I15.out.box 0 rfl)
    have HC := Lib.hid (matrix9_same iq.1 A25 A27 k25 k27 iq.2.1 _ (by omega) (owns_Rd (I15.out.own 3 rfl)) (owns_Rd (I15.out.own 1 rfl)))
    go_wp2_with fail
    refine HC.out.mono ?_
    rintro e w17 ⟨rfl, hb⟩
    have I16 := Lib.hid (I15.out.step hb)
    clear hb HC
    clear a0 a1 b0 b1
    go_upto_if 168 with (fail)
    go_cut [26, 28, 29, 30, 31, 32, 33] (fun _ _ _ _ _ _ _ wx => Below w17.heap.size w17 wx)
    case first =>
      by_cases hs : iq.2.2 = 0
      · have hlaw := inv_law (show (invOf c3 zs).2.2 = 0 by rw [HIV.out]; exact hs)
        have J0 := Lib.hid (Below.refl w17.heap.size w17)
        rw [HIV.out] at hlaw
        replace hlaw := hlaw.2
        obtain ⟨hq2, hq3⟩ := hlaw
        have HQ2 := Lib.hid hq2
        have HQ3 := Lib.hid hq3
        clear hq2 hq3
        have hz60 : zs.length ≤ 60 := inv_len (show (invOf c3 zs).2.2 = 0 by rw [HIV.out]; exact hs)
        rw [hs]
        clear hs
        obtain ⟨a0, a1, _, _, _⟩ := blk2cells (I16.out.box 4 rfl)
        obtain ⟨b0, b1, _, _, _⟩ := blk2cells (I16.out.box 2 rfl)
        have HC := Lib.hid (implMul_any iq.1 c3 A25 A3 iq.2.1.length zs.length k25 k3 (nI iq.2.1) zs _ (nI_length _).symm rfl (by omega) (by omega) (by rw [← nv_nI]; exact owns_Rd (I16.out.own 3 rfl)) (owns_Rd (I16.out.own 5 rfl)))
        rw [HQ2.out] at HC
        try dsimp only at HC
        go_wp2_with fail
        refine HC.out.mono ?_
        rintro e w18 ⟨v, rfl, ho, hb⟩
        obtain ⟨A29, k29, rfl, _, _, _⟩ := owns_shape ho
        have I17 := Lib.hid ((I16.out.pushOwn hb ho rfl).allocBox #[.int .i64 c3, .slice A29 (idn zs.length).length k29] 26 rfl)
        have J1 := Lib.hid ((J0.out.trans (hb.mono J0.out.size)).alloc (J0.out.trans (hb.mono J0.out.size)).size (.cells #[.int .i64 c3, .slice A29 (idn zs.length).length k29] 26))
        clear ho hb HC
        clear a0 a1 b0 b1
        obtain ⟨a0, a1, _, _, _⟩ := blk2cells (I17.out.box 6 rfl)
        obtain ⟨b0, b1, _, _, _⟩ := blk2cells (I17.out.box 4 rfl)
        have HC := Lib.hid (implMul_any c3 iq.1 A3 A25 zs.length iq.2.1.length k3 k25 zs (nI iq.2.1) _ rfl (nI_length _).symm (by omega) (by omega) (owns_Rd (I17.out.own 7 rfl)) (by rw [← nv_nI]; exact owns_Rd (I17.out.own 5 rfl)))
        rw [HQ3.out] at HC
        try dsimp only at HC
        go_wp2_with fail
        refine HC.out.mono ?_
        rintro e w19 ⟨v, rfl, ho, hb⟩
        obtain ⟨A31, k31, rfl, _, _, _⟩ := owns_shape ho
        have I18 := Lib.hid ((I17.out.pushOwn hb ho rfl).allocBox #[.int .i64 c3, .slice A31 (idn zs.length).length k31] 26 rfl)
        have J2 := Lib.hid ((J1.out.trans (hb.mono J1.out.size)).alloc (J1.out.trans (hb.mono J1.out.size)).size (.cells #[.int .i64 c3, .slice A31 (idn zs.length).length k31] 26))
        clear ho hb HC
        clear a0 a1 b0 b1
        obtain ⟨a0, a1, _, _, _⟩ := blk2cells (I18.out.box 2 rfl)
        obtain ⟨b0, b1, _, _, _⟩ := blk2cells (I18.out.box 0 rfl)
        have HID : Hid ((idn zs.length).length = zs.length) := Lib.hid (idn_len _)
        have HC := Lib.hid (matrix9_same c3 A29 A31 k29 k31 (idn zs.length) _ (by have := HID.out; omega) (owns_Rd (I18.out.own 3 rfl)) (owns_Rd (I18.out.own 1 rfl)))
        go_wp2_with fail
        refine HC.out.mono ?_
        rintro e w20 ⟨rfl, hb⟩
        have I19 := Lib.hid (I18.out.step hb)
        have J3 := Lib.hid (J2.out.trans (hb.mono J2.out.size))
        clear hb HC
        clear a0 a1 b0 b1
        obtain ⟨a0, a1, _, _, _⟩ := blk2cells (I19.out.box 2 rfl)
        go_wp2_with fail
        go_loopw [33] (fun i wr => ∃ k : Nat, k ≤ (idn zs.length).length ∧ i = .int .i64 k ∧ Below w20.heap.size w20 wr) (fun i _ => (idn zs.length).length - (intOf i).toNat)
        case atStart => exact ⟨0, by omega, rfl, Below.refl _ _⟩
        case round =>
          obtain ⟨k, hk, rfl, hbr⟩ := hrel
          have IR := Lib.hid (I19.out.step hbr)
          have HBR := Lib.hid hbr
          clear hbr
          clear a0 a1
          obtain ⟨a0, a1, _, _, _⟩ := blk2cells (IR.out.box 2 rfl)
          by_cases hlt : k < (idn zs.length).length
          · have hlti : (k : Int) < ((idn zs.length).length : Int) := by omega
            obtain ⟨mb, mo, rfl, hmc⟩ := (owns_Rd (IR.out.own 3 rfl)).atN hlt
            rw [idn_get (by have := HID.out; omega)] at hmc
            have hk60 : k ≤ 60 := by have := HID.out; omega
            have hmin : min k 64 = k := by omega
            have hsh := shl_i hk60
            go_wp2_with fail
            go_roundw
            case rel => exact ⟨k + 1, by omega, by go_num, HBR.out⟩
            case measure => simp [intOf]; omega
          · have hlti : ¬ (k : Int) < ((idn zs.length).length : Int) := by omega
            go_wp2_with fail
            go_meet
            exact J3.out.trans (HBR.out.mono J3.out.size)
      · have hsb : (iq.2.2 == 0) = false := by simpa using hs
        clear hs
        go_wp2_with fail
        go_meet
        exact Below.refl _ _
    case rest =>
    have I17 := Lib.hid (I16.out.step hcut)
    clear hcut
    generalize wc = w18 at *
    by_cases h2 : kk.2.2 = 0
    · have hf : fewOf c1 xs = 0 := by rw [← ker_few, HKK.out]; exact h2
      have hkl := ker_law hf
      rw [HKK.out] at hkl
      have htl := turn_law hf
      rw [rank_red hf, HRK.out] at htl
      rw [HRK.out] at hkl
      have htv := turn_val hf
      obtain ⟨T, hT⟩ : ∃ T, turnS (toN xs) c1.toNat = T := ⟨_, rfl⟩
      rw [hT] at htl htv
      have HTL := Lib.hid htl
      have HTV := Lib.hid htv.1
      have hT60 := htv.2
      obtain ⟨ra, hra⟩ : ∃ ra : Nat, rk.1 = (ra : Int) := by rw [← HRK.out]; exact rank_nat _ _
      have hrk1 := hkl.1
      have HZ := Lib.hid hkl.2
      rw [hra] at hrk1 HTL
      rw [h2, hra]
      clear hkl htl htv hT hf h2 hra HRK HKK HSV HHV HIV
      obtain ⟨a0, a1, _, _, _⟩ := blk2cells (I17.out.box 12 rfl)
      have HC := Lib.hid (implTurn_any c1 A1 xs.length k1 xs _ rfl (by omega) (owns_Rd (I17.out.own 13 rfl)))
      rw [HTV.out] at HC
      try dsimp only at HC
      go_wp2_with fail
      refine HC.out.mono ?_
      rintro e w19 ⟨v, rfl, ho, hb⟩
      obtain ⟨A34, k34, rfl, _, _, _⟩ := owns_shape ho
      have I18 := Lib.hid ((I17.out.pushOwn hb ho rfl).allocBox #[.int .i64 (xs.length : Nat), .slice A34 T.length k34] 26 rfl)
      clear ho hb HC
      clear a0 a1
      obtain ⟨a0, a1, _, _, _⟩ := blk2cells (I18.out.box 0 rfl)
      have HC := Lib.hid (implRank_any (xs.length : Nat) A34 T.length k34 (nI T) _ (HT.out.below I18.out.bel hw) (Nat.lt_of_lt_of_le hw I18.out.size) (nI_length _).symm (by omega) (by rw [← nv_nI]; exact owns_Rd (I18.out.own 1 rfl)))
      rw [HTL.out] at HC
      try dsimp only at HC
      go_wp2_with fail
      refine HC.out.mono ?_
      rintro e w20 ⟨rfl, hb⟩
      have I19 := Lib.hid (I18.out.step hb)
      clear hb HC
      clear a0 a1
      obtain ⟨a0, a1, _, _, _⟩ := blk2cells (I19.out.box 12 rfl)
      obtain ⟨b0, b1, _, _, _⟩ := blk2cells (I19.out.box 14 rfl)
      go_wp2_with fail
      go_loopw [38] (fun i wr => ∃ k : Nat, k ≤ kk.2.1.length ∧ i = .int .i64 k ∧ Below w20.heap.size w20 wr) (fun i _ => kk.2.1.length - (intOf i).toNat)
      case atStart => exact ⟨0, by omega, rfl, Below.refl _ _⟩
      case round =>
        obtain ⟨k, hk, rfl, hbr⟩ := hrel
        have IR := Lib.hid (I19.out.step hbr)
        have HBR := Lib.hid hbr
        clear hbr a0 a1 b0 b1
        obtain ⟨m0, m1, _, _, _⟩ := blk2cells (IR.out.box 12 rfl)
        by_cases hlt : k < kk.2.1.length
        · have hlti : (k : Int) < (kk.2.1.length : Int) := by omega
          obtain ⟨mb, mo, rfl, hmc⟩ := (owns_Rd (IR.out.own 13 rfl)).atN hlt
          have HZK : Hid (timesOf ((kk.2.1.getD k 0 : Nat) : Int) c1 xs = (0, 0)) := Lib.hid (HZ.out _ (getD_mem hlt))
          generalize kk.2.1.getD k 0 = z at *
          obtain ⟨a0, a1, _, _, _⟩ := blk2cells (IR.out.box 14 rfl)
          have KS : Hid (∀ w', Below wr.drew.heap.size wr.drew w' → (w'.cell? ⟨w2.heap.size, 0, none⟩ = some (.int .i64 c1) ∧ w'.cell? ⟨w2.heap.size, 1, none⟩ = some (.slice A1 xs.length k1)) ∧ (w'.cell? ⟨w5.heap.size, 1, none⟩ = some (.slice (some ⟨mb, mo, none⟩) kk.2.1.length k8) ∧ w'.cell? ⟨mb, mo + k, none⟩ = some (.int .i64 (z : Int)))) := Lib.hid fun w' hb => ⟨⟨cell_keepD (w := wr.drew) a0 hb, cell_keepD (w := wr.drew) a1 hb⟩, ⟨cell_keepD (w := wr.drew) m1 hb, cell_keepD (w := wr.drew) hmc hb⟩⟩
          have HCT := Lib.hid (implTimes_any z c1 A1 xs.length k1 xs wr.drew rfl (by omega) (owns_Rd (IR.out.drew.own 15 rfl)))
          rw [HZK.out] at HCT
          dsimp only at HCT
          go_wp2_with fail
          refine wp_region_held_drew (S := (fun w' => (w'.cell? ⟨w2.heap.size, 0, none⟩ = some (.int .i64 c1) ∧ w'.cell? ⟨w2.heap.size, 1, none⟩ = some (.slice A1 xs.length k1)) ∧ (w'.cell? ⟨w5.heap.size, 1, none⟩ = some (.slice (some ⟨mb, mo, none⟩) kk.2.1.length k8) ∧ w'.cell? ⟨mb, mo + k, none⟩ = some (.int .i64 (z : Int))))) (by kernel_rfl) (by (first | exact KS.out _ (Below.refl _ _) | exact KS.out _ HBH.out)) (fun hHeld => ?_)
          refine wpAnyH_take (i := 0) (oi := ?oim1_1) (v := ?vm1_1) ?hm1_1 (by kernel_rfl) (by kernel_rfl) (by kernel_rfl) ?qm1_1 (Or.inl ⟨?wm1_1, ?ym1_1⟩) (by assumption) ?rm1_1
          case hm1_1 => (simp only [List.getElem?_toArray, List.getElem?_cons_succ, List.getElem?_cons_zero]; rfl)
          case qm1_1 => exact fun _ _ _ h => h
          case wm1_1 => rfl
          case ym1_1 => (intro w hSw; (try dsimp only at hSw); go_simp <;> with_reducible rfl)
          try simp only [Act.put, List.setIfInBounds_toArray, List.set_cons_zero, List.set_cons_succ]
          refine wpAnyH_take (i := 1) (oi := ?oim1_2) (v := ?vm1_2) ?hm1_2 (by kernel_rfl) (by kernel_rfl) (by kernel_rfl) ?qm1_2 (Or.inl ⟨?wm1_2, ?ym1_2⟩) (by assumption) ?rm1_2
          case hm1_2 => (simp only [List.getElem?_toArray, List.getElem?_cons_succ, List.getElem?_cons_zero]; rfl)
          case qm1_2 => exact fun _ _ _ h => h
          case wm1_2 => rfl
          case ym1_2 => (intro w hSw; (try dsimp only at hSw); go_simp <;> with_reducible rfl)
          try simp only [Act.put, List.setIfInBounds_toArray, List.set_cons_zero, List.set_cons_succ]
          refine wpAnyH_take (i := 2) (oi := ?oim1_3) (v := ?vm1_3) ?hm1_3 (by kernel_rfl) (by kernel_rfl) (by kernel_rfl) ?qm1_3 (Or.inl ⟨?wm1_3, ?ym1_3⟩) (by assumption) ?rm1_3
          case hm1_3 => (simp only [List.getElem?_toArray, List.getElem?_cons_succ, List.getElem?_cons_zero]; rfl)
          case qm1_3 => exact fun _ _ _ h => h
          case wm1_3 => rfl
          case ym1_3 => (intro w hSw; (try dsimp only at hSw); go_simp <;> with_reducible rfl)
          try simp only [Act.put, List.setIfInBounds_toArray, List.set_cons_zero, List.set_cons_succ]
          refine wpAnyH_take (i := 3) (oi := ?oim1_4) (v := ?vm1_4) ?hm1_4 (by kernel_rfl) (by kernel_rfl) (by kernel_rfl) ?qm1_4 (Or.inl ⟨?wm1_4, ?ym1_4⟩) (by assumption) ?rm1_4
          case hm1_4 => (simp only [List.getElem?_toArray, List.getElem?_cons_succ, List.getElem?_cons_zero]; rfl)
          case qm1_4 => exact fun _ _ _ h => h
          case wm1_4 => rfl
          case ym1_4 => (intro w hSw; (try dsimp only at hSw); go_simp <;> with_reducible rfl)
          try simp only [Act.put, List.setIfInBounds_toArray, List.set_cons_zero, List.set_cons_succ]
          refine wpAnyH_take (i := 4) (oi := ?oim1_5) (v := ?vm1_5) ?hm1_5 (by kernel_rfl) (by kernel_rfl) (by kernel_rfl) ?qm1_5 (Or.inl ⟨?wm1_5, ?ym1_5⟩) (by assumption) ?rm1_5
          case hm1_5 => (simp only [List.getElem?_toArray, List.getElem?_cons_succ, List.getElem?_cons_zero]; rfl)
          case qm1_5 => exact fun _ _ _ h => h
          case wm1_5 => rfl
          case ym1_5 => (intro w hSw; (try dsimp only at hSw); go_simp <;> with_reducible rfl)
          try simp only [Act.put, List.setIfInBounds_toArray, List.set_cons_zero, List.set_cons_succ]
          refine wpAnyH_take (i := 5) (oi := ?oim1_6) (v := ?vm1_6) ?hm1_6 (by kernel_rfl) (by kernel_rfl) (by kernel_rfl) ?qm1_6 (Or.inl ⟨?wm1_6, ?ym1_6⟩) (by assumption) ?rm1_6
          case hm1_6 => (simp only [List.getElem?_toArray, List.getElem?_cons_succ, List.getElem?_cons_zero]; rfl)
          case qm1_6 => exact fun _ _ _ h => h
          case wm1_6 => rfl
          case ym1_6 => (intro w hSw; (try dsimp only at hSw); go_simp <;> with_reducible rfl)
          try simp only [Act.put, List.setIfInBounds_toArray, List.set_cons_zero, List.set_cons_succ]
          refine wpAnyH_ready (rs := [6]) (by kernel_rfl) (by simp) ?_
          refine AllReadyH.cons (o := ?oim1_7) ?hm1_7 (fun K hK => ?km1_7) ?mm1_7
          case hm1_7 => (simp only [List.getElem?_toArray, List.getElem?_cons_succ, List.getElem?_cons_zero]; rfl)
          case km1_7 =>
            go_simp
            (go_at_call 28); refine HCT.out.mono ?_; rintro e wh ⟨rfl, hbh⟩; have HBH := Lib.hid hbh; clear hbh
            refine hK.out _ _ (by (first | exact KS.out _ (Below.refl _ _) | exact KS.out _ HBH.out)) (fun hHeld => ?_)
            clear hK K
            try simp only [Act.put, List.setIfInBounds_toArray, List.set_cons_zero, List.set_cons_succ]
            refine wpAnyH_take (i := 7) (oi := ?oim1_8) (v := ?vm1_8) ?hm1_8 (by kernel_rfl) (by kernel_rfl) (by kernel_rfl) ?qm1_8 (Or.inl ⟨?wm1_8, ?ym1_8⟩) (by assumption) ?rm1_8
            case hm1_8 => (simp only [List.getElem?_toArray, List.getElem?_cons_succ, List.getElem?_cons_zero]; rfl)
            case qm1_8 => exact fun _ _ _ h => h
            case wm1_8 => rfl
            case ym1_8 => (intro w hSw; (try dsimp only at hSw); go_simp <;> with_reducible rfl)
            try simp only [Act.put, List.setIfInBounds_toArray, List.set_cons_zero, List.set_cons_succ]
            refine wpAnyH_take (i := 8) (oi := ?oim1_9) (v := ?vm1_9) ?hm1_9 (by kernel_rfl) (by kernel_rfl) (by kernel_rfl) ?qm1_9 (Or.inl ⟨?wm1_9, ?ym1_9⟩) (by assumption) ?rm1_9
            case hm1_9 => (simp only [List.getElem?_toArray, List.getElem?_cons_succ, List.getElem?_cons_zero]; rfl)
            case qm1_9 => exact fun _ _ _ h => h
            case wm1_9 => rfl
            case ym1_9 => (intro w hSw; (try dsimp only at hSw); go_simp <;> with_reducible rfl)
            try simp only [Act.put, List.setIfInBounds_toArray, List.set_cons_zero, List.set_cons_succ]
            refine wpAnyH_take (i := 9) (oi := ?oim1_10) (v := ?vm1_10) ?hm1_10 (by kernel_rfl) (by kernel_rfl) (by kernel_rfl) ?qm1_10 (Or.inl ⟨?wm1_10, ?ym1_10⟩) (by assumption) ?rm1_10
            case hm1_10 => (simp only [List.getElem?_toArray, List.getElem?_cons_succ, List.getElem?_cons_zero]; rfl)
            case qm1_10 => exact fun _ _ _ h => h
            case wm1_10 => rfl
            case ym1_10 => (intro w hSw; (try dsimp only at hSw); go_simp <;> with_reducible rfl)
            try simp only [Act.put, List.setIfInBounds_toArray, List.set_cons_zero, List.set_cons_succ]
            refine wpAnyH_take (i := 10) (oi := ?oim1_11) (v := ?vm1_11) ?hm1_11 (by kernel_rfl) (by kernel_rfl) (by kernel_rfl) ?qm1_11 (Or.inl ⟨?wm1_11, ?ym1_11⟩) (by assumption) ?rm1_11
            case hm1_11 => (simp only [List.getElem?_toArray, List.getElem?_cons_succ, List.getElem?_cons_zero]; rfl)
            case qm1_11 => exact fun _ _ _ h => h
            case wm1_11 => rfl
            case ym1_11 => (intro w hSw; (try dsimp only at hSw); go_simp <;> with_reducible rfl)
            try simp only [Act.put, List.setIfInBounds_toArray, List.set_cons_zero, List.set_cons_succ]
            refine wpAnyH_take (i := 11) (oi := ?oim1_12) (v := ?vm1_12) ?hm1_12 (by kernel_rfl) (by kernel_rfl) (by kernel_rfl) ?qm1_12 (Or.inl ⟨?wm1_12, ?ym1_12⟩) (by assumption) ?rm1_12
            case hm1_12 => (simp only [List.getElem?_toArray, List.getElem?_cons_succ, List.getElem?_cons_zero]; rfl)
            case qm1_12 => exact fun _ _ _ h => h
            case wm1_12 => rfl
            case ym1_12 => (intro w hSw; (try dsimp only at hSw); go_simp <;> with_reducible rfl)
            try simp only [Act.put, List.setIfInBounds_toArray, List.set_cons_zero, List.set_cons_succ]
            refine wpAnyH_done (by kernel_rfl) ?_ _
            have IT := Lib.hid ((HBR.out.drew).trans (HBH.out.mono HBR.out.size))
            clear HBH KS a0 a1 m0 m1 hmc
            go_wp2_with fail
            go_roundw
            case rel => exact ⟨k + 1, by omega, by go_num, IT.out⟩
            case measure => simp [intOf]; omega
          exact AllReadyH.nil
        · have hlti : ¬ (k : Int) < (kk.2.1.length : Int) := by omega
          go_wp2_with fail
          go_ret
          exact ⟨rfl, IR.out.bel⟩
    · have hk0 : kk.2.1 = [] := by
        rw [← HKK.out]
        exact ker_none (by rw [HKK.out]; exact h2)
      have hk1 : kk.2.1.length = 0 := by rw [hk0]; rfl
      obtain ⟨a0, a1, _, _, _⟩ := blk2cells (I17.out.box 10 rfl)
      rw [hk1] at a1
      have h2b : (kk.2.2 == 0) = false := by simpa using h2
      clear h2 hk0 hk1
      go_wp2_with fail
      go_ret
      exact ⟨rfl, I17.out.bel⟩
end Go.Proofs.YtjhlmalpcelbaaaDoor
