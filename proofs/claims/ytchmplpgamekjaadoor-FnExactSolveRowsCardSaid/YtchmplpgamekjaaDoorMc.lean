/- plain mathematics: the inverse of a matrix, by both ways -/
import Derived.Test.YtchmplpgamekjaaDoorMb
namespace Go.Proofs.YtchmplpgamekjaaDoor

theorem sm_of_lt {r a : Nat} (ha : a ≤ 62) (h : r < 2 ^ a) : Sm r := by
  have h1 : 2 ^ a ≤ 2 ^ 62 := Nat.pow_le_pow_right (by omega) ha
  unfold Sm; omega
theorem Red.apart {S : List Nat} (h : Red S) : ∀ r ∈ S, ∀ s ∈ S, r ≠ s → tb r (pv s) = false := by
  induction S with
  | nil => intro r hr; cases hr
  | cons x S ih =>
    intro r hr s hs hne
    have hp := (List.pairwise_cons.1 h.off).1
    rcases List.mem_cons.1 hr with e | hr' <;> rcases List.mem_cons.1 hs with e' | hs'
    · exact absurd (e.trans e'.symm) hne
    · rw [e]; exact (hp s hs').1
    · rw [e']; exact (hp r hr').2
    · exact ih h.tail r hr' s hs' hne
theorem pv_lt {r a : Nat} (h0 : r ≠ 0) (hs : Sm r) (h : r < 2 ^ a) : pv r < a := by
  refine Decidable.byContradiction fun hc => ?_
  have := tb_pv h0 hs
  rw [tb_of_lt h (by omega)] at this; cases this

section
variable {S : List Nat} {n : Nat}
structure Sq (S : List Nat) (n : Nat) : Prop where
  len : S.length = n
  lt : ∀ r ∈ S, r < 2 ^ n
  le : n ≤ 60
theorem Sq.sm (h : Sq S n) : ∀ r ∈ S, Sm r := fun r hr => sm_of_lt (by have := h.le; omega) (h.lt r hr)
theorem Sq.usm (h : Sq S n) : ∀ p ∈ us 0 S, SmP p := us_sm h.sm (by have := h.le; have := h.len; omega)
theorem Sq.red (h : Sq S n) : Red (r1 (spanL (us 0 S))) := (spanL_perm _ h.usm).2.1
theorem Sq.good (h : Sq S n) : Good (spanL (us 0 S)) := (spanL_perm _ h.usm).2.2
theorem Sq.lt2 (h : Sq S n) : ∀ r ∈ spanL (us 0 S), Lt2 n n r := by
  have e := h.len
  exact add_all (P := Lt2 n n) (fun _ _ hL hp => Lt2.addL hL hp) _ [] (fun p hp => by have := us_lt h.lt hp; rwa [e] at this) (by simp)
theorem Sq.dif (h : Sq S n) : ∀ r ∈ spanL (us 0 S), Dif S r = 0 := add_all (P := fun r => Dif S r = 0) (fun _ _ hL hp => Dif.addL hL hp) _ [] (fun p hp => us_dif hp) (by simp)
theorem Sq.len_iff (h : Sq S n) : (spanL (us 0 S)).length = n ↔ freeRows S := by
  have := span_len (us 0 S) S.length (by rw [us_length]; exact Nat.le_refl _)
  rw [List.take_of_length_le (by rw [us_length]; exact Nat.le_refl _), h.len] at this
  rw [this, freeRows, h.len]
theorem Sq.pivs (h : Sq S n) : ∀ x ∈ (r1 (spanL (us 0 S))).map pv, x < n := by
  intro x hx
  obtain ⟨r, hr, rfl⟩ := List.mem_map.1 hx
  have h1 := h.red.ne r hr
  obtain ⟨p, hp, rfl⟩ := List.mem_map.1 hr
  exact pv_lt h1.1 h1.2 (h.lt2 p hp).1
theorem Sq.all_piv (h : Sq S n) (hf : freeRows S) : ∀ j, j < n → j ∈ (r1 (spanL (us 0 S))).map pv :=
  pig3 h.red.nodup h.pivs (by rw [List.length_map, r1_length, h.len_iff.2 hf])
/-- where the rows are free, each row of the span has one digit -/
theorem Sq.row (h : Sq S n) (hf : freeRows S) {p : Nat × Nat} (hp : p ∈ spanL (us 0 S)) : p.1 = 2 ^ pv p.1 := by
  have hm : p.1 ∈ r1 (spanL (us 0 S)) := List.mem_map_of_mem hp
  have h1 := h.red.ne p.1 hm
  refine eq_of_tb fun j => ?_
  rw [tb_pow]
  by_cases hj : pv p.1 = j
  · subst hj; rw [tb_pv h1.1 h1.2]; simp
  · rw [decide_eq_false hj]
    rcases Nat.lt_or_ge j n with hlt | hge
    · obtain ⟨s, hs, e⟩ := List.mem_map.1 (h.all_piv hf j hlt)
      have hne : p.1 ≠ s := fun e' => hj (by rw [e']; exact e)
      have := h.red.apart p.1 hm s hs hne
      rw [e] at this; exact this
    · exact tb_of_lt (h.lt2 p hp).1 hge
/-- the reference finds all solutions just where the rows are free -/
theorem Sq.sol (h : Sq S n) : (∀ j, j < n → (solL S (2 ^ j)).1 = 0) ↔ freeRows S := by
  have hsp : ∀ v, Sp (r1 (spanL (us 0 S))) v ↔ Sp S v := fun v => by rw [sp_span, us_r1]
  constructor
  · intro hs
    rw [← h.len_iff]
    have h1 := pig1 n _ h.red.nodup h.pivs
    have h2 := pig2 n ((r1 (spanL (us 0 S))).map pv) (fun j hj => by
      refine Decidable.byContradiction fun hm => ?_
      have h3 : Sp (r1 (spanL (us 0 S))) (2 ^ j) := (hsp _).2 ((sol_iff h.sm _).1 (hs j hj))
      have h4 := h.red.ech.zero _ h3 (fun r hr => by
        rw [tb_pow]; refine decide_eq_false fun e => hm ?_
        rw [e]; exact List.mem_map_of_mem hr)
      have := Nat.two_pow_pos j
      omega)
    rw [List.length_map, r1_length] at h1 h2
    omega
  · intro hf j hj
    rw [sol_iff h.sm, ← hsp]
    obtain ⟨r, hr, e⟩ := List.mem_map.1 (h.all_piv hf j hj)
    obtain ⟨p, hp, rfl⟩ := List.mem_map.1 hr
    have := h.row hf hp
    rw [e] at this
    rw [← this]; exact .mem hr
theorem Sq.inj (h : Sq S n) (hf : freeRows S) : ∀ z, z < 2 ^ n → comb S 0 z = 0 → z = 0 := by
  intro z hz h0
  have e := h.len
  refine comb_inj (fun t ht hsp => ?_) n z (by omega) hz h0
  have h1 := hf t ht
  rw [us_take, leftN_fst, us_getD S 0 t ht] at h1
  have hsm : ∀ p ∈ us 0 (S.take t), SmP p := us_sm (fun r hr => h.sm r (List.mem_of_mem_take hr)) (by rw [List.length_take]; have := h.le; omega)
  have hr := (spanL_perm _ hsm).2.1
  refine h1 ((hr.ech.sp_iff _).1 ?_)
  rw [sp_span, us_r1]
  exact hsp
/-- the companion of the row with the digit j is the reference's solution for that digit -/
theorem Sq.comp (h : Sq S n) (hf : freeRows S) {p : Nat × Nat} (hp : p ∈ spanL (us 0 S)) : p.2 = (solL S (2 ^ pv p.1)).2 := by
  have hj : pv p.1 < n := h.pivs _ (List.mem_map_of_mem (List.mem_map_of_mem hp))
  have h1 := dif_zero.1 (h.dif p hp)
  have h2 := sol_comb (S := S) (2 ^ pv p.1) (h.sol.2 hf _ hj)
  have e := h.len
  have h3 := sol_lt h.lt (v := 2 ^ pv p.1) (Nat.pow_lt_pow_right (by omega) hj)
  rw [e] at h3
  have h4 := h.inj hf (xr p.2 (solL S (2 ^ pv p.1)).2) (Nat.xor_lt_two_pow (h.lt2 p hp).2 h3) (by rw [comb_xr, h1, h2, ← h.row hf hp, xr_self])
  have := congrArg (xr p.2) h4
  rw [xr_xr, xr_zero] at this
  exact this.symm

/-- what the program's loop over the span lays down -/
def putC (out : List Nat) (p : Nat × Nat) : List Nat := out.set (pv p.1) p.2
theorem putC_length : ∀ (L : List (Nat × Nat)) (out : List Nat), (L.foldl putC out).length = out.length
  | [], _ => rfl
  | p :: L, out => by rw [List.foldl_cons, putC_length L]; simp [putC]
theorem putC_getD {f : Nat → Nat} : ∀ (L : List (Nat × Nat)) (out : List Nat), (∀ p ∈ L, p.2 = f (pv p.1)) → ∀ j, j < out.length → (out.getD j 0 = f j ∨ j ∈ (r1 L).map pv) → (L.foldl putC out).getD j 0 = f j
  | [], out, _, j, _, h => by
    rcases h with h | h
    · exact h
    · simp [r1] at h
  | p :: L, out, hL, j, hj, h => by
    rw [List.foldl_cons]
    refine putC_getD L (putC out p) (fun q hq => hL q (List.mem_cons_of_mem _ hq)) j (by simpa [putC] using hj) ?_
    by_cases e : pv p.1 = j
    · refine .inl ?_
      subst e
      simp [putC, List.getD, hj, hL p (List.mem_cons_self ..)]
    · rcases h with h | h
      · refine .inl ?_
        simp only [putC, List.getD, List.getElem?_set, if_neg e]
        simpa [List.getD] using h
      · refine .inr ?_
        simp only [r1, List.map_cons, List.mem_cons] at h ⊢
        rcases h with h | h
        · exact absurd h.symm e
        · exact h
/-- both ways to the inverse -/
theorem Sq.inverse (h : Sq S n) (hf : freeRows S) : (spanL (us 0 S)).foldl putC (List.replicate n 0) = (List.range n).map fun j => (solL S (2 ^ j)).2 := by
  apply List.ext_getElem
  · rw [putC_length]; simp
  · intro j h1 h2
    have hj : j < n := by simpa using h2
    have := putC_getD (f := fun j => (solL S (2 ^ j)).2) (spanL (us 0 S)) (List.replicate n 0) (fun p hp => h.comp hf hp) j (by simpa using hj) (.inr (h.all_piv hf j hj))
    simp only [List.getD, List.getElem?_eq_getElem h1, Option.getD_some] at this
    rw [this]; simp
end
end Go.Proofs.YtchmplpgamekjaaDoor
