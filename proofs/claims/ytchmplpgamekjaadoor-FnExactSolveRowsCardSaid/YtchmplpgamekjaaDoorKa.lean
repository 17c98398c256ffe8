/- plain mathematics: reduced rows are one for one space; kernels, by both ways -/
import Derived.Test.YtchmplpgamekjaaDoorMc
import Derived.Test.YtchmplpgamekjaaDoorSr
namespace Go.Proofs.YtchmplpgamekjaaDoor

/-- rows that all lack the digits below the pivot of s -/
theorem tb_below {a n : Nat} (h0 : a ≠ 0) (h : Sm a) (hn : n < pv a) : tb a n = false := tb_lt_pv h0 h hn
theorem eq_zero_of_tb {v : Nat} (h : ∀ n, tb v n = false) : v = 0 := eq_of_tb fun n => by rw [h n, tb_zero]
/-- the pivot of a vector of the space is a row's -/
theorem Red.pv_mem : ∀ {S : List Nat}, Red S → ∀ v, Sp S v → v ≠ 0 → Sm v → ∃ r ∈ S, pv r = pv v := by
  intro S
  induction S with
  | nil =>
    intro _ v hv h0 _
    cases hv with
    | zero => exact absurd rfl h0
    | add hm _ => cases hm
  | cons r S ih =>
    intro hS v hv h0 hs
    have hr := hS.ne r (List.mem_cons_self ..)
    rcases sp_cons hv with hv | hv
    · obtain ⟨s, hm, e⟩ := ih hS.tail v hv h0 hs
      exact ⟨s, List.mem_cons_of_mem _ hm, e⟩
    · have hu : Sm (xr r v) := hr.2.xr hs
      by_cases hu0 : xr r v = 0
      · have : r = v := by have := congrArg (xr r) hu0; rw [xr_xr, xr_zero] at this; exact this.symm
        exact ⟨r, List.mem_cons_self .., by rw [this]⟩
      · obtain ⟨s, hm, e⟩ := ih hS.tail _ hv hu0 hu
        have hp := (List.pairwise_cons.1 hS.off).1
        have hoff : tb (xr r v) (pv r) = false := Sp.off (fun t ht => (hp t ht).2) hv
        have hvr : tb v (pv r) = true := by
          rw [tb_xr, tb_pv hr.1 hr.2] at hoff
          simpa using hoff
        have hne : pv (xr r v) ≠ pv r := fun e' => by
          have := tb_pv hu0 hu
          rw [e', hoff] at this; cases this
        rcases Nat.lt_or_gt_of_ne hne with hlt | hgt
        · refine ⟨s, List.mem_cons_of_mem _ hm, e.trans (pv_eq h0 hs ?_ ?_).symm⟩
          · have := tb_pv hu0 hu
            rw [tb_xr, tb_lt_pv hr.1 hr.2 hlt] at this
            simpa using this
          · intro m hm
            have := tb_lt_pv hu0 hu hm
            rw [tb_xr, tb_lt_pv hr.1 hr.2 (Nat.lt_trans hm hlt)] at this
            simpa using this
        · refine ⟨r, List.mem_cons_self .., (pv_eq h0 hs hvr ?_).symm⟩
          intro m hm
          have := tb_lt_pv hu0 hu (Nat.lt_trans hm hgt)
          rw [tb_xr, tb_lt_pv hr.1 hr.2 hm] at this
          simpa using this
theorem red_sub {S T : List Nat} (hS : Red S) (hT : Red T) (h : ∀ v, Sp S v ↔ Sp T v) : ∀ r ∈ S, r ∈ T := by
  intro r hr
  have h1 := hS.ne r hr
  obtain ⟨s, hs, e⟩ := hT.pv_mem r ((h r).1 (.mem hr)) h1.1 h1.2
  have h2 := hT.ne s hs
  have h0 : xr r s = 0 := by
    refine hS.ech.zero _ ((Sp.mem hr).plus ((h s).2 (.mem hs))) fun q hq => ?_
    by_cases hqr : q = r
    · subst hqr
      rw [tb_xr, tb_pv h1.1 h1.2, ← e, tb_pv h2.1 h2.2]; rfl
    · have hq1 := hS.ne q hq
      obtain ⟨t, ht, e2⟩ := hT.pv_mem q ((h q).1 (.mem hq)) hq1.1 hq1.2
      have hne : s ≠ t := fun e3 => by
        have h4 := hS.apart r hr q hq (fun e4 => hqr e4.symm)
        rw [← e2, ← e3, e, tb_pv h1.1 h1.2] at h4; cases h4
      have h5 := hT.apart s hs t ht hne
      rw [e2] at h5
      rw [tb_xr, hS.apart r hr q hq (fun e4 => hqr e4.symm), h5]; rfl
  have : r = s := by have := congrArg (xr r) h0; rw [xr_xr, xr_zero] at this; exact this.symm
  rw [this]; exact hs
theorem sp_reduce {S : List Nat} (hS : ∀ r ∈ S, Sm r) (v : Nat) : Sp (reduceS S) v ↔ Sp S v := by
  have hp := (spanL_perm (zs S) (fun p hp => by obtain ⟨r, hr, rfl⟩ := List.mem_map.1 hp; exact ⟨hS r hr, Sm.zero⟩)).1
  rw [r1_zs] at hp
  rw [sp_same (fun r => hp.symm.mem_iff) v, sp_span, r1_zs]
/-- one space, one reduced list -/
theorem reduce_unique {S T : List Nat} (hS : ∀ r ∈ S, Sm r) (hT : ∀ r ∈ T, Sm r) (h : ∀ v, Sp S v ↔ Sp T v) : reduceS S = reduceS T := by
  have h' : ∀ v, Sp (reduceS S) v ↔ Sp (reduceS T) v := fun v => by rw [sp_reduce hS, sp_reduce hT]; exact h v
  have rS := red_reduce hS
  have rT := red_reduce hT
  refine asc_unique (asc_reduce hS) (asc_reduce hT) ?_
  have nd : ∀ {U : List Nat}, Red U → U.Nodup := fun hU => List.Pairwise.of_map pv (fun a b h e => h (congrArg pv e)) hU.nodup
  exact (List.perm_ext_iff_of_nodup (nd rS) (nd rT)).2 fun r => ⟨red_sub rS rT h' r, red_sub rT rS (fun v => (h' v).symm) r⟩

/-! ### kernels -/
def kerStep (L : List (Nat × Nat)) (p : Nat × Nat) (out : List Nat) : List Nat := if (leftN L p).1 = 0 then out ++ [(leftN L p).2] else out
def kerOut (G : Nat → List (Nat × Nat)) (S : List Nat) : Nat → List Nat
  | 0 => []
  | k + 1 => kerStep (G k) (S.getD k 0, 2 ^ k) (kerOut G S k)
structure KerG (S : List Nat) (G : Nat → List (Nat × Nat)) : Prop where
  dif : ∀ k, k ≤ S.length → ∀ r ∈ G k, Dif S r = 0
  lt : ∀ k, k ≤ S.length → ∀ r ∈ G k, r.2 < 2 ^ k
  ech : ∀ k, k ≤ S.length → Ech (r1 (G k))
  sp : ∀ k, k ≤ S.length → ∀ v, Sp (r1 (G k)) v ↔ Sp (S.take k) v
theorem leftN_lt2 {L : List (Nat × Nat)} {k : Nat} (h : ∀ r ∈ L, r.2 < 2 ^ k) : ∀ p : Nat × Nat, p.2 < 2 ^ (k + 1) → (leftN L p).2 < 2 ^ (k + 1) ∧ tb (leftN L p).2 k = tb p.2 k := by
  unfold leftN
  induction L with
  | nil => intro p hp; exact ⟨hp, rfl⟩
  | cons r L ih =>
    intro p hp
    have hr := h r (List.mem_cons_self ..)
    have h1 : (leftStep p r).2 < 2 ^ (k + 1) ∧ tb (leftStep p r).2 k = tb p.2 k := by
      unfold leftStep
      split
      · refine ⟨Nat.xor_lt_two_pow hp (Nat.lt_trans hr (Nat.pow_lt_pow_right (by omega) (by omega))), ?_⟩
        rw [tb_xr, tb_of_lt hr (Nat.le_refl k)]; simp
      · exact ⟨hp, rfl⟩
    have h2 := ih (fun s hs => h s (List.mem_cons_of_mem _ hs)) _ h1.1
    exact ⟨h2.1, h2.2.trans h1.2⟩
section
variable {S : List Nat} {G : Nat → List (Nat × Nat)}
theorem KerG.own (h : KerG S G) {k : Nat} (hk : k < S.length) (h0 : (leftN (G k) (S.getD k 0, 2 ^ k)).1 = 0) :
    comb S 0 (leftN (G k) (S.getD k 0, 2 ^ k)).2 = 0 ∧ (leftN (G k) (S.getD k 0, 2 ^ k)).2 < 2 ^ (k + 1) ∧ tb (leftN (G k) (S.getD k 0, 2 ^ k)).2 k = true := by
  have h1 := leftN_lt2 (h.lt k (by omega)) (S.getD k 0, 2 ^ k) (Nat.pow_lt_pow_right (by omega) (by omega))
  refine ⟨?_, h1.1, ?_⟩
  · have hd := Dif.left (h.dif k (by omega)) (S.getD k 0, 2 ^ k)
    have hz : Dif S (S.getD k 0, 2 ^ k) = 0 := by
      rw [dif_zero]
      have := comb_pow S 0 k
      rwa [Nat.zero_add] at this
    rw [hz, dif_zero, h0] at hd
    exact hd
  · rw [h1.2, tb_pow]; simp
theorem KerG.mem (h : KerG S G) : ∀ k, k ≤ S.length → ∀ z ∈ kerOut G S k, comb S 0 z = 0 ∧ z < 2 ^ k := by
  intro k
  induction k with
  | zero => intro _ z hz; cases hz
  | succ k ih =>
    intro hk z hz
    have ih := ih (by omega)
    have hle : 2 ^ k < 2 ^ (k + 1) := Nat.pow_lt_pow_right (by omega) (by omega)
    simp only [kerOut, kerStep] at hz
    by_cases h0 : (leftN (G k) (S.getD k 0, 2 ^ k)).1 = 0
    · rw [if_pos h0] at hz
      rcases List.mem_append.1 hz with hz | hz
      · exact ⟨(ih z hz).1, Nat.lt_trans (ih z hz).2 hle⟩
      · rw [List.mem_singleton.1 hz]
        have := h.own (by omega) h0
        exact ⟨this.1, this.2.1⟩
    · rw [if_neg h0] at hz
      exact ⟨(ih z hz).1, Nat.lt_trans (ih z hz).2 hle⟩
theorem lt_of_top {z k : Nat} (h : z < 2 ^ (k + 1)) (hb : tb z k = false) : z < 2 ^ k := by
  refine lt_of_tb fun m hm => ?_
  by_cases e : m = k
  · rw [e]; exact hb
  · exact tb_of_lt h (by omega)
theorem KerG.all (h : KerG S G) : ∀ k, k ≤ S.length → ∀ z, z < 2 ^ k → comb S 0 z = 0 → Sp (kerOut G S k) z := by
  intro k
  induction k with
  | zero => intro _ z hz _; have : z = 0 := by simpa using hz
            rw [this]; exact .zero
  | succ k ih =>
    intro hk z hz h0
    have ih := ih (by omega)
    have hsub : ∀ v, Sp (kerOut G S k) v → Sp (kerOut G S (k + 1)) v := fun v hv => by
      simp only [kerOut, kerStep]
      split
      · exact hv.mono fun r hr => List.mem_append_left _ hr
      · exact hv
    cases hb : tb z k
    · exact hsub z (ih z (lt_of_top hz hb) h0)
    · -- the row k belongs to the space of the earlier ones
      have hc := comb_take S 0 k z (by omega) (fun m hm => tb_of_lt hz (by omega))
      rw [Nat.zero_add, hb, if_pos rfl, h0] at hc
      have e : S.getD k 0 = comb (S.take k) 0 z := by
        have := congrArg (xr (comb (S.take k) 0 z)) hc
        rw [xr_xr, xr_zero] at this; exact this.symm
      have hsp : Sp (r1 (G k)) (S.getD k 0) := (h.sp k (by omega) _).2 (e ▸ comb_sp (S.take k) 0 z)
      have hl : (leftN (G k) (S.getD k 0, 2 ^ k)).1 = 0 := by rw [leftN_fst]; exact ((h.ech k (by omega)).sp_iff _).1 hsp
      obtain ⟨o1, o2, o3⟩ := h.own (by omega) hl
      have hz2 : Sp (kerOut G S k) (xr z (leftN (G k) (S.getD k 0, 2 ^ k)).2) := by
        refine ih _ (lt_of_top (Nat.xor_lt_two_pow hz o2) (by rw [tb_xr, hb, o3]; rfl)) ?_
        rw [comb_xr, h0, o1, xr_zero]
      have hown : Sp (kerOut G S (k + 1)) (leftN (G k) (S.getD k 0, 2 ^ k)).2 := by
        simp only [kerOut, kerStep]
        rw [if_pos hl]
        exact .mem (List.mem_append_right _ (List.mem_singleton.2 rfl))
      have := (hsub _ hz2).plus hown
      rwa [xr_assoc, xr_self, xr_zero] at this
theorem KerG.sp_iff (h : KerG S G) (z : Nat) : Sp (kerOut G S S.length) z ↔ z < 2 ^ S.length ∧ comb S 0 z = 0 := by
  constructor
  · intro hz
    induction hz with
    | zero => exact ⟨Nat.two_pow_pos _, comb_low S 0 0 fun m _ => tb_zero m⟩
    | add hm _ ih =>
      have h1 := h.mem S.length (Nat.le_refl _) _ hm
      exact ⟨Nat.xor_lt_two_pow h1.2 ih.1, by rw [comb_xr, h1.1, ih.2, xr_zero]⟩
  · intro ⟨h1, h2⟩; exact h.all S.length (Nat.le_refl _) z h1 h2
theorem KerG.sm (h : KerG S G) (hl : S.length ≤ 62) : ∀ z ∈ kerOut G S S.length, Sm z := fun z hz => sm_of_lt hl (h.mem S.length (Nat.le_refl _) z hz).2
end
theorem us_getD0 {S : List Nat} {k : Nat} (hk : k < S.length) : (us 0 S).getD k (0, 0) = (S.getD k 0, 2 ^ k) := by rw [us_getD S 0 k hk, Nat.zero_add]
theorem us_lt_k {S : List Nat} {k : Nat} {p : Nat × Nat} (h : p ∈ (us 0 S).take k) (hk : k ≤ S.length) : p.2 < 2 ^ k ∧ p ∈ us 0 S := by
  refine ⟨?_, List.mem_of_mem_take h⟩
  rw [us_take] at h
  obtain ⟨j, hj, rfl⟩ := us_mem h
  rw [List.length_take] at hj
  exact Nat.pow_lt_pow_right (by omega) (by omega)
theorem left_lt2b {L : List (Nat × Nat)} {k : Nat} (h : ∀ r ∈ L, r.2 < 2 ^ k) : ∀ {p : Nat × Nat}, p.2 < 2 ^ k → (leftN L p).2 < 2 ^ k := by
  unfold leftN
  induction L with
  | nil => intro p hp; exact hp
  | cons r L ih =>
    intro p hp
    refine ih (fun s hs => h s (List.mem_cons_of_mem _ hs)) ?_
    unfold leftStep; split
    · exact Nat.xor_lt_two_pow hp (h r (List.mem_cons_self ..))
    · exact hp
theorem addL_lt2b {L : List (Nat × Nat)} {k : Nat} (h : ∀ r ∈ L, r.2 < 2 ^ k) {p : Nat × Nat} (hp : p.2 < 2 ^ k) : ∀ r ∈ addL L p, r.2 < 2 ^ k := by
  intro r hm
  have hq := left_lt2b h hp
  unfold addL at hm
  split at hm
  · exact h r hm
  · unfold addN at hm
    rcases List.mem_append.1 hm with hm | hm
    · obtain ⟨s, hs, rfl⟩ := List.mem_map.1 hm
      unfold addStep; split
      · exact Nat.xor_lt_two_pow (h s hs) hq
      · exact h s hs
    · rw [List.mem_singleton.1 hm]; exact hq
/-- the reference's lists -/
theorem kerG_sol {S : List Nat} (hS : ∀ r ∈ S, Sm r) : KerG S (fun k => growAll ((us 0 S).take k)) where
  dif k hk := grow_all (P := fun r => Dif S r = 0) (fun L p hL hp => (Dif.left hL p).trans hp) _ [] (fun p hp => us_dif (us_lt_k hp hk).2) (by simp)
  lt k hk := grow_all (P := fun r => r.2 < 2 ^ k) (fun L p hL hp => by
    exact left_lt2b hL hp) _ [] (fun p hp => (us_lt_k hp hk).1) (by simp)
  ech k hk := grow_ech_all _ [] ⟨by simp [r1], by simp [r1]⟩ fun p hp => hS _ (by
    have := (us_lt_k hp hk).2
    rw [← us_r1 S 0]; exact List.mem_map_of_mem this)
  sp k _ v := by rw [sp_grow, us_take, us_r1]
/-- the program's span -/
theorem kerG_span {S : List Nat} (hS : ∀ r ∈ S, Sm r) (hl : S.length ≤ 62) : KerG S (fun k => spanL ((us 0 S).take k)) where
  dif k hk := add_all (P := fun r => Dif S r = 0) (fun _ _ hL hp => Dif.addL hL hp) _ [] (fun p hp => us_dif (us_lt_k hp hk).2) (by simp)
  lt k hk := add_all (P := fun r => r.2 < 2 ^ k) (fun L p hL hp => addL_lt2b hL hp) _ [] (fun p hp => (us_lt_k hp hk).1) (by simp)
  ech k hk := (spanL_perm _ (fun p hp => us_sm hS hl p (us_lt_k hp hk).2)).2.1.ech
  sp k _ v := by rw [sp_span, us_take, us_r1]
/-- both kernels -/
theorem kernel_both {S : List Nat} (hS : ∀ r ∈ S, Sm r) (hl : S.length ≤ 62) :
    reduceS (kerOut (fun k => growAll ((us 0 S).take k)) S S.length) = reduceS (kerOut (fun k => spanL ((us 0 S).take k)) S S.length) := by
  have h1 := kerG_sol hS
  have h2 := kerG_span hS hl
  exact reduce_unique (h1.sm hl) (h2.sm hl) fun v => by rw [h1.sp_iff, h2.sp_iff]
end Go.Proofs.YtchmplpgamekjaaDoor
