/- the reference's l02Meet -/
import Derived.Test.YtchmplpgamekjaaDoorMe
import Derived.Test.YtchmplpgamekjaaDoorKb
namespace Go.Proofs.YtchmplpgamekjaaDoor
open Go.RowKit

def gp (ps : List (Nat × Nat)) (k : Nat) : List (Nat × Nat) := growAll (ps.take k)
theorem gp_succ {ps : List (Nat × Nat)} {k : Nat} (h : k < ps.length) : gp ps (k + 1) = growL (gp ps k) (ps.getD k (0, 0)) := by
  unfold gp growAll
  exact fold_take_succ growL [] ps k (0, 0) h
theorem gp_length (ps : List (Nat × Nat)) : ∀ k, k ≤ ps.length → (gp ps k).length ≤ k := by
  intro k
  induction k with
  | zero => intro _; simp [gp, growAll]
  | succ k ih => intro h; rw [gp_succ (by omega)]; have := growL_length (gp ps k) (ps.getD k (0, 0)); have := ih (by omega); omega
theorem gp_good {ps : List (Nat × Nat)} (h : ∀ p ∈ ps, SmP p) (k : Nat) : Good (gp ps k) := by
  have h1 : ∀ p ∈ ps.take k, SmP p := fun p hp => h p (List.mem_of_mem_take hp)
  have he : Ech (r1 (gp ps k)) := grow_ech_all _ [] ⟨by simp [r1], by simp [r1]⟩ fun p hp => (h1 p hp).1
  have hs := grow_all (P := SmP) smp_left _ [] h1 (by simp)
  intro r hr
  exact ⟨(he.ne r.1 (List.mem_map_of_mem hr)).1, hs r hr⟩
theorem kerP_succ (ps : List (Nat × Nat)) (k : Nat) : kerP ps (k + 1) = kerStep (gp ps k) (ps.getD k (0, 0)) (kerP ps k) := rfl

attribute [local go_sem] i64_xor_nat and_pw_ne in
set_option maxRecDepth 100000 in
set_option maxHeartbeats 4000000 in
theorem l02Meet_any (A A' : Option Addr) (n n' c c' : Nat) (S T : List Nat) (w : World) (hn : n = S.length) (hn' : n' = T.length) (hsmall : n ≤ 200) (hsmall' : n' ≤ 200) (hS : ∀ r ∈ S, Sm r) (hT : ∀ r ∈ T, Sm r) (hR : Rd w A (nv S)) (hR' : Rd w A' (nv T)) :
    Calls Tryd.prog 90 #[.slice A n c, .slice A' n' c'] w fun e w' => ∃ v, e = .returned v ∧ w'.ownsRow w.heap.size 2 1 v (meetS S T).length (nv (meetS S T)) ∧ Below w.heap.size w w' := by
  have h1 := reduce_any A n c S w hn (by omega) hS hR
  have h2 := fun W (hb : Below w.heap.size w W) => reduce_any A' n' c' T W hn' (by omega) hT (hR'.below hb)
  have hl1 := reduceS_length_le S
  have hl2 := reduceS_length_le T
  rw [← hn] at hl1; rw [← hn'] at hl2
  have hpp := sm_pairs (A := reduceS S) (B := reduceS T) (fun r hr => ((red_reduce hS).ne r hr).2) (fun r hr => ((red_reduce hT).ne r hr).2)
  have HE := Lib.hid (meet_both hS hT)
  have HKS : Hid (∀ z ∈ kerP (dup (reduceS S) ++ zs (reduceS T)) ((reduceS S).length + (reduceS T).length), Sm z) := by
    show ∀ z ∈ _, Sm z
    rw [kerP_meet (red_reduce hS) _ (Nat.le_refl _)]
    have sA : ∀ r ∈ reduceS S, Sm r := fun r hr => ((red_reduce hS).ne r hr).2
    exact (meetG_grow sA (fun r hr => ((red_reduce hT).ne r hr).2)).sm sA
  have H1 := Lib.hid h1
  have H2 := Lib.hid h2
  have HG := Lib.hid (fun k => gp_good hpp k)
  have HPP := Lib.hid hpp
  clear h1 h2 hpp hn hn' hS hT hR hR'
  generalize hF : reduceS S = F at *
  generalize hQ : reduceS T = Q at *
  have HF := Lib.hid hF; clear hF
  have HQ := Lib.hid hQ; clear hQ
  go_enter Tryd.func90, Tryd.ntmps90
  go_wp2_with fail
  refine H1.out.mono ?_
  rintro e w1 ⟨v1, rfl, ho, hb⟩
  obtain ⟨V1, c1, rfl, _, hV1, hV1'⟩ := owns_shape ho
  clear hV1 hV1'
  have HB1 := Lib.hid hb
  have HR1 := Lib.hid (owns_Rd ho)
  clear ho hb
  go_wp2_with fail
  refine (H2.out _ HB1.out).mono ?_
  rintro e W2 ⟨v2, rfl, ho, hb⟩
  obtain ⟨V2, c2, rfl, _, hV2, hV2'⟩ := owns_shape ho
  clear hV2 hV2'
  have HB2 := Lib.hid (HB1.out.trans (hb.mono HB1.out.size))
  have HR1' := Lib.hid (HR1.out.below hb)
  have HR2 := Lib.hid (owns_Rd ho)
  have hw2 : w.heap.size ≤ W2.heap.size := HB2.out.size
  have hps : (dup F ++ zs Q).length = F.length + Q.length := by rw [List.length_append, dup_length, zs_length]
  have HPL := Lib.hid hps
  clear ho hb hps
  go_wp2_with fail
  go_loopw [7, 8, 9, 10] (fun d s o i wr => ∃ k : Nat, k ≤ F.length + Q.length ∧ i = .int .i64 k ∧ wr.ownsRow W2.heap.size 2 1 d (gp (dup F ++ zs Q) k).length (nv (r1 (gp (dup F ++ zs Q) k))) ∧ wr.ownsRow W2.heap.size 2 1 s (gp (dup F ++ zs Q) k).length (nv (r2 (gp (dup F ++ zs Q) k))) ∧ wr.ownsRow W2.heap.size 2 1 o (kerP (dup F ++ zs Q) k).length (nv (kerP (dup F ++ zs Q) k)) ∧ (d.ownBlock ≠ s.ownBlock ∧ d.ownBlock ≠ o.ownBlock ∧ s.ownBlock ≠ o.ownBlock) ∧ Below W2.heap.size W2 wr) (fun _ _ _ i _ => F.length + Q.length - (intOf i).toNat)
  case atStart =>
    refine ⟨0, by omega, rfl, ?_, ?_, ?_, by simp [Value.ownBlock]; omega, (((Below.refl _ _).alloc (Nat.le_refl _) _).alloc (by simp) _).alloc (by simp; omega) _⟩
    · exact ((World.ownsRow_made W2 #[] 0 (Nat.le_refl _) (by decide) (by simp)).alloc _).alloc _
    · have := World.ownsRow_made (W2.alloc (.cells #[] 2)) #[] 0 (base := W2.heap.size) (e := 2) (size := 1) (by simp) (by decide) (by simp)
      rw [World.size_alloc] at this
      exact this.alloc _
    · have := World.ownsRow_made ((W2.alloc (.cells #[] 2)).alloc (.cells #[] 2)) #[] 0 (base := W2.heap.size) (e := 2) (size := 1) (by simp; omega) (by decide) (by simp)
      simp only [World.size_alloc] at this
      exact this
  case round =>
    obtain ⟨k, hk, rfl, hod, hos, hoo, ⟨hds, hdo, hso⟩, hbel⟩ := hrel
    have hsz : W2.heap.size ≤ wr.heap.size := hbel.size
    have hko := kerP_length (dup F ++ zs Q) k
    by_cases hlt : k < F.length + Q.length
    · have hkL : k < (dup F ++ zs Q).length := by rw [HPL.out]; exact hlt
      have hltI : (k : Int) < (F.length : Int) + (Q.length : Int) := by omega
      have hltB : decide ((k : Int) < (F.length : Int) + (Q.length : Int)) = true := by simpa using hltI
      have Hs := Lib.hid (gp_succ hkL)
      have Hk := Lib.hid (kerP_succ (dup F ++ zs Q) k)
      have hg := HG.out k
      have hl := gp_length (dup F ++ zs Q) k (by omega)
      have hpp : SmP ((dup F ++ zs Q).getD k (0, 0)) := HPP.out _ (by simp only [List.getD, List.getElem?_eq_getElem hkL, Option.getD_some]; exact List.getElem_mem hkL)
      have hcase : (k < F.length ∧ (dup F ++ zs Q).getD k (0, 0) = (F.getD k 0, F.getD k 0)) ∨ (¬ k < F.length ∧ (dup F ++ zs Q).getD k (0, 0) = (Q.getD (k - F.length) 0, 0)) := by
        by_cases h : k < F.length
        · exact .inl ⟨h, by rw [getD_app_left (by rw [dup_length]; exact h), dup_getD h]⟩
        · exact .inr ⟨h, by rw [getD_app_right (by rw [dup_length]; omega), dup_length, zs_getD (by omega)]⟩
      have hcell : (k < F.length ∧ ∃ b o, V1 = some ⟨b, o, none⟩ ∧ wr.cell? ⟨b, o + k, none⟩ = some (.int .i64 ((((dup F ++ zs Q).getD k (0, 0)).1 : Nat) : Int)) ∧ ((((dup F ++ zs Q).getD k (0, 0)).2 : Nat) : Int) = ((((dup F ++ zs Q).getD k (0, 0)).1 : Nat) : Int)) ∨
          (¬ k < F.length ∧ ∃ b o, V2 = some ⟨b, o, none⟩ ∧ wr.cell? ⟨b, o + (k - F.length), none⟩ = some (.int .i64 ((((dup F ++ zs Q).getD k (0, 0)).1 : Nat) : Int)) ∧ (0 : Int) = ((((dup F ++ zs Q).getD k (0, 0)).2 : Nat) : Int)) := by
        rcases hcase with ⟨h, e⟩ | ⟨h, e⟩
        · obtain ⟨b, o, rfl, hc⟩ := (HR1'.out.below hbel).atN (k := k) h
          exact .inl ⟨h, b, o, rfl, by rw [e]; exact hc, by rw [e]⟩
        · obtain ⟨b, o, rfl, hc⟩ := (HR2.out.below hbel).atN (k := k - F.length) (by omega)
          exact .inr ⟨h, b, o, rfl, by rw [e]; exact hc, by rw [e]; rfl⟩
      clear hcase hkL
      generalize hL : gp (dup F ++ zs Q) k = L at *
      generalize hO : kerP (dup F ++ zs Q) k = O at *
      generalize (dup F ++ zs Q).getD k (0, 0) = p0 at *
      clear hL hO
      obtain ⟨D, cd, rfl, _, hD, _⟩ := owns_shape hod
      obtain ⟨E, ce, rfl, _, hE, _⟩ := owns_shape hos
      obtain ⟨F', cf, rfl, _, hF', _⟩ := owns_shape hoo
      have HOD := Lib.hid hod
      have HOS := Lib.hid hos
      have HOO := Lib.hid hoo
      have HDS := Lib.hid hds
      have HDO := Lib.hid hdo
      have HSO := Lib.hid hso
      have HB := Lib.hid hbel
      have HRD := Lib.hid (owns_Rd hod)
      have HRE := Lib.hid (owns_Rd hos)
      clear hod hos hoo hds hdo hso hbel hD hE hF'
      rcases hcell with ⟨hkF, b, o, rfl, hc, h12⟩ | ⟨hkF, b, o, rfl, hc, h12⟩
      all_goals
        have H12 := Lib.hid h12
        clear h12
        go_wp2_with fail
        go_loop [11, 12, 13] (fun a b j => ∃ i : Nat, i ≤ L.length ∧ j = .int .i64 i ∧ a = .int .i64 (leftN (L.take i) p0).1 ∧ b = .int .i64 (leftN (L.take i) p0).2) (fun _ _ j => L.length - (intOf j).toNat)
        case atStart =>
          first | exact ⟨0, by omega, rfl, rfl, congrArg (Value.int .i64) H12.out.symm⟩ | exact ⟨0, by omega, rfl, rfl, congrArg (Value.int .i64) H12.out⟩
        case round =>
          obtain ⟨i, hi, rfl, rfl, rfl⟩ := hrel
          by_cases hlt2 : i < L.length
          · obtain ⟨b1, o1, rfl, hc1⟩ := HRD.out.atN (k := i) (by rw [r1_length]; exact hlt2)
            obtain ⟨b2, o2, rfl, hc2⟩ := HRE.out.atN (k := i) (by rw [r2_length]; exact hlt2)
            rw [r1_getD] at hc1; rw [r2_getD] at hc2
            obtain ⟨g0, g1, g2⟩ := hg.at_ hlt2
            have Hi := Lib.hid (fold_take_succ leftStep p0 L i (0, 0) hlt2)
            have hq : SmP (leftN (L.take i) p0) := SmP.foldl (hg.take i) hpp
            obtain ⟨q1, q2⟩ := hq
            have hpv := pv_le g0 g1
            generalize hP : leftN (L.take i) p0 = p at *
            generalize hR' : L.getD i (0, 0) = r at *
            have HP := Lib.hid hP; clear hP
            have HR' := Lib.hid hR'; clear hR' hg
            have HL := Lib.hid (fun W => low_any r.1 g0 g1 W)
            cases hb : tb p.1 (pv r.1)
            all_goals
              go_wp2_with (go_at_call 111; refine (HL.out _).mono ?_; rintro e w' ⟨rfl, rfl⟩)
              go_round
              case rel => exact ⟨i + 1, by omega, by go_num, by unfold leftN at *; rw [Hi.out, HP.out]; simp [leftStep, hb], by unfold leftN at *; rw [Hi.out, HP.out]; simp [leftStep, hb]⟩
              case measure => simp [intOf]; omega
          · have ei : L.take i = L := List.take_of_length_le (by omega)
            rw [ei]
            have hq : SmP (leftN L p0) := SmP.foldl hg hpp
            have hgr := grow_cases L p0
            have hks : kerStep L p0 O = if (leftN L p0).1 = 0 then O ++ [(leftN L p0).2] else O := rfl
            obtain ⟨q1, q2⟩ := hq
            generalize leftN L p0 = q at *
            rcases hgr with ⟨hgr, h0⟩ | ⟨hgr, h0⟩
            · rw [if_pos h0] at hks
              have HGR := Lib.hid hgr
              have HKS' := Lib.hid hks
              clear hgr hks
              rw [h0]
              go_wp2_with (at_builtin; refine wpList_app1 _ _ _ _ _ etI (by rfl) (by rfl) W2.heap.size (.slice F' O.length cf) O.length (nv O) (by rfl) ?_ _ (.int .i64 (q.2 : Int)) (by rfl) ?_ (by rfl) ?_ ?_ ?_; exact HOO.out.alloc _; exact new_cell _ _ _; omega; (simp; omega); (intro g1' cap1 w1 hown1 hgrow1 hat1 hlt1; obtain ⟨t1, t2⟩ := own_other_app HOD.out (.inr HDO.out) hgrow1 hat1; obtain ⟨t3, t4⟩ := own_other_app HOS.out (.inr HSO.out) hgrow1 hat1; have HB1 := Lib.hid (below_app HB.out hsz HOO.out hgrow1); have HO1 : Hid (w1.ownsRow W2.heap.size 2 1 (.slice (some ⟨g1', 0, none⟩) (O.length + 1) cap1) (O.length + 1) (nv (O ++ [q.2]))) := (by rw [← nv_snoc]; exact hown1); have HT1 := Lib.hid t1; have HT2 := Lib.hid (apart_ne2 (n' := O.length + 1) (c' := cap1) t2); have HT3 := Lib.hid t3; have HT4 := Lib.hid (apart_ne2 (n' := O.length + 1) (c' := cap1) t4); clear hown1 hgrow1 hat1 hlt1 t1 t2 t3 t4))
              go_roundw
              case rel => exact ⟨k + 1, by omega, by go_num, by rw [Hs.out, HGR.out]; exact HT1.out, by rw [Hs.out, HGR.out]; exact HT3.out, by rw [Hk.out, HKS'.out]; exact own_cast HO1.out (by simp) rfl, ⟨HDS.out, HT2.out, HT4.out⟩, HB1.out⟩
              case measure => simp [intOf]; omega
            · rw [if_neg h0] at hks
              have HGR := Lib.hid hgr
              have HKS' := Lib.hid hks
              have hne0 : ((q.1 : Int) == 0) = false := by simpa using h0
              clear hgr hks
              go_wp2_with (first | (at_builtin; refine wpList_app1 _ _ _ _ _ etI (by rfl) (by rfl) W2.heap.size (.slice D L.length cd) L.length (nv (r1 L)) (by rfl) ?_ _ (.int .i64 (q.1 : Int)) (by rfl) ?_ (by rfl) ?_ ?_ ?_; exact HOD.out.alloc _; exact new_cell _ _ _; omega; (simp; omega); (intro g1' cap1 w1 hown1 hgrow1 hat1 hlt1; obtain ⟨t1, t2⟩ := own_other_app HOS.out (.inr HDS.out.symm) hgrow1 hat1; obtain ⟨t3, t4⟩ := own_other_app HOO.out (.inr HDO.out.symm) hgrow1 hat1; have HB1 := Lib.hid (below_app HB.out hsz HOD.out hgrow1); have hsz1 : W2.heap.size ≤ w1.heap.size := HB1.out.size; have HO1 : Hid (w1.ownsRow W2.heap.size 2 1 (.slice (some ⟨g1', 0, none⟩) (L.length + 1) cap1) (L.length + 1) (nv (r1 (L ++ [q])))) := (by show Go.World.ownsRow _ _ _ _ _ _ _; rw [show r1 (L ++ [q]) = r1 L ++ [q.1] by simp [r1], ← nv_snoc]; exact hown1); have HT1 := Lib.hid t1; have HT2 := Lib.hid t2; have HT3 := Lib.hid t3; have HT4 := Lib.hid (apart_ne2 (n' := L.length + 1) (c' := cap1) t4); clear hown1 hgrow1 hat1 hlt1 t1 t2 t3 t4)) | (at_builtin; refine wpList_app1 _ _ _ _ _ etI (by rfl) (by rfl) W2.heap.size (.slice E L.length ce) L.length (nv (r2 L)) (by rfl) ?_ _ (.int .i64 (q.2 : Int)) (by rfl) ?_ (by rfl) ?_ ?_ ?_; exact HT1.out.alloc _; exact new_cell _ _ _; omega; (simp; omega); (intro g2' cap2 w2 hown2 hgrow2 hat2 hlt2; obtain ⟨t1, t2⟩ := own_other_app HO1.out (apart_some HT2.out) hgrow2 hat2; obtain ⟨t3, t4⟩ := own_other_app HT3.out (.inr HSO.out.symm) hgrow2 hat2; have HB2 := Lib.hid (below_app HB1.out hsz1 HT1.out hgrow2); have HO2 : Hid (w2.ownsRow W2.heap.size 2 1 (.slice (some ⟨g2', 0, none⟩) (L.length + 1) cap2) (L.length + 1) (nv (r2 (L ++ [q])))) := (by show Go.World.ownsRow _ _ _ _ _ _ _; rw [show r2 (L ++ [q]) = r2 L ++ [q.2] by simp [r2], ← nv_snoc]; exact hown2); have HU1 := Lib.hid t1; have HU2 := Lib.hid (apart_ne (n' := L.length + 1) (c' := cap2) t2); have HU3 := Lib.hid t3; have HU4 := Lib.hid (apart_ne2 (n' := L.length + 1) (c' := cap2) t4); clear hown2 hgrow2 hat2 hlt2 t1 t2 t3 t4)))
              go_roundw
              case rel => exact ⟨k + 1, by omega, by go_num, by rw [Hs.out, HGR.out]; exact own_cast HU1.out (by simp) rfl, by rw [Hs.out, HGR.out]; exact own_cast HO2.out (by simp) rfl, by rw [Hk.out, HKS'.out]; exact HU3.out, ⟨HU2.out, HT4.out.symm, HU4.out.symm⟩, HB2.out⟩
              case measure => simp [intOf]; omega
    · have ek : k = F.length + Q.length := by omega
      subst ek
      obtain ⟨F', cf, rfl, _, hF', _⟩ := owns_shape hoo
      have hr := reduce_any F' (kerP (dup F ++ zs Q) (F.length + Q.length)).length cf (kerP (dup F ++ zs Q) (F.length + Q.length)) wr rfl (by omega) HKS.out (owns_Rd hoo)
      rw [HE.out] at hr
      have HRR := Lib.hid hr
      have HB := Lib.hid hbel
      clear hod hos hoo hds hdo hso hbel hF' hr
      go_wp2_with fail
      refine HRR.out.mono ?_
      rintro e w2 ⟨v, rfl, ho, hb⟩
      have HO2 := Lib.hid ho
      have HB3 := Lib.hid hb
      clear ho hb
      go_wp2_with fail
      go_ret
      exact ⟨v, rfl, HO2.out.mono (Nat.le_trans hw2 hsz), HB2.out.trans ((HB.out.trans (HB3.out.mono hsz)).mono hw2)⟩
end Go.Proofs.YtchmplpgamekjaaDoor
