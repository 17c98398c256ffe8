/- the reference's l02Kernel -/
import Derived.Test.YtchmplpgamekjaaDoorKa
import Derived.Test.YtchmplpgamekjaaDoorIa
namespace Go.Proofs.YtchmplpgamekjaaDoor
open Go.RowKit

theorem kerOut_length (G : Nat → List (Nat × Nat)) (S : List Nat) : ∀ k, (kerOut G S k).length ≤ k
  | 0 => Nat.le_refl _
  | k + 1 => by
    have := kerOut_length G S k
    simp only [kerOut, kerStep]
    split
    · simp; omega
    · omega
def kerK (S : List Nat) (k : Nat) : List Nat := kerOut (fun k => solK S k) S k
theorem kerK_succ (S : List Nat) (k : Nat) : kerK S (k + 1) = kerStep (solK S k) (S.getD k 0, 2 ^ k) (kerK S k) := rfl
theorem kerK_all {S : List Nat} : kerK S S.length = kerOut (fun k => growAll ((us 0 S).take k)) S S.length := rfl

theorem apart_ne2 {v : Value} {g' c' n' : Nat} (h : v.ownBlock = none ∨ v.ownBlock ≠ some g') : v.ownBlock ≠ (Value.slice (some ⟨g', 0, none⟩) n' c').ownBlock := by
  rcases h with h | h
  · rw [h]; intro e; cases e
  · exact h
attribute [local go_sem] i64_xor_nat and_pw_ne in
set_option maxRecDepth 100000 in
set_option maxHeartbeats 2000000 in
theorem l02Kernel_any (A : Option Addr) (n c : Nat) (S : List Nat) (w : World) (hn : n = S.length) (hsmall : n ≤ 60) (hS : ∀ r ∈ S, Sm r) (hR : Rd w A (nv S)) :
    Calls Tryd.prog 84 #[.slice A n c] w fun e w' => ∃ v, e = .returned v ∧ w'.ownsRow w.heap.size 2 1 v (reduceS (kerK S S.length)).length (nv (reduceS (kerK S S.length))) ∧ Below w.heap.size w w' := by
  have Hn := Lib.hid hn
  have HR := Lib.hid hR
  have HG := Lib.hid (fun k => solK_good hS (by omega) k)
  have HKS := Lib.hid ((kerG_sol hS).sm (by omega))
  have HS := Lib.hid hS
  clear hn hR hS
  go_enter Tryd.func84, Tryd.ntmps84
  go_wp2_with fail
  go_loopw [3, 4, 5, 6] (fun d s o i wr => ∃ k : Nat, k ≤ n ∧ i = .int .i64 k ∧ wr.ownsRow w.heap.size 2 1 d (solK S k).length (nv (r1 (solK S k))) ∧ wr.ownsRow w.heap.size 2 1 s (solK S k).length (nv (r2 (solK S k))) ∧ wr.ownsRow w.heap.size 2 1 o (kerK S k).length (nv (kerK S k)) ∧ (d.ownBlock ≠ s.ownBlock ∧ d.ownBlock ≠ o.ownBlock ∧ s.ownBlock ≠ o.ownBlock) ∧ Below w.heap.size w wr) (fun _ _ _ i _ => n - (intOf i).toNat)
  case atStart =>
    refine ⟨0, by omega, rfl, ?_, ?_, ?_, by simp [Value.ownBlock]; omega, (((Below.refl _ _).alloc (Nat.le_refl _) _).alloc (by simp) _).alloc (by simp; omega) _⟩
    · exact ((World.ownsRow_made w #[] 0 (Nat.le_refl _) (by decide) (by simp)).alloc _).alloc _
    · have := World.ownsRow_made (w.alloc (.cells #[] 2)) #[] 0 (base := w.heap.size) (e := 2) (size := 1) (by simp) (by decide) (by simp)
      rw [World.size_alloc] at this
      exact this.alloc _
    · have := World.ownsRow_made ((w.alloc (.cells #[] 2)).alloc (.cells #[] 2)) #[] 0 (base := w.heap.size) (e := 2) (size := 1) (by simp; omega) (by decide) (by simp)
      simp only [World.size_alloc] at this
      exact this
  case round =>
    obtain ⟨k, hk, rfl, hod, hos, hoo, ⟨hds, hdo, hso⟩, hbel⟩ := hrel
    have hsz : w.heap.size ≤ wr.heap.size := hbel.size
    have hko := kerOut_length (fun k => solK S k) S k
    change (kerK S k).length ≤ k at hko
    by_cases hlt : k < n
    · have hkL : k < S.length := by rw [← Hn.out]; exact hlt
      obtain ⟨b, o, rfl, hc⟩ := (HR.out.below hbel).atN hkL
      have hx := HS.out _ (getD_mem hkL)
      have Hs := Lib.hid (solK_succ hkL)
      have Hk := Lib.hid (kerK_succ S k)
      have hg := HG.out k
      have hl := solK_length S k (by omega)
      have hp2 : Sm (2 ^ k) := by
        have := pw_sm (p := k) (by omega); exact this
      generalize solK S k = L at *
      generalize kerK S k = O at *
      generalize S.getD k 0 = x at *
      obtain ⟨D, cd, rfl, _, hD, _⟩ := owns_shape hod
      obtain ⟨E, ce, rfl, _, hE, _⟩ := owns_shape hos
      obtain ⟨F, cf, rfl, _, hF, _⟩ := owns_shape hoo
      have HOD := Lib.hid hod
      have HOS := Lib.hid hos
      have HOO := Lib.hid hoo
      have HDS := Lib.hid hds
      have HDO := Lib.hid hdo
      have HSO := Lib.hid hso
      have HB := Lib.hid hbel
      have HRD := Lib.hid (owns_Rd hod)
      have HRE := Lib.hid (owns_Rd hos)
      clear hod hos hoo hds hdo hso hbel hD hE hF
      go_wp2_with fail
      go_loop [7, 8, 9] (fun a b j => ∃ i : Nat, i ≤ L.length ∧ j = .int .i64 i ∧ a = .int .i64 (leftN (L.take i) (x, 2 ^ k)).1 ∧ b = .int .i64 (leftN (L.take i) (x, 2 ^ k)).2) (fun _ _ j => L.length - (intOf j).toNat)
      case atStart =>
        exact ⟨0, by omega, rfl, rfl, congrArg (Value.int .i64) (shl_one (by omega))⟩
      case round =>
        obtain ⟨i, hi, rfl, rfl, rfl⟩ := hrel
        by_cases hlt2 : i < L.length
        · obtain ⟨b1, o1, rfl, hc1⟩ := HRD.out.atN (k := i) (by rw [r1_length]; exact hlt2)
          obtain ⟨b2, o2, rfl, hc2⟩ := HRE.out.atN (k := i) (by rw [r2_length]; exact hlt2)
          rw [r1_getD] at hc1; rw [r2_getD] at hc2
          obtain ⟨g0, g1, g2⟩ := hg.at_ hlt2
          have Hi := Lib.hid (fold_take_succ leftStep (x, 2 ^ k) L i (0, 0) hlt2)
          have hq : SmP (leftN (L.take i) (x, 2 ^ k)) := SmP.foldl (hg.take i) ⟨hx, hp2⟩
          obtain ⟨q1, q2⟩ := hq
          have hpv := pv_le g0 g1
          generalize hP : leftN (L.take i) (x, 2 ^ k) = p at *
          generalize hR' : L.getD i (0, 0) = r at *
          have HP := Lib.hid hP; clear hP
          have HR' := Lib.hid hR'; clear hR' hg
          have HL := Lib.hid (fun W => low_any r.1 g0 g1 W)
          cases hb : tb p.1 (pv r.1)
          all_goals
            go_wp2_with (go_at_call 111; refine (HL.out _).mono ?_; rintro e w' ⟨rfl, rfl⟩)
            go_round
            case rel => exact ⟨i + 1, by omega, by go_num, by unfold leftN at *; rw [Hi.out, HP.out]; simp [leftStep, hb], by unfold leftN at *; rw [Hi.out, HP.out]; simp [leftStep, hb]⟩
            case measure => simp [intOf]; omega
        · have ei : L.take i = L := List.take_of_length_le (by omega)
          rw [ei]
          have hq : SmP (leftN L (x, 2 ^ k)) := SmP.foldl hg ⟨hx, hp2⟩
          have hgr := grow_cases L (x, 2 ^ k)
          have hks : kerStep L (x, 2 ^ k) O = if (leftN L (x, 2 ^ k)).1 = 0 then O ++ [(leftN L (x, 2 ^ k)).2] else O := rfl
          obtain ⟨q1, q2⟩ := hq
          generalize leftN L (x, 2 ^ k) = q at *
          rcases hgr with ⟨hgr, h0⟩ | ⟨hgr, h0⟩
          · rw [if_pos h0] at hks
            have HGR := Lib.hid hgr
            have HKS' := Lib.hid hks
            clear hgr hks
            rw [h0]
            go_wp2_with (at_builtin; refine wpList_app1 _ _ _ _ _ etI (by rfl) (by rfl) w.heap.size (.slice F O.length cf) O.length (nv O) (by rfl) ?_ _ (.int .i64 (q.2 : Int)) (by rfl) ?_ (by rfl) ?_ ?_ ?_; exact HOO.out.alloc _; exact new_cell _ _ _; omega; (simp; omega); (intro g1' cap1 w1 hown1 hgrow1 hat1 hlt1; obtain ⟨t1, t2⟩ := own_other_app HOD.out (.inr HDO.out) hgrow1 hat1; obtain ⟨t3, t4⟩ := own_other_app HOS.out (.inr HSO.out) hgrow1 hat1; have HB1 := Lib.hid (below_app HB.out hsz HOO.out hgrow1); have HO1 : Hid (w1.ownsRow w.heap.size 2 1 (.slice (some ⟨g1', 0, none⟩) (O.length + 1) cap1) (O.length + 1) (nv (O ++ [q.2]))) := (by rw [← nv_snoc]; exact hown1); have HT1 := Lib.hid t1; have HT2 := Lib.hid (apart_ne2 (n' := O.length + 1) (c' := cap1) t2); have HT3 := Lib.hid t3; have HT4 := Lib.hid (apart_ne2 (n' := O.length + 1) (c' := cap1) t4); clear hown1 hgrow1 hat1 hlt1 t1 t2 t3 t4))
            go_roundw
            case rel => exact ⟨k + 1, by omega, by go_num, by rw [Hs.out, HGR.out]; exact HT1.out, by rw [Hs.out, HGR.out]; exact HT3.out, by rw [Hk.out, HKS'.out]; exact own_cast HO1.out (by simp) rfl, ⟨HDS.out, HT2.out, HT4.out⟩, HB1.out⟩
            case measure => simp [intOf]; omega
          · rw [if_neg h0] at hks
            have HGR := Lib.hid hgr
            have HKS' := Lib.hid hks
            have hne0 : ((q.1 : Int) == 0) = false := by simpa using h0
            clear hgr hks
            go_wp2_with (first | (at_builtin; refine wpList_app1 _ _ _ _ _ etI (by rfl) (by rfl) w.heap.size (.slice D L.length cd) L.length (nv (r1 L)) (by rfl) ?_ _ (.int .i64 (q.1 : Int)) (by rfl) ?_ (by rfl) ?_ ?_ ?_; exact HOD.out.alloc _; exact new_cell _ _ _; omega; (simp; omega); (intro g1' cap1 w1 hown1 hgrow1 hat1 hlt1; obtain ⟨t1, t2⟩ := own_other_app HOS.out (.inr HDS.out.symm) hgrow1 hat1; obtain ⟨t3, t4⟩ := own_other_app HOO.out (.inr HDO.out.symm) hgrow1 hat1; have HB1 := Lib.hid (below_app HB.out hsz HOD.out hgrow1); have hsz1 : w.heap.size ≤ w1.heap.size := HB1.out.size; have HO1 : Hid (w1.ownsRow w.heap.size 2 1 (.slice (some ⟨g1', 0, none⟩) (L.length + 1) cap1) (L.length + 1) (nv (r1 (L ++ [q])))) := (by show Go.World.ownsRow _ _ _ _ _ _ _; rw [show r1 (L ++ [q]) = r1 L ++ [q.1] by simp [r1], ← nv_snoc]; exact hown1); have HT1 := Lib.hid t1; have HT2 := Lib.hid t2; have HT3 := Lib.hid t3; have HT4 := Lib.hid (apart_ne2 (n' := L.length + 1) (c' := cap1) t4); clear hown1 hgrow1 hat1 hlt1 t1 t2 t3 t4)) | (at_builtin; refine wpList_app1 _ _ _ _ _ etI (by rfl) (by rfl) w.heap.size (.slice E L.length ce) L.length (nv (r2 L)) (by rfl) ?_ _ (.int .i64 (q.2 : Int)) (by rfl) ?_ (by rfl) ?_ ?_ ?_; exact HT1.out.alloc _; exact new_cell _ _ _; omega; (simp; omega); (intro g2' cap2 w2 hown2 hgrow2 hat2 hlt2; obtain ⟨t1, t2⟩ := own_other_app HO1.out (apart_some HT2.out) hgrow2 hat2; obtain ⟨t3, t4⟩ := own_other_app HT3.out (.inr HSO.out.symm) hgrow2 hat2; have HB2 := Lib.hid (below_app HB1.out hsz1 HT1.out hgrow2); have HO2 : Hid (w2.ownsRow w.heap.size 2 1 (.slice (some ⟨g2', 0, none⟩) (L.length + 1) cap2) (L.length + 1) (nv (r2 (L ++ [q])))) := (by show Go.World.ownsRow _ _ _ _ _ _ _; rw [show r2 (L ++ [q]) = r2 L ++ [q.2] by simp [r2], ← nv_snoc]; exact hown2); have HU1 := Lib.hid t1; have HU2 := Lib.hid (apart_ne (n' := L.length + 1) (c' := cap2) t2); have HU3 := Lib.hid t3; have HU4 := Lib.hid (apart_ne2 (n' := L.length + 1) (c' := cap2) t4); clear hown2 hgrow2 hat2 hlt2 t1 t2 t3 t4)))
            go_roundw
            case rel => exact ⟨k + 1, by omega, by go_num, by rw [Hs.out, HGR.out]; exact own_cast HU1.out (by simp) rfl, by rw [Hs.out, HGR.out]; exact own_cast HO2.out (by simp) rfl, by rw [Hk.out, HKS'.out]; exact HU3.out, ⟨HU2.out, HT4.out.symm, HU4.out.symm⟩, HB2.out⟩
            case measure => simp [intOf]; omega
    · have ek : k = S.length := by rw [← Hn.out]; omega
      subst ek
      obtain ⟨F, cf, rfl, _, hF, _⟩ := owns_shape hoo
      have hr := reduce_any F (kerK S S.length).length cf (kerK S S.length) wr rfl (by omega) HKS.out (owns_Rd hoo)
      have HRR := Lib.hid hr
      have HB := Lib.hid hbel
      clear hod hos hoo hds hdo hso hbel hF hr
      go_wp2_with fail
      refine HRR.out.mono ?_
      rintro e w2 ⟨v, rfl, ho, hb⟩
      have HO2 := Lib.hid ho
      have HB2 := Lib.hid hb
      clear ho hb
      go_wp2_with fail
      go_ret
      exact ⟨v, rfl, HO2.out.mono hsz, HB.out.trans (HB2.out.mono hsz)⟩
end Go.Proofs.YtchmplpgamekjaaDoor
