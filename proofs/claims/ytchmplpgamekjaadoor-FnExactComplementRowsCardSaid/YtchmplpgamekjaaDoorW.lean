/- FnExactComplementRows: the walk of the law -/
import Derived.Test.YtchmplpgamekjaaDoorT
import Derived.Test.YtchmplpgamekjaaDoorV
import Derived.Test.YtchmplpgamekjaaDoorO
namespace Go.Proofs.YtchmplpgamekjaaDoor
open Go.RowKit

theorem compOf_len (c : Int) (xs : List Int) (c' : Int) (ys : List Int) : (compOf c xs c' ys).1.length ≤ ys.length := by
  unfold compOf
  split
  · rename_i h
    obtain ⟨hi, hj, _⟩ := bothOf_zero h
    have := (compK_inv (red_reduce (isMat_sm hi)) (isMat_sm hj) (toN ys).length (Nat.le_refl _)).2.2.1
    simpa [toN] using this
  · simp
theorem iv_nv (xs : List Nat) : nv xs = iv (xs.map fun (x : Nat) => (x : Int)) := by simp [nv, iv, List.map_map, Function.comp_def]
theorem eqI_self (xs : List Int) : eqI xs xs = true := by simp [eqI]

set_option maxRecDepth 100000 in
set_option maxHeartbeats 4000000 in
theorem lawComp_main (c c' : Int) (A A' : Option Addr) (n n' cap cap' : Nat) (xs ys : List Int) (w : World) (hT : Tab w) (hw : 0 < w.heap.size) (hn : n = xs.length) (hn' : n' = ys.length) (hbig : n + n' ≤ 1048576) (hR : Rd w A (iv xs)) (hR' : Rd w A' (iv ys)) :
    Calls Tryd.prog 6 #[.agg #[.int .i64 c, .slice A n cap], .agg #[.int .i64 c', .slice A' n' cap']] w fun e w' => e = .returned (.bool true) ∧ Below w.heap.size w w' := by
  have hz := fun W => szMatrix_any c A n cap 1048576 W (by omega) (by omega) (by omega)
  have hz' := fun W => szMatrix_any c' A' n' cap' (1048576 - n) W (by omega) (by omega) (by omega)
  rw [szV_pos (by omega)] at hz
  rw [show szV n' (1048576 - (n : Int)) = 1048576 - n - n' by unfold szV; rw [if_neg (by omega)]] at hz'
  have hI := ((Inv.start w).allocBox #[.int .i64 c, .slice A n cap] 24 rfl).allocBox #[.int .i64 c', .slice A' n' cap'] 24 rfl
  rw [show (w.alloc (.cells #[.int .i64 c, .slice A n cap] 24)).heap.size = w.heap.size + 1 by simp] at hI
  have I0 := Lib.hid hI
  have HZ := Lib.hid hz
  have HZ' := Lib.hid hz'
  have HR := Lib.hid hR
  have HR' := Lib.hid hR'
  have HT := Lib.hid hT
  have Hn := Lib.hid hn
  have Hn' := Lib.hid hn'
  have g1 : ¬ (1048576 - (n : Int) < 0) := by omega
  have g2 : ¬ (1048576 - (n : Int) - n' < 0) := by omega
  clear hz hz' hR hR' hT hn hn' hI
  go_enter Tryd.func6, Tryd.ntmps6
  go_wp2_with fail
  refine (HZ.out _).mono ?_
  rintro e wa ⟨rfl, hb⟩
  have I1 := Lib.hid (I0.out.step hb)
  obtain ⟨a0, a1, _, _, _⟩ := blk2cells (I1.out.get 0 rfl)
  obtain ⟨a2, a3, _, _, _⟩ := blk2cells (I1.out.get 1 rfl)
  clear hb
  go_wp2_with fail
  refine (HZ'.out _).mono ?_
  rintro e wb ⟨rfl, hb⟩
  have I2 := Lib.hid (I1.out.step hb)
  obtain ⟨b0, b1, _, _, _⟩ := blk2cells (I2.out.get 0 rfl)
  obtain ⟨b2, b3, _, _, _⟩ := blk2cells (I2.out.get 1 rfl)
  clear hb a0 a1 a2 a3
  go_wp2_with fail
  go_region_held3 (fun w' => (w'.heap[w.heap.size]? = some (.cells #[.int .i64 c, .slice A n cap] 24 (0, 0)) ∧ w'.heap[w.heap.size + 1]? = some (.cells #[.int .i64 c', .slice A' n' cap'] 24 (0, 0))) ∧ w'.cell? ⟨w.heap.size, 0, none⟩ = some (.int .i64 c) ∧ w'.cell? ⟨w.heap.size, 1, none⟩ = some (.slice A n cap) ∧ w'.cell? ⟨w.heap.size + 1, 0, none⟩ = some (.int .i64 c') ∧ w'.cell? ⟨w.heap.size + 1, 1, none⟩ = some (.slice A' n' cap'))
      (first
        | (refine two_blks ?_; first | exact ⟨I2.out.get 1 rfl, I2.out.get 0 rfl⟩ | exact ⟨I3.out.get 2 rfl, I3.out.get 1 rfl⟩ | exact ⟨I4.out.get 3 rfl, I4.out.get 2 rfl⟩ | exact ⟨I5.out.get 4 rfl, I5.out.get 3 rfl⟩))
      (first
        | (go_at_call 17; (with_reducible refine (toMatrix_any c A n cap xs _ Hn.out (by omega) (by exact HR.out.below I2.out.drew.bel)).mono ?_); (rintro e wc ⟨g1, rfl, ho, hb⟩; have I3 := Lib.hid (I2.out.drew.pushOwn hb ho rfl); clear ho hb))
        | (go_at_call 17; (with_reducible refine (toMatrix_any c' A' n' cap' ys _ Hn'.out (by omega) (by exact HR'.out.below I3.out.bel)).mono ?_); (rintro e wd ⟨g2, rfl, ho, hb⟩; have I4 := Lib.hid (I3.out.pushOwn hb ho rfl); clear ho hb))
        | (go_at_call 26; (with_reducible refine (specComp_any c c' _ _ n n' n n' xs ys _ Hn.out Hn'.out (by omega) (by omega) (by exact owns_Rd (I4.out.own 1 rfl)) (by exact owns_Rd (I4.out.own 0 rfl))).mono ?_); (rintro e we ⟨v0, rfl, ho, hb⟩; have I5 := Lib.hid (I4.out.pushOwn hb ho rfl); clear ho hb)))
  obtain ⟨A0, k0, rfl, _, _, _⟩ := owns_shape (I5.out.own 0 rfl)
  go_wp2_with fail
  refine (toMatrix_any c A n cap xs _ Hn.out (by omega) (HR.out.below I5.out.bel)).mono ?_
  rintro e wf ⟨g3, rfl, ho, hb⟩
  have I6 := Lib.hid (I5.out.pushOwn hb ho rfl)
  obtain ⟨f0, f1, _, _, hf1⟩ := blk2cells (I6.out.box 4 rfl)
  obtain ⟨f2, f3, _, _, hf2⟩ := blk2cells (I6.out.box 5 rfl)
  clear ho hb b0 b1 b2 b3
  go_wp2_with fail
  have hI7 := I6.out.allocBox #[.int .i64 c, .slice (some ⟨g3, 0, none⟩) n n] 28 rfl
  refine (toMatrix_any c' A' n' cap' ys _ Hn'.out (by omega) (HR'.out.below hI7.bel)).mono ?_
  rintro e wg ⟨g4, rfl, ho, hb⟩
  have I8 := Lib.hid (hI7.pushOwn hb ho rfl)
  obtain ⟨f4, f5, _, _, hf3⟩ := blk2cells (I8.out.box 1 rfl)
  obtain ⟨f6, f7, _, _, hf4⟩ := blk2cells (I8.out.box 6 rfl)
  obtain ⟨f8, f9, _, _, hf5⟩ := blk2cells (I8.out.box 7 rfl)
  clear ho hb hI7 f0 f1 f2 f3 hf1 hf2
  go_wp2_with fail
  have hI9 := I8.out.allocBox #[.int .i64 c', .slice (some ⟨g4, 0, none⟩) n' n'] 28 rfl
  refine (implComp_any c c' _ _ n n' n n' xs ys _ (HT.out.below hI9.bel hw) (by simp) Hn.out Hn'.out (by omega) (by omega) (owns_Rd (hI9.own 3 rfl)) (owns_Rd (hI9.own 1 rfl))).mono ?_
  rintro e wh ⟨vg, rfl, ho, hb⟩
  have I10 := Lib.hid (hI9.pushOwn hb ho rfl)
  obtain ⟨Ag, kg, rfl, _, _, _⟩ := owns_shape (I10.out.own 0 rfl)
  have hlen := compOf_len c xs c' ys
  rw [← Hn'.out] at hlen
  generalize hrr : compOf c xs c' ys = rr at *
  have HRR := Lib.hid hrr
  clear hrr
  obtain ⟨h0, h1, _, _, hh1⟩ := blk2cells (I10.out.box 1 rfl)
  obtain ⟨h2, h3, _, _, hh2⟩ := blk2cells (I10.out.box 3 rfl)
  obtain ⟨h4, h5, _, _, hh3⟩ := blk2cells (I10.out.box 8 rfl)
  obtain ⟨h6, h7, _, _, hh4⟩ := blk2cells (I10.out.box 9 rfl)
  clear ho hb hI9 f4 f5 f6 f7 f8 f9 hf3 hf4 hf5
  have heq := eqInts_any Ag A0 rr.1.length rr.1.length kg k0 (rr.1.map fun (x : Nat) => (x : Int)) (rr.1.map fun (x : Nat) => (x : Int)) wh (by simp) (by simp) (by omega) (by omega) (by rw [← iv_nv]; exact owns_Rd (I10.out.own 0 rfl)) (by rw [← iv_nv]; exact owns_Rd (I10.out.own 5 rfl))
  rw [eqI_self] at heq
  have HEQ := Lib.hid heq
  clear heq
  go_wp2_with fail
  refine HEQ.out.mono ?_
  rintro e w' ⟨rfl, m, rfl⟩
  have I11 := Lib.hid (I10.out.drewN (m + 1))
  go_wp2_with fail
  go_region_held3 (fun w' => (w'.heap[wf.heap.size]? = some (.cells #[.int .i64 c, .slice (some ⟨g3, 0, none⟩) n n] 28 (0, 0)) ∧ w'.heap[w.heap.size]? = some (.cells #[.int .i64 c, .slice A n cap] 24 (0, 0))) ∧ w'.cell? ⟨wf.heap.size, 0, none⟩ = some (.int .i64 c) ∧ w'.cell? ⟨wf.heap.size, 1, none⟩ = some (.slice (some ⟨g3, 0, none⟩) n n) ∧ w'.cell? ⟨w.heap.size, 0, none⟩ = some (.int .i64 c) ∧ w'.cell? ⟨w.heap.size, 1, none⟩ = some (.slice A n cap))
      (first
        | (refine two_blks ?_; first | exact ⟨I11.out.box 3 rfl, I11.out.box 9 rfl⟩ | exact ⟨I12.out.box 4 rfl, I12.out.box 10 rfl⟩ | exact ⟨I13.out.box 4 rfl, I13.out.box 10 rfl⟩))
      (first
        | (go_at_call 17; (refine (toMatrix_any c A n cap xs _ Hn.out (by omega) (by exact HR.out.below (I10.out.drewN (m + 1)).bel)).mono ?_); (rintro e wi ⟨g5, rfl, ho, hb⟩; have I12 := Lib.hid (Inv.pushOwn (w := wh.drewN (m + 1)) (I10.out.drewN (m + 1)) hb ho rfl); clear ho hb))
        | (go_at_call 19; (refine (eqMatrix_any c c _ _ n n n n xs xs _ Hn.out Hn.out (by omega) (by omega) (by exact owns_Rd (I12.out.own 5 rfl)) (by exact owns_Rd (I12.out.own 0 rfl))).mono ?_); (rintro e wj ⟨rfl, hb⟩; have I13 := Lib.hid (I12.out.step hb); clear hb)))
  rw [eqMat_self]
  go_wp2_with fail
  go_region_held3 (fun w' => (w'.heap[wg.heap.size]? = some (.cells #[.int .i64 c', .slice (some ⟨g4, 0, none⟩) n' n'] 28 (0, 0)) ∧ w'.heap[w.heap.size + 1]? = some (.cells #[.int .i64 c', .slice A' n' cap'] 24 (0, 0))) ∧ w'.cell? ⟨wg.heap.size, 0, none⟩ = some (.int .i64 c') ∧ w'.cell? ⟨wg.heap.size, 1, none⟩ = some (.slice (some ⟨g4, 0, none⟩) n' n') ∧ w'.cell? ⟨w.heap.size + 1, 0, none⟩ = some (.int .i64 c') ∧ w'.cell? ⟨w.heap.size + 1, 1, none⟩ = some (.slice A' n' cap'))
      (first
        | (refine two_blks ?_; first | exact ⟨I13.out.box 2 rfl, I13.out.box 9 rfl⟩ | exact ⟨I14.out.box 3 rfl, I14.out.box 10 rfl⟩ | exact ⟨I15.out.box 3 rfl, I15.out.box 10 rfl⟩))
      (first
        | (go_at_call 17; (refine (toMatrix_any c' A' n' cap' ys _ Hn'.out (by omega) (by exact HR'.out.below I13.out.drew.bel)).mono ?_); (rintro e wk ⟨g6, rfl, ho, hb⟩; have I14 := Lib.hid (I13.out.drew.pushOwn hb ho rfl); clear ho hb))
        | (go_at_call 19; (refine (eqMatrix_any c' c' _ _ n' n' n' n' ys ys _ Hn'.out Hn'.out (by omega) (by omega) (by exact owns_Rd (I14.out.own 4 rfl)) (by exact owns_Rd (I14.out.own 0 rfl))).mono ?_); (rintro e wl ⟨rfl, hb⟩; have I15 := Lib.hid (I14.out.step hb); clear hb)))
  rw [eqMat_self]
  obtain ⟨l0, l1, _, _, hl1⟩ := blk2cells (I15.out.box 5 rfl)
  have sl := I15.out.size
  clear h0 h1 h2 h3 h4 h5 h6 h7
  go_wp2_with fail
  refine (markMatrix_any _ c _ n xs 1 _ (Nat.le_trans (owns_lo (I15.out.own 6 rfl) g3 rfl) (Nat.le_of_lt (World.ownsRow.lt (I15.out.own 6 rfl) g3 rfl).2)) (I15.out.own 6 rfl) (by omega) (by omega) (by omega)).mono ?_
  rintro e wm ⟨rfl, ho, hk⟩
  have I16 := Lib.hid (I15.out.mark 6 rfl I5.out.size hk ho)
  obtain ⟨m0, m1, _, _, hm1⟩ := blk2cells (I16.out.box 3 rfl)
  clear ho hk l0 l1 hl1
  go_wp2_with fail
  refine (markMatrix_any _ c' _ n' ys (1 + n) _ (Nat.le_trans (owns_lo (I16.out.own 4 rfl) g4 rfl) (Nat.le_of_lt (World.ownsRow.lt (I16.out.own 4 rfl) g4 rfl).2)) (I16.out.own 4 rfl) (by omega) (by omega) (by omega)).mono ?_
  rintro e wn ⟨rfl, ho, hk⟩
  have I17 := Lib.hid (I16.out.mark 4 rfl (by have := I6.out.size; simp; omega) hk ho)
  clear ho hk m0 m1 hm1
  go_wp2_with fail
  have heq2 := eqInts_any Ag A0 rr.1.length rr.1.length kg k0 (rr.1.map fun (x : Nat) => (x : Int)) (rr.1.map fun (x : Nat) => (x : Int)) wn (by simp) (by simp) (by omega) (by omega) (by rw [← iv_nv]; exact owns_Rd (I17.out.own 2 rfl)) (by rw [← iv_nv]; exact owns_Rd (I17.out.own 7 rfl))
  rw [eqI_self] at heq2
  refine heq2.mono ?_
  rintro e w' ⟨rfl, m2, rfl⟩
  have I18 := Lib.hid (I17.out.drewN m2)
  clear heq2
  go_wp2_with fail
  refine (markInts_any _ _ _ (rr.1.map fun (x : Nat) => (x : Int)) 1 _ (by rw [← iv_nv]; exact I18.out.own 2 rfl) (by omega) (by omega) (by omega)).mono ?_
  rintro e wo ⟨rfl, ho, hk⟩
  have I19 := Lib.hid (I18.out.mark 2 rfl (by have := I8.out.size; simp; omega) hk ho)
  clear ho hk
  go_wp2_with fail
  refine (heldInts_any Ag rr.1.length kg 1 wo (owns_Rd (I19.out.own 2 rfl)) (by omega) (by omega) (by omega)).mono ?_
  rintro e w' ⟨rfl, rfl⟩
  obtain ⟨o0, o1, _, _, _⟩ := blk2cells (I19.out.box 10 rfl)
  obtain ⟨o2, o3, _, _, _⟩ := blk2cells (I19.out.box 11 rfl)
  go_wp2_with fail
  go_region_held3 (fun w' => (w'.heap[w.heap.size]? = some (.cells #[.int .i64 c, .slice A n cap] 24 (0, 0)) ∧ w'.heap[w.heap.size + 1]? = some (.cells #[.int .i64 c', .slice A' n' cap'] 24 (0, 0))) ∧ w'.cell? ⟨w.heap.size, 0, none⟩ = some (.int .i64 c) ∧ w'.cell? ⟨w.heap.size, 1, none⟩ = some (.slice A n cap) ∧ w'.cell? ⟨w.heap.size + 1, 0, none⟩ = some (.int .i64 c') ∧ w'.cell? ⟨w.heap.size + 1, 1, none⟩ = some (.slice A' n' cap'))
      (first
        | (refine two_blks ?_; first | exact ⟨I19.out.box 11 rfl, I19.out.box 10 rfl⟩ | exact ⟨I20.out.box 12 rfl, I20.out.box 11 rfl⟩ | exact ⟨I21.out.box 13 rfl, I21.out.box 12 rfl⟩ | exact ⟨I22.out.box 14 rfl, I22.out.box 13 rfl⟩))
      (first
        | (go_at_call 17; (with_reducible refine (toMatrix_any c A n cap xs _ Hn.out (by omega) (by exact HR.out.below I19.out.drew.bel)).mono ?_); (rintro e wp ⟨g7, rfl, ho, hb⟩; have I20 := Lib.hid (I19.out.drew.pushOwn hb ho rfl); clear ho hb))
        | (go_at_call 17; (with_reducible refine (toMatrix_any c' A' n' cap' ys _ Hn'.out (by omega) (by exact HR'.out.below I20.out.bel)).mono ?_); (rintro e wq ⟨g8, rfl, ho, hb⟩; have I21 := Lib.hid (I20.out.pushOwn hb ho rfl); clear ho hb))
        | (go_at_call 27; (with_reducible refine (implComp_any c c' _ _ n n' n n' xs ys _ (HT.out.below I21.out.bel hw) (by have := I21.out.size; omega) Hn.out Hn'.out (by omega) (by omega) (by exact owns_Rd (I21.out.own 1 rfl)) (by exact owns_Rd (I21.out.own 0 rfl))).mono ?_); (rintro e wr ⟨vh, rfl, ho, hb⟩; rw [HRR.out] at ho ⊢; have I22 := Lib.hid (I21.out.pushOwn hb ho rfl); clear ho hb)))
  obtain ⟨Ah, kh, rfl, _, _, _⟩ := owns_shape (I22.out.own 0 rfl)
  go_wp2_with fail
  have heq3 := eqInts_any Ah A0 rr.1.length rr.1.length kh k0 (rr.1.map fun (x : Nat) => (x : Int)) (rr.1.map fun (x : Nat) => (x : Int)) wr (by simp) (by simp) (by omega) (by omega) (by rw [← iv_nv]; exact owns_Rd (I22.out.own 0 rfl)) (by rw [← iv_nv]; exact owns_Rd (I22.out.own 10 rfl))
  rw [eqI_self] at heq3
  refine heq3.mono ?_
  rintro e w' ⟨rfl, m3, rfl⟩
  have I23 := Lib.hid (I22.out.drewN m3)
  clear heq3
  go_wp2_with fail
  refine (heldInts_any Ag rr.1.length kg 1 _ (owns_Rd (I23.out.own 5 rfl)) (by omega) (by omega) (by omega)).mono ?_
  rintro e w' ⟨rfl, rfl⟩
  go_wp2_with fail
  go_ret
  exact ⟨rfl, I23.out.bel⟩
end Go.Proofs.YtchmplpgamekjaaDoor
