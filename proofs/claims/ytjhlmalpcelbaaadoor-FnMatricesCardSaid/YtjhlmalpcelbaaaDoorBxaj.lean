/- FnSpaces: the walk of the law · arguments opened: a struct of an int and a slice of ints · arguments opened: a slice of bytes -/
import Derived.Test.YtjhlmalpcelbaaaDoorBxah
import Derived.Test.YtjhlmalpcelbaaaDoorBxai
import Derived.Test.YtjhlmalpcelbaaaDoorBxaf
import Derived.Test.YtjhlmalpcelbaaaDoorBxae
import Derived.Test.YtjhlmalpcelbaaaDoorBxaa
import Derived.ProofKit
import Derived.Lib.SmallJoins
import Derived.Test.YtjhlmalpcelbaaaDoorBxac
set_option linter.all false
namespace Go.Proofs.YtjhlmalpcelbaaaDoor
open Go.RowKit

theorem matrix9_same (c : Int) (A A' : Option Addr) (cap cap' : Nat) (S : List Nat) (w : World) (hsm : S.length ≤ 1099511627776) (hR : Rd w A (nv S)) (hR' : Rd w A' (nv S)) :
    Calls Tryd.prog 10 #[.agg #[.int .i64 c, .slice A S.length cap], .agg #[.int .i64 c, .slice A' S.length cap']] w fun e w' => e = .returned (.bool true) ∧ Below w.heap.size w w' := by
  have h := matrix9_any c c A A' S.length S.length cap cap' (nI S) (nI S) w (nI_length S).symm (nI_length S).symm hsm hsm (by rw [← nv_nI]; exact hR) (by rw [← nv_nI]; exact hR')
  rwa [eqMat_self] at h
theorem likeInts_same (A A' : Option Addr) (cap cap' : Nat) (S : List Nat) (w : World) (hsm : S.length ≤ 1099511627776) (hR : Rd w A (nv S)) (hR' : Rd w A' (nv S)) :
    Calls Tryd.prog 15 #[.slice A S.length cap, .slice A' S.length cap'] w fun e w' => e = .returned (.bool true) ∧ ∃ m, w.drewN m = w' := by
  have h := likeInts_any A A' S.length S.length cap cap' (nI S) (nI S) w (nI_length S).symm (nI_length S).symm hsm hsm (by rw [← nv_nI]; exact hR) (by rw [← nv_nI]; exact hR')
  rwa [show eqI (nI S) (nI S) = true by simp [eqI]] at h
theorem comp_len (c : Int) (xs : List Int) (c' : Int) (ys : List Int) : (compOf c xs c' ys).1.length ≤ 1000 := by
  unfold compOf
  split
  · rename_i h
    obtain ⟨h1, h2, _⟩ := bothOf_zero h
    have h3 := (compK_inv (red_reduce (isMat_sm h1)) (isMat_sm h2) (toN ys).length (Nat.le_refl _)).2.2.1
    have h4 : (toN ys).length ≤ 200 := by
      unfold isMat at h2
      simp only [Bool.and_eq_true, decide_eq_true_eq] at h2
      simpa [toN] using h2.2.1
    exact Nat.le_trans h3 (by omega)
  · simp

set_option maxRecDepth 100000 in
set_option maxHeartbeats 16000000 in
theorem lawSpaces_any (A : Option Addr) (n c : Nat) (bs : List Nat) (w : World) (hT : Tab w) (hw : 0 < w.heap.size) (hn : n = bs.length) (hby : ∀ b ∈ bs, b < 256) (hR : Rd w A (bv bs)) (hlt : ∀ a, A = some a → a.block < w.heap.size) :
    Calls Tryd.prog 3 #[.slice A n c] w fun e w' => e = .returned (.bool true) ∧ Below w.heap.size w w' := by
  have HG := fun W => big_any A n c W
  by_cases hbig : 4096 < n
  · rw [show decide (4096 < n) = true by simpa using hbig] at HG
    clear hT hn hby hR hlt hbig
    go_enter Tryd.func3, Tryd.ntmps3
    go_wp2_with fail
    refine (HG _).mono ?_
    rintro e w1 ⟨rfl, rfl⟩
    go_wp2_with fail
    go_ret
    exact ⟨rfl, Below.refl _ _⟩
  · rw [show decide (4096 < n) = false by simpa using hbig] at HG
    have HD := Lib.hid (drawSum_any A n c bs w hn (by omega) hby hR hlt)
    have HT := Lib.hid hT
    clear hT hn hby hR hlt hbig
    go_enter Tryd.func3, Tryd.ntmps3
    go_wp2_with fail
    refine (HG _).mono ?_
    rintro e w0 ⟨rfl, rfl⟩
    clear HG
    go_wp2_with fail
    refine HD.out.mono ?_
    rintro e w1 ⟨c1, c2, A1, A2, k1, k2, xs, ys, rfl, hr1, hr2, _, _, hl1, hl2, hb⟩
    have HB := Lib.hid hb
    have HR1 := Lib.hid hr1
    have HR2 := Lib.hid hr2
    have HT1 := Lib.hid (HT.out.below hb hw)
    have hw1 : 0 < w1.heap.size := Nat.lt_of_lt_of_le hw hb.size
    clear hr1 hr2 hb HD HT
    obtain ⟨rs, HRS⟩ : ∃ rs, Hid (sumOf c1 xs c2 ys = rs) := ⟨_, Lib.hid rfl⟩
    obtain ⟨rm, HRM⟩ : ∃ rm, Hid (meetOf c1 xs c2 ys = rm) := ⟨_, Lib.hid rfl⟩
    obtain ⟨rc, HRC⟩ : ∃ rc, Hid (compOf c1 xs c2 ys = rc) := ⟨_, Lib.hid rfl⟩
    have hls : rs.2.1.length ≤ 1000 := by rw [← HRS.out]; exact sumOf_len _ _ _ _
    have hlm : rm.2.1.length ≤ 1000 := by rw [← HRM.out]; exact meetOf_len _ _ _ _
    have hlc : rc.1.length ≤ 1000 := by rw [← HRC.out]; exact comp_len _ _ _ _
    have hI := ((Inv.start w1).allocBox #[.int .i64 c1, .slice A1 xs.length k1] 26 rfl).allocBox #[.int .i64 c2, .slice A2 ys.length k2] 26 rfl
    rw [show (w1.alloc (.cells #[.int .i64 c1, .slice A1 xs.length k1] 26)).heap.size = w1.heap.size + 1 by simp] at hI
    have I0 := Lib.hid hI
    clear hI
    obtain ⟨a0, a1, _, _, _⟩ := blk2cells (I0.out.box 1 rfl)
    obtain ⟨b0, b1, _, _, _⟩ := blk2cells (I0.out.box 0 rfl)
    have HC1 := Lib.hid (implSum_any c1 c2 A1 A2 xs.length ys.length k1 k2 xs ys _ (HT1.out.below I0.out.bel hw1) (by simp) rfl rfl (by omega) (by omega) (HR1.out.below I0.out.bel) (HR2.out.below I0.out.bel))
    rw [HRS.out] at HC1
    go_wp2_with fail
    refine HC1.out.mono ?_
    rintro e w2 ⟨v, rfl, ho, hb⟩
    obtain ⟨A5, k5, rfl, _, _, _⟩ := owns_shape ho
    have I1 := Lib.hid ((I0.out.pushOwn hb ho rfl).allocBox #[.int .i64 rs.1, .slice A5 rs.2.1.length k5] 26 rfl)
    clear ho hb HC1 a0 a1 b0 b1
    obtain ⟨a0, a1, _, _, _⟩ := blk2cells (I1.out.box 3 rfl)
    obtain ⟨b0, b1, _, _, _⟩ := blk2cells (I1.out.box 2 rfl)
    have HC2 := Lib.hid (specSum_any c1 c2 A1 A2 xs.length ys.length k1 k2 xs ys _ rfl rfl (by omega) (by omega) (HR1.out.below I1.out.bel) (HR2.out.below I1.out.bel))
    rw [HRS.out] at HC2
    go_wp2_with fail
    refine HC2.out.mono ?_
    rintro e w3 ⟨v, rfl, ho, hb⟩
    obtain ⟨A7, k7, rfl, _, _, _⟩ := owns_shape ho
    have I2 := Lib.hid ((I1.out.pushOwn hb ho rfl).allocBox #[.int .i64 rs.1, .slice A7 rs.2.1.length k7] 26 rfl)
    clear ho hb HC2 a0 a1 b0 b1
    obtain ⟨a0, a1, _, _, _⟩ := blk2cells (I2.out.box 2 rfl)
    obtain ⟨b0, b1, _, _, _⟩ := blk2cells (I2.out.box 0 rfl)
    have HC3 := Lib.hid (matrix9_same rs.1 A5 A7 k5 k7 rs.2.1 _ (by omega) (owns_Rd (I2.out.own 3 rfl)) (owns_Rd (I2.out.own 1 rfl)))
    go_wp2_with fail
    refine HC3.out.mono ?_
    rintro e w4 ⟨rfl, hb⟩
    have I3 := Lib.hid (I2.out.step hb)
    clear hb HC3 a0 a1 b0 b1
    obtain ⟨a0, a1, _, _, _⟩ := blk2cells (I3.out.box 5 rfl)
    obtain ⟨b0, b1, _, _, _⟩ := blk2cells (I3.out.box 4 rfl)
    have HC4 := Lib.hid (implMeet_any c1 c2 A1 A2 xs.length ys.length k1 k2 xs ys _ (HT1.out.below I3.out.bel hw1) (Nat.lt_of_lt_of_le hw1 I3.out.size) rfl rfl (by omega) (by omega) (HR1.out.below I3.out.bel) (HR2.out.below I3.out.bel))
    rw [HRM.out] at HC4
    go_wp2_with fail
    refine HC4.out.mono ?_
    rintro e w5 ⟨v, rfl, ho, hb⟩
    obtain ⟨A9, k9, rfl, _, _, _⟩ := owns_shape ho
    have I4 := Lib.hid ((I3.out.pushOwn hb ho rfl).allocBox #[.int .i64 rm.1, .slice A9 rm.2.1.length k9] 26 rfl)
    clear ho hb HC4 a0 a1 b0 b1
    obtain ⟨a0, a1, _, _, _⟩ := blk2cells (I4.out.box 7 rfl)
    obtain ⟨b0, b1, _, _, _⟩ := blk2cells (I4.out.box 6 rfl)
    have HC5 := Lib.hid (specMeet_any c1 c2 A1 A2 xs.length ys.length k1 k2 xs ys _ rfl rfl (by omega) (by omega) (HR1.out.below I4.out.bel) (HR2.out.below I4.out.bel))
    rw [HRM.out] at HC5
    go_wp2_with fail
    refine HC5.out.mono ?_
    rintro e w6 ⟨v, rfl, ho, hb⟩
    obtain ⟨A11, k11, rfl, _, _, _⟩ := owns_shape ho
    have I5 := Lib.hid ((I4.out.pushOwn hb ho rfl).allocBox #[.int .i64 rm.1, .slice A11 rm.2.1.length k11] 26 rfl)
    clear ho hb HC5 a0 a1 b0 b1
    obtain ⟨a0, a1, _, _, _⟩ := blk2cells (I5.out.box 2 rfl)
    obtain ⟨b0, b1, _, _, _⟩ := blk2cells (I5.out.box 0 rfl)
    have HC6 := Lib.hid (matrix9_same rm.1 A9 A11 k9 k11 rm.2.1 _ (by omega) (owns_Rd (I5.out.own 3 rfl)) (owns_Rd (I5.out.own 1 rfl)))
    go_wp2_with fail
    refine HC6.out.mono ?_
    rintro e w7 ⟨rfl, hb⟩
    have I6 := Lib.hid (I5.out.step hb)
    clear hb HC6 a0 a1 b0 b1
    obtain ⟨a0, a1, _, _, _⟩ := blk2cells (I6.out.box 9 rfl)
    obtain ⟨b0, b1, _, _, _⟩ := blk2cells (I6.out.box 8 rfl)
    have HC7 := Lib.hid (implComp_any c1 c2 A1 A2 xs.length ys.length k1 k2 xs ys _ (HT1.out.below I6.out.bel hw1) (Nat.lt_of_lt_of_le hw1 I6.out.size) rfl rfl (by omega) (by omega) (HR1.out.below I6.out.bel) (HR2.out.below I6.out.bel))
    rw [HRC.out] at HC7
    go_wp2_with fail
    refine HC7.out.mono ?_
    rintro e w8 ⟨v, rfl, ho, hb⟩
    obtain ⟨A13, k13, rfl, _, _, _⟩ := owns_shape ho
    have I7 := Lib.hid (I6.out.pushOwn hb ho rfl)
    clear ho hb HC7 a0 a1 b0 b1
    obtain ⟨a0, a1, _, _, _⟩ := blk2cells (I7.out.box 10 rfl)
    obtain ⟨b0, b1, _, _, _⟩ := blk2cells (I7.out.box 9 rfl)
    have HC8 := Lib.hid (specComp_any c1 c2 A1 A2 xs.length ys.length k1 k2 xs ys _ rfl rfl (by omega) (by omega) (HR1.out.below I7.out.bel) (HR2.out.below I7.out.bel))
    rw [HRC.out] at HC8
    go_wp2_with fail
    refine HC8.out.mono ?_
    rintro e w9 ⟨v, rfl, ho, hb⟩
    obtain ⟨A15, k15, rfl, _, _, _⟩ := owns_shape ho
    have I8 := Lib.hid (I7.out.pushOwn hb ho rfl)
    clear ho hb HC8 a0 a1 b0 b1
    have HC9 := Lib.hid (likeInts_same A13 A15 k13 k15 rc.1 _ (by omega) (owns_Rd (I8.out.own 1 rfl)) (owns_Rd (I8.out.own 0 rfl)))
    go_wp2_with fail
    refine HC9.out.mono ?_
    rintro e wx ⟨rfl, m, hm⟩
    have I9 := Lib.hid (hm ▸ I8.out.drewN m)
    clear hm HC9
    by_cases h0 : bothOf c1 xs c2 ys = 0
    · obtain ⟨hx, hy, rfl⟩ := bothOf_zero h0
      have es := HRS.out
      have em := HRM.out
      have ec := HRC.out
      unfold sumOf at es
      unfold meetOf at em
      unfold compOf at ec
      rw [if_pos h0] at es em ec
      obtain ⟨ra, hra⟩ : ∃ ra : Nat, rankOf c1 xs = ((ra : Int), 0) := ⟨(reduceS (toN xs)).length, by unfold rankOf; rw [if_pos hx]⟩
      obtain ⟨rb, hrb⟩ : ∃ rb : Nat, rankOf c1 ys = ((rb : Int), 0) := ⟨(reduceS (toN ys)).length, by unfold rankOf; rw [if_pos hy]⟩
      have hsum : (ra : Int) + rb = rs.2.1.length + rm.2.1.length := by
        have := rank_sum hx hy
        rw [hra, hrb] at this
        rw [← es, ← em]
        exact this
      have hcomp : (ra : Int) + rc.1.length = rs.2.1.length := by
        have := rank_comp (ys := ys) hx
        rw [hra] at this
        rw [← es, ← ec]
        exact this
      have HH : Hid (∀ i, i < rm.2.1.length → hasOf c1 xs ((rm.2.1.getD i 0 : Nat) : Int) = (true, 0) ∧ hasOf c1 ys ((rm.2.1.getD i 0 : Nat) : Int) = (true, 0)) := Lib.hid (by
        intro i hi
        have : rm.2.1.getD i 0 ∈ rm.2.1 := by rw [List.getD_eq_getElem?_getD, List.getElem?_eq_getElem hi]; exact List.getElem_mem hi
        rw [← em] at this ⊢
        exact has_meet hx hy this)
      have q6 : rs.2.2 = 0 := by rw [← es]
      have q10 : rm.2.2 = 0 := by rw [← em]
      have q14 : rc.2 = 0 := by rw [← ec]
      clear es em ec HRS HRM HRC h0
      rw [q6, q10, q14]
      obtain ⟨a0, a1, _, _, _⟩ := blk2cells (I9.out.box 11 rfl)
      have HC10 := Lib.hid (implRank_any c1 A1 xs.length k1 xs _ (HT1.out.below I9.out.bel hw1) (Nat.lt_of_lt_of_le hw1 I9.out.size) rfl (by omega) (HR1.out.below I9.out.bel))
      rw [hra] at HC10
      go_wp2_with fail
      refine HC10.out.mono ?_
      rintro e w10 ⟨rfl, hb⟩
      have I10 := Lib.hid (I9.out.step hb)
      clear hb HC10 a0 a1
      obtain ⟨b0, b1, _, _, _⟩ := blk2cells (I10.out.box 10 rfl)
      have HC11 := Lib.hid (implRank_any c1 A2 ys.length k2 ys _ (HT1.out.below I10.out.bel hw1) (Nat.lt_of_lt_of_le hw1 I10.out.size) rfl (by omega) (HR2.out.below I10.out.bel))
      rw [hrb] at HC11
      go_wp2_with fail
      refine HC11.out.mono ?_
      rintro e w11 ⟨rfl, hb⟩
      have I11 := Lib.hid (I10.out.step hb)
      clear hb HC11 b0 b1 I0 I1 I2 I3 I4 I5 I6 I7 I8 I9 I10
      obtain ⟨m0, m1, _, _, _⟩ := blk2cells (I11.out.box 4 rfl)
      go_wp2_with fail
      go_loopw [21] (fun i wr => ∃ k : Nat, k ≤ rm.2.1.length ∧ i = .int .i64 k ∧ Below w11.heap.size w11 wr) (fun i _ => rm.2.1.length - (intOf i).toNat)
      case atStart => exact ⟨0, by omega, rfl, Below.refl _ _⟩
      case round =>
        obtain ⟨k, hk, rfl, hbr⟩ := hrel
        have IR := Lib.hid (I11.out.step hbr)
        have HBR := Lib.hid hbr
        clear hbr
        obtain ⟨m0, m1, _, _, _⟩ := blk2cells (IR.out.box 4 rfl)
        by_cases hlt : k < rm.2.1.length
        · have HKQ := Lib.hid (HH.out k hlt)
          have hlti : (k : Int) < (rm.2.1.length : Int) := by omega
          obtain ⟨mb, mo, rfl, hmc⟩ := (owns_Rd (IR.out.own 5 rfl)).atN hlt
          generalize rm.2.1.getD k 0 = z at *
          obtain ⟨a0, a1, _, _, _⟩ := blk2cells (IR.out.box 11 rfl)
          have KS : Hid (∀ w', Below wr.drew.heap.size wr.drew w' → (w'.cell? ⟨w1.heap.size, 0, none⟩ = some (.int .i64 c1) ∧ w'.cell? ⟨w1.heap.size, 1, none⟩ = some (.slice A1 xs.length k1)) ∧ (w'.cell? ⟨w5.heap.size, 1, none⟩ = some (.slice (some ⟨mb, mo, none⟩) rm.2.1.length k9) ∧ w'.cell? ⟨mb, mo + k, none⟩ = some (.int .i64 (z : Int)))) := Lib.hid fun w' hb => ⟨⟨cell_keepD (w := wr.drew) a0 hb, cell_keepD (w := wr.drew) a1 hb⟩, ⟨cell_keepD (w := wr.drew) m1 hb, cell_keepD (w := wr.drew) hmc hb⟩⟩
          go_wp2_with fail
          refine wp_region_held_drew (S := (fun w' => (w'.cell? ⟨w1.heap.size, 0, none⟩ = some (.int .i64 c1) ∧ w'.cell? ⟨w1.heap.size, 1, none⟩ = some (.slice A1 xs.length k1)) ∧ (w'.cell? ⟨w5.heap.size, 1, none⟩ = some (.slice (some ⟨mb, mo, none⟩) rm.2.1.length k9) ∧ w'.cell? ⟨mb, mo + k, none⟩ = some (.int .i64 (z : Int))))) (by kernel_rfl) (by (first | exact KS.out _ (Below.refl _ _) | exact KS.out _ HBH.out)) (fun hHeld => ?_)
          refine wpAnyH_take (i := 0) (oi := ?oim2_1) (v := ?vm2_1) ?hm2_1 (by kernel_rfl) (by kernel_rfl) (by kernel_rfl) ?qm2_1 (Or.inl ⟨?wm2_1, ?ym2_1⟩) (by assumption) ?rm2_1
          case hm2_1 => (simp only [List.getElem?_toArray, List.getElem?_cons_succ, List.getElem?_cons_zero]; rfl)
          case qm2_1 => exact fun _ _ _ h => h
          case wm2_1 => rfl
          case ym2_1 => (intro w hSw; (try dsimp only at hSw); go_simp <;> with_reducible rfl)
          try simp only [Act.put, List.setIfInBounds_toArray, List.set_cons_zero, List.set_cons_succ]
          refine wpAnyH_take (i := 1) (oi := ?oim2_2) (v := ?vm2_2) ?hm2_2 (by kernel_rfl) (by kernel_rfl) (by kernel_rfl) ?qm2_2 (Or.inl ⟨?wm2_2, ?ym2_2⟩) (by assumption) ?rm2_2
          case hm2_2 => (simp only [List.getElem?_toArray, List.getElem?_cons_succ, List.getElem?_cons_zero]; rfl)
          case qm2_2 => exact fun _ _ _ h => h
          case wm2_2 => rfl
          case ym2_2 => (intro w hSw; (try dsimp only at hSw); go_simp <;> with_reducible rfl)
          try simp only [Act.put, List.setIfInBounds_toArray, List.set_cons_zero, List.set_cons_succ]
          refine wpAnyH_take (i := 2) (oi := ?oim2_3) (v := ?vm2_3) ?hm2_3 (by kernel_rfl) (by kernel_rfl) (by kernel_rfl) ?qm2_3 (Or.inl ⟨?wm2_3, ?ym2_3⟩) (by assumption) ?rm2_3
          case hm2_3 => (simp only [List.getElem?_toArray, List.getElem?_cons_succ, List.getElem?_cons_zero]; rfl)
          case qm2_3 => exact fun _ _ _ h => h
          case wm2_3 => rfl
          case ym2_3 => (intro w hSw; (try dsimp only at hSw); go_simp <;> with_reducible rfl)
          try simp only [Act.put, List.setIfInBounds_toArray, List.set_cons_zero, List.set_cons_succ]
          refine wpAnyH_take (i := 3) (oi := ?oim2_4) (v := ?vm2_4) ?hm2_4 (by kernel_rfl) (by kernel_rfl) (by kernel_rfl) ?qm2_4 (Or.inl ⟨?wm2_4, ?ym2_4⟩) (by assumption) ?rm2_4
          case hm2_4 => (simp only [List.getElem?_toArray, List.getElem?_cons_succ, List.getElem?_cons_zero]; rfl)
          case qm2_4 => exact fun _ _ _ h => h
          case wm2_4 => rfl
          case ym2_4 => (intro w hSw; (try dsimp only at hSw); go_simp <;> with_reducible rfl)
          try simp only [Act.put, List.setIfInBounds_toArray, List.set_cons_zero, List.set_cons_succ]
          refine wpAnyH_take (i := 4) (oi := ?oim2_5) (v := ?vm2_5) ?hm2_5 (by kernel_rfl) (by kernel_rfl) (by kernel_rfl) ?qm2_5 (Or.inl ⟨?wm2_5, ?ym2_5⟩) (by assumption) ?rm2_5
          case hm2_5 => (simp only [List.getElem?_toArray, List.getElem?_cons_succ, List.getElem?_cons_zero]; rfl)
          case qm2_5 => exact fun _ _ _ h => h
          case wm2_5 => rfl
          case ym2_5 => (intro w hSw; (try dsimp only at hSw); go_simp <;> with_reducible rfl)
          try simp only [Act.put, List.setIfInBounds_toArray, List.set_cons_zero, List.set_cons_succ]
          refine wpAnyH_take (i := 5) (oi := ?oim2_6) (v := ?vm2_6) ?hm2_6 (by kernel_rfl) (by kernel_rfl) (by kernel_rfl) ?qm2_6 (Or.inl ⟨?wm2_6, ?ym2_6⟩) (by assumption) ?rm2_6
          case hm2_6 => (simp only [List.getElem?_toArray, List.getElem?_cons_succ, List.getElem?_cons_zero]; rfl)
          case qm2_6 => exact fun _ _ _ h => h
          case wm2_6 => rfl
          case ym2_6 => (intro w hSw; (try dsimp only at hSw); go_simp <;> with_reducible rfl)
          try simp only [Act.put, List.setIfInBounds_toArray, List.set_cons_zero, List.set_cons_succ]
          refine wpAnyH_ready (rs := [6]) (by kernel_rfl) (by simp) ?_
          refine AllReadyH.cons (o := ?oim2_7) ?hm2_7 (fun K hK => ?km2_7) ?mm2_7
          case hm2_7 => (simp only [List.getElem?_toArray, List.getElem?_cons_succ, List.getElem?_cons_zero]; rfl)
          case km2_7 =>
            go_simp
            (go_at_call 17); refine (implHas_any c1 A1 xs.length k1 xs _ wr.drew (HT1.out.below (IR.out.drew).bel hw1) (Nat.lt_of_lt_of_le hw1 IR.out.drew.size) rfl (by omega) (HR1.out.below (IR.out.drew).bel)).mono ?_; rintro e wh ⟨rfl, hbh⟩; rw [HKQ.out.1]; have HBH := Lib.hid hbh; clear hbh
            refine hK.out _ _ (by (first | exact KS.out _ (Below.refl _ _) | exact KS.out _ HBH.out)) (fun hHeld => ?_)
            clear hK K
            try simp only [Act.put, List.setIfInBounds_toArray, List.set_cons_zero, List.set_cons_succ]
            refine wpAnyH_take (i := 7) (oi := ?oim2_8) (v := ?vm2_8) ?hm2_8 (by kernel_rfl) (by kernel_rfl) (by kernel_rfl) ?qm2_8 (Or.inl ⟨?wm2_8, ?ym2_8⟩) (by assumption) ?rm2_8
            case hm2_8 => (simp only [List.getElem?_toArray, List.getElem?_cons_succ, List.getElem?_cons_zero]; rfl)
            case qm2_8 => exact fun _ _ _ h => h
            case wm2_8 => rfl
            case ym2_8 => (intro w hSw; (try dsimp only at hSw); go_simp <;> with_reducible rfl)
            try simp only [Act.put, List.setIfInBounds_toArray, List.set_cons_zero, List.set_cons_succ]
            refine wpAnyH_take (i := 8) (oi := ?oim2_9) (v := ?vm2_9) ?hm2_9 (by kernel_rfl) (by kernel_rfl) (by kernel_rfl) ?qm2_9 (Or.inl ⟨?wm2_9, ?ym2_9⟩) (by assumption) ?rm2_9
            case hm2_9 => (simp only [List.getElem?_toArray, List.getElem?_cons_succ, List.getElem?_cons_zero]; rfl)
            case qm2_9 => exact fun _ _ _ h => h
            case wm2_9 => rfl
            case ym2_9 => (intro w hSw; (try dsimp only at hSw); go_simp <;> with_reducible rfl)
            try simp only [Act.put, List.setIfInBounds_toArray, List.set_cons_zero, List.set_cons_succ]
            refine wpAnyH_take (i := 9) (oi := ?oim2_10) (v := ?vm2_10) ?hm2_10 (by kernel_rfl) (by kernel_rfl) (by kernel_rfl) ?qm2_10 (Or.inl ⟨?wm2_10, ?ym2_10⟩) (by assumption) ?rm2_10
            case hm2_10 => (simp only [List.getElem?_toArray, List.getElem?_cons_succ, List.getElem?_cons_zero]; rfl)
            case qm2_10 => exact fun _ _ _ h => h
            case wm2_10 => rfl
            case ym2_10 => (intro w hSw; (try dsimp only at hSw); go_simp <;> with_reducible rfl)
            try simp only [Act.put, List.setIfInBounds_toArray, List.set_cons_zero, List.set_cons_succ]
            refine wpAnyH_take (i := 10) (oi := ?oim2_11) (v := ?vm2_11) ?hm2_11 (by kernel_rfl) (by kernel_rfl) (by kernel_rfl) ?qm2_11 (Or.inl ⟨?wm2_11, ?ym2_11⟩) (by assumption) ?rm2_11
            case hm2_11 => (simp only [List.getElem?_toArray, List.getElem?_cons_succ, List.getElem?_cons_zero]; rfl)
            case qm2_11 => exact fun _ _ _ h => h
            case wm2_11 => rfl
            case ym2_11 => (intro w hSw; (try dsimp only at hSw); go_simp <;> with_reducible rfl)
            try simp only [Act.put, List.setIfInBounds_toArray, List.set_cons_zero, List.set_cons_succ]
            refine wpAnyH_take (i := 11) (oi := ?oim2_12) (v := ?vm2_12) ?hm2_12 (by kernel_rfl) (by kernel_rfl) (by kernel_rfl) ?qm2_12 (Or.inl ⟨?wm2_12, ?ym2_12⟩) (by assumption) ?rm2_12
            case hm2_12 => (simp only [List.getElem?_toArray, List.getElem?_cons_succ, List.getElem?_cons_zero]; rfl)
            case qm2_12 => exact fun _ _ _ h => h
            case wm2_12 => rfl
            case ym2_12 => (intro w hSw; (try dsimp only at hSw); go_simp <;> with_reducible rfl)
            try simp only [Act.put, List.setIfInBounds_toArray, List.set_cons_zero, List.set_cons_succ]
            refine wpAnyH_done (by kernel_rfl) ?_ _
            have IS := Lib.hid (IR.out.drew.step HBH.out)
            have HBS := Lib.hid ((HBR.out.drew).trans (HBH.out.mono HBR.out.size))
            have hmc := cell_keepD (w := wr.drew) hmc HBH.out
            clear HBH IR KS a0 a1 m0 m1
            obtain ⟨m0, m1, _, _, _⟩ := blk2cells (IS.out.box 4 rfl)
            obtain ⟨a0, a1, _, _, _⟩ := blk2cells (IS.out.box 10 rfl)
            have KS : Hid (∀ w', Below wh.drew.heap.size wh.drew w' → (w'.cell? ⟨w1.heap.size + 1, 0, none⟩ = some (.int .i64 c1) ∧ w'.cell? ⟨w1.heap.size + 1, 1, none⟩ = some (.slice A2 ys.length k2)) ∧ (w'.cell? ⟨w5.heap.size, 1, none⟩ = some (.slice (some ⟨mb, mo, none⟩) rm.2.1.length k9) ∧ w'.cell? ⟨mb, mo + k, none⟩ = some (.int .i64 (z : Int)))) := Lib.hid fun w' hb => ⟨⟨cell_keepD (w := wh.drew) a0 hb, cell_keepD (w := wh.drew) a1 hb⟩, ⟨cell_keepD (w := wh.drew) m1 hb, cell_keepD (w := wh.drew) hmc hb⟩⟩
            go_wp2_with fail
            refine wp_region_held_drew (S := (fun w' => (w'.cell? ⟨w1.heap.size + 1, 0, none⟩ = some (.int .i64 c1) ∧ w'.cell? ⟨w1.heap.size + 1, 1, none⟩ = some (.slice A2 ys.length k2)) ∧ (w'.cell? ⟨w5.heap.size, 1, none⟩ = some (.slice (some ⟨mb, mo, none⟩) rm.2.1.length k9) ∧ w'.cell? ⟨mb, mo + k, none⟩ = some (.int .i64 (z : Int))))) (by kernel_rfl) (by (first | exact KS.out _ (Below.refl _ _) | exact KS.out _ HBH.out)) (fun hHeld => ?_)
            refine wpAnyH_take (i := 0) (oi := ?oim1_1) (v := ?vm1_1) ?hm1_1 (by kernel_rfl) (by kernel_rfl) (by kernel_rfl) ?qm1_1 (Or.inl ⟨?wm1_1, ?ym1_1⟩) (by assumption) ?rm1_1
            case hm1_1 => (simp only [List.getElem?_toArray, List.getElem?_cons_succ, List.getElem?_cons_zero]; rfl)
            case qm1_1 => exact fun _ _ _ h => h
            case wm1_1 => rfl
            case ym1_1 => (intro w hSw; (try dsimp only at hSw); go_simp <;> with_reducible rfl)
            try simp only [Act.put, List.setIfInBounds_toArray, List.set_cons_zero, List.set_cons_succ]
            refine wpAnyH_take (i := 1) (oi := ?oim1_2) (v := ?vm1_2) ?hm1_2 (by kernel_rfl) (by kernel_rfl) (by kernel_rfl) ?qm1_2 (Or.inl ⟨?wm1_2, ?ym1_2⟩) (by assumption) ?rm1_2
            case hm1_2 => (simp only [List.getElem?_toArray, List.getElem?_cons_succ, List.getElem?_cons_zero]; rfl)
            case qm1_2 => exact fun _ _ _ h => h
            case wm1_2 => rfl
            case ym1_2 => (intro w hSw; (try dsimp only at hSw); go_simp <;> with_reducible rfl)
            try simp only [Act.put, List.setIfInBounds_toArray, List.set_cons_zero, List.set_cons_succ]
            refine wpAnyH_take (i := 2) (oi := ?oim1_3) (v := ?vm1_3) ?hm1_3 (by kernel_rfl) (by kernel_rfl) (by kernel_rfl) ?qm1_3 (Or.inl ⟨?wm1_3, ?ym1_3⟩) (by assumption) ?rm1_3
            case hm1_3 => (simp only [List.getElem?_toArray, List.getElem?_cons_succ, List.getElem?_cons_zero]; rfl)
            case qm1_3 => exact fun _ _ _ h => h
            case wm1_3 => rfl
            case ym1_3 => (intro w hSw; (try dsimp only at hSw); go_simp <;> with_reducible rfl)
            try simp only [Act.put, List.setIfInBounds_toArray, List.set_cons_zero, List.set_cons_succ]
            refine wpAnyH_take (i := 3) (oi := ?oim1_4) (v := ?vm1_4) ?hm1_4 (by kernel_rfl) (by kernel_rfl) (by kernel_rfl) ?qm1_4 (Or.inl ⟨?wm1_4, ?ym1_4⟩) (by assumption) ?rm1_4
            case hm1_4 => (simp only [List.getElem?_toArray, List.getElem?_cons_succ, List.getElem?_cons_zero]; rfl)
            case qm1_4 => exact fun _ _ _ h => h
            case wm1_4 => rfl
            case ym1_4 => (intro w hSw; (try dsimp only at hSw); go_simp <;> with_reducible rfl)
            try simp only [Act.put, List.setIfInBounds_toArray, List.set_cons_zero, List.set_cons_succ]
            refine wpAnyH_take (i := 4) (oi := ?oim1_5) (v := ?vm1_5) ?hm1_5 (by kernel_rfl) (by kernel_rfl) (by kernel_rfl) ?qm1_5 (Or.inl ⟨?wm1_5, ?ym1_5⟩) (by assumption) ?rm1_5
            case hm1_5 => (simp only [List.getElem?_toArray, List.getElem?_cons_succ, List.getElem?_cons_zero]; rfl)
            case qm1_5 => exact fun _ _ _ h => h
            case wm1_5 => rfl
            case ym1_5 => (intro w hSw; (try dsimp only at hSw); go_simp <;> with_reducible rfl)
            try simp only [Act.put, List.setIfInBounds_toArray, List.set_cons_zero, List.set_cons_succ]
            refine wpAnyH_take (i := 5) (oi := ?oim1_6) (v := ?vm1_6) ?hm1_6 (by kernel_rfl) (by kernel_rfl) (by kernel_rfl) ?qm1_6 (Or.inl ⟨?wm1_6, ?ym1_6⟩) (by assumption) ?rm1_6
            case hm1_6 => (simp only [List.getElem?_toArray, List.getElem?_cons_succ, List.getElem?_cons_zero]; rfl)
            case qm1_6 => exact fun _ _ _ h => h
            case wm1_6 => rfl
            case ym1_6 => (intro w hSw; (try dsimp only at hSw); go_simp <;> with_reducible rfl)
            try simp only [Act.put, List.setIfInBounds_toArray, List.set_cons_zero, List.set_cons_succ]
            refine wpAnyH_ready (rs := [6]) (by kernel_rfl) (by simp) ?_
            refine AllReadyH.cons (o := ?oim1_7) ?hm1_7 (fun K hK => ?km1_7) ?mm1_7
            case hm1_7 => (simp only [List.getElem?_toArray, List.getElem?_cons_succ, List.getElem?_cons_zero]; rfl)
            case km1_7 =>
              go_simp
              (go_at_call 17); refine (implHas_any c1 A2 ys.length k2 ys _ wh.drew (HT1.out.below (IS.out.drew).bel hw1) (Nat.lt_of_lt_of_le hw1 IS.out.drew.size) rfl (by omega) (HR2.out.below (IS.out.drew).bel)).mono ?_; rintro e wi ⟨rfl, hbh⟩; rw [HKQ.out.2]; have HBH := Lib.hid hbh; clear hbh
              refine hK.out _ _ (by (first | exact KS.out _ (Below.refl _ _) | exact KS.out _ HBH.out)) (fun hHeld => ?_)
              clear hK K
              try simp only [Act.put, List.setIfInBounds_toArray, List.set_cons_zero, List.set_cons_succ]
              refine wpAnyH_take (i := 7) (oi := ?oim1_8) (v := ?vm1_8) ?hm1_8 (by kernel_rfl) (by kernel_rfl) (by kernel_rfl) ?qm1_8 (Or.inl ⟨?wm1_8, ?ym1_8⟩) (by assumption) ?rm1_8
              case hm1_8 => (simp only [List.getElem?_toArray, List.getElem?_cons_succ, List.getElem?_cons_zero]; rfl)
              case qm1_8 => exact fun _ _ _ h => h
              case wm1_8 => rfl
              case ym1_8 => (intro w hSw; (try dsimp only at hSw); go_simp <;> with_reducible rfl)
              try simp only [Act.put, List.setIfInBounds_toArray, List.set_cons_zero, List.set_cons_succ]
              refine wpAnyH_take (i := 8) (oi := ?oim1_9) (v := ?vm1_9) ?hm1_9 (by kernel_rfl) (by kernel_rfl) (by kernel_rfl) ?qm1_9 (Or.inl ⟨?wm1_9, ?ym1_9⟩) (by assumption) ?rm1_9
              case hm1_9 => (simp only [List.getElem?_toArray, List.getElem?_cons_succ, List.getElem?_cons_zero]; rfl)
              case qm1_9 => exact fun _ _ _ h => h
              case wm1_9 => rfl
              case ym1_9 => (intro w hSw; (try dsimp only at hSw); go_simp <;> with_reducible rfl)
              try simp only [Act.put, List.setIfInBounds_toArray, List.set_cons_zero, List.set_cons_succ]
              refine wpAnyH_take (i := 9) (oi := ?oim1_10) (v := ?vm1_10) ?hm1_10 (by kernel_rfl) (by kernel_rfl) (by kernel_rfl) ?qm1_10 (Or.inl ⟨?wm1_10, ?ym1_10⟩) (by assumption) ?rm1_10
              case hm1_10 => (simp only [List.getElem?_toArray, List.getElem?_cons_succ, List.getElem?_cons_zero]; rfl)
              case qm1_10 => exact fun _ _ _ h => h
              case wm1_10 => rfl
              case ym1_10 => (intro w hSw; (try dsimp only at hSw); go_simp <;> with_reducible rfl)
              try simp only [Act.put, List.setIfInBounds_toArray, List.set_cons_zero, List.set_cons_succ]
              refine wpAnyH_take (i := 10) (oi := ?oim1_11) (v := ?vm1_11) ?hm1_11 (by kernel_rfl) (by kernel_rfl) (by kernel_rfl) ?qm1_11 (Or.inl ⟨?wm1_11, ?ym1_11⟩) (by assumption) ?rm1_11
              case hm1_11 => (simp only [List.getElem?_toArray, List.getElem?_cons_succ, List.getElem?_cons_zero]; rfl)
              case qm1_11 => exact fun _ _ _ h => h
              case wm1_11 => rfl
              case ym1_11 => (intro w hSw; (try dsimp only at hSw); go_simp <;> with_reducible rfl)
              try simp only [Act.put, List.setIfInBounds_toArray, List.set_cons_zero, List.set_cons_succ]
              refine wpAnyH_take (i := 11) (oi := ?oim1_12) (v := ?vm1_12) ?hm1_12 (by kernel_rfl) (by kernel_rfl) (by kernel_rfl) ?qm1_12 (Or.inl ⟨?wm1_12, ?ym1_12⟩) (by assumption) ?rm1_12
              case hm1_12 => (simp only [List.getElem?_toArray, List.getElem?_cons_succ, List.getElem?_cons_zero]; rfl)
              case qm1_12 => exact fun _ _ _ h => h
              case wm1_12 => rfl
              case ym1_12 => (intro w hSw; (try dsimp only at hSw); go_simp <;> with_reducible rfl)
              try simp only [Act.put, List.setIfInBounds_toArray, List.set_cons_zero, List.set_cons_succ]
              refine wpAnyH_done (by kernel_rfl) ?_ _
              have IT := Lib.hid ((HBS.out.drew).trans (HBH.out.mono HBS.out.size))
              clear HBH IS KS a0 a1 m0 m1 hmc
              go_wp2_with fail
              go_roundw
              case rel => exact ⟨k + 1, by omega, by go_num, IT.out⟩
              case measure => simp [intOf]; omega
            exact AllReadyH.nil
          exact AllReadyH.nil
        · have hlti : ¬ (k : Int) < (rm.2.1.length : Int) := by omega
          obtain ⟨s0, s1, _, _, _⟩ := blk2cells (IR.out.box 8 rfl)
          go_wp2_with fail
          go_ret
          exact ⟨rfl, HB.out.trans (IR.out.bel.mono HB.out.size)⟩
    · have es := HRS.out
      have em := HRM.out
      have ec := HRC.out
      unfold sumOf at es
      unfold meetOf at em
      unfold compOf at ec
      rw [if_neg h0] at es em ec
      have q6 : rs.2.2 = bothOf c1 xs c2 ys := by rw [← es]
      have q10 : rm.2.2 = bothOf c1 xs c2 ys := by rw [← em]
      have q14 : rc.2 = bothOf c1 xs c2 ys := by rw [← ec]
      rw [q6, q10, q14]
      clear es em ec HRS HRM HRC q6 q10 q14
      generalize bothOf c1 xs c2 ys = q at *
      have hq : (q == 0) = false := by simpa using h0
      clear h0
      go_wp2_with fail
      go_ret
      exact ⟨rfl, HB.out.trans (I9.out.bel.mono HB.out.size)⟩
end Go.Proofs.YtjhlmalpcelbaaaDoor

namespace Go.Proofs.YtjhlmalpcelbaaaDoor
open Go.ChangeShapes Go.WideShapes Go.ChangeAt Go.RowKit Go.Joins Go.Deep

section
variable {H : Type} {enc : TypeId × Value → H} {P : Program} {w : World} {base : Nat} {held : Bool}
/-- the elements of a slice that came in, as a list -/
theorem ints_Rd {fuel : Nat} {t e : TypeId} {v : Value} {y : DataW H × List MemPlace} (ht : P.underlying t = some (.slice e)) (he : P.underlying e = some (.int .i64)) (hc : P.cellsOf e = 1)
    (hf : DataW.trod enc P w base (fun _ => true) held fuel t [v] = some y) :
    ∃ A n c xs, v = .slice A n c ∧ n = xs.length ∧ n ≤ maxLen ∧ Rd w A (iv xs) ∧ ∀ x ∈ xs, (Lit.int .i64 x).wf = true := by
  rcases open_ints ht he hc hf with ⟨hcs, _⟩ | ⟨a, len, cap, zs, hcs, _, hl, hm, hz, _, hcell, hwz⟩
  · injection hcs with hcs _
    exact ⟨none, 0, 0, [], hcs, rfl, Nat.zero_le _, .inl rfl, by simp⟩
  · injection hcs with hcs _
    simp only [if_true] at hz
    refine ⟨some a, len, cap, zs.take len, hcs, by rw [List.length_take, hz]; omega, by omega, ?_, fun x hx => hwz x (List.mem_of_mem_take hx)⟩
    by_cases h0 : len = 0
    · subst h0; exact .inl (by simp [iv])
    · right
      obtain ⟨b, off, spot⟩ := a
      have h1 := hcell 0 (by omega)
      have hspot : spot = none := by simpa [Addr.add] using World.cell?_spot h1
      subst hspot
      refine ⟨b, off, rfl, fun j v hj => ?_⟩
      have hjl : j < len := by
        have := (List.getElem?_eq_some_iff.1 hj).1
        simp [iv] at this; omega
      have h2 := hcell j (by omega)
      rw [Addr.add_lit] at h2
      rw [h2]
      simp only [iv, List.getElem?_map, List.getElem?_take, hjl, if_true] at hj
      rw [List.getElem?_eq_getElem (show j < zs.length by omega)] at hj
      simp only [Option.map_some] at hj
      rw [← hj, List.getD, List.getElem?_eq_getElem (show j < zs.length by omega)]
      rfl

theorem open_intsl {r : Reach} {b0 : Nat} {t e : TypeId} {v : Value} {d : DataW H} {p : List MemPlace} (ht : P.underlying t = some (.slice e)) (he : P.underlying e = some (.int .i64)) (hc : P.cellsOf e = 1)
    (hv : Value.okWide P w r b0 t v) (h : DataW.Trod enc P w base (fun _ => true) held t v d p) :
    ∃ A n c xs, v = .slice A n c ∧ n = xs.length ∧ n ≤ maxLen ∧ Rd w A (iv xs) ∧ ∀ x ∈ xs, (Lit.int .i64 x).wf = true := by
  obtain ⟨a0, len0, cap0, rfl⟩ := okWide_slice ht hv
  obtain ⟨fuel, hf⟩ := h
  exact ints_Rd ht he hc hf

theorem open_matrix {r : Reach} {b0 : Nat} {t : TypeId} {f0 f1 : Field} {v : Value} {d : DataW H} {p : List MemPlace} (hs : P.underlying t = some (.struct #[f0, f1])) (hone : oneCellFields P #[f0, f1] = true) (hC : P.cellsOf t = 2)
    (hi : P.underlying f0.type = some (.int .i64)) (ht : P.underlying f1.type = some (.slice f0.type)) (hc : P.cellsOf f0.type = 1)
    (hv : Value.okWide P w r b0 t v) (h : DataW.Trod enc P w base (fun _ => true) held t v d p) :
    ∃ c A n cap xs, v = .agg #[.int .i64 c, .slice A n cap] ∧ n = xs.length ∧ n ≤ maxLen ∧ Rd w A (iv xs) ∧ (∀ x ∈ xs, (Lit.int .i64 x).wf = true) := by
  obtain ⟨c0, c1, y0, y1, m, rfl, rfl, rfl, hy0, hy1⟩ := open_agg2 hs hone hC hv h
  obtain ⟨a, e0, rfl, wa⟩ := DataW.trod_int hi hy0
  injection e0 with e0 _
  subst e0
  obtain ⟨A, n, c, xs, rfl, hn, hm, hR, hwf⟩ := ints_Rd ht hi hc hy1
  exact ⟨a, A, n, c, xs, rfl, hn, hm, hR, hwf⟩
end
end Go.Proofs.YtjhlmalpcelbaaaDoor

namespace Go.Proofs.YtjhlmalpcelbaaaDoor
open Go.ChangeShapes Go.WideShapes Go.ChangeAt Go.RowKit Go.Joins Go.Deep

section
variable {H : Type} {enc : TypeId × Value → H} {P : Program} {w : World} {base : Nat} {held : Bool}
theorem open_bytesl {r : Reach} {b0 : Nat} {t e : TypeId} {v : Value} {d : DataW H} {p : List MemPlace} (ht : P.underlying t = some (.slice e)) (he : P.underlying e = some (.int .u8)) (hc : P.cellsOf e = 1)
    (hv : Value.okWide P w r b0 t v) (h : DataW.Trod enc P w base (fun _ => true) held t v d p) :
    ∃ A n c bs, v = .slice A n c ∧ n = bs.length ∧ n ≤ maxLen ∧ Rd w A (bv bs) ∧ (∀ b ∈ bs, b < 256) ∧ ∀ a, A = some a → a.block < w.heap.size := by
  obtain ⟨a0, len0, cap0, rfl⟩ := okWide_slice ht hv
  have hlt : ∀ a, a0 = some a → a.block < w.heap.size := by
    rintro a rfl
    simp only [Value.okWide, ht, Cell.okWide, Cell.ok] at hv
    have h3 := hv.2.2
    obtain ⟨_, _, row, cells, hs, _⟩ := h3
    refine Nat.lt_of_not_le fun hge => ?_
    have hno : w.heap[a.block]? = none := Array.getElem?_eq_none hge
    simp [World.shape?, hno] at hs
  obtain ⟨fuel, hf⟩ := h
  rcases open_ints ht he hc hf with ⟨hcs, _⟩ | ⟨a, len, cap, zs, hcs, _, hl, hm, hz, _, hcell, hwz⟩
  · injection hcs with hcs _
    injection hcs with h1 h2 h3
    subst h1 h2 h3
    exact ⟨none, 0, 0, [], rfl, rfl, Nat.zero_le _, .inl rfl, by simp, by simp⟩
  · injection hcs with hcs _
    injection hcs with h1 h2 h3
    subst h1 h2 h3
    simp only [if_true] at hz
    have hb : ∀ z ∈ zs, 0 ≤ z ∧ z < 256 := fun z hz => by
      have := hwz z hz
      simp only [Lit.wf, Bool.and_eq_true, decide_eq_true_eq] at this
      have h1 : (0 : Int) ≤ z := this.1
      have h2 : z ≤ 255 := this.2
      exact ⟨h1, by omega⟩
    refine ⟨some a, len0, cap0, (zs.take len0).map Int.toNat, rfl, by rw [List.length_map, List.length_take, hz]; omega, by omega, ?_, ?_, hlt⟩
    · by_cases h0 : len0 = 0
      · subst h0; exact .inl (by simp [bv])
      · right
        obtain ⟨b, off, spot⟩ := a
        have h1 := hcell 0 (by omega)
        have hspot : spot = none := by simpa [Addr.add] using World.cell?_spot h1
        subst hspot
        refine ⟨b, off, rfl, fun j v hj => ?_⟩
        have hjl : j < len0 := by
          have := (List.getElem?_eq_some_iff.1 hj).1
          simp [bv] at this; omega
        have h2 := hcell j (by omega)
        rw [Addr.add_lit] at h2
        rw [h2]
        have hzj := hb (zs[j]'(by omega)) (List.getElem_mem _)
        simp only [bv, List.getElem?_map, List.getElem?_take, hjl, if_true] at hj
        rw [List.getElem?_eq_getElem (show j < zs.length by omega)] at hj
        simp only [Option.map_some] at hj
        rw [← hj, List.getD, List.getElem?_eq_getElem (show j < zs.length by omega)]
        show some (Value.int .u8 (zs[j]'(by omega))) = some (Value.int .u8 (((zs[j]'(by omega)).toNat : Nat) : Int))
        rw [Int.toNat_of_nonneg hzj.1]
    · intro b hbm
      obtain ⟨z, hz1, rfl⟩ := List.mem_map.1 hbm
      have := hb z (List.mem_of_mem_take hz1)
      omega
end
end Go.Proofs.YtjhlmalpcelbaaaDoor
