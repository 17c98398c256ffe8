/- SumOfSpaces on both sides -/
import Derived.Test.YtchmplpgamekjaaDoorRf
namespace Go.Proofs.YtchmplpgamekjaaDoor
open Go.RowKit

/-- What SumOfSpaces answers. -/
def sumOf (c : Int) (xs : List Int) (c' : Int) (ys : List Int) : Int × List Nat × Int := if bothOf c xs c' ys = 0 then (c, reduceS (toN xs ++ toN ys), 0) else (0, [], bothOf c xs c' ys)
theorem sumOf_len (c : Int) (xs : List Int) (c' : Int) (ys : List Int) : (sumOf c xs c' ys).2.1.length ≤ 1000 := by
  unfold sumOf
  split
  · rename_i h
    obtain ⟨hi, hj, _⟩ := bothOf_zero h
    have h1 := isMat_len hi
    have h2 := isMat_len hj
    have h3 := reduceS_length_le (toN xs ++ toN ys)
    simp [toN] at h3 ⊢; omega
  · simp
theorem reduce_app (S T : List Nat) (k : Nat) (hk : k < T.length) : reduceS (S ++ T.take (k + 1)) = putS (reduceS (S ++ T.take k)) (T.getD k 0) := by
  unfold reduceS
  rw [List.take_succ_eq_append_getElem hk, ← List.append_assoc, List.foldl_append (l' := [T[k]])]
  simp [List.getD, hk]

set_option maxRecDepth 100000 in
set_option maxHeartbeats 2000000 in
theorem specSum_any (c c' : Int) (A A' : Option Addr) (n n' cap cap' : Nat) (xs ys : List Int) (w : World) (hn : n = xs.length) (hn' : n' = ys.length) (hsm : n ≤ 1099511627776) (hsm' : n' ≤ 1099511627776) (hR : Rd w A (iv xs)) (hR' : Rd w A' (iv ys)) :
    Calls Tryd.prog 35 #[.agg #[.int .i64 c, .slice A n cap], .agg #[.int .i64 c', .slice A' n' cap']] w fun e w' =>
      ∃ v, e = .returned (.tuple #[.agg #[.int .i64 (sumOf c xs c' ys).1, v], .int .i64 (sumOf c xs c' ys).2.2]) ∧ w'.ownsRow w.heap.size 2 1 v (sumOf c xs c' ys).2.1.length (nv (sumOf c xs c' ys).2.1) ∧ Below w.heap.size w w' := by
  have hb1 := blk_alloc (blk_alloc (blk_new w (.cells #[.int .i64 c, .slice A n cap] 28)) (.cells #[.int .i64 c', .slice A' n' cap'] 28)) (.cells #[.int .i64 0, .slice none 0 0] 28)
  have hb2 := blk_alloc (blk_new1 w (.cells #[.int .i64 c, .slice A n cap] 28) (.cells #[.int .i64 c', .slice A' n' cap'] 28)) (.cells #[.int .i64 0, .slice none 0 0] 28)
  have hb3 := blk_new2 w (.cells #[.int .i64 c, .slice A n cap] 28) (.cells #[.int .i64 c', .slice A' n' cap'] 28) (.cells #[.int .i64 0, .slice none 0 0] 28)
  have hbel : Below w.heap.size w (((w.alloc (.cells #[.int .i64 c, .slice A n cap] 28)).alloc (.cells #[.int .i64 c', .slice A' n' cap'] 28)).alloc (.cells #[.int .i64 0, .slice none 0 0] 28)) := (((Below.refl _ _).alloc (Nat.le_refl _) _).alloc (by simp) _).alloc (by simp; omega) _
  have h1 := l02Both_any c c' A A' n n' cap cap' xs ys _ hn hn' hsm hsm' (hR.below hbel) (hR'.below hbel)
  have HK := Lib.hid (three_keep hb1 hb2 hb3)
  have HB := Lib.hid hbel
  have HR := Lib.hid hR
  have HR' := Lib.hid hR'
  have Hn := Lib.hid hn
  have Hn' := Lib.hid hn'
  clear hb1 hb2 hb3 hbel hR hR' hn hn'
  by_cases h0 : bothOf c xs c' ys = 0
  · obtain ⟨hi, hj, hc⟩ := bothOf_zero h0
    rw [h0] at h1
    have H1 := Lib.hid h1
    have HE : Hid (sumOf c xs c' ys = (c, reduceS (toN xs ++ toN ys), 0)) := by show _ = _; unfold sumOf; rw [if_pos h0]
    have hlx := isMat_len hi
    have hly := isMat_len hj
    have HSx := Lib.hid (isMat_sm hi)
    have HSy := Lib.hid (isMat_sm hj)
    have HRx : Hid (Rd w A (nv (toN xs))) := by have := HR.out; rw [iv_toN (fun x hx => (isMat_nonneg hi x hx).1)] at this; exact this
    have HRy : Hid (Rd w A' (nv (toN ys))) := by have := HR'.out; rw [iv_toN (fun x hx => (isMat_nonneg hj x hx).1)] at this; exact this
    have lx : (toN xs).length = xs.length := by simp [toN]
    have ly : (toN ys).length = ys.length := by simp [toN]
    have hlxN : (toN xs).length ≤ 200 := by rw [lx]; exact hlx
    have hlyN : (toN ys).length ≤ 200 := by rw [ly]; exact hly
    have Lx := Lib.hid lx
    have Ly := Lib.hid ly
    clear h1 h0 hi hj hc lx ly
    go_enter Tryd.func35, Tryd.ntmps35
    go_wp2_with fail
    refine H1.out.mono ?_
    rintro e w1 ⟨rfl, hb⟩
    have HB1 := Lib.hid (HB.out.trans (hb.mono HB.out.size))
    have HKa := Lib.hid (HK.out _ hb)
    obtain ⟨x0, x1, _, _, lx⟩ := blk2cells HKa.out.1
    clear hb
    go_wp2_with fail
    refine (reduce_any A n cap (toN xs) w1 (by rw [Hn.out, Lx.out]) (by rw [Hn.out]; omega) HSx.out (HRx.out.below HB1.out)).mono ?_
    rintro e w2 ⟨v2, rfl, ho, hb⟩
    have HKb := Lib.hid ((three_keep HKa.out.1 HKa.out.2.1 HKa.out.2.2) _ hb)
    have HB2 := Lib.hid (HB1.out.trans (hb.mono HB1.out.size))
    have HO := Lib.hid (ho.mono HB1.out.size)
    clear hb ho x0 x1
    go_wp2_with fail
    go_loopw [7, 8] (fun r i wr => ∃ k : Nat, k ≤ n' ∧ i = .int .i64 k ∧ wr.ownsRow w.heap.size 2 1 r (reduceS (toN xs ++ (toN ys).take k)).length (nv (reduceS (toN xs ++ (toN ys).take k))) ∧
        (wr.heap[w.heap.size]? = some (.cells #[.int .i64 c, .slice A n cap] 28 (0, 0)) ∧ wr.heap[w.heap.size + 1]? = some (.cells #[.int .i64 c', .slice A' n' cap'] 28 (0, 0)) ∧ wr.heap[w.heap.size + 1 + 1]? = some (.cells #[.int .i64 0, .slice none 0 0] 28 (0, 0))) ∧ Below w.heap.size w wr) (fun _ i _ => n' - (intOf i).toNat)
    case atStart => exact ⟨0, by omega, rfl, by rw [List.take_zero, List.append_nil]; exact HO.out, HKb.out, HB2.out⟩
    case round =>
      obtain ⟨k, hk, rfl, ho, hks, hbel⟩ := hrel
      have hsz : w.heap.size ≤ wr.heap.size := hbel.size
      obtain ⟨y0, y1, _, _, ly⟩ := blk2cells hks.2.1
      have HKr := Lib.hid hks
      have HO := Lib.hid ho
      have HBL := Lib.hid hbel
      by_cases hlt : k < n'
      · have hkL : k < (toN ys).length := by rw [Ly.out, ← Hn'.out]; exact hlt
        obtain ⟨b, o', rfl, hc⟩ := (HRy.out.below hbel).atN hkL
        have g1 := HSy.out _ (getD_mem hkL)
        have Hs := Lib.hid (reduce_app (toN xs) (toN ys) k hkL)
        have hred : Red (reduceS (toN xs ++ (toN ys).take k)) := red_reduce (fun r hr => by
          rcases List.mem_append.1 hr with h | h
          · exact HSx.out r h
          · exact HSy.out r (List.mem_of_mem_take h))
        have hrl := reduceS_length_le (toN xs ++ (toN ys).take k)
        rw [List.length_append, List.length_take] at hrl
        have hp := put_any w.heap.size _ (reduceS (toN xs ++ (toN ys).take k)) ((toN ys).getD k 0) wr hsz ho (by omega) g1 hred
        have HP := Lib.hid hp
        clear ho hks hbel hp hred hrl
        generalize reduceS (toN xs ++ (toN ys).take k) = S at *
        generalize (toN ys).getD k 0 = x at *
        go_wp2_with fail
        refine HP.out.mono ?_
        rintro e w3 ⟨v3, rfl, ho3, hb3, _⟩
        have HO3 := Lib.hid ho3
        have HB3 := Lib.hid hb3
        clear ho3 hb3
        go_wp2_with fail
        go_roundw
        case rel => exact ⟨k + 1, by omega, by go_num, by rw [Hs.out]; exact HO3.out, (three_keep HKr.out.1 HKr.out.2.1 HKr.out.2.2) _ HB3.out, HBL.out.trans (HB3.out.mono hsz)⟩
        case measure => simp [intOf]; omega
      · have ek : (toN ys).take k = toN ys := List.take_of_length_le (by rw [Ly.out, ← Hn'.out]; omega)
        rw [ek] at ho
        obtain ⟨Av, cv, rfl, _, _, _⟩ := owns_shape ho
        have HO := Lib.hid ho
        obtain ⟨x0, x1, _, _, _⟩ := blk2cells hks.1
        obtain ⟨z0, z1, z2, z3, lz⟩ := blk2cells hks.2.2
        clear ho hks hbel ek
        go_wp2_with fail
        refine bodyPost_ret (v := .tuple #[.agg #[.int .i64 c, .slice Av (reduceS (toN xs ++ toN ys)).length cv], .int .i64 0]) ?_ rfl ⟨_, by rw [HE.out], ?_, ?_⟩
        · simp [results, Tryd.results35, go_sem, z0, z1]
        · rw [HE.out]
          exact (owns_keeps HO.out (((Keeps.refl wr [some (w.heap.size + 1 + 1)]).setCell (p := ⟨w.heap.size + 1 + 1, 0, none⟩) (by simp) _).setCell (p := ⟨w.heap.size + 1 + 1, 1, none⟩) (by simp) _) (.inr (by simp only [List.mem_singleton]; exact own_ne HO.out HKr.out.2.2 (by decide))))
        · exact (HBL.out.setCell (p := ⟨w.heap.size + 1 + 1, 0, none⟩) (by simp; omega) _).setCell (p := ⟨w.heap.size + 1 + 1, 1, none⟩) (by simp; omega) _
  · have HE : Hid (sumOf c xs c' ys = (0, [], bothOf c xs c' ys)) := by show _ = _; unfold sumOf; rw [if_neg h0]
    have hcb : (bothOf c xs c' ys != 0) = true := by simpa using h0
    generalize bothOf c xs c' ys = code at *
    have H1 := Lib.hid h1
    clear h1 h0
    go_enter Tryd.func35, Tryd.ntmps35
    go_wp2_with fail
    refine H1.out.mono ?_
    rintro e w1 ⟨rfl, hb⟩
    have HB1 := Lib.hid (HB.out.trans (hb.mono HB.out.size))
    obtain ⟨z0, z1, z2, z3, lz⟩ := blk2cells (HK.out _ hb).2.2
    clear hb
    go_wp2_with fail
    refine bodyPost_ret (v := .tuple #[.agg #[.int .i64 0, .slice none 0 0], .int .i64 code]) ?_ rfl ⟨_, by rw [HE.out], by rw [HE.out]; exact World.ownsRow_nil _ _ _ _, ?_⟩
    · simp [results, Tryd.results35, go_sem, z0, z1]
    · exact (HB1.out.setCell (p := ⟨w.heap.size + 1 + 1, 0, none⟩) (by simp; omega) _).setCell (p := ⟨w.heap.size + 1 + 1, 1, none⟩) (by simp; omega) _
end Go.Proofs.YtchmplpgamekjaaDoor
