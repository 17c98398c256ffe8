/- FnExactRankOf: the walk of the law -/
import Derived.Test.YtchmplpgamekjaaDoorN
namespace Go.Proofs.YtchmplpgamekjaaDoor
open Go.RowKit

theorem szV_neg {n : Nat} (h : ¬ n ≤ 1048576) : szV n 1048576 = -1 := by unfold szV; rw [if_pos (by omega)]
theorem szV_pos {n : Nat} (h : n ≤ 1048576) : szV n 1048576 = 1048576 - n := by unfold szV; rw [if_neg (by omega)]
theorem eqMat_self (c : Int) (xs : List Int) : eqMat c xs c xs = true := by simp [eqMat, eqI]

/-- two blocks of two cells, and their cells: what a region that loads them holds on to -/
theorem two_blks {w : World} {g g' : Nat} {u v u' v' : Value} {t t' : TypeId} (h : w.heap[g]? = some (.cells #[u, v] t (0, 0)) ∧ w.heap[g']? = some (.cells #[u', v'] t' (0, 0))) :
    (w.heap[g]? = some (.cells #[u, v] t (0, 0)) ∧ w.heap[g']? = some (.cells #[u', v'] t' (0, 0))) ∧ w.cell? ⟨g, 0, none⟩ = some u ∧ w.cell? ⟨g, 1, none⟩ = some v ∧ w.cell? ⟨g', 0, none⟩ = some u' ∧ w.cell? ⟨g', 1, none⟩ = some v' :=
  ⟨h, (blk2cells h.1).1, (blk2cells h.1).2.1, (blk2cells h.2).1, (blk2cells h.2).2.1⟩
theorem blks_below {B : Nat} {w w' : World} {g g' : Nat} {x x' : Obj} (h : w.heap[g]? = some x ∧ w.heap[g']? = some x') (hb : Below B w w') (hB : w.heap.size ≤ B := by exact Nat.le_refl _) : w'.heap[g]? = some x ∧ w'.heap[g']? = some x' :=
  ⟨blk_below h.1 hb (Nat.lt_of_lt_of_le (Array.getElem?_eq_some_iff.1 h.1).1 hB), blk_below h.2 hb (Nat.lt_of_lt_of_le (Array.getElem?_eq_some_iff.1 h.2).1 hB)⟩

set_option maxRecDepth 100000 in
set_option maxHeartbeats 2000000 in
theorem lawRank_any (c : Int) (A : Option Addr) (n cap : Nat) (xs : List Int) (w : World) (hT : Tab w) (hw : 0 < w.heap.size) (hn : n = xs.length) (hsm : n ≤ 9223372036854775807) (hR : Rd w A (iv xs)) :
    Calls Tryd.prog 3 #[.agg #[.int .i64 c, .slice A n cap]] w fun e w' => e = .returned (.bool true) ∧ Below w.heap.size w w' := by
  have hb := blk_new w (.cells #[.int .i64 c, .slice A n cap] 24)
  have hB0 : Below w.heap.size w (w.alloc (.cells #[.int .i64 c, .slice A n cap] 24)) := (Below.refl _ _).alloc (Nat.le_refl _) _
  have hz := fun W => szMatrix_any c A n cap 1048576 W hsm (by omega) (by omega)
  by_cases hbig : n ≤ 1048576
  · rw [szV_pos hbig] at hz
    have HZ := Lib.hid hz
    have HR := Lib.hid hR
    have HT := Lib.hid hT
    have Hn := Lib.hid hn
    have HB0 := Lib.hid hB0
    have HK0 := Lib.hid hb
    have hgt : ¬ (1048576 - (n : Int) < 0) := by omega
    clear hz hR hT hn hB0 hb
    go_enter Tryd.func3, Tryd.ntmps3
    go_wp2_with fail
    refine (HZ.out _).mono ?_
    rintro e wa ⟨rfl, hba⟩
    have HBa := Lib.hid (HB0.out.trans (hba.mono (by simp)))
    have HKa := Lib.hid (blk_below HK0.out hba (by simp))
    obtain ⟨a0, a1, _, _, hla⟩ := blk2cells HKa.out
    clear hba
    go_wp2_with fail
    refine (toMatrix_any c A n cap xs _ Hn.out hbig (HR.out.below HBa.out)).mono ?_
    rintro e wb ⟨g1, rfl, hown1, hbb⟩
    have HBb := Lib.hid (HBa.out.trans (hbb.mono HBa.out.size))
    have HKb := Lib.hid (blk_below HKa.out hbb hla)
    obtain ⟨b0, b1, _, _, hlb⟩ := blk2cells HKb.out
    have HO1 := Lib.hid hown1
    clear hbb hown1
    go_wp2_with fail
    refine (specRank_any c _ n n xs _ Hn.out (by omega) (owns_Rd HO1.out)).mono ?_
    rintro e wc ⟨rfl, hbc⟩
    have HBc := Lib.hid (HBb.out.trans (hbc.mono HBb.out.size))
    have HKc := Lib.hid (blk_below HKb.out hbc hlb)
    obtain ⟨c0, c1, _, _, hlc⟩ := blk2cells HKc.out
    clear hbc
    go_wp2_with fail
    refine (toMatrix_any c A n cap xs _ Hn.out hbig (HR.out.below HBc.out)).mono ?_
    rintro e wd ⟨g2, rfl, hown2, hbd⟩
    have HBd := Lib.hid (HBc.out.trans (hbd.mono HBc.out.size))
    have HKd := Lib.hid (blk_below HKc.out hbd hlc)
    obtain ⟨d0, d1, _, _, hld⟩ := blk2cells HKd.out
    have HO2 := Lib.hid hown2
    clear hbd hown2
    go_wp2_with fail
    have hRe : Rd (wd.alloc (.cells #[.int .i64 c, .slice (some ⟨g2, 0, none⟩) n n] 28)) (some ⟨g2, 0, none⟩) (iv xs) := (owns_Rd HO2.out).alloc _
    have hBe : Below w.heap.size w (wd.alloc (.cells #[.int .i64 c, .slice (some ⟨g2, 0, none⟩) n n] 28)) := HBd.out.alloc HBd.out.size _
    refine (implRank_any c _ n n xs _ (HT.out.below hBe hw) (by simp) Hn.out (by omega) hRe).mono ?_
    rintro e wf ⟨rfl, hbf⟩
    have HBf := Lib.hid (hBe.trans (hbf.mono hBe.size))
    have HKf := Lib.hid (blk_below (blk_alloc HKd.out _) hbf (by simp; omega))
    have HXf := Lib.hid (blk_below (blk_new wd (.cells #[.int .i64 c, .slice (some ⟨g2, 0, none⟩) n n] 28)) hbf (by simp))
    have HRf := Lib.hid (hRe.below hbf)
    have HRAf := Lib.hid (HR.out.below HBf.out)
    obtain ⟨f0, f1, _, _, hlf⟩ := blk2cells HKf.out
    obtain ⟨e0, e1, _, _, hle⟩ := blk2cells HXf.out
    clear hbf hRe hBe a0 a1 b0 b1 c0 c1 d0 d1 hla hlb hlc
    generalize rankOf c xs = rk at *
    go_wp2_with fail
    go_region_held3 (fun w' => (w'.heap[w.heap.size]? = some (.cells #[.int .i64 c, .slice A n cap] 24 (0, 0)) ∧ w'.heap[wd.heap.size]? = some (.cells #[.int .i64 c, .slice (some ⟨g2, 0, none⟩) n n] 28 (0, 0))) ∧ w'.cell? ⟨w.heap.size, 0, none⟩ = some (.int .i64 c) ∧ w'.cell? ⟨w.heap.size, 1, none⟩ = some (.slice A n cap) ∧ w'.cell? ⟨wd.heap.size, 0, none⟩ = some (.int .i64 c) ∧ w'.cell? ⟨wd.heap.size, 1, none⟩ = some (.slice (some ⟨g2, 0, none⟩) n n))
      (first
        | (refine two_blks ?_; first | exact ⟨HKf.out, HXf.out⟩ | exact HS1.out | exact HS2.out))
      (first
        | (go_at_call 17; refine (toMatrix_any c A n cap xs _ Hn.out hbig (by exact HRAf.out)).mono ?_; (rintro e wg ⟨g3, rfl, hown3, hbg⟩; have HS1 := Lib.hid (blks_below (w := wf.drew) ⟨HKf.out, HXf.out⟩ hbg); have HO3 := Lib.hid hown3; have HBg := Lib.hid hbg; clear hown3 hbg))
        | (go_at_call 19; refine (eqMatrix_any c c _ _ n n n n xs xs _ Hn.out Hn.out (by omega) (by omega) (by exact Rd.below (w := wf.drew) HRf.out HBg.out) (by exact owns_Rd HO3.out)).mono ?_; (rintro e wh ⟨rfl, hbh⟩; have HS2 := Lib.hid (blks_below HS1.out hbh); have HBh := Lib.hid hbh; clear hbh)))
    rw [eqMat_self]
    go_wp2_with fail
    go_ret
    have hgf : wf.heap.size ≤ wg.heap.size := HBg.out.size
    exact ⟨rfl, HBf.out.drew.trans ((HBg.out.mono HBf.out.size).trans (HBh.out.mono (Nat.le_trans HBf.out.size hgf)))⟩
  · rw [szV_neg hbig] at hz
    have HZ := Lib.hid hz
    have HB0 := Lib.hid hB0
    clear hz hR hT hn hB0 hb
    go_enter Tryd.func3, Tryd.ntmps3
    go_wp2_with fail
    refine (HZ.out _).mono ?_
    rintro e wa ⟨rfl, hba⟩
    have HBa := Lib.hid hba
    clear hba
    go_wp2_with fail
    go_ret
    exact ⟨rfl, HB0.out.trans (HBa.out.mono (by simp))⟩
end Go.Proofs.YtchmplpgamekjaaDoor
