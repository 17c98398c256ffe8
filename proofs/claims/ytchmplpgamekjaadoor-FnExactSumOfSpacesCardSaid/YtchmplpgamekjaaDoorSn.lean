/- impl.joined; the program's SumOfSpaces -/
import Derived.Test.YtchmplpgamekjaaDoorSm
namespace Go.Proofs.YtchmplpgamekjaaDoor
open Go.RowKit

set_option maxHeartbeats 1000000 in
theorem joined_any (A A' : Option Addr) (n n' c c' : Nat) (vs us : List Value) (w : World) (hn : n = vs.length) (hn' : n' = us.length) (hsm : n ≤ 1000000000) (hsm' : n' ≤ 1000000000) (h1 : ∀ u ∈ vs, u.oneCell' = true) (h1' : ∀ u ∈ us, u.oneCell' = true) (hR : Rd w A vs) (hR' : Rd w A' us) :
    Calls Tryd.prog 88 #[.slice A n c, .slice A' n' c'] w fun e w' => ∃ v, e = .returned v ∧ w'.ownsRow w.heap.size 2 1 v (n + n') (vs ++ us) ∧ Below w.heap.size w w' := by
  have hc := copyOf_any A n c vs w hn hsm h1 hR
  have HC := Lib.hid hc
  have HR' := Lib.hid hR'
  have Hn' := Lib.hid hn'
  have H1' := Lib.hid h1'
  clear hc hR hR' hn hn' h1 h1'
  go_enter Tryd.func88, Tryd.ntmps88
  go_wp2_with fail
  refine HC.out.mono ?_
  rintro e w1 ⟨g, cap, rfl, ho, hb⟩
  have HO := Lib.hid ho
  have HB := Lib.hid hb
  clear ho hb
  go_wp2_with (at_builtin; refine wpList_appR _ _ _ _ _ etI (by rfl) (by rfl) w.heap.size (.slice (some ⟨g, 0, none⟩) n cap) n vs (by rfl) HO.out A' n' c' us (by rfl) Hn'.out (HR'.out.below HB.out) H1'.out ?_ ?_ ?_; omega; exact HB.out.size; (intro v' w' hown hg hat; have HO2 := Lib.hid hown; have HG := Lib.hid hg; clear hown hg hat))
  go_ret
  exact ⟨v', rfl, HO2.out, HB.out.trans ((Below.refl w.heap.size w1).grown HG.out HB.out.size (fun k hk => by simp [Value.ownBlock] at hk; rw [← hk]; exact (HO.out.lt g rfl).1))⟩

set_option maxRecDepth 100000 in
set_option maxHeartbeats 2000000 in
theorem implSum_any (c c' : Int) (A A' : Option Addr) (n n' cap cap' : Nat) (xs ys : List Int) (w : World) (hT : Tab w) (hw : 0 < w.heap.size) (hn : n = xs.length) (hn' : n' = ys.length) (hsm : n ≤ 1099511627776) (hsm' : n' ≤ 1099511627776) (hR : Rd w A (iv xs)) (hR' : Rd w A' (iv ys)) :
    Calls Tryd.prog 36 #[.agg #[.int .i64 c, .slice A n cap], .agg #[.int .i64 c', .slice A' n' cap']] w fun e w' =>
      ∃ v, e = .returned (.tuple #[.agg #[.int .i64 (sumOf c xs c' ys).1, v], .int .i64 (sumOf c xs c' ys).2.2]) ∧ w'.ownsRow w.heap.size 2 1 v (sumOf c xs c' ys).2.1.length (nv (sumOf c xs c' ys).2.1) ∧ Below w.heap.size w w' := by
  have hb1 := blk_alloc (blk_alloc (blk_new w (.cells #[.int .i64 c, .slice A n cap] 28)) (.cells #[.int .i64 c', .slice A' n' cap'] 28)) (.cells #[.int .i64 0, .slice none 0 0] 28)
  have hb2 := blk_alloc (blk_new1 w (.cells #[.int .i64 c, .slice A n cap] 28) (.cells #[.int .i64 c', .slice A' n' cap'] 28)) (.cells #[.int .i64 0, .slice none 0 0] 28)
  have hb3 := blk_new2 w (.cells #[.int .i64 c, .slice A n cap] 28) (.cells #[.int .i64 c', .slice A' n' cap'] 28) (.cells #[.int .i64 0, .slice none 0 0] 28)
  have hbel : Below w.heap.size w (((w.alloc (.cells #[.int .i64 c, .slice A n cap] 28)).alloc (.cells #[.int .i64 c', .slice A' n' cap'] 28)).alloc (.cells #[.int .i64 0, .slice none 0 0] 28)) := (((Below.refl _ _).alloc (Nat.le_refl _) _).alloc (by simp) _).alloc (by simp; omega) _
  have h1 := equalColumns_any c c' A A' n n' cap cap' xs ys _ hn hn' hsm hsm' (hR.below hbel) (hR'.below hbel)
  have HK := Lib.hid (three_keep hb1 hb2 hb3)
  have HB := Lib.hid hbel
  have HR := Lib.hid hR
  have HR' := Lib.hid hR'
  have HT := Lib.hid hT
  have Hn := Lib.hid hn
  have Hn' := Lib.hid hn'
  clear hb1 hb2 hb3 hbel hR hR' hn hn' hT
  by_cases h0 : bothOf c xs c' ys = 0
  · obtain ⟨hi, hj, hc⟩ := bothOf_zero h0
    rw [h0] at h1
    have H1 := Lib.hid h1
    have HE : Hid (sumOf c xs c' ys = (c, reduceS (toN xs ++ toN ys), 0)) := by show _ = _; unfold sumOf; rw [if_pos h0]
    have hlx := isMat_len hi
    have hly := isMat_len hj
    have HSx := Lib.hid (isMat_sm hi)
    have HSy := Lib.hid (isMat_sm hj)
    have HRx : Hid (Rd w A (nv (toN xs))) := by have := HR.out; rw [iv_toN (fun x hx => (isMat_nonneg hi x hx).1)] at this; exact this
    have HRy : Hid (Rd w A' (nv (toN ys))) := by have := HR'.out; rw [iv_toN (fun x hx => (isMat_nonneg hj x hx).1)] at this; exact this
    have lx : (toN xs).length = xs.length := by simp [toN]
    have ly : (toN ys).length = ys.length := by simp [toN]
    have hlxN : n ≤ 200 := by rw [Hn.out]; exact hlx
    have hlyN : n' ≤ 200 := by rw [Hn'.out]; exact hly
    have Lx := Lib.hid lx
    have Ly := Lib.hid ly
    clear h1 h0 hi hj hc lx ly hlx hly
    go_enter Tryd.func36, Tryd.ntmps36
    go_wp2_with fail
    refine H1.out.mono ?_
    rintro e w1 ⟨rfl, hb⟩
    have HB1 := Lib.hid (HB.out.trans (hb.mono HB.out.size))
    have hs1 := HB1.out.size
    have hka := HK.out _ hb
    have HKa := Lib.hid (three_keep hka.1 hka.2.1 hka.2.2)
    obtain ⟨x0, x1, _, _, lx⟩ := blk2cells hka.1
    obtain ⟨y0, y1, _, _, ly⟩ := blk2cells hka.2.1
    have HC := Lib.hid (fun W (hbW : Below w1.heap.size w1 W) => joined_any A A' n n' cap cap' (nv (toN xs)) (nv (toN ys)) W (by rw [nv_length, Hn.out, Lx.out]) (by rw [nv_length, Hn'.out, Ly.out]) (by omega) (by omega) (nv_one _) (nv_one _) (HRx.out.below (HB1.out.trans (hbW.mono hs1))) (HRy.out.below (HB1.out.trans (hbW.mono hs1))))
    have hnn : n + n' = (toN xs ++ toN ys).length := by rw [List.length_append, Hn.out, Hn'.out, Lx.out, Ly.out]
    have HNN := Lib.hid hnn
    have HSS : Hid (∀ r ∈ toN xs ++ toN ys, Sm r) := by
      show ∀ r ∈ toN xs ++ toN ys, Sm r
      intro r hr
      rcases List.mem_append.1 hr with h | h
      · exact HSx.out r h
      · exact HSy.out r h
    have HNV : Hid (nv (toN xs) ++ nv (toN ys) = nv (toN xs ++ toN ys)) := by show _ = _; simp [nv]
    clear hb hka hnn
    generalize toN xs ++ toN ys = Z at *
    go_wp2_with fail
    go_region_held3 (fun w' => w'.cell? ⟨w.heap.size, 0, none⟩ = some (.int .i64 c) ∧ w'.cell? ⟨w.heap.size, 1, none⟩ = some (.slice A n cap) ∧ w'.cell? ⟨w.heap.size + 1, 1, none⟩ = some (.slice A' n' cap'))
      (first | exact ⟨x0, x1, y1⟩ | exact ⟨p0, p1, p2⟩ | exact ⟨q0, q1, q2⟩ | exact ⟨cell_set q0 (by simp <;> omega), cell_set q1 (by simp <;> omega), cell_set q2 (by simp <;> omega)⟩ | exact ⟨cell_set (cell_set q0 (by simp <;> omega)) (by simp <;> omega), cell_set (cell_set q1 (by simp <;> omega)) (by simp <;> omega), cell_set (cell_set q2 (by simp <;> omega)) (by simp <;> omega)⟩)
      (first
        | (go_at_call 88; (with_reducible refine (HC.out _ (Below.drew (Below.refl _ _))).mono ?_); (rintro e w2 ⟨v, rfl, ho, hb⟩; obtain ⟨Av, cv, rfl, _, _, _⟩ := owns_shape ho; have HB2 := Lib.hid ((Below.drew (Below.refl w1.heap.size w1)).trans hb); rw [HNV.out] at ho; have HO := Lib.hid ho; clear ho hb; obtain ⟨p0, p1, _, _, _⟩ := blk2cells (HKa.out _ HB2.out).1; obtain ⟨_, p2, _, _, _⟩ := blk2cells (HKa.out _ HB2.out).2.1))
        | (go_at_call 87; (with_reducible refine (reduced_any Av (n + n') cv Z _ (HT.out.below (HB1.out.trans (HB2.out.mono hs1)) hw) (by have := HB2.out.size; omega) HNN.out (by omega) HSS.out (owns_Rd HO.out)).mono ?_); (rintro e w3 ⟨v3, rfl, ho, hb⟩; obtain ⟨Aw, cw, rfl, _, _, _⟩ := owns_shape ho; have HO3 := Lib.hid (ho.mono HB2.out.size); have HB3 := Lib.hid (HB2.out.trans (hb.mono HB2.out.size)); clear ho hb; obtain ⟨q0, q1, _, _, _⟩ := blk2cells (HKa.out _ HB3.out).1; obtain ⟨_, q2, _, _, _⟩ := blk2cells (HKa.out _ HB3.out).2.1; obtain ⟨z0, z1, z2, z3, z4⟩ := blk2cells (HKa.out _ HB3.out).2.2)))
    go_wp2_with fail
    refine bodyPost_ret (v := .tuple #[.agg #[.int .i64 c, .slice Aw (reduceS Z).length cw], .int .i64 0]) ?_ rfl ⟨_, by rw [HE.out], ?_, ?_⟩
    · simp [results, Tryd.results36, go_sem, z0, z1]
    · rw [HE.out]
      exact (owns_keeps HO3.out (((Keeps.refl w3 [some (w.heap.size + 1 + 1)]).setCell (p := ⟨w.heap.size + 1 + 1, 0, none⟩) (by simp) _).setCell (p := ⟨w.heap.size + 1 + 1, 1, none⟩) (by simp) _) (.inr (by simp only [List.mem_singleton]; exact own_ne HO3.out ((HKa.out _ HB3.out).2.2) (by decide)))).mono hs1
    · exact ((HB1.out.trans (HB3.out.mono hs1)).setCell (p := ⟨w.heap.size + 1 + 1, 0, none⟩) (by simp; omega) _).setCell (p := ⟨w.heap.size + 1 + 1, 1, none⟩) (by simp; omega) _
  · have HE : Hid (sumOf c xs c' ys = (0, [], bothOf c xs c' ys)) := by show _ = _; unfold sumOf; rw [if_neg h0]
    have hcb : (bothOf c xs c' ys != 0) = true := by simpa using h0
    generalize bothOf c xs c' ys = code at *
    have H1 := Lib.hid h1
    clear h1 h0
    go_enter Tryd.func36, Tryd.ntmps36
    go_wp2_with fail
    refine H1.out.mono ?_
    rintro e w1 ⟨rfl, hb⟩
    have HB1 := Lib.hid (HB.out.trans (hb.mono HB.out.size))
    obtain ⟨z0, z1, z2, z3, lz⟩ := blk2cells (HK.out _ hb).2.2
    clear hb
    go_wp2_with fail
    refine bodyPost_ret (v := .tuple #[.agg #[.int .i64 0, .slice none 0 0], .int .i64 code]) ?_ rfl ⟨_, by rw [HE.out], by rw [HE.out]; exact World.ownsRow_nil _ _ _ _, ?_⟩
    · simp [results, Tryd.results36, go_sem, z0, z1]
    · exact (HB1.out.setCell (p := ⟨w.heap.size + 1 + 1, 0, none⟩) (by simp; omega) _).setCell (p := ⟨w.heap.size + 1 + 1, 1, none⟩) (by simp; omega) _
end Go.Proofs.YtchmplpgamekjaaDoor
