/- the program's ComplementRows -/
import Derived.Test.YtchmplpgamekjaaDoorS
namespace Go.Proofs.YtchmplpgamekjaaDoor
open Go.RowKit

/-- a span beside an own row -/
theorem span_own_add {w w' : World} {B B' bs m : Nat} {v1 v2 o : Value} {L N : List (Nat × Nat)} {ys : List Value} (hs : SpanAt w B bs v1 v2 L) (ho : w.ownsRow B' 2 1 o m ys) (h1 : o.ownBlock ≠ v1.ownBlock) (h2 : o.ownBlock ≠ v2.ownBlock)
    (hp : AddPost w B bs v1 v2 N w') : w'.ownsRow B' 2 1 o m ys ∧ ∃ u1 u2, SpanAt w' B bs u1 u2 N ∧ o.ownBlock ≠ u1.ownBlock ∧ o.ownBlock ≠ u2.ownBlock := by
  obtain ⟨hk, u1, u2, hs', hu1, hu2⟩ := hp
  have hb := own_ne ho hs.blk (by decide)
  refine ⟨owns_keeps ho hk (.inr ?_), u1, u2, hs', ?_, ?_⟩
  · simp only [List.mem_cons, List.not_mem_nil, or_false, not_or]; exact ⟨hb, h1, h2⟩
  · rcases hu1 with e | ⟨k, e, hk'⟩
    · rw [e]; exact h1
    · intro e'; have := (ho.lt k (e'.trans e)).2; omega
  · rcases hu2 with e | ⟨k, e, hk'⟩
    · rw [e]; exact h2
    · intro e'; have := (ho.lt k (e'.trans e)).2; omega
/-- an append to the own row beside a span -/
theorem span_own_app {w w' : World} {B g bs : Nat} {v1 v2 o : Value} {L : List (Nat × Nat)} {ob : Obj} (hs : SpanAt w B bs v1 v2 L) (hb : o.ownBlock ≠ some bs) (h1 : o.ownBlock ≠ v1.ownBlock) (h2 : o.ownBlock ≠ v2.ownBlock)
    (hg : (w.alloc ob).grownBy w' o.ownBlock) (hat : o.ownBlock = some g ∨ g = (w.alloc ob).heap.size) : SpanAt w' B bs v1 v2 L ∧ some g ≠ v1.ownBlock ∧ some g ≠ v2.ownBlock := by
  refine ⟨hs.keeps (((Keeps.refl w []).alloc ob).trans (Keeps.of_grown hg) (T := [o.ownBlock]) (by simp)) (by simpa using hb.symm) (.inr (by simpa using h1.symm)) (.inr (by simpa using h2.symm)), ?_, ?_⟩
  · rcases hat with h | h
    · rw [← h]; exact h1
    · intro e; have := (hs.own1.lt g e.symm).2; simp at h; omega
  · rcases hat with h | h
    · rw [← h]; exact h2
    · intro e; have := (hs.own2.lt g e.symm).2; simp at h; omega

set_option maxRecDepth 100000 in
set_option maxHeartbeats 2000000 in
theorem implComp_any (c c' : Int) (A A' : Option Addr) (n n' cap cap' : Nat) (xs ys : List Int) (w : World) (hT : Tab w) (hw : 0 < w.heap.size) (hn : n = xs.length) (hn' : n' = ys.length) (hsm : n ≤ 1099511627776) (hsm' : n' ≤ 1099511627776) (hR : Rd w A (iv xs)) (hR' : Rd w A' (iv ys)) :
    Calls Tryd.prog 27 #[.agg #[.int .i64 c, .slice A n cap], .agg #[.int .i64 c', .slice A' n' cap']] w fun e w' =>
      ∃ v, e = .returned (.tuple #[v, .int .i64 (compOf c xs c' ys).2]) ∧ w'.ownsRow w.heap.size 2 1 v (compOf c xs c' ys).1.length (nv (compOf c xs c' ys).1) ∧ Below w.heap.size w w' := by
  have hb1 := blk_alloc (blk_new w (.cells #[.int .i64 c, .slice A n cap] 28)) (.cells #[.int .i64 c', .slice A' n' cap'] 28)
  have hb2 := blk_new1 w (.cells #[.int .i64 c, .slice A n cap] 28) (.cells #[.int .i64 c', .slice A' n' cap'] 28)
  have hbel : Below w.heap.size w ((w.alloc (.cells #[.int .i64 c, .slice A n cap] 28)).alloc (.cells #[.int .i64 c', .slice A' n' cap'] 28)) := ((Below.refl _ _).alloc (Nat.le_refl _) _).alloc (by simp) _
  have h1 := equalColumns_any c c' A A' n n' cap cap' xs ys _ hn hn' hsm hsm' (hR.below hbel) (hR'.below hbel)
  have HK1 := Lib.hid hb1
  have HK2 := Lib.hid hb2
  have HB := Lib.hid hbel
  have HR := Lib.hid hR
  have HR' := Lib.hid hR'
  have Hn := Lib.hid hn
  have Hn' := Lib.hid hn'
  have HT := Lib.hid hT
  clear hb1 hb2 hbel hR hR' hn hn' hT
  by_cases h0 : bothOf c xs c' ys = 0
  · obtain ⟨hi, hj, hc⟩ := bothOf_zero h0
    rw [h0] at h1
    have H1 := Lib.hid h1
    have hsz := span_zs hi
    have hE : compOf c xs c' ys = ((compK (reduceS (toN xs)) (toN ys) (toN ys).length).2.1, 0) := by unfold compOf; rw [if_pos h0]
    have HI := Lib.hid (compKI_inv hsz.1 hsz.2.1 hsz.2.2 (isMat_sm hj))
    rw [← (HI.out _ (Nat.le_refl _)).2.2.2.2] at hE
    have HE := Lib.hid hE
    have hlx := isMat_len hi
    have hly := isMat_len hj
    have HSx := Lib.hid (isMat_sm hi)
    have HSy := Lib.hid (isMat_sm hj)
    have HRx : Hid (Rd w A (nv (toN xs))) := by have := HR.out; rw [iv_toN (fun x hx => (isMat_nonneg hi x hx).1)] at this; exact this
    have HRy : Hid (Rd w A' (nv (toN ys))) := by have := HR'.out; rw [iv_toN (fun x hx => (isMat_nonneg hj x hx).1)] at this; exact this
    have lx : (toN xs).length = xs.length := by simp [toN]
    have ly : (toN ys).length = ys.length := by simp [toN]
    have hlyN : (toN ys).length ≤ 200 := by rw [ly]; exact hly
    have hlsp := spanL_length_le (zs (toN xs))
    rw [zs_length, lx] at hlsp
    have hi0 := (compK_inv (red_reduce HSx.out) HSy.out)
    have HI0 := Lib.hid hi0
    have Lx := Lib.hid lx
    have Ly := Lib.hid ly
    clear h1 h0 hi hj hc lx ly hsz hE hi0
    generalize hL0 : spanL (zs (toN xs)) = L0 at *
    have HL0 := Lib.hid hL0
    clear hL0
    go_enter Tryd.func27, Tryd.ntmps27
    go_wp2_with fail
    refine H1.out.mono ?_
    rintro e w1 ⟨rfl, hb⟩
    have HK1a := Lib.hid (blk_keep HK1.out hb)
    have HK2a := Lib.hid (blk_keep HK2.out hb)
    have HB1 := Lib.hid (HB.out.trans (hb.mono HB.out.size))
    have hs1 := HB1.out.size
    obtain ⟨x0, x1, _, _, _⟩ := blk2cells HK1a.out
    clear hb
    go_wp2_with fail
    refine (spanOf_any A n cap (toN xs) w1 (HT.out.below HB1.out hw) (by omega) (by rw [Hn.out, Lx.out]) (by rw [Hn.out]; omega) HSx.out (HRx.out.below HB1.out)).mono ?_
    rintro e w2 ⟨rfl, ⟨v1, v2, hsp⟩, hb⟩
    rw [HL0.out] at hsp
    have HK2b := Lib.hid (blk_keep HK2a.out hb)
    have HB2 := Lib.hid (HB1.out.trans (hb.mono HB1.out.size))
    have HSP := Lib.hid hsp
    obtain ⟨y0, y1, _, _, _⟩ := blk2cells HK2b.out
    have hlt2 := hsp.lt
    clear hb hsp x0 x1
    go_wp2_with fail
    go_loopw [8, 26] (fun o i wr => ∃ k : Nat, k ≤ n' ∧ i = .int .i64 k ∧ wr.ownsRow w.heap.size 2 1 o (compKI L0 (toN ys) k).2.1.length (nv (compKI L0 (toN ys) k).2.1) ∧
        (∃ v1 v2, SpanAt wr w1.heap.size w1.heap.size v1 v2 (compKI L0 (toN ys) k).1 ∧ o.ownBlock ≠ v1.ownBlock ∧ o.ownBlock ≠ v2.ownBlock) ∧ Below w.heap.size w wr ∧ w1.heap.size ≤ wr.heap.size) (fun _ i _ => n' - (intOf i).toNat)
    case atStart =>
      refine ⟨0, by omega, rfl, ?_, ⟨v1, v2, ?_, ?_, ?_⟩, HB2.out.alloc HB2.out.size _, by simp; omega⟩
      · exact World.ownsRow_made w2 #[] 0 HB2.out.size (by decide) (by simp)
      · exact HSP.out.keeps ((Keeps.refl w2 []).alloc _) (by simp) (.inr (by simp)) (.inr (by simp))
      · intro e; have := (HSP.out.own1.lt w2.heap.size e.symm).2; omega
      · intro e; have := (HSP.out.own2.lt w2.heap.size e.symm).2; omega
    case round =>
      obtain ⟨k, hk, rfl, hoo, ⟨v1, v2, hsp, hne1, hne2⟩, hbel, hsw⟩ := hrel
      have hsz : w.heap.size ≤ wr.heap.size := hbel.size
      by_cases hlt : k < n'
      · have hkL : k < (toN ys).length := by rw [Ly.out, ← Hn'.out]; exact hlt
        obtain ⟨b, o', rfl, hc⟩ := (HRy.out.below hbel).atN hkL
        have hm : (toN ys).getD k 0 ∈ toN ys := by simp only [List.getD, List.getElem?_eq_getElem hkL, Option.getD_some]; exact List.getElem_mem hkL
        have g1 := HSy.out _ hm
        have Hs := Lib.hid (compKI_succ L0 (toN ys) k hkL)
        obtain ⟨i1, i2, i3, i4, i5⟩ := HI.out k (by omega)
        obtain ⟨_, _, j3, j4⟩ := HI0.out k (by omega)
        rw [← i5] at j3 j4
        clear i1 i2 i5 hm
        generalize compKI L0 (toN ys) k = p at *
        generalize (toN ys).getD k 0 = x at *
        obtain ⟨L, out, kk⟩ := p
        simp only at i3 i4 j3 j4 hoo hsp
        subst j4
        have ha := add_any w1.heap.size w1.heap.size v1 v2 L x 0 wr (HT.out.below hbel hw) (by omega) hsw hsp (by omega) g1 Sm.zero i3
        have HSQ := Lib.hid hsp
        have HOO := Lib.hid hoo
        have HN1 := Lib.hid hne1
        have HN2 := Lib.hid hne2
        have HB := Lib.hid hbel
        by_cases h0 : (leftN L (x, 0)).1 = 0
        · have hv : AddRes L (x, 0) = .tuple #[.int .i64 ((leftN L (x, 0)).2 : Nat), .bool false] := by simp [AddRes, h0]
          rw [hv] at ha
          have HA := Lib.hid ha
          have HS1 : Hid (compStepI (L, out, kk) x = (addL L (x, 0), out, kk + 1)) := by show _ = _; simp [compStepI, h0]
          clear ha hv h0 hsp hoo hne1 hne2 hbel i3
          generalize (leftN L (x, 0)).2 = z at *
          go_wp2_with (go_at_call 77; refine HA.out.mono ?_; rintro e w3 ⟨rfl, hpost⟩)
          have HP := Lib.hid hpost
          clear hpost
          go_roundw
          case rel =>
            obtain ⟨q1, u1, u2, q2, q3, q4⟩ := span_own_add HSQ.out HOO.out HN1.out HN2.out HP.out
            have hb3 := HP.out.below HSQ.out hsw
            exact ⟨kk + 1, by omega, by go_num, by rw [Hs.out, HS1.out]; exact q1, ⟨u1, u2, by rw [Hs.out, HS1.out]; exact q2, q3, q4⟩, HB.out.trans (hb3.mono hs1), Nat.le_trans hsw hb3.size⟩
          case measure => simp [intOf]; omega
        · have hv : AddRes L (x, 0) = .tuple #[.int .i64 0, .bool true] := by simp [AddRes, h0]
          rw [hv] at ha
          have HA := Lib.hid ha
          have HS1 : Hid (compStepI (L, out, kk) x = (addL L (x, 0), out ++ [kk], kk + 1)) := by show _ = _; simp [compStepI, h0]
          clear ha hv h0 hsp hoo hne1 hne2 hbel i3
          go_wp2_with (first | (go_at_call 77; refine HA.out.mono ?_; (rintro e w3 ⟨rfl, hpost⟩; obtain ⟨q1, u1, u2, q2, q3, q4⟩ := span_own_add HSQ.out HOO.out HN1.out HN2.out hpost; have hb3 := hpost.below HSQ.out hsw; have HQ1 := Lib.hid q1; have HQ2 := Lib.hid q2; have HQ3 := Lib.hid q3; have HQ4 := Lib.hid q4; have HB3 := Lib.hid (HB.out.trans (hb3.mono hs1)); have hsw3 := Nat.le_trans hsw hb3.size; have hsz3 : w.heap.size ≤ w3.heap.size := HB3.out.size; clear hpost q1 q2 q3 q4 hb3)) | (at_builtin; refine wpList_app1 _ _ _ _ _ etI (by rfl) (by rfl) w.heap.size _ out.length (nv out) (by rfl) ?_ _ (.int .i64 (kk : Int)) (by rfl) ?_ (by rfl) ?_ ?_ ?_; exact HQ1.out.alloc _; exact new_cell _ _ _; omega; (simp; omega); (intro g2 cap2 w4 hown2 hgrow2 hat2 hlt2; have HO2' : Hid (w4.ownsRow w.heap.size 2 1 (.slice (some ⟨g2, 0, none⟩) (out.length + 1) cap2) (out.length + 1) (nv (out ++ [kk]))) := (by rw [← nv_snoc]; exact hown2); have HG2 := Lib.hid hgrow2; have HA2 := Lib.hid hat2; clear hown2 hgrow2 hat2 hlt2)))
          go_roundw
          case rel =>
            obtain ⟨t1, t2, t3⟩ := span_own_app HQ2.out (own_ne HQ1.out HQ2.out.blk (by decide)) HQ3.out HQ4.out HG2.out HA2.out
            have hb4 := below_app HB3.out hsz3 HQ1.out HG2.out
            have hg4 := HG2.out.size
            exact ⟨kk + 1, by omega, by go_num, by rw [Hs.out, HS1.out]; exact own_cast HO2'.out (by simp) rfl, ⟨u1, u2, by rw [Hs.out, HS1.out]; exact t1, t2, t3⟩, hb4, by simp at hg4; omega⟩
          case measure => simp [intOf]; omega
      · have ek : k = (toN ys).length := by rw [Ly.out, ← Hn'.out]; omega
        have HOO := Lib.hid hoo
        have HB := Lib.hid hbel
        clear hoo hne1 hne2 hsp hbel
        go_wp2_with fail
        go_ret2
        exact ⟨_, by rw [HE.out]; rfl, by rw [HE.out]; rw [← ek]; exact HOO.out, HB.out⟩
  · have HE : Hid (compOf c xs c' ys = ([], bothOf c xs c' ys)) := by show _ = _; unfold compOf; rw [if_neg h0]
    have hcb : (bothOf c xs c' ys != 0) = true := by simpa using h0
    generalize bothOf c xs c' ys = code at *
    have H1 := Lib.hid h1
    clear h1 h0
    go_enter Tryd.func27, Tryd.ntmps27
    go_wp2_with fail
    refine H1.out.mono ?_
    rintro e w1 ⟨rfl, hb⟩
    have HB1 := Lib.hid (HB.out.trans (hb.mono HB.out.size))
    clear hb
    go_wp2_with fail
    go_ret2
    exact ⟨_, by rw [HE.out]; rfl, by rw [HE.out]; exact World.ownsRow_nil _ _ _ _, HB1.out⟩
end Go.Proofs.YtchmplpgamekjaaDoor
