/- the program's kernel -/
import Derived.Test.YtchmplpgamekjaaDoorKb
import Derived.Test.YtchmplpgamekjaaDoorRf
namespace Go.Proofs.YtchmplpgamekjaaDoor
open Go.RowKit

def kerS (S : List Nat) (k : Nat) : List Nat := kerOut (fun k => spanL ((us 0 S).take k)) S k
theorem kerS_succ (S : List Nat) (k : Nat) : kerS S (k + 1) = kerStep (spanL ((us 0 S).take k)) (S.getD k 0, 2 ^ k) (kerS S k) := rfl
theorem kerS_K {S : List Nat} (hS : ∀ r ∈ S, Sm r) (hl : S.length ≤ 62) : reduceS (kerS S S.length) = reduceS (kerK S S.length) := (kernel_both hS hl).symm

set_option maxRecDepth 100000 in
set_option maxHeartbeats 2000000 in
theorem kernel_any (A : Option Addr) (n c : Nat) (S : List Nat) (w : World) (hT : Tab w) (hw : 0 < w.heap.size) (hn : n = S.length) (hsmall : n ≤ 60) (hS : ∀ r ∈ S, Sm r) (hR : Rd w A (nv S)) :
    Calls Tryd.prog 89 #[.slice A n c] w fun e w' => ∃ v, e = .returned v ∧ w'.ownsRow w.heap.size 2 1 v (reduceS (kerK S S.length)).length (nv (reduceS (kerK S S.length))) ∧ Below w.heap.size w w' := by
  have HEQ := Lib.hid (kerS_K hS (by omega))
  have HKS := Lib.hid ((kerG_span hS (by omega)).sm (by omega))
  have HSM := Lib.hid (us_sm hS (by omega))
  have Hn := Lib.hid hn
  have HR := Lib.hid hR
  have HS := Lib.hid hS
  have HT := Lib.hid hT
  have HSP0 := Lib.hid (SpanAt.new w)
  clear hn hR hS hT
  go_enter Tryd.func89, Tryd.ntmps89
  go_wp2_with fail
  go_loopw [4, 14] (fun o i wr => ∃ k : Nat, k ≤ n ∧ i = .int .i64 k ∧ wr.ownsRow w.heap.size 2 1 o (kerS S k).length (nv (kerS S k)) ∧
      (∃ v1 v2, SpanAt wr w.heap.size w.heap.size v1 v2 (spanL ((us 0 S).take k)) ∧ o.ownBlock ≠ v1.ownBlock ∧ o.ownBlock ≠ v2.ownBlock) ∧ Below w.heap.size w wr) (fun _ i _ => n - (intOf i).toNat)
  case atStart =>
    refine ⟨0, by omega, rfl, ?_, ⟨_, _, HSP0.out.keeps ((Keeps.refl _ []).alloc _) (by simp) (.inr (by simp)) (.inr (by simp)), by simp [Value.ownBlock], by simp [Value.ownBlock]⟩, ((Below.refl _ _).alloc (Nat.le_refl _) _).alloc (by simp) _⟩
    have := World.ownsRow_made (w.alloc (.cells #[.slice none 0 0, .slice none 0 0] 68)) #[] 0 (base := w.heap.size) (e := 2) (size := 1) (by simp) (by decide) (by simp)
    simp only [World.size_alloc] at this
    exact this
  case round =>
    obtain ⟨k, hk, rfl, hoo, ⟨v1, v2, hsp, hne1, hne2⟩, hbel⟩ := hrel
    have hsz : w.heap.size ≤ wr.heap.size := hbel.size
    have hko := kerOut_length (fun k => spanL ((us 0 S).take k)) S k
    change (kerS S k).length ≤ k at hko
    by_cases hlt : k < n
    · have hkL : k < S.length := by rw [← Hn.out]; exact hlt
      obtain ⟨b, o', rfl, hc⟩ := (HR.out.below hbel).atN hkL
      have hx := HS.out _ (getD_mem hkL)
      have hp2 : Sm (2 ^ k) := by have := pw_sm (p := k) (by omega); exact this
      have Hs : Hid (spanL ((us 0 S).take (k + 1)) = addL (spanL ((us 0 S).take k)) (S.getD k 0, 2 ^ k)) := by
        show _ = _; rw [spanL_take_succ (us 0 S) k (by rw [us_length]; exact hkL), us_getD0 hkL]
      have Hk := Lib.hid (kerS_succ S k)
      have hl := spanL_length_le ((us 0 S).take k)
      rw [List.length_take] at hl
      have hg := (spanL_perm ((us 0 S).take k) (fun p hp => HSM.out p (List.mem_of_mem_take hp))).2.2
      generalize spanL ((us 0 S).take k) = L at *
      generalize kerS S k = O at *
      generalize S.getD k 0 = x at *
      have ha := add_any w.heap.size w.heap.size v1 v2 L x (2 ^ k) wr (HT.out.below hbel hw) hw hsz hsp (by omega) hx hp2 hg
      rw [← shl_one (by omega)] at ha
      have hks : kerStep L (x, 2 ^ k) O = if (leftN L (x, 2 ^ k)).1 = 0 then O ++ [(leftN L (x, 2 ^ k)).2] else O := rfl
      obtain ⟨F, cf, rfl, _, hF, _⟩ := owns_shape hoo
      have HSQ := Lib.hid hsp
      have HOO := Lib.hid hoo
      have HN1 := Lib.hid hne1
      have HN2 := Lib.hid hne2
      have HB := Lib.hid hbel
      by_cases h0 : (leftN L (x, 2 ^ k)).1 = 0
      · have hv : AddRes L (x, 2 ^ k) = .tuple #[.int .i64 ((leftN L (x, 2 ^ k)).2 : Nat), .bool false] := by simp [AddRes, h0]
        rw [hv] at ha
        rw [if_pos h0] at hks
        have HA := Lib.hid ha
        have HKS' := Lib.hid hks
        clear ha hv h0 hks hsp hoo hne1 hne2 hbel hg hF
        generalize (leftN L (x, 2 ^ k)).2 = z at *
        go_wp2_with (first | (go_at_call 77; refine HA.out.mono ?_; (rintro e w3 ⟨rfl, hpost⟩; obtain ⟨q1, u1, u2, q2, q3, q4⟩ := span_own_add HSQ.out HOO.out HN1.out HN2.out hpost; have hb3 := hpost.below HSQ.out hsz; have HQ1 := Lib.hid q1; have HQ2 := Lib.hid q2; have HQ3 := Lib.hid q3; have HQ4 := Lib.hid q4; have HB3 := Lib.hid (HB.out.trans (hb3.mono (Nat.le_refl _))); have hsz3 : w.heap.size ≤ w3.heap.size := HB3.out.size; clear hpost q1 q2 q3 q4 hb3)) | (at_builtin; refine wpList_app1 _ _ _ _ _ etI (by rfl) (by rfl) w.heap.size (.slice F O.length cf) O.length (nv O) (by rfl) ?_ _ (.int .i64 (z : Int)) (by rfl) ?_ (by rfl) ?_ ?_ ?_; exact HQ1.out.alloc _; exact new_cell _ _ _; omega; (simp; omega); (intro g2 cap2 w4 hown2 hgrow2 hat2 hlt2; have HO2' : Hid (w4.ownsRow w.heap.size 2 1 (.slice (some ⟨g2, 0, none⟩) (O.length + 1) cap2) (O.length + 1) (nv (O ++ [z]))) := (by rw [← nv_snoc]; exact hown2); have HG2 := Lib.hid hgrow2; have HA2 := Lib.hid hat2; clear hown2 hgrow2 hat2 hlt2)))
        go_roundw
        case rel =>
          obtain ⟨t1, t2, t3⟩ := span_own_app HQ2.out (own_ne HQ1.out HQ2.out.blk (by decide)) HQ3.out HQ4.out HG2.out HA2.out
          exact ⟨k + 1, by omega, by go_num, by rw [Hk.out, HKS'.out]; exact own_cast HO2'.out (by simp) rfl, ⟨u1, u2, by rw [Hs.out]; exact t1, t2, t3⟩, below_app HB3.out hsz3 HQ1.out HG2.out⟩
        case measure => simp [intOf]; omega
      · have hv : AddRes L (x, 2 ^ k) = .tuple #[.int .i64 0, .bool true] := by simp [AddRes, h0]
        rw [hv] at ha
        rw [if_neg h0] at hks
        have HA := Lib.hid ha
        have HKS' := Lib.hid hks
        clear ha hv h0 hks hsp hoo hne1 hne2 hbel hg hF
        go_wp2_with (go_at_call 77; refine HA.out.mono ?_; rintro e w3 ⟨rfl, hpost⟩; have HP := Lib.hid hpost; clear hpost)
        go_roundw
        case rel =>
          obtain ⟨q1, u1, u2, q2, q3, q4⟩ := span_own_add HSQ.out HOO.out HN1.out HN2.out HP.out
          exact ⟨k + 1, by omega, by go_num, by rw [Hk.out, HKS'.out]; exact q1, ⟨u1, u2, by rw [Hs.out]; exact q2, q3, q4⟩, HB.out.trans (HP.out.below HSQ.out hsz)⟩
        case measure => simp [intOf]; omega
    · have ek : k = S.length := by rw [← Hn.out]; omega
      subst ek
      obtain ⟨F, cf, rfl, _, hF, _⟩ := owns_shape hoo
      have hr := reduced_any F (kerS S S.length).length cf (kerS S S.length) wr (HT.out.below hbel hw) (by omega) rfl (by omega) HKS.out (owns_Rd hoo)
      rw [HEQ.out] at hr
      have HRR := Lib.hid hr
      have HB := Lib.hid hbel
      clear hoo hne1 hne2 hsp hbel hF hr
      go_wp2_with fail
      refine HRR.out.mono ?_
      rintro e w2 ⟨v, rfl, ho, hb⟩
      have HO2 := Lib.hid ho
      have HB2 := Lib.hid hb
      clear ho hb
      go_wp2_with fail
      go_ret
      exact ⟨v, rfl, HO2.out.mono hsz, HB.out.trans (HB2.out.mono hsz)⟩

/-! ### few rows -/
def fewOf (c : Int) (xs : List Int) : Int := if isMat c xs then (if 60 < xs.length then 2 else 0) else 1
set_option maxHeartbeats 1000000 in
theorem l02Few_any (c : Int) (A : Option Addr) (n cap : Nat) (xs : List Int) (w : World) (hn : n = xs.length) (hsm : n ≤ 1099511627776) (hR : Rd w A (iv xs)) :
    Calls Tryd.prog 82 #[.agg #[.int .i64 c, .slice A n cap]] w fun e w' => e = .returned (.int .i64 (fewOf c xs)) ∧ Below w.heap.size w w' := by
  have hb1 := blk_new w (.cells #[.int .i64 c, .slice A n cap] 28)
  have hbel : Below w.heap.size w (w.alloc (.cells #[.int .i64 c, .slice A n cap] 28)) := (Below.refl _ _).alloc (Nat.le_refl _) _
  have h1 := l02Is_any c A n cap xs _ hn hsm (hR.below hbel)
  have HK1 := Lib.hid hb1
  have HB := Lib.hid hbel
  cases hi : isMat c xs with
  | false =>
    rw [hi] at h1
    have HE : Hid (fewOf c xs = 1) := by show _ = _; simp [fewOf, hi]
    have H1 := Lib.hid h1
    clear h1 hi hb1 hbel hR hn
    go_enter Tryd.func82, Tryd.ntmps82
    go_wp2_with fail
    refine H1.out.mono ?_
    rintro e w1 ⟨rfl, hb⟩
    have HB1 := Lib.hid hb
    clear hb
    go_wp2_with fail
    go_ret
    exact ⟨by rw [HE.out]; rfl, HB.out.trans (HB1.out.mono HB.out.size)⟩
  | true =>
    rw [hi] at h1
    have H1 := Lib.hid h1
    by_cases hc : 60 < n
    · have HE : Hid (fewOf c xs = 2) := by show _ = _; unfold fewOf; rw [if_pos hi, if_pos (by omega)]
      clear h1 hi hb1 hbel hR hn
      go_enter Tryd.func82, Tryd.ntmps82
      go_wp2_with fail
      refine H1.out.mono ?_
      rintro e w1 ⟨rfl, hb⟩
      obtain ⟨x0, x1, _, _, _⟩ := blk2cells (blk_keep HK1.out hb)
      have HB1 := Lib.hid hb
      clear hb
      go_wp2_with fail
      go_ret
      exact ⟨by rw [HE.out]; rfl, HB.out.trans (HB1.out.mono HB.out.size)⟩
    · have HE : Hid (fewOf c xs = 0) := by show _ = _; unfold fewOf; rw [if_pos hi, if_neg (by omega)]
      clear h1 hi hb1 hbel hR hn
      go_enter Tryd.func82, Tryd.ntmps82
      go_wp2_with fail
      refine H1.out.mono ?_
      rintro e w1 ⟨rfl, hb⟩
      obtain ⟨x0, x1, _, _, _⟩ := blk2cells (blk_keep HK1.out hb)
      have HB1 := Lib.hid hb
      clear hb
      go_wp2_with fail
      go_ret
      exact ⟨by rw [HE.out]; rfl, HB.out.trans (HB1.out.mono HB.out.size)⟩

set_option maxHeartbeats 1000000 in
theorem narrow_any (c : Int) (A : Option Addr) (n cap : Nat) (xs : List Int) (w : World) (hn : n = xs.length) (hsm : n ≤ 1099511627776) (hR : Rd w A (iv xs)) :
    Calls Tryd.prog 85 #[.agg #[.int .i64 c, .slice A n cap]] w fun e w' => e = .returned (.int .i64 (fewOf c xs)) ∧ Below w.heap.size w w' := by
  have hb1 := blk_new w (.cells #[.int .i64 c, .slice A n cap] 28)
  have hbel : Below w.heap.size w (w.alloc (.cells #[.int .i64 c, .slice A n cap] 28)) := (Below.refl _ _).alloc (Nat.le_refl _) _
  have h1 := isMatrix_any c A n cap xs _ hn hsm (hR.below hbel)
  have HK1 := Lib.hid hb1
  have HB := Lib.hid hbel
  cases hi : isMat c xs with
  | false =>
    rw [hi] at h1
    have HE : Hid (fewOf c xs = 1) := by show _ = _; simp [fewOf, hi]
    have H1 := Lib.hid h1
    clear h1 hi hb1 hbel hR hn
    go_enter Tryd.func85, Tryd.ntmps85
    go_wp2_with fail
    refine H1.out.mono ?_
    rintro e w1 ⟨rfl, hb⟩
    have HB1 := Lib.hid hb
    clear hb
    go_wp2_with fail
    go_ret
    exact ⟨by rw [HE.out]; rfl, HB.out.trans (HB1.out.mono HB.out.size)⟩
  | true =>
    rw [hi] at h1
    have H1 := Lib.hid h1
    by_cases hc : 60 < n
    · have HE : Hid (fewOf c xs = 2) := by show _ = _; unfold fewOf; rw [if_pos hi, if_pos (by omega)]
      clear h1 hi hb1 hbel hR hn
      go_enter Tryd.func85, Tryd.ntmps85
      go_wp2_with fail
      refine H1.out.mono ?_
      rintro e w1 ⟨rfl, hb⟩
      obtain ⟨x0, x1, _, _, _⟩ := blk2cells (blk_keep HK1.out hb)
      have HB1 := Lib.hid hb
      clear hb
      go_wp2_with fail
      go_ret
      exact ⟨by rw [HE.out]; rfl, HB.out.trans (HB1.out.mono HB.out.size)⟩
    · have HE : Hid (fewOf c xs = 0) := by show _ = _; unfold fewOf; rw [if_pos hi, if_neg (by omega)]
      clear h1 hi hb1 hbel hR hn
      go_enter Tryd.func85, Tryd.ntmps85
      go_wp2_with fail
      refine H1.out.mono ?_
      rintro e w1 ⟨rfl, hb⟩
      obtain ⟨x0, x1, _, _, _⟩ := blk2cells (blk_keep HK1.out hb)
      have HB1 := Lib.hid hb
      clear hb
      go_wp2_with fail
      go_ret
      exact ⟨by rw [HE.out]; rfl, HB.out.trans (HB1.out.mono HB.out.size)⟩

end Go.Proofs.YtchmplpgamekjaaDoor
