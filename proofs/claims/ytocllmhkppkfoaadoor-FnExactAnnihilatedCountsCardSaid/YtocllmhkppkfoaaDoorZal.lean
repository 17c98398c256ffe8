/- the reference's l01Sum · the reference's l03Left at one admissible word -/
import Derived.Test.YtocllmhkppkfoaaDoorZak
namespace Go.Proofs.YtocllmhkppkfoaaDoor
open Go.RowKit

theorem dat_append1 (R : List Row) (r : Row) : dat (R ++ [r]) = dat R ++ [r.xs] := by simp [dat]
theorem OwnR.push {wr w1 : World} {B g cap n : Nat} {v : Value} {R : List Row} {ws : List Int} (hR : OwnR wr B v R) (hb : Below wr.heap.size wr w1) (ho : w1.ownsRow wr.heap.size 2 1 (.slice (some ⟨g, 0, none⟩) n cap) n (iv ws)) (hn : n = ws.length) (hB : B ≤ wr.heap.size)
    {o : Obj} {g2 c2 : Nat} {w3 : World} (hown : w3.ownsRow B 22 1 (.slice (some ⟨g2, 0, none⟩) (R.length + 1) c2) (R.length + 1) (hv R ++ [.slice (some ⟨g, 0, none⟩) n cap])) (hg : (w1.alloc o).grownBy w3 v.ownBlock) :
    OwnR w3 B (.slice (some ⟨g2, 0, none⟩) (R.length + 1) c2) (R ++ [⟨some ⟨g, 0, none⟩, cap, ws⟩]) := by
  subst hn
  refine (hR.later hb).app (r := ⟨some ⟨g, 0, none⟩, cap, ws⟩) (ho.mono hB) ?_ hown hg
  intro i hi
  refine .inr fun e => ?_
  have h1 := (ho.lt g rfl).1
  have h2 := ((hR.inn i hi).lt g (by rw [← e]; rfl)).2
  omega

set_option maxRecDepth 100000 in
set_option maxHeartbeats 4000000 in
theorem l01Sum_any (A B : Option Addr) (n n' c c' : Nat) (L K : List Row) (w : World) (hn : n = L.length) (hn' : n' = K.length) (hsm : n ≤ 1000000) (hsm' : n' ≤ 1000000) (hl : ∀ i, i < L.length → (rg L i).xs.length ≤ 1000000) (hl' : ∀ i, i < K.length → (rg K i).xs.length ≤ 1000000) (hA : RdR w A L) (hB : RdR w B K) :
    Calls Tryd.prog 166 #[.slice A n c, .slice B n' c'] w (ResRows (sumR (dat L) (dat K)) w) := by
  have HA := Lib.hid hA
  have HB := Lib.hid hB
  have Hn := Lib.hid hn
  have Hn' := Lib.hid hn'
  have HL := Lib.hid hl
  have HL' := Lib.hid hl'
  clear hA hB hn hn' hl hl'
  go_enter Tryd.func166, Tryd.ntmps166
  go_wp2_with fail
  go_loopw [5, 6, 7] (fun v s6 s7 wr => ∃ i k : Nat, ∃ R : List Row, ∃ A1 c1, s6 = .int .i64 i ∧ s7 = .int .i64 k ∧ v = .slice A1 R.length c1 ∧ i ≤ n ∧ k ≤ n' ∧ R.length ≤ i + k ∧ Hid (SumAt (dat L) (dat K) (dat R) i k) ∧ OwnR wr w.heap.size (.slice A1 R.length c1) R ∧ Below w.heap.size w wr) (fun _ i k _ => n + n' - (intOf i).toNat - (intOf k).toNat)
  case atStart => exact ⟨0, 0, [], some ⟨w.heap.size, 0, none⟩, 0, rfl, rfl, rfl, by omega, by omega, by simp, Lib.hid (SumAt.start _ _), OwnR.made w (Nat.le_refl _), (Below.refl _ _).alloc (Nat.le_refl _) _⟩
  case round =>
    obtain ⟨i, k, R, A1, c1, rfl, rfl, rfl, hi, hk, hRl, HS, hown, hbel⟩ := hrel
    have HO := Lib.hid hown
    have HBL := Lib.hid hbel
    have hsz := hbel.size
    have hq : R.length < 1099511627776 := by omega
    have hA1 := HA.out.below hbel
    have hB1 := HB.out.below hbel
    by_cases hi' : i < n
    · have hiL : i < L.length := by rw [← Hn.out]; exact hi'
      obtain ⟨b1, o1, rfl, hc1⟩ := hA1.at_ hiL
      have hr1 := hA1.inn i hiL
      have hl1 := HL.out i hiL
      have HX : Hid ((dat L).getD i [] = (rg L i).xs) := Lib.hid (dat_getD L i)
      have HSL := Lib.hid (fun hc => HS.out.left (by rw [dat_length]; exact hiL) hc)
      have hin : ((i : Int) == (n : Int)) = false := by simp; omega
      by_cases hk' : k < n'
      · have hkK : k < K.length := by rw [← Hn'.out]; exact hk'
        obtain ⟨b2, o2, rfl, hc2⟩ := hB1.at_ hkK
        have hr2 := hB1.inn k hkK
        have hl2 := HL'.out k hkK
        have HY : Hid ((dat K).getD k [] = (rg K k).xs) := Lib.hid (dat_getD K k)
        have HSR := Lib.hid (fun hc => HS.out.right (by rw [dat_length]; exact hkK) hc)
        have HSB := Lib.hid (fun h1 h2 => HS.out.both (by rw [dat_length]; exact hiL) (by rw [dat_length]; exact hkK) h1 h2)
        rw [HX.out] at HSL HSR HSB
        rw [HY.out] at HSL HSR HSB
        generalize rg L i = r at *
        generalize rg K k = s at *
        obtain ⟨rA, rc, rx⟩ := r
        obtain ⟨sA, sc, sx⟩ := s
        simp only at hc1 hr1 hl1 hc2 hr2 hl2 HSL HSR HSB
        have HC1 := Lib.hid (fun W hb => l01Less_any rA sA rx.length sx.length rc sc rx sx W rfl rfl (by omega) (by omega) (Rd.below hr1 hb) (Rd.below hr2 hb))
        have HC2 := Lib.hid (fun W hb => l01Less_any sA rA sx.length rx.length sc rc sx rx W rfl rfl (by omega) (by omega) (Rd.below hr2 hb) (Rd.below hr1 hb))
        have HW1 := Lib.hid (fun W hb => l01Own_any rA rx.length rc (iv rx) W (by rw [iv_length]) (by omega) (iv_one _) (Rd.below hr1 hb))
        have HW2 := Lib.hid (fun W hb => l01Own_any sA sx.length sc (iv sx) W (by rw [iv_length]) (by omega) (iv_one _) (Rd.below hr2 hb))
        have hkn : ((k : Int) == (n' : Int)) = false := by simp; omega
        clear hr1 hr2 hA1 hB1 hown hbel HX HY
        cases hb1 : lexLt rx sx
        · rw [hb1] at HC1
          cases hb2 : lexLt sx rx
          · rw [hb2] at HC2
            have HS2 := Lib.hid (HSB.out hb1 hb2)
            clear hb1 hb2
            go_wp2_with fail
            go_big_quiet ((go_at_call 154; first | with_reducible exact quiet_any (HC1.out _ (below_drewN (Below.refl _ _) _)) | with_reducible exact quiet_any_add (HC1.out _ (below_drewN (Below.refl _ _) _))))
            go_wp2_with fail
            go_big_quiet ((go_at_call 154; first | exact quiet_any_add (HC2.out _ (below_drewN (Below.refl _ _) _)) | exact quiet_any (HC2.out _ (below_drewN (Below.refl _ _) _))))
            go_wp2_with fail
            go_roundw
            case rel => exact ⟨i + 1, k + 1, R, A1, c1, by go_num, by go_num, rfl, by omega, by omega, by omega, HS2, HO.out.drewN _, below_drewN HBL.out _⟩
            case measure => simp [intOf]; omega
          · rw [hb2] at HC2
            have HS2 := Lib.hid (HSR.out (.inr ⟨hb1, hb2⟩))
            clear hb1 hb2
            go_wp2_with fail
            go_big_quiet ((go_at_call 154; first | with_reducible exact quiet_any (HC1.out _ (below_drewN (Below.refl _ _) _)) | with_reducible exact quiet_any_add (HC1.out _ (below_drewN (Below.refl _ _) _))))
            go_wp2_with fail
            go_big_quiet ((go_at_call 154; first | exact quiet_any_add (HC2.out _ (below_drewN (Below.refl _ _) _)) | exact quiet_any (HC2.out _ (below_drewN (Below.refl _ _) _))))
            go_wp2_with fail
            refine (HW2.out _ (below_drewN (Below.refl _ _) _)).mono ?_
            rintro e w1 ⟨g, cap, rfl, ho, hb⟩
            have HB1 := Lib.hid (show Below wr.heap.size wr w1 from ⟨hb.os, hb.tape, hb.output, hb.size, hb.block⟩)
            have HO1 := Lib.hid (show w1.ownsRow wr.heap.size 2 1 (.slice (some ⟨g, 0, none⟩) sx.length cap) sx.length (iv sx) from ho)
            clear ho hb
            go_wp2_with (at_builtin; refine wpList_app1 _ _ _ _ _ etS (by rfl) (by rfl) w.heap.size (.slice A1 R.length c1) R.length (hv R) (by rfl) ((HO.out.later HB1.out).out.alloc _) _ (.slice (some ⟨g, 0, none⟩) sx.length cap) (by rfl) (new_cell _ _ _) (by rfl) hq (Nat.le_trans (Nat.le_trans hsz HB1.out.size) (Nat.le_of_lt (by simp))) ?_; (intro g2 c2 w3 hown3 hg3 hat3 hlt3; have HN := Lib.hid (OwnR.push HO.out HB1.out HO1.out rfl hsz hown3 hg3); have HB3 := Lib.hid (below_app2 (HBL.out.trans (HB1.out.mono hsz)) (Nat.le_trans hsz HB1.out.size) (HO.out.later HB1.out).out hg3); clear hown3 hg3 hat3 hlt3))
            go_roundw
            case rel => exact ⟨i, k + 1, R ++ [⟨some ⟨g, 0, none⟩, cap, sx⟩], some ⟨g2, 0, none⟩, c2, by go_num, by go_num, by rw [List.length_append]; rfl, by omega, by omega, by rw [List.length_append]; simp; omega, Lib.hid (by rw [dat_append1]; exact HS2.out), by rw [List.length_append]; exact HN.out, HB3.out⟩
            case measure => simp [intOf]; omega
        · rw [hb1] at HC1
          have HS2 := Lib.hid (HSL.out (.inr hb1))
          clear hb1
          go_wp2_with fail
          go_big_quiet ((go_at_call 154; first | with_reducible exact quiet_any (HC1.out _ (below_drewN (Below.refl _ _) _)) | with_reducible exact quiet_any_add (HC1.out _ (below_drewN (Below.refl _ _) _))))
          go_wp2_with fail
          refine (HW1.out _ (below_drewN (Below.refl _ _) _)).mono ?_
          rintro e w1 ⟨g, cap, rfl, ho, hb⟩
          have HB1 := Lib.hid (show Below wr.heap.size wr w1 from ⟨hb.os, hb.tape, hb.output, hb.size, hb.block⟩)
          have HO1 := Lib.hid (show w1.ownsRow wr.heap.size 2 1 (.slice (some ⟨g, 0, none⟩) rx.length cap) rx.length (iv rx) from ho)
          clear ho hb
          go_wp2_with (at_builtin; refine wpList_app1 _ _ _ _ _ etS (by rfl) (by rfl) w.heap.size (.slice A1 R.length c1) R.length (hv R) (by rfl) ((HO.out.later HB1.out).out.alloc _) _ (.slice (some ⟨g, 0, none⟩) rx.length cap) (by rfl) (new_cell _ _ _) (by rfl) hq (Nat.le_trans (Nat.le_trans hsz HB1.out.size) (Nat.le_of_lt (by simp))) ?_; (intro g2 c2 w3 hown3 hg3 hat3 hlt3; have HN := Lib.hid (OwnR.push HO.out HB1.out HO1.out rfl hsz hown3 hg3); have HB3 := Lib.hid (below_app2 (HBL.out.trans (HB1.out.mono hsz)) (Nat.le_trans hsz HB1.out.size) (HO.out.later HB1.out).out hg3); clear hown3 hg3 hat3 hlt3))
          go_roundw
          case rel => exact ⟨i + 1, k, R ++ [⟨some ⟨g, 0, none⟩, cap, rx⟩], some ⟨g2, 0, none⟩, c2, by go_num, by go_num, by rw [List.length_append]; rfl, by omega, by omega, by rw [List.length_append]; simp; omega, Lib.hid (by rw [dat_append1]; exact HS2.out), by rw [List.length_append]; exact HN.out, HB3.out⟩
          case measure => simp [intOf]; omega
      · rw [HX.out] at HSL
        generalize rg L i = r at *
        obtain ⟨rA, rc, rx⟩ := r
        simp only at hc1 hr1 hl1 HSL
        have HW1 := Lib.hid (fun W hb => l01Own_any rA rx.length rc (iv rx) W (by rw [iv_length]) (by omega) (iv_one _) (Rd.below hr1 hb))
        have HS2 := Lib.hid (HSL.out (.inl (by rw [dat_length, ← Hn'.out]; omega)))
        have hkn : ((k : Int) == (n' : Int)) = true := by simp; omega
        clear hr1 hA1 hB1 hown hbel HX
        go_wp2_with fail
        go_big_quiet (fail)
        go_wp2_with fail
        refine (HW1.out _ (below_drewN (Below.refl _ _) _)).mono ?_
        rintro e w1 ⟨g, cap, rfl, ho, hb⟩
        have HB1 := Lib.hid (show Below wr.heap.size wr w1 from ⟨hb.os, hb.tape, hb.output, hb.size, hb.block⟩)
        have HO1 := Lib.hid (show w1.ownsRow wr.heap.size 2 1 (.slice (some ⟨g, 0, none⟩) rx.length cap) rx.length (iv rx) from ho)
        clear ho hb
        go_wp2_with (at_builtin; refine wpList_app1 _ _ _ _ _ etS (by rfl) (by rfl) w.heap.size (.slice A1 R.length c1) R.length (hv R) (by rfl) ((HO.out.later HB1.out).out.alloc _) _ (.slice (some ⟨g, 0, none⟩) rx.length cap) (by rfl) (new_cell _ _ _) (by rfl) hq (Nat.le_trans (Nat.le_trans hsz HB1.out.size) (Nat.le_of_lt (by simp))) ?_; (intro g2 c2 w3 hown3 hg3 hat3 hlt3; have HN := Lib.hid (OwnR.push HO.out HB1.out HO1.out rfl hsz hown3 hg3); have HB3 := Lib.hid (below_app2 (HBL.out.trans (HB1.out.mono hsz)) (Nat.le_trans hsz HB1.out.size) (HO.out.later HB1.out).out hg3); clear hown3 hg3 hat3 hlt3))
        go_roundw
        case rel => exact ⟨i + 1, k, R ++ [⟨some ⟨g, 0, none⟩, cap, rx⟩], some ⟨g2, 0, none⟩, c2, by go_num, by go_num, by rw [List.length_append]; rfl, by omega, by omega, by rw [List.length_append]; simp; omega, Lib.hid (by rw [dat_append1]; exact HS2.out), by rw [List.length_append]; exact HN.out, HB3.out⟩
        case measure => simp [intOf]; omega
    · have hin : ((i : Int) == (n : Int)) = true := by simp; omega
      by_cases hk' : k < n'
      · have hkK : k < K.length := by rw [← Hn'.out]; exact hk'
        obtain ⟨b2, o2, rfl, hc2⟩ := hB1.at_ hkK
        have hr2 := hB1.inn k hkK
        have hl2 := HL'.out k hkK
        have HY : Hid ((dat K).getD k [] = (rg K k).xs) := Lib.hid (dat_getD K k)
        have HSR := Lib.hid (fun hc => HS.out.right (by rw [dat_length]; exact hkK) hc)
        rw [HY.out] at HSR
        generalize rg K k = s at *
        obtain ⟨sA, sc, sx⟩ := s
        simp only at hc2 hr2 hl2 HSR
        have HW2 := Lib.hid (fun W hb => l01Own_any sA sx.length sc (iv sx) W (by rw [iv_length]) (by omega) (iv_one _) (Rd.below hr2 hb))
        have HS2 := Lib.hid (HSR.out (.inl (by rw [dat_length, ← Hn.out]; omega)))
        have hkn : ((k : Int) == (n' : Int)) = false := by simp; omega
        clear hr2 hA1 hB1 hown hbel HY
        go_wp2_with fail
        go_big_quiet (fail)
        go_wp2_with fail
        go_big_quiet (fail)
        go_wp2_with fail
        refine (HW2.out _ (below_drewN (Below.refl _ _) _)).mono ?_
        rintro e w1 ⟨g, cap, rfl, ho, hb⟩
        have HB1 := Lib.hid (show Below wr.heap.size wr w1 from ⟨hb.os, hb.tape, hb.output, hb.size, hb.block⟩)
        have HO1 := Lib.hid (show w1.ownsRow wr.heap.size 2 1 (.slice (some ⟨g, 0, none⟩) sx.length cap) sx.length (iv sx) from ho)
        clear ho hb
        go_wp2_with (at_builtin; refine wpList_app1 _ _ _ _ _ etS (by rfl) (by rfl) w.heap.size (.slice A1 R.length c1) R.length (hv R) (by rfl) ((HO.out.later HB1.out).out.alloc _) _ (.slice (some ⟨g, 0, none⟩) sx.length cap) (by rfl) (new_cell _ _ _) (by rfl) hq (Nat.le_trans (Nat.le_trans hsz HB1.out.size) (Nat.le_of_lt (by simp))) ?_; (intro g2 c2 w3 hown3 hg3 hat3 hlt3; have HN := Lib.hid (OwnR.push HO.out HB1.out HO1.out rfl hsz hown3 hg3); have HB3 := Lib.hid (below_app2 (HBL.out.trans (HB1.out.mono hsz)) (Nat.le_trans hsz HB1.out.size) (HO.out.later HB1.out).out hg3); clear hown3 hg3 hat3 hlt3))
        go_roundw
        case rel => exact ⟨i, k + 1, R ++ [⟨some ⟨g, 0, none⟩, cap, sx⟩], some ⟨g2, 0, none⟩, c2, by go_num, by go_num, by rw [List.length_append]; rfl, by omega, by omega, by rw [List.length_append]; simp; omega, Lib.hid (by rw [dat_append1]; exact HS2.out), by rw [List.length_append]; exact HN.out, HB3.out⟩
        case measure => simp [intOf]; omega
      · have HF := Lib.hid (HS.out.done (by rw [dat_length, ← Hn.out]; omega) (by rw [dat_length, ← Hn'.out]; omega))
        clear hA1 hB1 hown hbel
        go_wp2_with fail
        go_ret
        exact ⟨_, R, rfl, HF.out, HO.out, HBL.out⟩
end Go.Proofs.YtocllmhkppkfoaaDoor

namespace Go.Proofs.YtocllmhkppkfoaaDoor
open Go.RowKit

theorem frontL_len (i : Int) (ws : List Int) : (frontL i ws).length ≤ ws.length + 1 := by unfold frontL; split <;> simp
theorem rows_one {M : List Row} {x : List Int} (h : dat M = [x]) : ∃ r, M = [r] ∧ r.xs = x := by
  match M, h with
  | [r], h => exact ⟨r, rfl, by simpa [dat] using h⟩

set_option maxRecDepth 100000 in
set_option maxHeartbeats 1000000 in
theorem left_put (i : Int) (A X : Option Addr) (c cX : Nat) (ws : List Int) (w : World) (hi : 0 ≤ i) (hi2 : i ≤ 1000) (hl : ws.length ≤ 1000) (hw : 0 ≤ ws.getD 0 0 ∧ ws.getD 0 0 ≤ 1000) (hc : i = 0 ∨ ws = [] ∨ 2 * ws.getD 0 0 ≤ i) (hR : RdR w A [⟨X, cX, ws⟩]) :
    Calls Tryd.prog 155 #[.int .i64 i, .slice A 1 c] w (ResRows [frontL i ws] w) := by
  have HR := Lib.hid hR
  obtain ⟨hw1, hw2⟩ := hw
  have HC := Lib.hid hc
  clear hR hc
  go_enter Tryd.func155, Tryd.ntmps155
  go_wp2_with fail
  go_loopw [5, 6] (fun v s6 wr => ∃ k : Nat, ∃ M : List Row, ∃ A1 c1, k ≤ 1 ∧ s6 = .int .i64 k ∧ v = .slice A1 k c1 ∧ Hid (dat M = if k = 0 then [] else [frontL i ws]) ∧ Hid (k = 0 → A1 = some ⟨w.heap.size, 0, none⟩ ∧ c1 = 0) ∧ OwnR wr w.heap.size (.slice A1 k c1) M ∧ Below w.heap.size w wr) (fun _ i _ => 1 - (intOf i).toNat)
  case atStart => exact ⟨0, [], some ⟨w.heap.size, 0, none⟩, 0, by omega, rfl, rfl, Lib.hid rfl, Lib.hid (fun _ => ⟨rfl, rfl⟩), OwnR.made w (Nat.le_refl _), (Below.refl _ _).alloc (Nat.le_refl _) _⟩
  case round =>
    obtain ⟨k, M, A1, c1, hk, rfl, rfl, HD, HZ, hown, hbel⟩ := hrel
    have HBL := Lib.hid hbel
    have hsz := hbel.size
    rcases (show k = 0 ∨ k = 1 by omega) with rfl | rfl
    · obtain ⟨e1, e2⟩ := HZ.out rfl
      subst e1
      subst e2
      have hR1 := HR.out.below hbel
      obtain ⟨b, o, rfl, hcell⟩ := hR1.at_ (k := 0) (by simp)
      have hin := HR.out.inn 0 (by simp)
      rw [Nat.add_zero, rg_cons_zero] at hcell
      rw [rg_cons_zero] at hin
      simp only at hcell hin
      have HF := Lib.hid (fun W (hb : Below w.heap.size w W) => l03Front_any i X ws.length cX ws W rfl (by omega) (hin.below hb))
      clear hR1 hown
      by_cases h0 : i = 0
      · have h0b : (i == 0) = true := by simpa using h0
        clear hin hbel h0
        go_wp2_with fail
        refine (HF.out _ HBL.out).mono ?_
        rintro e w1 ⟨g, kk, cap, rfl, hkk, ho, hb⟩
        have HKK := Lib.hid hkk.out
        have hk6 : kk ≤ 1000000 := by have := frontL_len i ws; rw [hkk.out]; omega
        have HB1 := Lib.hid hb
        have HP := Lib.hid (l01PutNil_any w.heap.size (some ⟨g, 0, none⟩) kk cap (frontL i ws) w1 hkk.out hk6 (owns_Rd ho))
        clear ho hb hkk
        go_wp2_with fail
        refine HP.out.mono ?_
        rintro e w2 ⟨v, M2, rfl, hd2, ho2, hb2⟩
        obtain ⟨r2, rfl, hr2⟩ := rows_one hd2
        obtain ⟨A2, c2, rfl, _, himp, heq⟩ := owns_shape ho2.out
        clear himp heq
        have HD2 := Lib.hid hd2
        have HO2 := Lib.hid (ho2.mono (Nat.le_trans hsz HB1.out.size))
        have HB2 := Lib.hid ((HBL.out.trans (HB1.out.mono hsz)).trans (hb2.mono (Nat.le_trans hsz HB1.out.size)))
        clear ho2 hb2 hd2 hr2
        go_wp2_with fail
        go_roundw
        case rel => exact ⟨1, [r2], A2, c2, by omega, rfl, rfl, Lib.hid (by rw [HD2.out]; rfl), Lib.hid (fun h => by omega), HO2.out, HB2.out⟩
        case measure => simp [intOf]
      · have h0b : (i == 0) = false := by simpa using h0
        by_cases h1 : ws = []
        · have hlb : ((ws.length : Int) == 0) = true := by rw [h1]; rfl
          clear hin hbel h0 h1
          go_wp2_with fail
          refine (HF.out _ HBL.out).mono ?_
          rintro e w1 ⟨g, kk, cap, rfl, hkk, ho, hb⟩
          have HKK := Lib.hid hkk.out
          have hk6 : kk ≤ 1000000 := by have := frontL_len i ws; rw [hkk.out]; omega
          have HB1 := Lib.hid hb
          have HP := Lib.hid (l01PutNil_any w.heap.size (some ⟨g, 0, none⟩) kk cap (frontL i ws) w1 hkk.out hk6 (owns_Rd ho))
          clear ho hb hkk
          go_wp2_with fail
          refine HP.out.mono ?_
          rintro e w2 ⟨v, M2, rfl, hd2, ho2, hb2⟩
          obtain ⟨r2, rfl, hr2⟩ := rows_one hd2
          obtain ⟨A2, c2, rfl, _, himp, heq⟩ := owns_shape ho2.out
          clear himp heq
          have HD2 := Lib.hid hd2
          have HO2 := Lib.hid (ho2.mono (Nat.le_trans hsz HB1.out.size))
          have HB2 := Lib.hid ((HBL.out.trans (HB1.out.mono hsz)).trans (hb2.mono (Nat.le_trans hsz HB1.out.size)))
          clear ho2 hb2 hd2 hr2
          go_wp2_with fail
          go_roundw
          case rel => exact ⟨1, [r2], A2, c2, by omega, rfl, rfl, Lib.hid (by rw [HD2.out]; rfl), Lib.hid (fun h => by omega), HO2.out, HB2.out⟩
          case measure => simp [intOf]
        · have hlp : 0 < ws.length := by cases ws with | nil => exact absurd rfl h1 | cons a l => simp
          have hlb : ((ws.length : Int) == 0) = false := by simp; omega
          have hge : 2 * ws.getD 0 0 ≤ i := by rcases HC.out with h | h | h; exact absurd h h0; exact absurd h h1; exact h
          obtain ⟨b1, o1, rfl, hx⟩ := (hin.below hbel).atI hlp
          rw [Nat.add_zero] at hx
          clear hin hbel h0 h1
          generalize hx0 : ws.getD 0 0 = x at *
          have HX0 := Lib.hid hx0
          clear hx0
          go_wp2_with fail
          refine (HF.out _ HBL.out).mono ?_
          rintro e w1 ⟨g, kk, cap, rfl, hkk, ho, hb⟩
          have HKK := Lib.hid hkk.out
          have hk6 : kk ≤ 1000000 := by have := frontL_len i ws; rw [hkk.out]; omega
          have HB1 := Lib.hid hb
          have HP := Lib.hid (l01PutNil_any w.heap.size (some ⟨g, 0, none⟩) kk cap (frontL i ws) w1 hkk.out hk6 (owns_Rd ho))
          clear ho hb hkk
          go_wp2_with fail
          refine HP.out.mono ?_
          rintro e w2 ⟨v, M2, rfl, hd2, ho2, hb2⟩
          obtain ⟨r2, rfl, hr2⟩ := rows_one hd2
          obtain ⟨A2, c2, rfl, _, himp, heq⟩ := owns_shape ho2.out
          clear himp heq
          have HD2 := Lib.hid hd2
          have HO2 := Lib.hid (ho2.mono (Nat.le_trans hsz HB1.out.size))
          have HB2 := Lib.hid ((HBL.out.trans (HB1.out.mono hsz)).trans (hb2.mono (Nat.le_trans hsz HB1.out.size)))
          clear ho2 hb2 hd2 hr2
          go_wp2_with fail
          go_roundw
          case rel => exact ⟨1, [r2], A2, c2, by omega, rfl, rfl, Lib.hid (by rw [HD2.out]; rfl), Lib.hid (fun h => by omega), HO2.out, HB2.out⟩
          case measure => simp [intOf]
    · have HO := Lib.hid hown
      have HD1 : Hid (dat M = [frontL i ws]) := Lib.hid (by rw [HD.out]; rfl)
      clear hown hbel
      go_wp2_with fail
      go_ret
      exact ⟨_, M, rfl, HD1.out, HO.out, HBL.out⟩
end Go.Proofs.YtocllmhkppkfoaaDoor
