/- the program's solve: the walk -/
import Derived.Test.YtchmplpgamekjaaDoorLu
import Derived.Deep.LoopGhost
namespace Go.Proofs.YtchmplpgamekjaaDoor
open Go.RowKit

/-- what the loop over the digits holds -/
def DigAt (wr : World) (B : Nat) (x t : Value) (zv : Value) (d : Nat) (p : List Nat × Nat) : Prop :=
  x = .int .i64 ((p.2 : Nat) : Int) ∧ (∃ g, t = .pointer (some ⟨g, 0, none⟩) ∧ B ≤ g ∧ wr.heap[g]? = some (.cells #[.int .i64 ((d : Int) - 1)] 3 (0, 0))) ∧ wr.ownsRow B 2 1 zv p.1.length (nv p.1)
def solveRes (S : List Nat) (v : Nat) : Value := .tuple #[.int .i64 ((if (solL S v).1 = 0 then lsolOf S v else 0 : Nat) : Int), .bool (decide ((solL S v).1 = 0))]
theorem blk1cell {w : World} {g : Nat} {u : Value} {t : TypeId} (h : w.heap[g]? = some (.cells #[u] t (0, 0))) : w.cell? ⟨g, 0, none⟩ = some u ∧ w.frozen? ⟨g, 0, none⟩ = false ∧ g < w.heap.size :=
  ⟨cell_of_row w g 0 #[u] _ (0, 0) h, by simp [World.frozen?, h], (Array.getElem?_eq_some_iff.1 h).1⟩

attribute [local go_sem] i64_xor_nat i64_bit_test in
set_option maxRecDepth 100000 in
set_option maxHeartbeats 4000000 in
theorem solve_impl_any (A : Option Addr) (n c : Nat) (S : List Nat) (v : Nat) (w : World) (hT : Tab w) (hw : 0 < w.heap.size) (hn : n = S.length) (hsmall : n ≤ 60) (hS : ∀ r ∈ S, Sm r) (hv : Sm v) (hR : Rd w A (nv S))
    (hEq : (solL S v).1 = 0 → (solDown S.length (kerS S S.length, (leftN (spanL (us 0 S)) (v, 0)).2)).2 = lsolOf S v) :
    Calls Tryd.prog 86 #[.slice A n c, .int .i64 v] w fun e w' => e = .returned (solveRes S v) ∧ Below w.heap.size w w' := by
  have HKS := Lib.hid ((kerG_span hS (by omega)).sm (by omega))
  have HSM := Lib.hid (us_sm hS (by omega))
  have HLL := Lib.hid (span_left hS (by omega) v)
  have HEQ := Lib.hid hEq
  have Hn := Lib.hid hn
  have HR := Lib.hid hR
  have HS := Lib.hid hS
  have HT := Lib.hid hT
  have HSP0 := Lib.hid (SpanAt.new w)
  clear hn hR hS hT hEq
  go_enter Tryd.func86, Tryd.ntmps86
  go_wp2_with fail
  go_loopw [7, 24] (fun o i wr => ∃ k : Nat, k ≤ n ∧ i = .int .i64 k ∧ wr.ownsRow w.heap.size 2 1 o (kerS S k).length (nv (kerS S k)) ∧
      (∃ v1 v2, SpanAt wr w.heap.size w.heap.size v1 v2 (spanL ((us 0 S).take k)) ∧ o.ownBlock ≠ v1.ownBlock ∧ o.ownBlock ≠ v2.ownBlock) ∧ Below w.heap.size w wr) (fun _ i _ => n - (intOf i).toNat)
  case atStart =>
    refine ⟨0, by omega, rfl, ?_, ⟨_, _, HSP0.out.keeps ((Keeps.refl _ []).alloc _) (by simp) (.inr (by simp)) (.inr (by simp)), by simp [Value.ownBlock], by simp [Value.ownBlock]⟩, ((Below.refl _ _).alloc (Nat.le_refl _) _).alloc (by simp) _⟩
    have := World.ownsRow_made (w.alloc (.cells #[.slice none 0 0, .slice none 0 0] 68)) #[] 0 (base := w.heap.size) (e := 2) (size := 1) (by simp) (by decide) (by simp)
    simp only [World.size_alloc] at this
    exact this
  case round =>
    obtain ⟨k, hk, rfl, hoo, ⟨v1, v2, hsp, hne1, hne2⟩, hbel⟩ := hrel
    have hsz : w.heap.size ≤ wr.heap.size := hbel.size
    have hko := kerOut_length (fun k => spanL ((us 0 S).take k)) S k
    change (kerS S k).length ≤ k at hko
    by_cases hlt : k < n
    · have hkL : k < S.length := by rw [← Hn.out]; exact hlt
      obtain ⟨b, o', rfl, hc⟩ := (HR.out.below hbel).atN hkL
      have hx := HS.out _ (getD_mem hkL)
      have hp2 : Sm (2 ^ k) := by have := pw_sm (p := k) (by omega); exact this
      have Hs : Hid (spanL ((us 0 S).take (k + 1)) = addL (spanL ((us 0 S).take k)) (S.getD k 0, 2 ^ k)) := by
        show _ = _; rw [spanL_take_succ (us 0 S) k (by rw [us_length]; exact hkL), us_getD0 hkL]
      have Hk := Lib.hid (kerS_succ S k)
      have hl := spanL_length_le ((us 0 S).take k)
      rw [List.length_take] at hl
      have hg := (spanL_perm ((us 0 S).take k) (fun p hp => HSM.out p (List.mem_of_mem_take hp))).2.2
      generalize spanL ((us 0 S).take k) = L at *
      generalize kerS S k = O at *
      generalize S.getD k 0 = x at *
      have ha := add_any w.heap.size w.heap.size v1 v2 L x (2 ^ k) wr (HT.out.below hbel hw) hw hsz hsp (by omega) hx hp2 hg
      rw [← shl_one (by omega)] at ha
      have hks : kerStep L (x, 2 ^ k) O = if (leftN L (x, 2 ^ k)).1 = 0 then O ++ [(leftN L (x, 2 ^ k)).2] else O := rfl
      obtain ⟨F, cf, rfl, _, hF, _⟩ := owns_shape hoo
      have HSQ := Lib.hid hsp
      have HOO := Lib.hid hoo
      have HN1 := Lib.hid hne1
      have HN2 := Lib.hid hne2
      have HB := Lib.hid hbel
      by_cases h0 : (leftN L (x, 2 ^ k)).1 = 0
      · have hvv : AddRes L (x, 2 ^ k) = .tuple #[.int .i64 ((leftN L (x, 2 ^ k)).2 : Nat), .bool false] := by simp [AddRes, h0]
        rw [hvv] at ha
        rw [if_pos h0] at hks
        have HA := Lib.hid ha
        have HKS' := Lib.hid hks
        clear ha hvv h0 hks hsp hoo hne1 hne2 hbel hg hF
        generalize (leftN L (x, 2 ^ k)).2 = z at *
        go_wp2_with (first | (go_at_call 77; refine HA.out.mono ?_; (rintro e w3 ⟨rfl, hpost⟩; obtain ⟨q1, u1, u2, q2, q3, q4⟩ := span_own_add HSQ.out HOO.out HN1.out HN2.out hpost; have hb3 := hpost.below HSQ.out hsz; have HQ1 := Lib.hid q1; have HQ2 := Lib.hid q2; have HQ3 := Lib.hid q3; have HQ4 := Lib.hid q4; have HB3 := Lib.hid (HB.out.trans (hb3.mono (Nat.le_refl _))); have hsz3 : w.heap.size ≤ w3.heap.size := HB3.out.size; clear hpost q1 q2 q3 q4 hb3)) | (at_builtin; refine wpList_app1 _ _ _ _ _ etI (by rfl) (by rfl) w.heap.size (.slice F O.length cf) O.length (nv O) (by rfl) ?_ _ (.int .i64 (z : Int)) (by rfl) ?_ (by rfl) ?_ ?_ ?_; exact HQ1.out.alloc _; exact new_cell _ _ _; omega; (simp; omega); (intro g2 cap2 w4 hown2 hgrow2 hat2 hlt2; have HO2' : Hid (w4.ownsRow w.heap.size 2 1 (.slice (some ⟨g2, 0, none⟩) (O.length + 1) cap2) (O.length + 1) (nv (O ++ [z]))) := (by rw [← nv_snoc]; exact hown2); have HG2 := Lib.hid hgrow2; have HA2 := Lib.hid hat2; clear hown2 hgrow2 hat2 hlt2)))
        go_roundw
        case rel =>
          obtain ⟨t1, t2, t3⟩ := span_own_app HQ2.out (own_ne HQ1.out HQ2.out.blk (by decide)) HQ3.out HQ4.out HG2.out HA2.out
          exact ⟨k + 1, by omega, by go_num, by rw [Hk.out, HKS'.out]; exact own_cast HO2'.out (by simp) rfl, ⟨u1, u2, by rw [Hs.out]; exact t1, t2, t3⟩, below_app HB3.out hsz3 HQ1.out HG2.out⟩
        case measure => simp [intOf]; omega
      · have hvv : AddRes L (x, 2 ^ k) = .tuple #[.int .i64 0, .bool true] := by simp [AddRes, h0]
        rw [hvv] at ha
        rw [if_neg h0] at hks
        have HA := Lib.hid ha
        have HKS' := Lib.hid hks
        clear ha hvv h0 hks hsp hoo hne1 hne2 hbel hg hF
        go_wp2_with (go_at_call 77; refine HA.out.mono ?_; rintro e w3 ⟨rfl, hpost⟩; have HP := Lib.hid hpost; clear hpost)
        go_roundw
        case rel =>
          obtain ⟨q1, u1, u2, q2, q3, q4⟩ := span_own_add HSQ.out HOO.out HN1.out HN2.out HP.out
          exact ⟨k + 1, by omega, by go_num, by rw [Hk.out, HKS'.out]; exact q1, ⟨u1, u2, by rw [Hs.out]; exact q2, q3, q4⟩, HB.out.trans (HP.out.below HSQ.out hsz)⟩
        case measure => simp [intOf]; omega
    · have ek : k = S.length := by rw [← Hn.out]; omega
      have et : (us 0 S).take k = us 0 S := List.take_of_length_le (by rw [us_length]; omega)
      rw [et] at hsp
      have hlk : (kerS S S.length).length ≤ 60 := by
        have := kerOut_length (fun k => spanL ((us 0 S).take k)) S S.length
        change (kerS S S.length).length ≤ S.length at this
        have hnn : S.length ≤ 60 := by rw [← Hn.out]; exact hsmall
        omega
      rw [ek] at hoo
      have hlen : (spanL (us 0 S)).length ≤ 60 := by have := spanL_length_le (us 0 S); rw [us_length, ← Hn.out] at this; omega
      have hgd := (spanL_perm (us 0 S) HSM.out).2.2
      obtain ⟨V1, c1, rfl, _, hV1, hV1'⟩ := owns_shape hsp.own1
      obtain ⟨V2, c2, rfl, _, hV2, hV2'⟩ := owns_shape hsp.own2
      obtain ⟨F, cf, rfl, _, hF, hF'⟩ := owns_shape hoo
      have hle := left_any w.heap.size V1 V2 _ c1 c2 _ v 0 wr (HT.out.below hbel hw) rfl (by omega) hv Sm.zero hgd hsp.c0 hsp.c1 (owns_Rd hsp.own1) (owns_Rd hsp.own2)
      have hsmx : Sm (leftN (spanL (us 0 S)) (v, 0)).2 := (SmP.foldl hgd (p := (v, 0)) ⟨hv, Sm.zero⟩).2
      have hks : ∀ z ∈ kerS S S.length, Sm z := HKS.out
      have hiff := HLL.out.1
      generalize spanL (us 0 S) = L at *
      generalize kerS S S.length = Z at *
      have HL := Lib.hid hle
      have HOO := Lib.hid hoo
      have HB := Lib.hid hbel
      have HKZ := Lib.hid hks
      have HSX := Lib.hid hsmx
      clear hle hsp hoo hbel hne1 hne2 hgd hV1 hV1' hV2 hV2' hF hF' ek et hks hsmx hko
      by_cases h0 : (solL S v).1 = 0
      · have hq0 := hiff.2 h0
        have HEQ' := Lib.hid (HEQ.out h0)
        have HH0 : Hid (solveRes S v = .tuple #[.int .i64 ((lsolOf S v : Nat) : Int), .bool true]) := by show _ = _; unfold solveRes; rw [if_pos h0, decide_eq_true h0]
        generalize hq : leftN L (v, 0) = q at *
        have HQ := Lib.hid hq
        clear hq hiff h0
        have HST : Hid ((stK n (Z, q.2) n).2 = lsolOf S v) := by show _ = _; rw [stK_all]; rw [← HEQ'.out, Hn.out]
        have HSK := Lib.hid (stK_sm (n := n) (p := (Z, q.2)) HKZ.out HSX.out)
        have hqz : ((q.1 : Int) != 0) = false := by rw [hq0]; rfl
        have hqz2 : (q.1 : Int) = 0 := by omega
        clear hq0
        have HQZ := Lib.hid hqz2
        clear hqz2
        go_wp2_with (go_at_call 112; refine HL.out.mono ?_; rintro e W1 ⟨rfl, m, hw1⟩; have HOO1 : Hid (W1.ownsRow w.heap.size 2 1 (.slice F Z.length cf) Z.length (nv Z)) := (by subst hw1; exact HOO.out); have HB1 : Hid (Below w.heap.size w W1) := (by subst hw1; exact below_drewN HB.out m); clear hw1)
        have hs1 : w.heap.size ≤ W1.heap.size := HB1.out.size
        go_loopg [13, 14] n (fun d x t wr' => ∃ j : Nat, j + d = n ∧ DigAt wr' w.heap.size x t (.slice F Z.length cf) d (stK n (Z, q.2) j) ∧ Below w.heap.size w wr')
        case atStart => exact ⟨0, by omega, ⟨rfl, ⟨_, rfl, hs1, blk_new W1 _⟩, HOO1.out.alloc _⟩, HB1.out.alloc hs1 _⟩
        case round =>
          obtain ⟨j, hj, ⟨rfl, ⟨g, rfl, hg, hbk⟩, hown⟩, hbel⟩ := hrel
          have hsz2 : w.heap.size ≤ wr.heap.size := hbel.size
          obtain ⟨hz1, hx1, hzl⟩ := HSK.out j
          rw [hzl] at hown
          have Hst : Hid (stK n (Z, q.2) (j + 1) = solStep (n - 1 - j) (stK n (Z, q.2) j)) := Lib.hid rfl
          by_cases hd : gk = 0
          · have ej : j = n := by omega
            subst hd
            have HX : Hid ((stK n (Z, q.2) j).2 = lsolOf S v) := by show _ = _; rw [ej]; exact HST.out
            obtain ⟨c0, f0, lg⟩ := blk1cell hbk
            have HBL := Lib.hid hbel
            have HOW := Lib.hid hown
            clear hbk hbel hown ej hz1 hzl
            generalize stK n (Z, q.2) j = p at *
            go_wp2_with fail
            go_ret2
            exact ⟨by rw [HH0.out, ← HX.out]; rfl, HBL.out⟩
          · obtain ⟨e, he⟩ : ∃ e, gk = e + 1 := ⟨gk - 1, by omega⟩
            subst he
            rw [show (((e + 1 : Nat) : Int) - 1) = (e : Int) by omega] at hbk
            rw [show n - 1 - j = e by omega] at Hst
            have he60 : e ≤ 60 := by omega
            obtain ⟨c0, f0, lg⟩ := blk1cell hbk
            generalize stK n (Z, q.2) j = p at *
            obtain ⟨Z1, x1⟩ := p
            simp only at hz1 hx1 hzl hown
            have hif := indexFunc_any F Z.length cf (nI Z1) 115 (.pointer (some ⟨g, 0, none⟩)) (fun x => topIs e x.toNat) wr (fun args w => Tryd.call115 args w) (by rw [nI_length]; exact hzl.symm) (by omega) (by rw [← nv_nI]; exact owns_Rd hown)
              (fun x hx => by
                obtain ⟨z, hz, rfl⟩ := List.mem_map.1 hx
                rw [Int.toNat_natCast]
                exact clos_any e g z he60 wr c0)
            rw [find_nI] at hif
            have HIF := Lib.hid hif
            have HBL := Lib.hid hbel
            have HOW := Lib.hid hown
            have HZ1 := Lib.hid hz1
            have HZL := Lib.hid hzl
            have HBK := Lib.hid hbk
            clear hif hbel hown hz1 hzl hbk hd
            cases hf : Z1.findIdx? (topIs e) with
            | none =>
              have hst2 : solStep e (Z1, x1) = (Z1, x1) := by unfold solStep; simp only [hf]
              rw [hst2] at Hst
              rw [hf] at HIF
              have hpl : placeOf none = -1 := rfl
              rw [hpl] at HIF
              clear hf hst2 hpl
              go_wp2_with (go_at_call 114; refine HIF.out.mono ?_; rintro e' W2 ⟨rfl, m, hw2⟩; have HOW2 : Hid (W2.ownsRow w.heap.size 2 1 (.slice F Z.length cf) Z.length (nv Z1)) := (by subst hw2; exact HOW.out); have HBL2 : Hid (Below w.heap.size w W2) := (by subst hw2; exact below_drewN HBL.out m); have hc2 : W2.cell? ⟨g, 0, none⟩ = some (.int .i64 (e : Int)) := (by subst hw2; exact c0); have lg2 : g < W2.heap.size := (by subst hw2; exact lg); clear hw2)
              go_roundg e
              case measure => omega
              case rel =>
                refine ⟨j + 1, by omega, ⟨by rw [Hst.out], ⟨_, rfl, HBL2.out.size, blk_new W2 _⟩, ?_⟩, HBL2.out.alloc HBL2.out.size _⟩
                rw [Hst.out]
                exact own_cast (HOW2.out.alloc _) HZL.out.symm rfl
            | some k1 =>
              obtain ⟨hk1, ht1, ht2⟩ := List.findIdx?_eq_some_iff_getElem.1 hf
              have hst2 : solStep e (Z1, x1) = (clearL e k1 Z1, if tb x1 e then xr x1 (Z1.getD k1 0) else x1) := by unfold solStep; simp only [hf]
              rw [hst2] at Hst
              rw [hf] at HIF
              have hpl : placeOf (some k1) = (k1 : Int) := rfl
              rw [hpl] at HIF
              have hk1Z : k1 < Z.length := by rw [← HZL.out]; exact hk1
              have hzk : Sm (Z1.getD k1 0) := HZ1.out _ (getD_mem hk1)
              have hcl : (clearL e k1 Z1).length = Z1.length := clearL_length _ _ _
              have HCL := Lib.hid hcl
              have HK1 := Lib.hid hk1
              clear hf hst2 hpl ht1 ht2 hcl hk1
              have hGL : ∀ i, i < Z1.length → (clearL e k1 Z1).getD i 0 = if i ≠ k1 ∧ tb (Z1.getD i 0) e = true then xr (Z1.getD i 0) (Z1.getD k1 0) else Z1.getD i 0 := fun i hi => clearL_getD hi
              have HGL := Lib.hid hGL
              clear hGL
              generalize hzz : Z1.getD k1 0 = z at *
              have HZZ := Lib.hid hzz
              clear hzz
              generalize clearL e k1 Z1 = M at *
              go_wp2_with (go_at_call 114; refine HIF.out.mono ?_; rintro e' W2 ⟨rfl, m, hw2⟩; have HOW2 : Hid (W2.ownsRow w.heap.size 2 1 (.slice F Z.length cf) Z.length (nv Z1)) := (by subst hw2; exact HOW.out); have HBL2 : Hid (Below w.heap.size w W2) := (by subst hw2; exact below_drewN HBL.out m); have HBK2 : Hid (W2.heap[g]? = some (.cells #[.int .i64 (e : Int)] 3 (0, 0))) := (by subst hw2; exact HBK.out); obtain ⟨b2, o2, hF2, hc2⟩ := (owns_Rd HOW2.out).atN (k := k1) HK1.out; rw [HZZ.out] at hc2; subst hF2; have hc3 := (blk1cell HBK2.out).1; clear hw2)
              have hs2 : w.heap.size ≤ W2.heap.size := HBL2.out.size
              go_loopw [70] (fun i wy => ∃ i' : Nat, i' ≤ Z.length ∧ i = .int .i64 i' ∧ wy.ownsRow w.heap.size 2 1 (.slice (some ⟨b2, o2, none⟩) Z.length cf) Z.length (nv (mixL M Z1 i')) ∧ wy.heap[g]? = some (.cells #[.int .i64 (e : Int)] 3 (0, 0)) ∧ Below w.heap.size w wy) (fun i _ => Z.length - (intOf i).toNat)
              case atStart => exact ⟨0, by omega, rfl, by rw [show mixL M Z1 0 = Z1 by simp [mixL]]; exact HOW2.out, HBK2.out, HBL2.out⟩
              case round =>
                obtain ⟨i, hi, rfl, hoy, hby, hbely⟩ := hrel
                have hsy : w.heap.size ≤ wr.heap.size := hbely.size
                obtain ⟨c4, f4, l4⟩ := blk1cell hby
                by_cases hlt2 : i < Z.length
                · have hiZ : i < Z1.length := by rw [HZL.out]; exact hlt2
                  have ho2 : o2 = 0 := by
                    obtain ⟨A0, c0', e0, _, h0, _⟩ := owns_shape hoy
                    injection e0 with e0 _ _
                    obtain ⟨g0, e1, _, _⟩ := h0 (by omega)
                    rw [← e0] at e1
                    injection e1 with e1; injection e1 with e1 e2
                  subst ho2
                  have hcell := hoy.cellAt i (by omega)
                  have hfz := hoy.frozenAt i
                  have hml := mixL_length HCL.out i
                  have hmg := mixL_getD HCL.out hiZ
                  have hcell2 : wr.cell? ⟨b2, i, none⟩ = some (.int .i64 ((Z1.getD i 0 : Nat) : Int)) := by
                    rw [hcell, ← hmg]
                    simp [nv, List.getD, show i < (mixL M Z1 i).length by rw [hml]; exact hiZ]
                  have hne : b2 ≠ g := fun e' => own_ne hoy hby (by decide) (by rw [e']; rfl)
                  have hgz : w.heap.size ≤ b2 := (hoy.lt b2 rfl).1
                  have hzi : Sm (Z1.getD i 0) := HZ1.out _ (getD_mem hiZ)
                  have hgl := HGL.out i hiZ
                  have hms := mixL_succ HCL.out hiZ
                  have hmi := fun h => mixL_id HCL.out hiZ h
                  have HOY := Lib.hid hoy
                  have HBY := Lib.hid hby
                  have HBE := Lib.hid hbely
                  clear hoy hby hbely hcell hml hmg
                  generalize Z1.getD i 0 = zi at *
                  by_cases hik : i = k1
                  · rw [if_neg (fun h => h.1 hik)] at hgl
                    have HMI := Lib.hid (hmi hgl)
                    subst hik
                    clear hgl hms hmi
                    go_wp2_with fail
                    go_roundw
                    case rel => exact ⟨i + 1, by omega, by go_num, by rw [HMI.out]; exact HOY.out, HBY.out, HBE.out⟩
                    case measure => simp [intOf]; omega
                  · have hnb : ((i : Int) != (k1 : Int)) = true := by simp; omega
                    cases hb : tb zi e
                    · rw [if_neg (fun h => by rw [hb] at h; cases h.2)] at hgl
                      have HMI := Lib.hid (hmi hgl)
                      clear hgl hms hmi
                      go_wp2_with fail
                      go_roundw
                      case rel => exact ⟨i + 1, by omega, by go_num, by rw [HMI.out]; exact HOY.out, HBY.out, HBE.out⟩
                      case measure => simp [intOf]; omega
                    · rw [if_pos ⟨hik, hb⟩] at hgl
                      rw [hgl] at hms
                      have HMS := Lib.hid hms
                      clear hgl hms hmi
                      go_wp2_with fail
                      go_roundw
                      case rel =>
                        refine ⟨i + 1, by omega, by go_num, ?_, blk_set_other HBY.out ⟨b2, i, none⟩ hne _, HBE.out.setCell (p := ⟨b2, i, none⟩) hgz _⟩
                        rw [HMS.out, nv_set]
                        exact (World.ownsRow.stored HOY.out i _).1
                      case measure => simp [intOf]; omega
                · have ei : mixL M Z1 i = M := by unfold mixL; rw [List.take_of_length_le (by rw [HCL.out, HZL.out]; omega), List.drop_of_length_le (by rw [HZL.out]; omega), List.append_nil]
                  rw [ei] at hoy
                  have HOY := Lib.hid hoy
                  have HBE := Lib.hid hbely
                  clear hoy hby hbely ei
                  have hx13 : (Z1, x1).2 = x1 := rfl
                  cases hb : tb x1 e
                  all_goals
                    rw [hb] at Hst
                    go_wp2_with fail
                    go_roundg e
                    case measure => omega
                    case rel =>
                      refine ⟨j + 1, by omega, ⟨by rw [Hst.out]; simp, ⟨_, rfl, HBE.out.size, blk_new _ _⟩, ?_⟩, HBE.out.alloc HBE.out.size _⟩
                      rw [Hst.out]
                      exact own_cast (HOY.out.alloc _) (by simp only; rw [HCL.out, HZL.out]) rfl
      · have hq0 : ¬ (leftN L (v, 0)).1 = 0 := fun h => h0 (hiff.1 h)
        have HH0 : Hid (solveRes S v = .tuple #[.int .i64 0, .bool false]) := by show _ = _; unfold solveRes; rw [if_neg h0, decide_eq_false h0]; rfl
        generalize hq : leftN L (v, 0) = q at *
        have HQ := Lib.hid hq
        have hne0 : ((q.1 : Int) != 0) = true := by simpa using hq0
        clear hq hiff h0 hq0
        go_wp2_with (go_at_call 112; refine HL.out.mono ?_; rintro e w' ⟨rfl, m, rfl⟩)
        go_ret2
        exact ⟨by rw [HH0.out]; rfl, below_drewN HB.out m⟩
end Go.Proofs.YtchmplpgamekjaaDoor
