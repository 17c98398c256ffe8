/- the program's meet · impl's times, tableOf -/
import Derived.Test.YtocllmhkppkfoaaDoorZav
import Derived.Test.YtocllmhkppkfoaaDoorZag
import Derived.Test.YtocllmhkppkfoaaDoorZaj
import Derived.Test.YtocllmhkppkfoaaDoorZae
import Derived.StillTailTactics
import Derived.Deep.DeepCutAuto
namespace Go.Proofs.YtocllmhkppkfoaaDoor
open Go.RowKit

theorem spanL_snoc (ps : List (Nat × Nat)) (p : Nat × Nat) : spanL (ps ++ [p]) = addL (spanL ps) p := by simp [spanL]
theorem dup_succ {A : List Nat} {k : Nat} (h : k < A.length) : dup (A.take (k + 1)) = dup (A.take k) ++ [(A.getD k 0, A.getD k 0)] := by
  unfold dup; rw [List.take_succ_eq_append_getElem h, List.map_append]; congr 1; simp [List.getD, h]
theorem zs_succ {A : List Nat} {k : Nat} (h : k < A.length) : zs (A.take (k + 1)) = zs (A.take k) ++ [(A.getD k 0, 0)] := by
  unfold zs; rw [List.take_succ_eq_append_getElem h, List.map_append]; congr 1; simp [List.getD, h]
def meetK (A B : List Nat) (k : Nat) : List Nat := meetOut (fun k => spanL (dup A ++ zs (B.take k))) B k
theorem meetK_succ (A B : List Nat) (k : Nat) : meetK A B (k + 1) = kerStep (spanL (dup A ++ zs (B.take k))) (B.getD k 0, 0) (meetK A B k) := rfl
theorem meetS_K (A B : List Nat) : meetS A B = reduceS (meetK A B B.length) := rfl

set_option maxRecDepth 100000 in
set_option maxHeartbeats 2000000 in
theorem meet_any (A A' : Option Addr) (n n' c c' : Nat) (S T : List Nat) (w : World) (hT : Tab w) (hw : 0 < w.heap.size) (hn : n = S.length) (hn' : n' = T.length) (hsmall : n ≤ 200) (hsmall' : n' ≤ 200) (hS : ∀ r ∈ S, Sm r) (hT' : ∀ r ∈ T, Sm r) (hR : Rd w A (nv S)) (hR' : Rd w A' (nv T)) :
    Calls Tryd.prog 78 #[.slice A n c, .slice A' n' c'] w fun e w' => ∃ v, e = .returned v ∧ w'.ownsRow w.heap.size 2 1 v (meetS S T).length (nv (meetS S T)) ∧ Below w.heap.size w w' := by
  have HMS := Lib.hid ((meetG_span hS hT').sm hS)
  have HSM := Lib.hid (fun k => sm_pairs hS (sm_take hT' k))
  have HSD : Hid (∀ k, ∀ p ∈ dup (S.take k), SmP p) := by
    show ∀ k, ∀ p ∈ dup (S.take k), SmP p
    intro k p hp
    obtain ⟨x, hx, rfl⟩ := List.mem_map.1 hp
    have := hS x (List.mem_of_mem_take hx)
    exact ⟨this, this⟩
  have Hn := Lib.hid hn
  have Hn' := Lib.hid hn'
  have HR := Lib.hid hR
  have HR' := Lib.hid hR'
  have HS := Lib.hid hS
  have HS' := Lib.hid hT'
  have HT := Lib.hid hT
  have HSP0 := Lib.hid (SpanAt.new w)
  clear hn hR hS hT hn' hR' hT'
  go_enter Tryd.func78, Tryd.ntmps78
  go_wp2_with fail
  go_loopw [18] (fun i wr => ∃ k : Nat, k ≤ n ∧ i = .int .i64 k ∧ wr.ownsRow w.heap.size 2 1 (.slice (some ⟨w.heap.size + 1, 0, none⟩) 0 0) 0 (nv []) ∧
      (∃ v1 v2, SpanAt wr w.heap.size w.heap.size v1 v2 (spanL (dup (S.take k))) ∧ (Value.slice (some ⟨w.heap.size + 1, 0, none⟩) 0 0).ownBlock ≠ v1.ownBlock ∧ (Value.slice (some ⟨w.heap.size + 1, 0, none⟩) 0 0).ownBlock ≠ v2.ownBlock) ∧ Below w.heap.size w wr) (fun i _ => n - (intOf i).toNat)
  case atStart =>
    refine ⟨0, by omega, rfl, ?_, ⟨_, _, HSP0.out.keeps ((Keeps.refl _ []).alloc _) (by simp) (.inr (by simp)) (.inr (by simp)), by simp [Value.ownBlock], by simp [Value.ownBlock]⟩, ((Below.refl _ _).alloc (Nat.le_refl _) _).alloc (by simp) _⟩
    have := World.ownsRow_made (w.alloc (.cells #[.slice none 0 0, .slice none 0 0] 90)) #[] 0 (base := w.heap.size) (e := 2) (size := 1) (by simp) (by decide) (by simp)
    simp only [World.size_alloc] at this
    exact this
  case round =>
    obtain ⟨k, hk, rfl, hoo, ⟨v1, v2, hsp, hne1, hne2⟩, hbel⟩ := hrel
    have hsz : w.heap.size ≤ wr.heap.size := hbel.size
    by_cases hlt : k < n
    · have hkL : k < S.length := by rw [← Hn.out]; exact hlt
      obtain ⟨b, o', rfl, hc⟩ := (HR.out.below hbel).atN hkL
      have hx := HS.out _ (getD_mem hkL)
      have Hs : Hid (spanL (dup (S.take (k + 1))) = addL (spanL (dup (S.take k))) (S.getD k 0, S.getD k 0)) := by
        show _ = _; rw [dup_succ hkL, spanL_snoc]
      have hl := spanL_length_le (dup (S.take k))
      rw [dup_length, List.length_take] at hl
      have hg := (spanL_perm (dup (S.take k)) (HSD.out k)).2.2
      generalize spanL (dup (S.take k)) = L at *
      generalize S.getD k 0 = x at *
      have ha := add_any w.heap.size w.heap.size v1 v2 L x x wr (HT.out.below hbel hw) hw hsz hsp (by omega) hx hx hg
      have HSQ := Lib.hid hsp
      have HOO := Lib.hid hoo
      have HN1 := Lib.hid hne1
      have HN2 := Lib.hid hne2
      have HB := Lib.hid hbel
      have HA := Lib.hid ha
      clear ha hsp hoo hne1 hne2 hbel hg
      go_wp2_with (go_at_call 90; refine HA.out.mono ?_; rintro e w3 ⟨rfl, hpost⟩; have HP := Lib.hid hpost; clear hpost)
      go_roundw
      case rel =>
        obtain ⟨q1, u1, u2, q2, q3, q4⟩ := span_own_add HSQ.out HOO.out HN1.out HN2.out HP.out
        exact ⟨k + 1, by omega, by go_num, q1, ⟨u1, u2, by rw [Hs.out]; exact q2, q3, q4⟩, HB.out.trans (HP.out.below HSQ.out hsz)⟩
      case measure => simp [intOf]; omega
    · obtain ⟨W0, rfl⟩ : ∃ W0, W0 = wr := ⟨_, rfl⟩
      have ek : S.take k = S := List.take_of_length_le (by rw [← Hn.out]; omega)
      rw [ek] at hsp
      have HSQ0 := Lib.hid hsp
      have HOO0 := Lib.hid hoo
      have HN10 := Lib.hid hne1
      have HN20 := Lib.hid hne2
      have HB0 := Lib.hid hbel
      clear hsp hoo hne1 hne2 hbel ek
      go_wp2_with fail
      go_loopw [6, 29] (fun o i wr => ∃ k : Nat, k ≤ n' ∧ i = .int .i64 k ∧ wr.ownsRow w.heap.size 2 1 o (meetK S T k).length (nv (meetK S T k)) ∧
          (∃ v1 v2, SpanAt wr w.heap.size w.heap.size v1 v2 (spanL (dup S ++ zs (T.take k))) ∧ o.ownBlock ≠ v1.ownBlock ∧ o.ownBlock ≠ v2.ownBlock) ∧ Below w.heap.size w wr) (fun _ i _ => n' - (intOf i).toNat)
      case atStart => exact ⟨0, by omega, rfl, HOO0.out, ⟨v1, v2, by simpa [zs] using HSQ0.out, HN10.out, HN20.out⟩, HB0.out⟩
      case round =>
        obtain ⟨k, hk, rfl, hoo, ⟨v1, v2, hsp, hne1, hne2⟩, hbel⟩ := hrel
        have hsz : w.heap.size ≤ wr.heap.size := hbel.size
        have hko := meetOut_length (fun k => spanL (dup S ++ zs (T.take k))) T k
        change (meetK S T k).length ≤ k at hko
        by_cases hlt : k < n'
        · have hkL : k < T.length := by rw [← Hn'.out]; exact hlt
          obtain ⟨b, o', rfl, hc⟩ := (HR'.out.below hbel).atN hkL
          have hx := HS'.out _ (getD_mem hkL)
          have Hs : Hid (spanL (dup S ++ zs (T.take (k + 1))) = addL (spanL (dup S ++ zs (T.take k))) (T.getD k 0, 0)) := by
            show _ = _; rw [zs_succ hkL, ← List.append_assoc, spanL_snoc]
          have Hk := Lib.hid (meetK_succ S T k)
          have hl := spanL_length_le (dup S ++ zs (T.take k))
          rw [List.length_append, dup_length, zs_length, List.length_take, ← Hn.out] at hl
          have hg := (spanL_perm (dup S ++ zs (T.take k)) (HSM.out k)).2.2
          generalize spanL (dup S ++ zs (T.take k)) = L at *
          generalize meetK S T k = O at *
          generalize T.getD k 0 = x at *
          have ha := add_any w.heap.size w.heap.size v1 v2 L x 0 wr (HT.out.below hbel hw) hw hsz hsp (by omega) hx Sm.zero hg
          have hks : kerStep L (x, 0) O = if (leftN L (x, 0)).1 = 0 then O ++ [(leftN L (x, 0)).2] else O := rfl
          obtain ⟨F, cf, rfl, _, hF, _⟩ := owns_shape hoo
          have HSQ := Lib.hid hsp
          have HOO := Lib.hid hoo
          have HN1 := Lib.hid hne1
          have HN2 := Lib.hid hne2
          have HB := Lib.hid hbel
          by_cases h0 : (leftN L (x, 0)).1 = 0
          · have hv : AddRes L (x, 0) = .tuple #[.int .i64 ((leftN L (x, 0)).2 : Nat), .bool false] := by simp [AddRes, h0]
            rw [hv] at ha
            rw [if_pos h0] at hks
            have HA := Lib.hid ha
            have HKS' := Lib.hid hks
            clear ha hv h0 hks hsp hoo hne1 hne2 hbel hg hF
            generalize (leftN L (x, 0)).2 = z at *
            go_wp2_with (first | (go_at_call 90; refine HA.out.mono ?_; (rintro e w3 ⟨rfl, hpost⟩; obtain ⟨q1, u1, u2, q2, q3, q4⟩ := span_own_add HSQ.out HOO.out HN1.out HN2.out hpost; have hb3 := hpost.below HSQ.out hsz; have HQ1 := Lib.hid q1; have HQ2 := Lib.hid q2; have HQ3 := Lib.hid q3; have HQ4 := Lib.hid q4; have HB3 := Lib.hid (HB.out.trans (hb3.mono (Nat.le_refl _))); have hsz3 : w.heap.size ≤ w3.heap.size := HB3.out.size; clear hpost q1 q2 q3 q4 hb3)) | (at_builtin; refine wpList_app1 _ _ _ _ _ etI (by rfl) (by rfl) w.heap.size (.slice F O.length cf) O.length (nv O) (by rfl) ?_ _ (.int .i64 (z : Int)) (by rfl) ?_ (by rfl) ?_ ?_ ?_; exact HQ1.out.alloc _; exact new_cell _ _ _; omega; (simp; omega); (intro g2 cap2 w4 hown2 hgrow2 hat2 hlt2; have HO2' : Hid (w4.ownsRow w.heap.size 2 1 (.slice (some ⟨g2, 0, none⟩) (O.length + 1) cap2) (O.length + 1) (nv (O ++ [z]))) := (by rw [← nv_snoc2]; exact hown2); have HG2 := Lib.hid hgrow2; have HA2 := Lib.hid hat2; clear hown2 hgrow2 hat2 hlt2)))
            go_roundw
            case rel =>
              obtain ⟨t1, t2, t3⟩ := span_own_app HQ2.out (own_ne HQ1.out HQ2.out.blk (by decide)) HQ3.out HQ4.out HG2.out HA2.out
              exact ⟨k + 1, by omega, by go_num, by rw [Hk.out, HKS'.out]; exact own_cast2 HO2'.out (by simp) rfl, ⟨u1, u2, by rw [Hs.out]; exact t1, t2, t3⟩, below_app2 HB3.out hsz3 HQ1.out HG2.out⟩
            case measure => simp [intOf]; omega
          · have hv : AddRes L (x, 0) = .tuple #[.int .i64 0, .bool true] := by simp [AddRes, h0]
            rw [hv] at ha
            rw [if_neg h0] at hks
            have HA := Lib.hid ha
            have HKS' := Lib.hid hks
            clear ha hv h0 hks hsp hoo hne1 hne2 hbel hg hF
            go_wp2_with (go_at_call 90; refine HA.out.mono ?_; rintro e w3 ⟨rfl, hpost⟩; have HP := Lib.hid hpost; clear hpost)
            go_roundw
            case rel =>
              obtain ⟨q1, u1, u2, q2, q3, q4⟩ := span_own_add HSQ.out HOO.out HN1.out HN2.out HP.out
              exact ⟨k + 1, by omega, by go_num, by rw [Hk.out, HKS'.out]; exact q1, ⟨u1, u2, by rw [Hs.out]; exact q2, q3, q4⟩, HB.out.trans (HP.out.below HSQ.out hsz)⟩
            case measure => simp [intOf]; omega
        · have ek : k = T.length := by rw [← Hn'.out]; omega
          subst ek
          obtain ⟨F, cf, rfl, _, hF, _⟩ := owns_shape hoo
          have hr := reduced_any F (meetK S T T.length).length cf (meetK S T T.length) wr (HT.out.below hbel hw) (by omega) rfl (by omega) HMS.out (owns_Rd hoo)
          rw [← meetS_K] at hr
          have HRR := Lib.hid hr
          have HB := Lib.hid hbel
          clear hoo hne1 hne2 hsp hbel hF hr
          go_wp2_with fail
          refine HRR.out.mono ?_
          rintro e w2 ⟨v, rfl, ho, hb⟩
          have HO2 := Lib.hid ho
          have HB2 := Lib.hid hb
          clear ho hb
          go_wp2_with fail
          go_ret
          exact ⟨v, rfl, HO2.out.mono hsz, HB.out.trans (HB2.out.mono hsz)⟩
end Go.Proofs.YtocllmhkppkfoaaDoor

namespace Go.Proofs.YtocllmhkppkfoaaDoor
open Go.RowKit

theorem comb_snoc : ∀ (S : List Nat) (r i x : Nat), comb (S ++ [r]) i x = xr (comb S i x) (if tb x (i + S.length) = true then r else 0)
  | [], r, i, x => by simp [comb, xr_zero, zero_xr]
  | s :: S, r, i, x => by
    simp only [List.cons_append, comb, comb_snoc S r (i + 1) x, List.length_cons, xr_assoc]
    rw [show i + 1 + S.length = i + (S.length + 1) by omega]
theorem comb_succ (S : List Nat) (x : Nat) {k : Nat} (h : k < S.length) : comb (S.take (k + 1)) 0 x = xr (comb (S.take k) 0 x) (if tb x k = true then S.getD k 0 else 0) := by
  rw [List.take_succ_eq_append_getElem h, comb_snoc, List.length_take, Nat.min_eq_left (Nat.le_of_lt h), Nat.zero_add]
  simp [List.getD, h]
theorem comb_sm : ∀ (S : List Nat) (i x : Nat), (∀ r ∈ S, Sm r) → Sm (comb S i x)
  | [], _, _, _ => Sm.zero
  | r :: S, i, x, h => by
    simp only [comb]
    refine Sm.xr ?_ (comb_sm S (i + 1) x fun s hs => h s (List.mem_cons_of_mem _ hs))
    split
    · exact h r (List.mem_cons_self ..)
    · exact Sm.zero
attribute [local go_sem] i64_xor_nat i64_bit_test in
set_option maxHeartbeats 1000000 in
theorem times_any (A : Option Addr) (n c : Nat) (S : List Nat) (x : Nat) (w : World) (hn : n = S.length) (hsm : n ≤ 64) (hx : Sm x) (hS : ∀ r ∈ S, Sm r) (hR : Rd w A (nv S)) :
    Calls Tryd.prog 107 #[.int .i64 x, .slice A n c] w fun e w' => e = .returned (.int .i64 (comb S 0 x : Nat)) ∧ w = w' := by
  have HR := Lib.hid hR
  have Hn := Lib.hid hn
  have HS := Lib.hid hS
  clear hR hn hS
  go_enter Tryd.func107, Tryd.ntmps107
  go_wp2_with fail
  go_loop [5, 10] (fun t i => ∃ k : Nat, k ≤ n ∧ i = .int .i64 k ∧ t = .int .i64 (comb (S.take k) 0 x : Nat)) (fun _ i => n - (intOf i).toNat)
  case atStart => exact ⟨0, by omega, rfl, rfl⟩
  case round =>
    obtain ⟨k, hk, rfl, rfl⟩ := hrel
    by_cases hlt : k < n
    · have hkL : k < S.length := by rw [← Hn.out]; exact hlt
      obtain ⟨b, o, rfl, hc⟩ := HR.out.atN hkL
      have HC := Lib.hid (comb_succ S x hkL)
      have h1 : Sm (comb (S.take k) 0 x) := comb_sm _ _ _ fun r hr => HS.out r (List.mem_of_mem_take hr)
      have h2 : Sm (S.getD k 0) := HS.out _ (by simp [List.getD, hkL])
      generalize comb (S.take k) 0 x = p at *
      generalize S.getD k 0 = q at *
      have hmin : min k 64 = k := by omega
      cases hb : tb x k
      · have HE := Lib.hid (HC.out.trans (by rw [hb]; simp [xr_zero] : _ = p))
        go_wp2_with fail
        go_round
        case rel => exact ⟨k + 1, by omega, by go_num, by rw [HE.out]⟩
        case measure => simp [intOf]; omega
      · have HE := Lib.hid (HC.out.trans (by rw [hb]; simp : _ = xr p q))
        go_wp2_with fail
        go_round
        case rel => exact ⟨k + 1, by omega, by go_num, by rw [HE.out]⟩
        case measure => simp [intOf]; omega
    · have e : S.take k = S := List.take_of_length_le (by rw [← Hn.out]; omega)
      rw [e]
      clear e
      go_wp2_with fail
      go_ret
      exact ⟨rfl, rfl⟩

/-- the table of a module under way: the block of the table, m rows made, their numbers -/
structure TbM (w0 w : World) (g : Nat) (A : Option Addr) (n c : Nat) (h : Nat → Nat) (m : Nat) (S : Nat → List Nat) : Prop where
  blk : ∃ cs : Array Value, w.heap[g]? = some (.cells cs 77 (0, 0)) ∧ cs.size = 22 ∧ cs[0]? = some (.slice A n c) ∧ ∀ k, k < m → cs[1 + k]? = some (.slice (some ⟨h k, 0, none⟩) n n)
  own : ∀ k, k < m → w.ownsRow w0.heap.size 2 1 (.slice (some ⟨h k, 0, none⟩) n n) n (nv (S k))
  inj : ∀ k j, k < m → j < m → k ≠ j → h k ≠ h j
  ge : w0.heap.size ≤ g
  bel : Below w0.heap.size w0 w
section
variable {w0 w : World} {g : Nat} {A : Option Addr} {n c : Nat} {h : Nat → Nat} {m : Nat} {S : Nat → List Nat}
theorem TbM.cell (t : TbM w0 w g A n c h m S) {k : Nat} (hk : k < m) : w.cell? ⟨g, 1 + k, none⟩ = some (.slice (some ⟨h k, 0, none⟩) n n) := by
  obtain ⟨cs, hb, _, _, hc⟩ := t.blk
  rw [cell_of_row w g (1 + k) cs _ _ hb]; exact hc k hk
theorem TbM.cell0 (t : TbM w0 w g A n c h m S) : w.cell? ⟨g, 0, none⟩ = some (.slice A n c) := by
  obtain ⟨cs, hb, _, h0, _⟩ := t.blk
  rw [cell_of_row w g 0 cs _ _ hb]; exact h0
theorem TbM.frozen (t : TbM w0 w g A n c h m S) (i : Nat) : w.frozen? ⟨g, i, none⟩ = false := by
  obtain ⟨cs, hb, _⟩ := t.blk
  simp [World.frozen?, hb]
theorem TbM.old (t : TbM w0 w g A n c h m S) {i : Nat} (hi : i < 22) : ∃ v, w.cell? ⟨g, i, none⟩ = some v := by
  obtain ⟨cs, hb, hs, _⟩ := t.blk
  rw [cell_of_row w g i cs _ _ hb]
  exact ⟨cs[i], by simp [hs, hi]⟩
theorem TbM.lt (t : TbM w0 w g A n c h m S) : g < w.heap.size := by
  obtain ⟨cs, hb, _⟩ := t.blk
  exact (Array.getElem?_eq_some_iff.1 hb).1
theorem TbM.ne (t : TbM w0 w g A n c h m S) {k : Nat} (hk : k < m) : h k ≠ g := by
  obtain ⟨cs, hb, _⟩ := t.blk
  have := own_ne_blk (t.own k hk) hb (by decide)
  simpa [Value.ownBlock] using this
theorem TbM.congr {S' : Nat → List Nat} (t : TbM w0 w g A n c h m S) (e : ∀ k, k < m → S k = S' k) : TbM w0 w g A n c h m S' :=
  ⟨t.blk, fun k hk => by rw [← e k hk]; exact t.own k hk, t.inj, t.ge, t.bel⟩
theorem TbM.below {w' : World} (t : TbM w0 w g A n c h m S) (hb : Below w.heap.size w w') : TbM w0 w' g A n c h m S := by
  obtain ⟨cs, hk, rest⟩ := t.blk
  exact ⟨⟨cs, blk_kept hk hb, rest⟩, fun k hk => owns_keeps (t.own k hk) (Keeps.of_below hb) (.inr (by simp)), t.inj, t.ge, t.bel.trans (hb.mono t.bel.size)⟩
/-- a number stored into a row -/
theorem TbM.store (t : TbM w0 w g A n c h m S) {k : Nat} (hk : k < m) (b x : Nat) : TbM w0 (w.setCell ⟨h k, b, none⟩ (.int .i64 (x : Int))) g A n c h m (fun j => if j = k then (S k).set b x else S j) := by
  have ks : Keeps w (w.setCell ⟨h k, b, none⟩ (.int .i64 (x : Int))) [some (h k)] := (Keeps.refl w [some (h k)]).setCell (p := ⟨h k, b, none⟩) (by simp) _
  obtain ⟨cs, hb, rest⟩ := t.blk
  refine ⟨⟨cs, blk_seto hb _ (t.ne hk) _, rest⟩, fun j hj => ?_, t.inj, t.ge, t.bel.setCell (p := ⟨h k, b, none⟩) ((t.own k hk).lt (h k) rfl).1 _⟩
  by_cases e : j = k
  · subst e
    rw [if_pos rfl]
    have := (World.ownsRow.stored (t.own j hk) b (.int .i64 (x : Int))).1
    have e2 : nv ((S j).set b x) = (nv (S j)).set b (.int .i64 (x : Int)) := by simp [nv, List.map_set]
    rw [e2]; exact this
  · rw [if_neg e]
    exact owns_keeps (t.own j hj) ks (.inr (by simp only [Value.ownBlock, List.mem_singleton, Option.some.injEq]; exact t.inj j k hj hk e))
/-- one more row made -/
theorem TbM.make (t : TbM w0 w g A n c h m S) (hm : m < 21) (hn : n ≤ 1099511627776) : TbM w0 ((w.alloc (.cells (madeCells #[.int .i64 0] n) 2)).setCell ⟨g, 1 + m, none⟩ (.slice (some ⟨w.heap.size, 0, none⟩) n n)) g A n c (fun k => if k = m then w.heap.size else h k) (m + 1) (fun k => if k = m then List.replicate n 0 else S k) := by
  have hlt := t.lt
  have t1 := t.below ((Below.refl _ _).alloc (Nat.le_refl _) (.cells (madeCells #[.int .i64 0] n) 2))
  have ho := made_own w w0.heap.size n t.bel.size hn
  have ks : Keeps (w.alloc (.cells (madeCells #[.int .i64 0] n) 2)) ((w.alloc (.cells (madeCells #[.int .i64 0] n) 2)).setCell ⟨g, 1 + m, none⟩ (.slice (some ⟨w.heap.size, 0, none⟩) n n)) [some g] := (Keeps.refl _ [some g]).setCell (p := ⟨g, 1 + m, none⟩) (by simp) _
  obtain ⟨cs, hb, hs, h0, hc⟩ := t1.blk
  refine ⟨⟨cs.setIfInBounds (1 + m) (.slice (some ⟨w.heap.size, 0, none⟩) n n), heap_setCell_same _ _ _ _ _ _ hb, by simp [hs], ?_, ?_⟩, ?_, ?_, t.ge, t1.bel.setCell (p := ⟨g, 1 + m, none⟩) t.ge _⟩
  · rw [Array.getElem?_setIfInBounds]; rw [if_neg (by omega)]; exact h0
  · intro k hk
    rw [Array.getElem?_setIfInBounds]
    by_cases e : k = m
    · subst e; rw [if_pos rfl, if_pos (by rw [hs]; omega)]; simp
    · rw [if_neg (by omega)]; simp only [if_neg e]; exact hc k (by omega)
  · intro k hk
    by_cases e : k = m
    · subst e
      simp only [if_true]
      have e2 : nv (List.replicate n 0) = iv (List.replicate n 0) := by simp [nv, iv]
      rw [e2]
      exact owns_keeps ho ks (.inr (by simp [Value.ownBlock]; omega))
    · simp only [if_neg e]
      exact owns_keeps (t1.own k (by omega)) ks (.inr (by simp only [Value.ownBlock, List.mem_singleton, Option.some.injEq]; exact t.ne (k := k) (by omega)))
  · intro k j hk hj hne
    have hl : ∀ i, i < m → h i < w.heap.size := fun i hi => ((t.own i hi).lt (h i) rfl).2
    by_cases e : k = m
    · by_cases e2 : j = m
      · omega
      · simp only [if_pos e, if_neg e2]; have := hl j (by omega); omega
    · by_cases e2 : j = m
      · simp only [if_neg e, if_pos e2]; have := hl k (by omega); omega
      · simp only [if_neg e, if_neg e2]; exact t.inj k j (by omega) (by omega) hne
theorem TbM.drew (t : TbM w0 w g A n c h m S) : TbM w0 w.drew g A n c h m S := t.below (Below.drew (Below.refl _ _))
end
end Go.Proofs.YtocllmhkppkfoaaDoor
