/- the program's InverseMatrix -/
import Derived.Test.YtchmplpgamekjaaDoorIb
import Derived.Deep.OwnRows
namespace Go.Proofs.YtchmplpgamekjaaDoor
open Go.RowKit

/-- the answer by the program's way -/
theorem isMat_sq {n : Nat} {xs : List Int} (hi : isMat n xs = true) (hn : n = xs.length) : Sq (toN xs) n := by
  refine ⟨by simp [toN, hn], ?_, ?_⟩
  · intro r hr
    obtain ⟨x, hx, rfl⟩ := List.mem_map.1 hr
    unfold isMat at hi
    simp only [Bool.and_eq_true, List.all_eq_true] at hi
    have h1 := inB_true (hi.2.2 x hx)
    rw [Int.toNat_natCast] at h1
    have h2 := pow_pos' n
    have e : ((2 ^ n : Nat) : Int) = (2 : Int) ^ n := by rw [Int.natCast_pow]; rfl
    generalize (2 : Int) ^ n = z at *
    omega
  · obtain ⟨d, hd, h60⟩ := isMat_cols hi
    omega
theorem invOf_sq {n : Nat} {xs : List Int} (hi : isMat n xs = true) (hn : n = xs.length) : invOf n xs = if ∀ j, j < n → (solL (toN xs) (2 ^ j)).1 = 0 then ((n : Int), invK (toN xs) n, 0) else (0, [], 5) := by
  unfold invOf; rw [if_pos hi, if_pos (by rw [hn]), ← hn]; rfl
theorem invOf_free {n : Nat} {xs : List Int} (hi : isMat n xs = true) (hn : n = xs.length) (hf : freeRows (toN xs)) : invOf n xs = ((n : Int), (spanL (us 0 (toN xs))).foldl putC (List.replicate n 0), 0) := by
  have hs := isMat_sq hi hn
  rw [invOf_sq hi hn, if_pos (hs.sol.2 hf), hs.inverse hf]; rfl
theorem invOf_bound {n : Nat} {xs : List Int} (hi : isMat n xs = true) (hn : n = xs.length) (hf : ¬ freeRows (toN xs)) : invOf n xs = (0, [], 5) := by
  have hs := isMat_sq hi hn
  rw [invOf_sq hi hn, if_neg (fun h => hf (hs.sol.1 h))]
theorem invOf_len (c : Int) (xs : List Int) : (invOf c xs).2.1.length ≤ 1000 := by
  unfold invOf
  split
  · rename_i h
    split
    · split
      · have := isMat_len h; simp; omega
      · simp
    · simp
  · simp
theorem cell_set_drew {w : World} {a p : Addr} {v u : Value} (h : w.cell? a = some v) (hne : a.block ≠ p.block) : (w.setCell p u).drew.cell? a = some v :=
  (World.cell?_of_block (a := a) (Below.heap_setCell w p u a.block hne)).trans h

theorem OutAt.made {w : World} {B g n : Nat} {c : Int} {x : Obj} (hB : B ≤ g) (hx : x = .cells (madeCells #[.int .i64 0] n) 2) (hn : n ≤ 1000) (h1 : w.heap[g]? = some x) (bx : Nat) (h2 : w.heap[bx]? = some (.cells #[.int .i64 c, .slice (some ⟨g, 0, none⟩) n n] 28 (0, 0))) :
    OutAt w B bx c n (List.replicate n 0) := by
  subst hx
  refine ⟨_, h2, by simp [nv], .inr ⟨g, n, _, rfl, hB, h1, Nat.le_refl _, by unfold maxLen; omega, by simp [madeCells], ?_⟩⟩
  have := iv_replicate n
  rw [show nv (List.replicate n 0) = iv (List.replicate n 0) by simp [nv, iv], ← this]
  rw [List.take_of_length_le (by simp [madeCells])]

theorem made_a (wr : World) (n : Nat) (c : Int) (hn : n ≤ 1000) : ∃ g : Nat, Value.pointer (some ⟨wr.heap.size + 1, 0, none⟩) = .pointer (some ⟨g, 0, none⟩) ∧
    OutAt ((wr.alloc (.cells (madeCells #[.int .i64 0] n) 2)).alloc (.cells #[.int .i64 c, .slice (some ⟨wr.heap.size, 0, none⟩) n n] 28)).drew wr.heap.size g c n (List.replicate n 0) ∧
    Below wr.heap.size wr ((wr.alloc (.cells (madeCells #[.int .i64 0] n) 2)).alloc (.cells #[.int .i64 c, .slice (some ⟨wr.heap.size, 0, none⟩) n n] 28)).drew ∧ wr.heap.size ≤ g :=
  ⟨_, rfl, OutAt.made (Nat.le_refl _) rfl hn (blk_alloc (blk_new wr (.cells (madeCells #[.int .i64 0] n) 2)) (.cells #[.int .i64 c, .slice (some ⟨wr.heap.size, 0, none⟩) n n] 28)) _ (blk_new1 wr _ _), (((Below.refl _ _).alloc (Nat.le_refl _) _).alloc (by simp) _).drew, by omega⟩
theorem made_b (wr : World) (n : Nat) (c : Int) (hn : n ≤ 1000) : ∃ g : Nat, Value.pointer (some ⟨wr.heap.size, 0, none⟩) = .pointer (some ⟨g, 0, none⟩) ∧
    OutAt ((wr.alloc (.cells #[.int .i64 c, .slice (some ⟨wr.heap.size + 1, 0, none⟩) n n] 28)).alloc (.cells (madeCells #[.int .i64 0] n) 2)).drew wr.heap.size g c n (List.replicate n 0) ∧
    Below wr.heap.size wr ((wr.alloc (.cells #[.int .i64 c, .slice (some ⟨wr.heap.size + 1, 0, none⟩) n n] 28)).alloc (.cells (madeCells #[.int .i64 0] n) 2)).drew ∧ wr.heap.size ≤ g :=
  ⟨_, rfl, OutAt.made (g := wr.heap.size + 1) (by omega) rfl hn (blk_new1 wr (.cells #[.int .i64 c, .slice (some ⟨wr.heap.size + 1, 0, none⟩) n n] 28) (.cells (madeCells #[.int .i64 0] n) 2)) _ (blk_alloc (blk_new wr _) _), (((Below.refl _ _).alloc (Nat.le_refl _) _).alloc (by simp) _).drew, by omega⟩

set_option maxRecDepth 100000 in
set_option maxHeartbeats 2000000 in
theorem implInv_any (c : Int) (A : Option Addr) (n cap : Nat) (xs : List Int) (w : World) (hT : Tab w) (hw : 0 < w.heap.size) (hn : n = xs.length) (hsm : n ≤ 1099511627776) (hR : Rd w A (iv xs)) :
    Calls Tryd.prog 23 #[.agg #[.int .i64 c, .slice A n cap]] w fun e w' =>
      ∃ v, e = .returned (.tuple #[.agg #[.int .i64 (invOf c xs).1, v], .int .i64 (invOf c xs).2.2]) ∧ w'.ownsRow w.heap.size 2 1 v (invOf c xs).2.1.length (nv (invOf c xs).2.1) ∧ Below w.heap.size w w' := by
  have hb1 := blk_alloc (blk_new w (.cells #[.int .i64 c, .slice A n cap] 28)) (.cells #[.int .i64 0, .slice none 0 0] 28)
  have hb2 := blk_new1 w (.cells #[.int .i64 c, .slice A n cap] 28) (.cells #[.int .i64 0, .slice none 0 0] 28)
  have hbel : Below w.heap.size w ((w.alloc (.cells #[.int .i64 c, .slice A n cap] 28)).alloc (.cells #[.int .i64 0, .slice none 0 0] 28)) := ((Below.refl _ _).alloc (Nat.le_refl _) _).alloc (by simp) _
  have h1 := isMatrix_any c A n cap xs _ hn hsm (hR.below hbel)
  have HK1 := Lib.hid hb1
  have HK2 := Lib.hid hb2
  have HB := Lib.hid hbel
  have HR := Lib.hid hR
  have Hn := Lib.hid hn
  have HT := Lib.hid hT
  clear hb1 hb2 hbel hR hn hT
  cases hi : isMat c xs with
  | false =>
    rw [hi] at h1
    have HE : Hid (invOf c xs = (0, [], 1)) := by show _ = _; simp [invOf, hi]
    have H1 := Lib.hid h1
    clear h1 hi
    go_enter Tryd.func23, Tryd.ntmps23
    go_wp2_with fail
    refine H1.out.mono ?_
    rintro e w1 ⟨rfl, hb⟩
    have HK2a := Lib.hid (blk_keep HK2.out hb)
    have HB1 := Lib.hid (HB.out.trans (hb.mono HB.out.size))
    obtain ⟨x0, x1, f0, f1, lx⟩ := blk2cells HK2a.out
    clear hb
    go_wp2_with fail
    refine bodyPost_ret (v := .tuple #[.agg #[.int .i64 0, .slice none 0 0], .int .i64 1]) ?_ rfl ⟨_, by rw [HE.out], by rw [HE.out]; exact World.ownsRow_nil _ _ _ _, ?_⟩
    · simp [results, Tryd.results23, go_sem, x0, x1]
    · exact (HB1.out.setCell (p := ⟨w.heap.size + 1, 0, none⟩) (by simp) _).setCell (p := ⟨w.heap.size + 1, 1, none⟩) (by simp) _
  | true =>
    rw [hi] at h1
    have H1 := Lib.hid h1
    have HSx := Lib.hid (isMat_sm hi)
    have HRx : Hid (Rd w A (nv (toN xs))) := by have := HR.out; rw [iv_toN (fun x hx => (isMat_nonneg hi x hx).1)] at this; exact this
    have lx : (toN xs).length = xs.length := by simp [toN]
    have Lx := Lib.hid lx
    obtain ⟨d, hd, hd60⟩ := isMat_cols hi
    clear h1 lx
    by_cases hc : c = (n : Int)
    · subst hc
      have hn60 : n ≤ 60 := by omega
      have HF := Lib.hid (invOf_free hi Hn.out)
      have HNF := Lib.hid (invOf_bound hi Hn.out)
      have HSQ0 := Lib.hid (isMat_sq hi Hn.out)
      have HSM := Lib.hid (us_sm HSx.out (by rw [Lx.out, ← Hn.out]; omega))
      clear hi hd hd60
      go_enter Tryd.func23, Tryd.ntmps23
      go_wp2_with fail
      refine H1.out.mono ?_
      rintro e w1 ⟨rfl, hb⟩
      have HK1a := Lib.hid (blk_keep HK1.out hb)
      have HK2a := Lib.hid (blk_keep HK2.out hb)
      have HB1 := Lib.hid (HB.out.trans (hb.mono HB.out.size))
      have hs1 := HB1.out.size
      have lx2 := (Array.getElem?_eq_some_iff.1 HK2a.out).1
      obtain ⟨x0, x1, f0, f1, lx⟩ := blk2cells HK1a.out
      have HS0 := Lib.hid (SpanAt.new w1)
      clear hb
      go_wp2_with fail
      go_loopw [30] (fun i wr => ∃ k : Nat, k ≤ n ∧ i = .int .i64 k ∧ (∀ j, j < k → (leftN (spanL ((us 0 (toN xs)).take j)) ((us 0 (toN xs)).getD j (0, 0))).1 ≠ 0) ∧ (∃ v1 v2, SpanAt wr w1.heap.size w1.heap.size v1 v2 (spanL ((us 0 (toN xs)).take k))) ∧ Below w1.heap.size w1 wr) (fun i _ => n - (intOf i).toNat)
      case atStart => exact ⟨0, by omega, rfl, fun j hj => absurd hj (by omega), ⟨_, _, HS0.out⟩, (Below.refl _ _).alloc (Nat.le_refl _) _⟩
      case round =>
        obtain ⟨k, hk, rfl, hall, ⟨v1, v2, hsp⟩, hbel⟩ := hrel
        have hsz : w1.heap.size ≤ wr.heap.size := hbel.size
        by_cases hlt : k < n
        · have hkL : k < (toN xs).length := by rw [Lx.out, ← Hn.out]; exact hlt
          obtain ⟨b, o, rfl, hc⟩ := (HRx.out.below (HB1.out.trans (hbel.mono hs1))).atN hkL
          have hx := HSx.out _ (getD_mem hkL)
          have hp2 : Sm (2 ^ k) := by have := pw_sm (p := k) (by omega); exact this
          have Hs := Lib.hid (spanL_take_succ (us 0 (toN xs)) k (by rw [us_length]; exact hkL))
          have hu := us_getD (toN xs) 0 k hkL
          rw [Nat.zero_add] at hu
          have hl := spanL_length_le ((us 0 (toN xs)).take k)
          rw [List.length_take] at hl
          have hg := (spanL_perm ((us 0 (toN xs)).take k) (fun p hp => HSM.out p (List.mem_of_mem_take hp))).2.2
          have hfr : ¬ (leftN (spanL ((us 0 (toN xs)).take k)) ((us 0 (toN xs)).getD k (0, 0))).1 ≠ 0 → ¬ freeRows (toN xs) := fun h h' => h (h' k hkL)
          have hal : (leftN (spanL ((us 0 (toN xs)).take k)) ((us 0 (toN xs)).getD k (0, 0))).1 ≠ 0 → ∀ j, j < k + 1 → (leftN (spanL ((us 0 (toN xs)).take j)) ((us 0 (toN xs)).getD j (0, 0))).1 ≠ 0 := by
            intro h j hj
            by_cases e : j = k
            · subst e; exact h
            · exact hall j (by omega)
          rw [hu] at hfr hal
          have Hs : Hid (spanL ((us 0 (toN xs)).take (k + 1)) = addL (spanL ((us 0 (toN xs)).take k)) ((toN xs).getD k 0, 2 ^ k)) := by show _ = _; rw [← hu]; exact Hs.out
          have HAL := Lib.hid hal
          have HFR := Lib.hid hfr
          clear hall hal hfr hu
          generalize spanL ((us 0 (toN xs)).take k) = L at *
          generalize (toN xs).getD k 0 = x at *
          have ha := add_any w1.heap.size w1.heap.size v1 v2 L x (2 ^ k) wr (HT.out.below (HB1.out.trans (hbel.mono hs1)) hw) (by omega) hsz hsp (by omega) hx hp2 hg
          rw [← shl_one (by omega)] at ha
          have HSQ := Lib.hid hsp
          have HBL := Lib.hid hbel
          by_cases h0 : (leftN L (x, 2 ^ k)).1 = 0
          · have hv : AddRes L (x, 2 ^ k) = .tuple #[.int .i64 ((leftN L (x, 2 ^ k)).2 : Nat), .bool false] := by simp [AddRes, h0]
            rw [hv] at ha
            have HA := Lib.hid ha
            have HE := Lib.hid (HNF.out (HFR.out (by simp [h0])))
            clear ha hv h0 hsp hbel hg
            generalize (leftN L (x, 2 ^ k)).2 = z at *
            go_wp2_with (go_at_call 77; refine HA.out.mono ?_; rintro e w3 ⟨rfl, hpost⟩; have hb3 := HBL.out.trans (hpost.below HSQ.out hsz); have HB3 := Lib.hid hb3; obtain ⟨y0, y1, g0, g1, ly⟩ := blk2cells (blk_below HK2a.out hb3 lx2); clear hpost hb3)
            refine bodyPost_ret (v := .tuple #[.agg #[.int .i64 0, .slice none 0 0], .int .i64 5]) ?_ rfl ⟨_, by rw [HE.out], by rw [HE.out]; exact World.ownsRow_nil _ _ _ _, ?_⟩
            · simp [results, Tryd.results23, go_sem, y0, y1]
            · exact ((HB1.out.trans (HB3.out.mono hs1)).setCell (p := ⟨w.heap.size + 1, 0, none⟩) (by simp) _).setCell (p := ⟨w.heap.size + 1, 1, none⟩) (by simp) _
          · have hv : AddRes L (x, 2 ^ k) = .tuple #[.int .i64 0, .bool true] := by simp [AddRes, h0]
            rw [hv] at ha
            have HA := Lib.hid ha
            have HAL' := Lib.hid (HAL.out h0)
            clear ha hv h0 hsp hbel hg
            go_wp2_with (go_at_call 77; refine HA.out.mono ?_; rintro e w3 ⟨rfl, hpost⟩; have HP := Lib.hid hpost; clear hpost)
            go_roundw
            case rel =>
              obtain ⟨_, u1, u2, hs2, _, _⟩ := HP.out
              exact ⟨k + 1, by omega, by go_num, HAL'.out, ⟨u1, u2, by rw [Hs.out]; exact hs2⟩, HBL.out.trans (HP.out.below HSQ.out hsz)⟩
            case measure => simp [intOf]; omega
        · obtain ⟨W0, rfl⟩ : ∃ W0, W0 = wr := ⟨_, rfl⟩
          have ek : k = (toN xs).length := by rw [Lx.out, ← Hn.out]; omega
          have hfr : freeRows (toN xs) := fun j hj => hall j (by omega)
          have et : (us 0 (toN xs)).take k = us 0 (toN xs) := List.take_of_length_le (by rw [us_length]; omega)
          rw [et] at hsp
          have HE := Lib.hid (HF.out hfr)
          have hLn : (spanL (us 0 (toN xs))).length = n := HSQ0.out.len_iff.2 hfr
          have HLN := Lib.hid hLn
          have hLle : (spanL (us 0 (toN xs))).length ≤ 60 := by omega
          have HPV : Hid (∀ i, i < (spanL (us 0 (toN xs))).length → pv ((spanL (us 0 (toN xs))).getD i (0, 0)).1 < n) := by
            show ∀ i, _ → _
            intro i hi
            exact HSQ0.out.pivs _ (List.mem_map_of_mem (List.mem_map_of_mem (by simp [List.getD, hi])))
          have hgd := (spanL_perm (us 0 (toN xs)) HSM.out).2.2
          obtain ⟨V1, c1, rfl, _, hV1, _⟩ := owns_shape hsp.own1
          obtain ⟨V2, c2, rfl, _, hV2, _⟩ := owns_shape hsp.own2
          obtain ⟨s0, s1, t0, t1, ls⟩ := blk2cells hsp.blk
          have HSQ := Lib.hid hsp
          have HBL := Lib.hid hbel
          obtain ⟨x0, x1, f0, f1, _⟩ := blk2cells (blk_below HK1a.out hbel lx)
          obtain ⟨y0, y1, g0, g1, ly⟩ := blk2cells (blk_below HK2a.out hbel lx2)
          have hmk := run_make_row' (P := Tryd.prog) 22 2 (.int .i64 0) 8 Tryd.underlying22 infoI rfl .i64 .i64 n (by omega) (by omega)
          clear hall hfr et ek hLn hsp hbel hV1 hV2
          generalize hL : spanL (us 0 (toN xs)) = L at *
          have HL := Lib.hid hL
          clear hL
          go_wp2_with fail
          go_cut [9] (fun o wx => ∃ g : Nat, o = .pointer (some ⟨g, 0, none⟩) ∧ OutAt wx W0.heap.size g n n (List.replicate n 0) ∧ Below W0.heap.size W0 wx ∧ W0.heap.size ≤ g)
          case first =>
            go_region_law (fail)
            all_goals go_wp2_with fail
            all_goals go_meet
            all_goals (first | exact made_a _ _ _ (by omega) | exact made_b _ _ _ (by omega))
          case rest =>
            obtain ⟨g, rfl, ho, hb, hg⟩ := hcut
            have HBX := Lib.hid (HBL.out.trans (hb.mono HBL.out.size))
            have HO := Lib.hid ho
            have HBW := Lib.hid hb
            have hwr := HBL.out.size
            have hpos : 0 < W0.heap.size := by omega
            clear x0 x1 f0 f1 y0 y1 g0 g1 s0 s1 t0 t1 ho hb hmk
            obtain ⟨s0, s1, _, _, _⟩ := blk2cells (blk_below HSQ.out.blk HBW.out ls)
            go_wp2_with fail
            go_loopw [58] (fun i wy => ∃ k : Nat, k ≤ L.length ∧ i = .int .i64 k ∧ OutAt wy W0.heap.size g n n ((L.take k).foldl putC (List.replicate n 0)) ∧ Below W0.heap.size W0 wy) (fun i _ => L.length - (intOf i).toNat)
            case atStart => exact ⟨0, by omega, rfl, HO.out, HBW.out⟩
            case round =>
              obtain ⟨i, hi, rfl, ⟨v, hbo, hoo⟩, hbel⟩ := hrel
              have hsz : W0.heap.size ≤ wr.heap.size := hbel.size
              obtain ⟨z0, z1, fz0, fz1, lz⟩ := blk2cells hbo
              by_cases hlt2 : i < L.length
              · obtain ⟨b1, o1, rfl, hc1⟩ := ((owns_Rd HSQ.out.own1).below hbel).atN (k := i) (by rw [r1_length]; exact hlt2)
                obtain ⟨b2, o2, rfl, hc2⟩ := ((owns_Rd HSQ.out.own2).below hbel).atN (k := i) (by rw [r2_length]; exact hlt2)
                rw [r1_getD] at hc1; rw [r2_getD] at hc2
                obtain ⟨q0, q1, q2⟩ := hgd.at_ hlt2
                have hpn := HPV.out _ hlt2
                have Hi := Lib.hid (fold_take_succ putC (List.replicate n 0) L i (0, 0) hlt2)
                obtain ⟨q3, q4, _, _, _⟩ := blk2cells (blk_below HSQ.out.blk hbel ls)
                obtain ⟨Av, cv, rfl, _, hAv, _⟩ := owns_shape hoo
                obtain ⟨gv, rfl, hgv0, hgv1⟩ := hAv (by omega)
                have hfv := hoo.frozenAt (pv (L.getD i (0, 0)).1)
                have hcv := hoo.cellAt (pv (L.getD i (0, 0)).1) (by omega)
                have hlp := hoo.1
                have hb2 : b2 < W0.heap.size := by
                  obtain ⟨b3, o3, e3, hc3⟩ := (owns_Rd HSQ.out.own2).atN (k := i) (by rw [r2_length]; exact hlt2)
                  injection e3 with e3; injection e3 with e3
                  rw [e3]; exact World.block_lt_of_cell? W0 _ hc3
                have hgg : gv ≠ g := fun e => own_ne hoo hbo (by decide) (by rw [e]; rfl)
                have hn1 : g ≠ gv := fun e => hgg e.symm
                have hn2 : w1.heap.size ≠ gv := by omega
                have hn3 : b2 ≠ gv := by omega
                have hcell : ∃ u, wr.cell? ⟨gv, pv (L.getD i (0, 0)).1, none⟩ = some u := by
                  rw [nv_length] at hlp
                  rw [hcv]
                  exact ⟨_, List.getElem?_eq_getElem (by rw [nv_length]; omega)⟩
                obtain ⟨u, hcu⟩ := hcell
                generalize hP : (L.take i).foldl putC (List.replicate n 0) = p at *
                generalize hR' : L.getD i (0, 0) = r at *
                have HP := Lib.hid hP; clear hP
                have HR' := Lib.hid hR'; clear hR'
                have HOO := Lib.hid hoo
                have HBO := Lib.hid hbo
                have HBL2 := Lib.hid hbel
                have HPI := Lib.hid (fun W hT => pivot_any r.1 q0 q1 W hT)
                have HTT := Lib.hid (HT.out.below (HB1.out.trans (HBL.out.trans (hbel.mono hwr) |>.mono hs1)) hw)
                clear hoo hbo hbel hcv
                go_wp2_with fail
                go_region_held3 (fun w' => w'.cell? ⟨g, 1, none⟩ = some (.slice (some ⟨gv, 0, none⟩) n cv) ∧ w'.cell? ⟨w1.heap.size, 1, none⟩ = some (.slice (some ⟨b2, o2, none⟩) L.length c2) ∧ w'.cell? ⟨b2, o2 + i, none⟩ = some (.int .i64 (r.2 : Int)))
                  (first | exact ⟨z1, q4, hc2⟩ | exact ⟨cell_set_drew z1 hn1, cell_set_drew q4 hn2, cell_set_drew hc2 hn3⟩)
                  (first | (go_at_call 78; refine (HPI.out _ (by exact HTT.out)).mono ?_; rintro e w' ⟨rfl, rfl⟩))
                go_wp2_with fail
                go_roundw
                case rel =>
                  refine ⟨i + 1, by omega, by go_num, ?_, (HBL2.out.setCell (p := ⟨gv, pv r.1, none⟩) hgv0 _).drew⟩
                  refine ⟨_, blk_set_other HBO.out ⟨gv, pv r.1, none⟩ hgg _, ?_⟩
                  rw [Hi.out]
                  show World.ownsRow _ _ _ _ _ _ (nv (p.set (pv r.1) r.2))
                  rw [nv_set]
                  exact (World.ownsRow.stored HOO.out (pv r.1) _).1
                case measure => simp [intOf]; omega
              · have ei : L.take i = L := List.take_of_length_le (by omega)
                rw [ei] at hoo
                obtain ⟨Av, cv, rfl, _, _, _⟩ := owns_shape hoo
                have HBO := Lib.hid hbo
                have HOO := Lib.hid hoo
                have HBL2 := Lib.hid hbel
                have HBR := Lib.hid (blk_below (blk_below HK2a.out HBL.out lx2) hbel ly)
                obtain ⟨y0, y1, g0, g1, _⟩ := blk2cells HBR.out
                clear hoo hbo hbel ei
                go_wp2_with fail
                refine bodyPost_ret (v := .tuple #[.agg #[.int .i64 n, .slice Av n cv], .int .i64 0]) ?_ rfl ⟨_, by rw [HE.out], ?_, ?_⟩
                · simp [results, Tryd.results23, go_sem, y0, y1]
                · rw [HE.out]
                  have hl := HOO.out.1
                  rw [nv_length] at hl
                  refine own_cast (owns_keeps HOO.out (((Keeps.refl wr [some (w.heap.size + 1)]).setCell (p := ⟨w.heap.size + 1, 0, none⟩) (by simp) _).setCell (p := ⟨w.heap.size + 1, 1, none⟩) (by simp) _) (.inr ?_) |>.mono (by omega)) (by simpa using hl.symm) rfl
                  simp only [List.mem_singleton]
                  exact own_ne HOO.out HBR.out (by decide)
                · exact ((HB1.out.trans ((HBL.out.trans (HBL2.out.mono hwr)).mono hs1)).setCell (p := ⟨w.heap.size + 1, 0, none⟩) (by simp) _).setCell (p := ⟨w.heap.size + 1, 1, none⟩) (by simp) _
    · have HE : Hid (invOf c xs = (0, [], 2)) := by show _ = _; unfold invOf; rw [if_pos hi, if_neg (by rw [← Hn.out]; exact hc)]
      have hcb : (c != (n : Int)) = true := by simpa using hc
      clear hi hd hd60 hc
      go_enter Tryd.func23, Tryd.ntmps23
      go_wp2_with fail
      refine H1.out.mono ?_
      rintro e w1 ⟨rfl, hb⟩
      obtain ⟨x0, x1, f0, f1, lx⟩ := blk2cells (blk_keep HK1.out hb)
      obtain ⟨y0, y1, g0, g1, ly⟩ := blk2cells (blk_keep HK2.out hb)
      have HB1 := Lib.hid (HB.out.trans (hb.mono HB.out.size))
      clear hb
      go_wp2_with fail
      refine bodyPost_ret (v := .tuple #[.agg #[.int .i64 0, .slice none 0 0], .int .i64 2]) ?_ rfl ⟨_, by rw [HE.out], by rw [HE.out]; exact World.ownsRow_nil _ _ _ _, ?_⟩
      · simp [results, Tryd.results23, go_sem, y0, y1]
      · exact (HB1.out.setCell (p := ⟨w.heap.size + 1, 0, none⟩) (by simp) _).setCell (p := ⟨w.heap.size + 1, 1, none⟩) (by simp) _
end Go.Proofs.YtchmplpgamekjaaDoor
