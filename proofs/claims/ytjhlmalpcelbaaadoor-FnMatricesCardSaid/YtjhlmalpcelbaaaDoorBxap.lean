/- draws: DrawMultiplyMatrices -/
import Derived.Test.YtjhlmalpcelbaaaDoorBxag
set_option linter.all false
namespace Go.Proofs.YtjhlmalpcelbaaaDoor
open Go.RowKit

set_option maxRecDepth 100000 in
set_option maxHeartbeats 8000000 in
theorem drawMul_any (A : Option Addr) (n c : Nat) (bs : List Nat) (w : World) (hn : n = bs.length) (hsm : n ≤ 4096) (hby : ∀ b ∈ bs, b < 256) (hR : Rd w A (bv bs)) (hlt : ∀ a, A = some a → a.block < w.heap.size) :
    Calls Tryd.prog 30 #[.slice A n c] w (TwoOut w) := by
  have HFR := Lib.hid (from_any A n c bs ((w.alloc (.cells #[.int .i64 0, .slice none 0 0] 26)).alloc (.cells #[.int .i64 0, .slice none 0 0] 26)) hn hsm hby ((hR.alloc _).alloc _) (fun a ha => by have := hlt a ha; simp; omega))
  have HA := Lib.hid hlt
  have HB0 := Lib.hid (((Below.refl w.heap.size w).alloc (Nat.le_refl _) (.cells #[.int .i64 0, .slice none 0 0] 26)).alloc (by simp) (.cells #[.int .i64 0, .slice none 0 0] 26))
  have HZ2 := Lib.hid (blk_alloc (blk_new w (.cells #[.int .i64 0, .slice none 0 0] 26)) (.cells #[.int .i64 0, .slice none 0 0] 26))
  have HZ3 := Lib.hid (blk_new1 w (.cells #[.int .i64 0, .slice none 0 0] 26) (.cells #[.int .i64 0, .slice none 0 0] 26))
  have HSZ : Hid (((w.alloc (.cells #[.int .i64 0, .slice none 0 0] 26)).alloc (.cells #[.int .i64 0, .slice none 0 0] 26)).heap.size = w.heap.size + 2) := Lib.hid (by simp)
  clear hn hby hR hlt
  go_enter Tryd.func30, Tryd.ntmps30
  go_wp2_with fail
  refine HFR.out.mono ?_
  rintro e w1 ⟨rfl, hs1, hb1⟩
  rw [HSZ.out] at hs1 ⊢
  have HS1 := Lib.hid hs1
  have HB1 := Lib.hid hb1
  obtain ⟨g, HG⟩ : ∃ g, Hid (g = w.heap.size + 2) := ⟨_, Lib.hid rfl⟩
  rw [← HG.out] at HS1 ⊢
  have hgl : g < w1.heap.size := HS1.out.lt
  clear hs1 hb1
  go_wp2_with fail
  refine (spoil_any g A n c bs w1 HS1.out (fun a ha => by have := HA.out a ha; have := HG.out; omega)).mono ?_
  rintro e w2 ⟨cl, v1, xs, rfl, ho1, hxl, hs2, hk2⟩
  have hw1 : w.heap.size + 2 ≤ w1.heap.size := by have := HG.out; omega
  have hT2 : TwoAt w (w2.alloc (.cells #[.int .i64 cl, v1] 26)) g A n c bs w2.heap.size cl xs := by
    have hb2 := hk2.size
    have hg := HG.out
    have hbw : Below w.heap.size w w2 := (HB0.out.trans (HB1.out.mono HB0.out.size)).trans (hk2.to_below (by omega) (fun j hj => by simp only [List.mem_singleton] at hj; injection hj with hj; omega))
    refine ⟨?_, ?_, hs2.keeps ((Keeps.refl w2 []).alloc _) (by simp) (by simp), ⟨v1, blk_new w2 _, (ho1.mono hw1).alloc _⟩, hbw.alloc hbw.size _, by omega, by omega⟩
    · exact blk_alloc ((hk2.block _ (by omega) (by simp; omega)).trans ((HB1.out.block _ (by simp; omega)).trans HZ2.out)) _
    · exact blk_alloc ((hk2.block _ (by omega) (by simp; omega)).trans ((HB1.out.block _ (by simp)).trans HZ3.out)) _
  have HT2 := Lib.hid hT2
  obtain ⟨A1, c1, rfl, _, _, _⟩ := owns_shape ho1
  clear ho1 hs2 hk2 hT2
  go_upto_region 3 with (fail)
  generalize hga : w2.heap.size = ga at *
  clear hga
  have HNG : Hid (ga ≠ g) := Lib.hid (by
    obtain ⟨v2, hb2, _⟩ := HT2.out.rows
    exact HT2.out.src.box_ne hb2)
  go_cut [16] (fun o16 wx => TwoAt w wx g A n c bs ga cl xs ∧ (o16 = .bool false ∨ (o16 = .bool true ∧ Hid (isMat cl xs = true))))
  case first =>
    obtain ⟨v5, hb5, ho5⟩ := HT2.out.rows
    obtain ⟨A5, c5, rfl, _, _, _⟩ := owns_shape ho5
    obtain ⟨z0, z1, zf0, zf1, zl⟩ := blk2cells hb5
    have HIS := Lib.hid (l02Is_any cl A5 xs.length c5 xs _ rfl (by omega) (owns_Rd ho5))
    clear hb5 ho5
    go_wp2_with fail
    refine HIS.out.mono ?_
    rintro e w4 ⟨rfl, hb4⟩
    have HT4 := Lib.hid (HT2.out.below hb4)
    clear hb4
    cases hm : isMat cl xs with
    | false =>
      clear hm
      go_wp2_with fail
      go_meet
      exact ⟨HT4.out, .inl rfl⟩
    | true =>
      have HMT := Lib.hid hm
      clear hm
      go_wp2_with fail
      refine (next_any g A n c bs 10 (by omega) _ HT4.out.src).mono ?_
      rintro e w3 ⟨x, rfl, _, _, _, hs3, hk3⟩
      have HT3 := Lib.hid (HT4.out.step hs3 hk3)
      clear hs3 hk3
      by_cases hx : 0 < x
      · go_wp2_with fail
        go_meet
        exact ⟨HT3.out, .inr ⟨rfl, HMT⟩⟩
      · have hxn : ¬ (0 : Int) < x := hx
        go_wp2_with fail
        go_meet
        exact ⟨HT3.out, .inl (by rw [decide_eq_false (p := 0 < x) (by omega)])⟩
  case rest =>
  obtain ⟨htc, ho16⟩ := hcut
  have HTC := Lib.hid htc
  clear htc
  rcases ho16 with rfl | ⟨rfl, HMT⟩
  · have HB_0 := Lib.hid ((HTC.out.step (HTC.out.src.keeps ((Keeps.refl wc []).drew) (by simp) (by simp)) ((Keeps.refl wc [some g]).drew)))
    obtain ⟨v5, hb5, ho5⟩ := HTC.out.rows
    obtain ⟨A5, c5, rfl, _, _, _⟩ := owns_shape ho5
    have HO5 := Lib.hid ho5
    obtain ⟨z0, z1, zf0, zf1, zl⟩ := blk2cells hb5
    have hga2 := HTC.out.ga2
    have hgs := HTC.out.src.lt
    have hws := HTC.out.bel.size
    have hg2 := HTC.out.g2
    clear hb5 ho5
    go_wp2_with fail
    refine wp_region_held_drew (S := (fun w' => w'.cell? ⟨ga, 0, none⟩ = some (.int .i64 cl) ∧ w'.cell? ⟨ga, 1, none⟩ = some (.slice A5 xs.length c5))) (by kernel_rfl) (by (first | exact ⟨z0, z1⟩ | exact ⟨Z6.out.1, Z6.out.2⟩ | exact ⟨cell_set (cell_set Z6.out.1 (by simp; omega)) (by simp; omega), cell_set (cell_set Z6.out.2 (by simp; omega)) (by simp; omega)⟩ | exact ⟨cell_set (cell_set (cell_set (cell_set Z6.out.1 (by simp; omega)) (by simp; omega)) (by simp; omega)) (by simp; omega), cell_set (cell_set (cell_set (cell_set Z6.out.2 (by simp; omega)) (by simp; omega)) (by simp; omega)) (by simp; omega)⟩)) (fun hHeld => ?_)
    refine wpAnyH_take (i := 0) (oi := ?oim1_1) (v := ?vm1_1) ?hm1_1 (by kernel_rfl) (by kernel_rfl) (by kernel_rfl) ?qm1_1 (Or.inl ⟨?wm1_1, ?ym1_1⟩) (by assumption) ?rm1_1
    case hm1_1 => (simp only [List.getElem?_toArray, List.getElem?_cons_succ, List.getElem?_cons_zero]; rfl)
    case qm1_1 => exact fun _ _ _ h => h
    case wm1_1 => rfl
    case ym1_1 => (intro w hSw; (try dsimp only at hSw); go_simp <;> with_reducible rfl)
    try simp only [Act.put, List.setIfInBounds_toArray, List.set_cons_zero, List.set_cons_succ]
    refine wpAnyH_take (i := 1) (oi := ?oim1_2) (v := ?vm1_2) ?hm1_2 (by kernel_rfl) (by kernel_rfl) (by kernel_rfl) ?qm1_2 (Or.inl ⟨?wm1_2, ?ym1_2⟩) (by assumption) ?rm1_2
    case hm1_2 => (simp only [List.getElem?_toArray, List.getElem?_cons_succ, List.getElem?_cons_zero]; rfl)
    case qm1_2 => exact fun _ _ _ h => h
    case wm1_2 => rfl
    case ym1_2 => (intro w hSw; (try dsimp only at hSw); go_simp <;> with_reducible rfl)
    try simp only [Act.put, List.setIfInBounds_toArray, List.set_cons_zero, List.set_cons_succ]
    refine wpAnyH_ready (rs := [2]) (by kernel_rfl) (by simp) ?_
    refine AllReadyH.cons (o := ?oim1_3) ?hm1_3 (fun K hK => ?km1_3) ?mm1_3
    case hm1_3 => (simp only [List.getElem?_toArray, List.getElem?_cons_succ, List.getElem?_cons_zero]; rfl)
    case km1_3 =>
      go_simp
      (go_at_call 64); refine (spoil_any g A n c bs _ HB_0.out.src (fun a ha => by have := HA.out a ha; have : wc.drew.heap.size = wc.heap.size := rfl; omega)).mono ?_; rintro e w6 ⟨cl6, v6, ys, rfl, ho6, hyl, hs6, hk6⟩; (obtain ⟨A6, c6, rfl, _, _, _⟩ := owns_shape ho6); have HT6 := Lib.hid (HB_0.out.step hs6 hk6); have HO6 := Lib.hid ho6; have HO56 := Lib.hid (owns_keeps HO5.out.drew hk6 (HB_0.out.src.own_ne HO5.out.drew)); have Z6 := Lib.hid (show w6.cell? ⟨ga, 0, none⟩ = some (.int .i64 cl) ∧ w6.cell? ⟨ga, 1, none⟩ = some (.slice A5 xs.length c5) from ⟨hk6.cellSome (w := wc.drew) z0 (by simp; exact HNG.out), hk6.cellSome (w := wc.drew) z1 (by simp; exact HNG.out)⟩); obtain ⟨p0, p1, pf0, pf1, pl⟩ := blk2cells HT6.out.b2; obtain ⟨q0, q1, qf0, qf1, ql⟩ := blk2cells HT6.out.b3; clear ho6 hs6 hk6
      refine hK.out _ _ (by (first | exact ⟨z0, z1⟩ | exact ⟨Z6.out.1, Z6.out.2⟩ | exact ⟨cell_set (cell_set Z6.out.1 (by simp; omega)) (by simp; omega), cell_set (cell_set Z6.out.2 (by simp; omega)) (by simp; omega)⟩ | exact ⟨cell_set (cell_set (cell_set (cell_set Z6.out.1 (by simp; omega)) (by simp; omega)) (by simp; omega)) (by simp; omega), cell_set (cell_set (cell_set (cell_set Z6.out.2 (by simp; omega)) (by simp; omega)) (by simp; omega)) (by simp; omega)⟩)) (fun hHeld => ?_)
      clear hK K
      try simp only [Act.put, List.setIfInBounds_toArray, List.set_cons_zero, List.set_cons_succ]
      refine wpAnyH_ready (rs := [3]) (by kernel_rfl) (by simp) ?_
      refine AllReadyH.cons (o := ?oim1_4) ?hm1_4 (fun K hK => ?km1_4) ?mm1_4
      case hm1_4 => (simp only [List.getElem?_toArray, List.getElem?_cons_succ, List.getElem?_cons_zero]; rfl)
      case km1_4 =>
        go_simp
        refine hK.out _ _ (by (first | exact ⟨z0, z1⟩ | exact ⟨Z6.out.1, Z6.out.2⟩ | exact ⟨cell_set (cell_set Z6.out.1 (by simp; omega)) (by simp; omega), cell_set (cell_set Z6.out.2 (by simp; omega)) (by simp; omega)⟩ | exact ⟨cell_set (cell_set (cell_set (cell_set Z6.out.1 (by simp; omega)) (by simp; omega)) (by simp; omega)) (by simp; omega), cell_set (cell_set (cell_set (cell_set Z6.out.2 (by simp; omega)) (by simp; omega)) (by simp; omega)) (by simp; omega)⟩)) (fun hHeld => ?_)
        clear hK K
        try simp only [Act.put, List.setIfInBounds_toArray, List.set_cons_zero, List.set_cons_succ]
        refine wpAnyH_ready (rs := [4]) (by kernel_rfl) (by simp) ?_
        refine AllReadyH.cons (o := ?oim1_5) ?hm1_5 (fun K hK => ?km1_5) ?mm1_5
        case hm1_5 => (simp only [List.getElem?_toArray, List.getElem?_cons_succ, List.getElem?_cons_zero]; rfl)
        case km1_5 =>
          go_simp
          refine hK.out _ _ (by (first | exact ⟨z0, z1⟩ | exact ⟨Z6.out.1, Z6.out.2⟩ | exact ⟨cell_set (cell_set Z6.out.1 (by simp; omega)) (by simp; omega), cell_set (cell_set Z6.out.2 (by simp; omega)) (by simp; omega)⟩ | exact ⟨cell_set (cell_set (cell_set (cell_set Z6.out.1 (by simp; omega)) (by simp; omega)) (by simp; omega)) (by simp; omega), cell_set (cell_set (cell_set (cell_set Z6.out.2 (by simp; omega)) (by simp; omega)) (by simp; omega)) (by simp; omega)⟩)) (fun hHeld => ?_)
          clear hK K
          try simp only [Act.put, List.setIfInBounds_toArray, List.set_cons_zero, List.set_cons_succ]
          refine wpAnyH_done (by kernel_rfl) ?_ _
          go_wp2_with fail
          obtain ⟨f1, f2, f3⟩ := two_end (u1 := .int .i64 cl) (u2 := .int .i64 cl6) HT6.out.b2 HT6.out.b3 HO56.out HO6.out HT6.out.bel
          refine bodyPost_ret (v := .tuple #[.agg #[.int .i64 cl, .slice A5 xs.length c5], .agg #[.int .i64 cl6, .slice A6 ys.length c6]]) ?_ rfl ⟨cl, cl6, A5, A6, c5, c6, xs, ys, rfl, owns_Rd f1, owns_Rd f2, own_ge f1 (by omega), own_ge f2 (by have : wc.drew.heap.size = wc.heap.size := rfl; omega), by omega, by omega, f3⟩
          simp [results, Tryd.results30, go_sem, p0, p1, q0, q1]
        exact AllReadyH.nil
      exact AllReadyH.nil
    exact AllReadyH.nil
  · obtain ⟨d, rfl, hd⟩ := isMat_cols HMT.out
    clear HMT
    have HB_0 := Lib.hid ((HTC.out.step (HTC.out.src.keeps ((Keeps.refl wc []).drew) (by simp) (by simp)) ((Keeps.refl wc [some g]).drew)))
    obtain ⟨v5, hb5, ho5⟩ := HTC.out.rows
    obtain ⟨A5, c5, rfl, _, _, _⟩ := owns_shape ho5
    have HO5 := Lib.hid ho5
    obtain ⟨z0, z1, zf0, zf1, zl⟩ := blk2cells hb5
    have hga2 := HTC.out.ga2
    have hgs := HTC.out.src.lt
    have hws := HTC.out.bel.size
    have hg2 := HTC.out.g2
    clear hb5 ho5
    go_wp2_with fail
    refine wp_region_held_drew (S := (fun w' => w'.cell? ⟨ga, 0, none⟩ = some (.int .i64 d) ∧ w'.cell? ⟨ga, 1, none⟩ = some (.slice A5 xs.length c5))) (by kernel_rfl) (by (first | exact ⟨z0, z1⟩ | exact ⟨Z3.out.1, Z3.out.2⟩ | exact ⟨Z6.out.1, Z6.out.2⟩ | exact ⟨cell_set (cell_set Z6.out.1 (by simp; omega)) (by simp; omega), cell_set (cell_set Z6.out.2 (by simp; omega)) (by simp; omega)⟩ | exact ⟨cell_set (cell_set (cell_set (cell_set Z6.out.1 (by simp; omega)) (by simp; omega)) (by simp; omega)) (by simp; omega), cell_set (cell_set (cell_set (cell_set Z6.out.2 (by simp; omega)) (by simp; omega)) (by simp; omega)) (by simp; omega)⟩)) (fun hHeld => ?_)
    refine wpAnyH_take (i := 0) (oi := ?oim2_1) (v := ?vm2_1) ?hm2_1 (by kernel_rfl) (by kernel_rfl) (by kernel_rfl) ?qm2_1 (Or.inl ⟨?wm2_1, ?ym2_1⟩) (by assumption) ?rm2_1
    case hm2_1 => (simp only [List.getElem?_toArray, List.getElem?_cons_succ, List.getElem?_cons_zero]; rfl)
    case qm2_1 => exact fun _ _ _ h => h
    case wm2_1 => rfl
    case ym2_1 => (intro w hSw; (try dsimp only at hSw); go_simp <;> with_reducible rfl)
    try simp only [Act.put, List.setIfInBounds_toArray, List.set_cons_zero, List.set_cons_succ]
    refine wpAnyH_take (i := 1) (oi := ?oim2_2) (v := ?vm2_2) ?hm2_2 (by kernel_rfl) (by kernel_rfl) (by kernel_rfl) ?qm2_2 (Or.inl ⟨?wm2_2, ?ym2_2⟩) (by assumption) ?rm2_2
    case hm2_2 => (simp only [List.getElem?_toArray, List.getElem?_cons_succ, List.getElem?_cons_zero]; rfl)
    case qm2_2 => exact fun _ _ _ h => h
    case wm2_2 => rfl
    case ym2_2 => (intro w hSw; (try dsimp only at hSw); go_simp <;> with_reducible rfl)
    try simp only [Act.put, List.setIfInBounds_toArray, List.set_cons_zero, List.set_cons_succ]
    refine wpAnyH_take (i := 2) (oi := ?oim2_3) (v := ?vm2_3) ?hm2_3 (by kernel_rfl) (by kernel_rfl) (by kernel_rfl) ?qm2_3 (Or.inl ⟨?wm2_3, ?ym2_3⟩) (by assumption) ?rm2_3
    case hm2_3 => (simp only [List.getElem?_toArray, List.getElem?_cons_succ, List.getElem?_cons_zero]; rfl)
    case qm2_3 => exact fun _ _ _ h => h
    case wm2_3 => rfl
    case ym2_3 => (intro w hSw; (try dsimp only at hSw); go_simp <;> with_reducible rfl)
    try simp only [Act.put, List.setIfInBounds_toArray, List.set_cons_zero, List.set_cons_succ]
    refine wpAnyH_take (i := 3) (oi := ?oim2_4) (v := ?vm2_4) ?hm2_4 (by kernel_rfl) (by kernel_rfl) (by kernel_rfl) ?qm2_4 (Or.inl ⟨?wm2_4, ?ym2_4⟩) (by assumption) ?rm2_4
    case hm2_4 => (simp only [List.getElem?_toArray, List.getElem?_cons_succ, List.getElem?_cons_zero]; rfl)
    case qm2_4 => exact fun _ _ _ h => h
    case wm2_4 => rfl
    case ym2_4 => (intro w hSw; (try dsimp only at hSw); go_simp <;> with_reducible rfl)
    try simp only [Act.put, List.setIfInBounds_toArray, List.set_cons_zero, List.set_cons_succ]
    refine wpAnyH_take (i := 4) (oi := ?oim2_5) (v := ?vm2_5) ?hm2_5 (by kernel_rfl) (by kernel_rfl) (by kernel_rfl) ?qm2_5 (Or.inl ⟨?wm2_5, ?ym2_5⟩) (by assumption) ?rm2_5
    case hm2_5 => (simp only [List.getElem?_toArray, List.getElem?_cons_succ, List.getElem?_cons_zero]; rfl)
    case qm2_5 => exact fun _ _ _ h => h
    case wm2_5 => rfl
    case ym2_5 => (intro w hSw; (try dsimp only at hSw); go_simp <;> with_reducible rfl)
    try simp only [Act.put, List.setIfInBounds_toArray, List.set_cons_zero, List.set_cons_succ]
    refine wpAnyH_ready (rs := [5]) (by kernel_rfl) (by simp) ?_
    refine AllReadyH.cons (o := ?oim2_6) ?hm2_6 (fun K hK => ?km2_6) ?mm2_6
    case hm2_6 => (simp only [List.getElem?_toArray, List.getElem?_cons_succ, List.getElem?_cons_zero]; rfl)
    case km2_6 =>
      go_simp
      (go_at_call 72); refine (next_any g A n c bs 12 (by omega) _ HB_0.out.src).mono ?_; rintro e w3 ⟨x, rfl, hx0, hx1, _, hs3, hk3⟩; (obtain ⟨q, rfl⟩ := Int.eq_ofNat_of_zero_le hx0); have hq9 := hx1 (by omega); have HT3 := Lib.hid (HB_0.out.step hs3 hk3); have HO3 := Lib.hid (owns_keeps HO5.out.drew hk3 (HB_0.out.src.own_ne HO5.out.drew)); have Z3 := Lib.hid (show w3.cell? ⟨ga, 0, none⟩ = some (.int .i64 d) ∧ w3.cell? ⟨ga, 1, none⟩ = some (.slice A5 xs.length c5) from ⟨hk3.cellSome (w := wc.drew) z0 (by simp; exact HNG.out), hk3.cellSome (w := wc.drew) z1 (by simp; exact HNG.out)⟩); have hs3z : wc.heap.size ≤ w3.heap.size := hk3.size; clear hs3 hk3 hx0 hx1
      refine hK.out _ _ (by (first | exact ⟨z0, z1⟩ | exact ⟨Z3.out.1, Z3.out.2⟩ | exact ⟨Z6.out.1, Z6.out.2⟩ | exact ⟨cell_set (cell_set Z6.out.1 (by simp; omega)) (by simp; omega), cell_set (cell_set Z6.out.2 (by simp; omega)) (by simp; omega)⟩ | exact ⟨cell_set (cell_set (cell_set (cell_set Z6.out.1 (by simp; omega)) (by simp; omega)) (by simp; omega)) (by simp; omega), cell_set (cell_set (cell_set (cell_set Z6.out.2 (by simp; omega)) (by simp; omega)) (by simp; omega)) (by simp; omega)⟩)) (fun hHeld => ?_)
      clear hK K
      try simp only [Act.put, List.setIfInBounds_toArray, List.set_cons_zero, List.set_cons_succ]
      refine wpAnyH_ready (rs := [6]) (by kernel_rfl) (by simp) ?_
      refine AllReadyH.cons (o := ?oim2_7) ?hm2_7 (fun K hK => ?km2_7) ?mm2_7
      case hm2_7 => (simp only [List.getElem?_toArray, List.getElem?_cons_succ, List.getElem?_cons_zero]; rfl)
      case km2_7 =>
        go_simp
        (go_at_call 80); refine (with_any g A n c bs d q (by omega) (by omega) _ HT3.out.src (fun a ha => by have := HA.out a ha; omega)).mono ?_; rintro e w6 ⟨v6, ys, rfl, ho6, hyl, hs6, hk6⟩; replace hyl := Nat.le_of_eq hyl; (obtain ⟨A6, c6, rfl, _, _, _⟩ := owns_shape ho6); have HT6 := Lib.hid (HT3.out.step hs6 hk6); have HO6 := Lib.hid ho6; have HO56 := Lib.hid (owns_keeps HO3.out hk6 (HT3.out.src.own_ne HO3.out)); have Z6 := Lib.hid (show w6.cell? ⟨ga, 0, none⟩ = some (.int .i64 d) ∧ w6.cell? ⟨ga, 1, none⟩ = some (.slice A5 xs.length c5) from ⟨hk6.cellSome Z3.out.1 (by simp; exact HNG.out), hk6.cellSome Z3.out.2 (by simp; exact HNG.out)⟩); obtain ⟨p0, p1, pf0, pf1, pl⟩ := blk2cells HT6.out.b2; obtain ⟨q0, q1, qf0, qf1, ql⟩ := blk2cells HT6.out.b3; clear ho6 hs6 hk6
        refine hK.out _ _ (by (first | exact ⟨z0, z1⟩ | exact ⟨Z3.out.1, Z3.out.2⟩ | exact ⟨Z6.out.1, Z6.out.2⟩ | exact ⟨cell_set (cell_set Z6.out.1 (by simp; omega)) (by simp; omega), cell_set (cell_set Z6.out.2 (by simp; omega)) (by simp; omega)⟩ | exact ⟨cell_set (cell_set (cell_set (cell_set Z6.out.1 (by simp; omega)) (by simp; omega)) (by simp; omega)) (by simp; omega), cell_set (cell_set (cell_set (cell_set Z6.out.2 (by simp; omega)) (by simp; omega)) (by simp; omega)) (by simp; omega)⟩)) (fun hHeld => ?_)
        clear hK K
        try simp only [Act.put, List.setIfInBounds_toArray, List.set_cons_zero, List.set_cons_succ]
        refine wpAnyH_ready (rs := [7]) (by kernel_rfl) (by simp) ?_
        refine AllReadyH.cons (o := ?oim2_8) ?hm2_8 (fun K hK => ?km2_8) ?mm2_8
        case hm2_8 => (simp only [List.getElem?_toArray, List.getElem?_cons_succ, List.getElem?_cons_zero]; rfl)
        case km2_8 =>
          go_simp
          refine hK.out _ _ (by (first | exact ⟨z0, z1⟩ | exact ⟨Z3.out.1, Z3.out.2⟩ | exact ⟨Z6.out.1, Z6.out.2⟩ | exact ⟨cell_set (cell_set Z6.out.1 (by simp; omega)) (by simp; omega), cell_set (cell_set Z6.out.2 (by simp; omega)) (by simp; omega)⟩ | exact ⟨cell_set (cell_set (cell_set (cell_set Z6.out.1 (by simp; omega)) (by simp; omega)) (by simp; omega)) (by simp; omega), cell_set (cell_set (cell_set (cell_set Z6.out.2 (by simp; omega)) (by simp; omega)) (by simp; omega)) (by simp; omega)⟩)) (fun hHeld => ?_)
          clear hK K
          try simp only [Act.put, List.setIfInBounds_toArray, List.set_cons_zero, List.set_cons_succ]
          refine wpAnyH_ready (rs := [8]) (by kernel_rfl) (by simp) ?_
          refine AllReadyH.cons (o := ?oim2_9) ?hm2_9 (fun K hK => ?km2_9) ?mm2_9
          case hm2_9 => (simp only [List.getElem?_toArray, List.getElem?_cons_succ, List.getElem?_cons_zero]; rfl)
          case km2_9 =>
            go_simp
            refine hK.out _ _ (by (first | exact ⟨z0, z1⟩ | exact ⟨Z3.out.1, Z3.out.2⟩ | exact ⟨Z6.out.1, Z6.out.2⟩ | exact ⟨cell_set (cell_set Z6.out.1 (by simp; omega)) (by simp; omega), cell_set (cell_set Z6.out.2 (by simp; omega)) (by simp; omega)⟩ | exact ⟨cell_set (cell_set (cell_set (cell_set Z6.out.1 (by simp; omega)) (by simp; omega)) (by simp; omega)) (by simp; omega), cell_set (cell_set (cell_set (cell_set Z6.out.2 (by simp; omega)) (by simp; omega)) (by simp; omega)) (by simp; omega)⟩)) (fun hHeld => ?_)
            clear hK K
            try simp only [Act.put, List.setIfInBounds_toArray, List.set_cons_zero, List.set_cons_succ]
            refine wpAnyH_done (by kernel_rfl) ?_ _
            go_wp2_with fail
            obtain ⟨f1, f2, f3⟩ := two_end (u1 := .int .i64 d) (u2 := .int .i64 q) HT6.out.b2 HT6.out.b3 HO56.out HO6.out HT6.out.bel
            refine bodyPost_ret (v := .tuple #[.agg #[.int .i64 d, .slice A5 xs.length c5], .agg #[.int .i64 q, .slice A6 ys.length c6]]) ?_ rfl ⟨d, q, A5, A6, c5, c6, xs, ys, rfl, owns_Rd f1, owns_Rd f2, own_ge f1 (by omega), own_ge f2 (by omega), by omega, by omega, f3⟩
            simp [results, Tryd.results30, go_sem, p0, p1, q0, q1]
          exact AllReadyH.nil
        exact AllReadyH.nil
      exact AllReadyH.nil
    exact AllReadyH.nil
end Go.Proofs.YtjhlmalpcelbaaaDoor
