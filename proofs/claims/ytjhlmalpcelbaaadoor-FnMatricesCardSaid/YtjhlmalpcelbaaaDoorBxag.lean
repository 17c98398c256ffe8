/- the reference's draws: a matrix that may be spoilt · cells and blocks that outlast · the reference's draws: two matrices in their boxes · the reference's draws: two matrices -/
import Derived.Test.YtjhlmalpcelbaaaDoorBxaf
import Derived.Deep.DeepCutAuto
import Derived.Deep.CutBlock
import Derived.Test.YtjhlmalpcelbaaaDoorBxae
set_option linter.all false
namespace Go.Proofs.YtjhlmalpcelbaaaDoor
open Go.RowKit

theorem cell_keepD {w w' : World} {a : Addr} {v : Value} (h : w.cell? a = some v) (hb : Below w.heap.size w w') : w'.cell? a = some v := (hb.cell (World.block_lt_of_cell? w a h)).trans h
/-- the matrix in its box, beside the box of the result -/
structure MAt (w wr : World) (g : Nat) (A : Option Addr) (n c : Nat) (bs : List Nat) (gm : Nat) (cl : Int) (xs : List Int) : Prop where
  rows : RowsAt wr w.heap.size gm cl xs
  box : wr.heap[w.heap.size]? = some (.cells #[.int .i64 0, .slice none 0 0] 26 (0, 0))
  src : SrcAt wr g A n c bs
  kp : Keeps w wr [some g]
  lt : w.heap.size < gm
section
variable {w wr w' : World} {g : Nat} {A : Option Addr} {n c : Nat} {bs : List Nat} {gm : Nat} {cl : Int} {xs : List Int}
theorem MAt.step (h : MAt w wr g A n c bs gm cl xs) (hg : g < w.heap.size) (hs : SrcAt w' g A n c bs) (hk : Keeps wr w' [some g]) : MAt w w' g A n c bs gm cl xs := by
  obtain ⟨v, hb, ho⟩ := h.rows
  have hlt := h.lt
  refine ⟨⟨v, (hk.block _ (Array.getElem?_eq_some_iff.1 hb).1 (by simp; omega)).trans hb, owns_keeps ho hk (own_off ho hg)⟩, (hk.block _ (Array.getElem?_eq_some_iff.1 h.box).1 (by simp; omega)).trans h.box, hs, h.kp.g1 hk, h.lt⟩
theorem MAt.col (h : MAt w wr g A n c bs gm cl xs) (hg : g < w.heap.size) (hA : ∀ a, A = some a → a.block < w.heap.size) (y : Int) : MAt w (wr.setCell ⟨gm, 0, none⟩ (.int .i64 y)) g A n c bs gm y xs := by
  obtain ⟨v, hb, ho⟩ := h.rows
  have hlt := h.lt
  have k := (Keeps.refl wr [some gm]).setCell (p := ⟨gm, 0, none⟩) (by simp) (.int .i64 y)
  refine ⟨⟨v, blk2set0 hb _, owns_keeps ho k (.inr (by simp only [List.mem_singleton]; exact own_ne ho hb (by decide)))⟩, (k.block _ (Array.getElem?_eq_some_iff.1 h.box).1 (by simp; omega)).trans h.box, h.src.keeps k (by simp; omega) (fun a ha => by have := hA a ha; simp; omega), h.kp.own k (fun j hj => by simp only [List.mem_singleton] at hj; injection hj with hj; omega), h.lt⟩
theorem MAt.app {w2 w3 : World} {g2 cap2 : Nat} {r : Int} {v : Value} {o : Obj} (h : MAt w w2 g A n c bs gm cl xs) (hg0 : g < w.heap.size) (hA : ∀ a, A = some a → a.block < w.heap.size)
    (hbo : w2.heap[gm]? = some (.cells #[.int .i64 cl, v] 26 (0, 0))) (hoo : w2.ownsRow w.heap.size 2 1 v xs.length (iv xs))
    (hown2 : w3.ownsRow w.heap.size 2 1 (.slice (some ⟨g2, 0, none⟩) (xs.length + 1) cap2) (xs.length + 1) (iv xs ++ [.int .i64 r])) (hg : (w2.alloc o).grownBy w3 v.ownBlock) :
    MAt w (w3.setCell ⟨gm, 1, none⟩ (.slice (some ⟨g2, 0, none⟩) (xs.length + 1) cap2)) g A n c bs gm cl (xs ++ [r]) := by
  have hlt := h.lt
  obtain ⟨q1, q2⟩ := RowsAt.app (by omega) hbo hoo hown2 hg
  have hso : ∀ j, some j ∈ [some gm, v.ownBlock] → w.heap.size ≤ j := by
    intro j hj
    simp only [List.mem_cons, List.not_mem_nil, or_false] at hj
    rcases hj with hj | hj
    · injection hj with hj; omega
    · exact (hoo.lt j hj.symm).1
  refine ⟨q1, ?_, h.src.keeps q2 (fun hm => by have := hso _ hm; omega) (fun a ha hm => by have := hso _ hm; have := hA a ha; omega), h.kp.own q2 (fun j hj => .inr (hso j hj)), h.lt⟩
  exact (q2.block _ (Array.getElem?_eq_some_iff.1 h.box).1 (fun hm => by
    simp only [List.mem_cons, List.not_mem_nil, or_false] at hm
    rcases hm with hm | hm
    · injection hm with hm; omega
    · exact own_ne hoo h.box (by decide) hm.symm)).trans h.box
theorem MAt.alloc (h : MAt w wr g A n c bs gm cl xs) (hg : g < w.heap.size) (o : Obj) : MAt w (wr.alloc o) g A n c bs gm cl xs :=
  h.step hg (h.src.keeps ((Keeps.refl wr []).alloc o) (by simp) (by simp)) ((Keeps.refl wr [some g]).alloc o)
end

set_option maxRecDepth 100000 in
set_option maxHeartbeats 4000000 in
theorem spoil_any (g : Nat) (A : Option Addr) (n c : Nat) (bs : List Nat) (w : World) (hs : SrcAt w g A n c bs) (hA : ∀ a, A = some a → a.block < w.heap.size) :
    Calls Tryd.prog 64 #[.pointer (some ⟨g, 0, none⟩)] w (DrawOut w g A n c bs 201) := by
  have hg := hs.lt
  have HA := Lib.hid hA
  have HS0 := Lib.hid (hs.keeps ((Keeps.refl w []).alloc (.cells #[.int .i64 0, .slice none 0 0] 26)) (by simp) (by simp))
  have HKW := Lib.hid ((Keeps.refl w [some g]).alloc (.cells #[.int .i64 0, .slice none 0 0] 26))
  have HBR0 := Lib.hid (blk_new w (.cells #[.int .i64 0, .slice none 0 0] 26))
  clear hs hA
  go_enter Tryd.func64, Tryd.ntmps64
  go_wp2_with fail
  refine (draw_any g A n c bs _ HS0.out (fun a ha => by have := HA.out a ha; simp; omega)).mono ?_
  rintro e w1 ⟨cl, v1, xs, rfl, ho1, hxl, hs1, hk1⟩
  have hM1 : MAt w (w1.alloc (.cells #[.int .i64 cl, v1] 26)) g A n c bs w1.heap.size cl xs := by
    have hsz := hk1.size
    simp at hsz
    have ho : w1.ownsRow w.heap.size 2 1 v1 xs.length (iv xs) := ho1.mono (by simp)
    refine ⟨⟨v1, blk_new w1 _, ho.alloc _⟩, ?_, hs1.keeps ((Keeps.refl w1 []).alloc _) (by simp) (by simp), (HKW.out.g1 hk1).alloc _, by omega⟩
    exact blk_alloc ((hk1.block w.heap.size (by simp) (by simp only [List.mem_singleton]; intro e; injection e with e; omega)).trans HBR0.out) _
  have HM1 := Lib.hid hM1
  obtain ⟨A1, c1, rfl, _, _, _⟩ := owns_shape ho1
  clear ho1 hs1 hk1 hM1
  go_wp2_with fail
  refine (next_any g A n c bs 30 (by omega) _ HM1.out.src).mono ?_
  rintro e w2 ⟨x, rfl, a1, a2, _, hs2, hk2⟩
  have HM2 := Lib.hid (HM1.out.step hg hs2 hk2)
  generalize hgm : w1.heap.size = gm at *
  clear hgm hs2 hk2 a2 HM1
  go_upto_block 0 with (fail)
  go_cut [8] (fun _ wx => ∃ cl xs, MAt w wx g A n c bs gm cl xs ∧ List.length xs ≤ 201)
  case first =>
    by_cases h0 : x = 0
    · subst h0
      have hgw := HM2.out.src.lt
      go_wp2_with fail
      refine (pick_any g A n c bs (some ⟨w2.heap.size, 0, none⟩) 3 3 [-1, 61, 0] _ (HM2.out.src.keeps ((Keeps.refl w2 []).alloc _) (by simp) (by simp)) rfl (by omega) (by omega) (rd_cells w2 [-1, 61, 0]) (fun a ha => by injection ha with ha; rw [← ha]; simp; omega)).mono ?_
      rintro e w3 ⟨y, hy, rfl, hs3, hk3⟩
      have HM3 := Lib.hid ((HM2.out.alloc hg _).step hg hs3 hk3)
      clear hy hs3 hk3
      obtain ⟨v2, hb2, ho2⟩ := HM3.out.rows
      obtain ⟨z0, z1, zf0, zf1, zl⟩ := blk2cells hb2
      clear hb2 ho2
      go_wp2_with fail
      go_meet
      exact ⟨y, xs, HM3.out.col hg HA.out y, by omega⟩
    by_cases h1 : x = 1
    · subst h1
      have hgw := HM2.out.src.lt
      obtain ⟨v2, hb2, ho2⟩ := HM2.out.rows
      obtain ⟨A2, c2, rfl, _, _, _⟩ := owns_shape ho2
      obtain ⟨z0, z1, zf0, zf1, zl⟩ := blk2cells hb2
      have HBM := Lib.hid hb2
      have HOM := Lib.hid ho2
      have hq : xs.length < 1099511627776 := by omega
      have hsm := HM2.out.kp.size
      have HMd := Lib.hid (HM2.out.step hg (HM2.out.src.keeps ((Keeps.refl w2 []).drew) (by simp) (by simp)) ((Keeps.refl w2 [some g]).drew))
      clear hb2 ho2
      go_wp2_with fail
      refine wp_region_K (S := (fun w' => w'.cell? ⟨gm, 1, none⟩ = some (.slice A2 xs.length c2))) 7 (by kernel_rfl) (by (first | exact z1 | exact cell_keepD (w := w2.drew) z1 ((Below.refl _ _).alloc (Nat.le_refl _) _) | exact Z3.out | exact cell_keepD Z3.out ((Below.refl _ _).alloc (Nat.le_refl _) _) | exact p1)) (fun hHeld => ?_)
      refine wpAnyK_take (i := 0) (oi := ?oik1_1) (v := ?vk1_1) ?hk1_1 (by kernel_rfl) (by kernel_rfl) (by kernel_rfl) (by kernel_rfl) ?qk1_1 (Or.inl ⟨?wk1_1, ?yk1_1⟩) (by assumption) ?rk1_1
      case hk1_1 => (simp only [List.getElem?_toArray, List.getElem?_cons_succ, List.getElem?_cons_zero]; rfl)
      case qk1_1 => exact fun _ _ _ h => h
      case wk1_1 => rfl
      case yk1_1 => (intro w hSw; (try dsimp only at hSw); go_simp <;> with_reducible rfl)
      try simp only [Act.put, List.setIfInBounds_toArray, List.set_cons_zero, List.set_cons_succ]
      refine wpAnyK_take (i := 1) (oi := ?oik1_2) (v := ?vk1_2) ?hk1_2 (by kernel_rfl) (by kernel_rfl) (by kernel_rfl) (by kernel_rfl) ?qk1_2 (Or.inl ⟨?wk1_2, ?yk1_2⟩) (by assumption) ?rk1_2
      case hk1_2 => (simp only [List.getElem?_toArray, List.getElem?_cons_succ, List.getElem?_cons_zero]; rfl)
      case qk1_2 => exact fun _ _ _ h => h
      case wk1_2 => rfl
      case yk1_2 => (intro w hSw; (try dsimp only at hSw); go_simp <;> with_reducible rfl)
      try simp only [Act.put, List.setIfInBounds_toArray, List.set_cons_zero, List.set_cons_succ]
      refine wpAnyK_take (i := 2) (oi := ?oik1_3) (v := ?vk1_3) ?hk1_3 (by kernel_rfl) (by kernel_rfl) (by kernel_rfl) (by kernel_rfl) ?qk1_3 (Or.inl ⟨?wk1_3, ?yk1_3⟩) (by assumption) ?rk1_3
      case hk1_3 => (simp only [List.getElem?_toArray, List.getElem?_cons_succ, List.getElem?_cons_zero]; rfl)
      case qk1_3 => exact fun _ _ _ h => h
      case wk1_3 => rfl
      case yk1_3 => (intro w hSw; (try dsimp only at hSw); go_simp <;> with_reducible rfl)
      try simp only [Act.put, List.setIfInBounds_toArray, List.set_cons_zero, List.set_cons_succ]
      refine wpAnyK_ready (rs := [3]) (by kernel_rfl) (by simp) ?_
      refine AllReadyK.cons (o := ?oik1_4) ?hk1_4 (fun K hK => ?kk1_4) ?mk1_4
      case hk1_4 => (simp only [List.getElem?_toArray, List.getElem?_cons_succ, List.getElem?_cons_zero]; rfl)
      case kk1_4 =>
        go_simp
        refine hK.out _ _ (by (first | exact z1 | exact cell_keepD (w := w2.drew) z1 ((Below.refl _ _).alloc (Nat.le_refl _) _) | exact Z3.out | exact cell_keepD Z3.out ((Below.refl _ _).alloc (Nat.le_refl _) _) | exact p1)) (fun hHeld => ?_)
        clear hK K
        try simp only [Act.put, List.setIfInBounds_toArray, List.set_cons_zero, List.set_cons_succ]
        refine wpAnyK_ready (rs := [4]) (by kernel_rfl) (by simp) ?_
        refine AllReadyK.cons (o := ?oik1_5) ?hk1_5 (fun K hK => ?kk1_5) ?mk1_5
        case hk1_5 => (simp only [List.getElem?_toArray, List.getElem?_cons_succ, List.getElem?_cons_zero]; rfl)
        case kk1_5 =>
          go_simp
          (go_at_call 96); refine (pick_any g A n c bs (some ⟨w2.heap.size, 0, none⟩) 3 3 [-1, 1152921504606846976, 8] _ (HMd.out.src.keeps ((Keeps.refl w2.drew []).alloc _) (by simp) (by simp)) rfl (by omega) (by omega) (rd_cells w2.drew [-1, 1152921504606846976, 8]) (fun a ha => by injection ha with ha; rw [← ha]; simp; omega)).mono ?_; rintro e w3 ⟨y, hy, rfl, hs3, hk3⟩; have HM3 := Lib.hid ((HMd.out.alloc hg (.cells #[.int .i64 (-1), .int .i64 1152921504606846976, .int .i64 8] 2)).step hg hs3 hk3); have HK3 := Lib.hid (((Keeps.refl w2.drew []).alloc (.cells #[.int .i64 (-1), .int .i64 1152921504606846976, .int .i64 8] 2)).trans hk3 (T := [some g]) (by simp)); have HBM3 := Lib.hid ((HK3.out.block gm (Array.getElem?_eq_some_iff.1 HBM.out).1 (by simp only [List.mem_singleton]; intro e; injection e with e; have := HM2.out.lt; omega)).trans HBM.out); have HOM3 := Lib.hid (owns_keeps HOM.out.drew HK3.out (own_off HOM.out hg)); have Z3 := Lib.hid (blk2cells HBM3.out).2.1; have hs33 : w.heap.size ≤ w3.heap.size := HM3.out.kp.size; clear hy hs3 hk3
          refine hK.out _ _ (by (first | exact z1 | exact cell_keepD (w := w2.drew) z1 ((Below.refl _ _).alloc (Nat.le_refl _) _) | exact Z3.out | exact cell_keepD Z3.out ((Below.refl _ _).alloc (Nat.le_refl _) _) | exact p1)) (fun hHeld => ?_)
          clear hK K
          try simp only [Act.put, List.setIfInBounds_toArray, List.set_cons_zero, List.set_cons_succ]
          refine wpAnyK_ready (rs := [5]) (by kernel_rfl) (by simp) ?_
          refine AllReadyK.cons (o := ?oik1_6) ?hk1_6 (fun K hK => ?kk1_6) ?mk1_6
          case hk1_6 => (simp only [List.getElem?_toArray, List.getElem?_cons_succ, List.getElem?_cons_zero]; rfl)
          case kk1_6 =>
            go_simp
            refine hK.out _ _ (by (first | exact z1 | exact cell_keepD (w := w2.drew) z1 ((Below.refl _ _).alloc (Nat.le_refl _) _) | exact Z3.out | exact cell_keepD Z3.out ((Below.refl _ _).alloc (Nat.le_refl _) _) | exact p1)) (fun hHeld => ?_)
            clear hK K
            try simp only [Act.put, List.setIfInBounds_toArray, List.set_cons_zero, List.set_cons_succ]
            refine wpAnyK_ready (rs := [6]) (by kernel_rfl) (by simp) ?_
            refine AllReadyK.cons (o := ?oik1_7) ?hk1_7 (fun K hK => ?kk1_7) ?mk1_7
            case hk1_7 => (simp only [List.getElem?_toArray, List.getElem?_cons_succ, List.getElem?_cons_zero]; rfl)
            case kk1_7 =>
              (refine step_app1 _ _ _ _ _ etI (by rfl) (by rfl) w.heap.size (.slice A2 xs.length c2) xs.length (iv xs) (by rfl) ?_ _ (.int .i64 y) (by rfl) ?_ (by rfl) ?_ ?_ ?_; exact HOM3.out.alloc _; exact new_cell _ _ _; exact hq; (simp; omega); (intro g2 cap2 w4 hown2 hg2 hat2 hlt2; have HN := Lib.hid (MAt.app HM3.out hg HA.out HBM3.out HOM3.out hown2 hg2); have hb4 := blk2cells (blk_grown (blk_alloc HBM3.out _) hg2 (own_ne HOM3.out HBM3.out (by decide))); obtain ⟨p0, p1, pf0, pf1, pl⟩ := hb4; clear hown2 hg2 hat2 hlt2))
              refine hK.out _ _ (by (first | exact z1 | exact cell_keepD (w := w2.drew) z1 ((Below.refl _ _).alloc (Nat.le_refl _) _) | exact Z3.out | exact cell_keepD Z3.out ((Below.refl _ _).alloc (Nat.le_refl _) _) | exact p1)) (fun hHeld => ?_)
              clear hK K
              try simp only [Act.put, List.setIfInBounds_toArray, List.set_cons_zero, List.set_cons_succ]
              refine wpAnyK_ready (rs := [7]) (by kernel_rfl) (by simp) ?_
              refine AllReadyK.fin (o := ?oik1_8) (by decide) ?hk1_8 (fun K hK => ?kk1_8) ?mk1_8
              case hk1_8 => (simp only [List.getElem?_toArray, List.getElem?_cons_succ, List.getElem?_cons_zero]; rfl)
              case kk1_8 =>
                go_simp
                refine hK.out _ _ ?_
                clear hK K
                try simp only [Act.put, List.setIfInBounds_toArray, List.set_cons_zero, List.set_cons_succ]
                refine wpAnyK_ready (rs := [8]) (by kernel_rfl) (by simp) ?_
                refine AllReadyK.fin (o := ?oik1_9) (by decide) ?hk1_9 (fun K hK => ?kk1_9) ?mk1_9
                case hk1_9 => (simp only [List.getElem?_toArray, List.getElem?_cons_succ, List.getElem?_cons_zero]; rfl)
                case kk1_9 =>
                  go_simp
                  refine hK.out _ _ ?_
                  clear hK K
                  try simp only [Act.put, List.setIfInBounds_toArray, List.set_cons_zero, List.set_cons_succ]
                  refine wpAnyK_done (by kernel_rfl) ?_ _
                  go_wp2_with fail
                  go_meet
                  exact ⟨cl, _, HN.out, by simp; omega⟩
                exact AllReadyK.nil
              exact AllReadyK.nil
            exact AllReadyK.nil
          exact AllReadyK.nil
        exact AllReadyK.nil
      exact AllReadyK.nil
    by_cases h2 : x = 2
    · subst h2
      go_wp2_with fail
      go_loopg [33] 900 (fun gd _ wr => ∃ ys, MAt w wr g A n c bs gm cl ys ∧ List.length ys + gd = xs.length + 900 ∧ List.length ys ≤ 201)
      case atStart => exact ⟨xs, HM2.out, by omega, by omega⟩
      case round =>
        obtain ⟨ys, hm, hl1, hl2⟩ := hrel
        have HM := Lib.hid hm
        obtain ⟨v2, hb2, ho2⟩ := hm.rows
        obtain ⟨A2, c2, rfl, _, _, _⟩ := owns_shape ho2
        obtain ⟨z0, z1, zf0, zf1, zl⟩ := blk2cells hb2
        have HBM := Lib.hid hb2
        have HOM := Lib.hid ho2
        have hs33 : w.heap.size ≤ wr.heap.size := hm.kp.size
        have hq : ys.length < 1099511627776 := by omega
        clear hm hb2 ho2
        by_cases hle : ys.length ≤ 200
        · have hlei : (ys.length : Int) ≤ 200 := by omega
          have hgd : 1 ≤ gk := by omega
          have HL1 := Lib.hid hl1
          clear hl1
          go_wp2_with (at_builtin; refine wpList_app1 _ _ _ _ _ etI (by rfl) (by rfl) w.heap.size (.slice A2 ys.length c2) ys.length (iv ys) (by rfl) (HOM.out.alloc _) _ (.int .i64 0) (by rfl) (new_cell _ _ _) (by rfl) hq (Nat.le_trans hs33 (by simp)) ?_; (intro g2 cap2 w4 hown2 hg2 hat2 hlt2; have HN := Lib.hid (MAt.app HM.out hg HA.out HBM.out HOM.out hown2 hg2); have hb4 := blk2cells (blk_grown (blk_alloc HBM.out _) hg2 (own_ne HOM.out HBM.out (by decide))); obtain ⟨p0, p1, pf0, pf1, pl⟩ := hb4; clear hown2 hg2 hat2 hlt2))
          go_roundg (gk - 1)
          case rel => exact ⟨_, HN.out, by have := HL1.out; simp; omega, by simp; omega⟩
          case measure => omega
        · have hlei : ¬ (ys.length : Int) ≤ 200 := by omega
          have HL1 := Lib.hid hl1
          clear hl1
          go_wp2_with fail
          go_meet
          exact ⟨cl, ys, HM.out, hl2⟩
    by_cases h3 : x = 3
    · subst h3
      go_wp2_with fail
      go_loopg [44] 900 (fun gd _ wr => ∃ ys, MAt w wr g A n c bs gm cl ys ∧ List.length ys + gd = xs.length + 900 ∧ List.length ys ≤ 201)
      case atStart => exact ⟨xs, HM2.out, by omega, by omega⟩
      case round =>
        obtain ⟨ys, hm, hl1, hl2⟩ := hrel
        have HM := Lib.hid hm
        obtain ⟨v2, hb2, ho2⟩ := hm.rows
        obtain ⟨A2, c2, rfl, _, _, _⟩ := owns_shape ho2
        obtain ⟨z0, z1, zf0, zf1, zl⟩ := blk2cells hb2
        have HBM := Lib.hid hb2
        have HOM := Lib.hid ho2
        have hs33 : w.heap.size ≤ wr.heap.size := hm.kp.size
        have hq : ys.length < 1099511627776 := by omega
        clear hm hb2 ho2
        by_cases hle : ys.length ≤ 60
        · have hlei : (ys.length : Int) ≤ 60 := by omega
          have hgd : 1 ≤ gk := by omega
          have HL1 := Lib.hid hl1
          clear hl1
          go_wp2_with (at_builtin; refine wpList_app1 _ _ _ _ _ etI (by rfl) (by rfl) w.heap.size (.slice A2 ys.length c2) ys.length (iv ys) (by rfl) (HOM.out.alloc _) _ (.int .i64 0) (by rfl) (new_cell _ _ _) (by rfl) hq (Nat.le_trans hs33 (by simp)) ?_; (intro g2 cap2 w4 hown2 hg2 hat2 hlt2; have HN := Lib.hid (MAt.app HM.out hg HA.out HBM.out HOM.out hown2 hg2); have hb4 := blk2cells (blk_grown (blk_alloc HBM.out _) hg2 (own_ne HOM.out HBM.out (by decide))); obtain ⟨p0, p1, pf0, pf1, pl⟩ := hb4; clear hown2 hg2 hat2 hlt2))
          go_roundg (gk - 1)
          case rel => exact ⟨_, HN.out, by have := HL1.out; simp; omega, by simp; omega⟩
          case measure => omega
        · have hlei : ¬ (ys.length : Int) ≤ 60 := by omega
          have HL1 := Lib.hid hl1
          clear hl1
          go_wp2_with fail
          go_meet
          exact ⟨cl, ys, HM.out, hl2⟩
    · have b0 : (x == 0) = false := by simpa using h0
      have b1 : (x == 1) = false := by simpa using h1
      have b2 : (x == 2) = false := by simpa using h2
      have b3 : (x == 3) = false := by simpa using h3
      clear h0 h1 h2 h3
      go_wp2_with fail
      go_meet
      exact ⟨cl, xs, HM2.out, by omega⟩
  case rest =>
  obtain ⟨cl', xs', hm, hl⟩ := hcut
  obtain ⟨v2, hb2, ho2⟩ := hm.rows
  obtain ⟨A2, c2, rfl, _, _, _⟩ := owns_shape ho2
  obtain ⟨z0, z1, zf0, zf1, zl⟩ := blk2cells hb2
  obtain ⟨y0, y1, yf0, yf1, yl⟩ := blk2cells hm.box
  obtain ⟨e1, e2, e3⟩ := draw_end (x0 := .int .i64 cl') ho2 hm.box hm.src hm.kp hg HA.out
  have HE1 := Lib.hid e1
  have HE2 := Lib.hid e2
  have HE3 := Lib.hid e3
  clear hb2 ho2 e1 e2 e3 hm
  go_wp2_with fail
  refine bodyPost_ret (v := .agg #[.int .i64 cl', .slice A2 xs'.length c2]) ?_ rfl ⟨cl', _, xs', rfl, HE1.out, by omega, HE2.out, HE3.out⟩
  simp [results, Tryd.results64, go_sem, y0, y1]
end Go.Proofs.YtjhlmalpcelbaaaDoor

namespace Go.Proofs.YtjhlmalpcelbaaaDoor
open Go.RowKit
theorem cell_set {w : World} {a p : Addr} {v u : Value} (h : w.cell? a = some v) (hne : a.block ≠ p.block) : (w.setCell p u).cell? a = some v :=
  (World.cell?_of_block (a := a) (Below.heap_setCell w p u a.block hne)).trans h
theorem three_keep {w : World} {g g' g'' : Nat} {x x' x'' : Obj} (h : w.heap[g]? = some x) (h' : w.heap[g']? = some x') (h'' : w.heap[g'']? = some x'') : ∀ w', Below w.heap.size w w' → w'.heap[g]? = some x ∧ w'.heap[g']? = some x' ∧ w'.heap[g'']? = some x'' :=
  fun _ hb => ⟨blk_keep h hb, blk_keep h' hb, blk_keep h'' hb⟩

end Go.Proofs.YtjhlmalpcelbaaaDoor

namespace Go.Proofs.YtjhlmalpcelbaaaDoor
open Go.RowKit

/-- the first matrix in its box, beside the source and both boxes of the results -/
structure TwoAt (w wr : World) (g : Nat) (A : Option Addr) (n c : Nat) (bs : List Nat) (ga : Nat) (cl : Int) (xs : List Int) : Prop where
  b2 : wr.heap[w.heap.size]? = some (.cells #[.int .i64 0, .slice none 0 0] 26 (0, 0))
  b3 : wr.heap[w.heap.size + 1]? = some (.cells #[.int .i64 0, .slice none 0 0] 26 (0, 0))
  src : SrcAt wr g A n c bs
  rows : RowsAt wr (w.heap.size + 2) ga cl xs
  bel : Below w.heap.size w wr
  g2 : w.heap.size + 2 ≤ g
  ga2 : w.heap.size + 2 ≤ ga
theorem SrcAt.box_ne {w : World} {g : Nat} {A : Option Addr} {n c : Nat} {bs : List Nat} (h : SrcAt w g A n c bs) {ga : Nat} {cs : Array Value} (hb : w.heap[ga]? = some (.cells cs 26 (0, 0))) : ga ≠ g := by
  rintro rfl
  obtain ⟨a, x, _, h2⟩ := h.src
  rw [h2] at hb
  injection hb with hb
  injection hb with _ ht
  exact absurd ht (by decide)
theorem SrcAt.own_ne {w : World} {g B m : Nat} {A : Option Addr} {n c : Nat} {bs : List Nat} {v : Value} {ys : List Value} (h : SrcAt w g A n c bs) (ho : w.ownsRow B 2 1 v m ys) : v.ownBlock = none ∨ v.ownBlock ∉ [some g] := by
  obtain ⟨a, x, _, h2⟩ := h.src
  refine .inr ?_
  simp only [List.mem_singleton]
  exact Go.Proofs.YtjhlmalpcelbaaaDoor.own_ne ho h2 (by decide)
theorem TwoAt.step {w wr w' : World} {g : Nat} {A : Option Addr} {n c : Nat} {bs : List Nat} {ga : Nat} {cl : Int} {xs : List Int} (h : TwoAt w wr g A n c bs ga cl xs) (hs : SrcAt w' g A n c bs) (hk : Keeps wr w' [some g]) : TwoAt w w' g A n c bs ga cl xs := by
  obtain ⟨v, hb, ho⟩ := h.rows
  have h2 := h.g2
  refine ⟨(hk.block _ (Array.getElem?_eq_some_iff.1 h.b2).1 (by simp; omega)).trans h.b2, (hk.block _ (Array.getElem?_eq_some_iff.1 h.b3).1 (by simp; omega)).trans h.b3, hs, ⟨v, (hk.block _ (Array.getElem?_eq_some_iff.1 hb).1 (by simp; exact h.src.box_ne hb)).trans hb, owns_keeps ho hk (h.src.own_ne ho)⟩, h.bel.trans (hk.to_below h.bel.size (fun j hj => by simp only [List.mem_singleton] at hj; injection hj with hj; omega)), h.g2, h.ga2⟩
theorem TwoAt.below {w wr w' : World} {g : Nat} {A : Option Addr} {n c : Nat} {bs : List Nat} {ga : Nat} {cl : Int} {xs : List Int} (h : TwoAt w wr g A n c bs ga cl xs) (hb : Below wr.heap.size wr w') : TwoAt w w' g A n c bs ga cl xs :=
  h.step (h.src.keeps (Keeps.of_below hb) (by simp) (by simp)) ((Keeps.of_below hb).more (by simp))
/-- two matrices, to be read -/
def TwoOut (w : World) (e : Ending) (w' : World) : Prop :=
  ∃ (c1 c2 : Int) (A1 A2 : Option Addr) (k1 k2 : Nat) (xs ys : List Int), e = .returned (.tuple #[.agg #[.int .i64 c1, .slice A1 xs.length k1], .agg #[.int .i64 c2, .slice A2 ys.length k2]]) ∧ Rd w' A1 (iv xs) ∧ Rd w' A2 (iv ys) ∧ (∀ a, A1 = some a → w.heap.size ≤ a.block) ∧ (∀ a, A2 = some a → w.heap.size ≤ a.block) ∧ xs.length ≤ 300 ∧ ys.length ≤ 300 ∧ Below w.heap.size w w'
theorem two_end {w wz : World} {B1 B2 m1 m2 : Nat} {v1 v2 u1 u2 : Value} {xs ys : List Value} (h2 : wz.heap[w.heap.size]? = some (.cells #[.int .i64 0, .slice none 0 0] 26 (0, 0))) (h3 : wz.heap[w.heap.size + 1]? = some (.cells #[.int .i64 0, .slice none 0 0] 26 (0, 0)))
    (o1 : wz.ownsRow B1 2 1 v1 m1 xs) (o2 : wz.ownsRow B2 2 1 v2 m2 ys) (hb : Below w.heap.size w wz) :
    ((((wz.setCell ⟨w.heap.size, 0, none⟩ u1).setCell ⟨w.heap.size, 1, none⟩ v1).setCell ⟨w.heap.size + 1, 0, none⟩ u2).setCell ⟨w.heap.size + 1, 1, none⟩ v2).ownsRow B1 2 1 v1 m1 xs ∧
    ((((wz.setCell ⟨w.heap.size, 0, none⟩ u1).setCell ⟨w.heap.size, 1, none⟩ v1).setCell ⟨w.heap.size + 1, 0, none⟩ u2).setCell ⟨w.heap.size + 1, 1, none⟩ v2).ownsRow B2 2 1 v2 m2 ys ∧
    Below w.heap.size w ((((wz.setCell ⟨w.heap.size, 0, none⟩ u1).setCell ⟨w.heap.size, 1, none⟩ v1).setCell ⟨w.heap.size + 1, 0, none⟩ u2).setCell ⟨w.heap.size + 1, 1, none⟩ v2) := by
  have k : Keeps wz ((((wz.setCell ⟨w.heap.size, 0, none⟩ u1).setCell ⟨w.heap.size, 1, none⟩ v1).setCell ⟨w.heap.size + 1, 0, none⟩ u2).setCell ⟨w.heap.size + 1, 1, none⟩ v2) [some w.heap.size, some (w.heap.size + 1)] :=
    ((((Keeps.refl wz _).setCell (p := ⟨w.heap.size, 0, none⟩) (by simp) u1).setCell (p := ⟨w.heap.size, 1, none⟩) (by simp) v1).setCell (p := ⟨w.heap.size + 1, 0, none⟩) (by simp) u2).setCell (p := ⟨w.heap.size + 1, 1, none⟩) (by simp) v2
  have e1 := fun (B m : Nat) (v : Value) (zs : List Value) (o : wz.ownsRow B 2 1 v m zs) => owns_keeps o k (.inr (by
    simp only [List.mem_cons, List.not_mem_nil, or_false, not_or]
    exact ⟨own_ne o h2 (by decide), own_ne o h3 (by decide)⟩))
  exact ⟨e1 _ _ _ _ o1, e1 _ _ _ _ o2, hb.trans (k.to_below hb.size (fun j hj => by
    simp only [List.mem_cons, List.not_mem_nil, or_false] at hj
    rcases hj with hj | hj <;> (injection hj with hj; omega)))⟩


/-- both matrices in their boxes -/
structure Two2 (w wr : World) (g : Nat) (A : Option Addr) (n c : Nat) (bs : List Nat) (ga gb : Nat) (cl : Int) (xs ys : List Int) : Prop where
  one : TwoAt w wr g A n c bs ga cl xs
  two : ∃ va vb, wr.heap[ga]? = some (.cells #[.int .i64 cl, va] 26 (0, 0)) ∧ wr.ownsRow (w.heap.size + 2) 2 1 va xs.length (iv xs) ∧
    wr.heap[gb]? = some (.cells #[.int .i64 cl, vb] 26 (0, 0)) ∧ wr.ownsRow (w.heap.size + 2) 2 1 vb ys.length (iv ys) ∧ (vb.ownBlock = none ∨ vb.ownBlock ≠ va.ownBlock)
  ne : gb ≠ ga
  gb2 : w.heap.size + 2 ≤ gb
theorem Two2.step {w wr w' : World} {g : Nat} {A : Option Addr} {n c : Nat} {bs : List Nat} {ga gb : Nat} {cl : Int} {xs ys : List Int} (h : Two2 w wr g A n c bs ga gb cl xs ys) (hs : SrcAt w' g A n c bs) (hk : Keeps wr w' [some g]) : Two2 w w' g A n c bs ga gb cl xs ys := by
  obtain ⟨va, vb, ha, oa, hb, ob, hne⟩ := h.two
  exact ⟨h.one.step hs hk, ⟨va, vb, (hk.block _ (Array.getElem?_eq_some_iff.1 ha).1 (by simp; exact h.one.src.box_ne ha)).trans ha, owns_keeps oa hk (h.one.src.own_ne oa), (hk.block _ (Array.getElem?_eq_some_iff.1 hb).1 (by simp; exact h.one.src.box_ne hb)).trans hb, owns_keeps ob hk (h.one.src.own_ne ob), hne⟩, h.ne, h.gb2⟩
theorem owns_two_ne {w w5 : World} {B v0 : Nat} {va vb : Value} {m k : Nat} {xs ys : List Value} (oa : w.ownsRow v0 2 1 va m xs) (ob : w5.ownsRow w.heap.size 2 1 vb k ys) : vb.ownBlock = none ∨ vb.ownBlock ≠ va.ownBlock := by
  by_cases h0 : vb.ownBlock = none
  · exact .inl h0
  · refine .inr fun he => ?_
    cases hj : vb.ownBlock with
    | none => exact h0 hj
    | some j =>
      have h1 := (ob.lt j hj).1
      have h2 := (oa.lt j (he ▸ hj)).2
      omega
theorem two2_of {w w3 w5 : World} {g : Nat} {A : Option Addr} {n c : Nat} {bs : List Nat} {ga gb : Nat} {cl : Int} {xs ys : List Int} {vb : Value} (hT : TwoAt w w3 g A n c bs ga cl xs) (hs : SrcAt w5 g A n c bs) (hk : Keeps w3 w5 [some g])
    (ob : w5.ownsRow w3.heap.size 2 1 vb ys.length (iv ys)) (hz : w5.heap[gb]? = some (.cells #[.int .i64 0, .slice none 0 0] 26 (0, 0))) (hgb : w.heap.size + 2 ≤ gb) (hne : gb ≠ ga) (hA : ∀ a, A = some a → a.block < w.heap.size) :
    Two2 w ((w5.setCell ⟨gb, 0, none⟩ (.int .i64 cl)).setCell ⟨gb, 1, none⟩ vb) g A n c bs ga gb cl xs ys := by
  have hT5 := hT.step hs hk
  obtain ⟨va, ha, oa⟩ := hT.rows
  have h2 := owns_two_ne (B := 0) oa ob
  have ha5 := (hk.block _ (Array.getElem?_eq_some_iff.1 ha).1 (by simp; exact hT.src.box_ne ha)).trans ha
  have oa5 := owns_keeps oa hk (hT.src.own_ne oa)
  have hgg := hs.box_ne hz
  have k : Keeps w5 ((w5.setCell ⟨gb, 0, none⟩ (.int .i64 cl)).setCell ⟨gb, 1, none⟩ vb) [some gb] :=
    ((Keeps.refl w5 _).setCell (p := ⟨gb, 0, none⟩) (by simp) (.int .i64 cl)).setCell (p := ⟨gb, 1, none⟩) (by simp) vb
  have oa6 := owns_keeps oa5 k (.inr (by simp only [List.mem_singleton]; exact own_ne oa5 hz (by decide)))
  have ob6 := owns_keeps ob k (.inr (by simp only [List.mem_singleton]; exact own_ne ob hz (by decide)))
  have ha6 := (k.block ga (Array.getElem?_eq_some_iff.1 ha5).1 (by simp; omega)).trans ha5
  have hb6 := blk2set1 (blk2set0 hz (.int .i64 cl)) vb
  have hbl := hT.bel.size
  have hga2 := hT.ga2
  have hgl := (Array.getElem?_eq_some_iff.1 ha).1
  refine ⟨⟨?_, ?_, ?_, ⟨va, ha6, oa6⟩, ?_, hT.g2, hT.ga2⟩, ⟨va, vb, ha6, oa6, hb6, ob6.mono (by omega), h2⟩, hne, hgb⟩
  · exact (k.block _ (Array.getElem?_eq_some_iff.1 hT5.b2).1 (by simp; omega)).trans hT5.b2
  · exact (k.block _ (Array.getElem?_eq_some_iff.1 hT5.b3).1 (by simp; omega)).trans hT5.b3
  · exact hs.keeps k (by simp; omega) (fun a ha => by have := hA a ha; simp; omega)
  · exact hT5.bel.trans (k.to_below hT5.bel.size (fun j hj => by simp only [List.mem_singleton] at hj; injection hj with hj; omega))
theorem Two2.app {w w2 w3 : World} {g g2 cap2 : Nat} {A : Option Addr} {n c : Nat} {bs : List Nat} {ga gb : Nat} {cl r : Int} {xs ys : List Int} {va vb : Value} {o : Obj} (h : Two2 w w2 g A n c bs ga gb cl xs ys) (hA : ∀ a, A = some a → a.block < w.heap.size)
    (hba : w2.heap[ga]? = some (.cells #[.int .i64 cl, va] 26 (0, 0))) (hoa : w2.ownsRow (w.heap.size + 2) 2 1 va xs.length (iv xs))
    (hbo : w2.heap[gb]? = some (.cells #[.int .i64 cl, vb] 26 (0, 0))) (hoo : w2.ownsRow (w.heap.size + 2) 2 1 vb ys.length (iv ys)) (hap : vb.ownBlock = none ∨ vb.ownBlock ≠ va.ownBlock)
    (hown2 : w3.ownsRow (w.heap.size + 2) 2 1 (.slice (some ⟨g2, 0, none⟩) (ys.length + 1) cap2) (ys.length + 1) (iv ys ++ [.int .i64 r])) (hg : (w2.alloc o).grownBy w3 vb.ownBlock) (hnew : some g2 = vb.ownBlock ∨ w2.heap.size ≤ g2) :
    Two2 w (w3.setCell ⟨gb, 1, none⟩ (.slice (some ⟨g2, 0, none⟩) (ys.length + 1) cap2)) g A n c bs ga gb cl xs (ys ++ [r]) := by
  obtain ⟨q1, q2⟩ := RowsAt.app h.gb2 hbo hoo hown2 hg
  obtain ⟨vq, hq, oq⟩ := q1
  have hso : ∀ j, some j ∈ [some gb, vb.ownBlock] → w.heap.size + 2 ≤ j := by
    intro j hj
    have := h.gb2
    simp only [List.mem_cons, List.not_mem_nil, or_false] at hj
    rcases hj with hj | hj
    · injection hj with hj; omega
    · exact (hoo.lt j hj.symm).1
  have hng := h.ne
  have hgaB : some ga ∉ [some gb, vb.ownBlock] := by
    simp only [List.mem_cons, List.not_mem_nil, or_false, not_or]
    exact ⟨by simp; omega, fun e => own_ne hoo hba (by decide) e.symm⟩
  have hoaB : va.ownBlock = none ∨ va.ownBlock ∉ [some gb, vb.ownBlock] := by
    by_cases h0 : va.ownBlock = none
    · exact .inl h0
    · refine .inr ?_
      simp only [List.mem_cons, List.not_mem_nil, or_false, not_or]
      refine ⟨own_ne hoa hbo (by decide), fun e => ?_⟩
      rcases hap with e0 | e0
      · exact h0 (e.trans e0)
      · exact e0 e.symm
  have hbx : ∀ k, w2.heap[k]? = some (.cells #[.int .i64 0, .slice none 0 0] 26 (0, 0)) → k < w.heap.size + 2 → (w3.setCell ⟨gb, 1, none⟩ (.slice (some ⟨g2, 0, none⟩) (ys.length + 1) cap2)).heap[k]? = some (.cells #[.int .i64 0, .slice none 0 0] 26 (0, 0)) :=
    fun k hk hlt => (q2.block _ (Array.getElem?_eq_some_iff.1 hk).1 (fun hm => by have := hso k hm; omega)).trans hk
  have hsg : some g ∉ [some gb, vb.ownBlock] := by
    simp only [List.mem_cons, List.not_mem_nil, or_false, not_or]
    refine ⟨fun e => h.one.src.box_ne hbo (by injection e with e; exact e.symm), fun e => ?_⟩
    rcases h.one.src.own_ne hoo with e0 | e0
    · rw [e0] at e; cases e
    · exact e0 (by rw [← e]; simp)
  have ha6 := (q2.block ga (Array.getElem?_eq_some_iff.1 hba).1 hgaB).trans hba
  have oa6 := owns_keeps hoa q2 hoaB
  refine ⟨⟨hbx _ h.one.b2 (by omega), hbx _ h.one.b3 (by omega), h.one.src.keeps q2 hsg (fun a ha hm => by have := hso _ hm; have := hA a ha; omega), ⟨va, ha6, oa6⟩, h.one.bel.trans (q2.to_below h.one.bel.size (fun j hj => by have := hso j hj; omega)), h.one.g2, h.one.ga2⟩, ⟨va, vq, ha6, oa6, hq, oq, ?_⟩, h.ne, h.gb2⟩
  have hb3 : w3.heap[gb]? = some (.cells #[.int .i64 cl, vb] 26 (0, 0)) := blk_grown (blk_alloc hbo o) hg (own_ne hoo hbo (by decide))
  have hqe := (blk2set1 hb3 (.slice (some ⟨g2, 0, none⟩) (ys.length + 1) cap2)).symm.trans hq
  injection hqe with hqe
  injection hqe with hqe
  have hve : vq = .slice (some ⟨g2, 0, none⟩) (ys.length + 1) cap2 := by
    have := congrArg (fun a : Array Value => a[1]?) hqe
    simp at this
    exact this.symm
  subst hve
  by_cases h0 : va.ownBlock = none
  · right
    rw [h0]
    exact fun e => by cases e
  · refine .inr fun e => ?_
    have e' : some g2 = va.ownBlock := e
    rcases hnew with e1 | e1
    · rcases hap with e0 | e0
      · rw [e0] at e1; cases e1
      · exact e0 (e1.symm.trans e')
    · have := (hoa.lt g2 e'.symm).2
      omega
theorem TwoAt.c0 {w wr : World} {g : Nat} {A : Option Addr} {n c : Nat} {bs : List Nat} {ga : Nat} {cl : Int} {xs : List Int} (h : TwoAt w wr g A n c bs ga cl xs) : wr.cell? ⟨ga, 0, none⟩ = some (.int .i64 cl) := by
  obtain ⟨v, hb, _⟩ := h.rows
  exact (blk2cells hb).1
theorem TwoAt.galt {w wr : World} {g : Nat} {A : Option Addr} {n c : Nat} {bs : List Nat} {ga : Nat} {cl : Int} {xs : List Int} (h : TwoAt w wr g A n c bs ga cl xs) : ga < wr.heap.size := by
  obtain ⟨v, hb, _⟩ := h.rows
  exact (Array.getElem?_eq_some_iff.1 hb).1
theorem SrcAt.zero_keep {w w' : World} {g gb : Nat} {A : Option Addr} {n c : Nat} {bs : List Nat} (h : SrcAt w g A n c bs) (hk : Keeps w w' [some g]) (hz : w.heap[gb]? = some (.cells #[.int .i64 0, .slice none 0 0] 26 (0, 0))) : w'.heap[gb]? = some (.cells #[.int .i64 0, .slice none 0 0] 26 (0, 0)) :=
  (hk.block _ (Array.getElem?_eq_some_iff.1 hz).1 (by simp; exact h.box_ne hz)).trans hz
theorem TwoAt.alloc {w wr : World} {g : Nat} {A : Option Addr} {n c : Nat} {bs : List Nat} {ga : Nat} {cl : Int} {xs : List Int} (h : TwoAt w wr g A n c bs ga cl xs) (o : Obj) : TwoAt w (wr.alloc o) g A n c bs ga cl xs :=
  h.below ((Below.refl _ _).alloc (Nat.le_refl _) o)
theorem grown_cell {w w' : World} {a : Addr} {v : Value} {row : Option Nat} (h : w.cell? a = some v) (hg : w.grownBy w' row) (hr : row ≠ some a.block) : w'.cell? a = some v :=
  (World.cell?_of_block (a := a) (hg.block a.block (World.block_lt_of_cell? w a h) (Ne.symm hr))).trans h
theorem own_ge {w : World} {B B0 n c m : Nat} {A : Option Addr} {xs : List Value} (h : w.ownsRow B 2 1 (.slice A n c) m xs) (hB : B0 ≤ B) : ∀ a, A = some a → B0 ≤ a.block := by
  rintro a rfl
  exact Nat.le_trans hB (h.lt a.block (by simp [Value.ownBlock])).1
/-- both rows outlast stores into the boxes of the results -/
theorem two_endR {w wz : World} {A1 A2 : Option Addr} {v1 v2 u1 u2 : Value} {xs ys : List Value}
    (o1 : Rd wz A1 xs) (o2 : Rd wz A2 ys) (h1 : ∀ a, A1 = some a → w.heap.size + 2 ≤ a.block) (h2 : ∀ a, A2 = some a → w.heap.size + 2 ≤ a.block) (hb : Below w.heap.size w wz) :
    Rd ((((wz.setCell ⟨w.heap.size, 0, none⟩ u1).setCell ⟨w.heap.size, 1, none⟩ v1).setCell ⟨w.heap.size + 1, 0, none⟩ u2).setCell ⟨w.heap.size + 1, 1, none⟩ v2) A1 xs ∧
    Rd ((((wz.setCell ⟨w.heap.size, 0, none⟩ u1).setCell ⟨w.heap.size, 1, none⟩ v1).setCell ⟨w.heap.size + 1, 0, none⟩ u2).setCell ⟨w.heap.size + 1, 1, none⟩ v2) A2 ys ∧
    Below w.heap.size w ((((wz.setCell ⟨w.heap.size, 0, none⟩ u1).setCell ⟨w.heap.size, 1, none⟩ v1).setCell ⟨w.heap.size + 1, 0, none⟩ u2).setCell ⟨w.heap.size + 1, 1, none⟩ v2) := by
  have k : Keeps wz ((((wz.setCell ⟨w.heap.size, 0, none⟩ u1).setCell ⟨w.heap.size, 1, none⟩ v1).setCell ⟨w.heap.size + 1, 0, none⟩ u2).setCell ⟨w.heap.size + 1, 1, none⟩ v2) [some w.heap.size, some (w.heap.size + 1)] :=
    ((((Keeps.refl wz _).setCell (p := ⟨w.heap.size, 0, none⟩) (by simp) u1).setCell (p := ⟨w.heap.size, 1, none⟩) (by simp) v1).setCell (p := ⟨w.heap.size + 1, 0, none⟩) (by simp) u2).setCell (p := ⟨w.heap.size + 1, 1, none⟩) (by simp) v2
  exact ⟨o1.keeps k (fun a ha => by have := h1 a ha; simp; omega), o2.keeps k (fun a ha => by have := h2 a ha; simp; omega), hb.trans (k.to_below hb.size (fun j hj => by
    simp only [List.mem_cons, List.not_mem_nil, or_false] at hj
    rcases hj with hj | hj <;> (injection hj with hj; omega)))⟩
end Go.Proofs.YtjhlmalpcelbaaaDoor

namespace Go.Proofs.YtjhlmalpcelbaaaDoor
open Go.RowKit

set_option maxRecDepth 100000 in
set_option maxHeartbeats 8000000 in
theorem two_any (A : Option Addr) (n c : Nat) (bs : List Nat) (w : World) (hn : n = bs.length) (hsm : n ≤ 4096) (hby : ∀ b ∈ bs, b < 256) (hR : Rd w A (bv bs)) (hlt : ∀ a, A = some a → a.block < w.heap.size) :
    Calls Tryd.prog 50 #[.slice A n c] w (TwoOut w) := by
  have HFR := Lib.hid (from_any A n c bs ((w.alloc (.cells #[.int .i64 0, .slice none 0 0] 26)).alloc (.cells #[.int .i64 0, .slice none 0 0] 26)) hn hsm hby ((hR.alloc _).alloc _) (fun a ha => by have := hlt a ha; simp; omega))
  have HA := Lib.hid hlt
  have HB0 := Lib.hid (((Below.refl w.heap.size w).alloc (Nat.le_refl _) (.cells #[.int .i64 0, .slice none 0 0] 26)).alloc (by simp) (.cells #[.int .i64 0, .slice none 0 0] 26))
  have HZ2 := Lib.hid (blk_alloc (blk_new w (.cells #[.int .i64 0, .slice none 0 0] 26)) (.cells #[.int .i64 0, .slice none 0 0] 26))
  have HZ3 := Lib.hid (blk_new1 w (.cells #[.int .i64 0, .slice none 0 0] 26) (.cells #[.int .i64 0, .slice none 0 0] 26))
  have HSZ : Hid (((w.alloc (.cells #[.int .i64 0, .slice none 0 0] 26)).alloc (.cells #[.int .i64 0, .slice none 0 0] 26)).heap.size = w.heap.size + 2) := Lib.hid (by simp)
  clear hn hby hR hlt
  go_enter Tryd.func50, Tryd.ntmps50
  go_wp2_with fail
  refine HFR.out.mono ?_
  rintro e w1 ⟨rfl, hs1, hb1⟩
  rw [HSZ.out] at hs1 ⊢
  have HS1 := Lib.hid hs1
  have HB1 := Lib.hid hb1
  obtain ⟨g, HG⟩ : ∃ g, Hid (g = w.heap.size + 2) := ⟨_, Lib.hid rfl⟩
  rw [← HG.out] at HS1 ⊢
  have hgl : g < w1.heap.size := HS1.out.lt
  clear hs1 hb1
  go_wp2_with fail
  refine (spoil_any g A n c bs w1 HS1.out (fun a ha => by have := HA.out a ha; have := HG.out; omega)).mono ?_
  rintro e w2 ⟨cl, v1, xs, rfl, ho1, hxl, hs2, hk2⟩
  have hw1 : w.heap.size + 2 ≤ w1.heap.size := by have := HG.out; omega
  have hT2 : TwoAt w (w2.alloc (.cells #[.int .i64 cl, v1] 26)) g A n c bs w2.heap.size cl xs := by
    have hb2 := hk2.size
    have hg := HG.out
    have hbw : Below w.heap.size w w2 := (HB0.out.trans (HB1.out.mono HB0.out.size)).trans (hk2.to_below (by omega) (fun j hj => by simp only [List.mem_singleton] at hj; injection hj with hj; omega))
    refine ⟨?_, ?_, hs2.keeps ((Keeps.refl w2 []).alloc _) (by simp) (by simp), ⟨v1, blk_new w2 _, (ho1.mono hw1).alloc _⟩, hbw.alloc hbw.size _, by omega, by omega⟩
    · exact blk_alloc ((hk2.block _ (by omega) (by simp; omega)).trans ((HB1.out.block _ (by simp; omega)).trans HZ2.out)) _
    · exact blk_alloc ((hk2.block _ (by omega) (by simp; omega)).trans ((HB1.out.block _ (by simp)).trans HZ3.out)) _
  have HT2 := Lib.hid hT2
  obtain ⟨A1, c1, rfl, _, _, _⟩ := owns_shape ho1
  clear ho1 hs2 hk2 hT2
  go_upto_region 3 with (fail)
  generalize hga : w2.heap.size = ga at *
  clear hga
  have HNG : Hid (ga ≠ g) := Lib.hid (by
    obtain ⟨v2, hb2, _⟩ := HT2.out.rows
    exact HT2.out.src.box_ne hb2)
  go_cut [18] (fun o18 wx => TwoAt w wx g A n c bs ga cl xs ∧ (o18 = .bool true ∨ (o18 = .bool false ∧ Hid (isMat cl xs = true))))
  case first =>
    go_wp2_with fail
    refine (next_any g A n c bs 10 (by omega) _ HT2.out.src).mono ?_
    rintro e w3 ⟨x, rfl, _, _, _, hs3, hk3⟩
    have HT3 := Lib.hid (HT2.out.step hs3 hk3)
    clear hs3 hk3
    by_cases hx : x = 0
    · subst hx
      go_wp2_with fail
      go_meet
      exact ⟨HT3.out, .inl rfl⟩
    · have hxb : (x == 0) = false := by simpa using hx
      obtain ⟨v5, hb5, ho5⟩ := HT3.out.rows
      obtain ⟨A5, c5, rfl, _, _, _⟩ := owns_shape ho5
      obtain ⟨z0, z1, zf0, zf1, zl⟩ := blk2cells hb5
      have HIS := Lib.hid (l02Is_any cl A5 xs.length c5 xs w3 rfl (by omega) (owns_Rd ho5))
      clear hb5 ho5 hx
      go_wp2_with fail
      refine HIS.out.mono ?_
      rintro e w4 ⟨rfl, hb4⟩
      have HT4 := Lib.hid (HT3.out.below hb4)
      clear hb4
      cases hm : isMat cl xs with
      | false =>
        clear hm
        go_wp2_with fail
        go_meet
        exact ⟨HT4.out, .inl rfl⟩
      | true =>
        have HMT := Lib.hid hm
        clear hm
        go_wp2_with fail
        go_meet
        exact ⟨HT4.out, .inr ⟨rfl, HMT⟩⟩
  case rest =>
  obtain ⟨htc, ho18⟩ := hcut
  have HTC := Lib.hid htc
  clear htc
  rcases ho18 with rfl | ⟨rfl, HMT⟩
  · have HB_0 := Lib.hid ((HTC.out.step (HTC.out.src.keeps ((Keeps.refl wc []).drew) (by simp) (by simp)) ((Keeps.refl wc [some g]).drew)))
    obtain ⟨v5, hb5, ho5⟩ := HTC.out.rows
    obtain ⟨A5, c5, rfl, _, _, _⟩ := owns_shape ho5
    have HO5 := Lib.hid ho5
    obtain ⟨z0, z1, zf0, zf1, zl⟩ := blk2cells hb5
    have hga2 := HTC.out.ga2
    have hgs := HTC.out.src.lt
    have hws := HTC.out.bel.size
    have hg2 := HTC.out.g2
    clear hb5 ho5
    go_wp2_with fail
    refine wp_region_held_drew (S := (fun w' => w'.cell? ⟨ga, 0, none⟩ = some (.int .i64 cl) ∧ w'.cell? ⟨ga, 1, none⟩ = some (.slice A5 xs.length c5))) (by kernel_rfl) (by (first | exact ⟨z0, z1⟩ | exact ⟨Z6.out.1, Z6.out.2⟩ | exact ⟨cell_set (cell_set Z6.out.1 (by simp; omega)) (by simp; omega), cell_set (cell_set Z6.out.2 (by simp; omega)) (by simp; omega)⟩ | exact ⟨cell_set (cell_set (cell_set (cell_set Z6.out.1 (by simp; omega)) (by simp; omega)) (by simp; omega)) (by simp; omega), cell_set (cell_set (cell_set (cell_set Z6.out.2 (by simp; omega)) (by simp; omega)) (by simp; omega)) (by simp; omega)⟩)) (fun hHeld => ?_)
    refine wpAnyH_take (i := 0) (oi := ?oim1_1) (v := ?vm1_1) ?hm1_1 (by kernel_rfl) (by kernel_rfl) (by kernel_rfl) ?qm1_1 (Or.inl ⟨?wm1_1, ?ym1_1⟩) (by assumption) ?rm1_1
    case hm1_1 => (simp only [List.getElem?_toArray, List.getElem?_cons_succ, List.getElem?_cons_zero]; rfl)
    case qm1_1 => exact fun _ _ _ h => h
    case wm1_1 => rfl
    case ym1_1 => (intro w hSw; (try dsimp only at hSw); go_simp <;> with_reducible rfl)
    try simp only [Act.put, List.setIfInBounds_toArray, List.set_cons_zero, List.set_cons_succ]
    refine wpAnyH_take (i := 1) (oi := ?oim1_2) (v := ?vm1_2) ?hm1_2 (by kernel_rfl) (by kernel_rfl) (by kernel_rfl) ?qm1_2 (Or.inl ⟨?wm1_2, ?ym1_2⟩) (by assumption) ?rm1_2
    case hm1_2 => (simp only [List.getElem?_toArray, List.getElem?_cons_succ, List.getElem?_cons_zero]; rfl)
    case qm1_2 => exact fun _ _ _ h => h
    case wm1_2 => rfl
    case ym1_2 => (intro w hSw; (try dsimp only at hSw); go_simp <;> with_reducible rfl)
    try simp only [Act.put, List.setIfInBounds_toArray, List.set_cons_zero, List.set_cons_succ]
    refine wpAnyH_ready (rs := [2]) (by kernel_rfl) (by simp) ?_
    refine AllReadyH.cons (o := ?oim1_3) ?hm1_3 (fun K hK => ?km1_3) ?mm1_3
    case hm1_3 => (simp only [List.getElem?_toArray, List.getElem?_cons_succ, List.getElem?_cons_zero]; rfl)
    case km1_3 =>
      go_simp
      (go_at_call 64); refine (spoil_any g A n c bs _ HB_0.out.src (fun a ha => by have := HA.out a ha; have : wc.drew.heap.size = wc.heap.size := rfl; omega)).mono ?_; rintro e w6 ⟨cl6, v6, ys, rfl, ho6, hyl, hs6, hk6⟩; (obtain ⟨A6, c6, rfl, _, _, _⟩ := owns_shape ho6); have HT6 := Lib.hid (HB_0.out.step hs6 hk6); have HO6 := Lib.hid ho6; have HO56 := Lib.hid (owns_keeps HO5.out.drew hk6 (HB_0.out.src.own_ne HO5.out.drew)); have Z6 := Lib.hid (show w6.cell? ⟨ga, 0, none⟩ = some (.int .i64 cl) ∧ w6.cell? ⟨ga, 1, none⟩ = some (.slice A5 xs.length c5) from ⟨hk6.cellSome (w := wc.drew) z0 (by simp; exact HNG.out), hk6.cellSome (w := wc.drew) z1 (by simp; exact HNG.out)⟩); obtain ⟨p0, p1, pf0, pf1, pl⟩ := blk2cells HT6.out.b2; obtain ⟨q0, q1, qf0, qf1, ql⟩ := blk2cells HT6.out.b3; clear ho6 hs6 hk6
      refine hK.out _ _ (by (first | exact ⟨z0, z1⟩ | exact ⟨Z6.out.1, Z6.out.2⟩ | exact ⟨cell_set (cell_set Z6.out.1 (by simp; omega)) (by simp; omega), cell_set (cell_set Z6.out.2 (by simp; omega)) (by simp; omega)⟩ | exact ⟨cell_set (cell_set (cell_set (cell_set Z6.out.1 (by simp; omega)) (by simp; omega)) (by simp; omega)) (by simp; omega), cell_set (cell_set (cell_set (cell_set Z6.out.2 (by simp; omega)) (by simp; omega)) (by simp; omega)) (by simp; omega)⟩)) (fun hHeld => ?_)
      clear hK K
      try simp only [Act.put, List.setIfInBounds_toArray, List.set_cons_zero, List.set_cons_succ]
      refine wpAnyH_ready (rs := [3]) (by kernel_rfl) (by simp) ?_
      refine AllReadyH.cons (o := ?oim1_4) ?hm1_4 (fun K hK => ?km1_4) ?mm1_4
      case hm1_4 => (simp only [List.getElem?_toArray, List.getElem?_cons_succ, List.getElem?_cons_zero]; rfl)
      case km1_4 =>
        go_simp
        refine hK.out _ _ (by (first | exact ⟨z0, z1⟩ | exact ⟨Z6.out.1, Z6.out.2⟩ | exact ⟨cell_set (cell_set Z6.out.1 (by simp; omega)) (by simp; omega), cell_set (cell_set Z6.out.2 (by simp; omega)) (by simp; omega)⟩ | exact ⟨cell_set (cell_set (cell_set (cell_set Z6.out.1 (by simp; omega)) (by simp; omega)) (by simp; omega)) (by simp; omega), cell_set (cell_set (cell_set (cell_set Z6.out.2 (by simp; omega)) (by simp; omega)) (by simp; omega)) (by simp; omega)⟩)) (fun hHeld => ?_)
        clear hK K
        try simp only [Act.put, List.setIfInBounds_toArray, List.set_cons_zero, List.set_cons_succ]
        refine wpAnyH_ready (rs := [4]) (by kernel_rfl) (by simp) ?_
        refine AllReadyH.cons (o := ?oim1_5) ?hm1_5 (fun K hK => ?km1_5) ?mm1_5
        case hm1_5 => (simp only [List.getElem?_toArray, List.getElem?_cons_succ, List.getElem?_cons_zero]; rfl)
        case km1_5 =>
          go_simp
          refine hK.out _ _ (by (first | exact ⟨z0, z1⟩ | exact ⟨Z6.out.1, Z6.out.2⟩ | exact ⟨cell_set (cell_set Z6.out.1 (by simp; omega)) (by simp; omega), cell_set (cell_set Z6.out.2 (by simp; omega)) (by simp; omega)⟩ | exact ⟨cell_set (cell_set (cell_set (cell_set Z6.out.1 (by simp; omega)) (by simp; omega)) (by simp; omega)) (by simp; omega), cell_set (cell_set (cell_set (cell_set Z6.out.2 (by simp; omega)) (by simp; omega)) (by simp; omega)) (by simp; omega)⟩)) (fun hHeld => ?_)
          clear hK K
          try simp only [Act.put, List.setIfInBounds_toArray, List.set_cons_zero, List.set_cons_succ]
          refine wpAnyH_done (by kernel_rfl) ?_ _
          go_wp2_with fail
          obtain ⟨f1, f2, f3⟩ := two_end (u1 := .int .i64 cl) (u2 := .int .i64 cl6) HT6.out.b2 HT6.out.b3 HO56.out HO6.out HT6.out.bel
          refine bodyPost_ret (v := .tuple #[.agg #[.int .i64 cl, .slice A5 xs.length c5], .agg #[.int .i64 cl6, .slice A6 ys.length c6]]) ?_ rfl ⟨cl, cl6, A5, A6, c5, c6, xs, ys, rfl, owns_Rd f1, owns_Rd f2, own_ge f1 (by omega), own_ge f2 (by have : wc.drew.heap.size = wc.heap.size := rfl; omega), by omega, by omega, f3⟩
          simp [results, Tryd.results50, go_sem, p0, p1, q0, q1]
        exact AllReadyH.nil
      exact AllReadyH.nil
    exact AllReadyH.nil
  · obtain ⟨d, rfl, hd⟩ := isMat_cols HMT.out
    clear HMT
    have HB_0 := Lib.hid ((HTC.out.step (HTC.out.src.keeps ((Keeps.refl wc []).drew) (by simp) (by simp)) ((Keeps.refl wc [some g]).drew)))
    have hws := HTC.out.bel.size
    have hga2 := HTC.out.ga2
    have hgl5 := HTC.out.galt
    have z0 := HTC.out.c0
    have hg2 := HTC.out.g2
    go_upto_region 6 with (fail)
    go_cut [6] (fun o6 wx => ∃ gb ys, o6 = .pointer (some ⟨gb, 0, none⟩) ∧ Two2 w wx g A n c bs ga gb d xs ys ∧ ys.length ≤ 9)
    case first =>
      go_wp2_with fail
      refine wp_region_held_drew (S := (fun w' => w'.cell? ⟨ga, 0, none⟩ = some (.int .i64 d))) (by kernel_rfl) (by (first | exact HN.out.one.c0 | exact cell_keepD HC5.out ((Below.refl _ _).alloc (Nat.le_refl _) _) | exact HC5.out | exact HB6.out.1.c0 | exact HT3.out.c0 | exact HA6.out.1.c0 | exact z0)) (fun hHeld => ?_)
      refine wpAnyH_take (i := 0) (oi := ?oim2_1) (v := ?vm2_1) ?hm2_1 (by kernel_rfl) (by kernel_rfl) (by kernel_rfl) ?qm2_1 (Or.inl ⟨?wm2_1, ?ym2_1⟩) (by assumption) ?rm2_1
      case hm2_1 => (simp only [List.getElem?_toArray, List.getElem?_cons_succ, List.getElem?_cons_zero]; rfl)
      case qm2_1 => exact fun _ _ _ h => h
      case wm2_1 => rfl
      case ym2_1 => (intro w hSw; (try dsimp only at hSw); go_simp <;> with_reducible rfl)
      try simp only [Act.put, List.setIfInBounds_toArray, List.set_cons_zero, List.set_cons_succ]
      refine wpAnyH_take (i := 1) (oi := ?oim2_2) (v := ?vm2_2) ?hm2_2 (by kernel_rfl) (by kernel_rfl) (by kernel_rfl) ?qm2_2 (Or.inl ⟨?wm2_2, ?ym2_2⟩) (by assumption) ?rm2_2
      case hm2_2 => (simp only [List.getElem?_toArray, List.getElem?_cons_succ, List.getElem?_cons_zero]; rfl)
      case qm2_2 => exact fun _ _ _ h => h
      case wm2_2 => rfl
      case ym2_2 => (intro w hSw; (try dsimp only at hSw); go_simp <;> with_reducible rfl)
      try simp only [Act.put, List.setIfInBounds_toArray, List.set_cons_zero, List.set_cons_succ]
      refine wpAnyH_take (i := 3) (oi := ?oim2_3) (v := ?vm2_3) ?hm2_3 (by kernel_rfl) (by kernel_rfl) (by kernel_rfl) ?qm2_3 (Or.inl ⟨?wm2_3, ?ym2_3⟩) (by assumption) ?rm2_3
      case hm2_3 => (simp only [List.getElem?_toArray, List.getElem?_cons_succ, List.getElem?_cons_zero]; rfl)
      case qm2_3 => exact fun _ _ _ h => h
      case wm2_3 => rfl
      case ym2_3 => (intro w hSw; (try dsimp only at hSw); go_simp <;> with_reducible rfl)
      try simp only [Act.put, List.setIfInBounds_toArray, List.set_cons_zero, List.set_cons_succ]
      refine wpAnyH_take (i := 4) (oi := ?oim2_4) (v := ?vm2_4) ?hm2_4 (by kernel_rfl) (by kernel_rfl) (by kernel_rfl) ?qm2_4 (Or.inl ⟨?wm2_4, ?ym2_4⟩) (by assumption) ?rm2_4
      case hm2_4 => (simp only [List.getElem?_toArray, List.getElem?_cons_succ, List.getElem?_cons_zero]; rfl)
      case qm2_4 => exact fun _ _ _ h => h
      case wm2_4 => rfl
      case ym2_4 => (intro w hSw; (try dsimp only at hSw); go_simp <;> with_reducible rfl)
      try simp only [Act.put, List.setIfInBounds_toArray, List.set_cons_zero, List.set_cons_succ]
      refine wpAnyH_ready (rs := [2, 6]) (by kernel_rfl) (by simp) ?_
      refine AllReadyH.cons (o := ?oim2_5) ?hm2_5 (fun K hK => ?km2_5) ?mm2_5
      case hm2_5 => (simp only [List.getElem?_toArray, List.getElem?_cons_succ, List.getElem?_cons_zero]; rfl)
      case km2_5 =>
        go_simp
        (go_at_call 72); (first | refine (next_any g A n c bs 9 (by omega) _ HA6.out.1.src).mono ?_ | refine (next_any g A n c bs 9 (by omega) _ HB_0.out.src).mono ?_); rintro e w3 ⟨x, rfl, hx0, hx1, _, hs3, hk3⟩; obtain ⟨q, rfl⟩ := Int.eq_ofNat_of_zero_le hx0; have hq9 := hx1 (by omega); (first | (have HT3 := Lib.hid (HA6.out.1.step hs3 hk3); have HG3 := Lib.hid (HA6.out.1.src.zero_keep hk3 HA6.out.2); have hsz3 := hk3.size; simp at hsz3) | (have HT3 := Lib.hid (HB_0.out.step hs3 hk3); have hsz3 : wc.heap.size ≤ w3.heap.size := hk3.size)); have hgl3 := HT3.out.galt; clear hs3 hk3 hx0 hx1
        refine hK.out _ _ (by (first | exact HN.out.one.c0 | exact cell_keepD HC5.out ((Below.refl _ _).alloc (Nat.le_refl _) _) | exact HC5.out | exact HB6.out.1.c0 | exact HT3.out.c0 | exact HA6.out.1.c0 | exact z0)) (fun hHeld => ?_)
        clear hK K
        try simp only [Act.put, List.setIfInBounds_toArray, List.set_cons_zero, List.set_cons_succ]
        refine wpAnyH_ready (rs := [5, 6]) (by kernel_rfl) (by simp) ?_
        refine AllReadyH.cons (o := ?oim2_6) ?hm2_6 (fun K hK => ?km2_6) ?mm2_6
        case hm2_6 => (simp only [List.getElem?_toArray, List.getElem?_cons_succ, List.getElem?_cons_zero]; rfl)
        case km2_6 =>
          go_simp
          (go_at_call 80); (first | refine (with_any g A n c bs q d (by omega) (by omega) _ HB6.out.1.src (fun a ha => by have := HA.out a ha; simp; omega)).mono ?_ | refine (with_any g A n c bs q d (by omega) (by omega) _ HT3.out.src (fun a ha => by have := HA.out a ha; omega)).mono ?_); rintro e w5 ⟨vb, ys, rfl, ho5, hyl, hs5, hk5⟩; replace hyl := Nat.le_of_eq hyl; obtain ⟨A6, c6, rfl, _, _, _⟩ := owns_shape ho5; have hsz5 := hk5.size; (try simp at hsz5); (first | (have HG5 := Lib.hid (HB6.out.1.src.zero_keep hk5 HB6.out.2); have HN := Lib.hid (two2_of (gb := w3.heap.size) HB6.out.1 hs5 hk5 ho5 HG5.out (by omega) (by omega) HA.out); have HC5 := Lib.hid (HB6.out.1.step hs5 hk5).c0; obtain ⟨p0, p1, pf0, pf1, pl⟩ := blk2cells HG5.out) | (have HG5 := Lib.hid (HT3.out.src.zero_keep hk5 HG3.out); have HN := Lib.hid (two2_of (gb := wc.heap.size) HT3.out hs5 hk5 ho5 HG5.out (by omega) (by omega) HA.out); have HC5 := Lib.hid (HT3.out.step hs5 hk5).c0; obtain ⟨p0, p1, pf0, pf1, pl⟩ := blk2cells HG5.out) | (have HC5 := Lib.hid (HT3.out.step hs5 hk5).c0; have HS5 := Lib.hid hs5; have HK5 := Lib.hid hk5; have HO5 := Lib.hid ho5)); clear hs5 hk5 ho5
          refine hK.out _ _ (by (first | exact HN.out.one.c0 | exact cell_keepD HC5.out ((Below.refl _ _).alloc (Nat.le_refl _) _) | exact HC5.out | exact HB6.out.1.c0 | exact HT3.out.c0 | exact HA6.out.1.c0 | exact z0)) (fun hHeld => ?_)
          clear hK K
          try simp only [Act.put, List.setIfInBounds_toArray, List.set_cons_zero, List.set_cons_succ]
          refine wpAnyH_ready (rs := [6]) (by kernel_rfl) (by simp) ?_
          refine AllReadyH.cons (o := ?oim2_7) ?hm2_7 (fun K hK => ?km2_7) ?mm2_7
          case hm2_7 => (simp only [List.getElem?_toArray, List.getElem?_cons_succ, List.getElem?_cons_zero]; rfl)
          case km2_7 =>
            go_simp
            first | (have hN0 := (two2_of (gb := w5.heap.size) HT3.out (HS5.out.keeps ((Keeps.refl w5 []).alloc (.cells #[.int .i64 0, .slice none 0 0] 26)) (by simp) (by simp)) (HK5.out.alloc (.cells #[.int .i64 0, .slice none 0 0] 26)) (HO5.out.alloc (.cells #[.int .i64 0, .slice none 0 0] 26)) (blk_new w5 _) (by omega) (by omega) HA.out); rw [World.setCell_alloc_at _ _ _ _ _ rfl, World.setCell_alloc_at _ _ _ _ _ rfl] at hN0; have HN : Hid (Two2 w (w5.alloc (.cells #[.int .i64 d, .slice A6 ys.length c6] 26)) g A n c bs ga w5.heap.size d xs ys) := Lib.hid hN0; clear hN0) | (have HB6 := Lib.hid (And.intro (HT3.out.alloc (.cells #[.int .i64 0, .slice none 0 0] 26)) (blk_new w3 (.cells #[.int .i64 0, .slice none 0 0] 26)))) | (have HA6 : Hid (TwoAt w (wc.drew.alloc (.cells #[.int .i64 0, .slice none 0 0] 26)) g A n c bs ga d xs ∧ (wc.drew.alloc (.cells #[.int .i64 0, .slice none 0 0] 26)).heap[wc.heap.size]? = some (.cells #[.int .i64 0, .slice none 0 0] 26 (0, 0))) := Lib.hid (And.intro (HB_0.out.alloc (.cells #[.int .i64 0, .slice none 0 0] 26)) (blk_new wc.drew (.cells #[.int .i64 0, .slice none 0 0] 26))))
            refine hK.out _ _ (by (first | exact HN.out.one.c0 | exact cell_keepD HC5.out ((Below.refl _ _).alloc (Nat.le_refl _) _) | exact HC5.out | exact HB6.out.1.c0 | exact HT3.out.c0 | exact HA6.out.1.c0 | exact z0)) (fun hHeld => ?_)
            clear hK K
            try simp only [Act.put, List.setIfInBounds_toArray, List.set_cons_zero, List.set_cons_succ]
            refine wpAnyH_ready (rs := [7]) (by kernel_rfl) (by simp) ?_
            refine AllReadyH.cons (o := ?oim2_8) ?hm2_8 (fun K hK => ?km2_8) ?mm2_8
            case hm2_8 => (simp only [List.getElem?_toArray, List.getElem?_cons_succ, List.getElem?_cons_zero]; rfl)
            case km2_8 =>
              go_simp
              refine hK.out _ _ (by (first | exact HN.out.one.c0 | exact cell_keepD HC5.out ((Below.refl _ _).alloc (Nat.le_refl _) _) | exact HC5.out | exact HB6.out.1.c0 | exact HT3.out.c0 | exact HA6.out.1.c0 | exact z0)) (fun hHeld => ?_)
              clear hK K
              try simp only [Act.put, List.setIfInBounds_toArray, List.set_cons_zero, List.set_cons_succ]
              refine wpAnyH_done (by kernel_rfl) ?_ _
              go_wp2_with fail
              go_meet
              exact ⟨_, _, rfl, HN.out, by omega⟩
            exact AllReadyH.nil
          exact AllReadyH.nil
        refine AllReadyH.cons (o := ?oim2_9) ?hm2_9 (fun K hK => ?km2_9) ?mm2_9
        case hm2_9 => (simp only [List.getElem?_toArray, List.getElem?_cons_succ, List.getElem?_cons_zero]; rfl)
        case km2_9 =>
          go_simp
          first | (have hN0 := (two2_of (gb := w5.heap.size) HT3.out (HS5.out.keeps ((Keeps.refl w5 []).alloc (.cells #[.int .i64 0, .slice none 0 0] 26)) (by simp) (by simp)) (HK5.out.alloc (.cells #[.int .i64 0, .slice none 0 0] 26)) (HO5.out.alloc (.cells #[.int .i64 0, .slice none 0 0] 26)) (blk_new w5 _) (by omega) (by omega) HA.out); rw [World.setCell_alloc_at _ _ _ _ _ rfl, World.setCell_alloc_at _ _ _ _ _ rfl] at hN0; have HN : Hid (Two2 w (w5.alloc (.cells #[.int .i64 d, .slice A6 ys.length c6] 26)) g A n c bs ga w5.heap.size d xs ys) := Lib.hid hN0; clear hN0) | (have HB6 := Lib.hid (And.intro (HT3.out.alloc (.cells #[.int .i64 0, .slice none 0 0] 26)) (blk_new w3 (.cells #[.int .i64 0, .slice none 0 0] 26)))) | (have HA6 : Hid (TwoAt w (wc.drew.alloc (.cells #[.int .i64 0, .slice none 0 0] 26)) g A n c bs ga d xs ∧ (wc.drew.alloc (.cells #[.int .i64 0, .slice none 0 0] 26)).heap[wc.heap.size]? = some (.cells #[.int .i64 0, .slice none 0 0] 26 (0, 0))) := Lib.hid (And.intro (HB_0.out.alloc (.cells #[.int .i64 0, .slice none 0 0] 26)) (blk_new wc.drew (.cells #[.int .i64 0, .slice none 0 0] 26))))
          refine hK.out _ _ (by (first | exact HN.out.one.c0 | exact cell_keepD HC5.out ((Below.refl _ _).alloc (Nat.le_refl _) _) | exact HC5.out | exact HB6.out.1.c0 | exact HT3.out.c0 | exact HA6.out.1.c0 | exact z0)) (fun hHeld => ?_)
          clear hK K
          try simp only [Act.put, List.setIfInBounds_toArray, List.set_cons_zero, List.set_cons_succ]
          refine wpAnyH_ready (rs := [5]) (by kernel_rfl) (by simp) ?_
          refine AllReadyH.cons (o := ?oim2_10) ?hm2_10 (fun K hK => ?km2_10) ?mm2_10
          case hm2_10 => (simp only [List.getElem?_toArray, List.getElem?_cons_succ, List.getElem?_cons_zero]; rfl)
          case km2_10 =>
            go_simp
            (go_at_call 80); (first | refine (with_any g A n c bs q d (by omega) (by omega) _ HB6.out.1.src (fun a ha => by have := HA.out a ha; simp; omega)).mono ?_ | refine (with_any g A n c bs q d (by omega) (by omega) _ HT3.out.src (fun a ha => by have := HA.out a ha; omega)).mono ?_); rintro e w5 ⟨vb, ys, rfl, ho5, hyl, hs5, hk5⟩; replace hyl := Nat.le_of_eq hyl; obtain ⟨A6, c6, rfl, _, _, _⟩ := owns_shape ho5; have hsz5 := hk5.size; (try simp at hsz5); (first | (have HG5 := Lib.hid (HB6.out.1.src.zero_keep hk5 HB6.out.2); have HN := Lib.hid (two2_of (gb := w3.heap.size) HB6.out.1 hs5 hk5 ho5 HG5.out (by omega) (by omega) HA.out); have HC5 := Lib.hid (HB6.out.1.step hs5 hk5).c0; obtain ⟨p0, p1, pf0, pf1, pl⟩ := blk2cells HG5.out) | (have HG5 := Lib.hid (HT3.out.src.zero_keep hk5 HG3.out); have HN := Lib.hid (two2_of (gb := wc.heap.size) HT3.out hs5 hk5 ho5 HG5.out (by omega) (by omega) HA.out); have HC5 := Lib.hid (HT3.out.step hs5 hk5).c0; obtain ⟨p0, p1, pf0, pf1, pl⟩ := blk2cells HG5.out) | (have HC5 := Lib.hid (HT3.out.step hs5 hk5).c0; have HS5 := Lib.hid hs5; have HK5 := Lib.hid hk5; have HO5 := Lib.hid ho5)); clear hs5 hk5 ho5
            refine hK.out _ _ (by (first | exact HN.out.one.c0 | exact cell_keepD HC5.out ((Below.refl _ _).alloc (Nat.le_refl _) _) | exact HC5.out | exact HB6.out.1.c0 | exact HT3.out.c0 | exact HA6.out.1.c0 | exact z0)) (fun hHeld => ?_)
            clear hK K
            try simp only [Act.put, List.setIfInBounds_toArray, List.set_cons_zero, List.set_cons_succ]
            refine wpAnyH_ready (rs := [7]) (by kernel_rfl) (by simp) ?_
            refine AllReadyH.cons (o := ?oim2_11) ?hm2_11 (fun K hK => ?km2_11) ?mm2_11
            case hm2_11 => (simp only [List.getElem?_toArray, List.getElem?_cons_succ, List.getElem?_cons_zero]; rfl)
            case km2_11 =>
              go_simp
              refine hK.out _ _ (by (first | exact HN.out.one.c0 | exact cell_keepD HC5.out ((Below.refl _ _).alloc (Nat.le_refl _) _) | exact HC5.out | exact HB6.out.1.c0 | exact HT3.out.c0 | exact HA6.out.1.c0 | exact z0)) (fun hHeld => ?_)
              clear hK K
              try simp only [Act.put, List.setIfInBounds_toArray, List.set_cons_zero, List.set_cons_succ]
              refine wpAnyH_done (by kernel_rfl) ?_ _
              go_wp2_with fail
              go_meet
              exact ⟨_, _, rfl, HN.out, by omega⟩
            exact AllReadyH.nil
          exact AllReadyH.nil
        exact AllReadyH.nil
      refine AllReadyH.cons (o := ?oim2_12) ?hm2_12 (fun K hK => ?km2_12) ?mm2_12
      case hm2_12 => (simp only [List.getElem?_toArray, List.getElem?_cons_succ, List.getElem?_cons_zero]; rfl)
      case km2_12 =>
        go_simp
        first | (have hN0 := (two2_of (gb := w5.heap.size) HT3.out (HS5.out.keeps ((Keeps.refl w5 []).alloc (.cells #[.int .i64 0, .slice none 0 0] 26)) (by simp) (by simp)) (HK5.out.alloc (.cells #[.int .i64 0, .slice none 0 0] 26)) (HO5.out.alloc (.cells #[.int .i64 0, .slice none 0 0] 26)) (blk_new w5 _) (by omega) (by omega) HA.out); rw [World.setCell_alloc_at _ _ _ _ _ rfl, World.setCell_alloc_at _ _ _ _ _ rfl] at hN0; have HN : Hid (Two2 w (w5.alloc (.cells #[.int .i64 d, .slice A6 ys.length c6] 26)) g A n c bs ga w5.heap.size d xs ys) := Lib.hid hN0; clear hN0) | (have HB6 := Lib.hid (And.intro (HT3.out.alloc (.cells #[.int .i64 0, .slice none 0 0] 26)) (blk_new w3 (.cells #[.int .i64 0, .slice none 0 0] 26)))) | (have HA6 : Hid (TwoAt w (wc.drew.alloc (.cells #[.int .i64 0, .slice none 0 0] 26)) g A n c bs ga d xs ∧ (wc.drew.alloc (.cells #[.int .i64 0, .slice none 0 0] 26)).heap[wc.heap.size]? = some (.cells #[.int .i64 0, .slice none 0 0] 26 (0, 0))) := Lib.hid (And.intro (HB_0.out.alloc (.cells #[.int .i64 0, .slice none 0 0] 26)) (blk_new wc.drew (.cells #[.int .i64 0, .slice none 0 0] 26))))
        refine hK.out _ _ (by (first | exact HN.out.one.c0 | exact cell_keepD HC5.out ((Below.refl _ _).alloc (Nat.le_refl _) _) | exact HC5.out | exact HB6.out.1.c0 | exact HT3.out.c0 | exact HA6.out.1.c0 | exact z0)) (fun hHeld => ?_)
        clear hK K
        try simp only [Act.put, List.setIfInBounds_toArray, List.set_cons_zero, List.set_cons_succ]
        refine wpAnyH_ready (rs := [2]) (by kernel_rfl) (by simp) ?_
        refine AllReadyH.cons (o := ?oim2_13) ?hm2_13 (fun K hK => ?km2_13) ?mm2_13
        case hm2_13 => (simp only [List.getElem?_toArray, List.getElem?_cons_succ, List.getElem?_cons_zero]; rfl)
        case km2_13 =>
          go_simp
          (go_at_call 72); (first | refine (next_any g A n c bs 9 (by omega) _ HA6.out.1.src).mono ?_ | refine (next_any g A n c bs 9 (by omega) _ HB_0.out.src).mono ?_); rintro e w3 ⟨x, rfl, hx0, hx1, _, hs3, hk3⟩; obtain ⟨q, rfl⟩ := Int.eq_ofNat_of_zero_le hx0; have hq9 := hx1 (by omega); (first | (have HT3 := Lib.hid (HA6.out.1.step hs3 hk3); have HG3 := Lib.hid (HA6.out.1.src.zero_keep hk3 HA6.out.2); have hsz3 := hk3.size; simp at hsz3) | (have HT3 := Lib.hid (HB_0.out.step hs3 hk3); have hsz3 : wc.heap.size ≤ w3.heap.size := hk3.size)); have hgl3 := HT3.out.galt; clear hs3 hk3 hx0 hx1
          refine hK.out _ _ (by (first | exact HN.out.one.c0 | exact cell_keepD HC5.out ((Below.refl _ _).alloc (Nat.le_refl _) _) | exact HC5.out | exact HB6.out.1.c0 | exact HT3.out.c0 | exact HA6.out.1.c0 | exact z0)) (fun hHeld => ?_)
          clear hK K
          try simp only [Act.put, List.setIfInBounds_toArray, List.set_cons_zero, List.set_cons_succ]
          refine wpAnyH_ready (rs := [5]) (by kernel_rfl) (by simp) ?_
          refine AllReadyH.cons (o := ?oim2_14) ?hm2_14 (fun K hK => ?km2_14) ?mm2_14
          case hm2_14 => (simp only [List.getElem?_toArray, List.getElem?_cons_succ, List.getElem?_cons_zero]; rfl)
          case km2_14 =>
            go_simp
            (go_at_call 80); (first | refine (with_any g A n c bs q d (by omega) (by omega) _ HB6.out.1.src (fun a ha => by have := HA.out a ha; simp; omega)).mono ?_ | refine (with_any g A n c bs q d (by omega) (by omega) _ HT3.out.src (fun a ha => by have := HA.out a ha; omega)).mono ?_); rintro e w5 ⟨vb, ys, rfl, ho5, hyl, hs5, hk5⟩; replace hyl := Nat.le_of_eq hyl; obtain ⟨A6, c6, rfl, _, _, _⟩ := owns_shape ho5; have hsz5 := hk5.size; (try simp at hsz5); (first | (have HG5 := Lib.hid (HB6.out.1.src.zero_keep hk5 HB6.out.2); have HN := Lib.hid (two2_of (gb := w3.heap.size) HB6.out.1 hs5 hk5 ho5 HG5.out (by omega) (by omega) HA.out); have HC5 := Lib.hid (HB6.out.1.step hs5 hk5).c0; obtain ⟨p0, p1, pf0, pf1, pl⟩ := blk2cells HG5.out) | (have HG5 := Lib.hid (HT3.out.src.zero_keep hk5 HG3.out); have HN := Lib.hid (two2_of (gb := wc.heap.size) HT3.out hs5 hk5 ho5 HG5.out (by omega) (by omega) HA.out); have HC5 := Lib.hid (HT3.out.step hs5 hk5).c0; obtain ⟨p0, p1, pf0, pf1, pl⟩ := blk2cells HG5.out) | (have HC5 := Lib.hid (HT3.out.step hs5 hk5).c0; have HS5 := Lib.hid hs5; have HK5 := Lib.hid hk5; have HO5 := Lib.hid ho5)); clear hs5 hk5 ho5
            refine hK.out _ _ (by (first | exact HN.out.one.c0 | exact cell_keepD HC5.out ((Below.refl _ _).alloc (Nat.le_refl _) _) | exact HC5.out | exact HB6.out.1.c0 | exact HT3.out.c0 | exact HA6.out.1.c0 | exact z0)) (fun hHeld => ?_)
            clear hK K
            try simp only [Act.put, List.setIfInBounds_toArray, List.set_cons_zero, List.set_cons_succ]
            refine wpAnyH_ready (rs := [7]) (by kernel_rfl) (by simp) ?_
            refine AllReadyH.cons (o := ?oim2_15) ?hm2_15 (fun K hK => ?km2_15) ?mm2_15
            case hm2_15 => (simp only [List.getElem?_toArray, List.getElem?_cons_succ, List.getElem?_cons_zero]; rfl)
            case km2_15 =>
              go_simp
              refine hK.out _ _ (by (first | exact HN.out.one.c0 | exact cell_keepD HC5.out ((Below.refl _ _).alloc (Nat.le_refl _) _) | exact HC5.out | exact HB6.out.1.c0 | exact HT3.out.c0 | exact HA6.out.1.c0 | exact z0)) (fun hHeld => ?_)
              clear hK K
              try simp only [Act.put, List.setIfInBounds_toArray, List.set_cons_zero, List.set_cons_succ]
              refine wpAnyH_done (by kernel_rfl) ?_ _
              go_wp2_with fail
              go_meet
              exact ⟨_, _, rfl, HN.out, by omega⟩
            exact AllReadyH.nil
          exact AllReadyH.nil
        exact AllReadyH.nil
      exact AllReadyH.nil
    case rest =>
    clear HB_0 z0 hgl5 HTC
    obtain ⟨gb, ys, rfl, h2, hyl⟩ := hcut
    have H2 := Lib.hid h2
    have hb0 := h2.one.bel.size
    clear h2
    go_upto_region 6 with (fail)
    go_cut [36] (fun o36 wx => Two2 w wx g A n c bs ga gb d xs ys ∧ (o36 = .bool false ∨ (o36 = .bool true ∧ ∃ x0 xt, xs = x0 :: xt)))
    case first =>
      obtain ⟨va, vb, ha, oa, hb, ob, hne⟩ := H2.out.two
      obtain ⟨A5, c5, rfl, _, _, _⟩ := owns_shape oa
      obtain ⟨z0, z1, zf0, zf1, zl⟩ := blk2cells ha
      clear ha oa hb ob hne
      cases xs with
      | nil =>
        go_wp2_with fail
        go_meet
        exact ⟨H2.out, .inl rfl⟩
      | cons x0 xt =>
        have hlen : (0 : Int) < ((xt.length + 1 : Nat) : Int) := by omega
        simp only [List.length_cons] at z1
        go_wp2_with fail
        refine (next_any g A n c bs 2 (by omega) _ H2.out.one.src).mono ?_
        rintro e w6 ⟨x, rfl, _, _, _, hs6, hk6⟩
        have H6 := Lib.hid (H2.out.step hs6 hk6)
        clear hs6 hk6 z0 z1 zf0 zf1 zl
        by_cases hx : x = 0
        · subst hx
          go_wp2_with fail
          go_meet
          exact ⟨H6.out, .inr ⟨rfl, _, _, rfl⟩⟩
        · have hxb : (x == 0) = false := by simpa using hx
          clear hx
          go_wp2_with fail
          go_meet
          exact ⟨H6.out, .inl rfl⟩
    case rest =>
    clear H2
    obtain ⟨h6, ho36⟩ := hcut
    have H6 := Lib.hid h6
    clear h6
    generalize wc = w6 at *
    go_upto_if 36 with (fail)
    go_cut [] (fun wx => ∃ ys, Two2 w wx g A n c bs ga gb d xs ys ∧ ys.length ≤ 10)
    case first =>
      rcases ho36 with rfl | ⟨rfl, x0, xt, rfl⟩
      · go_wp2_with fail
        go_meet
        exact ⟨ys, H6.out, by omega⟩
      · obtain ⟨va, vb, ha, oa, hb, ob, hne⟩ := H6.out.two
        obtain ⟨A5, c5, rfl, _, hA5, _⟩ := owns_shape oa
        obtain ⟨g5, rfl, hg5, _⟩ := hA5 (by simp)
        obtain ⟨A6, c6, rfl, _, _, _⟩ := owns_shape ob
        obtain ⟨z0, z1, zf0, zf1, zl⟩ := blk2cells ha
        obtain ⟨y0, y1, yf0, yf1, yl⟩ := blk2cells hb
        simp only [List.length_cons] at z1
        have x1 : w6.cell? ⟨g5, 0, none⟩ = some (.int .i64 x0) := by
          rcases owns_Rd oa with h | ⟨b, o, e, h⟩
          · simp [iv] at h
          · injection e with e
            injection e with e1 e2
            subst e1 e2
            simpa using h 0 _ rfl
        have H6d := Lib.hid (H6.out.step (H6.out.one.src.keeps ((Keeps.refl w6 []).drew) (by simp) (by simp)) ((Keeps.refl w6 [some g]).drew))
        have BA := Lib.hid ha
        have OA := Lib.hid oa
        have BB := Lib.hid hb
        have OB := Lib.hid ob
        have HNE := Lib.hid hne
        have hq : ys.length < 1099511627776 := by omega
        have hb6 := H6.out.one.bel.size
        have hga2 := H6.out.one.ga2
        have hb62 : w.heap.size + 2 ≤ w6.heap.size := by have := H6.out.one.galt; omega
        clear ha oa hb ob hne
        go_wp2_with fail
        refine wp_region_K (S := (fun w' => w'.cell? ⟨ga, 1, none⟩ = some (.slice (some ⟨g5, 0, none⟩) (xt.length + 1) c5) ∧ w'.cell? ⟨gb, 1, none⟩ = some (.slice A6 ys.length c6) ∧ w'.cell? ⟨g5, 0, none⟩ = some (.int .i64 x0))) 8 (by kernel_rfl) (by (first | exact ⟨z1, y1, x1⟩ | exact ⟨cell_keepD (w := w6.drew) z1 ((Below.refl _ _).alloc (Nat.le_refl _) _), cell_keepD (w := w6.drew) y1 ((Below.refl _ _).alloc (Nat.le_refl _) _), cell_keepD (w := w6.drew) x1 ((Below.refl _ _).alloc (Nat.le_refl _) _)⟩ | exact P7.out)) (fun hHeld => ?_)
        refine wpAnyK_take (i := 0) (oi := ?oik3_1) (v := ?vk3_1) ?hk3_1 (by kernel_rfl) (by kernel_rfl) (by kernel_rfl) (by kernel_rfl) ?qk3_1 (Or.inl ⟨?wk3_1, ?yk3_1⟩) (by assumption) ?rk3_1
        case hk3_1 => (simp only [List.getElem?_toArray, List.getElem?_cons_succ, List.getElem?_cons_zero]; rfl)
        case qk3_1 => exact fun _ _ _ h => h
        case wk3_1 => rfl
        case yk3_1 => (intro w hSw; (try dsimp only at hSw); go_simp <;> with_reducible rfl)
        try simp only [Act.put, List.setIfInBounds_toArray, List.set_cons_zero, List.set_cons_succ]
        refine wpAnyK_take (i := 1) (oi := ?oik3_2) (v := ?vk3_2) ?hk3_2 (by kernel_rfl) (by kernel_rfl) (by kernel_rfl) (by kernel_rfl) ?qk3_2 (Or.inl ⟨?wk3_2, ?yk3_2⟩) (by assumption) ?rk3_2
        case hk3_2 => (simp only [List.getElem?_toArray, List.getElem?_cons_succ, List.getElem?_cons_zero]; rfl)
        case qk3_2 => exact fun _ _ _ h => h
        case wk3_2 => rfl
        case yk3_2 => (intro w hSw; (try dsimp only at hSw); go_simp <;> with_reducible rfl)
        try simp only [Act.put, List.setIfInBounds_toArray, List.set_cons_zero, List.set_cons_succ]
        refine wpAnyK_take (i := 2) (oi := ?oik3_3) (v := ?vk3_3) ?hk3_3 (by kernel_rfl) (by kernel_rfl) (by kernel_rfl) (by kernel_rfl) ?qk3_3 (Or.inl ⟨?wk3_3, ?yk3_3⟩) (by assumption) ?rk3_3
        case hk3_3 => (simp only [List.getElem?_toArray, List.getElem?_cons_succ, List.getElem?_cons_zero]; rfl)
        case qk3_3 => exact fun _ _ _ h => h
        case wk3_3 => rfl
        case yk3_3 => (intro w hSw; (try dsimp only at hSw); go_simp <;> with_reducible rfl)
        try simp only [Act.put, List.setIfInBounds_toArray, List.set_cons_zero, List.set_cons_succ]
        refine wpAnyK_take (i := 3) (oi := ?oik3_4) (v := ?vk3_4) ?hk3_4 (by kernel_rfl) (by kernel_rfl) (by kernel_rfl) (by kernel_rfl) ?qk3_4 (Or.inl ⟨?wk3_4, ?yk3_4⟩) (by assumption) ?rk3_4
        case hk3_4 => (simp only [List.getElem?_toArray, List.getElem?_cons_succ, List.getElem?_cons_zero]; rfl)
        case qk3_4 => exact fun _ _ _ h => h
        case wk3_4 => rfl
        case yk3_4 => (intro w hSw; (try dsimp only at hSw); go_simp <;> with_reducible rfl)
        try simp only [Act.put, List.setIfInBounds_toArray, List.set_cons_zero, List.set_cons_succ]
        refine wpAnyK_take (i := 4) (oi := ?oik3_5) (v := ?vk3_5) ?hk3_5 (by kernel_rfl) (by kernel_rfl) (by kernel_rfl) (by kernel_rfl) ?qk3_5 (Or.inl ⟨?wk3_5, ?yk3_5⟩) (by assumption) ?rk3_5
        case hk3_5 => (simp only [List.getElem?_toArray, List.getElem?_cons_succ, List.getElem?_cons_zero]; rfl)
        case qk3_5 => exact fun _ _ _ h => h
        case wk3_5 => rfl
        case yk3_5 => (intro w hSw; (try dsimp only at hSw); go_simp <;> with_reducible rfl)
        try simp only [Act.put, List.setIfInBounds_toArray, List.set_cons_zero, List.set_cons_succ]
        refine wpAnyK_take (i := 5) (oi := ?oik3_6) (v := ?vk3_6) ?hk3_6 (by kernel_rfl) (by kernel_rfl) (by kernel_rfl) (by kernel_rfl) ?qk3_6 (Or.inl ⟨?wk3_6, ?yk3_6⟩) (by assumption) ?rk3_6
        case hk3_6 => (simp only [List.getElem?_toArray, List.getElem?_cons_succ, List.getElem?_cons_zero]; rfl)
        case qk3_6 => exact fun _ _ _ h => h
        case wk3_6 => rfl
        case yk3_6 => (intro w hSw; (try dsimp only at hSw); go_simp <;> with_reducible rfl)
        try simp only [Act.put, List.setIfInBounds_toArray, List.set_cons_zero, List.set_cons_succ]
        refine wpAnyK_ready (rs := [6]) (by kernel_rfl) (by simp) ?_
        refine AllReadyK.cons (o := ?oik3_7) ?hk3_7 (fun K hK => ?kk3_7) ?mk3_7
        case hk3_7 => (simp only [List.getElem?_toArray, List.getElem?_cons_succ, List.getElem?_cons_zero]; rfl)
        case kk3_7 =>
          go_simp
          refine hK.out _ _ (by (first | exact ⟨z1, y1, x1⟩ | exact ⟨cell_keepD (w := w6.drew) z1 ((Below.refl _ _).alloc (Nat.le_refl _) _), cell_keepD (w := w6.drew) y1 ((Below.refl _ _).alloc (Nat.le_refl _) _), cell_keepD (w := w6.drew) x1 ((Below.refl _ _).alloc (Nat.le_refl _) _)⟩ | exact P7.out)) (fun hHeld => ?_)
          clear hK K
          try simp only [Act.put, List.setIfInBounds_toArray, List.set_cons_zero, List.set_cons_succ]
          refine wpAnyK_ready (rs := [7]) (by kernel_rfl) (by simp) ?_
          refine AllReadyK.cons (o := ?oik3_8) ?hk3_8 (fun K hK => ?kk3_8) ?mk3_8
          case hk3_8 => (simp only [List.getElem?_toArray, List.getElem?_cons_succ, List.getElem?_cons_zero]; rfl)
          case kk3_8 =>
            (refine step_app1 _ _ _ _ _ etI (by rfl) (by rfl) (w.heap.size + 2) (.slice A6 ys.length c6) ys.length (iv ys) (by rfl) ?_ _ (.int .i64 x0) (by rfl) ?_ (by rfl) ?_ ?_ ?_; exact OB.out.drew.alloc _; exact new_cell _ _ _; exact hq; (simp; omega); (intro g2 cap2 w7 hown2 hg2 hat2 hlt2; have HN := Lib.hid (Two2.app H6d.out HA.out BA.out OA.out.drew BB.out OB.out.drew HNE.out hown2 hg2 (hat2.elim (fun e => .inl e.symm) (fun e => .inr (by rw [e]; simp)))); have P7 := Lib.hid (And.intro (grown_cell (cell_keepD (w := w6.drew) z1 ((Below.refl _ _).alloc (Nat.le_refl _) (.cells #[.int .i64 x0] 2))) hg2 (own_ne OB.out BA.out (by decide))) (And.intro (grown_cell (cell_keepD (w := w6.drew) y1 ((Below.refl _ _).alloc (Nat.le_refl _) (.cells #[.int .i64 x0] 2))) hg2 (own_ne OB.out BB.out (by decide))) (grown_cell (cell_keepD (w := w6.drew) x1 ((Below.refl _ _).alloc (Nat.le_refl _) (.cells #[.int .i64 x0] 2))) hg2 (fun e => HNE.out.elim (fun e0 => by rw [e0] at e; cases e) (fun e0 => e0 (e.trans rfl)))))); have hb4 := blk2cells (blk_grown (w := (w6.alloc (.cells #[.int .i64 x0] 2)).drew) (blk_alloc BB.out (.cells #[.int .i64 x0] 2)) hg2 (own_ne OB.out BB.out (by decide))); obtain ⟨p0, p1, pf0, pf1, pl⟩ := hb4; clear hown2 hg2 hat2 hlt2))
            refine hK.out _ _ (by (first | exact ⟨z1, y1, x1⟩ | exact ⟨cell_keepD (w := w6.drew) z1 ((Below.refl _ _).alloc (Nat.le_refl _) _), cell_keepD (w := w6.drew) y1 ((Below.refl _ _).alloc (Nat.le_refl _) _), cell_keepD (w := w6.drew) x1 ((Below.refl _ _).alloc (Nat.le_refl _) _)⟩ | exact P7.out)) (fun hHeld => ?_)
            clear hK K
            try simp only [Act.put, List.setIfInBounds_toArray, List.set_cons_zero, List.set_cons_succ]
            refine wpAnyK_ready (rs := [8]) (by kernel_rfl) (by simp) ?_
            refine AllReadyK.fin (o := ?oik3_9) (by decide) ?hk3_9 (fun K hK => ?kk3_9) ?mk3_9
            case hk3_9 => (simp only [List.getElem?_toArray, List.getElem?_cons_succ, List.getElem?_cons_zero]; rfl)
            case kk3_9 =>
              go_simp
              refine hK.out _ _ ?_
              clear hK K
              try simp only [Act.put, List.setIfInBounds_toArray, List.set_cons_zero, List.set_cons_succ]
              refine wpAnyK_ready (rs := [9]) (by kernel_rfl) (by simp) ?_
              refine AllReadyK.fin (o := ?oik3_10) (by decide) ?hk3_10 (fun K hK => ?kk3_10) ?mk3_10
              case hk3_10 => (simp only [List.getElem?_toArray, List.getElem?_cons_succ, List.getElem?_cons_zero]; rfl)
              case kk3_10 =>
                go_simp
                refine hK.out _ _ ?_
                clear hK K
                try simp only [Act.put, List.setIfInBounds_toArray, List.set_cons_zero, List.set_cons_succ]
                refine wpAnyK_done (by kernel_rfl) ?_ _
                go_wp2_with fail
                go_meet
                exact ⟨_, HN.out, by simp; omega⟩
              exact AllReadyK.nil
            exact AllReadyK.nil
          exact AllReadyK.nil
        exact AllReadyK.nil
    case rest =>
    obtain ⟨zs, h8, hzl⟩ := hcut
    have H8 := Lib.hid h8
    obtain ⟨va, vb, ha, oa, hb, ob, hne⟩ := h8.two
    obtain ⟨A5, c5, rfl, _, _, _⟩ := owns_shape oa
    obtain ⟨A6, c6, rfl, _, _, _⟩ := owns_shape ob
    obtain ⟨z0, z1, zf0, zf1, zl⟩ := blk2cells ha
    obtain ⟨y0, y1, yf0, yf1, yl⟩ := blk2cells hb
    obtain ⟨p0, p1, pf0, pf1, pl⟩ := blk2cells h8.one.b2
    obtain ⟨q0, q1, qf0, qf1, ql⟩ := blk2cells h8.one.b3
    have OA := Lib.hid oa
    have OB := Lib.hid ob
    have hga2 := h8.one.ga2
    have hgb2 := h8.gb2
    clear h8 ha hb oa ob hne H6
    go_wp2_with fail
    refine wp_region_held_drew (S := (fun w' => (w'.cell? ⟨ga, 0, none⟩ = some (.int .i64 d) ∧ w'.cell? ⟨ga, 1, none⟩ = some (.slice A5 xs.length c5)) ∧ (w'.cell? ⟨gb, 0, none⟩ = some (.int .i64 d) ∧ w'.cell? ⟨gb, 1, none⟩ = some (.slice A6 zs.length c6)))) (by kernel_rfl) (by (first | exact ⟨⟨z0, z1⟩, ⟨y0, y1⟩⟩ | exact ⟨⟨cell_set (cell_set z0 (by simp; omega)) (by simp; omega), cell_set (cell_set z1 (by simp; omega)) (by simp; omega)⟩, ⟨cell_set (cell_set y0 (by simp; omega)) (by simp; omega), cell_set (cell_set y1 (by simp; omega)) (by simp; omega)⟩⟩ | exact ⟨⟨cell_set (cell_set (cell_set (cell_set z0 (by simp; omega)) (by simp; omega)) (by simp; omega)) (by simp; omega), cell_set (cell_set (cell_set (cell_set z1 (by simp; omega)) (by simp; omega)) (by simp; omega)) (by simp; omega)⟩, ⟨cell_set (cell_set (cell_set (cell_set y0 (by simp; omega)) (by simp; omega)) (by simp; omega)) (by simp; omega), cell_set (cell_set (cell_set (cell_set y1 (by simp; omega)) (by simp; omega)) (by simp; omega)) (by simp; omega)⟩⟩)) (fun hHeld => ?_)
    refine wpAnyH_take (i := 0) (oi := ?oim4_1) (v := ?vm4_1) ?hm4_1 (by kernel_rfl) (by kernel_rfl) (by kernel_rfl) ?qm4_1 (Or.inl ⟨?wm4_1, ?ym4_1⟩) (by assumption) ?rm4_1
    case hm4_1 => (simp only [List.getElem?_toArray, List.getElem?_cons_succ, List.getElem?_cons_zero]; rfl)
    case qm4_1 => exact fun _ _ _ h => h
    case wm4_1 => rfl
    case ym4_1 => (intro w hSw; (try dsimp only at hSw); go_simp <;> with_reducible rfl)
    try simp only [Act.put, List.setIfInBounds_toArray, List.set_cons_zero, List.set_cons_succ]
    refine wpAnyH_take (i := 1) (oi := ?oim4_2) (v := ?vm4_2) ?hm4_2 (by kernel_rfl) (by kernel_rfl) (by kernel_rfl) ?qm4_2 (Or.inl ⟨?wm4_2, ?ym4_2⟩) (by assumption) ?rm4_2
    case hm4_2 => (simp only [List.getElem?_toArray, List.getElem?_cons_succ, List.getElem?_cons_zero]; rfl)
    case qm4_2 => exact fun _ _ _ h => h
    case wm4_2 => rfl
    case ym4_2 => (intro w hSw; (try dsimp only at hSw); go_simp <;> with_reducible rfl)
    try simp only [Act.put, List.setIfInBounds_toArray, List.set_cons_zero, List.set_cons_succ]
    refine wpAnyH_ready (rs := [2]) (by kernel_rfl) (by simp) ?_
    refine AllReadyH.cons (o := ?oim4_3) ?hm4_3 (fun K hK => ?km4_3) ?mm4_3
    case hm4_3 => (simp only [List.getElem?_toArray, List.getElem?_cons_succ, List.getElem?_cons_zero]; rfl)
    case km4_3 =>
      go_simp
      refine hK.out _ _ (by (first | exact ⟨⟨z0, z1⟩, ⟨y0, y1⟩⟩ | exact ⟨⟨cell_set (cell_set z0 (by simp; omega)) (by simp; omega), cell_set (cell_set z1 (by simp; omega)) (by simp; omega)⟩, ⟨cell_set (cell_set y0 (by simp; omega)) (by simp; omega), cell_set (cell_set y1 (by simp; omega)) (by simp; omega)⟩⟩ | exact ⟨⟨cell_set (cell_set (cell_set (cell_set z0 (by simp; omega)) (by simp; omega)) (by simp; omega)) (by simp; omega), cell_set (cell_set (cell_set (cell_set z1 (by simp; omega)) (by simp; omega)) (by simp; omega)) (by simp; omega)⟩, ⟨cell_set (cell_set (cell_set (cell_set y0 (by simp; omega)) (by simp; omega)) (by simp; omega)) (by simp; omega), cell_set (cell_set (cell_set (cell_set y1 (by simp; omega)) (by simp; omega)) (by simp; omega)) (by simp; omega)⟩⟩)) (fun hHeld => ?_)
      clear hK K
      try simp only [Act.put, List.setIfInBounds_toArray, List.set_cons_zero, List.set_cons_succ]
      refine wpAnyH_ready (rs := [3]) (by kernel_rfl) (by simp) ?_
      refine AllReadyH.cons (o := ?oim4_4) ?hm4_4 (fun K hK => ?km4_4) ?mm4_4
      case hm4_4 => (simp only [List.getElem?_toArray, List.getElem?_cons_succ, List.getElem?_cons_zero]; rfl)
      case km4_4 =>
        go_simp
        refine hK.out _ _ (by (first | exact ⟨⟨z0, z1⟩, ⟨y0, y1⟩⟩ | exact ⟨⟨cell_set (cell_set z0 (by simp; omega)) (by simp; omega), cell_set (cell_set z1 (by simp; omega)) (by simp; omega)⟩, ⟨cell_set (cell_set y0 (by simp; omega)) (by simp; omega), cell_set (cell_set y1 (by simp; omega)) (by simp; omega)⟩⟩ | exact ⟨⟨cell_set (cell_set (cell_set (cell_set z0 (by simp; omega)) (by simp; omega)) (by simp; omega)) (by simp; omega), cell_set (cell_set (cell_set (cell_set z1 (by simp; omega)) (by simp; omega)) (by simp; omega)) (by simp; omega)⟩, ⟨cell_set (cell_set (cell_set (cell_set y0 (by simp; omega)) (by simp; omega)) (by simp; omega)) (by simp; omega), cell_set (cell_set (cell_set (cell_set y1 (by simp; omega)) (by simp; omega)) (by simp; omega)) (by simp; omega)⟩⟩)) (fun hHeld => ?_)
        clear hK K
        try simp only [Act.put, List.setIfInBounds_toArray, List.set_cons_zero, List.set_cons_succ]
        refine wpAnyH_done (by kernel_rfl) ?_ _
        go_wp2_with fail
        obtain ⟨f1, f2, f3⟩ := two_end (u1 := .int .i64 d) (u2 := .int .i64 d) H8.out.one.b2 H8.out.one.b3 OA.out OB.out H8.out.one.bel
        refine bodyPost_ret (v := .tuple #[.agg #[.int .i64 d, .slice A5 xs.length c5], .agg #[.int .i64 d, .slice A6 zs.length c6]]) ?_ rfl ⟨d, d, A5, A6, c5, c6, xs, zs, rfl, owns_Rd f1, owns_Rd f2, own_ge f1 (by omega), own_ge f2 (by omega), by omega, by omega, f3.drew⟩
        simp [results, Tryd.results50, go_sem, p0, p1, q0, q1]
      exact AllReadyH.nil
    exact AllReadyH.nil
end Go.Proofs.YtjhlmalpcelbaaaDoor
