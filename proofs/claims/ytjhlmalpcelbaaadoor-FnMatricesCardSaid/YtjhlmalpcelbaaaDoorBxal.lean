/- products of matrices: the program's and the reference's MultiplyMatrices (printed by mkmul.py) · transposes: columns as masks; l02Turn, transposed · transposes: transposed, TransposeOf of both sides · TransposeOf of both sides (printed by mkturn.py) -/
import Derived.Test.YtjhlmalpcelbaaaDoorBxak
import Derived.Test.YtjhlmalpcelbaaaDoorBxag
import Derived.Test.YtjhlmalpcelbaaaDoorBxai
set_option linter.all false
namespace Go.Proofs.YtjhlmalpcelbaaaDoor
open Go.RowKit

/-- what MultiplyMatrices answers -/
def mulOf (c : Int) (xs : List Int) (c' : Int) (ys : List Int) : Int × List Nat × Int :=
  if (isMat c xs && isMat c' ys) = true then (if c = ys.length then (c', (toN xs).map (comb (toN ys) 0), 0) else (0, [], 2)) else (0, [], 1)
theorem own_far {w : World} {B g n : Nat} {e : TypeId} {v : Value} {xs : List Value} (h : w.ownsRow B e 1 v n xs) (hg : g < B) : v.ownBlock ≠ some g := fun e => by
  have := (h.lt g e).1
  omega

set_option maxRecDepth 100000 in
set_option maxHeartbeats 8000000 in
theorem implMul_any (c c' : Int) (A A' : Option Addr) (n n' cap cap' : Nat) (xs ys : List Int) (w : World) (hn : n = xs.length) (hn' : n' = ys.length) (hsm : n ≤ 1099511627776) (hsm' : n' ≤ 1099511627776) (hR : Rd w A (iv xs)) (hR' : Rd w A' (iv ys)) :
    Calls Tryd.prog 31 #[.agg #[.int .i64 c, .slice A n cap], .agg #[.int .i64 c', .slice A' n' cap']] w fun e w' =>
      ∃ v, e = .returned (.tuple #[.agg #[.int .i64 (mulOf c xs c' ys).1, v], .int .i64 (mulOf c xs c' ys).2.2]) ∧ w'.ownsRow w.heap.size 2 1 v (mulOf c xs c' ys).2.1.length (nv (mulOf c xs c' ys).2.1) ∧ Below w.heap.size w w' := by
  have hb1 := blk_alloc (blk_alloc (blk_new w (.cells #[.int .i64 c, .slice A n cap] 26)) (.cells #[.int .i64 c', .slice A' n' cap'] 26)) (.cells #[.int .i64 0, .slice none 0 0] 26)
  have hb2 := blk_alloc (blk_new1 w (.cells #[.int .i64 c, .slice A n cap] 26) (.cells #[.int .i64 c', .slice A' n' cap'] 26)) (.cells #[.int .i64 0, .slice none 0 0] 26)
  have hb3 := blk_new2 w (.cells #[.int .i64 c, .slice A n cap] 26) (.cells #[.int .i64 c', .slice A' n' cap'] 26) (.cells #[.int .i64 0, .slice none 0 0] 26)
  have hbel : Below w.heap.size w (((w.alloc (.cells #[.int .i64 c, .slice A n cap] 26)).alloc (.cells #[.int .i64 c', .slice A' n' cap'] 26)).alloc (.cells #[.int .i64 0, .slice none 0 0] 26)) := (((Below.refl _ _).alloc (Nat.le_refl _) _).alloc (by simp) _).alloc (by simp; omega) _
  have h1 := isMatrix_any c A n cap xs _ hn hsm (hR.below hbel)
  have HK := Lib.hid (three_keep hb1 hb2 hb3)
  have HB := Lib.hid hbel
  have HR := Lib.hid hR
  have HR' := Lib.hid hR'
  have Hn := Lib.hid hn
  have Hn' := Lib.hid hn'
  clear hb1 hb2 hb3 hbel hR hR' hn hn'
  cases hi : isMat c xs with
  | false =>
    rw [hi] at h1
    have HE : Hid (mulOf c xs c' ys = (0, [], 1)) := by show _ = _; simp [mulOf, hi]
    have H1 := Lib.hid h1
    clear h1 hi
    go_enter Tryd.func31, Tryd.ntmps31
    go_wp2_with fail
    refine H1.out.mono ?_
    rintro e w1 ⟨rfl, hb⟩
    obtain ⟨k1, k2, k3⟩ := HK.out _ hb
    obtain ⟨y0, y1, fy0, fy1, _⟩ := blk2cells k3
    have HB1 := Lib.hid (HB.out.trans (hb.mono HB.out.size))
    clear hb k1 k2 k3
    go_wp2_with fail
    refine bodyPost_ret (v := .tuple #[.agg #[.int .i64 0, .slice none 0 0], .int .i64 1]) ?_ rfl ⟨_, by rw [HE.out], by rw [HE.out]; exact World.ownsRow_nil _ _ _ _, ?_⟩
    · simp [results, Tryd.results31, go_sem, y0, y1]
    · exact (HB1.out.setCell (p := ⟨w.heap.size + 2, 0, none⟩) (by simp) _).setCell (p := ⟨w.heap.size + 2, 1, none⟩) (by simp) _
  | true =>
    rw [hi] at h1
    have H1 := Lib.hid h1
    have h2 := fun W (hW : Rd W A' (iv ys)) => isMatrix_any c' A' n' cap' ys W Hn'.out hsm' hW
    clear h1
    cases hj : isMat c' ys with
    | false =>
      rw [hj] at h2
      have HE : Hid (mulOf c xs c' ys = (0, [], 1)) := by show _ = _; simp [mulOf, hi, hj]
      have H2 := Lib.hid h2
      clear h2 hi hj
      go_enter Tryd.func31, Tryd.ntmps31
      go_wp2_with fail
      refine H1.out.mono ?_
      rintro e w1 ⟨rfl, hb⟩
      have HK1 := Lib.hid (three_keep (HK.out _ hb).1 (HK.out _ hb).2.1 (HK.out _ hb).2.2)
      obtain ⟨x0, x1, _, _, _⟩ := blk2cells (HK.out _ hb).2.1
      have HBa := Lib.hid (HB.out.trans (hb.mono HB.out.size))
      clear hb
      go_wp2_with fail
      refine (H2.out _ (HR'.out.below HBa.out)).mono ?_
      rintro e w2 ⟨rfl, hb⟩
      obtain ⟨y0, y1, fy0, fy1, _⟩ := blk2cells (HK1.out _ hb).2.2
      have HB1 := Lib.hid (HBa.out.trans (hb.mono HBa.out.size))
      clear hb x0 x1
      go_wp2_with fail
      refine bodyPost_ret (v := .tuple #[.agg #[.int .i64 0, .slice none 0 0], .int .i64 1]) ?_ rfl ⟨_, by rw [HE.out], by rw [HE.out]; exact World.ownsRow_nil _ _ _ _, ?_⟩
      · simp [results, Tryd.results31, go_sem, y0, y1]
      · exact (HB1.out.setCell (p := ⟨w.heap.size + 2, 0, none⟩) (by simp) _).setCell (p := ⟨w.heap.size + 2, 1, none⟩) (by simp) _
    | true =>
      rw [hj] at h2
      have H2 := Lib.hid h2
      have HSx := Lib.hid (isMat_sm hi)
      have HSy := Lib.hid (isMat_sm hj)
      have HRx : Hid (Rd w A (nv (toN xs))) := by have := HR.out; rw [iv_toN (fun x hx => (isMat_nonneg hi x hx).1)] at this; exact this
      have HRy : Hid (Rd w A' (nv (toN ys))) := by have := HR'.out; rw [iv_toN (fun x hx => (isMat_nonneg hj x hx).1)] at this; exact this
      have Lx := Lib.hid (toN_len xs)
      have Ly := Lib.hid (toN_len ys)
      have hlx := isMat_len hi
      obtain ⟨d, hd, hd60⟩ := isMat_cols hi
      clear h2
      by_cases hc : c = (n' : Int)
      · subst hc
        have HE : Hid (mulOf n' xs c' ys = (c', (toN xs).map (comb (toN ys) 0), 0)) := by show _ = _; unfold mulOf; rw [if_pos (by rw [hi, hj]; rfl), if_pos (by rw [Hn'.out])]
        have hn60 : n' ≤ 60 := by omega
        have hln : n ≤ 200 := by rw [Hn.out]; exact hlx
        clear hi hj hd hd60 hlx
        go_enter Tryd.func31, Tryd.ntmps31
        go_wp2_with fail
        refine H1.out.mono ?_
        rintro e wa ⟨rfl, hb⟩
        have HK1 := Lib.hid (three_keep (HK.out _ hb).1 (HK.out _ hb).2.1 (HK.out _ hb).2.2)
        obtain ⟨x0, x1, _, _, _⟩ := blk2cells (HK.out _ hb).2.1
        have HBa := Lib.hid (HB.out.trans (hb.mono HB.out.size))
        clear hb
        go_wp2_with fail
        refine (H2.out _ (HR'.out.below HBa.out)).mono ?_
        rintro e w1 ⟨rfl, hb⟩
        have HK2 := Lib.hid (three_keep (HK1.out _ hb).1 (HK1.out _ hb).2.1 (HK1.out _ hb).2.2)
        have HB1 := Lib.hid (HBa.out.trans (hb.mono HBa.out.size))
        have hs1 := HB1.out.size
        have hs3 : w.heap.size + 2 < w1.heap.size := (Array.getElem?_eq_some_iff.1 (HK1.out _ hb).2.2).1
        obtain ⟨a0, a1, _, _, _⟩ := blk2cells (HK1.out _ hb).1
        obtain ⟨b0, b1, _, _, _⟩ := blk2cells (HK1.out _ hb).2.1
        clear hb x0 x1
        go_wp2_with fail
        go_loopw [33] (fun i wr => ∃ k : Nat, k ≤ n ∧ i = .int .i64 k ∧ OutAt wr w1.heap.size w1.heap.size c' k (((toN xs).take k).map (comb (toN ys) 0)) ∧ Below w1.heap.size w1 wr) (fun i _ => n - (intOf i).toNat)
        case atStart => exact ⟨0, by omega, rfl, ⟨_, blk_new w1 _, World.ownsRow_nil _ _ _ _⟩, (Below.refl _ _).alloc (Nat.le_refl _) _⟩
        case round =>
          obtain ⟨k, hk, rfl, ⟨v, hbo, hoo⟩, hbel⟩ := hrel
          have hsz : w1.heap.size ≤ wr.heap.size := hbel.size
          obtain ⟨a0, a1, _, _, _⟩ := blk2cells (HK2.out _ hbel).1
          obtain ⟨b0, b1, _, _, _⟩ := blk2cells (HK2.out _ hbel).2.1
          obtain ⟨y0, y1, fy0, fy1, _⟩ := blk2cells (HK2.out _ hbel).2.2
          obtain ⟨z0, z1, fz0, fz1, lz⟩ := blk2cells hbo
          obtain ⟨Av, cv, rfl, _, _, _⟩ := owns_shape hoo
          have HO := Lib.hid hoo
          have HBO := Lib.hid hbo
          have HBR := Lib.hid (HK2.out _ hbel).2.2
          have HBA := Lib.hid (HK2.out _ hbel).1
          have HBB := Lib.hid (HK2.out _ hbel).2.1
          have HBL := Lib.hid hbel
          clear hoo hbo hbel
          by_cases hlt : k < n
          · have hkL : k < (toN xs).length := by rw [Lx.out, ← Hn.out]; exact hlt
            obtain ⟨b, o, rfl, hc⟩ := (HRx.out.below (HB1.out.trans (HBL.out.mono hs1))).atN hkL
            have HC := Lib.hid hc
            have hblt : b < w.heap.size := by
              obtain ⟨b', o', e', hc'⟩ := HRx.out.atN hkL
              injection e' with e'
              injection e' with e1 e2
              rw [e1]
              exact World.block_lt_of_cell? w _ hc'
            have hz : Sm ((toN xs).getD k 0) := HSx.out _ (getD_mem hkL)
            have hti := times_any A' n' cap' (toN ys) ((toN xs).getD k 0) wr.drew (by rw [Ly.out, Hn'.out]) (by omega) hz HSy.out (HRy.out.below (HB1.out.trans (HBL.out.mono hs1)).drew)
            have HP : Hid ((((toN xs).take (k + 1)).map (comb (toN ys) 0)) = ((toN xs).take k).map (comb (toN ys) 0) ++ [comb (toN ys) 0 ((toN xs).getD k 0)]) := Lib.hid (by
              rw [List.take_succ_eq_append_getElem hkL, List.map_append]
              simp [List.getD, hkL])
            have HTI := Lib.hid hti
            clear hti hz
            generalize comb (toN ys) 0 ((toN xs).getD k 0) = yv at *
            generalize (toN xs).getD k 0 = zv at *
            generalize ((toN xs).take k).map (comb (toN ys) 0) = P at *
            go_wp2_with fail
            refine wp_region_K (S := (fun w' => w'.cell? ⟨w1.heap.size, 1, none⟩ = some (.slice Av k cv) ∧ w'.cell? ⟨w.heap.size + 1, 1, none⟩ = some (.slice A' n' cap'))) 8 (by kernel_rfl) (by (first | exact ⟨z1, b1⟩ | exact ⟨cell_keepD (w := wr.drew) z1 ((Below.refl _ _).alloc (Nat.le_refl _) _), cell_keepD (w := wr.drew) b1 ((Below.refl _ _).alloc (Nat.le_refl _) _)⟩ | exact P7.out)) (fun hHeld => ?_)
            refine wpAnyK_take (i := 0) (oi := ?oik1_1) (v := ?vk1_1) ?hk1_1 (by kernel_rfl) (by kernel_rfl) (by kernel_rfl) (by kernel_rfl) ?qk1_1 (Or.inl ⟨?wk1_1, ?yk1_1⟩) (by assumption) ?rk1_1
            case hk1_1 => (simp only [List.getElem?_toArray, List.getElem?_cons_succ, List.getElem?_cons_zero]; rfl)
            case qk1_1 => exact fun _ _ _ h => h
            case wk1_1 => rfl
            case yk1_1 => (intro w hSw; (try dsimp only at hSw); go_simp <;> with_reducible rfl)
            try simp only [Act.put, List.setIfInBounds_toArray, List.set_cons_zero, List.set_cons_succ]
            refine wpAnyK_take (i := 1) (oi := ?oik1_2) (v := ?vk1_2) ?hk1_2 (by kernel_rfl) (by kernel_rfl) (by kernel_rfl) (by kernel_rfl) ?qk1_2 (Or.inl ⟨?wk1_2, ?yk1_2⟩) (by assumption) ?rk1_2
            case hk1_2 => (simp only [List.getElem?_toArray, List.getElem?_cons_succ, List.getElem?_cons_zero]; rfl)
            case qk1_2 => exact fun _ _ _ h => h
            case wk1_2 => rfl
            case yk1_2 => (intro w hSw; (try dsimp only at hSw); go_simp <;> with_reducible rfl)
            try simp only [Act.put, List.setIfInBounds_toArray, List.set_cons_zero, List.set_cons_succ]
            refine wpAnyK_take (i := 2) (oi := ?oik1_3) (v := ?vk1_3) ?hk1_3 (by kernel_rfl) (by kernel_rfl) (by kernel_rfl) (by kernel_rfl) ?qk1_3 (Or.inl ⟨?wk1_3, ?yk1_3⟩) (by assumption) ?rk1_3
            case hk1_3 => (simp only [List.getElem?_toArray, List.getElem?_cons_succ, List.getElem?_cons_zero]; rfl)
            case qk1_3 => exact fun _ _ _ h => h
            case wk1_3 => rfl
            case yk1_3 => (intro w hSw; (try dsimp only at hSw); go_simp <;> with_reducible rfl)
            try simp only [Act.put, List.setIfInBounds_toArray, List.set_cons_zero, List.set_cons_succ]
            refine wpAnyK_take (i := 3) (oi := ?oik1_4) (v := ?vk1_4) ?hk1_4 (by kernel_rfl) (by kernel_rfl) (by kernel_rfl) (by kernel_rfl) ?qk1_4 (Or.inl ⟨?wk1_4, ?yk1_4⟩) (by assumption) ?rk1_4
            case hk1_4 => (simp only [List.getElem?_toArray, List.getElem?_cons_succ, List.getElem?_cons_zero]; rfl)
            case qk1_4 => exact fun _ _ _ h => h
            case wk1_4 => rfl
            case yk1_4 => (intro w hSw; (try dsimp only at hSw); go_simp <;> with_reducible rfl)
            try simp only [Act.put, List.setIfInBounds_toArray, List.set_cons_zero, List.set_cons_succ]
            refine wpAnyK_take (i := 4) (oi := ?oik1_5) (v := ?vk1_5) ?hk1_5 (by kernel_rfl) (by kernel_rfl) (by kernel_rfl) (by kernel_rfl) ?qk1_5 (Or.inl ⟨?wk1_5, ?yk1_5⟩) (by assumption) ?rk1_5
            case hk1_5 => (simp only [List.getElem?_toArray, List.getElem?_cons_succ, List.getElem?_cons_zero]; rfl)
            case qk1_5 => exact fun _ _ _ h => h
            case wk1_5 => rfl
            case yk1_5 => (intro w hSw; (try dsimp only at hSw); go_simp <;> with_reducible rfl)
            try simp only [Act.put, List.setIfInBounds_toArray, List.set_cons_zero, List.set_cons_succ]
            refine wpAnyK_ready (rs := [5]) (by kernel_rfl) (by simp) ?_
            refine AllReadyK.cons (o := ?oik1_6) ?hk1_6 (fun K hK => ?kk1_6) ?mk1_6
            case hk1_6 => (simp only [List.getElem?_toArray, List.getElem?_cons_succ, List.getElem?_cons_zero]; rfl)
            case kk1_6 =>
              go_simp
              (go_at_call 77; refine HTI.out.mono ?_; rintro e w' ⟨rfl, rfl⟩)
              refine hK.out _ _ (by (first | exact ⟨z1, b1⟩ | exact ⟨cell_keepD (w := wr.drew) z1 ((Below.refl _ _).alloc (Nat.le_refl _) _), cell_keepD (w := wr.drew) b1 ((Below.refl _ _).alloc (Nat.le_refl _) _)⟩ | exact P7.out)) (fun hHeld => ?_)
              clear hK K
              try simp only [Act.put, List.setIfInBounds_toArray, List.set_cons_zero, List.set_cons_succ]
              refine wpAnyK_ready (rs := [6]) (by kernel_rfl) (by simp) ?_
              refine AllReadyK.cons (o := ?oik1_7) ?hk1_7 (fun K hK => ?kk1_7) ?mk1_7
              case hk1_7 => (simp only [List.getElem?_toArray, List.getElem?_cons_succ, List.getElem?_cons_zero]; rfl)
              case kk1_7 =>
                go_simp
                refine hK.out _ _ (by (first | exact ⟨z1, b1⟩ | exact ⟨cell_keepD (w := wr.drew) z1 ((Below.refl _ _).alloc (Nat.le_refl _) _), cell_keepD (w := wr.drew) b1 ((Below.refl _ _).alloc (Nat.le_refl _) _)⟩ | exact P7.out)) (fun hHeld => ?_)
                clear hK K
                try simp only [Act.put, List.setIfInBounds_toArray, List.set_cons_zero, List.set_cons_succ]
                refine wpAnyK_ready (rs := [7]) (by kernel_rfl) (by simp) ?_
                refine AllReadyK.cons (o := ?oik1_8) ?hk1_8 (fun K hK => ?kk1_8) ?mk1_8
                case hk1_8 => (simp only [List.getElem?_toArray, List.getElem?_cons_succ, List.getElem?_cons_zero]; rfl)
                case kk1_8 =>
                  (refine step_app1 _ _ _ _ _ etI (by rfl) (by rfl) w1.heap.size (.slice Av k cv) k (nv P) (by rfl) ?_ _ (.int .i64 (yv : Int)) (by rfl) ?_ (by rfl) ?_ ?_ ?_; exact HO.out.drew.alloc _; exact new_cell _ _ _; omega; (simp; omega); (intro g2 cap2 w3 hown3 hg3 hat3 hlt3; have HQ := Lib.hid (OutAt.app (w2 := wr.drew) (Nat.le_refl _) HBO.out HO.out.drew hown3 hg3); have P7 : Hid (w3.cell? ⟨w1.heap.size, 1, none⟩ = some (.slice Av k cv) ∧ w3.cell? ⟨w.heap.size + 1, 1, none⟩ = some (.slice A' n' cap')) := Lib.hid ⟨grown_cell (cell_keepD (w := wr.drew) z1 ((Below.refl _ _).alloc (Nat.le_refl _) (.cells #[.int .i64 (yv : Int)] 2))) hg3 (own_ne HO.out HBO.out (by decide)), grown_cell (cell_keepD (w := wr.drew) b1 ((Below.refl _ _).alloc (Nat.le_refl _) (.cells #[.int .i64 (yv : Int)] 2))) hg3 (own_far HO.out (by omega))⟩; have hb4 := blk2cells (blk_grown (w := (wr.alloc (.cells #[.int .i64 (yv : Int)] 2)).drew) (blk_alloc HBO.out (.cells #[.int .i64 (yv : Int)] 2)) hg3 (own_ne HO.out HBO.out (by decide))); obtain ⟨p0, p1, pf0, pf1, pl⟩ := hb4; clear hown3 hg3 hat3 hlt3))
                  refine hK.out _ _ (by (first | exact ⟨z1, b1⟩ | exact ⟨cell_keepD (w := wr.drew) z1 ((Below.refl _ _).alloc (Nat.le_refl _) _), cell_keepD (w := wr.drew) b1 ((Below.refl _ _).alloc (Nat.le_refl _) _)⟩ | exact P7.out)) (fun hHeld => ?_)
                  clear hK K
                  try simp only [Act.put, List.setIfInBounds_toArray, List.set_cons_zero, List.set_cons_succ]
                  refine wpAnyK_ready (rs := [8]) (by kernel_rfl) (by simp) ?_
                  refine AllReadyK.fin (o := ?oik1_9) (by decide) ?hk1_9 (fun K hK => ?kk1_9) ?mk1_9
                  case hk1_9 => (simp only [List.getElem?_toArray, List.getElem?_cons_succ, List.getElem?_cons_zero]; rfl)
                  case kk1_9 =>
                    go_simp
                    refine hK.out _ _ ?_
                    clear hK K
                    try simp only [Act.put, List.setIfInBounds_toArray, List.set_cons_zero, List.set_cons_succ]
                    refine wpAnyK_ready (rs := [9]) (by kernel_rfl) (by simp) ?_
                    refine AllReadyK.fin (o := ?oik1_10) (by decide) ?hk1_10 (fun K hK => ?kk1_10) ?mk1_10
                    case hk1_10 => (simp only [List.getElem?_toArray, List.getElem?_cons_succ, List.getElem?_cons_zero]; rfl)
                    case kk1_10 =>
                      go_simp
                      refine hK.out _ _ ?_
                      clear hK K
                      try simp only [Act.put, List.setIfInBounds_toArray, List.set_cons_zero, List.set_cons_succ]
                      refine wpAnyK_done (by kernel_rfl) ?_ _
                      go_wp2_with fail
                      go_roundw
                      case rel =>
                        obtain ⟨q1, q2⟩ := HQ.out
                        exact ⟨k + 1, by omega, by go_num, by rw [HP.out]; exact q1, HBL.out.trans (Below.trans ((Below.refl _ _).drew) q2)⟩
                      case measure => simp [intOf]; omega
                    exact AllReadyK.nil
                  exact AllReadyK.nil
                exact AllReadyK.nil
              exact AllReadyK.nil
            exact AllReadyK.nil
          · have ek : (toN xs).take k = toN xs := List.take_of_length_le (by rw [Lx.out, ← Hn.out]; omega)
            have hl := HO.out.1
            rw [ek] at HO
            rw [nv_length, List.length_map, ek, Lx.out, ← Hn.out] at hl
            have e0 : k = n := by omega
            clear ek hl
            subst e0
            have HLT := Lib.hid hlt
            have hnl : ¬ ((k : Int) < (k : Int)) := by omega
            clear hlt hk
            go_wp2_with fail
            refine bodyPost_ret (v := .tuple #[.agg #[.int .i64 c', .slice Av k cv], .int .i64 0]) ?_ rfl ⟨_, by rw [HE.out], ?_, ?_⟩
            · simp [results, Tryd.results31, go_sem, y0, y1]
            · rw [HE.out]
              refine own_cast (owns_keeps HO.out (((Keeps.refl wr [some (w.heap.size + 2)]).setCell (p := ⟨w.heap.size + 2, 0, none⟩) (by simp) _).setCell (p := ⟨w.heap.size + 2, 1, none⟩) (by simp) _) (.inr ?_) |>.mono (by omega)) (by simp [Lx.out, ← Hn.out]) rfl
              simp only [List.mem_singleton]
              exact own_ne HO.out HBR.out (by decide)
            · exact ((HB1.out.trans (HBL.out.mono hs1)).setCell (p := ⟨w.heap.size + 2, 0, none⟩) (by simp) _).setCell (p := ⟨w.heap.size + 2, 1, none⟩) (by simp) _
      · have HE : Hid (mulOf c xs c' ys = (0, [], 2)) := by show _ = _; unfold mulOf; rw [if_pos (by rw [hi, hj]; rfl), if_neg (by rw [← Hn'.out]; exact hc)]
        have hcb : (c != (n' : Int)) = true := by simpa using hc
        clear hi hj hd hd60 hc hlx
        go_enter Tryd.func31, Tryd.ntmps31
        go_wp2_with fail
        refine H1.out.mono ?_
        rintro e wa ⟨rfl, hb⟩
        have HK1 := Lib.hid (three_keep (HK.out _ hb).1 (HK.out _ hb).2.1 (HK.out _ hb).2.2)
        obtain ⟨x0, x1, _, _, _⟩ := blk2cells (HK.out _ hb).2.1
        have HBa := Lib.hid (HB.out.trans (hb.mono HB.out.size))
        clear hb
        go_wp2_with fail
        refine (H2.out _ (HR'.out.below HBa.out)).mono ?_
        rintro e w1 ⟨rfl, hb⟩
        obtain ⟨a0, a1, _, _, _⟩ := blk2cells (HK1.out _ hb).1
        obtain ⟨b0, b1, _, _, _⟩ := blk2cells (HK1.out _ hb).2.1
        obtain ⟨y0, y1, fy0, fy1, _⟩ := blk2cells (HK1.out _ hb).2.2
        have HB1 := Lib.hid (HBa.out.trans (hb.mono HBa.out.size))
        clear hb x0 x1
        go_wp2_with fail
        refine bodyPost_ret (v := .tuple #[.agg #[.int .i64 0, .slice none 0 0], .int .i64 2]) ?_ rfl ⟨_, by rw [HE.out], by rw [HE.out]; exact World.ownsRow_nil _ _ _ _, ?_⟩
        · simp [results, Tryd.results31, go_sem, y0, y1]
        · exact (HB1.out.setCell (p := ⟨w.heap.size + 2, 0, none⟩) (by simp) _).setCell (p := ⟨w.heap.size + 2, 1, none⟩) (by simp) _

set_option maxRecDepth 100000 in
set_option maxHeartbeats 8000000 in
theorem specMul_any (c c' : Int) (A A' : Option Addr) (n n' cap cap' : Nat) (xs ys : List Int) (w : World) (hn : n = xs.length) (hn' : n' = ys.length) (hsm : n ≤ 1099511627776) (hsm' : n' ≤ 1099511627776) (hR : Rd w A (iv xs)) (hR' : Rd w A' (iv ys)) :
    Calls Tryd.prog 32 #[.agg #[.int .i64 c, .slice A n cap], .agg #[.int .i64 c', .slice A' n' cap']] w fun e w' =>
      ∃ v, e = .returned (.tuple #[.agg #[.int .i64 (mulOf c xs c' ys).1, v], .int .i64 (mulOf c xs c' ys).2.2]) ∧ w'.ownsRow w.heap.size 2 1 v (mulOf c xs c' ys).2.1.length (nv (mulOf c xs c' ys).2.1) ∧ Below w.heap.size w w' := by
  have hb1 := blk_alloc (blk_alloc (blk_new w (.cells #[.int .i64 c, .slice A n cap] 26)) (.cells #[.int .i64 c', .slice A' n' cap'] 26)) (.cells #[.int .i64 0, .slice none 0 0] 26)
  have hb2 := blk_alloc (blk_new1 w (.cells #[.int .i64 c, .slice A n cap] 26) (.cells #[.int .i64 c', .slice A' n' cap'] 26)) (.cells #[.int .i64 0, .slice none 0 0] 26)
  have hb3 := blk_new2 w (.cells #[.int .i64 c, .slice A n cap] 26) (.cells #[.int .i64 c', .slice A' n' cap'] 26) (.cells #[.int .i64 0, .slice none 0 0] 26)
  have hbel : Below w.heap.size w (((w.alloc (.cells #[.int .i64 c, .slice A n cap] 26)).alloc (.cells #[.int .i64 c', .slice A' n' cap'] 26)).alloc (.cells #[.int .i64 0, .slice none 0 0] 26)) := (((Below.refl _ _).alloc (Nat.le_refl _) _).alloc (by simp) _).alloc (by simp; omega) _
  have h1 := l02Is_any c A n cap xs _ hn hsm (hR.below hbel)
  have HK := Lib.hid (three_keep hb1 hb2 hb3)
  have HB := Lib.hid hbel
  have HR := Lib.hid hR
  have HR' := Lib.hid hR'
  have Hn := Lib.hid hn
  have Hn' := Lib.hid hn'
  clear hb1 hb2 hb3 hbel hR hR' hn hn'
  cases hi : isMat c xs with
  | false =>
    rw [hi] at h1
    have HE : Hid (mulOf c xs c' ys = (0, [], 1)) := by show _ = _; simp [mulOf, hi]
    have H1 := Lib.hid h1
    clear h1 hi
    go_enter Tryd.func32, Tryd.ntmps32
    go_wp2_with fail
    refine H1.out.mono ?_
    rintro e w1 ⟨rfl, hb⟩
    obtain ⟨k1, k2, k3⟩ := HK.out _ hb
    obtain ⟨y0, y1, fy0, fy1, _⟩ := blk2cells k3
    have HB1 := Lib.hid (HB.out.trans (hb.mono HB.out.size))
    clear hb k1 k2 k3
    go_wp2_with fail
    refine bodyPost_ret (v := .tuple #[.agg #[.int .i64 0, .slice none 0 0], .int .i64 1]) ?_ rfl ⟨_, by rw [HE.out], by rw [HE.out]; exact World.ownsRow_nil _ _ _ _, ?_⟩
    · simp [results, Tryd.results32, go_sem, y0, y1]
    · exact (HB1.out.setCell (p := ⟨w.heap.size + 2, 0, none⟩) (by simp) _).setCell (p := ⟨w.heap.size + 2, 1, none⟩) (by simp) _
  | true =>
    rw [hi] at h1
    have H1 := Lib.hid h1
    have h2 := fun W (hW : Rd W A' (iv ys)) => l02Is_any c' A' n' cap' ys W Hn'.out hsm' hW
    clear h1
    cases hj : isMat c' ys with
    | false =>
      rw [hj] at h2
      have HE : Hid (mulOf c xs c' ys = (0, [], 1)) := by show _ = _; simp [mulOf, hi, hj]
      have H2 := Lib.hid h2
      clear h2 hi hj
      go_enter Tryd.func32, Tryd.ntmps32
      go_wp2_with fail
      refine H1.out.mono ?_
      rintro e w1 ⟨rfl, hb⟩
      have HK1 := Lib.hid (three_keep (HK.out _ hb).1 (HK.out _ hb).2.1 (HK.out _ hb).2.2)
      obtain ⟨x0, x1, _, _, _⟩ := blk2cells (HK.out _ hb).2.1
      have HBa := Lib.hid (HB.out.trans (hb.mono HB.out.size))
      clear hb
      go_wp2_with fail
      refine (H2.out _ (HR'.out.below HBa.out)).mono ?_
      rintro e w2 ⟨rfl, hb⟩
      obtain ⟨y0, y1, fy0, fy1, _⟩ := blk2cells (HK1.out _ hb).2.2
      have HB1 := Lib.hid (HBa.out.trans (hb.mono HBa.out.size))
      clear hb x0 x1
      go_wp2_with fail
      refine bodyPost_ret (v := .tuple #[.agg #[.int .i64 0, .slice none 0 0], .int .i64 1]) ?_ rfl ⟨_, by rw [HE.out], by rw [HE.out]; exact World.ownsRow_nil _ _ _ _, ?_⟩
      · simp [results, Tryd.results32, go_sem, y0, y1]
      · exact (HB1.out.setCell (p := ⟨w.heap.size + 2, 0, none⟩) (by simp) _).setCell (p := ⟨w.heap.size + 2, 1, none⟩) (by simp) _
    | true =>
      rw [hj] at h2
      have H2 := Lib.hid h2
      have HSx := Lib.hid (isMat_sm hi)
      have HSy := Lib.hid (isMat_sm hj)
      have HRx : Hid (Rd w A (nv (toN xs))) := by have := HR.out; rw [iv_toN (fun x hx => (isMat_nonneg hi x hx).1)] at this; exact this
      have HRy : Hid (Rd w A' (nv (toN ys))) := by have := HR'.out; rw [iv_toN (fun x hx => (isMat_nonneg hj x hx).1)] at this; exact this
      have Lx := Lib.hid (toN_len xs)
      have Ly := Lib.hid (toN_len ys)
      have hlx := isMat_len hi
      obtain ⟨d, hd, hd60⟩ := isMat_cols hi
      clear h2
      by_cases hc : c = (n' : Int)
      · subst hc
        have HE : Hid (mulOf n' xs c' ys = (c', (toN xs).map (comb (toN ys) 0), 0)) := by show _ = _; unfold mulOf; rw [if_pos (by rw [hi, hj]; rfl), if_pos (by rw [Hn'.out])]
        have hn60 : n' ≤ 60 := by omega
        have hln : n ≤ 200 := by rw [Hn.out]; exact hlx
        clear hi hj hd hd60 hlx
        go_enter Tryd.func32, Tryd.ntmps32
        go_wp2_with fail
        refine H1.out.mono ?_
        rintro e wa ⟨rfl, hb⟩
        have HK1 := Lib.hid (three_keep (HK.out _ hb).1 (HK.out _ hb).2.1 (HK.out _ hb).2.2)
        obtain ⟨x0, x1, _, _, _⟩ := blk2cells (HK.out _ hb).2.1
        have HBa := Lib.hid (HB.out.trans (hb.mono HB.out.size))
        clear hb
        go_wp2_with fail
        refine (H2.out _ (HR'.out.below HBa.out)).mono ?_
        rintro e w1 ⟨rfl, hb⟩
        have HK2 := Lib.hid (three_keep (HK1.out _ hb).1 (HK1.out _ hb).2.1 (HK1.out _ hb).2.2)
        have HB1 := Lib.hid (HBa.out.trans (hb.mono HBa.out.size))
        have hs1 := HB1.out.size
        have hs3 : w.heap.size + 2 < w1.heap.size := (Array.getElem?_eq_some_iff.1 (HK1.out _ hb).2.2).1
        obtain ⟨a0, a1, _, _, _⟩ := blk2cells (HK1.out _ hb).1
        obtain ⟨b0, b1, _, _, _⟩ := blk2cells (HK1.out _ hb).2.1
        clear hb x0 x1
        go_wp2_with fail
        go_loopw [7] (fun i wr => ∃ k : Nat, k ≤ n ∧ i = .int .i64 k ∧ OutAt wr w1.heap.size w1.heap.size c' k (((toN xs).take k).map (comb (toN ys) 0)) ∧ Below w1.heap.size w1 wr) (fun i _ => n - (intOf i).toNat)
        case atStart => exact ⟨0, by omega, rfl, ⟨_, blk_new w1 _, World.ownsRow_nil _ _ _ _⟩, (Below.refl _ _).alloc (Nat.le_refl _) _⟩
        case round =>
          obtain ⟨k, hk, rfl, ⟨v, hbo, hoo⟩, hbel⟩ := hrel
          have hsz : w1.heap.size ≤ wr.heap.size := hbel.size
          obtain ⟨a0, a1, _, _, _⟩ := blk2cells (HK2.out _ hbel).1
          obtain ⟨b0, b1, _, _, _⟩ := blk2cells (HK2.out _ hbel).2.1
          obtain ⟨y0, y1, fy0, fy1, _⟩ := blk2cells (HK2.out _ hbel).2.2
          obtain ⟨z0, z1, fz0, fz1, lz⟩ := blk2cells hbo
          obtain ⟨Av, cv, rfl, _, _, _⟩ := owns_shape hoo
          have HO := Lib.hid hoo
          have HBO := Lib.hid hbo
          have HBR := Lib.hid (HK2.out _ hbel).2.2
          have HBA := Lib.hid (HK2.out _ hbel).1
          have HBB := Lib.hid (HK2.out _ hbel).2.1
          have HBL := Lib.hid hbel
          clear hoo hbo hbel
          by_cases hlt : k < n
          · have hkL : k < (toN xs).length := by rw [Lx.out, ← Hn.out]; exact hlt
            obtain ⟨b, o, rfl, hc⟩ := (HRx.out.below (HB1.out.trans (HBL.out.mono hs1))).atN hkL
            have HC := Lib.hid hc
            have hblt : b < w.heap.size := by
              obtain ⟨b', o', e', hc'⟩ := HRx.out.atN hkL
              injection e' with e'
              injection e' with e1 e2
              rw [e1]
              exact World.block_lt_of_cell? w _ hc'
            have hz : Sm ((toN xs).getD k 0) := HSx.out _ (getD_mem hkL)
            have hti := l02Times_any A' n' cap' (toN ys) ((toN xs).getD k 0) wr.drew (by rw [Ly.out, Hn'.out]) (by omega) hz HSy.out (HRy.out.below (HB1.out.trans (HBL.out.mono hs1)).drew)
            have HP : Hid ((((toN xs).take (k + 1)).map (comb (toN ys) 0)) = ((toN xs).take k).map (comb (toN ys) 0) ++ [comb (toN ys) 0 ((toN xs).getD k 0)]) := Lib.hid (by
              rw [List.take_succ_eq_append_getElem hkL, List.map_append]
              simp [List.getD, hkL])
            have HTI := Lib.hid hti
            clear hti hz
            generalize comb (toN ys) 0 ((toN xs).getD k 0) = yv at *
            generalize (toN xs).getD k 0 = zv at *
            generalize ((toN xs).take k).map (comb (toN ys) 0) = P at *
            go_wp2_with fail
            refine wp_region_K (S := (fun w' => w'.cell? ⟨w1.heap.size, 1, none⟩ = some (.slice Av k cv) ∧ w'.cell? ⟨w.heap.size + 1, 1, none⟩ = some (.slice A' n' cap') ∧ w'.cell? ⟨w.heap.size, 1, none⟩ = some (.slice (some ⟨b, o, none⟩) n cap) ∧ w'.cell? ⟨b, o + k, none⟩ = some (.int .i64 (zv : Int)))) 12 (by kernel_rfl) (by (first | exact ⟨z1, b1, a1, hc⟩ | exact ⟨cell_keepD (w := wr.drew) z1 ((Below.refl _ _).alloc (Nat.le_refl _) _), cell_keepD (w := wr.drew) b1 ((Below.refl _ _).alloc (Nat.le_refl _) _), cell_keepD (w := wr.drew) a1 ((Below.refl _ _).alloc (Nat.le_refl _) _), cell_keepD (w := wr.drew) hc ((Below.refl _ _).alloc (Nat.le_refl _) _)⟩ | exact P7.out)) (fun hHeld => ?_)
            refine wpAnyK_take (i := 0) (oi := ?oik2_1) (v := ?vk2_1) ?hk2_1 (by kernel_rfl) (by kernel_rfl) (by kernel_rfl) (by kernel_rfl) ?qk2_1 (Or.inl ⟨?wk2_1, ?yk2_1⟩) (by assumption) ?rk2_1
            case hk2_1 => (simp only [List.getElem?_toArray, List.getElem?_cons_succ, List.getElem?_cons_zero]; rfl)
            case qk2_1 => exact fun _ _ _ h => h
            case wk2_1 => rfl
            case yk2_1 => (intro w hSw; (try dsimp only at hSw); go_simp <;> with_reducible rfl)
            try simp only [Act.put, List.setIfInBounds_toArray, List.set_cons_zero, List.set_cons_succ]
            refine wpAnyK_take (i := 1) (oi := ?oik2_2) (v := ?vk2_2) ?hk2_2 (by kernel_rfl) (by kernel_rfl) (by kernel_rfl) (by kernel_rfl) ?qk2_2 (Or.inl ⟨?wk2_2, ?yk2_2⟩) (by assumption) ?rk2_2
            case hk2_2 => (simp only [List.getElem?_toArray, List.getElem?_cons_succ, List.getElem?_cons_zero]; rfl)
            case qk2_2 => exact fun _ _ _ h => h
            case wk2_2 => rfl
            case yk2_2 => (intro w hSw; (try dsimp only at hSw); go_simp <;> with_reducible rfl)
            try simp only [Act.put, List.setIfInBounds_toArray, List.set_cons_zero, List.set_cons_succ]
            refine wpAnyK_take (i := 2) (oi := ?oik2_3) (v := ?vk2_3) ?hk2_3 (by kernel_rfl) (by kernel_rfl) (by kernel_rfl) (by kernel_rfl) ?qk2_3 (Or.inl ⟨?wk2_3, ?yk2_3⟩) (by assumption) ?rk2_3
            case hk2_3 => (simp only [List.getElem?_toArray, List.getElem?_cons_succ, List.getElem?_cons_zero]; rfl)
            case qk2_3 => exact fun _ _ _ h => h
            case wk2_3 => rfl
            case yk2_3 => (intro w hSw; (try dsimp only at hSw); go_simp <;> with_reducible rfl)
            try simp only [Act.put, List.setIfInBounds_toArray, List.set_cons_zero, List.set_cons_succ]
            refine wpAnyK_take (i := 3) (oi := ?oik2_4) (v := ?vk2_4) ?hk2_4 (by kernel_rfl) (by kernel_rfl) (by kernel_rfl) (by kernel_rfl) ?qk2_4 (Or.inl ⟨?wk2_4, ?yk2_4⟩) (by assumption) ?rk2_4
            case hk2_4 => (simp only [List.getElem?_toArray, List.getElem?_cons_succ, List.getElem?_cons_zero]; rfl)
            case qk2_4 => exact fun _ _ _ h => h
            case wk2_4 => rfl
            case yk2_4 => (intro w hSw; (try dsimp only at hSw); go_simp <;> with_reducible rfl)
            try simp only [Act.put, List.setIfInBounds_toArray, List.set_cons_zero, List.set_cons_succ]
            refine wpAnyK_take (i := 4) (oi := ?oik2_5) (v := ?vk2_5) ?hk2_5 (by kernel_rfl) (by kernel_rfl) (by kernel_rfl) (by kernel_rfl) ?qk2_5 (Or.inl ⟨?wk2_5, ?yk2_5⟩) (by assumption) ?rk2_5
            case hk2_5 => (simp only [List.getElem?_toArray, List.getElem?_cons_succ, List.getElem?_cons_zero]; rfl)
            case qk2_5 => exact fun _ _ _ h => h
            case wk2_5 => rfl
            case yk2_5 => (intro w hSw; (try dsimp only at hSw); go_simp <;> with_reducible rfl)
            try simp only [Act.put, List.setIfInBounds_toArray, List.set_cons_zero, List.set_cons_succ]
            refine wpAnyK_take (i := 5) (oi := ?oik2_6) (v := ?vk2_6) ?hk2_6 (by kernel_rfl) (by kernel_rfl) (by kernel_rfl) (by kernel_rfl) ?qk2_6 (Or.inl ⟨?wk2_6, ?yk2_6⟩) (by assumption) ?rk2_6
            case hk2_6 => (simp only [List.getElem?_toArray, List.getElem?_cons_succ, List.getElem?_cons_zero]; rfl)
            case qk2_6 => exact fun _ _ _ h => h
            case wk2_6 => rfl
            case yk2_6 => (intro w hSw; (try dsimp only at hSw); go_simp <;> with_reducible rfl)
            try simp only [Act.put, List.setIfInBounds_toArray, List.set_cons_zero, List.set_cons_succ]
            refine wpAnyK_take (i := 6) (oi := ?oik2_7) (v := ?vk2_7) ?hk2_7 (by kernel_rfl) (by kernel_rfl) (by kernel_rfl) (by kernel_rfl) ?qk2_7 (Or.inl ⟨?wk2_7, ?yk2_7⟩) (by assumption) ?rk2_7
            case hk2_7 => (simp only [List.getElem?_toArray, List.getElem?_cons_succ, List.getElem?_cons_zero]; rfl)
            case qk2_7 => exact fun _ _ _ h => h
            case wk2_7 => rfl
            case yk2_7 => (intro w hSw; (try dsimp only at hSw); go_simp <;> with_reducible rfl)
            try simp only [Act.put, List.setIfInBounds_toArray, List.set_cons_zero, List.set_cons_succ]
            refine wpAnyK_take (i := 7) (oi := ?oik2_8) (v := ?vk2_8) ?hk2_8 (by kernel_rfl) (by kernel_rfl) (by kernel_rfl) (by kernel_rfl) ?qk2_8 (Or.inl ⟨?wk2_8, ?yk2_8⟩) (by assumption) ?rk2_8
            case hk2_8 => (simp only [List.getElem?_toArray, List.getElem?_cons_succ, List.getElem?_cons_zero]; rfl)
            case qk2_8 => exact fun _ _ _ h => h
            case wk2_8 => rfl
            case yk2_8 => (intro w hSw; (try dsimp only at hSw); go_simp <;> with_reducible rfl)
            try simp only [Act.put, List.setIfInBounds_toArray, List.set_cons_zero, List.set_cons_succ]
            refine wpAnyK_take (i := 8) (oi := ?oik2_9) (v := ?vk2_9) ?hk2_9 (by kernel_rfl) (by kernel_rfl) (by kernel_rfl) (by kernel_rfl) ?qk2_9 (Or.inl ⟨?wk2_9, ?yk2_9⟩) (by assumption) ?rk2_9
            case hk2_9 => (simp only [List.getElem?_toArray, List.getElem?_cons_succ, List.getElem?_cons_zero]; rfl)
            case qk2_9 => exact fun _ _ _ h => h
            case wk2_9 => rfl
            case yk2_9 => (intro w hSw; (try dsimp only at hSw); go_simp <;> with_reducible rfl)
            try simp only [Act.put, List.setIfInBounds_toArray, List.set_cons_zero, List.set_cons_succ]
            refine wpAnyK_ready (rs := [9]) (by kernel_rfl) (by simp) ?_
            refine AllReadyK.cons (o := ?oik2_10) ?hk2_10 (fun K hK => ?kk2_10) ?mk2_10
            case hk2_10 => (simp only [List.getElem?_toArray, List.getElem?_cons_succ, List.getElem?_cons_zero]; rfl)
            case kk2_10 =>
              go_simp
              (go_at_call 79; refine HTI.out.mono ?_; rintro e w' ⟨rfl, rfl⟩)
              refine hK.out _ _ (by (first | exact ⟨z1, b1, a1, hc⟩ | exact ⟨cell_keepD (w := wr.drew) z1 ((Below.refl _ _).alloc (Nat.le_refl _) _), cell_keepD (w := wr.drew) b1 ((Below.refl _ _).alloc (Nat.le_refl _) _), cell_keepD (w := wr.drew) a1 ((Below.refl _ _).alloc (Nat.le_refl _) _), cell_keepD (w := wr.drew) hc ((Below.refl _ _).alloc (Nat.le_refl _) _)⟩ | exact P7.out)) (fun hHeld => ?_)
              clear hK K
              try simp only [Act.put, List.setIfInBounds_toArray, List.set_cons_zero, List.set_cons_succ]
              refine wpAnyK_ready (rs := [10]) (by kernel_rfl) (by simp) ?_
              refine AllReadyK.cons (o := ?oik2_11) ?hk2_11 (fun K hK => ?kk2_11) ?mk2_11
              case hk2_11 => (simp only [List.getElem?_toArray, List.getElem?_cons_succ, List.getElem?_cons_zero]; rfl)
              case kk2_11 =>
                go_simp
                refine hK.out _ _ (by (first | exact ⟨z1, b1, a1, hc⟩ | exact ⟨cell_keepD (w := wr.drew) z1 ((Below.refl _ _).alloc (Nat.le_refl _) _), cell_keepD (w := wr.drew) b1 ((Below.refl _ _).alloc (Nat.le_refl _) _), cell_keepD (w := wr.drew) a1 ((Below.refl _ _).alloc (Nat.le_refl _) _), cell_keepD (w := wr.drew) hc ((Below.refl _ _).alloc (Nat.le_refl _) _)⟩ | exact P7.out)) (fun hHeld => ?_)
                clear hK K
                try simp only [Act.put, List.setIfInBounds_toArray, List.set_cons_zero, List.set_cons_succ]
                refine wpAnyK_ready (rs := [11]) (by kernel_rfl) (by simp) ?_
                refine AllReadyK.cons (o := ?oik2_12) ?hk2_12 (fun K hK => ?kk2_12) ?mk2_12
                case hk2_12 => (simp only [List.getElem?_toArray, List.getElem?_cons_succ, List.getElem?_cons_zero]; rfl)
                case kk2_12 =>
                  (refine step_app1 _ _ _ _ _ etI (by rfl) (by rfl) w1.heap.size (.slice Av k cv) k (nv P) (by rfl) ?_ _ (.int .i64 (yv : Int)) (by rfl) ?_ (by rfl) ?_ ?_ ?_; exact HO.out.drew.alloc _; exact new_cell _ _ _; omega; (simp; omega); (intro g2 cap2 w3 hown3 hg3 hat3 hlt3; have HQ := Lib.hid (OutAt.app (w2 := wr.drew) (Nat.le_refl _) HBO.out HO.out.drew hown3 hg3); have P7 : Hid (w3.cell? ⟨w1.heap.size, 1, none⟩ = some (.slice Av k cv) ∧ w3.cell? ⟨w.heap.size + 1, 1, none⟩ = some (.slice A' n' cap') ∧ w3.cell? ⟨w.heap.size, 1, none⟩ = some (.slice (some ⟨b, o, none⟩) n cap) ∧ w3.cell? ⟨b, o + k, none⟩ = some (.int .i64 (zv : Int))) := Lib.hid ⟨grown_cell (cell_keepD (w := wr.drew) z1 ((Below.refl _ _).alloc (Nat.le_refl _) (.cells #[.int .i64 (yv : Int)] 2))) hg3 (own_ne HO.out HBO.out (by decide)), grown_cell (cell_keepD (w := wr.drew) b1 ((Below.refl _ _).alloc (Nat.le_refl _) (.cells #[.int .i64 (yv : Int)] 2))) hg3 (own_far HO.out (by omega)), grown_cell (cell_keepD (w := wr.drew) a1 ((Below.refl _ _).alloc (Nat.le_refl _) (.cells #[.int .i64 (yv : Int)] 2))) hg3 (own_far HO.out (by omega)), grown_cell (cell_keepD (w := wr.drew) hc ((Below.refl _ _).alloc (Nat.le_refl _) (.cells #[.int .i64 (yv : Int)] 2))) hg3 (own_far HO.out (by show b < _; omega))⟩; have hb4 := blk2cells (blk_grown (w := (wr.alloc (.cells #[.int .i64 (yv : Int)] 2)).drew) (blk_alloc HBO.out (.cells #[.int .i64 (yv : Int)] 2)) hg3 (own_ne HO.out HBO.out (by decide))); obtain ⟨p0, p1, pf0, pf1, pl⟩ := hb4; clear hown3 hg3 hat3 hlt3))
                  refine hK.out _ _ (by (first | exact ⟨z1, b1, a1, hc⟩ | exact ⟨cell_keepD (w := wr.drew) z1 ((Below.refl _ _).alloc (Nat.le_refl _) _), cell_keepD (w := wr.drew) b1 ((Below.refl _ _).alloc (Nat.le_refl _) _), cell_keepD (w := wr.drew) a1 ((Below.refl _ _).alloc (Nat.le_refl _) _), cell_keepD (w := wr.drew) hc ((Below.refl _ _).alloc (Nat.le_refl _) _)⟩ | exact P7.out)) (fun hHeld => ?_)
                  clear hK K
                  try simp only [Act.put, List.setIfInBounds_toArray, List.set_cons_zero, List.set_cons_succ]
                  refine wpAnyK_ready (rs := [12]) (by kernel_rfl) (by simp) ?_
                  refine AllReadyK.fin (o := ?oik2_13) (by decide) ?hk2_13 (fun K hK => ?kk2_13) ?mk2_13
                  case hk2_13 => (simp only [List.getElem?_toArray, List.getElem?_cons_succ, List.getElem?_cons_zero]; rfl)
                  case kk2_13 =>
                    go_simp
                    refine hK.out _ _ ?_
                    clear hK K
                    try simp only [Act.put, List.setIfInBounds_toArray, List.set_cons_zero, List.set_cons_succ]
                    refine wpAnyK_ready (rs := [13]) (by kernel_rfl) (by simp) ?_
                    refine AllReadyK.fin (o := ?oik2_14) (by decide) ?hk2_14 (fun K hK => ?kk2_14) ?mk2_14
                    case hk2_14 => (simp only [List.getElem?_toArray, List.getElem?_cons_succ, List.getElem?_cons_zero]; rfl)
                    case kk2_14 =>
                      go_simp
                      refine hK.out _ _ ?_
                      clear hK K
                      try simp only [Act.put, List.setIfInBounds_toArray, List.set_cons_zero, List.set_cons_succ]
                      refine wpAnyK_done (by kernel_rfl) ?_ _
                      go_wp2_with fail
                      go_roundw
                      case rel =>
                        obtain ⟨q1, q2⟩ := HQ.out
                        exact ⟨k + 1, by omega, by go_num, by rw [HP.out]; exact q1, HBL.out.trans (Below.trans ((Below.refl _ _).drew) q2)⟩
                      case measure => simp [intOf]; omega
                    exact AllReadyK.nil
                  exact AllReadyK.nil
                exact AllReadyK.nil
              exact AllReadyK.nil
            exact AllReadyK.nil
          · have ek : (toN xs).take k = toN xs := List.take_of_length_le (by rw [Lx.out, ← Hn.out]; omega)
            have hl := HO.out.1
            rw [ek] at HO
            rw [nv_length, List.length_map, ek, Lx.out, ← Hn.out] at hl
            have e0 : k = n := by omega
            clear ek hl
            subst e0
            have HLT := Lib.hid hlt
            have hnl : ¬ ((k : Int) < (k : Int)) := by omega
            clear hlt hk
            go_wp2_with fail
            refine bodyPost_ret (v := .tuple #[.agg #[.int .i64 c', .slice Av k cv], .int .i64 0]) ?_ rfl ⟨_, by rw [HE.out], ?_, ?_⟩
            · simp [results, Tryd.results32, go_sem, y0, y1]
            · rw [HE.out]
              refine own_cast (owns_keeps HO.out (((Keeps.refl wr [some (w.heap.size + 2)]).setCell (p := ⟨w.heap.size + 2, 0, none⟩) (by simp) _).setCell (p := ⟨w.heap.size + 2, 1, none⟩) (by simp) _) (.inr ?_) |>.mono (by omega)) (by simp [Lx.out, ← Hn.out]) rfl
              simp only [List.mem_singleton]
              exact own_ne HO.out HBR.out (by decide)
            · exact ((HB1.out.trans (HBL.out.mono hs1)).setCell (p := ⟨w.heap.size + 2, 0, none⟩) (by simp) _).setCell (p := ⟨w.heap.size + 2, 1, none⟩) (by simp) _
      · have HE : Hid (mulOf c xs c' ys = (0, [], 2)) := by show _ = _; unfold mulOf; rw [if_pos (by rw [hi, hj]; rfl), if_neg (by rw [← Hn'.out]; exact hc)]
        have hcb : (c != (n' : Int)) = true := by simpa using hc
        clear hi hj hd hd60 hc hlx
        go_enter Tryd.func32, Tryd.ntmps32
        go_wp2_with fail
        refine H1.out.mono ?_
        rintro e wa ⟨rfl, hb⟩
        have HK1 := Lib.hid (three_keep (HK.out _ hb).1 (HK.out _ hb).2.1 (HK.out _ hb).2.2)
        obtain ⟨x0, x1, _, _, _⟩ := blk2cells (HK.out _ hb).2.1
        have HBa := Lib.hid (HB.out.trans (hb.mono HB.out.size))
        clear hb
        go_wp2_with fail
        refine (H2.out _ (HR'.out.below HBa.out)).mono ?_
        rintro e w1 ⟨rfl, hb⟩
        obtain ⟨a0, a1, _, _, _⟩ := blk2cells (HK1.out _ hb).1
        obtain ⟨b0, b1, _, _, _⟩ := blk2cells (HK1.out _ hb).2.1
        obtain ⟨y0, y1, fy0, fy1, _⟩ := blk2cells (HK1.out _ hb).2.2
        have HB1 := Lib.hid (HBa.out.trans (hb.mono HBa.out.size))
        clear hb x0 x1
        go_wp2_with fail
        refine bodyPost_ret (v := .tuple #[.agg #[.int .i64 0, .slice none 0 0], .int .i64 2]) ?_ rfl ⟨_, by rw [HE.out], by rw [HE.out]; exact World.ownsRow_nil _ _ _ _, ?_⟩
        · simp [results, Tryd.results32, go_sem, y0, y1]
        · exact (HB1.out.setCell (p := ⟨w.heap.size + 2, 0, none⟩) (by simp) _).setCell (p := ⟨w.heap.size + 2, 1, none⟩) (by simp) _
end Go.Proofs.YtjhlmalpcelbaaaDoor

namespace Go.Proofs.YtjhlmalpcelbaaaDoor
open Go.RowKit

/-- column j of the first m rows, as a mask -/
def colF (S : List Nat) (j : Nat) : Nat → Nat
  | 0 => 0
  | m + 1 => orr (colF S j m) (if tb (S.getD m 0) j = true then 2 ^ m else 0)
theorem tb_orrB (a b i : Nat) : tb (orr a b) i = (tb a i || tb b i) := by unfold tb orr; exact Nat.testBit_or ..
theorem tb_colF (S : List Nat) (j : Nat) : ∀ m i, tb (colF S j m) i = (decide (i < m) && tb (S.getD i 0) j)
  | 0, i => by simp [colF, tb_zero]
  | m + 1, i => by
    rw [colF, tb_orrB, tb_colF S j m i]
    generalize hg : (fun t => tb (S.getD t 0) j) = f
    have hf : ∀ t, tb (S.getD t 0) j = f t := fun t => by rw [← hg]
    simp only [hf]
    by_cases h : f m = true
    · rw [if_pos h, tb_pow]
      by_cases e : m = i
      · subst e; simp [h]
      · have : (decide (i < m + 1)) = decide (i < m) := by apply decide_eq_decide.2; omega
        rw [this]; simp [e]
    · rw [if_neg h, tb_zero, Bool.or_false]
      by_cases e : i = m
      · subst e; simp at h; simp [h]
      · have : (decide (i < m + 1)) = decide (i < m) := by apply decide_eq_decide.2; omega
        rw [this]
theorem colF_lt (S : List Nat) (j m : Nat) : colF S j m < 2 ^ m := by
  refine Nat.lt_pow_two_of_testBit _ fun i hi => ?_
  have := tb_colF S j m i
  unfold tb at this
  rw [this]
  simp; omega
theorem colF_sm (S : List Nat) (j : Nat) {m : Nat} (hm : m ≤ 60) : Sm (colF S j m) := by
  have h1 := colF_lt S j m
  have h2 : 2 ^ m ≤ 2 ^ 60 := Nat.pow_le_pow_right (by omega) hm
  unfold Sm
  omega
/-- the rows of the transpose -/
def turnS (S : List Nat) (c : Nat) : List Nat := (List.range c).map fun j => colF S j S.length
theorem turnS_len (S : List Nat) (c : Nat) : (turnS S c).length = c := by simp [turnS]
def bitP (r j m : Nat) : Nat := if tb r j = true then 2 ^ m else 0
theorem bit_shl {r j m : Nat} (hm : m ≤ 60) : IntKind.i64.wrap ((((tb r j).toNat : Nat) : Int) * 2 ^ m) = ((bitP r j m : Nat) : Int) := by
  unfold bitP
  cases tb r j
  · show IntKind.i64.wrap ((0 : Int) * 2 ^ m) = 0
    rw [Int.zero_mul]; rfl
  · show IntKind.i64.wrap ((1 : Int) * 2 ^ m) = ((2 ^ m : Nat) : Int)
    have h := shl_one hm
    unfold wrap64 at h
    rw [Int.one_mul, IntKind.wrap_i64]
    generalize (2 : Int) ^ m = z at *
    generalize (((2 : Nat) ^ m : Nat) : Int) = y at *
    omega

attribute [local go_sem] i64_or_nat i64_bit_nat bit_shl in
set_option maxRecDepth 100000 in
set_option maxHeartbeats 4000000 in
theorem turn_any (c : Nat) (A : Option Addr) (n cap : Nat) (S : List Nat) (w : World) (hn : n = S.length) (hsm : n ≤ 60) (hc : c ≤ 60) (hS : ∀ r ∈ S, Sm r) (hR : Rd w A (nv S)) :
    Calls Tryd.prog 83 #[.agg #[.int .i64 c, .slice A n cap]] w fun e w' =>
      ∃ v, e = .returned (.agg #[.int .i64 n, v]) ∧ w'.ownsRow w.heap.size 2 1 v c (nv (turnS S c)) ∧ Below w.heap.size w w' := by
  have hb1 := blk_alloc (blk_new w (.cells #[.int .i64 c, .slice A n cap] 26)) (.cells #[.int .i64 0, .slice none 0 0] 26)
  have hb2 := blk_new1 w (.cells #[.int .i64 c, .slice A n cap] 26) (.cells #[.int .i64 0, .slice none 0 0] 26)
  have hbel : Below w.heap.size w ((w.alloc (.cells #[.int .i64 c, .slice A n cap] 26)).alloc (.cells #[.int .i64 0, .slice none 0 0] 26)) := ((Below.refl _ _).alloc (Nat.le_refl _) _).alloc (by simp) _
  have HSZ : Hid (((w.alloc (.cells #[.int .i64 c, .slice A n cap] 26)).alloc (.cells #[.int .i64 0, .slice none 0 0] 26)).heap.size = w.heap.size + 2) := Lib.hid (by simp)
  have HR := Lib.hid hR
  have Hn := Lib.hid hn
  have HS := Lib.hid hS
  clear hR hn hS
  have HK := Lib.hid (And.intro hb1 hb2)
  have HB := Lib.hid hbel
  clear hb1 hb2 hbel
  have hs1 : w.heap.size ≤ ((w.alloc (.cells #[.int .i64 c, .slice A n cap] 26)).alloc (.cells #[.int .i64 0, .slice none 0 0] 26)).heap.size := HB.out.size
  obtain ⟨x0, x1, _, _, _⟩ := blk2cells HK.out.1
  obtain ⟨W1, HW1⟩ : ∃ W1, Hid (W1 = (w.alloc (.cells #[.int .i64 c, .slice A n cap] 26)).alloc (.cells #[.int .i64 0, .slice none 0 0] 26)) := ⟨_, Lib.hid rfl⟩
  go_enter Tryd.func83, Tryd.ntmps83
  go_wp2_with fail
  rw [← HW1.out] at HK HB hs1 x0 x1 ⊢
  have hl1 := (Array.getElem?_eq_some_iff.1 HK.out.1).1
  have hl2 := (Array.getElem?_eq_some_iff.1 HK.out.2).1
  have hw1 : W1.heap.size = w.heap.size + 2 := by rw [HW1.out]; exact HSZ.out
  have hw1' : W1.heap.size = w.heap.size + 1 + 1 := hw1
  clear HSZ HW1
  go_wp2_with fail
  go_loopw [4] (fun i wr => ∃ k : Nat, k ≤ c ∧ i = .int .i64 k ∧ OutAt wr W1.heap.size (w.heap.size + 1 + 1) n k ((List.range k).map fun j => colF S j S.length) ∧ Below W1.heap.size W1 wr) (fun i _ => c - (intOf i).toNat)
  case atStart => exact ⟨0, by omega, rfl, ⟨_, by rw [← hw1']; exact blk_new W1 _, World.ownsRow_nil _ _ _ _⟩, (Below.refl _ _).alloc (Nat.le_refl _) _⟩
  case round =>
    obtain ⟨k, hk, rfl, ⟨v, hbo, hoo⟩, hbel⟩ := hrel
    have hsz : W1.heap.size ≤ wr.heap.size := hbel.size
    have HBM := Lib.hid (blk_below HK.out.1 hbel hl1)
    have HBR := Lib.hid (blk_below HK.out.2 hbel hl2)
    obtain ⟨x0, x1, _, _, _⟩ := blk2cells HBM.out
    obtain ⟨y0, y1, fy0, fy1, _⟩ := blk2cells HBR.out
    obtain ⟨z0, z1, fz0, fz1, lz⟩ := blk2cells hbo
    obtain ⟨Av, cv, rfl, _, _, _⟩ := owns_shape hoo
    have HO := Lib.hid hoo
    have HBO := Lib.hid hbo
    have HBL := Lib.hid hbel
    have HRr := Lib.hid (HR.out.below (HB.out.trans (hbel.mono hs1)))
    clear hoo hbo hbel
    by_cases hlt : k < c
    · have hlti : (k : Int) < (c : Int) := by omega
      go_wp2_with fail
      obtain ⟨wq, hwq⟩ : ∃ wq, wq = wr := ⟨_, rfl⟩
      subst hwq
      go_loop [5, 6] (fun r i => ∃ m : Nat, m ≤ n ∧ i = .int .i64 m ∧ r = .int .i64 (colF S k m : Nat)) (fun _ i => n - (intOf i).toNat)
      case atStart => exact ⟨0, by omega, rfl, rfl⟩
      case round =>
        obtain ⟨m, hm, rfl, rfl⟩ := hrel
        by_cases hlm : m < n
        · have hmL : m < S.length := by rw [← Hn.out]; exact hlm
          have hlmi : (m : Int) < (n : Int) := by omega
          obtain ⟨b, o, rfl, hcc⟩ := HRr.out.atN hmL
          have h1 : Sm (colF S k m) := colF_sm S k (by omega)
          have h2 : Sm (S.getD m 0) := HS.out _ (getD_mem hmL)
          have HC : Hid (colF S k (m + 1) = orr (colF S k m) (bitP (S.getD m 0) k m)) := Lib.hid rfl
          generalize colF S k m = p at *
          generalize S.getD m 0 = q at *
          have h3 : Sm (bitP q k m) := by
            unfold bitP
            split
            · exact pw_sm (p := m) (by omega)
            · exact Sm.zero
          have hmin : min k 64 = k := by omega
          have hmin2 : min m 64 = m := by omega
          have hm60 : m ≤ 60 := by omega
          go_wp2_with fail
          go_round
          case rel => exact ⟨m + 1, by omega, by go_num, by rw [HC.out]⟩
          case measure => simp [intOf]; omega
        · have hlmi : ¬ (m : Int) < (n : Int) := by omega
          have em : m = S.length := by rw [← Hn.out]; omega
          have HP : Hid ((List.range (k + 1)).map (fun j => colF S j S.length) = (List.range k).map (fun j => colF S j S.length) ++ [colF S k S.length]) := Lib.hid (by rw [List.range_succ, List.map_append]; rfl)
          subst em
          clear hm hlm
          generalize colF S k S.length = yv at *
          generalize (List.range k).map (fun j => colF S j S.length) = P at *
          go_wp2_with (at_builtin; refine wpList_app1 _ _ _ _ _ etI (by rfl) (by rfl) W1.heap.size (.slice Av k cv) k (nv P) (by rfl) ?_ _ (.int .i64 (yv : Int)) (by rfl) ?_ (by rfl) ?_ ?_ ?_; exact HO.out.alloc _; exact new_cell _ _ _; omega; (simp; omega); (intro g2 cap2 w3 hown3 hg3 hat3 hlt3; have HQ := Lib.hid (OutAt.app (by omega) HBO.out HO.out hown3 hg3); have hb4 := blk2cells (blk_grown (blk_alloc HBO.out (.cells #[.int .i64 (yv : Int)] 2)) hg3 (own_ne HO.out HBO.out (by decide))); obtain ⟨p0, p1, pf0, pf1, pl⟩ := hb4; clear hown3 hg3 hat3 hlt3))
          go_roundw
          case rel =>
            obtain ⟨q1, q2⟩ := HQ.out
            exact ⟨k + 1, by omega, by go_num, by rw [HP.out]; exact q1, HBL.out.trans q2⟩
          case measure => simp [intOf]; omega
    · have hlti : ¬ (k : Int) < (c : Int) := by omega
      have e0 : k = c := by omega
      subst e0
      clear hlt hk
      go_wp2_with fail
      refine bodyPost_ret (v := .agg #[.int .i64 n, .slice Av k cv]) ?_ rfl ⟨_, rfl, ?_, ?_⟩
      · simp [results, Tryd.results83, go_sem, y0, y1]
      · refine owns_keeps HO.out (((Keeps.refl wr [some (w.heap.size + 1)]).setCell (p := ⟨w.heap.size + 1, 0, none⟩) (by simp) _).setCell (p := ⟨w.heap.size + 1, 1, none⟩) (by simp) _) (.inr ?_) |>.mono (by omega)
        simp only [List.mem_singleton]
        exact own_ne HO.out HBR.out (by decide)
      · exact ((HB.out.trans (HBL.out.mono hs1)).setCell (p := ⟨w.heap.size + 1, 0, none⟩) (by simp) _).setCell (p := ⟨w.heap.size + 1, 1, none⟩) (by simp) _
end Go.Proofs.YtjhlmalpcelbaaaDoor

namespace Go.Proofs.YtjhlmalpcelbaaaDoor
open Go.RowKit

theorem upd_next {f h : Nat → Nat} {c j : Nat} (_hj : j < c) : (((List.range c).map fun t => if t < j then f t else h t).set j (f j)) = (List.range c).map fun t => if t < j + 1 then f t else h t := by
  refine List.ext_getElem (by simp) fun t h1 h2 => ?_
  simp only [List.getElem_set, List.getElem_map, List.getElem_range]
  by_cases e : j = t
  · subst e; simp
  · rw [if_neg e]
    by_cases h3 : t < j
    · rw [if_pos h3, if_pos (by omega)]
    · rw [if_neg h3, if_neg (by omega)]
theorem upd_all {f h : Nat → Nat} {c : Nat} : ((List.range c).map fun t => if t < c then f t else h t) = (List.range c).map f := by
  refine List.map_congr_left fun t ht => ?_
  rw [if_pos (List.mem_range.1 ht)]
theorem upd_none {f h : Nat → Nat} {c : Nat} : ((List.range c).map fun t => if t < 0 then f t else h t) = (List.range c).map h := by
  refine List.map_congr_left fun t _ => ?_
  rw [if_neg (by omega)]
theorem upd_get {f h : Nat → Nat} {c j : Nat} (hj : j < c) : ((nv ((List.range c).map fun t => if t < j then f t else h t))[j]?) = some (.int .i64 (h j : Nat)) := by
  simp [nv, hj]

attribute [local go_sem] i64_or_nat i64_bit_nat bit_shl in
set_option maxRecDepth 100000 in
set_option maxHeartbeats 4000000 in
theorem transposed_any (c : Nat) (A : Option Addr) (n cap : Nat) (S : List Nat) (w : World) (hn : n = S.length) (hsm : n ≤ 60) (hc : c ≤ 60) (hS : ∀ r ∈ S, Sm r) (hR : Rd w A (nv S)) :
    Calls Tryd.prog 81 #[.slice A n cap, .int .i64 c] w fun e w' => ∃ v, e = .returned v ∧ w'.ownsRow w.heap.size 2 1 v c (nv (turnS S c)) ∧ Below w.heap.size w w' := by
  have HR := Lib.hid hR
  have Hn := Lib.hid hn
  have HS := Lib.hid hS
  have hmk := run_make_row' (P := Tryd.prog) 24 2 (.int .i64 0) 8 Tryd.underlying24 infoI rfl .i64 .i64 c (by omega) (by omega)
  have HO0 : Hid ((w.alloc (.cells (madeCells #[.int .i64 0] c) 2)).ownsRow w.heap.size 2 1 (.slice (some ⟨w.heap.size, 0, none⟩) c c) c (nv ((List.range c).map fun j => colF S j 0))) := Lib.hid (by
    have e : (List.range c).map (fun j => colF S j 0) = List.replicate c 0 := by
      refine List.ext_getElem (by simp) fun t h1 h2 => ?_
      simp [colF]
    rw [e]
    refine ⟨by simp [nv], .inr ⟨w.heap.size, c, _, rfl, Nat.le_refl _, blk_new w _, Nat.le_refl _, by unfold maxLen; omega, by simp [madeCells], ?_⟩⟩
    have := iv_replicate c
    rw [show nv (List.replicate c 0) = iv (List.replicate c 0) by simp [nv, iv], ← this]
    rw [List.take_of_length_le (by simp [madeCells])])
  clear hR hn hS
  go_enter Tryd.func81, Tryd.ntmps81
  go_wp2_with fail
  clear hmk
  generalize hg : w.heap.size = g at *
  go_loopw [13] (fun i wr => ∃ m : Nat, m ≤ n ∧ i = .int .i64 m ∧ wr.ownsRow g 2 1 (.slice (some ⟨g, 0, none⟩) c c) c (nv ((List.range c).map fun j => colF S j m)) ∧ Below g w wr) (fun i _ => n - (intOf i).toNat)
  case atStart => exact ⟨0, by omega, rfl, HO0.out, by rw [← hg]; exact (Below.refl _ _).alloc (Nat.le_refl _) _⟩
  case round =>
    obtain ⟨m, hm, rfl, hoo, hbel⟩ := hrel
    obtain ⟨wv, hwv⟩ : ∃ wv, wv = wr := ⟨_, rfl⟩
    subst hwv
    have HO := Lib.hid hoo
    have HBL := Lib.hid hbel
    clear hoo hbel
    by_cases hlm : m < n
    · have hmL : m < S.length := by rw [← Hn.out]; exact hlm
      have hlmi : (m : Int) < (n : Int) := by omega
      obtain ⟨b, o, rfl, hcc⟩ := (HR.out.below HBL.out (Nat.le_of_eq hg)).atN hmL
      have h2 : Sm (S.getD m 0) := HS.out _ (getD_mem hmL)
      have HC : Hid (∀ j, colF S j (m + 1) = orr (colF S j m) (bitP (S.getD m 0) j m)) := Lib.hid fun _ => rfl
      generalize S.getD m 0 = q at *
      go_wp2_with fail
      go_loopw [20] (fun i wr => ∃ j : Nat, j ≤ c ∧ i = .int .i64 j ∧ wr.ownsRow g 2 1 (.slice (some ⟨g, 0, none⟩) c c) c (nv ((List.range c).map fun t => if t < j then colF S t (m + 1) else colF S t m)) ∧ Below g w wr) (fun i _ => c - (intOf i).toNat)
      case atStart => exact ⟨0, by omega, rfl, by rw [upd_none]; exact HO.out, HBL.out⟩
      case round =>
        obtain ⟨j, hj, rfl, hoo, hbel⟩ := hrel
        have HOI := Lib.hid hoo
        have HBI := Lib.hid hbel
        clear hoo hbel
        by_cases hlj : j < c
        · have hlji : (j : Int) < (c : Int) := by omega
          have h1 : Sm (colF S j m) := colF_sm S j (by omega)
          have hcell : wr.cell? ⟨g, j, none⟩ = some (.int .i64 (colF S j m : Nat)) := by
            have := HOI.out.cellAt j (by simpa using hlj)
            rw [upd_get hlj] at this
            exact this
          have hfz := HOI.out.frozenAt j
          have HX := Lib.hid (HC.out j)
          have HU := Lib.hid (upd_next (f := fun t => colF S t (m + 1)) (h := fun t => colF S t m) hlj)
          have h3 : Sm (bitP q j m) := by
            unfold bitP
            split
            · exact pw_sm (p := m) (by omega)
            · exact Sm.zero
          have hmin : min j 64 = j := by omega
          have hmin2 : min m 64 = m := by omega
          have hm60 : m ≤ 60 := by omega
          obtain ⟨p, hp⟩ : ∃ p, p = colF S j m := ⟨_, rfl⟩
          rw [← hp] at hcell h1
          have HPP := Lib.hid hp
          clear hp
          go_wp2_with fail
          refine wp_region_K (S := (fun w' => w'.cell? ⟨g, j, none⟩ = some (.int .i64 (p : Int)))) 11 (by kernel_rfl) (by exact hcell) (fun hHeld => ?_)
          refine wpAnyK_take (i := 0) (oi := ?oik1_1) (v := ?vk1_1) ?hk1_1 (by kernel_rfl) (by kernel_rfl) (by kernel_rfl) (by kernel_rfl) ?qk1_1 (Or.inl ⟨?wk1_1, ?yk1_1⟩) (by assumption) ?rk1_1
          case hk1_1 => (simp only [List.getElem?_toArray, List.getElem?_cons_succ, List.getElem?_cons_zero]; rfl)
          case qk1_1 => exact fun _ _ _ h => h
          case wk1_1 => rfl
          case yk1_1 => (intro w hSw; (try dsimp only at hSw); go_simp <;> with_reducible rfl)
          try simp only [Act.put, List.setIfInBounds_toArray, List.set_cons_zero, List.set_cons_succ]
          refine wpAnyK_take (i := 1) (oi := ?oik1_2) (v := ?vk1_2) ?hk1_2 (by kernel_rfl) (by kernel_rfl) (by kernel_rfl) (by kernel_rfl) ?qk1_2 (Or.inl ⟨?wk1_2, ?yk1_2⟩) (by assumption) ?rk1_2
          case hk1_2 => (simp only [List.getElem?_toArray, List.getElem?_cons_succ, List.getElem?_cons_zero]; rfl)
          case qk1_2 => exact fun _ _ _ h => h
          case wk1_2 => rfl
          case yk1_2 => (intro w hSw; (try dsimp only at hSw); go_simp <;> with_reducible rfl)
          try simp only [Act.put, List.setIfInBounds_toArray, List.set_cons_zero, List.set_cons_succ]
          refine wpAnyK_take (i := 2) (oi := ?oik1_3) (v := ?vk1_3) ?hk1_3 (by kernel_rfl) (by kernel_rfl) (by kernel_rfl) (by kernel_rfl) ?qk1_3 (Or.inl ⟨?wk1_3, ?yk1_3⟩) (by assumption) ?rk1_3
          case hk1_3 => (simp only [List.getElem?_toArray, List.getElem?_cons_succ, List.getElem?_cons_zero]; rfl)
          case qk1_3 => exact fun _ _ _ h => h
          case wk1_3 => rfl
          case yk1_3 => (intro w hSw; (try dsimp only at hSw); go_simp <;> with_reducible rfl)
          try simp only [Act.put, List.setIfInBounds_toArray, List.set_cons_zero, List.set_cons_succ]
          refine wpAnyK_take (i := 3) (oi := ?oik1_4) (v := ?vk1_4) ?hk1_4 (by kernel_rfl) (by kernel_rfl) (by kernel_rfl) (by kernel_rfl) ?qk1_4 (Or.inl ⟨?wk1_4, ?yk1_4⟩) (by assumption) ?rk1_4
          case hk1_4 => (simp only [List.getElem?_toArray, List.getElem?_cons_succ, List.getElem?_cons_zero]; rfl)
          case qk1_4 => exact fun _ _ _ h => h
          case wk1_4 => rfl
          case yk1_4 => (intro w hSw; (try dsimp only at hSw); go_simp <;> with_reducible rfl)
          try simp only [Act.put, List.setIfInBounds_toArray, List.set_cons_zero, List.set_cons_succ]
          refine wpAnyK_take (i := 4) (oi := ?oik1_5) (v := ?vk1_5) ?hk1_5 (by kernel_rfl) (by kernel_rfl) (by kernel_rfl) (by kernel_rfl) ?qk1_5 (Or.inl ⟨?wk1_5, ?yk1_5⟩) (by assumption) ?rk1_5
          case hk1_5 => (simp only [List.getElem?_toArray, List.getElem?_cons_succ, List.getElem?_cons_zero]; rfl)
          case qk1_5 => exact fun _ _ _ h => h
          case wk1_5 => rfl
          case yk1_5 => (intro w hSw; (try dsimp only at hSw); go_simp <;> with_reducible rfl)
          try simp only [Act.put, List.setIfInBounds_toArray, List.set_cons_zero, List.set_cons_succ]
          refine wpAnyK_take (i := 5) (oi := ?oik1_6) (v := ?vk1_6) ?hk1_6 (by kernel_rfl) (by kernel_rfl) (by kernel_rfl) (by kernel_rfl) ?qk1_6 (Or.inl ⟨?wk1_6, ?yk1_6⟩) (by assumption) ?rk1_6
          case hk1_6 => (simp only [List.getElem?_toArray, List.getElem?_cons_succ, List.getElem?_cons_zero]; rfl)
          case qk1_6 => exact fun _ _ _ h => h
          case wk1_6 => rfl
          case yk1_6 => (intro w hSw; (try dsimp only at hSw); go_simp <;> with_reducible rfl)
          try simp only [Act.put, List.setIfInBounds_toArray, List.set_cons_zero, List.set_cons_succ]
          refine wpAnyK_take (i := 6) (oi := ?oik1_7) (v := ?vk1_7) ?hk1_7 (by kernel_rfl) (by kernel_rfl) (by kernel_rfl) (by kernel_rfl) ?qk1_7 (Or.inl ⟨?wk1_7, ?yk1_7⟩) (by assumption) ?rk1_7
          case hk1_7 => (simp only [List.getElem?_toArray, List.getElem?_cons_succ, List.getElem?_cons_zero]; rfl)
          case qk1_7 => exact fun _ _ _ h => h
          case wk1_7 => rfl
          case yk1_7 => (intro w hSw; (try dsimp only at hSw); go_simp <;> with_reducible rfl)
          try simp only [Act.put, List.setIfInBounds_toArray, List.set_cons_zero, List.set_cons_succ]
          refine wpAnyK_take (i := 7) (oi := ?oik1_8) (v := ?vk1_8) ?hk1_8 (by kernel_rfl) (by kernel_rfl) (by kernel_rfl) (by kernel_rfl) ?qk1_8 (Or.inl ⟨?wk1_8, ?yk1_8⟩) (by assumption) ?rk1_8
          case hk1_8 => (simp only [List.getElem?_toArray, List.getElem?_cons_succ, List.getElem?_cons_zero]; rfl)
          case qk1_8 => exact fun _ _ _ h => h
          case wk1_8 => rfl
          case yk1_8 => (intro w hSw; (try dsimp only at hSw); go_simp <;> with_reducible rfl)
          try simp only [Act.put, List.setIfInBounds_toArray, List.set_cons_zero, List.set_cons_succ]
          refine wpAnyK_take (i := 8) (oi := ?oik1_9) (v := ?vk1_9) ?hk1_9 (by kernel_rfl) (by kernel_rfl) (by kernel_rfl) (by kernel_rfl) ?qk1_9 (Or.inl ⟨?wk1_9, ?yk1_9⟩) (by assumption) ?rk1_9
          case hk1_9 => (simp only [List.getElem?_toArray, List.getElem?_cons_succ, List.getElem?_cons_zero]; rfl)
          case qk1_9 => exact fun _ _ _ h => h
          case wk1_9 => rfl
          case yk1_9 => (intro w hSw; (try dsimp only at hSw); go_simp <;> with_reducible rfl)
          try simp only [Act.put, List.setIfInBounds_toArray, List.set_cons_zero, List.set_cons_succ]
          refine wpAnyK_take (i := 9) (oi := ?oik1_10) (v := ?vk1_10) ?hk1_10 (by kernel_rfl) (by kernel_rfl) (by kernel_rfl) (by kernel_rfl) ?qk1_10 (Or.inl ⟨?wk1_10, ?yk1_10⟩) (by assumption) ?rk1_10
          case hk1_10 => (simp only [List.getElem?_toArray, List.getElem?_cons_succ, List.getElem?_cons_zero]; rfl)
          case qk1_10 => exact fun _ _ _ h => h
          case wk1_10 => rfl
          case yk1_10 => (intro w hSw; (try dsimp only at hSw); go_simp <;> with_reducible rfl)
          try simp only [Act.put, List.setIfInBounds_toArray, List.set_cons_zero, List.set_cons_succ]
          refine wpAnyK_take (i := 10) (oi := ?oik1_11) (v := ?vk1_11) ?hk1_11 (by kernel_rfl) (by kernel_rfl) (by kernel_rfl) (by kernel_rfl) ?qk1_11 (Or.inl ⟨?wk1_11, ?yk1_11⟩) (by assumption) ?rk1_11
          case hk1_11 => (simp only [List.getElem?_toArray, List.getElem?_cons_succ, List.getElem?_cons_zero]; rfl)
          case qk1_11 => exact fun _ _ _ h => h
          case wk1_11 => rfl
          case yk1_11 => (intro w hSw; (try dsimp only at hSw); go_simp <;> with_reducible rfl)
          try simp only [Act.put, List.setIfInBounds_toArray, List.set_cons_zero, List.set_cons_succ]
          refine wpAnyK_ready (rs := [11]) (by kernel_rfl) (by simp) ?_
          refine AllReadyK.fin (o := ?oik1_12) (by decide) ?hk1_12 (fun K hK => ?kk1_12) ?mk1_12
          case hk1_12 => (simp only [List.getElem?_toArray, List.getElem?_cons_succ, List.getElem?_cons_zero]; rfl)
          case kk1_12 =>
            go_simp
            refine hK.out _ _ ?_
            clear hK K
            try simp only [Act.put, List.setIfInBounds_toArray, List.set_cons_zero, List.set_cons_succ]
            refine wpAnyK_ready (rs := [12]) (by kernel_rfl) (by simp) ?_
            refine AllReadyK.fin (o := ?oik1_13) (by decide) ?hk1_13 (fun K hK => ?kk1_13) ?mk1_13
            case hk1_13 => (simp only [List.getElem?_toArray, List.getElem?_cons_succ, List.getElem?_cons_zero]; rfl)
            case kk1_13 =>
              go_simp
              refine hK.out _ _ ?_
              clear hK K
              try simp only [Act.put, List.setIfInBounds_toArray, List.set_cons_zero, List.set_cons_succ]
              refine wpAnyK_done (by kernel_rfl) ?_ _
              go_wp2_with fail
              go_roundw
              case rel =>
                refine ⟨j + 1, by omega, by go_num, ?_, ?_⟩
                · have := (World.ownsRow.stored HOI.out j (.int .i64 (colF S j (m + 1) : Nat))).1
                  rw [← nv_set, HU.out, HX.out, ← HPP.out] at this
                  exact this
                · exact (HBI.out.setCell (p := ⟨g, j, none⟩) (Nat.le_refl _) _).drew
              case measure => simp [intOf]; omega
            exact AllReadyK.nil
          exact AllReadyK.nil
        · have hlji : ¬ (j : Int) < (c : Int) := by omega
          have e0 : j = c := by omega
          subst e0
          go_wp2_with fail
          go_roundw
          case rel => exact ⟨m + 1, by omega, by go_num, by have := HOI.out; rw [upd_all] at this; exact this, HBI.out⟩
          case measure => simp [intOf]; omega
    · have hlmi : ¬ (m : Int) < (n : Int) := by omega
      have em : m = S.length := by rw [← Hn.out]; omega
      subst em
      go_wp2_with fail
      go_ret
      exact ⟨_, rfl, HO.out, HBL.out⟩
end Go.Proofs.YtjhlmalpcelbaaaDoor

namespace Go.Proofs.YtjhlmalpcelbaaaDoor
open Go.RowKit

/-- what TransposeOf answers -/
def turnOf (c : Int) (xs : List Int) : Int × List Nat × Int := if fewOf c xs = 0 then (xs.length, turnS (toN xs) c.toNat, 0) else (0, [], fewOf c xs)
theorem fewOf_zeroB {c : Int} {xs : List Int} (h : fewOf c xs = 0) : isMat c xs = true ∧ xs.length ≤ 60 := by
  unfold fewOf at h
  split at h
  · rename_i hi
    split at h
    · cases h
    · exact ⟨hi, by omega⟩
  · cases h

set_option maxRecDepth 100000 in
set_option maxHeartbeats 4000000 in
theorem implTurn_any (c : Int) (A : Option Addr) (n cap : Nat) (xs : List Int) (w : World) (hn : n = xs.length) (hsm : n ≤ 1099511627776) (hR : Rd w A (iv xs)) :
    Calls Tryd.prog 35 #[.agg #[.int .i64 c, .slice A n cap]] w fun e w' =>
      ∃ v, e = .returned (.tuple #[.agg #[.int .i64 (turnOf c xs).1, v], .int .i64 (turnOf c xs).2.2]) ∧ w'.ownsRow w.heap.size 2 1 v (turnOf c xs).2.1.length (nv (turnOf c xs).2.1) ∧ Below w.heap.size w w' := by
  have hb1 := blk_alloc (blk_new w (.cells #[.int .i64 c, .slice A n cap] 26)) (.cells #[.int .i64 0, .slice none 0 0] 26)
  have hb2 := blk_new1 w (.cells #[.int .i64 c, .slice A n cap] 26) (.cells #[.int .i64 0, .slice none 0 0] 26)
  have hbel : Below w.heap.size w ((w.alloc (.cells #[.int .i64 c, .slice A n cap] 26)).alloc (.cells #[.int .i64 0, .slice none 0 0] 26)) := ((Below.refl _ _).alloc (Nat.le_refl _) _).alloc (by simp) _
  have h1 := narrow_any c A n cap xs _ hn hsm (hR.below hbel)
  have HK := Lib.hid (And.intro hb1 hb2)
  have HB := Lib.hid hbel
  have HR := Lib.hid hR
  have Hn := Lib.hid hn
  clear hb1 hb2 hbel hR hn
  by_cases h0 : fewOf c xs = 0
  · rw [h0] at h1
    have H1 := Lib.hid h1
    obtain ⟨hi, hl60⟩ := fewOf_zeroB h0
    have HSx := Lib.hid (isMat_sm hi)
    have HRx : Hid (Rd w A (nv (toN xs))) := by have := HR.out; rw [iv_toN (fun x hx => (isMat_nonneg hi x hx).1)] at this; exact this
    have Lx := Lib.hid (toN_len xs)
    obtain ⟨d, rfl, hd60⟩ := isMat_cols hi
    have HE : Hid (turnOf d xs = ((n : Int), turnS (toN xs) d, 0)) := by show _ = _; unfold turnOf; rw [if_pos h0, Hn.out]; rfl
    have hn60 : n ≤ 60 := by have := Hn.out; omega
    clear h1 h0 hi hl60
    go_enter Tryd.func35, Tryd.ntmps35
    go_wp2_with fail
    refine H1.out.mono ?_
    rintro e w1 ⟨rfl, hb⟩
    have hk1 := blk_keep HK.out.1 hb
    have hk2 := blk_keep HK.out.2 hb
    have HK1 := Lib.hid (And.intro hk1 hk2)
    obtain ⟨x0, x1, _, _, hlx⟩ := blk2cells hk1
    obtain ⟨y0, y1, fy0, fy1, hly⟩ := blk2cells hk2
    have HB1 := Lib.hid (HB.out.trans (hb.mono HB.out.size))
    have hs1 := HB1.out.size
    clear hb hk1 hk2
    go_wp2_with fail
    refine wp_region_K (S := (fun w' => w'.cell? ⟨w.heap.size, 0, none⟩ = some (.int .i64 d) ∧ w'.cell? ⟨w.heap.size, 1, none⟩ = some (.slice A n cap))) 9 (by kernel_rfl) (by (first | exact ⟨x0, x1⟩ | exact ⟨(blk2cells HBX.out).1, (blk2cells HBX.out).2.1⟩)) (fun hHeld => ?_)
    refine wpAnyK_take (i := 0) (oi := ?oik1_1) (v := ?vk1_1) ?hk1_1 (by kernel_rfl) (by kernel_rfl) (by kernel_rfl) (by kernel_rfl) ?qk1_1 (Or.inl ⟨?wk1_1, ?yk1_1⟩) (by assumption) ?rk1_1
    case hk1_1 => (simp only [List.getElem?_toArray, List.getElem?_cons_succ, List.getElem?_cons_zero]; rfl)
    case qk1_1 => exact fun _ _ _ h => h
    case wk1_1 => rfl
    case yk1_1 => (intro w hSw; (try dsimp only at hSw); go_simp <;> with_reducible rfl)
    try simp only [Act.put, List.setIfInBounds_toArray, List.set_cons_zero, List.set_cons_succ]
    refine wpAnyK_take (i := 1) (oi := ?oik1_2) (v := ?vk1_2) ?hk1_2 (by kernel_rfl) (by kernel_rfl) (by kernel_rfl) (by kernel_rfl) ?qk1_2 (Or.inl ⟨?wk1_2, ?yk1_2⟩) (by assumption) ?rk1_2
    case hk1_2 => (simp only [List.getElem?_toArray, List.getElem?_cons_succ, List.getElem?_cons_zero]; rfl)
    case qk1_2 => exact fun _ _ _ h => h
    case wk1_2 => rfl
    case yk1_2 => (intro w hSw; (try dsimp only at hSw); go_simp <;> with_reducible rfl)
    try simp only [Act.put, List.setIfInBounds_toArray, List.set_cons_zero, List.set_cons_succ]
    refine wpAnyK_take (i := 3) (oi := ?oik1_3) (v := ?vk1_3) ?hk1_3 (by kernel_rfl) (by kernel_rfl) (by kernel_rfl) (by kernel_rfl) ?qk1_3 (Or.inl ⟨?wk1_3, ?yk1_3⟩) (by assumption) ?rk1_3
    case hk1_3 => (simp only [List.getElem?_toArray, List.getElem?_cons_succ, List.getElem?_cons_zero]; rfl)
    case qk1_3 => exact fun _ _ _ h => h
    case wk1_3 => rfl
    case yk1_3 => (intro w hSw; (try dsimp only at hSw); go_simp <;> with_reducible rfl)
    try simp only [Act.put, List.setIfInBounds_toArray, List.set_cons_zero, List.set_cons_succ]
    refine wpAnyK_take (i := 4) (oi := ?oik1_4) (v := ?vk1_4) ?hk1_4 (by kernel_rfl) (by kernel_rfl) (by kernel_rfl) (by kernel_rfl) ?qk1_4 (Or.inl ⟨?wk1_4, ?yk1_4⟩) (by assumption) ?rk1_4
    case hk1_4 => (simp only [List.getElem?_toArray, List.getElem?_cons_succ, List.getElem?_cons_zero]; rfl)
    case qk1_4 => exact fun _ _ _ h => h
    case wk1_4 => rfl
    case yk1_4 => (intro w hSw; (try dsimp only at hSw); go_simp <;> with_reducible rfl)
    try simp only [Act.put, List.setIfInBounds_toArray, List.set_cons_zero, List.set_cons_succ]
    refine wpAnyK_take (i := 5) (oi := ?oik1_5) (v := ?vk1_5) ?hk1_5 (by kernel_rfl) (by kernel_rfl) (by kernel_rfl) (by kernel_rfl) ?qk1_5 (Or.inl ⟨?wk1_5, ?yk1_5⟩) (by assumption) ?rk1_5
    case hk1_5 => (simp only [List.getElem?_toArray, List.getElem?_cons_succ, List.getElem?_cons_zero]; rfl)
    case qk1_5 => exact fun _ _ _ h => h
    case wk1_5 => rfl
    case yk1_5 => (intro w hSw; (try dsimp only at hSw); go_simp <;> with_reducible rfl)
    try simp only [Act.put, List.setIfInBounds_toArray, List.set_cons_zero, List.set_cons_succ]
    refine wpAnyK_take (i := 6) (oi := ?oik1_6) (v := ?vk1_6) ?hk1_6 (by kernel_rfl) (by kernel_rfl) (by kernel_rfl) (by kernel_rfl) ?qk1_6 (Or.inl ⟨?wk1_6, ?yk1_6⟩) (by assumption) ?rk1_6
    case hk1_6 => (simp only [List.getElem?_toArray, List.getElem?_cons_succ, List.getElem?_cons_zero]; rfl)
    case qk1_6 => exact fun _ _ _ h => h
    case wk1_6 => rfl
    case yk1_6 => (intro w hSw; (try dsimp only at hSw); go_simp <;> with_reducible rfl)
    try simp only [Act.put, List.setIfInBounds_toArray, List.set_cons_zero, List.set_cons_succ]
    refine wpAnyK_ready (rs := [2, 7]) (by kernel_rfl) (by simp) ?_
    refine AllReadyK.cons (o := ?oik1_7) ?hk1_7 (fun K hK => ?kk1_7) ?mk1_7
    case hk1_7 => (simp only [List.getElem?_toArray, List.getElem?_cons_succ, List.getElem?_cons_zero]; rfl)
    case kk1_7 =>
      go_simp
      refine hK.out _ _ (by (first | exact ⟨x0, x1⟩ | exact ⟨(blk2cells HBX.out).1, (blk2cells HBX.out).2.1⟩)) (fun hHeld => ?_)
      clear hK K
      try simp only [Act.put, List.setIfInBounds_toArray, List.set_cons_zero, List.set_cons_succ]
      refine wpAnyK_ready (rs := [7]) (by kernel_rfl) (by simp) ?_
      refine AllReadyK.cons (o := ?oik1_8) ?hk1_8 (fun K hK => ?kk1_8) ?mk1_8
      case hk1_8 => (simp only [List.getElem?_toArray, List.getElem?_cons_succ, List.getElem?_cons_zero]; rfl)
      case kk1_8 =>
        go_simp
        (go_at_call 81; refine (transposed_any d A n cap (toN xs) w1.drew (by rw [Lx.out, Hn.out]) hn60 hd60 HSx.out (HRx.out.below HB1.out.drew)).mono ?_; rintro e w2 ⟨v, rfl, ho, hb⟩; have hb : Below w1.heap.size w1 w2 := Below.trans ((Below.refl w1.heap.size w1).drew) hb; have HO := Lib.hid ho; have HBR := Lib.hid (blk_keep HK1.out.2 hb); have HBX := Lib.hid (blk_keep HK1.out.1 hb); have HB2 := Lib.hid (HB1.out.trans (hb.mono hs1)); (obtain ⟨Av, cv, rfl, _, _, _⟩ := owns_shape ho); clear y0 y1 fy0 fy1; (obtain ⟨y0, y1, fy0, fy1, _⟩ := blk2cells HBR.out); clear ho hb)
        refine hK.out _ _ (by (first | exact ⟨x0, x1⟩ | exact ⟨(blk2cells HBX.out).1, (blk2cells HBX.out).2.1⟩)) (fun hHeld => ?_)
        clear hK K
        try simp only [Act.put, List.setIfInBounds_toArray, List.set_cons_zero, List.set_cons_succ]
        refine wpAnyK_take (i := 8) (oi := ?oik1_9) (v := ?vk1_9) ?hk1_9 (by kernel_rfl) (by kernel_rfl) (by kernel_rfl) (by kernel_rfl) ?qk1_9 (Or.inl ⟨?wk1_9, ?yk1_9⟩) (by assumption) ?rk1_9
        case hk1_9 => (simp only [List.getElem?_toArray, List.getElem?_cons_succ, List.getElem?_cons_zero]; rfl)
        case qk1_9 => exact fun _ _ _ h => h
        case wk1_9 => rfl
        case yk1_9 => (intro w hSw; (try dsimp only at hSw); go_simp <;> with_reducible rfl)
        try simp only [Act.put, List.setIfInBounds_toArray, List.set_cons_zero, List.set_cons_succ]
        refine wpAnyK_ready (rs := [9]) (by kernel_rfl) (by simp) ?_
        refine AllReadyK.fin (o := ?oik1_10) (by decide) ?hk1_10 (fun K hK => ?kk1_10) ?mk1_10
        case hk1_10 => (simp only [List.getElem?_toArray, List.getElem?_cons_succ, List.getElem?_cons_zero]; rfl)
        case kk1_10 =>
          go_simp
          refine hK.out _ _ ?_
          clear hK K
          try simp only [Act.put, List.setIfInBounds_toArray, List.set_cons_zero, List.set_cons_succ]
          refine wpAnyK_ready (rs := [10]) (by kernel_rfl) (by simp) ?_
          refine AllReadyK.fin (o := ?oik1_11) (by decide) ?hk1_11 (fun K hK => ?kk1_11) ?mk1_11
          case hk1_11 => (simp only [List.getElem?_toArray, List.getElem?_cons_succ, List.getElem?_cons_zero]; rfl)
          case kk1_11 =>
            go_simp
            refine hK.out _ _ ?_
            clear hK K
            try simp only [Act.put, List.setIfInBounds_toArray, List.set_cons_zero, List.set_cons_succ]
            refine wpAnyK_done (by kernel_rfl) ?_ _
            go_wp2_with fail
            refine bodyPost_ret (v := .tuple #[.agg #[.int .i64 n, .slice Av d cv], .int .i64 0]) ?_ rfl ⟨_, by rw [HE.out], ?_, ?_⟩
            · simp [results, Tryd.results35, go_sem, y0, y1]
            · rw [HE.out]
              refine own_cast (owns_keeps HO.out (((Keeps.refl w2 [some (w.heap.size + 1)]).setCell (p := ⟨w.heap.size + 1, 0, none⟩) (by simp) _).setCell (p := ⟨w.heap.size + 1, 1, none⟩) (by simp) _) (.inr ?_) |>.mono (by have : w1.drew.heap.size = w1.heap.size := rfl; omega)) (by simp [turnS_len]) rfl
              simp only [List.mem_singleton]
              exact own_ne HO.out HBR.out (by decide)
            · exact ((HB2.out.setCell (p := ⟨w.heap.size + 1, 0, none⟩) (by simp) _).setCell (p := ⟨w.heap.size + 1, 1, none⟩) (by simp) _)
          exact AllReadyK.nil
        exact AllReadyK.nil
      exact AllReadyK.nil
    refine AllReadyK.cons (o := ?oik1_12) ?hk1_12 (fun K hK => ?kk1_12) ?mk1_12
    case hk1_12 => (simp only [List.getElem?_toArray, List.getElem?_cons_succ, List.getElem?_cons_zero]; rfl)
    case kk1_12 =>
      go_simp
      (go_at_call 81; refine (transposed_any d A n cap (toN xs) w1.drew (by rw [Lx.out, Hn.out]) hn60 hd60 HSx.out (HRx.out.below HB1.out.drew)).mono ?_; rintro e w2 ⟨v, rfl, ho, hb⟩; have hb : Below w1.heap.size w1 w2 := Below.trans ((Below.refl w1.heap.size w1).drew) hb; have HO := Lib.hid ho; have HBR := Lib.hid (blk_keep HK1.out.2 hb); have HBX := Lib.hid (blk_keep HK1.out.1 hb); have HB2 := Lib.hid (HB1.out.trans (hb.mono hs1)); (obtain ⟨Av, cv, rfl, _, _, _⟩ := owns_shape ho); clear y0 y1 fy0 fy1; (obtain ⟨y0, y1, fy0, fy1, _⟩ := blk2cells HBR.out); clear ho hb)
      refine hK.out _ _ (by (first | exact ⟨x0, x1⟩ | exact ⟨(blk2cells HBX.out).1, (blk2cells HBX.out).2.1⟩)) (fun hHeld => ?_)
      clear hK K
      try simp only [Act.put, List.setIfInBounds_toArray, List.set_cons_zero, List.set_cons_succ]
      refine wpAnyK_ready (rs := [2]) (by kernel_rfl) (by simp) ?_
      refine AllReadyK.cons (o := ?oik1_13) ?hk1_13 (fun K hK => ?kk1_13) ?mk1_13
      case hk1_13 => (simp only [List.getElem?_toArray, List.getElem?_cons_succ, List.getElem?_cons_zero]; rfl)
      case kk1_13 =>
        go_simp
        refine hK.out _ _ (by (first | exact ⟨x0, x1⟩ | exact ⟨(blk2cells HBX.out).1, (blk2cells HBX.out).2.1⟩)) (fun hHeld => ?_)
        clear hK K
        try simp only [Act.put, List.setIfInBounds_toArray, List.set_cons_zero, List.set_cons_succ]
        refine wpAnyK_take (i := 8) (oi := ?oik1_14) (v := ?vk1_14) ?hk1_14 (by kernel_rfl) (by kernel_rfl) (by kernel_rfl) (by kernel_rfl) ?qk1_14 (Or.inl ⟨?wk1_14, ?yk1_14⟩) (by assumption) ?rk1_14
        case hk1_14 => (simp only [List.getElem?_toArray, List.getElem?_cons_succ, List.getElem?_cons_zero]; rfl)
        case qk1_14 => exact fun _ _ _ h => h
        case wk1_14 => rfl
        case yk1_14 => (intro w hSw; (try dsimp only at hSw); go_simp <;> with_reducible rfl)
        try simp only [Act.put, List.setIfInBounds_toArray, List.set_cons_zero, List.set_cons_succ]
        refine wpAnyK_ready (rs := [9]) (by kernel_rfl) (by simp) ?_
        refine AllReadyK.fin (o := ?oik1_15) (by decide) ?hk1_15 (fun K hK => ?kk1_15) ?mk1_15
        case hk1_15 => (simp only [List.getElem?_toArray, List.getElem?_cons_succ, List.getElem?_cons_zero]; rfl)
        case kk1_15 =>
          go_simp
          refine hK.out _ _ ?_
          clear hK K
          try simp only [Act.put, List.setIfInBounds_toArray, List.set_cons_zero, List.set_cons_succ]
          refine wpAnyK_ready (rs := [10]) (by kernel_rfl) (by simp) ?_
          refine AllReadyK.fin (o := ?oik1_16) (by decide) ?hk1_16 (fun K hK => ?kk1_16) ?mk1_16
          case hk1_16 => (simp only [List.getElem?_toArray, List.getElem?_cons_succ, List.getElem?_cons_zero]; rfl)
          case kk1_16 =>
            go_simp
            refine hK.out _ _ ?_
            clear hK K
            try simp only [Act.put, List.setIfInBounds_toArray, List.set_cons_zero, List.set_cons_succ]
            refine wpAnyK_done (by kernel_rfl) ?_ _
            go_wp2_with fail
            refine bodyPost_ret (v := .tuple #[.agg #[.int .i64 n, .slice Av d cv], .int .i64 0]) ?_ rfl ⟨_, by rw [HE.out], ?_, ?_⟩
            · simp [results, Tryd.results35, go_sem, y0, y1]
            · rw [HE.out]
              refine own_cast (owns_keeps HO.out (((Keeps.refl w2 [some (w.heap.size + 1)]).setCell (p := ⟨w.heap.size + 1, 0, none⟩) (by simp) _).setCell (p := ⟨w.heap.size + 1, 1, none⟩) (by simp) _) (.inr ?_) |>.mono (by have : w1.drew.heap.size = w1.heap.size := rfl; omega)) (by simp [turnS_len]) rfl
              simp only [List.mem_singleton]
              exact own_ne HO.out HBR.out (by decide)
            · exact ((HB2.out.setCell (p := ⟨w.heap.size + 1, 0, none⟩) (by simp) _).setCell (p := ⟨w.heap.size + 1, 1, none⟩) (by simp) _)
          exact AllReadyK.nil
        exact AllReadyK.nil
      exact AllReadyK.nil
    exact AllReadyK.nil
  · have HE : Hid (turnOf c xs = (0, [], fewOf c xs)) := by show _ = _; unfold turnOf; rw [if_neg h0]
    have H1 := Lib.hid h1
    clear h1
    generalize fewOf c xs = q at *
    have hqb : (q != 0) = true := by simpa using h0
    clear h0
    go_enter Tryd.func35, Tryd.ntmps35
    go_wp2_with fail
    refine H1.out.mono ?_
    rintro e w1 ⟨rfl, hb⟩
    obtain ⟨y0, y1, fy0, fy1, _⟩ := blk2cells (blk_keep HK.out.2 hb)
    have HB1 := Lib.hid (HB.out.trans (hb.mono HB.out.size))
    clear hb
    go_wp2_with fail
    refine bodyPost_ret (v := .tuple #[.agg #[.int .i64 0, .slice none 0 0], .int .i64 q]) ?_ rfl ⟨_, by rw [HE.out], by rw [HE.out]; exact World.ownsRow_nil _ _ _ _, ?_⟩
    · simp [results, Tryd.results35, go_sem, y0, y1]
    · exact (HB1.out.setCell (p := ⟨w.heap.size + 1, 0, none⟩) (by simp) _).setCell (p := ⟨w.heap.size + 1, 1, none⟩) (by simp) _

set_option maxRecDepth 100000 in
set_option maxHeartbeats 4000000 in
theorem specTurn_any (c : Int) (A : Option Addr) (n cap : Nat) (xs : List Int) (w : World) (hn : n = xs.length) (hsm : n ≤ 1099511627776) (hR : Rd w A (iv xs)) :
    Calls Tryd.prog 36 #[.agg #[.int .i64 c, .slice A n cap]] w fun e w' =>
      ∃ v, e = .returned (.tuple #[.agg #[.int .i64 (turnOf c xs).1, v], .int .i64 (turnOf c xs).2.2]) ∧ w'.ownsRow w.heap.size 2 1 v (turnOf c xs).2.1.length (nv (turnOf c xs).2.1) ∧ Below w.heap.size w w' := by
  have hb1 := blk_alloc (blk_new w (.cells #[.int .i64 c, .slice A n cap] 26)) (.cells #[.int .i64 0, .slice none 0 0] 26)
  have hb2 := blk_new1 w (.cells #[.int .i64 c, .slice A n cap] 26) (.cells #[.int .i64 0, .slice none 0 0] 26)
  have hbel : Below w.heap.size w ((w.alloc (.cells #[.int .i64 c, .slice A n cap] 26)).alloc (.cells #[.int .i64 0, .slice none 0 0] 26)) := ((Below.refl _ _).alloc (Nat.le_refl _) _).alloc (by simp) _
  have h1 := l02Few_any c A n cap xs _ hn hsm (hR.below hbel)
  have HK := Lib.hid (And.intro hb1 hb2)
  have HB := Lib.hid hbel
  have HR := Lib.hid hR
  have Hn := Lib.hid hn
  clear hb1 hb2 hbel hR hn
  by_cases h0 : fewOf c xs = 0
  · rw [h0] at h1
    have H1 := Lib.hid h1
    obtain ⟨hi, hl60⟩ := fewOf_zeroB h0
    have HSx := Lib.hid (isMat_sm hi)
    have HRx : Hid (Rd w A (nv (toN xs))) := by have := HR.out; rw [iv_toN (fun x hx => (isMat_nonneg hi x hx).1)] at this; exact this
    have Lx := Lib.hid (toN_len xs)
    obtain ⟨d, rfl, hd60⟩ := isMat_cols hi
    have HE : Hid (turnOf d xs = ((n : Int), turnS (toN xs) d, 0)) := by show _ = _; unfold turnOf; rw [if_pos h0, Hn.out]; rfl
    have hn60 : n ≤ 60 := by have := Hn.out; omega
    clear h1 h0 hi hl60
    go_enter Tryd.func36, Tryd.ntmps36
    go_wp2_with fail
    refine H1.out.mono ?_
    rintro e w1 ⟨rfl, hb⟩
    have hk1 := blk_keep HK.out.1 hb
    have hk2 := blk_keep HK.out.2 hb
    have HK1 := Lib.hid (And.intro hk1 hk2)
    obtain ⟨x0, x1, _, _, hlx⟩ := blk2cells hk1
    obtain ⟨y0, y1, fy0, fy1, hly⟩ := blk2cells hk2
    have HB1 := Lib.hid (HB.out.trans (hb.mono HB.out.size))
    have hs1 := HB1.out.size
    clear hb hk1 hk2
    go_wp2_with fail
    refine (turn_any d A n cap (toN xs) w1 (by rw [Lx.out, Hn.out]) hn60 hd60 HSx.out (HRx.out.below HB1.out)).mono ?_
    rintro e w2 ⟨v, rfl, ho, hb⟩
    have HO := Lib.hid ho
    have HBR := Lib.hid (blk_keep HK1.out.2 hb)
    have HBX := Lib.hid (blk_keep HK1.out.1 hb)
    have HB2 := Lib.hid (HB1.out.trans (hb.mono hs1))
    (obtain ⟨Av, cv, rfl, _, _, _⟩ := owns_shape ho)
    clear x0 x1 y0 y1 fy0 fy1
    (obtain ⟨y0, y1, fy0, fy1, _⟩ := blk2cells HBR.out)
    clear ho hb
    go_wp2_with fail
    refine bodyPost_ret (v := .tuple #[.agg #[.int .i64 n, .slice Av d cv], .int .i64 0]) ?_ rfl ⟨_, by rw [HE.out], ?_, ?_⟩
    · simp [results, Tryd.results36, go_sem, y0, y1]
    · rw [HE.out]
      refine own_cast (owns_keeps HO.out (((Keeps.refl w2 [some (w.heap.size + 1)]).setCell (p := ⟨w.heap.size + 1, 0, none⟩) (by simp) _).setCell (p := ⟨w.heap.size + 1, 1, none⟩) (by simp) _) (.inr ?_) |>.mono (by omega)) (by simp [turnS_len]) rfl
      simp only [List.mem_singleton]
      exact own_ne HO.out HBR.out (by decide)
    · exact ((HB2.out.setCell (p := ⟨w.heap.size + 1, 0, none⟩) (by simp) _).setCell (p := ⟨w.heap.size + 1, 1, none⟩) (by simp) _)
  · have HE : Hid (turnOf c xs = (0, [], fewOf c xs)) := by show _ = _; unfold turnOf; rw [if_neg h0]
    have H1 := Lib.hid h1
    clear h1
    generalize fewOf c xs = q at *
    have hqb : (q != 0) = true := by simpa using h0
    clear h0
    go_enter Tryd.func36, Tryd.ntmps36
    go_wp2_with fail
    refine H1.out.mono ?_
    rintro e w1 ⟨rfl, hb⟩
    obtain ⟨y0, y1, fy0, fy1, _⟩ := blk2cells (blk_keep HK.out.2 hb)
    have HB1 := Lib.hid (HB.out.trans (hb.mono HB.out.size))
    clear hb
    go_wp2_with fail
    refine bodyPost_ret (v := .tuple #[.agg #[.int .i64 0, .slice none 0 0], .int .i64 q]) ?_ rfl ⟨_, by rw [HE.out], by rw [HE.out]; exact World.ownsRow_nil _ _ _ _, ?_⟩
    · simp [results, Tryd.results36, go_sem, y0, y1]
    · exact (HB1.out.setCell (p := ⟨w.heap.size + 1, 0, none⟩) (by simp) _).setCell (p := ⟨w.heap.size + 1, 1, none⟩) (by simp) _
end Go.Proofs.YtjhlmalpcelbaaaDoor
