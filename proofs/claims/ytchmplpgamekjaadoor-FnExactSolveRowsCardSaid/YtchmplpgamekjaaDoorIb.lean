/- the reference's InverseMatrix -/
import Derived.Test.YtchmplpgamekjaaDoorIa
import Derived.Test.YtchmplpgamekjaaDoorV
namespace Go.Proofs.YtchmplpgamekjaaDoor
open Go.RowKit

/-- What InverseMatrix answers: columns, rows, code. -/
def invOf (c : Int) (xs : List Int) : Int × List Nat × Int :=
  if isMat c xs then
    if c = xs.length then
      if ∀ j, j < xs.length → (solL (toN xs) (2 ^ j)).1 = 0 then (c, (List.range xs.length).map fun j => (solL (toN xs) (2 ^ j)).2, 0) else (0, [], 5)
    else (0, [], 2)
  else (0, [], 1)

/-- a cell of a block of two stored, the block known whole -/
theorem blk2set1 {w : World} {g : Nat} {u v : Value} {t : TypeId} (h : w.heap[g]? = some (.cells #[u, v] t (0, 0))) (x : Value) : (w.setCell ⟨g, 1, none⟩ x).heap[g]? = some (.cells #[u, x] t (0, 0)) := by
  have := heap_setCell_same w g 1 _ t x h
  simpa using this
theorem blk2set0 {w : World} {g : Nat} {u v : Value} {t : TypeId} (h : w.heap[g]? = some (.cells #[u, v] t (0, 0))) (x : Value) : (w.setCell ⟨g, 0, none⟩ x).heap[g]? = some (.cells #[x, v] t (0, 0)) := by
  have := heap_setCell_same w g 0 _ t x h
  simpa using this
theorem blk_set_other {w : World} {g : Nat} {x : Obj} (h : w.heap[g]? = some x) (p : Addr) (hp : p.block ≠ g) (u : Value) : (w.setCell p u).heap[g]? = some x := (Below.heap_setCell w p u g (Ne.symm hp)).trans h

/-- the masks that the reference has found by round k -/
def invK (S : List Nat) (k : Nat) : List Nat := (List.range k).map fun j => (solL S (2 ^ j)).2
theorem invK_succ (S : List Nat) (k : Nat) : invK S (k + 1) = invK S k ++ [(solL S (2 ^ k)).2] := by simp [invK, List.range_succ]
theorem invK_length (S : List Nat) (k : Nat) : (invK S k).length = k := by simp [invK]
/-- the box of the result that is being made -/
def OutAt (w : World) (B g : Nat) (c : Int) (k : Nat) (S : List Nat) : Prop := ∃ v, w.heap[g]? = some (.cells #[.int .i64 c, v] 28 (0, 0)) ∧ w.ownsRow B 2 1 v k (nv S)

theorem OutAt.app {w2 w3 : World} {B g : Nat} {c : Int} {k g2 cap2 : Nat} {S : List Nat} {v : Value} {y : Nat} {o : Obj} (hB : B ≤ g)
    (hbo : w2.heap[g]? = some (.cells #[.int .i64 c, v] 28 (0, 0))) (hoo : w2.ownsRow B 2 1 v k (nv S))
    (hown2 : w3.ownsRow B 2 1 (.slice (some ⟨g2, 0, none⟩) (k + 1) cap2) (k + 1) (nv S ++ [.int .i64 (y : Int)])) (hg : (w2.alloc o).grownBy w3 v.ownBlock) :
    OutAt (w3.setCell ⟨g, 1, none⟩ (.slice (some ⟨g2, 0, none⟩) (k + 1) cap2)) B g c (k + 1) (S ++ [y]) ∧ Below B w2 (w3.setCell ⟨g, 1, none⟩ (.slice (some ⟨g2, 0, none⟩) (k + 1) cap2)) := by
  have hlt := (Array.getElem?_eq_some_iff.1 hbo).1
  have hb3 : w3.heap[g]? = some (.cells #[.int .i64 c, v] 28 (0, 0)) := blk_grown (blk_alloc hbo o) hg (own_ne hoo hbo (by decide))
  have hne := own_ne hown2 hb3 (by decide)
  refine ⟨⟨_, blk2set1 hb3 _, ?_⟩, ?_⟩
  · rw [← nv_snoc]
    exact owns_keeps hown2 ((Keeps.refl w3 [some g]).setCell (p := ⟨g, 1, none⟩) (by simp) _) (.inr (by simp only [List.mem_singleton]; exact hne))
  · exact (below_app (Below.refl _ _) (by omega) hoo hg).setCell (p := ⟨g, 1, none⟩) hB _

set_option maxRecDepth 100000 in
set_option maxHeartbeats 2000000 in
theorem specInv_any (c : Int) (A : Option Addr) (n cap : Nat) (xs : List Int) (w : World) (hn : n = xs.length) (hsm : n ≤ 1099511627776) (hR : Rd w A (iv xs)) :
    Calls Tryd.prog 22 #[.agg #[.int .i64 c, .slice A n cap]] w fun e w' =>
      ∃ v, e = .returned (.tuple #[.agg #[.int .i64 (invOf c xs).1, v], .int .i64 (invOf c xs).2.2]) ∧ w'.ownsRow w.heap.size 2 1 v (invOf c xs).2.1.length (nv (invOf c xs).2.1) ∧ Below w.heap.size w w' := by
  have hb1 := blk_alloc (blk_new w (.cells #[.int .i64 c, .slice A n cap] 28)) (.cells #[.int .i64 0, .slice none 0 0] 28)
  have hb2 := blk_new1 w (.cells #[.int .i64 c, .slice A n cap] 28) (.cells #[.int .i64 0, .slice none 0 0] 28)
  have hbel : Below w.heap.size w ((w.alloc (.cells #[.int .i64 c, .slice A n cap] 28)).alloc (.cells #[.int .i64 0, .slice none 0 0] 28)) := ((Below.refl _ _).alloc (Nat.le_refl _) _).alloc (by simp) _
  have h1 := l02Is_any c A n cap xs _ hn hsm (hR.below hbel)
  have HK1 := Lib.hid hb1
  have HK2 := Lib.hid hb2
  have HB := Lib.hid hbel
  have HR := Lib.hid hR
  have Hn := Lib.hid hn
  clear hb1 hb2 hbel hR hn
  cases hi : isMat c xs with
  | false =>
    rw [hi] at h1
    have HE : Hid (invOf c xs = (0, [], 1)) := by show _ = _; simp [invOf, hi]
    have H1 := Lib.hid h1
    clear h1 hi
    go_enter Tryd.func22, Tryd.ntmps22
    go_wp2_with fail
    refine H1.out.mono ?_
    rintro e w1 ⟨rfl, hb⟩
    have HK2a := Lib.hid (blk_keep HK2.out hb)
    have HB1 := Lib.hid (HB.out.trans (hb.mono HB.out.size))
    obtain ⟨x0, x1, f0, f1, lx⟩ := blk2cells HK2a.out
    clear hb
    go_wp2_with fail
    refine bodyPost_ret (v := .tuple #[.agg #[.int .i64 0, .slice none 0 0], .int .i64 1]) ?_ rfl ⟨_, by rw [HE.out], by rw [HE.out]; exact World.ownsRow_nil _ _ _ _, ?_⟩
    · simp [results, Tryd.results22, go_sem, x0, x1]
    · exact (HB1.out.setCell (p := ⟨w.heap.size + 1, 0, none⟩) (by simp) _).setCell (p := ⟨w.heap.size + 1, 1, none⟩) (by simp) _
  | true =>
    rw [hi] at h1
    have H1 := Lib.hid h1
    have HSx := Lib.hid (isMat_sm hi)
    have HRx : Hid (Rd w A (nv (toN xs))) := by have := HR.out; rw [iv_toN (fun x hx => (isMat_nonneg hi x hx).1)] at this; exact this
    have lx : (toN xs).length = xs.length := by simp [toN]
    have Lx := Lib.hid lx
    obtain ⟨d, hd, hd60⟩ := isMat_cols hi
    clear h1 lx
    by_cases hc : c = (n : Int)
    · subst hc
      have hn60 : n ≤ 60 := by omega
      have HE : Hid (invOf n xs = if ∀ j, j < n → (solL (toN xs) (2 ^ j)).1 = 0 then ((n : Int), invK (toN xs) n, 0) else (0, [], 5)) := by
        show _ = _; unfold invOf; rw [if_pos hi, if_pos (by rw [Hn.out]), ← Hn.out]; rfl
      clear hi hd hd60
      go_enter Tryd.func22, Tryd.ntmps22
      go_wp2_with fail
      refine H1.out.mono ?_
      rintro e w1 ⟨rfl, hb⟩
      have HK1a := Lib.hid (blk_keep HK1.out hb)
      have HK2a := Lib.hid (blk_keep HK2.out hb)
      have HB1 := Lib.hid (HB.out.trans (hb.mono HB.out.size))
      have hs1 := HB1.out.size
      have lx2 := (Array.getElem?_eq_some_iff.1 HK2a.out).1
      obtain ⟨x0, x1, f0, f1, lx⟩ := blk2cells HK1a.out
      clear hb
      go_wp2_with fail
      go_loopw [5] (fun i wr => ∃ k : Nat, k ≤ n ∧ i = .int .i64 k ∧ (∀ j, j < k → (solL (toN xs) (2 ^ j)).1 = 0) ∧ OutAt wr w1.heap.size w1.heap.size n k (invK (toN xs) k) ∧
          wr.heap[w.heap.size]? = some (.cells #[.int .i64 n, .slice A n cap] 28 (0, 0)) ∧ wr.heap[w.heap.size + 1]? = some (.cells #[.int .i64 0, .slice none 0 0] 28 (0, 0)) ∧ Below w1.heap.size w1 wr) (fun i _ => n - (intOf i).toNat)
      case atStart => exact ⟨0, by omega, rfl, fun j hj => absurd hj (by omega), ⟨_, blk_new w1 _, World.ownsRow_nil _ _ _ _⟩, blk_alloc HK1a.out _, blk_alloc HK2a.out _, (Below.refl _ _).alloc (Nat.le_refl _) _⟩
      case round =>
        obtain ⟨k, hk, rfl, hall, ⟨v, hbo, hoo⟩, hbm, hbr, hbel⟩ := hrel
        have hsz : w1.heap.size ≤ wr.heap.size := hbel.size
        obtain ⟨x0, x1, _, _, _⟩ := blk2cells hbm
        obtain ⟨y0, y1, fy0, fy1, _⟩ := blk2cells hbr
        obtain ⟨z0, z1, fz0, fz1, lz⟩ := blk2cells hbo
        have HO := Lib.hid hoo
        have HBO := Lib.hid hbo
        have HBM := Lib.hid hbm
        have HBR := Lib.hid hbr
        have HBL := Lib.hid hbel
        clear hoo hbo hbm hbr hbel
        by_cases hlt : k < n
        · have hp2 : Sm (2 ^ k) := by have := pw_sm (p := k) (by omega); exact this
          have hs := fun W (hW : Rd W A (nv (toN xs))) => solve_any A n cap (toN xs) (2 ^ k) W (by rw [Hn.out, Lx.out]) hn60 hp2 HSx.out hW
          rw [← shl_one (by omega)] at hs
          by_cases h0 : (solL (toN xs) (2 ^ k)).1 = 0
          · simp only [h0, decide_true] at hs
            have HS := Lib.hid hs
            have HI := Lib.hid (invK_succ (toN xs) k)
            have HL : Hid (∀ j, j < k + 1 → (solL (toN xs) (2 ^ j)).1 = 0) := by
              show ∀ j, j < k + 1 → _
              intro j hj
              by_cases e : j = k
              · subst e; exact h0
              · exact hall j (by omega)
            clear hs h0 hall
            generalize (solL (toN xs) (2 ^ k)).2 = y at *
            go_wp2_with fail
            refine (HS.out _ (HRx.out.below (HB1.out.trans (HBL.out.mono hs1)))).mono ?_
            rintro e w2 ⟨rfl, hb⟩
            have hsz2 : w1.heap.size ≤ w2.heap.size := Nat.le_trans hsz hb.size
            have HBL2 := Lib.hid (HBL.out.trans (hb.mono hsz))
            have HBO2 := Lib.hid (blk_keep HBO.out hb)
            have HBM2 := Lib.hid (blk_keep HBM.out hb)
            have HBR2 := Lib.hid (blk_keep HBR.out hb)
            have HO2 := Lib.hid (owns_keeps HO.out (Keeps.of_below hb) (.inr (by simp)))
            clear x0 x1 y0 y1 z0 z1 fy0 fy1 fz0 fz1 hb
            obtain ⟨z0, z1, fz0, fz1, lz⟩ := blk2cells HBO2.out
            go_wp2_with (at_builtin; refine wpList_app1 _ _ _ _ _ etI (by rfl) (by rfl) w1.heap.size _ k (nv (invK (toN xs) k)) (by rfl) ?_ _ (.int .i64 (y : Int)) (by rfl) ?_ (by rfl) ?_ ?_ ?_; exact HO2.out.alloc _; exact new_cell _ _ _; omega; (simp; omega); (intro g2 cap2 w3 hown3 hgrow3 hat3 hlt3; have HO3 := Lib.hid hown3; have HG3 := Lib.hid hgrow3; have hb3 := blk_grown (blk_alloc HBO2.out _) hgrow3 (own_ne HO2.out HBO2.out (by decide)); obtain ⟨t0, t1, ft0, ft1, lt3⟩ := blk2cells hb3; clear hown3 hgrow3 hat3 hlt3 hb3))
            go_roundw
            case rel =>
              obtain ⟨q1, q2⟩ := OutAt.app (Nat.le_refl _) HBO2.out HO2.out HO3.out HG3.out
              exact ⟨k + 1, by omega, by go_num, HL.out, by rw [HI.out]; exact q1, blk_below HBM2.out q2 (by omega), blk_below HBR2.out q2 (by omega), HBL2.out.trans q2⟩
            case measure => simp [intOf]; omega
          · simp only [h0, decide_false] at hs
            have HS := Lib.hid hs
            have HE2 : Hid (invOf n xs = (0, [], 5)) := by show _ = _; rw [HE.out, if_neg (fun h => h0 (h k hlt))]
            clear hs h0 hall
            go_wp2_with fail
            refine (HS.out _ (HRx.out.below (HB1.out.trans (HBL.out.mono hs1)))).mono ?_
            rintro e w2 ⟨rfl, hb⟩
            have HBL2 := Lib.hid (HBL.out.trans (hb.mono hsz))
            have HBR2 := Lib.hid (blk_keep HBR.out hb)
            clear x0 x1 y0 y1 z0 z1 fy0 fy1 fz0 fz1 hb
            obtain ⟨y0, y1, g0, g1, ly⟩ := blk2cells HBR2.out
            go_wp2_with fail
            refine bodyPost_ret (v := .tuple #[.agg #[.int .i64 0, .slice none 0 0], .int .i64 5]) ?_ rfl ⟨_, by rw [HE2.out], by rw [HE2.out]; exact World.ownsRow_nil _ _ _ _, ?_⟩
            · simp [results, Tryd.results22, go_sem, y0, y1]
            · exact ((HB1.out.trans (HBL2.out.mono hs1)).setCell (p := ⟨w.heap.size + 1, 0, none⟩) (by simp) _).setCell (p := ⟨w.heap.size + 1, 1, none⟩) (by simp) _
        · have HE2 : Hid (invOf n xs = ((n : Int), invK (toN xs) k, 0)) := by
            have ek : k = n := by omega
            subst ek
            show _ = _; rw [HE.out, if_pos hall]
          have HKN : Hid (k = n) := by show _ = _; omega
          obtain ⟨Av, cv, rfl, _, _, _⟩ := owns_shape HO.out
          clear hall
          go_wp2_with fail
          refine bodyPost_ret (v := .tuple #[.agg #[.int .i64 n, .slice Av k cv], .int .i64 0]) ?_ rfl ⟨_, by rw [HE2.out], ?_, ?_⟩
          · simp [results, Tryd.results22, go_sem, y0, y1]
          · rw [HE2.out]
            refine own_cast (owns_keeps HO.out (((Keeps.refl wr [some (w.heap.size + 1)]).setCell (p := ⟨w.heap.size + 1, 0, none⟩) (by simp) _).setCell (p := ⟨w.heap.size + 1, 1, none⟩) (by simp) _) (.inr ?_) |>.mono hs1) (invK_length _ _).symm rfl
            simp only [List.mem_singleton]
            exact own_ne HO.out HBR.out (by decide)
          · exact ((HB1.out.trans (HBL.out.mono hs1)).setCell (p := ⟨w.heap.size + 1, 0, none⟩) (by simp) _).setCell (p := ⟨w.heap.size + 1, 1, none⟩) (by simp) _
    · have HE : Hid (invOf c xs = (0, [], 2)) := by show _ = _; unfold invOf; rw [if_pos hi, if_neg (by rw [← Hn.out]; exact hc)]
      have hcb : (c != (n : Int)) = true := by simpa using hc
      clear hi hd hd60 hc
      go_enter Tryd.func22, Tryd.ntmps22
      go_wp2_with fail
      refine H1.out.mono ?_
      rintro e w1 ⟨rfl, hb⟩
      obtain ⟨x0, x1, f0, f1, lx⟩ := blk2cells (blk_keep HK1.out hb)
      obtain ⟨y0, y1, g0, g1, ly⟩ := blk2cells (blk_keep HK2.out hb)
      have HB1 := Lib.hid (HB.out.trans (hb.mono HB.out.size))
      clear hb
      go_wp2_with fail
      refine bodyPost_ret (v := .tuple #[.agg #[.int .i64 0, .slice none 0 0], .int .i64 2]) ?_ rfl ⟨_, by rw [HE.out], by rw [HE.out]; exact World.ownsRow_nil _ _ _ _, ?_⟩
      · simp [results, Tryd.results22, go_sem, y0, y1]
      · exact (HB1.out.setCell (p := ⟨w.heap.size + 1, 0, none⟩) (by simp) _).setCell (p := ⟨w.heap.size + 1, 1, none⟩) (by simp) _
end Go.Proofs.YtchmplpgamekjaaDoor
