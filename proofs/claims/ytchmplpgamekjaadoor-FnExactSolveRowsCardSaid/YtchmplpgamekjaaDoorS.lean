/- ComplementRows on both sides -/
import Derived.Test.YtchmplpgamekjaaDoorQ
import Derived.Test.YtchmplpgamekjaaDoorC
namespace Go.Proofs.YtchmplpgamekjaaDoor
open Go.RowKit

/-- the reference's loop: the rows, the places of the new ones, the next place -/
def compStep (p : List Nat × List Nat × Nat) (b : Nat) : List Nat × List Nat × Nat := (putS p.1 b, if leftS p.1 b = 0 then p.2.1 else p.2.1 ++ [p.2.2], p.2.2 + 1)
def compK (S : List Nat) (bs : List Nat) (k : Nat) : List Nat × List Nat × Nat := (bs.take k).foldl compStep (S, [], 0)
theorem compK_succ (S bs : List Nat) (k : Nat) (h : k < bs.length) : compK S bs (k + 1) = compStep (compK S bs k) (bs.getD k 0) := fold_take_succ _ _ _ _ 0 h
theorem compK_inv {S bs : List Nat} (hS : Red S) (hb : ∀ b ∈ bs, Sm b) : ∀ k, k ≤ bs.length → Red (compK S bs k).1 ∧ (compK S bs k).1.length ≤ S.length + k ∧ (compK S bs k).2.1.length ≤ k ∧ (compK S bs k).2.2 = k := by
  intro k
  induction k with
  | zero => intro _; exact ⟨hS, by simp [compK], by simp [compK], rfl⟩
  | succ k ih =>
    intro hk
    obtain ⟨h1, h2, h3, h4⟩ := ih (by omega)
    rw [compK_succ S bs k (by omega)]
    have hm : Sm (bs.getD k 0) := hb _ (by simp [List.getD, show k < bs.length by omega])
    refine ⟨red_put h1 hm, ?_, ?_, ?_⟩
    · have := putS_length_le (compK S bs k).1 (bs.getD k 0); simp only [compStep]; omega
    · simp only [compStep]; split
      · omega
      · simp; omega
    · simp only [compStep, h4]

/-- the program's loop -/
def compStepI (p : List (Nat × Nat) × List Nat × Nat) (b : Nat) : List (Nat × Nat) × List Nat × Nat := (addL p.1 (b, 0), if (leftN p.1 (b, 0)).1 = 0 then p.2.1 else p.2.1 ++ [p.2.2], p.2.2 + 1)
def compKI (L : List (Nat × Nat)) (bs : List Nat) (k : Nat) : List (Nat × Nat) × List Nat × Nat := (bs.take k).foldl compStepI (L, [], 0)
theorem compKI_succ (L : List (Nat × Nat)) (bs : List Nat) (k : Nat) (h : k < bs.length) : compKI L bs (k + 1) = compStepI (compKI L bs k) (bs.getD k 0) := fold_take_succ _ _ _ _ 0 h
theorem compKI_inv {S bs : List Nat} {L : List (Nat × Nat)} (hp : (r1 L).Perm S) (hL : Red (r1 L)) (hg : Good L) (hb : ∀ b ∈ bs, Sm b) : ∀ k, k ≤ bs.length →
    (r1 (compKI L bs k).1).Perm (compK S bs k).1 ∧ Red (r1 (compKI L bs k).1) ∧ Good (compKI L bs k).1 ∧ (compKI L bs k).1.length ≤ L.length + k ∧ (compKI L bs k).2 = (compK S bs k).2 := by
  intro k
  induction k with
  | zero => intro _; exact ⟨hp, hL, hg, by simp [compKI], rfl⟩
  | succ k ih =>
    intro hk
    obtain ⟨h1, h2, h3, h4, h5⟩ := ih (by omega)
    rw [compK_succ S bs k (by omega), compKI_succ L bs k (by omega)]
    have hm : Sm (bs.getD k 0) := hb _ (by simp [List.getD, show k < bs.length by omega])
    refine ⟨addL_perm h1 h2 (bs.getD k 0, 0), addL_red h2 hm, addL_good h2 h3 ⟨hm, Sm.zero⟩, ?_, ?_⟩
    · have := addL_length_le (compKI L bs k).1 (bs.getD k 0, 0); simp only [compStepI]; omega
    · simp only [compStepI, compStep, h5]
      rw [leftN_fst, leftS_perm h2 h1]

/-- an own row that is not the one appended to stays, and stays apart -/
theorem own_other_app {w w' : World} {B n g : Nat} {e : TypeId} {a b : Value} {xs : List Value} {o : Obj} (ha : w.ownsRow B e 1 a n xs) (hne : a.ownBlock = none ∨ a.ownBlock ≠ b.ownBlock) (hg : (w.alloc o).grownBy w' b.ownBlock) (hat : b.ownBlock = some g ∨ g = (w.alloc o).heap.size) :
    w'.ownsRow B e 1 a n xs ∧ (a.ownBlock = none ∨ a.ownBlock ≠ some g) := by
  refine ⟨(ha.alloc o).kept hg hne, ?_⟩
  by_cases h0 : a.ownBlock = none
  · exact .inl h0
  · refine .inr fun h => ?_
    rcases hne with hne | hne
    · exact h0 hne
    · rcases hat with hat | hat
      · exact hne (h.trans hat.symm)
      · have := (ha.lt g h).2; simp at hat; omega
/-- what l02Put hands back is apart from an own row from which its argument was apart -/
theorem put_apart {w w' : World} {B n m : Nat} {e e' : TypeId} {v v' o : Value} {xs ys : List Value} (hor : v' = v ∨ w'.ownsRow w.heap.size e 1 v' n xs) (hne : v.ownBlock = none ∨ v.ownBlock ≠ o.ownBlock) (ho : w.ownsRow B e' 1 o m ys) : v'.ownBlock = none ∨ v'.ownBlock ≠ o.ownBlock := by
  rcases hor with rfl | h
  · exact hne
  · by_cases h0 : v'.ownBlock = none
    · exact .inl h0
    · refine .inr fun e => ?_
      obtain ⟨k, hk⟩ := Option.ne_none_iff_exists'.1 h0
      have h1 := (h.lt k hk).1
      have h2 := (ho.lt k (e.symm.trans hk)).2
      omega

/-- What ComplementRows answers. -/
def compOf (c : Int) (xs : List Int) (c' : Int) (ys : List Int) : List Nat × Int :=
  if bothOf c xs c' ys = 0 then ((compK (reduceS (toN xs)) (toN ys) (toN ys).length).2.1, 0) else ([], bothOf c xs c' ys)
theorem bothOf_zero {c c' : Int} {xs ys : List Int} (h : bothOf c xs c' ys = 0) : isMat c xs = true ∧ isMat c' ys = true ∧ c = c' := by
  unfold bothOf at h
  split at h
  · rename_i hb
    simp only [Bool.and_eq_true] at hb
    split at h
    · exact ⟨hb.1, hb.2, by assumption⟩
    · cases h
  · cases h

set_option maxRecDepth 100000 in
set_option maxHeartbeats 2000000 in
theorem specComp_any (c c' : Int) (A A' : Option Addr) (n n' cap cap' : Nat) (xs ys : List Int) (w : World) (hn : n = xs.length) (hn' : n' = ys.length) (hsm : n ≤ 1099511627776) (hsm' : n' ≤ 1099511627776) (hR : Rd w A (iv xs)) (hR' : Rd w A' (iv ys)) :
    Calls Tryd.prog 26 #[.agg #[.int .i64 c, .slice A n cap], .agg #[.int .i64 c', .slice A' n' cap']] w fun e w' =>
      ∃ v, e = .returned (.tuple #[v, .int .i64 (compOf c xs c' ys).2]) ∧ w'.ownsRow w.heap.size 2 1 v (compOf c xs c' ys).1.length (nv (compOf c xs c' ys).1) ∧ Below w.heap.size w w' := by
  have hb1 := blk_alloc (blk_new w (.cells #[.int .i64 c, .slice A n cap] 28)) (.cells #[.int .i64 c', .slice A' n' cap'] 28)
  have hb2 := blk_new1 w (.cells #[.int .i64 c, .slice A n cap] 28) (.cells #[.int .i64 c', .slice A' n' cap'] 28)
  have hbel : Below w.heap.size w ((w.alloc (.cells #[.int .i64 c, .slice A n cap] 28)).alloc (.cells #[.int .i64 c', .slice A' n' cap'] 28)) := ((Below.refl _ _).alloc (Nat.le_refl _) _).alloc (by simp) _
  have h1 := l02Both_any c c' A A' n n' cap cap' xs ys _ hn hn' hsm hsm' (hR.below hbel) (hR'.below hbel)
  have HK1 := Lib.hid hb1
  have HK2 := Lib.hid hb2
  have HB := Lib.hid hbel
  have HR := Lib.hid hR
  have HR' := Lib.hid hR'
  have Hn := Lib.hid hn
  have Hn' := Lib.hid hn'
  clear hb1 hb2 hbel hR hR' hn hn'
  by_cases h0 : bothOf c xs c' ys = 0
  · obtain ⟨hi, hj, hc⟩ := bothOf_zero h0
    rw [h0] at h1
    have H1 := Lib.hid h1
    have HE : Hid (compOf c xs c' ys = ((compK (reduceS (toN xs)) (toN ys) (toN ys).length).2.1, 0)) := by show _ = _; unfold compOf; rw [if_pos h0]
    have hlx := isMat_len hi
    have hly := isMat_len hj
    have HSx := Lib.hid (isMat_sm hi)
    have HSy := Lib.hid (isMat_sm hj)
    have HRx : Hid (Rd w A (nv (toN xs))) := by have := HR.out; rw [iv_toN (fun x hx => (isMat_nonneg hi x hx).1)] at this; exact this
    have HRy : Hid (Rd w A' (nv (toN ys))) := by have := HR'.out; rw [iv_toN (fun x hx => (isMat_nonneg hj x hx).1)] at this; exact this
    have lx : (toN xs).length = xs.length := by simp [toN]
    have ly : (toN ys).length = ys.length := by simp [toN]
    have hlyN : (toN ys).length ≤ 200 := by rw [ly]; exact hly
    have Lx := Lib.hid lx
    have Ly := Lib.hid ly
    clear h1 h0 hi hj hc lx ly
    go_enter Tryd.func26, Tryd.ntmps26
    go_wp2_with fail
    refine H1.out.mono ?_
    rintro e w1 ⟨rfl, hb⟩
    have HK1a := Lib.hid (blk_keep HK1.out hb)
    have HK2a := Lib.hid (blk_keep HK2.out hb)
    have HB1 := Lib.hid (HB.out.trans (hb.mono HB.out.size))
    obtain ⟨x0, x1, _, _, _⟩ := blk2cells HK1a.out
    clear hb
    go_wp2_with fail
    refine (reduce_any A n cap (toN xs) w1 (by rw [Hn.out, Lx.out]) (by rw [Hn.out]; omega) HSx.out (HRx.out.below HB1.out)).mono ?_
    rintro e w2 ⟨v2, rfl, hown2, hb⟩
    have HK2b := Lib.hid (blk_keep HK2a.out hb)
    have HB2 := Lib.hid (HB1.out.trans (hb.mono HB1.out.size))
    have HO2 := Lib.hid (hown2.mono HB1.out.size)
    have HL2 := Lib.hid (fun k hk => (hown2.lt k hk).2)
    clear hb hown2 x0 x1
    go_wp2_with fail
    go_loopw [7, 8, 9] (fun r o i wr => ∃ k : Nat, k ≤ n' ∧ i = .int .i64 k ∧ wr.ownsRow w.heap.size 2 1 r (compK (reduceS (toN xs)) (toN ys) k).1.length (nv (compK (reduceS (toN xs)) (toN ys) k).1) ∧
        wr.ownsRow w.heap.size 2 1 o (compK (reduceS (toN xs)) (toN ys) k).2.1.length (nv (compK (reduceS (toN xs)) (toN ys) k).2.1) ∧ (r.ownBlock = none ∨ r.ownBlock ≠ o.ownBlock) ∧
        wr.heap[w.heap.size + 1]? = some (.cells #[.int .i64 c', .slice A' n' cap'] 28 (0, 0)) ∧ Below w.heap.size w wr) (fun _ _ i _ => n' - (intOf i).toNat)
    case atStart =>
      refine ⟨0, by omega, rfl, ?_, ?_, ?_, ?_, HB2.out.alloc HB2.out.size _⟩
      · exact HO2.out.alloc _
      · exact World.ownsRow_made w2 #[] 0 HB2.out.size (by decide) (by simp)
      · by_cases hv : v2.ownBlock = none
        · exact .inl hv
        · refine .inr fun e => ?_
          have := HL2.out w2.heap.size (e.trans rfl)
          omega
      · exact blk_alloc HK2b.out _
    case round =>
      obtain ⟨k, hk, rfl, hor, hoo, hne, hbk, hbel⟩ := hrel
      have hsz : w.heap.size ≤ wr.heap.size := hbel.size
      obtain ⟨y0, y1, _, _, hly2⟩ := blk2cells hbk
      by_cases hlt : k < n'
      · have hkL : k < (toN ys).length := by rw [Ly.out, ← Hn'.out]; exact hlt
        obtain ⟨b, o', rfl, hc⟩ := (HRy.out.below hbel).atN hkL
        have hm : (toN ys).getD k 0 ∈ toN ys := by simp only [List.getD, List.getElem?_eq_getElem hkL, Option.getD_some]; exact List.getElem_mem hkL
        have g1 := HSy.out _ hm
        have Hs := Lib.hid (compK_succ (reduceS (toN xs)) (toN ys) k hkL)
        obtain ⟨i1, i2, i3, i4⟩ := compK_inv (red_reduce HSx.out) HSy.out k (by omega)
        have hrl := reduceS_length_le (toN xs)
        rw [Lx.out] at hrl
        generalize compK (reduceS (toN xs)) (toN ys) k = p at *
        generalize (toN ys).getD k 0 = x at *
        obtain ⟨S, out, kk⟩ := p
        simp only at i1 i2 i3 i4 hor hoo
        subst i4
        obtain ⟨Ar, cr, rfl, _, _, _⟩ := owns_shape hor
        have hwo := fun W (h : W = wr) => without_any Ar S.length cr S x W rfl (by omega) g1 i1.ne (by rw [h]; exact owns_Rd hor)
        have HW := Lib.hid hwo
        have HOR := Lib.hid hor
        have HOO := Lib.hid hoo
        have HNE := Lib.hid hne
        have HBK := Lib.hid hbk
        have HB := Lib.hid hbel
        have HI := Lib.hid i1
        clear hwo hor hoo hne hbk hbel hm i1
        by_cases h0 : leftS S x = 0
        · rw [h0] at HW
          have e : putS S x = S := by unfold putS; rw [if_pos h0]
          have HS1 : Hid (compStep (S, out, kk) x = (S, out, kk + 1)) := by show _ = _; simp [compStep, h0, e]
          clear h0 e
          go_wp2_with (go_at_call 73; refine (HW.out _ rfl).mono ?_; rintro e w' ⟨rfl, rfl⟩)
          go_roundw
          case rel => exact ⟨kk + 1, by omega, by go_num, by rw [Hs.out, HS1.out]; exact HOR.out, by rw [Hs.out, HS1.out]; exact HOO.out, HNE.out, HBK.out, HB.out⟩
          case measure => simp [intOf]; omega
        · have HS1 : Hid (compStep (S, out, kk) x = (putS S x, out ++ [kk], kk + 1)) := by show _ = _; simp [compStep, h0]
          have hyb : ((leftS S x : Nat) : Int) ≠ 0 := by omega
          have hyb2 : (((leftS S x : Nat) : Int) != 0) = true := by simpa using h0
          generalize leftS S x = y at *
          clear h0 hyb
          go_wp2_with (go_at_call 73; refine (HW.out _ rfl).mono ?_; rintro e w' ⟨rfl, rfl⟩)
          refine (put_any w.heap.size _ S x wr hsz HOR.out (by omega) g1 HI.out).mono ?_
          rintro e w1 ⟨v1, rfl, hown1, hb1, hor1⟩
          have hoo1 := owns_keeps HOO.out (Keeps.of_below hb1) (.inr (by simp))
          have hne1 := put_apart hor1 HNE.out HOO.out
          have HO1 := Lib.hid hown1
          have HOO1 := Lib.hid hoo1
          have HN1 := Lib.hid hne1
          have HBK1 := Lib.hid (blk_keep HBK.out hb1)
          have HB1 := Lib.hid (HB.out.trans (hb1.mono hsz))
          have hsz1 : w.heap.size ≤ w1.heap.size := HB1.out.size
          have hb1s := hb1.size
          clear hown1 hoo1 hne1 hor1 hb1
          go_wp2_with (at_builtin; refine wpList_app1 _ _ _ _ _ etI (by rfl) (by rfl) w.heap.size _ out.length (nv out) (by rfl) ?_ _ (.int .i64 (kk : Int)) (by rfl) ?_ (by rfl) ?_ ?_ ?_; exact HOO1.out.alloc _; exact new_cell _ _ _; omega; (simp; omega); (intro g2 cap2 w2' hown2 hgrow2 hat2 hlt2; have HO2' : Hid (w2'.ownsRow w.heap.size 2 1 (.slice (some ⟨g2, 0, none⟩) (out.length + 1) cap2) (out.length + 1) (nv (out ++ [kk]))) := (by rw [← nv_snoc]; exact hown2); have HG2 := Lib.hid hgrow2; have HA2 := Lib.hid hat2; clear hown2 hgrow2 hat2 hlt2))
          go_roundw
          case rel =>
            obtain ⟨k1, k2⟩ := own_other_app HO1.out HN1.out HG2.out HA2.out
            refine ⟨kk + 1, by omega, by go_num, by rw [Hs.out, HS1.out]; exact k1, by rw [Hs.out, HS1.out]; exact own_cast HO2'.out (by simp) rfl, k2, ?_, ?_⟩
            · exact blk_grown (blk_alloc HBK1.out _) HG2.out (own_ne HOO1.out HBK1.out (by decide))
            · exact below_app HB1.out hsz1 HOO1.out HG2.out
          case measure => simp [intOf]; omega
      · have ek : k = (toN ys).length := by rw [Ly.out, ← Hn'.out]; omega
        have HOO := Lib.hid hoo
        have HB := Lib.hid hbel
        clear hor hoo hne hbk hbel
        go_wp2_with fail
        go_ret2
        exact ⟨_, by rw [HE.out]; rfl, by rw [HE.out]; rw [← ek]; exact HOO.out, HB.out⟩
  · have HE : Hid (compOf c xs c' ys = ([], bothOf c xs c' ys)) := by show _ = _; unfold compOf; rw [if_neg h0]
    have hcb : (bothOf c xs c' ys != 0) = true := by simpa using h0
    generalize bothOf c xs c' ys = code at *
    have H1 := Lib.hid h1
    clear h1 h0
    go_enter Tryd.func26, Tryd.ntmps26
    go_wp2_with fail
    refine H1.out.mono ?_
    rintro e w1 ⟨rfl, hb⟩
    have HB1 := Lib.hid (HB.out.trans (hb.mono HB.out.size))
    clear hb
    go_wp2_with fail
    go_ret2
    exact ⟨_, by rw [HE.out]; rfl, by rw [HE.out]; exact World.ownsRow_nil _ _ _ _, HB1.out⟩
end Go.Proofs.YtchmplpgamekjaaDoor
