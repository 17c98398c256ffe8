/- the program's ComplementRows · append of a slice that reads as a list, nil let in; copies of slices of ints · lists done and sums, step by step (split from Ia) · the reference's l02Solve · the reference's InverseMatrix · more words for the walks of laws: matrices as results · the draws: a matrix with some rows and columns · the reference's draws: a matrix · drawn regions whose last operation stores into a cell that they load: the loads are taken first all the same -/
import Derived.Test.YtjhlmalpcelbaaaDoorBxae
import Derived.Test.YtjhlmalpcelbaaaDoorBxaa
import Derived.Maps.AppendAt
import Derived.Deep.AppendLies
import Derived.OwnWalk
import Derived.Test.YtjhlmalpcelbaaaDoorBxac
import Derived.StillTailTactics
import Derived.OrdersHeld
import Derived.StillTail
import Derived.Deep.RegionHeld3
set_option linter.all false
namespace Go.Proofs.YtjhlmalpcelbaaaDoor
open Go.RowKit

set_option maxRecDepth 100000 in
set_option maxHeartbeats 2000000 in
theorem implComp_any (c c' : Int) (A A' : Option Addr) (n n' cap cap' : Nat) (xs ys : List Int) (w : World) (hT : Tab w) (hw : 0 < w.heap.size) (hn : n = xs.length) (hn' : n' = ys.length) (hsm : n ≤ 1099511627776) (hsm' : n' ≤ 1099511627776) (hR : Rd w A (iv xs)) (hR' : Rd w A' (iv ys)) :
    Calls Tryd.prog 13 #[.agg #[.int .i64 c, .slice A n cap], .agg #[.int .i64 c', .slice A' n' cap']] w fun e w' =>
      ∃ v, e = .returned (.tuple #[v, .int .i64 (compOf c xs c' ys).2]) ∧ w'.ownsRow w.heap.size 2 1 v (compOf c xs c' ys).1.length (nv (compOf c xs c' ys).1) ∧ Below w.heap.size w w' := by
  have hb1 := blk_alloc (blk_new w (.cells #[.int .i64 c, .slice A n cap] 26)) (.cells #[.int .i64 c', .slice A' n' cap'] 26)
  have hb2 := blk_new1 w (.cells #[.int .i64 c, .slice A n cap] 26) (.cells #[.int .i64 c', .slice A' n' cap'] 26)
  have hbel : Below w.heap.size w ((w.alloc (.cells #[.int .i64 c, .slice A n cap] 26)).alloc (.cells #[.int .i64 c', .slice A' n' cap'] 26)) := ((Below.refl _ _).alloc (Nat.le_refl _) _).alloc (by simp) _
  have h1 := equalColumns_any c c' A A' n n' cap cap' xs ys _ hn hn' hsm hsm' (hR.below hbel) (hR'.below hbel)
  have HK1 := Lib.hid hb1
  have HK2 := Lib.hid hb2
  have HB := Lib.hid hbel
  have HR := Lib.hid hR
  have HR' := Lib.hid hR'
  have Hn := Lib.hid hn
  have Hn' := Lib.hid hn'
  have HT := Lib.hid hT
  clear hb1 hb2 hbel hR hR' hn hn' hT
  by_cases h0 : bothOf c xs c' ys = 0
  · obtain ⟨hi, hj, hc⟩ := bothOf_zero h0
    rw [h0] at h1
    have H1 := Lib.hid h1
    have hsz := span_zs hi
    have hE : compOf c xs c' ys = ((compK (reduceS (toN xs)) (toN ys) (toN ys).length).2.1, 0) := by unfold compOf; rw [if_pos h0]
    have HI := Lib.hid (compKI_inv hsz.1 hsz.2.1 hsz.2.2 (isMat_sm hj))
    rw [← (HI.out _ (Nat.le_refl _)).2.2.2.2] at hE
    have HE := Lib.hid hE
    have hlx := isMat_len hi
    have hly := isMat_len hj
    have HSx := Lib.hid (isMat_sm hi)
    have HSy := Lib.hid (isMat_sm hj)
    have HRx : Hid (Rd w A (nv (toN xs))) := by have := HR.out; rw [iv_toN (fun x hx => (isMat_nonneg hi x hx).1)] at this; exact this
    have HRy : Hid (Rd w A' (nv (toN ys))) := by have := HR'.out; rw [iv_toN (fun x hx => (isMat_nonneg hj x hx).1)] at this; exact this
    have lx : (toN xs).length = xs.length := by simp [toN]
    have ly : (toN ys).length = ys.length := by simp [toN]
    have hlyN : (toN ys).length ≤ 200 := by rw [ly]; exact hly
    have hlsp := spanL_length_le (zs (toN xs))
    rw [zs_length, lx] at hlsp
    have hi0 := (compK_inv (red_reduce HSx.out) HSy.out)
    have HI0 := Lib.hid hi0
    have Lx := Lib.hid lx
    have Ly := Lib.hid ly
    clear h1 h0 hi hj hc lx ly hsz hE hi0
    generalize hL0 : spanL (zs (toN xs)) = L0 at *
    have HL0 := Lib.hid hL0
    clear hL0
    go_enter Tryd.func13, Tryd.ntmps13
    go_wp2_with fail
    refine H1.out.mono ?_
    rintro e w1 ⟨rfl, hb⟩
    have HK1a := Lib.hid (blk_keep HK1.out hb)
    have HK2a := Lib.hid (blk_keep HK2.out hb)
    have HB1 := Lib.hid (HB.out.trans (hb.mono HB.out.size))
    have hs1 := HB1.out.size
    obtain ⟨x0, x1, _, _, _⟩ := blk2cells HK1a.out
    clear hb
    go_wp2_with fail
    refine (spanOf_any A n cap (toN xs) w1 (HT.out.below HB1.out hw) (by omega) (by rw [Hn.out, Lx.out]) (by rw [Hn.out]; omega) HSx.out (HRx.out.below HB1.out)).mono ?_
    rintro e w2 ⟨rfl, ⟨v1, v2, hsp⟩, hb⟩
    rw [HL0.out] at hsp
    have HK2b := Lib.hid (blk_keep HK2a.out hb)
    have HB2 := Lib.hid (HB1.out.trans (hb.mono HB1.out.size))
    have HSP := Lib.hid hsp
    obtain ⟨y0, y1, _, _, _⟩ := blk2cells HK2b.out
    have hlt2 := hsp.lt
    clear hb hsp x0 x1
    go_wp2_with fail
    go_loopw [8, 26] (fun o i wr => ∃ k : Nat, k ≤ n' ∧ i = .int .i64 k ∧ wr.ownsRow w.heap.size 2 1 o (compKI L0 (toN ys) k).2.1.length (nv (compKI L0 (toN ys) k).2.1) ∧
        (∃ v1 v2, SpanAt wr w1.heap.size w1.heap.size v1 v2 (compKI L0 (toN ys) k).1 ∧ o.ownBlock ≠ v1.ownBlock ∧ o.ownBlock ≠ v2.ownBlock) ∧ Below w.heap.size w wr ∧ w1.heap.size ≤ wr.heap.size) (fun _ i _ => n' - (intOf i).toNat)
    case atStart =>
      refine ⟨0, by omega, rfl, ?_, ⟨v1, v2, ?_, ?_, ?_⟩, HB2.out.alloc HB2.out.size _, by simp; omega⟩
      · exact World.ownsRow_made w2 #[] 0 HB2.out.size (by decide) (by simp)
      · exact HSP.out.keeps ((Keeps.refl w2 []).alloc _) (by simp) (.inr (by simp)) (.inr (by simp))
      · intro e; have := (HSP.out.own1.lt w2.heap.size e.symm).2; omega
      · intro e; have := (HSP.out.own2.lt w2.heap.size e.symm).2; omega
    case round =>
      obtain ⟨k, hk, rfl, hoo, ⟨v1, v2, hsp, hne1, hne2⟩, hbel, hsw⟩ := hrel
      have hsz : w.heap.size ≤ wr.heap.size := hbel.size
      by_cases hlt : k < n'
      · have hkL : k < (toN ys).length := by rw [Ly.out, ← Hn'.out]; exact hlt
        obtain ⟨b, o', rfl, hc⟩ := (HRy.out.below hbel).atN hkL
        have hm : (toN ys).getD k 0 ∈ toN ys := by simp only [List.getD, List.getElem?_eq_getElem hkL, Option.getD_some]; exact List.getElem_mem hkL
        have g1 := HSy.out _ hm
        have Hs := Lib.hid (compKI_succ L0 (toN ys) k hkL)
        obtain ⟨i1, i2, i3, i4, i5⟩ := HI.out k (by omega)
        obtain ⟨_, _, j3, j4⟩ := HI0.out k (by omega)
        rw [← i5] at j3 j4
        clear i1 i2 i5 hm
        generalize compKI L0 (toN ys) k = p at *
        generalize (toN ys).getD k 0 = x at *
        obtain ⟨L, out, kk⟩ := p
        simp only at i3 i4 j3 j4 hoo hsp
        subst j4
        have ha := add_any w1.heap.size w1.heap.size v1 v2 L x 0 wr (HT.out.below hbel hw) (by omega) hsw hsp (by omega) g1 Sm.zero i3
        have HSQ := Lib.hid hsp
        have HOO := Lib.hid hoo
        have HN1 := Lib.hid hne1
        have HN2 := Lib.hid hne2
        have HB := Lib.hid hbel
        by_cases h0 : (leftN L (x, 0)).1 = 0
        · have hv : AddRes L (x, 0) = .tuple #[.int .i64 ((leftN L (x, 0)).2 : Nat), .bool false] := by simp [AddRes, h0]
          rw [hv] at ha
          have HA := Lib.hid ha
          have HS1 : Hid (compStepI (L, out, kk) x = (addL L (x, 0), out, kk + 1)) := by show _ = _; simp [compStepI, h0]
          clear ha hv h0 hsp hoo hne1 hne2 hbel i3
          generalize (leftN L (x, 0)).2 = z at *
          go_wp2_with (go_at_call 60; refine HA.out.mono ?_; rintro e w3 ⟨rfl, hpost⟩)
          have HP := Lib.hid hpost
          clear hpost
          go_roundw
          case rel =>
            obtain ⟨q1, u1, u2, q2, q3, q4⟩ := span_own_add HSQ.out HOO.out HN1.out HN2.out HP.out
            have hb3 := HP.out.below HSQ.out hsw
            exact ⟨kk + 1, by omega, by go_num, by rw [Hs.out, HS1.out]; exact q1, ⟨u1, u2, by rw [Hs.out, HS1.out]; exact q2, q3, q4⟩, HB.out.trans (hb3.mono hs1), Nat.le_trans hsw hb3.size⟩
          case measure => simp [intOf]; omega
        · have hv : AddRes L (x, 0) = .tuple #[.int .i64 0, .bool true] := by simp [AddRes, h0]
          rw [hv] at ha
          have HA := Lib.hid ha
          have HS1 : Hid (compStepI (L, out, kk) x = (addL L (x, 0), out ++ [kk], kk + 1)) := by show _ = _; simp [compStepI, h0]
          clear ha hv h0 hsp hoo hne1 hne2 hbel i3
          go_wp2_with (first | (go_at_call 60; refine HA.out.mono ?_; (rintro e w3 ⟨rfl, hpost⟩; obtain ⟨q1, u1, u2, q2, q3, q4⟩ := span_own_add HSQ.out HOO.out HN1.out HN2.out hpost; have hb3 := hpost.below HSQ.out hsw; have HQ1 := Lib.hid q1; have HQ2 := Lib.hid q2; have HQ3 := Lib.hid q3; have HQ4 := Lib.hid q4; have HB3 := Lib.hid (HB.out.trans (hb3.mono hs1)); have hsw3 := Nat.le_trans hsw hb3.size; have hsz3 : w.heap.size ≤ w3.heap.size := HB3.out.size; clear hpost q1 q2 q3 q4 hb3)) | (at_builtin; refine wpList_app1 _ _ _ _ _ etI (by rfl) (by rfl) w.heap.size _ out.length (nv out) (by rfl) ?_ _ (.int .i64 (kk : Int)) (by rfl) ?_ (by rfl) ?_ ?_ ?_; exact HQ1.out.alloc _; exact new_cell _ _ _; omega; (simp; omega); (intro g2 cap2 w4 hown2 hgrow2 hat2 hlt2; have HO2' : Hid (w4.ownsRow w.heap.size 2 1 (.slice (some ⟨g2, 0, none⟩) (out.length + 1) cap2) (out.length + 1) (nv (out ++ [kk]))) := (by rw [← nv_snoc]; exact hown2); have HG2 := Lib.hid hgrow2; have HA2 := Lib.hid hat2; clear hown2 hgrow2 hat2 hlt2)))
          go_roundw
          case rel =>
            obtain ⟨t1, t2, t3⟩ := span_own_app HQ2.out (own_ne HQ1.out HQ2.out.blk (by decide)) HQ3.out HQ4.out HG2.out HA2.out
            have hb4 := below_app HB3.out hsz3 HQ1.out HG2.out
            have hg4 := HG2.out.size
            exact ⟨kk + 1, by omega, by go_num, by rw [Hs.out, HS1.out]; exact own_cast HO2'.out (by simp) rfl, ⟨u1, u2, by rw [Hs.out, HS1.out]; exact t1, t2, t3⟩, hb4, by simp at hg4; omega⟩
          case measure => simp [intOf]; omega
      · have ek : k = (toN ys).length := by rw [Ly.out, ← Hn'.out]; omega
        have HOO := Lib.hid hoo
        have HB := Lib.hid hbel
        clear hoo hne1 hne2 hsp hbel
        go_wp2_with fail
        go_ret2
        exact ⟨_, by rw [HE.out]; rfl, by rw [HE.out]; rw [← ek]; exact HOO.out, HB.out⟩
  · have HE : Hid (compOf c xs c' ys = ([], bothOf c xs c' ys)) := by show _ = _; unfold compOf; rw [if_neg h0]
    have hcb : (bothOf c xs c' ys != 0) = true := by simpa using h0
    generalize bothOf c xs c' ys = code at *
    have H1 := Lib.hid h1
    clear h1 h0
    go_enter Tryd.func13, Tryd.ntmps13
    go_wp2_with fail
    refine H1.out.mono ?_
    rintro e w1 ⟨rfl, hb⟩
    have HB1 := Lib.hid (HB.out.trans (hb.mono HB.out.size))
    clear hb
    go_wp2_with fail
    go_ret2
    exact ⟨_, by rw [HE.out]; rfl, by rw [HE.out]; exact World.ownsRow_nil _ _ _ _, HB1.out⟩
end Go.Proofs.YtjhlmalpcelbaaaDoor

namespace Go.Proofs.YtjhlmalpcelbaaaDoor
open Go.RowKit

/-! ### append of a slice that reads as a list, nil let in, onto an own row -/
section
variable {P : Program} {w : World}
theorem append_nothing (t ty e : TypeId) (i : TypeInfo) (size : Nat) (ht : P.underlying t = some (.slice e)) (hi : P.info? e = some i) (base : Nat)
    (v : Value) (n : Nat) (xs : List Value) (hown : w.ownsRow base e size v n xs) (c : Nat) : (Builtin.append_ #[t, t] ty #[v, .slice none 0 c]).run P w = .ok v w := by
  rcases hown.2 with ⟨rfl, rfl⟩ | ⟨g, cap, cur, rfl, _, _, hnc, _⟩
  · simp [Builtin.append_, run_underlying ht, sizeOf, typeInfo, hi, Builtin.lenOf, Builtin.firstCells]
  · simp [Builtin.append_, run_underlying ht, sizeOf, typeInfo, hi, Builtin.lenOf, Builtin.firstCells, hnc, storeCells]
theorem wp_appR {o : Oper} {a : Act} {K : Act → World → Prop} {Q : Exit → Act → World → Prop} (s x : Operand) (t e : TypeId) (bytes : Nat) (E : ET P t e bytes)
    (ho : o.op = .call { callee := .builtin .append, args := #[s, x], argTypes := #[t, t] })
    (base : Nat) (v : Value) (n : Nat) (xs : List Value) (hs : a.eval s = v) (hown : w.ownsRow base e 1 v n xs)
    (A : Option Addr) (m c : Nat) (news : List Value) (hx : a.eval x = .slice A m c) (hm : m = news.length) (hr : Rd w A news) (h1 : ∀ u ∈ news, u.oneCell' = true)
    (hn : n + m < 1099511627776) (hbase : base ≤ w.heap.size)
    (h : ∀ v' w', w'.ownsRow base e 1 v' (n + m) (xs ++ news) → w.grownBy w' v.ownBlock → (v'.ownBlock = v.ownBlock ∨ v'.ownBlock = some w.heap.size) → K (a.put o.dst v') w') : Oper.wp P o a w K Q := by
  obtain ⟨i, z, hi, hz0, hz1, hz2, hz3⟩ := E.inf
  have hsm := E.small
  have key : ∃ v' w', (Builtin.append_ #[t, t] o.type #[v, .slice A m c]).run P w = .ok v' w' ∧ w'.ownsRow base e 1 v' (n + m) (xs ++ news) ∧ w.grownBy w' v.ownBlock ∧ (v'.ownBlock = v.ownBlock ∨ v'.ownBlock = some w.heap.size) := by
    rcases A with _ | ad
    · have h0 : news = [] := by
        rcases hr with h | ⟨b, o', h, _⟩
        · exact h
        · cases h
      subst h0
      have hm0 : m = 0 := by simpa using hm
      subst hm0
      exact ⟨v, w, append_nothing t o.type e i 1 E.und hi base v n xs hown c, by simpa using hown, World.grownBy.refl w _, .inl rfl⟩
    · have hcells : ∀ j u, news[j]? = some u → w.cell? (ad.add j) = some u := by
        intro j u hj
        rcases hr with h | ⟨b, o', h, hc⟩
        · subst h; simp at hj
        · injection h with h; subst h
          rw [Addr.add_lit]; exact hc j u hj
      obtain ⟨v', w', hrun, h2, h3, _, h5⟩ := run_append_own_at (P := P) w base t o.type e i z 1 bytes E.und hi hz0 hz1 hz2 hz3 (by omega) v n xs hown ad m c news (by omega) hcells h1 (by unfold maxLen; omega)
        (Nat.le_trans (Nat.mul_le_mul (show n + m ≤ 1099511627776 by omega) hsm) (by decide)) hbase
      exact ⟨v', w', hrun, h2, h3, h5⟩
  obtain ⟨v', w', hrun, h2, h3, h4⟩ := key
  unfold Oper.wp execOp
  simp only [ho, resolve, invoke, builtin, Sem.run_bind, Sem.run_pure, Result.andThen_ok, List.map_toArray, List.map_cons, List.map_nil, hs, hx, hrun]
  exact h v' w' h2 h3 h4
theorem wpList_appR {ops : Array Oper} {rest : List Oper} {o : Oper} {a : Act} {Q : Exit → Act → World → Prop} (s x : Operand) (t e : TypeId) (bytes : Nat) (E : ET P t e bytes) (hgd : o.guard = none)
    (ho : o.op = .call { callee := .builtin .append, args := #[s, x], argTypes := #[t, t] })
    (base : Nat) (v : Value) (n : Nat) (xs : List Value) (hs : a.eval s = v) (hown : w.ownsRow base e 1 v n xs)
    (A : Option Addr) (m c : Nat) (news : List Value) (hx : a.eval x = .slice A m c) (hm : m = news.length) (hr : Rd w A news) (h1 : ∀ u ∈ news, u.oneCell' = true)
    (hn : n + m < 1099511627776) (hbase : base ≤ w.heap.size)
    (h : ∀ v' w', w'.ownsRow base e 1 v' (n + m) (xs ++ news) → w.grownBy w' v.ownBlock → (v'.ownBlock = v.ownBlock ∨ v'.ownBlock = some w.heap.size) → wpList P ops Q rest (a.put o.dst v') w') : wpList P ops Q (o :: rest) a w :=
  wpList_plain hgd fun _ hK => wp_appR s x t e bytes E ho base v n xs hs hown A m c news hx hm hr h1 hn hbase fun v' w' h2 h3 h4 => hK _ _ (h v' w' h2 h3 h4)
/-- .. at a step of a region that draws its order -/
theorem step_appR {ops : Array Oper} {o : Oper} {a : Act} {K : Act → World → Prop} {Q : Exit → Act → World → Prop} {E' : Prop} (s x : Operand) (t e : TypeId) (bytes : Nat) (E : ET P t e bytes) (hgd : o.guard = none)
    (ho : o.op = .call { callee := .builtin .append, args := #[s, x], argTypes := #[t, t] })
    (base : Nat) (v : Value) (n : Nat) (xs : List Value) (hs : a.eval s = v) (hown : w.ownsRow base e 1 v n xs)
    (A : Option Addr) (m c : Nat) (news : List Value) (hx : a.eval x = .slice A m c) (hm : m = news.length) (hr : Rd w A news) (h1 : ∀ u ∈ news, u.oneCell' = true)
    (hn : n + m < 1099511627776) (hbase : base ≤ w.heap.size)
    (h : ∀ v' w', w'.ownsRow base e 1 v' (n + m) (xs ++ news) → w.grownBy w' v.ownBlock → (v'.ownBlock = v.ownBlock ∨ v'.ownBlock = some w.heap.size) → K (a.put o.dst v') w') :
    if Region.wanted o (yielded ops a.tmps) = true then Oper.wp P o a w K Q else E' := by
  rw [if_pos (by simp [Region.wanted, hgd])]
  exact wp_appR s x t e bytes E ho base v n xs hs hown A m c news hx hm hr h1 hn hbase h
end
theorem below_app2 {H : Nat} {w wr w1 : World} {v : Value} {n : Nat} {xs : List Value} {e : TypeId} (hb : Below H w wr) (hH : H ≤ wr.heap.size) (hown : wr.ownsRow H e 1 v n xs) {o : Obj} (hg : (wr.alloc o).grownBy w1 v.ownBlock) : Below H w w1 :=
  (hb.alloc hH o).grown hg (by simp; omega) (fun k hk => (hown.lt k hk).1)
theorem iv_append (xs ys : List Int) : iv (xs ++ ys) = iv xs ++ iv ys := by simp [iv]
theorem nv_one (S : List Nat) : ∀ u ∈ nv S, u.oneCell' = true := by
  intro u hu
  obtain ⟨x, _, rfl⟩ := List.mem_map.1 hu
  rfl
theorem iv_one (S : List Int) : ∀ u ∈ iv S, u.oneCell' = true := by
  intro u hu
  obtain ⟨x, _, rfl⟩ := List.mem_map.1 hu
  rfl

set_option maxHeartbeats 1000000 in
theorem copyOf_any (A : Option Addr) (n c : Nat) (vs : List Value) (w : World) (hn : n = vs.length) (hsm : n ≤ 1000000000) (h1 : ∀ u ∈ vs, u.oneCell' = true) (hR : Rd w A vs) :
    Calls Tryd.prog 93 #[.slice A n c] w fun e w' => ∃ g cap, e = .returned (.slice (some ⟨g, 0, none⟩) n cap) ∧ w'.ownsRow w.heap.size 2 1 (.slice (some ⟨g, 0, none⟩) n cap) n vs ∧ Below w.heap.size w w' := by
  have HR := Lib.hid hR
  have Hn := Lib.hid hn
  have H1 := Lib.hid h1
  clear hR hn h1
  go_enter Tryd.func93, Tryd.ntmps93
  go_wp2_with (at_builtin; refine wpList_appR _ _ _ _ _ etI (by rfl) (by rfl) w.heap.size (.slice (some ⟨w.heap.size, 0, none⟩) 0 0) 0 [] (by rfl) ?_ A n c vs (by rfl) Hn.out ?_ H1.out ?_ ?_ ?_; exact World.ownsRow_made w #[] 0 (Nat.le_refl _) (by decide) (by simp); exact HR.out.alloc _; omega; (simp); (intro v' w' hown hg hat; have HO := Lib.hid hown; have HG := Lib.hid hg; have HA := Lib.hid hat; clear hown hg hat))
  go_ret
  have ho := HO.out
  rw [Nat.zero_add, List.nil_append] at ho
  have hb : Below w.heap.size w w' := ((Below.refl _ _).alloc (Nat.le_refl _) _).grown HG.out (by simp) (fun k hk => by simp [Value.ownBlock] at hk; omega)
  rcases ho.2 with ⟨rfl, _⟩ | ⟨g, cap, cur, rfl, _⟩
  · rcases HA.out with h | h <;> simp [Value.ownBlock] at h
  · exact ⟨g, cap, rfl, ho, hb⟩

end Go.Proofs.YtjhlmalpcelbaaaDoor

namespace Go.Proofs.YtjhlmalpcelbaaaDoor
open Go.RowKit

theorem smp_left : ∀ (L : List (Nat × Nat)) (p : Nat × Nat), (∀ r ∈ L, SmP r) → SmP p → SmP (leftN L p)
  | [], _, _, hp => hp
  | r :: L, p, h, hp => smp_left L (leftStep p r) (fun s hs => h s (List.mem_cons_of_mem _ hs)) (hp.step (h r (List.mem_cons_self ..)))
theorem shl_one {k : Nat} (h : k ≤ 60) : wrap64 ((2 : Int) ^ k) = ((2 ^ k : Nat) : Int) := by
  have h1 : (2 : Nat) ^ k ≤ 2 ^ 60 := Nat.pow_le_pow_right (by omega) h
  have e : (2 ^ 60 : Nat) = 1152921504606846976 := by decide
  have h2 : ((2 ^ k : Nat) : Int) = (2 : Int) ^ k := by rw [Int.natCast_pow]; rfl
  rw [← h2]
  generalize (2 ^ k : Nat) = z at *
  unfold wrap64; omega
theorem apart_some {v : Value} {g c n : Nat} (h : v.ownBlock = none ∨ v.ownBlock ≠ some g) : (Value.slice (some ⟨g, 0, none⟩) n c).ownBlock = none ∨ (Value.slice (some ⟨g, 0, none⟩) n c).ownBlock ≠ v.ownBlock := by
  refine .inr fun e => ?_
  have e1 : (Value.slice (some ⟨g, 0, none⟩) n c).ownBlock = some g := rfl
  rw [e1] at e
  rcases h with h | h
  · rw [h] at e; cases e
  · exact h e.symm
theorem apart_ne {g g' c c' n n' : Nat} (h : (Value.slice (some ⟨g, 0, none⟩) n c).ownBlock = none ∨ (Value.slice (some ⟨g, 0, none⟩) n c).ownBlock ≠ some g') : (Value.slice (some ⟨g, 0, none⟩) n c).ownBlock ≠ (Value.slice (some ⟨g', 0, none⟩) n' c').ownBlock := by
  rcases h with h | h
  · cases h
  · exact h
/-- the lists done and sums after k rounds -/
def solK (S : List Nat) (k : Nat) : List (Nat × Nat) := growAll ((us 0 S).take k)
theorem solK_succ {S : List Nat} {k : Nat} (h : k < S.length) : solK S (k + 1) = growL (solK S k) (S.getD k 0, 2 ^ k) := by
  unfold solK growAll
  rw [fold_take_succ growL [] (us 0 S) k (0, 0) (by rw [us_length]; exact h), us_getD S 0 k h, Nat.zero_add]
theorem growL_length (L : List (Nat × Nat)) (p : Nat × Nat) : (growL L p).length ≤ L.length + 1 := by unfold growL; split <;> simp
theorem solK_length (S : List Nat) : ∀ k, k ≤ S.length → (solK S k).length ≤ k := by
  intro k
  induction k with
  | zero => intro _; simp [solK, growAll]
  | succ k ih => intro h; rw [solK_succ (by omega)]; have := growL_length (solK S k) (S.getD k 0, 2 ^ k); have := ih (by omega); omega
theorem solK_good {S : List Nat} (hS : ∀ r ∈ S, Sm r) (hl : S.length ≤ 62) (k : Nat) : Good (solK S k) := by
  have hu := us_sm hS hl
  have h1 : ∀ p ∈ (us 0 S).take k, SmP p := fun p hp => hu p (List.mem_of_mem_take hp)
  have he : Ech (r1 (solK S k)) := grow_ech_all _ [] ⟨by simp [r1], by simp [r1]⟩ fun p hp => (h1 p hp).1
  have hs := grow_all (P := SmP) smp_left _ [] h1 (by simp)
  intro r hr
  exact ⟨(he.ne r.1 (List.mem_map_of_mem hr)).1, hs r hr⟩
theorem solK_all (S : List Nat) : solK S S.length = growAll (us 0 S) := by
  unfold solK; rw [List.take_of_length_le (by rw [us_length]; exact Nat.le_refl _)]

end Go.Proofs.YtjhlmalpcelbaaaDoor

namespace Go.Proofs.YtjhlmalpcelbaaaDoor
open Go.RowKit

attribute [local go_sem] i64_xor_nat and_pw_ne in
set_option maxRecDepth 100000 in
set_option maxHeartbeats 2000000 in
theorem solve_any (A : Option Addr) (n c : Nat) (S : List Nat) (v : Nat) (w : World) (hn : n = S.length) (hsmall : n ≤ 60) (hv : Sm v) (hS : ∀ r ∈ S, Sm r) (hR : Rd w A (nv S)) :
    Calls Tryd.prog 88 #[.slice A n c, .int .i64 v] w fun e w' => e = .returned (.tuple #[.int .i64 ((solL S v).2 : Nat), .bool (decide ((solL S v).1 = 0))]) ∧ Below w.heap.size w w' := by
  have Hn := Lib.hid hn
  have HR := Lib.hid hR
  have HS := Lib.hid hS
  have HG := Lib.hid (fun k => solK_good hS (by omega) k)
  clear hn hR hS
  go_enter Tryd.func88, Tryd.ntmps88
  go_wp2_with fail
  go_loopw [6, 7, 9] (fun d s i wr => ∃ k : Nat, k ≤ n ∧ i = .int .i64 k ∧ wr.ownsRow w.heap.size 2 1 d (solK S k).length (nv (r1 (solK S k))) ∧ wr.ownsRow w.heap.size 2 1 s (solK S k).length (nv (r2 (solK S k))) ∧ d.ownBlock ≠ s.ownBlock ∧ Below w.heap.size w wr) (fun _ _ i _ => n - (intOf i).toNat)
  case atStart =>
    refine ⟨0, by omega, rfl, ?_, ?_, by simp [Value.ownBlock], ((Below.refl _ _).alloc (Nat.le_refl _) _).alloc (by simp) _⟩
    · exact (World.ownsRow_made w #[] 0 (Nat.le_refl _) (by decide) (by simp)).alloc _
    · have := World.ownsRow_made (w.alloc (.cells #[] 2)) #[] 0 (base := w.heap.size) (e := 2) (size := 1) (by simp) (by decide) (by simp)
      rw [World.size_alloc] at this
      exact this
  case round =>
    obtain ⟨k, hk, rfl, hod, hos, hne, hbel⟩ := hrel
    have hsz : w.heap.size ≤ wr.heap.size := hbel.size
    by_cases hlt : k < n
    · have hkL : k < S.length := by rw [← Hn.out]; exact hlt
      obtain ⟨b, o, rfl, hc⟩ := (HR.out.below hbel).atN hkL
      have hx := HS.out _ (getD_mem hkL)
      have Hs := Lib.hid (solK_succ hkL)
      have hg := HG.out k
      have hl := solK_length S k (by omega)
      have hp2 : Sm (2 ^ k) := by
        have := pw_sm (p := k) (by omega); exact this
      generalize solK S k = L at *
      generalize S.getD k 0 = x at *
      obtain ⟨D, cd, rfl, _, hD, _⟩ := owns_shape hod
      obtain ⟨E, ce, rfl, _, hE, _⟩ := owns_shape hos
      have HOD := Lib.hid hod
      have HOS := Lib.hid hos
      have HNE := Lib.hid hne
      have HB := Lib.hid hbel
      have HRD := Lib.hid (owns_Rd hod)
      have HRE := Lib.hid (owns_Rd hos)
      clear hod hos hne hbel hD hE
      go_wp2_with fail
      go_loop [10, 11, 12] (fun a b j => ∃ i : Nat, i ≤ L.length ∧ j = .int .i64 i ∧ a = .int .i64 (leftN (L.take i) (x, 2 ^ k)).1 ∧ b = .int .i64 (leftN (L.take i) (x, 2 ^ k)).2) (fun _ _ j => L.length - (intOf j).toNat)
      case atStart =>
        exact ⟨0, by omega, rfl, rfl, congrArg (Value.int .i64) (shl_one (by omega))⟩
      case round =>
        obtain ⟨i, hi, rfl, rfl, rfl⟩ := hrel
        by_cases hlt2 : i < L.length
        · obtain ⟨b1, o1, rfl, hc1⟩ := HRD.out.atN (k := i) (by rw [r1_length]; exact hlt2)
          obtain ⟨b2, o2, rfl, hc2⟩ := HRE.out.atN (k := i) (by rw [r2_length]; exact hlt2)
          rw [r1_getD] at hc1; rw [r2_getD] at hc2
          obtain ⟨g0, g1, g2⟩ := hg.at_ hlt2
          have Hi := Lib.hid (fold_take_succ leftStep (x, 2 ^ k) L i (0, 0) hlt2)
          have hq : SmP (leftN (L.take i) (x, 2 ^ k)) := SmP.foldl (hg.take i) ⟨hx, hp2⟩
          obtain ⟨q1, q2⟩ := hq
          have hpv := pv_le g0 g1
          generalize hP : leftN (L.take i) (x, 2 ^ k) = p at *
          generalize hR' : L.getD i (0, 0) = r at *
          have HP := Lib.hid hP; clear hP
          have HR' := Lib.hid hR'; clear hR' hg
          have HL := Lib.hid (fun W => low_any r.1 g0 g1 W)
          cases hb : tb p.1 (pv r.1)
          all_goals
            go_wp2_with (go_at_call 94; refine (HL.out _).mono ?_; rintro e w' ⟨rfl, rfl⟩)
            go_round
            case rel => exact ⟨i + 1, by omega, by go_num, by unfold leftN at *; rw [Hi.out, HP.out]; simp [leftStep, hb], by unfold leftN at *; rw [Hi.out, HP.out]; simp [leftStep, hb]⟩
            case measure => simp [intOf]; omega
        · have ei : L.take i = L := List.take_of_length_le (by omega)
          rw [ei]
          have hq : SmP (leftN L (x, 2 ^ k)) := SmP.foldl hg ⟨hx, hp2⟩
          have hgr := grow_cases L (x, 2 ^ k)
          obtain ⟨q1, q2⟩ := hq
          generalize leftN L (x, 2 ^ k) = q at *
          rcases hgr with ⟨hgr, h0⟩ | ⟨hgr, h0⟩
          · have HGR := Lib.hid hgr
            clear hgr
            rw [h0]
            go_wp2_with fail
            go_roundw
            case rel => exact ⟨k + 1, by omega, by go_num, by rw [Hs.out, HGR.out]; exact HOD.out, by rw [Hs.out, HGR.out]; exact HOS.out, HNE.out, HB.out⟩
            case measure => simp [intOf]; omega
          · have HGR := Lib.hid hgr
            have hne0 : ((q.1 : Int) != 0) = true := by simpa using h0
            clear hgr
            go_wp2_with (first | (at_builtin; refine wpList_app1 _ _ _ _ _ etI (by rfl) (by rfl) w.heap.size _ L.length (nv (r1 L)) (by rfl) ?_ _ (.int .i64 (q.1 : Int)) (by rfl) ?_ (by rfl) ?_ ?_ ?_; exact HOD.out.alloc _; exact new_cell _ _ _; omega; (simp; omega); (intro g1' cap1 w1 hown1 hgrow1 hat1 hlt1; obtain ⟨t1, t2⟩ := own_other_app HOS.out (.inr HNE.out.symm) hgrow1 hat1; have HB1 := Lib.hid (below_app HB.out hsz HOD.out hgrow1); have hsz1 : w.heap.size ≤ w1.heap.size := HB1.out.size; have HO1 : Hid (w1.ownsRow w.heap.size 2 1 (.slice (some ⟨g1', 0, none⟩) (L.length + 1) cap1) (L.length + 1) (nv (r1 (L ++ [q])))) := (by show Go.World.ownsRow _ _ _ _ _ _ _; rw [show r1 (L ++ [q]) = r1 L ++ [q.1] by simp [r1], ← nv_snoc]; exact hown1); have HT1 := Lib.hid t1; have HT2 := Lib.hid t2; clear hown1 hgrow1 hat1 hlt1 t1 t2)) | (at_builtin; refine wpList_app1 _ _ _ _ _ etI (by rfl) (by rfl) w.heap.size _ L.length (nv (r2 L)) (by rfl) ?_ _ (.int .i64 (q.2 : Int)) (by rfl) ?_ (by rfl) ?_ ?_ ?_; exact HT1.out.alloc _; exact new_cell _ _ _; omega; (simp; omega); (intro g2' cap2 w2 hown2 hgrow2 hat2 hlt2; obtain ⟨t1, t2⟩ := own_other_app HO1.out (apart_some HT2.out) hgrow2 hat2; have HB2 := Lib.hid (below_app HB1.out hsz1 HT1.out hgrow2); have HO2 : Hid (w2.ownsRow w.heap.size 2 1 (.slice (some ⟨g2', 0, none⟩) (L.length + 1) cap2) (L.length + 1) (nv (r2 (L ++ [q])))) := (by show Go.World.ownsRow _ _ _ _ _ _ _; rw [show r2 (L ++ [q]) = r2 L ++ [q.2] by simp [r2], ← nv_snoc]; exact hown2); have HT3 := Lib.hid t1; have HT4 := Lib.hid (apart_ne (n' := L.length + 1) (c' := cap2) t2); clear hown2 hgrow2 hat2 hlt2 t1 t2)))
            go_roundw
            case rel => exact ⟨k + 1, by omega, by go_num, by rw [Hs.out, HGR.out]; exact own_cast HT3.out (by simp) rfl, by rw [Hs.out, HGR.out]; exact own_cast HO2.out (by simp) rfl, HT4.out, HB2.out⟩
            case measure => simp [intOf]; omega
    · have ek : k = S.length := by rw [← Hn.out]; omega
      have hg := HG.out k
      have HE : Hid (solL S v = leftN (solK S k) (v, 0)) := by show _ = _; rw [ek, solK_all]; rfl
      have hl := solK_length S k (by omega)
      clear ek
      generalize solK S k = L at *
      obtain ⟨D, cd, rfl, _, hD, _⟩ := owns_shape hod
      obtain ⟨E, ce, rfl, _, hE, _⟩ := owns_shape hos
      have HB := Lib.hid hbel
      have HRD := Lib.hid (owns_Rd hod)
      have HRE := Lib.hid (owns_Rd hos)
      clear hod hos hne hbel hD hE
      go_wp2_with fail
      go_loop [1, 8, 13] (fun a b j => ∃ i : Nat, i ≤ L.length ∧ j = .int .i64 i ∧ a = .int .i64 (leftN (L.take i) (v, 0)).1 ∧ b = .int .i64 (leftN (L.take i) (v, 0)).2) (fun _ _ j => L.length - (intOf j).toNat)
      case atStart => exact ⟨0, by omega, rfl, rfl, rfl⟩
      case round =>
        obtain ⟨i, hi, rfl, rfl, rfl⟩ := hrel
        by_cases hlt2 : i < L.length
        · obtain ⟨b1, o1, rfl, hc1⟩ := HRD.out.atN (k := i) (by rw [r1_length]; exact hlt2)
          obtain ⟨b2, o2, rfl, hc2⟩ := HRE.out.atN (k := i) (by rw [r2_length]; exact hlt2)
          rw [r1_getD] at hc1; rw [r2_getD] at hc2
          obtain ⟨g0, g1, g2⟩ := hg.at_ hlt2
          have Hi := Lib.hid (fold_take_succ leftStep (v, 0) L i (0, 0) hlt2)
          have hq : SmP (leftN (L.take i) (v, 0)) := SmP.foldl (hg.take i) ⟨hv, Sm.zero⟩
          obtain ⟨q1, q2⟩ := hq
          have hpv := pv_le g0 g1
          generalize hP : leftN (L.take i) (v, 0) = p at *
          generalize hR' : L.getD i (0, 0) = r at *
          have HP := Lib.hid hP; clear hP
          have HR' := Lib.hid hR'; clear hR' hg
          have HL := Lib.hid (fun W => low_any r.1 g0 g1 W)
          cases hb : tb p.1 (pv r.1)
          all_goals
            go_wp2_with (go_at_call 94; refine (HL.out _).mono ?_; rintro e w' ⟨rfl, rfl⟩)
            go_round
            case rel => exact ⟨i + 1, by omega, by go_num, by unfold leftN at *; rw [Hi.out, HP.out]; simp [leftStep, hb], by unfold leftN at *; rw [Hi.out, HP.out]; simp [leftStep, hb]⟩
            case measure => simp [intOf]; omega
        · have ei : L.take i = L := List.take_of_length_le (by omega)
          rw [ei]
          generalize leftN L (v, 0) = q at *
          go_wp2_with fail
          go_ret2
          have hbq : ((q.1 : Int) == 0) = decide (q.1 = 0) := by by_cases hz : q.1 = 0 <;> simp [hz]
          refine ⟨?_, HB.out⟩
          rw [HE.out]
          simp [hbq]
end Go.Proofs.YtjhlmalpcelbaaaDoor

namespace Go.Proofs.YtjhlmalpcelbaaaDoor
open Go.RowKit

/-- What InverseMatrix answers: columns, rows, code. -/
def invOf (c : Int) (xs : List Int) : Int × List Nat × Int :=
  if isMat c xs then
    if c = xs.length then
      if ∀ j, j < xs.length → (solL (toN xs) (2 ^ j)).1 = 0 then (c, (List.range xs.length).map fun j => (solL (toN xs) (2 ^ j)).2, 0) else (0, [], 5)
    else (0, [], 2)
  else (0, [], 1)

/-- a cell of a block of two stored, the block known whole -/
theorem blk2set1 {w : World} {g : Nat} {u v : Value} {t : TypeId} (h : w.heap[g]? = some (.cells #[u, v] t (0, 0))) (x : Value) : (w.setCell ⟨g, 1, none⟩ x).heap[g]? = some (.cells #[u, x] t (0, 0)) := by
  have := heap_setCell_same w g 1 _ t x h
  simpa using this
theorem blk2set0 {w : World} {g : Nat} {u v : Value} {t : TypeId} (h : w.heap[g]? = some (.cells #[u, v] t (0, 0))) (x : Value) : (w.setCell ⟨g, 0, none⟩ x).heap[g]? = some (.cells #[x, v] t (0, 0)) := by
  have := heap_setCell_same w g 0 _ t x h
  simpa using this
theorem blk_set_other {w : World} {g : Nat} {x : Obj} (h : w.heap[g]? = some x) (p : Addr) (hp : p.block ≠ g) (u : Value) : (w.setCell p u).heap[g]? = some x := (Below.heap_setCell w p u g (Ne.symm hp)).trans h

/-- the masks that the reference has found by round k -/
def invK (S : List Nat) (k : Nat) : List Nat := (List.range k).map fun j => (solL S (2 ^ j)).2
theorem invK_succ (S : List Nat) (k : Nat) : invK S (k + 1) = invK S k ++ [(solL S (2 ^ k)).2] := by simp [invK, List.range_succ]
theorem invK_length (S : List Nat) (k : Nat) : (invK S k).length = k := by simp [invK]
/-- the box of the result that is being made -/
def OutAt (w : World) (B g : Nat) (c : Int) (k : Nat) (S : List Nat) : Prop := ∃ v, w.heap[g]? = some (.cells #[.int .i64 c, v] 26 (0, 0)) ∧ w.ownsRow B 2 1 v k (nv S)

theorem OutAt.app {w2 w3 : World} {B g : Nat} {c : Int} {k g2 cap2 : Nat} {S : List Nat} {v : Value} {y : Nat} {o : Obj} (hB : B ≤ g)
    (hbo : w2.heap[g]? = some (.cells #[.int .i64 c, v] 26 (0, 0))) (hoo : w2.ownsRow B 2 1 v k (nv S))
    (hown2 : w3.ownsRow B 2 1 (.slice (some ⟨g2, 0, none⟩) (k + 1) cap2) (k + 1) (nv S ++ [.int .i64 (y : Int)])) (hg : (w2.alloc o).grownBy w3 v.ownBlock) :
    OutAt (w3.setCell ⟨g, 1, none⟩ (.slice (some ⟨g2, 0, none⟩) (k + 1) cap2)) B g c (k + 1) (S ++ [y]) ∧ Below B w2 (w3.setCell ⟨g, 1, none⟩ (.slice (some ⟨g2, 0, none⟩) (k + 1) cap2)) := by
  have hlt := (Array.getElem?_eq_some_iff.1 hbo).1
  have hb3 : w3.heap[g]? = some (.cells #[.int .i64 c, v] 26 (0, 0)) := blk_grown (blk_alloc hbo o) hg (own_ne hoo hbo (by decide))
  have hne := own_ne hown2 hb3 (by decide)
  refine ⟨⟨_, blk2set1 hb3 _, ?_⟩, ?_⟩
  · rw [← nv_snoc]
    exact owns_keeps hown2 ((Keeps.refl w3 [some g]).setCell (p := ⟨g, 1, none⟩) (by simp) _) (.inr (by simp only [List.mem_singleton]; exact hne))
  · exact (below_app (Below.refl _ _) (by omega) hoo hg).setCell (p := ⟨g, 1, none⟩) hB _

set_option maxRecDepth 100000 in
set_option maxHeartbeats 2000000 in
theorem specInv_any (c : Int) (A : Option Addr) (n cap : Nat) (xs : List Int) (w : World) (hn : n = xs.length) (hsm : n ≤ 1099511627776) (hR : Rd w A (iv xs)) :
    Calls Tryd.prog 49 #[.agg #[.int .i64 c, .slice A n cap]] w fun e w' =>
      ∃ v, e = .returned (.tuple #[.agg #[.int .i64 (invOf c xs).1, v], .int .i64 (invOf c xs).2.2]) ∧ w'.ownsRow w.heap.size 2 1 v (invOf c xs).2.1.length (nv (invOf c xs).2.1) ∧ Below w.heap.size w w' := by
  have hb1 := blk_alloc (blk_new w (.cells #[.int .i64 c, .slice A n cap] 26)) (.cells #[.int .i64 0, .slice none 0 0] 26)
  have hb2 := blk_new1 w (.cells #[.int .i64 c, .slice A n cap] 26) (.cells #[.int .i64 0, .slice none 0 0] 26)
  have hbel : Below w.heap.size w ((w.alloc (.cells #[.int .i64 c, .slice A n cap] 26)).alloc (.cells #[.int .i64 0, .slice none 0 0] 26)) := ((Below.refl _ _).alloc (Nat.le_refl _) _).alloc (by simp) _
  have h1 := l02Is_any c A n cap xs _ hn hsm (hR.below hbel)
  have HK1 := Lib.hid hb1
  have HK2 := Lib.hid hb2
  have HB := Lib.hid hbel
  have HR := Lib.hid hR
  have Hn := Lib.hid hn
  clear hb1 hb2 hbel hR hn
  cases hi : isMat c xs with
  | false =>
    rw [hi] at h1
    have HE : Hid (invOf c xs = (0, [], 1)) := by show _ = _; simp [invOf, hi]
    have H1 := Lib.hid h1
    clear h1 hi
    go_enter Tryd.func49, Tryd.ntmps49
    go_wp2_with fail
    refine H1.out.mono ?_
    rintro e w1 ⟨rfl, hb⟩
    have HK2a := Lib.hid (blk_keep HK2.out hb)
    have HB1 := Lib.hid (HB.out.trans (hb.mono HB.out.size))
    obtain ⟨x0, x1, f0, f1, lx⟩ := blk2cells HK2a.out
    clear hb
    go_wp2_with fail
    refine bodyPost_ret (v := .tuple #[.agg #[.int .i64 0, .slice none 0 0], .int .i64 1]) ?_ rfl ⟨_, by rw [HE.out], by rw [HE.out]; exact World.ownsRow_nil _ _ _ _, ?_⟩
    · simp [results, Tryd.results49, go_sem, x0, x1]
    · exact (HB1.out.setCell (p := ⟨w.heap.size + 1, 0, none⟩) (by simp) _).setCell (p := ⟨w.heap.size + 1, 1, none⟩) (by simp) _
  | true =>
    rw [hi] at h1
    have H1 := Lib.hid h1
    have HSx := Lib.hid (isMat_sm hi)
    have HRx : Hid (Rd w A (nv (toN xs))) := by have := HR.out; rw [iv_toN (fun x hx => (isMat_nonneg hi x hx).1)] at this; exact this
    have lx : (toN xs).length = xs.length := by simp [toN]
    have Lx := Lib.hid lx
    obtain ⟨d, hd, hd60⟩ := isMat_cols hi
    clear h1 lx
    by_cases hc : c = (n : Int)
    · subst hc
      have hn60 : n ≤ 60 := by omega
      have HE : Hid (invOf n xs = if ∀ j, j < n → (solL (toN xs) (2 ^ j)).1 = 0 then ((n : Int), invK (toN xs) n, 0) else (0, [], 5)) := by
        show _ = _; unfold invOf; rw [if_pos hi, if_pos (by rw [Hn.out]), ← Hn.out]; rfl
      clear hi hd hd60
      go_enter Tryd.func49, Tryd.ntmps49
      go_wp2_with fail
      refine H1.out.mono ?_
      rintro e w1 ⟨rfl, hb⟩
      have HK1a := Lib.hid (blk_keep HK1.out hb)
      have HK2a := Lib.hid (blk_keep HK2.out hb)
      have HB1 := Lib.hid (HB.out.trans (hb.mono HB.out.size))
      have hs1 := HB1.out.size
      have lx2 := (Array.getElem?_eq_some_iff.1 HK2a.out).1
      obtain ⟨x0, x1, f0, f1, lx⟩ := blk2cells HK1a.out
      clear hb
      go_wp2_with fail
      go_loopw [5] (fun i wr => ∃ k : Nat, k ≤ n ∧ i = .int .i64 k ∧ (∀ j, j < k → (solL (toN xs) (2 ^ j)).1 = 0) ∧ OutAt wr w1.heap.size w1.heap.size n k (invK (toN xs) k) ∧
          wr.heap[w.heap.size]? = some (.cells #[.int .i64 n, .slice A n cap] 26 (0, 0)) ∧ wr.heap[w.heap.size + 1]? = some (.cells #[.int .i64 0, .slice none 0 0] 26 (0, 0)) ∧ Below w1.heap.size w1 wr) (fun i _ => n - (intOf i).toNat)
      case atStart => exact ⟨0, by omega, rfl, fun j hj => absurd hj (by omega), ⟨_, blk_new w1 _, World.ownsRow_nil _ _ _ _⟩, blk_alloc HK1a.out _, blk_alloc HK2a.out _, (Below.refl _ _).alloc (Nat.le_refl _) _⟩
      case round =>
        obtain ⟨k, hk, rfl, hall, ⟨v, hbo, hoo⟩, hbm, hbr, hbel⟩ := hrel
        have hsz : w1.heap.size ≤ wr.heap.size := hbel.size
        obtain ⟨x0, x1, _, _, _⟩ := blk2cells hbm
        obtain ⟨y0, y1, fy0, fy1, _⟩ := blk2cells hbr
        obtain ⟨z0, z1, fz0, fz1, lz⟩ := blk2cells hbo
        have HO := Lib.hid hoo
        have HBO := Lib.hid hbo
        have HBM := Lib.hid hbm
        have HBR := Lib.hid hbr
        have HBL := Lib.hid hbel
        clear hoo hbo hbm hbr hbel
        by_cases hlt : k < n
        · have hp2 : Sm (2 ^ k) := by have := pw_sm (p := k) (by omega); exact this
          have hs := fun W (hW : Rd W A (nv (toN xs))) => solve_any A n cap (toN xs) (2 ^ k) W (by rw [Hn.out, Lx.out]) hn60 hp2 HSx.out hW
          rw [← shl_one (by omega)] at hs
          by_cases h0 : (solL (toN xs) (2 ^ k)).1 = 0
          · simp only [h0, decide_true] at hs
            have HS := Lib.hid hs
            have HI := Lib.hid (invK_succ (toN xs) k)
            have HL : Hid (∀ j, j < k + 1 → (solL (toN xs) (2 ^ j)).1 = 0) := by
              show ∀ j, j < k + 1 → _
              intro j hj
              by_cases e : j = k
              · subst e; exact h0
              · exact hall j (by omega)
            clear hs h0 hall
            generalize (solL (toN xs) (2 ^ k)).2 = y at *
            go_wp2_with fail
            refine (HS.out _ (HRx.out.below (HB1.out.trans (HBL.out.mono hs1)))).mono ?_
            rintro e w2 ⟨rfl, hb⟩
            have hsz2 : w1.heap.size ≤ w2.heap.size := Nat.le_trans hsz hb.size
            have HBL2 := Lib.hid (HBL.out.trans (hb.mono hsz))
            have HBO2 := Lib.hid (blk_keep HBO.out hb)
            have HBM2 := Lib.hid (blk_keep HBM.out hb)
            have HBR2 := Lib.hid (blk_keep HBR.out hb)
            have HO2 := Lib.hid (owns_keeps HO.out (Keeps.of_below hb) (.inr (by simp)))
            clear x0 x1 y0 y1 z0 z1 fy0 fy1 fz0 fz1 hb
            obtain ⟨z0, z1, fz0, fz1, lz⟩ := blk2cells HBO2.out
            go_wp2_with (at_builtin; refine wpList_app1 _ _ _ _ _ etI (by rfl) (by rfl) w1.heap.size _ k (nv (invK (toN xs) k)) (by rfl) ?_ _ (.int .i64 (y : Int)) (by rfl) ?_ (by rfl) ?_ ?_ ?_; exact HO2.out.alloc _; exact new_cell _ _ _; omega; (simp; omega); (intro g2 cap2 w3 hown3 hgrow3 hat3 hlt3; have HO3 := Lib.hid hown3; have HG3 := Lib.hid hgrow3; have hb3 := blk_grown (blk_alloc HBO2.out _) hgrow3 (own_ne HO2.out HBO2.out (by decide)); obtain ⟨t0, t1, ft0, ft1, lt3⟩ := blk2cells hb3; clear hown3 hgrow3 hat3 hlt3 hb3))
            go_roundw
            case rel =>
              obtain ⟨q1, q2⟩ := OutAt.app (Nat.le_refl _) HBO2.out HO2.out HO3.out HG3.out
              exact ⟨k + 1, by omega, by go_num, HL.out, by rw [HI.out]; exact q1, blk_below HBM2.out q2 (by omega), blk_below HBR2.out q2 (by omega), HBL2.out.trans q2⟩
            case measure => simp [intOf]; omega
          · simp only [h0, decide_false] at hs
            have HS := Lib.hid hs
            have HE2 : Hid (invOf n xs = (0, [], 5)) := by show _ = _; rw [HE.out, if_neg (fun h => h0 (h k hlt))]
            clear hs h0 hall
            go_wp2_with fail
            refine (HS.out _ (HRx.out.below (HB1.out.trans (HBL.out.mono hs1)))).mono ?_
            rintro e w2 ⟨rfl, hb⟩
            have HBL2 := Lib.hid (HBL.out.trans (hb.mono hsz))
            have HBR2 := Lib.hid (blk_keep HBR.out hb)
            clear x0 x1 y0 y1 z0 z1 fy0 fy1 fz0 fz1 hb
            obtain ⟨y0, y1, g0, g1, ly⟩ := blk2cells HBR2.out
            go_wp2_with fail
            refine bodyPost_ret (v := .tuple #[.agg #[.int .i64 0, .slice none 0 0], .int .i64 5]) ?_ rfl ⟨_, by rw [HE2.out], by rw [HE2.out]; exact World.ownsRow_nil _ _ _ _, ?_⟩
            · simp [results, Tryd.results49, go_sem, y0, y1]
            · exact ((HB1.out.trans (HBL2.out.mono hs1)).setCell (p := ⟨w.heap.size + 1, 0, none⟩) (by simp) _).setCell (p := ⟨w.heap.size + 1, 1, none⟩) (by simp) _
        · have HE2 : Hid (invOf n xs = ((n : Int), invK (toN xs) k, 0)) := by
            have ek : k = n := by omega
            subst ek
            show _ = _; rw [HE.out, if_pos hall]
          have HKN : Hid (k = n) := by show _ = _; omega
          obtain ⟨Av, cv, rfl, _, _, _⟩ := owns_shape HO.out
          clear hall
          go_wp2_with fail
          refine bodyPost_ret (v := .tuple #[.agg #[.int .i64 n, .slice Av k cv], .int .i64 0]) ?_ rfl ⟨_, by rw [HE2.out], ?_, ?_⟩
          · simp [results, Tryd.results49, go_sem, y0, y1]
          · rw [HE2.out]
            refine own_cast (owns_keeps HO.out (((Keeps.refl wr [some (w.heap.size + 1)]).setCell (p := ⟨w.heap.size + 1, 0, none⟩) (by simp) _).setCell (p := ⟨w.heap.size + 1, 1, none⟩) (by simp) _) (.inr ?_) |>.mono hs1) (invK_length _ _).symm rfl
            simp only [List.mem_singleton]
            exact own_ne HO.out HBR.out (by decide)
          · exact ((HB1.out.trans (HBL.out.mono hs1)).setCell (p := ⟨w.heap.size + 1, 0, none⟩) (by simp) _).setCell (p := ⟨w.heap.size + 1, 1, none⟩) (by simp) _
    · have HE : Hid (invOf c xs = (0, [], 2)) := by show _ = _; unfold invOf; rw [if_pos hi, if_neg (by rw [← Hn.out]; exact hc)]
      have hcb : (c != (n : Int)) = true := by simpa using hc
      clear hi hd hd60 hc
      go_enter Tryd.func49, Tryd.ntmps49
      go_wp2_with fail
      refine H1.out.mono ?_
      rintro e w1 ⟨rfl, hb⟩
      obtain ⟨x0, x1, f0, f1, lx⟩ := blk2cells (blk_keep HK1.out hb)
      obtain ⟨y0, y1, g0, g1, ly⟩ := blk2cells (blk_keep HK2.out hb)
      have HB1 := Lib.hid (HB.out.trans (hb.mono HB.out.size))
      clear hb
      go_wp2_with fail
      refine bodyPost_ret (v := .tuple #[.agg #[.int .i64 0, .slice none 0 0], .int .i64 2]) ?_ rfl ⟨_, by rw [HE.out], by rw [HE.out]; exact World.ownsRow_nil _ _ _ _, ?_⟩
      · simp [results, Tryd.results49, go_sem, y0, y1]
      · exact (HB1.out.setCell (p := ⟨w.heap.size + 1, 0, none⟩) (by simp) _).setCell (p := ⟨w.heap.size + 1, 1, none⟩) (by simp) _
end Go.Proofs.YtjhlmalpcelbaaaDoor

namespace Go.Proofs.YtjhlmalpcelbaaaDoor
open Go.RowKit

def nI (S : List Nat) : List Int := S.map fun (x : Nat) => (x : Int)
theorem nv_nI (S : List Nat) : nv S = iv (nI S) := by simp [nv, iv, nI, List.map_map, Function.comp_def]
theorem nI_length (S : List Nat) : (nI S).length = S.length := by simp [nI]
/-- what the program's or the reference's function hands back: a new matrix in a new box -/
def MatOut (w w' : World) (o code : Value) (r : Int × List Nat × Int) : Prop :=
  ∃ (g : Nat) (v : Value), o = .pointer (some ⟨g, 0, none⟩) ∧ code = .int .i64 r.2.2 ∧ w'.heap[g]? = some (.cells #[.int .i64 r.1, v] 26 (0, 0)) ∧ w'.ownsRow w.heap.size 2 1 v r.2.1.length (nv r.2.1) ∧ Below w.heap.size w w'
theorem MatOut.alloc {w w' : World} {v : Value} {r : Int × List Nat × Int} (ho : w'.ownsRow w.heap.size 2 1 v r.2.1.length (nv r.2.1)) (hb : Below w.heap.size w w') :
    MatOut w (w'.alloc (.cells #[.int .i64 r.1, v] 26)) (.pointer (some ⟨w'.heap.size, 0, none⟩)) (.int .i64 r.2.2) r :=
  ⟨_, v, rfl, rfl, blk_new w' _, ho.alloc _, hb.alloc hb.size _⟩
theorem MatOut.set {w w' : World} {g : Nat} {u u' v : Value} {r : Int × List Nat × Int} (hz : w'.heap[g]? = some (.cells #[u, u'] 26 (0, 0))) (hg : w.heap.size ≤ g) (ho : w'.ownsRow w.heap.size 2 1 v r.2.1.length (nv r.2.1)) (hb : Below w.heap.size w w') :
    MatOut w ((w'.setCell ⟨g, 0, none⟩ (.int .i64 r.1)).setCell ⟨g, 1, none⟩ v) (.pointer (some ⟨g, 0, none⟩)) (.int .i64 r.2.2) r := by
  refine ⟨_, v, rfl, rfl, ?_, ?_, ?_⟩
  · exact blk2set1 (blk2set0 hz _) _
  · have h0 := own_ne ho hz (by decide)
    exact owns_keeps ho (((Keeps.refl w' [some g]).setCell (p := ⟨g, 0, none⟩) (by simp) _).setCell (p := ⟨g, 1, none⟩) (by simp) _) (.inr (by simp only [List.mem_singleton]; exact h0))
  · exact (hb.setCell (p := ⟨g, 0, none⟩) hg _).setCell (p := ⟨g, 1, none⟩) hg _
/-- .. taken up into what a law holds -/
theorem Inv.out {w0 w w' : World} {L : List Chunk} {g : Nat} {v : Value} {r : Int × List Nat × Int} (h : Inv w0 w L) (hg : w'.heap[g]? = some (.cells #[.int .i64 r.1, v] 26 (0, 0))) (ho : w'.ownsRow w.heap.size 2 1 v r.2.1.length (nv r.2.1)) (hb : Below w.heap.size w w')
    (h1 : noBox 2 L = true) (h2 : noType 26 L = true) :
    Inv w0 w' (.box g #[.int .i64 r.1, v] 26 :: .own w.heap.size w'.heap.size 2 v r.2.1.length (nv r.2.1) :: L) :=
  (h.pushOwn hb ho h1).pushBox hg (by simp only [noType, List.all_cons, Bool.and_eq_true] at h2 ⊢; exact ⟨by decide, h2⟩)
theorem two_keep {w : World} {g g' : Nat} {x x' : Obj} (h : w.heap[g]? = some x) (h' : w.heap[g']? = some x') : ∀ w', Below w.heap.size w w' → w'.heap[g]? = some x ∧ w'.heap[g']? = some x' :=
  fun _ hb => ⟨blk_keep h hb, blk_keep h' hb⟩
end Go.Proofs.YtjhlmalpcelbaaaDoor

namespace Go.Proofs.YtjhlmalpcelbaaaDoor
open Go.RowKit

section
variable {w w' : World} {g n c : Nat} {A : Option Addr} {bs : List Nat} {S : List (Option Nat)}
/-- a source stays where neither its block nor its bytes' block turns -/
theorem SrcAt.keeps (h : SrcAt w g A n c bs) (hk : Keeps w w' S) (hg : some g ∉ S) (hA : ∀ a, A = some a → some a.block ∉ S) : SrcAt w' g A n c bs := by
  obtain ⟨a, x, ha, hb⟩ := h.src
  exact ⟨⟨a, x, ha, (hk.block g (Array.getElem?_eq_some_iff.1 hb).1 hg).trans hb⟩, h.len, h.small, h.byte, h.rd.keeps hk hA, h.off⟩
theorem SrcAt.lt (h : SrcAt w g A n c bs) : g < w.heap.size := by
  obtain ⟨a, x, ha, hb⟩ := h.src
  exact (Array.getElem?_eq_some_iff.1 hb).1
end
/-- what a drawn matrix is: some ints in a row of its own -/
def MatDraw (w : World) (g : Nat) (A : Option Addr) (n c : Nat) (bs : List Nat) (cols : Int) (most : Nat) (e : Ending) (w' : World) : Prop :=
  ∃ (v : Value) (xs : List Int), e = .returned (.agg #[.int .i64 cols, v]) ∧ w'.ownsRow w.heap.size 2 1 v xs.length (iv xs) ∧ xs.length = most ∧ SrcAt w' g A n c bs ∧ Keeps w w' [some g]
/-- the box of the matrix that is being drawn -/
def RowsAt (w : World) (B g : Nat) (cols : Int) (xs : List Int) : Prop := ∃ v, w.heap[g]? = some (.cells #[.int .i64 cols, v] 26 (0, 0)) ∧ w.ownsRow B 2 1 v xs.length (iv xs)

/-- old blocks: all but the source's as they were; what is appended to or stored into is the call's own -/
theorem Keeps.own {w wr w1 : World} {g : Nat} {S : List (Option Nat)} (h : Keeps w wr [some g]) (k : Keeps wr w1 S) (hS : ∀ j, some j ∈ S → j = g ∨ w.heap.size ≤ j) : Keeps w w1 [some g] :=
  h.trans k (fun j hj hm => by
    rcases hm with hm | hm
    · exact hm
    · rcases hS j hm with e | e
      · simp [e]
      · omega)
theorem own_off {w : World} {B n g : Nat} {e : TypeId} {v : Value} {xs : List Value} (h : w.ownsRow B e 1 v n xs) (hg : g < B) : v.ownBlock = none ∨ v.ownBlock ∉ [some g] := by
  by_cases h0 : v.ownBlock = none
  · exact .inl h0
  · refine .inr fun hm => ?_
    have := (h.lt g (List.mem_singleton.1 hm)).1
    omega
theorem RowsAt.app {w2 w3 : World} {B gb g2 cap2 : Nat} {cols r : Int} {xs : List Int} {v : Value} {o : Obj} (hB : B ≤ gb)
    (hbo : w2.heap[gb]? = some (.cells #[.int .i64 cols, v] 26 (0, 0))) (hoo : w2.ownsRow B 2 1 v xs.length (iv xs))
    (hown2 : w3.ownsRow B 2 1 (.slice (some ⟨g2, 0, none⟩) (xs.length + 1) cap2) (xs.length + 1) (iv xs ++ [.int .i64 r])) (hg : (w2.alloc o).grownBy w3 v.ownBlock) :
    RowsAt (w3.setCell ⟨gb, 1, none⟩ (.slice (some ⟨g2, 0, none⟩) (xs.length + 1) cap2)) B gb cols (xs ++ [r]) ∧ Keeps w2 (w3.setCell ⟨gb, 1, none⟩ (.slice (some ⟨g2, 0, none⟩) (xs.length + 1) cap2)) [some gb, v.ownBlock] := by
  have hb3 : w3.heap[gb]? = some (.cells #[.int .i64 cols, v] 26 (0, 0)) := blk_grown (blk_alloc hbo o) hg (own_ne hoo hbo (by decide))
  have hne := own_ne hown2 hb3 (by decide)
  refine ⟨⟨_, blk2set1 hb3 _, ?_⟩, ?_⟩
  · have e : iv (xs ++ [r]) = iv xs ++ [.int .i64 r] := by simp [iv]
    rw [e]
    exact own_cast (owns_keeps hown2 ((Keeps.refl w3 [some gb]).setCell (p := ⟨gb, 1, none⟩) (by simp) _) (.inr (by simp only [List.mem_singleton]; exact hne))) (by simp) rfl
  · exact (((Keeps.refl w2 []).alloc o).trans (Keeps.of_grown hg) (T := [some gb, v.ownBlock]) (by simp; intro j _ h; exact .inr h)).setCell (p := ⟨gb, 1, none⟩) (by simp) _
theorem Rd3 (w : World) : Rd (w.alloc (.cells #[.int .i64 0, .int .i64 0, .int .i64 1] 2)) (some ⟨w.heap.size, 0, none⟩) (iv [0, 0, 1]) := by
  refine .inr ⟨w.heap.size, 0, rfl, fun j v hj => ?_⟩
  rw [Nat.zero_add, World.cell?_alloc_at _ _ _ _ rfl]
  match j, hj with
  | 0, hj => simpa [iv] using hj
  | 1, hj => simpa [iv] using hj
  | 2, hj => simpa [iv] using hj
  | j + 3, hj => simp [iv] at hj

theorem draw_end {w wz : World} {g n c : Nat} {A : Option Addr} {bs : List Nat} {v u0 u1 x0 : Value} {m : Nat} {xs : List Value} (hoo : wz.ownsRow w.heap.size 2 1 v m xs) (hbr : wz.heap[w.heap.size]? = some (.cells #[u0, u1] 26 (0, 0))) (hs : SrcAt wz g A n c bs)
    (hk : Keeps w wz [some g]) (hg : g < w.heap.size) (hA : ∀ a, A = some a → a.block < w.heap.size) :
    ((wz.setCell ⟨w.heap.size, 0, none⟩ x0).setCell ⟨w.heap.size, 1, none⟩ v).ownsRow w.heap.size 2 1 v m xs ∧ SrcAt ((wz.setCell ⟨w.heap.size, 0, none⟩ x0).setCell ⟨w.heap.size, 1, none⟩ v) g A n c bs ∧ Keeps w ((wz.setCell ⟨w.heap.size, 0, none⟩ x0).setCell ⟨w.heap.size, 1, none⟩ v) [some g] := by
  have k := ((Keeps.refl wz [some w.heap.size]).setCell (p := ⟨w.heap.size, 0, none⟩) (by simp) x0).setCell (p := ⟨w.heap.size, 1, none⟩) (by simp) v
  refine ⟨owns_keeps hoo k (.inr ?_), hs.keeps k ?_ ?_, hk.own k ?_⟩
  · simp only [List.mem_singleton]; exact own_ne hoo hbr (by decide)
  · simp; omega
  · intro a ha; have := hA a ha; simp; omega
  · intro j hj; simp only [List.mem_singleton] at hj; injection hj with hj; omega

set_option maxRecDepth 100000 in
set_option maxHeartbeats 4000000 in
theorem with_any (g : Nat) (A : Option Addr) (n c : Nat) (bs : List Nat) (rows cols : Nat) (hrw : rows ≤ 1000) (hcl : cols ≤ 60) (w : World) (hs : SrcAt w g A n c bs) (hA : ∀ a, A = some a → a.block < w.heap.size) :
    Calls Tryd.prog 80 #[.pointer (some ⟨g, 0, none⟩), .int .i64 rows, .int .i64 cols] w (MatDraw w g A n c bs cols rows) := by
  have hg := hs.lt
  have HA := Lib.hid hA
  have HS := Lib.hid hs
  have hb1 := blk_alloc (blk_new w (.cells #[.int .i64 0, .slice none 0 0] 26)) (.cells #[.int .i64 cols, .slice none 0 0] 26)
  have hb2 := blk_new1 w (.cells #[.int .i64 0, .slice none 0 0] 26) (.cells #[.int .i64 cols, .slice none 0 0] 26)
  have HB1 := Lib.hid hb1
  have HB2 := Lib.hid hb2
  clear hs hA hb1 hb2
  go_enter Tryd.func80, Tryd.ntmps80
  go_wp2_with fail
  go_loopw [1] (fun r wr => ∃ k : Nat, k ≤ rows ∧ r = .int .i64 k ∧ (∃ xs : List Int, xs.length + k = rows ∧ RowsAt wr w.heap.size (w.heap.size + 1) cols xs) ∧ wr.heap[w.heap.size]? = some (.cells #[.int .i64 0, .slice none 0 0] 26 (0, 0)) ∧ SrcAt wr g A n c bs ∧ Keeps w wr [some g]) (fun r _ => (intOf r).toNat)
  case atStart =>
    refine ⟨rows, Nat.le_refl _, rfl, ⟨[], by simp, ⟨_, HB2.out, World.ownsRow_nil _ _ _ _⟩⟩, HB1.out, ?_, ((Keeps.refl _ _).alloc _).alloc _⟩
    exact HS.out.keeps (((Keeps.refl _ []).alloc _).alloc _) (by simp) (by simp)
  case round =>
    obtain ⟨k, hk, rfl, ⟨xs, hx, v, hbo, hoo⟩, hbr, hsr, hkp⟩ := hrel
    have hsz : w.heap.size ≤ wr.heap.size := hkp.size
    obtain ⟨A1, c1, rfl, _, hA1, hA1'⟩ := owns_shape hoo
    have HBO := Lib.hid hbo
    have HOO := Lib.hid hoo
    have HBR := Lib.hid hbr
    have HSR := Lib.hid hsr
    have HKP := Lib.hid hkp
    have HX := Lib.hid hx
    clear hbo hoo hbr hsr hkp hx hA1 hA1'
    by_cases hk0 : 0 < k
    · obtain ⟨W0, rfl⟩ : ∃ W0, W0 = wr := ⟨_, rfl⟩
      go_wp2_with fail
      go_loopw [8, 9] (fun x j wy => ∃ i : Nat, i ≤ cols ∧ j = .int .i64 i ∧ (∃ r : Int, x = .int .i64 r) ∧ SrcAt wy g A n c bs ∧ Keeps W0 wy [some g]) (fun _ j _ => cols - (intOf j).toNat)
      case atStart => exact ⟨0, by omega, rfl, ⟨0, rfl⟩, HSR.out, Keeps.refl _ _⟩
      case round =>
        obtain ⟨i, hi, rfl, ⟨r, rfl⟩, hsy, hky⟩ := hrel
        have HSY := Lib.hid hsy
        have HKY := Lib.hid hky
        have hgy := hsy.lt
        have hwy : W0.heap.size ≤ wr.heap.size := hky.size
        clear hsy hky
        by_cases hlt : i < cols
        · go_wp2_with fail
          refine (pick_any g A n c bs _ 3 3 [0, 0, 1] _ (HSY.out.keeps ((Keeps.refl _ []).alloc _) (by simp) (by simp)) rfl (by omega) (by omega) (Rd3 wr) (fun a ha => by injection ha with ha; rw [← ha]; simp; omega)).mono ?_
          rintro e w1 ⟨y, hy, rfl, hs1, hk1⟩
          have HS1 := Lib.hid hs1
          have HK1 := Lib.hid (HKY.out.trans ((((Keeps.refl wr []).alloc _).trans hk1 (T := [some g]) (by simp))) (T := [some g]) (by simp))
          clear hy hs1 hk1
          go_wp2_with fail
          go_roundw
          case rel => exact ⟨i + 1, by omega, by go_num, ⟨_, rfl⟩, HS1.out, HK1.out⟩
          case measure => simp [intOf]; omega
        · have HOO2 := Lib.hid (owns_keeps HOO.out HKY.out (own_off HOO.out hg))
          have HBO2 := Lib.hid ((HKY.out.block _ (Array.getElem?_eq_some_iff.1 HBO.out).1 (by simp; omega)).trans HBO.out)
          have HBR2 := Lib.hid ((HKY.out.block _ (Array.getElem?_eq_some_iff.1 HBR.out).1 (by simp; omega)).trans HBR.out)
          obtain ⟨z0, z1, zf0, zf1, zl⟩ := blk2cells HBO2.out
          have hxl : xs.length ≤ 1000 := by have := HX.out; omega
          go_wp2_with (at_builtin; refine wpList_app1 _ _ _ _ _ etI (by rfl) (by rfl) w.heap.size (.slice A1 xs.length c1) xs.length (iv xs) (by rfl) ?_ _ (.int .i64 r) (by rfl) ?_ (by rfl) ?_ ?_ ?_; exact HOO2.out.alloc _; exact new_cell _ _ _; omega; (simp; omega); (intro g2 cap2 w3 hown3 hgrow3 hat3 hlt3; have HO3 := Lib.hid hown3; have HG3 := Lib.hid hgrow3; have hb3 := blk_grown (blk_alloc HBO2.out _) hgrow3 (own_ne HOO2.out HBO2.out (by decide)); obtain ⟨t0, t1, ft0, ft1, lt3⟩ := blk2cells hb3; clear hown3 hgrow3 hat3 hlt3 hb3))
          go_roundw
          case rel =>
            obtain ⟨q1, q2⟩ := RowsAt.app (by omega) HBO2.out HOO2.out HO3.out HG3.out
            have hso : ∀ j, some j ∈ [some (w.heap.size + 1), (Value.slice A1 xs.length c1).ownBlock] → w.heap.size ≤ j := by
              intro j hj
              simp only [List.mem_cons, List.not_mem_nil, or_false] at hj
              rcases hj with hj | hj
              · injection hj with hj; omega
              · exact (HOO2.out.lt j hj.symm).1
            refine ⟨k - 1, by omega, by go_num, ⟨xs ++ [r], by have := HX.out; simp; omega, q1⟩, ?_, HSY.out.keeps q2 (fun hm => by have := hso _ hm; omega) (fun a ha hm => by have := hso _ hm; have := HA.out a ha; omega), (HKP.out.trans HKY.out (T := [some g]) (by simp)).own q2 (fun j hj => .inr (hso j hj))⟩
            exact (q2.block _ (Array.getElem?_eq_some_iff.1 HBR2.out).1 (fun hm => by
              simp only [List.mem_cons, List.not_mem_nil, or_false] at hm
              rcases hm with hm | hm
              · injection hm with hm; omega
              · exact own_ne HOO2.out HBR2.out (by decide) hm.symm)).trans HBR2.out
          case measure => simp [intOf]; omega
    · have ek : k = 0 := by omega
      subst ek
      have hxl : xs.length = rows := by have := HX.out; omega
      obtain ⟨z0, z1, zf0, zf1, zl⟩ := blk2cells HBO.out
      obtain ⟨y0, y1, yf0, yf1, yl⟩ := blk2cells HBR.out
      by_cases h2 : 2 < xs.length
      · have hnx := next_any g A n c bs 3 (by omega) wr HSR.out
        have HNX := Lib.hid hnx
        have HXR : Hid (xs.length = rows) := Lib.hid hxl
        have hxr : xs.length ≤ rows := by omega
        clear hnx hxl
        have hA1 : ∃ gz, A1 = some ⟨gz, 0, none⟩ ∧ w.heap.size ≤ gz := by
          obtain ⟨A0, c0', e0, _, h0, _⟩ := owns_shape HOO.out
          injection e0 with e0 _ _
          obtain ⟨g0, e1, e2, _⟩ := h0 (by omega)
          exact ⟨g0, e0.trans e1, e2⟩
        obtain ⟨gz, rfl, hgz⟩ := hA1
        go_wp2_with fail
        refine HNX.out.mono ?_
        rintro e w1 ⟨x, rfl, hx0, hx1, hx2, hs1, hk1⟩
        have HS1 := Lib.hid hs1
        have HK1 := Lib.hid (HKP.out.trans hk1 (T := [some g]) (by simp))
        have HOO1 := Lib.hid (owns_keeps HOO.out hk1 (own_off HOO.out hg))
        have HBO1 := Lib.hid ((hk1.block _ (Array.getElem?_eq_some_iff.1 HBO.out).1 (by simp; omega)).trans HBO.out)
        have HBR1 := Lib.hid ((hk1.block _ (Array.getElem?_eq_some_iff.1 HBR.out).1 (by simp; omega)).trans HBR.out)
        clear hs1 hk1 hx1 hx2 z0 z1 zf0 zf1 zl y0 y1 yf0 yf1 yl
        obtain ⟨z0, z1, zf0, zf1, zl⟩ := blk2cells HBO1.out
        obtain ⟨y0, y1, yf0, yf1, yl⟩ := blk2cells HBR1.out
        by_cases hx : x = 0
        · subst hx
          have k0 := HOO1.out.cellAt 0 (by omega)
          have k1 := HOO1.out.cellAt 1 (by omega)
          have k2 := HOO1.out.cellAt (xs.length - 1) (by omega)
          have kf := HOO1.out.frozenAt (xs.length - 1)
          rw [List.getElem?_eq_getElem (by rw [iv_length]; omega)] at k0 k1 k2
          have e0 : (iv xs)[0]'(by rw [iv_length]; omega) = .int .i64 (xs[0]'(by omega)) := by simp [iv]
          have e1 : (iv xs)[1]'(by rw [iv_length]; omega) = .int .i64 (xs[1]'(by omega)) := by simp [iv]
          have e2 : (iv xs)[xs.length - 1]'(by rw [iv_length]; omega) = .int .i64 (xs[xs.length - 1]'(by omega)) := by simp [iv]
          rw [e0] at k0; rw [e1] at k1; rw [e2] at k2
          generalize xs[0]'(by omega) = a0 at *
          generalize xs[1]'(by omega) = a1 at *
          generalize xs[xs.length - 1]'(by omega) = a2 at *
          clear e0 e1 e2
          go_wp2_with fail
          have hln : xs.length ≤ 1000 := by omega
          have hp0 : 0 < xs.length := by omega
          have hp1 : 1 < xs.length := by omega
          have hp1i : (1 : Int) < (xs.length : Int) := by omega
          have hp2i : 0 ≤ (xs.length : Int) - 1 := by omega
          have hp4i : (xs.length : Int) - 1 < (xs.length : Int) := by omega
          have hw1 : IntKind.i64.wrap ((xs.length : Int) - 1) = (xs.length : Int) - 1 := by rw [IntKind.wrap_i64]; omega
          have hw2 : wrap64 ((xs.length : Int) - 1) = (xs.length : Int) - 1 := by unfold wrap64; omega
          have hp5i : 1 ≤ (xs.length : Int) := by omega
          have hp3i : ((xs.length : Int) - 1).toNat = xs.length - 1 := by omega
          go_still_tail 13, (by kernel_rfl)
          all_goals go_wp2_with fail
          have hst := (World.ownsRow.stored HOO1.out (xs.length - 1) (.int .i64 (bits .xor .i64 a0 a1))).1
          rw [← iv_set] at hst
          have kst := (Keeps.refl w1 [some gz]).setCell (p := ⟨gz, xs.length - 1, none⟩) (by simp) (.int .i64 (bits .xor .i64 a0 a1))
          have hbr2 := blk_set_other HBR1.out ⟨gz, xs.length - 1, none⟩ (fun e => own_ne HOO1.out HBR1.out (by decide) (by rw [← e]; rfl)) (.int .i64 (bits .xor .i64 a0 a1))
          have hsr2 := HS1.out.keeps kst (by simp; omega) (fun a ha => by have := HA.out a ha; simp; omega)
          have hkr2 := HK1.out.own kst (fun j hj => by simp only [List.mem_singleton] at hj; injection hj with hj; omega)
          obtain ⟨e1, e2, e3⟩ := draw_end (x0 := .int .i64 cols) hst hbr2 hsr2 hkr2 hg HA.out
          all_goals
            refine bodyPost_ret (v := .agg #[.int .i64 cols, .slice (some ⟨gz, 0, none⟩) xs.length c1]) ?_ rfl ⟨_, xs.set (xs.length - 1) (bits .xor .i64 a0 a1), rfl, own_cast e1 (by simp) rfl, by have := HXR.out; simpa using this, e2.keeps ((Keeps.refl _ []).drew) (by simp) (by simp), e3.drew⟩
            simp [results, Tryd.results80, go_sem, y0, y1]
        · have hxb : ((x : Int) == 0) = false := by simpa using hx
          go_wp2_with fail
          obtain ⟨e1, e2, e3⟩ := draw_end (x0 := .int .i64 cols) HOO1.out HBR1.out HS1.out HK1.out hg HA.out
          refine bodyPost_ret (v := .agg #[.int .i64 cols, .slice (some ⟨gz, 0, none⟩) xs.length c1]) ?_ rfl ⟨_, xs, rfl, e1, HXR.out, e2, e3⟩
          simp [results, Tryd.results80, go_sem, y0, y1]
      · have HXR : Hid (xs.length = rows) := Lib.hid hxl
        have hxr : xs.length ≤ rows := by omega
        clear hxl
        go_wp2_with fail
        obtain ⟨e1, e2, e3⟩ := draw_end (x0 := .int .i64 cols) HOO.out HBR.out HSR.out HKP.out hg HA.out
        refine bodyPost_ret (v := .agg #[.int .i64 cols, .slice A1 xs.length c1]) ?_ rfl ⟨_, xs, rfl, e1, HXR.out, e2, e3⟩
        simp [results, Tryd.results80, go_sem, y0, y1]
end Go.Proofs.YtjhlmalpcelbaaaDoor

namespace Go.Proofs.YtjhlmalpcelbaaaDoor
open Go.RowKit

theorem rd_cells (w : World) (xs : List Int) : Rd (w.alloc (.cells (iv xs).toArray 2)) (some ⟨w.heap.size, 0, none⟩) (iv xs) := by
  refine .inr ⟨_, 0, rfl, fun j v hj => ?_⟩
  rw [World.cell?_alloc_at _ _ _ _ rfl, Nat.zero_add]
  simpa using hj
/-- what a drawn matrix is: some ints in a row of its own, some number of columns -/
def DrawOut (w : World) (g : Nat) (A : Option Addr) (n c : Nat) (bs : List Nat) (most : Nat) (e : Ending) (w' : World) : Prop :=
  ∃ (cl : Int) (v : Value) (xs : List Int), e = .returned (.agg #[.int .i64 cl, v]) ∧ w'.ownsRow w.heap.size 2 1 v xs.length (iv xs) ∧ xs.length ≤ most ∧ SrcAt w' g A n c bs ∧ Keeps w w' [some g]
theorem Keeps.g1 {w w1 w2 : World} {g : Nat} (h : Keeps w w1 [some g]) (k : Keeps w1 w2 [some g]) : Keeps w w2 [some g] := h.trans k (by simp)

set_option maxRecDepth 100000 in
set_option maxHeartbeats 4000000 in
theorem draw_any (g : Nat) (A : Option Addr) (n c : Nat) (bs : List Nat) (w : World) (hs : SrcAt w g A n c bs) (hA : ∀ a, A = some a → a.block < w.heap.size) :
    Calls Tryd.prog 71 #[.pointer (some ⟨g, 0, none⟩)] w (DrawOut w g A n c bs 20) := by
  have hg := hs.lt
  have HA := Lib.hid hA
  have HS0 := Lib.hid (hs.keeps ((Keeps.refl w []).alloc (.cells #[.int .i64 0, .slice none 0 0] 26)) (by simp) (by simp))
  have HK0 := Lib.hid (Keeps.refl (w.alloc (.cells #[.int .i64 0, .slice none 0 0] 26)) [some g])
  have HKW := Lib.hid ((Keeps.refl w [some g]).alloc (.cells #[.int .i64 0, .slice none 0 0] 26))
  have HBR0 := Lib.hid (blk_new w (.cells #[.int .i64 0, .slice none 0 0] 26))
  clear hs hA
  go_enter Tryd.func71, Tryd.ntmps71
  go_wp2_with fail
  refine (next_any g A n c bs 4 (by omega) _ HS0.out).mono ?_
  rintro e w1 ⟨x1, rfl, a1, a2, _, hs1, hk1⟩
  have b1 := a2 (by omega)
  have HS1 := Lib.hid hs1
  have HK1 := Lib.hid (HK0.out.g1 hk1)
  clear hs1 hk1 a2
  go_wp2_with fail
  refine (next_any g A n c bs 9 (by omega) _ HS1.out).mono ?_
  rintro e w2 ⟨x2, rfl, a3, a4, _, hs2, hk2⟩
  have b2 := a4 (by omega)
  have HS2 := Lib.hid hs2
  have HK2 := Lib.hid (HK1.out.g1 hk2)
  clear hs2 hk2 a4
  go_wp2_with fail
  refine (next_any g A n c bs 20 (by omega) _ HS2.out).mono ?_
  rintro e w3 ⟨x3, rfl, a5, a6, _, hs3, hk3⟩
  have b3 := a6 (by omega)
  have HS3 := Lib.hid hs3
  have HK3 := Lib.hid (HK2.out.g1 hk3)
  have hg3 := hs3.lt
  clear hs3 hk3 a6
  go_wp2_with fail
  refine (pick_any g A n c bs (some ⟨w3.heap.size, 0, none⟩) 3 3 [x1, x2, x3] _ (HS3.out.keeps ((Keeps.refl w3 []).alloc _) (by simp) (by simp)) rfl (by omega) (by omega) (rd_cells w3 [x1, x2, x3]) (fun a ha => by injection ha with ha; rw [← ha]; simp; omega)).mono ?_
  rintro e w4 ⟨r, hr, rfl, hs4, hk4⟩
  have hr2 : 0 ≤ r ∧ r ≤ 20 := by
    simp only [List.mem_cons, List.not_mem_nil, or_false] at hr
    rcases hr with rfl | rfl | rfl <;> omega
  have HS4 := Lib.hid hs4
  have HK4 := Lib.hid (HK3.out.g1 (((Keeps.refl w3 []).alloc _).trans hk4 (T := [some g]) (by simp)))
  clear hr hs4 hk4 a1 a3 a5 b1 b2 b3
  go_wp2_with fail
  refine (next_any g A n c bs 4 (by omega) _ HS4.out).mono ?_
  rintro e w5 ⟨y1, rfl, a1, a2, _, hs1, hk1⟩
  have b1 := a2 (by omega)
  have HS5 := Lib.hid hs1
  have HK5 := Lib.hid (HK4.out.g1 hk1)
  clear hs1 hk1 a2
  go_wp2_with fail
  refine (next_any g A n c bs 9 (by omega) _ HS5.out).mono ?_
  rintro e w6 ⟨y2, rfl, a3, a4, _, hs2, hk2⟩
  have b2 := a4 (by omega)
  have HS6 := Lib.hid hs2
  have HK6 := Lib.hid (HK5.out.g1 hk2)
  clear hs2 hk2 a4
  go_wp2_with fail
  refine (next_any g A n c bs 30 (by omega) _ HS6.out).mono ?_
  rintro e w7 ⟨y3, rfl, a5, a6, _, hs3, hk3⟩
  have b3 := a6 (by omega)
  have HS7 := Lib.hid hs3
  have HK7 := Lib.hid (HK6.out.g1 hk3)
  have hg7 := hs3.lt
  clear hs3 hk3 a6
  go_wp2_with fail
  refine (pick_any g A n c bs (some ⟨w7.heap.size, 0, none⟩) 4 4 [y1, y2, y3, 60] _ (HS7.out.keeps ((Keeps.refl w7 []).alloc _) (by simp) (by simp)) rfl (by omega) (by omega) (rd_cells w7 [y1, y2, y3, 60]) (fun a ha => by injection ha with ha; rw [← ha]; simp; omega)).mono ?_
  rintro e w8 ⟨s, hss, rfl, hs4, hk4⟩
  have hs2 : 0 ≤ s ∧ s ≤ 60 := by
    simp only [List.mem_cons, List.not_mem_nil, or_false] at hss
    rcases hss with rfl | rfl | rfl | rfl <;> omega
  have HS8 := Lib.hid hs4
  have HK8 := Lib.hid (HK7.out.g1 (((Keeps.refl w7 []).alloc _).trans hk4 (T := [some g]) (by simp)))
  clear hss hs4 hk4 a1 a3 a5 b1 b2 b3
  obtain ⟨r, rfl⟩ : ∃ r' : Nat, r = r' := ⟨r.toNat, by omega⟩
  obtain ⟨s, rfl⟩ : ∃ s' : Nat, s = s' := ⟨s.toNat, by omega⟩
  have hw8 : w.heap.size + 1 ≤ w8.heap.size := by have := HK8.out.size; simpa using this
  go_wp2_with fail
  refine (with_any g A n c bs r s (by omega) (by omega) w8 HS8.out (fun a ha => by have := HA.out a ha; omega)).mono ?_
  rintro e w9 ⟨v, xs, rfl, ho, hxl, hs9, hk9⟩
  replace hxl := Nat.le_of_eq hxl
  have HO9 := Lib.hid (ho.mono (show w.heap.size ≤ w8.heap.size by omega))
  have HS9 := Lib.hid hs9
  have HK9 := Lib.hid (HK8.out.g1 hk9)
  have hbr := (HK9.out.block w.heap.size (by simp) (by simp only [List.mem_singleton]; intro e; injection e with e; omega)).trans HBR0.out
  obtain ⟨y0, y1, yf0, yf1, yl⟩ := blk2cells hbr
  obtain ⟨A9, c9, rfl, _, _, _⟩ := owns_shape HO9.out
  obtain ⟨e1, e2, e3⟩ := draw_end (x0 := .int .i64 s) HO9.out hbr HS9.out (HKW.out.g1 HK9.out) hg HA.out
  have HE1 := Lib.hid e1
  have HE2 := Lib.hid e2
  have HE3 := Lib.hid e3
  clear ho hs9 hk9 e1 e2 e3
  go_wp2_with fail
  refine bodyPost_ret (v := .agg #[.int .i64 s, .slice A9 xs.length c9]) ?_ rfl ⟨s, _, xs, rfl, HE1.out, by omega, HE2.out, HE3.out⟩
  simp [results, Tryd.results71, go_sem, y0, y1]
end Go.Proofs.YtjhlmalpcelbaaaDoor

namespace Go.Proofs.YtjhlmalpcelbaaaDoor

section
variable {P : Program} {ops : Array Oper} {Q : Exit → Act → World → Prop} {md : Region.Mode} {S : World → Prop} {last : Nat}

/-- any order, S behind every operation ahead of number 'last' -/
def wpAnyK (P : Program) (md : Region.Mode) (ops : Array Oper) (Q : Exit → Act → World → Prop) (S : World → Prop) (last : Nat) : Nat → Array Bool → Act → World → Prop
  | 0, listed, a, w => Region.ready md ops listed = [] ∧ Q .normal a w
  | fuel + 1, listed, a, w =>
    (Region.ready md ops listed = [] → Q .normal a w) ∧
    ∀ i ∈ Region.ready md ops listed, wpOp P ops Q i (fun a' w' => (i < last → S w') ∧ wpAnyK P md ops Q S last fuel (listed.setIfInBounds i true) a' w') a w
/-- all from 'last' on wait for i -/
def waitB (md : Region.Mode) (ops : Array Oper) (last i : Nat) : Bool := (List.range ops.size).all fun j => decide (j < last) || Region.waitsFor md ops j i
theorem wpAny_of_K : ∀ (fuel : Nat) (listed : Array Bool) (a : Act) (w : World), wpAnyK P md ops Q S last fuel listed a w → wpAny P md ops Q fuel listed a w
  | 0, _, _, _, h => h
  | fuel + 1, _, _, _, h => ⟨h.1, fun i hi => wpOp_mono (fun a' w' h' => wpAny_of_K fuel _ a' w' h'.2) (h.2 i hi)⟩
theorem wpAnyK_first {i : Nat} {oi : Oper} {v : Value} (hi : ops[i]? = some oi) (hsel : ∀ (j : Nat) (o : Oper) cs b, ops[j]? = some o → o.op ≠ .select cs b)
    (hQ : ∀ c a w, Q (.panic c) (a.put oi.dst v) w → Q (.panic c) a w) (hwait : waitB md ops last i = true) :
    ∀ (fuel : Nat) (listed : Array Bool) (a : Act) (w : World),
      (∀ j oj, ops[j]? = some oj → j ≠ i → listed.getD j true = false → (∀ e ∈ oj.after, Region.binds md e = true → e.on ≠ i) → oi.apart ops oj = true) →
      i ∈ Region.ready md ops listed → YieldsIf P ops S oi v a → S w →
      wpAnyK P md ops Q S last fuel (listed.setIfInBounds i true) (a.put oi.dst v) w → wpAnyK P md ops Q S last (fuel + 1) listed a w := by
  intro fuel
  induction fuel with
  | zero =>
    intro listed a w _ hr hy hS H
    refine ⟨fun h => (by rw [h] at hr; cases hr), fun j hj => ?_⟩
    by_cases hji : j = i
    · subst hji; exact hy.wpOp hi hS ⟨fun _ => hS, H⟩
    · have := ready_mono hj hji
      rw [H.1] at this
      cases this
  | succ fuel ih =>
    intro listed a w hfree hr hy hS H
    refine ⟨fun h => (by rw [h] at hr; cases hr), fun j hj => ?_⟩
    by_cases hji : j = i
    · subst hji; exact hy.wpOp hi hS ⟨fun _ => hS, H⟩
    · have h1 := H.2 j (ready_mono hj hji)
      obtain ⟨hjun, oj, hoj, hall⟩ := mem_ready.1 hj
      have hnot : ∀ e ∈ oj.after, Region.binds md e = true → e.on ≠ i := fun e he hb heq => by
        have h1 := hall e he hb
        have h0 := (mem_ready.1 hr).1
        rw [heq] at h1
        rcases Nat.lt_or_ge i listed.size with h' | h'
        · simp [h'] at h0 h1; rw [h0] at h1; cases h1
        · simp [Array.getElem?_eq_none h'] at h1
      have hjl : j < last := by
        refine Decidable.byContradiction fun hjl => ?_
        have hw := List.all_eq_true.1 hwait j (List.mem_range.2 (Array.getElem?_eq_some_iff.1 hoj).1)
        rw [decide_eq_false hjl, Bool.false_or] at hw
        obtain ⟨ol, hol, e, he, hb, heq⟩ := Region.waitsFor_spec hw
        have : ol = oj := Option.some.inj (hol.symm.trans hoj)
        subst this
        exact hnot e he hb heq
      have h2 := wpOp_putIf hoj (hfree j oj hoj hji hjun hnot) (fun cs b => hsel i oi cs b hi) (fun cs b => hsel j oj cs b hoj) hQ hy h1
      have hfree' : ∀ k ok, ops[k]? = some ok → k ≠ i → (listed.setIfInBounds j true).getD k true = false →
          (∀ e ∈ ok.after, Region.binds md e = true → e.on ≠ i) → oi.apart ops ok = true := fun k ok hk hki hun hno => by
        refine hfree k ok hk hki ?_ hno
        by_cases hjk : j = k
        · subst hjk; exact hjun
        · rw [getD_set_ne true hjk] at hun; exact hun
      refine wpOp_mono (fun a' w' h3 => ⟨h3.2.1, ih (listed.setIfInBounds j true) a' w' hfree' (ready_mono hr (Ne.symm hji)) h3.1 (h3.2.1 hjl) ?_⟩) h2
      rw [Array.setIfInBounds_comm _ _ hji]
      exact h3.2.2
theorem wpAnyK_take {i : Nat} {oi : Oper} {v : Value} {fuel : Nat} {listed : Array Bool} {a : Act} {w : World} (hi : ops[i]? = some oi)
    (hs : Region.noSelect ops = true) (hf : Region.free md ops listed i = true) (hr : (Region.ready md ops listed).contains i = true) (hw : waitB md ops last i = true)
    (hQ : ∀ c a w, Q (.panic c) (a.put oi.dst v) w → Q (.panic c) a w) (hy : YieldsIf P ops S oi v a) (hS : S w)
    (h : wpAnyK P md ops Q S last fuel (listed.setIfInBounds i true) (a.put oi.dst v) w) : wpAnyK P md ops Q S last (fuel + 1) listed a w :=
  wpAnyK_first hi (Region.noSelect_spec hs) hQ hw fuel listed a w (Region.free_spec hi hf) (by simpa using hr) hy hS h
theorem wpAnyK_done {listed : Array Bool} {a : Act} {w : World} (hr : Region.ready md ops listed = []) (h : Q .normal a w) :
    ∀ fuel, wpAnyK P md ops Q S last fuel listed a w
  | 0 => ⟨hr, h⟩
  | _ + 1 => ⟨fun _ => h, by rw [hr]; simp⟩
def AllReadyK (P : Program) (md : Region.Mode) (ops : Array Oper) (Q : Exit → Act → World → Prop) (S : World → Prop) (last fuel : Nat) (listed : Array Bool) (a : Act) (w : World) (rs : List Nat) : Prop :=
  ∀ i ∈ rs, wpOp P ops Q i (fun a' w' => (i < last → S w') ∧ wpAnyK P md ops Q S last fuel (listed.setIfInBounds i true) a' w') a w
theorem AllReadyK.nil {fuel : Nat} {listed : Array Bool} {a : Act} {w : World} : AllReadyK P md ops Q S last fuel listed a w [] := fun _ h => by cases h
theorem AllReadyK.cons {fuel : Nat} {listed : Array Bool} {a : Act} {w : World} {i : Nat} {o : Oper} {rs : List Nat} (ho : ops[i]? = some o)
    (h : ∀ K' : Act → World → Prop, Shut (∀ a w, S w → (S w → wpAnyK P md ops Q S last fuel (listed.setIfInBounds i true) a w) → K' a w) → if Region.wanted o (yielded ops a.tmps) = true then Oper.wp P o a w K' Q else K' (a.put o.dst undef) w)
    (hs : AllReadyK P md ops Q S last fuel listed a w rs) : AllReadyK P md ops Q S last fuel listed a w (i :: rs) := fun j hj => by
  rcases List.mem_cons.1 hj with rfl | hj
  · exact wpOp_step ho (fun K' hK => h K' (fun a w hS hW => hK a w ⟨fun _ => hS, hW hS⟩))
  · exact hs j hj
/-- the last one: S is asked no more -/
theorem AllReadyK.fin {fuel : Nat} {listed : Array Bool} {a : Act} {w : World} {i : Nat} {o : Oper} {rs : List Nat} (hl : last ≤ i) (ho : ops[i]? = some o)
    (h : ∀ K' : Act → World → Prop, Shut (∀ a w, wpAnyK P md ops Q S last fuel (listed.setIfInBounds i true) a w → K' a w) → if Region.wanted o (yielded ops a.tmps) = true then Oper.wp P o a w K' Q else K' (a.put o.dst undef) w)
    (hs : AllReadyK P md ops Q S last fuel listed a w rs) : AllReadyK P md ops Q S last fuel listed a w (i :: rs) := fun j hj => by
  rcases List.mem_cons.1 hj with rfl | hj
  · exact wpOp_step ho (fun K' hK => h K' (fun a w hW => hK a w ⟨fun he => absurd hl (Nat.not_le.2 he), hW⟩))
  · exact hs j hj
theorem wpAnyK_ready {rs : List Nat} {fuel : Nat} {listed : Array Bool} {a : Act} {w : World} (hr : Region.ready md ops listed = rs) (hne : rs ≠ [])
    (h : AllReadyK P md ops Q S last fuel listed a w rs) : wpAnyK P md ops Q S last (fuel + 1) listed a w := ⟨fun h0 => absurd (hr ▸ h0) hne, hr ▸ h⟩
theorem wp_region_K {id : Nat} {a : Act} {w : World} (last : Nat) (hm : P.follows .mixedOrders = true) (hS : S w.drew)
    (h : S w.drew → wpAnyK P .any ops Q S last ops.size (Array.replicate ops.size false) a w.drew) : (Code.region id ops true).wp P Q a w :=
  wp_region_any hm (wpAny_of_K _ _ _ _ (h hS))
end
end Go.Proofs.YtjhlmalpcelbaaaDoor
