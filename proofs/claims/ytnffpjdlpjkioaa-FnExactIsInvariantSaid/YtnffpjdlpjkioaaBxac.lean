/- masks as lists of digits (no program in sight) · append of a slice that reads as a list, nil let in; copies of slices of ints · counts of partitions up to 14, on both sides · the reference's vectors: l11Unit, l11Act, l11Plus, l01Same, l11Word, l11Words · the reference's vectors: l11Plus, l01Same · the reference's l01Less, l01Ascending · the reference's l01Parity, l03Front, l01Put (into nothing), l01Sum · the reference's l01Sum · library functions: cmp.Less, cmp.Compare, slices.IsSorted, slices.Compare; impl's rising · plain: lists of lists in order, each there an odd number of times · slices.SortFunc(.., slices.Compare) at rows of ints · the terms of a polynomial: its codes as rows, in order -/
import Derived.Test.YtnffpjdlpjkioaaBxab
import Derived.Test.YtnffpjdlpjkioaaBxaa
import Derived.Maps.AppendAt
import Derived.Deep.AppendLies
import Derived.Deep.OwnRows
import Derived.StillTailTactics
import Derived.Deep.Onto
set_option linter.all false
namespace Go.Proofs.Ytnffpjdlpjkioaa

def bit (v i : Nat) : Int := if tb v i = true then 1 else 0
theorem bit_bd (v i : Nat) : 0 ≤ bit v i ∧ bit v i ≤ 1 := by unfold bit; split <;> omega
theorem bit_one {v i : Nat} (h : tb v i = true) : bit v i = 1 := by unfold bit; rw [if_pos h]
theorem bit_none {v i : Nat} (h : tb v i = false) : bit v i = 0 := by unfold bit; rw [if_neg (by rw [h]; simp)]
theorem bit_iff (v i : Nat) : bit v i = 1 ↔ tb v i = true := by unfold bit; split <;> simp_all
theorem bit_xr (v w i : Nat) : bit (xr v w) i = (bit v i + bit w i) % 2 := by
  unfold bit; rw [tb_xr]; cases tb v i <;> cases tb w i <;> simp
def bitsL (v n : Nat) : List Int := (List.range n).map (bit v)
theorem bitsL_length (v n : Nat) : (bitsL v n).length = n := by simp [bitsL]
theorem bitsL_getD (v : Nat) {n i : Nat} (h : i < n) : (bitsL v n).getD i 0 = bit v i := by simp [bitsL, List.getD, h]
theorem list_ext_getD {x y : List Int} {n : Nat} (hx : x.length = n) (hy : y.length = n) (h : ∀ i, i < n → x.getD i 0 = y.getD i 0) : x = y := by
  apply List.ext_getElem (by omega)
  intro i h1 h2
  have := h i (by omega)
  simpa [List.getD, h1, h2] using this
theorem bitsL_inj {v w n : Nat} (hv : v < 2 ^ n) (hw : w < 2 ^ n) (h : bitsL v n = bitsL w n) : v = w := eq_of_tb fun m => by
  rcases Nat.lt_or_ge m n with hm | hm
  · have e : bit v m = bit w m := by rw [← bitsL_getD v hm, ← bitsL_getD w hm, h]
    cases h1 : tb v m <;> cases h2 : tb w m <;> simp [bit, h1, h2] at e <;> rfl
  · rw [tb_of_lt hv hm, tb_of_lt hw hm]
theorem bitsL_zero (n : Nat) : bitsL 0 n = List.replicate n 0 := list_ext_getD (bitsL_length _ _) (by simp) fun i hi => by
  rw [bitsL_getD _ hi, bit_none (tb_zero i)]; simp [List.getD, hi]
theorem set_getD (x : List Int) (c i : Nat) (y : Int) (hc : c < x.length) : (x.set c y).getD i 0 = if i = c then y else x.getD i 0 := by
  simp only [List.getD, List.getElem?_set]
  by_cases h : c = i
  · subst h; simp [hc]
  · simp [h, Ne.symm h]
theorem bitsL_flip (v : Nat) {n c : Nat} (h : c < n) : (bitsL v n).set c (1 - bit v c) = bitsL (xr v (2 ^ c)) n := list_ext_getD (by simp [bitsL_length]) (bitsL_length _ _) fun i hi => by
  rw [set_getD _ _ _ _ (by rw [bitsL_length]; exact h), bitsL_getD _ hi, bitsL_getD _ hi]
  unfold bit
  rw [tb_xr, tb_pow]
  by_cases e : i = c
  · subst e; simp; cases tb v i <;> simp
  · rw [if_neg e]; simp [show ¬ c = i from fun x => e x.symm]
theorem bitsL_unit {n k : Nat} (hk : k < n) : (List.replicate n (0 : Int)).set k 1 = bitsL (2 ^ k) n := by
  have := bitsL_flip 0 hk
  rw [bit_none (tb_zero k), zero_xr, bitsL_zero] at this
  simpa using this
theorem take_succ_getD {x : List Int} {k : Nat} (h : k < x.length) : x.take (k + 1) = x.take k ++ [x.getD k 0] := by
  rw [List.take_succ_eq_append_getElem h]; simp [List.getD, h]
theorem bitsL_take (v : Nat) {n k : Nat} (h : k < n) : (bitsL v n).take (k + 1) = (bitsL v n).take k ++ [bit v k] := by
  rw [take_succ_getD (by rw [bitsL_length]; exact h), bitsL_getD _ h]
end Go.Proofs.Ytnffpjdlpjkioaa

namespace Go.Proofs.Ytnffpjdlpjkioaa
open Go.RowKit

/-! ### append of a slice that reads as a list, nil let in, onto an own row -/
section
variable {P : Program} {w : World}
theorem append_nothing (t ty e : TypeId) (i : TypeInfo) (size : Nat) (ht : P.underlying t = some (.slice e)) (hi : P.info? e = some i) (base : Nat)
    (v : Value) (n : Nat) (xs : List Value) (hown : w.ownsRow base e size v n xs) (c : Nat) : (Builtin.append_ #[t, t] ty #[v, .slice none 0 c]).run P w = .ok v w := by
  rcases hown.2 with ⟨rfl, rfl⟩ | ⟨g, cap, cur, rfl, _, _, hnc, _⟩
  · simp [Builtin.append_, run_underlying ht, sizeOf, typeInfo, hi, Builtin.lenOf, Builtin.firstCells]
  · simp [Builtin.append_, run_underlying ht, sizeOf, typeInfo, hi, Builtin.lenOf, Builtin.firstCells, hnc, storeCells]
theorem wp_appR {o : Oper} {a : Act} {K : Act → World → Prop} {Q : Exit → Act → World → Prop} (s x : Operand) (t e : TypeId) (bytes : Nat) (E : ET P t e bytes)
    (ho : o.op = .call { callee := .builtin .append, args := #[s, x], argTypes := #[t, t] })
    (base : Nat) (v : Value) (n : Nat) (xs : List Value) (hs : a.eval s = v) (hown : w.ownsRow base e 1 v n xs)
    (A : Option Addr) (m c : Nat) (news : List Value) (hx : a.eval x = .slice A m c) (hm : m = news.length) (hr : Rd w A news) (h1 : ∀ u ∈ news, u.oneCell' = true)
    (hn : n + m < 1099511627776) (hbase : base ≤ w.heap.size)
    (h : ∀ v' w', w'.ownsRow base e 1 v' (n + m) (xs ++ news) → w.grownBy w' v.ownBlock → (v'.ownBlock = v.ownBlock ∨ v'.ownBlock = some w.heap.size) → K (a.put o.dst v') w') : Oper.wp P o a w K Q := by
  obtain ⟨i, z, hi, hz0, hz1, hz2, hz3⟩ := E.inf
  have hsm := E.small
  have key : ∃ v' w', (Builtin.append_ #[t, t] o.type #[v, .slice A m c]).run P w = .ok v' w' ∧ w'.ownsRow base e 1 v' (n + m) (xs ++ news) ∧ w.grownBy w' v.ownBlock ∧ (v'.ownBlock = v.ownBlock ∨ v'.ownBlock = some w.heap.size) := by
    rcases A with _ | ad
    · have h0 : news = [] := by
        rcases hr with h | ⟨b, o', h, _⟩
        · exact h
        · cases h
      subst h0
      have hm0 : m = 0 := by simpa using hm
      subst hm0
      exact ⟨v, w, append_nothing t o.type e i 1 E.und hi base v n xs hown c, by simpa using hown, World.grownBy.refl w _, .inl rfl⟩
    · have hcells : ∀ j u, news[j]? = some u → w.cell? (ad.add j) = some u := by
        intro j u hj
        rcases hr with h | ⟨b, o', h, hc⟩
        · subst h; simp at hj
        · injection h with h; subst h
          rw [Addr.add_lit]; exact hc j u hj
      obtain ⟨v', w', hrun, h2, h3, _, h5⟩ := run_append_own_at (P := P) w base t o.type e i z 1 bytes E.und hi hz0 hz1 hz2 hz3 (by omega) v n xs hown ad m c news (by omega) hcells h1 (by unfold maxLen; omega)
        (Nat.le_trans (Nat.mul_le_mul (show n + m ≤ 1099511627776 by omega) hsm) (by decide)) hbase
      exact ⟨v', w', hrun, h2, h3, h5⟩
  obtain ⟨v', w', hrun, h2, h3, h4⟩ := key
  unfold Oper.wp execOp
  simp only [ho, resolve, invoke, builtin, Sem.run_bind, Sem.run_pure, Result.andThen_ok, List.map_toArray, List.map_cons, List.map_nil, hs, hx, hrun]
  exact h v' w' h2 h3 h4
theorem wpList_appR {ops : Array Oper} {rest : List Oper} {o : Oper} {a : Act} {Q : Exit → Act → World → Prop} (s x : Operand) (t e : TypeId) (bytes : Nat) (E : ET P t e bytes) (hgd : o.guard = none)
    (ho : o.op = .call { callee := .builtin .append, args := #[s, x], argTypes := #[t, t] })
    (base : Nat) (v : Value) (n : Nat) (xs : List Value) (hs : a.eval s = v) (hown : w.ownsRow base e 1 v n xs)
    (A : Option Addr) (m c : Nat) (news : List Value) (hx : a.eval x = .slice A m c) (hm : m = news.length) (hr : Rd w A news) (h1 : ∀ u ∈ news, u.oneCell' = true)
    (hn : n + m < 1099511627776) (hbase : base ≤ w.heap.size)
    (h : ∀ v' w', w'.ownsRow base e 1 v' (n + m) (xs ++ news) → w.grownBy w' v.ownBlock → (v'.ownBlock = v.ownBlock ∨ v'.ownBlock = some w.heap.size) → wpList P ops Q rest (a.put o.dst v') w') : wpList P ops Q (o :: rest) a w :=
  wpList_plain hgd fun _ hK => wp_appR s x t e bytes E ho base v n xs hs hown A m c news hx hm hr h1 hn hbase fun v' w' h2 h3 h4 => hK _ _ (h v' w' h2 h3 h4)
/-- .. at a step of a region that draws its order -/
theorem step_appR {ops : Array Oper} {o : Oper} {a : Act} {K : Act → World → Prop} {Q : Exit → Act → World → Prop} {E' : Prop} (s x : Operand) (t e : TypeId) (bytes : Nat) (E : ET P t e bytes) (hgd : o.guard = none)
    (ho : o.op = .call { callee := .builtin .append, args := #[s, x], argTypes := #[t, t] })
    (base : Nat) (v : Value) (n : Nat) (xs : List Value) (hs : a.eval s = v) (hown : w.ownsRow base e 1 v n xs)
    (A : Option Addr) (m c : Nat) (news : List Value) (hx : a.eval x = .slice A m c) (hm : m = news.length) (hr : Rd w A news) (h1 : ∀ u ∈ news, u.oneCell' = true)
    (hn : n + m < 1099511627776) (hbase : base ≤ w.heap.size)
    (h : ∀ v' w', w'.ownsRow base e 1 v' (n + m) (xs ++ news) → w.grownBy w' v.ownBlock → (v'.ownBlock = v.ownBlock ∨ v'.ownBlock = some w.heap.size) → K (a.put o.dst v') w') :
    if Region.wanted o (yielded ops a.tmps) = true then Oper.wp P o a w K Q else E' := by
  rw [if_pos (by simp [Region.wanted, hgd])]
  exact wp_appR s x t e bytes E ho base v n xs hs hown A m c news hx hm hr h1 hn hbase h
end
theorem below_app2 {H : Nat} {w wr w1 : World} {v : Value} {n : Nat} {xs : List Value} {e : TypeId} (hb : Below H w wr) (hH : H ≤ wr.heap.size) (hown : wr.ownsRow H e 1 v n xs) {o : Obj} (hg : (wr.alloc o).grownBy w1 v.ownBlock) : Below H w w1 :=
  (hb.alloc hH o).grown hg (by simp; omega) (fun k hk => (hown.lt k hk).1)
theorem iv_append (xs ys : List Int) : iv (xs ++ ys) = iv xs ++ iv ys := by simp [iv]
theorem nv_one (S : List Nat) : ∀ u ∈ nv S, u.oneCell' = true := by
  intro u hu
  obtain ⟨x, _, rfl⟩ := List.mem_map.1 hu
  rfl
theorem iv_one (S : List Int) : ∀ u ∈ iv S, u.oneCell' = true := by
  intro u hu
  obtain ⟨x, _, rfl⟩ := List.mem_map.1 hu
  rfl

set_option maxHeartbeats 1000000 in
theorem copyOf_any (A : Option Addr) (n c : Nat) (vs : List Value) (w : World) (hn : n = vs.length) (hsm : n ≤ 1000000000) (h1 : ∀ u ∈ vs, u.oneCell' = true) (hR : Rd w A vs) :
    Calls Try.prog 60 #[.slice A n c] w fun e w' => ∃ g cap, e = .returned (.slice (some ⟨g, 0, none⟩) n cap) ∧ w'.ownsRow w.heap.size 2 1 (.slice (some ⟨g, 0, none⟩) n cap) n vs ∧ Below w.heap.size w w' := by
  have HR := Lib.hid hR
  have Hn := Lib.hid hn
  have H1 := Lib.hid h1
  clear hR hn h1
  go_enter Try.func60, Try.ntmps60
  go_wp2_with (at_builtin; refine wpList_appR _ _ _ _ _ etI (by rfl) (by rfl) w.heap.size (.slice (some ⟨w.heap.size, 0, none⟩) 0 0) 0 [] (by rfl) ?_ A n c vs (by rfl) Hn.out ?_ H1.out ?_ ?_ ?_; exact World.ownsRow_made w #[] 0 (Nat.le_refl _) (by decide) (by simp); exact HR.out.alloc _; omega; (simp); (intro v' w' hown hg hat; have HO := Lib.hid hown; have HG := Lib.hid hg; have HA := Lib.hid hat; clear hown hg hat))
  go_ret
  have ho := HO.out
  rw [Nat.zero_add, List.nil_append] at ho
  have hb : Below w.heap.size w w' := ((Below.refl _ _).alloc (Nat.le_refl _) _).grown HG.out (by simp) (fun k hk => by simp [Value.ownBlock] at hk; omega)
  rcases ho.2 with ⟨rfl, _⟩ | ⟨g, cap, cur, rfl, _⟩
  · rcases HA.out with h | h <;> simp [Value.ownBlock] at h
  · exact ⟨g, cap, rfl, ho, hb⟩

set_option maxHeartbeats 1000000 in
theorem l01Own_any (A : Option Addr) (n c : Nat) (vs : List Value) (w : World) (hn : n = vs.length) (hsm : n ≤ 1000000000) (h1 : ∀ u ∈ vs, u.oneCell' = true) (hR : Rd w A vs) :
    Calls Try.prog 75 #[.slice A n c] w fun e w' => ∃ g cap, e = .returned (.slice (some ⟨g, 0, none⟩) n cap) ∧ w'.ownsRow w.heap.size 2 1 (.slice (some ⟨g, 0, none⟩) n cap) n vs ∧ Below w.heap.size w w' := by
  have HR := Lib.hid hR
  have Hn := Lib.hid hn
  have H1 := Lib.hid h1
  clear hR hn h1
  go_enter Try.func75, Try.ntmps75
  go_wp2_with (at_builtin; refine wpList_appR _ _ _ _ _ etI (by rfl) (by rfl) w.heap.size (.slice (some ⟨w.heap.size, 0, none⟩) 0 0) 0 [] (by rfl) ?_ A n c vs (by rfl) Hn.out ?_ H1.out ?_ ?_ ?_; exact World.ownsRow_made w #[] 0 (Nat.le_refl _) (by decide) (by simp); exact HR.out.alloc _; omega; (simp); (intro v' w' hown hg hat; have HO := Lib.hid hown; have HG := Lib.hid hg; have HA := Lib.hid hat; clear hown hg hat))
  go_ret
  have ho := HO.out
  rw [Nat.zero_add, List.nil_append] at ho
  have hb : Below w.heap.size w w' := ((Below.refl _ _).alloc (Nat.le_refl _) _).grown HG.out (by simp) (fun k hk => by simp [Value.ownBlock] at hk; omega)
  rcases ho.2 with ⟨rfl, _⟩ | ⟨g, cap, cur, rfl, _⟩
  · rcases HA.out with h | h <;> simp [Value.ownBlock] at h
  · exact ⟨g, cap, rfl, ho, hb⟩

end Go.Proofs.Ytnffpjdlpjkioaa

namespace Go.Proofs.Ytnffpjdlpjkioaa
open Go.RowKit

def cntIn (x m : Nat) (ys : List Int) : List Int := ys.set m (wrap64 (ys.getD m 0 + ys.getD (m - x) 0))
def cntRow (x : Nat) : Nat → List Int → List Int
  | 0, ys => ys
  | j + 1, ys => cntIn x (x + j) (cntRow x j ys)
def cntW (s : Nat) : Nat := 2 ^ (s + 1) - 1
def cntAll : Nat → List Int
  | 0 => 1 :: List.replicate 14 0
  | s + 1 => cntRow (cntW s) (15 - cntW s) (cntAll s)
def cnt14 : List Int := cntAll 3
theorem cnt14_len : cnt14.length = 15 := by decide +kernel
theorem cnt14_bd : ∀ i, i < 15 → 0 ≤ cnt14.getD i 0 ∧ cnt14.getD i 0 ≤ 1000 := by decide +kernel
theorem cntW_lt : ∀ s, s < 3 → 1 ≤ cntW s ∧ cntW s ≤ 14 ∧ cntW (s + 1) = 2 * cntW s + 1 := by decide
theorem cntW_le : ∀ s, s < 3 → 2 * cntW s + 1 ≤ 15 := by decide
theorem made_own (w : World) (B n : Nat) (hB : B ≤ w.heap.size) (hn : n ≤ 1099511627776) : (w.alloc (.cells (madeCells #[.int .i64 0] n) 2)).ownsRow B 2 1 (.slice (some ⟨w.heap.size, 0, none⟩) n n) n (iv (List.replicate n 0)) := by
  refine ⟨by simp [iv], .inr ⟨w.heap.size, n, _, rfl, hB, blk_new w _, Nat.le_refl _, by unfold maxLen; omega, by simp [madeCells], ?_⟩⟩
  rw [← iv_replicate, List.take_of_length_le (by simp [madeCells])]
theorem made_own1 (w : World) : (w.alloc (.cells ((madeCells #[.int .i64 0] 15).setIfInBounds 0 (.int .i64 1)) 2)).ownsRow w.heap.size 2 1 (.slice (some ⟨w.heap.size, 0, none⟩) 15 15) 15 (iv (cntAll 0)) := by
  have h := (World.ownsRow.stored (made_own w w.heap.size 15 (Nat.le_refl _) (by omega)) 0 (.int .i64 1)).1
  rw [World.setCell_alloc_at _ _ _ _ _ rfl] at h
  exact h
end Go.Proofs.Ytnffpjdlpjkioaa

namespace Go.Proofs.Ytnffpjdlpjkioaa
open Go.RowKit

theorem act_take_succ (Q : List (List Int)) (z : Int) (v : Nat) {k : Nat} (hk : k < Q.length) : actE (Q.take (k + 1)) z v = xr (actE (Q.take k) z v) (hit z v (Q.getD k [])) := fold_take_succ _ _ _ _ _ hk
theorem dat_take (L : List Row) (k : Nat) : (dat L).take k = dat (L.take k) := by simp [dat, List.map_take]

end Go.Proofs.Ytnffpjdlpjkioaa

namespace Go.Proofs.Ytnffpjdlpjkioaa
open Go.RowKit

theorem below_app2d {H : Nat} {w wr w1 : World} {v : Value} {n : Nat} {xs : List Value} {e : TypeId} (hb : Below H w wr) (hH : H ≤ wr.heap.size) (hown : wr.ownsRow H e 1 v n xs) {o : Obj} (hg : (wr.alloc o).drew.grownBy w1 v.ownBlock) : Below H w w1 :=
  ((hb.alloc hH o).drew).grown hg (by simp; omega) (fun k hk => (hown.lt k hk).1)
set_option maxHeartbeats 1000000 in
theorem l01Same_any (A B : Option Addr) (n n' c c' : Nat) (x y : List Int) (w : World) (hn : n = x.length) (hn' : n' = y.length) (hsm : n ≤ 1099511627776) (hsm' : n' ≤ 1099511627776) (hA : Rd w A (iv x)) (hB : Rd w B (iv y)) :
    Calls Try.prog 66 #[.slice A n c, .slice B n' c'] w fun e w' => e = .returned (.bool (x == y)) ∧ ∃ m, w.drewN m = w' := by
  by_cases hnn : n = n'
  · subst hnn
    have HA := Lib.hid hA
    have HB := Lib.hid hB
    have Hn := Lib.hid hn
    have Hn' := Lib.hid hn'
    clear hA hB hn hn' hsm'
    go_enter Try.func66, Try.ntmps66
    go_wp2_with fail
    go_loopw [5] (fun i wr => ∃ k j : Nat, k ≤ n ∧ i = .int .i64 k ∧ wr = w.drewN j ∧ Hid (∀ t, t < k → x.getD t 0 = y.getD t 0)) (fun i _ => n - (intOf i).toNat)
    case atStart => exact ⟨0, 0, by omega, rfl, rfl, Lib.hid (fun t ht => by omega)⟩
    case round =>
      obtain ⟨k, j, hk, rfl, rfl, HQ⟩ := hrel
      by_cases hlt : k < n
      · obtain ⟨b1, o1, rfl, hc1⟩ := HA.out.atI (k := k) (by rw [← Hn.out]; exact hlt)
        obtain ⟨b2, o2, rfl, hc2⟩ := HB.out.atI (k := k) (by rw [← Hn'.out]; exact hlt)
        generalize hp : x.getD k 0 = p at *
        generalize hq : y.getD k 0 = q at *
        have HP := Lib.hid hp
        have HQ' := Lib.hid hq
        clear hp hq
        by_cases e : p = q
        · subst e
          go_wp2_with fail
          go_quiet (fail)
          go_wp2_with fail
          go_roundw
          case rel =>
            refine ⟨k + 1, _, by omega, by go_num, rfl, Lib.hid (fun t ht => ?_)⟩
            by_cases e : t = k
            · subst e; rw [HP.out, HQ'.out]
            · exact HQ.out t (by omega)
          case measure => simp [intOf]; omega
        · have heb : (p != q) = true := by simpa using e
          have HF : Hid ((x == y) = false) := Lib.hid (by
            rw [beq_eq_false_iff_ne]; intro h; subst h; exact e (HP.out.symm.trans HQ'.out))
          clear e
          go_wp2_with fail
          go_quiet (fail)
          go_wp2_with fail
          go_ret
          exact ⟨by rw [HF.out]; rfl, _, by rw [World.drewN_drewN]⟩
      · have HT : Hid ((x == y) = true) := Lib.hid (by
          rw [beq_iff_eq]
          exact list_ext_getD Hn.out.symm Hn'.out.symm (fun i hi => HQ.out i (by omega)))
        go_wp2_with fail
        go_ret
        exact ⟨by rw [HT.out]; rfl, j, rfl⟩
  · have hnb : ((n : Int) != (n' : Int)) = true := by simp; omega
    have HF : Hid ((x == y) = false) := Lib.hid (by
      rw [beq_eq_false_iff_ne]; intro h; subst h; exact hnn (hn.trans hn'.symm))
    clear hA hB hn hn' hnn
    go_enter Try.func66, Try.ntmps66
    go_wp2_with fail
    go_ret
    exact ⟨by rw [HF.out]; rfl, 0, rfl⟩
end Go.Proofs.Ytnffpjdlpjkioaa

namespace Go.Proofs.Ytnffpjdlpjkioaa
open Go.RowKit

theorem lexLt_same : ∀ (k : Nat) (x y : List Int), k ≤ x.length → k ≤ y.length → (∀ t, t < k → x.getD t 0 = y.getD t 0) → lexLt x y = lexLt (x.drop k) (y.drop k)
  | 0, _, _, _, _, _ => rfl
  | k + 1, [], _, h, _, _ => by simp at h
  | k + 1, _ :: _, [], _, h, _ => by simp at h
  | k + 1, a :: x, b :: y, h1, h2, h => by
    have h0 := h 0 (by omega)
    simp only [List.getD_cons_zero] at h0
    simp only [lexLt, if_pos h0, List.drop_succ_cons]
    exact lexLt_same k x y (by simpa using h1) (by simpa using h2) fun t ht => by have := h (t + 1) (by omega); simpa using this
theorem lexLt_at {k : Nat} {x y : List Int} (h1 : k < x.length) (h2 : k < y.length) (h : ∀ t, t < k → x.getD t 0 = y.getD t 0) (hne : x.getD k 0 ≠ y.getD k 0) : lexLt x y = decide (x.getD k 0 < y.getD k 0) := by
  rw [lexLt_same k x y (by omega) (by omega) h, List.drop_eq_getElem_cons h1, List.drop_eq_getElem_cons h2]
  simp only [List.getD, List.getElem?_eq_getElem h1, List.getElem?_eq_getElem h2, Option.getD_some] at hne ⊢
  simp only [lexLt, if_neg hne]
theorem lexLt_end {k : Nat} {x y : List Int} (h1 : k ≤ x.length) (h2 : k ≤ y.length) (h : ∀ t, t < k → x.getD t 0 = y.getD t 0) (he : k = x.length ∨ k = y.length) : lexLt x y = decide (x.length < y.length) := by
  rw [lexLt_same k x y h1 h2 h]
  rcases Nat.lt_or_ge k x.length with hx | hx
  · have hy : k = y.length := by omega
    rw [List.drop_eq_getElem_cons hx, List.drop_of_length_le (show y.length ≤ k by omega)]
    simp only [lexLt]; symm; rw [decide_eq_false_iff_not]; omega
  · rw [List.drop_of_length_le hx]
    rcases Nat.lt_or_ge k y.length with hy | hy
    · rw [List.drop_eq_getElem_cons hy]; simp only [lexLt]; symm; rw [decide_eq_true_eq]; omega
    · rw [List.drop_of_length_le hy]; simp only [lexLt]; symm; rw [decide_eq_false_iff_not]; omega

set_option maxHeartbeats 1000000 in
theorem l01Less_any (A B : Option Addr) (n n' c c' : Nat) (x y : List Int) (w : World) (hn : n = x.length) (hn' : n' = y.length) (hsm : n ≤ 1099511627776) (hsm' : n' ≤ 1099511627776) (hA : Rd w A (iv x)) (hB : Rd w B (iv y)) :
    Calls Try.prog 98 #[.slice A n c, .slice B n' c'] w fun e w' => e = .returned (.bool (lexLt x y)) ∧ ∃ m, w.drewN m = w' := by
  have HA := Lib.hid hA
  have HB := Lib.hid hB
  have Hn := Lib.hid hn
  have Hn' := Lib.hid hn'
  clear hA hB hn hn'
  go_enter Try.func98, Try.ntmps98
  go_wp2_with fail
  go_loopw [5] (fun i wr => ∃ k j : Nat, k ≤ n ∧ k ≤ n' ∧ i = .int .i64 k ∧ wr = w.drewN j ∧ Hid (∀ t, t < k → x.getD t 0 = y.getD t 0)) (fun i _ => n - (intOf i).toNat)
  case atStart => exact ⟨0, 0, by omega, by omega, rfl, rfl, Lib.hid (fun t ht => by omega)⟩
  case round =>
    obtain ⟨k, j, hk, hk', rfl, rfl, HQ⟩ := hrel
    by_cases hlt : k < n
    · by_cases hlt' : k < n'
      · have hx : k < x.length := by rw [← Hn.out]; exact hlt
        have hy : k < y.length := by rw [← Hn'.out]; exact hlt'
        obtain ⟨b1, o1, rfl, hc1⟩ := HA.out.atI hx
        obtain ⟨b2, o2, rfl, hc2⟩ := HB.out.atI hy
        have HAT := Lib.hid (fun hne => lexLt_at hx hy HQ.out hne)
        clear hx hy
        generalize hp : x.getD k 0 = p at *
        generalize hq : y.getD k 0 = q at *
        have HP := Lib.hid hp
        have HQ' := Lib.hid hq
        clear hp hq
        by_cases e : p = q
        · subst e
          go_wp2_with fail
          go_quiet (fail)
          go_wp2_with fail
          go_roundw
          case rel =>
            refine ⟨k + 1, _, by omega, by omega, by go_num, rfl, Lib.hid (fun t ht => ?_)⟩
            by_cases e : t = k
            · subst e; rw [HP.out, HQ'.out]
            · exact HQ.out t (by omega)
          case measure => simp [intOf]; omega
        · have heb : (p != q) = true := by simpa using e
          have HF := Lib.hid (HAT.out e)
          clear e HAT
          go_wp2_with fail
          go_quiet (fail)
          go_wp2_with fail
          go_quiet (fail)
          go_wp2_with fail
          go_ret
          exact ⟨by rw [HF.out]; rfl, _, by rw [World.drewN_drewN, World.drewN_drewN]⟩
      · have HF := Lib.hid (lexLt_end (by rw [← Hn.out]; omega) (by rw [← Hn'.out]; omega) HQ.out (.inr (by rw [← Hn'.out]; omega)))
        rw [← Hn.out, ← Hn'.out] at HF
        by_cases hnn : n < n'
        · omega
        · go_wp2_with fail
          go_ret
          exact ⟨by rw [HF.out, decide_eq_false hnn]; rfl, j, rfl⟩
    · have HF := Lib.hid (lexLt_end (by rw [← Hn.out]; omega) (by rw [← Hn'.out]; omega) HQ.out (.inl (by rw [← Hn.out]; omega)))
      rw [← Hn.out, ← Hn'.out] at HF
      by_cases hnn : n < n'
      · go_wp2_with fail
        go_ret
        exact ⟨by rw [HF.out, decide_eq_true hnn]; rfl, j, rfl⟩
      · go_wp2_with fail
        go_ret
        exact ⟨by rw [HF.out, decide_eq_false hnn]; rfl, j, rfl⟩

noncomputable def ascB (Q : List (List Int)) : Bool := @decide (AscP Q) (Classical.propDecidable _)
theorem ascB_true {Q : List (List Int)} (h : AscP Q) : ascB Q = true := by unfold ascB; simp [h]
theorem ascB_false {Q : List (List Int)} (h : ¬ AscP Q) : ascB Q = false := by unfold ascB; simp [h]

set_option maxHeartbeats 1000000 in
theorem l01Ascending_any (A : Option Addr) (n c : Nat) (L : List Row) (w : World) (hn : n = L.length) (hsm : n ≤ 1099511627776) (hl : ∀ i, i < L.length → (rg L i).xs.length ≤ 1099511627776) (hR : RdR w A L) :
    Calls Try.prog 81 #[.slice A n c] w fun e w' => e = .returned (.bool (ascB (dat L))) ∧ ∃ m, w.drewN m = w' := by
  have HR := Lib.hid hR
  have Hn := Lib.hid hn
  have HL := Lib.hid hl
  clear hR hn hl
  go_enter Try.func81, Try.ntmps81
  go_wp2_with fail
  go_loopw [3] (fun i wr => ∃ k j : Nat, k ≤ n ∧ i = .int .i64 ((k : Int) + 1) ∧ wr = w.drewN j ∧ Hid (∀ t, t < k → lexLt ((dat L).getD t []) ((dat L).getD (t + 1) []) = true)) (fun i _ => n + 1 - (intOf i).toNat)
  case atStart => exact ⟨0, 0, by omega, rfl, rfl, Lib.hid (fun t ht => by omega)⟩
  case round =>
    obtain ⟨k, j, hk, rfl, rfl, HQ⟩ := hrel
    by_cases hlt : k + 1 < n
    · have hk0 : k < L.length := by rw [← Hn.out]; omega
      have hk1 : k + 1 < L.length := by rw [← Hn.out]; omega
      have hi1 : (k : Int) + 1 < (n : Int) := by omega
      have hi2 : 0 ≤ (k : Int) + 1 := by omega
      have hi3 : ((k : Int) + 1).toNat = k + 1 := by omega
      obtain ⟨b, o, rfl, hc0⟩ := HR.out.at_ hk0
      have hc1 := HR.out.cell hk1
      have h0 := HR.out.inn k hk0
      have h1 := HR.out.inn (k + 1) hk1
      have l0 := HL.out k hk0
      have l1 := HL.out (k + 1) hk1
      have HE : Hid (lexLt ((dat L).getD k []) ((dat L).getD (k + 1) []) = lexLt (rg L k).xs (rg L (k + 1)).xs) := Lib.hid (by rw [dat_getD, dat_getD])
      generalize rg L k = r at *
      generalize rg L (k + 1) = s at *
      obtain ⟨rA, rc, rx⟩ := r
      obtain ⟨sA, sc, sx⟩ := s
      simp only at hc0 hc1 h0 h1 l0 l1 HE
      have HC := Lib.hid (fun W hb => l01Less_any rA sA rx.length sx.length rc sc rx sx W rfl rfl l0 l1 (Rd.below h0 hb) (Rd.below h1 hb))
      clear h0 h1
      cases hb : lexLt rx sx
      · rw [hb] at HC
        have HF := Lib.hid (ascB_false (Q := dat L) (fun h => by have := h k (by rw [dat_length]; exact hk1); rw [HE.out, hb] at this; cases this))
        clear hb
        go_wp2_with fail
        go_quiet ((go_at_call 98; first | exact quiet_any_add (HC.out _ (below_drewN (Below.refl _ _) _)) | exact quiet_any (HC.out _ (below_drewN (Below.refl _ _) _))))
        go_wp2_with fail
        go_ret
        exact ⟨by rw [HF.out]; rfl, _, by rw [World.drewN_drewN]⟩
      · rw [hb] at HC
        have HB := Lib.hid hb
        clear hb
        go_wp2_with fail
        go_quiet ((go_at_call 98; first | exact quiet_any_add (HC.out _ (below_drewN (Below.refl _ _) _)) | exact quiet_any (HC.out _ (below_drewN (Below.refl _ _) _))))
        go_wp2_with fail
        go_roundw
        case rel =>
          refine ⟨k + 1, _, by omega, by go_num, rfl, Lib.hid (fun t ht => ?_)⟩
          by_cases e : t = k
          · subst e; rw [HE.out]; exact HB.out
          · exact HQ.out t (by omega)
        case measure => simp [intOf]; omega
    · have hi1 : ¬ (k : Int) + 1 < (n : Int) := by omega
      have HT := Lib.hid (ascB_true (Q := dat L) (fun i hi => HQ.out i (by rw [dat_length, ← Hn.out] at hi; omega)))
      go_wp2_with fail
      go_ret
      exact ⟨by rw [HT.out]; rfl, j, rfl⟩
end Go.Proofs.Ytnffpjdlpjkioaa

namespace Go.Proofs.Ytnffpjdlpjkioaa
open Go.RowKit

/-- new rows of rows -/
def ResRows (Q : List (List Int)) (w : World) (e : Ending) (w' : World) : Prop := ∃ v M, e = .returned v ∧ dat M = Q ∧ OwnR w' w.heap.size v M ∧ Below w.heap.size w w'
def parV (n k : Nat) : Int := if an n k = k then 1 else 0
set_option maxHeartbeats 1000000 in
theorem l01Parity_any (n k : Nat) (w : World) (hn : n ≤ 1000) (hk : k ≤ 1000) :
    Calls Try.prog 132 #[.int .i64 n, .int .i64 k] w fun e w' => e = .returned (.int .i64 (parV n k)) ∧ w = w' := by
  have hb := i64_and_nat (a := n) (b := k) (by unfold Sm; omega) (by unfold Sm; omega)
  have h0 : ¬ (k : Int) < 0 := by omega
  by_cases hlt : n < k
  · have HF : Hid (parV n k = 0) := Lib.hid (by
      unfold parV; rw [if_neg]
      intro e
      have : an n k ≤ n := Nat.and_le_left
      omega)
    clear hb
    go_enter Try.func132, Try.ntmps132
    go_wp2_with fail
    go_ret
    exact ⟨by rw [HF.out]; rfl, rfl⟩
  · have hlt' : ¬ (n : Int) < (k : Int) := by omega
    by_cases he : an n k = k
    · have HF : Hid (parV n k = 1) := Lib.hid (by unfold parV; rw [if_pos he])
      rw [he] at hb
      go_enter Try.func132, Try.ntmps132
      go_wp2_with fail
      go_ret
      exact ⟨by rw [HF.out]; rfl, rfl⟩
    · have HF : Hid (parV n k = 0) := Lib.hid (by unfold parV; rw [if_neg he])
      have hnb : (((an n k : Nat) : Int) != (k : Int)) = true := by simp; omega
      generalize an n k = m at *
      go_enter Try.func132, Try.ntmps132
      go_wp2_with fail
      go_ret
      exact ⟨by rw [HF.out]; rfl, rfl⟩

def frontL (i : Int) (ws : List Int) : List Int := if i = 0 then ws else i :: ws
theorem one_int (w : World) (x : Int) : (w.alloc (.cells #[.int .i64 x] 2)).ownsRow w.heap.size 2 1 (.slice (some ⟨w.heap.size, 0, none⟩) 1 1) 1 [.int .i64 x] :=
  ⟨by simp, .inr ⟨w.heap.size, 1, _, rfl, Nat.le_refl _, blk_new w _, Nat.le_refl _, by decide, by simp, by simp⟩⟩
/-- one row in a new block -/
theorem row_cell (w : World) {B : Nat} (u : Value) (hB : B ≤ w.heap.size) : (w.alloc (.cells #[u] 30)).drew.ownsRow B 30 1 (.slice (some ⟨w.heap.size, 0, none⟩) 1 1) 1 [u] :=
  ⟨by simp, .inr ⟨w.heap.size, 1, _, rfl, hB, blk_new w _, Nat.le_refl _, by decide, by simp, by simp⟩⟩
theorem OwnR.one {w : World} {B : Nat} {v : Value} {r : Row} (ho : w.ownsRow B 30 1 v 1 [r.val]) (hr : w.ownsRow B 2 1 r.val r.xs.length (iv r.xs)) : OwnR w B v [r] := by
  refine ⟨ho, ?_, ?_⟩
  · intro i hi
    obtain rfl : i = 0 := by simp at hi; omega
    exact hr
  · intro i j hi hj hne
    simp at hi hj
    omega
theorem slice_one {A : Option Addr} {n c : Nat} : ∀ u ∈ [Value.slice A n c], u.oneCell' = true := by
  intro u hu
  rw [List.mem_singleton] at hu
  subst hu; rfl
theorem put_apart {w : World} {B n k : Nat} {e : TypeId} {v : Value} {xs : List Value} (h : w.ownsRow B e 1 v n xs) : v.ownBlock = none ∨ v.ownBlock ∉ [(Value.slice (some ⟨w.heap.size, 0, none⟩) k k).ownBlock] := by
  cases hv : v.ownBlock with
  | none => exact .inl rfl
  | some b =>
    have := (h.lt b hv).2
    refine .inr ?_
    simp only [Value.ownBlock, List.mem_singleton, Option.some.injEq]
    omega
set_option maxRecDepth 100000 in
set_option maxHeartbeats 2000000 in
theorem l01PutNil_any (gl : Nat) (A : Option Addr) (n c : Nat) (ws : List Int) (w : World) (hn : n = ws.length) (hsm : n ≤ 1000000) (hR : Rd w A (iv ws)) :
    Calls Try.prog 102 #[.slice (some ⟨gl, 0, none⟩) 0 0, .slice A n c] w (ResRows [ws] w) := by
  have HC := Lib.hid (fun W (hb : Below w.heap.size w W) => l01Own_any A n c (iv ws) W (by rw [iv_length]; exact hn) (by omega) (iv_one _) (hR.below hb))
  have Hn := Lib.hid hn
  clear hR hn
  go_enter Try.func102, Try.ntmps102
  go_wp2_with fail
  go_loop [5] (fun i => i = .int .i64 0) (fun _ => 0)
  case atStart => rfl
  case round =>
    subst hrel
    go_wp2_with fail
    go_region_held3 (fun w' => True)
      (first | trivial)
      (first
        | (go_at_call 75; (with_reducible refine (HC.out _ (Below.refl _ _).drew).mono ?_); (rintro e w1 ⟨g, cap, rfl, ho, hb⟩; have HO := Lib.hid ho; have HB := Lib.hid hb; clear ho hb))
        | (refine step_appR _ _ _ _ _ etS (by rfl) (by rfl) w.heap.size (.slice (some ⟨w1.heap.size, 0, none⟩) 1 1) 1 [.slice (some ⟨g, 0, none⟩) n cap] (by rfl) ?_ (some ⟨gl, 0, none⟩) 0 0 [] (by rfl) (by rfl) (.inl rfl) ?_ ?_ ?_ ?_; exact row_cell w1 _ HB.out.size; (simp); omega; (have := HB.out.size; simp at this ⊢; omega); (intro v' w2 hown hg hat; have HO2 := Lib.hid hown; have HG2 := Lib.hid hg; clear hown hg hat)))
    have hsz := HB.out.size
    have hr2 : w2.ownsRow w.heap.size 2 1 (.slice (some ⟨g, 0, none⟩) n cap) n (iv ws) := by
      refine owns_keeps (HO.out.alloc (.cells #[.slice (some ⟨g, 0, none⟩) n cap] 30)) (Keeps.of_grown HG2.out) (.inr ?_)
      have := (HO.out.lt g rfl).2
      simp only [Value.ownBlock, List.mem_singleton, Option.some.injEq]
      simp at this ⊢; omega
    have ho2 := HO2.out
    rw [Nat.add_zero, List.append_nil] at ho2
    obtain ⟨A1, c1, rfl, hc1, himp, heq⟩ := owns_shape ho2
    obtain ⟨g1, rfl, hg1, hg1'⟩ := himp (by omega)
    clear himp heq
    have HR2 := Lib.hid hr2
    have HO3 := Lib.hid ho2
    have HB2 : Hid (Below w.heap.size w w2) := Lib.hid (((((Below.refl w.heap.size w).drew).trans (HB.out.mono (by simp))).alloc (by simp at hsz ⊢; omega) _).grown HG2.out (by simp at hsz ⊢; omega) (fun k hk => by simp [Value.ownBlock] at hk; simp at hsz; omega))
    have hsz2 := HB2.out.size
    clear hr2 ho2 HO2 HG2
    go_wp2_with (first
      | (at_builtin; refine wpList_appR _ _ _ _ _ etS (by rfl) (by rfl) w.heap.size (.slice (some ⟨w2.heap.size, 0, none⟩) 0 0) 0 [] (by rfl) ?_ (some ⟨gl, 0, none⟩) 0 0 [] (by rfl) (by rfl) (.inl rfl) ?_ ?_ ?_ ?_; exact World.ownsRow_made w2 #[] 0 hsz2 (by decide) (by simp); (simp); omega; (simp; omega); (intro v3 w3 hown hg hat; have HO5 := Lib.hid hown; have HG5 := Lib.hid hg; clear hown hg hat))
      | (at_builtin; refine wpList_appR _ _ _ _ _ etS (by rfl) (by rfl) w.heap.size v3 0 [] (by rfl) HO5.out (some ⟨g1, 0, none⟩) 1 c1 [.slice (some ⟨g, 0, none⟩) n cap] (by rfl) (by rfl) (owns_Rd (owns_keeps (HO3.out.alloc (.cells #[] 30)) (Keeps.of_grown HG5.out) (put_apart HO3.out))) slice_one (by decide) (Nat.le_trans hsz2 (Nat.le_trans (Nat.le_of_lt (by simp)) HG5.out.size)) ?_; (intro v4 w4 hown hg hat; have HO6 := Lib.hid hown; have HG6 := Lib.hid hg; have HA6 := Lib.hid hat; clear hown hg hat)))
    go_ret
    have r3 := owns_keeps (HR2.out.alloc (.cells #[] 30)) (Keeps.of_grown HG5.out) (put_apart HR2.out)
    have r4 := owns_keeps r3 (Keeps.of_grown HG6.out) (by have := own_ne2 r3 HO5.out (by decide); simpa using this)
    have b3 : Below w.heap.size w w3 := (HB2.out.alloc hsz2 _).grown HG5.out (by simp; omega) (fun k hk => by simp [Value.ownBlock] at hk; omega)
    have b4 : Below w.heap.size w w4 := b3.grown HG6.out b3.size (fun k hk => (HO5.out.lt k hk).1)
    refine ⟨v4, [⟨some ⟨g, 0, none⟩, cap, ws⟩], rfl, rfl, OwnR.one ?_ ?_, b4⟩
    · simp only [Row.val]; rw [← Hn.out]; exact HO6.out
    · simp only [Row.val]; rw [← Hn.out]; exact r4

/-- the sum of two lists in order -/
def sumR : List (List Int) → List (List Int) → List (List Int)
  | [], b => b
  | x :: a, [] => x :: a
  | x :: a, y :: b => if lexLt x y = true then x :: sumR a (y :: b) else if lexLt y x = true then y :: sumR (x :: a) b else sumR a b
termination_by a b => a.length + b.length
theorem sumR_nil (a : List (List Int)) : sumR a [] = a := by cases a <;> rw [sumR]
theorem drop_cons {Q : List (List Int)} {i : Nat} (h : i < Q.length) : Q.drop i = Q.getD i [] :: Q.drop (i + 1) := by
  rw [List.drop_eq_getElem_cons h]; simp only [List.getD, List.getElem?_eq_getElem h, Option.getD_some]
/-- the sum so far, i and k of the rows being taken -/
def SumAt (P Q R : List (List Int)) (i k : Nat) : Prop := i ≤ P.length ∧ k ≤ Q.length ∧ R ++ sumR (P.drop i) (Q.drop k) = sumR P Q
theorem SumAt.start (P Q : List (List Int)) : SumAt P Q [] 0 0 := ⟨Nat.zero_le _, Nat.zero_le _, rfl⟩
theorem SumAt.left {P Q R : List (List Int)} {i k : Nat} (h : SumAt P Q R i k) (hi : i < P.length) (hc : Q.length ≤ k ∨ lexLt (P.getD i []) (Q.getD k []) = true) : SumAt P Q (R ++ [P.getD i []]) (i + 1) k := by
  refine ⟨hi, h.2.1, ?_⟩
  rw [← h.2.2, drop_cons hi, List.append_assoc]
  congr 1
  rcases Nat.lt_or_ge k Q.length with hk | hk
  · rw [drop_cons hk, sumR]
    rw [if_pos (by rcases hc with hc | hc; omega; exact hc)]
    rfl
  · rw [List.drop_of_length_le hk, sumR_nil, sumR_nil]; rfl
theorem SumAt.right {P Q R : List (List Int)} {i k : Nat} (h : SumAt P Q R i k) (hk : k < Q.length) (hc : P.length ≤ i ∨ lexLt (P.getD i []) (Q.getD k []) = false ∧ lexLt (Q.getD k []) (P.getD i []) = true) : SumAt P Q (R ++ [Q.getD k []]) i (k + 1) := by
  refine ⟨h.1, hk, ?_⟩
  rw [← h.2.2, drop_cons hk, List.append_assoc]
  congr 1
  rcases Nat.lt_or_ge i P.length with hi | hi
  · rw [drop_cons hi]
    rcases hc with hc | hc
    · omega
    · conv => rhs; rw [sumR, if_neg (by rw [hc.1]; simp), if_pos hc.2]
      rfl
  · rw [List.drop_of_length_le hi]; simp [sumR]
theorem SumAt.both {P Q R : List (List Int)} {i k : Nat} (h : SumAt P Q R i k) (hi : i < P.length) (hk : k < Q.length) (h1 : lexLt (P.getD i []) (Q.getD k []) = false) (h2 : lexLt (Q.getD k []) (P.getD i []) = false) : SumAt P Q R (i + 1) (k + 1) := by
  refine ⟨hi, hk, ?_⟩
  rw [← h.2.2, drop_cons hi, drop_cons hk]
  conv => rhs; rw [sumR, if_neg (by rw [h1]; simp), if_neg (by rw [h2]; simp)]
theorem SumAt.done {P Q R : List (List Int)} {i k : Nat} (h : SumAt P Q R i k) (hi : P.length ≤ i) (hk : Q.length ≤ k) : R = sumR P Q := by
  have := h.2.2
  rw [List.drop_of_length_le hi, List.drop_of_length_le hk] at this
  simpa [sumR] using this
end Go.Proofs.Ytnffpjdlpjkioaa

namespace Go.Proofs.Ytnffpjdlpjkioaa
open Go.RowKit

theorem dat_append1 (R : List Row) (r : Row) : dat (R ++ [r]) = dat R ++ [r.xs] := by simp [dat]
theorem OwnR.push {wr w1 : World} {B g cap n : Nat} {v : Value} {R : List Row} {ws : List Int} (hR : OwnR wr B v R) (hb : Below wr.heap.size wr w1) (ho : w1.ownsRow wr.heap.size 2 1 (.slice (some ⟨g, 0, none⟩) n cap) n (iv ws)) (hn : n = ws.length) (hB : B ≤ wr.heap.size)
    {o : Obj} {g2 c2 : Nat} {w3 : World} (hown : w3.ownsRow B 30 1 (.slice (some ⟨g2, 0, none⟩) (R.length + 1) c2) (R.length + 1) (hv R ++ [.slice (some ⟨g, 0, none⟩) n cap])) (hg : (w1.alloc o).grownBy w3 v.ownBlock) :
    OwnR w3 B (.slice (some ⟨g2, 0, none⟩) (R.length + 1) c2) (R ++ [⟨some ⟨g, 0, none⟩, cap, ws⟩]) := by
  subst hn
  refine (hR.later hb).app (r := ⟨some ⟨g, 0, none⟩, cap, ws⟩) (ho.mono hB) ?_ hown hg
  intro i hi
  refine .inr fun e => ?_
  have h1 := (ho.lt g rfl).1
  have h2 := ((hR.inn i hi).lt g (by rw [← e]; rfl)).2
  omega

set_option maxRecDepth 100000 in
set_option maxHeartbeats 4000000 in
theorem l01Sum_any (A B : Option Addr) (n n' c c' : Nat) (L K : List Row) (w : World) (hn : n = L.length) (hn' : n' = K.length) (hsm : n ≤ 1000000) (hsm' : n' ≤ 1000000) (hl : ∀ i, i < L.length → (rg L i).xs.length ≤ 1000000) (hl' : ∀ i, i < K.length → (rg K i).xs.length ≤ 1000000) (hA : RdR w A L) (hB : RdR w B K) :
    Calls Try.prog 68 #[.slice A n c, .slice B n' c'] w (ResRows (sumR (dat L) (dat K)) w) := by
  have HA := Lib.hid hA
  have HB := Lib.hid hB
  have Hn := Lib.hid hn
  have Hn' := Lib.hid hn'
  have HL := Lib.hid hl
  have HL' := Lib.hid hl'
  clear hA hB hn hn' hl hl'
  go_enter Try.func68, Try.ntmps68
  go_wp2_with fail
  go_loopw [5, 6, 7] (fun v s6 s7 wr => ∃ i k : Nat, ∃ R : List Row, ∃ A1 c1, s6 = .int .i64 i ∧ s7 = .int .i64 k ∧ v = .slice A1 R.length c1 ∧ i ≤ n ∧ k ≤ n' ∧ R.length ≤ i + k ∧ Hid (SumAt (dat L) (dat K) (dat R) i k) ∧ OwnR wr w.heap.size (.slice A1 R.length c1) R ∧ Below w.heap.size w wr) (fun _ i k _ => n + n' - (intOf i).toNat - (intOf k).toNat)
  case atStart => exact ⟨0, 0, [], some ⟨w.heap.size, 0, none⟩, 0, rfl, rfl, rfl, by omega, by omega, by simp, Lib.hid (SumAt.start _ _), OwnR.made w (Nat.le_refl _), (Below.refl _ _).alloc (Nat.le_refl _) _⟩
  case round =>
    obtain ⟨i, k, R, A1, c1, rfl, rfl, rfl, hi, hk, hRl, HS, hown, hbel⟩ := hrel
    have HO := Lib.hid hown
    have HBL := Lib.hid hbel
    have hsz := hbel.size
    have hq : R.length < 1099511627776 := by omega
    have hA1 := HA.out.below hbel
    have hB1 := HB.out.below hbel
    by_cases hi' : i < n
    · have hiL : i < L.length := by rw [← Hn.out]; exact hi'
      obtain ⟨b1, o1, rfl, hc1⟩ := hA1.at_ hiL
      have hr1 := hA1.inn i hiL
      have hl1 := HL.out i hiL
      have HX : Hid ((dat L).getD i [] = (rg L i).xs) := Lib.hid (dat_getD L i)
      have HSL := Lib.hid (fun hc => HS.out.left (by rw [dat_length]; exact hiL) hc)
      have hin : ((i : Int) == (n : Int)) = false := by simp; omega
      by_cases hk' : k < n'
      · have hkK : k < K.length := by rw [← Hn'.out]; exact hk'
        obtain ⟨b2, o2, rfl, hc2⟩ := hB1.at_ hkK
        have hr2 := hB1.inn k hkK
        have hl2 := HL'.out k hkK
        have HY : Hid ((dat K).getD k [] = (rg K k).xs) := Lib.hid (dat_getD K k)
        have HSR := Lib.hid (fun hc => HS.out.right (by rw [dat_length]; exact hkK) hc)
        have HSB := Lib.hid (fun h1 h2 => HS.out.both (by rw [dat_length]; exact hiL) (by rw [dat_length]; exact hkK) h1 h2)
        rw [HX.out] at HSL HSR HSB
        rw [HY.out] at HSL HSR HSB
        generalize rg L i = r at *
        generalize rg K k = s at *
        obtain ⟨rA, rc, rx⟩ := r
        obtain ⟨sA, sc, sx⟩ := s
        simp only at hc1 hr1 hl1 hc2 hr2 hl2 HSL HSR HSB
        have HC1 := Lib.hid (fun W hb => l01Less_any rA sA rx.length sx.length rc sc rx sx W rfl rfl (by omega) (by omega) (Rd.below hr1 hb) (Rd.below hr2 hb))
        have HC2 := Lib.hid (fun W hb => l01Less_any sA rA sx.length rx.length sc rc sx rx W rfl rfl (by omega) (by omega) (Rd.below hr2 hb) (Rd.below hr1 hb))
        have HW1 := Lib.hid (fun W hb => l01Own_any rA rx.length rc (iv rx) W (by rw [iv_length]) (by omega) (iv_one _) (Rd.below hr1 hb))
        have HW2 := Lib.hid (fun W hb => l01Own_any sA sx.length sc (iv sx) W (by rw [iv_length]) (by omega) (iv_one _) (Rd.below hr2 hb))
        have hkn : ((k : Int) == (n' : Int)) = false := by simp; omega
        clear hr1 hr2 hA1 hB1 hown hbel HX HY
        cases hb1 : lexLt rx sx
        · rw [hb1] at HC1
          cases hb2 : lexLt sx rx
          · rw [hb2] at HC2
            have HS2 := Lib.hid (HSB.out hb1 hb2)
            clear hb1 hb2
            go_wp2_with fail
            go_big_quiet ((go_at_call 98; first | with_reducible exact quiet_any (HC1.out _ (below_drewN (Below.refl _ _) _)) | with_reducible exact quiet_any_add (HC1.out _ (below_drewN (Below.refl _ _) _))))
            go_wp2_with fail
            go_big_quiet ((go_at_call 98; first | exact quiet_any_add (HC2.out _ (below_drewN (Below.refl _ _) _)) | exact quiet_any (HC2.out _ (below_drewN (Below.refl _ _) _))))
            go_wp2_with fail
            go_roundw
            case rel => exact ⟨i + 1, k + 1, R, A1, c1, by go_num, by go_num, rfl, by omega, by omega, by omega, HS2, HO.out.drewN _, below_drewN HBL.out _⟩
            case measure => simp [intOf]; omega
          · rw [hb2] at HC2
            have HS2 := Lib.hid (HSR.out (.inr ⟨hb1, hb2⟩))
            clear hb1 hb2
            go_wp2_with fail
            go_big_quiet ((go_at_call 98; first | with_reducible exact quiet_any (HC1.out _ (below_drewN (Below.refl _ _) _)) | with_reducible exact quiet_any_add (HC1.out _ (below_drewN (Below.refl _ _) _))))
            go_wp2_with fail
            go_big_quiet ((go_at_call 98; first | exact quiet_any_add (HC2.out _ (below_drewN (Below.refl _ _) _)) | exact quiet_any (HC2.out _ (below_drewN (Below.refl _ _) _))))
            go_wp2_with fail
            refine (HW2.out _ (below_drewN (Below.refl _ _) _)).mono ?_
            rintro e w1 ⟨g, cap, rfl, ho, hb⟩
            have HB1 := Lib.hid (show Below wr.heap.size wr w1 from ⟨hb.os, hb.tape, hb.output, hb.size, hb.block⟩)
            have HO1 := Lib.hid (show w1.ownsRow wr.heap.size 2 1 (.slice (some ⟨g, 0, none⟩) sx.length cap) sx.length (iv sx) from ho)
            clear ho hb
            go_wp2_with (at_builtin; refine wpList_app1 _ _ _ _ _ etS (by rfl) (by rfl) w.heap.size (.slice A1 R.length c1) R.length (hv R) (by rfl) ((HO.out.later HB1.out).out.alloc _) _ (.slice (some ⟨g, 0, none⟩) sx.length cap) (by rfl) (new_cell _ _ _) (by rfl) hq (Nat.le_trans (Nat.le_trans hsz HB1.out.size) (Nat.le_of_lt (by simp))) ?_; (intro g2 c2 w3 hown3 hg3 hat3 hlt3; have HN := Lib.hid (OwnR.push HO.out HB1.out HO1.out rfl hsz hown3 hg3); have HB3 := Lib.hid (below_app2 (HBL.out.trans (HB1.out.mono hsz)) (Nat.le_trans hsz HB1.out.size) (HO.out.later HB1.out).out hg3); clear hown3 hg3 hat3 hlt3))
            go_roundw
            case rel => exact ⟨i, k + 1, R ++ [⟨some ⟨g, 0, none⟩, cap, sx⟩], some ⟨g2, 0, none⟩, c2, by go_num, by go_num, by rw [List.length_append]; rfl, by omega, by omega, by rw [List.length_append]; simp; omega, Lib.hid (by rw [dat_append1]; exact HS2.out), by rw [List.length_append]; exact HN.out, HB3.out⟩
            case measure => simp [intOf]; omega
        · rw [hb1] at HC1
          have HS2 := Lib.hid (HSL.out (.inr hb1))
          clear hb1
          go_wp2_with fail
          go_big_quiet ((go_at_call 98; first | with_reducible exact quiet_any (HC1.out _ (below_drewN (Below.refl _ _) _)) | with_reducible exact quiet_any_add (HC1.out _ (below_drewN (Below.refl _ _) _))))
          go_wp2_with fail
          refine (HW1.out _ (below_drewN (Below.refl _ _) _)).mono ?_
          rintro e w1 ⟨g, cap, rfl, ho, hb⟩
          have HB1 := Lib.hid (show Below wr.heap.size wr w1 from ⟨hb.os, hb.tape, hb.output, hb.size, hb.block⟩)
          have HO1 := Lib.hid (show w1.ownsRow wr.heap.size 2 1 (.slice (some ⟨g, 0, none⟩) rx.length cap) rx.length (iv rx) from ho)
          clear ho hb
          go_wp2_with (at_builtin; refine wpList_app1 _ _ _ _ _ etS (by rfl) (by rfl) w.heap.size (.slice A1 R.length c1) R.length (hv R) (by rfl) ((HO.out.later HB1.out).out.alloc _) _ (.slice (some ⟨g, 0, none⟩) rx.length cap) (by rfl) (new_cell _ _ _) (by rfl) hq (Nat.le_trans (Nat.le_trans hsz HB1.out.size) (Nat.le_of_lt (by simp))) ?_; (intro g2 c2 w3 hown3 hg3 hat3 hlt3; have HN := Lib.hid (OwnR.push HO.out HB1.out HO1.out rfl hsz hown3 hg3); have HB3 := Lib.hid (below_app2 (HBL.out.trans (HB1.out.mono hsz)) (Nat.le_trans hsz HB1.out.size) (HO.out.later HB1.out).out hg3); clear hown3 hg3 hat3 hlt3))
          go_roundw
          case rel => exact ⟨i + 1, k, R ++ [⟨some ⟨g, 0, none⟩, cap, rx⟩], some ⟨g2, 0, none⟩, c2, by go_num, by go_num, by rw [List.length_append]; rfl, by omega, by omega, by rw [List.length_append]; simp; omega, Lib.hid (by rw [dat_append1]; exact HS2.out), by rw [List.length_append]; exact HN.out, HB3.out⟩
          case measure => simp [intOf]; omega
      · rw [HX.out] at HSL
        generalize rg L i = r at *
        obtain ⟨rA, rc, rx⟩ := r
        simp only at hc1 hr1 hl1 HSL
        have HW1 := Lib.hid (fun W hb => l01Own_any rA rx.length rc (iv rx) W (by rw [iv_length]) (by omega) (iv_one _) (Rd.below hr1 hb))
        have HS2 := Lib.hid (HSL.out (.inl (by rw [dat_length, ← Hn'.out]; omega)))
        have hkn : ((k : Int) == (n' : Int)) = true := by simp; omega
        clear hr1 hA1 hB1 hown hbel HX
        go_wp2_with fail
        go_big_quiet (fail)
        go_wp2_with fail
        refine (HW1.out _ (below_drewN (Below.refl _ _) _)).mono ?_
        rintro e w1 ⟨g, cap, rfl, ho, hb⟩
        have HB1 := Lib.hid (show Below wr.heap.size wr w1 from ⟨hb.os, hb.tape, hb.output, hb.size, hb.block⟩)
        have HO1 := Lib.hid (show w1.ownsRow wr.heap.size 2 1 (.slice (some ⟨g, 0, none⟩) rx.length cap) rx.length (iv rx) from ho)
        clear ho hb
        go_wp2_with (at_builtin; refine wpList_app1 _ _ _ _ _ etS (by rfl) (by rfl) w.heap.size (.slice A1 R.length c1) R.length (hv R) (by rfl) ((HO.out.later HB1.out).out.alloc _) _ (.slice (some ⟨g, 0, none⟩) rx.length cap) (by rfl) (new_cell _ _ _) (by rfl) hq (Nat.le_trans (Nat.le_trans hsz HB1.out.size) (Nat.le_of_lt (by simp))) ?_; (intro g2 c2 w3 hown3 hg3 hat3 hlt3; have HN := Lib.hid (OwnR.push HO.out HB1.out HO1.out rfl hsz hown3 hg3); have HB3 := Lib.hid (below_app2 (HBL.out.trans (HB1.out.mono hsz)) (Nat.le_trans hsz HB1.out.size) (HO.out.later HB1.out).out hg3); clear hown3 hg3 hat3 hlt3))
        go_roundw
        case rel => exact ⟨i + 1, k, R ++ [⟨some ⟨g, 0, none⟩, cap, rx⟩], some ⟨g2, 0, none⟩, c2, by go_num, by go_num, by rw [List.length_append]; rfl, by omega, by omega, by rw [List.length_append]; simp; omega, Lib.hid (by rw [dat_append1]; exact HS2.out), by rw [List.length_append]; exact HN.out, HB3.out⟩
        case measure => simp [intOf]; omega
    · have hin : ((i : Int) == (n : Int)) = true := by simp; omega
      by_cases hk' : k < n'
      · have hkK : k < K.length := by rw [← Hn'.out]; exact hk'
        obtain ⟨b2, o2, rfl, hc2⟩ := hB1.at_ hkK
        have hr2 := hB1.inn k hkK
        have hl2 := HL'.out k hkK
        have HY : Hid ((dat K).getD k [] = (rg K k).xs) := Lib.hid (dat_getD K k)
        have HSR := Lib.hid (fun hc => HS.out.right (by rw [dat_length]; exact hkK) hc)
        rw [HY.out] at HSR
        generalize rg K k = s at *
        obtain ⟨sA, sc, sx⟩ := s
        simp only at hc2 hr2 hl2 HSR
        have HW2 := Lib.hid (fun W hb => l01Own_any sA sx.length sc (iv sx) W (by rw [iv_length]) (by omega) (iv_one _) (Rd.below hr2 hb))
        have HS2 := Lib.hid (HSR.out (.inl (by rw [dat_length, ← Hn.out]; omega)))
        have hkn : ((k : Int) == (n' : Int)) = false := by simp; omega
        clear hr2 hA1 hB1 hown hbel HY
        go_wp2_with fail
        go_big_quiet (fail)
        go_wp2_with fail
        go_big_quiet (fail)
        go_wp2_with fail
        refine (HW2.out _ (below_drewN (Below.refl _ _) _)).mono ?_
        rintro e w1 ⟨g, cap, rfl, ho, hb⟩
        have HB1 := Lib.hid (show Below wr.heap.size wr w1 from ⟨hb.os, hb.tape, hb.output, hb.size, hb.block⟩)
        have HO1 := Lib.hid (show w1.ownsRow wr.heap.size 2 1 (.slice (some ⟨g, 0, none⟩) sx.length cap) sx.length (iv sx) from ho)
        clear ho hb
        go_wp2_with (at_builtin; refine wpList_app1 _ _ _ _ _ etS (by rfl) (by rfl) w.heap.size (.slice A1 R.length c1) R.length (hv R) (by rfl) ((HO.out.later HB1.out).out.alloc _) _ (.slice (some ⟨g, 0, none⟩) sx.length cap) (by rfl) (new_cell _ _ _) (by rfl) hq (Nat.le_trans (Nat.le_trans hsz HB1.out.size) (Nat.le_of_lt (by simp))) ?_; (intro g2 c2 w3 hown3 hg3 hat3 hlt3; have HN := Lib.hid (OwnR.push HO.out HB1.out HO1.out rfl hsz hown3 hg3); have HB3 := Lib.hid (below_app2 (HBL.out.trans (HB1.out.mono hsz)) (Nat.le_trans hsz HB1.out.size) (HO.out.later HB1.out).out hg3); clear hown3 hg3 hat3 hlt3))
        go_roundw
        case rel => exact ⟨i, k + 1, R ++ [⟨some ⟨g, 0, none⟩, cap, sx⟩], some ⟨g2, 0, none⟩, c2, by go_num, by go_num, by rw [List.length_append]; rfl, by omega, by omega, by rw [List.length_append]; simp; omega, Lib.hid (by rw [dat_append1]; exact HS2.out), by rw [List.length_append]; exact HN.out, HB3.out⟩
        case measure => simp [intOf]; omega
      · have HF := Lib.hid (HS.out.done (by rw [dat_length, ← Hn.out]; omega) (by rw [dat_length, ← Hn'.out]; omega))
        clear hA1 hB1 hown hbel
        go_wp2_with fail
        go_ret
        exact ⟨_, R, rfl, HF.out, HO.out, HBL.out⟩
end Go.Proofs.Ytnffpjdlpjkioaa

namespace Go.Proofs.Ytnffpjdlpjkioaa
open Go.RowKit

theorem isNaN_any (x : Int) (w : World) : Calls Try.prog 131 #[.int .i64 x] w fun e w' => e = .returned (.bool false) ∧ w = w' := by
  go_enter Try.func131, Try.ntmps131
  go_wp2
  go_ret
  exact ⟨rfl, rfl⟩

def cmpI (x y : Int) : Int := if x < y then -1 else if y < x then 1 else 0
theorem cmpCompare_any (x y : Int) (w : World) : Calls Try.prog 112 #[.int .i64 x, .int .i64 y] w fun e w' => e = .returned (.int .i64 (cmpI x y)) ∧ w = w' := by
  have HN := Lib.hid (fun z W => isNaN_any z W)
  by_cases h : x < y
  · have HE : Hid (cmpI x y = -1) := Lib.hid (by unfold cmpI; rw [if_pos h])
    go_enter Try.func112, Try.ntmps112
    go_wp2_with (go_at_call 131; refine (HN.out _ _).mono ?_; rintro e w' ⟨rfl, rfl⟩)
    go_ret
    exact ⟨by rw [HE.out]; rfl, rfl⟩
  · by_cases h' : y < x
    · have HE : Hid (cmpI x y = 1) := Lib.hid (by unfold cmpI; rw [if_neg h, if_pos h'])
      go_enter Try.func112, Try.ntmps112
      go_wp2_with (go_at_call 131; refine (HN.out _ _).mono ?_; rintro e w' ⟨rfl, rfl⟩)
      go_ret
      exact ⟨by rw [HE.out]; rfl, rfl⟩
    · have HE : Hid (cmpI x y = 0) := Lib.hid (by unfold cmpI; rw [if_neg h, if_neg h'])
      go_enter Try.func112, Try.ntmps112
      go_wp2_with (go_at_call 131; refine (HN.out _ _).mono ?_; rintro e w' ⟨rfl, rfl⟩)
      go_ret
      exact ⟨by rw [HE.out]; rfl, rfl⟩

/-- the order of lists as a number -/
def cmpL (x y : List Int) : Int := if lexLt x y = true then -1 else if x = y then 0 else 1
set_option maxHeartbeats 1000000 in
theorem slCompare_any (A B : Option Addr) (n n' c c' : Nat) (x y : List Int) (w : World) (hn : n = x.length) (hn' : n' = y.length) (hsm : n ≤ 1099511627776) (hsm' : n' ≤ 1099511627776) (hA : Rd w A (iv x)) (hB : Rd w B (iv y)) :
    Calls Try.prog 95 #[.slice A n c, .slice B n' c'] w fun e w' => e = .returned (.int .i64 (cmpL x y)) ∧ w = w' := by
  have HA := Lib.hid hA
  have HB := Lib.hid hB
  have Hn := Lib.hid hn
  have Hn' := Lib.hid hn'
  clear hA hB hn hn'
  go_enter Try.func95, Try.ntmps95
  go_wp2_with fail
  go_loop [11] (fun i => ∃ k : Nat, k ≤ n ∧ k ≤ n' ∧ i = .int .i64 k ∧ Hid (∀ t, t < k → x.getD t 0 = y.getD t 0)) (fun i => n - (intOf i).toNat)
  case atStart => exact ⟨0, by omega, by omega, rfl, Lib.hid (fun t ht => by omega)⟩
  case round =>
    obtain ⟨k, hk, hk', rfl, HQ⟩ := hrel
    by_cases hlt : k < n
    · have hx : k < x.length := by rw [← Hn.out]; exact hlt
      obtain ⟨b1, o1, rfl, hc1⟩ := HA.out.atI hx
      by_cases hlt' : k < n'
      · have hy : k < y.length := by rw [← Hn'.out]; exact hlt'
        obtain ⟨b2, o2, rfl, hc2⟩ := HB.out.atI hy
        have HAT := Lib.hid (fun hne => lexLt_at hx hy HQ.out hne)
        have HC := Lib.hid (fun W => cmpCompare_any (x.getD k 0) (y.getD k 0) W)
        clear hx hy
        generalize hp : x.getD k 0 = p at *
        generalize hq : y.getD k 0 = q at *
        have HP := Lib.hid hp
        have HQ' := Lib.hid hq
        clear hp hq
        rcases Int.lt_trichotomy p q with h | h | h
        · have HE : Hid (cmpI p q = -1) := Lib.hid (by unfold cmpI; rw [if_pos h])
          have HF : Hid (cmpL x y = -1) := Lib.hid (by unfold cmpL; rw [HAT.out (by omega), if_pos (by simpa using h)])
          rw [HE.out] at HC
          clear h
          go_wp2_with (go_at_call 112; refine (HC.out _).mono ?_; rintro e w' ⟨rfl, rfl⟩)
          go_ret
          exact ⟨by rw [HF.out]; rfl, rfl⟩
        · have HE : Hid (cmpI p q = 0) := Lib.hid (by unfold cmpI; rw [if_neg (by omega), if_neg (by omega)])
          rw [HE.out] at HC
          have HPQ := Lib.hid h
          clear h
          go_wp2_with (go_at_call 112; refine (HC.out _).mono ?_; rintro e w' ⟨rfl, rfl⟩)
          go_round
          case rel =>
            refine ⟨k + 1, by omega, by omega, by go_num, Lib.hid (fun t ht => ?_)⟩
            by_cases e : t = k
            · subst e; rw [HP.out, HQ'.out, HPQ.out]
            · exact HQ.out t (by omega)
          case measure => simp [intOf]; omega
        · have HE : Hid (cmpI p q = 1) := Lib.hid (by unfold cmpI; rw [if_neg (by omega), if_pos h])
          have HF : Hid (cmpL x y = 1) := Lib.hid (by
            unfold cmpL
            rw [HAT.out (by omega), if_neg (by simp; omega), if_neg]
            intro e; subst e
            have := HP.out.symm.trans HQ'.out
            omega)
          rw [HE.out] at HC
          clear h
          go_wp2_with (go_at_call 112; refine (HC.out _).mono ?_; rintro e w' ⟨rfl, rfl⟩)
          go_ret
          exact ⟨by rw [HF.out]; rfl, rfl⟩
      · have HF : Hid (cmpL x y = 1) := Lib.hid (by
          have h1 := lexLt_end (by rw [← Hn.out]; omega) (by rw [← Hn'.out]; omega) HQ.out (.inr (by rw [← Hn'.out]; omega))
          rw [← Hn.out, ← Hn'.out, decide_eq_false (by omega)] at h1
          unfold cmpL
          rw [h1, if_neg (by simp), if_neg]
          intro e; subst e
          have := Hn.out.trans Hn'.out.symm
          omega)
        go_wp2_with fail
        go_ret
        exact ⟨by rw [HF.out]; rfl, rfl⟩
    · have h1 := lexLt_end (by rw [← Hn.out]; omega) (by rw [← Hn'.out]; omega) HQ.out (.inl (by rw [← Hn.out]; omega))
      rw [← Hn.out, ← Hn'.out] at h1
      by_cases hnn : n < n'
      · have HF : Hid (cmpL x y = -1) := Lib.hid (by unfold cmpL; rw [h1, if_pos (by simpa using hnn)])
        clear h1
        go_wp2_with fail
        go_ret
        exact ⟨by rw [HF.out]; rfl, rfl⟩
      · have HF : Hid (cmpL x y = 0) := Lib.hid (by
          unfold cmpL
          rw [h1, if_neg (by simpa using hnn), if_pos]
          exact list_ext_getD Hn.out.symm (by rw [← Hn'.out]; omega) (fun i hi => HQ.out i (by omega)))
        clear h1
        go_wp2_with fail
        go_ret
        exact ⟨by rw [HF.out]; rfl, rfl⟩
theorem cmpL_lt {x y : List Int} (h : lexLt x y = true) : cmpL x y = -1 := by unfold cmpL; rw [if_pos h]
theorem cmpL_ge {x y : List Int} (h : lexLt x y = false) : 0 ≤ cmpL x y ∧ cmpL x y ≤ 1 := by unfold cmpL; rw [if_neg (by rw [h]; simp)]; split <;> omega

set_option maxHeartbeats 1000000 in
theorem rising_any (A : Option Addr) (n c : Nat) (L : List Row) (w : World) (hn : n = L.length) (hsm : n ≤ 1099511627776) (hl : ∀ i, i < L.length → (rg L i).xs.length ≤ 1099511627776) (hR : RdR w A L) :
    Calls Try.prog 87 #[.slice A n c] w fun e w' => e = .returned (.bool (ascB (dat L))) ∧ ∃ m, w.drewN m = w' := by
  have HR := Lib.hid hR
  have Hn := Lib.hid hn
  have HL := Lib.hid hl
  clear hR hn hl
  go_enter Try.func87, Try.ntmps87
  go_wp2_with fail
  go_loopw [3] (fun i wr => ∃ k j : Nat, k ≤ n ∧ i = .int .i64 ((k : Int) + 1) ∧ wr = w.drewN j ∧ Hid (∀ t, t < k → lexLt ((dat L).getD t []) ((dat L).getD (t + 1) []) = true)) (fun i _ => n + 1 - (intOf i).toNat)
  case atStart => exact ⟨0, 0, by omega, rfl, rfl, Lib.hid (fun t ht => by omega)⟩
  case round =>
    obtain ⟨k, j, hk, rfl, rfl, HQ⟩ := hrel
    by_cases hlt : k + 1 < n
    · have hk0 : k < L.length := by rw [← Hn.out]; omega
      have hk1 : k + 1 < L.length := by rw [← Hn.out]; omega
      have hi1 : (k : Int) + 1 < (n : Int) := by omega
      have hi2 : 0 ≤ (k : Int) + 1 := by omega
      have hi3 : ((k : Int) + 1).toNat = k + 1 := by omega
      obtain ⟨b, o, rfl, hc0⟩ := HR.out.at_ hk0
      have hc1 := HR.out.cell hk1
      have h0 := HR.out.inn k hk0
      have h1 := HR.out.inn (k + 1) hk1
      have l0 := HL.out k hk0
      have l1 := HL.out (k + 1) hk1
      have HE : Hid (lexLt ((dat L).getD k []) ((dat L).getD (k + 1) []) = lexLt (rg L k).xs (rg L (k + 1)).xs) := Lib.hid (by rw [dat_getD, dat_getD])
      generalize rg L k = r at *
      generalize rg L (k + 1) = s at *
      obtain ⟨rA, rc, rx⟩ := r
      obtain ⟨sA, sc, sx⟩ := s
      simp only at hc0 hc1 h0 h1 l0 l1 HE
      have HC := Lib.hid (fun W hb => slCompare_any rA sA rx.length sx.length rc sc rx sx W rfl rfl l0 l1 (Rd.below h0 hb) (Rd.below h1 hb))
      clear h0 h1
      cases hb : lexLt rx sx
      · have hz := cmpL_ge hb
        have HF := Lib.hid (ascB_false (Q := dat L) (fun h => by have := h k (by rw [dat_length]; exact hk1); rw [HE.out, hb] at this; cases this))
        generalize cmpL rx sx = z at *
        obtain ⟨hz1, hz2⟩ := hz
        clear hb
        go_wp2_with fail
        go_big_quiet ((go_at_call 95; first | exact quiet_add_left (HC.out _ (below_drewN (Below.refl _ _) _)) | exact quiet_left (HC.out _ (below_drewN (Below.refl _ _) _))))
        go_wp2_with fail
        go_ret
        exact ⟨by rw [HF.out]; rfl, _, by rw [World.drewN_drewN]⟩
      · rw [cmpL_lt hb] at HC
        have HB := Lib.hid hb
        clear hb
        go_wp2_with fail
        go_big_quiet ((go_at_call 95; first | exact quiet_add_left (HC.out _ (below_drewN (Below.refl _ _) _)) | exact quiet_left (HC.out _ (below_drewN (Below.refl _ _) _))))
        go_wp2_with fail
        go_roundw
        case rel =>
          refine ⟨k + 1, _, by omega, by go_num, rfl, Lib.hid (fun t ht => ?_)⟩
          by_cases e : t = k
          · subst e; rw [HE.out]; exact HB.out
          · exact HQ.out t (by omega)
        case measure => simp [intOf]; omega
    · have hi1 : ¬ (k : Int) + 1 < (n : Int) := by omega
      have HT := Lib.hid (ascB_true (Q := dat L) (fun i hi => HQ.out i (by rw [dat_length, ← Hn.out] at hi; omega)))
      go_wp2_with fail
      go_ret
      exact ⟨by rw [HT.out]; rfl, j, rfl⟩
end Go.Proofs.Ytnffpjdlpjkioaa

namespace Go.Proofs.Ytnffpjdlpjkioaa

abbrev LL := List (List Int)
/-- strictly ascending -/
def As (Q : LL) : Prop := Q.Pairwise fun x y => lexLt x y = true
theorem lexLt_total : ∀ x y : List Int, lexLt x y = true ∨ lexLt y x = true ∨ x = y
  | [], [] => .inr (.inr rfl)
  | [], _ :: _ => .inl rfl
  | _ :: _, [] => .inr (.inl rfl)
  | a :: x, b :: y => by
    simp only [lexLt]
    by_cases e : a = b
    · subst e
      simp only [if_true]
      rcases lexLt_total x y with h | h | h
      · exact .inl h
      · exact .inr (.inl h)
      · exact .inr (.inr (by rw [h]))
    · rw [if_neg e, if_neg (Ne.symm e)]
      rcases Int.lt_trichotomy a b with h | h | h
      · exact .inl (by simpa using h)
      · exact absurd h e
      · exact .inr (.inl (by simpa using h))
theorem lexLt_ne {x y : List Int} (h : lexLt x y = true) : x ≠ y := fun e => by rw [e, lexLt_irrefl] at h; cases h
theorem lexLt_as {x y : List Int} (h : lexLt x y = true) : lexLt y x = false := by
  cases h2 : lexLt y x with
  | false => rfl
  | true => have := lexLt_trans h h2; rw [lexLt_irrefl] at this; cases this
theorem as_unique : ∀ {P Q : LL}, As P → As Q → (∀ x, x ∈ P ↔ x ∈ Q) → P = Q
  | [], [], _, _, _ => rfl
  | [], y :: Q, _, _, h => by have := (h y).2 (List.mem_cons_self ..); cases this
  | x :: P, [], _, _, h => by have := (h x).1 (List.mem_cons_self ..); cases this
  | x :: P, y :: Q, hP, hQ, h => by
    obtain ⟨hx, hP'⟩ := List.pairwise_cons.1 hP
    obtain ⟨hy, hQ'⟩ := List.pairwise_cons.1 hQ
    have e : x = y := by
      rcases List.mem_cons.1 ((h x).1 (List.mem_cons_self ..)) with e | h1
      · exact e
      · rcases List.mem_cons.1 ((h y).2 (List.mem_cons_self ..)) with e | h2
        · exact e.symm
        · have h3 := lexLt_trans (hx _ h2) (hy _ h1)
          rw [lexLt_irrefl] at h3; cases h3
    subst e
    congr 1
    refine as_unique hP' hQ' fun z => ⟨fun hz => ?_, fun hz => ?_⟩
    · rcases List.mem_cons.1 ((h z).1 (List.mem_cons_of_mem _ hz)) with e | h1
      · exact absurd e.symm (lexLt_ne (hx z hz))
      · exact h1
    · rcases List.mem_cons.1 ((h z).2 (List.mem_cons_of_mem _ hz)) with e | h1
      · exact absurd e.symm (lexLt_ne (hy z hz))
      · exact h1
/-- a list put in, or taken out if it was there -/
def putR : LL → List Int → LL
  | [], x => [x]
  | y :: Q, x => if lexLt y x = true then y :: putR Q x else if y = x then Q else x :: y :: Q
theorem mem_putR_sub : ∀ (Q : LL) (x z : List Int), z ∈ putR Q x → z ∈ Q ∨ z = x
  | [], x, z, h => .inr (by simpa [putR] using h)
  | y :: Q, x, z, h => by
    unfold putR at h
    split at h
    · rcases List.mem_cons.1 h with e | h
      · exact .inl (by rw [e]; exact List.mem_cons_self ..)
      · rcases mem_putR_sub Q x z h with h | h
        · exact .inl (List.mem_cons_of_mem _ h)
        · exact .inr h
    · split at h
      · exact .inl (List.mem_cons_of_mem _ h)
      · rcases List.mem_cons.1 h with e | h
        · exact .inr e
        · exact .inl h
theorem as_putR : ∀ {Q : LL} (x : List Int), As Q → As (putR Q x)
  | [], x, _ => by simp [putR, As]
  | y :: Q, x, h => by
    obtain ⟨hy, h'⟩ := List.pairwise_cons.1 h
    unfold putR
    split
    · rename_i hl
      refine List.pairwise_cons.2 ⟨fun z hz => ?_, as_putR x h'⟩
      rcases mem_putR_sub Q x z hz with h1 | h1
      · exact hy z h1
      · rw [h1]; exact hl
    · rename_i hl
      split
      · exact h'
      · rename_i hne
        have hxy : lexLt x y = true := by
          rcases lexLt_total x y with h1 | h1 | h1
          · exact h1
          · exact absurd h1 hl
          · exact absurd h1.symm hne
        refine List.pairwise_cons.2 ⟨fun z hz => ?_, h⟩
        rcases List.mem_cons.1 hz with e | hz
        · rw [e]; exact hxy
        · exact lexLt_trans hxy (hy z hz)
theorem mem_putR : ∀ {Q : LL} (x z : List Int), As Q → (z ∈ putR Q x ↔ ((z ∈ Q ∧ z ≠ x) ∨ (z = x ∧ x ∉ Q)))
  | [], x, z, _ => by simp [putR]
  | y :: Q, x, z, h => by
    obtain ⟨hy, h'⟩ := List.pairwise_cons.1 h
    unfold putR
    split
    · rename_i hl
      have hne : y ≠ x := lexLt_ne hl
      rw [List.mem_cons, mem_putR x z h', List.mem_cons, List.mem_cons]
      constructor
      · rintro (e | ⟨h1, h2⟩ | ⟨h1, h2⟩)
        · exact .inl ⟨.inl e, by rw [e]; exact hne⟩
        · exact .inl ⟨.inr h1, h2⟩
        · exact .inr ⟨h1, fun h3 => by rcases h3 with e | h3; exact hne e.symm; exact h2 h3⟩
      · rintro (⟨e | h1, h2⟩ | ⟨h1, h2⟩)
        · exact .inl e
        · exact .inr (.inl ⟨h1, h2⟩)
        · exact .inr (.inr ⟨h1, fun h3 => h2 (.inr h3)⟩)
    · rename_i hl
      split
      · rename_i e
        subst e
        have hn : y ∉ Q := fun hm => by have := hy y hm; rw [lexLt_irrefl] at this; cases this
        constructor
        · intro hz; exact .inl ⟨List.mem_cons_of_mem _ hz, fun e => hn (e ▸ hz)⟩
        · rintro (⟨h1, h2⟩ | ⟨_, h2⟩)
          · rcases List.mem_cons.1 h1 with e | h1
            · exact absurd e h2
            · exact h1
          · exact absurd (List.mem_cons_self ..) h2
      · rename_i hne
        have hxy : lexLt x y = true := by
          rcases lexLt_total x y with h1 | h1 | h1
          · exact h1
          · exact absurd h1 hl
          · exact absurd h1.symm hne
        have hn : x ∉ y :: Q := fun hm => by
          rcases List.mem_cons.1 hm with e | hm
          · exact hne e.symm
          · have := lexLt_trans hxy (hy x hm); rw [lexLt_irrefl] at this; cases this
        rw [List.mem_cons]
        constructor
        · rintro (e | h1)
          · exact .inr ⟨e, hn⟩
          · exact .inl ⟨h1, fun e => hn (e ▸ h1)⟩
        · rintro (⟨h1, _⟩ | ⟨h1, _⟩)
          · exact .inr h1
          · exact .inl h1
/-- the list of those that are there an odd number of times, in order -/
def nf (L : LL) : LL := L.foldl putR []
theorem nf_snoc (L : LL) (x : List Int) : nf (L ++ [x]) = putR (nf L) x := by simp [nf, List.foldl_append]
theorem as_nil : As [] := List.Pairwise.nil
theorem foldl_as (L : LL) : ∀ {Q : LL}, As Q → As (L.foldl putR Q) := by
  induction L with
  | nil => intro Q h; exact h
  | cons x L ih => intro Q h; exact ih (as_putR x h)
theorem as_nf (L : LL) : As (nf L) := foldl_as L as_nil
theorem mem_foldl (L : LL) : ∀ {Q : LL} (z : List Int), As Q → (z ∈ L.foldl putR Q ↔ (L.count z + (if z ∈ Q then 1 else 0)) % 2 = 1) := by
  induction L with
  | nil =>
    intro Q z _
    by_cases h : z ∈ Q <;> simp [h]
  | cons x L ih =>
    intro Q z h
    rw [List.foldl_cons, ih z (as_putR x h)]
    have hm := mem_putR x z h
    rw [List.count_cons]
    by_cases e : z = x
    · subst e
      by_cases hz : z ∈ Q
      · have h1 : z ∉ putR Q z := by rw [hm]; simp [hz]
        rw [if_neg h1, if_pos hz]; simp; omega
      · have h1 : z ∈ putR Q z := by rw [hm]; simp [hz]
        rw [if_pos h1, if_neg hz]; simp
    · have hb : (x == z) = false := by simp; exact fun e2 => e e2.symm
      rw [hb]
      by_cases hz : z ∈ Q
      · have h1 : z ∈ putR Q x := by rw [hm]; simp [hz, e]
        rw [if_pos h1, if_pos hz]; simp
      · have h1 : z ∉ putR Q x := by rw [hm]; simp [hz, e]
        rw [if_neg h1, if_neg hz]; simp
theorem mem_nf {L : LL} {z : List Int} : z ∈ nf L ↔ L.count z % 2 = 1 := by
  have := mem_foldl L (Q := []) z as_nil
  simpa [nf] using this
theorem count_as {Q : LL} (h : As Q) (z : List Int) : Q.count z = if z ∈ Q then 1 else 0 := by
  have hn : Q.Nodup := h.imp lexLt_ne
  by_cases hz : z ∈ Q
  · rw [if_pos hz]; rw [hn.count, if_pos hz]
  · rw [if_neg hz]; exact List.count_eq_zero.2 hz
theorem nf_of_as {Q : LL} (h : As Q) : nf Q = Q := as_unique (as_nf Q) h fun z => by
  rw [mem_nf, count_as h]; by_cases hz : z ∈ Q <;> simp [hz]
theorem nf_congr {L M : LL} (h : ∀ z, L.count z % 2 = M.count z % 2) : nf L = nf M := as_unique (as_nf L) (as_nf M) fun z => by rw [mem_nf, mem_nf, h z]
theorem nf_perm {L M : LL} (h : L.Perm M) : nf L = nf M := nf_congr fun z => by rw [h.count_eq]
theorem nf_app (L M : LL) : nf (nf L ++ nf M) = nf (L ++ M) := nf_congr fun z => by
  rw [List.count_append, List.count_append, count_as (as_nf L), count_as (as_nf M)]
  have h1 := mem_nf (L := L) (z := z)
  have h2 := mem_nf (L := M) (z := z)
  by_cases a : z ∈ nf L <;> by_cases b : z ∈ nf M <;> simp only [a, b, if_true, if_false, true_iff, false_iff] at h1 h2 ⊢ <;> omega
theorem nf_app_l (L M : LL) : nf (nf L ++ M) = nf (L ++ M) := nf_congr fun z => by
  rw [List.count_append, List.count_append, count_as (as_nf L)]
  have h1 := mem_nf (L := L) (z := z)
  by_cases a : z ∈ nf L <;> simp only [a, if_true, if_false, true_iff, false_iff] at h1 ⊢ <;> omega
theorem nf_app_r (L M : LL) : nf (L ++ nf M) = nf (L ++ M) := nf_congr fun z => by
  rw [List.count_append, List.count_append, count_as (as_nf M)]
  have h1 := mem_nf (L := M) (z := z)
  by_cases a : z ∈ nf M <;> simp only [a, if_true, if_false, true_iff, false_iff] at h1 ⊢ <;> omega
theorem sumR_as : ∀ (P Q : LL), As P → As Q → As (sumR P Q) ∧ ∀ z, z ∈ sumR P Q ↔ ((z ∈ P ∧ z ∉ Q) ∨ (z ∉ P ∧ z ∈ Q)) := by
  intro P Q
  fun_induction sumR P Q with
  | case1 b => intro _ h; exact ⟨h, fun z => by simp⟩
  | case2 x a => intro h _; exact ⟨h, fun z => by simp⟩
  | case3 x a y b hl ih =>
    intro hP hQ
    obtain ⟨hx, hP'⟩ := List.pairwise_cons.1 hP
    obtain ⟨hy, hQ'⟩ := List.pairwise_cons.1 hQ
    obtain ⟨i1, i2⟩ := ih hP' hQ
    have hlt : ∀ z ∈ y :: b, lexLt x z = true := fun z hz => by
      rcases List.mem_cons.1 hz with e | hz
      · rw [e]; exact hl
      · exact lexLt_trans hl (hy z hz)
    have hn : x ∉ y :: b := fun hm => lexLt_ne (hlt x hm) rfl
    have hxa : x ∉ a := fun hm => lexLt_ne (hx x hm) rfl
    refine ⟨List.pairwise_cons.2 ⟨fun z hz => ?_, i1⟩, fun z => ?_⟩
    · rcases (i2 z).1 hz with ⟨h1, _⟩ | ⟨_, h1⟩
      · exact hx z h1
      · exact hlt z h1
    · rw [List.mem_cons, i2 z, List.mem_cons (a := z) (b := x)]
      by_cases e : z = x
      · subst e; simp only [hn, hxa, true_or, not_false_eq_true, and_true, not_true, false_and, or_false, and_self]
      · simp only [e, false_or]
  | case4 x a y b hl hl2 ih =>
    intro hP hQ
    obtain ⟨hx, hP'⟩ := List.pairwise_cons.1 hP
    obtain ⟨hy, hQ'⟩ := List.pairwise_cons.1 hQ
    obtain ⟨i1, i2⟩ := ih hP hQ'
    have hlt : ∀ z ∈ x :: a, lexLt y z = true := fun z hz => by
      rcases List.mem_cons.1 hz with e | hz
      · rw [e]; exact hl2
      · exact lexLt_trans hl2 (hx z hz)
    have hn : y ∉ x :: a := fun hm => lexLt_ne (hlt y hm) rfl
    have hyb : y ∉ b := fun hm => lexLt_ne (hy y hm) rfl
    refine ⟨List.pairwise_cons.2 ⟨fun z hz => ?_, i1⟩, fun z => ?_⟩
    · rcases (i2 z).1 hz with ⟨h1, _⟩ | ⟨_, h1⟩
      · exact hlt z h1
      · exact hy z h1
    · rw [List.mem_cons, i2 z, List.mem_cons (a := z) (b := y)]
      by_cases e : z = y
      · subst e; simp only [hn, hyb, true_or, not_false_eq_true, and_true, not_true, false_and, false_or, or_true, and_self, and_false]
      · simp only [e, false_or]
  | case5 x a y b hl hl2 ih =>
    intro hP hQ
    obtain ⟨hx, hP'⟩ := List.pairwise_cons.1 hP
    obtain ⟨hy, hQ'⟩ := List.pairwise_cons.1 hQ
    have e : x = y := by
      rcases lexLt_total x y with h | h | h
      · exact absurd h hl
      · exact absurd h hl2
      · exact h
    subst e
    obtain ⟨i1, i2⟩ := ih hP' hQ'
    have hxa : x ∉ a := fun hm => lexLt_ne (hx x hm) rfl
    have hxb : x ∉ b := fun hm => lexLt_ne (hy x hm) rfl
    refine ⟨i1, fun z => ?_⟩
    rw [i2 z, List.mem_cons, List.mem_cons]
    by_cases e : z = x
    · subst e; simp [hxa, hxb]
    · simp only [e, false_or]
theorem as_sumR {P Q : LL} (hP : As P) (hQ : As Q) : As (sumR P Q) := (sumR_as P Q hP hQ).1
theorem sumR_nf {P Q : LL} (hP : As P) (hQ : As Q) : sumR P Q = nf (P ++ Q) := as_unique (as_sumR hP hQ) (as_nf _) fun z => by
  rw [(sumR_as P Q hP hQ).2 z, mem_nf, List.count_append, count_as hP, count_as hQ]
  by_cases a : z ∈ P <;> by_cases b : z ∈ Q <;> simp [a, b]
theorem nf_sum (L M : LL) : sumR (nf L) (nf M) = nf (L ++ M) := by rw [sumR_nf (as_nf L) (as_nf M), nf_app]
theorem nf_sub {L : LL} {z : List Int} (h : z ∈ nf L) : z ∈ L := by
  rw [mem_nf] at h
  exact List.count_pos_iff.1 (by omega)
theorem as_ascP {Q : LL} (h : As Q) : AscP Q := fun i hi => by
  have := List.pairwise_iff_getElem.1 h i (i + 1) (by omega) hi (by omega)
  simpa [List.getD, hi, (by omega : i < Q.length)] using this
theorem ascP_as {Q : LL} (h : AscP Q) : As Q := List.pairwise_iff_getElem.2 fun i j hi hj hij => by
  have := h.lt (j - i - 1) i (by omega)
  rw [show i + (j - i - 1) + 1 = j by omega] at this
  simpa [List.getD, hi, hj] using this
/-- a run of equal ones at the end of what is sorted -/
theorem nf_run {S : LL} {i k : Nat} {x : List Int} (hk : k ≤ S.length) (hik : i ≤ k) (hlo : ∀ y ∈ S.take i, lexLt y x = true) (hx : ∀ j, i ≤ j → j < k → S.getD j [] = x) :
    nf (S.take k) = if (k - i) % 2 = 1 then nf (S.take i) ++ [x] else nf (S.take i) := by
  have hrun : S.take k = S.take i ++ List.replicate (k - i) x := by
    apply List.ext_getElem
    · simp; omega
    · intro j h1 h2
      simp only [List.length_take] at h1
      rw [List.getElem_take]
      by_cases h : j < i
      · rw [List.getElem_append_left (by simp; omega), List.getElem_take]
      · rw [List.getElem_append_right (by simp; omega), List.getElem_replicate]
        have := hx j (by omega) (by omega)
        simpa [List.getD, (by omega : j < S.length)] using this
  have hnx : x ∉ nf (S.take i) := fun hm => lexLt_ne (hlo x (nf_sub hm)) rfl
  have hAs : As (nf (S.take i) ++ [x]) := by
    unfold As
    rw [List.pairwise_append]
    exact ⟨as_nf _, by simp, fun a ha b hb => by rw [List.mem_singleton.1 hb]; exact hlo a (nf_sub ha)⟩
  have hcx : (S.take i).count x = 0 := List.count_eq_zero.2 fun hm => lexLt_ne (hlo x hm) rfl
  split
  · rename_i ho
    refine as_unique (as_nf _) hAs fun z => ?_
    rw [mem_nf, hrun, List.count_append, List.count_replicate, List.mem_append, List.mem_singleton, mem_nf]
    by_cases e : z = x
    · subst e; simp [hcx]; omega
    · have : (x == z) = false := by simp; exact fun e2 => e e2.symm
      simp [this, e]
  · rename_i ho
    refine as_unique (as_nf _) (as_nf _) fun z => ?_
    rw [mem_nf, mem_nf, hrun, List.count_append, List.count_replicate]
    by_cases e : z = x
    · subst e; simp [hcx]; omega
    · have : (x == z) = false := by simp; exact fun e2 => e e2.symm
      simp [this]
end Go.Proofs.Ytnffpjdlpjkioaa

namespace Go.Proofs.Ytnffpjdlpjkioaa
open Go.RowKit

/-- a row that can be read in a world and lies apart from block g -/
def PR (w : World) (g : Nat) := { r : Row // Rd w r.A (iv r.xs) ∧ (∀ a, r.A = some a → r.xs ≠ [] → a.block ≠ g) ∧ r.xs.length ≤ 1099511627776 }
instance (w : World) (g : Nat) : Inhabited (PR w g) := ⟨⟨⟨none, 0, []⟩, Rd.nil _ _, fun a h _ => (by cases h), by simp⟩⟩
def encPR {w : World} {g : Nat} (x : PR w g) : Value := x.1.val
def cfPR {w : World} {g : Nat} (x y : PR w g) : Int := cmpL x.1.xs y.1.xs
theorem ltPR {w : World} {g : Nat} (x y : PR w g) : ltOf cfPR x y = lexLt x.1.xs y.1.xs := by
  unfold ltOf cfPR
  cases h : lexLt x.1.xs y.1.xs
  · have := (cmpL_ge h).1
    simpa using this
  · rw [cmpL_lt h]; rfl
theorem lexLt_ntrans {x y z : List Int} (h1 : lexLt x y = false) (h2 : lexLt y z = false) : lexLt x z = false := by
  cases h : lexLt x z with
  | false => rfl
  | true =>
    rcases lexLt_total x y with h3 | h3 | h3
    · rw [h1] at h3; cases h3
    · have := lexLt_trans h3 h; rw [h2] at this; cases this
    · subst h3; rw [h] at h2; cases h2
theorem swoPR (w : World) (g : Nat) : Sort.SWO (ltOf (cfPR (w := w) (g := g))) where
  irrefl x := by rw [ltPR]; exact lexLt_irrefl _
  trans x y z h1 h2 := by rw [ltPR] at *; exact lexLt_trans h1 h2
  ntrans x y z h1 h2 := by rw [ltPR] at *; exact lexLt_ntrans h1 h2
def prs {w : World} {g : Nat} : (L : List Row) → (∀ r ∈ L, Rd w r.A (iv r.xs) ∧ (∀ a, r.A = some a → r.xs ≠ [] → a.block ≠ g) ∧ r.xs.length ≤ 1099511627776) → List (PR w g)
  | [], _ => []
  | r :: L, h => ⟨r, h r (List.mem_cons_self ..)⟩ :: prs L (fun s hs => h s (List.mem_cons_of_mem _ hs))
theorem prs_val {w : World} {g : Nat} : ∀ (L : List Row) (h : ∀ r ∈ L, Rd w r.A (iv r.xs) ∧ (∀ a, r.A = some a → r.xs ≠ [] → a.block ≠ g) ∧ r.xs.length ≤ 1099511627776), (prs L h).map (·.1) = L
  | [], _ => rfl
  | r :: L, _ => congrArg (r :: ·) (prs_val L _)
theorem encPR_map {w : World} {g : Nat} (D : List (PR w g)) : D.map encPR = hv (D.map (·.1)) := by simp [hv, encPR, List.map_map, Function.comp_def]
theorem keeps_sort {α : Type} [Inhabited α] (enc : α → Value) (w : World) (g off q : Nat) (d : Array α) (os : Array Obj) : Keeps w (sortWorld enc w g off q d os) [some g] := by
  refine ⟨rfl, rfl, rfl, ?_, ?_⟩
  · show w.heap.size ≤ ((w.heap.modify g (Sort.onCells (Sort.putCells enc off d))) ++ os).size
    simp
  · intro k hk hn
    show ((w.heap.modify g (Sort.onCells (Sort.putCells enc off d))) ++ os)[k]? = _
    rw [Array.getElem?_append_left (by simpa using hk), Array.getElem?_modify, if_neg (fun e => hn (by simp [e]))]
theorem sort_ownG {α : Type} [Inhabited α] (enc : α → Value) {w : World} {B n cap g q : Nat} {e : TypeId} {xs : List Value} {os : Array Obj} (h : w.ownsRow B e 1 (.slice (some ⟨g, 0, none⟩) n cap) n xs) (d : Array α) (hd : d.size = n) :
    (sortWorld enc w g 0 q d os).ownsRow B e 1 (.slice (some ⟨g, 0, none⟩) n cap) n (d.toList.map enc) := by
  rcases h.2 with ⟨h0, _⟩ | ⟨g', cap', cur, hv, hb, hg, hc, hm, hs, ht⟩
  · cases h0
  · injection hv with hA _ hcap
    injection hA with hA; injection hA with hA
    subst hA; subst hcap
    have hlt := (Array.getElem?_eq_some_iff.1 hg).1
    have hmod : ∀ k, k < w.heap.size → (sortWorld enc w g 0 q d os).heap[k]? = (w.heap.modify g (Sort.onCells (Sort.putCells enc 0 d)))[k]? := by
      intro k hk
      show ((w.heap.modify g (Sort.onCells (Sort.putCells enc 0 d))) ++ os)[k]? = _
      rw [Array.getElem?_append_left (by simpa using hk)]
    refine ⟨by simp [hd], .inr ⟨g, cap, Sort.putCells enc 0 d cur, rfl, hb, ?_, hc, hm, by simpa [Sort.putCells] using hs, ?_⟩⟩
    · rw [hmod g hlt, Array.getElem?_modify, if_pos rfl, hg]; rfl
    · apply List.ext_getElem?
      intro i
      rw [List.getElem?_take]
      by_cases hi : i < n * 1
      · rw [if_pos hi]
        have hi' : i < d.size := by omega
        have hic : i < cur.size := by omega
        simp only [Sort.putCells, Array.getElem?_toList, Array.getElem?_mapIdx, List.getElem?_map]
        rw [Array.getElem?_eq_getElem hic, Array.getElem?_eq_getElem hi']
        simp only [Option.map_some, Nat.zero_le, true_and, Nat.zero_add, Nat.sub_zero, if_pos hi']
        rw [getElem!_pos d i hi']
      · rw [if_neg hi, List.getElem?_eq_none (by simp; omega)]
theorem Rd.keepsS {w w' : World} {A : Option Addr} {xs : List Int} {g : Nat} (h : Rd w A (iv xs)) (hk : Keeps w w' [some g]) (hn : ∀ a, A = some a → xs ≠ [] → a.block ≠ g) : Rd w' A (iv xs) := by
  by_cases e : xs = []
  · subst e; exact Rd.nil _ _
  · exact h.keeps hk (fun a ha => by simpa using hn a ha e)
theorem Rd.blk_lt {w : World} {A : Option Addr} {xs : List Int} (h : Rd w A (iv xs)) : ∀ a, A = some a → xs ≠ [] → a.block < w.heap.size := by
  intro a ha hne
  obtain ⟨b, o, e, hc⟩ := h.atI (k := 0) (by cases xs with | nil => exact absurd rfl hne | cons x t => simp)
  rw [ha] at e
  injection e with e
  subst e
  exact World.block_lt_of_cell? w _ hc
/-- the rows of L in order, none greater than a later one -/
def Srt (S : List Row) : Prop := S.Pairwise fun x y => lexLt y.xs x.xs = false

set_option maxHeartbeats 1000000 in
theorem sortRows_any (B g cap : Nat) (L : List Row) (w : World) (ho : w.ownsRow B 30 1 (.slice (some ⟨g, 0, none⟩) L.length cap) L.length (hv L)) (hin : ∀ r ∈ L, Rd w r.A (iv r.xs) ∧ (∀ a, r.A = some a → r.xs ≠ [] → a.block ≠ g) ∧ r.xs.length ≤ 1099511627776) (h62 : L.length ≤ 1099511627776) :
    Calls Try.prog 94 #[.slice (some ⟨g, 0, none⟩) L.length cap, .func (.func 95) #[] #[]] w fun e w' => e = .returned (.tuple #[]) ∧ ∃ S, S.Perm L ∧ Srt S ∧ w'.ownsRow B 30 1 (.slice (some ⟨g, 0, none⟩) L.length cap) L.length (hv S) ∧ Keeps w w' [some g] := by
  by_cases h0 : L.length = 0
  · have hS := AnyF.slices_SortFunc_none (P := Try.prog) (ρ := Try.sortR_ren) { Try.sortR with } (some ⟨g, 0, none⟩) cap (.func (.func 95) #[] #[]) w
    have hL : L = [] := List.eq_nil_of_length_eq_zero h0
    subst hL
    change Calls Try.prog 94 _ _ _ at hS
    refine hS.mono ?_
    rintro e w' ⟨rfl, rfl⟩
    exact ⟨rfl, [], .refl _, List.Pairwise.nil, ho, Keeps.refl _ _⟩
  · have hlen : (prs L hin).length = L.length := by have := congrArg List.length (prs_val L hin); simpa using this
    have hgw : g < w.heap.size := (ho.lt g rfl).2
    have hH : Sort.Holds encPR w g 0 (prs L hin).toArray := by
      intro j hj
      have hj' : j < L.length := by rw [← hlen]; simpa using hj
      refine ⟨?_, by rw [Nat.zero_add]; exact ho.frozenAt j⟩
      have h1 := ho.cells rfl j (encPR (prs L hin)[j]!) (by
        have e : hv L = (prs L hin).map encPR := by rw [encPR_map, prs_val]
        rw [e, List.getElem?_map, List.getElem?_eq_getElem (by omega)]
        rw [getElem!_pos (prs L hin) j (by omega)]; rfl)
      rw [Addr.add_lit] at h1
      rw [h1]
      congr 1
      rw [getElem!_pos _ j (by omega), getElem!_pos _ j hj]
      simp
    have hsz : (prs L hin).toArray.size = L.length := by simpa using hlen
    have eg : ∀ args w, (callFunc 95 args).run Try.prog w = .ok (.enter 95 args) w := enters_of Try.func95 (by kernel_rfl) rfl
    have hcr : CmpReads Try.prog 95 #[] encPR cfPR g 0 (prs L hin).toArray.size w := fun m os dk _ x y =>
      (slCompare_any x.1.A y.1.A x.1.xs.length y.1.xs.length x.1.c y.1.c x.1.xs y.1.xs _ rfl rfl x.2.2.2 y.2.2.2 (x.2.1.keepsS (keeps_sort _ _ _ _ _ _ _) x.2.2.1) (y.2.1.keepsS (keeps_sort _ _ _ _ _ _ _) y.2.2.1)).mono fun _ _ ⟨he, hw⟩ => ⟨he, 0, by rw [← hw]; rfl⟩
    have hS := Any.slices_SortFunc Try.sortR encPR (fun _ => rfl) cfPR (swoPR w g) 95 #[] g 0 cap (prs L hin).toArray w eg hcr.lays hH hgw (by rw [hsz]; omega)
    rw [hsz] at hS
    change Calls Try.prog 94 _ _ _ at hS
    refine hS.mono ?_
    rintro e w' ⟨rfl, d', q, os, hpm, hst, rfl⟩
    rw [← hsz] at hpm hst
    obtain ⟨hs1, _, hp⟩ := hpm
    have e1 : (d'.extract 0 (prs L hin).toArray.size).toList = d'.toList := by rw [← hs1]; simp
    have e2 : ((prs L hin).toArray.extract 0 (prs L hin).toArray.size).toList = prs L hin := by simp
    rw [e1, e2] at hp
    refine ⟨rfl, d'.toList.map (·.1), ?_, ?_, ?_, keeps_sort _ _ _ _ _ _ _⟩
    · have := hp.map (·.1)
      rwa [prs_val] at this
    · unfold Srt
      rw [List.pairwise_map, List.pairwise_iff_getElem]
      intro i j hi hj hij
      have hlt := hst i j (Nat.zero_le _) hij (by rw [← hs1]; simpa using hj)
      rw [ltPR] at hlt
      simp only [Array.length_toList] at hi hj
      rw [getElem!_pos d' j hj, getElem!_pos d' i hi] at hlt
      simpa using hlt
    · rw [← encPR_map]
      exact sort_ownG encPR ho d' (by rw [hs1, hsz])
end Go.Proofs.Ytnffpjdlpjkioaa

namespace Go.Proofs.Ytnffpjdlpjkioaa
open Go.RowKit Go.Maps Go.ChangeMaps Go.MapKept

/-- six digits of a number -/
def dig (a n : Nat) : Nat := a / 2 ^ n % 64
/-- the exponents of a code -/
def decN (k n : Nat) : List Int := (List.range k).map fun i => ((dig n (6 * i) : Nat) : Int)
theorem decN_length (k n : Nat) : (decN k n).length = k := by simp [decN]
theorem decN_take {k n i : Nat} (h : i < k) : (decN k n).take (i + 1) = (decN k n).take i ++ [((dig n (6 * i) : Nat) : Int)] := by
  rw [List.take_succ_eq_append_getElem (by rw [decN_length]; exact h)]
  simp [decN]
def decI (k : Nat) (c : Int) : List Int := decN k c.toNat
theorem i64_and63 {a n : Nat} (ha : Sm a) : bits .and .i64 ((a : Int) / 2 ^ n) 63 = ((dig a n : Nat) : Int) := by
  have e : (a : Int) / 2 ^ n = ((a / 2 ^ n : Nat) : Int) := by simp
  have hd : Sm (a / 2 ^ n) := Nat.lt_of_le_of_lt (Nat.div_le_self _ _) ha
  have h := i64_and_nat hd (b := 63) (by unfold Sm; omega)
  rw [e]
  have h2 : an (a / 2 ^ n) 63 = a / 2 ^ n % 64 := Nat.and_two_pow_sub_one_eq_mod (a / 2 ^ n) 6
  rw [h2] at h
  exact h
theorem RangeC.apart {w : World} {b r B n : Nat} {C rs : List Int} {e : TypeId} {v : Value} {xs : List Value} (h : RangeC w b r C rs) (ho : w.ownsRow B e 1 v n xs) : some b ∉ [v.ownBlock] ∧ some r ∉ [v.ownBlock] := by
  obtain ⟨D, left, cnt, ⟨es, clock, since, seen, c0, hb, _, _, _, hr, _⟩, _⟩ := h
  rcases ho.2 with ⟨rfl, _⟩ | ⟨g, cap, cur, rfl, _, hg, _⟩
  · simp [Value.ownBlock]
  · constructor
    · intro hm
      have : b = g := by simpa [Value.ownBlock] using hm
      subst this; rw [hb] at hg; cases hg
    · intro hm
      have : r = g := by simpa [Value.ownBlock] using hm
      subst this; rw [hr] at hg; cases hg
theorem below_appP {H : Nat} {w wr w1 : World} {v : Value} {n : Nat} {xs : List Value} {e : TypeId} (hb : Below H w wr) (hH : H ≤ wr.heap.size) (hown : wr.ownsRow H e 1 v n xs) {o : Obj} (hg : (wr.alloc o).grownBy w1 v.ownBlock) : Below H w w1 :=
  (hb.alloc hH o).grown hg (by simp; omega) (fun k hk => (hown.lt k hk).1)
theorem OwnR.sortable {w : World} {B g n c : Nat} {L : List Row} (h : OwnR w B (.slice (some ⟨g, 0, none⟩) n c) L) (hl : ∀ r ∈ L, r.xs.length ≤ 1099511627776) :
    ∀ r ∈ L, Rd w r.A (iv r.xs) ∧ (∀ a, r.A = some a → r.xs ≠ [] → a.block ≠ g) ∧ r.xs.length ≤ 1099511627776 := by
  intro r hr
  obtain ⟨i, hi, e⟩ := List.mem_iff_getElem.1 hr
  have e2 : rg L i = r := by simp [rg, List.getD, hi, e]
  have h1 := h.inn i hi
  have h2 := h.io hi
  rw [e2] at h1 h2
  refine ⟨owns_Rd h1, fun a ha _ => ?_, hl r hr⟩
  unfold Row.val at h2
  rw [ha] at h2
  simpa [Value.ownBlock] using h2
theorem OwnR.perm {w w' : World} {B g c c' : Nat} {L S : List Row} (h : OwnR w B (.slice (some ⟨g, 0, none⟩) L.length c) L) (hp : S.Perm L) (hk : Keeps w w' [some g]) (ho : w'.ownsRow B 30 1 (.slice (some ⟨g, 0, none⟩) L.length c') L.length (hv S)) :
    OwnR w' B (.slice (some ⟨g, 0, none⟩) L.length c') S := by
  have hl := hp.length_eq
  have hmem : ∀ r ∈ L, w'.ownsRow B 2 1 r.val r.xs.length (iv r.xs) := fun r hr => by
    obtain ⟨i, hi, e⟩ := List.mem_iff_getElem.1 hr
    have e2 : rg L i = r := by simp [rg, List.getD, hi, e]
    have h1 := h.inn i hi
    have h2 := h.io hi
    rw [e2] at h1 h2
    exact owns_keeps h1 hk (h2.imp id fun hne hm => hne (by simpa [Value.ownBlock] using hm))
  have hpw : L.Pairwise fun x y => x.val.ownBlock = none ∨ y.val.ownBlock = none ∨ x.val.ownBlock ≠ y.val.ownBlock := by
    rw [List.pairwise_iff_getElem]
    intro i j hi hj hij
    have := h.dis i j hi hj (by omega)
    have e1 : rg L i = L[i] := by simp [rg, List.getD, hi]
    have e2 : rg L j = L[j] := by simp [rg, List.getD, hj]
    rw [e1, e2] at this
    exact this.imp id .inr
  have hpw2 := (hp.pairwise_iff (fun {x y} hxy => by
    rcases hxy with h | h | h
    · exact .inr (.inl h)
    · exact .inl h
    · exact .inr (.inr (Ne.symm h)))).2 hpw
  refine ⟨by rw [hl]; exact ho, fun i hi => ?_, fun i j hi hj hij => ?_⟩
  · have e : rg S i = S[i] := by simp [rg, List.getD, hi]
    rw [e]
    exact hmem _ (hp.mem_iff.1 (List.getElem_mem hi))
  · have e1 : rg S i = S[i] := by simp [rg, List.getD, hi]
    have e2 : rg S j = S[j] := by simp [rg, List.getD, hj]
    rw [e1, e2]
    rw [List.pairwise_iff_getElem] at hpw2
    rcases Nat.lt_or_ge i j with hlt | hge
    · rcases hpw2 i j hi hj hlt with h | h | h
      · exact .inl h
      · by_cases e : S[i].val.ownBlock = none
        · exact .inl e
        · exact .inr fun e' => e (e'.trans h)
      · exact .inr h
    · rcases hpw2 j i hj hi (by omega) with h | h | h
      · by_cases e : S[i].val.ownBlock = none
        · exact .inl e
        · exact .inr fun e' => e (e'.trans h)
      · exact .inl h
      · exact .inr (Ne.symm h)
end Go.Proofs.Ytnffpjdlpjkioaa
