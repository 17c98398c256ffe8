/- masks as lists of digits (no program in sight) · append of a slice that reads as a list, nil let in; copies of slices of ints · counts of partitions up to 14, on both sides · the reference's vectors: l11Unit, l11Act, l11Plus, l01Same, l11Word, l11Words · the reference's vectors: l11Plus, l01Same -/
import Derived.Test.YtocllmhkppkfoaaGreatDoorZae
import Derived.Test.YtocllmhkppkfoaaGreatDoorZaa
import Derived.Maps.AppendAt
import Derived.Deep.AppendLies
import Derived.Test.YtocllmhkppkfoaaGreatDoorZac
import Derived.Deep.OwnRows
import Derived.Test.YtocllmhkppkfoaaGreatDoorZad
import Derived.StillTailTactics
namespace Go.Proofs.YtocllmhkppkfoaaGreatDoor

def bit (v i : Nat) : Int := if tb v i = true then 1 else 0
theorem bit_bd (v i : Nat) : 0 ≤ bit v i ∧ bit v i ≤ 1 := by unfold bit; split <;> omega
theorem bit_one {v i : Nat} (h : tb v i = true) : bit v i = 1 := by unfold bit; rw [if_pos h]
theorem bit_none {v i : Nat} (h : tb v i = false) : bit v i = 0 := by unfold bit; rw [if_neg (by rw [h]; simp)]
theorem bit_iff (v i : Nat) : bit v i = 1 ↔ tb v i = true := by unfold bit; split <;> simp_all
theorem bit_xr (v w i : Nat) : bit (xr v w) i = (bit v i + bit w i) % 2 := by
  unfold bit; rw [tb_xr]; cases tb v i <;> cases tb w i <;> simp
def bitsL (v n : Nat) : List Int := (List.range n).map (bit v)
theorem bitsL_length (v n : Nat) : (bitsL v n).length = n := by simp [bitsL]
theorem bitsL_getD (v : Nat) {n i : Nat} (h : i < n) : (bitsL v n).getD i 0 = bit v i := by simp [bitsL, List.getD, h]
theorem list_ext_getD {x y : List Int} {n : Nat} (hx : x.length = n) (hy : y.length = n) (h : ∀ i, i < n → x.getD i 0 = y.getD i 0) : x = y := by
  apply List.ext_getElem (by omega)
  intro i h1 h2
  have := h i (by omega)
  simpa [List.getD, h1, h2] using this
theorem bitsL_inj {v w n : Nat} (hv : v < 2 ^ n) (hw : w < 2 ^ n) (h : bitsL v n = bitsL w n) : v = w := eq_of_tb fun m => by
  rcases Nat.lt_or_ge m n with hm | hm
  · have e : bit v m = bit w m := by rw [← bitsL_getD v hm, ← bitsL_getD w hm, h]
    cases h1 : tb v m <;> cases h2 : tb w m <;> simp [bit, h1, h2] at e <;> rfl
  · rw [tb_of_lt hv hm, tb_of_lt hw hm]
theorem bitsL_zero (n : Nat) : bitsL 0 n = List.replicate n 0 := list_ext_getD (bitsL_length _ _) (by simp) fun i hi => by
  rw [bitsL_getD _ hi, bit_none (tb_zero i)]; simp [List.getD, hi]
theorem set_getD (x : List Int) (c i : Nat) (y : Int) (hc : c < x.length) : (x.set c y).getD i 0 = if i = c then y else x.getD i 0 := by
  simp only [List.getD, List.getElem?_set]
  by_cases h : c = i
  · subst h; simp [hc]
  · simp [h, Ne.symm h]
theorem bitsL_flip (v : Nat) {n c : Nat} (h : c < n) : (bitsL v n).set c (1 - bit v c) = bitsL (xr v (2 ^ c)) n := list_ext_getD (by simp [bitsL_length]) (bitsL_length _ _) fun i hi => by
  rw [set_getD _ _ _ _ (by rw [bitsL_length]; exact h), bitsL_getD _ hi, bitsL_getD _ hi]
  unfold bit
  rw [tb_xr, tb_pow]
  by_cases e : i = c
  · subst e; simp; cases tb v i <;> simp
  · rw [if_neg e]; simp [show ¬ c = i from fun x => e x.symm]
theorem bitsL_unit {n k : Nat} (hk : k < n) : (List.replicate n (0 : Int)).set k 1 = bitsL (2 ^ k) n := by
  have := bitsL_flip 0 hk
  rw [bit_none (tb_zero k), zero_xr, bitsL_zero] at this
  simpa using this
theorem take_succ_getD {x : List Int} {k : Nat} (h : k < x.length) : x.take (k + 1) = x.take k ++ [x.getD k 0] := by
  rw [List.take_succ_eq_append_getElem h]; simp [List.getD, h]
theorem bitsL_take (v : Nat) {n k : Nat} (h : k < n) : (bitsL v n).take (k + 1) = (bitsL v n).take k ++ [bit v k] := by
  rw [take_succ_getD (by rw [bitsL_length]; exact h), bitsL_getD _ h]
end Go.Proofs.YtocllmhkppkfoaaGreatDoor

namespace Go.Proofs.YtocllmhkppkfoaaGreatDoor
open Go.RowKit

/-! ### append of a slice that reads as a list, nil let in, onto an own row -/
section
variable {P : Program} {w : World}
theorem append_nothing (t ty e : TypeId) (i : TypeInfo) (size : Nat) (ht : P.underlying t = some (.slice e)) (hi : P.info? e = some i) (base : Nat)
    (v : Value) (n : Nat) (xs : List Value) (hown : w.ownsRow base e size v n xs) (c : Nat) : (Builtin.append_ #[t, t] ty #[v, .slice none 0 c]).run P w = .ok v w := by
  rcases hown.2 with ⟨rfl, rfl⟩ | ⟨g, cap, cur, rfl, _, _, hnc, _⟩
  · simp [Builtin.append_, run_underlying ht, sizeOf, typeInfo, hi, Builtin.lenOf, Builtin.firstCells]
  · simp [Builtin.append_, run_underlying ht, sizeOf, typeInfo, hi, Builtin.lenOf, Builtin.firstCells, hnc, storeCells]
theorem wp_appR {o : Oper} {a : Act} {K : Act → World → Prop} {Q : Exit → Act → World → Prop} (s x : Operand) (t e : TypeId) (bytes : Nat) (E : ET P t e bytes)
    (ho : o.op = .call { callee := .builtin .append, args := #[s, x], argTypes := #[t, t] })
    (base : Nat) (v : Value) (n : Nat) (xs : List Value) (hs : a.eval s = v) (hown : w.ownsRow base e 1 v n xs)
    (A : Option Addr) (m c : Nat) (news : List Value) (hx : a.eval x = .slice A m c) (hm : m = news.length) (hr : Rd w A news) (h1 : ∀ u ∈ news, u.oneCell' = true)
    (hn : n + m < 1099511627776) (hbase : base ≤ w.heap.size)
    (h : ∀ v' w', w'.ownsRow base e 1 v' (n + m) (xs ++ news) → w.grownBy w' v.ownBlock → (v'.ownBlock = v.ownBlock ∨ v'.ownBlock = some w.heap.size) → K (a.put o.dst v') w') : Oper.wp P o a w K Q := by
  obtain ⟨i, z, hi, hz0, hz1, hz2, hz3⟩ := E.inf
  have hsm := E.small
  have key : ∃ v' w', (Builtin.append_ #[t, t] o.type #[v, .slice A m c]).run P w = .ok v' w' ∧ w'.ownsRow base e 1 v' (n + m) (xs ++ news) ∧ w.grownBy w' v.ownBlock ∧ (v'.ownBlock = v.ownBlock ∨ v'.ownBlock = some w.heap.size) := by
    rcases A with _ | ad
    · have h0 : news = [] := by
        rcases hr with h | ⟨b, o', h, _⟩
        · exact h
        · cases h
      subst h0
      have hm0 : m = 0 := by simpa using hm
      subst hm0
      exact ⟨v, w, append_nothing t o.type e i 1 E.und hi base v n xs hown c, by simpa using hown, World.grownBy.refl w _, .inl rfl⟩
    · have hcells : ∀ j u, news[j]? = some u → w.cell? (ad.add j) = some u := by
        intro j u hj
        rcases hr with h | ⟨b, o', h, hc⟩
        · subst h; simp at hj
        · injection h with h; subst h
          rw [Addr.add_lit]; exact hc j u hj
      obtain ⟨v', w', hrun, h2, h3, _, h5⟩ := run_append_own_at (P := P) w base t o.type e i z 1 bytes E.und hi hz0 hz1 hz2 hz3 (by omega) v n xs hown ad m c news (by omega) hcells h1 (by unfold maxLen; omega)
        (Nat.le_trans (Nat.mul_le_mul (show n + m ≤ 1099511627776 by omega) hsm) (by decide)) hbase
      exact ⟨v', w', hrun, h2, h3, h5⟩
  obtain ⟨v', w', hrun, h2, h3, h4⟩ := key
  unfold Oper.wp execOp
  simp only [ho, resolve, invoke, builtin, Sem.run_bind, Sem.run_pure, Result.andThen_ok, List.map_toArray, List.map_cons, List.map_nil, hs, hx, hrun]
  exact h v' w' h2 h3 h4
theorem wpList_appR {ops : Array Oper} {rest : List Oper} {o : Oper} {a : Act} {Q : Exit → Act → World → Prop} (s x : Operand) (t e : TypeId) (bytes : Nat) (E : ET P t e bytes) (hgd : o.guard = none)
    (ho : o.op = .call { callee := .builtin .append, args := #[s, x], argTypes := #[t, t] })
    (base : Nat) (v : Value) (n : Nat) (xs : List Value) (hs : a.eval s = v) (hown : w.ownsRow base e 1 v n xs)
    (A : Option Addr) (m c : Nat) (news : List Value) (hx : a.eval x = .slice A m c) (hm : m = news.length) (hr : Rd w A news) (h1 : ∀ u ∈ news, u.oneCell' = true)
    (hn : n + m < 1099511627776) (hbase : base ≤ w.heap.size)
    (h : ∀ v' w', w'.ownsRow base e 1 v' (n + m) (xs ++ news) → w.grownBy w' v.ownBlock → (v'.ownBlock = v.ownBlock ∨ v'.ownBlock = some w.heap.size) → wpList P ops Q rest (a.put o.dst v') w') : wpList P ops Q (o :: rest) a w :=
  wpList_plain hgd fun _ hK => wp_appR s x t e bytes E ho base v n xs hs hown A m c news hx hm hr h1 hn hbase fun v' w' h2 h3 h4 => hK _ _ (h v' w' h2 h3 h4)
/-- .. at a step of a region that draws its order -/
theorem step_appR {ops : Array Oper} {o : Oper} {a : Act} {K : Act → World → Prop} {Q : Exit → Act → World → Prop} {E' : Prop} (s x : Operand) (t e : TypeId) (bytes : Nat) (E : ET P t e bytes) (hgd : o.guard = none)
    (ho : o.op = .call { callee := .builtin .append, args := #[s, x], argTypes := #[t, t] })
    (base : Nat) (v : Value) (n : Nat) (xs : List Value) (hs : a.eval s = v) (hown : w.ownsRow base e 1 v n xs)
    (A : Option Addr) (m c : Nat) (news : List Value) (hx : a.eval x = .slice A m c) (hm : m = news.length) (hr : Rd w A news) (h1 : ∀ u ∈ news, u.oneCell' = true)
    (hn : n + m < 1099511627776) (hbase : base ≤ w.heap.size)
    (h : ∀ v' w', w'.ownsRow base e 1 v' (n + m) (xs ++ news) → w.grownBy w' v.ownBlock → (v'.ownBlock = v.ownBlock ∨ v'.ownBlock = some w.heap.size) → K (a.put o.dst v') w') :
    if Region.wanted o (yielded ops a.tmps) = true then Oper.wp P o a w K Q else E' := by
  rw [if_pos (by simp [Region.wanted, hgd])]
  exact wp_appR s x t e bytes E ho base v n xs hs hown A m c news hx hm hr h1 hn hbase h
end
theorem below_app2 {H : Nat} {w wr w1 : World} {v : Value} {n : Nat} {xs : List Value} {e : TypeId} (hb : Below H w wr) (hH : H ≤ wr.heap.size) (hown : wr.ownsRow H e 1 v n xs) {o : Obj} (hg : (wr.alloc o).grownBy w1 v.ownBlock) : Below H w w1 :=
  (hb.alloc hH o).grown hg (by simp; omega) (fun k hk => (hown.lt k hk).1)
theorem iv_append (xs ys : List Int) : iv (xs ++ ys) = iv xs ++ iv ys := by simp [iv]
theorem nv_one (S : List Nat) : ∀ u ∈ nv S, u.oneCell' = true := by
  intro u hu
  obtain ⟨x, _, rfl⟩ := List.mem_map.1 hu
  rfl
theorem iv_one (S : List Int) : ∀ u ∈ iv S, u.oneCell' = true := by
  intro u hu
  obtain ⟨x, _, rfl⟩ := List.mem_map.1 hu
  rfl

set_option maxHeartbeats 1000000 in
theorem copyOf_any (A : Option Addr) (n c : Nat) (vs : List Value) (w : World) (hn : n = vs.length) (hsm : n ≤ 1000000000) (h1 : ∀ u ∈ vs, u.oneCell' = true) (hR : Rd w A vs) :
    Calls Tryz.prog 36 #[.slice A n c] w fun e w' => ∃ g cap, e = .returned (.slice (some ⟨g, 0, none⟩) n cap) ∧ w'.ownsRow w.heap.size 2 1 (.slice (some ⟨g, 0, none⟩) n cap) n vs ∧ Below w.heap.size w w' := by
  have HR := Lib.hid hR
  have Hn := Lib.hid hn
  have H1 := Lib.hid h1
  clear hR hn h1
  go_enter Tryz.func36, Tryz.ntmps36
  go_wp2_with (at_builtin; refine wpList_appR _ _ _ _ _ etI (by rfl) (by rfl) w.heap.size (.slice (some ⟨w.heap.size, 0, none⟩) 0 0) 0 [] (by rfl) ?_ A n c vs (by rfl) Hn.out ?_ H1.out ?_ ?_ ?_; exact World.ownsRow_made w #[] 0 (Nat.le_refl _) (by decide) (by simp); exact HR.out.alloc _; omega; (simp); (intro v' w' hown hg hat; have HO := Lib.hid hown; have HG := Lib.hid hg; have HA := Lib.hid hat; clear hown hg hat))
  go_ret
  have ho := HO.out
  rw [Nat.zero_add, List.nil_append] at ho
  have hb : Below w.heap.size w w' := ((Below.refl _ _).alloc (Nat.le_refl _) _).grown HG.out (by simp) (fun k hk => by simp [Value.ownBlock] at hk; omega)
  rcases ho.2 with ⟨rfl, _⟩ | ⟨g, cap, cur, rfl, _⟩
  · rcases HA.out with h | h <;> simp [Value.ownBlock] at h
  · exact ⟨g, cap, rfl, ho, hb⟩

set_option maxHeartbeats 1000000 in
theorem l01Own_any (A : Option Addr) (n c : Nat) (vs : List Value) (w : World) (hn : n = vs.length) (hsm : n ≤ 1000000000) (h1 : ∀ u ∈ vs, u.oneCell' = true) (hR : Rd w A vs) :
    Calls Tryz.prog 67 #[.slice A n c] w fun e w' => ∃ g cap, e = .returned (.slice (some ⟨g, 0, none⟩) n cap) ∧ w'.ownsRow w.heap.size 2 1 (.slice (some ⟨g, 0, none⟩) n cap) n vs ∧ Below w.heap.size w w' := by
  have HR := Lib.hid hR
  have Hn := Lib.hid hn
  have H1 := Lib.hid h1
  clear hR hn h1
  go_enter Tryz.func67, Tryz.ntmps67
  go_wp2_with (at_builtin; refine wpList_appR _ _ _ _ _ etI (by rfl) (by rfl) w.heap.size (.slice (some ⟨w.heap.size, 0, none⟩) 0 0) 0 [] (by rfl) ?_ A n c vs (by rfl) Hn.out ?_ H1.out ?_ ?_ ?_; exact World.ownsRow_made w #[] 0 (Nat.le_refl _) (by decide) (by simp); exact HR.out.alloc _; omega; (simp); (intro v' w' hown hg hat; have HO := Lib.hid hown; have HG := Lib.hid hg; have HA := Lib.hid hat; clear hown hg hat))
  go_ret
  have ho := HO.out
  rw [Nat.zero_add, List.nil_append] at ho
  have hb : Below w.heap.size w w' := ((Below.refl _ _).alloc (Nat.le_refl _) _).grown HG.out (by simp) (fun k hk => by simp [Value.ownBlock] at hk; omega)
  rcases ho.2 with ⟨rfl, _⟩ | ⟨g, cap, cur, rfl, _⟩
  · rcases HA.out with h | h <;> simp [Value.ownBlock] at h
  · exact ⟨g, cap, rfl, ho, hb⟩

end Go.Proofs.YtocllmhkppkfoaaGreatDoor

namespace Go.Proofs.YtocllmhkppkfoaaGreatDoor
open Go.RowKit

def cntIn (x m : Nat) (ys : List Int) : List Int := ys.set m (wrap64 (ys.getD m 0 + ys.getD (m - x) 0))
def cntRow (x : Nat) : Nat → List Int → List Int
  | 0, ys => ys
  | j + 1, ys => cntIn x (x + j) (cntRow x j ys)
def cntW (s : Nat) : Nat := 2 ^ (s + 1) - 1
def cntAll : Nat → List Int
  | 0 => 1 :: List.replicate 14 0
  | s + 1 => cntRow (cntW s) (15 - cntW s) (cntAll s)
def cnt14 : List Int := cntAll 3
theorem cnt14_len : cnt14.length = 15 := by decide +kernel
theorem cnt14_bd : ∀ i, i < 15 → 0 ≤ cnt14.getD i 0 ∧ cnt14.getD i 0 ≤ 1000 := by decide +kernel
theorem cntW_lt : ∀ s, s < 3 → 1 ≤ cntW s ∧ cntW s ≤ 14 ∧ cntW (s + 1) = 2 * cntW s + 1 := by decide
theorem cntW_le : ∀ s, s < 3 → 2 * cntW s + 1 ≤ 15 := by decide
theorem made_own (w : World) (B n : Nat) (hB : B ≤ w.heap.size) (hn : n ≤ 1099511627776) : (w.alloc (.cells (madeCells #[.int .i64 0] n) 2)).ownsRow B 2 1 (.slice (some ⟨w.heap.size, 0, none⟩) n n) n (iv (List.replicate n 0)) := by
  refine ⟨by simp [iv], .inr ⟨w.heap.size, n, _, rfl, hB, blk_new w _, Nat.le_refl _, by unfold maxLen; omega, by simp [madeCells], ?_⟩⟩
  rw [← iv_replicate, List.take_of_length_le (by simp [madeCells])]
theorem made_own1 (w : World) : (w.alloc (.cells ((madeCells #[.int .i64 0] 15).setIfInBounds 0 (.int .i64 1)) 2)).ownsRow w.heap.size 2 1 (.slice (some ⟨w.heap.size, 0, none⟩) 15 15) 15 (iv (cntAll 0)) := by
  have h := (World.ownsRow.stored (made_own w w.heap.size 15 (Nat.le_refl _) (by omega)) 0 (.int .i64 1)).1
  rw [World.setCell_alloc_at _ _ _ _ _ rfl] at h
  exact h
end Go.Proofs.YtocllmhkppkfoaaGreatDoor

namespace Go.Proofs.YtocllmhkppkfoaaGreatDoor
open Go.RowKit

theorem act_take_succ (Q : List (List Int)) (z : Int) (v : Nat) {k : Nat} (hk : k < Q.length) : actE (Q.take (k + 1)) z v = xr (actE (Q.take k) z v) (hit z v (Q.getD k [])) := fold_take_succ _ _ _ _ _ hk
theorem dat_take (L : List Row) (k : Nat) : (dat L).take k = dat (L.take k) := by simp [dat, List.map_take]

set_option maxHeartbeats 1000000 in
theorem l11Unit_any (n k : Nat) (w : World) (hk : k < n) (hn : n ≤ 1000) :
    Calls Tryz.prog 63 #[.int .i64 n, .int .i64 k] w fun e w' => ∃ g cap, e = .returned (.slice (some ⟨g, 0, none⟩) n cap) ∧ w'.ownsRow w.heap.size 2 1 (.slice (some ⟨g, 0, none⟩) n cap) n (iv (bitsL (2 ^ k) n)) ∧ Below w.heap.size w w' := by
  have hmk := run_make_row' (P := Tryz.prog) 22 2 (.int .i64 0) 8 Tryz.underlying22 infoI rfl .i64 .i64 n (by omega) (by omega)
  have hO := made_own w w.heap.size n (Nat.le_refl _) (by omega)
  have hc := owns_getD hO (k := k) hk
  have hf := hO.frozenAt k
  have h3 := (World.ownsRow.stored hO k (.int .i64 1)).1
  rw [← iv_set, bitsL_unit hk] at h3
  have H3 := Lib.hid h3
  have HB : Hid (Below w.heap.size w ((w.alloc (.cells (madeCells #[.int .i64 0] n) 2)).setCell ⟨w.heap.size, k, none⟩ (.int .i64 1))) := Lib.hid (((Below.refl _ _).alloc (Nat.le_refl _) _).setCell (p := ⟨w.heap.size, k, none⟩) (Nat.le_refl _) _)
  clear hO h3
  go_enter Tryz.func63, Tryz.ntmps63
  go_wp2_with fail
  go_ret
  have h4 := H3.out
  have hb := HB.out
  rw [World.setCell_alloc_at _ _ _ _ _ rfl] at h4 hb
  exact ⟨w.heap.size, n, rfl, h4, hb⟩

set_option maxRecDepth 100000 in
set_option maxHeartbeats 2000000 in
theorem l11Act_any (A A' V : Option Addr) (n c m c' cv : Nat) (xs : List Int) (L : List Row) (z : Int) (v : Nat) (w : World) (hn : n = xs.length) (hm : m = L.length) (hs : Shp xs (dat L)) (hm1 : m ≤ 1048576) (hR : RdR w A' L) (hV : Rd w V (iv (bitsL v n))) :
    Calls Tryz.prog 44 #[.agg #[.slice A n c, .slice A' m c'], .int .i64 z, .slice V n cv] w fun e w' => ∃ g cap, e = .returned (.slice (some ⟨g, 0, none⟩) n cap) ∧ w'.ownsRow w.heap.size 2 1 (.slice (some ⟨g, 0, none⟩) n cap) n (iv (bitsL (act (dat L) z v) n)) ∧ Below w.heap.size w w' := by
  have hn16 : n ≤ 16 := by rw [hn]; exact hs.len
  by_cases h0 : z = 0
  · subst h0
    have HC := Lib.hid (l01Own_any V n cv (iv (bitsL v n)) (w.alloc (.cells #[.slice A n c, .slice A' m c'] 29)) (by rw [iv_length, bitsL_length]) (by omega) (iv_one _) (hV.alloc _))
    clear hR hV hn hm hs
    go_enter Tryz.func44, Tryz.ntmps44
    go_wp2_with fail
    refine HC.out.mono ?_
    rintro e w1 ⟨g, cap, rfl, ho, hb⟩
    have HO := Lib.hid ho
    have HB := Lib.hid hb
    clear ho hb
    go_wp2_with fail
    go_ret
    refine ⟨g, cap, rfl, ?_, ((Below.refl _ _).alloc (Nat.le_refl _) _).trans (HB.out.mono (by simp))⟩
    rw [act0]; exact HO.out.mono (by simp)
  · have h0b : (z == 0) = false := by simpa using h0
    have hmk := run_make_row' (P := Tryz.prog) 22 2 (.int .i64 0) 8 Tryz.underlying22 infoI rfl .i64 .i64 n (by omega) (by omega)
    have HACT : Hid (act (dat L) z v = actE (dat L) z v) := Lib.hid (act_pos h0 _ _)
    have HS := Lib.hid hs
    have HR := Lib.hid hR
    have HV := Lib.hid hV
    have Hn := Lib.hid hn
    have Hm := Lib.hid hm
    clear hs hR hV hn hm
    obtain ⟨x0, x1, xf0, xf1, lx⟩ := blk2cells (blk_new w (.cells #[.slice A n c, .slice A' m c'] 29))
    go_enter Tryz.func44, Tryz.ntmps44
    go_wp2_with fail
    clear hmk x0 x1 xf0 xf1 lx
    go_loopw [8] (fun i wr => ∃ k : Nat, k ≤ m ∧ i = .int .i64 k ∧ wr.ownsRow w.heap.size 2 1 (.slice (some ⟨w.heap.size + 1, 0, none⟩) n n) n (iv (bitsL (actE ((dat L).take k) z v) n)) ∧ wr.heap[w.heap.size]? = some (.cells #[.slice A n c, .slice A' m c'] 29 (0, 0)) ∧ Below w.heap.size w wr) (fun i _ => m - (intOf i).toNat)
    case atStart =>
      refine ⟨0, by omega, rfl, ?_, blk_alloc (blk_new w _) _, ((Below.refl _ _).alloc (Nat.le_refl _) _).alloc (by simp) _⟩
      have := made_own (w.alloc (.cells #[.slice A n c, .slice A' m c'] 29)) w.heap.size n (by simp) (by omega)
      rw [← bitsL_zero] at this
      rw [show actE ((dat L).take 0) z v = 0 from rfl]
      simpa using this
    case round =>
      obtain ⟨k, hk, rfl, hown, hblk, hbel⟩ := hrel
      have HO := Lib.hid hown
      have HB := Lib.hid hbel
      have HK := Lib.hid hblk
      obtain ⟨x0, x1, xf0, xf1, lx⟩ := blk2cells hblk
      by_cases hlt : k < m
      · have hkL : k < L.length := by rw [← Hm.out]; exact hlt
        have hR1 := HR.out.below hbel
        obtain ⟨b, o, rfl, hcell⟩ := hR1.at_ hkL
        have hin := hR1.inn k hkL
        have hent := HS.out.ent k (by rw [dat_length]; exact hkL)
        have hst := act_take_succ (dat L) z v (k := k) (by rw [dat_length]; exact hkL)
        rw [dat_getD] at hent hst
        generalize rg L k = r at *
        obtain ⟨rA, rc, rx⟩ := r
        simp only at hcell hin hent hst
        have hl3 := hent.len
        rw [hl3] at hcell
        obtain ⟨b1, o1, rfl, hy0⟩ := hin.atI (k := 0) (by omega)
        rw [Nat.add_zero] at hy0
        have hy1 := hin.cellI (k := 1) (by omega)
        have hy2 := hin.cellI (k := 2) (by omega)
        have hlo1 := hent.lo1
        have hhi1 := hent.hi1
        have hlo2 := hent.lo2
        have hhi2 := hent.hi2
        rw [← Hn.out] at hhi1 hhi2
        have HST := Lib.hid hst
        have HH : Hid (hit z v rx = if rx.getD 0 0 = z ∧ tb v (rx.getD 1 0).toNat = true then 2 ^ (rx.getD 2 0).toNat else 0) := Lib.hid rfl
        clear hst hent hin hR1 hl3
        generalize rx.getD 0 0 = e0 at *
        generalize rx.getD 1 0 = e1 at *
        generalize rx.getD 2 0 = e2 at *
        obtain ⟨i1, rfl⟩ := Int.eq_ofNat_of_zero_le hlo1
        obtain ⟨i2, rfl⟩ := Int.eq_ofNat_of_zero_le hlo2
        have hi1 : i1 < n := by omega
        have hi2 : i2 < n := by omega
        rw [Int.toNat_natCast, Int.toNat_natCast] at HH
        by_cases he : e0 = z
        · subst he
          obtain ⟨vb, vo, rfl, hvc⟩ := (HV.out.below hbel).atI (k := i1) (by rw [bitsL_length]; exact hi1)
          rw [bitsL_getD _ hi1] at hvc
          cases htb : tb v i1
          · rw [bit_none htb] at hvc
            have HH2 := Lib.hid (HH.out.trans (if_neg (by rw [htb]; simp)))
            clear hown hbel hblk htb
            go_wp2_with fail
            go_roundw
            case rel => exact ⟨k + 1, by omega, by go_num, by rw [HST.out, HH2.out, xr_zero]; exact HO.out, HK.out, HB.out⟩
            case measure => simp [intOf]; omega
          · rw [bit_one htb] at hvc
            have HH2 := Lib.hid (HH.out.trans (if_pos ⟨rfl, htb⟩))
            have hoc := owns_getD hown hi2
            rw [bitsL_getD _ hi2] at hoc
            have fz := hown.frozenAt i2
            obtain ⟨bd1, bd2⟩ := bit_bd (actE ((dat L).take k) e0 v) i2
            have HSTO : Hid ((wr.setCell ⟨w.heap.size + 1, i2, none⟩ (.int .i64 (1 - bit (actE ((dat L).take k) e0 v) i2))).ownsRow w.heap.size 2 1 (.slice (some ⟨w.heap.size + 1, 0, none⟩) n n) n (iv (bitsL (xr (actE ((dat L).take k) e0 v) (2 ^ i2)) n))) := Lib.hid (by
              rw [← bitsL_flip _ hi2, iv_set]; exact (World.ownsRow.stored HO.out i2 _).1)
            generalize bit (actE ((dat L).take k) e0 v) i2 = y at *
            clear hown hbel hblk htb
            go_wp2_with fail
            go_still_tail 12, (by kernel_rfl)
            go_wp2_with fail
            go_roundw
            case rel => exact ⟨k + 1, by omega, by go_num, by rw [HST.out, HH2.out]; exact owns_keeps HSTO.out (Keeps.drew (S := []) (Keeps.refl _ _)) (.inr (by simp)), blk_seto HK.out ⟨w.heap.size + 1, i2, none⟩ (by simp) _, (HB.out.setCell (p := ⟨w.heap.size + 1, i2, none⟩) (by simp) _).drew⟩
            case measure => simp [intOf]; omega
        · have heb : (e0 == z) = false := by simpa using he
          have HH2 := Lib.hid (HH.out.trans (if_neg (fun h => he h.1)))
          clear hown hbel hblk he
          go_wp2_with fail
          go_roundw
          case rel => exact ⟨k + 1, by omega, by go_num, by rw [HST.out, HH2.out, xr_zero]; exact HO.out, HK.out, HB.out⟩
          case measure => simp [intOf]; omega
      · obtain rfl : k = m := by omega
        have he : (dat L).take k = dat L := List.take_of_length_le (by rw [dat_length, ← Hm.out]; exact Nat.le_refl _)
        rw [he] at HO
        clear hown hbel hblk he
        go_wp2_with fail
        go_ret
        exact ⟨w.heap.size + 1, n, rfl, by rw [HACT.out]; exact HO.out, HB.out⟩
end Go.Proofs.YtocllmhkppkfoaaGreatDoor

namespace Go.Proofs.YtocllmhkppkfoaaGreatDoor
open Go.RowKit

theorem below_app2d {H : Nat} {w wr w1 : World} {v : Value} {n : Nat} {xs : List Value} {e : TypeId} (hb : Below H w wr) (hH : H ≤ wr.heap.size) (hown : wr.ownsRow H e 1 v n xs) {o : Obj} (hg : (wr.alloc o).drew.grownBy w1 v.ownBlock) : Below H w w1 :=
  ((hb.alloc hH o).drew).grown hg (by simp; omega) (fun k hk => (hown.lt k hk).1)
set_option maxHeartbeats 2000000 in
theorem l11Plus_any (A B : Option Addr) (n ca cb a b : Nat) (w : World) (hn : n ≤ 1000) (hA : Rd w A (iv (bitsL a n))) (hB : Rd w B (iv (bitsL b n))) :
    Calls Tryz.prog 87 #[.slice A n ca, .slice B n cb] w fun e w' => ∃ g cap, e = .returned (.slice (some ⟨g, 0, none⟩) n cap) ∧ w'.ownsRow w.heap.size 2 1 (.slice (some ⟨g, 0, none⟩) n cap) n (iv (bitsL (xr a b) n)) ∧ Below w.heap.size w w' := by
  have HA := Lib.hid hA
  have HB := Lib.hid hB
  clear hA hB
  go_enter Tryz.func87, Tryz.ntmps87
  go_wp2_with fail
  go_loopw [5, 6] (fun v i wr => ∃ k g cap : Nat, k ≤ n ∧ i = .int .i64 k ∧ v = .slice (some ⟨g, 0, none⟩) k cap ∧ wr.ownsRow w.heap.size 2 1 (.slice (some ⟨g, 0, none⟩) k cap) k (iv ((bitsL (xr a b) n).take k)) ∧ Below w.heap.size w wr) (fun _ i _ => n - (intOf i).toNat)
  case atStart => exact ⟨0, w.heap.size, 0, by omega, rfl, rfl, World.ownsRow_made w #[] 0 (Nat.le_refl _) (by decide) (by simp), (Below.refl _ _).alloc (Nat.le_refl _) _⟩
  case round =>
    obtain ⟨k, g, cap, hk, rfl, rfl, hown, hbel⟩ := hrel
    have HO := Lib.hid hown
    have HBL := Lib.hid hbel
    have hsz := hbel.size
    by_cases hlt : k < n
    · obtain ⟨b1, o1, rfl, hc1⟩ := (HA.out.below hbel).atI (k := k) (by rw [bitsL_length]; exact hlt)
      obtain ⟨b2, o2, rfl, hc2⟩ := (HB.out.below hbel).atI (k := k) (by rw [bitsL_length]; exact hlt)
      rw [bitsL_getD _ hlt] at hc1 hc2
      have HTS : Hid ((bitsL (xr a b) n).take (k + 1) = (bitsL (xr a b) n).take k ++ [(bit a k + bit b k) % 2]) := Lib.hid (by rw [bitsL_take _ hlt, bit_xr])
      obtain ⟨p1, p2⟩ := bit_bd a k
      obtain ⟨q1, q2⟩ := bit_bd b k
      have HKP : Hid (∀ w', Below w.heap.size w w' → w'.cell? ⟨b1, o1 + k, none⟩ = some (.int .i64 (bit a k)) ∧ w'.cell? ⟨b2, o2 + k, none⟩ = some (.int .i64 (bit b k))) := Lib.hid (fun w' hb => by
        have h1 := (HA.out.below hb).cellI (k := k) (by rw [bitsL_length]; exact hlt)
        have h2 := (HB.out.below hb).cellI (k := k) (by rw [bitsL_length]; exact hlt)
        rw [bitsL_getD _ hlt] at h1 h2
        exact ⟨h1, h2⟩)
      generalize bit a k = x at *
      generalize bit b k = y at *
      have hw1 : IntKind.i64.wrap (x + y) = x + y := by rw [IntKind.wrap_i64]; omega
      have hw2 : (x + y).tmod 2 = (x + y) % 2 := Int.tmod_eq_emod_of_nonneg (by omega)
      clear hown hbel
      go_wp2_with fail
      go_region_held3 (fun w' => w'.cell? ⟨b1, o1 + k, none⟩ = some (.int .i64 x) ∧ w'.cell? ⟨b2, o2 + k, none⟩ = some (.int .i64 y))
        (first | exact HKP.out _ (HBL.out.alloc hsz _) | exact HKP.out _ (HBL.out.alloc hsz _).drew | exact HKP.out _ HBL.out.drew | exact HKP.out _ HBL.out | exact HKP.out _ HB1.out)
        ((refine step_app1 _ _ _ _ _ etI (by rfl) (by rfl) w.heap.size (.slice (some ⟨g, 0, none⟩) k cap) k (iv ((bitsL (xr a b) n).take k)) (by rfl) ?_ _ (.int .i64 ((x + y) % 2)) (by rfl) ?_ (by rfl) ?_ ?_ ?_; exact (HO.out.alloc _).drew; exact drew_cell (new_cell _ _ _); omega; (simp; omega); (intro g1 cap1 w1 hown1 hgrow1 hat1 hlt1; have HO1 := Lib.hid hown1; have HB1 := Lib.hid (below_app2d HBL.out hsz HO.out hgrow1); clear hown1 hgrow1 hat1 hlt1)))
      go_wp2_with fail
      go_roundw
      case rel => exact ⟨k + 1, g1, cap1, by omega, by go_num, rfl, by rw [HTS.out, iv_append]; exact HO1.out, HB1.out⟩
      case measure => simp [intOf]; omega
    · obtain rfl : k = n := by omega
      have he : (bitsL (xr a b) k).take k = bitsL (xr a b) k := List.take_of_length_le (by rw [bitsL_length]; exact Nat.le_refl _)
      rw [he] at HO
      clear hown hbel he
      go_wp2_with fail
      go_ret
      exact ⟨g, cap, rfl, HO.out, HBL.out⟩

set_option maxHeartbeats 1000000 in
theorem l01Same_any (A B : Option Addr) (n n' c c' : Nat) (x y : List Int) (w : World) (hn : n = x.length) (hn' : n' = y.length) (hsm : n ≤ 1099511627776) (hsm' : n' ≤ 1099511627776) (hA : Rd w A (iv x)) (hB : Rd w B (iv y)) :
    Calls Tryz.prog 64 #[.slice A n c, .slice B n' c'] w fun e w' => e = .returned (.bool (x == y)) ∧ ∃ m, w.drewN m = w' := by
  by_cases hnn : n = n'
  · subst hnn
    have HA := Lib.hid hA
    have HB := Lib.hid hB
    have Hn := Lib.hid hn
    have Hn' := Lib.hid hn'
    clear hA hB hn hn' hsm'
    go_enter Tryz.func64, Tryz.ntmps64
    go_wp2_with fail
    go_loopw [5] (fun i wr => ∃ k j : Nat, k ≤ n ∧ i = .int .i64 k ∧ wr = w.drewN j ∧ Hid (∀ t, t < k → x.getD t 0 = y.getD t 0)) (fun i _ => n - (intOf i).toNat)
    case atStart => exact ⟨0, 0, by omega, rfl, rfl, Lib.hid (fun t ht => by omega)⟩
    case round =>
      obtain ⟨k, j, hk, rfl, rfl, HQ⟩ := hrel
      by_cases hlt : k < n
      · obtain ⟨b1, o1, rfl, hc1⟩ := HA.out.atI (k := k) (by rw [← Hn.out]; exact hlt)
        obtain ⟨b2, o2, rfl, hc2⟩ := HB.out.atI (k := k) (by rw [← Hn'.out]; exact hlt)
        generalize hp : x.getD k 0 = p at *
        generalize hq : y.getD k 0 = q at *
        have HP := Lib.hid hp
        have HQ' := Lib.hid hq
        clear hp hq
        by_cases e : p = q
        · subst e
          go_wp2_with fail
          go_quiet (fail)
          go_wp2_with fail
          go_roundw
          case rel =>
            refine ⟨k + 1, _, by omega, by go_num, rfl, Lib.hid (fun t ht => ?_)⟩
            by_cases e : t = k
            · subst e; rw [HP.out, HQ'.out]
            · exact HQ.out t (by omega)
          case measure => simp [intOf]; omega
        · have heb : (p != q) = true := by simpa using e
          have HF : Hid ((x == y) = false) := Lib.hid (by
            rw [beq_eq_false_iff_ne]; intro h; subst h; exact e (HP.out.symm.trans HQ'.out))
          clear e
          go_wp2_with fail
          go_quiet (fail)
          go_wp2_with fail
          go_ret
          exact ⟨by rw [HF.out]; rfl, _, by rw [World.drewN_drewN]⟩
      · have HT : Hid ((x == y) = true) := Lib.hid (by
          rw [beq_iff_eq]
          exact list_ext_getD Hn.out.symm Hn'.out.symm (fun i hi => HQ.out i (by omega)))
        go_wp2_with fail
        go_ret
        exact ⟨by rw [HT.out]; rfl, j, rfl⟩
  · have hnb : ((n : Int) != (n' : Int)) = true := by simp; omega
    have HF : Hid ((x == y) = false) := Lib.hid (by
      rw [beq_eq_false_iff_ne]; intro h; subst h; exact hnn (hn.trans hn'.symm))
    clear hA hB hn hn' hnn
    go_enter Tryz.func64, Tryz.ntmps64
    go_wp2_with fail
    go_ret
    exact ⟨by rw [HF.out]; rfl, 0, rfl⟩
end Go.Proofs.YtocllmhkppkfoaaGreatDoor
