/- append of a slice that reads as a list, nil let in; copies of slices of ints · counts of partitions up to 14, on both sides · the reference's vectors: l11Unit, l11Act, l11Plus, l01Same, l11Word, l11Words · the reference's vectors: l11Plus, l01Same · impl's times, tableOf · impl's tableOf · impl's (*table).square, relation -/
import Derived.Test.YtdkmdmpaflgfaaaGreatDoorBxaa
import Derived.Maps.AppendAt
import Derived.Deep.AppendLies
import Derived.Deep.OwnRows
import Derived.Test.YtdkmdmpaflgfaaaGreatDoorBxae
import Derived.Test.YtdkmdmpaflgfaaaGreatDoorBxab
import Derived.StillTailTactics
import Derived.Deep.DeepCutAuto
set_option linter.all false
namespace Go.Proofs.YtdkmdmpaflgfaaaGreatDoor
open Go.RowKit

/-! ### append of a slice that reads as a list, nil let in, onto an own row -/
section
variable {P : Program} {w : World}
theorem append_nothing (t ty e : TypeId) (i : TypeInfo) (size : Nat) (ht : P.underlying t = some (.slice e)) (hi : P.info? e = some i) (base : Nat)
    (v : Value) (n : Nat) (xs : List Value) (hown : w.ownsRow base e size v n xs) (c : Nat) : (Builtin.append_ #[t, t] ty #[v, .slice none 0 c]).run P w = .ok v w := by
  rcases hown.2 with ⟨rfl, rfl⟩ | ⟨g, cap, cur, rfl, _, _, hnc, _⟩
  · simp [Builtin.append_, run_underlying ht, sizeOf, typeInfo, hi, Builtin.lenOf, Builtin.firstCells]
  · simp [Builtin.append_, run_underlying ht, sizeOf, typeInfo, hi, Builtin.lenOf, Builtin.firstCells, hnc, storeCells]
theorem wp_appR {o : Oper} {a : Act} {K : Act → World → Prop} {Q : Exit → Act → World → Prop} (s x : Operand) (t e : TypeId) (bytes : Nat) (E : ET P t e bytes)
    (ho : o.op = .call { callee := .builtin .append, args := #[s, x], argTypes := #[t, t] })
    (base : Nat) (v : Value) (n : Nat) (xs : List Value) (hs : a.eval s = v) (hown : w.ownsRow base e 1 v n xs)
    (A : Option Addr) (m c : Nat) (news : List Value) (hx : a.eval x = .slice A m c) (hm : m = news.length) (hr : Rd w A news) (h1 : ∀ u ∈ news, u.oneCell' = true)
    (hn : n + m < 1099511627776) (hbase : base ≤ w.heap.size)
    (h : ∀ v' w', w'.ownsRow base e 1 v' (n + m) (xs ++ news) → w.grownBy w' v.ownBlock → (v'.ownBlock = v.ownBlock ∨ v'.ownBlock = some w.heap.size) → K (a.put o.dst v') w') : Oper.wp P o a w K Q := by
  obtain ⟨i, z, hi, hz0, hz1, hz2, hz3⟩ := E.inf
  have hsm := E.small
  have key : ∃ v' w', (Builtin.append_ #[t, t] o.type #[v, .slice A m c]).run P w = .ok v' w' ∧ w'.ownsRow base e 1 v' (n + m) (xs ++ news) ∧ w.grownBy w' v.ownBlock ∧ (v'.ownBlock = v.ownBlock ∨ v'.ownBlock = some w.heap.size) := by
    rcases A with _ | ad
    · have h0 : news = [] := by
        rcases hr with h | ⟨b, o', h, _⟩
        · exact h
        · cases h
      subst h0
      have hm0 : m = 0 := by simpa using hm
      subst hm0
      exact ⟨v, w, append_nothing t o.type e i 1 E.und hi base v n xs hown c, by simpa using hown, World.grownBy.refl w _, .inl rfl⟩
    · have hcells : ∀ j u, news[j]? = some u → w.cell? (ad.add j) = some u := by
        intro j u hj
        rcases hr with h | ⟨b, o', h, hc⟩
        · subst h; simp at hj
        · injection h with h; subst h
          rw [Addr.add_lit]; exact hc j u hj
      obtain ⟨v', w', hrun, h2, h3, _, h5⟩ := run_append_own_at (P := P) w base t o.type e i z 1 bytes E.und hi hz0 hz1 hz2 hz3 (by omega) v n xs hown ad m c news (by omega) hcells h1 (by unfold maxLen; omega)
        (Nat.le_trans (Nat.mul_le_mul (show n + m ≤ 1099511627776 by omega) hsm) (by decide)) hbase
      exact ⟨v', w', hrun, h2, h3, h5⟩
  obtain ⟨v', w', hrun, h2, h3, h4⟩ := key
  unfold Oper.wp execOp
  simp only [ho, resolve, invoke, builtin, Sem.run_bind, Sem.run_pure, Result.andThen_ok, List.map_toArray, List.map_cons, List.map_nil, hs, hx, hrun]
  exact h v' w' h2 h3 h4
theorem wpList_appR {ops : Array Oper} {rest : List Oper} {o : Oper} {a : Act} {Q : Exit → Act → World → Prop} (s x : Operand) (t e : TypeId) (bytes : Nat) (E : ET P t e bytes) (hgd : o.guard = none)
    (ho : o.op = .call { callee := .builtin .append, args := #[s, x], argTypes := #[t, t] })
    (base : Nat) (v : Value) (n : Nat) (xs : List Value) (hs : a.eval s = v) (hown : w.ownsRow base e 1 v n xs)
    (A : Option Addr) (m c : Nat) (news : List Value) (hx : a.eval x = .slice A m c) (hm : m = news.length) (hr : Rd w A news) (h1 : ∀ u ∈ news, u.oneCell' = true)
    (hn : n + m < 1099511627776) (hbase : base ≤ w.heap.size)
    (h : ∀ v' w', w'.ownsRow base e 1 v' (n + m) (xs ++ news) → w.grownBy w' v.ownBlock → (v'.ownBlock = v.ownBlock ∨ v'.ownBlock = some w.heap.size) → wpList P ops Q rest (a.put o.dst v') w') : wpList P ops Q (o :: rest) a w :=
  wpList_plain hgd fun _ hK => wp_appR s x t e bytes E ho base v n xs hs hown A m c news hx hm hr h1 hn hbase fun v' w' h2 h3 h4 => hK _ _ (h v' w' h2 h3 h4)
/-- .. at a step of a region that draws its order -/
theorem step_appR {ops : Array Oper} {o : Oper} {a : Act} {K : Act → World → Prop} {Q : Exit → Act → World → Prop} {E' : Prop} (s x : Operand) (t e : TypeId) (bytes : Nat) (E : ET P t e bytes) (hgd : o.guard = none)
    (ho : o.op = .call { callee := .builtin .append, args := #[s, x], argTypes := #[t, t] })
    (base : Nat) (v : Value) (n : Nat) (xs : List Value) (hs : a.eval s = v) (hown : w.ownsRow base e 1 v n xs)
    (A : Option Addr) (m c : Nat) (news : List Value) (hx : a.eval x = .slice A m c) (hm : m = news.length) (hr : Rd w A news) (h1 : ∀ u ∈ news, u.oneCell' = true)
    (hn : n + m < 1099511627776) (hbase : base ≤ w.heap.size)
    (h : ∀ v' w', w'.ownsRow base e 1 v' (n + m) (xs ++ news) → w.grownBy w' v.ownBlock → (v'.ownBlock = v.ownBlock ∨ v'.ownBlock = some w.heap.size) → K (a.put o.dst v') w') :
    if Region.wanted o (yielded ops a.tmps) = true then Oper.wp P o a w K Q else E' := by
  rw [if_pos (by simp [Region.wanted, hgd])]
  exact wp_appR s x t e bytes E ho base v n xs hs hown A m c news hx hm hr h1 hn hbase h
end
theorem below_app2 {H : Nat} {w wr w1 : World} {v : Value} {n : Nat} {xs : List Value} {e : TypeId} (hb : Below H w wr) (hH : H ≤ wr.heap.size) (hown : wr.ownsRow H e 1 v n xs) {o : Obj} (hg : (wr.alloc o).grownBy w1 v.ownBlock) : Below H w w1 :=
  (hb.alloc hH o).grown hg (by simp; omega) (fun k hk => (hown.lt k hk).1)
theorem iv_append (xs ys : List Int) : iv (xs ++ ys) = iv xs ++ iv ys := by simp [iv]
theorem nv_one (S : List Nat) : ∀ u ∈ nv S, u.oneCell' = true := by
  intro u hu
  obtain ⟨x, _, rfl⟩ := List.mem_map.1 hu
  rfl
theorem iv_one (S : List Int) : ∀ u ∈ iv S, u.oneCell' = true := by
  intro u hu
  obtain ⟨x, _, rfl⟩ := List.mem_map.1 hu
  rfl

set_option maxHeartbeats 1000000 in
theorem copyOf_any (A : Option Addr) (n c : Nat) (vs : List Value) (w : World) (hn : n = vs.length) (hsm : n ≤ 1000000000) (h1 : ∀ u ∈ vs, u.oneCell' = true) (hR : Rd w A vs) :
    Calls Tryz.prog 112 #[.slice A n c] w fun e w' => ∃ g cap, e = .returned (.slice (some ⟨g, 0, none⟩) n cap) ∧ w'.ownsRow w.heap.size 2 1 (.slice (some ⟨g, 0, none⟩) n cap) n vs ∧ Below w.heap.size w w' := by
  have HR := Lib.hid hR
  have Hn := Lib.hid hn
  have H1 := Lib.hid h1
  clear hR hn h1
  go_enter Tryz.func112, Tryz.ntmps112
  go_wp2_with (at_builtin; refine wpList_appR _ _ _ _ _ etI (by rfl) (by rfl) w.heap.size (.slice (some ⟨w.heap.size, 0, none⟩) 0 0) 0 [] (by rfl) ?_ A n c vs (by rfl) Hn.out ?_ H1.out ?_ ?_ ?_; exact World.ownsRow_made w #[] 0 (Nat.le_refl _) (by decide) (by simp); exact HR.out.alloc _; omega; (simp); (intro v' w' hown hg hat; have HO := Lib.hid hown; have HG := Lib.hid hg; have HA := Lib.hid hat; clear hown hg hat))
  go_ret
  have ho := HO.out
  rw [Nat.zero_add, List.nil_append] at ho
  have hb : Below w.heap.size w w' := ((Below.refl _ _).alloc (Nat.le_refl _) _).grown HG.out (by simp) (fun k hk => by simp [Value.ownBlock] at hk; omega)
  rcases ho.2 with ⟨rfl, _⟩ | ⟨g, cap, cur, rfl, _⟩
  · rcases HA.out with h | h <;> simp [Value.ownBlock] at h
  · exact ⟨g, cap, rfl, ho, hb⟩

set_option maxHeartbeats 1000000 in
theorem l01Own_any (A : Option Addr) (n c : Nat) (vs : List Value) (w : World) (hn : n = vs.length) (hsm : n ≤ 1000000000) (h1 : ∀ u ∈ vs, u.oneCell' = true) (hR : Rd w A vs) :
    Calls Tryz.prog 149 #[.slice A n c] w fun e w' => ∃ g cap, e = .returned (.slice (some ⟨g, 0, none⟩) n cap) ∧ w'.ownsRow w.heap.size 2 1 (.slice (some ⟨g, 0, none⟩) n cap) n vs ∧ Below w.heap.size w w' := by
  have HR := Lib.hid hR
  have Hn := Lib.hid hn
  have H1 := Lib.hid h1
  clear hR hn h1
  go_enter Tryz.func149, Tryz.ntmps149
  go_wp2_with (at_builtin; refine wpList_appR _ _ _ _ _ etI (by rfl) (by rfl) w.heap.size (.slice (some ⟨w.heap.size, 0, none⟩) 0 0) 0 [] (by rfl) ?_ A n c vs (by rfl) Hn.out ?_ H1.out ?_ ?_ ?_; exact World.ownsRow_made w #[] 0 (Nat.le_refl _) (by decide) (by simp); exact HR.out.alloc _; omega; (simp); (intro v' w' hown hg hat; have HO := Lib.hid hown; have HG := Lib.hid hg; have HA := Lib.hid hat; clear hown hg hat))
  go_ret
  have ho := HO.out
  rw [Nat.zero_add, List.nil_append] at ho
  have hb : Below w.heap.size w w' := ((Below.refl _ _).alloc (Nat.le_refl _) _).grown HG.out (by simp) (fun k hk => by simp [Value.ownBlock] at hk; omega)
  rcases ho.2 with ⟨rfl, _⟩ | ⟨g, cap, cur, rfl, _⟩
  · rcases HA.out with h | h <;> simp [Value.ownBlock] at h
  · exact ⟨g, cap, rfl, ho, hb⟩

end Go.Proofs.YtdkmdmpaflgfaaaGreatDoor

namespace Go.Proofs.YtdkmdmpaflgfaaaGreatDoor
open Go.RowKit

def cntIn (x m : Nat) (ys : List Int) : List Int := ys.set m (wrap64 (ys.getD m 0 + ys.getD (m - x) 0))
def cntRow (x : Nat) : Nat → List Int → List Int
  | 0, ys => ys
  | j + 1, ys => cntIn x (x + j) (cntRow x j ys)
def cntW (s : Nat) : Nat := 2 ^ (s + 1) - 1
def cntAll : Nat → List Int
  | 0 => 1 :: List.replicate 14 0
  | s + 1 => cntRow (cntW s) (15 - cntW s) (cntAll s)
def cnt14 : List Int := cntAll 3
theorem cnt14_len : cnt14.length = 15 := by decide +kernel
theorem cnt14_bd : ∀ i, i < 15 → 0 ≤ cnt14.getD i 0 ∧ cnt14.getD i 0 ≤ 1000 := by decide +kernel
theorem cntW_lt : ∀ s, s < 3 → 1 ≤ cntW s ∧ cntW s ≤ 14 ∧ cntW (s + 1) = 2 * cntW s + 1 := by decide
theorem cntW_le : ∀ s, s < 3 → 2 * cntW s + 1 ≤ 15 := by decide
theorem made_own (w : World) (B n : Nat) (hB : B ≤ w.heap.size) (hn : n ≤ 1099511627776) : (w.alloc (.cells (madeCells #[.int .i64 0] n) 2)).ownsRow B 2 1 (.slice (some ⟨w.heap.size, 0, none⟩) n n) n (iv (List.replicate n 0)) := by
  refine ⟨by simp [iv], .inr ⟨w.heap.size, n, _, rfl, hB, blk_new w _, Nat.le_refl _, by unfold maxLen; omega, by simp [madeCells], ?_⟩⟩
  rw [← iv_replicate, List.take_of_length_le (by simp [madeCells])]
theorem made_own1 (w : World) : (w.alloc (.cells ((madeCells #[.int .i64 0] 15).setIfInBounds 0 (.int .i64 1)) 2)).ownsRow w.heap.size 2 1 (.slice (some ⟨w.heap.size, 0, none⟩) 15 15) 15 (iv (cntAll 0)) := by
  have h := (World.ownsRow.stored (made_own w w.heap.size 15 (Nat.le_refl _) (by omega)) 0 (.int .i64 1)).1
  rw [World.setCell_alloc_at _ _ _ _ _ rfl] at h
  exact h
end Go.Proofs.YtdkmdmpaflgfaaaGreatDoor

namespace Go.Proofs.YtdkmdmpaflgfaaaGreatDoor
open Go.RowKit

theorem act_take_succ (Q : List (List Int)) (z : Int) (v : Nat) {k : Nat} (hk : k < Q.length) : actE (Q.take (k + 1)) z v = xr (actE (Q.take k) z v) (hit z v (Q.getD k [])) := fold_take_succ _ _ _ _ _ hk
theorem dat_take (L : List Row) (k : Nat) : (dat L).take k = dat (L.take k) := by simp [dat, List.map_take]

set_option maxHeartbeats 1000000 in
theorem l11Unit_any (n k : Nat) (w : World) (hk : k < n) (hn : n ≤ 1000) :
    Calls Tryz.prog 121 #[.int .i64 n, .int .i64 k] w fun e w' => ∃ g cap, e = .returned (.slice (some ⟨g, 0, none⟩) n cap) ∧ w'.ownsRow w.heap.size 2 1 (.slice (some ⟨g, 0, none⟩) n cap) n (iv (bitsL (2 ^ k) n)) ∧ Below w.heap.size w w' := by
  have hmk := run_make_row' (P := Tryz.prog) 22 2 (.int .i64 0) 8 Tryz.underlying22 infoI rfl .i64 .i64 n (by omega) (by omega)
  have hO := made_own w w.heap.size n (Nat.le_refl _) (by omega)
  have hc := owns_getD hO (k := k) hk
  have hf := hO.frozenAt k
  have h3 := (World.ownsRow.stored hO k (.int .i64 1)).1
  rw [← iv_set, bitsL_unit hk] at h3
  have H3 := Lib.hid h3
  have HB : Hid (Below w.heap.size w ((w.alloc (.cells (madeCells #[.int .i64 0] n) 2)).setCell ⟨w.heap.size, k, none⟩ (.int .i64 1))) := Lib.hid (((Below.refl _ _).alloc (Nat.le_refl _) _).setCell (p := ⟨w.heap.size, k, none⟩) (Nat.le_refl _) _)
  clear hO h3
  go_enter Tryz.func121, Tryz.ntmps121
  go_wp2_with fail
  go_ret
  have h4 := H3.out
  have hb := HB.out
  rw [World.setCell_alloc_at _ _ _ _ _ rfl] at h4 hb
  exact ⟨w.heap.size, n, rfl, h4, hb⟩

set_option maxRecDepth 100000 in
set_option maxHeartbeats 2000000 in
theorem l11Act_any (A A' V : Option Addr) (n c m c' cv : Nat) (xs : List Int) (L : List Row) (z : Int) (v : Nat) (w : World) (hn : n = xs.length) (hm : m = L.length) (hs : Shp xs (dat L)) (hm1 : m ≤ 1048576) (hR : RdR w A' L) (hV : Rd w V (iv (bitsL v n))) :
    Calls Tryz.prog 159 #[.agg #[.slice A n c, .slice A' m c'], .int .i64 z, .slice V n cv] w fun e w' => ∃ g cap, e = .returned (.slice (some ⟨g, 0, none⟩) n cap) ∧ w'.ownsRow w.heap.size 2 1 (.slice (some ⟨g, 0, none⟩) n cap) n (iv (bitsL (act (dat L) z v) n)) ∧ Below w.heap.size w w' := by
  have hn16 : n ≤ 16 := by rw [hn]; exact hs.len
  by_cases h0 : z = 0
  · subst h0
    have HC := Lib.hid (l01Own_any V n cv (iv (bitsL v n)) (w.alloc (.cells #[.slice A n c, .slice A' m c'] 30)) (by rw [iv_length, bitsL_length]) (by omega) (iv_one _) (hV.alloc _))
    clear hR hV hn hm hs
    go_enter Tryz.func159, Tryz.ntmps159
    go_wp2_with fail
    refine HC.out.mono ?_
    rintro e w1 ⟨g, cap, rfl, ho, hb⟩
    have HO := Lib.hid ho
    have HB := Lib.hid hb
    clear ho hb
    go_wp2_with fail
    go_ret
    refine ⟨g, cap, rfl, ?_, ((Below.refl _ _).alloc (Nat.le_refl _) _).trans (HB.out.mono (by simp))⟩
    rw [act0]; exact HO.out.mono (by simp)
  · have h0b : (z == 0) = false := by simpa using h0
    have hmk := run_make_row' (P := Tryz.prog) 22 2 (.int .i64 0) 8 Tryz.underlying22 infoI rfl .i64 .i64 n (by omega) (by omega)
    have HACT : Hid (act (dat L) z v = actE (dat L) z v) := Lib.hid (act_pos h0 _ _)
    have HS := Lib.hid hs
    have HR := Lib.hid hR
    have HV := Lib.hid hV
    have Hn := Lib.hid hn
    have Hm := Lib.hid hm
    clear hs hR hV hn hm
    obtain ⟨x0, x1, xf0, xf1, lx⟩ := blk2cells (blk_new w (.cells #[.slice A n c, .slice A' m c'] 30))
    go_enter Tryz.func159, Tryz.ntmps159
    go_wp2_with fail
    clear hmk x0 x1 xf0 xf1 lx
    go_loopw [8] (fun i wr => ∃ k : Nat, k ≤ m ∧ i = .int .i64 k ∧ wr.ownsRow w.heap.size 2 1 (.slice (some ⟨w.heap.size + 1, 0, none⟩) n n) n (iv (bitsL (actE ((dat L).take k) z v) n)) ∧ wr.heap[w.heap.size]? = some (.cells #[.slice A n c, .slice A' m c'] 30 (0, 0)) ∧ Below w.heap.size w wr) (fun i _ => m - (intOf i).toNat)
    case atStart =>
      refine ⟨0, by omega, rfl, ?_, blk_alloc (blk_new w _) _, ((Below.refl _ _).alloc (Nat.le_refl _) _).alloc (by simp) _⟩
      have := made_own (w.alloc (.cells #[.slice A n c, .slice A' m c'] 30)) w.heap.size n (by simp) (by omega)
      rw [← bitsL_zero] at this
      rw [show actE ((dat L).take 0) z v = 0 from rfl]
      simpa using this
    case round =>
      obtain ⟨k, hk, rfl, hown, hblk, hbel⟩ := hrel
      have HO := Lib.hid hown
      have HB := Lib.hid hbel
      have HK := Lib.hid hblk
      obtain ⟨x0, x1, xf0, xf1, lx⟩ := blk2cells hblk
      by_cases hlt : k < m
      · have hkL : k < L.length := by rw [← Hm.out]; exact hlt
        have hR1 := HR.out.below hbel
        obtain ⟨b, o, rfl, hcell⟩ := hR1.at_ hkL
        have hin := hR1.inn k hkL
        have hent := HS.out.ent k (by rw [dat_length]; exact hkL)
        have hst := act_take_succ (dat L) z v (k := k) (by rw [dat_length]; exact hkL)
        rw [dat_getD] at hent hst
        generalize rg L k = r at *
        obtain ⟨rA, rc, rx⟩ := r
        simp only at hcell hin hent hst
        have hl3 := hent.len
        rw [hl3] at hcell
        obtain ⟨b1, o1, rfl, hy0⟩ := hin.atI (k := 0) (by omega)
        rw [Nat.add_zero] at hy0
        have hy1 := hin.cellI (k := 1) (by omega)
        have hy2 := hin.cellI (k := 2) (by omega)
        have hlo1 := hent.lo1
        have hhi1 := hent.hi1
        have hlo2 := hent.lo2
        have hhi2 := hent.hi2
        rw [← Hn.out] at hhi1 hhi2
        have HST := Lib.hid hst
        have HH : Hid (hit z v rx = if rx.getD 0 0 = z ∧ tb v (rx.getD 1 0).toNat = true then 2 ^ (rx.getD 2 0).toNat else 0) := Lib.hid rfl
        clear hst hent hin hR1 hl3
        generalize rx.getD 0 0 = e0 at *
        generalize rx.getD 1 0 = e1 at *
        generalize rx.getD 2 0 = e2 at *
        obtain ⟨i1, rfl⟩ := Int.eq_ofNat_of_zero_le hlo1
        obtain ⟨i2, rfl⟩ := Int.eq_ofNat_of_zero_le hlo2
        have hi1 : i1 < n := by omega
        have hi2 : i2 < n := by omega
        rw [Int.toNat_natCast, Int.toNat_natCast] at HH
        by_cases he : e0 = z
        · subst he
          obtain ⟨vb, vo, rfl, hvc⟩ := (HV.out.below hbel).atI (k := i1) (by rw [bitsL_length]; exact hi1)
          rw [bitsL_getD _ hi1] at hvc
          cases htb : tb v i1
          · rw [bit_none htb] at hvc
            have HH2 := Lib.hid (HH.out.trans (if_neg (by rw [htb]; simp)))
            clear hown hbel hblk htb
            go_wp2_with fail
            go_roundw
            case rel => exact ⟨k + 1, by omega, by go_num, by rw [HST.out, HH2.out, xr_zero]; exact HO.out, HK.out, HB.out⟩
            case measure => simp [intOf]; omega
          · rw [bit_one htb] at hvc
            have HH2 := Lib.hid (HH.out.trans (if_pos ⟨rfl, htb⟩))
            have hoc := owns_getD hown hi2
            rw [bitsL_getD _ hi2] at hoc
            have fz := hown.frozenAt i2
            obtain ⟨bd1, bd2⟩ := bit_bd (actE ((dat L).take k) e0 v) i2
            have HSTO : Hid ((wr.setCell ⟨w.heap.size + 1, i2, none⟩ (.int .i64 (1 - bit (actE ((dat L).take k) e0 v) i2))).ownsRow w.heap.size 2 1 (.slice (some ⟨w.heap.size + 1, 0, none⟩) n n) n (iv (bitsL (xr (actE ((dat L).take k) e0 v) (2 ^ i2)) n))) := Lib.hid (by
              rw [← bitsL_flip _ hi2, iv_set]; exact (World.ownsRow.stored HO.out i2 _).1)
            generalize bit (actE ((dat L).take k) e0 v) i2 = y at *
            clear hown hbel hblk htb
            go_wp2_with fail
            go_still_tail 12, (by kernel_rfl)
            go_wp2_with fail
            go_roundw
            case rel => exact ⟨k + 1, by omega, by go_num, by rw [HST.out, HH2.out]; exact owns_keeps HSTO.out (Keeps.drew (S := []) (Keeps.refl _ _)) (.inr (by simp)), blk_seto HK.out ⟨w.heap.size + 1, i2, none⟩ (by simp) _, (HB.out.setCell (p := ⟨w.heap.size + 1, i2, none⟩) (by simp) _).drew⟩
            case measure => simp [intOf]; omega
        · have heb : (e0 == z) = false := by simpa using he
          have HH2 := Lib.hid (HH.out.trans (if_neg (fun h => he h.1)))
          clear hown hbel hblk he
          go_wp2_with fail
          go_roundw
          case rel => exact ⟨k + 1, by omega, by go_num, by rw [HST.out, HH2.out, xr_zero]; exact HO.out, HK.out, HB.out⟩
          case measure => simp [intOf]; omega
      · obtain rfl : k = m := by omega
        have he : (dat L).take k = dat L := List.take_of_length_le (by rw [dat_length, ← Hm.out]; exact Nat.le_refl _)
        rw [he] at HO
        clear hown hbel hblk he
        go_wp2_with fail
        go_ret
        exact ⟨w.heap.size + 1, n, rfl, by rw [HACT.out]; exact HO.out, HB.out⟩
end Go.Proofs.YtdkmdmpaflgfaaaGreatDoor

namespace Go.Proofs.YtdkmdmpaflgfaaaGreatDoor
open Go.RowKit

theorem below_app2d {H : Nat} {w wr w1 : World} {v : Value} {n : Nat} {xs : List Value} {e : TypeId} (hb : Below H w wr) (hH : H ≤ wr.heap.size) (hown : wr.ownsRow H e 1 v n xs) {o : Obj} (hg : (wr.alloc o).drew.grownBy w1 v.ownBlock) : Below H w w1 :=
  ((hb.alloc hH o).drew).grown hg (by simp; omega) (fun k hk => (hown.lt k hk).1)
set_option maxHeartbeats 2000000 in
theorem l11Plus_any (A B : Option Addr) (n ca cb a b : Nat) (w : World) (hn : n ≤ 1000) (hA : Rd w A (iv (bitsL a n))) (hB : Rd w B (iv (bitsL b n))) :
    Calls Tryz.prog 185 #[.slice A n ca, .slice B n cb] w fun e w' => ∃ g cap, e = .returned (.slice (some ⟨g, 0, none⟩) n cap) ∧ w'.ownsRow w.heap.size 2 1 (.slice (some ⟨g, 0, none⟩) n cap) n (iv (bitsL (xr a b) n)) ∧ Below w.heap.size w w' := by
  have HA := Lib.hid hA
  have HB := Lib.hid hB
  clear hA hB
  go_enter Tryz.func185, Tryz.ntmps185
  go_wp2_with fail
  go_loopw [5, 6] (fun v i wr => ∃ k g cap : Nat, k ≤ n ∧ i = .int .i64 k ∧ v = .slice (some ⟨g, 0, none⟩) k cap ∧ wr.ownsRow w.heap.size 2 1 (.slice (some ⟨g, 0, none⟩) k cap) k (iv ((bitsL (xr a b) n).take k)) ∧ Below w.heap.size w wr) (fun _ i _ => n - (intOf i).toNat)
  case atStart => exact ⟨0, w.heap.size, 0, by omega, rfl, rfl, World.ownsRow_made w #[] 0 (Nat.le_refl _) (by decide) (by simp), (Below.refl _ _).alloc (Nat.le_refl _) _⟩
  case round =>
    obtain ⟨k, g, cap, hk, rfl, rfl, hown, hbel⟩ := hrel
    have HO := Lib.hid hown
    have HBL := Lib.hid hbel
    have hsz := hbel.size
    by_cases hlt : k < n
    · obtain ⟨b1, o1, rfl, hc1⟩ := (HA.out.below hbel).atI (k := k) (by rw [bitsL_length]; exact hlt)
      obtain ⟨b2, o2, rfl, hc2⟩ := (HB.out.below hbel).atI (k := k) (by rw [bitsL_length]; exact hlt)
      rw [bitsL_getD _ hlt] at hc1 hc2
      have HTS : Hid ((bitsL (xr a b) n).take (k + 1) = (bitsL (xr a b) n).take k ++ [(bit a k + bit b k) % 2]) := Lib.hid (by rw [bitsL_take _ hlt, bit_xr])
      obtain ⟨p1, p2⟩ := bit_bd a k
      obtain ⟨q1, q2⟩ := bit_bd b k
      have HKP : Hid (∀ w', Below w.heap.size w w' → w'.cell? ⟨b1, o1 + k, none⟩ = some (.int .i64 (bit a k)) ∧ w'.cell? ⟨b2, o2 + k, none⟩ = some (.int .i64 (bit b k))) := Lib.hid (fun w' hb => by
        have h1 := (HA.out.below hb).cellI (k := k) (by rw [bitsL_length]; exact hlt)
        have h2 := (HB.out.below hb).cellI (k := k) (by rw [bitsL_length]; exact hlt)
        rw [bitsL_getD _ hlt] at h1 h2
        exact ⟨h1, h2⟩)
      generalize bit a k = x at *
      generalize bit b k = y at *
      have hw1 : IntKind.i64.wrap (x + y) = x + y := by rw [IntKind.wrap_i64]; omega
      have hw2 : (x + y).tmod 2 = (x + y) % 2 := Int.tmod_eq_emod_of_nonneg (by omega)
      clear hown hbel
      go_wp2_with fail
      go_region_held3 (fun w' => w'.cell? ⟨b1, o1 + k, none⟩ = some (.int .i64 x) ∧ w'.cell? ⟨b2, o2 + k, none⟩ = some (.int .i64 y))
        (first | exact HKP.out _ (HBL.out.alloc hsz _) | exact HKP.out _ (HBL.out.alloc hsz _).drew | exact HKP.out _ HBL.out.drew | exact HKP.out _ HBL.out | exact HKP.out _ HB1.out)
        ((refine step_app1 _ _ _ _ _ etI (by rfl) (by rfl) w.heap.size (.slice (some ⟨g, 0, none⟩) k cap) k (iv ((bitsL (xr a b) n).take k)) (by rfl) ?_ _ (.int .i64 ((x + y) % 2)) (by rfl) ?_ (by rfl) ?_ ?_ ?_; exact (HO.out.alloc _).drew; exact drew_cell (new_cell _ _ _); omega; (simp; omega); (intro g1 cap1 w1 hown1 hgrow1 hat1 hlt1; have HO1 := Lib.hid hown1; have HB1 := Lib.hid (below_app2d HBL.out hsz HO.out hgrow1); clear hown1 hgrow1 hat1 hlt1)))
      go_wp2_with fail
      go_roundw
      case rel => exact ⟨k + 1, g1, cap1, by omega, by go_num, rfl, by rw [HTS.out, iv_append]; exact HO1.out, HB1.out⟩
      case measure => simp [intOf]; omega
    · obtain rfl : k = n := by omega
      have he : (bitsL (xr a b) k).take k = bitsL (xr a b) k := List.take_of_length_le (by rw [bitsL_length]; exact Nat.le_refl _)
      rw [he] at HO
      clear hown hbel he
      go_wp2_with fail
      go_ret
      exact ⟨g, cap, rfl, HO.out, HBL.out⟩

set_option maxHeartbeats 1000000 in
theorem l01Same_any (A B : Option Addr) (n n' c c' : Nat) (x y : List Int) (w : World) (hn : n = x.length) (hn' : n' = y.length) (hsm : n ≤ 1099511627776) (hsm' : n' ≤ 1099511627776) (hA : Rd w A (iv x)) (hB : Rd w B (iv y)) :
    Calls Tryz.prog 165 #[.slice A n c, .slice B n' c'] w fun e w' => e = .returned (.bool (x == y)) ∧ ∃ m, w.drewN m = w' := by
  by_cases hnn : n = n'
  · subst hnn
    have HA := Lib.hid hA
    have HB := Lib.hid hB
    have Hn := Lib.hid hn
    have Hn' := Lib.hid hn'
    clear hA hB hn hn' hsm'
    go_enter Tryz.func165, Tryz.ntmps165
    go_wp2_with fail
    go_loopw [5] (fun i wr => ∃ k j : Nat, k ≤ n ∧ i = .int .i64 k ∧ wr = w.drewN j ∧ Hid (∀ t, t < k → x.getD t 0 = y.getD t 0)) (fun i _ => n - (intOf i).toNat)
    case atStart => exact ⟨0, 0, by omega, rfl, rfl, Lib.hid (fun t ht => by omega)⟩
    case round =>
      obtain ⟨k, j, hk, rfl, rfl, HQ⟩ := hrel
      by_cases hlt : k < n
      · obtain ⟨b1, o1, rfl, hc1⟩ := HA.out.atI (k := k) (by rw [← Hn.out]; exact hlt)
        obtain ⟨b2, o2, rfl, hc2⟩ := HB.out.atI (k := k) (by rw [← Hn'.out]; exact hlt)
        generalize hp : x.getD k 0 = p at *
        generalize hq : y.getD k 0 = q at *
        have HP := Lib.hid hp
        have HQ' := Lib.hid hq
        clear hp hq
        by_cases e : p = q
        · subst e
          go_wp2_with fail
          go_quiet (fail)
          go_wp2_with fail
          go_roundw
          case rel =>
            refine ⟨k + 1, _, by omega, by go_num, rfl, Lib.hid (fun t ht => ?_)⟩
            by_cases e : t = k
            · subst e; rw [HP.out, HQ'.out]
            · exact HQ.out t (by omega)
          case measure => simp [intOf]; omega
        · have heb : (p != q) = true := by simpa using e
          have HF : Hid ((x == y) = false) := Lib.hid (by
            rw [beq_eq_false_iff_ne]; intro h; subst h; exact e (HP.out.symm.trans HQ'.out))
          clear e
          go_wp2_with fail
          go_quiet (fail)
          go_wp2_with fail
          go_ret
          exact ⟨by rw [HF.out]; rfl, _, by rw [World.drewN_drewN]⟩
      · have HT : Hid ((x == y) = true) := Lib.hid (by
          rw [beq_iff_eq]
          exact list_ext_getD Hn.out.symm Hn'.out.symm (fun i hi => HQ.out i (by omega)))
        go_wp2_with fail
        go_ret
        exact ⟨by rw [HT.out]; rfl, j, rfl⟩
  · have hnb : ((n : Int) != (n' : Int)) = true := by simp; omega
    have HF : Hid ((x == y) = false) := Lib.hid (by
      rw [beq_eq_false_iff_ne]; intro h; subst h; exact hnn (hn.trans hn'.symm))
    clear hA hB hn hn' hnn
    go_enter Tryz.func165, Tryz.ntmps165
    go_wp2_with fail
    go_ret
    exact ⟨by rw [HF.out]; rfl, 0, rfl⟩
end Go.Proofs.YtdkmdmpaflgfaaaGreatDoor

namespace Go.Proofs.YtdkmdmpaflgfaaaGreatDoor
open Go.RowKit

theorem comb_snoc : ∀ (S : List Nat) (r i x : Nat), comb (S ++ [r]) i x = xr (comb S i x) (if tb x (i + S.length) = true then r else 0)
  | [], r, i, x => by simp [comb, xr_zero, zero_xr]
  | s :: S, r, i, x => by
    simp only [List.cons_append, comb, comb_snoc S r (i + 1) x, List.length_cons, xr_assoc]
    rw [show i + 1 + S.length = i + (S.length + 1) by omega]
theorem comb_succ (S : List Nat) (x : Nat) {k : Nat} (h : k < S.length) : comb (S.take (k + 1)) 0 x = xr (comb (S.take k) 0 x) (if tb x k = true then S.getD k 0 else 0) := by
  rw [List.take_succ_eq_append_getElem h, comb_snoc, List.length_take, Nat.min_eq_left (Nat.le_of_lt h), Nat.zero_add]
  simp [List.getD, h]
theorem comb_sm : ∀ (S : List Nat) (i x : Nat), (∀ r ∈ S, Sm r) → Sm (comb S i x)
  | [], _, _, _ => Sm.zero
  | r :: S, i, x, h => by
    simp only [comb]
    refine Sm.xr ?_ (comb_sm S (i + 1) x fun s hs => h s (List.mem_cons_of_mem _ hs))
    split
    · exact h r (List.mem_cons_self ..)
    · exact Sm.zero
attribute [local go_sem] i64_xor_nat i64_bit_test in
set_option maxHeartbeats 1000000 in
theorem times_any (A : Option Addr) (n c : Nat) (S : List Nat) (x : Nat) (w : World) (hn : n = S.length) (hsm : n ≤ 64) (hx : Sm x) (hS : ∀ r ∈ S, Sm r) (hR : Rd w A (nv S)) :
    Calls Tryz.prog 175 #[.int .i64 x, .slice A n c] w fun e w' => e = .returned (.int .i64 (comb S 0 x : Nat)) ∧ w = w' := by
  have HR := Lib.hid hR
  have Hn := Lib.hid hn
  have HS := Lib.hid hS
  clear hR hn hS
  go_enter Tryz.func175, Tryz.ntmps175
  go_wp2_with fail
  go_loop [5, 10] (fun t i => ∃ k : Nat, k ≤ n ∧ i = .int .i64 k ∧ t = .int .i64 (comb (S.take k) 0 x : Nat)) (fun _ i => n - (intOf i).toNat)
  case atStart => exact ⟨0, by omega, rfl, rfl⟩
  case round =>
    obtain ⟨k, hk, rfl, rfl⟩ := hrel
    by_cases hlt : k < n
    · have hkL : k < S.length := by rw [← Hn.out]; exact hlt
      obtain ⟨b, o, rfl, hc⟩ := HR.out.atN hkL
      have HC := Lib.hid (comb_succ S x hkL)
      have h1 : Sm (comb (S.take k) 0 x) := comb_sm _ _ _ fun r hr => HS.out r (List.mem_of_mem_take hr)
      have h2 : Sm (S.getD k 0) := HS.out _ (by simp [List.getD, hkL])
      generalize comb (S.take k) 0 x = p at *
      generalize S.getD k 0 = q at *
      have hmin : min k 64 = k := by omega
      cases hb : tb x k
      · have HE := Lib.hid (HC.out.trans (by rw [hb]; simp [xr_zero] : _ = p))
        go_wp2_with fail
        go_round
        case rel => exact ⟨k + 1, by omega, by go_num, by rw [HE.out]⟩
        case measure => simp [intOf]; omega
      · have HE := Lib.hid (HC.out.trans (by rw [hb]; simp : _ = xr p q))
        go_wp2_with fail
        go_round
        case rel => exact ⟨k + 1, by omega, by go_num, by rw [HE.out]⟩
        case measure => simp [intOf]; omega
    · have e : S.take k = S := List.take_of_length_le (by rw [← Hn.out]; omega)
      rw [e]
      clear e
      go_wp2_with fail
      go_ret
      exact ⟨rfl, rfl⟩

/-- the table of a module under way: the block of the table, m rows made, their numbers -/
structure TbM (w0 w : World) (g : Nat) (A : Option Addr) (n c : Nat) (h : Nat → Nat) (m : Nat) (S : Nat → List Nat) : Prop where
  blk : ∃ cs : Array Value, w.heap[g]? = some (.cells cs 100 (0, 0)) ∧ cs.size = 22 ∧ cs[0]? = some (.slice A n c) ∧ ∀ k, k < m → cs[1 + k]? = some (.slice (some ⟨h k, 0, none⟩) n n)
  own : ∀ k, k < m → w.ownsRow w0.heap.size 2 1 (.slice (some ⟨h k, 0, none⟩) n n) n (nv (S k))
  inj : ∀ k j, k < m → j < m → k ≠ j → h k ≠ h j
  ge : w0.heap.size ≤ g
  bel : Below w0.heap.size w0 w
section
variable {w0 w : World} {g : Nat} {A : Option Addr} {n c : Nat} {h : Nat → Nat} {m : Nat} {S : Nat → List Nat}
theorem TbM.cell (t : TbM w0 w g A n c h m S) {k : Nat} (hk : k < m) : w.cell? ⟨g, 1 + k, none⟩ = some (.slice (some ⟨h k, 0, none⟩) n n) := by
  obtain ⟨cs, hb, _, _, hc⟩ := t.blk
  rw [cell_of_row w g (1 + k) cs _ _ hb]; exact hc k hk
theorem TbM.cell0 (t : TbM w0 w g A n c h m S) : w.cell? ⟨g, 0, none⟩ = some (.slice A n c) := by
  obtain ⟨cs, hb, _, h0, _⟩ := t.blk
  rw [cell_of_row w g 0 cs _ _ hb]; exact h0
theorem TbM.frozen (t : TbM w0 w g A n c h m S) (i : Nat) : w.frozen? ⟨g, i, none⟩ = false := by
  obtain ⟨cs, hb, _⟩ := t.blk
  simp [World.frozen?, hb]
theorem TbM.old (t : TbM w0 w g A n c h m S) {i : Nat} (hi : i < 22) : ∃ v, w.cell? ⟨g, i, none⟩ = some v := by
  obtain ⟨cs, hb, hs, _⟩ := t.blk
  rw [cell_of_row w g i cs _ _ hb]
  exact ⟨cs[i], by simp [hs, hi]⟩
theorem TbM.lt (t : TbM w0 w g A n c h m S) : g < w.heap.size := by
  obtain ⟨cs, hb, _⟩ := t.blk
  exact (Array.getElem?_eq_some_iff.1 hb).1
theorem TbM.ne (t : TbM w0 w g A n c h m S) {k : Nat} (hk : k < m) : h k ≠ g := by
  obtain ⟨cs, hb, _⟩ := t.blk
  have := own_ne_blk (t.own k hk) hb (by decide)
  simpa [Value.ownBlock] using this
theorem TbM.congr {S' : Nat → List Nat} (t : TbM w0 w g A n c h m S) (e : ∀ k, k < m → S k = S' k) : TbM w0 w g A n c h m S' :=
  ⟨t.blk, fun k hk => by rw [← e k hk]; exact t.own k hk, t.inj, t.ge, t.bel⟩
theorem TbM.below {w' : World} (t : TbM w0 w g A n c h m S) (hb : Below w.heap.size w w') : TbM w0 w' g A n c h m S := by
  obtain ⟨cs, hk, rest⟩ := t.blk
  exact ⟨⟨cs, blk_kept hk hb, rest⟩, fun k hk => owns_keeps (t.own k hk) (Keeps.of_below hb) (.inr (by simp)), t.inj, t.ge, t.bel.trans (hb.mono t.bel.size)⟩
/-- a number stored into a row -/
theorem TbM.store (t : TbM w0 w g A n c h m S) {k : Nat} (hk : k < m) (b x : Nat) : TbM w0 (w.setCell ⟨h k, b, none⟩ (.int .i64 (x : Int))) g A n c h m (fun j => if j = k then (S k).set b x else S j) := by
  have ks : Keeps w (w.setCell ⟨h k, b, none⟩ (.int .i64 (x : Int))) [some (h k)] := (Keeps.refl w [some (h k)]).setCell (p := ⟨h k, b, none⟩) (by simp) _
  obtain ⟨cs, hb, rest⟩ := t.blk
  refine ⟨⟨cs, blk_seto hb _ (t.ne hk) _, rest⟩, fun j hj => ?_, t.inj, t.ge, t.bel.setCell (p := ⟨h k, b, none⟩) ((t.own k hk).lt (h k) rfl).1 _⟩
  by_cases e : j = k
  · subst e
    rw [if_pos rfl]
    have := (World.ownsRow.stored (t.own j hk) b (.int .i64 (x : Int))).1
    have e2 : nv ((S j).set b x) = (nv (S j)).set b (.int .i64 (x : Int)) := by simp [nv, List.map_set]
    rw [e2]; exact this
  · rw [if_neg e]
    exact owns_keeps (t.own j hj) ks (.inr (by simp only [Value.ownBlock, List.mem_singleton, Option.some.injEq]; exact t.inj j k hj hk e))
/-- one more row made -/
theorem TbM.make (t : TbM w0 w g A n c h m S) (hm : m < 21) (hn : n ≤ 1099511627776) : TbM w0 ((w.alloc (.cells (madeCells #[.int .i64 0] n) 2)).setCell ⟨g, 1 + m, none⟩ (.slice (some ⟨w.heap.size, 0, none⟩) n n)) g A n c (fun k => if k = m then w.heap.size else h k) (m + 1) (fun k => if k = m then List.replicate n 0 else S k) := by
  have hlt := t.lt
  have t1 := t.below ((Below.refl _ _).alloc (Nat.le_refl _) (.cells (madeCells #[.int .i64 0] n) 2))
  have ho := made_own w w0.heap.size n t.bel.size hn
  have ks : Keeps (w.alloc (.cells (madeCells #[.int .i64 0] n) 2)) ((w.alloc (.cells (madeCells #[.int .i64 0] n) 2)).setCell ⟨g, 1 + m, none⟩ (.slice (some ⟨w.heap.size, 0, none⟩) n n)) [some g] := (Keeps.refl _ [some g]).setCell (p := ⟨g, 1 + m, none⟩) (by simp) _
  obtain ⟨cs, hb, hs, h0, hc⟩ := t1.blk
  refine ⟨⟨cs.setIfInBounds (1 + m) (.slice (some ⟨w.heap.size, 0, none⟩) n n), heap_setCell_same _ _ _ _ _ _ hb, by simp [hs], ?_, ?_⟩, ?_, ?_, t.ge, t1.bel.setCell (p := ⟨g, 1 + m, none⟩) t.ge _⟩
  · rw [Array.getElem?_setIfInBounds]; rw [if_neg (by omega)]; exact h0
  · intro k hk
    rw [Array.getElem?_setIfInBounds]
    by_cases e : k = m
    · subst e; rw [if_pos rfl, if_pos (by rw [hs]; omega)]; simp
    · rw [if_neg (by omega)]; simp only [if_neg e]; exact hc k (by omega)
  · intro k hk
    by_cases e : k = m
    · subst e
      simp only [if_true]
      have e2 : nv (List.replicate n 0) = iv (List.replicate n 0) := by simp [nv, iv]
      rw [e2]
      exact owns_keeps ho ks (.inr (by simp [Value.ownBlock]; omega))
    · simp only [if_neg e]
      exact owns_keeps (t1.own k (by omega)) ks (.inr (by simp only [Value.ownBlock, List.mem_singleton, Option.some.injEq]; exact t.ne (k := k) (by omega)))
  · intro k j hk hj hne
    have hl : ∀ i, i < m → h i < w.heap.size := fun i hi => ((t.own i hi).lt (h i) rfl).2
    by_cases e : k = m
    · by_cases e2 : j = m
      · omega
      · simp only [if_pos e, if_neg e2]; have := hl j (by omega); omega
    · by_cases e2 : j = m
      · simp only [if_neg e, if_pos e2]; have := hl k (by omega); omega
      · simp only [if_neg e, if_neg e2]; exact t.inj k j (by omega) (by omega) hne
theorem TbM.drew (t : TbM w0 w g A n c h m S) : TbM w0 w.drew g A n c h m S := t.below (Below.drew (Below.refl _ _))
end
end Go.Proofs.YtdkmdmpaflgfaaaGreatDoor

namespace Go.Proofs.YtdkmdmpaflgfaaaGreatDoor
open Go.RowKit

def sq2 (n b k : Nat) : List Nat := if k = 0 then (List.range n).map fun i => if i < b then 2 ^ i else 0 else List.replicate n 0
theorem sq2_len (n b k : Nat) : (sq2 n b k).length = n := by unfold sq2; split <;> simp
theorem sq2_zero (n k : Nat) : sq2 n 0 k = List.replicate n 0 := by
  unfold sq2; split
  · apply List.ext_getElem (by simp)
    intro i h1 h2; simp
  · rfl
theorem sq2_succ (n b j : Nat) (hb : b < n) : (if j = 0 then (sq2 n b 0).set b (2 ^ b) else sq2 n b j) = sq2 n (b + 1) j := by
  by_cases h : j = 0
  · subst h
    rw [if_pos rfl]
    unfold sq2
    rw [if_pos rfl, if_pos rfl]
    apply List.ext_getElem (by simp)
    intro i h1 h2
    rw [List.getElem_set]
    simp only [List.getElem_map, List.getElem_range]
    by_cases e : b = i
    · subst e; simp
    · rw [if_neg e]
      by_cases e2 : i < b
      · rw [if_pos e2, if_pos (by omega)]
      · rw [if_neg e2, if_neg (by omega)]
  · rw [if_neg h]; unfold sq2; rw [if_neg h, if_neg h]
theorem sq2_all (n k : Nat) : sq2 n n k = sqRow [] n k := by
  unfold sq2 sqRow sqOr
  apply List.ext_getElem (by split <;> simp)
  intro i h1 h2
  have hi : i < n := by simpa using h2
  by_cases h : k = 0
  · simp [h, hi]
  · simp [h]
theorem owns_getN {w : World} {B g n c k : Nat} {ys : List Nat} (h : w.ownsRow B 2 1 (.slice (some ⟨g, 0, none⟩) n c) n (nv ys)) (hl : ys.length = n) (hk : k < n) : w.cell? ⟨g, k, none⟩ = some (.int .i64 ((ys.getD k 0 : Nat) : Int)) := by
  rw [h.cellAt k (by omega)]; simp [nv, List.getD, show k < ys.length by omega]
theorem pow2_bd {d : Nat} (h : d ≤ 16) : (0 : Int) ≤ 2 ^ d ∧ (2 : Int) ^ d ≤ 65536 := by
  have : (2 : Nat) ^ d ≤ 2 ^ 16 := Nat.pow_le_pow_right (by omega) h
  have e : ((2 ^ d : Nat) : Int) = (2 : Int) ^ d := by simp
  exact ⟨by rw [← e]; exact Int.natCast_nonneg _, by rw [← e]; exact Int.le_trans (Int.ofNat_le.2 this) (by decide)⟩
theorem sqOr_take (Q : List (List Int)) {q : Nat} (hq : q < Q.length) (k i : Nat) : sqOr (Q.take (q + 1)) k i = sqStep k i (sqOr (Q.take q) k i) (Q.getD q []) := by
  unfold sqOr; exact fold_take_succ _ _ _ _ _ hq
theorem sqRow_step (Q : List (List Int)) (n q : Nat) (hq : q < Q.length) (i0 i1 j : Nat) (h0 : (Q.getD q []).getD 0 0 = (i0 : Int)) (h1 : (Q.getD q []).getD 1 0 = (i1 : Int)) :
    (if j = i0 then (sqRow (Q.take q) n i0).set i1 (orr ((sqRow (Q.take q) n i0).getD i1 0) (2 ^ ((Q.getD q []).getD 2 0).toNat)) else sqRow (Q.take q) n j) = sqRow (Q.take (q + 1)) n j := by
  apply List.ext_getElem (by split <;> simp [sqRow])
  intro i h2 h3
  have hi : i < n := by simpa [sqRow] using h3
  have e3 : (sqRow (Q.take (q + 1)) n j)[i] = sqStep j i (sqOr (Q.take q) j i) (Q.getD q []) := by
    simp only [sqRow, List.getElem_map, List.getElem_range]; exact sqOr_take Q hq j i
  rw [e3]
  unfold sqStep
  rw [h0, h1]
  by_cases e : j = i0
  · subst e
    simp only [if_true]
    rw [List.getElem_set]
    by_cases e4 : i1 = i
    · subst e4; rw [if_pos rfl, if_pos ⟨trivial, rfl⟩, sqRow_getD _ hi]
    · rw [if_neg e4, if_neg (show ¬ (True ∧ (i1 : Int) = (i : Int)) from fun h => e4 (by have := h.2; omega))]; simp [sqRow]
  · simp only [if_neg e]
    rw [if_neg (show ¬ ((i0 : Int) = (j : Int) ∧ (i1 : Int) = (i : Int)) from fun h => e (by have := h.1; omega))]; simp [sqRow]
theorem Shp.take {xs : List Int} {Q : List (List Int)} (h : Shp xs Q) (q : Nat) : Shp xs (Q.take q) := by
  have e : ∀ i, i < (Q.take q).length → (Q.take q).getD i [] = Q.getD i [] := fun i hi => by
    rw [List.length_take] at hi
    simp only [List.getD, List.getElem?_take, if_pos (show i < q by omega)]
  refine ⟨h.len, h.deg, h.srt, fun i hi => ?_, fun k hk => ?_⟩
  · rw [e i (by omega), e (i + 1) hi]; exact h.asc i (by rw [List.length_take] at hi; omega)
  · rw [e k hk]; exact h.ent k (by rw [List.length_take] at hk; omega)
theorem sqOr_sm {xs : List Int} {Q : List (List Int)} (h : Shp xs Q) (q k i : Nat) (hi : i < xs.length) : Sm (sqOr (Q.take q) k i) := by
  rw [sqOr_act (h.take q)]
  have := act_lt (h.take q) (v := 2 ^ i) (pow_lt_pow hi) (k : Int)
  have h2 : 2 ^ xs.length ≤ 2 ^ 16 := Nat.pow_le_pow_right (by omega) h.len
  unfold Sm
  omega
set_option maxRecDepth 100000 in
set_option maxHeartbeats 2000000 in
theorem tableOf_any (A A' : Option Addr) (n c m c' : Nat) (xs : List Int) (L : List Row) (w : World) (hn : n = xs.length) (hm : m = L.length) (hm1 : m ≤ 1048576) (hs : Shp xs (dat L)) (hR' : RdR w A' L) :
    Calls Tryz.prog 81 #[.agg #[.slice A n c, .slice A' m c']] w fun e w' => ∃ g h, e = .returned (.pointer (some ⟨g, 0, none⟩)) ∧ TbM w w' g A n c h 21 (sqRow (dat L) n) := by
  have hn16 : n ≤ 16 := by rw [hn]; exact hs.len
  have hk0 := blk_new w (.cells #[.slice A n c, .slice A' m c'] 30)
  obtain ⟨x0, x1, xf0, xf1, lx⟩ := blk2cells hk0
  have hmk := run_make_row' (P := Tryz.prog) 22 2 (.int .i64 0) 8 Tryz.underlying22 infoI rfl .i64 .i64 n (by omega) (by omega)
  have HS := Lib.hid hs
  have HR' := Lib.hid hR'
  have Hn := Lib.hid hn
  have Hm := Lib.hid hm
  have HMK := Lib.hid hmk
  clear hs hR' hn hm hk0 hmk
  go_enter Tryz.func81, Tryz.ntmps81
  go_wp2_with fail
  clear x0 x1 xf0 xf1 lx
  go_loopw [12] (fun i wr => ∃ k : Nat, ∃ h : Nat → Nat, k ≤ 21 ∧ i = .int .i64 k ∧ TbM w wr (w.heap.size + 1) A n c h k (fun _ => List.replicate n 0) ∧ wr.heap[w.heap.size]? = some (.cells #[.slice A n c, .slice A' m c'] 30 (0, 0))) (fun i _ => 21 - (intOf i).toNat)
  case atStart =>
    refine ⟨0, fun _ => 0, by omega, rfl, ⟨⟨_, blk_new1 w _ _, rfl, rfl, fun k hk => by omega⟩, fun k hk => by omega, fun k j hk => by omega, by omega, ((Below.refl _ _).alloc (Nat.le_refl _) _).alloc (by simp) _⟩, blk_alloc (blk_new w _) _⟩
  case round =>
    obtain ⟨k, h, hk, rfl, ht, hblk⟩ := hrel
    have HT := Lib.hid ht
    have HB := Lib.hid hblk
    have hglt := ht.lt
    by_cases hlt : k < 21
    · obtain ⟨x0, x1, xf0, xf1, lx⟩ := blk2cells hblk
      obtain ⟨old, hold⟩ := ht.old (i := 1 + k) (by omega)
      have hfz := ht.frozen (1 + k)
      have hmk := HMK.out
      have hk21 : (k : Int) < 21 := by omega
      clear ht hblk
      have hks : ((wr.setCell ⟨w.heap.size + 1, 1 + k, none⟩ (.slice (some ⟨wr.heap.size, 0, none⟩) n n)).alloc (.cells (madeCells #[.int .i64 0] n) 2)).drew.cell? ⟨w.heap.size, 0, none⟩ = some (.slice A n c) :=
        ((((Keeps.refl wr [some (w.heap.size + 1)]).setCell (p := ⟨w.heap.size + 1, 1 + k, none⟩) (by simp) _).alloc _).drew).cellSome x0 (by simp)
      have HKS := Lib.hid hks
      clear hks
      go_wp2_with fail
      go_region_held3 (fun w' => w'.cell? ⟨w.heap.size, 0, none⟩ = some (.slice A n c)) (first | exact x0 | exact cell_keep x0 (Below.drew (Below.refl _ _)) | exact cell_keep x0 ((Below.refl _ _).alloc (Nat.le_refl _) _) | exact cell_keep x0 ((Below.refl _ _).alloc (Nat.le_refl _) _).drew | exact HKS.out) (fail)
      clear hmk
      go_wp2_with fail
      go_roundw
      case rel =>
        refine ⟨k + 1, fun j => if j = k then wr.heap.size else h j, by omega, by go_num, ?_, ?_⟩
        · have t1 := HT.out.make hlt (by omega)
          rw [World.setCell_alloc_past _ _ _ _ hglt] at t1
          exact t1.drew.congr (fun j _ => by split <;> rfl)
        · exact (blk_alloc (blk_seto HB.out ⟨w.heap.size + 1, 1 + k, none⟩ (by simp) _) _ : _)
      case measure => simp [intOf]; omega
    · obtain rfl : k = 21 := by omega
      rw [show ((21 : Nat) : Int) = 21 from rfl]
      obtain ⟨x0, x1, xf0, xf1, lx⟩ := blk2cells hblk
      clear ht hblk hglt hlt
      go_wp2_with fail
      go_loopw [28] (fun i wr => ∃ b : Nat, b ≤ n ∧ i = .int .i64 b ∧ TbM w wr (w.heap.size + 1) A n c h 21 (sq2 n b) ∧ wr.heap[w.heap.size]? = some (.cells #[.slice A n c, .slice A' m c'] 30 (0, 0))) (fun i _ => n - (intOf i).toNat)
      case atStart => exact ⟨0, by omega, rfl, HT.out.congr (fun k _ => (sq2_zero n k).symm), HB.out⟩
      case round =>
        obtain ⟨b, hb, rfl, ht, hblk⟩ := hrel
        have HT := Lib.hid ht
        have HB := Lib.hid hblk
        by_cases hlt : b < n
        · have hc0 : wr.cell? ⟨w.heap.size + 1, 1, none⟩ = some (.slice (some ⟨h 0, 0, none⟩) n n) := ht.cell (k := 0) (by omega)
          have ho := ht.own 0 (by omega)
          have hcb := owns_getN ho (sq2_len n b 0) hlt
          have hfz := ho.frozenAt b
          obtain ⟨hp1, hp2⟩ := pow2_bd (d := b) (by omega)
          have HE : Hid (((2 ^ b : Nat) : Int) = (2 : Int) ^ b) := Lib.hid (by simp)
          generalize (sq2 n b 0).getD b 0 = oldv at *
          clear ht hblk ho x0 x1 xf0 xf1 lx
          go_wp2_with fail
          go_still_tail 9, (by kernel_rfl)
          go_wp2_with fail
          go_roundw
          case rel =>
            refine ⟨b + 1, by omega, by go_num, ?_, ?_⟩
            · have t1 := HT.out.store (k := 0) (by omega) b (2 ^ b)
              rw [HE.out] at t1
              exact t1.drew.congr (fun j _ => sq2_succ n b j hlt)
            · exact blk_seto HB.out ⟨h 0, b, none⟩ (by have := own_ne_blk (HT.out.own 0 (by omega)) HB.out (by decide); simpa [Value.ownBlock] using this) _
          case measure => simp [intOf]; omega
        · obtain rfl : b = n := by omega
          have HT3 := Lib.hid (ht.congr (fun k _ => sq2_all b k))
          obtain ⟨x0, x1, xf0, xf1, lx⟩ := blk2cells hblk
          clear ht hblk HT
          go_wp2_with fail
          go_loopw [44] (fun i wr => ∃ q : Nat, q ≤ m ∧ i = .int .i64 q ∧ TbM w wr (w.heap.size + 1) A b c h 21 (sqRow ((dat L).take q) b) ∧ wr.heap[w.heap.size]? = some (.cells #[.slice A b c, .slice A' m c'] 30 (0, 0))) (fun i _ => m - (intOf i).toNat)
          case atStart => exact ⟨0, by omega, rfl, HT3.out, HB.out⟩
          case round =>
            obtain ⟨q, hq, rfl, ht, hblk⟩ := hrel
            have HT := Lib.hid ht
            have HB := Lib.hid hblk
            by_cases hlt : q < m
            · have hqL : q < L.length := by rw [← Hm.out]; exact hlt
              have hR1 := HR'.out.below ht.bel
              obtain ⟨bR, oR, rfl, hcell⟩ := hR1.at_ hqL
              have hin := hR1.inn q hqL
              have hent := HS.out.ent q (by rw [dat_length]; exact hqL)
              have HSX := Lib.hid (fun (i0 i1 : Nat) (j : Nat) => sqRow_step (dat L) b q (by rw [dat_length]; exact hqL) i0 i1 j)
              have HSM := Lib.hid (fun (i0 i1 : Nat) (h1 : i1 < b) => sqOr_sm HS.out q i0 i1 (by rw [← Hn.out]; exact h1))
              have h20 := hent.le20 HS.out.deg
              rw [dat_getD] at hent HSX h20
              generalize rg L q = r at *
              obtain ⟨rA, rc, rx⟩ := r
              simp only at hcell hin hent HSX h20
              have hl3 := hent.len
              rw [hl3] at hcell
              obtain ⟨b1, o1, rfl, hy0⟩ := hin.atI (k := 0) (by omega)
              rw [Nat.add_zero] at hy0
              have hy1 := hin.cellI (k := 1) (by omega)
              have hy2 := hin.cellI (k := 2) (by omega)
              have hlo0 := hent.pos
              have hlo1 := hent.lo1
              have hhi1 := hent.hi1
              have hlo2 := hent.lo2
              have hhi2 := hent.hi2
              rw [← Hn.out] at hhi1 hhi2
              clear hent hin hR1 hl3
              generalize rx.getD 0 0 = e0 at *
              generalize rx.getD 1 0 = e1 at *
              generalize rx.getD 2 0 = e2 at *
              obtain ⟨i0, rfl⟩ := Int.eq_ofNat_of_zero_le (show 0 ≤ e0 by omega)
              obtain ⟨i1, rfl⟩ := Int.eq_ofNat_of_zero_le hlo1
              obtain ⟨i2, rfl⟩ := Int.eq_ofNat_of_zero_le hlo2
              have hi0 : i0 < 21 := by omega
              have hi0' : (i0 : Int) < 21 := by omega
              have hi1 : i1 < b := by omega
              have hi1' : (i1 : Int) < (b : Int) := by omega
              have hi2 : i2 ≤ 16 := by omega
              have hc0 := ht.cell (k := i0) hi0
              have ho := ht.own i0 hi0
              have hcb := owns_getN ho (sqRow_length _ _ _) hi1
              have hfz := ho.frozenAt i1
              obtain ⟨hp1, hp2⟩ := pow2_bd (d := i2) hi2
              have HE : Hid (((2 ^ i2 : Nat) : Int) = (2 : Int) ^ i2) := Lib.hid (by simp)
              have hsm := HSM.out i0 i1 hi1
              rw [← sqRow_getD _ hi1] at hsm
              have hor := i64_or_nat (b := 2 ^ i2) hsm (show Sm (2 ^ i2) from Nat.lt_of_le_of_lt (Nat.pow_le_pow_right (by omega) hi2) (by omega))
              rw [HE.out] at hor
              have HST := Lib.hid (HT.out.store (k := i0) hi0 i1 (orr ((sqRow (List.take q (dat L)) b i0).getD i1 0) (2 ^ i2)))
              have HSTEP := Lib.hid (fun j => HSX.out i0 i1 j rfl rfl)
              rw [Int.toNat_natCast] at HSTEP
              generalize (sqRow (List.take q (dat L)) b i0).getD i1 0 = oldv at *
              clear ht hblk ho x0 x1 xf0 xf1 lx hsm
              go_wp2_with fail
              go_still_tail 19, (by kernel_rfl)
              have HOR := Lib.hid hor
              clear hor
              go_wp2_with fail
              go_roundw
              case rel => exact ⟨q + 1, by omega, by go_num, by rw [HOR.out]; exact HST.out.drew.congr (fun j _ => HSTEP.out j), blk_seto HB.out ⟨h i0, i1, none⟩ (by have := own_ne_blk (HT.out.own i0 hi0) HB.out (by decide); simpa [Value.ownBlock] using this) _⟩
              case measure => simp [intOf]; omega
            · obtain rfl : q = m := by omega
              have he : (dat L).take q = dat L := List.take_of_length_le (by rw [dat_length, ← Hm.out]; exact Nat.le_refl _)
              rw [he] at HT
              clear ht hblk he
              go_wp2_with fail
              go_ret
              exact ⟨_, h, rfl, HT.out⟩
end Go.Proofs.YtdkmdmpaflgfaaaGreatDoor

namespace Go.Proofs.YtdkmdmpaflgfaaaGreatDoor
open Go.RowKit

/-- the table of a module, to be read -/
structure TblAt (w : World) (g : Nat) (A : Option Addr) (n c : Nat) (Q : List (List Int)) : Prop where
  c0 : w.cell? ⟨g, 0, none⟩ = some (.slice A n c)
  row : ∀ k, k < 21 → ∃ h, w.cell? ⟨g, 1 + k, none⟩ = some (.slice (some ⟨h, 0, none⟩) n n) ∧ Rd w (some ⟨h, 0, none⟩) (nv (sqRow Q n k))
theorem TbM.rd {w0 w : World} {g : Nat} {A : Option Addr} {n c : Nat} {h : Nat → Nat} {Q : List (List Int)} (t : TbM w0 w g A n c h 21 (sqRow Q n)) : TblAt w g A n c Q :=
  ⟨t.cell0, fun k hk => ⟨h k, t.cell hk, owns_Rd (t.own k hk)⟩⟩
theorem TblAt.below {w w' : World} {g : Nat} {A : Option Addr} {n c : Nat} {Q : List (List Int)} (t : TblAt w g A n c Q) (hb : Below w.heap.size w w') : TblAt w' g A n c Q :=
  ⟨cell_keep t.c0 hb, fun k hk => by obtain ⟨h, h1, h2⟩ := t.row k hk; exact ⟨h, cell_keep h1 hb, h2.below hb⟩⟩
theorem sm_of_len {xs : List Int} {v : Nat} (h : xs.length ≤ 16) (hv : v < 2 ^ xs.length) : Sm v := by
  have h2 : 2 ^ xs.length ≤ 2 ^ 16 := Nat.pow_le_pow_right (by omega) h
  unfold Sm; omega
theorem sqRow_sm {xs : List Int} {Q : List (List Int)} (h : Shp xs Q) (k : Nat) : ∀ r ∈ sqRow Q xs.length k, Sm r := by
  intro r hr
  unfold sqRow at hr
  rw [List.mem_map] at hr
  obtain ⟨i, hi, rfl⟩ := hr
  rw [List.mem_range] at hi
  rw [sqOr_act h]
  exact sm_of_len h.len (act_lt h (pow_lt_pow hi) _)

set_option maxHeartbeats 1000000 in
theorem square_any (g : Nat) (A : Option Addr) (n c : Nat) (xs : List Int) (Q : List (List Int)) (z y : Int) (v : Nat) (w : World) (hn : n = xs.length) (hs : Shp xs Q) (hz : 0 ≤ z) (hy : y = (v : Int)) (hv : v < 2 ^ xs.length) (ht : TblAt w g A n c Q) :
    Calls Tryz.prog 129 #[.pointer (some ⟨g, 0, none⟩), .int .i64 z, .int .i64 y] w fun e w' => e = .returned (.int .i64 (act Q z v : Nat)) ∧ w = w' := by
  subst hy
  by_cases hb : 20 < z
  · have HE := Lib.hid (act_big hs hb v)
    clear ht hn hs
    go_enter Tryz.func129, Tryz.ntmps129
    go_wp2_with fail
    go_ret
    exact ⟨by rw [HE.out]; rfl, rfl⟩
  · obtain ⟨k, rfl⟩ := Int.eq_ofNat_of_zero_le hz
    obtain ⟨h, h1, h2⟩ := ht.row k (by omega)
    have hT := times_any (some ⟨h, 0, none⟩) n n (sqRow Q n k) v w (sqRow_length _ _ _).symm (by have := hs.len; omega) (sm_of_len hs.len hv) (by rw [hn]; exact sqRow_sm hs k) h2
    have hE := sq_times hs k hv
    rw [← hn] at hE
    rw [hE] at hT
    have HT := Lib.hid hT
    have hk : (k : Int) < 21 := by omega
    clear ht h2 hT hE hn hs
    go_enter Tryz.func129, Tryz.ntmps129
    go_wp2_with fail
    refine HT.out.mono ?_
    rintro e w' ⟨rfl, rfl⟩
    go_wp2_with fail
    go_ret
    exact ⟨rfl, rfl⟩

def relF (a b j : Nat) : List Nat := (List.range j).filter (relB a b)
theorem relF_yes {a b j : Nat} (h : relB a b j = true) : relF a b (j + 1) = relF a b j ++ [j] := by unfold relF; rw [List.range_succ, List.filter_append]; simp [h]
theorem relF_no {a b j : Nat} (h : relB a b j = false) : relF a b (j + 1) = relF a b j := by unfold relF; rw [List.range_succ, List.filter_append]; simp [h]
theorem relF_len (a b j : Nat) : (relF a b j).length ≤ j := by unfold relF; exact Nat.le_trans (List.length_filter_le _ _) (by simp)
theorem nv_append (S : List Nat) (j : Nat) : nv (S ++ [j]) = nv S ++ [.int .i64 (j : Int)] := by simp [nv]

set_option maxHeartbeats 2000000 in
theorem relation_any (a b : Nat) (w : World) (ha : 1 ≤ a) (hab : a < 2 * b) (hb1 : a + b ≤ 1000) :
    Calls Tryz.prog 128 #[.int .i64 a, .int .i64 b] w fun e w' => ∃ g k cap, e = .returned (.slice (some ⟨g, 0, none⟩) k cap) ∧ Hid (k = (relN a b).length) ∧ w'.ownsRow w.heap.size 2 1 (.slice (some ⟨g, 0, none⟩) k cap) k (nv (relN a b)) ∧ Below w.heap.size w w' := by
  go_enter Tryz.func128, Tryz.ntmps128
  go_wp2_with fail
  go_loopw [5, 6] (fun v s6 wr => ∃ j g k cap : Nat, j ≤ a / 2 + 1 ∧ s6 = .int .i64 j ∧ v = .slice (some ⟨g, 0, none⟩) k cap ∧ k ≤ j ∧ Hid (k = (relF a b j).length) ∧ wr.ownsRow w.heap.size 2 1 (.slice (some ⟨g, 0, none⟩) k cap) k (nv (relF a b j)) ∧ Below w.heap.size w wr) (fun _ i _ => a / 2 + 1 - (intOf i).toNat)
  case atStart => exact ⟨0, w.heap.size, 0, 0, by omega, rfl, rfl, by omega, Lib.hid rfl, World.ownsRow_made w #[] 0 (Nat.le_refl _) (by decide) (by simp), (Below.refl _ _).alloc (Nat.le_refl _) _⟩
  case round =>
    obtain ⟨j, g, k, cap, hj, rfl, rfl, hkj, HK, hown, hbel⟩ := hrel
    have HO := Lib.hid hown
    have HB := Lib.hid hbel
    have hsz := hbel.size
    by_cases h2 : 2 * j ≤ a
    · have h2' : 2 * (j : Int) ≤ (a : Int) := by omega
      have hand := i64_and_nat (a := b - j - 1) (b := a - 2 * j) (by unfold Sm; omega) (by unfold Sm; omega)
      have e1 : ((b - j - 1 : Nat) : Int) = (b : Int) - j - 1 := by omega
      have e2 : ((a - 2 * j : Nat) : Int) = (a : Int) - 2 * j := by omega
      have HR : Hid (relB a b j = (an (b - j - 1) (a - 2 * j) == a - 2 * j)) := Lib.hid rfl
      rw [e1, e2] at hand
      clear hown hbel
      cases hrel : relB a b j
      · have hne : ((an (b - j - 1) (a - 2 * j) : Nat) : Int) ≠ (a : Int) - 2 * j := by
          have := HR.out.symm.trans hrel
          rw [beq_eq_false_iff_ne] at this
          omega
        have HF := Lib.hid (relF_no hrel)
        generalize an (b - j - 1) (a - 2 * j) = p at *
        have hnb : ((p : Int) == (a : Int) - 2 * j) = false := by simpa using hne
        clear hrel e1 e2 hne
        go_wp2_with fail
        go_roundw
        case rel => exact ⟨j + 1, g, k, cap, by omega, by go_num, rfl, by omega, by rw [HF.out]; exact HK, by rw [HF.out]; exact HO.out, HB.out⟩
        case measure => simp [intOf]; omega
      · have heq : ((an (b - j - 1) (a - 2 * j) : Nat) : Int) = (a : Int) - 2 * j := by
          have := HR.out.symm.trans hrel
          rw [beq_iff_eq] at this
          omega
        rw [heq] at hand
        have HF := Lib.hid (relF_yes hrel)
        have HK2 : Hid (k + 1 = (relF a b j ++ [j]).length) := Lib.hid (by rw [List.length_append, HK.out]; rfl)
        have hk12 : k < 1099511627776 := by omega
        clear hrel e1 e2 heq
        go_wp2_with (at_builtin; refine wpList_app1 _ _ _ _ _ etI (by rfl) (by rfl) w.heap.size (.slice (some ⟨g, 0, none⟩) k cap) k (nv (relF a b j)) (by rfl) (HO.out.alloc _) _ (.int .i64 (j : Int)) (by rfl) (new_cell _ _ _) (by rfl) hk12 (Nat.le_trans hsz (Nat.le_of_lt (by simp))) ?_; (intro g1 cap1 w1 hown1 hgrow1 hat1 hlt1; have HO1 := Lib.hid hown1; have HB1 := Lib.hid (below_app2 HB.out hsz HO.out hgrow1); clear hown1 hgrow1 hat1 hlt1))
        go_roundw
        case rel => exact ⟨j + 1, g1, k + 1, cap1, by omega, by go_num, rfl, by omega, by rw [HF.out]; exact HK2, by rw [HF.out, nv_append]; exact HO1.out, HB1.out⟩
        case measure => simp [intOf]; omega
    · have h2c : ¬ 2 * (j : Int) ≤ (a : Int) := by omega
      have hj9 : j ≤ 1000 := by omega
      have HE : Hid (relF a b j = relN a b) := Lib.hid (by rw [show j = a / 2 + 1 by omega]; rfl)
      rw [HE.out] at HK HO
      clear hown hbel hj h2
      go_wp2_with fail
      go_ret
      exact ⟨g, k, cap, rfl, HK, HO.out, HB.out⟩
end Go.Proofs.YtdkmdmpaflgfaaaGreatDoor
