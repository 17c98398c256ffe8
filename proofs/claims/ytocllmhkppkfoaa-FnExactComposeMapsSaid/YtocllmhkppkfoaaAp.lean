/- append of a slice that reads as a list, nil let in; copies of slices of ints -/
import Derived.Test.YtocllmhkppkfoaaP
import Derived.Maps.AppendAt
import Derived.Deep.AppendLies
namespace Go.Proofs.Ytocllmhkppkfoaa
open Go.RowKit

/-! ### append of a slice that reads as a list, nil let in, onto an own row -/
section
variable {P : Program} {w : World}
theorem append_nothing (t ty e : TypeId) (i : TypeInfo) (size : Nat) (ht : P.underlying t = some (.slice e)) (hi : P.info? e = some i) (base : Nat)
    (v : Value) (n : Nat) (xs : List Value) (hown : w.ownsRow base e size v n xs) (c : Nat) : (Builtin.append_ #[t, t] ty #[v, .slice none 0 c]).run P w = .ok v w := by
  rcases hown.2 with ⟨rfl, rfl⟩ | ⟨g, cap, cur, rfl, _, _, hnc, _⟩
  · simp [Builtin.append_, run_underlying ht, sizeOf, typeInfo, hi, Builtin.lenOf, Builtin.firstCells]
  · simp [Builtin.append_, run_underlying ht, sizeOf, typeInfo, hi, Builtin.lenOf, Builtin.firstCells, hnc, storeCells]
theorem wp_appR {o : Oper} {a : Act} {K : Act → World → Prop} {Q : Exit → Act → World → Prop} (s x : Operand) (t e : TypeId) (bytes : Nat) (E : ET P t e bytes)
    (ho : o.op = .call { callee := .builtin .append, args := #[s, x], argTypes := #[t, t] })
    (base : Nat) (v : Value) (n : Nat) (xs : List Value) (hs : a.eval s = v) (hown : w.ownsRow base e 1 v n xs)
    (A : Option Addr) (m c : Nat) (news : List Value) (hx : a.eval x = .slice A m c) (hm : m = news.length) (hr : Rd w A news) (h1 : ∀ u ∈ news, u.oneCell' = true)
    (hn : n + m < 1099511627776) (hbase : base ≤ w.heap.size)
    (h : ∀ v' w', w'.ownsRow base e 1 v' (n + m) (xs ++ news) → w.grownBy w' v.ownBlock → (v'.ownBlock = v.ownBlock ∨ v'.ownBlock = some w.heap.size) → K (a.put o.dst v') w') : Oper.wp P o a w K Q := by
  obtain ⟨i, z, hi, hz0, hz1, hz2, hz3⟩ := E.inf
  have hsm := E.small
  have key : ∃ v' w', (Builtin.append_ #[t, t] o.type #[v, .slice A m c]).run P w = .ok v' w' ∧ w'.ownsRow base e 1 v' (n + m) (xs ++ news) ∧ w.grownBy w' v.ownBlock ∧ (v'.ownBlock = v.ownBlock ∨ v'.ownBlock = some w.heap.size) := by
    rcases A with _ | ad
    · have h0 : news = [] := by
        rcases hr with h | ⟨b, o', h, _⟩
        · exact h
        · cases h
      subst h0
      have hm0 : m = 0 := by simpa using hm
      subst hm0
      exact ⟨v, w, append_nothing t o.type e i 1 E.und hi base v n xs hown c, by simpa using hown, World.grownBy.refl w _, .inl rfl⟩
    · have hcells : ∀ j u, news[j]? = some u → w.cell? (ad.add j) = some u := by
        intro j u hj
        rcases hr with h | ⟨b, o', h, hc⟩
        · subst h; simp at hj
        · injection h with h; subst h
          rw [Addr.add_lit]; exact hc j u hj
      obtain ⟨v', w', hrun, h2, h3, _, h5⟩ := run_append_own_at (P := P) w base t o.type e i z 1 bytes E.und hi hz0 hz1 hz2 hz3 (by omega) v n xs hown ad m c news (by omega) hcells h1 (by unfold maxLen; omega)
        (Nat.le_trans (Nat.mul_le_mul (show n + m ≤ 1099511627776 by omega) hsm) (by decide)) hbase
      exact ⟨v', w', hrun, h2, h3, h5⟩
  obtain ⟨v', w', hrun, h2, h3, h4⟩ := key
  unfold Oper.wp execOp
  simp only [ho, resolve, invoke, builtin, Sem.run_bind, Sem.run_pure, Result.andThen_ok, List.map_toArray, List.map_cons, List.map_nil, hs, hx, hrun]
  exact h v' w' h2 h3 h4
theorem wpList_appR {ops : Array Oper} {rest : List Oper} {o : Oper} {a : Act} {Q : Exit → Act → World → Prop} (s x : Operand) (t e : TypeId) (bytes : Nat) (E : ET P t e bytes) (hgd : o.guard = none)
    (ho : o.op = .call { callee := .builtin .append, args := #[s, x], argTypes := #[t, t] })
    (base : Nat) (v : Value) (n : Nat) (xs : List Value) (hs : a.eval s = v) (hown : w.ownsRow base e 1 v n xs)
    (A : Option Addr) (m c : Nat) (news : List Value) (hx : a.eval x = .slice A m c) (hm : m = news.length) (hr : Rd w A news) (h1 : ∀ u ∈ news, u.oneCell' = true)
    (hn : n + m < 1099511627776) (hbase : base ≤ w.heap.size)
    (h : ∀ v' w', w'.ownsRow base e 1 v' (n + m) (xs ++ news) → w.grownBy w' v.ownBlock → (v'.ownBlock = v.ownBlock ∨ v'.ownBlock = some w.heap.size) → wpList P ops Q rest (a.put o.dst v') w') : wpList P ops Q (o :: rest) a w :=
  wpList_plain hgd fun _ hK => wp_appR s x t e bytes E ho base v n xs hs hown A m c news hx hm hr h1 hn hbase fun v' w' h2 h3 h4 => hK _ _ (h v' w' h2 h3 h4)
/-- .. at a step of a region that draws its order -/
theorem step_appR {ops : Array Oper} {o : Oper} {a : Act} {K : Act → World → Prop} {Q : Exit → Act → World → Prop} {E' : Prop} (s x : Operand) (t e : TypeId) (bytes : Nat) (E : ET P t e bytes) (hgd : o.guard = none)
    (ho : o.op = .call { callee := .builtin .append, args := #[s, x], argTypes := #[t, t] })
    (base : Nat) (v : Value) (n : Nat) (xs : List Value) (hs : a.eval s = v) (hown : w.ownsRow base e 1 v n xs)
    (A : Option Addr) (m c : Nat) (news : List Value) (hx : a.eval x = .slice A m c) (hm : m = news.length) (hr : Rd w A news) (h1 : ∀ u ∈ news, u.oneCell' = true)
    (hn : n + m < 1099511627776) (hbase : base ≤ w.heap.size)
    (h : ∀ v' w', w'.ownsRow base e 1 v' (n + m) (xs ++ news) → w.grownBy w' v.ownBlock → (v'.ownBlock = v.ownBlock ∨ v'.ownBlock = some w.heap.size) → K (a.put o.dst v') w') :
    if Region.wanted o (yielded ops a.tmps) = true then Oper.wp P o a w K Q else E' := by
  rw [if_pos (by simp [Region.wanted, hgd])]
  exact wp_appR s x t e bytes E ho base v n xs hs hown A m c news hx hm hr h1 hn hbase h
end
theorem below_app2 {H : Nat} {w wr w1 : World} {v : Value} {n : Nat} {xs : List Value} {e : TypeId} (hb : Below H w wr) (hH : H ≤ wr.heap.size) (hown : wr.ownsRow H e 1 v n xs) {o : Obj} (hg : (wr.alloc o).grownBy w1 v.ownBlock) : Below H w w1 :=
  (hb.alloc hH o).grown hg (by simp; omega) (fun k hk => (hown.lt k hk).1)
theorem iv_append (xs ys : List Int) : iv (xs ++ ys) = iv xs ++ iv ys := by simp [iv]
theorem nv_one (S : List Nat) : ∀ u ∈ nv S, u.oneCell' = true := by
  intro u hu
  obtain ⟨x, _, rfl⟩ := List.mem_map.1 hu
  rfl
theorem iv_one (S : List Int) : ∀ u ∈ iv S, u.oneCell' = true := by
  intro u hu
  obtain ⟨x, _, rfl⟩ := List.mem_map.1 hu
  rfl

set_option maxHeartbeats 1000000 in
theorem copyOf_any (A : Option Addr) (n c : Nat) (vs : List Value) (w : World) (hn : n = vs.length) (hsm : n ≤ 1000000000) (h1 : ∀ u ∈ vs, u.oneCell' = true) (hR : Rd w A vs) :
    Calls Try.prog 46 #[.slice A n c] w fun e w' => ∃ g cap, e = .returned (.slice (some ⟨g, 0, none⟩) n cap) ∧ w'.ownsRow w.heap.size 2 1 (.slice (some ⟨g, 0, none⟩) n cap) n vs ∧ Below w.heap.size w w' := by
  have HR := Lib.hid hR
  have Hn := Lib.hid hn
  have H1 := Lib.hid h1
  clear hR hn h1
  go_enter Try.func46, Try.ntmps46
  go_wp2_with (at_builtin; refine wpList_appR _ _ _ _ _ etI (by rfl) (by rfl) w.heap.size (.slice (some ⟨w.heap.size, 0, none⟩) 0 0) 0 [] (by rfl) ?_ A n c vs (by rfl) Hn.out ?_ H1.out ?_ ?_ ?_; exact World.ownsRow_made w #[] 0 (Nat.le_refl _) (by decide) (by simp); exact HR.out.alloc _; omega; (simp); (intro v' w' hown hg hat; have HO := Lib.hid hown; have HG := Lib.hid hg; have HA := Lib.hid hat; clear hown hg hat))
  go_ret
  have ho := HO.out
  rw [Nat.zero_add, List.nil_append] at ho
  have hb : Below w.heap.size w w' := ((Below.refl _ _).alloc (Nat.le_refl _) _).grown HG.out (by simp) (fun k hk => by simp [Value.ownBlock] at hk; omega)
  rcases ho.2 with ⟨rfl, _⟩ | ⟨g, cap, cur, rfl, _⟩
  · rcases HA.out with h | h <;> simp [Value.ownBlock] at h
  · exact ⟨g, cap, rfl, ho, hb⟩

set_option maxHeartbeats 1000000 in
theorem l01Own_any (A : Option Addr) (n c : Nat) (vs : List Value) (w : World) (hn : n = vs.length) (hsm : n ≤ 1000000000) (h1 : ∀ u ∈ vs, u.oneCell' = true) (hR : Rd w A vs) :
    Calls Try.prog 88 #[.slice A n c] w fun e w' => ∃ g cap, e = .returned (.slice (some ⟨g, 0, none⟩) n cap) ∧ w'.ownsRow w.heap.size 2 1 (.slice (some ⟨g, 0, none⟩) n cap) n vs ∧ Below w.heap.size w w' := by
  have HR := Lib.hid hR
  have Hn := Lib.hid hn
  have H1 := Lib.hid h1
  clear hR hn h1
  go_enter Try.func88, Try.ntmps88
  go_wp2_with (at_builtin; refine wpList_appR _ _ _ _ _ etI (by rfl) (by rfl) w.heap.size (.slice (some ⟨w.heap.size, 0, none⟩) 0 0) 0 [] (by rfl) ?_ A n c vs (by rfl) Hn.out ?_ H1.out ?_ ?_ ?_; exact World.ownsRow_made w #[] 0 (Nat.le_refl _) (by decide) (by simp); exact HR.out.alloc _; omega; (simp); (intro v' w' hown hg hat; have HO := Lib.hid hown; have HG := Lib.hid hg; have HA := Lib.hid hat; clear hown hg hat))
  go_ret
  have ho := HO.out
  rw [Nat.zero_add, List.nil_append] at ho
  have hb : Below w.heap.size w w' := ((Below.refl _ _).alloc (Nat.le_refl _) _).grown HG.out (by simp) (fun k hk => by simp [Value.ownBlock] at hk; omega)
  rcases ho.2 with ⟨rfl, _⟩ | ⟨g, cap, cur, rfl, _⟩
  · rcases HA.out with h | h <;> simp [Value.ownBlock] at h
  · exact ⟨g, cap, rfl, ho, hb⟩

end Go.Proofs.Ytocllmhkppkfoaa
