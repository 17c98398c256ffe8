/- copies, the span's reduced rows, impl.reduced -/
import Derived.Test.YtchmplpgamekjaaDoorSr
import Derived.Test.YtchmplpgamekjaaDoorSl
import Derived.Maps.AppendAt
import Derived.Deep.AppendLies
namespace Go.Proofs.YtchmplpgamekjaaDoor
open Go.RowKit

/-! ### append of a slice that reads as a list, nil let in, onto an own row -/
section
variable {P : Program} {w : World}
theorem append_nothing (t ty e : TypeId) (i : TypeInfo) (size : Nat) (ht : P.underlying t = some (.slice e)) (hi : P.info? e = some i) (base : Nat)
    (v : Value) (n : Nat) (xs : List Value) (hown : w.ownsRow base e size v n xs) (c : Nat) : (Builtin.append_ #[t, t] ty #[v, .slice none 0 c]).run P w = .ok v w := by
  rcases hown.2 with ⟨rfl, rfl⟩ | ⟨g, cap, cur, rfl, _, _, hnc, _⟩
  · simp [Builtin.append_, run_underlying ht, sizeOf, typeInfo, hi, Builtin.lenOf, Builtin.firstCells]
  · simp [Builtin.append_, run_underlying ht, sizeOf, typeInfo, hi, Builtin.lenOf, Builtin.firstCells, hnc, storeCells]
theorem wpList_appR {ops : Array Oper} {rest : List Oper} {o : Oper} {a : Act} {Q : Exit → Act → World → Prop} (s x : Operand) (t e : TypeId) (bytes : Nat) (E : ET P t e bytes) (hgd : o.guard = none)
    (ho : o.op = .call { callee := .builtin .append, args := #[s, x], argTypes := #[t, t] })
    (base : Nat) (v : Value) (n : Nat) (xs : List Value) (hs : a.eval s = v) (hown : w.ownsRow base e 1 v n xs)
    (A : Option Addr) (m c : Nat) (news : List Value) (hx : a.eval x = .slice A m c) (hm : m = news.length) (hr : Rd w A news) (h1 : ∀ u ∈ news, u.oneCell' = true)
    (hn : n + m < 1099511627776) (hbase : base ≤ w.heap.size)
    (h : ∀ v' w', w'.ownsRow base e 1 v' (n + m) (xs ++ news) → w.grownBy w' v.ownBlock → (v'.ownBlock = v.ownBlock ∨ v'.ownBlock = some w.heap.size) → wpList P ops Q rest (a.put o.dst v') w') : wpList P ops Q (o :: rest) a w := by
  obtain ⟨i, z, hi, hz0, hz1, hz2, hz3⟩ := E.inf
  have hsm := E.small
  have key : ∃ v' w', (Builtin.append_ #[t, t] o.type #[v, .slice A m c]).run P w = .ok v' w' ∧ w'.ownsRow base e 1 v' (n + m) (xs ++ news) ∧ w.grownBy w' v.ownBlock ∧ (v'.ownBlock = v.ownBlock ∨ v'.ownBlock = some w.heap.size) := by
    rcases A with _ | ad
    · have h0 : news = [] := by
        rcases hr with h | ⟨b, o', h, _⟩
        · exact h
        · cases h
      subst h0
      have hm0 : m = 0 := by simpa using hm
      subst hm0
      exact ⟨v, w, append_nothing t o.type e i 1 E.und hi base v n xs hown c, by simpa using hown, World.grownBy.refl w _, .inl rfl⟩
    · have hcells : ∀ j u, news[j]? = some u → w.cell? (ad.add j) = some u := by
        intro j u hj
        rcases hr with h | ⟨b, o', h, hc⟩
        · subst h; simp at hj
        · injection h with h; subst h
          rw [Addr.add_lit]; exact hc j u hj
      obtain ⟨v', w', hrun, h2, h3, _, h5⟩ := run_append_own_at (P := P) w base t o.type e i z 1 bytes E.und hi hz0 hz1 hz2 hz3 (by omega) v n xs hown ad m c news (by omega) hcells h1 (by unfold maxLen; omega)
        (Nat.le_trans (Nat.mul_le_mul (show n + m ≤ 1099511627776 by omega) hsm) (by decide)) hbase
      exact ⟨v', w', hrun, h2, h3, h5⟩
  obtain ⟨v', w', hrun, h2, h3, h4⟩ := key
  refine wpList_plain hgd fun _ hK => ?_
  unfold Oper.wp execOp
  simp only [ho, resolve, invoke, builtin, Sem.run_bind, Sem.run_pure, Result.andThen_ok, List.map_toArray, List.map_cons, List.map_nil, hs, hx, hrun]
  exact hK _ _ (h v' w' h2 h3 h4)
end
theorem nv_one (S : List Nat) : ∀ u ∈ nv S, u.oneCell' = true := by
  intro u hu
  obtain ⟨x, _, rfl⟩ := List.mem_map.1 hu
  rfl
theorem iv_one (S : List Int) : ∀ u ∈ iv S, u.oneCell' = true := by
  intro u hu
  obtain ⟨x, _, rfl⟩ := List.mem_map.1 hu
  rfl

set_option maxHeartbeats 1000000 in
theorem copyOf_any (A : Option Addr) (n c : Nat) (vs : List Value) (w : World) (hn : n = vs.length) (hsm : n ≤ 1000000000) (h1 : ∀ u ∈ vs, u.oneCell' = true) (hR : Rd w A vs) :
    Calls Tryd.prog 117 #[.slice A n c] w fun e w' => ∃ g cap, e = .returned (.slice (some ⟨g, 0, none⟩) n cap) ∧ w'.ownsRow w.heap.size 2 1 (.slice (some ⟨g, 0, none⟩) n cap) n vs ∧ Below w.heap.size w w' := by
  have HR := Lib.hid hR
  have Hn := Lib.hid hn
  have H1 := Lib.hid h1
  clear hR hn h1
  go_enter Tryd.func117, Tryd.ntmps117
  go_wp2_with (at_builtin; refine wpList_appR _ _ _ _ _ etI (by rfl) (by rfl) w.heap.size (.slice (some ⟨w.heap.size, 0, none⟩) 0 0) 0 [] (by rfl) ?_ A n c vs (by rfl) Hn.out ?_ H1.out ?_ ?_ ?_; exact World.ownsRow_made w #[] 0 (Nat.le_refl _) (by decide) (by simp); exact HR.out.alloc _; omega; (simp); (intro v' w' hown hg hat; have HO := Lib.hid hown; have HG := Lib.hid hg; have HA := Lib.hid hat; clear hown hg hat))
  go_ret
  have ho := HO.out
  rw [Nat.zero_add, List.nil_append] at ho
  have hb : Below w.heap.size w w' := ((Below.refl _ _).alloc (Nat.le_refl _) _).grown HG.out (by simp) (fun k hk => by simp [Value.ownBlock] at hk; omega)
  rcases ho.2 with ⟨rfl, _⟩ | ⟨g, cap, cur, rfl, _⟩
  · rcases HA.out with h | h <;> simp [Value.ownBlock] at h
  · exact ⟨g, cap, rfl, ho, hb⟩

/-- the program's comparison of two rows, in every world that holds the table -/
theorem cmp_any (x y : PM) (w : World) (hT : Tab w) : Calls Tryd.prog 122 #[encP x, encP y] w fun e w' => e = .returned (.int .i64 (cfP x y)) ∧ w' = w := by
  have h1 := pivot_any x.1 x.2.1 x.2.2 w hT
  have h2 := pivot_any y.1 y.2.1 y.2.2 w hT
  have hcon := AnyG.cmp_Compare_int Tryd.cmpL (pv x.1 : Nat) (pv y.1 : Nat) w
  change Calls Tryd.prog 123 _ _ _ at hcon
  have H1 := Lib.hid h1
  have H2 := Lib.hid h2
  have H3 := Lib.hid hcon
  clear h1 h2 hcon
  unfold encP cfP
  obtain ⟨x, hx⟩ := x
  obtain ⟨y, hy⟩ := y
  simp only at H1 H2 H3 ⊢
  generalize Lib.compareInt ((pv x : Nat) : Int) ((pv y : Nat) : Int) = r at *
  go_enter Tryd.func122, Tryd.ntmps122
  go_wp2_with (first | (go_at_call 78; (with_reducible refine H1.out.mono ?_); rintro e w' ⟨rfl, rfl⟩) | (go_at_call 78; (with_reducible refine H2.out.mono ?_); rintro e w' ⟨rfl, rfl⟩) | (go_at_call 123; refine H3.out.mono ?_; rintro e w' ⟨rfl, rfl⟩))
  go_ret
  exact ⟨rfl, rfl⟩

theorem tab_sortWorld {w : World} (hT : Tab w) {g off m : Nat} {os : Array Obj} {dk : Array PM} (hg : g ≠ 0) : Tab (sortWorld encP w g off m dk os) := by
  intro j hj
  have h := hT j hj
  have hlt := World.block_lt_of_cell? w _ h
  rw [← h]
  refine World.cell?_of_block ?_
  show ((w.heap.modify g (Sort.onCells (Sort.putCells encP off dk))) ++ os)[0]? = w.heap[0]?
  rw [Array.getElem?_append_left (by simpa using hlt), Array.getElem?_modify, if_neg hg]

set_option maxHeartbeats 1000000 in
/-- (*span).reduced: the rows in order, as a new own row -/
theorem spanReduced_any (B bs : Nat) (v1 v2 : Value) (L : List (Nat × Nat)) (T : List Nat) (w : World) (hTab : Tab w) (hw : 0 < w.heap.size) (hs : SpanAt w B bs v1 v2 L) (hsmall : L.length ≤ 1000000) (hr : Red (r1 L)) (hT : Asc T) (hp : (r1 L).Perm T) :
    Calls Tryd.prog 116 #[.pointer (some ⟨bs, 0, none⟩)] w fun e w' => ∃ v, e = .returned v ∧ w'.ownsRow w.heap.size 2 1 v T.length (nv T) ∧ Below w.heap.size w w' := by
  obtain ⟨A, c, rfl, _, _, _⟩ := owns_shape hs.own1
  have hc := copyOf_any A L.length c (nv (r1 L)) w (by rw [nv_length, r1_length]) (by omega) (nv_one _) (owns_Rd hs.own1)
  obtain ⟨x0, x1, _, _, _⟩ := blk2cells hs.blk
  have hlen : T.length = L.length := by rw [← hp.length_eq, r1_length]
  have HC := Lib.hid hc
  have HLN := Lib.hid hlen
  have HR := Lib.hid hr
  have HA := Lib.hid hT
  have HP := Lib.hid hp
  have HTB := Lib.hid hTab
  clear hc hs hr hT hp hTab hlen
  go_enter Tryd.func116, Tryd.ntmps116
  go_wp2_with fail
  refine HC.out.mono ?_
  rintro e w1 ⟨g, cap, rfl, ho, hb⟩
  have HO := Lib.hid ho
  have HB := Lib.hid hb
  have hg := (ho.lt g rfl)
  have hgw : g < w1.heap.size := hg.2
  have hg0 : g ≠ 0 := by have := hg.1; omega
  have HT1 := Lib.hid (HTB.out.below hb hw)
  clear ho hb hg
  have hne : ∀ r ∈ r1 L, r ≠ 0 ∧ Sm r := HR.out.ne
  by_cases h0 : L.length = 0
  · have hS := fun W => AnyF.slices_SortFunc_none (P := Tryd.prog) (ρ := Tryd.sortL_ren) { Tryd.sortL with } (some ⟨g, 0, none⟩) cap (.func (.func 122) #[] #[]) W
    change ∀ W, Calls Tryd.prog 121 _ _ _ at hS
    have HS := Lib.hid hS
    have hL : L = [] := List.eq_nil_of_length_eq_zero h0
    subst hL
    have hTn : T = [] := List.eq_nil_of_length_eq_zero (by rw [HLN.out]; rfl)
    subst hTn
    clear hS h0 hne
    go_wp2_with (go_at_call 121; refine (HS.out _).mono ?_; rintro e w' ⟨rfl, rfl⟩)
    go_ret
    exact ⟨_, rfl, HO.out, HB.out⟩
  · obtain ⟨hH, hsz⟩ := sort_holds hne HO.out
    have eg : ∀ args w, (callFunc 122 args).run Tryd.prog w = .ok (.enter 122 args) w := enters_of Tryd.func122 (by kernel_rfl) rfl
    have hcr : CmpReads Tryd.prog 122 #[] encP cfP g 0 (pms (r1 L) hne).toArray.size w1 := fun m os dk _ x y => (cmp_any x y _ (tab_sortWorld HT1.out hg0)).mono fun _ _ ⟨he, hw⟩ => ⟨he, 0, by rw [hw]; rfl⟩
    have hS := Any.slices_SortFunc Tryd.sortL encP (fun _ => rfl) cfP swoP 122 #[] g 0 cap (pms (r1 L) hne).toArray w1 eg hcr.lays hH hgw (by rw [hsz]; omega)
    rw [hsz] at hS
    change Calls Tryd.prog 121 _ _ _ at hS
    have HS := Lib.hid hS
    clear hS hcr eg hH
    have hsz' : (pms (r1 L) hne).length = L.length := by simpa using hsz
    clear hsz
    have HSZ := Lib.hid hsz'
    have HNE := Lib.hid hne
    clear h0 hsz'
    go_wp2_with (go_at_call 121; refine HS.out.mono ?_; rintro e w' ⟨rfl, d', q, os, hpm, hst, rfl⟩; have HPM := Lib.hid hpm; have HST := Lib.hid hst; clear hpm hst)
    go_ret
    have hsz : (pms (r1 L) HNE.out).toArray.size = L.length := by simpa using HSZ.out
    have hpm := HPM.out
    have hst := HST.out
    rw [← hsz] at hpm hst
    have hv := sorted_pm (T := T) HR.out (d := (pms (r1 L) HNE.out).toArray) (by simpa using pms_val (r1 L) HNE.out) hpm hst HA.out HP.out
    have hd : d'.size = L.length := by rw [hpm.1]; exact hsz
    obtain ⟨o1, k1⟩ := sort_own HO.out d' hd (q := q) (os := os)
    rw [enc_val, hv] at o1
    refine ⟨_, rfl, own_cast o1 HLN.out.symm rfl, HB.out.trans ?_⟩
    exact k1.to_below HB.out.size (fun j hj => by simp only [List.mem_singleton] at hj; injection hj with hj; rw [hj]; exact (HO.out.lt g rfl).1)
end Go.Proofs.YtchmplpgamekjaaDoor
