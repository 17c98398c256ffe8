/- results as laws take them; the laws' own helpers at modules · TopElement: what it answers (no program in sight) · rows of rows of rows: slices of slices of slices of ints (read; compared) · plain mathematics of masks: reduced lists of rows · plain mathematics: the product of a mask and rows · modules: what they are (no program in sight) · masks as lists of digits (no program in sight) · append of a slice that reads as a list, nil let in; copies of slices of ints · counts of partitions up to 14, on both sides · the reference's vectors: l11Unit, l11Act, l11Plus, l01Same, l11Word, l11Words -/
import Derived.Test.YtdkmdmpaflgfaaaGreatDoorBxaa
import Derived.Deep.Onto
import Derived.Deep.RegionHeld3
import Derived.Maps.AppendAt
import Derived.Deep.AppendLies
import Derived.Deep.OwnRows
import Derived.StillTailTactics
set_option linter.all false
namespace Go.Proofs.YtdkmdmpaflgfaaaGreatDoor
open Go.RowKit

/-- a new slice of ints and a code -/
def ResS (r : List Int × Int) (w : World) (e : Ending) (w' : World) : Prop := ∃ v, e = .returned (.tuple #[v, .int .i64 r.2]) ∧ w'.ownsRow w.heap.size 2 1 v r.1.length (iv r.1) ∧ Below w.heap.size w w'
/-- new rows of rows and a code -/
def ResR (r : List (List Int) × Int) (w : World) (e : Ending) (w' : World) : Prop := ∃ v M, e = .returned (.tuple #[v, .int .i64 r.2]) ∧ dat M = r.1 ∧ OwnR w' w.heap.size v M ∧ Below w.heap.size w w'
def ResI (r : Int × Int) (w : World) (e : Ending) (w' : World) : Prop := e = .returned (.tuple #[.int .i64 r.1, .int .i64 r.2]) ∧ Below w.heap.size w w'
def ResB (r : Bool × Int) (w : World) (e : Ending) (w' : World) : Prop := e = .returned (.tuple #[.bool r.1, .int .i64 r.2]) ∧ Below w.heap.size w w'
theorem blk2set0' {w : World} {g : Nat} {u v : Value} {t : TypeId} (h : w.heap[g]? = some (.cells #[u, v] t (0, 0))) (x : Value) : (w.setCell ⟨g, 0, none⟩ x).heap[g]? = some (.cells #[x, v] t (0, 0)) := by
  have := heap_setCell_same w g 0 _ t x h
  simpa using this
theorem blk2set1' {w : World} {g : Nat} {u v : Value} {t : TypeId} (h : w.heap[g]? = some (.cells #[u, v] t (0, 0))) (x : Value) : (w.setCell ⟨g, 1, none⟩ x).heap[g]? = some (.cells #[u, x] t (0, 0)) := by
  have := heap_setCell_same w g 1 _ t x h
  simpa using this
theorem blk_seto {w : World} {g : Nat} {x : Obj} (h : w.heap[g]? = some x) (p : Addr) (hp : p.block ≠ g) (u : Value) : (w.setCell p u).heap[g]? = some x := (Below.heap_setCell w p u g (Ne.symm hp)).trans h
theorem blk_kept {w w' : World} {g : Nat} {x : Obj} (h : w.heap[g]? = some x) (hb : Below w.heap.size w w') : w'.heap[g]? = some x := (hb.block g (Array.getElem?_eq_some_iff.1 h).1).trans h
theorem own_ne_blk {w : World} {B bs n : Nat} {e t : TypeId} {v : Value} {xs : List Value} {cs : Array Value} (h : w.ownsRow B e 1 v n xs) (hb : w.heap[bs]? = some (.cells cs t (0, 0))) (hne : e ≠ t) : v.ownBlock ≠ some bs := by
  rcases h.2 with ⟨rfl, _⟩ | ⟨g, cap, cur, rfl, _, hg, _⟩
  · simp [Value.ownBlock]
  · intro he
    have : g = bs := by simpa [Value.ownBlock] using he
    subst this
    rw [hg] at hb
    injection hb with hb
    injection hb with _ ht
    exact hne ht
theorem eqInts_same (A A' : Option Addr) (n c c' : Nat) (xs : List Int) (w : World) (hn : n = xs.length) (hsm : n ≤ 1099511627776) (hR : Rd w A (iv xs)) (hR' : Rd w A' (iv xs)) :
    Calls Tryz.prog 22 #[.slice A n c, .slice A' n c'] w fun e w' => e = .returned (.bool true) ∧ ∃ m, w.drewN m = w' := by
  have h := eqInts_any A A' n n c c' xs xs w hn hn hsm hsm hR hR'
  rwa [eqI_refl] at h

theorem eqIntsB_any (A A' : Option Addr) (n c c' : Nat) (xs : List Int) (w : World) (hn : n = xs.length) (hsm : n ≤ 1099511627776) (hR : Rd w A (iv xs)) (hR' : Rd w A' (iv xs)) :
    Calls Tryz.prog 22 #[.slice A n c, .slice A' n c'] w fun e w' => e = .returned (.bool true) ∧ Below w.heap.size w w' :=
  (eqInts_same A A' n c c' xs w hn hsm hR hR').mono fun _ _ ⟨he, m, hm⟩ => ⟨he, hm ▸ below_drewN (Below.refl _ _) m⟩
theorem eqRowsB_any (A A' : Option Addr) (n n' c c' : Nat) (L M : List Row) (w : World) (hn : n = L.length) (hn' : n' = M.length) (hsm : n ≤ 1099511627776) (hl : ∀ i, i < L.length → (rg L i).xs.length ≤ 1099511627776) (hd : dat M = dat L) (hR : RdR w A L) (hR' : RdR w A' M) :
    Calls Tryz.prog 36 #[.slice A n c, .slice A' n' c'] w fun e w' => e = .returned (.bool true) ∧ Below w.heap.size w w' :=
  (eqRows_any A A' n n' c c' L M w hn hn' hsm hl hd hR hR').mono fun _ _ ⟨he, m, hm⟩ => ⟨he, hm ▸ below_drewN (Below.refl _ _) m⟩
theorem tot_dat {L M : List Row} (h : dat M = dat L) : tot M = tot L := by
  have e : ∀ X : List Row, tot X = ((dat X).map List.length).sum := fun X => by simp [tot, dat, List.map_map, Function.comp_def]
  rw [e, e, h]
theorem tot_le {L : List Row} {k : Nat} (h : ∀ i, i < L.length → (rg L i).xs.length ≤ k) : tot L ≤ k * L.length := by
  have key : ∀ j, j ≤ L.length → tot (L.take j) ≤ k * j := by
    intro j
    induction j with
    | zero => intro _; simp [tot]
    | succ j ih =>
      intro hj
      rw [tot_succ (by omega)]
      have := ih (by omega)
      have := h j (by omega)
      rw [Nat.mul_succ]; omega
  have := key L.length (Nat.le_refl _)
  rwa [tot_all (Nat.le_refl _)] at this
theorem kb_add1 {a c : Int} {x : Nat} (h : 0 ≤ a ∧ a ≤ c) (hx : x ≤ 1048576) : 0 ≤ a + x ∧ a + x ≤ c + 1048576 := by omega
theorem kb_add2 {a c : Int} {x y : Nat} (h : 0 ≤ a ∧ a ≤ c) (hx : x ≤ 1048576) (hy : y ≤ 1048576) : 0 ≤ a + x + y ∧ a + x + y ≤ c + 2097152 := by omega
theorem rows_small {M : List Row} {r : List (List Int)} (hd : dat M = r) (h : r.length ≤ 1000 ∧ ∀ x ∈ r, x.length ≤ 1000) : M.length ≤ 1000 ∧ tot M ≤ 1000000 ∧ ∀ i, i < M.length → (rg M i).xs.length ≤ 1000 := by
  subst hd
  have h1 : M.length ≤ 1000 := by rw [← dat_length]; exact h.1
  have h2 : ∀ i, i < M.length → (rg M i).xs.length ≤ 1000 := fun i hi => h.2 _ (List.mem_map_of_mem (rg_mem hi))
  exact ⟨h1, Nat.le_trans (tot_le h2) (by omega), h2⟩

/-- A module's memory of the call's own. -/
structure OwnM (w : World) (B : Nat) (vd : Value) (xs : List Int) (va : Value) (L : List Row) : Prop where
  deg : w.ownsRow B 2 1 vd xs.length (iv xs)
  act : OwnR w B va L
  dis : ∀ i, i < L.length → vd.ownBlock = none ∨ vd.ownBlock ≠ (rg L i).val.ownBlock
def UpM (hi : Nat) (vd va : Value) (L : List Row) : Prop := (∀ k, vd.ownBlock = some k → k < hi) ∧ UpR hi va L
theorem OwnM.up {w : World} {B : Nat} {vd va : Value} {xs : List Int} {L : List Row} (h : OwnM w B vd xs va L) : UpM w.heap.size vd va L := ⟨fun k hk => (h.deg.lt k hk).2, h.act.up⟩
def modP (lo hi : Nat) (vd : Value) (xs : List Int) (va : Value) (L : List Row) : Piece :=
  ⟨lo, hi, fun w => OwnM w lo vd xs va L ∧ UpM hi vd va L, fun _ _ hs h => ⟨⟨own_same hs h.1.deg h.2.1, h.1.act.same hs h.2.2, h.1.dis⟩, h.2⟩⟩
section
variable {w0 w w' : World} {L : List Piece}
theorem Inw.mod (h : Inw w0 w L) (i : Nat) {lo hi : Nat} {vd va : Value} {xs : List Int} {M : List Row} (hi' : L[i]? = some (modP lo hi vd xs va M)) : OwnM w lo vd xs va M := (h.get i hi').1
theorem Inw.modUp (h : Inw w0 w L) (i : Nat) {lo hi : Nat} {vd va : Value} {xs : List Int} {M : List Row} (hi' : L[i]? = some (modP lo hi vd xs va M)) : UpM hi vd va M := (h.get i hi').2
theorem Inw.pushMod (h : Inw w0 w L) (hb : Below w.heap.size w w') {vd va : Value} {xs : List Int} {M : List Row} (ho : OwnM w' w.heap.size vd xs va M) : Inw w0 w' (modP w.heap.size w'.heap.size vd xs va M :: L) :=
  h.push hb _ (Nat.le_refl _) (Nat.le_refl _) ⟨ho, ho.up⟩
theorem Inw.markMod (h : Inw w0 w L) (i : Nat) {lo hi : Nat} {vd va : Value} {xs ys : List Int} {M : List Row} {k0 : Int} (hi' : L[i]? = some (modP lo hi vd xs va M)) (hk : Within lo hi w w') (ho : OwnM w' lo vd ys va (marksR k0 M)) : Inw w0 w' (L.set i (modP lo hi vd ys va (marksR k0 M))) := by
  have h1 := h.get i hi'
  exact h.mark i _ hi' rfl rfl hk ⟨ho, h1.2.1, h1.2.2.marks k0⟩
end

def SzMOk (n n' t : Nat) (left z : Int) : Prop := z = -1 ∨ (0 ≤ z ∧ z + n + n' + t = left)
set_option maxHeartbeats 1000000 in
theorem szModule_any (A A' : Option Addr) (n c n' c' : Nat) (L : List Row) (left : Int) (w : World) (hsm : n ≤ 9223372036854775807) (hn' : n' = L.length) (hsm' : n' ≤ 9223372036854775807) (hl : ∀ i, i < L.length → (rg L i).xs.length ≤ 9223372036854775807) (h0 : 0 ≤ left) (h1 : left ≤ 1048576) (hR : RdR w A' L) :
    Calls Tryz.prog 11 #[.agg #[.slice A n c, .slice A' n' c'], .int .i64 left] w fun e w' => ∃ z : Int, e = .returned (.int .i64 z) ∧ SzMOk n n' (tot L) left z ∧ Below w.heap.size w w' := by
  have hb := box2 w (.slice A n c) (.slice A' n' c') 25
  obtain ⟨b0, b1⟩ := hb
  have hR1 := hR.alloc (.cells #[.slice A n c, .slice A' n' c'] 25)
  have hs := fun W => szInts_any A n c left W hsm h0 h1
  by_cases h : left - n < 0
  · rw [show szV n left = -1 by unfold szV; rw [if_pos h]] at hs
    have HS := Lib.hid hs
    clear hs hR hR1 hl hn'
    go_enter Tryz.func11, Tryz.ntmps11
    go_wp2_with (go_at_call 44; refine (HS.out _).mono ?_; rintro e w' ⟨rfl, rfl⟩)
    go_ret
    exact ⟨-1, rfl, .inl rfl, (Below.refl _ _).alloc (Nat.le_refl _) _⟩
  · rw [show szV n left = left - n by unfold szV; rw [if_neg h]] at hs
    have HS := Lib.hid hs
    have HZ := Lib.hid (szRows_any A' n' c' L (left - n) _ hn' hsm' hl (by omega) (by omega) hR1)
    clear hs hR hR1 hl hn'
    go_enter Tryz.func11, Tryz.ntmps11
    go_wp2_with (go_at_call 44; refine (HS.out _).mono ?_; rintro e w' ⟨rfl, rfl⟩)
    refine HZ.out.mono ?_
    rintro e w' ⟨z, rfl, hz, rfl⟩
    rcases hz with rfl | ⟨hz0, hz1⟩
    · go_wp2_with fail
      go_ret
      exact ⟨-1, rfl, .inl rfl, (Below.refl _ _).alloc (Nat.le_refl _) _⟩
    · go_wp2_with fail
      go_ret
      exact ⟨z, rfl, .inr ⟨hz0, by omega⟩, (Below.refl _ _).alloc (Nat.le_refl _) _⟩

set_option maxRecDepth 100000 in
set_option maxHeartbeats 2000000 in
theorem toModule_any (A A' : Option Addr) (n c n' c' : Nat) (xs : List Int) (L : List Row) (w : World) (hn : n = xs.length) (hsm : n ≤ 1048576) (hR : Rd w A (iv xs)) (hn' : n' = L.length) (hsm' : n' ≤ 1048576) (hl : ∀ i, i < L.length → (rg L i).xs.length ≤ 1048576) (hR' : RdR w A' L) :
    Calls Tryz.prog 13 #[.agg #[.slice A n c, .slice A' n' c']] w fun e w' => ∃ g g' M, e = .returned (.agg #[.slice (some ⟨g, 0, none⟩) n n, .slice (some ⟨g', 0, none⟩) n' n']) ∧ dat M = dat L ∧ OwnM w' w.heap.size (.slice (some ⟨g, 0, none⟩) n n) xs (.slice (some ⟨g', 0, none⟩) n' n') M ∧ Below w.heap.size w w' := by
  have hk1 := blk_alloc (blk_alloc (blk_new w (.cells #[.slice A n c, .slice A' n' c'] 25)) (.cells #[.slice none 0 0, .slice none 0 0] 30)) (.cells #[.slice none 0 0, .slice none 0 0] 30)
  have hk2 := blk_alloc (blk_new1 w (.cells #[.slice A n c, .slice A' n' c'] 25) (.cells #[.slice none 0 0, .slice none 0 0] 30)) (.cells #[.slice none 0 0, .slice none 0 0] 30)
  have hk3 := blk_new2 w (.cells #[.slice A n c, .slice A' n' c'] 25) (.cells #[.slice none 0 0, .slice none 0 0] 30) (.cells #[.slice none 0 0, .slice none 0 0] 30)
  have hbel : Below w.heap.size w (((w.alloc (.cells #[.slice A n c, .slice A' n' c'] 25)).alloc (.cells #[.slice none 0 0, .slice none 0 0] 30)).alloc (.cells #[.slice none 0 0, .slice none 0 0] 30)) := (((Below.refl _ _).alloc (Nat.le_refl _) _).alloc (by simp) _).alloc (by simp; omega) _
  have HC1 := Lib.hid (toInts_any A n c xs _ hn hsm (hR.below hbel))
  have HK1 := Lib.hid hk1
  have HK2 := Lib.hid hk2
  have HK3 := Lib.hid hk3
  have HB := Lib.hid hbel
  have HC2 := Lib.hid (fun W (hb : Below w.heap.size w W) => toRows_any A' n' c' L W hn' hsm' hl (hR'.below hb))
  have HN := Lib.hid hn
  clear hk1 hk2 hk3 hbel hR hR' hn hn' hl
  go_enter Tryz.func13, Tryz.ntmps13
  go_wp2_with fail
  refine HC1.out.mono ?_
  rintro e w1 ⟨g, rfl, ho, hb⟩
  have HK1a := Lib.hid (blk_kept HK1.out hb)
  have HK2a := Lib.hid (blk_kept HK2.out hb)
  have HK3a := Lib.hid (blk_kept HK3.out hb)
  obtain ⟨x0, x1, xf0, xf1, lx⟩ := blk2cells HK1a.out
  obtain ⟨y0, y1, yf0, yf1, ly⟩ := blk2cells HK2a.out
  obtain ⟨z0, z1, zf0, zf1, lz⟩ := blk2cells HK3a.out
  have HB1 := Lib.hid (HB.out.trans (hb.mono HB.out.size))
  have HO1 := Lib.hid (ho.mono (show w.heap.size ≤ _ by simp; omega))
  clear ho hb
  go_wp2_with fail
  have HK1b := Lib.hid (blk_seto HK1a.out ⟨w.heap.size + 1 + 1, 0, none⟩ (by simp; omega) (.slice (some ⟨g, 0, none⟩) n n))
  have HK2b := Lib.hid (blk_seto HK2a.out ⟨w.heap.size + 1 + 1, 0, none⟩ (by simp) (.slice (some ⟨g, 0, none⟩) n n))
  have HK3b := Lib.hid (blk2set0' HK3a.out (.slice (some ⟨g, 0, none⟩) n n))
  have HB2 := Lib.hid (HB1.out.setCell (p := ⟨w.heap.size + 1 + 1, 0, none⟩) (by simp; omega) (.slice (some ⟨g, 0, none⟩) n n))
  have HO2 := Lib.hid (owns_keeps HO1.out ((Keeps.refl w1 [some (w.heap.size + 1 + 1)]).setCell (p := ⟨w.heap.size + 1 + 1, 0, none⟩) (by simp) (.slice (some ⟨g, 0, none⟩) n n)) (.inr (by have := own_ne_blk HO1.out HK3a.out (by decide); simpa using this)))
  have HC3 := Lib.hid (HC2.out _ HB2.out)
  clear HC2 HC1
  refine HC3.out.mono ?_
  clear x0 x1 xf0 xf1 lx y0 y1 yf0 yf1 ly z0 z1 zf0 zf1 lz HC3
  rintro e w2 ⟨g', M, rfl, hd, ho, hb⟩
  have HK1c := Lib.hid (blk_kept HK1b.out hb)
  have HK2c := Lib.hid (blk_kept HK2b.out hb)
  have HK3c := Lib.hid (blk_kept HK3b.out hb)
  obtain ⟨x0, x1, xf0, xf1, lx⟩ := blk2cells HK1c.out
  obtain ⟨y0, y1, yf0, yf1, ly⟩ := blk2cells HK2c.out
  obtain ⟨z0, z1, zf0, zf1, lz⟩ := blk2cells HK3c.out
  have HD := Lib.hid hd
  have HB3 := Lib.hid (HB2.out.trans (hb.mono HB2.out.size))
  have hdis : ∀ i, i < M.length → (Value.slice (some ⟨g, 0, none⟩) n n).ownBlock = none ∨ (Value.slice (some ⟨g, 0, none⟩) n n).ownBlock ≠ (rg M i).val.ownBlock := fun i hi => .inr (fun e => by
    have h1 := (HO2.out.lt g rfl).2
    have h2 := ((ho.inn i hi).lt g (by rw [← e]; rfl)).1
    omega)
  have HDI := Lib.hid hdis
  have HOR := Lib.hid (ho.mono HB2.out.size)
  have HO3 := Lib.hid (owns_keeps HO2.out (Keeps.of_below hb) (.inr (by simp)))
  clear ho hb hd hdis
  go_wp2_with fail
  have k : Keeps w2 (((w2.setCell ⟨w.heap.size + 1 + 1, 1, none⟩ (.slice (some ⟨g', 0, none⟩) n' n')).setCell ⟨w.heap.size + 1, 0, none⟩ (.slice (some ⟨g, 0, none⟩) n n)).setCell ⟨w.heap.size + 1, 1, none⟩ (.slice (some ⟨g', 0, none⟩) n' n')) [some (w.heap.size + 1), some (w.heap.size + 1 + 1)] :=
    (((Keeps.refl w2 [some (w.heap.size + 1), some (w.heap.size + 1 + 1)]).setCell (p := ⟨w.heap.size + 1 + 1, 1, none⟩) (by simp) _).setCell (p := ⟨w.heap.size + 1, 0, none⟩) (by simp) _).setCell (p := ⟨w.heap.size + 1, 1, none⟩) (by simp) _
  refine bodyPost_ret (v := .agg #[.slice (some ⟨g, 0, none⟩) n n, .slice (some ⟨g', 0, none⟩) n' n']) ?_ rfl ⟨g, g', M, rfl, HD.out, ⟨?_, ?_, HDI.out⟩, ?_⟩
  · simp [results, Tryz.results13, go_sem, y0, y1]
  · rw [← HN.out]
    exact owns_keeps HO3.out k (.inr (by have h1 := own_ne_blk HO3.out HK2c.out (by decide); have h2 := own_ne_blk HO3.out HK3c.out (by decide); simp only [List.mem_cons, List.not_mem_nil, or_false, not_or]; exact ⟨h1, h2⟩))
  · refine HOR.out.keeps k (.inr ?_) (fun i hi => .inr ?_)
    · have h1 := own_ne_blk HOR.out.out HK2c.out (by decide); have h2 := own_ne_blk HOR.out.out HK3c.out (by decide)
      simp only [List.mem_cons, List.not_mem_nil, or_false, not_or]; exact ⟨h1, h2⟩
    · have h1 := own_ne_blk (HOR.out.inn i hi) HK2c.out (by decide); have h2 := own_ne_blk (HOR.out.inn i hi) HK3c.out (by decide)
      simp only [List.mem_cons, List.not_mem_nil, or_false, not_or]; exact ⟨h1, h2⟩
  · exact ((HB3.out.setCell (p := ⟨w.heap.size + 1 + 1, 1, none⟩) (by simp; omega) _).setCell (p := ⟨w.heap.size + 1, 0, none⟩) (by simp) _).setCell (p := ⟨w.heap.size + 1, 1, none⟩) (by simp) _

set_option maxHeartbeats 1000000 in
theorem eqModule_any (A B A' B' : Option Addr) (n c d n' c' d' : Nat) (xs : List Int) (L M : List Row) (w : World) (hn : n = xs.length) (hsm : n ≤ 1048576) (hn' : n' = L.length) (hsm' : n' ≤ 1048576) (hl : ∀ i, i < L.length → (rg L i).xs.length ≤ 1048576) (hd : dat M = dat L) (hR : Rd w A (iv xs)) (hRb : Rd w B (iv xs)) (hR' : RdR w A' L) (hRb' : RdR w B' M) :
    Calls Tryz.prog 16 #[.agg #[.slice A n c, .slice A' n' c'], .agg #[.slice B n d, .slice B' n' d']] w fun e w' => e = .returned (.bool true) ∧ Below w.heap.size w w' := by
  have hk1 := blk_alloc (blk_new w (.cells #[.slice A n c, .slice A' n' c'] 30)) (.cells #[.slice B n d, .slice B' n' d'] 30)
  have hk2 := blk_new1 w (.cells #[.slice A n c, .slice A' n' c'] 30) (.cells #[.slice B n d, .slice B' n' d'] 30)
  have hbel : Below w.heap.size w ((w.alloc (.cells #[.slice A n c, .slice A' n' c'] 30)).alloc (.cells #[.slice B n d, .slice B' n' d'] 30)) := ((Below.refl _ _).alloc (Nat.le_refl _) _).alloc (by simp) _
  obtain ⟨x0, x1, _, _, _⟩ := blk2cells hk1
  obtain ⟨y0, y1, _, _, _⟩ := blk2cells hk2
  have HC := Lib.hid (eqInts_same A B n c d xs _ hn (by omega) (hR.below hbel) (hRb.below hbel))
  have HC2 := Lib.hid (fun m => eqRows_any A' B' n' n' c' d' L M _ hn' (by rw [hn', (dat_xs hd).1]) (by omega) (fun i hi => Nat.le_trans (hl i hi) (by omega)) hd ((hR'.below hbel).drewN m) ((hRb'.below hbel).drewN m))
  have HB := Lib.hid hbel
  clear hk1 hk2 hbel hn hn' hl hd hR hRb hR' hRb'
  go_enter Tryz.func16, Tryz.ntmps16
  go_wp2_with fail
  refine HC.out.mono ?_
  rintro e w1 ⟨rfl, m, rfl⟩
  go_wp2_with fail
  refine (HC2.out m).mono ?_
  rintro e w1 ⟨rfl, m', rfl⟩
  go_wp2_with fail
  go_ret
  exact ⟨rfl, below_drewN HB.out _⟩

set_option maxHeartbeats 1000000 in
theorem markModule_any (B hi : Nat) (vd va : Value) (xs : List Int) (L : List Row) (k0 : Int) (w : World) (hB : B ≤ w.heap.size) (hown : OwnM w B vd xs va L) (hu : UpM hi vd va L) (hsm : xs.length ≤ 1048576) (hsm' : L.length ≤ 1048576) (ht : tot L ≤ 1048576) (h0 : 0 ≤ k0) (h1 : k0 ≤ 900000000000) :
    Calls Tryz.prog 17 #[.agg #[vd, va], .int .i64 k0] w fun e w' => e = .returned (.int .i64 (k0 + xs.length + tot L)) ∧ OwnM w' B vd (marks k0 xs.length) va (marksR (k0 + xs.length) L) ∧ Within B hi w w' := by
  obtain ⟨A, c, rfl, _, _, _⟩ := owns_shape hown.deg
  obtain ⟨A', c', rfl, _, _, _⟩ := owns_shape hown.act.out
  have hm := markInts_any B _ xs.length xs k0 (w.alloc (.cells #[.slice A xs.length c, .slice A' L.length c'] 30)) (hown.deg.alloc _) (by omega) h0 (by omega)
  have hk := blk_new w (.cells #[.slice A xs.length c, .slice A' L.length c'] 30)
  have HM := Lib.hid hm
  have HK := Lib.hid hk
  have HO := Lib.hid hown
  have HU := Lib.hid hu
  clear hm hown hk hu
  go_enter Tryz.func17, Tryz.ntmps17
  go_wp2_with fail
  refine HM.out.mono ?_
  rintro e w1 ⟨rfl, ho, hk⟩
  have hne := own_ne_blk (HO.out.deg.alloc (.cells #[.slice A xs.length c, .slice A' L.length c'] 30)) HK.out (by decide)
  have hkb := (hk.block _ (Array.getElem?_eq_some_iff.1 HK.out).1 (by simpa using hne.symm)).trans HK.out
  have hor := (HO.out.act.later ((Below.refl _ _).alloc (Nat.le_refl _) (.cells #[.slice A xs.length c, .slice A' L.length c'] 30))).keeps hk (by
    have := own_ne2 HO.out.act.out HO.out.deg (by decide)
    simpa using this) (fun i hi' => by
    have := none_or_symm (HO.out.dis i hi')
    simpa using this)
  have HW1 := Lib.hid ((Within.of_below (lo := B) (hi := hi) ((Below.refl w.heap.size w).alloc (Nat.le_refl _) (.cells #[.slice A xs.length c, .slice A' L.length c'] 30))).trans (Within.of_keeps hk (fun k hk' => ⟨(HO.out.deg.lt k hk').1, HU.out.1 k hk'⟩)))
  have HC := Lib.hid (markRowsO_any B _ L (k0 + xs.length) w1 hor hsm' ht (by omega) (by omega))
  obtain ⟨x0, x1, _, _, _⟩ := blk2cells hkb
  have HO1 := Lib.hid ho
  have HOR := Lib.hid hor
  clear ho hk hne hkb hor
  go_wp2_with fail
  refine HC.out.mono ?_
  rintro e w2 ⟨rfl, ho, hw⟩
  have HW2 := Lib.hid (HW1.out.trans (hw.within HOR.out HU.out.2.2))
  have HOF : Hid (OwnM w2 B (.slice A xs.length c) (marks k0 xs.length) (.slice A' L.length c') (marksR (k0 + xs.length) L)) := by
    refine Lib.hid ⟨?_, ho, fun i hi => ?_⟩
    · rw [marks_length]; exact hw.own HO1.out HO.out.dis
    · rw [marksR_length] at hi
      rw [rg_marksR _ _ _ hi]
      have e : Row.val ⟨(rg L i).A, (rg L i).c, Go.Proofs.YtdkmdmpaflgfaaaGreatDoor.marks (k0 + xs.length + tot (L.take i)) (rg L i).xs.length⟩ = (rg L i).val := by simp [Row.val, marks_length]
      rw [e]; exact HO.out.dis i hi
  clear ho hw x0 x1
  go_wp2_with fail
  go_ret
  exact ⟨rfl, HOF.out, HW2.out⟩
end Go.Proofs.YtdkmdmpaflgfaaaGreatDoor

namespace Go.Proofs.YtdkmdmpaflgfaaaGreatDoor
open Go.RowKit

def profB (xs : List Int) : Bool := decide (xs.length ≤ 16) && xs.all fun x => inB x 0 10
def atP (xs : List Int) (i : Nat) : Int := if xs.length < i then 0 else xs.getD (i - 1) 0
def clAt (xs : List Int) (i j : Nat) : Bool := !decide (atP xs (i + j + 2) < min (atP xs (j + 1)) (atP xs (i + 1) - ((j : Int) + 1)))
def closedB (xs : List Int) : Bool := (List.range xs.length).all fun i => (List.range xs.length).all fun j => clAt xs i j
def exps (xs : List Int) : List Int := xs.map fun x => 2 ^ x.toNat - 1
def trimN (ys : List Int) : Nat → Nat
  | 0 => 0
  | n + 1 => if ys.getD n 0 = 0 then trimN ys n else n + 1
def trimL (ys : List Int) : List Int := ys.take (trimN ys ys.length)
def degK (ys : List Int) : Nat → Int
  | 0 => 0
  | k + 1 => degK ys k + ys.getD k 0 * (2 ^ (k + 1) - 1)
def degP (ys : List Int) : Int := degK ys ys.length
def topL (xs : List Int) : List Int := trimL (exps xs)
def topR (xs : List Int) : List Int × Int :=
  if profB xs = true then (if closedB xs = true then (if degP (topL xs) ≤ 40 then (topL xs, 0) else ([], 3)) else ([], 5)) else ([], 1)
def topElementOf (xs : List Int) : List (List Int) × Int := if (topR xs).2 = 0 then ([(topR xs).1], 0) else ([], (topR xs).2)
theorem profB_iff (xs : List Int) : profB xs = true ↔ xs.length ≤ 16 ∧ ∀ t, t < xs.length → inB (xs.getD t 0) 0 10 = true := by
  unfold profB
  rw [Bool.and_eq_true, decide_eq_true_eq, all_getD]
theorem prof_get {xs : List Int} (h : profB xs = true) (k : Nat) : 0 ≤ xs.getD k 0 ∧ xs.getD k 0 ≤ 10 := by
  by_cases hk : k < xs.length
  · exact inB_true2 (((profB_iff xs).1 h).2 k hk)
  · have : xs.getD k 0 = 0 := by simp [List.getD, show xs[k]? = none from List.getElem?_eq_none (by omega)]
    rw [this]; omega
theorem atP_bd {xs : List Int} (h : profB xs = true) (i : Nat) : 0 ≤ atP xs i ∧ atP xs i ≤ 10 := by
  unfold atP
  split
  · omega
  · exact prof_get h _
theorem closedB_iff (xs : List Int) : closedB xs = true ↔ ∀ i, i < xs.length → ∀ j, j < xs.length → clAt xs i j = true := by
  unfold closedB
  simp only [List.all_eq_true, List.mem_range]
theorem exps_length (xs : List Int) : (exps xs).length = xs.length := by simp [exps]
theorem exps_getD (xs : List Int) {k : Nat} (hk : k < xs.length) : (exps xs).getD k 0 = 2 ^ (xs.getD k 0).toNat - 1 := by simp [exps, List.getD, hk]
theorem trimN_le (ys : List Int) (n : Nat) : trimN ys n ≤ n := by
  induction n with
  | zero => exact Nat.le_refl _
  | succ n ih => unfold trimN; split <;> omega
theorem topL_len (xs : List Int) : (topL xs).length ≤ xs.length := by
  unfold topL trimL
  rw [List.length_take, exps_length]; omega
theorem pow10 {d : Nat} (h : d ≤ 10) : (1 : Int) ≤ 2 ^ d ∧ (2 : Int) ^ d ≤ 1024 := by
  have h1 : 2 ^ d ≤ 2 ^ 10 := Nat.pow_le_pow_right (by omega) h
  have h2 : 1 ≤ 2 ^ d := Nat.one_le_two_pow
  have h3 : ((2 ^ d : Nat) : Int) = (2 : Int) ^ d := by rw [Int.natCast_pow]; rfl
  rw [← h3]; omega
theorem pow16 {d : Nat} (h : d ≤ 16) : (1 : Int) ≤ 2 ^ d ∧ (2 : Int) ^ d ≤ 65536 := by
  have h1 : 2 ^ d ≤ 2 ^ 16 := Nat.pow_le_pow_right (by omega) h
  have h2 : 1 ≤ 2 ^ d := Nat.one_le_two_pow
  have h3 : ((2 ^ d : Nat) : Int) = (2 : Int) ^ d := by rw [Int.natCast_pow]; rfl
  rw [← h3]; omega
theorem topL_bd {xs : List Int} (h : profB xs = true) (k : Nat) : 0 ≤ (topL xs).getD k 0 ∧ (topL xs).getD k 0 ≤ 1023 := by
  by_cases hk : k < (topL xs).length
  · have hk' : k < xs.length := Nat.lt_of_lt_of_le hk (topL_len xs)
    have e : (topL xs).getD k 0 = (exps xs).getD k 0 := by
      unfold topL trimL at hk ⊢
      rw [List.length_take] at hk
      simp [List.getD, List.getElem?_take, show k < trimN (exps xs) (exps xs).length by omega]
    rw [e, exps_getD xs hk']
    have hb := prof_get h k
    have := pow10 (d := (xs.getD k 0).toNat) (by omega)
    omega
  · have : (topL xs).getD k 0 = 0 := by simp [List.getD, show (topL xs)[k]? = none from List.getElem?_eq_none (by omega)]
    rw [this]; omega
theorem mul_bd {x p : Int} (h1 : 0 ≤ x) (h2 : x ≤ 1023) (h3 : 0 ≤ p) (h4 : p ≤ 65535) : 0 ≤ x * p ∧ x * p ≤ 67042305 := by
  refine ⟨Int.mul_nonneg h1 h3, ?_⟩
  have := Int.mul_le_mul h2 h4 h3 (by omega)
  omega
theorem degK_bd {xs : List Int} (h : profB xs = true) : ∀ k, k ≤ 16 → 0 ≤ degK (topL xs) k ∧ degK (topL xs) k ≤ 67042305 * k := by
  intro k
  induction k with
  | zero => intro _; simp [degK]
  | succ k ih =>
    intro hk
    have h1 := ih (by omega)
    have h2 := topL_bd h k
    have h3 := pow16 (d := k + 1) hk
    have h4 := mul_bd h2.1 h2.2 (p := 2 ^ (k + 1) - 1) (by omega) (by omega)
    unfold degK
    omega
theorem topR_len (xs : List Int) : (topR xs).1.length ≤ 1000 := by
  unfold topR
  split
  · rename_i h
    split
    · split
      · have h1 := ((profB_iff xs).1 h).1
        have h2 := topL_len xs
        simp only; omega
      · simp
    · simp
  · simp
theorem topElementOf_len (xs : List Int) : (topElementOf xs).1.length ≤ 1000 ∧ ∀ x ∈ (topElementOf xs).1, x.length ≤ 1000 := by
  unfold topElementOf
  split
  · refine ⟨by simp, fun x hx => ?_⟩
    obtain rfl := List.mem_singleton.1 hx
    exact topR_len xs
  · simp
end Go.Proofs.YtdkmdmpaflgfaaaGreatDoor

namespace Go.Proofs.YtdkmdmpaflgfaaaGreatDoor
open Go.RowKit

structure Cub where
  A : Option Addr
  c : Nat
  rows : List Row
def Cub.val (x : Cub) : Value := .slice x.A x.rows.length x.c
def cu0 : Cub := ⟨none, 0, []⟩
def cvs (L : List Cub) : List Value := L.map Cub.val
def cdat (L : List Cub) : List (List (List Int)) := L.map fun x => dat x.rows
def cg (L : List Cub) (k : Nat) : Cub := L.getD k cu0
theorem cvs_length (L : List Cub) : (cvs L).length = L.length := by simp [cvs]
theorem cdat_length (L : List Cub) : (cdat L).length = L.length := by simp [cdat]
theorem cg_of {L : List Cub} {k : Nat} (h : k < L.length) : cg L k = L[k] := by simp [cg, List.getD, h]
theorem cvs_get {L : List Cub} {k : Nat} (h : k < L.length) : (cvs L)[k]? = some (cg L k).val := by
  rw [cg_of h]; simp [cvs, h]
theorem cdat_getD (L : List Cub) (k : Nat) : (cdat L).getD k [] = dat (cg L k).rows := by
  simp only [cdat, cg, List.getD, List.getElem?_map]; cases L[k]? <;> rfl
theorem cdat_rows {L M : List Cub} (h : cdat M = cdat L) : M.length = L.length ∧ ∀ i, dat (cg M i).rows = dat (cg L i).rows := by
  refine ⟨by have := congrArg List.length h; simpa [cdat] using this, fun i => ?_⟩
  rw [← cdat_getD, ← cdat_getD, h]
/-- The slice at A reads as L. -/
structure RdC (w : World) (A : Option Addr) (L : List Cub) : Prop where
  out : Rd w A (cvs L)
  inn : ∀ i, i < L.length → RdR w (cg L i).A (cg L i).rows
section
variable {w w' : World} {A : Option Addr} {L : List Cub}
theorem RdC.at_ (h : RdC w A L) {k : Nat} (hk : k < L.length) :
    ∃ b o, A = some ⟨b, o, none⟩ ∧ w.cell? ⟨b, o + k, none⟩ = some (.slice (cg L k).A (cg L k).rows.length (cg L k).c) := by
  rcases h.out with h' | ⟨b, o, rfl, h'⟩
  · have := congrArg List.length h'; simp [cvs_length] at this; subst this; simp at hk
  · exact ⟨b, o, rfl, h' k _ (cvs_get hk)⟩
theorem RdC.below {B : Nat} (h : RdC w A L) (hb : Below B w w') (hB : w.heap.size ≤ B := by exact Nat.le_refl _) : RdC w' A L :=
  ⟨h.out.below hb hB, fun i hi => (h.inn i hi).below hb hB⟩
end

set_option maxRecDepth 100000 in
set_option maxHeartbeats 2000000 in
theorem eqCubs_any (A A' : Option Addr) (n c c' : Nat) (L M : List Cub) (w : World) (hn : n = L.length) (hsm : n ≤ 1048576) (hl : ∀ i, i < L.length → (cg L i).rows.length ≤ 1048576 ∧ ∀ j, j < (cg L i).rows.length → (rg (cg L i).rows j).xs.length ≤ 1048576) (hd : cdat M = cdat L) (hR : RdC w A L) (hR' : RdC w A' M) :
    Calls Tryz.prog 15 #[.slice A n c, .slice A' n c'] w fun e w' => e = .returned (.bool true) ∧ Below w.heap.size w w' := by
  have HR := Lib.hid hR
  have HR' := Lib.hid hR'
  have Hn := Lib.hid hn
  have HL := Lib.hid hl
  have HD := Lib.hid (cdat_rows hd)
  clear hn hl hd hR hR'
  go_enter Tryz.func15, Tryz.ntmps15
  go_wp2_with fail
  go_loopw [5] (fun s5 wr => ∃ j : Nat, j ≤ n ∧ s5 = .int .i64 j ∧ Below w.heap.size w wr) (fun s => fun _ => n - (intOf s).toNat)
  case atStart => exact ⟨0, by omega, rfl, Below.refl _ _⟩
  case round =>
    obtain ⟨j, hj, rfl, hbel⟩ := hrel
    have HB := Lib.hid hbel
    have hsz := hbel.size
    by_cases hlt : j < n
    · have hjL : j < L.length := by rw [← Hn.out]; exact hlt
      have hjM : j < M.length := by rw [HD.out.1]; exact hjL
      obtain ⟨b, o, rfl, hc⟩ := (HR.out.below hbel).at_ hjL
      obtain ⟨b', o', rfl, hc'⟩ := (HR'.out.below hbel).at_ hjM
      have h1 := (HR.out.below hbel).inn j hjL
      have h2 := (HR'.out.below hbel).inn j hjM
      have h3 := HD.out.2 j
      have h4 := HL.out j hjL
      generalize cg L j = x at *
      generalize cg M j = y at *
      have HE := Lib.hid (fun (W : World) (hb : Below wr.heap.size wr W) => eqRowsB_any x.A y.A x.rows.length y.rows.length x.c y.c x.rows y.rows W rfl rfl (by omega) (fun i hi => Nat.le_trans (h4.2 i hi) (by omega)) h3 (h1.below hb) (h2.below hb))
      have KS := Lib.hid (fun w' (hb : Below wr.heap.size wr w') => show w'.cell? ⟨b, o + j, none⟩ = some (.slice x.A x.rows.length x.c) ∧ w'.cell? ⟨b', o' + j, none⟩ = some (.slice y.A y.rows.length y.c) from ⟨cell_keep hc hb, cell_keep hc' hb⟩)
      have HB_0 := Lib.hid (Below.drew (Below.refl wr.heap.size wr))
      clear hbel h1 h2 h3 h4 hc hc'
      go_wp2_with fail
      go_region_held3 (fun w' => w'.cell? ⟨b, o + j, none⟩ = some (.slice x.A x.rows.length x.c) ∧ w'.cell? ⟨b', o' + j, none⟩ = some (.slice y.A y.rows.length y.c))
        (first | exact KS.out _ HB_0.out | exact KS.out _ HB_1.out)
        ((go_at_call 36; (with_reducible refine (HE.out _ HB_0.out).mono ?_); (rintro e w3 ⟨rfl, hb⟩; have HB_1 := Lib.hid (HB_0.out.trans (hb.mono HB_0.out.size)); clear hb)))
      go_wp2_with fail
      go_roundw
      case rel => exact ⟨j + 1, by omega, by go_num, HB.out.trans (HB_1.out.mono hsz)⟩
      case measure => simp [intOf]; omega
    · clear hbel
      go_wp2_with fail
      go_ret
      exact ⟨rfl, HB.out⟩
end Go.Proofs.YtdkmdmpaflgfaaaGreatDoor

namespace Go.Proofs.YtdkmdmpaflgfaaaGreatDoor

theorem tb_xr (a b n : Nat) : tb (xr a b) n = (tb a n ^^ tb b n) := by simp [tb, xr, Nat.testBit_xor]
theorem xr_comm (a b : Nat) : xr a b = xr b a := Nat.xor_comm a b
theorem xr_assoc (a b c : Nat) : xr (xr a b) c = xr a (xr b c) := Nat.xor_assoc a b c
theorem xr_zero (a : Nat) : xr a 0 = a := Nat.xor_zero a
theorem zero_xr (a : Nat) : xr 0 a = a := Nat.zero_xor a
theorem xr_self (a : Nat) : xr a a = 0 := Nat.xor_self a
theorem eq_of_tb {a b : Nat} (h : ∀ n, tb a n = tb b n) : a = b := Nat.eq_of_testBit_eq h
theorem tb_zero (n : Nat) : tb 0 n = false := Nat.zero_testBit n

/-- the pivot of a number that is no 0 is its least digit that is 1 -/
theorem tb_pv {a : Nat} (h0 : a ≠ 0) (h : Sm a) : tb a (pv a) = true := by
  unfold Sm at h
  obtain ⟨m, hm, _⟩ := Lib.ctzFrom_spec 64 a (by omega) (by omega)
  have e : pv a = Lib.ctzFrom 64 a := by unfold pv Lib.ctz; rw [if_neg h0]
  rw [e]
  unfold tb
  conv => lhs; arg 1; rw [hm]
  rw [Nat.testBit_eq_decide_div_mod_eq, Nat.mul_div_cancel_left _ (Nat.two_pow_pos _)]
  simp only [decide_eq_true_eq]; omega
theorem tb_lt_pv {a n : Nat} (h0 : a ≠ 0) (h : Sm a) (hn : n < pv a) : tb a n = false := by
  unfold Sm at h
  obtain ⟨m, hm, _⟩ := Lib.ctzFrom_spec 64 a (by omega) (by omega)
  have e : pv a = Lib.ctzFrom 64 a := by unfold pv Lib.ctz; rw [if_neg h0]
  rw [e] at hn
  obtain ⟨d, hd⟩ : ∃ d, Lib.ctzFrom 64 a = n + 1 + d := ⟨Lib.ctzFrom 64 a - n - 1, by omega⟩
  unfold tb
  rw [hm, Nat.testBit_eq_decide_div_mod_eq, hd, Nat.pow_add, Nat.pow_add, Nat.mul_assoc, Nat.mul_assoc, Nat.mul_div_cancel_left _ (Nat.two_pow_pos _)]
  simp [Nat.mul_assoc]
theorem pv_eq {a n : Nat} (h0 : a ≠ 0) (h : Sm a) (h1 : tb a n = true) (h2 : ∀ m, m < n → tb a m = false) : pv a = n := by
  rcases Nat.lt_trichotomy (pv a) n with hlt | heq | hgt
  · have := h2 _ hlt; rw [tb_pv h0 h] at this; cases this
  · exact heq
  · have := tb_lt_pv h0 h hgt; rw [h1] at this; cases this

/-- what is left of a mask by rows -/
def leftS (S : List Nat) (x : Nat) : Nat := S.foldl (fun x r => if tb x (pv r) then xr x r else x) x
/-- Reduced: no row is 0, all are small, and no row has another one's pivot. -/
structure Red (S : List Nat) : Prop where
  ne : ∀ r ∈ S, r ≠ 0 ∧ Sm r
  off : S.Pairwise fun r s => tb r (pv s) = false ∧ tb s (pv r) = false

theorem Red.nil : Red [] := ⟨by simp, .nil⟩
theorem Red.tail {r : Nat} {S : List Nat} (h : Red (r :: S)) : Red S := ⟨fun s hs => h.ne s (List.mem_cons_of_mem _ hs), (List.pairwise_cons.1 h.off).2⟩
theorem Red.perm {S T : List Nat} (h : Red S) (hp : S.Perm T) : Red T :=
  ⟨fun r hr => h.ne r (hp.mem_iff.2 hr), (hp.pairwise_iff (fun h => ⟨h.2, h.1⟩)).1 h.off⟩

theorem leftS_cons (r : Nat) (S : List Nat) (x : Nat) : leftS (r :: S) x = leftS S (if tb x (pv r) then xr x r else x) := rfl
/-- rows that lack a digit do not turn it -/
theorem tb_leftS {S : List Nat} {n : Nat} (h : ∀ r ∈ S, tb r n = false) : ∀ x, tb (leftS S x) n = tb x n := by
  induction S with
  | nil => intro x; rfl
  | cons r S ih =>
    intro x
    rw [leftS_cons, ih (fun s hs => h s (List.mem_cons_of_mem _ hs))]
    split
    · rw [tb_xr, h r (List.mem_cons_self ..)]; simp
    · rfl
theorem leftS_sm {S : List Nat} (h : ∀ r ∈ S, r ≠ 0 ∧ Sm r) : ∀ {x}, Sm x → Sm (leftS S x) := by
  induction S with
  | nil => intro x hx; exact hx
  | cons r S ih =>
    intro x hx
    rw [leftS_cons]
    refine ih (fun s hs => h s (List.mem_cons_of_mem _ hs)) ?_
    split
    · exact hx.xr (h r (List.mem_cons_self ..)).2
    · exact hx
/-- what is left has none of the pivots -/
theorem leftS_off {S : List Nat} (h : Red S) : ∀ x, ∀ r ∈ S, tb (leftS S x) (pv r) = false := by
  induction S with
  | nil => intro x r hr; cases hr
  | cons r S ih =>
    intro x s hs
    have hp := (List.pairwise_cons.1 h.off).1
    have hr := h.ne r (List.mem_cons_self ..)
    rw [leftS_cons]
    rcases List.mem_cons.1 hs with rfl | hs
    · rw [tb_leftS (fun t ht => (hp t ht).2)]
      split
      · rename_i h1; rw [tb_xr, h1, tb_pv hr.1 hr.2]; rfl
      · rename_i h1; simpa using h1
    · exact ih h.tail _ s hs

/-- the sum of rows -/
def xsum : List Nat → Nat
  | [] => 0
  | r :: S => xr r (xsum S)
theorem xsum_perm {S T : List Nat} (h : S.Perm T) : xsum S = xsum T := by
  induction h with
  | nil => rfl
  | cons r _ ih => simp only [xsum, ih]
  | swap r s S => simp only [xsum, ← xr_assoc, xr_comm s r]
  | trans _ _ h1 h2 => exact h1.trans h2
theorem leftS_eq {S : List Nat} (h : Red S) : ∀ x, leftS S x = xr x (xsum (S.filter fun r => tb x (pv r))) := by
  induction S with
  | nil => intro x; exact (xr_zero x).symm
  | cons r S ih =>
    intro x
    have hp := (List.pairwise_cons.1 h.off).1
    rw [leftS_cons, ih h.tail]
    by_cases hb : tb x (pv r) = true
    · rw [if_pos hb, List.filter_cons_of_pos (by simpa using hb)]
      have e : (S.filter fun s => tb (xr x r) (pv s)) = S.filter fun s => tb x (pv s) := by
        apply List.filter_congr
        intro s hs
        rw [tb_xr, (hp s hs).1]; simp
      rw [e]
      simp only [xsum, xr_assoc]
    · rw [if_neg hb, List.filter_cons_of_neg (by simpa using hb)]
theorem leftS_perm {S T : List Nat} (h : Red S) (hp : S.Perm T) (x : Nat) : leftS S x = leftS T x := by
  rw [leftS_eq h, leftS_eq (h.perm hp), xsum_perm (hp.filter _)]

/-- a row as it is when the new row x comes in -/
def stepS (x r : Nat) : Nat := if tb r (pv x) then xr r x else r
/-- what the reference's loop does -/
def putStep (x : Nat) (p : List Nat × Bool) (r : Nat) : List Nat × Bool :=
  if !p.2 && decide (pv x < pv r) then (p.1 ++ [x, stepS x r], true) else (p.1 ++ [stepS x r], p.2)
def putEnd (x : Nat) (p : List Nat × Bool) : List Nat := if p.2 then p.1 else p.1 ++ [x]
def putS (S : List Nat) (x : Nat) : List Nat :=
  if leftS S x = 0 then S else putEnd (leftS S x) (S.foldl (putStep (leftS S x)) ([], false))
def reduceS (rows : List Nat) : List Nat := rows.foldl putS []

theorem putStep_perm (x : Nat) : ∀ (S : List Nat) (p : List Nat × Bool), (putEnd x (S.foldl (putStep x) p)).Perm (putEnd x p ++ S.map (stepS x))
  | [], p => by simp
  | r :: S, p => by
    refine (putStep_perm x S (putStep x p r)).trans ?_
    rw [List.map_cons]
    have : (putEnd x (putStep x p r)).Perm (putEnd x p ++ [stepS x r]) := by
      obtain ⟨out, done⟩ := p
      cases done with
      | true => simp [putStep, putEnd]
      | false =>
        by_cases hc : pv x < pv r
        · simp [putStep, putEnd, hc]
        · simp only [putStep, putEnd, hc, decide_false, Bool.and_false, Bool.false_eq_true, if_false]
          simp only [List.append_assoc]
          exact List.Perm.append_left out (List.Perm.swap ..)
    have := List.Perm.append_right (S.map (stepS x)) this
    simpa using this
theorem putS_perm (S : List Nat) (x : Nat) (h : leftS S x ≠ 0) : (putS S x).Perm (S.map (stepS (leftS S x)) ++ [leftS S x]) := by
  unfold putS
  rw [if_neg h]
  refine (putStep_perm _ S ([], false)).trans ?_
  simp only [putEnd, Bool.false_eq_true, if_false, List.nil_append]
  exact List.perm_append_comm

theorem stepS_sm {x r : Nat} (hx : Sm x) (hr : Sm r) : Sm (stepS x r) := by
  unfold stepS; split
  · exact hr.xr hx
  · exact hr
/-- the pivots stay, and the new row's pivot goes -/
theorem stepS_pv {x r : Nat} (hx : Sm x) (hx0 : x ≠ 0) (hr : Sm r) (hr0 : r ≠ 0) (h : tb x (pv r) = false) : stepS x r ≠ 0 ∧ pv (stepS x r) = pv r ∧ tb (stepS x r) (pv x) = false := by
  have hrr := tb_pv hr0 hr
  have hxx := tb_pv hx0 hx
  have ht : tb (stepS x r) (pv r) = true := by
    unfold stepS; split
    · rw [tb_xr, hrr, h]; rfl
    · exact hrr
  have h0 : stepS x r ≠ 0 := by intro e; rw [e, tb_zero] at ht; cases ht
  refine ⟨h0, ?_, ?_⟩
  · refine pv_eq h0 (stepS_sm hx hr) ht ?_
    intro m hm
    unfold stepS; split
    · rename_i hb
      have hlt : pv r < pv x := by
        rcases Nat.lt_trichotomy (pv r) (pv x) with hlt | heq | hgt
        · exact hlt
        · rw [heq, hxx] at h; cases h
        · have := tb_lt_pv hr0 hr hgt; rw [hb] at this; cases this
      rw [tb_xr, tb_lt_pv hr0 hr hm, tb_lt_pv hx0 hx (by omega)]; rfl
    · exact tb_lt_pv hr0 hr hm
  · unfold stepS; split
    · rename_i hb; rw [tb_xr, hb, hxx]; rfl
    · rename_i hb; simpa using hb

theorem red_step {S : List Nat} {x : Nat} (h : Red S) (hx : Sm x) (hx0 : x ≠ 0) (hoff : ∀ r ∈ S, tb x (pv r) = false) : Red (S.map (stepS x) ++ [x]) := by
  have key := fun r hr => stepS_pv hx hx0 (h.ne r hr).2 (h.ne r hr).1 (hoff r hr)
  refine ⟨?_, ?_⟩
  · intro r hr
    rcases List.mem_append.1 hr with hr | hr
    · obtain ⟨s, hs, rfl⟩ := List.mem_map.1 hr
      exact ⟨(key s hs).1, stepS_sm hx (h.ne s hs).2⟩
    · rw [List.mem_singleton.1 hr]; exact ⟨hx0, hx⟩
  · rw [List.pairwise_append]
    refine ⟨?_, by simp, ?_⟩
    · rw [List.pairwise_map]
      refine (List.Pairwise.and_mem.1 h.off).imp ?_
      intro r s ⟨hr, hs, h1, h2⟩
      rw [(key r hr).2.1, (key s hs).2.1]
      constructor
      · unfold stepS; split
        · rw [tb_xr, h1, hoff s hs]; rfl
        · exact h1
      · unfold stepS; split
        · rw [tb_xr, h2, hoff r hr]; rfl
        · exact h2
    · intro r hr s hs
      obtain ⟨t, ht, rfl⟩ := List.mem_map.1 hr
      rw [List.mem_singleton.1 hs]
      exact ⟨(key t ht).2.2, by rw [(key t ht).2.1]; exact hoff t ht⟩
theorem red_put {S : List Nat} {x : Nat} (h : Red S) (hx : Sm x) : Red (putS S x) := by
  by_cases h0 : leftS S x = 0
  · unfold putS; rw [if_pos h0]; exact h
  · exact (red_step h (leftS_sm h.ne hx) h0 (leftS_off h x)).perm (putS_perm S x h0).symm
theorem red_reduce {rows : List Nat} (h : ∀ r ∈ rows, Sm r) : Red (reduceS rows) := by
  unfold reduceS
  have : ∀ (rows S : List Nat), Red S → (∀ r ∈ rows, Sm r) → Red (rows.foldl putS S) := by
    intro rows
    induction rows with
    | nil => intro S hS _; exact hS
    | cons r rows ih => intro S hS h; exact ih _ (red_put hS (h r (List.mem_cons_self ..))) (fun s hs => h s (List.mem_cons_of_mem _ hs))
  exact this rows [] Red.nil h
theorem putS_length_le (S : List Nat) (x : Nat) : (putS S x).length ≤ S.length + 1 := by
  by_cases h : leftS S x = 0
  · unfold putS; rw [if_pos h]; omega
  · rw [(putS_perm S x h).length_eq]; simp
end Go.Proofs.YtdkmdmpaflgfaaaGreatDoor

namespace Go.Proofs.YtdkmdmpaflgfaaaGreatDoor

theorem xr_xr (a b : Nat) : xr a (xr a b) = b := by rw [← xr_assoc, xr_self, zero_xr]
theorem xr_left (a b c : Nat) : xr a (xr b c) = xr b (xr a c) := by rw [← xr_assoc, xr_comm a b, xr_assoc]
/-- the product of a mask and rows, the first row being the mask's digit i -/
def comb : List Nat → Nat → Nat → Nat
  | [], _, _ => 0
  | r :: S, i, x => xr (if tb x i then r else 0) (comb S (i + 1) x)
theorem comb_xr (S : List Nat) : ∀ i x y, comb S i (xr x y) = xr (comb S i x) (comb S i y) := by
  induction S with
  | nil => intro i x y; exact (xr_self 0).symm
  | cons r S ih =>
    intro i x y
    simp only [comb, ih, tb_xr]
    cases tb x i <;> cases tb y i <;> simp [zero_xr, xr_zero, xr_assoc]
    · rw [xr_left]
    · rw [xr_left _ r, xr_xr]
theorem comb_low (S : List Nat) : ∀ i x, (∀ m, i ≤ m → tb x m = false) → comb S i x = 0 := by
  induction S with
  | nil => intro i x _; rfl
  | cons r S ih => intro i x h; simp only [comb, h i (Nat.le_refl _), ih (i + 1) x fun m hm => h m (by omega)]; simp [xr_zero]
theorem tb_pow (i j : Nat) : tb (2 ^ i) j = decide (i = j) := Nat.testBit_two_pow
theorem comb_pow (S : List Nat) : ∀ i k, comb S i (2 ^ (i + k)) = S.getD k 0 := by
  induction S with
  | nil => intro i k; simp [comb]
  | cons r S ih =>
    intro i k
    simp only [comb, tb_pow]
    cases k with
    | zero =>
      rw [comb_low S (i + 1) (2 ^ (i + 0)) (fun m hm => by rw [tb_pow]; simp; omega)]
      simp [xr_zero]
    | succ k =>
      have := ih (i + 1) k
      rw [show i + 1 + k = i + (k + 1) by omega] at this
      rw [this]
      simp [zero_xr]
theorem lt_of_tb {z n : Nat} (h : ∀ m, n ≤ m → tb z m = false) : z < 2 ^ n := Nat.lt_pow_two_of_testBit z h
theorem tb_of_lt {z n m : Nat} (h : z < 2 ^ n) (hm : n ≤ m) : tb z m = false := Nat.testBit_lt_two_pow (Nat.lt_of_lt_of_le h (Nat.pow_le_pow_right (by omega) hm))
/-- two sums that agree at single digits agree -/
theorem lin_ext {f g : Nat → Nat} (hf : ∀ x y, f (xr x y) = xr (f x) (f y)) (hg : ∀ x y, g (xr x y) = xr (g x) (g y)) : ∀ n, (∀ k, k < n → f (2 ^ k) = g (2 ^ k)) → ∀ v, v < 2 ^ n → f v = g v := by
  have z : ∀ {h : Nat → Nat}, (∀ x y, h (xr x y) = xr (h x) (h y)) → h 0 = 0 := fun {h} hh => by have := hh 0 0; rw [xr_self, xr_self] at this; exact this
  intro n
  induction n with
  | zero => intro _ v hv; obtain rfl : v = 0 := by simpa using hv
            rw [z hf, z hg]
  | succ n ih =>
    intro h v hv
    have h' := ih (fun k hk => h k (by omega))
    cases hb : tb v n
    · refine h' v (lt_of_tb fun m hm => ?_)
      rcases Nat.lt_or_ge n m with h1 | h1
      · exact tb_of_lt hv (by omega)
      · rw [show m = n by omega]; exact hb
    · have e : v = xr (2 ^ n) (xr (2 ^ n) v) := (xr_xr _ _).symm
      have hl : xr (2 ^ n) v < 2 ^ n := lt_of_tb fun m hm => by
        rw [tb_xr, tb_pow]
        rcases Nat.lt_or_ge n m with h1 | h1
        · rw [tb_of_lt hv (by omega)]; simp; omega
        · rw [show m = n by omega, hb]; simp
      rw [e, hf, hg, h n (by omega), h' _ hl]
end Go.Proofs.YtdkmdmpaflgfaaaGreatDoor

namespace Go.Proofs.YtdkmdmpaflgfaaaGreatDoor

/-! ### lists of numbers in order -/
def lexLt : List Int → List Int → Bool
  | [], [] => false
  | [], _ :: _ => true
  | _ :: _, [] => false
  | a :: x, b :: y => if a = b then lexLt x y else decide (a < b)
theorem lexLt_irrefl : ∀ x, lexLt x x = false
  | [] => rfl
  | a :: x => by simp only [lexLt, if_true]; exact lexLt_irrefl x
theorem lexLt_trans : ∀ {x y z : List Int}, lexLt x y = true → lexLt y z = true → lexLt x z = true
  | [], [], _, h, _ => by simp [lexLt] at h
  | [], _ :: _, [], _, h => by simp [lexLt] at h
  | [], _ :: _, _ :: _, _, _ => rfl
  | _ :: _, [], _, h, _ => by simp [lexLt] at h
  | _ :: _, _ :: _, [], _, h => by simp [lexLt] at h
  | a :: x, b :: y, c :: z, h1, h2 => by
    simp only [lexLt] at h1 h2 ⊢
    by_cases e1 : a = b
    · rw [if_pos e1] at h1
      by_cases e2 : b = c
      · rw [if_pos e2] at h2; rw [if_pos (e1.trans e2)]; exact lexLt_trans h1 h2
      · rw [if_neg e2] at h2; rw [if_neg (by rw [e1]; exact e2), e1]; exact h2
    · rw [if_neg e1] at h1
      simp only [decide_eq_true_eq] at h1
      by_cases e2 : b = c
      · rw [if_neg (by omega)]; simp; omega
      · rw [if_neg e2] at h2; simp only [decide_eq_true_eq] at h2; rw [if_neg (by omega)]; simp; omega
def AscP (Q : List (List Int)) : Prop := ∀ i, i + 1 < Q.length → lexLt (Q.getD i []) (Q.getD (i + 1) []) = true
theorem AscP.lt {Q : List (List Int)} (h : AscP Q) : ∀ d i, i + d + 1 < Q.length → lexLt (Q.getD i []) (Q.getD (i + d + 1) []) = true := by
  intro d
  induction d with
  | zero => intro i hi; exact h i hi
  | succ d ih => intro i hi; exact lexLt_trans (ih i (by omega)) (h (i + d + 1) (by omega))
theorem AscP.nodup {Q : List (List Int)} (h : AscP Q) : Q.Nodup := by
  rw [List.nodup_iff_pairwise_ne, List.pairwise_iff_getElem]
  intro i j hi hj hij e
  have := h.lt (j - i - 1) i (by omega)
  rw [show i + (j - i - 1) + 1 = j by omega] at this
  simp only [List.getD, List.getElem?_eq_getElem hi, List.getElem?_eq_getElem hj, Option.getD_some] at this
  rw [e, lexLt_irrefl] at this; cases this

/-! ### what a square makes of a mask -/
def hit (n : Int) (v : Nat) (e : List Int) : Nat := if e.getD 0 0 = n ∧ tb v (e.getD 1 0).toNat = true then 2 ^ (e.getD 2 0).toNat else 0
def actE (Q : List (List Int)) (n : Int) (v : Nat) : Nat := Q.foldl (fun a e => xr a (hit n v e)) 0
def act (Q : List (List Int)) (n : Int) (v : Nat) : Nat := if n = 0 then v else actE Q n v
theorem hit_lin (n : Int) (v w : Nat) (e : List Int) : hit n (xr v w) e = xr (hit n v e) (hit n w e) := by
  unfold hit
  rw [tb_xr]
  by_cases h : e.getD 0 0 = n
  · rw [h]
    cases tb v (e.getD 1 0).toNat <;> cases tb w (e.getD 1 0).toNat <;> simp [xr_self, xr_zero, zero_xr]
  · rw [if_neg (fun hh => h hh.1), if_neg (fun hh => h hh.1), if_neg (fun hh => h hh.1)]; rfl
theorem xfold {α : Type} (f : α → Nat) : ∀ (Q : List α) (a : Nat), Q.foldl (fun a e => xr a (f e)) a = xr a (Q.foldl (fun a e => xr a (f e)) 0) := by
  intro Q
  induction Q with
  | nil => intro a; exact (xr_zero a).symm
  | cons e Q ih => intro a; simp only [List.foldl_cons]; rw [ih, ih (xr 0 (f e)), zero_xr, xr_assoc]
theorem actE_cons (e : List Int) (Q : List (List Int)) (n : Int) (v : Nat) : actE (e :: Q) n v = xr (hit n v e) (actE Q n v) := by
  unfold actE; simp only [List.foldl_cons]; rw [xfold, zero_xr]
theorem actE_lin (Q : List (List Int)) (n : Int) (v w : Nat) : actE Q n (xr v w) = xr (actE Q n v) (actE Q n w) := by
  induction Q with
  | nil => exact (xr_self 0).symm
  | cons e Q ih => rw [actE_cons, actE_cons, actE_cons, ih, hit_lin]; simp only [xr_assoc]; rw [xr_left (hit n w e)]
theorem act_lin (Q : List (List Int)) (n : Int) (v w : Nat) : act Q n (xr v w) = xr (act Q n v) (act Q n w) := by
  unfold act; split
  · rfl
  · exact actE_lin Q n v w
theorem act_zero (Q : List (List Int)) (n : Int) : act Q n 0 = 0 := by have := act_lin Q n 0 0; rw [xr_self, xr_self] at this; exact this
theorem act0 (Q : List (List Int)) (v : Nat) : act Q 0 v = v := by unfold act; rw [if_pos rfl]
theorem act_pos {n : Int} (h : n ≠ 0) (Q : List (List Int)) (v : Nat) : act Q n v = actE Q n v := by unfold act; rw [if_neg h]

/-! ### shapes of modules -/
structure EntM (xs : List Int) (e : List Int) : Prop where
  len : e.length = 3
  pos : 1 ≤ e.getD 0 0
  lo1 : 0 ≤ e.getD 1 0
  hi1 : e.getD 1 0 < xs.length
  lo2 : 0 ≤ e.getD 2 0
  hi2 : e.getD 2 0 < xs.length
  dg : xs.getD (e.getD 2 0).toNat 0 = xs.getD (e.getD 1 0).toNat 0 + e.getD 0 0
structure Shp (xs : List Int) (Q : List (List Int)) : Prop where
  len : xs.length ≤ 16
  deg : ∀ i, i < xs.length → 0 ≤ xs.getD i 0 ∧ xs.getD i 0 ≤ 20
  srt : ∀ i, i + 1 < xs.length → xs.getD i 0 ≤ xs.getD (i + 1) 0
  asc : AscP Q
  ent : ∀ k, k < Q.length → EntM xs (Q.getD k [])
theorem getD_of_mem {Q : List (List Int)} {e : List Int} (h : e ∈ Q) : ∃ k, k < Q.length ∧ Q.getD k [] = e := by
  obtain ⟨k, hk, rfl⟩ := List.getElem_of_mem h
  exact ⟨k, hk, by simp [List.getD, hk]⟩
section
variable {xs : List Int} {Q : List (List Int)}
theorem Shp.mem (h : Shp xs Q) {e : List Int} (he : e ∈ Q) : EntM xs e := by
  obtain ⟨k, hk, rfl⟩ := getD_of_mem he
  exact h.ent k hk
theorem EntM.le20 (hd : ∀ i, i < xs.length → 0 ≤ xs.getD i 0 ∧ xs.getD i 0 ≤ 20) {e : List Int} (h : EntM xs e) : e.getD 0 0 ≤ 20 := by
  have h1 := hd (e.getD 2 0).toNat (by have := h.lo2; have := h.hi2; omega)
  have h2 := hd (e.getD 1 0).toNat (by have := h.lo1; have := h.hi1; omega)
  have := h.dg
  omega
theorem Shp.le20 (h : Shp xs Q) {e : List Int} (he : e ∈ Q) : e.getD 0 0 ≤ 20 := (h.mem he).le20 h.deg
theorem pow_lt_pow {a b : Nat} (h : a < b) : 2 ^ a < 2 ^ b := Nat.pow_lt_pow_right (by omega) h
theorem xr_lt {a b n : Nat} (ha : a < 2 ^ n) (hb : b < 2 ^ n) : xr a b < 2 ^ n := Nat.xor_lt_two_pow ha hb
theorem hit_lt {e : List Int} (h : EntM xs e) (n : Int) (v : Nat) : hit n v e < 2 ^ xs.length := by
  unfold hit; split
  · exact pow_lt_pow (by have := h.lo2; have := h.hi2; omega)
  · exact Nat.two_pow_pos _
theorem actE_lt (n : Int) (v : Nat) : ∀ {Q : List (List Int)}, (∀ e ∈ Q, EntM xs e) → actE Q n v < 2 ^ xs.length
  | [], _ => Nat.two_pow_pos _
  | e :: Q, h => by
    rw [actE_cons]
    exact xr_lt (hit_lt (h e (List.mem_cons_self ..)) n v) (actE_lt n v fun f hf => h f (List.mem_cons_of_mem _ hf))
theorem act_lt (h : Shp xs Q) {v : Nat} (hv : v < 2 ^ xs.length) (n : Int) : act Q n v < 2 ^ xs.length := by
  unfold act; split
  · exact hv
  · exact actE_lt n v fun e he => h.mem he
theorem actE_big (n : Int) (v : Nat) : ∀ {Q : List (List Int)}, (∀ e ∈ Q, e.getD 0 0 ≠ n) → actE Q n v = 0
  | [], _ => rfl
  | e :: Q, h => by
    rw [actE_cons, actE_big n v fun f hf => h f (List.mem_cons_of_mem _ hf)]
    unfold hit
    rw [if_neg (fun hh => h e (List.mem_cons_self ..) hh.1)]; rfl
theorem act_big (h : Shp xs Q) {n : Int} (hn : 20 < n) (v : Nat) : act Q n v = 0 := by
  rw [act_pos (by omega)]
  exact actE_big n v fun e he => by have := h.le20 he; omega
theorem act_neg (h : Shp xs Q) {n : Int} (hn : n < 0) (v : Nat) : act Q n v = 0 := by
  rw [act_pos (by omega)]
  exact actE_big n v fun e he => by have := (h.mem he).pos; omega

/-! ### the table of squares -/
def sqStep (n i : Nat) (a : Nat) (e : List Int) : Nat := if e.getD 0 0 = (n : Int) ∧ e.getD 1 0 = (i : Int) then orr a (2 ^ (e.getD 2 0).toNat) else a
def sqOr (Q : List (List Int)) (n i : Nat) : Nat := Q.foldl (sqStep n i) (if n = 0 then 2 ^ i else 0)
def sqRow (Q : List (List Int)) (size n : Nat) : List Nat := (List.range size).map (sqOr Q n)
theorem sqRow_length (Q : List (List Int)) (size n : Nat) : (sqRow Q size n).length = size := by simp [sqRow]
theorem sqRow_getD (Q : List (List Int)) {size n i : Nat} (h : i < size) : (sqRow Q size n).getD i 0 = sqOr Q n i := by simp [sqRow, List.getD, h]
theorem orr_xr {a c : Nat} (h : tb a c = false) : orr a (2 ^ c) = xr a (2 ^ c) := by
  apply eq_of_tb
  intro n
  rw [tb_xr, tb_pow]
  unfold orr tb
  rw [Nat.testBit_or, Nat.testBit_two_pow]
  by_cases e : c = n
  · subst e; unfold tb at h; rw [h]; simp
  · simp [e]
theorem list3 {e : List Int} (h : e.length = 3) : e = [e.getD 0 0, e.getD 1 0, e.getD 2 0] := by
  match e, h with
  | [a, b, c], _ => rfl
theorem sq_fold (n i : Nat) : ∀ (Q : List (List Int)) (a : Nat), (∀ e ∈ Q, EntM xs e) → Q.Nodup → (∀ e ∈ Q, e.getD 0 0 = (n : Int) → e.getD 1 0 = (i : Int) → tb a (e.getD 2 0).toNat = false) → Q.foldl (sqStep n i) a = xr a (actE Q n (2 ^ i)) := by
  intro Q
  induction Q with
  | nil => intro a _ _ _; exact (xr_zero a).symm
  | cons e Q ih =>
    intro a hQ hnd hf
    have he := hQ e (List.mem_cons_self ..)
    have hnd' := List.nodup_cons.1 hnd
    rw [actE_cons, List.foldl_cons]
    by_cases hm : e.getD 0 0 = (n : Int) ∧ e.getD 1 0 = (i : Int)
    · have h1 : sqStep n i a e = xr a (2 ^ (e.getD 2 0).toNat) := by
        unfold sqStep; rw [if_pos hm]; exact orr_xr (hf e (List.mem_cons_self ..) hm.1 hm.2)
      have h2 : hit (n : Int) (2 ^ i) e = 2 ^ (e.getD 2 0).toNat := by
        unfold hit; rw [if_pos ⟨hm.1, by rw [tb_pow, hm.2]; simp⟩]
      rw [h1, h2, ih _ (fun f hf' => hQ f (List.mem_cons_of_mem _ hf')) hnd'.2, xr_assoc]
      intro f hf' g1 g2
      rw [tb_xr, tb_pow, hf f (List.mem_cons_of_mem _ hf') g1 g2]
      simp only [Bool.false_xor, decide_eq_false_iff_not]
      intro e2
      apply hnd'.1
      have hfe := hQ f (List.mem_cons_of_mem _ hf')
      have : f = e := by
        rw [list3 hfe.len, list3 he.len, g1, g2, hm.1, hm.2]
        have := hfe.lo2; have := he.lo2
        rw [show e.getD 2 0 = f.getD 2 0 by omega]
      rw [← this]; exact hf'
    · have h1 : sqStep n i a e = a := by unfold sqStep; rw [if_neg hm]
      have h2 : hit (n : Int) (2 ^ i) e = 0 := by
        unfold hit; rw [if_neg]
        intro hh
        apply hm
        refine ⟨hh.1, ?_⟩
        have := hh.2
        rw [tb_pow] at this
        simp only [decide_eq_true_eq] at this
        have := he.lo1
        omega
      rw [h1, h2, zero_xr, ih a (fun f hf' => hQ f (List.mem_cons_of_mem _ hf')) hnd'.2 (fun f hf' => hf f (List.mem_cons_of_mem _ hf'))]
theorem sqOr_act (h : Shp xs Q) (n i : Nat) : sqOr Q n i = act Q n (2 ^ i) := by
  unfold sqOr
  by_cases h0 : n = 0
  · subst h0
    rw [if_pos rfl]
    rw [sq_fold (xs := xs) 0 i Q _ (fun e he => h.mem he) h.asc.nodup (fun e he h1 => by have := (h.mem he).pos; omega)]
    rw [actE_big _ _ fun e he => by have := (h.mem he).pos; omega, xr_zero]
    exact (act0 Q _).symm
  · rw [if_neg h0, sq_fold (xs := xs) n i Q _ (fun e he => h.mem he) h.asc.nodup (fun e he _ _ => tb_zero _), zero_xr, act_pos (by omega)]
/-- the product with the rows of a square is the square -/
theorem sq_times (h : Shp xs Q) (n : Nat) {v : Nat} (hv : v < 2 ^ xs.length) : comb (sqRow Q xs.length n) 0 v = act Q n v :=
  lin_ext (f := comb (sqRow Q xs.length n) 0) (g := act Q n) (comb_xr _ 0) (act_lin Q n) xs.length (fun k hk => by
    have := comb_pow (sqRow Q xs.length n) 0 k
    rw [Nat.zero_add] at this
    rw [this, sqRow_getD Q hk, sqOr_act h]) v hv

/-! ### degrees -/
def Hom (xs : List Int) (d : Int) (v : Nat) : Prop := ∀ c, tb v c = true → c < xs.length ∧ xs.getD c 0 = d
theorem Hom.zero (xs : List Int) (d : Int) : Hom xs d 0 := fun c h => by rw [tb_zero] at h; cases h
theorem Hom.xr {d : Int} {v w : Nat} (hv : Hom xs d v) (hw : Hom xs d w) : Hom xs d (xr v w) := fun c h => by
  rw [tb_xr] at h
  cases h1 : tb v c
  · rw [h1] at h; exact hw c (by simpa using h)
  · exact hv c h1
theorem Hom.pow {i : Nat} (hi : i < xs.length) : Hom xs (xs.getD i 0) (2 ^ i) := fun c h => by
  rw [tb_pow] at h; simp only [decide_eq_true_eq] at h; subst h; exact ⟨hi, rfl⟩
theorem Hom.eq_zero {d : Int} {v : Nat} (hv : Hom xs d v) (h : ∀ i, i < xs.length → xs.getD i 0 ≠ d) : v = 0 := eq_of_tb fun c => by
  rw [tb_zero]
  cases hc : tb v c with
  | false => rfl
  | true => exact absurd (hv c hc).2 (h c (hv c hc).1)
theorem Hom.lt {d : Int} {v : Nat} (hv : Hom xs d v) : v < 2 ^ xs.length := lt_of_tb fun m hm => by
  cases hc : tb v m with
  | false => rfl
  | true => have := (hv m hc).1; omega
theorem hom_hit {e : List Int} (he : EntM xs e) (n d : Int) {v : Nat} (hv : Hom xs d v) : Hom xs (d + n) (hit n v e) := by
  unfold hit; split
  · rename_i h
    have h1 := (hv _ h.2).2
    have h2 := he.dg
    rw [h1, h.1] at h2
    rw [← h2]
    exact Hom.pow (by have := he.lo2; have := he.hi2; omega)
  · exact Hom.zero _ _
theorem hom_actE (n d : Int) {v : Nat} (hv : Hom xs d v) : ∀ {Q : List (List Int)}, (∀ e ∈ Q, EntM xs e) → Hom xs (d + n) (actE Q n v)
  | [], _ => Hom.zero _ _
  | e :: Q, h => by
    rw [actE_cons]
    exact (hom_hit (h e (List.mem_cons_self ..)) n d hv).xr (hom_actE n d hv fun f hf => h f (List.mem_cons_of_mem _ hf))
theorem act_hom (h : Shp xs Q) {n d : Int} {v : Nat} (hv : Hom xs d v) : Hom xs (d + n) (act Q n v) := by
  unfold act; split
  · rename_i h0; subst h0; rw [Int.add_zero]; exact hv
  · exact hom_actE n d hv fun e he => h.mem he
theorem Shp.mono (h : Shp xs Q) : ∀ d i, i + d < xs.length → xs.getD i 0 ≤ xs.getD (i + d) 0 := by
  intro d
  induction d with
  | zero => intro i _; exact Int.le_refl _
  | succ d ih => intro i hi; exact Int.le_trans (ih i (by omega)) (h.srt (i + d) (by omega))
theorem Shp.mono' (h : Shp xs Q) {i j : Nat} (hij : i ≤ j) (hj : j < xs.length) : xs.getD i 0 ≤ xs.getD j 0 := by
  have := h.mono (j - i) i (by omega)
  rwa [show i + (j - i) = j by omega] at this

/-! ### Adem's relations -/
def xsumf {α : Type} (f : α → Nat) (l : List α) : Nat := l.foldl (fun x j => xr x (f j)) 0
theorem xsumf_cons {α : Type} (f : α → Nat) (a : α) (l : List α) : xsumf f (a :: l) = xr (f a) (xsumf f l) := by
  unfold xsumf; simp only [List.foldl_cons]; rw [xfold, zero_xr]
theorem xsumf_append {α : Type} (f : α → Nat) (l m : List α) : xsumf f (l ++ m) = xr (xsumf f l) (xsumf f m) := by
  induction l with
  | nil => exact (zero_xr _).symm
  | cons a l ih => rw [List.cons_append, xsumf_cons, xsumf_cons, ih, xr_assoc]
theorem xsumf_reverse {α : Type} (f : α → Nat) (l : List α) : xsumf f l.reverse = xsumf f l := by
  induction l with
  | nil => rfl
  | cons a l ih => rw [List.reverse_cons, xsumf_append, ih, xsumf_cons, xsumf_cons, xr_comm]; simp only [xsumf, List.foldl_nil]; rw [xr_zero]
theorem xsumf_map {α β : Type} (f : β → Nat) (g : α → β) (l : List α) : xsumf f (l.map g) = xsumf (fun a => f (g a)) l := by
  unfold xsumf; rw [List.foldl_map]
theorem xsumf_zero {α : Type} (f : α → Nat) : ∀ (l : List α), (∀ a ∈ l, f a = 0) → xsumf f l = 0
  | [], _ => rfl
  | a :: l, h => by rw [xsumf_cons, h a (List.mem_cons_self ..), xsumf_zero f l fun b hb => h b (List.mem_cons_of_mem _ hb)]; rfl
theorem xsumf_congr {α : Type} {f g : α → Nat} : ∀ (l : List α), (∀ a ∈ l, f a = g a) → xsumf f l = xsumf g l
  | [], _ => rfl
  | a :: l, h => by rw [xsumf_cons, xsumf_cons, h a (List.mem_cons_self ..), xsumf_congr l fun b hb => h b (List.mem_cons_of_mem _ hb)]
/-- does j occur in Adem's relation for a and b? -/
def relB (a b j : Nat) : Bool := an (b - j - 1) (a - 2 * j) == a - 2 * j
def relN (a b : Nat) : List Nat := (List.range (a / 2 + 1)).filter (relB a b)
def adem (Q : List (List Int)) (a b v : Nat) : Nat := xsumf (fun j => act Q ((a + b - j : Nat) : Int) (act Q (j : Int) v)) (relN a b)
def OkAt (Q : List (List Int)) (a b v : Nat) : Prop := act Q (a : Int) (act Q (b : Int) v) = adem Q a b v
structure IsMod (xs : List Int) (Q : List (List Int)) : Prop where
  shp : Shp xs Q
  ok : ∀ a b : Nat, 1 ≤ a → a < 2 * b → a + b ≤ 20 → ∀ i, i < xs.length → OkAt Q a b (2 ^ i)
noncomputable def modB (xs : List Int) (Q : List (List Int)) : Bool := @decide (IsMod xs Q) (Classical.propDecidable _)
theorem modB_iff : modB xs Q = true ↔ IsMod xs Q := by unfold modB; simp
theorem modB_false : modB xs Q = false ↔ ¬ IsMod xs Q := by unfold modB; simp
theorem mem_relN {a b j : Nat} (h : j ∈ relN a b) : 2 * j ≤ a ∧ relB a b j = true := by
  unfold relN at h
  rw [List.mem_filter, List.mem_range] at h
  exact ⟨by omega, h.2⟩
/-- beyond the span of the degrees nothing is left of two squares -/
theorem far_zero (h : Shp xs Q) {a b i : Nat} (hi : i < xs.length) (hs : ∀ j, j < xs.length → xs.getD j 0 < xs.getD i 0 + a + b) (c e : Nat) (hc : c + e = a + b) : act Q (c : Int) (act Q (e : Int) (2 ^ i)) = 0 := by
  have h1 := act_hom h (n := (c : Int)) (act_hom h (n := (e : Int)) (Hom.pow hi))
  exact h1.eq_zero fun j hj => by have := hs j hj; omega
theorem far_ok (h : Shp xs Q) {a b i : Nat} (hi : i < xs.length) (hab : a < 2 * b) (hs : ∀ j, j < xs.length → xs.getD j 0 < xs.getD i 0 + a + b) : OkAt Q a b (2 ^ i) := by
  unfold OkAt adem
  rw [far_zero h hi hs a b rfl, xsumf_zero]
  intro j hj
  have := (mem_relN hj).1
  exact far_zero h hi hs _ _ (by omega)
/-- the words of Adem's relation, in order -/
def ademW (a b j : Nat) : List Int := if j = 0 then [((a + b : Nat) : Int)] else [((a + b - j : Nat) : Int), (j : Int)]
def wordM (Q : List (List Int)) (w : List Int) (v : Nat) : Nat := w.foldr (fun n v => act Q n v) v
theorem wordM_adem (Q : List (List Int)) (a b j v : Nat) : wordM Q (ademW a b j) v = act Q ((a + b - j : Nat) : Int) (act Q (j : Int) v) := by
  unfold ademW; split
  · rename_i h; subst h; simp only [wordM, List.foldr_cons, List.foldr_nil, Int.natCast_zero]; rw [act0]; rfl
  · rfl
def ademF (a b : Nat) : List (List Int) := ((relN a b).reverse).map (ademW a b)
theorem adem_form (Q : List (List Int)) (a b v : Nat) : xsumf (fun w => wordM Q w v) (ademF a b) = adem Q a b v := by
  unfold ademF adem
  rw [xsumf_map, xsumf_reverse]
  exact xsumf_congr _ fun j _ => wordM_adem Q a b j v
end
end Go.Proofs.YtdkmdmpaflgfaaaGreatDoor

namespace Go.Proofs.YtdkmdmpaflgfaaaGreatDoor

def bit (v i : Nat) : Int := if tb v i = true then 1 else 0
theorem bit_bd (v i : Nat) : 0 ≤ bit v i ∧ bit v i ≤ 1 := by unfold bit; split <;> omega
theorem bit_one {v i : Nat} (h : tb v i = true) : bit v i = 1 := by unfold bit; rw [if_pos h]
theorem bit_none {v i : Nat} (h : tb v i = false) : bit v i = 0 := by unfold bit; rw [if_neg (by rw [h]; simp)]
theorem bit_iff (v i : Nat) : bit v i = 1 ↔ tb v i = true := by unfold bit; split <;> simp_all
theorem bit_xr (v w i : Nat) : bit (xr v w) i = (bit v i + bit w i) % 2 := by
  unfold bit; rw [tb_xr]; cases tb v i <;> cases tb w i <;> simp
def bitsL (v n : Nat) : List Int := (List.range n).map (bit v)
theorem bitsL_length (v n : Nat) : (bitsL v n).length = n := by simp [bitsL]
theorem bitsL_getD (v : Nat) {n i : Nat} (h : i < n) : (bitsL v n).getD i 0 = bit v i := by simp [bitsL, List.getD, h]
theorem list_ext_getD {x y : List Int} {n : Nat} (hx : x.length = n) (hy : y.length = n) (h : ∀ i, i < n → x.getD i 0 = y.getD i 0) : x = y := by
  apply List.ext_getElem (by omega)
  intro i h1 h2
  have := h i (by omega)
  simpa [List.getD, h1, h2] using this
theorem bitsL_inj {v w n : Nat} (hv : v < 2 ^ n) (hw : w < 2 ^ n) (h : bitsL v n = bitsL w n) : v = w := eq_of_tb fun m => by
  rcases Nat.lt_or_ge m n with hm | hm
  · have e : bit v m = bit w m := by rw [← bitsL_getD v hm, ← bitsL_getD w hm, h]
    cases h1 : tb v m <;> cases h2 : tb w m <;> simp [bit, h1, h2] at e <;> rfl
  · rw [tb_of_lt hv hm, tb_of_lt hw hm]
theorem bitsL_zero (n : Nat) : bitsL 0 n = List.replicate n 0 := list_ext_getD (bitsL_length _ _) (by simp) fun i hi => by
  rw [bitsL_getD _ hi, bit_none (tb_zero i)]; simp [List.getD, hi]
theorem set_getD (x : List Int) (c i : Nat) (y : Int) (hc : c < x.length) : (x.set c y).getD i 0 = if i = c then y else x.getD i 0 := by
  simp only [List.getD, List.getElem?_set]
  by_cases h : c = i
  · subst h; simp [hc]
  · simp [h, Ne.symm h]
theorem bitsL_flip (v : Nat) {n c : Nat} (h : c < n) : (bitsL v n).set c (1 - bit v c) = bitsL (xr v (2 ^ c)) n := list_ext_getD (by simp [bitsL_length]) (bitsL_length _ _) fun i hi => by
  rw [set_getD _ _ _ _ (by rw [bitsL_length]; exact h), bitsL_getD _ hi, bitsL_getD _ hi]
  unfold bit
  rw [tb_xr, tb_pow]
  by_cases e : i = c
  · subst e; simp; cases tb v i <;> simp
  · rw [if_neg e]; simp [show ¬ c = i from fun x => e x.symm]
theorem bitsL_unit {n k : Nat} (hk : k < n) : (List.replicate n (0 : Int)).set k 1 = bitsL (2 ^ k) n := by
  have := bitsL_flip 0 hk
  rw [bit_none (tb_zero k), zero_xr, bitsL_zero] at this
  simpa using this
theorem take_succ_getD {x : List Int} {k : Nat} (h : k < x.length) : x.take (k + 1) = x.take k ++ [x.getD k 0] := by
  rw [List.take_succ_eq_append_getElem h]; simp [List.getD, h]
theorem bitsL_take (v : Nat) {n k : Nat} (h : k < n) : (bitsL v n).take (k + 1) = (bitsL v n).take k ++ [bit v k] := by
  rw [take_succ_getD (by rw [bitsL_length]; exact h), bitsL_getD _ h]
end Go.Proofs.YtdkmdmpaflgfaaaGreatDoor

namespace Go.Proofs.YtdkmdmpaflgfaaaGreatDoor
open Go.RowKit

/-! ### append of a slice that reads as a list, nil let in, onto an own row -/
section
variable {P : Program} {w : World}
theorem append_nothing (t ty e : TypeId) (i : TypeInfo) (size : Nat) (ht : P.underlying t = some (.slice e)) (hi : P.info? e = some i) (base : Nat)
    (v : Value) (n : Nat) (xs : List Value) (hown : w.ownsRow base e size v n xs) (c : Nat) : (Builtin.append_ #[t, t] ty #[v, .slice none 0 c]).run P w = .ok v w := by
  rcases hown.2 with ⟨rfl, rfl⟩ | ⟨g, cap, cur, rfl, _, _, hnc, _⟩
  · simp [Builtin.append_, run_underlying ht, sizeOf, typeInfo, hi, Builtin.lenOf, Builtin.firstCells]
  · simp [Builtin.append_, run_underlying ht, sizeOf, typeInfo, hi, Builtin.lenOf, Builtin.firstCells, hnc, storeCells]
theorem wp_appR {o : Oper} {a : Act} {K : Act → World → Prop} {Q : Exit → Act → World → Prop} (s x : Operand) (t e : TypeId) (bytes : Nat) (E : ET P t e bytes)
    (ho : o.op = .call { callee := .builtin .append, args := #[s, x], argTypes := #[t, t] })
    (base : Nat) (v : Value) (n : Nat) (xs : List Value) (hs : a.eval s = v) (hown : w.ownsRow base e 1 v n xs)
    (A : Option Addr) (m c : Nat) (news : List Value) (hx : a.eval x = .slice A m c) (hm : m = news.length) (hr : Rd w A news) (h1 : ∀ u ∈ news, u.oneCell' = true)
    (hn : n + m < 1099511627776) (hbase : base ≤ w.heap.size)
    (h : ∀ v' w', w'.ownsRow base e 1 v' (n + m) (xs ++ news) → w.grownBy w' v.ownBlock → (v'.ownBlock = v.ownBlock ∨ v'.ownBlock = some w.heap.size) → K (a.put o.dst v') w') : Oper.wp P o a w K Q := by
  obtain ⟨i, z, hi, hz0, hz1, hz2, hz3⟩ := E.inf
  have hsm := E.small
  have key : ∃ v' w', (Builtin.append_ #[t, t] o.type #[v, .slice A m c]).run P w = .ok v' w' ∧ w'.ownsRow base e 1 v' (n + m) (xs ++ news) ∧ w.grownBy w' v.ownBlock ∧ (v'.ownBlock = v.ownBlock ∨ v'.ownBlock = some w.heap.size) := by
    rcases A with _ | ad
    · have h0 : news = [] := by
        rcases hr with h | ⟨b, o', h, _⟩
        · exact h
        · cases h
      subst h0
      have hm0 : m = 0 := by simpa using hm
      subst hm0
      exact ⟨v, w, append_nothing t o.type e i 1 E.und hi base v n xs hown c, by simpa using hown, World.grownBy.refl w _, .inl rfl⟩
    · have hcells : ∀ j u, news[j]? = some u → w.cell? (ad.add j) = some u := by
        intro j u hj
        rcases hr with h | ⟨b, o', h, hc⟩
        · subst h; simp at hj
        · injection h with h; subst h
          rw [Addr.add_lit]; exact hc j u hj
      obtain ⟨v', w', hrun, h2, h3, _, h5⟩ := run_append_own_at (P := P) w base t o.type e i z 1 bytes E.und hi hz0 hz1 hz2 hz3 (by omega) v n xs hown ad m c news (by omega) hcells h1 (by unfold maxLen; omega)
        (Nat.le_trans (Nat.mul_le_mul (show n + m ≤ 1099511627776 by omega) hsm) (by decide)) hbase
      exact ⟨v', w', hrun, h2, h3, h5⟩
  obtain ⟨v', w', hrun, h2, h3, h4⟩ := key
  unfold Oper.wp execOp
  simp only [ho, resolve, invoke, builtin, Sem.run_bind, Sem.run_pure, Result.andThen_ok, List.map_toArray, List.map_cons, List.map_nil, hs, hx, hrun]
  exact h v' w' h2 h3 h4
theorem wpList_appR {ops : Array Oper} {rest : List Oper} {o : Oper} {a : Act} {Q : Exit → Act → World → Prop} (s x : Operand) (t e : TypeId) (bytes : Nat) (E : ET P t e bytes) (hgd : o.guard = none)
    (ho : o.op = .call { callee := .builtin .append, args := #[s, x], argTypes := #[t, t] })
    (base : Nat) (v : Value) (n : Nat) (xs : List Value) (hs : a.eval s = v) (hown : w.ownsRow base e 1 v n xs)
    (A : Option Addr) (m c : Nat) (news : List Value) (hx : a.eval x = .slice A m c) (hm : m = news.length) (hr : Rd w A news) (h1 : ∀ u ∈ news, u.oneCell' = true)
    (hn : n + m < 1099511627776) (hbase : base ≤ w.heap.size)
    (h : ∀ v' w', w'.ownsRow base e 1 v' (n + m) (xs ++ news) → w.grownBy w' v.ownBlock → (v'.ownBlock = v.ownBlock ∨ v'.ownBlock = some w.heap.size) → wpList P ops Q rest (a.put o.dst v') w') : wpList P ops Q (o :: rest) a w :=
  wpList_plain hgd fun _ hK => wp_appR s x t e bytes E ho base v n xs hs hown A m c news hx hm hr h1 hn hbase fun v' w' h2 h3 h4 => hK _ _ (h v' w' h2 h3 h4)
/-- .. at a step of a region that draws its order -/
theorem step_appR {ops : Array Oper} {o : Oper} {a : Act} {K : Act → World → Prop} {Q : Exit → Act → World → Prop} {E' : Prop} (s x : Operand) (t e : TypeId) (bytes : Nat) (E : ET P t e bytes) (hgd : o.guard = none)
    (ho : o.op = .call { callee := .builtin .append, args := #[s, x], argTypes := #[t, t] })
    (base : Nat) (v : Value) (n : Nat) (xs : List Value) (hs : a.eval s = v) (hown : w.ownsRow base e 1 v n xs)
    (A : Option Addr) (m c : Nat) (news : List Value) (hx : a.eval x = .slice A m c) (hm : m = news.length) (hr : Rd w A news) (h1 : ∀ u ∈ news, u.oneCell' = true)
    (hn : n + m < 1099511627776) (hbase : base ≤ w.heap.size)
    (h : ∀ v' w', w'.ownsRow base e 1 v' (n + m) (xs ++ news) → w.grownBy w' v.ownBlock → (v'.ownBlock = v.ownBlock ∨ v'.ownBlock = some w.heap.size) → K (a.put o.dst v') w') :
    if Region.wanted o (yielded ops a.tmps) = true then Oper.wp P o a w K Q else E' := by
  rw [if_pos (by simp [Region.wanted, hgd])]
  exact wp_appR s x t e bytes E ho base v n xs hs hown A m c news hx hm hr h1 hn hbase h
end
theorem below_app2 {H : Nat} {w wr w1 : World} {v : Value} {n : Nat} {xs : List Value} {e : TypeId} (hb : Below H w wr) (hH : H ≤ wr.heap.size) (hown : wr.ownsRow H e 1 v n xs) {o : Obj} (hg : (wr.alloc o).grownBy w1 v.ownBlock) : Below H w w1 :=
  (hb.alloc hH o).grown hg (by simp; omega) (fun k hk => (hown.lt k hk).1)
theorem iv_append (xs ys : List Int) : iv (xs ++ ys) = iv xs ++ iv ys := by simp [iv]
theorem nv_one (S : List Nat) : ∀ u ∈ nv S, u.oneCell' = true := by
  intro u hu
  obtain ⟨x, _, rfl⟩ := List.mem_map.1 hu
  rfl
theorem iv_one (S : List Int) : ∀ u ∈ iv S, u.oneCell' = true := by
  intro u hu
  obtain ⟨x, _, rfl⟩ := List.mem_map.1 hu
  rfl

set_option maxHeartbeats 1000000 in
theorem copyOf_any (A : Option Addr) (n c : Nat) (vs : List Value) (w : World) (hn : n = vs.length) (hsm : n ≤ 1000000000) (h1 : ∀ u ∈ vs, u.oneCell' = true) (hR : Rd w A vs) :
    Calls Tryz.prog 112 #[.slice A n c] w fun e w' => ∃ g cap, e = .returned (.slice (some ⟨g, 0, none⟩) n cap) ∧ w'.ownsRow w.heap.size 2 1 (.slice (some ⟨g, 0, none⟩) n cap) n vs ∧ Below w.heap.size w w' := by
  have HR := Lib.hid hR
  have Hn := Lib.hid hn
  have H1 := Lib.hid h1
  clear hR hn h1
  go_enter Tryz.func112, Tryz.ntmps112
  go_wp2_with (at_builtin; refine wpList_appR _ _ _ _ _ etI (by rfl) (by rfl) w.heap.size (.slice (some ⟨w.heap.size, 0, none⟩) 0 0) 0 [] (by rfl) ?_ A n c vs (by rfl) Hn.out ?_ H1.out ?_ ?_ ?_; exact World.ownsRow_made w #[] 0 (Nat.le_refl _) (by decide) (by simp); exact HR.out.alloc _; omega; (simp); (intro v' w' hown hg hat; have HO := Lib.hid hown; have HG := Lib.hid hg; have HA := Lib.hid hat; clear hown hg hat))
  go_ret
  have ho := HO.out
  rw [Nat.zero_add, List.nil_append] at ho
  have hb : Below w.heap.size w w' := ((Below.refl _ _).alloc (Nat.le_refl _) _).grown HG.out (by simp) (fun k hk => by simp [Value.ownBlock] at hk; omega)
  rcases ho.2 with ⟨rfl, _⟩ | ⟨g, cap, cur, rfl, _⟩
  · rcases HA.out with h | h <;> simp [Value.ownBlock] at h
  · exact ⟨g, cap, rfl, ho, hb⟩

set_option maxHeartbeats 1000000 in
theorem l01Own_any (A : Option Addr) (n c : Nat) (vs : List Value) (w : World) (hn : n = vs.length) (hsm : n ≤ 1000000000) (h1 : ∀ u ∈ vs, u.oneCell' = true) (hR : Rd w A vs) :
    Calls Tryz.prog 149 #[.slice A n c] w fun e w' => ∃ g cap, e = .returned (.slice (some ⟨g, 0, none⟩) n cap) ∧ w'.ownsRow w.heap.size 2 1 (.slice (some ⟨g, 0, none⟩) n cap) n vs ∧ Below w.heap.size w w' := by
  have HR := Lib.hid hR
  have Hn := Lib.hid hn
  have H1 := Lib.hid h1
  clear hR hn h1
  go_enter Tryz.func149, Tryz.ntmps149
  go_wp2_with (at_builtin; refine wpList_appR _ _ _ _ _ etI (by rfl) (by rfl) w.heap.size (.slice (some ⟨w.heap.size, 0, none⟩) 0 0) 0 [] (by rfl) ?_ A n c vs (by rfl) Hn.out ?_ H1.out ?_ ?_ ?_; exact World.ownsRow_made w #[] 0 (Nat.le_refl _) (by decide) (by simp); exact HR.out.alloc _; omega; (simp); (intro v' w' hown hg hat; have HO := Lib.hid hown; have HG := Lib.hid hg; have HA := Lib.hid hat; clear hown hg hat))
  go_ret
  have ho := HO.out
  rw [Nat.zero_add, List.nil_append] at ho
  have hb : Below w.heap.size w w' := ((Below.refl _ _).alloc (Nat.le_refl _) _).grown HG.out (by simp) (fun k hk => by simp [Value.ownBlock] at hk; omega)
  rcases ho.2 with ⟨rfl, _⟩ | ⟨g, cap, cur, rfl, _⟩
  · rcases HA.out with h | h <;> simp [Value.ownBlock] at h
  · exact ⟨g, cap, rfl, ho, hb⟩

end Go.Proofs.YtdkmdmpaflgfaaaGreatDoor

namespace Go.Proofs.YtdkmdmpaflgfaaaGreatDoor
open Go.RowKit

def cntIn (x m : Nat) (ys : List Int) : List Int := ys.set m (wrap64 (ys.getD m 0 + ys.getD (m - x) 0))
def cntRow (x : Nat) : Nat → List Int → List Int
  | 0, ys => ys
  | j + 1, ys => cntIn x (x + j) (cntRow x j ys)
def cntW (s : Nat) : Nat := 2 ^ (s + 1) - 1
def cntAll : Nat → List Int
  | 0 => 1 :: List.replicate 14 0
  | s + 1 => cntRow (cntW s) (15 - cntW s) (cntAll s)
def cnt14 : List Int := cntAll 3
theorem cnt14_len : cnt14.length = 15 := by decide +kernel
theorem cnt14_bd : ∀ i, i < 15 → 0 ≤ cnt14.getD i 0 ∧ cnt14.getD i 0 ≤ 1000 := by decide +kernel
theorem cntW_lt : ∀ s, s < 3 → 1 ≤ cntW s ∧ cntW s ≤ 14 ∧ cntW (s + 1) = 2 * cntW s + 1 := by decide
theorem cntW_le : ∀ s, s < 3 → 2 * cntW s + 1 ≤ 15 := by decide
theorem made_own (w : World) (B n : Nat) (hB : B ≤ w.heap.size) (hn : n ≤ 1099511627776) : (w.alloc (.cells (madeCells #[.int .i64 0] n) 2)).ownsRow B 2 1 (.slice (some ⟨w.heap.size, 0, none⟩) n n) n (iv (List.replicate n 0)) := by
  refine ⟨by simp [iv], .inr ⟨w.heap.size, n, _, rfl, hB, blk_new w _, Nat.le_refl _, by unfold maxLen; omega, by simp [madeCells], ?_⟩⟩
  rw [← iv_replicate, List.take_of_length_le (by simp [madeCells])]
theorem made_own1 (w : World) : (w.alloc (.cells ((madeCells #[.int .i64 0] 15).setIfInBounds 0 (.int .i64 1)) 2)).ownsRow w.heap.size 2 1 (.slice (some ⟨w.heap.size, 0, none⟩) 15 15) 15 (iv (cntAll 0)) := by
  have h := (World.ownsRow.stored (made_own w w.heap.size 15 (Nat.le_refl _) (by omega)) 0 (.int .i64 1)).1
  rw [World.setCell_alloc_at _ _ _ _ _ rfl] at h
  exact h
end Go.Proofs.YtdkmdmpaflgfaaaGreatDoor

namespace Go.Proofs.YtdkmdmpaflgfaaaGreatDoor
open Go.RowKit

theorem act_take_succ (Q : List (List Int)) (z : Int) (v : Nat) {k : Nat} (hk : k < Q.length) : actE (Q.take (k + 1)) z v = xr (actE (Q.take k) z v) (hit z v (Q.getD k [])) := fold_take_succ _ _ _ _ _ hk
theorem dat_take (L : List Row) (k : Nat) : (dat L).take k = dat (L.take k) := by simp [dat, List.map_take]

set_option maxHeartbeats 1000000 in
theorem l11Unit_any (n k : Nat) (w : World) (hk : k < n) (hn : n ≤ 1000) :
    Calls Tryz.prog 121 #[.int .i64 n, .int .i64 k] w fun e w' => ∃ g cap, e = .returned (.slice (some ⟨g, 0, none⟩) n cap) ∧ w'.ownsRow w.heap.size 2 1 (.slice (some ⟨g, 0, none⟩) n cap) n (iv (bitsL (2 ^ k) n)) ∧ Below w.heap.size w w' := by
  have hmk := run_make_row' (P := Tryz.prog) 22 2 (.int .i64 0) 8 Tryz.underlying22 infoI rfl .i64 .i64 n (by omega) (by omega)
  have hO := made_own w w.heap.size n (Nat.le_refl _) (by omega)
  have hc := owns_getD hO (k := k) hk
  have hf := hO.frozenAt k
  have h3 := (World.ownsRow.stored hO k (.int .i64 1)).1
  rw [← iv_set, bitsL_unit hk] at h3
  have H3 := Lib.hid h3
  have HB : Hid (Below w.heap.size w ((w.alloc (.cells (madeCells #[.int .i64 0] n) 2)).setCell ⟨w.heap.size, k, none⟩ (.int .i64 1))) := Lib.hid (((Below.refl _ _).alloc (Nat.le_refl _) _).setCell (p := ⟨w.heap.size, k, none⟩) (Nat.le_refl _) _)
  clear hO h3
  go_enter Tryz.func121, Tryz.ntmps121
  go_wp2_with fail
  go_ret
  have h4 := H3.out
  have hb := HB.out
  rw [World.setCell_alloc_at _ _ _ _ _ rfl] at h4 hb
  exact ⟨w.heap.size, n, rfl, h4, hb⟩

set_option maxRecDepth 100000 in
set_option maxHeartbeats 2000000 in
theorem l11Act_any (A A' V : Option Addr) (n c m c' cv : Nat) (xs : List Int) (L : List Row) (z : Int) (v : Nat) (w : World) (hn : n = xs.length) (hm : m = L.length) (hs : Shp xs (dat L)) (hm1 : m ≤ 1048576) (hR : RdR w A' L) (hV : Rd w V (iv (bitsL v n))) :
    Calls Tryz.prog 159 #[.agg #[.slice A n c, .slice A' m c'], .int .i64 z, .slice V n cv] w fun e w' => ∃ g cap, e = .returned (.slice (some ⟨g, 0, none⟩) n cap) ∧ w'.ownsRow w.heap.size 2 1 (.slice (some ⟨g, 0, none⟩) n cap) n (iv (bitsL (act (dat L) z v) n)) ∧ Below w.heap.size w w' := by
  have hn16 : n ≤ 16 := by rw [hn]; exact hs.len
  by_cases h0 : z = 0
  · subst h0
    have HC := Lib.hid (l01Own_any V n cv (iv (bitsL v n)) (w.alloc (.cells #[.slice A n c, .slice A' m c'] 30)) (by rw [iv_length, bitsL_length]) (by omega) (iv_one _) (hV.alloc _))
    clear hR hV hn hm hs
    go_enter Tryz.func159, Tryz.ntmps159
    go_wp2_with fail
    refine HC.out.mono ?_
    rintro e w1 ⟨g, cap, rfl, ho, hb⟩
    have HO := Lib.hid ho
    have HB := Lib.hid hb
    clear ho hb
    go_wp2_with fail
    go_ret
    refine ⟨g, cap, rfl, ?_, ((Below.refl _ _).alloc (Nat.le_refl _) _).trans (HB.out.mono (by simp))⟩
    rw [act0]; exact HO.out.mono (by simp)
  · have h0b : (z == 0) = false := by simpa using h0
    have hmk := run_make_row' (P := Tryz.prog) 22 2 (.int .i64 0) 8 Tryz.underlying22 infoI rfl .i64 .i64 n (by omega) (by omega)
    have HACT : Hid (act (dat L) z v = actE (dat L) z v) := Lib.hid (act_pos h0 _ _)
    have HS := Lib.hid hs
    have HR := Lib.hid hR
    have HV := Lib.hid hV
    have Hn := Lib.hid hn
    have Hm := Lib.hid hm
    clear hs hR hV hn hm
    obtain ⟨x0, x1, xf0, xf1, lx⟩ := blk2cells (blk_new w (.cells #[.slice A n c, .slice A' m c'] 30))
    go_enter Tryz.func159, Tryz.ntmps159
    go_wp2_with fail
    clear hmk x0 x1 xf0 xf1 lx
    go_loopw [8] (fun i wr => ∃ k : Nat, k ≤ m ∧ i = .int .i64 k ∧ wr.ownsRow w.heap.size 2 1 (.slice (some ⟨w.heap.size + 1, 0, none⟩) n n) n (iv (bitsL (actE ((dat L).take k) z v) n)) ∧ wr.heap[w.heap.size]? = some (.cells #[.slice A n c, .slice A' m c'] 30 (0, 0)) ∧ Below w.heap.size w wr) (fun i _ => m - (intOf i).toNat)
    case atStart =>
      refine ⟨0, by omega, rfl, ?_, blk_alloc (blk_new w _) _, ((Below.refl _ _).alloc (Nat.le_refl _) _).alloc (by simp) _⟩
      have := made_own (w.alloc (.cells #[.slice A n c, .slice A' m c'] 30)) w.heap.size n (by simp) (by omega)
      rw [← bitsL_zero] at this
      rw [show actE ((dat L).take 0) z v = 0 from rfl]
      simpa using this
    case round =>
      obtain ⟨k, hk, rfl, hown, hblk, hbel⟩ := hrel
      have HO := Lib.hid hown
      have HB := Lib.hid hbel
      have HK := Lib.hid hblk
      obtain ⟨x0, x1, xf0, xf1, lx⟩ := blk2cells hblk
      by_cases hlt : k < m
      · have hkL : k < L.length := by rw [← Hm.out]; exact hlt
        have hR1 := HR.out.below hbel
        obtain ⟨b, o, rfl, hcell⟩ := hR1.at_ hkL
        have hin := hR1.inn k hkL
        have hent := HS.out.ent k (by rw [dat_length]; exact hkL)
        have hst := act_take_succ (dat L) z v (k := k) (by rw [dat_length]; exact hkL)
        rw [dat_getD] at hent hst
        generalize rg L k = r at *
        obtain ⟨rA, rc, rx⟩ := r
        simp only at hcell hin hent hst
        have hl3 := hent.len
        rw [hl3] at hcell
        obtain ⟨b1, o1, rfl, hy0⟩ := hin.atI (k := 0) (by omega)
        rw [Nat.add_zero] at hy0
        have hy1 := hin.cellI (k := 1) (by omega)
        have hy2 := hin.cellI (k := 2) (by omega)
        have hlo1 := hent.lo1
        have hhi1 := hent.hi1
        have hlo2 := hent.lo2
        have hhi2 := hent.hi2
        rw [← Hn.out] at hhi1 hhi2
        have HST := Lib.hid hst
        have HH : Hid (hit z v rx = if rx.getD 0 0 = z ∧ tb v (rx.getD 1 0).toNat = true then 2 ^ (rx.getD 2 0).toNat else 0) := Lib.hid rfl
        clear hst hent hin hR1 hl3
        generalize rx.getD 0 0 = e0 at *
        generalize rx.getD 1 0 = e1 at *
        generalize rx.getD 2 0 = e2 at *
        obtain ⟨i1, rfl⟩ := Int.eq_ofNat_of_zero_le hlo1
        obtain ⟨i2, rfl⟩ := Int.eq_ofNat_of_zero_le hlo2
        have hi1 : i1 < n := by omega
        have hi2 : i2 < n := by omega
        rw [Int.toNat_natCast, Int.toNat_natCast] at HH
        by_cases he : e0 = z
        · subst he
          obtain ⟨vb, vo, rfl, hvc⟩ := (HV.out.below hbel).atI (k := i1) (by rw [bitsL_length]; exact hi1)
          rw [bitsL_getD _ hi1] at hvc
          cases htb : tb v i1
          · rw [bit_none htb] at hvc
            have HH2 := Lib.hid (HH.out.trans (if_neg (by rw [htb]; simp)))
            clear hown hbel hblk htb
            go_wp2_with fail
            go_roundw
            case rel => exact ⟨k + 1, by omega, by go_num, by rw [HST.out, HH2.out, xr_zero]; exact HO.out, HK.out, HB.out⟩
            case measure => simp [intOf]; omega
          · rw [bit_one htb] at hvc
            have HH2 := Lib.hid (HH.out.trans (if_pos ⟨rfl, htb⟩))
            have hoc := owns_getD hown hi2
            rw [bitsL_getD _ hi2] at hoc
            have fz := hown.frozenAt i2
            obtain ⟨bd1, bd2⟩ := bit_bd (actE ((dat L).take k) e0 v) i2
            have HSTO : Hid ((wr.setCell ⟨w.heap.size + 1, i2, none⟩ (.int .i64 (1 - bit (actE ((dat L).take k) e0 v) i2))).ownsRow w.heap.size 2 1 (.slice (some ⟨w.heap.size + 1, 0, none⟩) n n) n (iv (bitsL (xr (actE ((dat L).take k) e0 v) (2 ^ i2)) n))) := Lib.hid (by
              rw [← bitsL_flip _ hi2, iv_set]; exact (World.ownsRow.stored HO.out i2 _).1)
            generalize bit (actE ((dat L).take k) e0 v) i2 = y at *
            clear hown hbel hblk htb
            go_wp2_with fail
            go_still_tail 12, (by kernel_rfl)
            go_wp2_with fail
            go_roundw
            case rel => exact ⟨k + 1, by omega, by go_num, by rw [HST.out, HH2.out]; exact owns_keeps HSTO.out (Keeps.drew (S := []) (Keeps.refl _ _)) (.inr (by simp)), blk_seto HK.out ⟨w.heap.size + 1, i2, none⟩ (by simp) _, (HB.out.setCell (p := ⟨w.heap.size + 1, i2, none⟩) (by simp) _).drew⟩
            case measure => simp [intOf]; omega
        · have heb : (e0 == z) = false := by simpa using he
          have HH2 := Lib.hid (HH.out.trans (if_neg (fun h => he h.1)))
          clear hown hbel hblk he
          go_wp2_with fail
          go_roundw
          case rel => exact ⟨k + 1, by omega, by go_num, by rw [HST.out, HH2.out, xr_zero]; exact HO.out, HK.out, HB.out⟩
          case measure => simp [intOf]; omega
      · obtain rfl : k = m := by omega
        have he : (dat L).take k = dat L := List.take_of_length_le (by rw [dat_length, ← Hm.out]; exact Nat.le_refl _)
        rw [he] at HO
        clear hown hbel hblk he
        go_wp2_with fail
        go_ret
        exact ⟨w.heap.size + 1, n, rfl, by rw [HACT.out]; exact HO.out, HB.out⟩
end Go.Proofs.YtdkmdmpaflgfaaaGreatDoor
