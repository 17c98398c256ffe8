/- results as laws take them; the laws' own helpers at modules · plain mathematics of masks: reduced lists of rows -/
import Derived.Test.YtpchigdhnnkpcaaGreatDoorZac
import Derived.Deep.Onto
import Derived.Test.YtpchigdhnnkpcaaGreatDoorZaa
namespace Go.Proofs.YtpchigdhnnkpcaaGreatDoor
open Go.RowKit

/-- a new slice of ints and a code -/
def ResS (r : List Int × Int) (w : World) (e : Ending) (w' : World) : Prop := ∃ v, e = .returned (.tuple #[v, .int .i64 r.2]) ∧ w'.ownsRow w.heap.size 2 1 v r.1.length (iv r.1) ∧ Below w.heap.size w w'
/-- new rows of rows and a code -/
def ResR (r : List (List Int) × Int) (w : World) (e : Ending) (w' : World) : Prop := ∃ v M, e = .returned (.tuple #[v, .int .i64 r.2]) ∧ dat M = r.1 ∧ OwnR w' w.heap.size v M ∧ Below w.heap.size w w'
def ResI (r : Int × Int) (w : World) (e : Ending) (w' : World) : Prop := e = .returned (.tuple #[.int .i64 r.1, .int .i64 r.2]) ∧ Below w.heap.size w w'
def ResB (r : Bool × Int) (w : World) (e : Ending) (w' : World) : Prop := e = .returned (.tuple #[.bool r.1, .int .i64 r.2]) ∧ Below w.heap.size w w'
theorem blk2set0' {w : World} {g : Nat} {u v : Value} {t : TypeId} (h : w.heap[g]? = some (.cells #[u, v] t (0, 0))) (x : Value) : (w.setCell ⟨g, 0, none⟩ x).heap[g]? = some (.cells #[x, v] t (0, 0)) := by
  have := heap_setCell_same w g 0 _ t x h
  simpa using this
theorem blk2set1' {w : World} {g : Nat} {u v : Value} {t : TypeId} (h : w.heap[g]? = some (.cells #[u, v] t (0, 0))) (x : Value) : (w.setCell ⟨g, 1, none⟩ x).heap[g]? = some (.cells #[u, x] t (0, 0)) := by
  have := heap_setCell_same w g 1 _ t x h
  simpa using this
theorem blk_seto {w : World} {g : Nat} {x : Obj} (h : w.heap[g]? = some x) (p : Addr) (hp : p.block ≠ g) (u : Value) : (w.setCell p u).heap[g]? = some x := (Below.heap_setCell w p u g (Ne.symm hp)).trans h
theorem blk_kept {w w' : World} {g : Nat} {x : Obj} (h : w.heap[g]? = some x) (hb : Below w.heap.size w w') : w'.heap[g]? = some x := (hb.block g (Array.getElem?_eq_some_iff.1 h).1).trans h
theorem own_ne_blk {w : World} {B bs n : Nat} {e t : TypeId} {v : Value} {xs : List Value} {cs : Array Value} (h : w.ownsRow B e 1 v n xs) (hb : w.heap[bs]? = some (.cells cs t (0, 0))) (hne : e ≠ t) : v.ownBlock ≠ some bs := by
  rcases h.2 with ⟨rfl, _⟩ | ⟨g, cap, cur, rfl, _, hg, _⟩
  · simp [Value.ownBlock]
  · intro he
    have : g = bs := by simpa [Value.ownBlock] using he
    subst this
    rw [hg] at hb
    injection hb with hb
    injection hb with _ ht
    exact hne ht
theorem eqInts_same (A A' : Option Addr) (n c c' : Nat) (xs : List Int) (w : World) (hn : n = xs.length) (hsm : n ≤ 1099511627776) (hR : Rd w A (iv xs)) (hR' : Rd w A' (iv xs)) :
    Calls Tryz.prog 49 #[.slice A n c, .slice A' n c'] w fun e w' => e = .returned (.bool true) ∧ ∃ m, w.drewN m = w' := by
  have h := eqInts_any A A' n n c c' xs xs w hn hn hsm hsm hR hR'
  rwa [eqI_refl] at h

theorem eqIntsB_any (A A' : Option Addr) (n c c' : Nat) (xs : List Int) (w : World) (hn : n = xs.length) (hsm : n ≤ 1099511627776) (hR : Rd w A (iv xs)) (hR' : Rd w A' (iv xs)) :
    Calls Tryz.prog 49 #[.slice A n c, .slice A' n c'] w fun e w' => e = .returned (.bool true) ∧ Below w.heap.size w w' :=
  (eqInts_same A A' n c c' xs w hn hsm hR hR').mono fun _ _ ⟨he, m, hm⟩ => ⟨he, hm ▸ below_drewN (Below.refl _ _) m⟩
theorem eqRowsB_any (A A' : Option Addr) (n n' c c' : Nat) (L M : List Row) (w : World) (hn : n = L.length) (hn' : n' = M.length) (hsm : n ≤ 1099511627776) (hl : ∀ i, i < L.length → (rg L i).xs.length ≤ 1099511627776) (hd : dat M = dat L) (hR : RdR w A L) (hR' : RdR w A' M) :
    Calls Tryz.prog 14 #[.slice A n c, .slice A' n' c'] w fun e w' => e = .returned (.bool true) ∧ Below w.heap.size w w' :=
  (eqRows_any A A' n n' c c' L M w hn hn' hsm hl hd hR hR').mono fun _ _ ⟨he, m, hm⟩ => ⟨he, hm ▸ below_drewN (Below.refl _ _) m⟩
theorem tot_dat {L M : List Row} (h : dat M = dat L) : tot M = tot L := by
  have e : ∀ X : List Row, tot X = ((dat X).map List.length).sum := fun X => by simp [tot, dat, List.map_map, Function.comp_def]
  rw [e, e, h]
theorem tot_le {L : List Row} {k : Nat} (h : ∀ i, i < L.length → (rg L i).xs.length ≤ k) : tot L ≤ k * L.length := by
  have key : ∀ j, j ≤ L.length → tot (L.take j) ≤ k * j := by
    intro j
    induction j with
    | zero => intro _; simp [tot]
    | succ j ih =>
      intro hj
      rw [tot_succ (by omega)]
      have := ih (by omega)
      have := h j (by omega)
      rw [Nat.mul_succ]; omega
  have := key L.length (Nat.le_refl _)
  rwa [tot_all (Nat.le_refl _)] at this
theorem kb_add1 {a c : Int} {x : Nat} (h : 0 ≤ a ∧ a ≤ c) (hx : x ≤ 1048576) : 0 ≤ a + x ∧ a + x ≤ c + 1048576 := by omega
theorem kb_add2 {a c : Int} {x y : Nat} (h : 0 ≤ a ∧ a ≤ c) (hx : x ≤ 1048576) (hy : y ≤ 1048576) : 0 ≤ a + x + y ∧ a + x + y ≤ c + 2097152 := by omega
theorem rows_small {M : List Row} {r : List (List Int)} (hd : dat M = r) (h : r.length ≤ 1000 ∧ ∀ x ∈ r, x.length ≤ 1000) : M.length ≤ 1000 ∧ tot M ≤ 1000000 ∧ ∀ i, i < M.length → (rg M i).xs.length ≤ 1000 := by
  subst hd
  have h1 : M.length ≤ 1000 := by rw [← dat_length]; exact h.1
  have h2 : ∀ i, i < M.length → (rg M i).xs.length ≤ 1000 := fun i hi => h.2 _ (List.mem_map_of_mem (rg_mem hi))
  exact ⟨h1, Nat.le_trans (tot_le h2) (by omega), h2⟩

/-- A module's memory of the call's own. -/
structure OwnM (w : World) (B : Nat) (vd : Value) (xs : List Int) (va : Value) (L : List Row) : Prop where
  deg : w.ownsRow B 2 1 vd xs.length (iv xs)
  act : OwnR w B va L
  dis : ∀ i, i < L.length → vd.ownBlock = none ∨ vd.ownBlock ≠ (rg L i).val.ownBlock
def UpM (hi : Nat) (vd va : Value) (L : List Row) : Prop := (∀ k, vd.ownBlock = some k → k < hi) ∧ UpR hi va L
theorem OwnM.up {w : World} {B : Nat} {vd va : Value} {xs : List Int} {L : List Row} (h : OwnM w B vd xs va L) : UpM w.heap.size vd va L := ⟨fun k hk => (h.deg.lt k hk).2, h.act.up⟩
def modP (lo hi : Nat) (vd : Value) (xs : List Int) (va : Value) (L : List Row) : Piece :=
  ⟨lo, hi, fun w => OwnM w lo vd xs va L ∧ UpM hi vd va L, fun _ _ hs h => ⟨⟨own_same hs h.1.deg h.2.1, h.1.act.same hs h.2.2, h.1.dis⟩, h.2⟩⟩
section
variable {w0 w w' : World} {L : List Piece}
theorem Inw.mod (h : Inw w0 w L) (i : Nat) {lo hi : Nat} {vd va : Value} {xs : List Int} {M : List Row} (hi' : L[i]? = some (modP lo hi vd xs va M)) : OwnM w lo vd xs va M := (h.get i hi').1
theorem Inw.modUp (h : Inw w0 w L) (i : Nat) {lo hi : Nat} {vd va : Value} {xs : List Int} {M : List Row} (hi' : L[i]? = some (modP lo hi vd xs va M)) : UpM hi vd va M := (h.get i hi').2
theorem Inw.pushMod (h : Inw w0 w L) (hb : Below w.heap.size w w') {vd va : Value} {xs : List Int} {M : List Row} (ho : OwnM w' w.heap.size vd xs va M) : Inw w0 w' (modP w.heap.size w'.heap.size vd xs va M :: L) :=
  h.push hb _ (Nat.le_refl _) (Nat.le_refl _) ⟨ho, ho.up⟩
theorem Inw.markMod (h : Inw w0 w L) (i : Nat) {lo hi : Nat} {vd va : Value} {xs ys : List Int} {M : List Row} {k0 : Int} (hi' : L[i]? = some (modP lo hi vd xs va M)) (hk : Within lo hi w w') (ho : OwnM w' lo vd ys va (marksR k0 M)) : Inw w0 w' (L.set i (modP lo hi vd ys va (marksR k0 M))) := by
  have h1 := h.get i hi'
  exact h.mark i _ hi' rfl rfl hk ⟨ho, h1.2.1, h1.2.2.marks k0⟩
end

def SzMOk (n n' t : Nat) (left z : Int) : Prop := z = -1 ∨ (0 ≤ z ∧ z + n + n' + t = left)
set_option maxHeartbeats 1000000 in
theorem szModule_any (A A' : Option Addr) (n c n' c' : Nat) (L : List Row) (left : Int) (w : World) (hsm : n ≤ 9223372036854775807) (hn' : n' = L.length) (hsm' : n' ≤ 9223372036854775807) (hl : ∀ i, i < L.length → (rg L i).xs.length ≤ 9223372036854775807) (h0 : 0 ≤ left) (h1 : left ≤ 1048576) (hR : RdR w A' L) :
    Calls Tryz.prog 10 #[.agg #[.slice A n c, .slice A' n' c'], .int .i64 left] w fun e w' => ∃ z : Int, e = .returned (.int .i64 z) ∧ SzMOk n n' (tot L) left z ∧ Below w.heap.size w w' := by
  have hb := box2 w (.slice A n c) (.slice A' n' c') 25
  obtain ⟨b0, b1⟩ := hb
  have hR1 := hR.alloc (.cells #[.slice A n c, .slice A' n' c'] 25)
  have hs := fun W => szInts_any A n c left W hsm h0 h1
  by_cases h : left - n < 0
  · rw [show szV n left = -1 by unfold szV; rw [if_pos h]] at hs
    have HS := Lib.hid hs
    clear hs hR hR1 hl hn'
    go_enter Tryz.func10, Tryz.ntmps10
    go_wp2_with (go_at_call 37; refine (HS.out _).mono ?_; rintro e w' ⟨rfl, rfl⟩)
    go_ret
    exact ⟨-1, rfl, .inl rfl, (Below.refl _ _).alloc (Nat.le_refl _) _⟩
  · rw [show szV n left = left - n by unfold szV; rw [if_neg h]] at hs
    have HS := Lib.hid hs
    have HZ := Lib.hid (szRows_any A' n' c' L (left - n) _ hn' hsm' hl (by omega) (by omega) hR1)
    clear hs hR hR1 hl hn'
    go_enter Tryz.func10, Tryz.ntmps10
    go_wp2_with (go_at_call 37; refine (HS.out _).mono ?_; rintro e w' ⟨rfl, rfl⟩)
    refine HZ.out.mono ?_
    rintro e w' ⟨z, rfl, hz, rfl⟩
    rcases hz with rfl | ⟨hz0, hz1⟩
    · go_wp2_with fail
      go_ret
      exact ⟨-1, rfl, .inl rfl, (Below.refl _ _).alloc (Nat.le_refl _) _⟩
    · go_wp2_with fail
      go_ret
      exact ⟨z, rfl, .inr ⟨hz0, by omega⟩, (Below.refl _ _).alloc (Nat.le_refl _) _⟩

set_option maxRecDepth 100000 in
set_option maxHeartbeats 2000000 in
theorem toModule_any (A A' : Option Addr) (n c n' c' : Nat) (xs : List Int) (L : List Row) (w : World) (hn : n = xs.length) (hsm : n ≤ 1048576) (hR : Rd w A (iv xs)) (hn' : n' = L.length) (hsm' : n' ≤ 1048576) (hl : ∀ i, i < L.length → (rg L i).xs.length ≤ 1048576) (hR' : RdR w A' L) :
    Calls Tryz.prog 12 #[.agg #[.slice A n c, .slice A' n' c']] w fun e w' => ∃ g g' M, e = .returned (.agg #[.slice (some ⟨g, 0, none⟩) n n, .slice (some ⟨g', 0, none⟩) n' n']) ∧ dat M = dat L ∧ OwnM w' w.heap.size (.slice (some ⟨g, 0, none⟩) n n) xs (.slice (some ⟨g', 0, none⟩) n' n') M ∧ Below w.heap.size w w' := by
  have hk1 := blk_alloc (blk_alloc (blk_new w (.cells #[.slice A n c, .slice A' n' c'] 25)) (.cells #[.slice none 0 0, .slice none 0 0] 29)) (.cells #[.slice none 0 0, .slice none 0 0] 29)
  have hk2 := blk_alloc (blk_new1 w (.cells #[.slice A n c, .slice A' n' c'] 25) (.cells #[.slice none 0 0, .slice none 0 0] 29)) (.cells #[.slice none 0 0, .slice none 0 0] 29)
  have hk3 := blk_new2 w (.cells #[.slice A n c, .slice A' n' c'] 25) (.cells #[.slice none 0 0, .slice none 0 0] 29) (.cells #[.slice none 0 0, .slice none 0 0] 29)
  have hbel : Below w.heap.size w (((w.alloc (.cells #[.slice A n c, .slice A' n' c'] 25)).alloc (.cells #[.slice none 0 0, .slice none 0 0] 29)).alloc (.cells #[.slice none 0 0, .slice none 0 0] 29)) := (((Below.refl _ _).alloc (Nat.le_refl _) _).alloc (by simp) _).alloc (by simp; omega) _
  have HC1 := Lib.hid (toInts_any A n c xs _ hn hsm (hR.below hbel))
  have HK1 := Lib.hid hk1
  have HK2 := Lib.hid hk2
  have HK3 := Lib.hid hk3
  have HB := Lib.hid hbel
  have HC2 := Lib.hid (fun W (hb : Below w.heap.size w W) => toRows_any A' n' c' L W hn' hsm' hl (hR'.below hb))
  have HN := Lib.hid hn
  clear hk1 hk2 hk3 hbel hR hR' hn hn' hl
  go_enter Tryz.func12, Tryz.ntmps12
  go_wp2_with fail
  refine HC1.out.mono ?_
  rintro e w1 ⟨g, rfl, ho, hb⟩
  have HK1a := Lib.hid (blk_kept HK1.out hb)
  have HK2a := Lib.hid (blk_kept HK2.out hb)
  have HK3a := Lib.hid (blk_kept HK3.out hb)
  obtain ⟨x0, x1, xf0, xf1, lx⟩ := blk2cells HK1a.out
  obtain ⟨y0, y1, yf0, yf1, ly⟩ := blk2cells HK2a.out
  obtain ⟨z0, z1, zf0, zf1, lz⟩ := blk2cells HK3a.out
  have HB1 := Lib.hid (HB.out.trans (hb.mono HB.out.size))
  have HO1 := Lib.hid (ho.mono (show w.heap.size ≤ _ by simp; omega))
  clear ho hb
  go_wp2_with fail
  have HK1b := Lib.hid (blk_seto HK1a.out ⟨w.heap.size + 1 + 1, 0, none⟩ (by simp; omega) (.slice (some ⟨g, 0, none⟩) n n))
  have HK2b := Lib.hid (blk_seto HK2a.out ⟨w.heap.size + 1 + 1, 0, none⟩ (by simp) (.slice (some ⟨g, 0, none⟩) n n))
  have HK3b := Lib.hid (blk2set0' HK3a.out (.slice (some ⟨g, 0, none⟩) n n))
  have HB2 := Lib.hid (HB1.out.setCell (p := ⟨w.heap.size + 1 + 1, 0, none⟩) (by simp; omega) (.slice (some ⟨g, 0, none⟩) n n))
  have HO2 := Lib.hid (owns_keeps HO1.out ((Keeps.refl w1 [some (w.heap.size + 1 + 1)]).setCell (p := ⟨w.heap.size + 1 + 1, 0, none⟩) (by simp) (.slice (some ⟨g, 0, none⟩) n n)) (.inr (by have := own_ne_blk HO1.out HK3a.out (by decide); simpa using this)))
  have HC3 := Lib.hid (HC2.out _ HB2.out)
  clear HC2 HC1
  refine HC3.out.mono ?_
  clear x0 x1 xf0 xf1 lx y0 y1 yf0 yf1 ly z0 z1 zf0 zf1 lz HC3
  rintro e w2 ⟨g', M, rfl, hd, ho, hb⟩
  have HK1c := Lib.hid (blk_kept HK1b.out hb)
  have HK2c := Lib.hid (blk_kept HK2b.out hb)
  have HK3c := Lib.hid (blk_kept HK3b.out hb)
  obtain ⟨x0, x1, xf0, xf1, lx⟩ := blk2cells HK1c.out
  obtain ⟨y0, y1, yf0, yf1, ly⟩ := blk2cells HK2c.out
  obtain ⟨z0, z1, zf0, zf1, lz⟩ := blk2cells HK3c.out
  have HD := Lib.hid hd
  have HB3 := Lib.hid (HB2.out.trans (hb.mono HB2.out.size))
  have hdis : ∀ i, i < M.length → (Value.slice (some ⟨g, 0, none⟩) n n).ownBlock = none ∨ (Value.slice (some ⟨g, 0, none⟩) n n).ownBlock ≠ (rg M i).val.ownBlock := fun i hi => .inr (fun e => by
    have h1 := (HO2.out.lt g rfl).2
    have h2 := ((ho.inn i hi).lt g (by rw [← e]; rfl)).1
    omega)
  have HDI := Lib.hid hdis
  have HOR := Lib.hid (ho.mono HB2.out.size)
  have HO3 := Lib.hid (owns_keeps HO2.out (Keeps.of_below hb) (.inr (by simp)))
  clear ho hb hd hdis
  go_wp2_with fail
  have k : Keeps w2 (((w2.setCell ⟨w.heap.size + 1 + 1, 1, none⟩ (.slice (some ⟨g', 0, none⟩) n' n')).setCell ⟨w.heap.size + 1, 0, none⟩ (.slice (some ⟨g, 0, none⟩) n n)).setCell ⟨w.heap.size + 1, 1, none⟩ (.slice (some ⟨g', 0, none⟩) n' n')) [some (w.heap.size + 1), some (w.heap.size + 1 + 1)] :=
    (((Keeps.refl w2 [some (w.heap.size + 1), some (w.heap.size + 1 + 1)]).setCell (p := ⟨w.heap.size + 1 + 1, 1, none⟩) (by simp) _).setCell (p := ⟨w.heap.size + 1, 0, none⟩) (by simp) _).setCell (p := ⟨w.heap.size + 1, 1, none⟩) (by simp) _
  refine bodyPost_ret (v := .agg #[.slice (some ⟨g, 0, none⟩) n n, .slice (some ⟨g', 0, none⟩) n' n']) ?_ rfl ⟨g, g', M, rfl, HD.out, ⟨?_, ?_, HDI.out⟩, ?_⟩
  · simp [results, Tryz.results12, go_sem, y0, y1]
  · rw [← HN.out]
    exact owns_keeps HO3.out k (.inr (by have h1 := own_ne_blk HO3.out HK2c.out (by decide); have h2 := own_ne_blk HO3.out HK3c.out (by decide); simp only [List.mem_cons, List.not_mem_nil, or_false, not_or]; exact ⟨h1, h2⟩))
  · refine HOR.out.keeps k (.inr ?_) (fun i hi => .inr ?_)
    · have h1 := own_ne_blk HOR.out.out HK2c.out (by decide); have h2 := own_ne_blk HOR.out.out HK3c.out (by decide)
      simp only [List.mem_cons, List.not_mem_nil, or_false, not_or]; exact ⟨h1, h2⟩
    · have h1 := own_ne_blk (HOR.out.inn i hi) HK2c.out (by decide); have h2 := own_ne_blk (HOR.out.inn i hi) HK3c.out (by decide)
      simp only [List.mem_cons, List.not_mem_nil, or_false, not_or]; exact ⟨h1, h2⟩
  · exact ((HB3.out.setCell (p := ⟨w.heap.size + 1 + 1, 1, none⟩) (by simp; omega) _).setCell (p := ⟨w.heap.size + 1, 0, none⟩) (by simp) _).setCell (p := ⟨w.heap.size + 1, 1, none⟩) (by simp) _

set_option maxHeartbeats 1000000 in
theorem eqModule_any (A B A' B' : Option Addr) (n c d n' c' d' : Nat) (xs : List Int) (L M : List Row) (w : World) (hn : n = xs.length) (hsm : n ≤ 1048576) (hn' : n' = L.length) (hsm' : n' ≤ 1048576) (hl : ∀ i, i < L.length → (rg L i).xs.length ≤ 1048576) (hd : dat M = dat L) (hR : Rd w A (iv xs)) (hRb : Rd w B (iv xs)) (hR' : RdR w A' L) (hRb' : RdR w B' M) :
    Calls Tryz.prog 15 #[.agg #[.slice A n c, .slice A' n' c'], .agg #[.slice B n d, .slice B' n' d']] w fun e w' => e = .returned (.bool true) ∧ Below w.heap.size w w' := by
  have hk1 := blk_alloc (blk_new w (.cells #[.slice A n c, .slice A' n' c'] 29)) (.cells #[.slice B n d, .slice B' n' d'] 29)
  have hk2 := blk_new1 w (.cells #[.slice A n c, .slice A' n' c'] 29) (.cells #[.slice B n d, .slice B' n' d'] 29)
  have hbel : Below w.heap.size w ((w.alloc (.cells #[.slice A n c, .slice A' n' c'] 29)).alloc (.cells #[.slice B n d, .slice B' n' d'] 29)) := ((Below.refl _ _).alloc (Nat.le_refl _) _).alloc (by simp) _
  obtain ⟨x0, x1, _, _, _⟩ := blk2cells hk1
  obtain ⟨y0, y1, _, _, _⟩ := blk2cells hk2
  have HC := Lib.hid (eqInts_same A B n c d xs _ hn (by omega) (hR.below hbel) (hRb.below hbel))
  have HC2 := Lib.hid (fun m => eqRows_any A' B' n' n' c' d' L M _ hn' (by rw [hn', (dat_xs hd).1]) (by omega) (fun i hi => Nat.le_trans (hl i hi) (by omega)) hd ((hR'.below hbel).drewN m) ((hRb'.below hbel).drewN m))
  have HB := Lib.hid hbel
  clear hk1 hk2 hbel hn hn' hl hd hR hRb hR' hRb'
  go_enter Tryz.func15, Tryz.ntmps15
  go_wp2_with fail
  refine HC.out.mono ?_
  rintro e w1 ⟨rfl, m, rfl⟩
  go_wp2_with fail
  refine (HC2.out m).mono ?_
  rintro e w1 ⟨rfl, m', rfl⟩
  go_wp2_with fail
  go_ret
  exact ⟨rfl, below_drewN HB.out _⟩

set_option maxHeartbeats 1000000 in
theorem markModule_any (B hi : Nat) (vd va : Value) (xs : List Int) (L : List Row) (k0 : Int) (w : World) (hB : B ≤ w.heap.size) (hown : OwnM w B vd xs va L) (hu : UpM hi vd va L) (hsm : xs.length ≤ 1048576) (hsm' : L.length ≤ 1048576) (ht : tot L ≤ 1048576) (h0 : 0 ≤ k0) (h1 : k0 ≤ 900000000000) :
    Calls Tryz.prog 16 #[.agg #[vd, va], .int .i64 k0] w fun e w' => e = .returned (.int .i64 (k0 + xs.length + tot L)) ∧ OwnM w' B vd (marks k0 xs.length) va (marksR (k0 + xs.length) L) ∧ Within B hi w w' := by
  obtain ⟨A, c, rfl, _, _, _⟩ := owns_shape hown.deg
  obtain ⟨A', c', rfl, _, _, _⟩ := owns_shape hown.act.out
  have hm := markInts_any B _ xs.length xs k0 (w.alloc (.cells #[.slice A xs.length c, .slice A' L.length c'] 29)) (hown.deg.alloc _) (by omega) h0 (by omega)
  have hk := blk_new w (.cells #[.slice A xs.length c, .slice A' L.length c'] 29)
  have HM := Lib.hid hm
  have HK := Lib.hid hk
  have HO := Lib.hid hown
  have HU := Lib.hid hu
  clear hm hown hk hu
  go_enter Tryz.func16, Tryz.ntmps16
  go_wp2_with fail
  refine HM.out.mono ?_
  rintro e w1 ⟨rfl, ho, hk⟩
  have hne := own_ne_blk (HO.out.deg.alloc (.cells #[.slice A xs.length c, .slice A' L.length c'] 29)) HK.out (by decide)
  have hkb := (hk.block _ (Array.getElem?_eq_some_iff.1 HK.out).1 (by simpa using hne.symm)).trans HK.out
  have hor := (HO.out.act.later ((Below.refl _ _).alloc (Nat.le_refl _) (.cells #[.slice A xs.length c, .slice A' L.length c'] 29))).keeps hk (by
    have := own_ne2 HO.out.act.out HO.out.deg (by decide)
    simpa using this) (fun i hi' => by
    have := none_or_symm (HO.out.dis i hi')
    simpa using this)
  have HW1 := Lib.hid ((Within.of_below (lo := B) (hi := hi) ((Below.refl w.heap.size w).alloc (Nat.le_refl _) (.cells #[.slice A xs.length c, .slice A' L.length c'] 29))).trans (Within.of_keeps hk (fun k hk' => ⟨(HO.out.deg.lt k hk').1, HU.out.1 k hk'⟩)))
  have HC := Lib.hid (markRowsO_any B _ L (k0 + xs.length) w1 hor hsm' ht (by omega) (by omega))
  obtain ⟨x0, x1, _, _, _⟩ := blk2cells hkb
  have HO1 := Lib.hid ho
  have HOR := Lib.hid hor
  clear ho hk hne hkb hor
  go_wp2_with fail
  refine HC.out.mono ?_
  rintro e w2 ⟨rfl, ho, hw⟩
  have HW2 := Lib.hid (HW1.out.trans (hw.within HOR.out HU.out.2.2))
  have HOF : Hid (OwnM w2 B (.slice A xs.length c) (marks k0 xs.length) (.slice A' L.length c') (marksR (k0 + xs.length) L)) := by
    refine Lib.hid ⟨?_, ho, fun i hi => ?_⟩
    · rw [marks_length]; exact hw.own HO1.out HO.out.dis
    · rw [marksR_length] at hi
      rw [rg_marksR _ _ _ hi]
      have e : Row.val ⟨(rg L i).A, (rg L i).c, Go.Proofs.YtpchigdhnnkpcaaGreatDoor.marks (k0 + xs.length + tot (L.take i)) (rg L i).xs.length⟩ = (rg L i).val := by simp [Row.val, marks_length]
      rw [e]; exact HO.out.dis i hi
  clear ho hw x0 x1
  go_wp2_with fail
  go_ret
  exact ⟨rfl, HOF.out, HW2.out⟩
end Go.Proofs.YtpchigdhnnkpcaaGreatDoor

namespace Go.Proofs.YtpchigdhnnkpcaaGreatDoor

theorem tb_xr (a b n : Nat) : tb (xr a b) n = (tb a n ^^ tb b n) := by simp [tb, xr, Nat.testBit_xor]
theorem xr_comm (a b : Nat) : xr a b = xr b a := Nat.xor_comm a b
theorem xr_assoc (a b c : Nat) : xr (xr a b) c = xr a (xr b c) := Nat.xor_assoc a b c
theorem xr_zero (a : Nat) : xr a 0 = a := Nat.xor_zero a
theorem zero_xr (a : Nat) : xr 0 a = a := Nat.zero_xor a
theorem xr_self (a : Nat) : xr a a = 0 := Nat.xor_self a
theorem eq_of_tb {a b : Nat} (h : ∀ n, tb a n = tb b n) : a = b := Nat.eq_of_testBit_eq h
theorem tb_zero (n : Nat) : tb 0 n = false := Nat.zero_testBit n

/-- the pivot of a number that is no 0 is its least digit that is 1 -/
theorem tb_pv {a : Nat} (h0 : a ≠ 0) (h : Sm a) : tb a (pv a) = true := by
  unfold Sm at h
  obtain ⟨m, hm, _⟩ := Lib.ctzFrom_spec 64 a (by omega) (by omega)
  have e : pv a = Lib.ctzFrom 64 a := by unfold pv Lib.ctz; rw [if_neg h0]
  rw [e]
  unfold tb
  conv => lhs; arg 1; rw [hm]
  rw [Nat.testBit_eq_decide_div_mod_eq, Nat.mul_div_cancel_left _ (Nat.two_pow_pos _)]
  simp only [decide_eq_true_eq]; omega
theorem tb_lt_pv {a n : Nat} (h0 : a ≠ 0) (h : Sm a) (hn : n < pv a) : tb a n = false := by
  unfold Sm at h
  obtain ⟨m, hm, _⟩ := Lib.ctzFrom_spec 64 a (by omega) (by omega)
  have e : pv a = Lib.ctzFrom 64 a := by unfold pv Lib.ctz; rw [if_neg h0]
  rw [e] at hn
  obtain ⟨d, hd⟩ : ∃ d, Lib.ctzFrom 64 a = n + 1 + d := ⟨Lib.ctzFrom 64 a - n - 1, by omega⟩
  unfold tb
  rw [hm, Nat.testBit_eq_decide_div_mod_eq, hd, Nat.pow_add, Nat.pow_add, Nat.mul_assoc, Nat.mul_assoc, Nat.mul_div_cancel_left _ (Nat.two_pow_pos _)]
  simp [Nat.mul_assoc]
theorem pv_eq {a n : Nat} (h0 : a ≠ 0) (h : Sm a) (h1 : tb a n = true) (h2 : ∀ m, m < n → tb a m = false) : pv a = n := by
  rcases Nat.lt_trichotomy (pv a) n with hlt | heq | hgt
  · have := h2 _ hlt; rw [tb_pv h0 h] at this; cases this
  · exact heq
  · have := tb_lt_pv h0 h hgt; rw [h1] at this; cases this

/-- what is left of a mask by rows -/
def leftS (S : List Nat) (x : Nat) : Nat := S.foldl (fun x r => if tb x (pv r) then xr x r else x) x
/-- Reduced: no row is 0, all are small, and no row has another one's pivot. -/
structure Red (S : List Nat) : Prop where
  ne : ∀ r ∈ S, r ≠ 0 ∧ Sm r
  off : S.Pairwise fun r s => tb r (pv s) = false ∧ tb s (pv r) = false

theorem Red.nil : Red [] := ⟨by simp, .nil⟩
theorem Red.tail {r : Nat} {S : List Nat} (h : Red (r :: S)) : Red S := ⟨fun s hs => h.ne s (List.mem_cons_of_mem _ hs), (List.pairwise_cons.1 h.off).2⟩
theorem Red.perm {S T : List Nat} (h : Red S) (hp : S.Perm T) : Red T :=
  ⟨fun r hr => h.ne r (hp.mem_iff.2 hr), (hp.pairwise_iff (fun h => ⟨h.2, h.1⟩)).1 h.off⟩

theorem leftS_cons (r : Nat) (S : List Nat) (x : Nat) : leftS (r :: S) x = leftS S (if tb x (pv r) then xr x r else x) := rfl
/-- rows that lack a digit do not turn it -/
theorem tb_leftS {S : List Nat} {n : Nat} (h : ∀ r ∈ S, tb r n = false) : ∀ x, tb (leftS S x) n = tb x n := by
  induction S with
  | nil => intro x; rfl
  | cons r S ih =>
    intro x
    rw [leftS_cons, ih (fun s hs => h s (List.mem_cons_of_mem _ hs))]
    split
    · rw [tb_xr, h r (List.mem_cons_self ..)]; simp
    · rfl
theorem leftS_sm {S : List Nat} (h : ∀ r ∈ S, r ≠ 0 ∧ Sm r) : ∀ {x}, Sm x → Sm (leftS S x) := by
  induction S with
  | nil => intro x hx; exact hx
  | cons r S ih =>
    intro x hx
    rw [leftS_cons]
    refine ih (fun s hs => h s (List.mem_cons_of_mem _ hs)) ?_
    split
    · exact hx.xr (h r (List.mem_cons_self ..)).2
    · exact hx
/-- what is left has none of the pivots -/
theorem leftS_off {S : List Nat} (h : Red S) : ∀ x, ∀ r ∈ S, tb (leftS S x) (pv r) = false := by
  induction S with
  | nil => intro x r hr; cases hr
  | cons r S ih =>
    intro x s hs
    have hp := (List.pairwise_cons.1 h.off).1
    have hr := h.ne r (List.mem_cons_self ..)
    rw [leftS_cons]
    rcases List.mem_cons.1 hs with rfl | hs
    · rw [tb_leftS (fun t ht => (hp t ht).2)]
      split
      · rename_i h1; rw [tb_xr, h1, tb_pv hr.1 hr.2]; rfl
      · rename_i h1; simpa using h1
    · exact ih h.tail _ s hs

/-- the sum of rows -/
def xsum : List Nat → Nat
  | [] => 0
  | r :: S => xr r (xsum S)
theorem xsum_perm {S T : List Nat} (h : S.Perm T) : xsum S = xsum T := by
  induction h with
  | nil => rfl
  | cons r _ ih => simp only [xsum, ih]
  | swap r s S => simp only [xsum, ← xr_assoc, xr_comm s r]
  | trans _ _ h1 h2 => exact h1.trans h2
theorem leftS_eq {S : List Nat} (h : Red S) : ∀ x, leftS S x = xr x (xsum (S.filter fun r => tb x (pv r))) := by
  induction S with
  | nil => intro x; exact (xr_zero x).symm
  | cons r S ih =>
    intro x
    have hp := (List.pairwise_cons.1 h.off).1
    rw [leftS_cons, ih h.tail]
    by_cases hb : tb x (pv r) = true
    · rw [if_pos hb, List.filter_cons_of_pos (by simpa using hb)]
      have e : (S.filter fun s => tb (xr x r) (pv s)) = S.filter fun s => tb x (pv s) := by
        apply List.filter_congr
        intro s hs
        rw [tb_xr, (hp s hs).1]; simp
      rw [e]
      simp only [xsum, xr_assoc]
    · rw [if_neg hb, List.filter_cons_of_neg (by simpa using hb)]
theorem leftS_perm {S T : List Nat} (h : Red S) (hp : S.Perm T) (x : Nat) : leftS S x = leftS T x := by
  rw [leftS_eq h, leftS_eq (h.perm hp), xsum_perm (hp.filter _)]

/-- a row as it is when the new row x comes in -/
def stepS (x r : Nat) : Nat := if tb r (pv x) then xr r x else r
/-- what the reference's loop does -/
def putStep (x : Nat) (p : List Nat × Bool) (r : Nat) : List Nat × Bool :=
  if !p.2 && decide (pv x < pv r) then (p.1 ++ [x, stepS x r], true) else (p.1 ++ [stepS x r], p.2)
def putEnd (x : Nat) (p : List Nat × Bool) : List Nat := if p.2 then p.1 else p.1 ++ [x]
def putS (S : List Nat) (x : Nat) : List Nat :=
  if leftS S x = 0 then S else putEnd (leftS S x) (S.foldl (putStep (leftS S x)) ([], false))
def reduceS (rows : List Nat) : List Nat := rows.foldl putS []

theorem putStep_perm (x : Nat) : ∀ (S : List Nat) (p : List Nat × Bool), (putEnd x (S.foldl (putStep x) p)).Perm (putEnd x p ++ S.map (stepS x))
  | [], p => by simp
  | r :: S, p => by
    refine (putStep_perm x S (putStep x p r)).trans ?_
    rw [List.map_cons]
    have : (putEnd x (putStep x p r)).Perm (putEnd x p ++ [stepS x r]) := by
      obtain ⟨out, done⟩ := p
      cases done with
      | true => simp [putStep, putEnd]
      | false =>
        by_cases hc : pv x < pv r
        · simp [putStep, putEnd, hc]
        · simp only [putStep, putEnd, hc, decide_false, Bool.and_false, Bool.false_eq_true, if_false]
          simp only [List.append_assoc]
          exact List.Perm.append_left out (List.Perm.swap ..)
    have := List.Perm.append_right (S.map (stepS x)) this
    simpa using this
theorem putS_perm (S : List Nat) (x : Nat) (h : leftS S x ≠ 0) : (putS S x).Perm (S.map (stepS (leftS S x)) ++ [leftS S x]) := by
  unfold putS
  rw [if_neg h]
  refine (putStep_perm _ S ([], false)).trans ?_
  simp only [putEnd, Bool.false_eq_true, if_false, List.nil_append]
  exact List.perm_append_comm

theorem stepS_sm {x r : Nat} (hx : Sm x) (hr : Sm r) : Sm (stepS x r) := by
  unfold stepS; split
  · exact hr.xr hx
  · exact hr
/-- the pivots stay, and the new row's pivot goes -/
theorem stepS_pv {x r : Nat} (hx : Sm x) (hx0 : x ≠ 0) (hr : Sm r) (hr0 : r ≠ 0) (h : tb x (pv r) = false) : stepS x r ≠ 0 ∧ pv (stepS x r) = pv r ∧ tb (stepS x r) (pv x) = false := by
  have hrr := tb_pv hr0 hr
  have hxx := tb_pv hx0 hx
  have ht : tb (stepS x r) (pv r) = true := by
    unfold stepS; split
    · rw [tb_xr, hrr, h]; rfl
    · exact hrr
  have h0 : stepS x r ≠ 0 := by intro e; rw [e, tb_zero] at ht; cases ht
  refine ⟨h0, ?_, ?_⟩
  · refine pv_eq h0 (stepS_sm hx hr) ht ?_
    intro m hm
    unfold stepS; split
    · rename_i hb
      have hlt : pv r < pv x := by
        rcases Nat.lt_trichotomy (pv r) (pv x) with hlt | heq | hgt
        · exact hlt
        · rw [heq, hxx] at h; cases h
        · have := tb_lt_pv hr0 hr hgt; rw [hb] at this; cases this
      rw [tb_xr, tb_lt_pv hr0 hr hm, tb_lt_pv hx0 hx (by omega)]; rfl
    · exact tb_lt_pv hr0 hr hm
  · unfold stepS; split
    · rename_i hb; rw [tb_xr, hb, hxx]; rfl
    · rename_i hb; simpa using hb

theorem red_step {S : List Nat} {x : Nat} (h : Red S) (hx : Sm x) (hx0 : x ≠ 0) (hoff : ∀ r ∈ S, tb x (pv r) = false) : Red (S.map (stepS x) ++ [x]) := by
  have key := fun r hr => stepS_pv hx hx0 (h.ne r hr).2 (h.ne r hr).1 (hoff r hr)
  refine ⟨?_, ?_⟩
  · intro r hr
    rcases List.mem_append.1 hr with hr | hr
    · obtain ⟨s, hs, rfl⟩ := List.mem_map.1 hr
      exact ⟨(key s hs).1, stepS_sm hx (h.ne s hs).2⟩
    · rw [List.mem_singleton.1 hr]; exact ⟨hx0, hx⟩
  · rw [List.pairwise_append]
    refine ⟨?_, by simp, ?_⟩
    · rw [List.pairwise_map]
      refine (List.Pairwise.and_mem.1 h.off).imp ?_
      intro r s ⟨hr, hs, h1, h2⟩
      rw [(key r hr).2.1, (key s hs).2.1]
      constructor
      · unfold stepS; split
        · rw [tb_xr, h1, hoff s hs]; rfl
        · exact h1
      · unfold stepS; split
        · rw [tb_xr, h2, hoff r hr]; rfl
        · exact h2
    · intro r hr s hs
      obtain ⟨t, ht, rfl⟩ := List.mem_map.1 hr
      rw [List.mem_singleton.1 hs]
      exact ⟨(key t ht).2.2, by rw [(key t ht).2.1]; exact hoff t ht⟩
theorem red_put {S : List Nat} {x : Nat} (h : Red S) (hx : Sm x) : Red (putS S x) := by
  by_cases h0 : leftS S x = 0
  · unfold putS; rw [if_pos h0]; exact h
  · exact (red_step h (leftS_sm h.ne hx) h0 (leftS_off h x)).perm (putS_perm S x h0).symm
theorem red_reduce {rows : List Nat} (h : ∀ r ∈ rows, Sm r) : Red (reduceS rows) := by
  unfold reduceS
  have : ∀ (rows S : List Nat), Red S → (∀ r ∈ rows, Sm r) → Red (rows.foldl putS S) := by
    intro rows
    induction rows with
    | nil => intro S hS _; exact hS
    | cons r rows ih => intro S hS h; exact ih _ (red_put hS (h r (List.mem_cons_self ..))) (fun s hs => h s (List.mem_cons_of_mem _ hs))
  exact this rows [] Red.nil h
theorem putS_length_le (S : List Nat) (x : Nat) : (putS S x).length ≤ S.length + 1 := by
  by_cases h : leftS S x = 0
  · unfold putS; rw [if_pos h]; omega
  · rw [(putS_perm S x h).length_eq]; simp
end Go.Proofs.YtpchigdhnnkpcaaGreatDoor
