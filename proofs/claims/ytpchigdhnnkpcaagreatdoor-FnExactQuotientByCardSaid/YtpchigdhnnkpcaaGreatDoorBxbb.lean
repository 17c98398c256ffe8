/- the program's quotientOf -/
import Derived.Test.YtpchigdhnnkpcaaGreatDoorBxba
import Derived.Test.YtpchigdhnnkpcaaGreatDoorBxaw
import Derived.Laws.EntriesVeiled
import Derived.Test.YtpchigdhnnkpcaaGreatDoorBxav
set_option linter.all false
namespace Go.Proofs.YtpchigdhnnkpcaaGreatDoor
open Go.RowKit

def quoD (xs : List Int) (S : List Nat) : List Int := (rst (pvs S) xs.length).map fun i => xs.getD i 0
def quoA (xs : List Int) (Q : List (List Int)) (S : List Nat) : List (List Int) := modA (fun j b => told S xs.length (act Q (j : Int) (2 ^ (rst (pvs S) xs.length).getD b 0))) (rst (pvs S) xs.length).length
def quoP (xs : List Int) (S : List Nat) : List Nat := (List.range xs.length).map fun i => told S xs.length (2 ^ i)
def quotMR (xs : List Int) (Q : List (List Int)) (S : List Nat) : (List Int × List (List Int)) × List (List Int) × Int := ((quoD xs S, quoA xs Q S), (quoP xs S).map (fun v => bitsL v (rst (pvs S) xs.length).length), 0)
theorem infoN : (Tryz.prog.info? 3).map (fun i => (i.zero, i.size, i.bytes)) = some (some (.int .i64 0), 1, 8) := by kernel_rfl
theorem etN : ET Tryz.prog 84 3 8 := ET.mk' (z := .int .i64 0) Tryz.underlying84 (by kernel_rfl) (by decide) (by decide)
def iz (S : List Nat) : List Int := S.map fun (x : Nat) => (x : Int)
theorem iv_iz (S : List Nat) : iv (iz S) = nv S := by simp [iv, iz, nv, List.map_map, Function.comp_def]
theorem any_iz (S : List Nat) (i : Nat) : ((iz S).any fun z => decide (pv z.toNat = i)) = tb (pvs S) i := by
  rw [tb_pvs]
  unfold iz
  rw [List.any_map]
  congr 1
theorem quoD_len (xs : List Int) (S : List Nat) : (quoD xs S).length = (rst (pvs S) xs.length).length := by simp [quoD]
theorem quoP_len (xs : List Int) (S : List Nat) : (quoP xs S).length = xs.length := by simp [quoP]
theorem quoP_getD {xs : List Int} {S : List Nat} {i : Nat} (h : i < xs.length) : (quoP xs S).getD i 0 = told S xs.length (2 ^ i) := by simp [quoP, List.getD, h]
theorem blk1set {w : World} {g : Nat} {u : Value} {t : TypeId} (h : w.heap[g]? = some (.cells #[u] t (0, 0))) (x : Value) : (w.setCell ⟨g, 0, none⟩ x).heap[g]? = some (.cells #[x] t (0, 0)) := by
  have := heap_setCell_same w g 0 _ t x h
  simpa using this
theorem keeps_app1 {w w' : World} {b : Option Nat} {o : Obj} (hg : (w.alloc o).drew.grownBy w' b) : Keeps w w' [b] := (((Keeps.refl w []).alloc o).drew).trans (Keeps.of_grown hg) (fun j _ h => by simpa using h)
theorem keeps_app2 {w w' : World} {b : Option Nat} {o o' : Obj} (hg : ((w.alloc o).alloc o').drew.grownBy w' b) : Keeps w w' [b] := ((((Keeps.refl w []).alloc o).alloc o').drew).trans (Keeps.of_grown hg) (fun j _ h => by simpa using h)
theorem keeps_app3 {w w' : World} {b : Option Nat} {o : Obj} (hg : (w.alloc o).grownBy w' b) : Keeps w w' [b] := ((Keeps.refl w []).alloc o).trans (Keeps.of_grown hg) (fun j _ h => by simpa using h)

theorem take_succ_getDN {l : List Nat} {k : Nat} (h : k < l.length) : l.take (k + 1) = l.take k ++ [l.getD k 0] := by
  rw [List.take_succ_eq_append_getElem h]; simp [List.getD, h]
theorem shl_wrapI {k : Nat} (h : k ≤ 60) : IntKind.i64.wrap ((2 : Int) ^ k) = ((2 ^ k : Nat) : Int) := by
  obtain ⟨p1, p2⟩ := pow62 (d := k) (by omega)
  have h2 : ((2 ^ k : Nat) : Int) = (2 : Int) ^ k := by simp
  rw [h2, IntKind.wrap_i64]
  omega
theorem not_new {v : Value} {H j : Nat} (h : ∀ g, v.ownBlock = some g → g < H) (hj : H ≤ j) : some j ∉ [v.ownBlock] := fun e => by
  have e : some j = v.ownBlock := by simpa using e
  have := h j e.symm
  omega

set_option maxRecDepth 100000 in
set_option maxHeartbeats 16000000 in
theorem quotientOf_any (A A' C : Option Addr) (n c m c' k cc : Nat) (xs : List Int) (L : List Row) (S : List Nat) (w : World) (hT : Tab w) (hw : 0 < w.heap.size) (hM : ModIn w A n A' m xs L) (hs : Shp xs (dat L)) (hk : k = S.length) (hk1 : k ≤ 16) (hS : ∀ r ∈ S, r ≠ 0 ∧ r < 2 ^ xs.length) (hRd : Red S) (hC : Rd w C (nv S)) :
    Calls Tryz.prog 62 #[.agg #[.slice A n c, .slice A' m c'], .slice C k cc] w (ResMR (quotMR xs (dat L) S) w) := by
  have hb0 : Below w.heap.size w ((w.alloc (.cells #[.slice A n c, .slice A' m c'] 29)).alloc (.cells #[.slice none 0 0, .slice none 0 0] 29)) := ((Below.refl _ _).alloc (Nat.le_refl _) _).alloc (by simp) _
  have hkm := blk_alloc (blk_new w (.cells #[.slice A n c, .slice A' m c'] 29)) (.cells #[.slice none 0 0, .slice none 0 0] 29)
  have hkr := blk_new (w.alloc (.cells #[.slice A n c, .slice A' m c'] 29)) (.cells #[.slice none 0 0, .slice none 0 0] 29)
  simp only [World.size_alloc] at hkr
  have hn16 : n ≤ 16 := by rw [hM.r.hn]; exact hs.len
  have HTO := Lib.hid (fun W (hb : Below w.heap.size w W) => tableOf_any A A' n c m c' xs L W hM.r.hn hM.r.hm hM.r.hm1 hs (hM.r.act.below hb))
  have HSS : Hid (∀ r ∈ S, r ≠ 0 ∧ Sm r ∧ pv r < n) := Lib.hid (fun r hr => by
    obtain ⟨h1, h2⟩ := hS r hr
    have h3 := sm_of_lt (a := xs.length) (by have := hs.len; omega) h2
    exact ⟨h1, h3, by rw [hM.r.hn]; exact pv_lt h1 h3 h2⟩)
  have HSO := Lib.hid (fun W (hb : Below w.heap.size w W) => spanOf_any C k cc S W (hT.below hb hw) (Nat.lt_of_lt_of_le hw hb.size) hk (by omega) (fun r hr => (HSS.out r hr).2.1) (hC.below hb))
  have HGL : Hid (Good (spanL (zs S)) ∧ (spanL (zs S)).length ≤ 1000000) := Lib.hid ⟨(spanL_perm (zs S) (fun q hq => by obtain ⟨r, hr, rfl⟩ := List.mem_map.1 hq; exact ⟨(HSS.out r hr).2.1, Sm.zero⟩)).2.2, by
    have h := spanL_length_le (zs S)
    have h2 : (zs S).length = S.length := by simp [zs]
    omega⟩
  have HLF : Hid (∀ x, (leftN (spanL (zs S)) (x, 0)).1 = leftS S x) := Lib.hid (fun x => spanL_left hRd (fun r hr => (HSS.out r hr).2.1) x 0)
  have HCF := Lib.hid (fun (g i : Nat) W (hb : Below w.heap.size w W) (hg : W.cell? ⟨g, 0, none⟩ = some (.int .i64 (i : Int))) => containsFunc_any C k cc (iz S) 93 (.pointer (some ⟨g, 0, none⟩)) (fun z => decide (pv z.toNat = i)) W (fun args w => Tryz.call93 args w) (by simp [iz]; exact hk) (by omega) (by rw [iv_iz]; exact hC.below hb) (fun z hz => by
    obtain ⟨r, hr, rfl⟩ := List.mem_map.1 hz
    obtain ⟨h1, h2, _⟩ := HSS.out r hr
    exact pivClo_any g i r W (hT.below hb hw) (Nat.lt_of_lt_of_le hw hb.size) h1 h2 hg))
  have HDG := Lib.hid hM.r.deg
  have HT := Lib.hid hT
  have HB0 := Lib.hid hb0
  have HKM := Lib.hid hkm
  have HKR := Lib.hid hkr
  have Hk := Lib.hid hk
  have Hnx : Hid (n = xs.length) := Lib.hid hM.r.hn
  have HSH := Lib.hid hs
  have hrl := rst_len (pvs S) n
  obtain ⟨x0, x1, xf0, xf1, lx⟩ := blk2cells hkm
  clear hb0 hkm hkr hk hM hs hS hC hT
  go_enter Tryz.func62, Tryz.ntmps62
  go_wp2_with fail
  refine (HTO.out _ HB0.out).mono ?_
  rintro e w1 ⟨g, h, rfl, ht⟩
  have HTB := Lib.hid ht.rd
  have HB1 := Lib.hid (HB0.out.trans (ht.bel.mono HB0.out.size))
  have HKM1 := Lib.hid (blk_kept HKM.out ht.bel)
  have HKR1 := Lib.hid (blk_kept HKR.out ht.bel)
  clear ht x0 x1 xf0 xf1 lx HKM HKR HB0
  go_wp2_with fail
  refine (HSO.out _ HB1.out).mono ?_
  rintro e w2 ⟨rfl, ⟨v1, v2, hsp⟩, hb⟩
  have HB2 := Lib.hid (HB1.out.trans (hb.mono HB1.out.size))
  have HKM2 := Lib.hid (blk_kept HKM1.out hb)
  have HKR2 := Lib.hid (blk_kept HKR1.out hb)
  have HTB2 := Lib.hid (HTB.out.below hb)
  have HSP := Lib.hid hsp
  clear hsp hb HKM1 HKR1 HTB
  generalize w1.heap.size = bs at *
  have h4 : ((((((w2.alloc (.cells #[.pointer (some ⟨g, 0, none⟩)] 85)).alloc (.cells #[.pointer (some ⟨bs, 0, none⟩)] 63)).alloc (.cells #[] 2)).alloc (.cells #[] 3)).alloc (.cells #[.slice (some ⟨w2.heap.size + 1 + 1 + 1, 0, none⟩) 0 0] 84)).heap.size = w2.heap.size + 5) := by simp
  have hbz : Below w2.heap.size w2 (((((w2.alloc (.cells #[.pointer (some ⟨g, 0, none⟩)] 85)).alloc (.cells #[.pointer (some ⟨bs, 0, none⟩)] 63)).alloc (.cells #[] 2)).alloc (.cells #[] 3)).alloc (.cells #[.slice (some ⟨w2.heap.size + 1 + 1 + 1, 0, none⟩) 0 0] 84)) := (((((Below.refl _ _).alloc (Nat.le_refl _) _).alloc (by simp) _).alloc (by simp <;> omega) _).alloc (by simp <;> omega) _).alloc (by simp <;> omega) _
  have hkt := blk_alloc (blk_alloc (blk_alloc (blk_alloc (blk_new w2 (.cells #[.pointer (some ⟨g, 0, none⟩)] 85)) (.cells #[.pointer (some ⟨bs, 0, none⟩)] 63)) (.cells #[] 2)) (.cells #[] 3)) (.cells #[.slice (some ⟨w2.heap.size + 1 + 1 + 1, 0, none⟩) 0 0] 84)
  have hks := blk_alloc (blk_alloc (blk_alloc (blk_new (w2.alloc (.cells #[.pointer (some ⟨g, 0, none⟩)] 85)) (.cells #[.pointer (some ⟨bs, 0, none⟩)] 63)) (.cells #[] 2)) (.cells #[] 3)) (.cells #[.slice (some ⟨w2.heap.size + 1 + 1 + 1, 0, none⟩) 0 0] 84)
  have hod := ((World.ownsRow_made (((w2.alloc (.cells #[.pointer (some ⟨g, 0, none⟩)] 85)).alloc (.cells #[.pointer (some ⟨bs, 0, none⟩)] 63))) #[] 0 (base := w2.heap.size + 1 + 1) (e := 2) (size := 1) (by simp) (by decide) (by simp)).alloc (.cells #[] 3)).alloc (.cells #[.slice (some ⟨w2.heap.size + 1 + 1 + 1, 0, none⟩) 0 0] 84)
  have hor := (World.ownsRow_made ((((w2.alloc (.cells #[.pointer (some ⟨g, 0, none⟩)] 85)).alloc (.cells #[.pointer (some ⟨bs, 0, none⟩)] 63)).alloc (.cells #[] 2))) #[] 0 (base := w2.heap.size + 1 + 1) (e := 3) (size := 1) (by simp <;> omega) (by decide) (by simp)).alloc (.cells #[.slice (some ⟨w2.heap.size + 1 + 1 + 1, 0, none⟩) 0 0] 84)
  have hkx := blk_new ((((w2.alloc (.cells #[.pointer (some ⟨g, 0, none⟩)] 85)).alloc (.cells #[.pointer (some ⟨bs, 0, none⟩)] 63)).alloc (.cells #[] 2)).alloc (.cells #[] 3)) (.cells #[.slice (some ⟨w2.heap.size + 1 + 1 + 1, 0, none⟩) 0 0] 84)
  simp only [World.size_alloc] at hks hod hor hkx
  obtain ⟨x0, x1, xf0, xf1, lx⟩ := blk2cells (blk_kept HKM2.out hbz)
  have HBZ := Lib.hid hbz
  have HKT := Lib.hid hkt
  have HKS := Lib.hid hks
  have HOD := Lib.hid hod
  have HOR := Lib.hid hor
  have HKX := Lib.hid hkx
  have H4 := Lib.hid h4
  clear hbz hkt hks hod hor hkx h4
  go_wp2_with fail
  generalize ((((w2.alloc (.cells #[.pointer (some ⟨g, 0, none⟩)] 85)).alloc (.cells #[.pointer (some ⟨bs, 0, none⟩)] 63)).alloc (.cells #[] 2)).alloc (.cells #[] 3)).alloc (.cells #[.slice (some ⟨w2.heap.size + 1 + 1 + 1, 0, none⟩) 0 0] 84) = w4 at *
  have HB4 := Lib.hid (HB2.out.trans (HBZ.out.mono HB2.out.size))
  have HKM4 := Lib.hid (blk_kept HKM2.out HBZ.out)
  have HKR4 := Lib.hid (blk_kept HKR2.out HBZ.out)
  have h4 := H4.out
  have hm2 := (blk2cells HKM2.out).2.2.2.2
  have hr2 := (blk2cells HKR2.out).2.2.2.2
  generalize hB : w2.heap.size + 1 + 1 = B at *
  have hBw : w.heap.size ≤ B := by have := HB2.out.size; omega
  clear HKM2 HKR2 x0 x1 xf0 xf1 lx
  go_loopw [9, 26] (fun s9 s26 wr => ∃ (i : Nat) (Ad : Option Addr) (cd : Nat) (Ar : Option Addr) (cr : Nat), i ≤ n ∧ s26 = .int .i64 i ∧ s9 = .slice Ad (rst (pvs S) i).length cd ∧ wr.ownsRow B 2 1 (.slice Ad (rst (pvs S) i).length cd) (rst (pvs S) i).length (iv ((rst (pvs S) i).map fun t => xs.getD t 0)) ∧ wr.ownsRow B 3 1 (.slice Ar (rst (pvs S) i).length cr) (rst (pvs S) i).length (nv (rst (pvs S) i)) ∧ wr.heap[B + 1 + 1]? = some (.cells #[.slice Ar (rst (pvs S) i).length cr] 84 (0, 0)) ∧ Below B w4 wr) (fun _ s => fun _ => n - (intOf s).toNat)
  case atStart => exact ⟨0, _, 0, _, 0, by omega, rfl, rfl, HOD.out, HOR.out, HKX.out, Below.refl _ _⟩
  case round =>
    obtain ⟨i, Ad, cd, Ar, cr, hi, rfl, rfl, hod, hor, hbx, hbel⟩ := hrel
    have HOD1 := Lib.hid hod
    have HOR1 := Lib.hid hor
    have HBX1 := Lib.hid hbx
    have HBE1 := Lib.hid hbel
    clear hod hor hbx hbel
    by_cases hin : i < n
    · have HBW := Lib.hid (HB4.out.trans (HBE1.out.mono hBw))
      obtain ⟨x0, x1, xf0, xf1, lx⟩ := blk2cells (blk_below HKM4.out HBE1.out (by omega))
      obtain ⟨b, o, rfl, hc⟩ := (HDG.out.below HBW.out).atI (k := i) (by rw [← Hnx.out]; exact hin)
      have HCFi := Lib.hid (HCF.out wr.heap.size i (wr.alloc (.cells #[.int .i64 (i : Int)] 3)) (HBW.out.alloc HBW.out.size _) (new_cell _ _ _))
      rw [any_iz] at HCFi
      have hTl := rst_len (pvs S) i
      have HTM : Hid (((rst (pvs S) i).map fun t => xs.getD t 0) ++ [xs.getD i 0] = (rst (pvs S) i ++ [i]).map fun t => xs.getD t 0) := Lib.hid (by simp)
      cases hpv : tb (pvs S) i
      · rw [hpv] at HCFi
        have HRS := Lib.hid (rst_yes hpv)
        clear hpv
        generalize xs.getD i 0 = y at *
        generalize hT : rst (pvs S) i = T at *
        generalize hD : (T.map fun t => xs.getD t 0) = D at *
        clear hT hD
        go_wp2_with fail
        refine HCFi.out.mono ?_
        rintro e W0 ⟨rfl, mm, hW0⟩
        have HBa : Hid (Below wr.heap.size wr W0) := Lib.hid (by rw [← hW0]; exact below_drewN ((Below.refl _ _).alloc (Nat.le_refl _) _) mm)
        have hg11 : W0.cell? ⟨wr.heap.size, 0, none⟩ = some (.int .i64 (i : Int)) := by rw [← hW0]; exact new_cell wr _ _
        have hsz0 : wr.heap.size < W0.heap.size := World.block_lt_of_cell? W0 _ hg11
        have hB0 : B ≤ wr.heap.size := by have := HBE1.out.size; omega
        have HOD2 := Lib.hid (owns_keeps HOD1.out (Keeps.of_below HBa.out) (.inr (by simp)))
        have HOR2 := Lib.hid (owns_keeps HOR1.out (Keeps.of_below HBa.out) (.inr (by simp)))
        have HBX2 := Lib.hid (blk_kept HBX1.out HBa.out)
        have LD := Lib.hid (fun g hg => (HOD2.out.lt g hg).2)
        have hLD : ∀ g, (Value.slice Ad T.length cd).ownBlock = some g → g < wr.heap.size := fun g hg => (HOD1.out.lt g hg).2
        have hLR : ∀ g, (Value.slice Ar T.length cr).ownBlock = some g → g < wr.heap.size := fun g hg => (HOR1.out.lt g hg).2
        have hgr := (blk1c HBX2.out).1
        have KS := Lib.hid (fun w' (hk : Keeps W0 w' [(Value.slice Ad T.length cd).ownBlock, (Value.slice Ar T.length cr).ownBlock]) => show w'.cell? ⟨B + 1 + 1, 0, none⟩ = some (.slice Ar T.length cr) ∧ w'.cell? ⟨wr.heap.size, 0, none⟩ = some (.int .i64 (i : Int)) from by
          have n1 := own_ne_blk HOD2.out HBX2.out (by decide)
          have n2 := own_ne_blk HOR2.out HBX2.out (by decide)
          refine ⟨hk.cellSome hgr (by simp only [List.mem_cons, List.not_mem_nil, or_false, not_or]; exact ⟨n1.symm, n2.symm⟩), hk.cellSome hg11 ?_⟩
          simp only [List.mem_cons, List.not_mem_nil, or_false, not_or]
          exact ⟨fun e => by have := hLD _ e.symm; omega, fun e => by have := hLR _ e.symm; omega⟩)
        have hlo : ∀ j, some j ∈ [(Value.slice Ad T.length cd).ownBlock, (Value.slice Ar T.length cr).ownBlock] → B ≤ j := fun j hj => by
          simp only [List.mem_cons, List.not_mem_nil, or_false] at hj
          rcases hj with hj | hj
          · exact (HOD1.out.lt j hj.symm).1
          · exact (HOR1.out.lt j hj.symm).1
        have HLO := Lib.hid hlo
        have HNE := Lib.hid (own_ne2 HOR2.out HOD2.out (by decide))
        have HBB := Lib.hid (HBE1.out.trans (HBa.out.mono hB0))
        clear hW0 hLD hLR hlo hgr hg11 x0 x1 xf0 xf1 lx hc
        go_wp2_with fail
        refine wp_region_K (S := (fun w' => w'.cell? ⟨B + 1 + 1, 0, none⟩ = some (.slice Ar T.length cr) ∧ w'.cell? ⟨wr.heap.size, 0, none⟩ = some (.int .i64 (i : Int)))) 9 (by kernel_rfl) (by (first | exact KS.out _ ((Keeps.refl _ _).drew) | exact KS.out _ (((Keeps.refl _ _).alloc _).drew) | exact KS.out _ ((((Keeps.refl _ _).alloc _).alloc _).drew) | exact KS.out _ HKA.out | exact KS.out _ (HKA.out.alloc _) | exact KS.out _ HKB.out)) (fun hHeld => ?_)
        refine wpAnyK_take (i := 0) (oi := ?oik1_1) (v := ?vk1_1) ?hk1_1 (by kernel_rfl) (by kernel_rfl) (by kernel_rfl) (by kernel_rfl) ?qk1_1 (Or.inl ⟨?wk1_1, ?yk1_1⟩) (by assumption) ?rk1_1
        case hk1_1 => (simp only [List.getElem?_toArray, List.getElem?_cons_succ, List.getElem?_cons_zero]; rfl)
        case qk1_1 => exact fun _ _ _ h => h
        case wk1_1 => rfl
        case yk1_1 => (intro w hSw; (try dsimp only at hSw); go_simp <;> with_reducible rfl)
        try simp only [Act.put, List.setIfInBounds_toArray, List.set_cons_zero, List.set_cons_succ]
        refine wpAnyK_take (i := 1) (oi := ?oik1_2) (v := ?vk1_2) ?hk1_2 (by kernel_rfl) (by kernel_rfl) (by kernel_rfl) (by kernel_rfl) ?qk1_2 (Or.inl ⟨?wk1_2, ?yk1_2⟩) (by assumption) ?rk1_2
        case hk1_2 => (simp only [List.getElem?_toArray, List.getElem?_cons_succ, List.getElem?_cons_zero]; rfl)
        case qk1_2 => exact fun _ _ _ h => h
        case wk1_2 => rfl
        case yk1_2 => (intro w hSw; (try dsimp only at hSw); go_simp <;> with_reducible rfl)
        try simp only [Act.put, List.setIfInBounds_toArray, List.set_cons_zero, List.set_cons_succ]
        refine wpAnyK_take (i := 4) (oi := ?oik1_3) (v := ?vk1_3) ?hk1_3 (by kernel_rfl) (by kernel_rfl) (by kernel_rfl) (by kernel_rfl) ?qk1_3 (Or.inl ⟨?wk1_3, ?yk1_3⟩) (by assumption) ?rk1_3
        case hk1_3 => (simp only [List.getElem?_toArray, List.getElem?_cons_succ, List.getElem?_cons_zero]; rfl)
        case qk1_3 => exact fun _ _ _ h => h
        case wk1_3 => rfl
        case yk1_3 => (intro w hSw; (try dsimp only at hSw); go_simp <;> with_reducible rfl)
        try simp only [Act.put, List.setIfInBounds_toArray, List.set_cons_zero, List.set_cons_succ]
        refine wpAnyK_take (i := 5) (oi := ?oik1_4) (v := ?vk1_4) ?hk1_4 (by kernel_rfl) (by kernel_rfl) (by kernel_rfl) (by kernel_rfl) ?qk1_4 (Or.inl ⟨?wk1_4, ?yk1_4⟩) (by assumption) ?rk1_4
        case hk1_4 => (simp only [List.getElem?_toArray, List.getElem?_cons_succ, List.getElem?_cons_zero]; rfl)
        case qk1_4 => exact fun _ _ _ h => h
        case wk1_4 => rfl
        case yk1_4 => (intro w hSw; (try dsimp only at hSw); go_simp <;> with_reducible rfl)
        try simp only [Act.put, List.setIfInBounds_toArray, List.set_cons_zero, List.set_cons_succ]
        refine wpAnyK_ready (rs := [2, 6]) (by kernel_rfl) (by simp) ?_
        refine AllReadyK.cons (o := ?oik1_5) ?hk1_5 (fun K hK => ?kk1_5) ?mk1_5
        case hk1_5 => (simp only [List.getElem?_toArray, List.getElem?_cons_succ, List.getElem?_cons_zero]; rfl)
        case kk1_5 =>
          go_simp
          refine hK.out _ _ (by (first | exact KS.out _ ((Keeps.refl _ _).drew) | exact KS.out _ (((Keeps.refl _ _).alloc _).drew) | exact KS.out _ ((((Keeps.refl _ _).alloc _).alloc _).drew) | exact KS.out _ HKA.out | exact KS.out _ (HKA.out.alloc _) | exact KS.out _ HKB.out)) (fun hHeld => ?_)
          clear hK K
          try simp only [Act.put, List.setIfInBounds_toArray, List.set_cons_zero, List.set_cons_succ]
          refine wpAnyK_ready (rs := [3, 6]) (by kernel_rfl) (by simp) ?_
          refine AllReadyK.cons (o := ?oik1_6) ?hk1_6 (fun K hK => ?kk1_6) ?mk1_6
          case hk1_6 => (simp only [List.getElem?_toArray, List.getElem?_cons_succ, List.getElem?_cons_zero]; rfl)
          case kk1_6 =>
            (refine step_app1 _ _ _ _ _ etI (by rfl) (by rfl) B (.slice Ad T.length cd) T.length (iv D) (by rfl) ?_ _ (.int .i64 y) (by rfl) ?_ (by rfl) ?_ ?_ ?_; (first | exact (HOD2.out.alloc _).drew | exact ((HOD2.out.alloc _).alloc _).drew); (first | exact drew_cell (new_cell _ _ _) | exact drew_cell (new_cell2 _ _ _ _) | exact drew_cell (new_cell1 _ _ _ _)); omega; (have := HBB.out.size; simp; omega); (intro g7 c7 w7 hown7 hgrow7 hat7 hlt7; have HK1 : Hid (Keeps W0 w7 [(Value.slice Ad T.length cd).ownBlock]) := Lib.hid (by first | exact keeps_app1 hgrow7 | exact keeps_app2 hgrow7); have HKA : Hid (Keeps W0 w7 [(Value.slice Ad T.length cd).ownBlock, (Value.slice Ar T.length cr).ownBlock]) := Lib.hid (HK1.out.more (fun j h => by simp at h ⊢; exact .inl h)); have HOD7 := Lib.hid hown7; have HOR7 := Lib.hid (owns_keeps HOR2.out HK1.out (by have := HNE.out; simpa using this)); have HG7 := Lib.hid hgrow7; clear hown7 hgrow7 hat7 hlt7))
            refine hK.out _ _ (by (first | exact KS.out _ ((Keeps.refl _ _).drew) | exact KS.out _ (((Keeps.refl _ _).alloc _).drew) | exact KS.out _ ((((Keeps.refl _ _).alloc _).alloc _).drew) | exact KS.out _ HKA.out | exact KS.out _ (HKA.out.alloc _) | exact KS.out _ HKB.out)) (fun hHeld => ?_)
            clear hK K
            try simp only [Act.put, List.setIfInBounds_toArray, List.set_cons_zero, List.set_cons_succ]
            refine wpAnyK_ready (rs := [6]) (by kernel_rfl) (by simp) ?_
            refine AllReadyK.cons (o := ?oik1_7) ?hk1_7 (fun K hK => ?kk1_7) ?mk1_7
            case hk1_7 => (simp only [List.getElem?_toArray, List.getElem?_cons_succ, List.getElem?_cons_zero]; rfl)
            case kk1_7 =>
              go_simp
              refine hK.out _ _ (by (first | exact KS.out _ ((Keeps.refl _ _).drew) | exact KS.out _ (((Keeps.refl _ _).alloc _).drew) | exact KS.out _ ((((Keeps.refl _ _).alloc _).alloc _).drew) | exact KS.out _ HKA.out | exact KS.out _ (HKA.out.alloc _) | exact KS.out _ HKB.out)) (fun hHeld => ?_)
              clear hK K
              try simp only [Act.put, List.setIfInBounds_toArray, List.set_cons_zero, List.set_cons_succ]
              refine wpAnyK_ready (rs := [7]) (by kernel_rfl) (by simp) ?_
              refine AllReadyK.cons (o := ?oik1_8) ?hk1_8 (fun K hK => ?kk1_8) ?mk1_8
              case hk1_8 => (simp only [List.getElem?_toArray, List.getElem?_cons_succ, List.getElem?_cons_zero]; rfl)
              case kk1_8 =>
                (refine step_app1 _ _ _ _ _ etN (by rfl) (by rfl) B (.slice Ar T.length cr) T.length (nv T) (by rfl) ?_ _ (.int .i64 (i : Int)) (by rfl) ?_ (by rfl) ?_ ?_ ?_; (first | exact HOR7.out | exact HOR7.out.alloc _); (first | exact new_cell _ _ _ | exact (Keeps.of_grown HG7.out).cellSome (drew_cell (new_cell1 _ _ _ _)) (not_new LD.out (by simp)) | exact (Keeps.of_grown HG7.out).cellSome (drew_cell (new_cell2 _ _ _ _)) (not_new LD.out (by simp))); omega; (have h1 := HBB.out.size; have h2 := HK1.out.size; (try simp); omega); (intro g8 c8 w8 hown8 hgrow8 hat8 hlt8; have HK3 : Hid (Keeps w7 w8 [(Value.slice Ar T.length cr).ownBlock]) := Lib.hid (by first | exact Keeps.of_grown hgrow8 | exact keeps_app3 hgrow8); have HKB : Hid (Keeps W0 w8 [(Value.slice Ad T.length cd).ownBlock, (Value.slice Ar T.length cr).ownBlock]) := Lib.hid (HK1.out.trans HK3.out (fun j _ h => by simp at h ⊢; exact h)); have HOD8 := Lib.hid (owns_keeps HOD7.out HK3.out (by have := own_ne2 HOD7.out HOR7.out (by decide); simpa using this)); have HOR8 := Lib.hid hown8; have HBX8 : Hid (w8.heap[B + 1 + 1]? = some (.cells #[.slice Ar T.length cr] 84 (0, 0))) := Lib.hid ((HKB.out.block _ (blk1c HBX2.out).2.2 (by have n1 := own_ne_blk HOD2.out HBX2.out (by decide); have n2 := own_ne_blk HOR2.out HBX2.out (by decide); simp only [List.mem_cons, List.not_mem_nil, or_false, not_or]; exact ⟨n1.symm, n2.symm⟩)).trans HBX2.out); obtain ⟨z0, zf0, lz⟩ := blk1c HBX8.out; clear hown8 hgrow8 hat8 hlt8))
                refine hK.out _ _ (by (first | exact KS.out _ ((Keeps.refl _ _).drew) | exact KS.out _ (((Keeps.refl _ _).alloc _).drew) | exact KS.out _ ((((Keeps.refl _ _).alloc _).alloc _).drew) | exact KS.out _ HKA.out | exact KS.out _ (HKA.out.alloc _) | exact KS.out _ HKB.out)) (fun hHeld => ?_)
                clear hK K
                try simp only [Act.put, List.setIfInBounds_toArray, List.set_cons_zero, List.set_cons_succ]
                refine wpAnyK_take (i := 8) (oi := ?oik1_9) (v := ?vk1_9) ?hk1_9 (by kernel_rfl) (by kernel_rfl) (by kernel_rfl) (by kernel_rfl) ?qk1_9 (Or.inl ⟨?wk1_9, ?yk1_9⟩) (by assumption) ?rk1_9
                case hk1_9 => (simp only [List.getElem?_toArray, List.getElem?_cons_succ, List.getElem?_cons_zero]; rfl)
                case qk1_9 => exact fun _ _ _ h => h
                case wk1_9 => rfl
                case yk1_9 => (intro w hSw; (try dsimp only at hSw); go_simp <;> with_reducible rfl)
                try simp only [Act.put, List.setIfInBounds_toArray, List.set_cons_zero, List.set_cons_succ]
                refine wpAnyK_ready (rs := [9]) (by kernel_rfl) (by simp) ?_
                refine AllReadyK.fin (o := ?oik1_10) (by decide) ?hk1_10 (fun K hK => ?kk1_10) ?mk1_10
                case hk1_10 => (simp only [List.getElem?_toArray, List.getElem?_cons_succ, List.getElem?_cons_zero]; rfl)
                case kk1_10 =>
                  go_simp
                  refine hK.out _ _ ?_
                  clear hK K
                  try simp only [Act.put, List.setIfInBounds_toArray, List.set_cons_zero, List.set_cons_succ]
                  refine wpAnyK_done (by kernel_rfl) ?_ _
                  go_wp2_with fail
                  go_roundw
                  case rel => exact ⟨i + 1, some ⟨g7, 0, none⟩, c7, some ⟨g8, 0, none⟩, c8, by omega, by go_num, by rw [HRS.out, List.length_append]; rfl, by rw [HRS.out, ← HTM.out, List.length_append, iv_append]; exact own_setBoxZ HOD8.out HBX8.out (by decide) _, by rw [HRS.out, List.length_append, nv_snocZ]; exact own_setBoxZ HOR8.out HBX8.out (by decide) _, by rw [HRS.out, List.length_append]; exact blk1set HBX8.out _, (HBB.out.trans (HKB.out.to_below (by have := HBB.out.size; omega) HLO.out)).setCell (p := ⟨B + 1 + 1, 0, none⟩) (by show B ≤ B + 1 + 1; omega) _⟩
                  case measure => simp [intOf]; omega
                exact AllReadyK.nil
              exact AllReadyK.nil
            exact AllReadyK.nil
          refine AllReadyK.cons (o := ?oik1_11) ?hk1_11 (fun K hK => ?kk1_11) ?mk1_11
          case hk1_11 => (simp only [List.getElem?_toArray, List.getElem?_cons_succ, List.getElem?_cons_zero]; rfl)
          case kk1_11 =>
            go_simp
            refine hK.out _ _ (by (first | exact KS.out _ ((Keeps.refl _ _).drew) | exact KS.out _ (((Keeps.refl _ _).alloc _).drew) | exact KS.out _ ((((Keeps.refl _ _).alloc _).alloc _).drew) | exact KS.out _ HKA.out | exact KS.out _ (HKA.out.alloc _) | exact KS.out _ HKB.out)) (fun hHeld => ?_)
            clear hK K
            try simp only [Act.put, List.setIfInBounds_toArray, List.set_cons_zero, List.set_cons_succ]
            refine wpAnyK_ready (rs := [3]) (by kernel_rfl) (by simp) ?_
            refine AllReadyK.cons (o := ?oik1_12) ?hk1_12 (fun K hK => ?kk1_12) ?mk1_12
            case hk1_12 => (simp only [List.getElem?_toArray, List.getElem?_cons_succ, List.getElem?_cons_zero]; rfl)
            case kk1_12 =>
              (refine step_app1 _ _ _ _ _ etI (by rfl) (by rfl) B (.slice Ad T.length cd) T.length (iv D) (by rfl) ?_ _ (.int .i64 y) (by rfl) ?_ (by rfl) ?_ ?_ ?_; (first | exact (HOD2.out.alloc _).drew | exact ((HOD2.out.alloc _).alloc _).drew); (first | exact drew_cell (new_cell _ _ _) | exact drew_cell (new_cell2 _ _ _ _) | exact drew_cell (new_cell1 _ _ _ _)); omega; (have := HBB.out.size; simp; omega); (intro g7 c7 w7 hown7 hgrow7 hat7 hlt7; have HK1 : Hid (Keeps W0 w7 [(Value.slice Ad T.length cd).ownBlock]) := Lib.hid (by first | exact keeps_app1 hgrow7 | exact keeps_app2 hgrow7); have HKA : Hid (Keeps W0 w7 [(Value.slice Ad T.length cd).ownBlock, (Value.slice Ar T.length cr).ownBlock]) := Lib.hid (HK1.out.more (fun j h => by simp at h ⊢; exact .inl h)); have HOD7 := Lib.hid hown7; have HOR7 := Lib.hid (owns_keeps HOR2.out HK1.out (by have := HNE.out; simpa using this)); have HG7 := Lib.hid hgrow7; clear hown7 hgrow7 hat7 hlt7))
              refine hK.out _ _ (by (first | exact KS.out _ ((Keeps.refl _ _).drew) | exact KS.out _ (((Keeps.refl _ _).alloc _).drew) | exact KS.out _ ((((Keeps.refl _ _).alloc _).alloc _).drew) | exact KS.out _ HKA.out | exact KS.out _ (HKA.out.alloc _) | exact KS.out _ HKB.out)) (fun hHeld => ?_)
              clear hK K
              try simp only [Act.put, List.setIfInBounds_toArray, List.set_cons_zero, List.set_cons_succ]
              refine wpAnyK_ready (rs := [7]) (by kernel_rfl) (by simp) ?_
              refine AllReadyK.cons (o := ?oik1_13) ?hk1_13 (fun K hK => ?kk1_13) ?mk1_13
              case hk1_13 => (simp only [List.getElem?_toArray, List.getElem?_cons_succ, List.getElem?_cons_zero]; rfl)
              case kk1_13 =>
                (refine step_app1 _ _ _ _ _ etN (by rfl) (by rfl) B (.slice Ar T.length cr) T.length (nv T) (by rfl) ?_ _ (.int .i64 (i : Int)) (by rfl) ?_ (by rfl) ?_ ?_ ?_; (first | exact HOR7.out | exact HOR7.out.alloc _); (first | exact new_cell _ _ _ | exact (Keeps.of_grown HG7.out).cellSome (drew_cell (new_cell1 _ _ _ _)) (not_new LD.out (by simp)) | exact (Keeps.of_grown HG7.out).cellSome (drew_cell (new_cell2 _ _ _ _)) (not_new LD.out (by simp))); omega; (have h1 := HBB.out.size; have h2 := HK1.out.size; (try simp); omega); (intro g8 c8 w8 hown8 hgrow8 hat8 hlt8; have HK3 : Hid (Keeps w7 w8 [(Value.slice Ar T.length cr).ownBlock]) := Lib.hid (by first | exact Keeps.of_grown hgrow8 | exact keeps_app3 hgrow8); have HKB : Hid (Keeps W0 w8 [(Value.slice Ad T.length cd).ownBlock, (Value.slice Ar T.length cr).ownBlock]) := Lib.hid (HK1.out.trans HK3.out (fun j _ h => by simp at h ⊢; exact h)); have HOD8 := Lib.hid (owns_keeps HOD7.out HK3.out (by have := own_ne2 HOD7.out HOR7.out (by decide); simpa using this)); have HOR8 := Lib.hid hown8; have HBX8 : Hid (w8.heap[B + 1 + 1]? = some (.cells #[.slice Ar T.length cr] 84 (0, 0))) := Lib.hid ((HKB.out.block _ (blk1c HBX2.out).2.2 (by have n1 := own_ne_blk HOD2.out HBX2.out (by decide); have n2 := own_ne_blk HOR2.out HBX2.out (by decide); simp only [List.mem_cons, List.not_mem_nil, or_false, not_or]; exact ⟨n1.symm, n2.symm⟩)).trans HBX2.out); obtain ⟨z0, zf0, lz⟩ := blk1c HBX8.out; clear hown8 hgrow8 hat8 hlt8))
                refine hK.out _ _ (by (first | exact KS.out _ ((Keeps.refl _ _).drew) | exact KS.out _ (((Keeps.refl _ _).alloc _).drew) | exact KS.out _ ((((Keeps.refl _ _).alloc _).alloc _).drew) | exact KS.out _ HKA.out | exact KS.out _ (HKA.out.alloc _) | exact KS.out _ HKB.out)) (fun hHeld => ?_)
                clear hK K
                try simp only [Act.put, List.setIfInBounds_toArray, List.set_cons_zero, List.set_cons_succ]
                refine wpAnyK_take (i := 8) (oi := ?oik1_14) (v := ?vk1_14) ?hk1_14 (by kernel_rfl) (by kernel_rfl) (by kernel_rfl) (by kernel_rfl) ?qk1_14 (Or.inl ⟨?wk1_14, ?yk1_14⟩) (by assumption) ?rk1_14
                case hk1_14 => (simp only [List.getElem?_toArray, List.getElem?_cons_succ, List.getElem?_cons_zero]; rfl)
                case qk1_14 => exact fun _ _ _ h => h
                case wk1_14 => rfl
                case yk1_14 => (intro w hSw; (try dsimp only at hSw); go_simp <;> with_reducible rfl)
                try simp only [Act.put, List.setIfInBounds_toArray, List.set_cons_zero, List.set_cons_succ]
                refine wpAnyK_ready (rs := [9]) (by kernel_rfl) (by simp) ?_
                refine AllReadyK.fin (o := ?oik1_15) (by decide) ?hk1_15 (fun K hK => ?kk1_15) ?mk1_15
                case hk1_15 => (simp only [List.getElem?_toArray, List.getElem?_cons_succ, List.getElem?_cons_zero]; rfl)
                case kk1_15 =>
                  go_simp
                  refine hK.out _ _ ?_
                  clear hK K
                  try simp only [Act.put, List.setIfInBounds_toArray, List.set_cons_zero, List.set_cons_succ]
                  refine wpAnyK_done (by kernel_rfl) ?_ _
                  go_wp2_with fail
                  go_roundw
                  case rel => exact ⟨i + 1, some ⟨g7, 0, none⟩, c7, some ⟨g8, 0, none⟩, c8, by omega, by go_num, by rw [HRS.out, List.length_append]; rfl, by rw [HRS.out, ← HTM.out, List.length_append, iv_append]; exact own_setBoxZ HOD8.out HBX8.out (by decide) _, by rw [HRS.out, List.length_append, nv_snocZ]; exact own_setBoxZ HOR8.out HBX8.out (by decide) _, by rw [HRS.out, List.length_append]; exact blk1set HBX8.out _, (HBB.out.trans (HKB.out.to_below (by have := HBB.out.size; omega) HLO.out)).setCell (p := ⟨B + 1 + 1, 0, none⟩) (by show B ≤ B + 1 + 1; omega) _⟩
                  case measure => simp [intOf]; omega
                exact AllReadyK.nil
              exact AllReadyK.nil
            exact AllReadyK.nil
          exact AllReadyK.nil
        refine AllReadyK.cons (o := ?oik1_16) ?hk1_16 (fun K hK => ?kk1_16) ?mk1_16
        case hk1_16 => (simp only [List.getElem?_toArray, List.getElem?_cons_succ, List.getElem?_cons_zero]; rfl)
        case kk1_16 =>
          go_simp
          refine hK.out _ _ (by (first | exact KS.out _ ((Keeps.refl _ _).drew) | exact KS.out _ (((Keeps.refl _ _).alloc _).drew) | exact KS.out _ ((((Keeps.refl _ _).alloc _).alloc _).drew) | exact KS.out _ HKA.out | exact KS.out _ (HKA.out.alloc _) | exact KS.out _ HKB.out)) (fun hHeld => ?_)
          clear hK K
          try simp only [Act.put, List.setIfInBounds_toArray, List.set_cons_zero, List.set_cons_succ]
          refine wpAnyK_ready (rs := [2]) (by kernel_rfl) (by simp) ?_
          refine AllReadyK.cons (o := ?oik1_17) ?hk1_17 (fun K hK => ?kk1_17) ?mk1_17
          case hk1_17 => (simp only [List.getElem?_toArray, List.getElem?_cons_succ, List.getElem?_cons_zero]; rfl)
          case kk1_17 =>
            go_simp
            refine hK.out _ _ (by (first | exact KS.out _ ((Keeps.refl _ _).drew) | exact KS.out _ (((Keeps.refl _ _).alloc _).drew) | exact KS.out _ ((((Keeps.refl _ _).alloc _).alloc _).drew) | exact KS.out _ HKA.out | exact KS.out _ (HKA.out.alloc _) | exact KS.out _ HKB.out)) (fun hHeld => ?_)
            clear hK K
            try simp only [Act.put, List.setIfInBounds_toArray, List.set_cons_zero, List.set_cons_succ]
            refine wpAnyK_ready (rs := [3]) (by kernel_rfl) (by simp) ?_
            refine AllReadyK.cons (o := ?oik1_18) ?hk1_18 (fun K hK => ?kk1_18) ?mk1_18
            case hk1_18 => (simp only [List.getElem?_toArray, List.getElem?_cons_succ, List.getElem?_cons_zero]; rfl)
            case kk1_18 =>
              (refine step_app1 _ _ _ _ _ etI (by rfl) (by rfl) B (.slice Ad T.length cd) T.length (iv D) (by rfl) ?_ _ (.int .i64 y) (by rfl) ?_ (by rfl) ?_ ?_ ?_; (first | exact (HOD2.out.alloc _).drew | exact ((HOD2.out.alloc _).alloc _).drew); (first | exact drew_cell (new_cell _ _ _) | exact drew_cell (new_cell2 _ _ _ _) | exact drew_cell (new_cell1 _ _ _ _)); omega; (have := HBB.out.size; simp; omega); (intro g7 c7 w7 hown7 hgrow7 hat7 hlt7; have HK1 : Hid (Keeps W0 w7 [(Value.slice Ad T.length cd).ownBlock]) := Lib.hid (by first | exact keeps_app1 hgrow7 | exact keeps_app2 hgrow7); have HKA : Hid (Keeps W0 w7 [(Value.slice Ad T.length cd).ownBlock, (Value.slice Ar T.length cr).ownBlock]) := Lib.hid (HK1.out.more (fun j h => by simp at h ⊢; exact .inl h)); have HOD7 := Lib.hid hown7; have HOR7 := Lib.hid (owns_keeps HOR2.out HK1.out (by have := HNE.out; simpa using this)); have HG7 := Lib.hid hgrow7; clear hown7 hgrow7 hat7 hlt7))
              refine hK.out _ _ (by (first | exact KS.out _ ((Keeps.refl _ _).drew) | exact KS.out _ (((Keeps.refl _ _).alloc _).drew) | exact KS.out _ ((((Keeps.refl _ _).alloc _).alloc _).drew) | exact KS.out _ HKA.out | exact KS.out _ (HKA.out.alloc _) | exact KS.out _ HKB.out)) (fun hHeld => ?_)
              clear hK K
              try simp only [Act.put, List.setIfInBounds_toArray, List.set_cons_zero, List.set_cons_succ]
              refine wpAnyK_ready (rs := [7]) (by kernel_rfl) (by simp) ?_
              refine AllReadyK.cons (o := ?oik1_19) ?hk1_19 (fun K hK => ?kk1_19) ?mk1_19
              case hk1_19 => (simp only [List.getElem?_toArray, List.getElem?_cons_succ, List.getElem?_cons_zero]; rfl)
              case kk1_19 =>
                (refine step_app1 _ _ _ _ _ etN (by rfl) (by rfl) B (.slice Ar T.length cr) T.length (nv T) (by rfl) ?_ _ (.int .i64 (i : Int)) (by rfl) ?_ (by rfl) ?_ ?_ ?_; (first | exact HOR7.out | exact HOR7.out.alloc _); (first | exact new_cell _ _ _ | exact (Keeps.of_grown HG7.out).cellSome (drew_cell (new_cell1 _ _ _ _)) (not_new LD.out (by simp)) | exact (Keeps.of_grown HG7.out).cellSome (drew_cell (new_cell2 _ _ _ _)) (not_new LD.out (by simp))); omega; (have h1 := HBB.out.size; have h2 := HK1.out.size; (try simp); omega); (intro g8 c8 w8 hown8 hgrow8 hat8 hlt8; have HK3 : Hid (Keeps w7 w8 [(Value.slice Ar T.length cr).ownBlock]) := Lib.hid (by first | exact Keeps.of_grown hgrow8 | exact keeps_app3 hgrow8); have HKB : Hid (Keeps W0 w8 [(Value.slice Ad T.length cd).ownBlock, (Value.slice Ar T.length cr).ownBlock]) := Lib.hid (HK1.out.trans HK3.out (fun j _ h => by simp at h ⊢; exact h)); have HOD8 := Lib.hid (owns_keeps HOD7.out HK3.out (by have := own_ne2 HOD7.out HOR7.out (by decide); simpa using this)); have HOR8 := Lib.hid hown8; have HBX8 : Hid (w8.heap[B + 1 + 1]? = some (.cells #[.slice Ar T.length cr] 84 (0, 0))) := Lib.hid ((HKB.out.block _ (blk1c HBX2.out).2.2 (by have n1 := own_ne_blk HOD2.out HBX2.out (by decide); have n2 := own_ne_blk HOR2.out HBX2.out (by decide); simp only [List.mem_cons, List.not_mem_nil, or_false, not_or]; exact ⟨n1.symm, n2.symm⟩)).trans HBX2.out); obtain ⟨z0, zf0, lz⟩ := blk1c HBX8.out; clear hown8 hgrow8 hat8 hlt8))
                refine hK.out _ _ (by (first | exact KS.out _ ((Keeps.refl _ _).drew) | exact KS.out _ (((Keeps.refl _ _).alloc _).drew) | exact KS.out _ ((((Keeps.refl _ _).alloc _).alloc _).drew) | exact KS.out _ HKA.out | exact KS.out _ (HKA.out.alloc _) | exact KS.out _ HKB.out)) (fun hHeld => ?_)
                clear hK K
                try simp only [Act.put, List.setIfInBounds_toArray, List.set_cons_zero, List.set_cons_succ]
                refine wpAnyK_take (i := 8) (oi := ?oik1_20) (v := ?vk1_20) ?hk1_20 (by kernel_rfl) (by kernel_rfl) (by kernel_rfl) (by kernel_rfl) ?qk1_20 (Or.inl ⟨?wk1_20, ?yk1_20⟩) (by assumption) ?rk1_20
                case hk1_20 => (simp only [List.getElem?_toArray, List.getElem?_cons_succ, List.getElem?_cons_zero]; rfl)
                case qk1_20 => exact fun _ _ _ h => h
                case wk1_20 => rfl
                case yk1_20 => (intro w hSw; (try dsimp only at hSw); go_simp <;> with_reducible rfl)
                try simp only [Act.put, List.setIfInBounds_toArray, List.set_cons_zero, List.set_cons_succ]
                refine wpAnyK_ready (rs := [9]) (by kernel_rfl) (by simp) ?_
                refine AllReadyK.fin (o := ?oik1_21) (by decide) ?hk1_21 (fun K hK => ?kk1_21) ?mk1_21
                case hk1_21 => (simp only [List.getElem?_toArray, List.getElem?_cons_succ, List.getElem?_cons_zero]; rfl)
                case kk1_21 =>
                  go_simp
                  refine hK.out _ _ ?_
                  clear hK K
                  try simp only [Act.put, List.setIfInBounds_toArray, List.set_cons_zero, List.set_cons_succ]
                  refine wpAnyK_done (by kernel_rfl) ?_ _
                  go_wp2_with fail
                  go_roundw
                  case rel => exact ⟨i + 1, some ⟨g7, 0, none⟩, c7, some ⟨g8, 0, none⟩, c8, by omega, by go_num, by rw [HRS.out, List.length_append]; rfl, by rw [HRS.out, ← HTM.out, List.length_append, iv_append]; exact own_setBoxZ HOD8.out HBX8.out (by decide) _, by rw [HRS.out, List.length_append, nv_snocZ]; exact own_setBoxZ HOR8.out HBX8.out (by decide) _, by rw [HRS.out, List.length_append]; exact blk1set HBX8.out _, (HBB.out.trans (HKB.out.to_below (by have := HBB.out.size; omega) HLO.out)).setCell (p := ⟨B + 1 + 1, 0, none⟩) (by show B ≤ B + 1 + 1; omega) _⟩
                  case measure => simp [intOf]; omega
                exact AllReadyK.nil
              exact AllReadyK.nil
            exact AllReadyK.nil
          exact AllReadyK.nil
        exact AllReadyK.nil
      · rw [hpv] at HCFi
        have HRS := Lib.hid (rst_no hpv)
        clear hpv HTM
        generalize xs.getD i 0 = y at *
        go_wp2_with fail
        refine HCFi.out.mono ?_
        rintro e W0 ⟨rfl, mm, hW0⟩
        have HBa : Hid (Below wr.heap.size wr W0) := Lib.hid (by rw [← hW0]; exact below_drewN ((Below.refl _ _).alloc (Nat.le_refl _) _) mm)
        have hB0 : B ≤ wr.heap.size := by have := HBE1.out.size; omega
        clear hW0 x0 x1 xf0 xf1 lx hc
        go_wp2_with fail
        go_roundw
        case rel => exact ⟨i + 1, Ad, cd, Ar, cr, by omega, by go_num, by rw [HRS.out], by rw [HRS.out]; exact owns_keeps HOD1.out (Keeps.of_below HBa.out) (.inr (by simp)), by rw [HRS.out]; exact owns_keeps HOR1.out (Keeps.of_below HBa.out) (.inr (by simp)), by rw [HRS.out]; exact blk_kept HBX1.out HBa.out, HBE1.out.trans (HBa.out.mono hB0)⟩
        case measure => simp [intOf]; omega
    · obtain rfl : n = i := by omega
      obtain ⟨wo, hwo⟩ : ∃ wo, wo = wr := ⟨_, rfl⟩
      subst hwo
      have HQD : Hid (((rst (pvs S) n).map fun t => xs.getD t 0) = quoD xs S) := Lib.hid (by rw [Hnx.out]; rfl)
      have HQL : Hid ((quoD xs S).length = (rst (pvs S) n).length) := Lib.hid (by rw [quoD_len, Hnx.out])
      have HIn : Hid (∀ t ∈ rst (pvs S) n, t < n) := Lib.hid (fun t ht => (mem_rst.1 ht).1)
      have HQA : Hid (modA (fun j b => told S n (act (dat L) (j : Int) (2 ^ (rst (pvs S) n).getD b 0))) (rst (pvs S) n).length = quoA xs (dat L) S) := Lib.hid (by rw [Hnx.out]; rfl)
      have hQT : ∀ x, unT (rst (pvs S) n) (leftS S x) (rst (pvs S) n).length = told S n x := fun x => rfl
      have hQS : ∀ x, Sm (told S n x) := fun x => sm_of_lt (a := (rst (pvs S) n).length) (by omega) (told_lt S n x)
      have HQP : Hid (∀ t, t < n → (quoP xs S).getD t 0 = told S n (2 ^ t)) := Lib.hid (fun t ht => by rw [Hnx.out] at ht ⊢; exact quoP_getD ht)
      have HQN : Hid ((quoP xs S).length = n) := Lib.hid (by rw [quoP_len, Hnx.out])
      have HQB : Hid ((quoP xs S).map (fun v => bitsL v (rst (pvs S) n).length) = (quotMR xs (dat L) S).2.1) := Lib.hid (by rw [Hnx.out]; rfl)
      rw [HQD.out] at HOD1
      have HBW := Lib.hid (HB4.out.trans (HBE1.out.mono hBw))
      have HBR := HBZ.out.trans (HBE1.out.mono (show w2.heap.size ≤ B by omega))
      have hktr := blk_below HKT.out HBE1.out (by omega)
      have hksr := blk_below HKS.out HBE1.out (by omega)
      have hkmr := blk_below HKM4.out HBE1.out (by omega)
      have hkrr := blk_below HKR4.out HBE1.out (by omega)
      have hbz : Below wo.heap.size wo (wo.alloc (.cells #[.func (.func 94) #[] #[.pointer (some ⟨w2.heap.size + 1, 0, none⟩), .pointer (some ⟨B + 1 + 1, 0, none⟩)]] 96)) := (Below.refl _ _).alloc (Nat.le_refl _) _
      have hkf := blk_new wo (.cells #[.func (.func 94) #[] #[.pointer (some ⟨w2.heap.size + 1, 0, none⟩), .pointer (some ⟨B + 1 + 1, 0, none⟩)]] 96)
      have hspr : SpanR wo (w2.heap.size + 1) bs (spanL (zs S)) := by
        obtain ⟨A1, c1, rfl, _, _, _⟩ := owns_shape HSP.out.own1
        obtain ⟨A2, c2, rfl, _, _, _⟩ := owns_shape HSP.out.own2
        obtain ⟨s0, s1, _⟩ := blk2cells HSP.out.blk
        exact ⟨(blk1c hksr).1, A1, A2, c1, c2, cell_keep s0 HBR, cell_keep s1 HBR, (owns_Rd HSP.out.own1).below HBR, (owns_Rd HSP.out.own2).below HBR⟩
      have HCT := Lib.hid (fun (x : Nat) W (hb : Below wo.heap.size wo W) (hx : Sm x) => show Calls Tryz.prog 94 #[.int .i64 (x : Int), .pointer (some ⟨w2.heap.size + 1, 0, none⟩), .pointer (some ⟨B + 1 + 1, 0, none⟩)] W (fun e w' => e = .returned (.int .i64 (told S n x : Nat)) ∧ Below W.heap.size W w') from by
        have h := toldClo_any (w2.heap.size + 1) bs (B + 1 + 1) (spanL (zs S)) Ar (rst (pvs S) n).length cr (rst (pvs S) n) x W (HT.out.below (HBW.out.trans (hb.mono HBW.out.size)) hw) (Nat.lt_of_lt_of_le hw (Nat.le_trans HBW.out.size hb.size)) HGL.out.2 HGL.out.1 hx (hspr.below hb) (blk1c (blk_kept HBX1.out hb)).1 rfl (by omega) (fun t ht => by have := HIn.out t ht; omega) ((owns_Rd HOR1.out).below hb)
        rw [HLF.out, hQT] at h
        exact h)
      have hTF : ∀ (j b : Nat), 1 ≤ j → j ≤ 20 → b < (rst (pvs S) n).length → Sm (told S n (act (dat L) (j : Int) (2 ^ (rst (pvs S) n).getD b 0))) := fun j b _ _ _ => hQS _
      have HMO := Lib.hid (moduleOf_any Ad (rst (pvs S) n).length cd (quoD xs S) 96 #[.pointer (some ⟨wo.heap.size, 0, none⟩), .pointer (some ⟨w2.heap.size, 0, none⟩), .pointer (some ⟨B + 1 + 1, 0, none⟩)] (fun j b => told S n (act (dat L) (j : Int) (2 ^ (rst (pvs S) n).getD b 0))) (wo.alloc (.cells #[.func (.func 94) #[] #[.pointer (some ⟨w2.heap.size + 1, 0, none⟩), .pointer (some ⟨B + 1 + 1, 0, none⟩)]] 96)) (fun args w => Tryz.call96 args w) HQL.out.symm (by omega) ((owns_Rd HOD1.out).below hbz) hTF (fun j i W _ hj hi hbW => by
        have hb := hbz.trans (hbW.mono hbz.size)
        have h := quoClo_any wo.heap.size w2.heap.size (B + 1 + 1) (w2.heap.size + 1) bs g (spanL (zs S)) A n c xs (dat L) Ar (rst (pvs S) n).length cr (rst (pvs S) n) j i W (HT.out.below (HBW.out.trans (hb.mono HBW.out.size)) hw) (Nat.lt_of_lt_of_le hw (Nat.le_trans HBW.out.size hb.size)) Hnx.out HSH.out hj HGL.out.2 HGL.out.1 (blk1c (blk_kept hkf hbW)).1 (blk1c (blk_kept hktr hb)).1 (hspr.below hb) (blk1c (blk_kept HBX1.out hb)).1 rfl (by omega) hi HIn.out ((owns_Rd HOR1.out).below hb) (HTB2.out.below (HBR.trans (hb.mono HBR.size)))
        rw [HLF.out, hQT] at h
        exact h))
      have HBZ1 := Lib.hid hbz
      have HKF1 := Lib.hid hkf
      have HKM5 := Lib.hid (blk_kept hkmr hbz)
      have HKR5 := Lib.hid (blk_kept hkrr hbz)
      have HQS := Lib.hid hQS
      have hlr := (blk2cells hkrr).2.2.2.2
      obtain ⟨x0, x1, xf0, xf1, lx⟩ := blk2cells hkmr
      clear hbz hkf hspr hTF hktr hksr hkmr hkrr HBR hQT hQS HCF
      generalize rst (pvs S) n = T at *
      go_wp2_with fail
      refine HMO.out.mono ?_
      rintro e w6 ⟨v, rfl, hmo, hb⟩
      have hmu := hmo.up
      obtain ⟨Aq, cq, A1, c1, R, rfl, _⟩ := hmo
      rw [HQA.out] at hmu
      rw [HQL.out] at hmu ⊢
      have HMU := Lib.hid hmu
      have HBw5 := Lib.hid (HBW.out.trans (HBZ1.out.mono HBW.out.size))
      have HB56 := Lib.hid hb
      have HKM6 := Lib.hid (blk_kept HKM5.out hb)
      have HKR6 := Lib.hid (blk_kept HKR5.out hb)
      have HKF6 := Lib.hid (blk_kept HKF1.out hb)
      clear hmu hb x0 x1 xf0 xf1 lx HMO
      have hbz : Below w6.heap.size w6 ((w6.alloc (.cells #[.slice Aq T.length cq, .slice A1 R.length c1] 29)).alloc (.cells #[] 2)) := ((Below.refl _ _).alloc (Nat.le_refl _) _).alloc (by simp) _
      have HKQ7 := Lib.hid (blk_alloc (blk_new w6 (.cells #[.slice Aq T.length cq, .slice A1 R.length c1] 29)) (.cells #[] 2))
      have hop := World.ownsRow_made (w6.alloc (.cells #[.slice Aq T.length cq, .slice A1 R.length c1] 29)) #[] 0 (base := w6.heap.size + 1) (e := 2) (size := 1) (by simp) (by decide) (by simp)
      simp only [World.size_alloc] at hop
      have HOP := Lib.hid hop
      have HB67 := Lib.hid hbz
      have HKM7 := Lib.hid (blk_kept HKM6.out hbz)
      have HKR7 := Lib.hid (blk_kept HKR6.out hbz)
      have HKF7 := Lib.hid (blk_kept HKF6.out hbz)
      obtain ⟨x0, x1, xf0, xf1, lx⟩ := blk2cells (blk_kept HKM6.out hbz)
      have hz7 : ((w6.alloc (.cells #[.slice Aq T.length cq, .slice A1 R.length c1] 29)).alloc (.cells #[] 2)).heap.size = w6.heap.size + 2 := by simp
      have HZ7 := Lib.hid hz7
      clear hop hbz hz7 HKM6 HKR6 HKF6
      go_wp2_with fail
      generalize (w6.alloc (.cells #[.slice Aq T.length cq, .slice A1 R.length c1] 29)).alloc (.cells #[] 2) = w7 at *
      have HC7 := Lib.hid (HBZ1.out.trans (HB56.out.mono HBZ1.out.size))
      have HC8 := Lib.hid (HC7.out.trans (HB67.out.mono HC7.out.size))
      clear x0 x1 xf0 xf1 lx
      go_loopw [15, 52] (fun s15 s52 wr => ∃ (i : Nat) (Ap : Option Addr) (cp : Nat), i ≤ n ∧ s52 = .int .i64 i ∧ s15 = .slice Ap i cp ∧ wr.ownsRow (w6.heap.size + 1) 2 1 (.slice Ap i cp) i (nv ((quoP xs S).take i)) ∧ Below (w6.heap.size + 1) w7 wr) (fun _ s => fun _ => n - (intOf s).toNat)
      case atStart => exact ⟨0, _, 0, by omega, rfl, rfl, by simpa [nv] using HOP.out, Below.refl _ _⟩
      case round =>
        obtain ⟨i, Ap, cp, hi, rfl, rfl, hop, hbel⟩ := hrel
        have HOPi := Lib.hid hop
        have HBEi := Lib.hid hbel
        clear hop hbel
        have hs67 := HB67.out.size
        have hs16 := HC7.out.size
        have HBX := Lib.hid (HC8.out.trans (HBEi.out.mono (show wo.heap.size ≤ w6.heap.size + 1 by omega)))
        by_cases hin : i < n
        · have hp2 : Sm (2 ^ i) := sm_pow (n := i + 1) (by omega) (pow_lt_pow (by omega))
          have HCTi := Lib.hid (fun (W : World) (hb : Below wr.heap.size wr W) => show Calls Tryz.prog 94 #[.int .i64 (IntKind.i64.wrap ((2 : Int) ^ i)), .pointer (some ⟨w2.heap.size + 1, 0, none⟩), .pointer (some ⟨B + 1 + 1, 0, none⟩)] W (fun e w' => e = .returned (.int .i64 (told S n (2 ^ i) : Nat)) ∧ Below W.heap.size W w') from by
            have h := HCT.out (2 ^ i) W (HBX.out.trans (hb.mono HBX.out.size)) hp2
            rw [← shl_wrapI (by omega)] at h
            exact h)
          have HTK : Hid ((quoP xs S).take (i + 1) = (quoP xs S).take i ++ [told S n (2 ^ i)]) := Lib.hid (by rw [take_succ_getDN (by rw [HQN.out]; exact hin), HQP.out i hin])
          generalize told S n (2 ^ i) = z at *
          have hkf := blk_below HKF7.out HBEi.out (show wo.heap.size < w6.heap.size + 1 by omega)
          have KS := Lib.hid (fun w' (hb : Below wr.heap.size wr w') => (blk1c (blk_kept hkf hb)).1)
          have HB_0 := Lib.hid (Below.drew (Below.refl wr.heap.size wr))
          have hsz := HBEi.out.size
          have h7 := HZ7.out
          have hmn : min i 64 = i := by omega
          have t1 : w6.heap.size + 1 ≤ wr.heap.size := by omega
          have t2 : wo.heap.size < w6.heap.size + 1 := by omega
          clear hkf hp2
          go_wp2_with fail
          go_region_held3 (fun w' => w'.cell? ⟨wo.heap.size, 0, none⟩ = some (.func (.func 94) #[] #[.pointer (some ⟨w2.heap.size + 1, 0, none⟩), .pointer (some ⟨B + 1 + 1, 0, none⟩)]))
            (first | exact KS.out _ HB_0.out | exact KS.out _ HB_1.out | exact KS.out _ (HB_1.out.alloc HB_1.out.size _) | exact hx9)
            (first
              | (go_at_call 94; (with_reducible refine (HCTi.out _ HB_0.out).mono ?_); (rintro e w8 ⟨rfl, hb⟩; have HB_1 := Lib.hid (HB_0.out.trans (hb.mono HB_0.out.size)); clear hb))
              | (refine step_app1 _ _ _ _ _ etI (by rfl) (by rfl) (w6.heap.size + 1) (.slice Ap i cp) i (nv ((quoP xs S).take i)) (by rfl) ?_ _ (.int .i64 (z : Nat)) (by rfl) ?_ (by rfl) ?_ ?_ ?_; exact (owns_keeps HOPi.out (Keeps.of_below HB_1.out) (.inr (by simp))).alloc _; exact new_cell _ _ _; omega; (have := HB_1.out.size; simp; omega); (intro g9 c9 w9 hown9 hgrow9 hat9 hlt9; have HO9 := Lib.hid hown9; have HF9 := Lib.hid (below_app2 (HBEi.out.trans (HB_1.out.mono t1)) (Nat.le_trans t1 HB_1.out.size) (owns_keeps HOPi.out (Keeps.of_below HB_1.out) (.inr (by simp))) hgrow9); have hkf9 := blk_below HKF7.out HF9.out t2; have hx9 := (blk1c hkf9).1; clear hown9 hgrow9 hat9 hlt9 hkf9)))
          go_wp2_with fail
          go_roundw
          case rel => exact ⟨i + 1, some ⟨g9, 0, none⟩, c9, by omega, by go_num, rfl, by rw [HTK.out, nv_snocZ]; exact HO9.out, HF9.out⟩
          case measure => simp [intOf]; omega
        · obtain rfl : n = i := by omega
          have htk : (quoP xs S).take n = quoP xs S := List.take_of_length_le (by rw [HQN.out]; exact Nat.le_refl _)
          rw [htk] at HOPi
          have HBF := Lib.hid (HBW.out.trans (HBX.out.mono HBW.out.size))
          have HKQx := Lib.hid (blk_below HKQ7.out HBEi.out (show w6.heap.size < w6.heap.size + 1 by omega))
          have HKRx := Lib.hid (blk_below HKR7.out HBEi.out (show w.heap.size + 1 < w6.heap.size + 1 by omega))
          have HVO := Lib.hid (fun W (hb : Below wr.heap.size wr W) => vectorsOf_any Aq A1 Ap T.length cq R.length c1 n cp (quoP xs S) W HQN.out.symm (by omega) (by omega) (fun r hr => by
            obtain ⟨t, _, rfl⟩ := List.mem_map.1 hr
            rw [← Hnx.out]; exact HQS.out _) ((owns_Rd HOPi.out).below hb))
          have hx1 := HBEi.out.size
          have h7 := HZ7.out
          have KS := Lib.hid (fun w' (hb : Below wr.heap.size wr w') => show w'.cell? ⟨w6.heap.size, 0, none⟩ = some (.slice Aq T.length cq) ∧ w'.cell? ⟨w6.heap.size, 1, none⟩ = some (.slice A1 R.length c1) from by
            obtain ⟨y0, y1, _⟩ := blk2cells (blk_kept HKQx.out hb)
            exact ⟨y0, y1⟩)
          have HB_0 := Lib.hid (Below.drew (Below.refl wr.heap.size wr))
          have hQR : (quoP xs S).map (fun v => bitsL v T.length) = (quotMR xs (dat L) S).2.1 := HQB.out
          have HQR := Lib.hid hQR
          have t3 : w.heap.size + 1 ≠ w6.heap.size := by omega
          clear hQR htk
          go_wp2_with fail
          go_region_held3 (fun w' => w'.cell? ⟨w6.heap.size, 0, none⟩ = some (.slice Aq T.length cq) ∧ w'.cell? ⟨w6.heap.size, 1, none⟩ = some (.slice A1 R.length c1))
            (first | exact KS.out _ HB_0.out | exact KS.out _ HB_2.out | exact ⟨KS0.out _ _, KS1.out _ _⟩)
            (first
              | (go_at_call 48; (with_reducible refine (HVO.out _ HB_0.out).mono ?_); (rintro e w8 ⟨A7, c7, R7, rfl, hRl, hRd, ho, hb⟩; have HRD := Lib.hid hRd; have HO7 := Lib.hid ho; have HB_2 := Lib.hid (HB_0.out.trans (hb.mono HB_0.out.size)); have HZ8 := Lib.hid (blk_kept HKRx.out HB_2.out); obtain ⟨z0, z1, zf0, zf1, lz⟩ := blk2cells HZ8.out; have hx7 := KS.out _ HB_2.out; have KS0 := Lib.hid (fun (a b : Value) => cell_set2 hx7.1 (g := w.heap.size + 1) (show w.heap.size + 1 ≠ w6.heap.size from t3) a b); have KS1 := Lib.hid (fun (a b : Value) => cell_set2 hx7.2 (g := w.heap.size + 1) (show w.heap.size + 1 ≠ w6.heap.size from t3) a b); clear hRl hRd ho hb hx7)))
          go_wp2_with fail
          (try simp only [Exit.inBlock, Exit.then])
          refine ret_mr rfl rfl rfl (blk2set1' (blk2set0' HZ8.out _) _) ?_
          have hs7 := HB_2.out.size
          have hs5 := HBw5.out.size
          have hs6 := HB56.out.size
          have hX := HB67.out.trans (HBEi.out.mono (Nat.le_succ w6.heap.size))
          have hkk : Keeps w8 ((w8.setCell ⟨w.heap.size + 1, 0, none⟩ (.slice Aq T.length cq)).setCell ⟨w.heap.size + 1, 1, none⟩ (.slice A1 R.length c1)) [some (w.heap.size + 1)] := ((Keeps.refl w8 _).setCell (p := ⟨w.heap.size + 1, 0, none⟩) (by simp) _).setCell (p := ⟨w.heap.size + 1, 1, none⟩) (by simp) _
          have hj : ∀ (j H : Nat), wo.heap.size ≤ H → some j ∈ [some (w.heap.size + 1)] → j < H := fun j H hH hj => by
            have : j = w.heap.size + 1 := by simpa using hj
            omega
          refine ⟨_, _, R7, w6.heap.size, Nat.le_trans hs5 hs6, by rfl, ?_, by rw [HRD.out]; exact HQR.out, ?_, ?_⟩
          · exact (((HMU.out.keeps (Keeps.of_below hX) (fun j hj => by cases hj)).keeps (Keeps.of_below HB_2.out) (fun j hj => by cases hj)).keeps hkk (fun j h => .inl (hj j _ HBZ1.out.size h))).mono hs5
          · exact (HO7.out.keeps hkk (not_in (B := wr.heap.size) (H := w8.heap.size) (fun j h => .inl (hj j _ (by omega) h)) fun g hg => HO7.out.out.lt g hg) (fun i hi => not_in (B := wr.heap.size) (H := w8.heap.size) (fun j h => .inl (hj j _ (by omega) h)) fun g hg => (HO7.out.inn i hi).lt g hg)).mono (show w6.heap.size ≤ wr.heap.size by omega)
          · exact ((HBF.out.trans (HB_2.out.mono HBF.out.size)).setCell (p := ⟨w.heap.size + 1, 0, none⟩) (by show w.heap.size ≤ w.heap.size + 1; omega) _).setCell (p := ⟨w.heap.size + 1, 1, none⟩) (by show w.heap.size ≤ w.heap.size + 1; omega) _
end Go.Proofs.YtpchigdhnnkpcaaGreatDoor
