/- impl's isTable · impl's isTable: the function · impl's (*table).fault, IsModule · the program's IsModule and tableOf at modules that came in -/
import Derived.Test.YtpchigdhnnkpcaaGreatDoorZay
import Derived.Test.YtpchigdhnnkpcaaGreatDoorZan
import Derived.Test.YtpchigdhnnkpcaaGreatDoorZad
import Derived.Test.YtpchigdhnnkpcaaGreatDoorZal
import Derived.Test.YtpchigdhnnkpcaaGreatDoorZap
namespace Go.Proofs.YtpchigdhnnkpcaaGreatDoor
open Go.RowKit

noncomputable def entB (xs e : List Int) : Bool := @decide (EntM xs e) (Classical.propDecidable _)
theorem entB_true {xs e : List Int} (h : EntM xs e) : entB xs e = true := by unfold entB; simp [h]
theorem entB_false {xs e : List Int} (h : ¬ EntM xs e) : entB xs e = false := by unfold entB; simp [h]
theorem entB_iff {xs e : List Int} : entB xs e = true ↔ EntM xs e := by unfold entB; simp

theorem isStem_any (x : Int) (w : World) : Calls Tryz.prog 118 #[.int .i64 x] w fun e w' => e = .returned (.bool (inB x 0 20)) ∧ w = w' := by
  have HI := Lib.hid (fun W => in_any x 0 20 W)
  go_enter Tryz.func118, Tryz.ntmps118
  go_wp2_with (go_at_call 123; refine (HI.out _).mono ?_; rintro e w' ⟨rfl, rfl⟩)
  go_ret
  exact ⟨rfl, rfl⟩

set_option maxRecDepth 100000 in
set_option maxHeartbeats 2000000 in
theorem entAsk (wc : World) (lb mb n c : Nat) (A : Option Addr) (xs : List Int) (r : Row) (hn : n = xs.length) (hn16 : n ≤ 16) (hd : ∀ i, i < xs.length → 0 ≤ xs.getD i 0 ∧ xs.getD i 0 ≤ 20)
    (hlc : wc.cell? ⟨lb, 0, none⟩ = some (.int .i64 ((n : Int) - 1))) (hmc : wc.cell? ⟨mb, 0, none⟩ = some (.slice A n c)) (hR : Rd wc A (iv xs)) (hr : Rd wc r.A (iv r.xs)) (hle : r.xs.length ≤ 1048576) :
    AsksN Tryz.prog 122 #[.pointer (some ⟨lb, 0, none⟩), .pointer (some ⟨mb, 0, none⟩)] wc r.val (entB xs r.xs) := by
  intro q
  obtain ⟨rA, rc, rx⟩ := r
  simp only [Row.val] at hr hle ⊢
  show Calls Tryz.prog 122 #[.slice rA rx.length rc, .pointer (some ⟨lb, 0, none⟩), .pointer (some ⟨mb, 0, none⟩)] (wc.drewN q) _
  have HNO := Lib.hid (fun (h : ¬ EntM xs rx) => entB_false h)
  have Hn := Lib.hid hn
  have HD := Lib.hid hd
  by_cases h3 : rx.length = 3
  · have HR := Lib.hid hR
    obtain ⟨b1, o1, rfl, hy0⟩ := hr.atI (k := 0) (by omega)
    rw [Nat.add_zero] at hy0
    have hy1 := hr.cellI (k := 1) (by omega)
    have hy2 := hr.cellI (k := 2) (by omega)
    have HI0 := Lib.hid (fun W => in_any (rx.getD 0 0) 1 20 W)
    have HI1 := Lib.hid (fun W => in_any (rx.getD 1 0) 0 ((n : Int) - 1) W)
    have HI2 := Lib.hid (fun W => in_any (rx.getD 2 0) 0 ((n : Int) - 1) W)
    have HM := Lib.hid (fun (g0 : 1 ≤ rx.getD 0 0) g1 g2 g3 g4 g5 => entB_true (⟨h3, g0, g1, g2, g3, g4, g5⟩ : EntM xs rx))
    have HN0 := Lib.hid (fun (h : ¬ (1 ≤ rx.getD 0 0 ∧ rx.getD 0 0 ≤ 20)) => HNO.out (fun e => h ⟨e.pos, e.le20 hd⟩))
    have HN1 := Lib.hid (fun (h : ¬ (0 ≤ rx.getD 1 0 ∧ rx.getD 1 0 ≤ (n : Int) - 1)) => HNO.out (fun e => h ⟨e.lo1, by have := e.hi1; omega⟩))
    have HN2 := Lib.hid (fun (h : ¬ (0 ≤ rx.getD 2 0 ∧ rx.getD 2 0 ≤ (n : Int) - 1)) => HNO.out (fun e => h ⟨e.lo2, by have := e.hi2; omega⟩))
    have HN3 := Lib.hid (fun (h : ¬ xs.getD (rx.getD 2 0).toNat 0 = xs.getD (rx.getD 1 0).toNat 0 + rx.getD 0 0) => HNO.out (fun e => h e.dg))
    rw [h3]
    clear hr hle hn hd hR HNO h3
    generalize rx.getD 0 0 = e0 at *
    generalize rx.getD 1 0 = e1 at *
    generalize rx.getD 2 0 = e2 at *
    cases hb0 : inB e0 1 20
    · rw [hb0] at HI0
      have HF := Lib.hid (HN0.out (inB_not hb0))
      clear hb0
      go_enter Tryz.func122, Tryz.ntmps122
      go_wp2_with fail
      go_big_quiet ((go_at_call 123; first | with_reducible exact quiet_add_left (HI0.out _) | with_reducible exact quiet_left (HI0.out _)))
      go_wp2_with fail
      go_ret
      exact ⟨by rw [HF.out]; rfl, _, by rw [World.drewN_drewN]⟩
    · rw [hb0] at HI0
      obtain ⟨hlo0, hhi0⟩ := inB_true2 hb0
      clear hb0
      cases hb1 : inB e1 0 ((n : Int) - 1)
      · rw [hb1] at HI1
        have HF := Lib.hid (HN1.out (inB_not hb1))
        clear hb1
        go_enter Tryz.func122, Tryz.ntmps122
        go_wp2_with fail
        go_big_quiet ((go_at_call 123; first | with_reducible exact quiet_add_left (HI0.out _) | with_reducible exact quiet_left (HI0.out _) | with_reducible exact quiet_add_left (HI1.out _) | with_reducible exact quiet_left (HI1.out _)))
        go_wp2_with fail
        go_ret
        exact ⟨by rw [HF.out]; rfl, _, by rw [World.drewN_drewN]⟩
      · rw [hb1] at HI1
        obtain ⟨hlo1, hhi1⟩ := inB_true2 hb1
        clear hb1
        cases hb2 : inB e2 0 ((n : Int) - 1)
        · rw [hb2] at HI2
          have HF := Lib.hid (HN2.out (inB_not hb2))
          clear hb2
          go_enter Tryz.func122, Tryz.ntmps122
          go_wp2_with fail
          go_big_quiet ((go_at_call 123; first | with_reducible exact quiet_add_left (HI0.out _) | with_reducible exact quiet_left (HI0.out _) | with_reducible exact quiet_add_left (HI1.out _) | with_reducible exact quiet_left (HI1.out _) | with_reducible exact quiet_add_left (HI2.out _) | with_reducible exact quiet_left (HI2.out _)))
          go_wp2_with fail
          go_ret
          exact ⟨by rw [HF.out]; rfl, _, by rw [World.drewN_drewN]⟩
        · rw [hb2] at HI2
          obtain ⟨hlo2, hhi2⟩ := inB_true2 hb2
          clear hb2
          obtain ⟨i1, rfl⟩ := Int.eq_ofNat_of_zero_le hlo1
          obtain ⟨i2, rfl⟩ := Int.eq_ofNat_of_zero_le hlo2
          rw [Int.toNat_natCast, Int.toNat_natCast] at HN3 HM
          have hi1 : i1 < n := by omega
          have hi2 : i2 < n := by omega
          obtain ⟨b3, o3, rfl, hd1⟩ := HR.out.atI (k := i1) (by rw [← Hn.out]; exact hi1)
          have hd2 := HR.out.cellI (k := i2) (by rw [← Hn.out]; exact hi2)
          have hbd1 := HD.out i1 (by rw [← Hn.out]; exact hi1)
          have hbd2 := HD.out i2 (by rw [← Hn.out]; exact hi2)
          have hi1' : (i1 : Int) < (n : Int) := by omega
          have hi2' : (i2 : Int) < (n : Int) := by omega
          generalize xs.getD i1 0 = d1 at *
          generalize xs.getD i2 0 = d2 at *
          obtain ⟨g1, g2⟩ := hbd1
          obtain ⟨g3, g4⟩ := hbd2
          have hw2 : IntKind.i64.wrap (d1 + e0) = d1 + e0 := by rw [IntKind.wrap_i64]; omega
          by_cases heq : d2 = d1 + e0
          · have HEN := Lib.hid (HM.out (by omega) (by omega) (by rw [← Hn.out]; exact hi1') (by omega) (by rw [← Hn.out]; exact hi2') (by omega))
            have heb : (d2 == d1 + e0) = true := by simpa using heq
            clear heq
            go_enter Tryz.func122, Tryz.ntmps122
            go_wp2_with fail
            go_big_quiet ((go_at_call 123; first | with_reducible exact quiet_add_left (HI0.out _) | with_reducible exact quiet_left (HI0.out _) | with_reducible exact quiet_add_left (HI1.out _) | with_reducible exact quiet_left (HI1.out _) | with_reducible exact quiet_add_left (HI2.out _) | with_reducible exact quiet_left (HI2.out _)))
            go_wp2_with fail
            go_big_quiet (fail)
            go_wp2_with fail
            go_ret
            exact ⟨by rw [HEN.out]; rfl, _, by rw [World.drewN_drewN, World.drewN_drewN]⟩
          · have HF := Lib.hid (HN3.out (by omega))
            have heb : (d2 == d1 + e0) = false := by simpa using heq
            clear heq
            go_enter Tryz.func122, Tryz.ntmps122
            go_wp2_with fail
            go_big_quiet ((go_at_call 123; first | with_reducible exact quiet_add_left (HI0.out _) | with_reducible exact quiet_left (HI0.out _) | with_reducible exact quiet_add_left (HI1.out _) | with_reducible exact quiet_left (HI1.out _) | with_reducible exact quiet_add_left (HI2.out _) | with_reducible exact quiet_left (HI2.out _)))
            go_wp2_with fail
            go_big_quiet (fail)
            go_wp2_with fail
            go_ret
            exact ⟨by rw [HF.out]; rfl, _, by rw [World.drewN_drewN, World.drewN_drewN]⟩
  · have hrb : ((rx.length : Int) != 3) = true := by simp; omega
    have HF := Lib.hid (HNO.out (fun e => h3 e.len))
    clear hr hn hd hR HNO h3
    go_enter Tryz.func122, Tryz.ntmps122
    go_wp2_with fail
    go_big_quiet (fail)
    go_wp2_with fail
    go_ret
    exact ⟨by rw [HF.out]; rfl, _, by rw [World.drewN_drewN]⟩
end Go.Proofs.YtpchigdhnnkpcaaGreatDoor

namespace Go.Proofs.YtpchigdhnnkpcaaGreatDoor
open Go.RowKit

theorem stem_closure (w : World) (x : Int) : Asks0 Tryz.prog 118 w (.int .i64 x) (inB x 0 20) := by
  intro m
  exact (isStem_any x (w.drewN m)).mono fun e w' ⟨he, hw⟩ => ⟨he, m, hw⟩

theorem all_shp {xs : List Int} {L : List Row} (h1 : xs.length ≤ 16) (h2 : ∀ i, i < xs.length → 0 ≤ xs.getD i 0 ∧ xs.getD i 0 ≤ 20) (h3 : SrtP xs) (h4 : AscP (dat L)) : (L.all fun r => entB xs r.xs) = shpB xs (dat L) := by
  rw [Bool.eq_iff_iff, List.all_eq_true, show shpB xs (dat L) = true ↔ Shp xs (dat L) by unfold shpB; simp]
  constructor
  · intro h
    refine ⟨h1, h2, h3, h4, fun k hk => ?_⟩
    rw [dat_length] at hk
    rw [dat_getD]
    exact entB_iff.1 (h _ (rg_mem hk))
  · intro h r hr
    obtain ⟨i, hi, rfl⟩ := List.getElem_of_mem hr
    have := h.ent i (by rw [dat_length]; exact hi)
    rw [dat_getD, rg_of hi] at this
    exact entB_true this

set_option maxRecDepth 100000 in
set_option maxHeartbeats 2000000 in
theorem isTable_any (A A' : Option Addr) (n c m c' : Nat) (xs : List Int) (L : List Row) (w : World) (hn : n = xs.length) (hsm : n ≤ 1048576) (hR : Rd w A (iv xs)) (hm : m = L.length) (hm1 : m ≤ 1048576) (hl : ∀ i, i < L.length → (rg L i).xs.length ≤ 1048576) (hR' : RdR w A' L) :
    Calls Tryz.prog 101 #[.agg #[.slice A n c, .slice A' m c']] w fun e w' => e = .returned (.bool (shpB xs (dat L))) ∧ Below w.heap.size w w' := by
  have hb0 : Below w.heap.size w (w.alloc (.cells #[.slice A n c, .slice A' m c'] 29)) := (Below.refl _ _).alloc (Nat.le_refl _) _
  have hk0 := blk_new w (.cells #[.slice A n c, .slice A' m c'] 29)
  obtain ⟨x0, x1, xf0, xf1, lx⟩ := blk2cells hk0
  have HB0 := Lib.hid hb0
  have HK0 := Lib.hid hk0
  by_cases h16 : n ≤ 16
  · have h16b : decide ((16 : Int) < (n : Int)) = false := by simp; omega
    have HAL := Lib.hid (all0_any A n c xs 118 (fun x => inB x 0 20) _ (fun args w => Tryz.call118 args w) hn (by omega) (hR.below hb0) (fun x _ o => stem_closure _ x))
    have HSO := Lib.hid (fun W (hb : Below w.heap.size w W) => isSorted_any A n c xs W hn (by omega) (hR.below hb))
    have HRI := Lib.hid (fun W (hb : Below w.heap.size w W) => rising_any A' m c' L W hm (by omega) (fun i hi => Nat.le_trans (hl i hi) (by omega)) (hR'.below hb))
    have HR := Lib.hid hR
    have HR' := Lib.hid hR'
    have Hn := Lib.hid hn
    have Hm := Lib.hid hm
    have HL := Lib.hid hl
    clear hb0 hk0 hn hR hm hl hR'
    cases hall : xs.all fun x => inB x 0 20
    · rw [hall] at HAL
      have HF := Lib.hid (shpB_false (xs := xs) (Q := dat L) (fun h => by
        have := (all_getD (xs := xs) (p := fun x => inB x 0 20)).2 fun t ht => inB_eq_true (h.deg t ht).1 (h.deg t ht).2
        rw [this] at hall; cases hall))
      clear hall
      go_enter Tryz.func101, Tryz.ntmps101
      go_wp2_with (go_at_call 117; refine HAL.out.mono ?_; rintro e w1 ⟨rfl, hb⟩; have HB1 := Lib.hid (HB0.out.trans (hb.mono HB0.out.size)); clear hb)
      go_ret
      exact ⟨by rw [HF.out]; rfl, HB1.out⟩
    · rw [hall] at HAL
      have HD := Lib.hid (fun t (ht : t < xs.length) => inB_true2 (all_getD.1 hall t ht))
      clear hall
      go_enter Tryz.func101, Tryz.ntmps101
      go_wp2_with fail
      refine HAL.out.mono ?_
      rintro e w1 ⟨rfl, hb⟩
      have HB1 := Lib.hid (HB0.out.trans (hb.mono HB0.out.size))
      have HK1 := Lib.hid (blk_kept HK0.out hb)
      clear hb x0 x1 xf0 xf1 lx HAL HK0 HB0
      obtain ⟨x0, x1, xf0, xf1, lx⟩ := blk2cells HK1.out
      have hsz := HB1.out.size
      have HS1 := Lib.hid (HSO.out _ HB1.out)
      cases hsrt : srtB xs
      · rw [hsrt] at HS1
        have HF := Lib.hid (shpB_false (xs := xs) (Q := dat L) (fun h => by rw [srtB_true h.srt] at hsrt; cases hsrt))
        clear hsrt
        go_wp2_with (go_at_call 119; refine HS1.out.mono ?_; rintro e w2 ⟨rfl, j, rfl⟩)
        go_ret
        exact ⟨by rw [HF.out]; rfl, below_drewN HB1.out _⟩
      · rw [hsrt] at HS1
        have HSR := Lib.hid (srtB_iff.1 hsrt)
        clear hsrt
        have HRI1 := Lib.hid (fun j => HRI.out _ (below_drewN HB1.out j))
        cases hasc : ascB (dat L)
        · rw [hasc] at HRI1
          have HF := Lib.hid (shpB_false (xs := xs) (Q := dat L) (fun h => by rw [ascB_true h.asc] at hasc; cases hasc))
          clear hasc
          go_wp2_with (first | (go_at_call 119; refine HS1.out.mono ?_; rintro e w2 ⟨rfl, j, rfl⟩) | (go_at_call 120; refine (HRI1.out _).mono ?_; rintro e w2 ⟨rfl, j2, rfl⟩))
          go_ret
          exact ⟨by rw [HF.out]; rfl, below_drewN HB1.out _⟩
        · rw [hasc] at HRI1
          have HAS := Lib.hid (ascB_iff.1 hasc)
          clear hasc
          go_wp2_with fail
          refine HS1.out.mono ?_
          rintro e w2 ⟨rfl, j, hw⟩
          have HB2 : Hid (Below w.heap.size w w2) := Lib.hid (hw ▸ below_drewN HB1.out j)
          have HK2 : Hid (w2.heap[w.heap.size]? = some (.cells #[.slice A n c, .slice A' m c'] 29 (0, 0))) := Lib.hid (hw ▸ HK1.out)
          have HRI2 := Lib.hid (hw ▸ HRI1.out j)
          clear hw x0 x1 xf0 xf1 lx
          obtain ⟨x0, x1, xf0, xf1, lx⟩ := blk2cells HK2.out
          go_wp2_with fail
          refine HRI2.out.mono ?_
          rintro e w3 ⟨rfl, j2, hw⟩
          have HB3 : Hid (Below w.heap.size w w3) := Lib.hid (hw ▸ below_drewN HB2.out j2)
          have HK3 : Hid (w3.heap[w.heap.size]? = some (.cells #[.slice A n c, .slice A' m c'] 29 (0, 0))) := Lib.hid (hw ▸ HK2.out)
          clear hw x0 x1 xf0 xf1 lx
          obtain ⟨x0, x1, xf0, xf1, lx⟩ := blk2cells HK3.out
          have hsz3 := HB3.out.size
          have HALL := Lib.hid (allR_any A' m c' L 122 #[.pointer (some ⟨w3.heap.size, 0, none⟩), .pointer (some ⟨w.heap.size, 0, none⟩)] (fun r => entB xs r.xs) (w3.alloc (.cells #[.int .i64 ((n : Int) - 1)] 2)) (fun args w => Tryz.call122 args w) Hm.out (by omega) ((HR'.out.below (HB3.out.alloc hsz3 _)).out) (fun r hr o => by
            obtain ⟨i, hi, rfl⟩ := List.getElem_of_mem hr
            have hbo : Below w.heap.size w ((w3.alloc (.cells #[.int .i64 ((n : Int) - 1)] 2)).alloc o) := (HB3.out.alloc hsz3 _).alloc (by simp; omega) o
            have hin := (HR'.out.below hbo).inn i hi
            have hle := HL.out i hi
            rw [rg_of hi] at hin hle
            refine entAsk _ w3.heap.size w.heap.size n c A xs L[i] Hn.out h16 HD.out ?_ ?_ (HR.out.below hbo) hin hle
            · exact new_cell2 _ _ _ _
            · exact cell_keep x0 (((Below.refl _ _).alloc (Nat.le_refl _) _).alloc (by simp) o)))
          have HFIN := Lib.hid (all_shp (xs := xs) (L := L) (by rw [← Hn.out]; exact h16) HD.out HSR.out HAS.out)
          clear HRI HRI1 HSO HS1 HRI2
          go_wp2_with fail
          refine HALL.out.mono ?_
          rintro e w4 ⟨rfl, hb⟩
          have HB4 := Lib.hid ((HB3.out.alloc hsz3 (.cells #[.int .i64 ((n : Int) - 1)] 2)).trans (hb.mono (by simp; omega)))
          clear hb
          rw [HFIN.out]
          go_wp2_with fail
          go_ret
          exact ⟨rfl, HB4.out⟩
  · have HF := Lib.hid (shpB_false (xs := xs) (Q := dat L) (fun h => by have := h.len; omega))
    clear hR hR' hn hm hl hb0 hk0
    go_enter Tryz.func101, Tryz.ntmps101
    go_wp2_with fail
    go_ret
    exact ⟨by rw [HF.out]; rfl, HB0.out⟩
end Go.Proofs.YtpchigdhnnkpcaaGreatDoor

namespace Go.Proofs.YtpchigdhnnkpcaaGreatDoor
open Go.RowKit

theorem xsumf_take {f : Nat → Nat} (l : List Nat) {k : Nat} (hk : k < l.length) : xsumf f (l.take (k + 1)) = xr (xsumf f (l.take k)) (f (l.getD k 0)) := by
  rw [List.take_succ_eq_append_getElem hk, xsumf_append, xsumf_cons]
  congr 1
  simp [List.getD, hk, xsumf, xr_zero]
theorem xr_eq_zero {a b : Nat} : xr a b = 0 ↔ a = b := by
  constructor
  · intro h
    have := xr_xr a b
    rw [h, xr_zero] at this; exact this
  · rintro rfl; exact xr_self a
theorem relN_le {a b k : Nat} (hk : k < (relN a b).length) : 2 * (relN a b).getD k 0 ≤ a := (mem_relN (b := b) (by simp [List.getD, hk])).1
theorem relN_len (a b : Nat) : (relN a b).length ≤ a / 2 + 1 := relF_len a b (a / 2 + 1)

/-- no fault: nil -/
def FaultN (ok : Prop) (w : World) (e : Ending) (w' : World) : Prop := ((e = .returned (.slice none 0 0) ∧ ok) ∨ ∃ g, e = .returned (.slice (some ⟨g, 0, none⟩) 3 3) ∧ ¬ ok) ∧ Below w.heap.size w w'
attribute [local go_sem] i64_xor_nat in
set_option maxRecDepth 100000 in
set_option maxHeartbeats 4000000 in
theorem fault_any (g : Nat) (A : Option Addr) (n c : Nat) (xs : List Int) (Q : List (List Int)) (w : World) (hn : n = xs.length) (hs : Shp xs Q) (ht : TblAt w g A n c Q) :
    Calls Tryz.prog 102 #[.pointer (some ⟨g, 0, none⟩)] w (FaultN (IsMod xs Q) w) := by
  have hn16 : n ≤ 16 := by rw [hn]; exact hs.len
  have HSQ := Lib.hid (fun (z y : Int) (v : Nat) W (hb : Below w.heap.size w W) hz hy hv => square_any g A n c xs Q z y v W hn hs hz hy hv (ht.below hb))
  have HC := Lib.hid ht.c0
  have HALT := Lib.hid (fun (z : Int) {v : Nat} (hv : v < 2 ^ xs.length) => act_lt hs hv z)
  have HSM := Lib.hid (fun (v : Nat) (hv : v < 2 ^ xs.length) => sm_of_len hs.len hv)
  have Hn := Lib.hid hn
  have HS := Lib.hid hs
  clear hn hs ht
  go_enter Tryz.func102, Tryz.ntmps102
  go_wp2_with fail
  go_loopw [3] (fun s3 wr => ∃ a : Nat, 1 ≤ a ∧ a ≤ 21 ∧ s3 = .int .i64 a ∧ Hid (∀ a' b i : Nat, 1 ≤ a' → a' < a → a' < 2 * b → a' + b ≤ 20 → i < n → OkAt Q a' b (2 ^ i)) ∧ Below w.heap.size w wr) (fun i _ => 21 - (intOf i).toNat)
  case atStart => exact ⟨1, by omega, by omega, rfl, Lib.hid (fun a' b i h1 h2 => by omega), Below.refl _ _⟩
  case round =>
    obtain ⟨a, ha1, ha2, rfl, HOA, hbel⟩ := hrel
    have HBL := Lib.hid hbel
    by_cases hlt : a ≤ 20
    · clear hbel
      go_wp2_with fail
      go_loopw [4] (fun s4 wr => ∃ b : Nat, a < 2 * b ∧ b ≤ 21 ∧ s4 = .int .i64 b ∧ Hid (∀ b' i : Nat, a < 2 * b' → b' < b → a + b' ≤ 20 → i < n → OkAt Q a b' (2 ^ i)) ∧ Below w.heap.size w wr) (fun i _ => 21 - (intOf i).toNat)
      case atStart => exact ⟨a / 2 + 1, by omega, by omega, congrArg (Value.int .i64) (by omega), Lib.hid (fun b' i h1 h2 => by omega), HBL.out⟩
      case round =>
        obtain ⟨b, hb2, hb3, rfl, HOB, hbel⟩ := hrel
        have HBL := Lib.hid hbel
        have hsz := hbel.size
        by_cases hlt2 : a + b ≤ 20
        · have hlt2' : (a : Int) + b ≤ 20 := by omega
          have HR := Lib.hid (relation_any a b wr ha1 hb2 (by omega))
          clear hbel
          go_wp2_with fail
          refine HR.out.mono ?_
          rintro e w1 ⟨gr, k, cr, rfl, hk, ho, hb⟩
          have HB1 := Lib.hid (HBL.out.trans (hb.mono hsz))
          have HK := hk
          have HRR := Lib.hid (owns_Rd ho)
          have hk20 : k ≤ 20 := by have := relN_len a b; have := hk.out; omega
          have hc0 := cell_keep HC.out (HB1.out)
          clear hk ho hb
          go_wp2_with fail
          go_loop [31] (fun s => ∃ v : Nat, v ≤ n ∧ s = .int .i64 v ∧ Hid (∀ i : Nat, i < v → OkAt Q a b (2 ^ i))) (fun i => n - (intOf i).toNat)
          case atStart => exact ⟨0, by omega, rfl, Lib.hid (fun i h => by omega)⟩
          case round =>
            obtain ⟨v, hv, rfl, HOV⟩ := hrel
            by_cases hlt3 : v < n
            · have HE : Hid (((2 ^ v : Nat) : Int) = (2 : Int) ^ v) := Lib.hid (by simp)
              obtain ⟨hp1, hp2⟩ := pow2_bd (d := v) (by omega)
              have HV : Hid (2 ^ v < 2 ^ xs.length) := Lib.hid (pow_lt_pow (by rw [← Hn.out]; exact hlt3))
              have HQ1 := Lib.hid (HSQ.out (b : Int) ((2 : Int) ^ v) (2 ^ v) w1 HB1.out (by omega) HE.out.symm HV.out)
              have HQ2 := Lib.hid (HSQ.out (a : Int) ((act Q (b : Int) (2 ^ v) : Nat) : Int) _ w1 HB1.out (by omega) rfl (HALT.out (b : Int) HV.out))
              have HXL := Lib.hid (HALT.out (a : Int) (HALT.out (b : Int) HV.out))
              have HF := Lib.hid (fun j : Nat => HALT.out ((a + b - j : Nat) : Int) (HALT.out (j : Int) HV.out))
              have HQ3 := Lib.hid (fun (j : Nat) (hj : 2 * j ≤ a) => HSQ.out (j : Int) ((2 : Int) ^ v) (2 ^ v) w1 HB1.out (by omega) HE.out.symm HV.out)
              have HQ4 := Lib.hid (fun (j : Nat) (hj : 2 * j ≤ a) => HSQ.out ((a + b - j : Nat) : Int) ((act Q (j : Int) (2 ^ v) : Nat) : Int) _ w1 HB1.out (by omega) rfl (HALT.out (j : Int) HV.out))
              obtain ⟨F, hF⟩ : ∃ F : Nat → Nat, F = fun j : Nat => act Q ((a + b - j : Nat) : Int) (act Q (j : Int) (2 ^ v)) := ⟨_, rfl⟩
              have HOK : Hid (OkAt Q a b (2 ^ v) ↔ act Q (a : Int) (act Q (b : Int) (2 ^ v)) = xsumf F (relN a b)) := Lib.hid (by rw [hF]; exact Iff.rfl)
              have HFJ : Hid (∀ j : Nat, act Q ((a + b - j : Nat) : Int) (act Q (j : Int) (2 ^ v)) = F j) := Lib.hid (fun j => by rw [hF])
              clear hF
              go_wp2_with fail
              refine HQ1.out.mono ?_
              rintro e w' ⟨rfl, rfl⟩
              go_wp2_with fail
              refine HQ2.out.mono ?_
              rintro e w' ⟨rfl, rfl⟩
              generalize act Q (a : Int) (act Q (b : Int) (2 ^ v)) = X at *
              have hXs := HSM.out _ HXL.out
              clear HQ1 HQ2
              go_wp2_with fail
              go_loop [7, 44] (fun x i => ∃ q : Nat, q ≤ k ∧ i = .int .i64 q ∧ x = .int .i64 ((xr X (xsumf F ((relN a b).take q)) : Nat) : Int)) (fun _ i => k - (intOf i).toNat)
              case atStart => exact ⟨0, by omega, rfl, by rw [show xsumf F ((relN a b).take 0) = 0 from rfl, xr_zero]⟩
              case round =>
                obtain ⟨q, hq, rfl, rfl⟩ := hrel
                have h1 : Sm (xr X (xsumf F ((relN a b).take q))) := hXs.xr (HSM.out _ (xsumf_lt F _ fun j _ => by rw [← HFJ.out j]; exact HF.out j))
                by_cases hlt4 : q < k
                · have hqR : q < (relN a b).length := by rw [← HK.out]; exact hlt4
                  obtain ⟨b1, o1, he1, hcj⟩ := HRR.out.atN hqR
                  injection he1 with he1
                  injection he1 with he1 he2 _
                  subst he1
                  subst he2
                  rw [Nat.zero_add] at hcj
                  have hj := relN_le hqR
                  have HX := Lib.hid (xsumf_take (f := F) (relN a b) hqR)
                  generalize (relN a b).getD q 0 = j at *
                  have HP3 := Lib.hid (HQ3.out j hj)
                  have HP4 := Lib.hid (HQ4.out j hj)
                  have h2 : Sm (F j) := HSM.out _ (by rw [← HFJ.out j]; exact HF.out j)
                  have e3 : ((a + b - j : Nat) : Int) = (a : Int) + b - j := by omega
                  rw [HFJ.out j, e3] at HP4
                  have HXX : Hid (xr X (xsumf F ((relN a b).take (q + 1))) = xr (xr X (xsumf F ((relN a b).take q))) (F j)) := Lib.hid (by rw [HX.out, xr_assoc])
                  have hj20 : j ≤ 20 := by omega
                  generalize xr X (xsumf F ((relN a b).take q)) = Y at *
                  generalize F j = Z at *
                  clear e3
                  go_wp2_with fail
                  refine HP3.out.mono ?_
                  rintro e w' ⟨rfl, rfl⟩
                  go_wp2_with fail
                  refine HP4.out.mono ?_
                  rintro e w' ⟨rfl, rfl⟩
                  go_wp2_with fail
                  go_round
                  case rel => exact ⟨q + 1, by omega, by go_num, by rw [HXX.out]⟩
                  case measure => simp [intOf]; omega
                · have he : (relN a b).take q = relN a b := List.take_of_length_le (by rw [← HK.out]; omega)
                  rw [he] at h1 ⊢
                  by_cases hz : xr X (xsumf F (relN a b)) = 0
                  · have HYES := Lib.hid (HOK.out.2 (xr_eq_zero.1 hz))
                    have hzb : (((xr X (xsumf F (relN a b)) : Nat) : Int) != 0) = false := by rw [hz]; rfl
                    generalize xr X (xsumf F (relN a b)) = Y at *
                    clear hz he
                    go_wp2_with fail
                    go_round
                    case rel =>
                      refine ⟨v + 1, by omega, by go_num, Lib.hid (fun i hi => ?_)⟩
                      by_cases e : i = v
                      · subst e; exact HYES.out
                      · exact HOV.out i (by omega)
                    case measure => simp [intOf]; omega
                  · have HNO := Lib.hid (show ¬ IsMod xs Q from fun hm => hz (xr_eq_zero.2 (HOK.out.1 (hm.ok a b ha1 hb2 hlt2 v (by rw [← Hn.out]; exact hlt3)))))
                    have hzb : (((xr X (xsumf F (relN a b)) : Nat) : Int) != 0) = true := by simp; omega
                    generalize xr X (xsumf F (relN a b)) = Y at *
                    clear hz he
                    go_wp2_with fail
                    go_ret
                    exact ⟨.inr ⟨_, rfl, HNO.out⟩, HB1.out.alloc HB1.out.size _⟩
            · obtain rfl : v = n := by omega
              go_wp2_with fail
              go_roundw
              case rel =>
                refine ⟨b + 1, by omega, by omega, by go_num, Lib.hid (fun b' i h1 h2 h3 hi => ?_), HB1.out⟩
                by_cases e : b' = b
                · subst e; exact HOV.out i hi
                · exact HOB.out b' i h1 (by omega) h3 hi
              case measure => simp [intOf]; omega
        · have hlt2' : ¬ (a : Int) + b ≤ 20 := by omega
          clear hbel
          go_wp2_with fail
          go_roundw
          case rel =>
            refine ⟨a + 1, by omega, by omega, by go_num, Lib.hid (fun a' b' i h1 h2 h3 h4 hi => ?_), HBL.out⟩
            by_cases e : a' = a
            · subst e; exact HOB.out b' i h3 (by omega) h4 hi
            · exact HOA.out a' b' i h1 (by omega) h3 h4 hi
          case measure => simp [intOf]; omega
    · obtain rfl : a = 21 := by omega
      have HOK : Hid (IsMod xs Q) := Lib.hid ⟨HS.out, fun a' b h1 h2 h3 i hi => HOA.out a' b i h1 (by omega) h2 h3 (by rw [Hn.out]; exact hi)⟩
      clear hbel
      go_wp2_with fail
      go_ret
      exact ⟨.inl ⟨rfl, HOK.out⟩, HBL.out⟩

set_option maxHeartbeats 1000000 in
theorem isModule_any (A A' : Option Addr) (n c m c' : Nat) (xs : List Int) (L : List Row) (w : World) (hn : n = xs.length) (hsm : n ≤ 1048576) (hR : Rd w A (iv xs)) (hm : m = L.length) (hm1 : m ≤ 1048576) (hl : ∀ i, i < L.length → (rg L i).xs.length ≤ 1048576) (hR' : RdR w A' L) :
    Calls Tryz.prog 71 #[.agg #[.slice A n c, .slice A' m c']] w fun e w' => e = .returned (.bool (modB xs (dat L))) ∧ Below w.heap.size w w' := by
  have hb0 : Below w.heap.size w (w.alloc (.cells #[.slice A n c, .slice A' m c'] 29)) := (Below.refl _ _).alloc (Nat.le_refl _) _
  have hk0 := blk_new w (.cells #[.slice A n c, .slice A' m c'] 29)
  obtain ⟨x0, x1, xf0, xf1, lx⟩ := blk2cells hk0
  have HSH := Lib.hid (isTable_any A A' n c m c' xs L _ hn hsm (hR.below hb0) hm hm1 hl (hR'.below hb0))
  have HB0 := Lib.hid hb0
  have HK0 := Lib.hid hk0
  have q24 : ∀ (w : World) (a : Option Addr) (n c n' c' : Nat), (binOp .eql 22 (.slice a n c) (.slice none n' c')).run Tryz.prog w = .ok (.bool a.isNone) w := fun w a n c n' c' => Lib.run_eql_slice_nil w _ _ a n c n' c' Tryz.underlying22
  cases hs : shpB xs (dat L)
  · rw [hs] at HSH
    have HF := Lib.hid (modB_no (fun h => shpB_not hs h.shp))
    clear hb0 hk0 hn hR hm hl hR' hs
    go_enter Tryz.func71, Tryz.ntmps71
    go_wp2_with (go_at_call 101; refine HSH.out.mono ?_; rintro e w1 ⟨rfl, hb⟩; have HB1 := Lib.hid (HB0.out.trans (hb.mono HB0.out.size)); clear hb)
    go_ret
    exact ⟨by rw [HF.out]; rfl, HB1.out⟩
  · rw [hs] at HSH
    have hshp := shpB_iff.1 hs
    have HTO := Lib.hid (fun W (hb : Below w.heap.size w W) => tableOf_any A A' n c m c' xs L W hn hm hm1 hshp (hR'.below hb))
    have HFA := Lib.hid (fun g W ht => fault_any g A n c xs (dat L) W hn hshp ht)
    clear hb0 hk0 hn hR hm hl hR' hs hshp
    go_enter Tryz.func71, Tryz.ntmps71
    go_wp2_with fail
    refine HSH.out.mono ?_
    rintro e w1 ⟨rfl, hb⟩
    have HB1 := Lib.hid (HB0.out.trans (hb.mono HB0.out.size))
    have HK1 := Lib.hid (blk_kept HK0.out hb)
    clear hb x0 x1 xf0 xf1 lx
    obtain ⟨x0, x1, xf0, xf1, lx⟩ := blk2cells HK1.out
    go_wp2_with fail
    refine (HTO.out _ HB1.out).mono ?_
    rintro e w2 ⟨g, h, rfl, ht⟩
    have HB2 := Lib.hid (HB1.out.trans (ht.bel.mono HB1.out.size))
    have HFA2 := Lib.hid (HFA.out g w2 ht.rd)
    clear ht
    go_wp2_with fail
    refine HFA2.out.mono ?_
    rintro e w3 ⟨hor, hb⟩
    have HB3 := Lib.hid (HB2.out.trans (hb.mono HB2.out.size))
    clear hb
    rcases hor with ⟨rfl, hok⟩ | ⟨gf, rfl, hno⟩
    · have HT := Lib.hid (modB_yes hok)
      clear hok
      go_wp2_with fail
      go_ret
      exact ⟨by rw [HT.out]; rfl, HB3.out⟩
    · have HT := Lib.hid (modB_no hno)
      clear hno
      go_wp2_with fail
      go_ret
      exact ⟨by rw [HT.out]; rfl, HB3.out⟩
end Go.Proofs.YtpchigdhnnkpcaaGreatDoor

namespace Go.Proofs.YtpchigdhnnkpcaaGreatDoor
open Go.RowKit

theorem ModIn.isM {w : World} {A A' : Option Addr} {n m : Nat} {xs : List Int} {L : List Row} (h : ModIn w A n A' m xs L) (c c' : Nat) (W : World) (hb : Below w.heap.size w W) :
    Calls Tryz.prog 71 #[.agg #[.slice A n c, .slice A' m c']] W fun e w' => e = .returned (.bool (modB xs (dat L))) ∧ Below W.heap.size W w' :=
  isModule_any A A' n c m c' xs L W h.r.hn h.hsm (h.r.deg.below hb) h.r.hm h.r.hm1 h.hl (h.r.act.below hb)
theorem ModR.table {w : World} {A A' : Option Addr} {n m : Nat} {xs : List Int} {L : List Row} (h : ModR w A n A' m xs L) (hs : Shp xs (dat L)) (c c' : Nat) (W : World) (hb : Below w.heap.size w W) :
    Calls Tryz.prog 72 #[.agg #[.slice A n c, .slice A' m c']] W fun e w' => ∃ g, e = .returned (.pointer (some ⟨g, 0, none⟩)) ∧ TblAt w' g A n c (dat L) ∧ Below W.heap.size W w' :=
  (tableOf_any A A' n c m c' xs L W h.hn h.hm h.hm1 hs (h.act.below hb)).mono fun _ _ ⟨g, _, he, ht⟩ => ⟨g, he, ht.rd, ht.bel⟩

end Go.Proofs.YtpchigdhnnkpcaaGreatDoor
