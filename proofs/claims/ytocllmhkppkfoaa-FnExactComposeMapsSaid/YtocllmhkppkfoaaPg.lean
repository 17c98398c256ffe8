/- impl's isTable: the function -/
import Derived.Test.YtocllmhkppkfoaaPd
import Derived.Test.YtocllmhkppkfoaaLw2
namespace Go.Proofs.Ytocllmhkppkfoaa
open Go.RowKit

theorem stem_closure (w : World) (x : Int) : Asks0 Try.prog 98 w (.int .i64 x) (inB x 0 20) := by
  intro m
  exact (isStem_any x (w.drewN m)).mono fun e w' ⟨he, hw⟩ => ⟨he, m, hw⟩

theorem all_shp {xs : List Int} {L : List Row} (h1 : xs.length ≤ 16) (h2 : ∀ i, i < xs.length → 0 ≤ xs.getD i 0 ∧ xs.getD i 0 ≤ 20) (h3 : SrtP xs) (h4 : AscP (dat L)) : (L.all fun r => entB xs r.xs) = shpB xs (dat L) := by
  rw [Bool.eq_iff_iff, List.all_eq_true, show shpB xs (dat L) = true ↔ Shp xs (dat L) by unfold shpB; simp]
  constructor
  · intro h
    refine ⟨h1, h2, h3, h4, fun k hk => ?_⟩
    rw [dat_length] at hk
    rw [dat_getD]
    exact entB_iff.1 (h _ (rg_mem hk))
  · intro h r hr
    obtain ⟨i, hi, rfl⟩ := List.getElem_of_mem hr
    have := h.ent i (by rw [dat_length]; exact hi)
    rw [dat_getD, rg_of hi] at this
    exact entB_true this

set_option maxRecDepth 100000 in
set_option maxHeartbeats 2000000 in
theorem isTable_any (A A' : Option Addr) (n c m c' : Nat) (xs : List Int) (L : List Row) (w : World) (hn : n = xs.length) (hsm : n ≤ 1048576) (hR : Rd w A (iv xs)) (hm : m = L.length) (hm1 : m ≤ 1048576) (hl : ∀ i, i < L.length → (rg L i).xs.length ≤ 1048576) (hR' : RdR w A' L) :
    Calls Try.prog 76 #[.agg #[.slice A n c, .slice A' m c']] w fun e w' => e = .returned (.bool (shpB xs (dat L))) ∧ Below w.heap.size w w' := by
  have hb0 : Below w.heap.size w (w.alloc (.cells #[.slice A n c, .slice A' m c'] 45)) := (Below.refl _ _).alloc (Nat.le_refl _) _
  have hk0 := blk_new w (.cells #[.slice A n c, .slice A' m c'] 45)
  obtain ⟨x0, x1, xf0, xf1, lx⟩ := blk2cells hk0
  have HB0 := Lib.hid hb0
  have HK0 := Lib.hid hk0
  by_cases h16 : n ≤ 16
  · have h16b : decide ((16 : Int) < (n : Int)) = false := by simp; omega
    have HAL := Lib.hid (all0_any A n c xs 98 (fun x => inB x 0 20) _ (fun args w => Try.call98 args w) hn (by omega) (hR.below hb0) (fun x _ o => stem_closure _ x))
    have HSO := Lib.hid (fun W (hb : Below w.heap.size w W) => isSorted_any A n c xs W hn (by omega) (hR.below hb))
    have HRI := Lib.hid (fun W (hb : Below w.heap.size w W) => rising_any A' m c' L W hm (by omega) (fun i hi => Nat.le_trans (hl i hi) (by omega)) (hR'.below hb))
    have HR := Lib.hid hR
    have HR' := Lib.hid hR'
    have Hn := Lib.hid hn
    have Hm := Lib.hid hm
    have HL := Lib.hid hl
    clear hb0 hk0 hn hR hm hl hR'
    cases hall : xs.all fun x => inB x 0 20
    · rw [hall] at HAL
      have HF := Lib.hid (shpB_false (xs := xs) (Q := dat L) (fun h => by
        have := (all_getD (xs := xs) (p := fun x => inB x 0 20)).2 fun t ht => inB_eq_true (h.deg t ht).1 (h.deg t ht).2
        rw [this] at hall; cases hall))
      clear hall
      go_enter Try.func76, Try.ntmps76
      go_wp2_with (go_at_call 41; refine HAL.out.mono ?_; rintro e w1 ⟨rfl, hb⟩; have HB1 := Lib.hid (HB0.out.trans (hb.mono HB0.out.size)); clear hb)
      go_ret
      exact ⟨by rw [HF.out]; rfl, HB1.out⟩
    · rw [hall] at HAL
      have HD := Lib.hid (fun t (ht : t < xs.length) => inB_true2 (all_getD.1 hall t ht))
      clear hall
      go_enter Try.func76, Try.ntmps76
      go_wp2_with fail
      refine HAL.out.mono ?_
      rintro e w1 ⟨rfl, hb⟩
      have HB1 := Lib.hid (HB0.out.trans (hb.mono HB0.out.size))
      have HK1 := Lib.hid (blk_kept HK0.out hb)
      clear hb x0 x1 xf0 xf1 lx HAL HK0 HB0
      obtain ⟨x0, x1, xf0, xf1, lx⟩ := blk2cells HK1.out
      have hsz := HB1.out.size
      have HS1 := Lib.hid (HSO.out _ HB1.out)
      cases hsrt : srtB xs
      · rw [hsrt] at HS1
        have HF := Lib.hid (shpB_false (xs := xs) (Q := dat L) (fun h => by rw [srtB_true h.srt] at hsrt; cases hsrt))
        clear hsrt
        go_wp2_with (go_at_call 99; refine HS1.out.mono ?_; rintro e w2 ⟨rfl, j, rfl⟩)
        go_ret
        exact ⟨by rw [HF.out]; rfl, below_drewN HB1.out _⟩
      · rw [hsrt] at HS1
        have HSR := Lib.hid (srtB_iff.1 hsrt)
        clear hsrt
        have HRI1 := Lib.hid (fun j => HRI.out _ (below_drewN HB1.out j))
        cases hasc : ascB (dat L)
        · rw [hasc] at HRI1
          have HF := Lib.hid (shpB_false (xs := xs) (Q := dat L) (fun h => by rw [ascB_true h.asc] at hasc; cases hasc))
          clear hasc
          go_wp2_with (first | (go_at_call 99; refine HS1.out.mono ?_; rintro e w2 ⟨rfl, j, rfl⟩) | (go_at_call 100; refine (HRI1.out _).mono ?_; rintro e w2 ⟨rfl, j2, rfl⟩))
          go_ret
          exact ⟨by rw [HF.out]; rfl, below_drewN HB1.out _⟩
        · rw [hasc] at HRI1
          have HAS := Lib.hid (ascB_iff.1 hasc)
          clear hasc
          go_wp2_with fail
          refine HS1.out.mono ?_
          rintro e w2 ⟨rfl, j, hw⟩
          have HB2 : Hid (Below w.heap.size w w2) := Lib.hid (hw ▸ below_drewN HB1.out j)
          have HK2 : Hid (w2.heap[w.heap.size]? = some (.cells #[.slice A n c, .slice A' m c'] 45 (0, 0))) := Lib.hid (hw ▸ HK1.out)
          have HRI2 := Lib.hid (hw ▸ HRI1.out j)
          clear hw x0 x1 xf0 xf1 lx
          obtain ⟨x0, x1, xf0, xf1, lx⟩ := blk2cells HK2.out
          go_wp2_with fail
          refine HRI2.out.mono ?_
          rintro e w3 ⟨rfl, j2, hw⟩
          have HB3 : Hid (Below w.heap.size w w3) := Lib.hid (hw ▸ below_drewN HB2.out j2)
          have HK3 : Hid (w3.heap[w.heap.size]? = some (.cells #[.slice A n c, .slice A' m c'] 45 (0, 0))) := Lib.hid (hw ▸ HK2.out)
          clear hw x0 x1 xf0 xf1 lx
          obtain ⟨x0, x1, xf0, xf1, lx⟩ := blk2cells HK3.out
          have hsz3 := HB3.out.size
          have HALL := Lib.hid (allR_any A' m c' L 102 #[.pointer (some ⟨w3.heap.size, 0, none⟩), .pointer (some ⟨w.heap.size, 0, none⟩)] (fun r => entB xs r.xs) (w3.alloc (.cells #[.int .i64 ((n : Int) - 1)] 2)) (fun args w => Try.call102 args w) Hm.out (by omega) ((HR'.out.below (HB3.out.alloc hsz3 _)).out) (fun r hr o => by
            obtain ⟨i, hi, rfl⟩ := List.getElem_of_mem hr
            have hbo : Below w.heap.size w ((w3.alloc (.cells #[.int .i64 ((n : Int) - 1)] 2)).alloc o) := (HB3.out.alloc hsz3 _).alloc (by simp; omega) o
            have hin := (HR'.out.below hbo).inn i hi
            have hle := HL.out i hi
            rw [rg_of hi] at hin hle
            refine entAsk _ w3.heap.size w.heap.size n c A xs L[i] Hn.out h16 HD.out ?_ ?_ (HR.out.below hbo) hin hle
            · exact new_cell2 _ _ _ _
            · exact cell_keep x0 (((Below.refl _ _).alloc (Nat.le_refl _) _).alloc (by simp) o)))
          have HFIN := Lib.hid (all_shp (xs := xs) (L := L) (by rw [← Hn.out]; exact h16) HD.out HSR.out HAS.out)
          clear HRI HRI1 HSO HS1 HRI2
          go_wp2_with fail
          refine HALL.out.mono ?_
          rintro e w4 ⟨rfl, hb⟩
          have HB4 := Lib.hid ((HB3.out.alloc hsz3 (.cells #[.int .i64 ((n : Int) - 1)] 2)).trans (hb.mono (by simp; omega)))
          clear hb
          rw [HFIN.out]
          go_wp2_with fail
          go_ret
          exact ⟨rfl, HB4.out⟩
  · have HF := Lib.hid (shpB_false (xs := xs) (Q := dat L) (fun h => by have := h.len; omega))
    clear hR hR' hn hm hl hb0 hk0
    go_enter Try.func76, Try.ntmps76
    go_wp2_with fail
    go_ret
    exact ⟨by rw [HF.out]; rfl, HB0.out⟩
end Go.Proofs.Ytocllmhkppkfoaa
