/- the reference's l11Is -/
import Derived.Test.YtocllmhkppkfoaaLh
namespace Go.Proofs.Ytocllmhkppkfoaa
open Go.RowKit

theorem modB_yes {xs : List Int} {Q : List (List Int)} (h : IsMod xs Q) : modB xs Q = true := modB_iff.2 h
theorem modB_no {xs : List Int} {Q : List (List Int)} (h : ¬ IsMod xs Q) : modB xs Q = false := modB_false.2 h
theorem shpB_iff {xs : List Int} {Q : List (List Int)} : shpB xs Q = true ↔ Shp xs Q := by unfold shpB; simp
theorem shpB_not {xs : List Int} {Q : List (List Int)} (h : shpB xs Q = false) : ¬ Shp xs Q := fun h' => by rw [shpB_true h'] at h; cases h

set_option maxHeartbeats 1000000 in
theorem l11Is_any (A A' : Option Addr) (n c m c' : Nat) (xs : List Int) (L : List Row) (w : World) (hn : n = xs.length) (hsm : n ≤ 1048576) (hR : Rd w A (iv xs)) (hm : m = L.length) (hm1 : m ≤ 1048576) (hl : ∀ i, i < L.length → (rg L i).xs.length ≤ 1048576) (hR' : RdR w A' L) :
    Calls Try.prog 48 #[.agg #[.slice A n c, .slice A' m c']] w fun e w' => e = .returned (.bool (modB xs (dat L))) ∧ Below w.heap.size w w' := by
  have hb0 : Below w.heap.size w (w.alloc (.cells #[.slice A n c, .slice A' m c'] 45)) := (Below.refl _ _).alloc (Nat.le_refl _) _
  have hk0 := blk_new w (.cells #[.slice A n c, .slice A' m c'] 45)
  obtain ⟨x0, x1, xf0, xf1, lx⟩ := blk2cells hk0
  have HSH := Lib.hid (l11Shape_any A A' n c m c' xs L _ hn hsm (hR.below hb0) hm hm1 hl (hR'.below hb0))
  have HB0 := Lib.hid hb0
  have HK0 := Lib.hid hk0
  cases hs : shpB xs (dat L)
  · rw [hs] at HSH
    have HF := Lib.hid (modB_no (fun h => shpB_not hs h.shp))
    clear hb0 hk0 hn hR hm hl hR' hs
    go_enter Try.func48, Try.ntmps48
    go_wp2_with (go_at_call 74; refine HSH.out.mono ?_; rintro e w1 ⟨rfl, hb⟩; have HB1 := Lib.hid (HB0.out.trans (hb.mono HB0.out.size)); clear hb)
    go_ret
    exact ⟨by rw [HF.out]; rfl, HB1.out⟩
  · rw [hs] at HSH
    have HFA := Lib.hid (fun W (hb : Below w.heap.size w W) => l11Fault_any A A' n c m c' xs L W hn (hR.below hb) hm hm1 (hR'.below hb) (shpB_iff.1 hs))
    clear hb0 hk0 hn hR hm hl hR' hs
    go_enter Try.func48, Try.ntmps48
    go_wp2_with fail
    refine HSH.out.mono ?_
    rintro e w1 ⟨rfl, hb⟩
    have HB1 := Lib.hid (HB0.out.trans (hb.mono HB0.out.size))
    have HK1 := Lib.hid (blk_kept HK0.out hb)
    clear hb x0 x1 xf0 xf1 lx
    obtain ⟨x0, x1, xf0, xf1, lx⟩ := blk2cells HK1.out
    go_wp2_with fail
    refine (HFA.out _ HB1.out).mono ?_
    rintro e w2 ⟨F, k, cap, rfl, hiff, hb⟩
    have HB2 := Lib.hid (HB1.out.trans (hb.mono HB1.out.size))
    have HI := Lib.hid hiff
    clear hb hiff
    by_cases hk : k = 0
    · have HT := Lib.hid (modB_yes (HI.out.1 hk))
      have hkb : ((k : Int) == 0) = true := by rw [hk]; rfl
      clear hk
      go_wp2_with fail
      go_ret
      exact ⟨by rw [HT.out]; rfl, HB2.out⟩
    · have HT := Lib.hid (modB_no (fun h => hk (HI.out.2 h)))
      have hkb : ((k : Int) == 0) = false := by simp; omega
      clear hk
      go_wp2_with fail
      go_ret
      exact ⟨by rw [HT.out]; rfl, HB2.out⟩
end Go.Proofs.Ytocllmhkppkfoaa
