/- EulerNumber: both sides -/
import Derived.Test.YtocllmhkppkfoaaPj
namespace Go.Proofs.Ytocllmhkppkfoaa
open Go.RowKit

def euSum (xs : List Int) : Nat → Int
  | 0 => 0
  | k + 1 => euSum xs k + (1 - 2 * (xs.getD k 0 % 2))
theorem euSum_bd (xs : List Int) (hd : ∀ i, i < xs.length → 0 ≤ xs.getD i 0 ∧ xs.getD i 0 ≤ 20) : ∀ k, k ≤ xs.length → -(k : Int) ≤ euSum xs k ∧ euSum xs k ≤ k
  | 0, _ => by simp [euSum]
  | k + 1, h => by
    have := euSum_bd xs hd k (by omega)
    have := hd k (by omega)
    simp only [euSum]
    omega
noncomputable def eulerNumberOf (xs : List Int) (L : List Row) : Int × Int := if modB xs (dat L) = true then (euSum xs xs.length, 0) else (0, 1)
theorem eulerNumberOf_dat {xs : List Int} {L M : List Row} (h : dat M = dat L) : eulerNumberOf xs M = eulerNumberOf xs L := by unfold eulerNumberOf; rw [h]
theorem eulerNumberOf_yes {xs : List Int} {L : List Row} (h : modB xs (dat L) = true) : eulerNumberOf xs L = (euSum xs xs.length, 0) := by unfold eulerNumberOf; rw [if_pos h]
theorem eulerNumberOf_no {xs : List Int} {L : List Row} (h : modB xs (dat L) = false) : eulerNumberOf xs L = (0, 1) := by unfold eulerNumberOf; rw [if_neg (by rw [h]; simp)]

set_option maxHeartbeats 1000000 in
theorem specEulerNumber_any (A : Option Addr) (n c : Nat) (xs : List Int) (A' : Option Addr) (m c' : Nat) (L : List Row) (w : World) (hn : n = xs.length) (hsm : n ≤ 1048576) (hR : Rd w A (iv xs)) (hm : m = L.length) (hm1 : m ≤ 1048576) (hl : ∀ i, i < L.length → (rg L i).xs.length ≤ 1048576) (hR' : RdR w A' L) :
    Calls Try.prog 25 #[.agg #[.slice A n c, .slice A' m c']] w (ResI (eulerNumberOf xs L) w) := by
  have hb0 : Below w.heap.size w (w.alloc (.cells #[.slice A n c, .slice A' m c'] 45)) := (Below.refl _ _).alloc (Nat.le_refl _) _
  have hk0 := blk_new w (.cells #[.slice A n c, .slice A' m c'] 45)
  obtain ⟨x0, x1, xf0, xf1, lx⟩ := blk2cells hk0
  have HM := Lib.hid (l11Is_any A A' n c m c' xs L _ hn hsm (hR.below hb0) hm hm1 hl (hR'.below hb0))
  have HB0 := Lib.hid hb0
  have HK0 := Lib.hid hk0
  cases hmod : modB xs (dat L)
  · rw [hmod] at HM
    have HF := Lib.hid (eulerNumberOf_no hmod)
    clear hb0 hk0 hn hR hm hl hR' hmod
    go_enter Try.func25, Try.ntmps25
    go_wp2_with (go_at_call 48; refine HM.out.mono ?_; rintro e w1 ⟨rfl, hb⟩; have HB1 := Lib.hid (HB0.out.trans (hb.mono HB0.out.size)); clear hb)
    go_ret2
    exact ⟨by rw [HF.out]; rfl, HB1.out⟩
  · rw [hmod] at HM
    have hshp := (modB_iff.1 hmod).shp
    have h16 : n ≤ 16 := by rw [hn]; exact hshp.len
    have HD := Lib.hid hshp.deg
    have HF := Lib.hid (eulerNumberOf_yes hmod)
    have HR := Lib.hid hR
    have Hn := Lib.hid hn
    have HE := Lib.hid (euSum_bd xs hshp.deg)
    clear hb0 hk0 hn hR hm hl hR' hmod hshp
    go_enter Try.func25, Try.ntmps25
    go_wp2_with fail
    refine HM.out.mono ?_
    rintro e w1 ⟨rfl, hb⟩
    have HB1 := Lib.hid (HB0.out.trans (hb.mono HB0.out.size))
    have HK1 := Lib.hid (blk_kept HK0.out hb)
    have HR1 := Lib.hid (HR.out.below HB1.out)
    clear hb x0 x1 xf0 xf1 lx
    obtain ⟨x0, x1, xf0, xf1, lx⟩ := blk2cells HK1.out
    go_wp2_with fail
    go_loop [4, 5] (fun t i => ∃ k : Nat, k ≤ n ∧ i = .int .i64 k ∧ t = .int .i64 (euSum xs k)) (fun _ i => n - (intOf i).toNat)
    case atStart => exact ⟨0, by omega, rfl, rfl⟩
    case round =>
      obtain ⟨k, hk, rfl, rfl⟩ := hrel
      obtain ⟨e1, e2⟩ := HE.out k (by rw [← Hn.out]; exact hk)
      by_cases hlt : k < n
      · obtain ⟨b, o, rfl, hc⟩ := HR1.out.atI (k := k) (by rw [← Hn.out]; exact hlt)
        obtain ⟨d1, d2⟩ := HD.out k (by rw [← Hn.out]; exact hlt)
        have HSU : Hid (euSum xs (k + 1) = euSum xs k + (1 - 2 * (xs.getD k 0 % 2))) := Lib.hid rfl
        generalize xs.getD k 0 = d at *
        generalize euSum xs k = t at *
        have m1 : 0 ≤ d % 2 := by omega
        have m2 : d % 2 ≤ 1 := by omega
        go_wp2_with fail
        go_round
        case rel => exact ⟨k + 1, by omega, by go_num, congrArg (Value.int .i64) (by have := HSU.out; omega)⟩
        case measure => simp [intOf]; omega
      · obtain rfl : k = n := by omega
        have HFN : Hid (eulerNumberOf xs L = (euSum xs k, 0)) := Lib.hid (by rw [HF.out, Hn.out])
        generalize euSum xs k = t at *
        go_wp2_with fail
        go_ret2
        exact ⟨by rw [HFN.out]; rfl, HB1.out⟩

set_option maxHeartbeats 1000000 in
theorem implEulerNumber_any (A : Option Addr) (n c : Nat) (xs : List Int) (A' : Option Addr) (m c' : Nat) (L : List Row) (w : World) (hn : n = xs.length) (hsm : n ≤ 1048576) (hR : Rd w A (iv xs)) (hm : m = L.length) (hm1 : m ≤ 1048576) (hl : ∀ i, i < L.length → (rg L i).xs.length ≤ 1048576) (hR' : RdR w A' L) :
    Calls Try.prog 27 #[.agg #[.slice A n c, .slice A' m c']] w (ResI (eulerNumberOf xs L) w) := by
  have hb0 : Below w.heap.size w (w.alloc (.cells #[.slice A n c, .slice A' m c'] 45)) := (Below.refl _ _).alloc (Nat.le_refl _) _
  have hk0 := blk_new w (.cells #[.slice A n c, .slice A' m c'] 45)
  obtain ⟨x0, x1, xf0, xf1, lx⟩ := blk2cells hk0
  have HM := Lib.hid (isModule_any A A' n c m c' xs L _ hn hsm (hR.below hb0) hm hm1 hl (hR'.below hb0))
  have HB0 := Lib.hid hb0
  have HK0 := Lib.hid hk0
  cases hmod : modB xs (dat L)
  · rw [hmod] at HM
    have HF := Lib.hid (eulerNumberOf_no hmod)
    clear hb0 hk0 hn hR hm hl hR' hmod
    go_enter Try.func27, Try.ntmps27
    go_wp2_with (go_at_call 49; refine HM.out.mono ?_; rintro e w1 ⟨rfl, hb⟩; have HB1 := Lib.hid (HB0.out.trans (hb.mono HB0.out.size)); clear hb)
    go_ret2
    exact ⟨by rw [HF.out]; rfl, HB1.out⟩
  · rw [hmod] at HM
    have hshp := (modB_iff.1 hmod).shp
    have h16 : n ≤ 16 := by rw [hn]; exact hshp.len
    have HD := Lib.hid hshp.deg
    have HF := Lib.hid (eulerNumberOf_yes hmod)
    have HR := Lib.hid hR
    have Hn := Lib.hid hn
    have HE := Lib.hid (euSum_bd xs hshp.deg)
    clear hb0 hk0 hn hR hm hl hR' hmod hshp
    go_enter Try.func27, Try.ntmps27
    go_wp2_with fail
    refine HM.out.mono ?_
    rintro e w1 ⟨rfl, hb⟩
    have HB1 := Lib.hid (HB0.out.trans (hb.mono HB0.out.size))
    have HK1 := Lib.hid (blk_kept HK0.out hb)
    have HR1 := Lib.hid (HR.out.below HB1.out)
    clear hb x0 x1 xf0 xf1 lx
    obtain ⟨x0, x1, xf0, xf1, lx⟩ := blk2cells HK1.out
    go_wp2_with fail
    go_loop [4, 13] (fun t i => ∃ k : Nat, k ≤ n ∧ i = .int .i64 k ∧ t = .int .i64 (euSum xs k)) (fun _ i => n - (intOf i).toNat)
    case atStart => exact ⟨0, by omega, rfl, rfl⟩
    case round =>
      obtain ⟨k, hk, rfl, rfl⟩ := hrel
      obtain ⟨e1, e2⟩ := HE.out k (by rw [← Hn.out]; exact hk)
      by_cases hlt : k < n
      · obtain ⟨b, o, rfl, hc⟩ := HR1.out.atI (k := k) (by rw [← Hn.out]; exact hlt)
        obtain ⟨d1, d2⟩ := HD.out k (by rw [← Hn.out]; exact hlt)
        have HSU : Hid (euSum xs (k + 1) = euSum xs k + (1 - 2 * (xs.getD k 0 % 2))) := Lib.hid rfl
        generalize xs.getD k 0 = d at *
        generalize euSum xs k = t at *
        have m1 : 0 ≤ d % 2 := by omega
        have m2 : d % 2 ≤ 1 := by omega
        go_wp2_with fail
        go_round
        case rel => exact ⟨k + 1, by omega, by go_num, congrArg (Value.int .i64) (by have := HSU.out; omega)⟩
        case measure => simp [intOf]; omega
      · obtain rfl : k = n := by omega
        have HFN : Hid (eulerNumberOf xs L = (euSum xs k, 0)) := Lib.hid (by rw [HF.out, Hn.out])
        generalize euSum xs k = t at *
        go_wp2_with fail
        go_ret2
        exact ⟨by rw [HFN.out]; rfl, HB1.out⟩

end Go.Proofs.Ytocllmhkppkfoaa
