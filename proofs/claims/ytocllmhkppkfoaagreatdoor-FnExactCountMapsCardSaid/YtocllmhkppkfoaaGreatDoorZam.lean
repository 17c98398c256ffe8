/- the reference's vectors and masks: l11Vector, l12Mask, l12Vector, l12Masks, l12Vectors, l12Degree, l12Act, l02Times, l12Image · the reference's l11Shape · the reference's l12Act, l12Is -/
import Derived.Test.YtocllmhkppkfoaaGreatDoorZai
import Derived.Test.YtocllmhkppkfoaaGreatDoorZaf
import Derived.Test.YtocllmhkppkfoaaGreatDoorZal
import Derived.Test.YtocllmhkppkfoaaGreatDoorZab
import Derived.Test.YtocllmhkppkfoaaGreatDoorZah
import Derived.Test.YtocllmhkppkfoaaGreatDoorZag
namespace Go.Proofs.YtocllmhkppkfoaaGreatDoor
open Go.RowKit

theorem inB01 (x : Int) : inB x 0 1 = (decide (0 ≤ x) && decide (x ≤ 1)) := rfl
theorem i64_bit_int {a n : Nat} (ha : Sm a) : bits .and .i64 ((a : Int) / 2 ^ n) 1 = bit a n := by
  rw [i64_bit_nat ha]
  unfold bit
  cases tb a n <;> rfl
theorem sm_pow {v n : Nat} (hn : n ≤ 62) (h : v < 2 ^ n) : Sm v := by
  unfold Sm
  have : (2 : Nat) ^ n ≤ 2 ^ 62 := Nat.pow_le_pow_right (by omega) hn
  omega
theorem pow62 {d : Nat} (h : d ≤ 62) : (0 : Int) ≤ 2 ^ d ∧ (2 : Int) ^ d ≤ 4611686018427387904 := by
  have e : ((2 ^ d : Nat) : Int) = (2 : Int) ^ d := by simp
  have h1 : (2 : Nat) ^ d ≤ 2 ^ 62 := Nat.pow_le_pow_right (by omega) h
  rw [← e]
  generalize (2 : Nat) ^ d = q at *
  omega
theorem i64_or_zero {a : Nat} (ha : Sm a) : bits .or .i64 (a : Int) 0 = (a : Int) := by
  have := i64_or_nat ha Sm.zero
  rw [show orr a 0 = a by unfold orr; simp] at this
  exact this
attribute [local go_sem] i64_or_nat in
set_option maxHeartbeats 1000000 in
theorem l12Mask_any (V : Option Addr) (n cv v : Nat) (w : World) (hn : n ≤ 62) (hv : v < 2 ^ n) (hV : Rd w V (iv (bitsL v n))) :
    Calls Tryz.prog 43 #[.slice V n cv] w fun e w' => e = .returned (.int .i64 (v : Nat)) ∧ w = w' := by
  have HV := Lib.hid hV
  have HM := Lib.hid (mk_bits hv)
  have HLT := Lib.hid (fun j => mk_lt ((bitsL v n).take j))
  clear hV hv
  go_enter Tryz.func43, Tryz.ntmps43
  go_wp2_with fail
  go_loop [3, 4] (fun t i => ∃ k : Nat, k ≤ n ∧ i = .int .i64 k ∧ t = .int .i64 (mk ((bitsL v n).take k) : Nat)) (fun _ i => n - (intOf i).toNat)
  case atStart => exact ⟨0, by omega, rfl, rfl⟩
  case round =>
    obtain ⟨k, hk, rfl, rfl⟩ := hrel
    by_cases hlt : k < n
    · obtain ⟨b, o, rfl, hc⟩ := HV.out.atI (k := k) (by rw [bitsL_length]; exact hlt)
      rw [bitsL_getD _ hlt] at hc
      have hms := mk_take (v := bitsL v n) (k := k) (by rw [bitsL_length]; exact hlt)
      rw [bitsL_getD _ hlt] at hms
      have h1 : Sm (mk ((bitsL v n).take k)) := sm_pow (n := 62) (by omega) (Nat.lt_of_lt_of_le (HLT.out k) (Nat.pow_le_pow_right (by omega) (by rw [List.length_take]; omega)))
      have h2 : Sm (2 ^ k) := sm_pow (n := k + 1) (by omega) (pow_lt_pow (by omega))
      have he : ((2 ^ k : Nat) : Int) = (2 : Int) ^ k := by simp
      have hor := i64_or_nat h1 h2
      rw [he] at hor
      obtain ⟨p1, p2⟩ := pow62 (d := k) (by omega)
      generalize mk ((bitsL v n).take k) = p at *
      cases hb : tb v k
      · rw [bit_none hb] at hc hms
        have HE : Hid (mk ((bitsL v n).take (k + 1)) = p) := Lib.hid (by rw [hms, if_neg (by omega)]; unfold orr; simp)
        have hz := i64_or_zero h1
        clear hms he hor
        go_wp2_with fail
        go_round
        case rel => exact ⟨k + 1, by omega, by go_num, by rw [HE.out]⟩
        case measure => simp [intOf]; omega
      · rw [bit_one hb] at hc hms
        have HE : Hid (mk ((bitsL v n).take (k + 1)) = orr p (2 ^ k)) := Lib.hid (by rw [hms, if_pos rfl])
        clear hms he
        go_wp2_with fail
        go_round
        case rel => exact ⟨k + 1, by omega, by go_num, by rw [HE.out]⟩
        case measure => simp [intOf]; omega
    · have e : (bitsL v n).take k = bitsL v n := List.take_of_length_le (by rw [bitsL_length]; omega)
      rw [e, HM.out]
      clear e
      go_wp2_with fail
      go_ret
      exact ⟨rfl, rfl⟩

attribute [local go_sem] i64_bit_int in
set_option maxHeartbeats 1000000 in
theorem l12Vector_any (n v : Nat) (w : World) (hn : n ≤ 62) (hv : Sm v) :
    Calls Tryz.prog 45 #[.int .i64 v, .int .i64 n] w fun e w' => ∃ g cap, e = .returned (.slice (some ⟨g, 0, none⟩) n cap) ∧ w'.ownsRow w.heap.size 2 1 (.slice (some ⟨g, 0, none⟩) n cap) n (iv (bitsL v n)) ∧ Below w.heap.size w w' := by
  go_enter Tryz.func45, Tryz.ntmps45
  go_wp2_with fail
  go_loopw [5, 6] (fun vv i wr => ∃ k g cap : Nat, k ≤ n ∧ i = .int .i64 k ∧ vv = .slice (some ⟨g, 0, none⟩) k cap ∧ wr.ownsRow w.heap.size 2 1 (.slice (some ⟨g, 0, none⟩) k cap) k (iv ((bitsL v n).take k)) ∧ Below w.heap.size w wr) (fun _ i _ => n - (intOf i).toNat)
  case atStart => exact ⟨0, w.heap.size, 0, by omega, rfl, rfl, World.ownsRow_made w #[] 0 (Nat.le_refl _) (by decide) (by simp), (Below.refl _ _).alloc (Nat.le_refl _) _⟩
  case round =>
    obtain ⟨k, g, cap, hk, rfl, rfl, hown, hbel⟩ := hrel
    have HO := Lib.hid hown
    have HB := Lib.hid hbel
    have hsz := hbel.size
    by_cases hlt : k < n
    · have HTS : Hid ((bitsL v n).take (k + 1) = (bitsL v n).take k ++ [bit v k]) := Lib.hid (bitsL_take _ hlt)
      have hmin : min k 64 = k := by omega
      clear hown hbel
      go_wp2_with (at_builtin; refine wpList_app1 _ _ _ _ _ etI (by rfl) (by rfl) w.heap.size (.slice (some ⟨g, 0, none⟩) k cap) k (iv ((bitsL v n).take k)) (by rfl) (HO.out.alloc _) _ (.int .i64 (bit v k)) (by rfl) (new_cell _ _ _) (by rfl) (by omega) (Nat.le_trans hsz (Nat.le_of_lt (by simp))) ?_; (intro g1 cap1 w1 hown1 hgrow1 hat1 hlt1; have HO1 := Lib.hid hown1; have HB1 := Lib.hid (below_app2 HB.out hsz HO.out hgrow1); clear hown1 hgrow1 hat1 hlt1))
      go_roundw
      case rel => exact ⟨k + 1, g1, cap1, by omega, by go_num, rfl, by rw [HTS.out, iv_append]; exact HO1.out, HB1.out⟩
      case measure => simp [intOf]; omega
    · obtain rfl : k = n := by omega
      have he : (bitsL v k).take k = bitsL v k := List.take_of_length_le (by rw [bitsL_length]; exact Nat.le_refl _)
      rw [he] at HO
      clear hown hbel he
      go_wp2_with fail
      go_ret
      exact ⟨g, cap, rfl, HO.out, HB.out⟩

theorem vec_row {n : Nat} {xs : List Int} (h : vecB n xs = true) : xs.length = n ∧ xs = bitsL (mk xs) n ∧ mk xs < 2 ^ n := ⟨(vecB_iff.1 h).1, vec_bits h⟩
end Go.Proofs.YtocllmhkppkfoaaGreatDoor

namespace Go.Proofs.YtocllmhkppkfoaaGreatDoor
open Go.RowKit

noncomputable def shpB (xs : List Int) (Q : List (List Int)) : Bool := @decide (Shp xs Q) (Classical.propDecidable _)
theorem shpB_true {xs : List Int} {Q : List (List Int)} (h : Shp xs Q) : shpB xs Q = true := by unfold shpB; simp [h]
theorem shpB_false {xs : List Int} {Q : List (List Int)} (h : ¬ Shp xs Q) : shpB xs Q = false := by unfold shpB; simp [h]
theorem ascB_iff {Q : List (List Int)} : ascB Q = true ↔ AscP Q := by unfold ascB; simp
theorem inB_eq_true {n lo hi : Int} (h1 : lo ≤ n) (h2 : n ≤ hi) : inB n lo hi = true := by simp [inB, h1, h2]
theorem inB_not {n lo hi : Int} (h : inB n lo hi = false) : ¬ (lo ≤ n ∧ n ≤ hi) := fun h' => by rw [inB_eq_true h'.1 h'.2] at h; cases h

set_option maxRecDepth 100000 in
set_option maxHeartbeats 1000000 in
theorem l11Shape_any (A A' : Option Addr) (n c m c' : Nat) (xs : List Int) (L : List Row) (w : World) (hn : n = xs.length) (hsm : n ≤ 1048576) (hR : Rd w A (iv xs)) (hm : m = L.length) (hm1 : m ≤ 1048576) (hl : ∀ i, i < L.length → (rg L i).xs.length ≤ 1048576) (hR' : RdR w A' L) :
    Calls Tryz.prog 40 #[.agg #[.slice A n c, .slice A' m c']] w fun e w' => e = .returned (.bool (shpB xs (dat L))) ∧ Below w.heap.size w w' := by
  obtain ⟨x0, x1, xf0, xf1, lx⟩ := blk2cells (blk_new w (.cells #[.slice A n c, .slice A' m c'] 29))
  have hbel : Below w.heap.size w (w.alloc (.cells #[.slice A n c, .slice A' m c'] 29)) := (Below.refl _ _).alloc (Nat.le_refl _) _
  have HB := Lib.hid hbel
  have HR := Lib.hid (hR.below hbel)
  have HR' := Lib.hid (hR'.below hbel)
  have HAS := Lib.hid (l01Ascending_any A' m c' L _ hm (by omega) (fun i hi => Nat.le_trans (hl i hi) (by omega)) (hR'.below hbel))
  have Hn := Lib.hid hn
  have Hm := Lib.hid hm
  have HL := Lib.hid hl
  by_cases h16 : n ≤ 16
  · cases hasc : ascB (dat L)
    · rw [hasc] at HAS
      have HF := Lib.hid (shpB_false (xs := xs) (Q := dat L) (fun h => by have := ascB_true h.asc; rw [hasc] at this; cases this))
      clear hR hR' hn hm hl hbel hasc
      go_enter Tryz.func40, Tryz.ntmps40
      go_wp2_with (go_at_call 60; refine HAS.out.mono ?_; rintro e w' ⟨rfl, m', rfl⟩)
      go_ret
      exact ⟨by rw [HF.out]; rfl, below_drewN HB.out _⟩
    · rw [hasc] at HAS
      have HASC := Lib.hid (ascB_iff.1 hasc)
      clear hR hR' hn hm hl hbel hasc
      go_enter Tryz.func40, Tryz.ntmps40
      go_wp2_with fail
      generalize hW0 : w.alloc (.cells #[.slice A n c, .slice A' m c'] 29) = W0 at *
      clear hW0
      go_wp2_with (go_at_call 60; refine HAS.out.mono ?_; rintro e w' ⟨rfl, m', rfl⟩)
      go_loopw [3] (fun i wr => ∃ k j : Nat, k ≤ n ∧ i = .int .i64 k ∧ wr = W0.drewN j ∧ Hid (∀ t, t < k → 0 ≤ xs.getD t 0 ∧ xs.getD t 0 ≤ 20) ∧ Hid (∀ t, t + 1 < k → xs.getD t 0 ≤ xs.getD (t + 1) 0)) (fun i _ => n - (intOf i).toNat)
      case atStart => exact ⟨0, _, by omega, rfl, rfl, Lib.hid (fun t ht => by omega), Lib.hid (fun t ht => by omega)⟩
      case round =>
        obtain ⟨k, j, hk, rfl, rfl, HD, HS⟩ := hrel
        by_cases hlt : k < n
        · have hkx : k < xs.length := by rw [← Hn.out]; exact hlt
          obtain ⟨b, o, rfl, hc⟩ := HR.out.atI hkx
          have HX : Hid (xs.getD k 0 = xs.getD k 0) := Lib.hid rfl
          have HI := Lib.hid (fun W => l01In_any (xs.getD k 0) 0 20 W)
          cases hb : inB (xs.getD k 0) 0 20
          · rw [hb] at HI
            have HF := Lib.hid (shpB_false (xs := xs) (Q := dat L) (fun h => inB_not hb (h.deg k hkx)))
            clear hb
            generalize xs.getD k 0 = x at *
            go_wp2_with fail
            go_big_quiet ((go_at_call 61; first | exact quiet_add_left (HI.out _) | exact quiet_left (HI.out _)))
            go_wp2_with fail
            go_ret
            exact ⟨by rw [HF.out]; rfl, below_drewN (below_drewN HB.out _) _⟩
          · rw [hb] at HI
            have HB20 := Lib.hid (inB_true2 hb)
            have HD2 : Hid (∀ t, t < k + 1 → 0 ≤ xs.getD t 0 ∧ xs.getD t 0 ≤ 20) := Lib.hid (fun t ht => by
              by_cases e : t = k
              · subst e; exact HB20.out
              · exact HD.out t (by omega))
            clear hb
            cases k with
            | zero =>
              generalize xs.getD 0 0 = x at *
              rw [Nat.add_zero] at hc
              go_wp2_with fail
              go_big_quiet ((go_at_call 61; first | exact quiet_add_left (HI.out _) | exact quiet_left (HI.out _)))
              go_wp2_with fail
              go_roundw
              case rel => exact ⟨1, _, by omega, rfl, rfl, HD2, Lib.hid (fun t ht => by omega)⟩
              case measure => simp [intOf]; omega
            | succ k =>
              have hc1 := HR.out.cellI (k := k) (by omega)
              have hw1 : IntKind.i64.wrap ((k : Int) + 1 - 1) = (k : Int) := by rw [IntKind.wrap_i64]; omega
              have hw2 : IntKind.i64.wrap (((k + 1 : Nat) : Int) - 1) = (k : Int) := by rw [IntKind.wrap_i64]; omega
              have hi0 : (k : Int) < (n : Int) := by omega
              have hi1 : (k : Int) + 1 < (n : Int) := by omega
              have hi2 : 0 < (k : Int) + 1 := by omega
              have hi3 : 0 ≤ (k : Int) + 1 := by omega
              have hi4 : ((k : Int) + 1).toNat = k + 1 := by omega
              by_cases hcmp : xs.getD (k + 1) 0 < xs.getD k 0
              · have HF := Lib.hid (shpB_false (xs := xs) (Q := dat L) (fun h => by have := h.srt k hkx; omega))
                generalize xs.getD (k + 1) 0 = x at *
                generalize xs.getD k 0 = y at *
                go_wp2_with fail
                go_big_quiet ((go_at_call 61; first | exact quiet_add_left (HI.out _) | exact quiet_left (HI.out _)))
                go_wp2_with fail
                go_ret
                exact ⟨by rw [HF.out]; rfl, below_drewN (below_drewN HB.out _) _⟩
              · have HS2 : Hid (∀ t, t + 1 < k + 1 + 1 → xs.getD t 0 ≤ xs.getD (t + 1) 0) := Lib.hid (fun t ht => by
                  by_cases e : t = k
                  · subst e; omega
                  · exact HS.out t (by omega))
                have hdc : decide (xs.getD (k + 1) 0 < xs.getD k 0) = false := decide_eq_false hcmp
                generalize xs.getD (k + 1) 0 = x at *
                generalize xs.getD k 0 = y at *
                go_wp2_with fail
                go_big_quiet ((go_at_call 61; first | exact quiet_add_left (HI.out _) | exact quiet_left (HI.out _)))
                go_wp2_with fail
                go_roundw
                case rel => exact ⟨k + 1 + 1, _, by omega, by go_num, rfl, HD2, HS2⟩
                case measure => simp [intOf]; omega
        · obtain rfl : k = n := by omega
          have hdeg : ∀ t, t < xs.length → 0 ≤ xs.getD t 0 ∧ xs.getD t 0 ≤ 20 := fun t ht => HD.out t (by rw [Hn.out]; exact ht)
          have hsrt : ∀ t, t + 1 < xs.length → xs.getD t 0 ≤ xs.getD (t + 1) 0 := fun t ht => HS.out t (by rw [Hn.out]; exact ht)
          have HDEG := Lib.hid hdeg
          have HSRT := Lib.hid hsrt
          clear hlt hk hdeg hsrt HD HS
          go_wp2_with fail
          go_loopw [5] (fun i wr => ∃ q j : Nat, q ≤ m ∧ i = .int .i64 q ∧ wr = W0.drewN j ∧ Hid (∀ t, t < q → EntM xs ((dat L).getD t []))) (fun i _ => m - (intOf i).toNat)
          case atStart => exact ⟨0, _, by omega, rfl, rfl, Lib.hid (fun t ht => by omega)⟩
          case round =>
            obtain ⟨q, j', hq, rfl, rfl, HE⟩ := hrel
            by_cases hlt : q < m
            · have hqL : q < L.length := by rw [← Hm.out]; exact hlt
              obtain ⟨b, o, rfl, hc⟩ := HR'.out.at_ hqL
              have hin := HR'.out.inn q hqL
              have hle := HL.out q hqL
              have HNO := Lib.hid (fun (h : ¬ EntM xs ((dat L).getD q [])) => shpB_false (xs := xs) (Q := dat L) (fun hs => h (hs.ent q (by rw [dat_length]; exact hqL))))
              have HYES := Lib.hid (fun (h : EntM xs ((dat L).getD q [])) (t : Nat) (ht : t < q + 1) => show EntM xs ((dat L).getD t []) from by
                by_cases e : t = q
                · subst e; exact h
                · exact HE.out t (by omega))
              rw [dat_getD] at HNO HYES
              generalize rg L q = r at *
              obtain ⟨rA, rc, rx⟩ := r
              simp only at hc hin hle HNO HYES
              by_cases h3 : rx.length = 3
              · rw [h3] at hc
                obtain ⟨b1, o1, rfl, hy0⟩ := hin.atI (k := 0) (by omega)
                rw [Nat.add_zero] at hy0
                have hy1 := hin.cellI (k := 1) (by omega)
                have hy2 := hin.cellI (k := 2) (by omega)
                have hw1 : IntKind.i64.wrap ((k : Int) - 1) = (k : Int) - 1 := by rw [IntKind.wrap_i64]; omega
                have HI1 := Lib.hid (fun W => l01In_any (rx.getD 1 0) 0 ((k : Int) - 1) W)
                have HI2 := Lib.hid (fun W => l01In_any (rx.getD 2 0) 0 ((k : Int) - 1) W)
                have HM := Lib.hid (fun (g0 : 1 ≤ rx.getD 0 0) g1 g2 g3 g4 g5 => (⟨h3, g0, g1, g2, g3, g4, g5⟩ : EntM xs rx))
                have HN0 := Lib.hid (fun (h : ¬ 1 ≤ rx.getD 0 0) => HNO.out (fun e => h e.pos))
                have HN1 := Lib.hid (fun (h : ¬ (0 ≤ rx.getD 1 0 ∧ rx.getD 1 0 ≤ (k : Int) - 1)) => HNO.out (fun e => h ⟨e.lo1, by have := e.hi1; rw [← Hn.out] at this; omega⟩))
                have HN2 := Lib.hid (fun (h : ¬ (0 ≤ rx.getD 2 0 ∧ rx.getD 2 0 ≤ (k : Int) - 1)) => HNO.out (fun e => h ⟨e.lo2, by have := e.hi2; rw [← Hn.out] at this; omega⟩))
                have HN3 := Lib.hid (fun (h : ¬ xs.getD (rx.getD 2 0).toNat 0 = xs.getD (rx.getD 1 0).toNat 0 + rx.getD 0 0) => HNO.out (fun e => h e.dg))
                clear HNO hin h3
                generalize rx.getD 0 0 = e0 at *
                generalize rx.getD 1 0 = e1 at *
                generalize rx.getD 2 0 = e2 at *
                by_cases he0 : e0 < 1
                · have HF := Lib.hid (HN0.out (by omega))
                  go_wp2_with fail
                  go_big_quiet ((go_at_call 61; first | exact quiet_add_left (HI1.out _) | exact quiet_left (HI1.out _)))
                  go_wp2_with fail
                  go_ret
                  exact ⟨by rw [HF.out]; rfl, below_drewN (below_drewN HB.out _) _⟩
                · have hd0 : decide (e0 < 1) = false := decide_eq_false he0
                  cases hb1 : inB e1 0 ((k : Int) - 1)
                  · rw [hb1] at HI1
                    have HF := Lib.hid (HN1.out (inB_not hb1))
                    clear hb1
                    go_wp2_with fail
                    go_big_quiet ((go_at_call 61; first | exact quiet_add_left (HI1.out _) | exact quiet_left (HI1.out _)))
                    go_wp2_with fail
                    go_ret
                    exact ⟨by rw [HF.out]; rfl, below_drewN (below_drewN HB.out _) _⟩
                  · rw [hb1] at HI1
                    obtain ⟨hlo1, hhi1⟩ := inB_true2 hb1
                    clear hb1
                    cases hb2 : inB e2 0 ((k : Int) - 1)
                    · rw [hb2] at HI2
                      have HF := Lib.hid (HN2.out (inB_not hb2))
                      clear hb2
                      go_wp2_with fail
                      go_big_quiet ((go_at_call 61; first | with_reducible exact quiet_add_left (HI1.out _) | with_reducible exact quiet_left (HI1.out _) | with_reducible exact quiet_add_left (HI2.out _) | with_reducible exact quiet_left (HI2.out _)))
                      go_wp2_with fail
                      go_ret
                      exact ⟨by rw [HF.out]; rfl, below_drewN (below_drewN HB.out _) _⟩
                    · rw [hb2] at HI2
                      obtain ⟨hlo2, hhi2⟩ := inB_true2 hb2
                      clear hb2
                      obtain ⟨i1, rfl⟩ := Int.eq_ofNat_of_zero_le hlo1
                      obtain ⟨i2, rfl⟩ := Int.eq_ofNat_of_zero_le hlo2
                      rw [Int.toNat_natCast, Int.toNat_natCast] at HN3 HM
                      have hi1 : i1 < k := by omega
                      have hi2 : i2 < k := by omega
                      obtain ⟨b3, o3, rfl, hd1⟩ := HR.out.atI (k := i1) (by rw [← Hn.out]; exact hi1)
                      have hd2 := HR.out.cellI (k := i2) (by rw [← Hn.out]; exact hi2)
                      have hbd1 := HDEG.out i1 (by rw [← Hn.out]; exact hi1)
                      have hbd2 := HDEG.out i2 (by rw [← Hn.out]; exact hi2)
                      have hi1' : (i1 : Int) < (k : Int) := by omega
                      have hi2' : (i2 : Int) < (k : Int) := by omega
                      generalize xs.getD i1 0 = d1 at *
                      generalize xs.getD i2 0 = d2 at *
                      obtain ⟨g1, g2⟩ := hbd1
                      obtain ⟨g3, g4⟩ := hbd2
                      have hw2 : IntKind.i64.wrap (d2 - d1) = d2 - d1 := by rw [IntKind.wrap_i64]; omega
                      by_cases heq : d2 - d1 = e0
                      · have HEN := Lib.hid (HM.out (by omega) (by omega) (by rw [← Hn.out]; exact hi1') (by omega) (by rw [← Hn.out]; exact hi2') (by omega))
                        have heb : (d2 - d1 != e0) = false := by simpa using heq
                        clear heq
                        go_wp2_with fail
                        go_big_quiet ((go_at_call 61; first | with_reducible exact quiet_add_left (HI1.out _) | with_reducible exact quiet_left (HI1.out _) | with_reducible exact quiet_add_left (HI2.out _) | with_reducible exact quiet_left (HI2.out _)))
                        go_wp2_with fail
                        go_roundw
                        case rel => exact ⟨q + 1, _, by omega, by go_num, rfl, Lib.hid (HYES.out HEN.out)⟩
                        case measure => simp [intOf]; omega
                      · have HF := Lib.hid (HN3.out (by omega))
                        have heb : (d2 - d1 != e0) = true := by simpa using heq
                        clear heq
                        go_wp2_with fail
                        go_big_quiet ((go_at_call 61; first | with_reducible exact quiet_add_left (HI1.out _) | with_reducible exact quiet_left (HI1.out _) | with_reducible exact quiet_add_left (HI2.out _) | with_reducible exact quiet_left (HI2.out _)))
                        go_wp2_with fail
                        go_ret
                        exact ⟨by rw [HF.out]; rfl, below_drewN (below_drewN HB.out _) _⟩
              · have hrb : ((rx.length : Int) != 3) = true := by simp; omega
                have HF := Lib.hid (HNO.out (fun e => h3 e.len))
                clear h3 hin
                go_wp2_with fail
                go_big_quiet (fail)
                go_wp2_with fail
                go_ret
                exact ⟨by rw [HF.out]; rfl, below_drewN (below_drewN HB.out _) _⟩
            · have HT := Lib.hid (shpB_true (xs := xs) (Q := dat L) ⟨by rw [← Hn.out]; exact h16, HDEG.out, HSRT.out, HASC.out, fun t ht => HE.out t (by rw [dat_length, ← Hm.out] at ht; omega)⟩)
              go_wp2_with fail
              go_ret
              exact ⟨by rw [HT.out]; rfl, below_drewN HB.out _⟩
  · have HF := Lib.hid (shpB_false (xs := xs) (Q := dat L) (fun h => by have := h.len; omega))
    clear hR hR' hn hm hl hbel HAS
    go_enter Tryz.func40, Tryz.ntmps40
    go_wp2_with fail
    go_ret
    exact ⟨by rw [HF.out]; rfl, HB.out⟩
end Go.Proofs.YtocllmhkppkfoaaGreatDoor

namespace Go.Proofs.YtocllmhkppkfoaaGreatDoor
open Go.RowKit

theorem i64_andnot_nat {a b : Nat} (ha : Sm a) (hb : Sm b) : bits .andNot .i64 (a : Int) (b : Int) = ((nt a b : Nat) : Int) := by
  have hx : Sm (nt a b) := ha.xr ha.an
  have e : ∀ x y : BitVec 64, x &&& ~~~y = x ^^^ (x &&& y) := by
    intro x y; ext i; simp; cases x[i] <;> cases y[i] <;> rfl
  unfold Sm at *
  show IntKind.i64.wrap ((BitVec.ofInt 64 (a : Int) &&& ~~~BitVec.ofInt 64 (b : Int)).toNat : Int) = _
  rw [e, BitVec.toNat_xor, BitVec.toNat_and, ofInt64_nat a (by omega), ofInt64_nat b (by omega), IntKind.wrap_i64]
  unfold nt at *
  omega

/-- a module to be read -/
structure ModR (w : World) (A : Option Addr) (n : Nat) (A' : Option Addr) (m : Nat) (xs : List Int) (L : List Row) : Prop where
  hn : n = xs.length
  deg : Rd w A (iv xs)
  hm : m = L.length
  hm1 : m ≤ 1048576
  act : RdR w A' L
theorem ModR.below {w w' : World} {A A' : Option Addr} {n m : Nat} {xs : List Int} {L : List Row} (h : ModR w A n A' m xs L) (hb : Below w.heap.size w w') : ModR w' A n A' m xs L :=
  ⟨h.hn, h.deg.below hb, h.hm, h.hm1, h.act.below hb⟩

set_option maxRecDepth 100000 in
set_option maxHeartbeats 2000000 in
theorem l12Act_any (A A' : Option Addr) (n c m c' : Nat) (xs : List Int) (L : List Row) (z y : Int) (v : Nat) (w : World) (hM : ModR w A n A' m xs L) (hs : Shp xs (dat L)) (hy : y = (v : Int)) (hv : v < 2 ^ xs.length) :
    Calls Tryz.prog 30 #[.agg #[.slice A n c, .slice A' m c'], .int .i64 z, .int .i64 y] w fun e w' => e = .returned (.int .i64 (act (dat L) z v : Nat)) ∧ Below w.heap.size w w' := by
  subst hy
  have hn16 : n ≤ 16 := by rw [hM.hn]; exact hs.len
  have hb0 : Below w.heap.size w (w.alloc (.cells #[.slice A n c, .slice A' m c'] 29)) := (Below.refl _ _).alloc (Nat.le_refl _) _
  have hk0 := blk_new w (.cells #[.slice A n c, .slice A' m c'] 29)
  have HSM : Hid (Sm v) := Lib.hid (sm_pow (n := 16) (by omega) (Nat.lt_of_lt_of_le hv (Nat.pow_le_pow_right (by omega) hs.len)))
  have HLT : Hid (act (dat L) z v < 2 ^ n) := Lib.hid (by rw [hM.hn]; exact act_lt hs hv z)
  have HA := Lib.hid (fun (V : Option Addr) (cv : Nat) W (hb : Below w.heap.size w W) hV => l11Act_any A A' V n c m c' cv xs L z v W hM.hn hM.hm hs hM.hm1 (hM.act.below hb) hV)
  have HB0 := Lib.hid hb0
  have KS := Lib.hid (fun w' (hb : Below (w.alloc (.cells #[.slice A n c, .slice A' m c'] 29)).heap.size (w.alloc (.cells #[.slice A n c, .slice A' m c'] 29)) w') => show w'.cell? ⟨w.heap.size, 0, none⟩ = some (.slice A n c) ∧ w'.cell? ⟨w.heap.size, 1, none⟩ = some (.slice A' m c') from by
    obtain ⟨x0, x1, _⟩ := blk2cells (blk_kept hk0 hb)
    exact ⟨x0, x1⟩)
  have HB_0 := Lib.hid (Below.drew (Below.refl (w.alloc (.cells #[.slice A n c, .slice A' m c'] 29)).heap.size (w.alloc (.cells #[.slice A n c, .slice A' m c'] 29))))
  clear hM hs hv hb0 hk0
  go_enter Tryz.func30, Tryz.ntmps30
  go_wp2_with fail
  go_region_held3 (fun w' => w'.cell? ⟨w.heap.size, 0, none⟩ = some (.slice A n c) ∧ w'.cell? ⟨w.heap.size, 1, none⟩ = some (.slice A' m c'))
    (first | exact KS.out _ HB_0.out | exact KS.out _ HB_1.out | exact KS.out _ HB_2.out)
    (first
      | (go_at_call 45; (with_reducible refine (l12Vector_any n v _ (by omega) HSM.out).mono ?_); (rintro e w1 ⟨g1, c1, rfl, ho, hb⟩; have HO1 := Lib.hid ho; have HB_1 := Lib.hid (HB_0.out.trans (hb.mono HB_0.out.size)); clear ho hb))
      | (go_at_call 44; (with_reducible refine (HA.out _ _ _ (HB0.out.trans (HB_1.out.mono HB0.out.size)) (owns_Rd HO1.out)).mono ?_); (rintro e w2 ⟨g2, c2, rfl, ho, hb⟩; have HO2 := Lib.hid ho; have HB_2 := Lib.hid (HB_1.out.trans (hb.mono HB_1.out.size)); clear ho hb))
      | (go_at_call 43; (with_reducible refine (l12Mask_any _ n _ _ _ (by omega) HLT.out (owns_Rd HO2.out)).mono ?_); (rintro e w3 ⟨rfl, rfl⟩)))
  go_wp2_with fail
  go_ret
  exact ⟨rfl, HB0.out.trans (HB_2.out.mono HB0.out.size)⟩
end Go.Proofs.YtocllmhkppkfoaaGreatDoor
