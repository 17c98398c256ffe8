/- the reference's l11Shape -/
import Derived.Test.YtdkmdmpaflgfaaaGreatDoorBxac
set_option linter.all false
namespace Go.Proofs.YtdkmdmpaflgfaaaGreatDoor
open Go.RowKit

noncomputable def shpB (xs : List Int) (Q : List (List Int)) : Bool := @decide (Shp xs Q) (Classical.propDecidable _)
theorem shpB_true {xs : List Int} {Q : List (List Int)} (h : Shp xs Q) : shpB xs Q = true := by unfold shpB; simp [h]
theorem shpB_false {xs : List Int} {Q : List (List Int)} (h : ¬ Shp xs Q) : shpB xs Q = false := by unfold shpB; simp [h]
theorem ascB_iff {Q : List (List Int)} : ascB Q = true ↔ AscP Q := by unfold ascB; simp
theorem inB_eq_true {n lo hi : Int} (h1 : lo ≤ n) (h2 : n ≤ hi) : inB n lo hi = true := by simp [inB, h1, h2]
theorem inB_not {n lo hi : Int} (h : inB n lo hi = false) : ¬ (lo ≤ n ∧ n ≤ hi) := fun h' => by rw [inB_eq_true h'.1 h'.2] at h; cases h

set_option maxRecDepth 100000 in
set_option maxHeartbeats 1000000 in
theorem l11Shape_any (A A' : Option Addr) (n c m c' : Nat) (xs : List Int) (L : List Row) (w : World) (hn : n = xs.length) (hsm : n ≤ 1048576) (hR : Rd w A (iv xs)) (hm : m = L.length) (hm1 : m ≤ 1048576) (hl : ∀ i, i < L.length → (rg L i).xs.length ≤ 1048576) (hR' : RdR w A' L) :
    Calls Tryz.prog 117 #[.agg #[.slice A n c, .slice A' m c']] w fun e w' => e = .returned (.bool (shpB xs (dat L))) ∧ Below w.heap.size w w' := by
  obtain ⟨x0, x1, xf0, xf1, lx⟩ := blk2cells (blk_new w (.cells #[.slice A n c, .slice A' m c'] 30))
  have hbel : Below w.heap.size w (w.alloc (.cells #[.slice A n c, .slice A' m c'] 30)) := (Below.refl _ _).alloc (Nat.le_refl _) _
  have HB := Lib.hid hbel
  have HR := Lib.hid (hR.below hbel)
  have HR' := Lib.hid (hR'.below hbel)
  have HAS := Lib.hid (l01Ascending_any A' m c' L _ hm (by omega) (fun i hi => Nat.le_trans (hl i hi) (by omega)) (hR'.below hbel))
  have Hn := Lib.hid hn
  have Hm := Lib.hid hm
  have HL := Lib.hid hl
  by_cases h16 : n ≤ 16
  · cases hasc : ascB (dat L)
    · rw [hasc] at HAS
      have HF := Lib.hid (shpB_false (xs := xs) (Q := dat L) (fun h => by have := ascB_true h.asc; rw [hasc] at this; cases this))
      clear hR hR' hn hm hl hbel hasc
      go_enter Tryz.func117, Tryz.ntmps117
      go_wp2_with (go_at_call 163; refine HAS.out.mono ?_; rintro e w' ⟨rfl, m', rfl⟩)
      go_ret
      exact ⟨by rw [HF.out]; rfl, below_drewN HB.out _⟩
    · rw [hasc] at HAS
      have HASC := Lib.hid (ascB_iff.1 hasc)
      clear hR hR' hn hm hl hbel hasc
      go_enter Tryz.func117, Tryz.ntmps117
      go_wp2_with fail
      generalize hW0 : w.alloc (.cells #[.slice A n c, .slice A' m c'] 30) = W0 at *
      clear hW0
      go_wp2_with (go_at_call 163; refine HAS.out.mono ?_; rintro e w' ⟨rfl, m', rfl⟩)
      go_loopw [3] (fun i wr => ∃ k j : Nat, k ≤ n ∧ i = .int .i64 k ∧ wr = W0.drewN j ∧ Hid (∀ t, t < k → 0 ≤ xs.getD t 0 ∧ xs.getD t 0 ≤ 20) ∧ Hid (∀ t, t + 1 < k → xs.getD t 0 ≤ xs.getD (t + 1) 0)) (fun i _ => n - (intOf i).toNat)
      case atStart => exact ⟨0, _, by omega, rfl, rfl, Lib.hid (fun t ht => by omega), Lib.hid (fun t ht => by omega)⟩
      case round =>
        obtain ⟨k, j, hk, rfl, rfl, HD, HS⟩ := hrel
        by_cases hlt : k < n
        · have hkx : k < xs.length := by rw [← Hn.out]; exact hlt
          obtain ⟨b, o, rfl, hc⟩ := HR.out.atI hkx
          have HX : Hid (xs.getD k 0 = xs.getD k 0) := Lib.hid rfl
          have HI := Lib.hid (fun W => l01In_any (xs.getD k 0) 0 20 W)
          cases hb : inB (xs.getD k 0) 0 20
          · rw [hb] at HI
            have HF := Lib.hid (shpB_false (xs := xs) (Q := dat L) (fun h => inB_not hb (h.deg k hkx)))
            clear hb
            generalize xs.getD k 0 = x at *
            go_wp2_with fail
            go_big_quiet ((go_at_call 87; first | exact quiet_add_left (HI.out _) | exact quiet_left (HI.out _)))
            go_wp2_with fail
            go_ret
            exact ⟨by rw [HF.out]; rfl, below_drewN (below_drewN HB.out _) _⟩
          · rw [hb] at HI
            have HB20 := Lib.hid (inB_true2 hb)
            have HD2 : Hid (∀ t, t < k + 1 → 0 ≤ xs.getD t 0 ∧ xs.getD t 0 ≤ 20) := Lib.hid (fun t ht => by
              by_cases e : t = k
              · subst e; exact HB20.out
              · exact HD.out t (by omega))
            clear hb
            cases k with
            | zero =>
              generalize xs.getD 0 0 = x at *
              rw [Nat.add_zero] at hc
              go_wp2_with fail
              go_big_quiet ((go_at_call 87; first | exact quiet_add_left (HI.out _) | exact quiet_left (HI.out _)))
              go_wp2_with fail
              go_roundw
              case rel => exact ⟨1, _, by omega, rfl, rfl, HD2, Lib.hid (fun t ht => by omega)⟩
              case measure => simp [intOf]; omega
            | succ k =>
              have hc1 := HR.out.cellI (k := k) (by omega)
              have hw1 : IntKind.i64.wrap ((k : Int) + 1 - 1) = (k : Int) := by rw [IntKind.wrap_i64]; omega
              have hw2 : IntKind.i64.wrap (((k + 1 : Nat) : Int) - 1) = (k : Int) := by rw [IntKind.wrap_i64]; omega
              have hi0 : (k : Int) < (n : Int) := by omega
              have hi1 : (k : Int) + 1 < (n : Int) := by omega
              have hi2 : 0 < (k : Int) + 1 := by omega
              have hi3 : 0 ≤ (k : Int) + 1 := by omega
              have hi4 : ((k : Int) + 1).toNat = k + 1 := by omega
              by_cases hcmp : xs.getD (k + 1) 0 < xs.getD k 0
              · have HF := Lib.hid (shpB_false (xs := xs) (Q := dat L) (fun h => by have := h.srt k hkx; omega))
                generalize xs.getD (k + 1) 0 = x at *
                generalize xs.getD k 0 = y at *
                go_wp2_with fail
                go_big_quiet ((go_at_call 87; first | exact quiet_add_left (HI.out _) | exact quiet_left (HI.out _)))
                go_wp2_with fail
                go_ret
                exact ⟨by rw [HF.out]; rfl, below_drewN (below_drewN HB.out _) _⟩
              · have HS2 : Hid (∀ t, t + 1 < k + 1 + 1 → xs.getD t 0 ≤ xs.getD (t + 1) 0) := Lib.hid (fun t ht => by
                  by_cases e : t = k
                  · subst e; omega
                  · exact HS.out t (by omega))
                have hdc : decide (xs.getD (k + 1) 0 < xs.getD k 0) = false := decide_eq_false hcmp
                generalize xs.getD (k + 1) 0 = x at *
                generalize xs.getD k 0 = y at *
                go_wp2_with fail
                go_big_quiet ((go_at_call 87; first | exact quiet_add_left (HI.out _) | exact quiet_left (HI.out _)))
                go_wp2_with fail
                go_roundw
                case rel => exact ⟨k + 1 + 1, _, by omega, by go_num, rfl, HD2, HS2⟩
                case measure => simp [intOf]; omega
        · obtain rfl : k = n := by omega
          have hdeg : ∀ t, t < xs.length → 0 ≤ xs.getD t 0 ∧ xs.getD t 0 ≤ 20 := fun t ht => HD.out t (by rw [Hn.out]; exact ht)
          have hsrt : ∀ t, t + 1 < xs.length → xs.getD t 0 ≤ xs.getD (t + 1) 0 := fun t ht => HS.out t (by rw [Hn.out]; exact ht)
          have HDEG := Lib.hid hdeg
          have HSRT := Lib.hid hsrt
          clear hlt hk hdeg hsrt HD HS
          go_wp2_with fail
          go_loopw [5] (fun i wr => ∃ q j : Nat, q ≤ m ∧ i = .int .i64 q ∧ wr = W0.drewN j ∧ Hid (∀ t, t < q → EntM xs ((dat L).getD t []))) (fun i _ => m - (intOf i).toNat)
          case atStart => exact ⟨0, _, by omega, rfl, rfl, Lib.hid (fun t ht => by omega)⟩
          case round =>
            obtain ⟨q, j', hq, rfl, rfl, HE⟩ := hrel
            by_cases hlt : q < m
            · have hqL : q < L.length := by rw [← Hm.out]; exact hlt
              obtain ⟨b, o, rfl, hc⟩ := HR'.out.at_ hqL
              have hin := HR'.out.inn q hqL
              have hle := HL.out q hqL
              have HNO := Lib.hid (fun (h : ¬ EntM xs ((dat L).getD q [])) => shpB_false (xs := xs) (Q := dat L) (fun hs => h (hs.ent q (by rw [dat_length]; exact hqL))))
              have HYES := Lib.hid (fun (h : EntM xs ((dat L).getD q [])) (t : Nat) (ht : t < q + 1) => show EntM xs ((dat L).getD t []) from by
                by_cases e : t = q
                · subst e; exact h
                · exact HE.out t (by omega))
              rw [dat_getD] at HNO HYES
              generalize rg L q = r at *
              obtain ⟨rA, rc, rx⟩ := r
              simp only at hc hin hle HNO HYES
              by_cases h3 : rx.length = 3
              · rw [h3] at hc
                obtain ⟨b1, o1, rfl, hy0⟩ := hin.atI (k := 0) (by omega)
                rw [Nat.add_zero] at hy0
                have hy1 := hin.cellI (k := 1) (by omega)
                have hy2 := hin.cellI (k := 2) (by omega)
                have hw1 : IntKind.i64.wrap ((k : Int) - 1) = (k : Int) - 1 := by rw [IntKind.wrap_i64]; omega
                have HI1 := Lib.hid (fun W => l01In_any (rx.getD 1 0) 0 ((k : Int) - 1) W)
                have HI2 := Lib.hid (fun W => l01In_any (rx.getD 2 0) 0 ((k : Int) - 1) W)
                have HM := Lib.hid (fun (g0 : 1 ≤ rx.getD 0 0) g1 g2 g3 g4 g5 => (⟨h3, g0, g1, g2, g3, g4, g5⟩ : EntM xs rx))
                have HN0 := Lib.hid (fun (h : ¬ 1 ≤ rx.getD 0 0) => HNO.out (fun e => h e.pos))
                have HN1 := Lib.hid (fun (h : ¬ (0 ≤ rx.getD 1 0 ∧ rx.getD 1 0 ≤ (k : Int) - 1)) => HNO.out (fun e => h ⟨e.lo1, by have := e.hi1; rw [← Hn.out] at this; omega⟩))
                have HN2 := Lib.hid (fun (h : ¬ (0 ≤ rx.getD 2 0 ∧ rx.getD 2 0 ≤ (k : Int) - 1)) => HNO.out (fun e => h ⟨e.lo2, by have := e.hi2; rw [← Hn.out] at this; omega⟩))
                have HN3 := Lib.hid (fun (h : ¬ xs.getD (rx.getD 2 0).toNat 0 = xs.getD (rx.getD 1 0).toNat 0 + rx.getD 0 0) => HNO.out (fun e => h e.dg))
                clear HNO hin h3
                generalize rx.getD 0 0 = e0 at *
                generalize rx.getD 1 0 = e1 at *
                generalize rx.getD 2 0 = e2 at *
                by_cases he0 : e0 < 1
                · have HF := Lib.hid (HN0.out (by omega))
                  go_wp2_with fail
                  go_big_quiet ((go_at_call 87; first | exact quiet_add_left (HI1.out _) | exact quiet_left (HI1.out _)))
                  go_wp2_with fail
                  go_ret
                  exact ⟨by rw [HF.out]; rfl, below_drewN (below_drewN HB.out _) _⟩
                · have hd0 : decide (e0 < 1) = false := decide_eq_false he0
                  cases hb1 : inB e1 0 ((k : Int) - 1)
                  · rw [hb1] at HI1
                    have HF := Lib.hid (HN1.out (inB_not hb1))
                    clear hb1
                    go_wp2_with fail
                    go_big_quiet ((go_at_call 87; first | exact quiet_add_left (HI1.out _) | exact quiet_left (HI1.out _)))
                    go_wp2_with fail
                    go_ret
                    exact ⟨by rw [HF.out]; rfl, below_drewN (below_drewN HB.out _) _⟩
                  · rw [hb1] at HI1
                    obtain ⟨hlo1, hhi1⟩ := inB_true2 hb1
                    clear hb1
                    cases hb2 : inB e2 0 ((k : Int) - 1)
                    · rw [hb2] at HI2
                      have HF := Lib.hid (HN2.out (inB_not hb2))
                      clear hb2
                      go_wp2_with fail
                      go_big_quiet ((go_at_call 87; first | with_reducible exact quiet_add_left (HI1.out _) | with_reducible exact quiet_left (HI1.out _) | with_reducible exact quiet_add_left (HI2.out _) | with_reducible exact quiet_left (HI2.out _)))
                      go_wp2_with fail
                      go_ret
                      exact ⟨by rw [HF.out]; rfl, below_drewN (below_drewN HB.out _) _⟩
                    · rw [hb2] at HI2
                      obtain ⟨hlo2, hhi2⟩ := inB_true2 hb2
                      clear hb2
                      obtain ⟨i1, rfl⟩ := Int.eq_ofNat_of_zero_le hlo1
                      obtain ⟨i2, rfl⟩ := Int.eq_ofNat_of_zero_le hlo2
                      rw [Int.toNat_natCast, Int.toNat_natCast] at HN3 HM
                      have hi1 : i1 < k := by omega
                      have hi2 : i2 < k := by omega
                      obtain ⟨b3, o3, rfl, hd1⟩ := HR.out.atI (k := i1) (by rw [← Hn.out]; exact hi1)
                      have hd2 := HR.out.cellI (k := i2) (by rw [← Hn.out]; exact hi2)
                      have hbd1 := HDEG.out i1 (by rw [← Hn.out]; exact hi1)
                      have hbd2 := HDEG.out i2 (by rw [← Hn.out]; exact hi2)
                      have hi1' : (i1 : Int) < (k : Int) := by omega
                      have hi2' : (i2 : Int) < (k : Int) := by omega
                      generalize xs.getD i1 0 = d1 at *
                      generalize xs.getD i2 0 = d2 at *
                      obtain ⟨g1, g2⟩ := hbd1
                      obtain ⟨g3, g4⟩ := hbd2
                      have hw2 : IntKind.i64.wrap (d2 - d1) = d2 - d1 := by rw [IntKind.wrap_i64]; omega
                      by_cases heq : d2 - d1 = e0
                      · have HEN := Lib.hid (HM.out (by omega) (by omega) (by rw [← Hn.out]; exact hi1') (by omega) (by rw [← Hn.out]; exact hi2') (by omega))
                        have heb : (d2 - d1 != e0) = false := by simpa using heq
                        clear heq
                        go_wp2_with fail
                        go_big_quiet ((go_at_call 87; first | with_reducible exact quiet_add_left (HI1.out _) | with_reducible exact quiet_left (HI1.out _) | with_reducible exact quiet_add_left (HI2.out _) | with_reducible exact quiet_left (HI2.out _)))
                        go_wp2_with fail
                        go_roundw
                        case rel => exact ⟨q + 1, _, by omega, by go_num, rfl, Lib.hid (HYES.out HEN.out)⟩
                        case measure => simp [intOf]; omega
                      · have HF := Lib.hid (HN3.out (by omega))
                        have heb : (d2 - d1 != e0) = true := by simpa using heq
                        clear heq
                        go_wp2_with fail
                        go_big_quiet ((go_at_call 87; first | with_reducible exact quiet_add_left (HI1.out _) | with_reducible exact quiet_left (HI1.out _) | with_reducible exact quiet_add_left (HI2.out _) | with_reducible exact quiet_left (HI2.out _)))
                        go_wp2_with fail
                        go_ret
                        exact ⟨by rw [HF.out]; rfl, below_drewN (below_drewN HB.out _) _⟩
              · have hrb : ((rx.length : Int) != 3) = true := by simp; omega
                have HF := Lib.hid (HNO.out (fun e => h3 e.len))
                clear h3 hin
                go_wp2_with fail
                go_big_quiet (fail)
                go_wp2_with fail
                go_ret
                exact ⟨by rw [HF.out]; rfl, below_drewN (below_drewN HB.out _) _⟩
            · have HT := Lib.hid (shpB_true (xs := xs) (Q := dat L) ⟨by rw [← Hn.out]; exact h16, HDEG.out, HSRT.out, HASC.out, fun t ht => HE.out t (by rw [dat_length, ← Hm.out] at ht; omega)⟩)
              go_wp2_with fail
              go_ret
              exact ⟨by rw [HT.out]; rfl, below_drewN HB.out _⟩
  · have HF := Lib.hid (shpB_false (xs := xs) (Q := dat L) (fun h => by have := h.len; omega))
    clear hR hR' hn hm hl hbel HAS
    go_enter Tryz.func117, Tryz.ntmps117
    go_wp2_with fail
    go_ret
    exact ⟨by rw [HF.out]; rfl, HB.out⟩
end Go.Proofs.YtdkmdmpaflgfaaaGreatDoor
