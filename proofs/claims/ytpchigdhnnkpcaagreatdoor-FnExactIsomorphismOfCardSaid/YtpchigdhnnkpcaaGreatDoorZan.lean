/- the reference's l11Shape · the reference's l12Act, l12Is · the reference's l03Left at one admissible word -/
import Derived.Test.YtpchigdhnnkpcaaGreatDoorZal
import Derived.Test.YtpchigdhnnkpcaaGreatDoorZam
namespace Go.Proofs.YtpchigdhnnkpcaaGreatDoor
open Go.RowKit

noncomputable def shpB (xs : List Int) (Q : List (List Int)) : Bool := @decide (Shp xs Q) (Classical.propDecidable _)
theorem shpB_true {xs : List Int} {Q : List (List Int)} (h : Shp xs Q) : shpB xs Q = true := by unfold shpB; simp [h]
theorem shpB_false {xs : List Int} {Q : List (List Int)} (h : ¬ Shp xs Q) : shpB xs Q = false := by unfold shpB; simp [h]
theorem ascB_iff {Q : List (List Int)} : ascB Q = true ↔ AscP Q := by unfold ascB; simp
theorem inB_eq_true {n lo hi : Int} (h1 : lo ≤ n) (h2 : n ≤ hi) : inB n lo hi = true := by simp [inB, h1, h2]
theorem inB_not {n lo hi : Int} (h : inB n lo hi = false) : ¬ (lo ≤ n ∧ n ≤ hi) := fun h' => by rw [inB_eq_true h'.1 h'.2] at h; cases h

set_option maxRecDepth 100000 in
set_option maxHeartbeats 1000000 in
theorem l11Shape_any (A A' : Option Addr) (n c m c' : Nat) (xs : List Int) (L : List Row) (w : World) (hn : n = xs.length) (hsm : n ≤ 1048576) (hR : Rd w A (iv xs)) (hm : m = L.length) (hm1 : m ≤ 1048576) (hl : ∀ i, i < L.length → (rg L i).xs.length ≤ 1048576) (hR' : RdR w A' L) :
    Calls Tryz.prog 114 #[.agg #[.slice A n c, .slice A' m c']] w fun e w' => e = .returned (.bool (shpB xs (dat L))) ∧ Below w.heap.size w w' := by
  obtain ⟨x0, x1, xf0, xf1, lx⟩ := blk2cells (blk_new w (.cells #[.slice A n c, .slice A' m c'] 29))
  have hbel : Below w.heap.size w (w.alloc (.cells #[.slice A n c, .slice A' m c'] 29)) := (Below.refl _ _).alloc (Nat.le_refl _) _
  have HB := Lib.hid hbel
  have HR := Lib.hid (hR.below hbel)
  have HR' := Lib.hid (hR'.below hbel)
  have HAS := Lib.hid (l01Ascending_any A' m c' L _ hm (by omega) (fun i hi => Nat.le_trans (hl i hi) (by omega)) (hR'.below hbel))
  have Hn := Lib.hid hn
  have Hm := Lib.hid hm
  have HL := Lib.hid hl
  by_cases h16 : n ≤ 16
  · cases hasc : ascB (dat L)
    · rw [hasc] at HAS
      have HF := Lib.hid (shpB_false (xs := xs) (Q := dat L) (fun h => by have := ascB_true h.asc; rw [hasc] at this; cases this))
      clear hR hR' hn hm hl hbel hasc
      go_enter Tryz.func114, Tryz.ntmps114
      go_wp2_with (go_at_call 130; refine HAS.out.mono ?_; rintro e w' ⟨rfl, m', rfl⟩)
      go_ret
      exact ⟨by rw [HF.out]; rfl, below_drewN HB.out _⟩
    · rw [hasc] at HAS
      have HASC := Lib.hid (ascB_iff.1 hasc)
      clear hR hR' hn hm hl hbel hasc
      go_enter Tryz.func114, Tryz.ntmps114
      go_wp2_with fail
      generalize hW0 : w.alloc (.cells #[.slice A n c, .slice A' m c'] 29) = W0 at *
      clear hW0
      go_wp2_with (go_at_call 130; refine HAS.out.mono ?_; rintro e w' ⟨rfl, m', rfl⟩)
      go_loopw [3] (fun i wr => ∃ k j : Nat, k ≤ n ∧ i = .int .i64 k ∧ wr = W0.drewN j ∧ Hid (∀ t, t < k → 0 ≤ xs.getD t 0 ∧ xs.getD t 0 ≤ 20) ∧ Hid (∀ t, t + 1 < k → xs.getD t 0 ≤ xs.getD (t + 1) 0)) (fun i _ => n - (intOf i).toNat)
      case atStart => exact ⟨0, _, by omega, rfl, rfl, Lib.hid (fun t ht => by omega), Lib.hid (fun t ht => by omega)⟩
      case round =>
        obtain ⟨k, j, hk, rfl, rfl, HD, HS⟩ := hrel
        by_cases hlt : k < n
        · have hkx : k < xs.length := by rw [← Hn.out]; exact hlt
          obtain ⟨b, o, rfl, hc⟩ := HR.out.atI hkx
          have HX : Hid (xs.getD k 0 = xs.getD k 0) := Lib.hid rfl
          have HI := Lib.hid (fun W => l01In_any (xs.getD k 0) 0 20 W)
          cases hb : inB (xs.getD k 0) 0 20
          · rw [hb] at HI
            have HF := Lib.hid (shpB_false (xs := xs) (Q := dat L) (fun h => inB_not hb (h.deg k hkx)))
            clear hb
            generalize xs.getD k 0 = x at *
            go_wp2_with fail
            go_big_quiet ((go_at_call 116; first | exact quiet_add_left (HI.out _) | exact quiet_left (HI.out _)))
            go_wp2_with fail
            go_ret
            exact ⟨by rw [HF.out]; rfl, below_drewN (below_drewN HB.out _) _⟩
          · rw [hb] at HI
            have HB20 := Lib.hid (inB_true2 hb)
            have HD2 : Hid (∀ t, t < k + 1 → 0 ≤ xs.getD t 0 ∧ xs.getD t 0 ≤ 20) := Lib.hid (fun t ht => by
              by_cases e : t = k
              · subst e; exact HB20.out
              · exact HD.out t (by omega))
            clear hb
            cases k with
            | zero =>
              generalize xs.getD 0 0 = x at *
              rw [Nat.add_zero] at hc
              go_wp2_with fail
              go_big_quiet ((go_at_call 116; first | exact quiet_add_left (HI.out _) | exact quiet_left (HI.out _)))
              go_wp2_with fail
              go_roundw
              case rel => exact ⟨1, _, by omega, rfl, rfl, HD2, Lib.hid (fun t ht => by omega)⟩
              case measure => simp [intOf]; omega
            | succ k =>
              have hc1 := HR.out.cellI (k := k) (by omega)
              have hw1 : IntKind.i64.wrap ((k : Int) + 1 - 1) = (k : Int) := by rw [IntKind.wrap_i64]; omega
              have hw2 : IntKind.i64.wrap (((k + 1 : Nat) : Int) - 1) = (k : Int) := by rw [IntKind.wrap_i64]; omega
              have hi0 : (k : Int) < (n : Int) := by omega
              have hi1 : (k : Int) + 1 < (n : Int) := by omega
              have hi2 : 0 < (k : Int) + 1 := by omega
              have hi3 : 0 ≤ (k : Int) + 1 := by omega
              have hi4 : ((k : Int) + 1).toNat = k + 1 := by omega
              by_cases hcmp : xs.getD (k + 1) 0 < xs.getD k 0
              · have HF := Lib.hid (shpB_false (xs := xs) (Q := dat L) (fun h => by have := h.srt k hkx; omega))
                generalize xs.getD (k + 1) 0 = x at *
                generalize xs.getD k 0 = y at *
                go_wp2_with fail
                go_big_quiet ((go_at_call 116; first | exact quiet_add_left (HI.out _) | exact quiet_left (HI.out _)))
                go_wp2_with fail
                go_ret
                exact ⟨by rw [HF.out]; rfl, below_drewN (below_drewN HB.out _) _⟩
              · have HS2 : Hid (∀ t, t + 1 < k + 1 + 1 → xs.getD t 0 ≤ xs.getD (t + 1) 0) := Lib.hid (fun t ht => by
                  by_cases e : t = k
                  · subst e; omega
                  · exact HS.out t (by omega))
                have hdc : decide (xs.getD (k + 1) 0 < xs.getD k 0) = false := decide_eq_false hcmp
                generalize xs.getD (k + 1) 0 = x at *
                generalize xs.getD k 0 = y at *
                go_wp2_with fail
                go_big_quiet ((go_at_call 116; first | exact quiet_add_left (HI.out _) | exact quiet_left (HI.out _)))
                go_wp2_with fail
                go_roundw
                case rel => exact ⟨k + 1 + 1, _, by omega, by go_num, rfl, HD2, HS2⟩
                case measure => simp [intOf]; omega
        · obtain rfl : k = n := by omega
          have hdeg : ∀ t, t < xs.length → 0 ≤ xs.getD t 0 ∧ xs.getD t 0 ≤ 20 := fun t ht => HD.out t (by rw [Hn.out]; exact ht)
          have hsrt : ∀ t, t + 1 < xs.length → xs.getD t 0 ≤ xs.getD (t + 1) 0 := fun t ht => HS.out t (by rw [Hn.out]; exact ht)
          have HDEG := Lib.hid hdeg
          have HSRT := Lib.hid hsrt
          clear hlt hk hdeg hsrt HD HS
          go_wp2_with fail
          go_loopw [5] (fun i wr => ∃ q j : Nat, q ≤ m ∧ i = .int .i64 q ∧ wr = W0.drewN j ∧ Hid (∀ t, t < q → EntM xs ((dat L).getD t []))) (fun i _ => m - (intOf i).toNat)
          case atStart => exact ⟨0, _, by omega, rfl, rfl, Lib.hid (fun t ht => by omega)⟩
          case round =>
            obtain ⟨q, j', hq, rfl, rfl, HE⟩ := hrel
            by_cases hlt : q < m
            · have hqL : q < L.length := by rw [← Hm.out]; exact hlt
              obtain ⟨b, o, rfl, hc⟩ := HR'.out.at_ hqL
              have hin := HR'.out.inn q hqL
              have hle := HL.out q hqL
              have HNO := Lib.hid (fun (h : ¬ EntM xs ((dat L).getD q [])) => shpB_false (xs := xs) (Q := dat L) (fun hs => h (hs.ent q (by rw [dat_length]; exact hqL))))
              have HYES := Lib.hid (fun (h : EntM xs ((dat L).getD q [])) (t : Nat) (ht : t < q + 1) => show EntM xs ((dat L).getD t []) from by
                by_cases e : t = q
                · subst e; exact h
                · exact HE.out t (by omega))
              rw [dat_getD] at HNO HYES
              generalize rg L q = r at *
              obtain ⟨rA, rc, rx⟩ := r
              simp only at hc hin hle HNO HYES
              by_cases h3 : rx.length = 3
              · rw [h3] at hc
                obtain ⟨b1, o1, rfl, hy0⟩ := hin.atI (k := 0) (by omega)
                rw [Nat.add_zero] at hy0
                have hy1 := hin.cellI (k := 1) (by omega)
                have hy2 := hin.cellI (k := 2) (by omega)
                have hw1 : IntKind.i64.wrap ((k : Int) - 1) = (k : Int) - 1 := by rw [IntKind.wrap_i64]; omega
                have HI1 := Lib.hid (fun W => l01In_any (rx.getD 1 0) 0 ((k : Int) - 1) W)
                have HI2 := Lib.hid (fun W => l01In_any (rx.getD 2 0) 0 ((k : Int) - 1) W)
                have HM := Lib.hid (fun (g0 : 1 ≤ rx.getD 0 0) g1 g2 g3 g4 g5 => (⟨h3, g0, g1, g2, g3, g4, g5⟩ : EntM xs rx))
                have HN0 := Lib.hid (fun (h : ¬ 1 ≤ rx.getD 0 0) => HNO.out (fun e => h e.pos))
                have HN1 := Lib.hid (fun (h : ¬ (0 ≤ rx.getD 1 0 ∧ rx.getD 1 0 ≤ (k : Int) - 1)) => HNO.out (fun e => h ⟨e.lo1, by have := e.hi1; rw [← Hn.out] at this; omega⟩))
                have HN2 := Lib.hid (fun (h : ¬ (0 ≤ rx.getD 2 0 ∧ rx.getD 2 0 ≤ (k : Int) - 1)) => HNO.out (fun e => h ⟨e.lo2, by have := e.hi2; rw [← Hn.out] at this; omega⟩))
                have HN3 := Lib.hid (fun (h : ¬ xs.getD (rx.getD 2 0).toNat 0 = xs.getD (rx.getD 1 0).toNat 0 + rx.getD 0 0) => HNO.out (fun e => h e.dg))
                clear HNO hin h3
                generalize rx.getD 0 0 = e0 at *
                generalize rx.getD 1 0 = e1 at *
                generalize rx.getD 2 0 = e2 at *
                by_cases he0 : e0 < 1
                · have HF := Lib.hid (HN0.out (by omega))
                  go_wp2_with fail
                  go_big_quiet ((go_at_call 116; first | exact quiet_add_left (HI1.out _) | exact quiet_left (HI1.out _)))
                  go_wp2_with fail
                  go_ret
                  exact ⟨by rw [HF.out]; rfl, below_drewN (below_drewN HB.out _) _⟩
                · have hd0 : decide (e0 < 1) = false := decide_eq_false he0
                  cases hb1 : inB e1 0 ((k : Int) - 1)
                  · rw [hb1] at HI1
                    have HF := Lib.hid (HN1.out (inB_not hb1))
                    clear hb1
                    go_wp2_with fail
                    go_big_quiet ((go_at_call 116; first | exact quiet_add_left (HI1.out _) | exact quiet_left (HI1.out _)))
                    go_wp2_with fail
                    go_ret
                    exact ⟨by rw [HF.out]; rfl, below_drewN (below_drewN HB.out _) _⟩
                  · rw [hb1] at HI1
                    obtain ⟨hlo1, hhi1⟩ := inB_true2 hb1
                    clear hb1
                    cases hb2 : inB e2 0 ((k : Int) - 1)
                    · rw [hb2] at HI2
                      have HF := Lib.hid (HN2.out (inB_not hb2))
                      clear hb2
                      go_wp2_with fail
                      go_big_quiet ((go_at_call 116; first | with_reducible exact quiet_add_left (HI1.out _) | with_reducible exact quiet_left (HI1.out _) | with_reducible exact quiet_add_left (HI2.out _) | with_reducible exact quiet_left (HI2.out _)))
                      go_wp2_with fail
                      go_ret
                      exact ⟨by rw [HF.out]; rfl, below_drewN (below_drewN HB.out _) _⟩
                    · rw [hb2] at HI2
                      obtain ⟨hlo2, hhi2⟩ := inB_true2 hb2
                      clear hb2
                      obtain ⟨i1, rfl⟩ := Int.eq_ofNat_of_zero_le hlo1
                      obtain ⟨i2, rfl⟩ := Int.eq_ofNat_of_zero_le hlo2
                      rw [Int.toNat_natCast, Int.toNat_natCast] at HN3 HM
                      have hi1 : i1 < k := by omega
                      have hi2 : i2 < k := by omega
                      obtain ⟨b3, o3, rfl, hd1⟩ := HR.out.atI (k := i1) (by rw [← Hn.out]; exact hi1)
                      have hd2 := HR.out.cellI (k := i2) (by rw [← Hn.out]; exact hi2)
                      have hbd1 := HDEG.out i1 (by rw [← Hn.out]; exact hi1)
                      have hbd2 := HDEG.out i2 (by rw [← Hn.out]; exact hi2)
                      have hi1' : (i1 : Int) < (k : Int) := by omega
                      have hi2' : (i2 : Int) < (k : Int) := by omega
                      generalize xs.getD i1 0 = d1 at *
                      generalize xs.getD i2 0 = d2 at *
                      obtain ⟨g1, g2⟩ := hbd1
                      obtain ⟨g3, g4⟩ := hbd2
                      have hw2 : IntKind.i64.wrap (d2 - d1) = d2 - d1 := by rw [IntKind.wrap_i64]; omega
                      by_cases heq : d2 - d1 = e0
                      · have HEN := Lib.hid (HM.out (by omega) (by omega) (by rw [← Hn.out]; exact hi1') (by omega) (by rw [← Hn.out]; exact hi2') (by omega))
                        have heb : (d2 - d1 != e0) = false := by simpa using heq
                        clear heq
                        go_wp2_with fail
                        go_big_quiet ((go_at_call 116; first | with_reducible exact quiet_add_left (HI1.out _) | with_reducible exact quiet_left (HI1.out _) | with_reducible exact quiet_add_left (HI2.out _) | with_reducible exact quiet_left (HI2.out _)))
                        go_wp2_with fail
                        go_roundw
                        case rel => exact ⟨q + 1, _, by omega, by go_num, rfl, Lib.hid (HYES.out HEN.out)⟩
                        case measure => simp [intOf]; omega
                      · have HF := Lib.hid (HN3.out (by omega))
                        have heb : (d2 - d1 != e0) = true := by simpa using heq
                        clear heq
                        go_wp2_with fail
                        go_big_quiet ((go_at_call 116; first | with_reducible exact quiet_add_left (HI1.out _) | with_reducible exact quiet_left (HI1.out _) | with_reducible exact quiet_add_left (HI2.out _) | with_reducible exact quiet_left (HI2.out _)))
                        go_wp2_with fail
                        go_ret
                        exact ⟨by rw [HF.out]; rfl, below_drewN (below_drewN HB.out _) _⟩
              · have hrb : ((rx.length : Int) != 3) = true := by simp; omega
                have HF := Lib.hid (HNO.out (fun e => h3 e.len))
                clear h3 hin
                go_wp2_with fail
                go_big_quiet (fail)
                go_wp2_with fail
                go_ret
                exact ⟨by rw [HF.out]; rfl, below_drewN (below_drewN HB.out _) _⟩
            · have HT := Lib.hid (shpB_true (xs := xs) (Q := dat L) ⟨by rw [← Hn.out]; exact h16, HDEG.out, HSRT.out, HASC.out, fun t ht => HE.out t (by rw [dat_length, ← Hm.out] at ht; omega)⟩)
              go_wp2_with fail
              go_ret
              exact ⟨by rw [HT.out]; rfl, below_drewN HB.out _⟩
  · have HF := Lib.hid (shpB_false (xs := xs) (Q := dat L) (fun h => by have := h.len; omega))
    clear hR hR' hn hm hl hbel HAS
    go_enter Tryz.func114, Tryz.ntmps114
    go_wp2_with fail
    go_ret
    exact ⟨by rw [HF.out]; rfl, HB.out⟩
end Go.Proofs.YtpchigdhnnkpcaaGreatDoor

namespace Go.Proofs.YtpchigdhnnkpcaaGreatDoor
open Go.RowKit

theorem i64_andnot_nat {a b : Nat} (ha : Sm a) (hb : Sm b) : bits .andNot .i64 (a : Int) (b : Int) = ((nt a b : Nat) : Int) := by
  have hx : Sm (nt a b) := ha.xr ha.an
  have e : ∀ x y : BitVec 64, x &&& ~~~y = x ^^^ (x &&& y) := by
    intro x y; ext i; simp; cases x[i] <;> cases y[i] <;> rfl
  unfold Sm at *
  show IntKind.i64.wrap ((BitVec.ofInt 64 (a : Int) &&& ~~~BitVec.ofInt 64 (b : Int)).toNat : Int) = _
  rw [e, BitVec.toNat_xor, BitVec.toNat_and, ofInt64_nat a (by omega), ofInt64_nat b (by omega), IntKind.wrap_i64]
  unfold nt at *
  omega

/-- a module to be read -/
structure ModR (w : World) (A : Option Addr) (n : Nat) (A' : Option Addr) (m : Nat) (xs : List Int) (L : List Row) : Prop where
  hn : n = xs.length
  deg : Rd w A (iv xs)
  hm : m = L.length
  hm1 : m ≤ 1048576
  act : RdR w A' L
theorem ModR.below {w w' : World} {A A' : Option Addr} {n m : Nat} {xs : List Int} {L : List Row} (h : ModR w A n A' m xs L) (hb : Below w.heap.size w w') : ModR w' A n A' m xs L :=
  ⟨h.hn, h.deg.below hb, h.hm, h.hm1, h.act.below hb⟩

set_option maxRecDepth 100000 in
set_option maxHeartbeats 2000000 in
theorem l12Act_any (A A' : Option Addr) (n c m c' : Nat) (xs : List Int) (L : List Row) (z y : Int) (v : Nat) (w : World) (hM : ModR w A n A' m xs L) (hs : Shp xs (dat L)) (hy : y = (v : Int)) (hv : v < 2 ^ xs.length) :
    Calls Tryz.prog 81 #[.agg #[.slice A n c, .slice A' m c'], .int .i64 z, .int .i64 y] w fun e w' => e = .returned (.int .i64 (act (dat L) z v : Nat)) ∧ Below w.heap.size w w' := by
  subst hy
  have hn16 : n ≤ 16 := by rw [hM.hn]; exact hs.len
  have hb0 : Below w.heap.size w (w.alloc (.cells #[.slice A n c, .slice A' m c'] 29)) := (Below.refl _ _).alloc (Nat.le_refl _) _
  have hk0 := blk_new w (.cells #[.slice A n c, .slice A' m c'] 29)
  have HSM : Hid (Sm v) := Lib.hid (sm_pow (n := 16) (by omega) (Nat.lt_of_lt_of_le hv (Nat.pow_le_pow_right (by omega) hs.len)))
  have HLT : Hid (act (dat L) z v < 2 ^ n) := Lib.hid (by rw [hM.hn]; exact act_lt hs hv z)
  have HA := Lib.hid (fun (V : Option Addr) (cv : Nat) W (hb : Below w.heap.size w W) hV => l11Act_any A A' V n c m c' cv xs L z v W hM.hn hM.hm hs hM.hm1 (hM.act.below hb) hV)
  have HB0 := Lib.hid hb0
  have KS := Lib.hid (fun w' (hb : Below (w.alloc (.cells #[.slice A n c, .slice A' m c'] 29)).heap.size (w.alloc (.cells #[.slice A n c, .slice A' m c'] 29)) w') => show w'.cell? ⟨w.heap.size, 0, none⟩ = some (.slice A n c) ∧ w'.cell? ⟨w.heap.size, 1, none⟩ = some (.slice A' m c') from by
    obtain ⟨x0, x1, _⟩ := blk2cells (blk_kept hk0 hb)
    exact ⟨x0, x1⟩)
  have HB_0 := Lib.hid (Below.drew (Below.refl (w.alloc (.cells #[.slice A n c, .slice A' m c'] 29)).heap.size (w.alloc (.cells #[.slice A n c, .slice A' m c'] 29))))
  clear hM hs hv hb0 hk0
  go_enter Tryz.func81, Tryz.ntmps81
  go_wp2_with fail
  go_region_held3 (fun w' => w'.cell? ⟨w.heap.size, 0, none⟩ = some (.slice A n c) ∧ w'.cell? ⟨w.heap.size, 1, none⟩ = some (.slice A' m c'))
    (first | exact KS.out _ HB_0.out | exact KS.out _ HB_1.out | exact KS.out _ HB_2.out)
    (first
      | (go_at_call 83; (with_reducible refine (l12Vector_any n v _ (by omega) HSM.out).mono ?_); (rintro e w1 ⟨g1, c1, rfl, ho, hb⟩; have HO1 := Lib.hid ho; have HB_1 := Lib.hid (HB_0.out.trans (hb.mono HB_0.out.size)); clear ho hb))
      | (go_at_call 109; (with_reducible refine (HA.out _ _ _ (HB0.out.trans (HB_1.out.mono HB0.out.size)) (owns_Rd HO1.out)).mono ?_); (rintro e w2 ⟨g2, c2, rfl, ho, hb⟩; have HO2 := Lib.hid ho; have HB_2 := Lib.hid (HB_1.out.trans (hb.mono HB_1.out.size)); clear ho hb))
      | (go_at_call 70; (with_reducible refine (l12Mask_any _ n _ _ _ (by omega) HLT.out (owns_Rd HO2.out)).mono ?_); (rintro e w3 ⟨rfl, rfl⟩)))
  go_wp2_with fail
  go_ret
  exact ⟨rfl, HB0.out.trans (HB_2.out.mono HB0.out.size)⟩
end Go.Proofs.YtpchigdhnnkpcaaGreatDoor

namespace Go.Proofs.YtpchigdhnnkpcaaGreatDoor
open Go.RowKit

theorem frontL_len (i : Int) (ws : List Int) : (frontL i ws).length ≤ ws.length + 1 := by unfold frontL; split <;> simp
theorem rows_one {M : List Row} {x : List Int} (h : dat M = [x]) : ∃ r, M = [r] ∧ r.xs = x := by
  match M, h with
  | [r], h => exact ⟨r, rfl, by simpa [dat] using h⟩

set_option maxRecDepth 100000 in
set_option maxHeartbeats 1000000 in
theorem left_put (i : Int) (A X : Option Addr) (c cX : Nat) (ws : List Int) (w : World) (hi : 0 ≤ i) (hi2 : i ≤ 1000) (hl : ws.length ≤ 1000) (hw : 0 ≤ ws.getD 0 0 ∧ ws.getD 0 0 ≤ 1000) (hc : i = 0 ∨ ws = [] ∨ 2 * ws.getD 0 0 ≤ i) (hR : RdR w A [⟨X, cX, ws⟩]) :
    Calls Tryz.prog 152 #[.int .i64 i, .slice A 1 c] w (ResRows [frontL i ws] w) := by
  have HR := Lib.hid hR
  obtain ⟨hw1, hw2⟩ := hw
  have HC := Lib.hid hc
  clear hR hc
  go_enter Tryz.func152, Tryz.ntmps152
  go_wp2_with fail
  go_loopw [5, 6] (fun v s6 wr => ∃ k : Nat, ∃ M : List Row, ∃ A1 c1, k ≤ 1 ∧ s6 = .int .i64 k ∧ v = .slice A1 k c1 ∧ Hid (dat M = if k = 0 then [] else [frontL i ws]) ∧ Hid (k = 0 → A1 = some ⟨w.heap.size, 0, none⟩ ∧ c1 = 0) ∧ OwnR wr w.heap.size (.slice A1 k c1) M ∧ Below w.heap.size w wr) (fun _ i _ => 1 - (intOf i).toNat)
  case atStart => exact ⟨0, [], some ⟨w.heap.size, 0, none⟩, 0, by omega, rfl, rfl, Lib.hid rfl, Lib.hid (fun _ => ⟨rfl, rfl⟩), OwnR.made w (Nat.le_refl _), (Below.refl _ _).alloc (Nat.le_refl _) _⟩
  case round =>
    obtain ⟨k, M, A1, c1, hk, rfl, rfl, HD, HZ, hown, hbel⟩ := hrel
    have HBL := Lib.hid hbel
    have hsz := hbel.size
    rcases (show k = 0 ∨ k = 1 by omega) with rfl | rfl
    · obtain ⟨e1, e2⟩ := HZ.out rfl
      subst e1
      subst e2
      have hR1 := HR.out.below hbel
      obtain ⟨b, o, rfl, hcell⟩ := hR1.at_ (k := 0) (by simp)
      have hin := HR.out.inn 0 (by simp)
      rw [Nat.add_zero, rg_cons_zero] at hcell
      rw [rg_cons_zero] at hin
      simp only at hcell hin
      have HF := Lib.hid (fun W (hb : Below w.heap.size w W) => l03Front_any i X ws.length cX ws W rfl (by omega) (hin.below hb))
      clear hR1 hown
      by_cases h0 : i = 0
      · have h0b : (i == 0) = true := by simpa using h0
        clear hin hbel h0
        go_wp2_with fail
        refine (HF.out _ HBL.out).mono ?_
        rintro e w1 ⟨g, kk, cap, rfl, hkk, ho, hb⟩
        have HKK := Lib.hid hkk.out
        have hk6 : kk ≤ 1000000 := by have := frontL_len i ws; rw [hkk.out]; omega
        have HB1 := Lib.hid hb
        have HP := Lib.hid (l01PutNil_any w.heap.size (some ⟨g, 0, none⟩) kk cap (frontL i ws) w1 hkk.out hk6 (owns_Rd ho))
        clear ho hb hkk
        go_wp2_with fail
        refine HP.out.mono ?_
        rintro e w2 ⟨v, M2, rfl, hd2, ho2, hb2⟩
        obtain ⟨r2, rfl, hr2⟩ := rows_one hd2
        obtain ⟨A2, c2, rfl, _, himp, heq⟩ := owns_shape ho2.out
        clear himp heq
        have HD2 := Lib.hid hd2
        have HO2 := Lib.hid (ho2.mono (Nat.le_trans hsz HB1.out.size))
        have HB2 := Lib.hid ((HBL.out.trans (HB1.out.mono hsz)).trans (hb2.mono (Nat.le_trans hsz HB1.out.size)))
        clear ho2 hb2 hd2 hr2
        go_wp2_with fail
        go_roundw
        case rel => exact ⟨1, [r2], A2, c2, by omega, rfl, rfl, Lib.hid (by rw [HD2.out]; rfl), Lib.hid (fun h => by omega), HO2.out, HB2.out⟩
        case measure => simp [intOf]
      · have h0b : (i == 0) = false := by simpa using h0
        by_cases h1 : ws = []
        · have hlb : ((ws.length : Int) == 0) = true := by rw [h1]; rfl
          clear hin hbel h0 h1
          go_wp2_with fail
          refine (HF.out _ HBL.out).mono ?_
          rintro e w1 ⟨g, kk, cap, rfl, hkk, ho, hb⟩
          have HKK := Lib.hid hkk.out
          have hk6 : kk ≤ 1000000 := by have := frontL_len i ws; rw [hkk.out]; omega
          have HB1 := Lib.hid hb
          have HP := Lib.hid (l01PutNil_any w.heap.size (some ⟨g, 0, none⟩) kk cap (frontL i ws) w1 hkk.out hk6 (owns_Rd ho))
          clear ho hb hkk
          go_wp2_with fail
          refine HP.out.mono ?_
          rintro e w2 ⟨v, M2, rfl, hd2, ho2, hb2⟩
          obtain ⟨r2, rfl, hr2⟩ := rows_one hd2
          obtain ⟨A2, c2, rfl, _, himp, heq⟩ := owns_shape ho2.out
          clear himp heq
          have HD2 := Lib.hid hd2
          have HO2 := Lib.hid (ho2.mono (Nat.le_trans hsz HB1.out.size))
          have HB2 := Lib.hid ((HBL.out.trans (HB1.out.mono hsz)).trans (hb2.mono (Nat.le_trans hsz HB1.out.size)))
          clear ho2 hb2 hd2 hr2
          go_wp2_with fail
          go_roundw
          case rel => exact ⟨1, [r2], A2, c2, by omega, rfl, rfl, Lib.hid (by rw [HD2.out]; rfl), Lib.hid (fun h => by omega), HO2.out, HB2.out⟩
          case measure => simp [intOf]
        · have hlp : 0 < ws.length := by cases ws with | nil => exact absurd rfl h1 | cons a l => simp
          have hlb : ((ws.length : Int) == 0) = false := by simp; omega
          have hge : 2 * ws.getD 0 0 ≤ i := by rcases HC.out with h | h | h; exact absurd h h0; exact absurd h h1; exact h
          obtain ⟨b1, o1, rfl, hx⟩ := (hin.below hbel).atI hlp
          rw [Nat.add_zero] at hx
          clear hin hbel h0 h1
          generalize hx0 : ws.getD 0 0 = x at *
          have HX0 := Lib.hid hx0
          clear hx0
          go_wp2_with fail
          refine (HF.out _ HBL.out).mono ?_
          rintro e w1 ⟨g, kk, cap, rfl, hkk, ho, hb⟩
          have HKK := Lib.hid hkk.out
          have hk6 : kk ≤ 1000000 := by have := frontL_len i ws; rw [hkk.out]; omega
          have HB1 := Lib.hid hb
          have HP := Lib.hid (l01PutNil_any w.heap.size (some ⟨g, 0, none⟩) kk cap (frontL i ws) w1 hkk.out hk6 (owns_Rd ho))
          clear ho hb hkk
          go_wp2_with fail
          refine HP.out.mono ?_
          rintro e w2 ⟨v, M2, rfl, hd2, ho2, hb2⟩
          obtain ⟨r2, rfl, hr2⟩ := rows_one hd2
          obtain ⟨A2, c2, rfl, _, himp, heq⟩ := owns_shape ho2.out
          clear himp heq
          have HD2 := Lib.hid hd2
          have HO2 := Lib.hid (ho2.mono (Nat.le_trans hsz HB1.out.size))
          have HB2 := Lib.hid ((HBL.out.trans (HB1.out.mono hsz)).trans (hb2.mono (Nat.le_trans hsz HB1.out.size)))
          clear ho2 hb2 hd2 hr2
          go_wp2_with fail
          go_roundw
          case rel => exact ⟨1, [r2], A2, c2, by omega, rfl, rfl, Lib.hid (by rw [HD2.out]; rfl), Lib.hid (fun h => by omega), HO2.out, HB2.out⟩
          case measure => simp [intOf]
    · have HO := Lib.hid hown
      have HD1 : Hid (dat M = [frontL i ws]) := Lib.hid (by rw [HD.out]; rfl)
      clear hown hbel
      go_wp2_with fail
      go_ret
      exact ⟨_, M, rfl, HD1.out, HO.out, HBL.out⟩
end Go.Proofs.YtpchigdhnnkpcaaGreatDoor
