/- the program's EulerCounts -/
import Derived.Test.YtocllmhkppkfoaaEc
import Derived.StillTailTactics
namespace Go.Proofs.Ytocllmhkppkfoaa
open Go.RowKit

theorem euler_closure (w : World) (x : Int) : Asks0 Try.prog 42 w (.int .i64 x) (inB x 0 1000) := by
  intro m
  have HI := Lib.hid (fun W => in_any x 0 1000 W)
  go_enter Try.func42, Try.ntmps42
  go_wp2_with (go_at_call 40; refine (HI.out _).mono ?_; rintro e w' ⟨rfl, rfl⟩)
  go_ret
  exact ⟨rfl, m, rfl⟩
theorem EuMem.drew {w0 w : World} {kc g m : Nat} {ys : List Int} (h : EuMem w0 w kc g m ys) : EuMem w0 w.drew kc g m ys := h.drewN 1
set_option maxRecDepth 100000 in
set_option maxHeartbeats 4000000 in
theorem implEuler_any (A : Option Addr) (n c : Nat) (L : List Row) (w : World) (hn : n = L.length) (hsm : n ≤ 1048576) (hl : ∀ i, i < L.length → (rg L i).xs.length ≤ 1048576) (hR : RdR w A L) :
    Calls Try.prog 12 #[.slice A n c] w (EuPost L w) := by
  by_cases h1 : n < 1
  · have HN := Lib.hid (show ¬ euOk L from fun h => by have := h.1; omega)
    go_enter Try.func12, Try.ntmps12
    go_wp2_with fail
    go_ret2
    exact eu_not HN.out (Below.refl _ _)
  by_cases h2 : 5 < n
  · have HN := Lib.hid (show ¬ euOk L from fun h => by have := h.2.1; omega)
    go_enter Try.func12, Try.ntmps12
    go_wp2_with fail
    go_ret2
    exact eu_not HN.out (Below.refl _ _)
  obtain ⟨b, o, rfl, hc0⟩ := hR.at_ (k := 0) (by omega)
  rw [Nat.add_zero, show (rg L 0).xs.length = euM L from rfl] at hc0
  have hm0 : euM L ≤ 1048576 := hl 0 (by omega)
  generalize hA0 : (rg L 0).A = A0 at hc0
  generalize hC0 : (rg L 0).c = c0 at hc0
  generalize hM : euM L = m at *
  have HM := Lib.hid hM
  clear hM hA0 hC0
  have Hn := Lib.hid hn
  have HL := Lib.hid hl
  have HR := Lib.hid hR
  have HC0 := Lib.hid (fun w' (hb : Below w.heap.size w w') => cell_keep hc0 hb)
  have i1 : ¬ (n : Int) < 1 := by omega
  have i2 : ¬ (5 : Int) < (n : Int) := by omega
  have hn0 : 0 < n := by omega
  have hn1 : (0 : Int) < (n : Int) := by omega
  clear hn hl hR
  go_enter Try.func12, Try.ntmps12
  go_wp2_with fail
  go_loopw [24] (fun i wr => ∃ k : Nat, k ≤ n ∧ i = .int .i64 k ∧ Below w.heap.size w wr ∧ Hid (∀ i, i < k → (1 ≤ m ∧ m ≤ 15) ∧ euRow L m i)) (fun i _ => n - (intOf i).toNat)
  case atStart => exact ⟨0, by omega, rfl, Below.refl _ _, Lib.hid (fun i hi => by omega)⟩
  case round =>
    obtain ⟨k, hk, rfl, hbel, HK⟩ := hrel
    have HB := Lib.hid hbel
    have hsz := hbel.size
    have hc0' := HC0.out _ hbel
    clear hbel
    by_cases hlt : k < n
    · have hkL : k < L.length := by rw [← Hn.out]; exact hlt
      have hR1 := HR.out.below HB.out
      have hc := hR1.cell hkL
      have hRi := hR1.inn k hkL
      have hs := HL.out k hkL
      clear hR1
      generalize hr : rg L k = r at *
      have Hr := Lib.hid hr
      clear hr
      obtain ⟨rA, rc, rx⟩ := r
      simp only at hc hRi hs
      by_cases hrm : rx.length = m
      · have HRX := Lib.hid hrm
        rw [hrm] at hc hs
        clear hrm
        have HIN := Lib.hid (fun W => in_any (m : Int) 1 15 W)
        cases hi : inB (m : Int) 1 15
        · rw [hi] at HIN
          have HN := Lib.hid (show ¬ euOk L from fun h => by
            have := h.2.2.1
            have := h.2.2.2.1
            rw [HM.out] at *
            simp [inB] at hi
            omega)
          clear hi hRi
          go_wp2_with (go_at_call 40; refine (HIN.out _).mono ?_; rintro e w' ⟨rfl, rfl⟩)
          go_ret2
          exact eu_not HN.out HB.out
        · rw [hi] at HIN
          have h15 := inB_true2 hi
          have HALL := Lib.hid (all0_any rA m rc rx 42 (fun x => inB x 0 1000) wr (fun args w => Try.call42 args w) HRX.out.symm (by omega) hRi (fun x _ o => euler_closure _ x))
          clear hi hRi
          cases ha : rx.all (fun x => inB x 0 1000)
          · rw [ha] at HALL
            have HN := Lib.hid (show ¬ euOk L from fun h => by
              have h9 := (h.2.2.2.2 k hkL).2
              rw [Hr.out, HM.out] at h9
              have : rx.all (fun x => inB x 0 1000) = true := all_getD.2 (fun t ht => h9 t (by rw [← HRX.out]; exact ht))
              rw [ha] at this
              cases this)
            clear ha
            go_wp2_with (first | (go_at_call 40; refine (HIN.out _).mono ?_; rintro e w' ⟨rfl, rfl⟩) | (go_at_call 41; refine HALL.out.mono ?_; rintro e w2 ⟨rfl, hb2⟩; have HB2 := Lib.hid hb2; clear hb2))
            go_ret2
            exact eu_not HN.out (HB.out.trans (HB2.out.mono hsz))
          · rw [ha] at HALL
            have HRO : Hid ((1 ≤ m ∧ m ≤ 15) ∧ euRow L m k) := Lib.hid ⟨by omega, by
              rw [euRow, Hr.out]
              exact ⟨HRX.out, fun t ht => all_getD.1 ha t (by rw [HRX.out]; exact ht)⟩⟩
            clear ha
            go_wp2_with (first | (go_at_call 40; refine (HIN.out _).mono ?_; rintro e w' ⟨rfl, rfl⟩) | (go_at_call 41; refine HALL.out.mono ?_; rintro e w2 ⟨rfl, hb2⟩; have HB2 := Lib.hid hb2; clear hb2))
            go_roundw
            case rel =>
              refine ⟨k + 1, by omega, by go_num, HB.out.trans (HB2.out.mono hsz), Lib.hid (fun i hi => ?_)⟩
              by_cases e : i = k
              · subst e; exact HRO.out
              · exact HK.out i (by omega)
            case measure => simp [intOf]; omega
      · have hrb : ((rx.length : Int) != (m : Int)) = true := by simp; omega
        have HN := Lib.hid (show ¬ euOk L from fun h => by
          have h9 := (h.2.2.2.2 k hkL).1
          rw [Hr.out, HM.out] at h9
          exact hrm h9)
        clear hrm
        go_wp2_with fail
        go_ret2
        exact eu_not HN.out HB.out
    · obtain rfl : n = k := by omega
      have h15 := (HK.out 0 hn0).1
      have HOK : Hid (euOk L) := Lib.hid ⟨by rw [← Hn.out]; omega, by rw [← Hn.out]; omega, by rw [HM.out]; omega, by rw [HM.out]; omega, by rw [HM.out, ← Hn.out]; exact fun k hk => (HK.out k hk).2⟩
      have HR0 := Lib.hid (HR.out.below HB.out)
      obtain ⟨W0, rfl⟩ : ∃ W0, W0 = wr := ⟨wr, rfl⟩
      have HKp := Lib.hid (fun w' (hb : Below W0.heap.size W0 w') => cell_keep hc0' hb)
      have hmk := run_make_row' (P := Try.prog) 24 2 (.int .i64 0) 8 Try.underlying24 infoI rfl .i64 .i64 m (by omega) (by omega)
      go_wp2_with fail
      go_cut [6, 7] (fun cn o wx => EuGot W0 wx m cn o)
      case first =>
        have HBa := Lib.hid (Below.drew (Below.refl W0.heap.size W0))
        have HBb : Hid (Below W0.heap.size W0 (W0.alloc (.cells (madeCells #[.int .i64 0] m) 2)).drew) := Lib.hid ((Below.refl _ _).alloc (Nat.le_refl _) _).drew
        go_region_held3 (fun w' => w'.cell? ⟨b, o, none⟩ = some (.slice A0 m c0))
          (first | exact HKp.out _ HBa.out | exact HKp.out _ HBb.out | exact HKp.out _ HB1.out | exact HKp.out _ (HB1.out.alloc HB1.out.size _))
          (first
            | (go_at_call 43; (with_reducible refine (countPartitions_any _).mono ?_); (rintro e w1 ⟨kc, rfl, ho, hb⟩; have HB1 : Hid (Below W0.heap.size W0 w1) := Lib.hid (by first | exact HBa.out.trans hb | exact HBb.out.trans (hb.mono (by simp))); have HO := Lib.hid ho; have HBx := Lib.hid hb; clear ho hb)))
        all_goals go_wp2_with fail
        all_goals go_meet
        all_goals (first | exact eu_a HO.out HB1.out (by omega) | exact eu_b HO.out HBx.out (by omega))
      case rest =>
        obtain ⟨kc, g, rfl, rfl, hmem⟩ := hcut
        have HMEM := Lib.hid hmem
        have HST := Lib.hid (EuS.start L m)
        clear hmem hmk hc0'
        go_wp2_with fail
        go_loopw [55] (fun i wr => ∃ k ys, k ≤ n ∧ i = .int .i64 k ∧ Hid (EuS L m k 0 0 ys) ∧ EuMem W0 wr kc g m ys) (fun i _ => n - (intOf i).toNat)
        case atStart => exact ⟨0, _, by omega, rfl, HST, HMEM.out⟩
        case round =>
          obtain ⟨k, ys, hk, rfl, HS, hmem⟩ := hrel
          have HM1 := Lib.hid hmem
          clear hmem
          by_cases hlt : k < n
          · have hkL : k < L.length := by rw [← Hn.out]; exact hlt
            have hro := HOK.out.2.2.2.2 k hkL
            have hR1 := HR0.out.below HM1.out.bel
            have hc := hR1.cell hkL
            have hcap := hR1.cap k hkL
            obtain ⟨WA, rfl⟩ : ∃ WA, WA = wr := ⟨wr, rfl⟩
            have HRI := Lib.hid (fun w' (hb : Below W0.heap.size W0 w') => (HR0.out.below hb).inn k hkL)
            clear hR1
            rw [HM.out] at hro
            obtain ⟨hrl, hrb⟩ := hro
            have HSS := Lib.hid (fun t u ys (h : EuS L m k t u ys) ht => h.step ht)
            generalize rg L k = r at *
            obtain ⟨rA, rc, rx⟩ := r
            simp only at hc HRI hrl hrb hcap HSS
            rw [hrl] at hc hcap
            have HRL := Lib.hid hrl
            have HRB := Lib.hid hrb
            obtain ⟨b1, o1, rfl, _⟩ := (HRI.out _ HM1.out.bel).atI (k := 0) (by rw [hrl]; omega)
            clear hrl hrb
            rcases Nat.mod_two_eq_zero_or_one k with hk2 | hk2
            all_goals
              have HK2 := Lib.hid hk2
              first | (have hki : (k : Int) % 2 = 0 := by omega) | (have hki : (k : Int) % 2 = 1 := by omega)
              clear hk2
              go_wp2_with fail
              try simp only [hki]
              go_loopw [66] (fun i wr => ∃ t ys, t ≤ m ∧ i = .int .i64 t ∧ Hid (EuS L m k t 0 ys) ∧ EuMem W0 wr kc g m ys) (fun i _ => m - (intOf i).toNat)
              case atStart => exact ⟨0, ys, by omega, rfl, HS, HM1.out⟩
              case round =>
                obtain ⟨t, ys, ht, rfl, HS, hmem⟩ := hrel
                have HM2 := Lib.hid hmem
                clear hmem
                by_cases hlt2 : t < m
                · obtain ⟨WB, rfl⟩ : ∃ WB, WB = wr := ⟨wr, rfl⟩
                  have ht1 : (t : Int) + 1 ≤ (rc : Int) := by omega
                  have ht0 : (0 : Int) ≤ (t : Int) + 1 := by omega
                  have ht2 : ((t : Int) + 1).toNat = t + 1 := by omega
                  go_wp2_with fail
                  go_loopw [74] (fun i wr => ∃ u ys, u ≤ t + 1 ∧ i = .int .i64 u ∧ Hid (EuS L m k t u ys) ∧ EuMem W0 wr kc g m ys) (fun i _ => t + 1 - (intOf i).toNat)
                  case atStart => exact ⟨0, ys, by omega, rfl, HS, HM2.out⟩
                  case round =>
                    obtain ⟨u, ys, hu, rfl, HS, hmem⟩ := hrel
                    by_cases hlt3 : u < t + 1
                    · have hx := (HRI.out _ hmem.bel).cellI (k := u) (by rw [HRL.out]; omega)
                      have hxb := inB_true2 (HRB.out u (by omega))
                      have hcb := cnt14_bd (t - u) (by omega)
                      have HSX := Lib.hid (HSS.out t u ys HS.out hlt2)
                      have hy := owns_getD hmem.out hlt2
                      have hz := owns_getD hmem.cnt (k := t - u) (by omega)
                      have fz := hmem.out.frozenAt t
                      have hwa : IntKind.i64.wrap ((t : Int) - u) = (t : Int) - u := by rw [IntKind.wrap_i64]; omega
                      have hwb : wrap64 ((t : Int) - u) = (t : Int) - u := by unfold wrap64; omega
                      have hi0 : 0 ≤ (t : Int) - u := by omega
                      have hi1 : (t : Int) - u < 15 := by omega
                      have hi2 : ((t : Int) - u).toNat = t - u := by omega
                      have hi3 : u < m := by omega
                      have hut : u ≤ t := by omega
                      have HM3 := Lib.hid hmem
                      generalize rx.getD u 0 = x at *
                      generalize cnt14.getD (t - u) 0 = z at *
                      generalize ys.getD t 0 = y at *
                      obtain ⟨hp1, hp2⟩ := prod_bd hxb.1 hxb.2 hcb.1 hcb.2
                      have hxb1 := hxb.1
                      have hxb2 := hxb.2
                      have hpn : -x * z = -(x * z) := Int.neg_mul ..
                      have HE : Hid (euStep k y x z = if k % 2 = 1 then wrap64 (y + -(x * z)) else wrap64 (y + x * z)) := Lib.hid (by unfold euStep; split <;> rfl)
                      clear hmem hxb hcb
                      go_wp2_with fail
                      go_still_tail 15, (by kernel_rfl)
                      all_goals
                        go_wp2_with fail
                        go_roundw
                        case rel => exact ⟨u + 1, _, by omega, by go_num, HSX, by rw [HE.out]; first | (rw [if_pos HK2.out]; exact (HM3.out.store t _).drew) | (rw [if_neg (by have := HK2.out; omega)]; exact (HM3.out.store t _).drew)⟩
                        case measure => simp [intOf]; omega
                    · obtain rfl : u = t + 1 := by omega
                      have HM3 := Lib.hid hmem
                      clear hmem
                      go_wp2_with fail
                      go_roundw
                      case rel => exact ⟨t + 1, ys, by omega, by go_num, Lib.hid HS.out.next, HM3.out⟩
                      case measure => simp [intOf]; omega
                · obtain rfl : t = m := by omega
                  go_wp2_with fail
                  go_roundw
                  case rel => exact ⟨k + 1, ys, by omega, by go_num, Lib.hid HS.out.row, HM2.out⟩
                  case measure => simp [intOf]; omega
          · obtain rfl : k = n := by omega
            go_wp2_with fail
            go_ret2
            have h8 := HM1.out
            have h9 := HS.out
            rw [← HM.out] at h8 h9
            rw [Hn.out] at h9
            have := eu_yes HOK.out hsz HB.out h8 h9
            rw [HM.out] at this
            exact this
end Go.Proofs.Ytocllmhkppkfoaa
