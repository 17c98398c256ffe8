/- the reference's EulerCounts -/
import Derived.Test.YtocllmhkppkfoaaEb
import Derived.Test.YtocllmhkppkfoaaLw2
import Derived.Test.YtocllmhkppkfoaaD
import Derived.Deep.DeepCutAuto
namespace Go.Proofs.Ytocllmhkppkfoaa
open Go.RowKit

/-- the memory of EulerCounts: the counts and the sums -/
structure EuMem (w0 w : World) (kc g m : Nat) (ys : List Int) : Prop where
  cnt : w.ownsRow w0.heap.size 2 1 (.slice (some ⟨kc, 0, none⟩) 15 15) 15 (iv cnt14)
  out : w.ownsRow w0.heap.size 2 1 (.slice (some ⟨g, 0, none⟩) m m) m (iv ys)
  ne : kc ≠ g
  bel : Below w0.heap.size w0 w
theorem EuMem.store {w0 w : World} {kc g m : Nat} {ys : List Int} (h : EuMem w0 w kc g m ys) (t : Nat) (x : Int) : EuMem w0 (w.setCell ⟨g, t, none⟩ (.int .i64 x)) kc g m (ys.set t x) := by
  have hk := (Keeps.refl w [some g]).setCell (p := ⟨g, t, none⟩) (by simp) (.int .i64 x)
  refine ⟨owns_keeps h.cnt hk (.inr (by simp [Value.ownBlock]; exact h.ne)), ?_, h.ne, h.bel.setCell (p := ⟨g, t, none⟩) (h.out.lt g rfl).1 _⟩
  rw [iv_set]; exact (World.ownsRow.stored h.out t _).1
theorem EuMem.drewN {w0 w : World} {kc g m : Nat} {ys : List Int} (h : EuMem w0 w kc g m ys) (j : Nat) : EuMem w0 (w.drewN j) kc g m ys :=
  ⟨owns_keeps h.cnt (Keeps.ofDrewN (S := []) w j) (.inr (by simp)), owns_keeps h.out (Keeps.ofDrewN (S := []) w j) (.inr (by simp)), h.ne, below_drewN h.bel j⟩
def EuGot (w0 w : World) (m : Nat) (cn o : Value) : Prop := ∃ kc g, cn = .slice (some ⟨kc, 0, none⟩) 15 15 ∧ o = .slice (some ⟨g, 0, none⟩) m m ∧ EuMem w0 w kc g m (List.replicate m 0)
theorem eu_a {W w1 : World} {kc m : Nat} (ho : w1.ownsRow W.heap.size 2 1 (.slice (some ⟨kc, 0, none⟩) 15 15) 15 (iv cnt14)) (hb : Below W.heap.size W w1) (hm : m ≤ 1000) :
    EuGot W (w1.alloc (.cells (madeCells #[.int .i64 0] m) 2)) m (.slice (some ⟨kc, 0, none⟩) 15 15) (.slice (some ⟨w1.heap.size, 0, none⟩) m m) :=
  ⟨kc, w1.heap.size, rfl, rfl, ho.alloc _, made_own w1 _ m hb.size (by omega), Nat.ne_of_lt (ho.lt kc rfl).2, hb.alloc hb.size _⟩
theorem eu_b {W w1 : World} {kc m : Nat} (ho : w1.ownsRow (W.alloc (.cells (madeCells #[.int .i64 0] m) 2)).drew.heap.size 2 1 (.slice (some ⟨kc, 0, none⟩) 15 15) 15 (iv cnt14)) (hb : Below (W.alloc (.cells (madeCells #[.int .i64 0] m) 2)).drew.heap.size (W.alloc (.cells (madeCells #[.int .i64 0] m) 2)).drew w1) (hm : m ≤ 1000) :
    EuGot W w1 m (.slice (some ⟨kc, 0, none⟩) 15 15) (.slice (some ⟨W.heap.size, 0, none⟩) m m) := by
  have h1 := (ho.lt kc rfl).1
  simp at h1
  have hd := owns_keeps (made_own W W.heap.size m (Nat.le_refl _) (by omega)) (Keeps.drew (S := []) (Keeps.refl _ _)) (.inr (by simp))
  exact ⟨kc, W.heap.size, rfl, rfl, ho.mono (by simp), owns_keeps hd (Keeps.of_below hb) (.inr (by simp)), by omega, (((Below.refl _ _).alloc (Nat.le_refl _) _).drew).trans (hb.mono (by simp))⟩

def EuPost (L : List Row) (w : World) (e : Ending) (w' : World) : Prop := ResS (eulerOf L) w e w'
theorem eu_not {L : List Row} (h : ¬ euOk L) {w w' : World} (hb : Below w.heap.size w w') : EuPost L w (.returned (.tuple #[.slice none 0 0, .int .i64 2])) w' :=
  ⟨_, by rw [eulerOf_not h], by rw [eulerOf_not h]; exact World.ownsRow_nil _ _ _ _, hb⟩
theorem eu_yes {L : List Row} (h : euOk L) {w w' W0 : World} {kc g : Nat} {ys : List Int} (h0 : w.heap.size ≤ W0.heap.size) (hb0 : Below w.heap.size w W0) (hm : EuMem W0 w' kc g (euM L) ys) (hs : EuS L (euM L) L.length 0 0 ys) : EuPost L w (.returned (.tuple #[.slice (some ⟨g, 0, none⟩) (euM L) (euM L), .int .i64 0])) w' := by
  refine ⟨_, by rw [eulerOf_ok h], ?_, hb0.trans (hm.bel.mono h0)⟩
  rw [eulerOf_ok h]
  have := hm.out.mono h0
  rw [hs.all] at this
  simpa using this

set_option maxRecDepth 100000 in
set_option maxHeartbeats 4000000 in
theorem specEuler_any (A : Option Addr) (n c : Nat) (L : List Row) (w : World) (hn : n = L.length) (hsm : n ≤ 1048576) (hl : ∀ i, i < L.length → (rg L i).xs.length ≤ 1048576) (hR : RdR w A L) :
    Calls Try.prog 10 #[.slice A n c] w (EuPost L w) := by
  by_cases h1 : n < 1
  · have HN := Lib.hid (show ¬ euOk L from fun h => by have := h.1; omega)
    go_enter Try.func10, Try.ntmps10
    go_wp2_with fail
    go_ret2
    exact eu_not HN.out (Below.refl _ _)
  by_cases h2 : 5 < n
  · have HN := Lib.hid (show ¬ euOk L from fun h => by have := h.2.1; omega)
    go_enter Try.func10, Try.ntmps10
    go_wp2_with fail
    go_ret2
    exact eu_not HN.out (Below.refl _ _)
  obtain ⟨b, o, rfl, hc0⟩ := hR.at_ (k := 0) (by omega)
  rw [Nat.add_zero, show (rg L 0).xs.length = euM L from rfl] at hc0
  have hm0 : euM L ≤ 1048576 := hl 0 (by omega)
  generalize hA0 : (rg L 0).A = A0 at hc0
  generalize hC0 : (rg L 0).c = c0 at hc0
  generalize hM : euM L = m at *
  have HM := Lib.hid hM
  clear hM hA0 hC0
  by_cases h3 : m < 1
  · have HN := Lib.hid (show ¬ euOk L from fun h => by have := h.2.2.1; rw [HM.out] at this; omega)
    clear hn hl hR
    go_enter Try.func10, Try.ntmps10
    go_wp2_with fail
    go_ret2
    exact eu_not HN.out (Below.refl _ _)
  by_cases h4 : 15 < m
  · have HN := Lib.hid (show ¬ euOk L from fun h => by have := h.2.2.2.1; rw [HM.out] at this; omega)
    clear hn hl hR
    go_enter Try.func10, Try.ntmps10
    go_wp2_with fail
    go_ret2
    exact eu_not HN.out (Below.refl _ _)
  have Hn := Lib.hid hn
  have HL := Lib.hid hl
  have HR := Lib.hid hR
  have i1 : ¬ (n : Int) < 1 := by omega
  have i2 : ¬ (5 : Int) < (n : Int) := by omega
  have i3 : ¬ (m : Int) < 1 := by omega
  have i4 : ¬ (15 : Int) < (m : Int) := by omega
  clear hn hl hR
  go_enter Try.func10, Try.ntmps10
  go_wp2_with fail
  go_loopw [4] (fun i wr => ∃ k j : Nat, k ≤ n ∧ i = .int .i64 k ∧ wr = w.drewN j ∧ Hid (∀ i, i < k → euRow L m i)) (fun i _ => n - (intOf i).toNat)
  case atStart => exact ⟨0, 0, by omega, rfl, rfl, Lib.hid (fun i hi => by omega)⟩
  case round =>
    obtain ⟨k, j, hk, rfl, rfl, HK⟩ := hrel
    by_cases hlt : k < n
    · have hkL : k < L.length := by rw [← Hn.out]; exact hlt
      have hc := HR.out.cell hkL
      have hRi := HR.out.inn k hkL
      have hs := HL.out k hkL
      generalize hr : rg L k = r at *
      have Hr := Lib.hid hr
      clear hr
      obtain ⟨rA, rc, rx⟩ := r
      simp only at hc hRi hs
      by_cases hrm : rx.length = m
      · have HRX := Lib.hid hrm
        rw [hrm] at hc hs
        clear hrm
        obtain ⟨b1, o1, rfl, _⟩ := hRi.atI (k := 0) (by rw [HRX.out]; omega)
        have HRI := Lib.hid hRi
        clear hRi
        go_wp2_with fail
        go_quiet (fail)
        go_wp2_with fail
        go_loopw [5] (fun i wr => ∃ t j' : Nat, t ≤ m ∧ i = .int .i64 t ∧ wr = w.drewN j' ∧ Hid (∀ i, i < t → inB (rx.getD i 0) 0 1000 = true)) (fun i _ => m - (intOf i).toNat)
        case atStart => exact ⟨0, _, by omega, rfl, by rw [World.drewN_drewN], Lib.hid (fun i hi => by omega)⟩
        case round =>
          obtain ⟨t, j', ht, rfl, rfl, HT⟩ := hrel
          by_cases hlt2 : t < m
          · have hx := HRI.out.cellI (k := t) (by rw [HRX.out]; exact hlt2)
            have HI := Lib.hid (fun W => l01In_any (rx.getD t 0) 0 1000 W)
            generalize hxx : rx.getD t 0 = x at *
            have HX := Lib.hid hxx
            clear hxx
            cases hb : inB x 0 1000
            · rw [hb] at HI
              have HB := Lib.hid hb
              have HN := Lib.hid (show ¬ euOk L from fun h => by
                have h9 := (h.2.2.2.2 k hkL).2 t (by rw [HM.out]; exact hlt2)
                rw [Hr.out] at h9
                simp only at h9
                rw [HX.out, HB.out] at h9
                cases h9)
              clear hb
              go_wp2_with (go_at_call 38; refine (HI.out _).mono ?_; rintro e w' ⟨rfl, rfl⟩)
              go_ret2
              exact eu_not HN.out (below_drewN (Below.refl _ _) _)
            · rw [hb] at HI
              have HB := Lib.hid hb
              clear hb
              go_wp2_with (go_at_call 38; refine (HI.out _).mono ?_; rintro e w' ⟨rfl, rfl⟩)
              go_roundw
              case rel =>
                refine ⟨t + 1, j', by omega, by go_num, rfl, Lib.hid (fun i hi => ?_)⟩
                by_cases e : i = t
                · subst e; rw [HX.out]; exact HB.out
                · exact HT.out i (by omega)
              case measure => simp [intOf]; omega
          · obtain rfl : t = m := by omega
            go_wp2_with fail
            go_roundw
            case rel =>
              refine ⟨k + 1, _, by omega, by go_num, rfl, Lib.hid (fun i hi => ?_)⟩
              by_cases e : i = k
              · subst e; rw [euRow, Hr.out]; exact ⟨HRX.out, HT.out⟩
              · exact HK.out i (by omega)
            case measure => simp [intOf]; omega
      · have hrb : ((rx.length : Int) != (m : Int)) = true := by simp; omega
        have HN := Lib.hid (show ¬ euOk L from fun h => by
          have h9 := (h.2.2.2.2 k hkL).1
          rw [Hr.out, HM.out] at h9
          exact hrm h9)
        clear hrm
        go_wp2_with fail
        go_quiet (fail)
        go_wp2_with fail
        go_ret2
        exact eu_not HN.out (below_drewN (below_drewN (Below.refl _ _) _) _)
    · obtain rfl : n = k := by omega
      have HOK : Hid (euOk L) := Lib.hid ⟨by rw [← Hn.out]; omega, by rw [← Hn.out]; omega, by rw [HM.out]; omega, by rw [HM.out]; omega, by rw [HM.out, ← Hn.out]; exact HK.out⟩
      have HB0 := Lib.hid (below_drewN (Below.refl w.heap.size w) j)
      have HR0 := Lib.hid (HR.out.drewN j)
      have HZ0 : Hid ((w.drewN j).heap.size = w.heap.size) := Lib.hid rfl
      have hc0' : (w.drewN j).cell? ⟨b, o, none⟩ = some (.slice A0 m c0) := hc0
      clear hc0
      generalize w.drewN j = W0 at *
      have HKp := Lib.hid (fun w' (hb : Below W0.heap.size W0 w') => cell_keep hc0' hb)
      have hmk := run_make_row' (P := Try.prog) 24 2 (.int .i64 0) 8 Try.underlying24 infoI rfl .i64 .i64 m (by omega) (by omega)
      have hn0 : 0 < n := by omega
      have hn1 : (0 : Int) < (n : Int) := by omega
      go_wp2_with fail
      go_cut [6, 7] (fun cn o wx => EuGot W0 wx m cn o)
      case first =>
        have HBa := Lib.hid (Below.drew (Below.refl W0.heap.size W0))
        have HBb : Hid (Below W0.heap.size W0 (W0.alloc (.cells (madeCells #[.int .i64 0] m) 2)).drew) := Lib.hid ((Below.refl _ _).alloc (Nat.le_refl _) _).drew
        go_region_held3 (fun w' => w'.cell? ⟨b, o, none⟩ = some (.slice A0 m c0))
          (first | exact HKp.out _ HBa.out | exact HKp.out _ HBb.out | exact HKp.out _ HB1.out | exact HKp.out _ (HB1.out.alloc HB1.out.size _))
          (first
            | (go_at_call 39; (with_reducible refine (l01Count_any _).mono ?_); (rintro e w1 ⟨kc, rfl, ho, hb⟩; have HB1 : Hid (Below W0.heap.size W0 w1) := Lib.hid (by first | exact HBa.out.trans hb | exact HBb.out.trans (hb.mono (by simp))); have HO := Lib.hid ho; have HBx := Lib.hid hb; clear ho hb)))
        all_goals go_wp2_with fail
        all_goals go_meet
        all_goals (first | exact eu_a HO.out HB1.out (by omega) | exact eu_b HO.out HBx.out (by omega))
      case rest =>
        obtain ⟨kc, g, rfl, rfl, hmem⟩ := hcut
        have HMEM := Lib.hid hmem
        have HST := Lib.hid (EuS.start L m)
        clear hmem hmk hc0'
        go_wp2_with fail
        go_loopw [8] (fun i wr => ∃ k ys, k ≤ n ∧ i = .int .i64 k ∧ Hid (EuS L m k 0 0 ys) ∧ EuMem W0 wr kc g m ys) (fun i _ => n - (intOf i).toNat)
        case atStart => exact ⟨0, _, by omega, rfl, HST, HMEM.out⟩
        case round =>
          obtain ⟨k, ys, hk, rfl, HS, hmem⟩ := hrel
          have HM1 := Lib.hid hmem
          clear hmem
          by_cases hlt : k < n
          · have hkL : k < L.length := by rw [← Hn.out]; exact hlt
            have HRO := Lib.hid (HOK.out.2.2.2.2 k hkL)
            have HR1 := Lib.hid (HR0.out.below HM1.out.bel)
            obtain ⟨WA, rfl⟩ : ∃ WA, WA = wr := ⟨wr, rfl⟩
            go_wp2_with fail
            go_loopw [9] (fun i wr => ∃ t ys, t ≤ m ∧ i = .int .i64 t ∧ Hid (EuS L m k t 0 ys) ∧ EuMem W0 wr kc g m ys) (fun i _ => m - (intOf i).toNat)
            case atStart => exact ⟨0, ys, by omega, rfl, HS, HM1.out⟩
            case round =>
              obtain ⟨t, ys, ht, rfl, HS, hmem⟩ := hrel
              have HM2 := Lib.hid hmem
              clear hmem
              by_cases hlt2 : t < m
              · obtain ⟨WB, rfl⟩ : ∃ WB, WB = wr := ⟨wr, rfl⟩
                go_wp2_with fail
                go_loopw [10] (fun i wr => ∃ u ys, u ≤ t + 1 ∧ i = .int .i64 u ∧ Hid (EuS L m k t u ys) ∧ EuMem W0 wr kc g m ys) (fun i _ => t + 1 - (intOf i).toNat)
                case atStart => exact ⟨0, ys, by omega, rfl, HS, HM2.out⟩
                case round =>
                  obtain ⟨u, ys, hu, rfl, HS, hmem⟩ := hrel
                  by_cases hlt3 : u ≤ t
                  · have hR1 := HR0.out.below hmem.bel
                    have hc := hR1.cell hkL
                    have hRi := hR1.inn k hkL
                    have hro := HRO.out
                    rw [HM.out] at hro
                    obtain ⟨hrl, hrb⟩ := hro
                    have hxb := inB_true2 (hrb u (by omega))
                    have hcb := cnt14_bd (t - u) (by omega)
                    have HSS := Lib.hid (HS.out.step hlt2)
                    generalize rg L k = r at *
                    obtain ⟨rA, rc, rx⟩ := r
                    simp only at hc hRi hrl hrb hxb HSS
                    rw [hrl] at hc
                    obtain ⟨b1, o1, rfl, hx⟩ := hRi.atI (k := u) (by rw [hrl]; omega)
                    have hy := owns_getD hmem.out hlt2
                    have hz := owns_getD hmem.cnt (k := t - u) (by omega)
                    have fz := hmem.out.frozenAt t
                    have hwa : IntKind.i64.wrap ((t : Int) - u) = (t : Int) - u := by rw [IntKind.wrap_i64]; omega
                    have hwb : wrap64 ((t : Int) - u) = (t : Int) - u := by unfold wrap64; omega
                    have hi0 : 0 ≤ (t : Int) - u := by omega
                    have hi1 : (t : Int) - u < 15 := by omega
                    have hi2 : ((t : Int) - u).toNat = t - u := by omega
                    have hi3 : u < m := by omega
                    have HM3 := Lib.hid hmem
                    generalize rx.getD u 0 = x at *
                    generalize cnt14.getD (t - u) 0 = z at *
                    generalize ys.getD t 0 = y at *
                    obtain ⟨hp1, hp2⟩ := prod_bd hxb.1 hxb.2 hcb.1 hcb.2
                    clear hmem hR1 hRi hrb hrl hxb hcb
                    rcases Nat.mod_two_eq_zero_or_one k with hk2 | hk2
                    · have hki : (k : Int) % 2 = 0 := by omega
                      have HE : Hid (euStep k y x z = wrap64 (y + x * z)) := Lib.hid (by unfold euStep; rw [if_neg (by omega)])
                      clear hk2
                      go_wp2_with fail
                      go_quiet (fail)
                      go_wp2_with fail
                      go_roundw
                      case rel => exact ⟨u + 1, _, by omega, by go_num, HSS, by rw [HE.out]; exact (HM3.out.store t _).drewN _⟩
                      case measure => simp [intOf]; omega
                    · have hki : (k : Int) % 2 = 1 := by omega
                      have HE : Hid (euStep k y x z = wrap64 (y + -(x * z))) := Lib.hid (by unfold euStep; rw [if_pos hk2])
                      clear hk2
                      go_wp2_with fail
                      go_quiet (fail)
                      go_wp2_with fail
                      go_roundw
                      case rel => exact ⟨u + 1, _, by omega, by go_num, HSS, by rw [HE.out]; exact (HM3.out.store t _).drewN _⟩
                      case measure => simp [intOf]; omega
                  · obtain rfl : u = t + 1 := by omega
                    have HM3 := Lib.hid hmem
                    clear hmem
                    go_wp2_with fail
                    go_roundw
                    case rel => exact ⟨t + 1, ys, by omega, by go_num, Lib.hid HS.out.next, HM3.out⟩
                    case measure => simp [intOf]; omega
              · obtain rfl : t = m := by omega
                go_wp2_with fail
                go_roundw
                case rel => exact ⟨k + 1, ys, by omega, by go_num, Lib.hid HS.out.row, HM2.out⟩
                case measure => simp [intOf]; omega
          · obtain rfl : k = n := by omega
            go_wp2_with fail
            go_ret2
            have h8 := HM1.out
            have h9 := HS.out
            rw [← HM.out] at h8 h9
            rw [Hn.out] at h9
            have := eu_yes HOK.out (Nat.le_of_eq HZ0.out.symm) HB0.out h8 h9
            rw [HM.out] at this
            exact this
end Go.Proofs.Ytocllmhkppkfoaa
