/- the reference's vectors: l11Unit, l11Act, l11Plus, l01Same, l11Word, l11Words -/
import Derived.Test.YtocllmhkppkfoaaMo
import Derived.Test.YtocllmhkppkfoaaBl
import Derived.Test.YtocllmhkppkfoaaLw2
import Derived.Test.YtocllmhkppkfoaaAp
import Derived.Test.YtocllmhkppkfoaaEa
import Derived.StillTailTactics
namespace Go.Proofs.Ytocllmhkppkfoaa
open Go.RowKit

theorem act_take_succ (Q : List (List Int)) (z : Int) (v : Nat) {k : Nat} (hk : k < Q.length) : actE (Q.take (k + 1)) z v = xr (actE (Q.take k) z v) (hit z v (Q.getD k [])) := fold_take_succ _ _ _ _ _ hk
theorem dat_take (L : List Row) (k : Nat) : (dat L).take k = dat (L.take k) := by simp [dat, List.map_take]

set_option maxHeartbeats 1000000 in
theorem l11Unit_any (n k : Nat) (w : World) (hk : k < n) (hn : n ≤ 1000) :
    Calls Try.prog 94 #[.int .i64 n, .int .i64 k] w fun e w' => ∃ g cap, e = .returned (.slice (some ⟨g, 0, none⟩) n cap) ∧ w'.ownsRow w.heap.size 2 1 (.slice (some ⟨g, 0, none⟩) n cap) n (iv (bitsL (2 ^ k) n)) ∧ Below w.heap.size w w' := by
  have hmk := run_make_row' (P := Try.prog) 24 2 (.int .i64 0) 8 Try.underlying24 infoI rfl .i64 .i64 n (by omega) (by omega)
  have hO := made_own w w.heap.size n (Nat.le_refl _) (by omega)
  have hc := owns_getD hO (k := k) hk
  have hf := hO.frozenAt k
  have h3 := (World.ownsRow.stored hO k (.int .i64 1)).1
  rw [← iv_set, bitsL_unit hk] at h3
  have H3 := Lib.hid h3
  have HB : Hid (Below w.heap.size w ((w.alloc (.cells (madeCells #[.int .i64 0] n) 2)).setCell ⟨w.heap.size, k, none⟩ (.int .i64 1))) := Lib.hid (((Below.refl _ _).alloc (Nat.le_refl _) _).setCell (p := ⟨w.heap.size, k, none⟩) (Nat.le_refl _) _)
  clear hO h3
  go_enter Try.func94, Try.ntmps94
  go_wp2_with fail
  go_ret
  have h4 := H3.out
  have hb := HB.out
  rw [World.setCell_alloc_at _ _ _ _ _ rfl] at h4 hb
  exact ⟨w.heap.size, n, rfl, h4, hb⟩

set_option maxRecDepth 100000 in
set_option maxHeartbeats 2000000 in
theorem l11Act_any (A A' V : Option Addr) (n c m c' cv : Nat) (xs : List Int) (L : List Row) (z : Int) (v : Nat) (w : World) (hn : n = xs.length) (hm : m = L.length) (hs : Shp xs (dat L)) (hm1 : m ≤ 1048576) (hR : RdR w A' L) (hV : Rd w V (iv (bitsL v n))) :
    Calls Try.prog 105 #[.agg #[.slice A n c, .slice A' m c'], .int .i64 z, .slice V n cv] w fun e w' => ∃ g cap, e = .returned (.slice (some ⟨g, 0, none⟩) n cap) ∧ w'.ownsRow w.heap.size 2 1 (.slice (some ⟨g, 0, none⟩) n cap) n (iv (bitsL (act (dat L) z v) n)) ∧ Below w.heap.size w w' := by
  have hn16 : n ≤ 16 := by rw [hn]; exact hs.len
  by_cases h0 : z = 0
  · subst h0
    have HC := Lib.hid (l01Own_any V n cv (iv (bitsL v n)) (w.alloc (.cells #[.slice A n c, .slice A' m c'] 45)) (by rw [iv_length, bitsL_length]) (by omega) (iv_one _) (hV.alloc _))
    clear hR hV hn hm hs
    go_enter Try.func105, Try.ntmps105
    go_wp2_with fail
    refine HC.out.mono ?_
    rintro e w1 ⟨g, cap, rfl, ho, hb⟩
    have HO := Lib.hid ho
    have HB := Lib.hid hb
    clear ho hb
    go_wp2_with fail
    go_ret
    refine ⟨g, cap, rfl, ?_, ((Below.refl _ _).alloc (Nat.le_refl _) _).trans (HB.out.mono (by simp))⟩
    rw [act0]; exact HO.out.mono (by simp)
  · have h0b : (z == 0) = false := by simpa using h0
    have hmk := run_make_row' (P := Try.prog) 24 2 (.int .i64 0) 8 Try.underlying24 infoI rfl .i64 .i64 n (by omega) (by omega)
    have HACT : Hid (act (dat L) z v = actE (dat L) z v) := Lib.hid (act_pos h0 _ _)
    have HS := Lib.hid hs
    have HR := Lib.hid hR
    have HV := Lib.hid hV
    have Hn := Lib.hid hn
    have Hm := Lib.hid hm
    clear hs hR hV hn hm
    obtain ⟨x0, x1, xf0, xf1, lx⟩ := blk2cells (blk_new w (.cells #[.slice A n c, .slice A' m c'] 45))
    go_enter Try.func105, Try.ntmps105
    go_wp2_with fail
    clear hmk x0 x1 xf0 xf1 lx
    go_loopw [8] (fun i wr => ∃ k : Nat, k ≤ m ∧ i = .int .i64 k ∧ wr.ownsRow w.heap.size 2 1 (.slice (some ⟨w.heap.size + 1, 0, none⟩) n n) n (iv (bitsL (actE ((dat L).take k) z v) n)) ∧ wr.heap[w.heap.size]? = some (.cells #[.slice A n c, .slice A' m c'] 45 (0, 0)) ∧ Below w.heap.size w wr) (fun i _ => m - (intOf i).toNat)
    case atStart =>
      refine ⟨0, by omega, rfl, ?_, blk_alloc (blk_new w _) _, ((Below.refl _ _).alloc (Nat.le_refl _) _).alloc (by simp) _⟩
      have := made_own (w.alloc (.cells #[.slice A n c, .slice A' m c'] 45)) w.heap.size n (by simp) (by omega)
      rw [← bitsL_zero] at this
      rw [show actE ((dat L).take 0) z v = 0 from rfl]
      simpa using this
    case round =>
      obtain ⟨k, hk, rfl, hown, hblk, hbel⟩ := hrel
      have HO := Lib.hid hown
      have HB := Lib.hid hbel
      have HK := Lib.hid hblk
      obtain ⟨x0, x1, xf0, xf1, lx⟩ := blk2cells hblk
      by_cases hlt : k < m
      · have hkL : k < L.length := by rw [← Hm.out]; exact hlt
        have hR1 := HR.out.below hbel
        obtain ⟨b, o, rfl, hcell⟩ := hR1.at_ hkL
        have hin := hR1.inn k hkL
        have hent := HS.out.ent k (by rw [dat_length]; exact hkL)
        have hst := act_take_succ (dat L) z v (k := k) (by rw [dat_length]; exact hkL)
        rw [dat_getD] at hent hst
        generalize rg L k = r at *
        obtain ⟨rA, rc, rx⟩ := r
        simp only at hcell hin hent hst
        have hl3 := hent.len
        rw [hl3] at hcell
        obtain ⟨b1, o1, rfl, hy0⟩ := hin.atI (k := 0) (by omega)
        rw [Nat.add_zero] at hy0
        have hy1 := hin.cellI (k := 1) (by omega)
        have hy2 := hin.cellI (k := 2) (by omega)
        have hlo1 := hent.lo1
        have hhi1 := hent.hi1
        have hlo2 := hent.lo2
        have hhi2 := hent.hi2
        rw [← Hn.out] at hhi1 hhi2
        have HST := Lib.hid hst
        have HH : Hid (hit z v rx = if rx.getD 0 0 = z ∧ tb v (rx.getD 1 0).toNat = true then 2 ^ (rx.getD 2 0).toNat else 0) := Lib.hid rfl
        clear hst hent hin hR1 hl3
        generalize rx.getD 0 0 = e0 at *
        generalize rx.getD 1 0 = e1 at *
        generalize rx.getD 2 0 = e2 at *
        obtain ⟨i1, rfl⟩ := Int.eq_ofNat_of_zero_le hlo1
        obtain ⟨i2, rfl⟩ := Int.eq_ofNat_of_zero_le hlo2
        have hi1 : i1 < n := by omega
        have hi2 : i2 < n := by omega
        rw [Int.toNat_natCast, Int.toNat_natCast] at HH
        by_cases he : e0 = z
        · subst he
          obtain ⟨vb, vo, rfl, hvc⟩ := (HV.out.below hbel).atI (k := i1) (by rw [bitsL_length]; exact hi1)
          rw [bitsL_getD _ hi1] at hvc
          cases htb : tb v i1
          · rw [bit_none htb] at hvc
            have HH2 := Lib.hid (HH.out.trans (if_neg (by rw [htb]; simp)))
            clear hown hbel hblk htb
            go_wp2_with fail
            go_roundw
            case rel => exact ⟨k + 1, by omega, by go_num, by rw [HST.out, HH2.out, xr_zero]; exact HO.out, HK.out, HB.out⟩
            case measure => simp [intOf]; omega
          · rw [bit_one htb] at hvc
            have HH2 := Lib.hid (HH.out.trans (if_pos ⟨rfl, htb⟩))
            have hoc := owns_getD hown hi2
            rw [bitsL_getD _ hi2] at hoc
            have fz := hown.frozenAt i2
            obtain ⟨bd1, bd2⟩ := bit_bd (actE ((dat L).take k) e0 v) i2
            have HSTO : Hid ((wr.setCell ⟨w.heap.size + 1, i2, none⟩ (.int .i64 (1 - bit (actE ((dat L).take k) e0 v) i2))).ownsRow w.heap.size 2 1 (.slice (some ⟨w.heap.size + 1, 0, none⟩) n n) n (iv (bitsL (xr (actE ((dat L).take k) e0 v) (2 ^ i2)) n))) := Lib.hid (by
              rw [← bitsL_flip _ hi2, iv_set]; exact (World.ownsRow.stored HO.out i2 _).1)
            generalize bit (actE ((dat L).take k) e0 v) i2 = y at *
            clear hown hbel hblk htb
            go_wp2_with fail
            go_still_tail 12, (by kernel_rfl)
            go_wp2_with fail
            go_roundw
            case rel => exact ⟨k + 1, by omega, by go_num, by rw [HST.out, HH2.out]; exact owns_keeps HSTO.out (Keeps.drew (S := []) (Keeps.refl _ _)) (.inr (by simp)), blk_seto HK.out ⟨w.heap.size + 1, i2, none⟩ (by simp) _, (HB.out.setCell (p := ⟨w.heap.size + 1, i2, none⟩) (by simp) _).drew⟩
            case measure => simp [intOf]; omega
        · have heb : (e0 == z) = false := by simpa using he
          have HH2 := Lib.hid (HH.out.trans (if_neg (fun h => he h.1)))
          clear hown hbel hblk he
          go_wp2_with fail
          go_roundw
          case rel => exact ⟨k + 1, by omega, by go_num, by rw [HST.out, HH2.out, xr_zero]; exact HO.out, HK.out, HB.out⟩
          case measure => simp [intOf]; omega
      · obtain rfl : k = m := by omega
        have he : (dat L).take k = dat L := List.take_of_length_le (by rw [dat_length, ← Hm.out]; exact Nat.le_refl _)
        rw [he] at HO
        clear hown hbel hblk he
        go_wp2_with fail
        go_ret
        exact ⟨w.heap.size + 1, n, rfl, by rw [HACT.out]; exact HO.out, HB.out⟩
end Go.Proofs.Ytocllmhkppkfoaa
