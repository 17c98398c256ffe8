/- the reference's vectors: l11Word, l11Words -/
import Derived.Test.YtocllmhkppkfoaaMt
namespace Go.Proofs.Ytocllmhkppkfoaa
open Go.RowKit

theorem wordM_drop (Q : List (List Int)) (ws : List Int) (v : Nat) {k : Nat} (hk : k < ws.length) : wordM Q (ws.drop k) v = act Q (ws.getD k 0) (wordM Q (ws.drop (k + 1)) v) := by
  rw [List.drop_eq_getElem_cons hk]
  simp only [wordM, List.foldr_cons, List.getD, List.getElem?_eq_getElem hk, Option.getD_some]

set_option maxRecDepth 100000 in
set_option maxHeartbeats 2000000 in
theorem l11Word_any (A A' V W : Option Addr) (n c m c' cv nw cw : Nat) (xs ws : List Int) (L : List Row) (v : Nat) (w : World) (hn : n = xs.length) (hm : m = L.length) (hs : Shp xs (dat L)) (hm1 : m ≤ 1048576) (hnw : nw = ws.length) (hw1 : nw ≤ 1048576) (hR : RdR w A' L) (hV : Rd w V (iv (bitsL v n))) (hW : Rd w W (iv ws)) :
    Calls Try.prog 96 #[.agg #[.slice A n c, .slice A' m c'], .slice W nw cw, .slice V n cv] w fun e w' => ∃ G cap, e = .returned (.slice G n cap) ∧ Rd w' G (iv (bitsL (wordM (dat L) ws v) n)) ∧ Below w.heap.size w w' := by
  have HACT := Lib.hid (fun (z : Int) (V : Option Addr) (cv v : Nat) W (hb : Below w.heap.size w W) hV => l11Act_any A A' V n c m c' cv xs L z v W hn hm hs hm1 (hR.below hb) hV)
  have HV := Lib.hid hV
  have HW := Lib.hid hW
  have Hnw := Lib.hid hnw
  clear hn hm hs hR hV hW hnw
  obtain ⟨x0, x1, xf0, xf1, lx⟩ := blk2cells (blk_new w (.cells #[.slice A n c, .slice A' m c'] 45))
  go_enter Try.func96, Try.ntmps96
  go_wp2_with fail
  clear x0 x1 xf0 xf1 lx
  go_loopw [2, 7] (fun vv i wr => ∃ k : Nat, ∃ V' cv', k ≤ nw ∧ i = .int .i64 ((k : Int) - 1) ∧ vv = .slice V' n cv' ∧ Rd wr V' (iv (bitsL (wordM (dat L) (ws.drop k) v) n)) ∧ wr.heap[w.heap.size]? = some (.cells #[.slice A n c, .slice A' m c'] 45 (0, 0)) ∧ Below w.heap.size w wr) (fun _ i _ => (intOf i + 1).toNat)
  case atStart =>
    refine ⟨nw, V, cv, by omega, rfl, rfl, ?_, blk_new w _, (Below.refl _ _).alloc (Nat.le_refl _) _⟩
    rw [List.drop_of_length_le (by rw [Hnw.out]; exact Nat.le_refl _)]
    exact HV.out.alloc _
  case round =>
    obtain ⟨k, V', cv', hk, rfl, rfl, hv, hblk, hbel⟩ := hrel
    have HB := Lib.hid hbel
    have HK := Lib.hid hblk
    have hsz := hbel.size
    cases k with
    | zero =>
      have HV' := Lib.hid hv
      rw [List.drop_zero] at HV'
      clear hbel hblk hv
      go_wp2_with fail
      go_ret
      exact ⟨V', cv', rfl, HV'.out, HB.out⟩
    | succ j =>
      have hj : j < ws.length := by rw [← Hnw.out]; omega
      have e1 : (((j + 1 : Nat) : Int) - 1) = (j : Int) := by omega
      rw [e1]
      obtain ⟨b1, o1, rfl, hc1⟩ := (HW.out.below hbel).atI (k := j) hj
      have HD := Lib.hid (wordM_drop (dat L) ws v hj)
      obtain ⟨x0, x1, xf0, xf1, lx⟩ := blk2cells hblk
      have HC := Lib.hid (HACT.out (ws.getD j 0) V' cv' _ wr.drew hbel.drew hv)
      have hj0 : j < nw := by omega
      generalize ws.getD j 0 = z at *
      clear hbel hblk hv e1
      go_wp2_with fail
      go_region_held3 (fun w' => w'.cell? ⟨w.heap.size, 0, none⟩ = some (.slice A n c) ∧ w'.cell? ⟨w.heap.size, 1, none⟩ = some (.slice A' m c') ∧ w'.cell? ⟨b1, o1 + j, none⟩ = some (.int .i64 z))
        (first | exact ⟨x0, x1, hc1⟩ | exact ⟨cell_keep (w := wr.drew) x0 HB1.out, cell_keep (w := wr.drew) x1 HB1.out, cell_keep (w := wr.drew) hc1 HB1.out⟩)
        ((go_at_call 105; (with_reducible refine (HC.out).mono ?_); (rintro e w1 ⟨g, cap, rfl, ho, hb⟩; have HO := Lib.hid (owns_Rd ho); have HB1 := Lib.hid hb; clear ho hb)))
      have HB2 := Lib.hid (HB.out.drew.trans (HB1.out.mono hsz))
      have HK2 := Lib.hid (blk_kept (w := wr.drew) HK.out HB1.out)
      clear x0 x1 xf0 xf1 lx hc1
      go_wp2_with fail
      go_roundw
      case rel => exact ⟨j, some ⟨g, 0, none⟩, cap, by omega, rfl, rfl, by rw [HD.out]; exact HO.out, HK2.out, HB2.out⟩
      case measure => simp [intOf]

set_option maxRecDepth 100000 in
set_option maxHeartbeats 2000000 in
theorem l11Words_any (A A' V W : Option Addr) (n c m c' cv nw cw : Nat) (xs : List Int) (L M : List Row) (v : Nat) (w : World) (hn : n = xs.length) (hm : m = L.length) (hs : Shp xs (dat L)) (hm1 : m ≤ 1048576) (hnw : nw = M.length) (hw1 : nw ≤ 1048576) (hwl : ∀ i, i < M.length → (rg M i).xs.length ≤ 1048576) (hR : RdR w A' L) (hV : Rd w V (iv (bitsL v n))) (hW : RdR w W M) :
    Calls Try.prog 97 #[.agg #[.slice A n c, .slice A' m c'], .slice W nw cw, .slice V n cv] w fun e w' => ∃ g cap, e = .returned (.slice (some ⟨g, 0, none⟩) n cap) ∧ w'.ownsRow w.heap.size 2 1 (.slice (some ⟨g, 0, none⟩) n cap) n (iv (bitsL (xsumf (fun u => wordM (dat L) u v) (dat M)) n)) ∧ Below w.heap.size w w' := by
  have hn16 : n ≤ 16 := by rw [hn]; exact hs.len
  have HWD := Lib.hid (fun (X : Option Addr) (k cx : Nat) (ws : List Int) W' (hb : Below w.heap.size w W') hk hk1 hX => l11Word_any A A' V X n c m c' cv k cx xs ws L v W' hn hm hs hm1 hk hk1 (hR.below hb) (hV.below hb) hX)
  have HPL := Lib.hid (fun (X Y : Option Addr) (cx cy a b : Nat) W' hX hY => l11Plus_any X Y n cx cy a b W' (by omega) hX hY)
  have hmk := run_make_row' (P := Try.prog) 24 2 (.int .i64 0) 8 Try.underlying24 infoI rfl .i64 .i64 n (by omega) (by omega)
  have HW := Lib.hid hW
  have Hnw := Lib.hid hnw
  have HL := Lib.hid hwl
  clear hn hm hs hR hV hW hnw hwl
  obtain ⟨x0, x1, xf0, xf1, lx⟩ := blk2cells (blk_new w (.cells #[.slice A n c, .slice A' m c'] 45))
  go_enter Try.func97, Try.ntmps97
  go_wp2_with fail
  clear x0 x1 xf0 xf1 lx hmk
  go_loopw [7, 8] (fun vv i wr => ∃ k g cap : Nat, k ≤ nw ∧ i = .int .i64 k ∧ vv = .slice (some ⟨g, 0, none⟩) n cap ∧ wr.ownsRow w.heap.size 2 1 (.slice (some ⟨g, 0, none⟩) n cap) n (iv (bitsL (xsumf (fun u => wordM (dat L) u v) ((dat M).take k)) n)) ∧ wr.heap[w.heap.size]? = some (.cells #[.slice A n c, .slice A' m c'] 45 (0, 0)) ∧ Below w.heap.size w wr) (fun _ i _ => nw - (intOf i).toNat)
  case atStart =>
    refine ⟨0, w.heap.size + 1, n, by omega, rfl, rfl, ?_, blk_alloc (blk_new w _) _, ((Below.refl _ _).alloc (Nat.le_refl _) _).alloc (by simp) _⟩
    have := made_own (w.alloc (.cells #[.slice A n c, .slice A' m c'] 45)) w.heap.size n (by simp) (by omega)
    rw [← bitsL_zero] at this
    rw [show xsumf (fun u => wordM (dat L) u v) ((dat M).take 0) = 0 from rfl]
    simpa using this
  case round =>
    obtain ⟨k, g, cap, hk, rfl, rfl, hown, hblk, hbel⟩ := hrel
    have HO := Lib.hid hown
    have HB := Lib.hid hbel
    have HK := Lib.hid hblk
    have hsz := hbel.size
    by_cases hlt : k < nw
    · have hkM : k < M.length := by rw [← Hnw.out]; exact hlt
      have hR1 := HW.out.below hbel
      obtain ⟨b1, o1, rfl, hc1⟩ := hR1.at_ hkM
      have hin := hR1.inn k hkM
      have hle := HL.out k hkM
      have hst : (dat M).take (k + 1) = (dat M).take k ++ [(rg M k).xs] := by
        rw [← dat_getD, List.take_succ_eq_append_getElem (by rw [dat_length]; exact hkM)]; simp [List.getD, hkM, dat]
      have HSX : Hid (xsumf (fun u => wordM (dat L) u v) ((dat M).take (k + 1)) = xr (xsumf (fun u => wordM (dat L) u v) ((dat M).take k)) (wordM (dat L) (rg M k).xs v)) := Lib.hid (by
        rw [hst, xsumf_append, xsumf_cons]; congr 1; exact xr_zero _)
      clear hR1 hst
      generalize rg M k = r at *
      obtain ⟨rA, rc, rx⟩ := r
      simp only at hc1 hin hle HSX
      have HC := Lib.hid (HWD.out rA rx.length rc rx wr.drew hbel.drew rfl hle hin)
      obtain ⟨x0, x1, xf0, xf1, lx⟩ := blk2cells hblk
      clear hown hbel hblk hin
      go_wp2_with fail
      go_region_held3 (fun w' => w'.cell? ⟨w.heap.size, 0, none⟩ = some (.slice A n c) ∧ w'.cell? ⟨w.heap.size, 1, none⟩ = some (.slice A' m c') ∧ w'.cell? ⟨b1, o1 + k, none⟩ = some (.slice rA rx.length rc))
        (first | exact ⟨x0, x1, hc1⟩ | exact ⟨cell_keep (w := wr.drew) x0 HB1.out, cell_keep (w := wr.drew) x1 HB1.out, cell_keep (w := wr.drew) hc1 HB1.out⟩ | exact ⟨cell_keep (w := wr.drew) x0 HB3.out, cell_keep (w := wr.drew) x1 HB3.out, cell_keep (w := wr.drew) hc1 HB3.out⟩)
        (first
          | (go_at_call 96; (with_reducible refine (HC.out).mono ?_); (rintro e w1 ⟨G, cap1, rfl, ho, hb⟩; have HR1 := Lib.hid ho; have HB1 := Lib.hid hb; have HO1 := Lib.hid (owns_keeps HO.out.drew (Keeps.of_below hb) (.inr (by simp))); clear ho hb))
          | (go_at_call 109; (with_reducible refine (HPL.out _ _ _ _ _ _ _ (owns_Rd HO1.out) HR1.out).mono ?_); (rintro e w2 ⟨g2, cap2, rfl, ho, hb⟩; have HO2 := Lib.hid (ho.mono (Nat.le_trans hsz HB1.out.size)); have HB3 := Lib.hid (HB1.out.trans (hb.mono HB1.out.size)); clear ho hb)))
      have HB4 := Lib.hid (HB.out.drew.trans (HB3.out.mono hsz))
      have HK2 := Lib.hid (blk_kept (w := wr.drew) HK.out HB3.out)
      clear x0 x1 xf0 xf1 lx hc1
      go_wp2_with fail
      go_roundw
      case rel => exact ⟨k + 1, g2, cap2, by omega, by go_num, rfl, by rw [HSX.out]; exact HO2.out, HK2.out, HB4.out⟩
      case measure => simp [intOf]; omega
    · obtain rfl : k = nw := by omega
      have he : (dat M).take k = dat M := List.take_of_length_le (by rw [dat_length, ← Hnw.out]; exact Nat.le_refl _)
      rw [he] at HO
      clear hown hbel hblk he
      go_wp2_with fail
      go_ret
      exact ⟨g, cap, rfl, HO.out, HB.out⟩
end Go.Proofs.Ytocllmhkppkfoaa
