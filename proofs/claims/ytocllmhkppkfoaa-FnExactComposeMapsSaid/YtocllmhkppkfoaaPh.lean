/- impl's tableOf -/
import Derived.Test.YtocllmhkppkfoaaPe
namespace Go.Proofs.Ytocllmhkppkfoaa
open Go.RowKit

def sq2 (n b k : Nat) : List Nat := if k = 0 then (List.range n).map fun i => if i < b then 2 ^ i else 0 else List.replicate n 0
theorem sq2_len (n b k : Nat) : (sq2 n b k).length = n := by unfold sq2; split <;> simp
theorem sq2_zero (n k : Nat) : sq2 n 0 k = List.replicate n 0 := by
  unfold sq2; split
  · apply List.ext_getElem (by simp)
    intro i h1 h2; simp
  · rfl
theorem sq2_succ (n b j : Nat) (hb : b < n) : (if j = 0 then (sq2 n b 0).set b (2 ^ b) else sq2 n b j) = sq2 n (b + 1) j := by
  by_cases h : j = 0
  · subst h
    rw [if_pos rfl]
    unfold sq2
    rw [if_pos rfl, if_pos rfl]
    apply List.ext_getElem (by simp)
    intro i h1 h2
    rw [List.getElem_set]
    simp only [List.getElem_map, List.getElem_range]
    by_cases e : b = i
    · subst e; simp
    · rw [if_neg e]
      by_cases e2 : i < b
      · rw [if_pos e2, if_pos (by omega)]
      · rw [if_neg e2, if_neg (by omega)]
  · rw [if_neg h]; unfold sq2; rw [if_neg h, if_neg h]
theorem sq2_all (n k : Nat) : sq2 n n k = sqRow [] n k := by
  unfold sq2 sqRow sqOr
  apply List.ext_getElem (by split <;> simp)
  intro i h1 h2
  have hi : i < n := by simpa using h2
  by_cases h : k = 0
  · simp [h, hi]
  · simp [h]
theorem owns_getN {w : World} {B g n c k : Nat} {ys : List Nat} (h : w.ownsRow B 2 1 (.slice (some ⟨g, 0, none⟩) n c) n (nv ys)) (hl : ys.length = n) (hk : k < n) : w.cell? ⟨g, k, none⟩ = some (.int .i64 ((ys.getD k 0 : Nat) : Int)) := by
  rw [h.cellAt k (by omega)]; simp [nv, List.getD, show k < ys.length by omega]
theorem pow2_bd {d : Nat} (h : d ≤ 16) : (0 : Int) ≤ 2 ^ d ∧ (2 : Int) ^ d ≤ 65536 := by
  have : (2 : Nat) ^ d ≤ 2 ^ 16 := Nat.pow_le_pow_right (by omega) h
  have e : ((2 ^ d : Nat) : Int) = (2 : Int) ^ d := by simp
  exact ⟨by rw [← e]; exact Int.natCast_nonneg _, by rw [← e]; exact Int.le_trans (Int.ofNat_le.2 this) (by decide)⟩
theorem sqOr_take (Q : List (List Int)) {q : Nat} (hq : q < Q.length) (k i : Nat) : sqOr (Q.take (q + 1)) k i = sqStep k i (sqOr (Q.take q) k i) (Q.getD q []) := by
  unfold sqOr; exact fold_take_succ _ _ _ _ _ hq
theorem sqRow_step (Q : List (List Int)) (n q : Nat) (hq : q < Q.length) (i0 i1 j : Nat) (h0 : (Q.getD q []).getD 0 0 = (i0 : Int)) (h1 : (Q.getD q []).getD 1 0 = (i1 : Int)) :
    (if j = i0 then (sqRow (Q.take q) n i0).set i1 (orr ((sqRow (Q.take q) n i0).getD i1 0) (2 ^ ((Q.getD q []).getD 2 0).toNat)) else sqRow (Q.take q) n j) = sqRow (Q.take (q + 1)) n j := by
  apply List.ext_getElem (by split <;> simp [sqRow])
  intro i h2 h3
  have hi : i < n := by simpa [sqRow] using h3
  have e3 : (sqRow (Q.take (q + 1)) n j)[i] = sqStep j i (sqOr (Q.take q) j i) (Q.getD q []) := by
    simp only [sqRow, List.getElem_map, List.getElem_range]; exact sqOr_take Q hq j i
  rw [e3]
  unfold sqStep
  rw [h0, h1]
  by_cases e : j = i0
  · subst e
    simp only [if_true]
    rw [List.getElem_set]
    by_cases e4 : i1 = i
    · subst e4; rw [if_pos rfl, if_pos ⟨trivial, rfl⟩, sqRow_getD _ hi]
    · rw [if_neg e4, if_neg (show ¬ (True ∧ (i1 : Int) = (i : Int)) from fun h => e4 (by have := h.2; omega))]; simp [sqRow]
  · simp only [if_neg e]
    rw [if_neg (show ¬ ((i0 : Int) = (j : Int) ∧ (i1 : Int) = (i : Int)) from fun h => e (by have := h.1; omega))]; simp [sqRow]
theorem Shp.take {xs : List Int} {Q : List (List Int)} (h : Shp xs Q) (q : Nat) : Shp xs (Q.take q) := by
  have e : ∀ i, i < (Q.take q).length → (Q.take q).getD i [] = Q.getD i [] := fun i hi => by
    rw [List.length_take] at hi
    simp only [List.getD, List.getElem?_take, if_pos (show i < q by omega)]
  refine ⟨h.len, h.deg, h.srt, fun i hi => ?_, fun k hk => ?_⟩
  · rw [e i (by omega), e (i + 1) hi]; exact h.asc i (by rw [List.length_take] at hi; omega)
  · rw [e k hk]; exact h.ent k (by rw [List.length_take] at hk; omega)
theorem sqOr_sm {xs : List Int} {Q : List (List Int)} (h : Shp xs Q) (q k i : Nat) (hi : i < xs.length) : Sm (sqOr (Q.take q) k i) := by
  rw [sqOr_act (h.take q)]
  have := act_lt (h.take q) (v := 2 ^ i) (pow_lt_pow hi) (k : Int)
  have h2 : 2 ^ xs.length ≤ 2 ^ 16 := Nat.pow_le_pow_right (by omega) h.len
  unfold Sm
  omega
set_option maxRecDepth 100000 in
set_option maxHeartbeats 2000000 in
theorem tableOf_any (A A' : Option Addr) (n c m c' : Nat) (xs : List Int) (L : List Row) (w : World) (hn : n = xs.length) (hm : m = L.length) (hm1 : m ≤ 1048576) (hs : Shp xs (dat L)) (hR' : RdR w A' L) :
    Calls Try.prog 77 #[.agg #[.slice A n c, .slice A' m c']] w fun e w' => ∃ g h, e = .returned (.pointer (some ⟨g, 0, none⟩)) ∧ TbM w w' g A n c h 21 (sqRow (dat L) n) := by
  have hn16 : n ≤ 16 := by rw [hn]; exact hs.len
  have hk0 := blk_new w (.cells #[.slice A n c, .slice A' m c'] 45)
  obtain ⟨x0, x1, xf0, xf1, lx⟩ := blk2cells hk0
  have hmk := run_make_row' (P := Try.prog) 24 2 (.int .i64 0) 8 Try.underlying24 infoI rfl .i64 .i64 n (by omega) (by omega)
  have HS := Lib.hid hs
  have HR' := Lib.hid hR'
  have Hn := Lib.hid hn
  have Hm := Lib.hid hm
  have HMK := Lib.hid hmk
  clear hs hR' hn hm hk0 hmk
  go_enter Try.func77, Try.ntmps77
  go_wp2_with fail
  clear x0 x1 xf0 xf1 lx
  go_loopw [12] (fun i wr => ∃ k : Nat, ∃ h : Nat → Nat, k ≤ 21 ∧ i = .int .i64 k ∧ TbM w wr (w.heap.size + 1) A n c h k (fun _ => List.replicate n 0) ∧ wr.heap[w.heap.size]? = some (.cells #[.slice A n c, .slice A' m c'] 45 (0, 0))) (fun i _ => 21 - (intOf i).toNat)
  case atStart =>
    refine ⟨0, fun _ => 0, by omega, rfl, ⟨⟨_, blk_new1 w _ _, rfl, rfl, fun k hk => by omega⟩, fun k hk => by omega, fun k j hk => by omega, by omega, ((Below.refl _ _).alloc (Nat.le_refl _) _).alloc (by simp) _⟩, blk_alloc (blk_new w _) _⟩
  case round =>
    obtain ⟨k, h, hk, rfl, ht, hblk⟩ := hrel
    have HT := Lib.hid ht
    have HB := Lib.hid hblk
    have hglt := ht.lt
    by_cases hlt : k < 21
    · obtain ⟨x0, x1, xf0, xf1, lx⟩ := blk2cells hblk
      obtain ⟨old, hold⟩ := ht.old (i := 1 + k) (by omega)
      have hfz := ht.frozen (1 + k)
      have hmk := HMK.out
      have hk21 : (k : Int) < 21 := by omega
      clear ht hblk
      have hks : ((wr.setCell ⟨w.heap.size + 1, 1 + k, none⟩ (.slice (some ⟨wr.heap.size, 0, none⟩) n n)).alloc (.cells (madeCells #[.int .i64 0] n) 2)).drew.cell? ⟨w.heap.size, 0, none⟩ = some (.slice A n c) :=
        ((((Keeps.refl wr [some (w.heap.size + 1)]).setCell (p := ⟨w.heap.size + 1, 1 + k, none⟩) (by simp) _).alloc _).drew).cellSome x0 (by simp)
      have HKS := Lib.hid hks
      clear hks
      go_wp2_with fail
      go_region_held3 (fun w' => w'.cell? ⟨w.heap.size, 0, none⟩ = some (.slice A n c)) (first | exact x0 | exact cell_keep x0 (Below.drew (Below.refl _ _)) | exact cell_keep x0 ((Below.refl _ _).alloc (Nat.le_refl _) _) | exact cell_keep x0 ((Below.refl _ _).alloc (Nat.le_refl _) _).drew | exact HKS.out) (fail)
      clear hmk
      go_wp2_with fail
      go_roundw
      case rel =>
        refine ⟨k + 1, fun j => if j = k then wr.heap.size else h j, by omega, by go_num, ?_, ?_⟩
        · have t1 := HT.out.make hlt (by omega)
          rw [World.setCell_alloc_past _ _ _ _ hglt] at t1
          exact t1.drew.congr (fun j _ => by split <;> rfl)
        · exact (blk_alloc (blk_seto HB.out ⟨w.heap.size + 1, 1 + k, none⟩ (by simp) _) _ : _)
      case measure => simp [intOf]; omega
    · obtain rfl : k = 21 := by omega
      rw [show ((21 : Nat) : Int) = 21 from rfl]
      obtain ⟨x0, x1, xf0, xf1, lx⟩ := blk2cells hblk
      clear ht hblk hglt hlt
      go_wp2_with fail
      go_loopw [28] (fun i wr => ∃ b : Nat, b ≤ n ∧ i = .int .i64 b ∧ TbM w wr (w.heap.size + 1) A n c h 21 (sq2 n b) ∧ wr.heap[w.heap.size]? = some (.cells #[.slice A n c, .slice A' m c'] 45 (0, 0))) (fun i _ => n - (intOf i).toNat)
      case atStart => exact ⟨0, by omega, rfl, HT.out.congr (fun k _ => (sq2_zero n k).symm), HB.out⟩
      case round =>
        obtain ⟨b, hb, rfl, ht, hblk⟩ := hrel
        have HT := Lib.hid ht
        have HB := Lib.hid hblk
        by_cases hlt : b < n
        · have hc0 : wr.cell? ⟨w.heap.size + 1, 1, none⟩ = some (.slice (some ⟨h 0, 0, none⟩) n n) := ht.cell (k := 0) (by omega)
          have ho := ht.own 0 (by omega)
          have hcb := owns_getN ho (sq2_len n b 0) hlt
          have hfz := ho.frozenAt b
          obtain ⟨hp1, hp2⟩ := pow2_bd (d := b) (by omega)
          have HE : Hid (((2 ^ b : Nat) : Int) = (2 : Int) ^ b) := Lib.hid (by simp)
          generalize (sq2 n b 0).getD b 0 = oldv at *
          clear ht hblk ho x0 x1 xf0 xf1 lx
          go_wp2_with fail
          go_still_tail 9, (by kernel_rfl)
          go_wp2_with fail
          go_roundw
          case rel =>
            refine ⟨b + 1, by omega, by go_num, ?_, ?_⟩
            · have t1 := HT.out.store (k := 0) (by omega) b (2 ^ b)
              rw [HE.out] at t1
              exact t1.drew.congr (fun j _ => sq2_succ n b j hlt)
            · exact blk_seto HB.out ⟨h 0, b, none⟩ (by have := own_ne_blk (HT.out.own 0 (by omega)) HB.out (by decide); simpa [Value.ownBlock] using this) _
          case measure => simp [intOf]; omega
        · obtain rfl : b = n := by omega
          have HT3 := Lib.hid (ht.congr (fun k _ => sq2_all b k))
          obtain ⟨x0, x1, xf0, xf1, lx⟩ := blk2cells hblk
          clear ht hblk HT
          go_wp2_with fail
          go_loopw [44] (fun i wr => ∃ q : Nat, q ≤ m ∧ i = .int .i64 q ∧ TbM w wr (w.heap.size + 1) A b c h 21 (sqRow ((dat L).take q) b) ∧ wr.heap[w.heap.size]? = some (.cells #[.slice A b c, .slice A' m c'] 45 (0, 0))) (fun i _ => m - (intOf i).toNat)
          case atStart => exact ⟨0, by omega, rfl, HT3.out, HB.out⟩
          case round =>
            obtain ⟨q, hq, rfl, ht, hblk⟩ := hrel
            have HT := Lib.hid ht
            have HB := Lib.hid hblk
            by_cases hlt : q < m
            · have hqL : q < L.length := by rw [← Hm.out]; exact hlt
              have hR1 := HR'.out.below ht.bel
              obtain ⟨bR, oR, rfl, hcell⟩ := hR1.at_ hqL
              have hin := hR1.inn q hqL
              have hent := HS.out.ent q (by rw [dat_length]; exact hqL)
              have HSX := Lib.hid (fun (i0 i1 : Nat) (j : Nat) => sqRow_step (dat L) b q (by rw [dat_length]; exact hqL) i0 i1 j)
              have HSM := Lib.hid (fun (i0 i1 : Nat) (h1 : i1 < b) => sqOr_sm HS.out q i0 i1 (by rw [← Hn.out]; exact h1))
              have h20 := hent.le20 HS.out.deg
              rw [dat_getD] at hent HSX h20
              generalize rg L q = r at *
              obtain ⟨rA, rc, rx⟩ := r
              simp only at hcell hin hent HSX h20
              have hl3 := hent.len
              rw [hl3] at hcell
              obtain ⟨b1, o1, rfl, hy0⟩ := hin.atI (k := 0) (by omega)
              rw [Nat.add_zero] at hy0
              have hy1 := hin.cellI (k := 1) (by omega)
              have hy2 := hin.cellI (k := 2) (by omega)
              have hlo0 := hent.pos
              have hlo1 := hent.lo1
              have hhi1 := hent.hi1
              have hlo2 := hent.lo2
              have hhi2 := hent.hi2
              rw [← Hn.out] at hhi1 hhi2
              clear hent hin hR1 hl3
              generalize rx.getD 0 0 = e0 at *
              generalize rx.getD 1 0 = e1 at *
              generalize rx.getD 2 0 = e2 at *
              obtain ⟨i0, rfl⟩ := Int.eq_ofNat_of_zero_le (show 0 ≤ e0 by omega)
              obtain ⟨i1, rfl⟩ := Int.eq_ofNat_of_zero_le hlo1
              obtain ⟨i2, rfl⟩ := Int.eq_ofNat_of_zero_le hlo2
              have hi0 : i0 < 21 := by omega
              have hi0' : (i0 : Int) < 21 := by omega
              have hi1 : i1 < b := by omega
              have hi1' : (i1 : Int) < (b : Int) := by omega
              have hi2 : i2 ≤ 16 := by omega
              have hc0 := ht.cell (k := i0) hi0
              have ho := ht.own i0 hi0
              have hcb := owns_getN ho (sqRow_length _ _ _) hi1
              have hfz := ho.frozenAt i1
              obtain ⟨hp1, hp2⟩ := pow2_bd (d := i2) hi2
              have HE : Hid (((2 ^ i2 : Nat) : Int) = (2 : Int) ^ i2) := Lib.hid (by simp)
              have hsm := HSM.out i0 i1 hi1
              rw [← sqRow_getD _ hi1] at hsm
              have hor := i64_or_nat (b := 2 ^ i2) hsm (show Sm (2 ^ i2) from Nat.lt_of_le_of_lt (Nat.pow_le_pow_right (by omega) hi2) (by omega))
              rw [HE.out] at hor
              have HST := Lib.hid (HT.out.store (k := i0) hi0 i1 (orr ((sqRow (List.take q (dat L)) b i0).getD i1 0) (2 ^ i2)))
              have HSTEP := Lib.hid (fun j => HSX.out i0 i1 j rfl rfl)
              rw [Int.toNat_natCast] at HSTEP
              generalize (sqRow (List.take q (dat L)) b i0).getD i1 0 = oldv at *
              clear ht hblk ho x0 x1 xf0 xf1 lx hsm
              go_wp2_with fail
              go_still_tail 19, (by kernel_rfl)
              have HOR := Lib.hid hor
              clear hor
              go_wp2_with fail
              go_roundw
              case rel => exact ⟨q + 1, by omega, by go_num, by rw [HOR.out]; exact HST.out.drew.congr (fun j _ => HSTEP.out j), blk_seto HB.out ⟨h i0, i1, none⟩ (by have := own_ne_blk (HT.out.own i0 hi0) HB.out (by decide); simpa [Value.ownBlock] using this) _⟩
              case measure => simp [intOf]; omega
            · obtain rfl : q = m := by omega
              have he : (dat L).take q = dat L := List.take_of_length_le (by rw [dat_length, ← Hm.out]; exact Nat.le_refl _)
              rw [he] at HT
              clear ht hblk he
              go_wp2_with fail
              go_ret
              exact ⟨_, h, rfl, HT.out⟩
end Go.Proofs.Ytocllmhkppkfoaa
