/- impl's tableOf · impl's (*table).square, relation · the reference's vectors and masks: l11Vector, l12Mask, l12Vector, l12Masks, l12Vectors, l12Degree, l12Act, l02Times, l12Image · the reference's l12Act, l12Is · the reference's l12Two; modules and rows that came in · the reference: what an element makes of a vector; rows of an element · the reference: what an element makes of the basis, as masks · maps between modules: their equations and solutions, by both ways (no program in sight) · parts of modules: kernels by degrees, tables of parts (no program in sight) -/
import Derived.Test.YtdkmdmpaflgfaaaGreatDoorBxam
import Derived.Test.YtdkmdmpaflgfaaaGreatDoorBxab
import Derived.Test.YtdkmdmpaflgfaaaGreatDoorBxah
import Derived.Test.YtdkmdmpaflgfaaaGreatDoorBxac
import Derived.Test.YtdkmdmpaflgfaaaGreatDoorBxaa
import Derived.Test.YtdkmdmpaflgfaaaGreatDoorBxaj
import Derived.Test.YtdkmdmpaflgfaaaGreatDoorBxak
import Derived.Test.YtdkmdmpaflgfaaaGreatDoorBxai
set_option linter.all false
namespace Go.Proofs.YtdkmdmpaflgfaaaGreatDoor
open Go.RowKit

def sq2 (n b k : Nat) : List Nat := if k = 0 then (List.range n).map fun i => if i < b then 2 ^ i else 0 else List.replicate n 0
theorem sq2_len (n b k : Nat) : (sq2 n b k).length = n := by unfold sq2; split <;> simp
theorem sq2_zero (n k : Nat) : sq2 n 0 k = List.replicate n 0 := by
  unfold sq2; split
  · apply List.ext_getElem (by simp)
    intro i h1 h2; simp
  · rfl
theorem sq2_succ (n b j : Nat) (hb : b < n) : (if j = 0 then (sq2 n b 0).set b (2 ^ b) else sq2 n b j) = sq2 n (b + 1) j := by
  by_cases h : j = 0
  · subst h
    rw [if_pos rfl]
    unfold sq2
    rw [if_pos rfl, if_pos rfl]
    apply List.ext_getElem (by simp)
    intro i h1 h2
    rw [List.getElem_set]
    simp only [List.getElem_map, List.getElem_range]
    by_cases e : b = i
    · subst e; simp
    · rw [if_neg e]
      by_cases e2 : i < b
      · rw [if_pos e2, if_pos (by omega)]
      · rw [if_neg e2, if_neg (by omega)]
  · rw [if_neg h]; unfold sq2; rw [if_neg h, if_neg h]
theorem sq2_all (n k : Nat) : sq2 n n k = sqRow [] n k := by
  unfold sq2 sqRow sqOr
  apply List.ext_getElem (by split <;> simp)
  intro i h1 h2
  have hi : i < n := by simpa using h2
  by_cases h : k = 0
  · simp [h, hi]
  · simp [h]
theorem owns_getN {w : World} {B g n c k : Nat} {ys : List Nat} (h : w.ownsRow B 2 1 (.slice (some ⟨g, 0, none⟩) n c) n (nv ys)) (hl : ys.length = n) (hk : k < n) : w.cell? ⟨g, k, none⟩ = some (.int .i64 ((ys.getD k 0 : Nat) : Int)) := by
  rw [h.cellAt k (by omega)]; simp [nv, List.getD, show k < ys.length by omega]
theorem pow2_bd {d : Nat} (h : d ≤ 16) : (0 : Int) ≤ 2 ^ d ∧ (2 : Int) ^ d ≤ 65536 := by
  have : (2 : Nat) ^ d ≤ 2 ^ 16 := Nat.pow_le_pow_right (by omega) h
  have e : ((2 ^ d : Nat) : Int) = (2 : Int) ^ d := by simp
  exact ⟨by rw [← e]; exact Int.natCast_nonneg _, by rw [← e]; exact Int.le_trans (Int.ofNat_le.2 this) (by decide)⟩
theorem sqOr_take (Q : List (List Int)) {q : Nat} (hq : q < Q.length) (k i : Nat) : sqOr (Q.take (q + 1)) k i = sqStep k i (sqOr (Q.take q) k i) (Q.getD q []) := by
  unfold sqOr; exact fold_take_succ _ _ _ _ _ hq
theorem sqRow_step (Q : List (List Int)) (n q : Nat) (hq : q < Q.length) (i0 i1 j : Nat) (h0 : (Q.getD q []).getD 0 0 = (i0 : Int)) (h1 : (Q.getD q []).getD 1 0 = (i1 : Int)) :
    (if j = i0 then (sqRow (Q.take q) n i0).set i1 (orr ((sqRow (Q.take q) n i0).getD i1 0) (2 ^ ((Q.getD q []).getD 2 0).toNat)) else sqRow (Q.take q) n j) = sqRow (Q.take (q + 1)) n j := by
  apply List.ext_getElem (by split <;> simp [sqRow])
  intro i h2 h3
  have hi : i < n := by simpa [sqRow] using h3
  have e3 : (sqRow (Q.take (q + 1)) n j)[i] = sqStep j i (sqOr (Q.take q) j i) (Q.getD q []) := by
    simp only [sqRow, List.getElem_map, List.getElem_range]; exact sqOr_take Q hq j i
  rw [e3]
  unfold sqStep
  rw [h0, h1]
  by_cases e : j = i0
  · subst e
    simp only [if_true]
    rw [List.getElem_set]
    by_cases e4 : i1 = i
    · subst e4; rw [if_pos rfl, if_pos ⟨trivial, rfl⟩, sqRow_getD _ hi]
    · rw [if_neg e4, if_neg (show ¬ (True ∧ (i1 : Int) = (i : Int)) from fun h => e4 (by have := h.2; omega))]; simp [sqRow]
  · simp only [if_neg e]
    rw [if_neg (show ¬ ((i0 : Int) = (j : Int) ∧ (i1 : Int) = (i : Int)) from fun h => e (by have := h.1; omega))]; simp [sqRow]
theorem Shp.take {xs : List Int} {Q : List (List Int)} (h : Shp xs Q) (q : Nat) : Shp xs (Q.take q) := by
  have e : ∀ i, i < (Q.take q).length → (Q.take q).getD i [] = Q.getD i [] := fun i hi => by
    rw [List.length_take] at hi
    simp only [List.getD, List.getElem?_take, if_pos (show i < q by omega)]
  refine ⟨h.len, h.deg, h.srt, fun i hi => ?_, fun k hk => ?_⟩
  · rw [e i (by omega), e (i + 1) hi]; exact h.asc i (by rw [List.length_take] at hi; omega)
  · rw [e k hk]; exact h.ent k (by rw [List.length_take] at hk; omega)
theorem sqOr_sm {xs : List Int} {Q : List (List Int)} (h : Shp xs Q) (q k i : Nat) (hi : i < xs.length) : Sm (sqOr (Q.take q) k i) := by
  rw [sqOr_act (h.take q)]
  have := act_lt (h.take q) (v := 2 ^ i) (pow_lt_pow hi) (k : Int)
  have h2 : 2 ^ xs.length ≤ 2 ^ 16 := Nat.pow_le_pow_right (by omega) h.len
  unfold Sm
  omega
set_option maxRecDepth 100000 in
set_option maxHeartbeats 2000000 in
theorem tableOf_any (A A' : Option Addr) (n c m c' : Nat) (xs : List Int) (L : List Row) (w : World) (hn : n = xs.length) (hm : m = L.length) (hm1 : m ≤ 1048576) (hs : Shp xs (dat L)) (hR' : RdR w A' L) :
    Calls Tryz.prog 81 #[.agg #[.slice A n c, .slice A' m c']] w fun e w' => ∃ g h, e = .returned (.pointer (some ⟨g, 0, none⟩)) ∧ TbM w w' g A n c h 21 (sqRow (dat L) n) := by
  have hn16 : n ≤ 16 := by rw [hn]; exact hs.len
  have hk0 := blk_new w (.cells #[.slice A n c, .slice A' m c'] 30)
  obtain ⟨x0, x1, xf0, xf1, lx⟩ := blk2cells hk0
  have hmk := run_make_row' (P := Tryz.prog) 22 2 (.int .i64 0) 8 Tryz.underlying22 infoI rfl .i64 .i64 n (by omega) (by omega)
  have HS := Lib.hid hs
  have HR' := Lib.hid hR'
  have Hn := Lib.hid hn
  have Hm := Lib.hid hm
  have HMK := Lib.hid hmk
  clear hs hR' hn hm hk0 hmk
  go_enter Tryz.func81, Tryz.ntmps81
  go_wp2_with fail
  clear x0 x1 xf0 xf1 lx
  go_loopw [12] (fun i wr => ∃ k : Nat, ∃ h : Nat → Nat, k ≤ 21 ∧ i = .int .i64 k ∧ TbM w wr (w.heap.size + 1) A n c h k (fun _ => List.replicate n 0) ∧ wr.heap[w.heap.size]? = some (.cells #[.slice A n c, .slice A' m c'] 30 (0, 0))) (fun i _ => 21 - (intOf i).toNat)
  case atStart =>
    refine ⟨0, fun _ => 0, by omega, rfl, ⟨⟨_, blk_new1 w _ _, rfl, rfl, fun k hk => by omega⟩, fun k hk => by omega, fun k j hk => by omega, by omega, ((Below.refl _ _).alloc (Nat.le_refl _) _).alloc (by simp) _⟩, blk_alloc (blk_new w _) _⟩
  case round =>
    obtain ⟨k, h, hk, rfl, ht, hblk⟩ := hrel
    have HT := Lib.hid ht
    have HB := Lib.hid hblk
    have hglt := ht.lt
    by_cases hlt : k < 21
    · obtain ⟨x0, x1, xf0, xf1, lx⟩ := blk2cells hblk
      obtain ⟨old, hold⟩ := ht.old (i := 1 + k) (by omega)
      have hfz := ht.frozen (1 + k)
      have hmk := HMK.out
      have hk21 : (k : Int) < 21 := by omega
      clear ht hblk
      have hks : ((wr.setCell ⟨w.heap.size + 1, 1 + k, none⟩ (.slice (some ⟨wr.heap.size, 0, none⟩) n n)).alloc (.cells (madeCells #[.int .i64 0] n) 2)).drew.cell? ⟨w.heap.size, 0, none⟩ = some (.slice A n c) :=
        ((((Keeps.refl wr [some (w.heap.size + 1)]).setCell (p := ⟨w.heap.size + 1, 1 + k, none⟩) (by simp) _).alloc _).drew).cellSome x0 (by simp)
      have HKS := Lib.hid hks
      clear hks
      go_wp2_with fail
      go_region_held3 (fun w' => w'.cell? ⟨w.heap.size, 0, none⟩ = some (.slice A n c)) (first | exact x0 | exact cell_keep x0 (Below.drew (Below.refl _ _)) | exact cell_keep x0 ((Below.refl _ _).alloc (Nat.le_refl _) _) | exact cell_keep x0 ((Below.refl _ _).alloc (Nat.le_refl _) _).drew | exact HKS.out) (fail)
      clear hmk
      go_wp2_with fail
      go_roundw
      case rel =>
        refine ⟨k + 1, fun j => if j = k then wr.heap.size else h j, by omega, by go_num, ?_, ?_⟩
        · have t1 := HT.out.make hlt (by omega)
          rw [World.setCell_alloc_past _ _ _ _ hglt] at t1
          exact t1.drew.congr (fun j _ => by split <;> rfl)
        · exact (blk_alloc (blk_seto HB.out ⟨w.heap.size + 1, 1 + k, none⟩ (by simp) _) _ : _)
      case measure => simp [intOf]; omega
    · obtain rfl : k = 21 := by omega
      rw [show ((21 : Nat) : Int) = 21 from rfl]
      obtain ⟨x0, x1, xf0, xf1, lx⟩ := blk2cells hblk
      clear ht hblk hglt hlt
      go_wp2_with fail
      go_loopw [28] (fun i wr => ∃ b : Nat, b ≤ n ∧ i = .int .i64 b ∧ TbM w wr (w.heap.size + 1) A n c h 21 (sq2 n b) ∧ wr.heap[w.heap.size]? = some (.cells #[.slice A n c, .slice A' m c'] 30 (0, 0))) (fun i _ => n - (intOf i).toNat)
      case atStart => exact ⟨0, by omega, rfl, HT.out.congr (fun k _ => (sq2_zero n k).symm), HB.out⟩
      case round =>
        obtain ⟨b, hb, rfl, ht, hblk⟩ := hrel
        have HT := Lib.hid ht
        have HB := Lib.hid hblk
        by_cases hlt : b < n
        · have hc0 : wr.cell? ⟨w.heap.size + 1, 1, none⟩ = some (.slice (some ⟨h 0, 0, none⟩) n n) := ht.cell (k := 0) (by omega)
          have ho := ht.own 0 (by omega)
          have hcb := owns_getN ho (sq2_len n b 0) hlt
          have hfz := ho.frozenAt b
          obtain ⟨hp1, hp2⟩ := pow2_bd (d := b) (by omega)
          have HE : Hid (((2 ^ b : Nat) : Int) = (2 : Int) ^ b) := Lib.hid (by simp)
          generalize (sq2 n b 0).getD b 0 = oldv at *
          clear ht hblk ho x0 x1 xf0 xf1 lx
          go_wp2_with fail
          go_still_tail 9, (by kernel_rfl)
          go_wp2_with fail
          go_roundw
          case rel =>
            refine ⟨b + 1, by omega, by go_num, ?_, ?_⟩
            · have t1 := HT.out.store (k := 0) (by omega) b (2 ^ b)
              rw [HE.out] at t1
              exact t1.drew.congr (fun j _ => sq2_succ n b j hlt)
            · exact blk_seto HB.out ⟨h 0, b, none⟩ (by have := own_ne_blk (HT.out.own 0 (by omega)) HB.out (by decide); simpa [Value.ownBlock] using this) _
          case measure => simp [intOf]; omega
        · obtain rfl : b = n := by omega
          have HT3 := Lib.hid (ht.congr (fun k _ => sq2_all b k))
          obtain ⟨x0, x1, xf0, xf1, lx⟩ := blk2cells hblk
          clear ht hblk HT
          go_wp2_with fail
          go_loopw [44] (fun i wr => ∃ q : Nat, q ≤ m ∧ i = .int .i64 q ∧ TbM w wr (w.heap.size + 1) A b c h 21 (sqRow ((dat L).take q) b) ∧ wr.heap[w.heap.size]? = some (.cells #[.slice A b c, .slice A' m c'] 30 (0, 0))) (fun i _ => m - (intOf i).toNat)
          case atStart => exact ⟨0, by omega, rfl, HT3.out, HB.out⟩
          case round =>
            obtain ⟨q, hq, rfl, ht, hblk⟩ := hrel
            have HT := Lib.hid ht
            have HB := Lib.hid hblk
            by_cases hlt : q < m
            · have hqL : q < L.length := by rw [← Hm.out]; exact hlt
              have hR1 := HR'.out.below ht.bel
              obtain ⟨bR, oR, rfl, hcell⟩ := hR1.at_ hqL
              have hin := hR1.inn q hqL
              have hent := HS.out.ent q (by rw [dat_length]; exact hqL)
              have HSX := Lib.hid (fun (i0 i1 : Nat) (j : Nat) => sqRow_step (dat L) b q (by rw [dat_length]; exact hqL) i0 i1 j)
              have HSM := Lib.hid (fun (i0 i1 : Nat) (h1 : i1 < b) => sqOr_sm HS.out q i0 i1 (by rw [← Hn.out]; exact h1))
              have h20 := hent.le20 HS.out.deg
              rw [dat_getD] at hent HSX h20
              generalize rg L q = r at *
              obtain ⟨rA, rc, rx⟩ := r
              simp only at hcell hin hent HSX h20
              have hl3 := hent.len
              rw [hl3] at hcell
              obtain ⟨b1, o1, rfl, hy0⟩ := hin.atI (k := 0) (by omega)
              rw [Nat.add_zero] at hy0
              have hy1 := hin.cellI (k := 1) (by omega)
              have hy2 := hin.cellI (k := 2) (by omega)
              have hlo0 := hent.pos
              have hlo1 := hent.lo1
              have hhi1 := hent.hi1
              have hlo2 := hent.lo2
              have hhi2 := hent.hi2
              rw [← Hn.out] at hhi1 hhi2
              clear hent hin hR1 hl3
              generalize rx.getD 0 0 = e0 at *
              generalize rx.getD 1 0 = e1 at *
              generalize rx.getD 2 0 = e2 at *
              obtain ⟨i0, rfl⟩ := Int.eq_ofNat_of_zero_le (show 0 ≤ e0 by omega)
              obtain ⟨i1, rfl⟩ := Int.eq_ofNat_of_zero_le hlo1
              obtain ⟨i2, rfl⟩ := Int.eq_ofNat_of_zero_le hlo2
              have hi0 : i0 < 21 := by omega
              have hi0' : (i0 : Int) < 21 := by omega
              have hi1 : i1 < b := by omega
              have hi1' : (i1 : Int) < (b : Int) := by omega
              have hi2 : i2 ≤ 16 := by omega
              have hc0 := ht.cell (k := i0) hi0
              have ho := ht.own i0 hi0
              have hcb := owns_getN ho (sqRow_length _ _ _) hi1
              have hfz := ho.frozenAt i1
              obtain ⟨hp1, hp2⟩ := pow2_bd (d := i2) hi2
              have HE : Hid (((2 ^ i2 : Nat) : Int) = (2 : Int) ^ i2) := Lib.hid (by simp)
              have hsm := HSM.out i0 i1 hi1
              rw [← sqRow_getD _ hi1] at hsm
              have hor := i64_or_nat (b := 2 ^ i2) hsm (show Sm (2 ^ i2) from Nat.lt_of_le_of_lt (Nat.pow_le_pow_right (by omega) hi2) (by omega))
              rw [HE.out] at hor
              have HST := Lib.hid (HT.out.store (k := i0) hi0 i1 (orr ((sqRow (List.take q (dat L)) b i0).getD i1 0) (2 ^ i2)))
              have HSTEP := Lib.hid (fun j => HSX.out i0 i1 j rfl rfl)
              rw [Int.toNat_natCast] at HSTEP
              generalize (sqRow (List.take q (dat L)) b i0).getD i1 0 = oldv at *
              clear ht hblk ho x0 x1 xf0 xf1 lx hsm
              go_wp2_with fail
              go_still_tail 19, (by kernel_rfl)
              have HOR := Lib.hid hor
              clear hor
              go_wp2_with fail
              go_roundw
              case rel => exact ⟨q + 1, by omega, by go_num, by rw [HOR.out]; exact HST.out.drew.congr (fun j _ => HSTEP.out j), blk_seto HB.out ⟨h i0, i1, none⟩ (by have := own_ne_blk (HT.out.own i0 hi0) HB.out (by decide); simpa [Value.ownBlock] using this) _⟩
              case measure => simp [intOf]; omega
            · obtain rfl : q = m := by omega
              have he : (dat L).take q = dat L := List.take_of_length_le (by rw [dat_length, ← Hm.out]; exact Nat.le_refl _)
              rw [he] at HT
              clear ht hblk he
              go_wp2_with fail
              go_ret
              exact ⟨_, h, rfl, HT.out⟩
end Go.Proofs.YtdkmdmpaflgfaaaGreatDoor

namespace Go.Proofs.YtdkmdmpaflgfaaaGreatDoor
open Go.RowKit

/-- the table of a module, to be read -/
structure TblAt (w : World) (g : Nat) (A : Option Addr) (n c : Nat) (Q : List (List Int)) : Prop where
  c0 : w.cell? ⟨g, 0, none⟩ = some (.slice A n c)
  row : ∀ k, k < 21 → ∃ h, w.cell? ⟨g, 1 + k, none⟩ = some (.slice (some ⟨h, 0, none⟩) n n) ∧ Rd w (some ⟨h, 0, none⟩) (nv (sqRow Q n k))
theorem TbM.rd {w0 w : World} {g : Nat} {A : Option Addr} {n c : Nat} {h : Nat → Nat} {Q : List (List Int)} (t : TbM w0 w g A n c h 21 (sqRow Q n)) : TblAt w g A n c Q :=
  ⟨t.cell0, fun k hk => ⟨h k, t.cell hk, owns_Rd (t.own k hk)⟩⟩
theorem TblAt.below {w w' : World} {g : Nat} {A : Option Addr} {n c : Nat} {Q : List (List Int)} (t : TblAt w g A n c Q) (hb : Below w.heap.size w w') : TblAt w' g A n c Q :=
  ⟨cell_keep t.c0 hb, fun k hk => by obtain ⟨h, h1, h2⟩ := t.row k hk; exact ⟨h, cell_keep h1 hb, h2.below hb⟩⟩
theorem sm_of_len {xs : List Int} {v : Nat} (h : xs.length ≤ 16) (hv : v < 2 ^ xs.length) : Sm v := by
  have h2 : 2 ^ xs.length ≤ 2 ^ 16 := Nat.pow_le_pow_right (by omega) h
  unfold Sm; omega
theorem sqRow_sm {xs : List Int} {Q : List (List Int)} (h : Shp xs Q) (k : Nat) : ∀ r ∈ sqRow Q xs.length k, Sm r := by
  intro r hr
  unfold sqRow at hr
  rw [List.mem_map] at hr
  obtain ⟨i, hi, rfl⟩ := hr
  rw [List.mem_range] at hi
  rw [sqOr_act h]
  exact sm_of_len h.len (act_lt h (pow_lt_pow hi) _)

set_option maxHeartbeats 1000000 in
theorem square_any (g : Nat) (A : Option Addr) (n c : Nat) (xs : List Int) (Q : List (List Int)) (z y : Int) (v : Nat) (w : World) (hn : n = xs.length) (hs : Shp xs Q) (hz : 0 ≤ z) (hy : y = (v : Int)) (hv : v < 2 ^ xs.length) (ht : TblAt w g A n c Q) :
    Calls Tryz.prog 129 #[.pointer (some ⟨g, 0, none⟩), .int .i64 z, .int .i64 y] w fun e w' => e = .returned (.int .i64 (act Q z v : Nat)) ∧ w = w' := by
  subst hy
  by_cases hb : 20 < z
  · have HE := Lib.hid (act_big hs hb v)
    clear ht hn hs
    go_enter Tryz.func129, Tryz.ntmps129
    go_wp2_with fail
    go_ret
    exact ⟨by rw [HE.out]; rfl, rfl⟩
  · obtain ⟨k, rfl⟩ := Int.eq_ofNat_of_zero_le hz
    obtain ⟨h, h1, h2⟩ := ht.row k (by omega)
    have hT := times_any (some ⟨h, 0, none⟩) n n (sqRow Q n k) v w (sqRow_length _ _ _).symm (by have := hs.len; omega) (sm_of_len hs.len hv) (by rw [hn]; exact sqRow_sm hs k) h2
    have hE := sq_times hs k hv
    rw [← hn] at hE
    rw [hE] at hT
    have HT := Lib.hid hT
    have hk : (k : Int) < 21 := by omega
    clear ht h2 hT hE hn hs
    go_enter Tryz.func129, Tryz.ntmps129
    go_wp2_with fail
    refine HT.out.mono ?_
    rintro e w' ⟨rfl, rfl⟩
    go_wp2_with fail
    go_ret
    exact ⟨rfl, rfl⟩

def relF (a b j : Nat) : List Nat := (List.range j).filter (relB a b)
theorem relF_yes {a b j : Nat} (h : relB a b j = true) : relF a b (j + 1) = relF a b j ++ [j] := by unfold relF; rw [List.range_succ, List.filter_append]; simp [h]
theorem relF_no {a b j : Nat} (h : relB a b j = false) : relF a b (j + 1) = relF a b j := by unfold relF; rw [List.range_succ, List.filter_append]; simp [h]
theorem relF_len (a b j : Nat) : (relF a b j).length ≤ j := by unfold relF; exact Nat.le_trans (List.length_filter_le _ _) (by simp)
theorem nv_append (S : List Nat) (j : Nat) : nv (S ++ [j]) = nv S ++ [.int .i64 (j : Int)] := by simp [nv]

set_option maxHeartbeats 2000000 in
theorem relation_any (a b : Nat) (w : World) (ha : 1 ≤ a) (hab : a < 2 * b) (hb1 : a + b ≤ 1000) :
    Calls Tryz.prog 128 #[.int .i64 a, .int .i64 b] w fun e w' => ∃ g k cap, e = .returned (.slice (some ⟨g, 0, none⟩) k cap) ∧ Hid (k = (relN a b).length) ∧ w'.ownsRow w.heap.size 2 1 (.slice (some ⟨g, 0, none⟩) k cap) k (nv (relN a b)) ∧ Below w.heap.size w w' := by
  go_enter Tryz.func128, Tryz.ntmps128
  go_wp2_with fail
  go_loopw [5, 6] (fun v s6 wr => ∃ j g k cap : Nat, j ≤ a / 2 + 1 ∧ s6 = .int .i64 j ∧ v = .slice (some ⟨g, 0, none⟩) k cap ∧ k ≤ j ∧ Hid (k = (relF a b j).length) ∧ wr.ownsRow w.heap.size 2 1 (.slice (some ⟨g, 0, none⟩) k cap) k (nv (relF a b j)) ∧ Below w.heap.size w wr) (fun _ i _ => a / 2 + 1 - (intOf i).toNat)
  case atStart => exact ⟨0, w.heap.size, 0, 0, by omega, rfl, rfl, by omega, Lib.hid rfl, World.ownsRow_made w #[] 0 (Nat.le_refl _) (by decide) (by simp), (Below.refl _ _).alloc (Nat.le_refl _) _⟩
  case round =>
    obtain ⟨j, g, k, cap, hj, rfl, rfl, hkj, HK, hown, hbel⟩ := hrel
    have HO := Lib.hid hown
    have HB := Lib.hid hbel
    have hsz := hbel.size
    by_cases h2 : 2 * j ≤ a
    · have h2' : 2 * (j : Int) ≤ (a : Int) := by omega
      have hand := i64_and_nat (a := b - j - 1) (b := a - 2 * j) (by unfold Sm; omega) (by unfold Sm; omega)
      have e1 : ((b - j - 1 : Nat) : Int) = (b : Int) - j - 1 := by omega
      have e2 : ((a - 2 * j : Nat) : Int) = (a : Int) - 2 * j := by omega
      have HR : Hid (relB a b j = (an (b - j - 1) (a - 2 * j) == a - 2 * j)) := Lib.hid rfl
      rw [e1, e2] at hand
      clear hown hbel
      cases hrel : relB a b j
      · have hne : ((an (b - j - 1) (a - 2 * j) : Nat) : Int) ≠ (a : Int) - 2 * j := by
          have := HR.out.symm.trans hrel
          rw [beq_eq_false_iff_ne] at this
          omega
        have HF := Lib.hid (relF_no hrel)
        generalize an (b - j - 1) (a - 2 * j) = p at *
        have hnb : ((p : Int) == (a : Int) - 2 * j) = false := by simpa using hne
        clear hrel e1 e2 hne
        go_wp2_with fail
        go_roundw
        case rel => exact ⟨j + 1, g, k, cap, by omega, by go_num, rfl, by omega, by rw [HF.out]; exact HK, by rw [HF.out]; exact HO.out, HB.out⟩
        case measure => simp [intOf]; omega
      · have heq : ((an (b - j - 1) (a - 2 * j) : Nat) : Int) = (a : Int) - 2 * j := by
          have := HR.out.symm.trans hrel
          rw [beq_iff_eq] at this
          omega
        rw [heq] at hand
        have HF := Lib.hid (relF_yes hrel)
        have HK2 : Hid (k + 1 = (relF a b j ++ [j]).length) := Lib.hid (by rw [List.length_append, HK.out]; rfl)
        have hk12 : k < 1099511627776 := by omega
        clear hrel e1 e2 heq
        go_wp2_with (at_builtin; refine wpList_app1 _ _ _ _ _ etI (by rfl) (by rfl) w.heap.size (.slice (some ⟨g, 0, none⟩) k cap) k (nv (relF a b j)) (by rfl) (HO.out.alloc _) _ (.int .i64 (j : Int)) (by rfl) (new_cell _ _ _) (by rfl) hk12 (Nat.le_trans hsz (Nat.le_of_lt (by simp))) ?_; (intro g1 cap1 w1 hown1 hgrow1 hat1 hlt1; have HO1 := Lib.hid hown1; have HB1 := Lib.hid (below_app2 HB.out hsz HO.out hgrow1); clear hown1 hgrow1 hat1 hlt1))
        go_roundw
        case rel => exact ⟨j + 1, g1, k + 1, cap1, by omega, by go_num, rfl, by omega, by rw [HF.out]; exact HK2, by rw [HF.out, nv_append]; exact HO1.out, HB1.out⟩
        case measure => simp [intOf]; omega
    · have h2c : ¬ 2 * (j : Int) ≤ (a : Int) := by omega
      have hj9 : j ≤ 1000 := by omega
      have HE : Hid (relF a b j = relN a b) := Lib.hid (by rw [show j = a / 2 + 1 by omega]; rfl)
      rw [HE.out] at HK HO
      clear hown hbel hj h2
      go_wp2_with fail
      go_ret
      exact ⟨g, k, cap, rfl, HK, HO.out, HB.out⟩
end Go.Proofs.YtdkmdmpaflgfaaaGreatDoor

namespace Go.Proofs.YtdkmdmpaflgfaaaGreatDoor
open Go.RowKit

theorem inB01 (x : Int) : inB x 0 1 = (decide (0 ≤ x) && decide (x ≤ 1)) := rfl
theorem i64_bit_int {a n : Nat} (ha : Sm a) : bits .and .i64 ((a : Int) / 2 ^ n) 1 = bit a n := by
  rw [i64_bit_nat ha]
  unfold bit
  cases tb a n <;> rfl
theorem sm_pow {v n : Nat} (hn : n ≤ 62) (h : v < 2 ^ n) : Sm v := by
  unfold Sm
  have : (2 : Nat) ^ n ≤ 2 ^ 62 := Nat.pow_le_pow_right (by omega) hn
  omega
theorem pow62 {d : Nat} (h : d ≤ 62) : (0 : Int) ≤ 2 ^ d ∧ (2 : Int) ^ d ≤ 4611686018427387904 := by
  have e : ((2 ^ d : Nat) : Int) = (2 : Int) ^ d := by simp
  have h1 : (2 : Nat) ^ d ≤ 2 ^ 62 := Nat.pow_le_pow_right (by omega) h
  rw [← e]
  generalize (2 : Nat) ^ d = q at *
  omega
theorem i64_or_zero {a : Nat} (ha : Sm a) : bits .or .i64 (a : Int) 0 = (a : Int) := by
  have := i64_or_nat ha Sm.zero
  rw [show orr a 0 = a by unfold orr; simp] at this
  exact this
attribute [local go_sem] i64_or_nat in
set_option maxHeartbeats 1000000 in
theorem l12Mask_any (V : Option Addr) (n cv v : Nat) (w : World) (hn : n ≤ 62) (hv : v < 2 ^ n) (hV : Rd w V (iv (bitsL v n))) :
    Calls Tryz.prog 119 #[.slice V n cv] w fun e w' => e = .returned (.int .i64 (v : Nat)) ∧ w = w' := by
  have HV := Lib.hid hV
  have HM := Lib.hid (mk_bits hv)
  have HLT := Lib.hid (fun j => mk_lt ((bitsL v n).take j))
  clear hV hv
  go_enter Tryz.func119, Tryz.ntmps119
  go_wp2_with fail
  go_loop [3, 4] (fun t i => ∃ k : Nat, k ≤ n ∧ i = .int .i64 k ∧ t = .int .i64 (mk ((bitsL v n).take k) : Nat)) (fun _ i => n - (intOf i).toNat)
  case atStart => exact ⟨0, by omega, rfl, rfl⟩
  case round =>
    obtain ⟨k, hk, rfl, rfl⟩ := hrel
    by_cases hlt : k < n
    · obtain ⟨b, o, rfl, hc⟩ := HV.out.atI (k := k) (by rw [bitsL_length]; exact hlt)
      rw [bitsL_getD _ hlt] at hc
      have hms := mk_take (v := bitsL v n) (k := k) (by rw [bitsL_length]; exact hlt)
      rw [bitsL_getD _ hlt] at hms
      have h1 : Sm (mk ((bitsL v n).take k)) := sm_pow (n := 62) (by omega) (Nat.lt_of_lt_of_le (HLT.out k) (Nat.pow_le_pow_right (by omega) (by rw [List.length_take]; omega)))
      have h2 : Sm (2 ^ k) := sm_pow (n := k + 1) (by omega) (pow_lt_pow (by omega))
      have he : ((2 ^ k : Nat) : Int) = (2 : Int) ^ k := by simp
      have hor := i64_or_nat h1 h2
      rw [he] at hor
      obtain ⟨p1, p2⟩ := pow62 (d := k) (by omega)
      generalize mk ((bitsL v n).take k) = p at *
      cases hb : tb v k
      · rw [bit_none hb] at hc hms
        have HE : Hid (mk ((bitsL v n).take (k + 1)) = p) := Lib.hid (by rw [hms, if_neg (by omega)]; unfold orr; simp)
        have hz := i64_or_zero h1
        clear hms he hor
        go_wp2_with fail
        go_round
        case rel => exact ⟨k + 1, by omega, by go_num, by rw [HE.out]⟩
        case measure => simp [intOf]; omega
      · rw [bit_one hb] at hc hms
        have HE : Hid (mk ((bitsL v n).take (k + 1)) = orr p (2 ^ k)) := Lib.hid (by rw [hms, if_pos rfl])
        clear hms he
        go_wp2_with fail
        go_round
        case rel => exact ⟨k + 1, by omega, by go_num, by rw [HE.out]⟩
        case measure => simp [intOf]; omega
    · have e : (bitsL v n).take k = bitsL v n := List.take_of_length_le (by rw [bitsL_length]; omega)
      rw [e, HM.out]
      clear e
      go_wp2_with fail
      go_ret
      exact ⟨rfl, rfl⟩

attribute [local go_sem] i64_bit_int in
set_option maxHeartbeats 1000000 in
theorem l12Vector_any (n v : Nat) (w : World) (hn : n ≤ 62) (hv : Sm v) :
    Calls Tryz.prog 110 #[.int .i64 v, .int .i64 n] w fun e w' => ∃ g cap, e = .returned (.slice (some ⟨g, 0, none⟩) n cap) ∧ w'.ownsRow w.heap.size 2 1 (.slice (some ⟨g, 0, none⟩) n cap) n (iv (bitsL v n)) ∧ Below w.heap.size w w' := by
  go_enter Tryz.func110, Tryz.ntmps110
  go_wp2_with fail
  go_loopw [5, 6] (fun vv i wr => ∃ k g cap : Nat, k ≤ n ∧ i = .int .i64 k ∧ vv = .slice (some ⟨g, 0, none⟩) k cap ∧ wr.ownsRow w.heap.size 2 1 (.slice (some ⟨g, 0, none⟩) k cap) k (iv ((bitsL v n).take k)) ∧ Below w.heap.size w wr) (fun _ i _ => n - (intOf i).toNat)
  case atStart => exact ⟨0, w.heap.size, 0, by omega, rfl, rfl, World.ownsRow_made w #[] 0 (Nat.le_refl _) (by decide) (by simp), (Below.refl _ _).alloc (Nat.le_refl _) _⟩
  case round =>
    obtain ⟨k, g, cap, hk, rfl, rfl, hown, hbel⟩ := hrel
    have HO := Lib.hid hown
    have HB := Lib.hid hbel
    have hsz := hbel.size
    by_cases hlt : k < n
    · have HTS : Hid ((bitsL v n).take (k + 1) = (bitsL v n).take k ++ [bit v k]) := Lib.hid (bitsL_take _ hlt)
      have hmin : min k 64 = k := by omega
      clear hown hbel
      go_wp2_with (at_builtin; refine wpList_app1 _ _ _ _ _ etI (by rfl) (by rfl) w.heap.size (.slice (some ⟨g, 0, none⟩) k cap) k (iv ((bitsL v n).take k)) (by rfl) (HO.out.alloc _) _ (.int .i64 (bit v k)) (by rfl) (new_cell _ _ _) (by rfl) (by omega) (Nat.le_trans hsz (Nat.le_of_lt (by simp))) ?_; (intro g1 cap1 w1 hown1 hgrow1 hat1 hlt1; have HO1 := Lib.hid hown1; have HB1 := Lib.hid (below_app2 HB.out hsz HO.out hgrow1); clear hown1 hgrow1 hat1 hlt1))
      go_roundw
      case rel => exact ⟨k + 1, g1, cap1, by omega, by go_num, rfl, by rw [HTS.out, iv_append]; exact HO1.out, HB1.out⟩
      case measure => simp [intOf]; omega
    · obtain rfl : k = n := by omega
      have he : (bitsL v k).take k = bitsL v k := List.take_of_length_le (by rw [bitsL_length]; exact Nat.le_refl _)
      rw [he] at HO
      clear hown hbel he
      go_wp2_with fail
      go_ret
      exact ⟨g, cap, rfl, HO.out, HB.out⟩

theorem vec_row {n : Nat} {xs : List Int} (h : vecB n xs = true) : xs.length = n ∧ xs = bitsL (mk xs) n ∧ mk xs < 2 ^ n := ⟨(vecB_iff.1 h).1, vec_bits h⟩
set_option maxHeartbeats 1000000 in
theorem l12Vectors_any (n : Nat) (A : Option Addr) (k c : Nat) (S : List Nat) (w : World) (hk : k = S.length) (hsm : k ≤ 1048576) (hn : n ≤ 62) (hS : ∀ r ∈ S, Sm r) (hR : Rd w A (nv S)) :
    Calls Tryz.prog 80 #[.slice A k c, .int .i64 n] w fun e w' => ∃ A1 c1 R, e = .returned (.slice A1 k c1) ∧ R.length = k ∧ dat R = S.map (fun v => bitsL v n) ∧ OwnR w' w.heap.size (.slice A1 k c1) R ∧ Below w.heap.size w w' := by
  have HR := Lib.hid hR
  have Hk := Lib.hid hk
  have HS := Lib.hid hS
  clear hR hk hS
  go_enter Tryz.func80, Tryz.ntmps80
  go_wp2_with fail
  go_loopw [5, 6] (fun vv i wr => ∃ R : List Row, ∃ A1 c1, R.length ≤ k ∧ i = .int .i64 (R.length : Nat) ∧ vv = .slice A1 R.length c1 ∧ Hid (dat R = (S.take R.length).map (fun v => bitsL v n)) ∧ OwnR wr w.heap.size (.slice A1 R.length c1) R ∧ Below w.heap.size w wr) (fun _ i _ => k - (intOf i).toNat)
  case atStart => exact ⟨[], some ⟨w.heap.size, 0, none⟩, 0, by simp, rfl, rfl, Lib.hid rfl, OwnR.made w (Nat.le_refl _), (Below.refl _ _).alloc (Nat.le_refl _) _⟩
  case round =>
    obtain ⟨R, A1, c1, hj, rfl, rfl, HD, hown, hbel⟩ := hrel
    have HO := Lib.hid hown
    have HB := Lib.hid hbel
    have hsz := hbel.size
    have hq : R.length < 1099511627776 := by omega
    by_cases hlt : R.length < k
    · have hjS : R.length < S.length := by rw [← Hk.out]; exact hlt
      obtain ⟨b, o, rfl, hc⟩ := (HR.out.below hbel).atN hjS
      have hs : Sm (S.getD R.length 0) := HS.out _ (by simp [List.getD, hjS])
      have HTS : Hid ((S.take (R.length + 1)).map (fun v => bitsL v n) = (S.take R.length).map (fun v => bitsL v n) ++ [bitsL (S.getD R.length 0) n]) := Lib.hid (by
        rw [List.take_succ_eq_append_getElem hjS, List.map_append]; simp [List.getD, hjS])
      generalize S.getD R.length 0 = q at *
      have HC := Lib.hid (l12Vector_any n q wr hn hs)
      clear hown hbel hs hjS
      go_wp2_with fail
      refine HC.out.mono ?_
      rintro e w1 ⟨g, cap, rfl, ho, hb⟩
      have HO1 := Lib.hid ho
      have HB1 := Lib.hid hb
      clear ho hb
      go_wp2_with (at_builtin; refine wpList_app1 _ _ _ _ _ etS (by rfl) (by rfl) w.heap.size (.slice A1 R.length c1) R.length (hv R) (by rfl) ((HO.out.later HB1.out).out.alloc _) _ (.slice (some ⟨g, 0, none⟩) n cap) (by rfl) (new_cell _ _ _) (by rfl) hq (Nat.le_trans (Nat.le_trans hsz HB1.out.size) (Nat.le_of_lt (by simp))) ?_; (intro g2 c2 w3 hown3 hg3 hat3 hlt3; have HN := Lib.hid (OwnR.push HO.out HB1.out HO1.out (bitsL_length _ _).symm hsz hown3 hg3); have HB3 := Lib.hid (below_app2 (HB.out.trans (HB1.out.mono hsz)) (Nat.le_trans hsz HB1.out.size) (HO.out.later HB1.out).out hg3); clear hown3 hg3 hat3 hlt3))
      go_roundw
      case rel =>
        refine ⟨R ++ [⟨some ⟨g, 0, none⟩, cap, bitsL q n⟩], some ⟨g2, 0, none⟩, c2, by simp; omega, by simp, by simp, Lib.hid ?_, by simpa using HN.out, HB3.out⟩
        rw [dat_append1, HD.out, List.length_append, List.length_singleton, HTS.out]
      case measure => simp [intOf]; omega
    · obtain rfl : k = R.length := by omega
      have he : S.take R.length = S := List.take_of_length_le (by rw [← Hk.out]; exact Nat.le_refl _)
      rw [he] at HD
      clear hown hbel he
      go_wp2_with fail
      go_ret
      exact ⟨A1, c1, R, rfl, rfl, HD.out, HO.out, HB.out⟩

end Go.Proofs.YtdkmdmpaflgfaaaGreatDoor

namespace Go.Proofs.YtdkmdmpaflgfaaaGreatDoor
open Go.RowKit

theorem i64_andnot_nat {a b : Nat} (ha : Sm a) (hb : Sm b) : bits .andNot .i64 (a : Int) (b : Int) = ((nt a b : Nat) : Int) := by
  have hx : Sm (nt a b) := ha.xr ha.an
  have e : ∀ x y : BitVec 64, x &&& ~~~y = x ^^^ (x &&& y) := by
    intro x y; ext i; simp; cases x[i] <;> cases y[i] <;> rfl
  unfold Sm at *
  show IntKind.i64.wrap ((BitVec.ofInt 64 (a : Int) &&& ~~~BitVec.ofInt 64 (b : Int)).toNat : Int) = _
  rw [e, BitVec.toNat_xor, BitVec.toNat_and, ofInt64_nat a (by omega), ofInt64_nat b (by omega), IntKind.wrap_i64]
  unfold nt at *
  omega

/-- a module to be read -/
structure ModR (w : World) (A : Option Addr) (n : Nat) (A' : Option Addr) (m : Nat) (xs : List Int) (L : List Row) : Prop where
  hn : n = xs.length
  deg : Rd w A (iv xs)
  hm : m = L.length
  hm1 : m ≤ 1048576
  act : RdR w A' L
theorem ModR.below {w w' : World} {A A' : Option Addr} {n m : Nat} {xs : List Int} {L : List Row} (h : ModR w A n A' m xs L) (hb : Below w.heap.size w w') : ModR w' A n A' m xs L :=
  ⟨h.hn, h.deg.below hb, h.hm, h.hm1, h.act.below hb⟩

set_option maxRecDepth 100000 in
set_option maxHeartbeats 2000000 in
theorem l12Act_any (A A' : Option Addr) (n c m c' : Nat) (xs : List Int) (L : List Row) (z y : Int) (v : Nat) (w : World) (hM : ModR w A n A' m xs L) (hs : Shp xs (dat L)) (hy : y = (v : Int)) (hv : v < 2 ^ xs.length) :
    Calls Tryz.prog 109 #[.agg #[.slice A n c, .slice A' m c'], .int .i64 z, .int .i64 y] w fun e w' => e = .returned (.int .i64 (act (dat L) z v : Nat)) ∧ Below w.heap.size w w' := by
  subst hy
  have hn16 : n ≤ 16 := by rw [hM.hn]; exact hs.len
  have hb0 : Below w.heap.size w (w.alloc (.cells #[.slice A n c, .slice A' m c'] 30)) := (Below.refl _ _).alloc (Nat.le_refl _) _
  have hk0 := blk_new w (.cells #[.slice A n c, .slice A' m c'] 30)
  have HSM : Hid (Sm v) := Lib.hid (sm_pow (n := 16) (by omega) (Nat.lt_of_lt_of_le hv (Nat.pow_le_pow_right (by omega) hs.len)))
  have HLT : Hid (act (dat L) z v < 2 ^ n) := Lib.hid (by rw [hM.hn]; exact act_lt hs hv z)
  have HA := Lib.hid (fun (V : Option Addr) (cv : Nat) W (hb : Below w.heap.size w W) hV => l11Act_any A A' V n c m c' cv xs L z v W hM.hn hM.hm hs hM.hm1 (hM.act.below hb) hV)
  have HB0 := Lib.hid hb0
  have KS := Lib.hid (fun w' (hb : Below (w.alloc (.cells #[.slice A n c, .slice A' m c'] 30)).heap.size (w.alloc (.cells #[.slice A n c, .slice A' m c'] 30)) w') => show w'.cell? ⟨w.heap.size, 0, none⟩ = some (.slice A n c) ∧ w'.cell? ⟨w.heap.size, 1, none⟩ = some (.slice A' m c') from by
    obtain ⟨x0, x1, _⟩ := blk2cells (blk_kept hk0 hb)
    exact ⟨x0, x1⟩)
  have HB_0 := Lib.hid (Below.drew (Below.refl (w.alloc (.cells #[.slice A n c, .slice A' m c'] 30)).heap.size (w.alloc (.cells #[.slice A n c, .slice A' m c'] 30))))
  clear hM hs hv hb0 hk0
  go_enter Tryz.func109, Tryz.ntmps109
  go_wp2_with fail
  go_region_held3 (fun w' => w'.cell? ⟨w.heap.size, 0, none⟩ = some (.slice A n c) ∧ w'.cell? ⟨w.heap.size, 1, none⟩ = some (.slice A' m c'))
    (first | exact KS.out _ HB_0.out | exact KS.out _ HB_1.out | exact KS.out _ HB_2.out)
    (first
      | (go_at_call 110; (with_reducible refine (l12Vector_any n v _ (by omega) HSM.out).mono ?_); (rintro e w1 ⟨g1, c1, rfl, ho, hb⟩; have HO1 := Lib.hid ho; have HB_1 := Lib.hid (HB_0.out.trans (hb.mono HB_0.out.size)); clear ho hb))
      | (go_at_call 159; (with_reducible refine (HA.out _ _ _ (HB0.out.trans (HB_1.out.mono HB0.out.size)) (owns_Rd HO1.out)).mono ?_); (rintro e w2 ⟨g2, c2, rfl, ho, hb⟩; have HO2 := Lib.hid ho; have HB_2 := Lib.hid (HB_1.out.trans (hb.mono HB_1.out.size)); clear ho hb))
      | (go_at_call 119; (with_reducible refine (l12Mask_any _ n _ _ _ (by omega) HLT.out (owns_Rd HO2.out)).mono ?_); (rintro e w3 ⟨rfl, rfl⟩)))
  go_wp2_with fail
  go_ret
  exact ⟨rfl, HB0.out.trans (HB_2.out.mono HB0.out.size)⟩
end Go.Proofs.YtdkmdmpaflgfaaaGreatDoor

namespace Go.Proofs.YtdkmdmpaflgfaaaGreatDoor
open Go.RowKit

/-- a module that has come in -/
structure ModIn (w : World) (A : Option Addr) (n : Nat) (A' : Option Addr) (m : Nat) (xs : List Int) (L : List Row) : Prop where
  r : ModR w A n A' m xs L
  hsm : n ≤ 1048576
  hl : ∀ i, i < L.length → (rg L i).xs.length ≤ 1048576
theorem ModIn.below {w w' : World} {A A' : Option Addr} {n m : Nat} {xs : List Int} {L : List Row} (h : ModIn w A n A' m xs L) (hb : Below w.heap.size w w') : ModIn w' A n A' m xs L := ⟨h.r.below hb, h.hsm, h.hl⟩
theorem ModIn.is {w : World} {A A' : Option Addr} {n m : Nat} {xs : List Int} {L : List Row} (h : ModIn w A n A' m xs L) (c c' : Nat) (W : World) (hb : Below w.heap.size w W) :
    Calls Tryz.prog 86 #[.agg #[.slice A n c, .slice A' m c']] W fun e w' => e = .returned (.bool (modB xs (dat L))) ∧ Below W.heap.size W w' :=
  l11Is_any A A' n c m c' xs L W h.r.hn h.hsm (h.r.deg.below hb) h.r.hm h.r.hm1 h.hl (h.r.act.below hb)
/-- rows that have come in -/
structure RowsIn (w : World) (A : Option Addr) (k : Nat) (P : List Row) : Prop where
  hk : k = P.length
  hk1 : k ≤ 1048576
  hl : ∀ i, i < P.length → (rg P i).xs.length ≤ 1048576
  rd : RdR w A P
theorem RowsIn.below {w w' : World} {A : Option Addr} {k : Nat} {P : List Row} (h : RowsIn w A k P) (hb : Below w.heap.size w w') : RowsIn w' A k P := ⟨h.hk, h.hk1, h.hl, h.rd.below hb⟩

def twoC (a b : Bool) : Int := if a = true ∧ b = true then 0 else 1
theorem twoC_ff (b : Bool) : twoC false b = 1 := rfl
theorem twoC_tf : twoC true false = 1 := rfl
theorem twoC_tt : twoC true true = 0 := rfl
/-- two boxes of modules -/
theorem box_two (w : World) (A A' B B' : Option Addr) (n c m c' p d q d' : Nat) :
    Below w.heap.size w ((w.alloc (.cells #[.slice A n c, .slice A' m c'] 30)).alloc (.cells #[.slice B p d, .slice B' q d'] 30)) ∧
    ((w.alloc (.cells #[.slice A n c, .slice A' m c'] 30)).alloc (.cells #[.slice B p d, .slice B' q d'] 30)).heap[w.heap.size]? = some (.cells #[.slice A n c, .slice A' m c'] 30 (0, 0)) ∧
    ((w.alloc (.cells #[.slice A n c, .slice A' m c'] 30)).alloc (.cells #[.slice B p d, .slice B' q d'] 30)).heap[w.heap.size + 1]? = some (.cells #[.slice B p d, .slice B' q d'] 30 (0, 0)) :=
  ⟨((Below.refl _ _).alloc (Nat.le_refl _) _).alloc (by simp) _, blk_alloc (blk_new w _) _, blk_new1 w _ _⟩

set_option maxHeartbeats 2000000 in
theorem l12Two_any (A A' B B' : Option Addr) (n c m c' p d q d' : Nat) (xs ys : List Int) (L M : List Row) (w : World) (hM : ModIn w A n A' m xs L) (hN : ModIn w B p B' q ys M) :
    Calls Tryz.prog 76 #[.agg #[.slice A n c, .slice A' m c'], .agg #[.slice B p d, .slice B' q d']] w fun e w' => e = .returned (.int .i64 (twoC (modB xs (dat L)) (modB ys (dat M)))) ∧ Below w.heap.size w w' := by
  obtain ⟨hb0, hk1, hk2⟩ := box_two w A A' B B' n c m c' p d q d'
  have HB0 := Lib.hid hb0
  have HK1 := Lib.hid hk1
  have HK2 := Lib.hid hk2
  have HM := Lib.hid (hM.is c c')
  have HN := Lib.hid (hN.is d d')
  clear hb0 hk1 hk2 hM hN
  obtain ⟨x0, x1, xf0, xf1, lx⟩ := blk2cells HK1.out
  go_enter Tryz.func76, Tryz.ntmps76
  cases h1 : modB xs (dat L)
  · rw [h1] at HM
    clear h1
    go_wp2_with (go_at_call 86; refine (HM.out _ HB0.out).mono ?_; rintro e w1 ⟨rfl, hb⟩; have HB1 := Lib.hid (HB0.out.trans (hb.mono HB0.out.size)); clear hb)
    go_ret
    exact ⟨by rw [twoC_ff]; rfl, HB1.out⟩
  · rw [h1] at HM
    clear h1
    cases h2 : modB ys (dat M)
    all_goals
      rw [h2] at HN
      clear h2
      go_wp2_with fail
      refine (HM.out _ HB0.out).mono ?_
      rintro e w1 ⟨rfl, hb⟩
      have HB1 := Lib.hid (HB0.out.trans (hb.mono HB0.out.size))
      have HK2a := Lib.hid (blk_kept HK2.out hb)
      clear hb x0 x1 xf0 xf1 lx
      obtain ⟨y0, y1, yf0, yf1, ly⟩ := blk2cells HK2a.out
      go_wp2_with (go_at_call 86; refine (HN.out _ HB1.out).mono ?_; rintro e w2 ⟨rfl, hb⟩; have HB2 := Lib.hid (HB1.out.trans (hb.mono HB1.out.size)); clear hb)
      go_ret
    · exact ⟨by rw [twoC_tf]; rfl, HB2.out⟩
    · exact ⟨by rw [twoC_tt]; rfl, HB2.out⟩
end Go.Proofs.YtdkmdmpaflgfaaaGreatDoor

namespace Go.Proofs.YtdkmdmpaflgfaaaGreatDoor
open Go.RowKit

/-- the words of an element, as the reference finds them -/
def sqP (d : Int) (T : LL) : LL := (redP (buildP (allW d)) (T, [])).2
theorem sqP_ok {d : Int} (h0 : 0 ≤ d) (hd : d ≤ 63) {T : LL} (hT : As T) (hE : ∀ t ∈ T, Ex d t) : IsSq d T (sqP d T) := elim_sq hd (fun x => mem_allW h0 x) (nodup_allW h0) hT hE
theorem sqP_of {d : Int} (h0 : 0 ≤ d) (hd : d ≤ 63) {T P : LL} (hT : As T) (hE : ∀ t ∈ T, Ex d t) (h : IsSq d T P) : P = sqP d T := h.unique hd (sqP_ok h0 hd hT hE)
/-- what an element makes of a vector -/
def mact (Q : List (List Int)) (d : Int) (T : LL) (v : Nat) : Nat := xsumf (fun u => wordM Q u v) (sqP d T)
/-- what an element makes of the basis -/
def mactF (Q : List (List Int)) (d : Int) (T : LL) (n : Nat) : List Nat := (List.range n).map fun i => mact Q d T (2 ^ i)
theorem isSq_bd {d : Int} (hd : d ≤ 40) {T P : LL} (h : IsSq d T P) : P.length ≤ 2000 ∧ ∀ t ∈ P, t.length ≤ 5 :=
  ⟨words_count hd (as_nodup h.asc) h.ws, fun t ht => by
    obtain ⟨r, hr, rfl⟩ := h.ws t ht
    rw [leadW_len]; exact hr.len5 hd⟩
theorem first_ex {d : Int} {L : List Row} {n : Nat} (hn : n = L.length) (h0 : 0 < n) (hE : ∀ t ∈ dat L, Ex d t) : 0 ≤ d := by
  have h := hE (rg L 0).xs (List.mem_map.2 ⟨_, rg_mem (by omega), rfl⟩)
  rw [← h.deg]; exact deg_nn 0 h.nn

set_option maxRecDepth 100000 in
set_option maxHeartbeats 2000000 in
theorem l11Milnor_any (d : Int) (hd : d ≤ 40) (A A' V W : Option Addr) (n c m c' cv k ck : Nat) (xs : List Int) (L T : List Row) (v : Nat) (w : World) (hn : n = xs.length) (hm : m = L.length) (hs : Shp xs (dat L)) (hm1 : m ≤ 1048576) (hk : k = T.length) (hk0 : 0 < k) (hk1 : k ≤ 1000000) (hT : As (dat T)) (hE : ∀ t ∈ dat T, Ex d t)
    (hR : RdR w A' L) (hV : Rd w V (iv (bitsL v n))) (hW : RdR w W T) :
    Calls Tryz.prog 120 #[.agg #[.slice A n c, .slice A' m c'], .slice W k ck, .slice V n cv] w fun e w' => ∃ g cap, e = .returned (.slice (some ⟨g, 0, none⟩) n cap) ∧ w'.ownsRow w.heap.size 2 1 (.slice (some ⟨g, 0, none⟩) n cap) n (iv (bitsL (mact (dat L) d (dat T) v) n)) ∧ Below w.heap.size w w' := by
  have h0 := first_ex hk hk0 hE
  have HSQ := Lib.hid (fun W' (hb : Below w.heap.size w W') => l05Squares_any d hd W k ck T W' hk hk0 hk1 hT hE (hW.below hb))
  have HP := Lib.hid (fun P (h : IsSq d (dat T) P) => sqP_of h0 (by omega) hT hE h)
  have HWD := Lib.hid (fun (X : Option Addr) (cx : Nat) (M : List Row) W' (hb : Below w.heap.size w W') hw1 hwl hX => l11Words_any A A' V X n c m c' cv M.length cx xs L M v W' hn hm hs hm1 rfl hw1 hwl (hR.below hb) (hV.below hb) hX)
  obtain ⟨x0, x1, xf0, xf1, lx⟩ := blk2cells (blk_new w (.cells #[.slice A n c, .slice A' m c'] 30))
  have hk0i : ((k : Int) == 0) = false := by simp; omega
  have HB0 := Lib.hid ((Below.refl w.heap.size w).alloc (Nat.le_refl _) (.cells #[.slice A n c, .slice A' m c'] 30))
  clear hn hm hs hk hT hE hR hV hW hk0
  go_enter Tryz.func120, Tryz.ntmps120
  go_wp2_with fail
  go_region_held3 (fun w' => w'.cell? ⟨w.heap.size, 0, none⟩ = some (.slice A n c) ∧ w'.cell? ⟨w.heap.size, 1, none⟩ = some (.slice A' m c'))
    (first | exact ⟨x0, x1⟩ | exact ⟨cell_keep x0 HB1.out, cell_keep x1 HB1.out⟩ | exact ⟨cell_keep x0 HB2.out, cell_keep x1 HB2.out⟩)
    (first
      | (go_at_call 168; (with_reducible refine (HSQ.out _ HB0.out.drew).mono ?_); (rintro e w1 ⟨P, hP, v1, M1, rfl, hd1, ho1, hb1⟩; obtain ⟨A1, c1, rfl, hc1, _⟩ := owns_shape ho1.out; have HM1 := Lib.hid ho1; have HD1 := Lib.hid hd1; have HPP := Lib.hid hP; have HB1 := Lib.hid (show Below (w.alloc (.cells #[.slice A n c, .slice A' m c'] 30)).heap.size (w.alloc (.cells #[.slice A n c, .slice A' m c'] 30)) w1 from (Below.drew (Below.refl _ _)).trans hb1); have HBW := Lib.hid (HB0.out.trans (HB1.out.mono HB0.out.size)); have HLN := Lib.hid (isSq_bd hd hP); clear hd1 ho1 hb1 hP))
      | (go_at_call 167; (with_reducible refine (HWD.out A1 c1 M1 w1 HBW.out (by have := HLN.out.1; rw [← HD1.out, dat_length] at this; omega) (fun i hi => Nat.le_trans (len_of_dat (d := 5) (by rw [HD1.out]; exact HLN.out.2) i hi) (by omega)) (HM1.out.rd rfl)).mono ?_); (rintro e w2 ⟨g2, cap2, rfl, ho, hb⟩; have HO2 := Lib.hid ho; have HB2 := Lib.hid (HB1.out.trans (hb.mono HB1.out.size)); clear ho hb)))
  go_wp2_with fail
  go_ret
  refine ⟨g2, cap2, rfl, ?_, HB0.out.trans (HB2.out.mono HB0.out.size)⟩
  have := HO2.out.mono HBW.out.size
  rw [HD1.out, HP.out P HPP.out] at this
  exact this
end Go.Proofs.YtdkmdmpaflgfaaaGreatDoor

namespace Go.Proofs.YtdkmdmpaflgfaaaGreatDoor
open Go.RowKit

theorem mact_lt {xs : List Int} {Q : List (List Int)} (h : Shp xs Q) (d : Int) (T : LL) {v : Nat} (hv : v < 2 ^ xs.length) : mact Q d T v < 2 ^ xs.length :=
  xsumf_lt _ _ fun u _ => wordM_lt h hv u
theorem mactF_len (Q : List (List Int)) (d : Int) (T : LL) (n : Nat) : (mactF Q d T n).length = n := by simp [mactF]
theorem mactF_take {Q : List (List Int)} {d : Int} {T : LL} {n k : Nat} (h : k ≤ n) : (mactF Q d T n).take k = mactF Q d T k := by
  unfold mactF; rw [← List.map_take, List.take_range, Nat.min_eq_left h]
theorem mactF_succ (Q : List (List Int)) (d : Int) (T : LL) (k : Nat) : mactF Q d T (k + 1) = mactF Q d T k ++ [mact Q d T (2 ^ k)] := by
  unfold mactF; rw [List.range_succ, List.map_append]; rfl
theorem mactF_getD (Q : List (List Int)) (d : Int) (T : LL) {n k : Nat} (h : k < n) : (mactF Q d T n).getD k 0 = mact Q d T (2 ^ k) := by
  simp [mactF, List.getD, h]
theorem nv_snocV (S : List Nat) (x : Nat) : nv S ++ [.int .i64 (x : Int)] = nv (S ++ [x]) := by simp [nv]

set_option maxRecDepth 100000 in
set_option maxHeartbeats 4000000 in
theorem l13Rows_any (d : Int) (hd : d ≤ 40) (A A' W : Option Addr) (n c m c' k ck : Nat) (xs : List Int) (L T : List Row) (w : World) (hn : n = xs.length) (hm : m = L.length) (hs : Shp xs (dat L)) (hm1 : m ≤ 1048576) (hk : k = T.length) (hk0 : 0 < k) (hk1 : k ≤ 1000000) (hT : As (dat T)) (hE : ∀ t ∈ dat T, Ex d t)
    (hR : RdR w A' L) (hW : RdR w W T) :
    Calls Tryz.prog 88 #[.agg #[.slice A n c, .slice A' m c'], .slice W k ck] w fun e w' => ∃ v', e = .returned v' ∧ w'.ownsRow w.heap.size 2 1 v' n (nv (mactF (dat L) d (dat T) n)) ∧ Below w.heap.size w w' := by
  have hn16 : n ≤ 16 := by rw [hn]; exact hs.len
  have HMI := Lib.hid (fun (V : Option Addr) (cv v : Nat) W' (hb : Below w.heap.size w W') hV => l11Milnor_any d hd A A' V W n c m c' cv k ck xs L T v W' hn hm hs hm1 hk hk0 hk1 hT hE (hR.below hb) hV (hW.below hb))
  have HUN := Lib.hid (fun i (hi : i < n) W' => l11Unit_any n i W' hi (by omega))
  have HMS := Lib.hid (fun (V : Option Addr) cv i W' (hi : i < n) hV => l12Mask_any V n cv (mact (dat L) d (dat T) (2 ^ i)) W' (by omega) (by rw [hn]; exact mact_lt hs d _ (pow_lt_len (by rw [← hn]; exact hi))) hV)
  have hwb : (w.alloc (.cells #[.slice A n c, .slice A' m c'] 30)).heap.size = w.heap.size + 1 := by simp
  have HB0 := Lib.hid ((Below.refl w.heap.size w).alloc (Nat.le_refl _) (.cells #[.slice A n c, .slice A' m c'] 30))
  have KB := Lib.hid (fun w' (hb : Below (w.heap.size + 1) (w.alloc (.cells #[.slice A n c, .slice A' m c'] 30)) w') => blk2cells (blk_below (blk_new w (.cells #[.slice A n c, .slice A' m c'] 30)) hb (by omega)))
  have HMN := Lib.hid (fun w' (hb : Below (w.heap.size + 1) (w.alloc (.cells #[.slice A n c, .slice A' m c'] 30)) w') => HB0.out.trans (hb.mono (Nat.le_succ _)))
  have KS := Lib.hid (fun w' (hb : Below (w.heap.size + 1) (w.alloc (.cells #[.slice A n c, .slice A' m c'] 30)) w') => show w'.cell? ⟨w.heap.size, 0, none⟩ = some (.slice A n c) ∧ w'.cell? ⟨w.heap.size, 1, none⟩ = some (.slice A' m c') from ⟨(KB.out w' hb).1, (KB.out w' hb).2.1⟩)
  obtain ⟨x0, x1, xf0, xf1, lx⟩ := blk2cells (blk_new w (.cells #[.slice A n c, .slice A' m c'] 30))
  have HWB := Lib.hid hwb
  clear hn hm hs hk hT hE hR hW hk0 hwb
  go_enter Tryz.func88, Tryz.ntmps88
  go_wp2_with fail
  go_loopw [5, 6] (fun v5 v6 wr => ∃ i : Nat, ∃ A5 c5, i ≤ n ∧ v6 = .int .i64 i ∧ v5 = .slice A5 i c5 ∧ wr.ownsRow (w.heap.size + 1) 2 1 (.slice A5 i c5) i (nv (mactF (dat L) d (dat T) i)) ∧ Below (w.heap.size + 1) (w.alloc (.cells #[.slice A n c, .slice A' m c'] 30)) wr) (fun _ v6 _ => n - (intOf v6).toNat)
  case atStart =>
    refine ⟨0, _, _, Nat.zero_le _, rfl, rfl, ?_, (Below.refl _ _).alloc (by rw [HWB.out]; exact Nat.le_refl _) _⟩
    have := World.ownsRow_made (e := 2) (size := 1) (w.alloc (.cells #[.slice A n c, .slice A' m c'] 30)) #[] 0 (base := w.heap.size + 1) (by rw [HWB.out]; exact Nat.le_refl _) (by decide) (by simp)
    rw [HWB.out] at this
    exact this
  case round =>
    obtain ⟨i, A5, c5, hi, rfl, rfl, hown, hbel⟩ := hrel
    clear x0 x1 xf0 xf1 lx
    have HO := Lib.hid hown
    have HB := Lib.hid hbel
    have hsz : w.heap.size + 1 ≤ wr.heap.size := by have := hbel.size; rw [HWB.out] at this; exact this
    obtain ⟨x0, x1, xf0, xf1, lx⟩ := KB.out wr hbel
    by_cases hlt : i < n
    · have HU := Lib.hid (HUN.out i hlt)
      have HS := Lib.hid (fun (V : Option Addr) cv W' hV => HMS.out V cv i W' hlt hV)
      have HFS := Lib.hid (mactF_succ (dat L) d (dat T) i)
      have hq : i < 1099511627776 := by omega
      have HB_0 := Lib.hid (Below.drew (Below.refl wr.heap.size wr))
      have HX_0 := Lib.hid (HB.out.trans (HB_0.out.mono hsz))
      clear hown hbel
      go_wp2_with fail
      go_region_held3 (fun w' => w'.cell? ⟨w.heap.size, 0, none⟩ = some (.slice A n c) ∧ w'.cell? ⟨w.heap.size, 1, none⟩ = some (.slice A' m c'))
        (first | exact KS.out _ HX_0.out | exact KS.out _ HX_1.out | exact KS.out _ HX_2.out | exact KS.out _ HX_4.out | exact KS.out _ (HX_2.out.alloc (by have := HX_2.out.size; rw [HWB.out] at this; exact this) _))
        (first
          | (go_at_call 121; (with_reducible refine (HU.out _).mono ?_); (rintro e w1 ⟨gu, cu, rfl, ho, hb⟩; have HU1 := Lib.hid (owns_Rd ho); have HB_1 := Lib.hid (HB_0.out.trans (hb.mono HB_0.out.size)); have HX_1 := Lib.hid (HB.out.trans (HB_1.out.mono hsz)); clear ho hb))
          | (go_at_call 120; (with_reducible refine (HMI.out _ _ _ _ (HMN.out _ HX_1.out) HU1.out).mono ?_); (rintro e w2 ⟨gm, cm, rfl, ho, hb⟩; have HM2 := Lib.hid (owns_Rd ho); have HB_2 := Lib.hid (HB_1.out.trans (hb.mono HB_1.out.size)); have HX_2 := Lib.hid (HB.out.trans (HB_2.out.mono hsz)); clear ho hb))
          | (go_at_call 119; (with_reducible refine (HS.out _ _ _ HM2.out).mono ?_); (rintro e w3 ⟨rfl, rfl⟩))
          | (refine step_app1 _ _ _ _ _ etI (by rfl) (by rfl) (w.heap.size + 1) (.slice A5 i c5) i (nv (mactF (dat L) d (dat T) i)) (by rfl) ?_ _ (.int .i64 (mact (dat L) d (dat T) (2 ^ i) : Nat)) (by rfl) ?_ (by rfl) ?_ ?_ ?_; exact ((owns_later HO.out HB_2.out).alloc _); exact new_cell _ _ _; exact hq; (have := HB_2.out.size; simp; omega); (intro g2 c2 w6 hown2 hg2 hat2 hlt2; have HN := Lib.hid hown2; have HX_4 := Lib.hid (below_app2 HX_2.out (Nat.le_trans hsz HB_2.out.size) (owns_later HO.out HB_2.out) hg2); clear hown2 hg2 hat2 hlt2)))
      go_wp2_with fail
      go_roundw
      case rel => exact ⟨i + 1, _, _, by omega, by go_num, rfl, by rw [HFS.out, ← nv_snocV]; exact HN.out, HX_4.out⟩
      case measure => simp [intOf]; omega
    · obtain rfl : i = n := by omega
      clear hown hbel
      go_wp2_with fail
      go_ret
      exact ⟨_, rfl, HO.out.mono (Nat.le_succ _), HMN.out _ HB.out⟩
end Go.Proofs.YtdkmdmpaflgfaaaGreatDoor

namespace Go.Proofs.YtdkmdmpaflgfaaaGreatDoor

/-! ### products of masks -/
def dot (a x : Nat) : Nat → Bool
  | 0 => false
  | n + 1 => dot a x n ^^ (tb a n && tb x n)
theorem dot_xr (a x y : Nat) : ∀ n, dot a (xr x y) n = (dot a x n ^^ dot a y n)
  | 0 => rfl
  | n + 1 => by
    unfold dot
    rw [dot_xr a x y n, tb_xr]
    cases dot a x n <;> cases dot a y n <;> cases tb a n <;> cases tb x n <;> cases tb y n <;> rfl
theorem dot_zero (a : Nat) : ∀ n, dot a 0 n = false
  | 0 => rfl
  | n + 1 => by unfold dot; rw [dot_zero a n, tb_zero]; simp
/-- only one place counts -/
theorem dot_one {a x p : Nat} : ∀ n, (∀ j, j < n → j ≠ p → (tb a j && tb x j) = false) → dot a x n = (decide (p < n) && (tb a p && tb x p))
  | 0, _ => by simp [dot]
  | n + 1, h => by
    unfold dot
    rw [dot_one n fun j hj hp => h j (by omega) hp]
    by_cases e : n = p
    · subst e; simp
    · rw [h n (by omega) e]
      have : decide (p < n + 1) = decide (p < n) := decide_eq_decide.2 (by omega)
      rw [this]; simp
theorem dot_pow {a u n : Nat} (hu : u < n) : dot a (2 ^ u) n = tb a u := by
  rw [dot_one (p := u) n fun j _ hp => by rw [tb_pow, decide_eq_false (by omega)]; simp]
  rw [tb_pow]; simp [hu]
/-- the columns of rows -/
def trTo (C : List Nat) (u : Nat) : Nat → Nat
  | 0 => 0
  | i + 1 => if tb (C.getD i 0) u = true then orr (trTo C u i) (2 ^ i) else trTo C u i
theorem tb_trTo (C : List Nat) (u : Nat) : ∀ k i, tb (trTo C u k) i = (decide (i < k) && tb (C.getD i 0) u)
  | 0, i => by simp [trTo, tb_zero]
  | k + 1, i => by
    unfold trTo
    by_cases e : i = k
    · subst e
      split
      · rename_i h; rw [tb_orr, tb_pow, h]; simp
      · rename_i h
        rw [tb_trTo]
        cases hb : tb (C.getD i 0) u
        · simp
        · exact absurd hb h
    · have e2 : decide (i < k + 1) = decide (i < k) := decide_eq_decide.2 (by omega)
      split
      · rw [tb_orr, tb_pow, tb_trTo, e2, decide_eq_false (show ¬ k = i by omega)]; simp
      · rw [tb_trTo, e2]
def trL (C : List Nat) (U : Nat) : List Nat := (List.range U).map fun u => trTo C u C.length
theorem trL_length (C : List Nat) (U : Nat) : (trL C U).length = U := by simp [trL]
theorem trL_getD (C : List Nat) {U u : Nat} (h : u < U) : (trL C U).getD u 0 = trTo C u C.length := by simp [trL, List.getD, h]
theorem comb_succ' (S : List Nat) (x : Nat) {k : Nat} (hk : k < S.length) : comb (S.take (k + 1)) 0 x = xr (comb (S.take k) 0 x) (if tb x k = true then S.getD k 0 else 0) := by
  have h := comb_take (S.take (k + 1)) 0 k (x &&& (2 ^ (k + 1) - 1)) (by rw [List.length_take]; omega) (fun m hm => by
    have : (x &&& (2 ^ (k + 1) - 1)) < 2 ^ (k + 1) := Nat.lt_of_le_of_lt Nat.and_le_right (by have := Nat.two_pow_pos (k + 1); omega)
    exact tb_of_lt this (by omega))
  have hb : ∀ m, m ≤ k → tb (x &&& (2 ^ (k + 1) - 1)) m = tb x m := fun m hm => by
    unfold tb; rw [Nat.testBit_and, Nat.testBit_two_pow_sub_one]; simp; omega
  have hc : ∀ (T : List Nat) i, i + T.length ≤ k + 1 → comb T i (x &&& (2 ^ (k + 1) - 1)) = comb T i x := by
    intro T
    induction T with
    | nil => intro i _; rfl
    | cons r T ih =>
      intro i hi
      simp only [List.length_cons] at hi
      simp only [comb]
      rw [hb i (by omega), ih (i + 1) (by omega)]
  rw [hc _ 0 (by rw [List.length_take]; omega), Nat.zero_add, hb k (Nat.le_refl _)] at h
  rw [h, List.take_take, show min k (k + 1) = k by omega, hc _ 0 (by rw [List.length_take]; omega)]
  congr 1
  have : (S.take (k + 1)).getD k 0 = S.getD k 0 := by simp [List.getD, List.getElem?_take]
  rw [this]
theorem tb_comb_tr (C : List Nat) (U x i : Nat) (hi : i < C.length) : ∀ k, k ≤ U → tb (comb ((trL C U).take k) 0 x) i = dot (C.getD i 0) x k
  | 0, _ => by unfold dot; rw [List.take_zero]; exact tb_zero i
  | k + 1, hk => by
    have e : tb (if tb x k = true then trTo C k C.length else 0) i = (tb (C.getD i 0) k && tb x k) := by
      cases hb : tb x k
      · rw [if_neg (by simp), tb_zero]; simp
      · rw [if_pos rfl, tb_trTo, decide_eq_true hi]; simp
    rw [comb_succ' _ _ (by rw [trL_length]; omega), tb_xr, tb_comb_tr C U x i hi k (by omega), trL_getD C (by omega), e]
    rfl
/-- the unknowns' masks for which all equations hold -/
def EqK (C : List Nat) (U x : Nat) : Prop := x < 2 ^ U ∧ ∀ r ∈ C, dot r x U = false
theorem eqK_tr {C : List Nat} {U : Nat} (x : Nat) (hC : C.length ≤ 62) : x < 2 ^ (trL C U).length ∧ comb (trL C U) 0 x = 0 ↔ EqK C U x := by
  rw [trL_length]
  unfold EqK
  have hall : comb (trL C U) 0 x = comb ((trL C U).take U) 0 x := by rw [List.take_of_length_le (by rw [trL_length]; exact Nat.le_refl _)]
  constructor
  · rintro ⟨h1, h2⟩
    refine ⟨h1, fun r hr => ?_⟩
    obtain ⟨i, hi, rfl⟩ := List.getElem_of_mem hr
    have := tb_comb_tr C U x i hi U (Nat.le_refl _)
    rw [← hall, h2, tb_zero] at this
    rw [show C[i] = C.getD i 0 by simp [List.getD, hi]]; exact this.symm
  · rintro ⟨h1, h2⟩
    refine ⟨h1, eq_zero_of_tb fun i => ?_⟩
    rcases Nat.lt_or_ge i C.length with hi | hi
    · rw [hall, tb_comb_tr C U x i hi U (Nat.le_refl _)]
      exact h2 _ (by simp [List.getD, hi])
    · have : comb (trL C U) 0 x < 2 ^ C.length := comb_lt (fun r hr => by
        unfold trL at hr
        obtain ⟨u, _, rfl⟩ := List.mem_map.1 hr
        exact lt_of_tb fun m hm => by rw [tb_trTo, decide_eq_false (by omega)]; rfl) 0 x
      exact tb_of_lt this hi

/-! ### solutions -/
def isPv (C : List Nat) (u : Nat) : Bool := C.any fun r => decide (pv r = u)
def ownTo (C : List Nat) (u : Nat) : Nat → Nat
  | 0 => 2 ^ u
  | i + 1 => if tb (C.getD i 0) u = true then orr (ownTo C u i) (2 ^ pv (C.getD i 0)) else ownTo C u i
def ownU (C : List Nat) (u : Nat) : Nat := ownTo C u C.length
theorem tb_ownTo (C : List Nat) (u : Nat) : ∀ k m, tb (ownTo C u k) m = true ↔ m = u ∨ ∃ i, i < k ∧ tb (C.getD i 0) u = true ∧ pv (C.getD i 0) = m
  | 0, m => by
    unfold ownTo; rw [tb_pow]
    simp only [decide_eq_true_eq]
    constructor
    · intro h; exact .inl h.symm
    · rintro (h | ⟨i, hi, _⟩)
      · exact h.symm
      · omega
  | k + 1, m => by
    unfold ownTo
    split
    · rename_i h
      rw [tb_orr, tb_pow, Bool.or_eq_true, tb_ownTo C u k m, decide_eq_true_eq]
      constructor
      · rintro ((h1 | ⟨i, a, b, c⟩) | h1)
        · exact .inl h1
        · exact .inr ⟨i, by omega, b, c⟩
        · exact .inr ⟨k, by omega, h, h1⟩
      · rintro (h1 | ⟨i, a, b, c⟩)
        · exact .inl (.inl h1)
        · by_cases e : i = k
          · subst e; exact .inr c
          · exact .inl (.inr ⟨i, by omega, b, c⟩)
    · rename_i h
      rw [tb_ownTo C u k m]
      constructor
      · rintro (h1 | ⟨i, a, b, c⟩)
        · exact .inl h1
        · exact .inr ⟨i, by omega, b, c⟩
      · rintro (h1 | ⟨i, a, b, c⟩)
        · exact .inl h1
        · by_cases e : i = k
          · subst e; exact absurd b h
          · exact .inr ⟨i, by omega, b, c⟩
theorem tb_ownU (C : List Nat) (u m : Nat) : tb (ownU C u) m = true ↔ m = u ∨ ∃ r ∈ C, tb r u = true ∧ pv r = m := by
  unfold ownU
  rw [tb_ownTo]
  constructor
  · rintro (h | ⟨i, a, b, c⟩)
    · exact .inl h
    · exact .inr ⟨_, getD_mem a, b, c⟩
  · rintro (h | ⟨r, hr, b, c⟩)
    · exact .inl h
    · obtain ⟨i, hi, rfl⟩ := List.getElem_of_mem hr
      refine .inr ⟨i, hi, ?_⟩
      rw [show C.getD i 0 = C[i] by simp [List.getD, hi]]; exact ⟨b, c⟩
def solsTo (C : List Nat) (k : Nat) : List Nat := ((List.range k).filter fun u => !isPv C u).map (ownU C)
theorem solsTo_succ (C : List Nat) (k : Nat) : solsTo C (k + 1) = solsTo C k ++ if isPv C k = true then [] else [ownU C k] := by
  unfold solsTo
  rw [List.range_succ, List.filter_append, List.map_append]
  congr 1
  cases h : isPv C k
  · rw [List.filter_cons_of_pos (by simp [h])]; rfl
  · rw [List.filter_cons_of_neg (by simp [h])]; rfl
theorem mem_solsTo {C : List Nat} {k r : Nat} : r ∈ solsTo C k ↔ ∃ u, u < k ∧ isPv C u = false ∧ r = ownU C u := by
  unfold solsTo
  constructor
  · intro h
    obtain ⟨u, hu, rfl⟩ := List.mem_map.1 h
    obtain ⟨a, b⟩ := List.mem_filter.1 hu
    exact ⟨u, List.mem_range.1 a, by simpa using b, rfl⟩
  · rintro ⟨u, hu, hp, rfl⟩
    exact List.mem_map.2 ⟨u, List.mem_filter.2 ⟨List.mem_range.2 hu, by simp [hp]⟩, rfl⟩
theorem isPv_no {C : List Nat} {u : Nat} (h : isPv C u = false) : ∀ r ∈ C, pv r ≠ u := fun r hr e => by
  unfold isPv at h
  rw [List.any_eq_false] at h
  exact h r hr (by simpa using e)
theorem isPv_yes {C : List Nat} {u : Nat} (h : isPv C u = true) : ∃ r ∈ C, pv r = u := by
  unfold isPv at h
  obtain ⟨r, hr, e⟩ := List.any_eq_true.1 h
  exact ⟨r, hr, by simpa using e⟩
section
variable {C : List Nat} {U : Nat}
theorem ownU_lt (hC : Red C) (hlt : ∀ r ∈ C, r < 2 ^ U) {u : Nat} (hu : u < U) : ownU C u < 2 ^ U := lt_of_tb fun m hm => by
  cases h : tb (ownU C u) m with
  | false => rfl
  | true =>
    rcases (tb_ownU C u m).1 h with h1 | ⟨r, hr, _, h1⟩
    · omega
    · have := pv_lt (hC.ne r hr).1 (hC.ne r hr).2 (hlt r hr); omega
theorem ownU_eq (hC : Red C) (hlt : ∀ r ∈ C, r < 2 ^ U) {u : Nat} (hu : u < U) (hp : isPv C u = false) : EqK C U (ownU C u) := by
  refine ⟨ownU_lt hC hlt hu, fun r hr => ?_⟩
  have hn := isPv_no hp
  have hpr : tb r (pv r) = true := tb_pv (hC.ne r hr).1 (hC.ne r hr).2
  have hpu := pv_lt (hC.ne r hr).1 (hC.ne r hr).2 (hlt r hr)
  -- 2^u and the rest, which has of r's digits the pivot alone
  have e : ownU C u = xr (2 ^ u) (xr (2 ^ u) (ownU C u)) := (xr_xr _ _).symm
  rw [e, dot_xr, dot_pow hu]
  rw [dot_one (p := pv r) U fun j _ hj => by
    cases h1 : tb r j with
    | false => rfl
    | true =>
      rw [Bool.true_and, tb_xr, tb_pow]
      by_cases eu : u = j
      · subst eu
        rw [(tb_ownU C u u).2 (.inl rfl)]; simp
      · rw [decide_eq_false eu]
        cases h2 : tb (ownU C u) j with
        | false => rfl
        | true =>
          rcases (tb_ownU C u j).1 h2 with h3 | ⟨s, hs, _, h3⟩
          · exact absurd h3.symm eu
          · exfalso
            by_cases ers : r = s
            · subst ers; exact hj h3.symm
            · have := hC.apart r hr s hs ers
              rw [h3, h1] at this; cases this]
  rw [decide_eq_true hpu, Bool.true_and, hpr, Bool.true_and, tb_xr, tb_pow, decide_eq_false (fun h => hn r hr h.symm)]
  have h5 : tb (ownU C u) (pv r) = tb r u := by
    cases h1 : tb r u with
    | true => exact (tb_ownU C u _).2 (.inr ⟨r, hr, h1, rfl⟩)
    | false =>
      cases h2 : tb (ownU C u) (pv r) with
      | false => rfl
      | true =>
        rcases (tb_ownU C u _).1 h2 with h3 | ⟨s, hs, h4, h3⟩
        · exact absurd h3 (hn r hr)
        · by_cases ers : s = r
          · subst ers; rw [h1] at h4; cases h4
          · have := hC.apart s hs r hr ers
            rw [← h3, tb_pv (hC.ne s hs).1 (hC.ne s hs).2] at this; cases this
  rw [h5]; cases tb r u <;> rfl
theorem EqK.xr {x y : Nat} (hx : EqK C U x) (hy : EqK C U y) : EqK C U (xr x y) :=
  ⟨xr_lt hx.1 hy.1, fun r hr => by rw [dot_xr, hx.2 r hr, hy.2 r hr]; rfl⟩
/-- a solution whose digits are pivots alone is 0 -/
theorem eqK_piv (hC : Red C) (hlt : ∀ r ∈ C, r < 2 ^ U) {x : Nat} (hx : EqK C U x) (h : ∀ u, isPv C u = false → tb x u = false) : x = 0 := eq_zero_of_tb fun k => by
  cases hk : tb x k with
  | false => rfl
  | true =>
    exfalso
    cases hp : isPv C k with
    | false => rw [h k hp] at hk; cases hk
    | true =>
      obtain ⟨r, hr, rfl⟩ := isPv_yes hp
      have hpr : tb r (pv r) = true := tb_pv (hC.ne r hr).1 (hC.ne r hr).2
      have hpu := pv_lt (hC.ne r hr).1 (hC.ne r hr).2 (hlt r hr)
      have h0 := hx.2 r hr
      rw [dot_one (p := pv r) U fun j _ hj => by
        cases h1 : tb r j with
        | false => rfl
        | true =>
          rw [Bool.true_and]
          cases h2 : tb x j with
          | false => rfl
          | true =>
            exfalso
            cases hq : isPv C j with
            | false => rw [h j hq] at h2; cases h2
            | true =>
              obtain ⟨s, hs, rfl⟩ := isPv_yes hq
              by_cases ers : r = s
              · subst ers; exact hj rfl
              · have := hC.apart r hr s hs ers
                rw [h1] at this; cases this] at h0
      rw [decide_eq_true hpu, hpr, hk] at h0; cases h0
theorem sols_all (hC : Red C) (hlt : ∀ r ∈ C, r < 2 ^ U) : ∀ k, k ≤ U → ∀ x, EqK C U x → (∀ u, k ≤ u → isPv C u = false → tb x u = false) → Sp (solsTo C U) x
  | 0, _, x, hx, h => by
    rw [eqK_piv hC hlt hx fun u hu => h u (Nat.zero_le _) hu]; exact .zero
  | k + 1, hk, x, hx, h => by
    cases hp : isPv C k with
    | true =>
      refine sols_all hC hlt k (by omega) x hx fun u hu hq => h u ?_ hq
      rcases Nat.lt_or_ge k u with h1 | h1
      · omega
      · have : u = k := by omega
        subst this; rw [hp] at hq; cases hq
    | false =>
      cases hb : tb x k with
      | false =>
        refine sols_all hC hlt k (by omega) x hx fun u hu hq => ?_
        rcases Nat.lt_or_ge k u with h1 | h1
        · exact h u (by omega) hq
        · have : u = k := by omega
          subst this; exact hb
      | true =>
        have ho := ownU_eq hC hlt (by omega : k < U) hp
        have hm : ownU C k ∈ solsTo C U := mem_solsTo.2 ⟨k, by omega, hp, rfl⟩
        have := sols_all hC hlt k (by omega) (Go.Proofs.YtdkmdmpaflgfaaaGreatDoor.xr (ownU C k) x) (ho.xr hx) fun u hu hq => by
          rw [tb_xr]
          have h1 : tb (ownU C k) u = decide (u = k) := by
            cases h2 : tb (ownU C k) u with
            | true =>
              rcases (tb_ownU C k u).1 h2 with h3 | ⟨s, hs, _, h3⟩
              · exact (decide_eq_true h3).symm
              · exact absurd h3 (isPv_no hq s hs)
            | false =>
              symm; rw [decide_eq_false_iff_not]; rintro rfl
              rw [(tb_ownU C u u).2 (.inl rfl)] at h2; cases h2
          rw [h1]
          by_cases e : u = k
          · subst e; rw [hb]; simp
          · rw [h u (by omega) hq, decide_eq_false e]; rfl
        have h2 := Sp.add hm this
        rwa [xr_xr] at h2
theorem sols_sp (hC : Red C) (hlt : ∀ r ∈ C, r < 2 ^ U) (x : Nat) : Sp (solsTo C U) x ↔ EqK C U x := by
  constructor
  · intro hx
    induction hx with
    | zero => exact ⟨Nat.two_pow_pos _, fun r _ => dot_zero r U⟩
    | add hm _ ih =>
      obtain ⟨u, hu, hp, rfl⟩ := mem_solsTo.1 hm
      exact (ownU_eq hC hlt hu hp).xr ih
  · intro hx
    exact sols_all hC hlt U (Nat.le_refl _) x hx fun u hu _ => tb_of_lt hx.1 hu
theorem sols_sm (hC : Red C) (hlt : ∀ r ∈ C, r < 2 ^ U) (hU : U ≤ 60) : ∀ r ∈ solsTo C U, Sm r := fun r hr => sm_of_lt (a := U) (by omega) ((sols_sp hC hlt r).1 (.mem hr)).1
/-- BOTH WAYS TO THE SOLUTIONS GIVE ONE LIST -/
theorem sols_ker (hC : Red C) (hlt : ∀ r ∈ C, r < 2 ^ U) (hU : U ≤ 60) : kerR (trL C U) = reduceS (solsTo C U) := by
  have hCl : C.length ≤ 62 := by have := red_len hC hlt; omega
  have hT : ∀ r ∈ trL C U, Sm r := fun r hr => by
    unfold trL at hr
    obtain ⟨u, _, rfl⟩ := List.mem_map.1 hr
    refine sm_of_lt (a := C.length) hCl (lt_of_tb fun m hm => ?_)
    rw [tb_trTo, decide_eq_false (by omega)]; rfl
  have hl : (trL C U).length ≤ 62 := by rw [trL_length]; omega
  have hs := sols_sm hC hlt hU
  refine red_asc_unique (kerR_red hT hl) (red_reduce hs) ?_ (asc_reduce hs) fun v => ?_
  · unfold kerR; exact asc_reduce ((kerG_span hT hl).sm hl)
  · rw [kerR_sp hT hl, sp_reduce hs, sols_sp hC hlt]; exact eqK_tr v hCl
end

/-! ### the equations of maps -/
def unkC (xs ys : List Int) (i : Nat) (k : Nat) : List (Nat × Nat) := ((List.range k).filter fun c => decide (xs.getD i 0 = ys.getD c 0)).map fun c => (i, c)
theorem unkC_succ (xs ys : List Int) (i k : Nat) : unkC xs ys i (k + 1) = unkC xs ys i k ++ if xs.getD i 0 = ys.getD k 0 then [(i, k)] else [] := by
  unfold unkC
  rw [List.range_succ, List.filter_append, List.map_append]
  congr 1
  by_cases e : xs.getD i 0 = ys.getD k 0
  · rw [if_pos e, List.filter_cons_of_pos (by simpa using e)]; rfl
  · rw [if_neg e, List.filter_cons_of_neg (by simpa using e)]; rfl
def unkI (xs ys : List Int) : Nat → List (Nat × Nat)
  | 0 => []
  | i + 1 => unkI xs ys i ++ unkC xs ys i ys.length
def unk (xs ys : List Int) : List (Nat × Nat) := unkI xs ys xs.length
theorem unkI_mem {xs ys : List Int} {p : Nat × Nat} : ∀ {k : Nat}, p ∈ unkI xs ys k → p.1 < k ∧ p.2 < ys.length ∧ xs.getD p.1 0 = ys.getD p.2 0
  | 0, h => by cases h
  | k + 1, h => by
    unfold unkI at h
    rcases List.mem_append.1 h with h | h
    · have := unkI_mem h; exact ⟨by omega, this.2⟩
    · unfold unkC at h
      obtain ⟨c, hc, rfl⟩ := List.mem_map.1 h
      obtain ⟨h1, h2⟩ := List.mem_filter.1 hc
      exact ⟨by simp, List.mem_range.1 h1, by simpa using h2⟩
theorem unkI_len (xs ys : List Int) : ∀ k, (unkI xs ys k).length ≤ k * ys.length
  | 0 => by simp [unkI]
  | k + 1 => by
    unfold unkI
    rw [List.length_append, Nat.succ_mul]
    have h1 := unkI_len xs ys k
    have h2 : (unkC xs ys k ys.length).length ≤ ys.length := by
      unfold unkC; rw [List.length_map]; exact Nat.le_trans (List.length_filter_le _ _) (by simp)
    omega
/-- one equation: the digits of the unknowns below t -/
def eqM (P : List (Nat × Nat)) (Q R : List (List Int)) (i j c : Nat) : Nat → Nat
  | 0 => 0
  | t + 1 => xr (xr (eqM P Q R i j c t) (if tb (act Q (j : Int) (2 ^ i)) (P.getD t (0, 0)).1 = true ∧ (P.getD t (0, 0)).2 = c then 2 ^ t else 0)) (if (P.getD t (0, 0)).1 = i ∧ tb (act R (j : Int) (2 ^ (P.getD t (0, 0)).2)) c = true then 2 ^ t else 0)
theorem pow_lt_succ (t : Nat) : 2 ^ t < 2 ^ (t + 1) := Nat.pow_lt_pow_right (by omega) (by omega)
theorem eqM_lt (P : List (Nat × Nat)) (Q R : List (List Int)) (i j c : Nat) : ∀ t, eqM P Q R i j c t < 2 ^ t
  | 0 => Nat.two_pow_pos _
  | t + 1 => by
    have h1 : eqM P Q R i j c t < 2 ^ (t + 1) := Nat.lt_trans (eqM_lt P Q R i j c t) (pow_lt_succ t)
    have h2 : ∀ p : Prop, [Decidable p] → (if p then 2 ^ t else 0) < 2 ^ (t + 1) := fun p _ => by
      split
      · exact pow_lt_succ t
      · exact Nat.two_pow_pos _
    unfold eqM
    exact xr_lt (xr_lt h1 (h2 _)) (h2 _)
def eqR (P : List (Nat × Nat)) (Q R : List (List Int)) (i j c : Nat) : Nat := eqM P Q R i j c P.length
def eqK' (P : List (Nat × Nat)) (Q R : List (List Int)) (i j : Nat) (k : Nat) : List Nat := (List.range k).map fun c => eqR P Q R i j c
theorem eqK'_succ (P : List (Nat × Nat)) (Q R : List (List Int)) (i j k : Nat) : eqK' P Q R i j (k + 1) = eqK' P Q R i j k ++ [eqR P Q R i j k] := by
  unfold eqK'; rw [List.range_succ, List.map_append]; rfl
/-- the reference's order: i, then j, then c -/
def eqSJ (P : List (Nat × Nat)) (Q R : List (List Int)) (p i : Nat) : Nat → List Nat
  | 0 => []
  | j + 1 => eqSJ P Q R p i j ++ eqK' P Q R i (j + 1) p
def eqSI (P : List (Nat × Nat)) (Q R : List (List Int)) (p : Nat) : Nat → List Nat
  | 0 => []
  | i + 1 => eqSI P Q R p i ++ eqSJ P Q R p i 20
/-- the program's order: j, then i, then c -/
def eqII (P : List (Nat × Nat)) (Q R : List (List Int)) (p j : Nat) : Nat → List Nat
  | 0 => []
  | i + 1 => eqII P Q R p j i ++ eqK' P Q R i j p
def eqIJ (P : List (Nat × Nat)) (Q R : List (List Int)) (n p : Nat) : Nat → List Nat
  | 0 => []
  | j + 1 => eqIJ P Q R n p j ++ eqII P Q R p (j + 1) n
section
variable {P : List (Nat × Nat)} {Q R : List (List Int)} {n p : Nat} {r : Nat}
theorem mem_eqK' {i j k : Nat} : r ∈ eqK' P Q R i j k ↔ ∃ c, c < k ∧ r = eqR P Q R i j c := by
  unfold eqK'
  rw [List.mem_map]
  constructor
  · rintro ⟨c, hc, rfl⟩; exact ⟨c, List.mem_range.1 hc, rfl⟩
  · rintro ⟨c, hc, rfl⟩; exact ⟨c, List.mem_range.2 hc, rfl⟩
theorem mem_eqSJ {i : Nat} : ∀ {k : Nat}, r ∈ eqSJ P Q R p i k ↔ ∃ j c, j < k ∧ c < p ∧ r = eqR P Q R i (j + 1) c
  | 0 => by simp [eqSJ]
  | k + 1 => by
    unfold eqSJ
    rw [List.mem_append, mem_eqSJ, mem_eqK']
    constructor
    · rintro (⟨j, c, a, b, e⟩ | ⟨c, b, e⟩)
      · exact ⟨j, c, by omega, b, e⟩
      · exact ⟨k, c, by omega, b, e⟩
    · rintro ⟨j, c, a, b, e⟩
      by_cases h : j = k
      · subst h; exact .inr ⟨c, b, e⟩
      · exact .inl ⟨j, c, by omega, b, e⟩
theorem mem_eqSI : ∀ {k : Nat}, r ∈ eqSI P Q R p k ↔ ∃ i j c, i < k ∧ j < 20 ∧ c < p ∧ r = eqR P Q R i (j + 1) c
  | 0 => by simp [eqSI]
  | k + 1 => by
    unfold eqSI
    rw [List.mem_append, mem_eqSI, mem_eqSJ]
    constructor
    · rintro (⟨i, j, c, a, h⟩ | ⟨j, c, h⟩)
      · exact ⟨i, j, c, by omega, h⟩
      · exact ⟨k, j, c, by omega, h⟩
    · rintro ⟨i, j, c, a, h⟩
      by_cases e : i = k
      · subst e; exact .inr ⟨j, c, h⟩
      · exact .inl ⟨i, j, c, by omega, h⟩
theorem mem_eqII {j : Nat} : ∀ {k : Nat}, r ∈ eqII P Q R p j k ↔ ∃ i c, i < k ∧ c < p ∧ r = eqR P Q R i j c
  | 0 => by simp [eqII]
  | k + 1 => by
    unfold eqII
    rw [List.mem_append, mem_eqII, mem_eqK']
    constructor
    · rintro (⟨i, c, a, b, e⟩ | ⟨c, b, e⟩)
      · exact ⟨i, c, by omega, b, e⟩
      · exact ⟨k, c, by omega, b, e⟩
    · rintro ⟨i, c, a, b, e⟩
      by_cases h : i = k
      · subst h; exact .inr ⟨c, b, e⟩
      · exact .inl ⟨i, c, by omega, b, e⟩
theorem mem_eqIJ : ∀ {k : Nat}, r ∈ eqIJ P Q R n p k ↔ ∃ i j c, i < n ∧ j < k ∧ c < p ∧ r = eqR P Q R i (j + 1) c
  | 0 => by simp [eqIJ]
  | k + 1 => by
    unfold eqIJ
    rw [List.mem_append, mem_eqIJ, mem_eqII]
    constructor
    · rintro (⟨i, j, c, a, b, h⟩ | ⟨i, c, a, h⟩)
      · exact ⟨i, j, c, a, by omega, h⟩
      · exact ⟨i, k, c, a, by omega, h⟩
    · rintro ⟨i, j, c, a, b, h⟩
      by_cases e : j = k
      · subst e; exact .inr ⟨i, c, a, h⟩
      · exact .inl ⟨i, j, c, a, by omega, h⟩
theorem eqSI_lt {k : Nat} : ∀ r ∈ eqSI P Q R p k, r < 2 ^ P.length := fun r hr => by
  obtain ⟨i, j, c, _, _, _, rfl⟩ := mem_eqSI.1 hr; exact eqM_lt _ _ _ _ _ _ _
theorem eqIJ_lt {k : Nat} : ∀ r ∈ eqIJ P Q R n p k, r < 2 ^ P.length := fun r hr => by
  obtain ⟨i, j, c, _, _, _, rfl⟩ := mem_eqIJ.1 hr; exact eqM_lt _ _ _ _ _ _ _
/-- the equations in both orders reduce to one list -/
theorem eqs_same (hP : P.length ≤ 60) : reduceS (eqIJ P Q R n p 20) = reduceS (eqSI P Q R p n) :=
  reduce_unique (fun r hr => sm_of_lt (a := P.length) (by omega) (eqIJ_lt r hr)) (fun r hr => sm_of_lt (a := P.length) (by omega) (eqSI_lt r hr)) (sp_same fun r => by
    rw [mem_eqIJ, mem_eqSI])
end
/-- the reduced masks of the basis of the maps -/
def mapsL (xs : List Int) (Q : List (List Int)) (ys : List Int) (R : List (List Int)) : List Nat := reduceS (solsTo (reduceS (eqSI (unk xs ys) Q R ys.length xs.length)) (unk xs ys).length)
theorem mapsL_ker {xs ys : List Int} {Q R : List (List Int)} (hP : (unk xs ys).length ≤ 60) : kerR (trL (reduceS (eqIJ (unk xs ys) Q R xs.length ys.length 20)) (unk xs ys).length) = mapsL xs Q ys R := by
  rw [eqs_same hP]
  have hs : ∀ r ∈ eqSI (unk xs ys) Q R ys.length xs.length, Sm r := fun r hr => sm_of_lt (a := (unk xs ys).length) (by omega) (eqSI_lt r hr)
  exact sols_ker (red_reduce hs) (fun r hr => sp_lt eqSI_lt ((sp_reduce hs r).1 (.mem hr))) hP
end Go.Proofs.YtdkmdmpaflgfaaaGreatDoor

namespace Go.Proofs.YtdkmdmpaflgfaaaGreatDoor

theorem comb_zeroZ (S : List Nat) (i : Nat) : comb S i 0 = 0 := by
  have := comb_xr S i 0 0; rw [xr_self, xr_self] at this; exact this
theorem an_linZ (u x y : Nat) : an (xr x y) u = xr (an x u) (an y u) := eq_of_tb fun i => by
  rw [tb_an, tb_xr, tb_xr, tb_an, tb_an]; cases tb x i <;> cases tb y i <;> cases tb u i <;> rfl
theorem an_powZ (i u : Nat) : an (2 ^ i) u = if tb u i = true then 2 ^ i else 0 := eq_of_tb fun c => by
  rw [tb_an, tb_pow]
  by_cases e : i = c
  · subst e
    cases h : tb u i
    · rw [if_neg (by simp), tb_zero]; simp
    · rw [if_pos rfl, tb_pow]; simp
  · rw [decide_eq_false e, Bool.false_and]
    split
    · rw [tb_pow, decide_eq_false e]
    · rw [tb_zero]
section
variable {xs ys : List Int} {F : List Nat}
/-- the component of a degree goes to the component -/
theorem comb_comp (hF : F.length = xs.length) (hh : ∀ i, i < F.length → Hom ys (xs.getD i 0) (F.getD i 0)) (d : Int) {z : Nat} (hz : z < 2 ^ xs.length) : comb F 0 (an z (dmask xs d)) = an (comb F 0 z) (dmask ys d) := by
  refine lin_ext (f := fun z => comb F 0 (an z (dmask xs d))) (g := fun z => an (comb F 0 z) (dmask ys d)) ?_ ?_ xs.length ?_ z hz
  · intro x y; show comb F 0 (an (xr x y) _) = _; rw [an_linZ, comb_xr]
  · intro x y; show an (comb F 0 (xr x y)) _ = _; rw [comb_xr, an_linZ]
  · intro k hk
    show comb F 0 (an (2 ^ k) _) = an (comb F 0 (2 ^ k)) _
    have hp : comb F 0 (2 ^ k) = F.getD k 0 := by have := comb_pow F 0 k; rwa [Nat.zero_add] at this
    rw [an_powZ, tb_dmask, decide_eq_true hk, Bool.true_and, hp]
    have h1 := hh k (by omega)
    by_cases e : xs.getD k 0 = d
    · rw [decide_eq_true e, if_pos rfl, hp]; rw [e] at h1; exact (hom_comp h1).symm
    · rw [decide_eq_false e, if_neg (by simp), comb_zeroZ]
      refine (eq_zero_of_tb fun c => ?_).symm
      rw [tb_an, tb_dmask]
      cases hc : tb (F.getD k 0) c with
      | false => rfl
      | true => rw [decide_eq_false (fun h => e ((h1 c hc).2.symm.trans h))]; simp
end

/-! ### places of a degree -/
def idx (xs : List Int) (d : Int) (k : Nat) : List Nat := (List.range k).filter fun i => decide (xs.getD i 0 = d)
theorem idx_succ (xs : List Int) (d : Int) (k : Nat) : idx xs d (k + 1) = idx xs d k ++ if xs.getD k 0 = d then [k] else [] := by
  unfold idx
  rw [List.range_succ, List.filter_append]
  congr 1
  by_cases e : xs.getD k 0 = d
  · rw [if_pos e, List.filter_cons_of_pos (by simpa using e)]; rfl
  · rw [if_neg e, List.filter_cons_of_neg (by simpa using e)]; rfl
theorem mem_idx {xs : List Int} {d : Int} {k i : Nat} : i ∈ idx xs d k ↔ i < k ∧ xs.getD i 0 = d := by
  unfold idx; rw [List.mem_filter, List.mem_range]; simp
theorem idx_nodup (xs : List Int) (d : Int) (k : Nat) : (idx xs d k).Nodup := List.Nodup.sublist List.filter_sublist List.nodup_range
theorem idx_len (xs : List Int) (d : Int) (k : Nat) : (idx xs d k).length ≤ k := Nat.le_trans (List.length_filter_le _ _) (by simp)
/-- a mask of places, told by the digits of a list of them -/
def keptT (I : List Nat) (x : Nat) : Nat → Nat
  | 0 => 0
  | i + 1 => if tb x i = true then orr (keptT I x i) (2 ^ (I.getD i 0)) else keptT I x i
def kept (I : List Nat) (x : Nat) : Nat := keptT I x I.length
theorem tb_keptT (I : List Nat) (x : Nat) : ∀ k p, tb (keptT I x k) p = true ↔ ∃ i, i < k ∧ tb x i = true ∧ I.getD i 0 = p
  | 0, p => by unfold keptT; rw [tb_zero]; simp
  | k + 1, p => by
    unfold keptT
    split
    · rename_i h
      rw [tb_orr, tb_pow, Bool.or_eq_true, tb_keptT I x k p, decide_eq_true_eq]
      constructor
      · rintro (⟨i, a, b, c⟩ | h1)
        · exact ⟨i, by omega, b, c⟩
        · exact ⟨k, by omega, h, h1⟩
      · rintro ⟨i, a, b, c⟩
        by_cases e : i = k
        · subst e; exact .inr c
        · exact .inl ⟨i, by omega, b, c⟩
    · rename_i h
      rw [tb_keptT I x k p]
      constructor
      · rintro ⟨i, a, b, c⟩; exact ⟨i, by omega, b, c⟩
      · rintro ⟨i, a, b, c⟩
        by_cases e : i = k
        · subst e; exact absurd b h
        · exact ⟨i, by omega, b, c⟩
theorem tb_kept (I : List Nat) (x p : Nat) : tb (kept I x) p = true ↔ ∃ i, i < I.length ∧ tb x i = true ∧ I.getD i 0 = p := tb_keptT I x _ p
theorem nodup_getD {I : List Nat} (h : I.Nodup) {i j : Nat} (hi : i < I.length) (hj : j < I.length) (e : I.getD i 0 = I.getD j 0) : i = j := by
  have e1 : I.getD i 0 = I[i] := by simp [List.getD, hi]
  have e2 : I.getD j 0 = I[j] := by simp [List.getD, hj]
  rw [e1, e2] at e
  exact (List.getElem_inj h).1 e
theorem tb_kept_at {I : List Nat} (h : I.Nodup) (x : Nat) {i : Nat} (hi : i < I.length) : tb (kept I x) (I.getD i 0) = tb x i := by
  cases hb : tb x i with
  | true => exact (tb_kept I x _).2 ⟨i, hi, hb, rfl⟩
  | false =>
    cases hc : tb (kept I x) (I.getD i 0) with
    | false => rfl
    | true =>
      obtain ⟨j, hj, b, c⟩ := (tb_kept I x _).1 hc
      have := nodup_getD h hj hi c
      subst this; rw [hb] at b; cases b
theorem tb_kept_out {I : List Nat} {x p : Nat} (h : p ∉ I) : tb (kept I x) p = false := by
  cases hc : tb (kept I x) p with
  | false => rfl
  | true =>
    obtain ⟨j, hj, _, c⟩ := (tb_kept I x _).1 hc
    exact absurd (c ▸ getD_mem hj) h
theorem mem_getD {I : List Nat} {p : Nat} (h : p ∈ I) : ∃ i, i < I.length ∧ I.getD i 0 = p := by
  obtain ⟨i, hi, e⟩ := List.getElem_of_mem h
  exact ⟨i, hi, by simp [List.getD, hi, e]⟩
theorem kept_lin {I : List Nat} (h : I.Nodup) : Lin (kept I) := ⟨fun x y => eq_of_tb fun p => by
  by_cases hp : p ∈ I
  · obtain ⟨i, hi, rfl⟩ := mem_getD hp
    rw [tb_xr, tb_kept_at h _ hi, tb_kept_at h _ hi, tb_kept_at h _ hi, tb_xr]
  · rw [tb_xr, tb_kept_out hp, tb_kept_out hp, tb_kept_out hp]; rfl⟩
theorem kept_pow {I : List Nat} (h : I.Nodup) {k : Nat} (hk : k < I.length) : kept I (2 ^ k) = 2 ^ (I.getD k 0) := eq_of_tb fun p => by
  by_cases hp : p ∈ I
  · obtain ⟨i, hi, rfl⟩ := mem_getD hp
    rw [tb_kept_at h _ hi, tb_pow, tb_pow]
    by_cases e : k = i
    · subst e; simp
    · rw [decide_eq_false e, decide_eq_false (fun h2 => e (nodup_getD h hk hi h2))]
  · rw [tb_kept_out hp, tb_pow, decide_eq_false (fun h2 => hp (by rw [← h2]; exact getD_mem hk))]
theorem comb_kept {I F : List Nat} (h : I.Nodup) {x : Nat} (hx : x < 2 ^ I.length) : comb F 0 (kept I x) = comb (I.map fun i => F.getD i 0) 0 x := by
  refine lin_ext (f := fun x => comb F 0 (kept I x)) (g := fun x => comb (I.map fun i => F.getD i 0) 0 x) ?_ ?_ I.length ?_ x hx
  · intro x y; show comb F 0 (kept I (xr x y)) = _; rw [(kept_lin h).add, comb_xr]
  · intro x y; exact comb_xr _ _ _ _
  · intro k hk
    show comb F 0 (kept I (2 ^ k)) = comb _ 0 (2 ^ k)
    rw [kept_pow h hk]
    have h1 := comb_pow F 0 (I.getD k 0)
    have h2 := comb_pow (I.map fun i => F.getD i 0) 0 k
    rw [Nat.zero_add] at h1 h2
    rw [h1, h2]
    simp [List.getD, hk]
/-- the digits of a list of places -/
def unT (I : List Nat) (z : Nat) : Nat → Nat
  | 0 => 0
  | i + 1 => if tb z (I.getD i 0) = true then orr (unT I z i) (2 ^ i) else unT I z i
theorem tb_unT (I : List Nat) (z : Nat) : ∀ k i, tb (unT I z k) i = (decide (i < k) && tb z (I.getD i 0))
  | 0, i => by simp [unT, tb_zero]
  | k + 1, i => by
    unfold unT
    by_cases e : i = k
    · subst e
      split
      · rename_i h; rw [tb_orr, tb_pow, h]; simp
      · rename_i h
        rw [tb_unT]
        cases hb : tb z (I.getD i 0)
        · simp
        · exact absurd hb h
    · have e2 : decide (i < k + 1) = decide (i < k) := decide_eq_decide.2 (by omega)
      split
      · rw [tb_orr, tb_pow, tb_unT, e2, decide_eq_false (show ¬ k = i by omega)]; simp
      · rw [tb_unT, e2]
theorem kept_un {I : List Nat} (h : I.Nodup) {z : Nat} (hz : ∀ p, tb z p = true → p ∈ I) : unT I z I.length < 2 ^ I.length ∧ kept I (unT I z I.length) = z := by
  refine ⟨lt_of_tb fun m hm => by rw [tb_unT, decide_eq_false (by omega)]; rfl, eq_of_tb fun p => ?_⟩
  by_cases hp : p ∈ I
  · obtain ⟨i, hi, rfl⟩ := mem_getD hp
    rw [tb_kept_at h _ hi, tb_unT, decide_eq_true hi]; simp
  · rw [tb_kept_out hp]
    cases hc : tb z p with
    | false => rfl
    | true => exact absurd (hz p hc) hp

/-! ### kernels, degree by degree -/
def kerD (xs : List Int) (F : List Nat) (d : Int) : List Nat := (kerR ((idx xs d xs.length).map fun i => F.getD i 0)).map (kept (idx xs d xs.length))
def kerAll (xs : List Int) (F : List Nat) : Nat → List Nat
  | 0 => []
  | d + 1 => kerAll xs F d ++ kerD xs F (d : Int)
section
variable {xs ys : List Int} {F : List Nat}
theorem kerD_sp (hF : ∀ r ∈ F, Sm r) (hn : xs.length ≤ 62) (d : Int) (z : Nat) : Sp (kerD xs F d) z ↔ Hom xs d z ∧ comb F 0 z = 0 := by
  have hnd := idx_nodup xs d xs.length
  have hl := idx_len xs d xs.length
  have hR : ∀ r ∈ (idx xs d xs.length).map fun i => F.getD i 0, Sm r := fun r hr => by
    obtain ⟨i, _, rfl⟩ := List.mem_map.1 hr
    by_cases hi : i < F.length
    · exact hF _ (getD_mem hi)
    · have : F.getD i 0 = 0 := by simp [List.getD, List.getElem?_eq_none (show F.length ≤ i by omega)]
      rw [this]; exact Sm.zero
  unfold kerD
  rw [sp_map (kept_lin hnd)]
  constructor
  · rintro ⟨v, hv, rfl⟩
    obtain ⟨h1, h2⟩ := (kerR_sp hR (by rw [List.length_map]; omega) v).1 hv
    rw [List.length_map] at h1
    refine ⟨fun c hc => ?_, by rw [comb_kept hnd h1]; exact h2⟩
    obtain ⟨i, hi, _, rfl⟩ := (tb_kept _ _ _).1 hc
    exact mem_idx.1 (getD_mem hi)
  · rintro ⟨h1, h2⟩
    obtain ⟨h3, h4⟩ := kept_un (I := idx xs d xs.length) hnd (z := z) (fun p hp => mem_idx.2 (h1 p hp))
    refine ⟨_, (kerR_sp hR (by rw [List.length_map]; omega) _).2 ⟨by rw [List.length_map]; exact h3, ?_⟩, h4.symm⟩
    rw [← comb_kept hnd h3, h4]; exact h2
theorem kerAll_hom {k : Nat} (hF : ∀ r ∈ F, Sm r) (hn : xs.length ≤ 62) : ∀ r ∈ kerAll xs F k, ∃ d : Nat, d < k ∧ Hom xs (d : Int) r ∧ comb F 0 r = 0 := by
  induction k with
  | zero => intro r hr; cases hr
  | succ k ih =>
    intro r hr
    rcases List.mem_append.1 hr with hr | hr
    · obtain ⟨d, a, b⟩ := ih r hr; exact ⟨d, by omega, b⟩
    · exact ⟨k, by omega, (kerD_sp hF hn (k : Int) r).1 (.mem hr)⟩
theorem kerAll_back (hl : F.length = xs.length) (hh : ∀ i, i < F.length → Hom ys (xs.getD i 0) (F.getD i 0)) (hF : ∀ r ∈ F, Sm r) (hn : xs.length ≤ 62) : ∀ (k : Nat) (z : Nat), (∀ c, tb z c = true → c < xs.length ∧ ∃ d : Nat, d < k ∧ xs.getD c 0 = (d : Int)) → comb F 0 z = 0 → Sp (kerAll xs F k) z
  | 0, z, hz, _ => by
    have : z = 0 := eq_zero_of_tb fun c => by
      cases hc : tb z c with
      | false => rfl
      | true => obtain ⟨_, d, hd, _⟩ := hz c hc; omega
    subst this; exact .zero
  | k + 1, z, hz, h0 => by
    have hzl : z < 2 ^ xs.length := lt_of_tb fun m hm => by
      cases hc : tb z m with
      | false => rfl
      | true => have := (hz m hc).1; omega
    have hc1 : comb F 0 (an z (dmask xs (k : Int))) = 0 := by rw [comb_comp hl hh _ hzl, h0]; exact eq_zero_of_tb fun c => by rw [tb_an, tb_zero]; rfl
    have e : xr (an z (dmask xs (k : Int))) (nt z (dmask xs (k : Int))) = z := eq_of_tb fun i => by
      rw [tb_xr, tb_an, tb_nt]; cases tb z i <;> cases tb (dmask xs (k : Int)) i <;> rfl
    have hc2 : comb F 0 (nt z (dmask xs (k : Int))) = 0 := by
      have h1 := h0
      rw [← e, comb_xr, hc1, zero_xr] at h1; exact h1
    have s1 : Sp (kerD xs F (k : Int)) (an z (dmask xs (k : Int))) := (kerD_sp hF hn _ _).2 ⟨comp_hom xs _ z, hc1⟩
    have s2 := kerAll_back hl hh hF hn k (nt z (dmask xs (k : Int))) (fun c hc => by
      rw [tb_nt, tb_dmask] at hc
      have hzc : tb z c = true := by cases h : tb z c <;> simp_all
      obtain ⟨h1, d, hd, h2⟩ := hz c hzc
      refine ⟨h1, d, ?_, h2⟩
      rcases Nat.lt_or_ge d k with h3 | h3
      · exact h3
      · have : d = k := by omega
        subst this
        rw [hzc, decide_eq_true h1, decide_eq_true h2] at hc; simp at hc) hc2
    rw [← e]
    exact (s1.mono fun r hr => List.mem_append_right _ hr).plus (s2.mono fun r hr => List.mem_append_left _ hr)
theorem kerAll_eq {Q : List (List Int)} (hs : Shp xs Q) (hl : F.length = xs.length) (hh : ∀ i, i < F.length → Hom ys (xs.getD i 0) (F.getD i 0)) (hF : ∀ r ∈ F, Sm r) (hx : SrtL xs) : byDeg xs (kerAll xs F 21) 21 = kerR F := by
  have hn : xs.length ≤ 62 := by have := hs.len; omega
  have hsm : ∀ r ∈ kerAll xs F 21, Sm r := fun r hr => by
    obtain ⟨d, _, h, _⟩ := kerAll_hom hF hn r hr
    exact sm_of_lt (a := xs.length) hn h.lt
  rw [byDeg_eq hx hsm (fun r hr _ => by obtain ⟨d, h1, h2, _⟩ := kerAll_hom hF hn r hr; exact ⟨d, h1, h2⟩)]
  have hkS : ∀ r ∈ kerS F F.length, Sm r := (kerG_span hF (by omega)).sm (by omega)
  unfold kerR
  refine reduce_unique hsm hkS fun z => ?_
  have h1 := kerR_sp hF (show F.length ≤ 62 by omega) z
  unfold kerR at h1
  rw [sp_reduce hkS] at h1
  rw [h1, hl]
  constructor
  · intro h
    refine ⟨?_, ?_⟩
    · refine sp_lt (fun r hr => ?_) h
      obtain ⟨d, _, h2, _⟩ := kerAll_hom hF hn r hr; exact h2.lt
    · clear h1
      induction h with
      | zero => exact comb_zeroZ _ _
      | add hm _ ih =>
        obtain ⟨d, _, _, h3⟩ := kerAll_hom hF hn _ hm
        rw [comb_xr, h3, ih]; rfl
  · rintro ⟨h2, h3⟩
    refine kerAll_back hl hh hF hn 21 z (fun c hc => ?_) h3
    have hcl : c < xs.length := by
      rcases Nat.lt_or_ge c xs.length with h | h
      · exact h
      · rw [tb_of_lt h2 h] at hc; cases hc
    have := hs.deg c hcl
    exact ⟨hcl, (xs.getD c 0).toNat, by omega, by omega⟩
end

/-! ### the table of a part -/
def partD (xs : List Int) (S : List Nat) : List Int := S.map fun r => xs.getD (pv r) 0
def partC (Q : List (List Int)) (S : List Nat) (j i : Nat) : Nat → List (List Int)
  | 0 => []
  | c + 1 => partC Q S j i c ++ if tb (act Q (j : Int) (S.getD i 0)) (pv (S.getD c 0)) = true then [[(j : Int), (i : Int), (c : Int)]] else []
def partI (Q : List (List Int)) (S : List Nat) (j : Nat) : Nat → List (List Int)
  | 0 => []
  | i + 1 => partI Q S j i ++ partC Q S j i S.length
def partJ (Q : List (List Int)) (S : List Nat) : Nat → List (List Int)
  | 0 => []
  | j + 1 => partJ Q S j ++ partI Q S (j + 1) S.length
def partA (Q : List (List Int)) (S : List Nat) : List (List Int) := partJ Q S 20
theorem partC_len (Q : List (List Int)) (S : List Nat) (j i : Nat) : ∀ c, (partC Q S j i c).length ≤ c
  | 0 => by simp [partC]
  | c + 1 => by
    unfold partC; rw [List.length_append]
    have := partC_len Q S j i c
    split <;> simp <;> omega
theorem partI_len (Q : List (List Int)) (S : List Nat) (j : Nat) : ∀ i, (partI Q S j i).length ≤ i * S.length
  | 0 => by simp [partI]
  | i + 1 => by
    unfold partI; rw [List.length_append, Nat.succ_mul]
    have h1 := partI_len Q S j i
    have h2 := partC_len Q S j i S.length
    omega
theorem partJ_len (Q : List (List Int)) (S : List Nat) : ∀ j, (partJ Q S j).length ≤ j * (S.length * S.length)
  | 0 => by simp [partJ]
  | j + 1 => by
    unfold partJ; rw [List.length_append, Nat.succ_mul]
    have h1 := partJ_len Q S j
    have h2 := partI_len Q S (j + 1) S.length
    omega
theorem partD_len (xs : List Int) (S : List Nat) : (partD xs S).length = S.length := by simp [partD]
theorem partD_getD (xs : List Int) {S : List Nat} {i : Nat} (h : i < S.length) : (partD xs S).getD i 0 = xs.getD (pv (S.getD i 0)) 0 := by simp [partD, List.getD, h]
/-- an entry's degrees fit -/
theorem part_deg {xs : List Int} {Q : List (List Int)} {S : List Nat} (hs : Shp xs Q) (hh : ∀ r ∈ S, r ≠ 0 ∧ Sm r ∧ ∃ d, Hom xs d r) {i c j : Nat} (hi : i < S.length) (hc : c < S.length) (h : tb (act Q (j : Int) (S.getD i 0)) (pv (S.getD c 0)) = true) : (partD xs S).getD c 0 = (partD xs S).getD i 0 + (j : Int) := by
  obtain ⟨h0, hsm, d, hd⟩ := hh _ (getD_mem hi)
  have h1 := (act_hom hs (n := (j : Int)) hd _ h).2
  have h2 := (hd.pv h0 hsm).2
  rw [partD_getD xs hc, partD_getD xs hi, h1, h2]
/-- the digits of a mask by a reduced basis -/
def cooT (S : List Nat) (v : Nat) : Nat → Nat
  | 0 => 0
  | c + 1 => if tb v (pv (S.getD c 0)) = true then orr (cooT S v c) (2 ^ c) else cooT S v c
theorem tb_cooT (S : List Nat) (v : Nat) : ∀ k c, tb (cooT S v k) c = (decide (c < k) && tb v (pv (S.getD c 0)))
  | 0, c => by simp [cooT, tb_zero]
  | k + 1, c => by
    unfold cooT
    by_cases e : c = k
    · subst e
      split
      · rename_i h; rw [tb_orr, tb_pow, h]; simp
      · rename_i h
        rw [tb_cooT]
        cases hb : tb v (pv (S.getD c 0))
        · simp
        · exact absurd hb h
    · have e2 : decide (c < k + 1) = decide (c < k) := decide_eq_decide.2 (by omega)
      split
      · rw [tb_orr, tb_pow, tb_cooT, e2, decide_eq_false (show ¬ k = c by omega)]; simp
      · rw [tb_cooT, e2]
end Go.Proofs.YtdkmdmpaflgfaaaGreatDoor
