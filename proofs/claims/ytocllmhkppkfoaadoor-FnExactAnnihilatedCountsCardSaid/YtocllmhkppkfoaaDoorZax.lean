/- impl's tableOf · impl's (*table).square, relation -/
import Derived.Test.YtocllmhkppkfoaaDoorZaw
import Derived.Test.YtocllmhkppkfoaaDoorZaj
namespace Go.Proofs.YtocllmhkppkfoaaDoor
open Go.RowKit

def sq2 (n b k : Nat) : List Nat := if k = 0 then (List.range n).map fun i => if i < b then 2 ^ i else 0 else List.replicate n 0
theorem sq2_len (n b k : Nat) : (sq2 n b k).length = n := by unfold sq2; split <;> simp
theorem sq2_zero (n k : Nat) : sq2 n 0 k = List.replicate n 0 := by
  unfold sq2; split
  · apply List.ext_getElem (by simp)
    intro i h1 h2; simp
  · rfl
theorem sq2_succ (n b j : Nat) (hb : b < n) : (if j = 0 then (sq2 n b 0).set b (2 ^ b) else sq2 n b j) = sq2 n (b + 1) j := by
  by_cases h : j = 0
  · subst h
    rw [if_pos rfl]
    unfold sq2
    rw [if_pos rfl, if_pos rfl]
    apply List.ext_getElem (by simp)
    intro i h1 h2
    rw [List.getElem_set]
    simp only [List.getElem_map, List.getElem_range]
    by_cases e : b = i
    · subst e; simp
    · rw [if_neg e]
      by_cases e2 : i < b
      · rw [if_pos e2, if_pos (by omega)]
      · rw [if_neg e2, if_neg (by omega)]
  · rw [if_neg h]; unfold sq2; rw [if_neg h, if_neg h]
theorem sq2_all (n k : Nat) : sq2 n n k = sqRow [] n k := by
  unfold sq2 sqRow sqOr
  apply List.ext_getElem (by split <;> simp)
  intro i h1 h2
  have hi : i < n := by simpa using h2
  by_cases h : k = 0
  · simp [h, hi]
  · simp [h]
theorem owns_getN {w : World} {B g n c k : Nat} {ys : List Nat} (h : w.ownsRow B 2 1 (.slice (some ⟨g, 0, none⟩) n c) n (nv ys)) (hl : ys.length = n) (hk : k < n) : w.cell? ⟨g, k, none⟩ = some (.int .i64 ((ys.getD k 0 : Nat) : Int)) := by
  rw [h.cellAt k (by omega)]; simp [nv, List.getD, show k < ys.length by omega]
theorem pow2_bd {d : Nat} (h : d ≤ 16) : (0 : Int) ≤ 2 ^ d ∧ (2 : Int) ^ d ≤ 65536 := by
  have : (2 : Nat) ^ d ≤ 2 ^ 16 := Nat.pow_le_pow_right (by omega) h
  have e : ((2 ^ d : Nat) : Int) = (2 : Int) ^ d := by simp
  exact ⟨by rw [← e]; exact Int.natCast_nonneg _, by rw [← e]; exact Int.le_trans (Int.ofNat_le.2 this) (by decide)⟩
theorem sqOr_take (Q : List (List Int)) {q : Nat} (hq : q < Q.length) (k i : Nat) : sqOr (Q.take (q + 1)) k i = sqStep k i (sqOr (Q.take q) k i) (Q.getD q []) := by
  unfold sqOr; exact fold_take_succ _ _ _ _ _ hq
theorem sqRow_step (Q : List (List Int)) (n q : Nat) (hq : q < Q.length) (i0 i1 j : Nat) (h0 : (Q.getD q []).getD 0 0 = (i0 : Int)) (h1 : (Q.getD q []).getD 1 0 = (i1 : Int)) :
    (if j = i0 then (sqRow (Q.take q) n i0).set i1 (orr ((sqRow (Q.take q) n i0).getD i1 0) (2 ^ ((Q.getD q []).getD 2 0).toNat)) else sqRow (Q.take q) n j) = sqRow (Q.take (q + 1)) n j := by
  apply List.ext_getElem (by split <;> simp [sqRow])
  intro i h2 h3
  have hi : i < n := by simpa [sqRow] using h3
  have e3 : (sqRow (Q.take (q + 1)) n j)[i] = sqStep j i (sqOr (Q.take q) j i) (Q.getD q []) := by
    simp only [sqRow, List.getElem_map, List.getElem_range]; exact sqOr_take Q hq j i
  rw [e3]
  unfold sqStep
  rw [h0, h1]
  by_cases e : j = i0
  · subst e
    simp only [if_true]
    rw [List.getElem_set]
    by_cases e4 : i1 = i
    · subst e4; rw [if_pos rfl, if_pos ⟨trivial, rfl⟩, sqRow_getD _ hi]
    · rw [if_neg e4, if_neg (show ¬ (True ∧ (i1 : Int) = (i : Int)) from fun h => e4 (by have := h.2; omega))]; simp [sqRow]
  · simp only [if_neg e]
    rw [if_neg (show ¬ ((i0 : Int) = (j : Int) ∧ (i1 : Int) = (i : Int)) from fun h => e (by have := h.1; omega))]; simp [sqRow]
theorem Shp.take {xs : List Int} {Q : List (List Int)} (h : Shp xs Q) (q : Nat) : Shp xs (Q.take q) := by
  have e : ∀ i, i < (Q.take q).length → (Q.take q).getD i [] = Q.getD i [] := fun i hi => by
    rw [List.length_take] at hi
    simp only [List.getD, List.getElem?_take, if_pos (show i < q by omega)]
  refine ⟨h.len, h.deg, h.srt, fun i hi => ?_, fun k hk => ?_⟩
  · rw [e i (by omega), e (i + 1) hi]; exact h.asc i (by rw [List.length_take] at hi; omega)
  · rw [e k hk]; exact h.ent k (by rw [List.length_take] at hk; omega)
theorem sqOr_sm {xs : List Int} {Q : List (List Int)} (h : Shp xs Q) (q k i : Nat) (hi : i < xs.length) : Sm (sqOr (Q.take q) k i) := by
  rw [sqOr_act (h.take q)]
  have := act_lt (h.take q) (v := 2 ^ i) (pow_lt_pow hi) (k : Int)
  have h2 : 2 ^ xs.length ≤ 2 ^ 16 := Nat.pow_le_pow_right (by omega) h.len
  unfold Sm
  omega
set_option maxRecDepth 100000 in
set_option maxHeartbeats 2000000 in
theorem tableOf_any (A A' : Option Addr) (n c m c' : Nat) (xs : List Int) (L : List Row) (w : World) (hn : n = xs.length) (hm : m = L.length) (hm1 : m ≤ 1048576) (hs : Shp xs (dat L)) (hR' : RdR w A' L) :
    Calls Tryd.prog 73 #[.agg #[.slice A n c, .slice A' m c']] w fun e w' => ∃ g h, e = .returned (.pointer (some ⟨g, 0, none⟩)) ∧ TbM w w' g A n c h 21 (sqRow (dat L) n) := by
  have hn16 : n ≤ 16 := by rw [hn]; exact hs.len
  have hk0 := blk_new w (.cells #[.slice A n c, .slice A' m c'] 29)
  obtain ⟨x0, x1, xf0, xf1, lx⟩ := blk2cells hk0
  have hmk := run_make_row' (P := Tryd.prog) 22 2 (.int .i64 0) 8 Tryd.underlying22 infoI rfl .i64 .i64 n (by omega) (by omega)
  have HS := Lib.hid hs
  have HR' := Lib.hid hR'
  have Hn := Lib.hid hn
  have Hm := Lib.hid hm
  have HMK := Lib.hid hmk
  clear hs hR' hn hm hk0 hmk
  go_enter Tryd.func73, Tryd.ntmps73
  go_wp2_with fail
  clear x0 x1 xf0 xf1 lx
  go_loopw [12] (fun i wr => ∃ k : Nat, ∃ h : Nat → Nat, k ≤ 21 ∧ i = .int .i64 k ∧ TbM w wr (w.heap.size + 1) A n c h k (fun _ => List.replicate n 0) ∧ wr.heap[w.heap.size]? = some (.cells #[.slice A n c, .slice A' m c'] 29 (0, 0))) (fun i _ => 21 - (intOf i).toNat)
  case atStart =>
    refine ⟨0, fun _ => 0, by omega, rfl, ⟨⟨_, blk_new1 w _ _, rfl, rfl, fun k hk => by omega⟩, fun k hk => by omega, fun k j hk => by omega, by omega, ((Below.refl _ _).alloc (Nat.le_refl _) _).alloc (by simp) _⟩, blk_alloc (blk_new w _) _⟩
  case round =>
    obtain ⟨k, h, hk, rfl, ht, hblk⟩ := hrel
    have HT := Lib.hid ht
    have HB := Lib.hid hblk
    have hglt := ht.lt
    by_cases hlt : k < 21
    · obtain ⟨x0, x1, xf0, xf1, lx⟩ := blk2cells hblk
      obtain ⟨old, hold⟩ := ht.old (i := 1 + k) (by omega)
      have hfz := ht.frozen (1 + k)
      have hmk := HMK.out
      have hk21 : (k : Int) < 21 := by omega
      clear ht hblk
      have hks : ((wr.setCell ⟨w.heap.size + 1, 1 + k, none⟩ (.slice (some ⟨wr.heap.size, 0, none⟩) n n)).alloc (.cells (madeCells #[.int .i64 0] n) 2)).drew.cell? ⟨w.heap.size, 0, none⟩ = some (.slice A n c) :=
        ((((Keeps.refl wr [some (w.heap.size + 1)]).setCell (p := ⟨w.heap.size + 1, 1 + k, none⟩) (by simp) _).alloc _).drew).cellSome x0 (by simp)
      have HKS := Lib.hid hks
      clear hks
      go_wp2_with fail
      go_region_held3 (fun w' => w'.cell? ⟨w.heap.size, 0, none⟩ = some (.slice A n c)) (first | exact x0 | exact cell_keep x0 (Below.drew (Below.refl _ _)) | exact cell_keep x0 ((Below.refl _ _).alloc (Nat.le_refl _) _) | exact cell_keep x0 ((Below.refl _ _).alloc (Nat.le_refl _) _).drew | exact HKS.out) (fail)
      clear hmk
      go_wp2_with fail
      go_roundw
      case rel =>
        refine ⟨k + 1, fun j => if j = k then wr.heap.size else h j, by omega, by go_num, ?_, ?_⟩
        · have t1 := HT.out.make hlt (by omega)
          rw [World.setCell_alloc_past _ _ _ _ hglt] at t1
          exact t1.drew.congr (fun j _ => by split <;> rfl)
        · exact (blk_alloc (blk_seto HB.out ⟨w.heap.size + 1, 1 + k, none⟩ (by simp) _) _ : _)
      case measure => simp [intOf]; omega
    · obtain rfl : k = 21 := by omega
      rw [show ((21 : Nat) : Int) = 21 from rfl]
      obtain ⟨x0, x1, xf0, xf1, lx⟩ := blk2cells hblk
      clear ht hblk hglt hlt
      go_wp2_with fail
      go_loopw [28] (fun i wr => ∃ b : Nat, b ≤ n ∧ i = .int .i64 b ∧ TbM w wr (w.heap.size + 1) A n c h 21 (sq2 n b) ∧ wr.heap[w.heap.size]? = some (.cells #[.slice A n c, .slice A' m c'] 29 (0, 0))) (fun i _ => n - (intOf i).toNat)
      case atStart => exact ⟨0, by omega, rfl, HT.out.congr (fun k _ => (sq2_zero n k).symm), HB.out⟩
      case round =>
        obtain ⟨b, hb, rfl, ht, hblk⟩ := hrel
        have HT := Lib.hid ht
        have HB := Lib.hid hblk
        by_cases hlt : b < n
        · have hc0 : wr.cell? ⟨w.heap.size + 1, 1, none⟩ = some (.slice (some ⟨h 0, 0, none⟩) n n) := ht.cell (k := 0) (by omega)
          have ho := ht.own 0 (by omega)
          have hcb := owns_getN ho (sq2_len n b 0) hlt
          have hfz := ho.frozenAt b
          obtain ⟨hp1, hp2⟩ := pow2_bd (d := b) (by omega)
          have HE : Hid (((2 ^ b : Nat) : Int) = (2 : Int) ^ b) := Lib.hid (by simp)
          generalize (sq2 n b 0).getD b 0 = oldv at *
          clear ht hblk ho x0 x1 xf0 xf1 lx
          go_wp2_with fail
          go_still_tail 9, (by kernel_rfl)
          go_wp2_with fail
          go_roundw
          case rel =>
            refine ⟨b + 1, by omega, by go_num, ?_, ?_⟩
            · have t1 := HT.out.store (k := 0) (by omega) b (2 ^ b)
              rw [HE.out] at t1
              exact t1.drew.congr (fun j _ => sq2_succ n b j hlt)
            · exact blk_seto HB.out ⟨h 0, b, none⟩ (by have := own_ne_blk (HT.out.own 0 (by omega)) HB.out (by decide); simpa [Value.ownBlock] using this) _
          case measure => simp [intOf]; omega
        · obtain rfl : b = n := by omega
          have HT3 := Lib.hid (ht.congr (fun k _ => sq2_all b k))
          obtain ⟨x0, x1, xf0, xf1, lx⟩ := blk2cells hblk
          clear ht hblk HT
          go_wp2_with fail
          go_loopw [44] (fun i wr => ∃ q : Nat, q ≤ m ∧ i = .int .i64 q ∧ TbM w wr (w.heap.size + 1) A b c h 21 (sqRow ((dat L).take q) b) ∧ wr.heap[w.heap.size]? = some (.cells #[.slice A b c, .slice A' m c'] 29 (0, 0))) (fun i _ => m - (intOf i).toNat)
          case atStart => exact ⟨0, by omega, rfl, HT3.out, HB.out⟩
          case round =>
            obtain ⟨q, hq, rfl, ht, hblk⟩ := hrel
            have HT := Lib.hid ht
            have HB := Lib.hid hblk
            by_cases hlt : q < m
            · have hqL : q < L.length := by rw [← Hm.out]; exact hlt
              have hR1 := HR'.out.below ht.bel
              obtain ⟨bR, oR, rfl, hcell⟩ := hR1.at_ hqL
              have hin := hR1.inn q hqL
              have hent := HS.out.ent q (by rw [dat_length]; exact hqL)
              have HSX := Lib.hid (fun (i0 i1 : Nat) (j : Nat) => sqRow_step (dat L) b q (by rw [dat_length]; exact hqL) i0 i1 j)
              have HSM := Lib.hid (fun (i0 i1 : Nat) (h1 : i1 < b) => sqOr_sm HS.out q i0 i1 (by rw [← Hn.out]; exact h1))
              have h20 := hent.le20 HS.out.deg
              rw [dat_getD] at hent HSX h20
              generalize rg L q = r at *
              obtain ⟨rA, rc, rx⟩ := r
              simp only at hcell hin hent HSX h20
              have hl3 := hent.len
              rw [hl3] at hcell
              obtain ⟨b1, o1, rfl, hy0⟩ := hin.atI (k := 0) (by omega)
              rw [Nat.add_zero] at hy0
              have hy1 := hin.cellI (k := 1) (by omega)
              have hy2 := hin.cellI (k := 2) (by omega)
              have hlo0 := hent.pos
              have hlo1 := hent.lo1
              have hhi1 := hent.hi1
              have hlo2 := hent.lo2
              have hhi2 := hent.hi2
              rw [← Hn.out] at hhi1 hhi2
              clear hent hin hR1 hl3
              generalize rx.getD 0 0 = e0 at *
              generalize rx.getD 1 0 = e1 at *
              generalize rx.getD 2 0 = e2 at *
              obtain ⟨i0, rfl⟩ := Int.eq_ofNat_of_zero_le (show 0 ≤ e0 by omega)
              obtain ⟨i1, rfl⟩ := Int.eq_ofNat_of_zero_le hlo1
              obtain ⟨i2, rfl⟩ := Int.eq_ofNat_of_zero_le hlo2
              have hi0 : i0 < 21 := by omega
              have hi0' : (i0 : Int) < 21 := by omega
              have hi1 : i1 < b := by omega
              have hi1' : (i1 : Int) < (b : Int) := by omega
              have hi2 : i2 ≤ 16 := by omega
              have hc0 := ht.cell (k := i0) hi0
              have ho := ht.own i0 hi0
              have hcb := owns_getN ho (sqRow_length _ _ _) hi1
              have hfz := ho.frozenAt i1
              obtain ⟨hp1, hp2⟩ := pow2_bd (d := i2) hi2
              have HE : Hid (((2 ^ i2 : Nat) : Int) = (2 : Int) ^ i2) := Lib.hid (by simp)
              have hsm := HSM.out i0 i1 hi1
              rw [← sqRow_getD _ hi1] at hsm
              have hor := i64_or_nat (b := 2 ^ i2) hsm (show Sm (2 ^ i2) from Nat.lt_of_le_of_lt (Nat.pow_le_pow_right (by omega) hi2) (by omega))
              rw [HE.out] at hor
              have HST := Lib.hid (HT.out.store (k := i0) hi0 i1 (orr ((sqRow (List.take q (dat L)) b i0).getD i1 0) (2 ^ i2)))
              have HSTEP := Lib.hid (fun j => HSX.out i0 i1 j rfl rfl)
              rw [Int.toNat_natCast] at HSTEP
              generalize (sqRow (List.take q (dat L)) b i0).getD i1 0 = oldv at *
              clear ht hblk ho x0 x1 xf0 xf1 lx hsm
              go_wp2_with fail
              go_still_tail 19, (by kernel_rfl)
              have HOR := Lib.hid hor
              clear hor
              go_wp2_with fail
              go_roundw
              case rel => exact ⟨q + 1, by omega, by go_num, by rw [HOR.out]; exact HST.out.drew.congr (fun j _ => HSTEP.out j), blk_seto HB.out ⟨h i0, i1, none⟩ (by have := own_ne_blk (HT.out.own i0 hi0) HB.out (by decide); simpa [Value.ownBlock] using this) _⟩
              case measure => simp [intOf]; omega
            · obtain rfl : q = m := by omega
              have he : (dat L).take q = dat L := List.take_of_length_le (by rw [dat_length, ← Hm.out]; exact Nat.le_refl _)
              rw [he] at HT
              clear ht hblk he
              go_wp2_with fail
              go_ret
              exact ⟨_, h, rfl, HT.out⟩
end Go.Proofs.YtocllmhkppkfoaaDoor

namespace Go.Proofs.YtocllmhkppkfoaaDoor
open Go.RowKit

/-- the table of a module, to be read -/
structure TblAt (w : World) (g : Nat) (A : Option Addr) (n c : Nat) (Q : List (List Int)) : Prop where
  c0 : w.cell? ⟨g, 0, none⟩ = some (.slice A n c)
  row : ∀ k, k < 21 → ∃ h, w.cell? ⟨g, 1 + k, none⟩ = some (.slice (some ⟨h, 0, none⟩) n n) ∧ Rd w (some ⟨h, 0, none⟩) (nv (sqRow Q n k))
theorem TbM.rd {w0 w : World} {g : Nat} {A : Option Addr} {n c : Nat} {h : Nat → Nat} {Q : List (List Int)} (t : TbM w0 w g A n c h 21 (sqRow Q n)) : TblAt w g A n c Q :=
  ⟨t.cell0, fun k hk => ⟨h k, t.cell hk, owns_Rd (t.own k hk)⟩⟩
theorem TblAt.below {w w' : World} {g : Nat} {A : Option Addr} {n c : Nat} {Q : List (List Int)} (t : TblAt w g A n c Q) (hb : Below w.heap.size w w') : TblAt w' g A n c Q :=
  ⟨cell_keep t.c0 hb, fun k hk => by obtain ⟨h, h1, h2⟩ := t.row k hk; exact ⟨h, cell_keep h1 hb, h2.below hb⟩⟩
theorem sm_of_len {xs : List Int} {v : Nat} (h : xs.length ≤ 16) (hv : v < 2 ^ xs.length) : Sm v := by
  have h2 : 2 ^ xs.length ≤ 2 ^ 16 := Nat.pow_le_pow_right (by omega) h
  unfold Sm; omega
theorem sqRow_sm {xs : List Int} {Q : List (List Int)} (h : Shp xs Q) (k : Nat) : ∀ r ∈ sqRow Q xs.length k, Sm r := by
  intro r hr
  unfold sqRow at hr
  rw [List.mem_map] at hr
  obtain ⟨i, hi, rfl⟩ := hr
  rw [List.mem_range] at hi
  rw [sqOr_act h]
  exact sm_of_len h.len (act_lt h (pow_lt_pow hi) _)

set_option maxHeartbeats 1000000 in
theorem square_any (g : Nat) (A : Option Addr) (n c : Nat) (xs : List Int) (Q : List (List Int)) (z y : Int) (v : Nat) (w : World) (hn : n = xs.length) (hs : Shp xs Q) (hz : 0 ≤ z) (hy : y = (v : Int)) (hv : v < 2 ^ xs.length) (ht : TblAt w g A n c Q) :
    Calls Tryd.prog 150 #[.pointer (some ⟨g, 0, none⟩), .int .i64 z, .int .i64 y] w fun e w' => e = .returned (.int .i64 (act Q z v : Nat)) ∧ w = w' := by
  subst hy
  by_cases hb : 20 < z
  · have HE := Lib.hid (act_big hs hb v)
    clear ht hn hs
    go_enter Tryd.func150, Tryd.ntmps150
    go_wp2_with fail
    go_ret
    exact ⟨by rw [HE.out]; rfl, rfl⟩
  · obtain ⟨k, rfl⟩ := Int.eq_ofNat_of_zero_le hz
    obtain ⟨h, h1, h2⟩ := ht.row k (by omega)
    have hT := times_any (some ⟨h, 0, none⟩) n n (sqRow Q n k) v w (sqRow_length _ _ _).symm (by have := hs.len; omega) (sm_of_len hs.len hv) (by rw [hn]; exact sqRow_sm hs k) h2
    have hE := sq_times hs k hv
    rw [← hn] at hE
    rw [hE] at hT
    have HT := Lib.hid hT
    have hk : (k : Int) < 21 := by omega
    clear ht h2 hT hE hn hs
    go_enter Tryd.func150, Tryd.ntmps150
    go_wp2_with fail
    refine HT.out.mono ?_
    rintro e w' ⟨rfl, rfl⟩
    go_wp2_with fail
    go_ret
    exact ⟨rfl, rfl⟩

def relF (a b j : Nat) : List Nat := (List.range j).filter (relB a b)
theorem relF_yes {a b j : Nat} (h : relB a b j = true) : relF a b (j + 1) = relF a b j ++ [j] := by unfold relF; rw [List.range_succ, List.filter_append]; simp [h]
theorem relF_no {a b j : Nat} (h : relB a b j = false) : relF a b (j + 1) = relF a b j := by unfold relF; rw [List.range_succ, List.filter_append]; simp [h]
theorem relF_len (a b j : Nat) : (relF a b j).length ≤ j := by unfold relF; exact Nat.le_trans (List.length_filter_le _ _) (by simp)
theorem nv_append (S : List Nat) (j : Nat) : nv (S ++ [j]) = nv S ++ [.int .i64 (j : Int)] := by simp [nv]

set_option maxHeartbeats 2000000 in
theorem relation_any (a b : Nat) (w : World) (ha : 1 ≤ a) (hab : a < 2 * b) (hb1 : a + b ≤ 1000) :
    Calls Tryd.prog 149 #[.int .i64 a, .int .i64 b] w fun e w' => ∃ g k cap, e = .returned (.slice (some ⟨g, 0, none⟩) k cap) ∧ Hid (k = (relN a b).length) ∧ w'.ownsRow w.heap.size 2 1 (.slice (some ⟨g, 0, none⟩) k cap) k (nv (relN a b)) ∧ Below w.heap.size w w' := by
  go_enter Tryd.func149, Tryd.ntmps149
  go_wp2_with fail
  go_loopw [5, 6] (fun v s6 wr => ∃ j g k cap : Nat, j ≤ a / 2 + 1 ∧ s6 = .int .i64 j ∧ v = .slice (some ⟨g, 0, none⟩) k cap ∧ k ≤ j ∧ Hid (k = (relF a b j).length) ∧ wr.ownsRow w.heap.size 2 1 (.slice (some ⟨g, 0, none⟩) k cap) k (nv (relF a b j)) ∧ Below w.heap.size w wr) (fun _ i _ => a / 2 + 1 - (intOf i).toNat)
  case atStart => exact ⟨0, w.heap.size, 0, 0, by omega, rfl, rfl, by omega, Lib.hid rfl, World.ownsRow_made w #[] 0 (Nat.le_refl _) (by decide) (by simp), (Below.refl _ _).alloc (Nat.le_refl _) _⟩
  case round =>
    obtain ⟨j, g, k, cap, hj, rfl, rfl, hkj, HK, hown, hbel⟩ := hrel
    have HO := Lib.hid hown
    have HB := Lib.hid hbel
    have hsz := hbel.size
    by_cases h2 : 2 * j ≤ a
    · have h2' : 2 * (j : Int) ≤ (a : Int) := by omega
      have hand := i64_and_nat (a := b - j - 1) (b := a - 2 * j) (by unfold Sm; omega) (by unfold Sm; omega)
      have e1 : ((b - j - 1 : Nat) : Int) = (b : Int) - j - 1 := by omega
      have e2 : ((a - 2 * j : Nat) : Int) = (a : Int) - 2 * j := by omega
      have HR : Hid (relB a b j = (an (b - j - 1) (a - 2 * j) == a - 2 * j)) := Lib.hid rfl
      rw [e1, e2] at hand
      clear hown hbel
      cases hrel : relB a b j
      · have hne : ((an (b - j - 1) (a - 2 * j) : Nat) : Int) ≠ (a : Int) - 2 * j := by
          have := HR.out.symm.trans hrel
          rw [beq_eq_false_iff_ne] at this
          omega
        have HF := Lib.hid (relF_no hrel)
        generalize an (b - j - 1) (a - 2 * j) = p at *
        have hnb : ((p : Int) == (a : Int) - 2 * j) = false := by simpa using hne
        clear hrel e1 e2 hne
        go_wp2_with fail
        go_roundw
        case rel => exact ⟨j + 1, g, k, cap, by omega, by go_num, rfl, by omega, by rw [HF.out]; exact HK, by rw [HF.out]; exact HO.out, HB.out⟩
        case measure => simp [intOf]; omega
      · have heq : ((an (b - j - 1) (a - 2 * j) : Nat) : Int) = (a : Int) - 2 * j := by
          have := HR.out.symm.trans hrel
          rw [beq_iff_eq] at this
          omega
        rw [heq] at hand
        have HF := Lib.hid (relF_yes hrel)
        have HK2 : Hid (k + 1 = (relF a b j ++ [j]).length) := Lib.hid (by rw [List.length_append, HK.out]; rfl)
        have hk12 : k < 1099511627776 := by omega
        clear hrel e1 e2 heq
        go_wp2_with (at_builtin; refine wpList_app1 _ _ _ _ _ etI (by rfl) (by rfl) w.heap.size (.slice (some ⟨g, 0, none⟩) k cap) k (nv (relF a b j)) (by rfl) (HO.out.alloc _) _ (.int .i64 (j : Int)) (by rfl) (new_cell _ _ _) (by rfl) hk12 (Nat.le_trans hsz (Nat.le_of_lt (by simp))) ?_; (intro g1 cap1 w1 hown1 hgrow1 hat1 hlt1; have HO1 := Lib.hid hown1; have HB1 := Lib.hid (below_app2 HB.out hsz HO.out hgrow1); clear hown1 hgrow1 hat1 hlt1))
        go_roundw
        case rel => exact ⟨j + 1, g1, k + 1, cap1, by omega, by go_num, rfl, by omega, by rw [HF.out]; exact HK2, by rw [HF.out, nv_append]; exact HO1.out, HB1.out⟩
        case measure => simp [intOf]; omega
    · have h2c : ¬ 2 * (j : Int) ≤ (a : Int) := by omega
      have hj9 : j ≤ 1000 := by omega
      have HE : Hid (relF a b j = relN a b) := Lib.hid (by rw [show j = a / 2 + 1 by omega]; rfl)
      rw [HE.out] at HK HO
      clear hown hbel hj h2
      go_wp2_with fail
      go_ret
      exact ⟨g, k, cap, rfl, HK, HO.out, HB.out⟩
end Go.Proofs.YtocllmhkppkfoaaDoor
