/- the reference's l11Counts, l01Index, l01Own2 · the reference's l11Rank -/
import Derived.Test.YtocllmhkppkfoaaDoorZai
import Derived.Test.YtocllmhkppkfoaaDoorZao
import Derived.Deep.RegionHeld3
import Derived.StillTailTactics
namespace Go.Proofs.YtocllmhkppkfoaaDoor
open Go.RowKit

/-- the numbers of the degrees 0 .. 20 -/
def cntL (xs : List Int) : List Int := (List.range 21).map fun (d : Nat) => ((cnt xs (d : Int) : Nat) : Int)
theorem cntL_length (xs : List Int) : (cntL xs).length = 21 := by simp [cntL]
theorem cntL_getD (xs : List Int) {d : Nat} (h : d < 21) : (cntL xs).getD d 0 = ((cnt xs (d : Int) : Nat) : Int) := by simp [cntL, List.getD, h]
theorem cntL_nil : cntL [] = List.replicate 21 0 := by decide
theorem cntL_succ {xs : List Int} {k d : Nat} (h : k < xs.length) (hd : xs.getD k 0 = (d : Int)) (h21 : d < 21) : cntL (xs.take (k + 1)) = (cntL (xs.take k)).set d ((cnt (xs.take k) (d : Int) : Nat) + 1 : Int) := by
  refine list_ext_getD (cntL_length _) (by rw [List.length_set]; exact cntL_length _) fun i hi => ?_
  rw [cntL_getD _ hi, set_getD _ _ _ _ (by rw [cntL_length]; exact h21), cntL_getD _ hi, cnt_take h, hd]
  by_cases e : i = d
  · subst e; rw [if_pos rfl, if_pos rfl]; rfl
  · rw [if_neg (by omega), if_neg e]; rfl
theorem cnt_le (xs : List Int) (d : Int) : cnt xs d ≤ xs.length := List.countP_le_length

set_option maxRecDepth 100000 in
set_option maxHeartbeats 1000000 in
theorem l11Counts_any (A : Option Addr) (n c : Nat) (xs : List Int) (w : World) (hn : n = xs.length) (hsm : n ≤ 1048576) (hd : ∀ i, i < xs.length → 0 ≤ xs.getD i 0 ∧ xs.getD i 0 ≤ 20) (hR : Rd w A (iv xs)) :
    Calls Tryd.prog 66 #[.slice A n c] w fun e w' => ∃ g, e = .returned (.slice (some ⟨g, 0, none⟩) 21 21) ∧ w'.ownsRow w.heap.size 2 1 (.slice (some ⟨g, 0, none⟩) 21 21) 21 (iv (cntL xs)) ∧ Below w.heap.size w w' := by
  have hmk : ∀ w : World, (Instr.makeSlice 22 (.int .i64 21) (.int .i64 21)).run Tryd.prog w = .ok (.slice (some ⟨w.heap.size, 0, none⟩) 21 21) (w.alloc (.cells (madeCells #[.int .i64 0] 21) 2)) := run_make_row' (P := Tryd.prog) 22 2 (.int .i64 0) 8 Tryd.underlying22 infoI rfl .i64 .i64 21 (by omega) (by omega)
  have HO0 := Lib.hid (made_own w w.heap.size 21 (Nat.le_refl _) (by omega))
  have HB0 : Hid (Below w.heap.size w (w.alloc (.cells (madeCells #[.int .i64 0] 21) 2))) := Lib.hid ((Below.refl _ _).alloc (Nat.le_refl _) _)
  have HR := Lib.hid hR
  have Hn := Lib.hid hn
  have HD := Lib.hid hd
  clear hR hn hd
  go_enter Tryd.func66, Tryd.ntmps66
  go_wp2_with fail
  clear hmk
  go_loopw [4] (fun i wr => ∃ k : Nat, k ≤ n ∧ i = .int .i64 k ∧ wr.ownsRow w.heap.size 2 1 (.slice (some ⟨w.heap.size, 0, none⟩) 21 21) 21 (iv (cntL (xs.take k))) ∧ Below w.heap.size w wr) (fun i _ => n - (intOf i).toNat)
  case atStart => exact ⟨0, by omega, rfl, by rw [List.take_zero, cntL_nil]; exact HO0.out, HB0.out⟩
  case round =>
    obtain ⟨k, hk, rfl, hown, hbel⟩ := hrel
    have HO := Lib.hid hown
    have HB := Lib.hid hbel
    by_cases hlt : k < n
    · have hkL : k < xs.length := by rw [← Hn.out]; exact hlt
      obtain ⟨b, o, rfl, hc⟩ := (HR.out.below hbel).atI hkL
      obtain ⟨h0, h1⟩ := HD.out k hkL
      obtain ⟨d, hde⟩ := Int.eq_ofNat_of_zero_le h0
      have hd21 : d < 21 := by omega
      have HST := Lib.hid (cntL_succ hkL hde hd21)
      have hcb := cnt_le (xs.take k) (d : Int)
      rw [List.length_take] at hcb
      rw [hde] at hc
      have hoc := owns_getD hown hd21
      rw [cntL_getD _ hd21] at hoc
      have fz := hown.frozenAt d
      have HSTO := Lib.hid ((World.ownsRow.stored hown d (.int .i64 (((cnt (xs.take k) (d : Int) : Nat) : Int) + 1))).1)
      rw [← iv_set] at HSTO
      have hcn : cnt (xs.take k) (d : Int) ≤ 1048576 := by omega
      generalize cnt (xs.take k) (d : Int) = q at *
      clear hown hbel h0 h1 hde hcb
      go_wp2_with fail
      go_roundw
      case rel => exact ⟨k + 1, by omega, by go_num, by rw [HST.out]; exact HSTO.out, HB.out.setCell (p := ⟨w.heap.size, d, none⟩) (Nat.le_refl _) _⟩
      case measure => simp [intOf]; omega
    · obtain rfl : k = n := by omega
      have he : xs.take k = xs := List.take_of_length_le (by rw [← Hn.out]; exact Nat.le_refl _)
      rw [he] at HO
      clear hown hbel he
      go_wp2_with fail
      go_ret
      exact ⟨w.heap.size, rfl, HO.out, HB.out⟩

/-- the place of a number in a list, or -1 -/
def IxAt (xs : List Int) (x r : Int) : Prop := (r = -1 ∧ ∀ i, i < xs.length → xs.getD i 0 ≠ x) ∨ ∃ k : Nat, k < xs.length ∧ r = k ∧ xs.getD k 0 = x ∧ ∀ i, i < k → xs.getD i 0 ≠ x
set_option maxRecDepth 100000 in
set_option maxHeartbeats 1000000 in
theorem l01Index_any (A : Option Addr) (n c : Nat) (xs : List Int) (x : Int) (w : World) (hn : n = xs.length) (hsm : n ≤ 1048576) (hR : Rd w A (iv xs)) :
    Calls Tryd.prog 125 #[.slice A n c, .int .i64 x] w fun e w' => (∃ r, e = .returned (.int .i64 r) ∧ IxAt xs x r) ∧ w = w' := by
  have HR := Lib.hid hR
  have Hn := Lib.hid hn
  clear hR hn
  go_enter Tryd.func125, Tryd.ntmps125
  go_wp2_with fail
  go_loop [5] (fun i => ∃ k : Nat, k ≤ n ∧ i = .int .i64 k ∧ Hid (∀ t, t < k → xs.getD t 0 ≠ x)) (fun i => n - (intOf i).toNat)
  case atStart => exact ⟨0, by omega, rfl, Lib.hid (fun t ht => by omega)⟩
  case round =>
    obtain ⟨k, hk, rfl, HQ⟩ := hrel
    by_cases hlt : k < n
    · have hkL : k < xs.length := by rw [← Hn.out]; exact hlt
      obtain ⟨b, o, rfl, hc⟩ := HR.out.atI hkL
      obtain ⟨y, hy⟩ : ∃ y, xs.getD k 0 = y := ⟨_, rfl⟩
      rw [hy] at hc
      by_cases e : y = x
      · subst e
        have HIX : Hid (IxAt xs y (k : Int)) := Lib.hid (.inr ⟨k, hkL, rfl, hy, HQ.out⟩)
        clear hy
        go_wp2_with fail
        go_ret
        exact ⟨⟨_, rfl, HIX.out⟩, rfl⟩
      · have heb : (y == x) = false := by simpa using e
        have HQ' : Hid (∀ t, t < k + 1 → xs.getD t 0 ≠ x) := Lib.hid (fun t ht => by
          by_cases et : t = k
          · subst et; rw [hy]; exact e
          · exact HQ.out t (by omega))
        clear hy e
        go_wp2_with fail
        go_round
        case rel => exact ⟨k + 1, by omega, by go_num, HQ'⟩
        case measure => simp [intOf]; omega
    · obtain rfl : k = n := by omega
      have HIX : Hid (IxAt xs x (-1)) := Lib.hid (.inl ⟨rfl, fun i hi => HQ.out i (by rw [Hn.out]; exact hi)⟩)
      go_wp2_with fail
      go_ret
      exact ⟨⟨_, rfl, HIX.out⟩, rfl⟩
/-- in the digits of a mask that is not 0 the first 1 stands at its least digit -/
theorem ix_lo {v n : Nat} {r : Int} (hv : v < 2 ^ n) (h : IxAt (bitsL v n) 1 r) : (v = 0 ∧ r = -1) ∨ (v ≠ 0 ∧ lo v < n ∧ r = (lo v : Nat)) := by
  rcases h with ⟨rfl, h⟩ | ⟨k, hk, rfl, h1, h2⟩
  · left
    refine ⟨eq_zero_of_tb fun i => ?_, rfl⟩
    rcases Nat.lt_or_ge i n with hi | hi
    · have := h i (by rw [bitsL_length]; exact hi)
      rw [bitsL_getD _ hi] at this
      cases hb : tb v i with
      | false => rfl
      | true => exact absurd (bit_one hb) this
    · exact tb_of_lt hv hi
  · right
    rw [bitsL_length] at hk
    rw [bitsL_getD _ hk, bit_iff] at h1
    have h0 : v ≠ 0 := by rintro rfl; rw [tb_zero] at h1; cases h1
    obtain ⟨a1, a2⟩ := lo_spec h0
    have e : lo v = k := by
      rcases Nat.lt_trichotomy (lo v) k with h3 | h3 | h3
      · have := h2 (lo v) h3
        rw [bitsL_getD _ (by omega)] at this
        exact absurd (bit_one a1) this
      · exact h3
      · rw [a2 k h3] at h1; cases h1
    rw [e]; exact ⟨h0, hk, rfl⟩

set_option maxRecDepth 100000 in
set_option maxHeartbeats 1000000 in
/-- copies of rows of rows -/
theorem l01Own2_any (A : Option Addr) (n c : Nat) (L : List Row) (w : World) (hn : n = L.length) (hsm : n ≤ 1048576) (hl : ∀ i, i < L.length → (rg L i).xs.length ≤ 1048576) (hR : RdR w A L) :
    Calls Tryd.prog 124 #[.slice A n c] w fun e w' => ∃ A1 c1 R, e = .returned (.slice A1 n c1) ∧ R.length = n ∧ dat R = dat L ∧ OwnR w' w.heap.size (.slice A1 n c1) R ∧ Below w.heap.size w w' := by
  have HR := Lib.hid hR
  have Hn := Lib.hid hn
  have HL := Lib.hid hl
  clear hR hn hl
  go_enter Tryd.func124, Tryd.ntmps124
  go_wp2_with fail
  go_loopw [3, 4] (fun vv i wr => ∃ R : List Row, ∃ A1 c1, R.length ≤ n ∧ i = .int .i64 (R.length : Nat) ∧ vv = .slice A1 R.length c1 ∧ Hid (dat R = (dat L).take R.length) ∧ OwnR wr w.heap.size (.slice A1 R.length c1) R ∧ Below w.heap.size w wr) (fun _ i _ => n - (intOf i).toNat)
  case atStart => exact ⟨[], some ⟨w.heap.size, 0, none⟩, 0, by simp, rfl, rfl, Lib.hid rfl, OwnR.made w (Nat.le_refl _), (Below.refl _ _).alloc (Nat.le_refl _) _⟩
  case round =>
    obtain ⟨R, A1, c1, hj, rfl, rfl, HD, hown, hbel⟩ := hrel
    have HO := Lib.hid hown
    have HB := Lib.hid hbel
    have hsz := hbel.size
    have hq : R.length < 1099511627776 := by omega
    by_cases hlt : R.length < n
    · have hjL : R.length < L.length := by rw [← Hn.out]; exact hlt
      have hR1 := HR.out.below hbel
      obtain ⟨b, o, rfl, hc⟩ := hR1.at_ hjL
      have hin := hR1.inn _ hjL
      have hl2 := HL.out _ hjL
      have HTS : Hid ((dat L).take (R.length + 1) = (dat L).take R.length ++ [(rg L R.length).xs]) := Lib.hid (by
        rw [List.take_succ_eq_append_getElem (by rw [dat_length]; exact hjL), ← dat_getD]; simp [List.getD, hjL, dat_length])
      generalize rg L R.length = r at *
      obtain ⟨rA, rc, rx⟩ := r
      simp only at hc hin hl2 HTS
      have HC := Lib.hid (l01Own_any rA rx.length rc (iv rx) wr (by rw [iv_length]) (by omega) (iv_one _) hin)
      clear hown hbel hR1 hin hjL
      go_wp2_with fail
      refine HC.out.mono ?_
      rintro e w1 ⟨g, cap, rfl, ho, hb⟩
      have HO1 := Lib.hid ho
      have HB1 := Lib.hid hb
      clear ho hb
      go_wp2_with (at_builtin; refine wpList_app1 _ _ _ _ _ etS (by rfl) (by rfl) w.heap.size (.slice A1 R.length c1) R.length (hv R) (by rfl) ((HO.out.later HB1.out).out.alloc _) _ (.slice (some ⟨g, 0, none⟩) rx.length cap) (by rfl) (new_cell _ _ _) (by rfl) hq (Nat.le_trans (Nat.le_trans hsz HB1.out.size) (Nat.le_of_lt (by simp))) ?_; (intro g2 c2 w3 hown3 hg3 hat3 hlt3; have HN := Lib.hid (OwnR.push HO.out HB1.out HO1.out rfl hsz hown3 hg3); have HB3 := Lib.hid (below_app2 (HB.out.trans (HB1.out.mono hsz)) (Nat.le_trans hsz HB1.out.size) (HO.out.later HB1.out).out hg3); clear hown3 hg3 hat3 hlt3))
      go_roundw
      case rel =>
        refine ⟨R ++ [⟨some ⟨g, 0, none⟩, cap, rx⟩], some ⟨g2, 0, none⟩, c2, by simp; omega, by simp, by simp, Lib.hid ?_, by simpa using HN.out, HB3.out⟩
        rw [dat_append1, HD.out, List.length_append, List.length_singleton, HTS.out]
      case measure => simp [intOf]; omega
    · obtain rfl : n = R.length := by omega
      have he : (dat L).take R.length = dat L := List.take_of_length_le (by rw [dat_length, ← Hn.out]; exact Nat.le_refl _)
      rw [he] at HD
      clear hown hbel he
      go_wp2_with fail
      go_ret
      exact ⟨A1, c1, R, rfl, rfl, HD.out, HO.out, HB.out⟩
end Go.Proofs.YtocllmhkppkfoaaDoor

namespace Go.Proofs.YtocllmhkppkfoaaDoor
open Go.RowKit

theorem rkN_le : ∀ (n : Nat) (S : List Nat), rkN n S ≤ n
  | 0, _ => by simp [rkN]
  | n + 1, [] => by simp [rkN]
  | n + 1, r :: S => by
    unfold rkN
    split
    · have := rkN_le n S; omega
    · have := rkN_le n (S.map (clr (lo r) r)); omega
theorem rkS_le (S : List Nat) : rkS S ≤ S.length := rkN_le _ _
theorem clr_lt {p r s n : Nat} (hr : r < 2 ^ n) (hs : s < 2 ^ n) : clr p r s < 2 ^ n := by
  unfold clr; split
  · exact xr_lt hs hr
  · exact hs
theorem nat_getD_lt {V : List Nat} {n j : Nat} (h : ∀ x ∈ V, x < 2 ^ n) : V.getD j 0 < 2 ^ n := by
  rcases Nat.lt_or_ge j V.length with hj | hj
  · exact h _ (by simp [List.getD, hj])
  · rw [show V.getD j 0 = 0 by simp [List.getD, List.getElem?_eq_none hj]]; exact Nat.two_pow_pos _
theorem nat_ext {x y : List Nat} {n : Nat} (hx : x.length = n) (hy : y.length = n) (h : ∀ i, i < n → x.getD i 0 = y.getD i 0) : x = y := by
  apply List.ext_getElem (by omega)
  intro i h1 h2
  have := h i (by omega)
  simpa [List.getD, h1, h2] using this
theorem drop_getD {V : List Nat} {i : Nat} (h : i < V.length) : V.drop i = V.getD i 0 :: V.drop (i + 1) := by
  rw [List.drop_eq_getElem_cons h]; simp [List.getD, h]
/-- the rows at the head of a round: rank so far, masks -/
structure RkOut (n m : Nat) (S : List Nat) (i r : Nat) (V : List Nat) (R : List Row) : Prop where
  len : V.length = m
  lt : ∀ x ∈ V, x < 2 ^ n
  dat : dat R = V.map fun v => bitsL v n
  rk : r + rkS (V.drop i) = rkS S
theorem RkOut.row {n m : Nat} {S : List Nat} {i r : Nat} {V : List Nat} {R : List Row} (h : RkOut n m S i r V R) {k : Nat} (hk : k < m) : k < R.length ∧ (rg R k).xs = bitsL (V.getD k 0) n := by
  have hl : R.length = m := by have := congrArg List.length h.dat; rw [dat_length, List.length_map, h.len] at this; exact this
  refine ⟨by omega, ?_⟩
  rw [← dat_getD, h.dat]
  simp [List.getD, show k < V.length by rw [h.len]; exact hk]
theorem RkOut.rlen {n m : Nat} {S : List Nat} {i r : Nat} {V : List Nat} {R : List Row} (h : RkOut n m S i r V R) : R.length = m := by have := congrArg List.length h.dat; rw [dat_length, List.length_map, h.len] at this; exact this
theorem RkOut.skip {n m : Nat} {S : List Nat} {i r : Nat} {V : List Nat} {R : List Row} (h : RkOut n m S i r V R) (hi : i < m) (h0 : V.getD i 0 = 0) : RkOut n m S (i + 1) r V R :=
  ⟨h.len, h.lt, h.dat, by rw [← h.rk, drop_getD (V := V) (i := i) (by rw [h.len]; exact hi), rkS_cons, if_pos h0]⟩
/-- within a round: the rows i + 1 .. k - 1 cleared -/
structure RkIn (n m i k p : Nat) (V U : List Nat) (R : List Row) : Prop where
  len : U.length = m
  lt : ∀ x ∈ U, x < 2 ^ n
  at_ : ∀ j, j < m → U.getD j 0 = if i < j ∧ j < k then clr p (V.getD i 0) (V.getD j 0) else V.getD j 0
  dat : dat R = U.map fun v => bitsL v n
theorem RkIn.start {n m : Nat} {S : List Nat} {i r p : Nat} {V : List Nat} {R : List Row} (h : RkOut n m S i r V R) : RkIn n m i (i + 1) p V V R :=
  ⟨h.len, h.lt, fun j _ => by rw [if_neg (by omega)], h.dat⟩
theorem RkIn.rlen {n m i k p : Nat} {V U : List Nat} {R : List Row} (h : RkIn n m i k p V U R) : R.length = m := by have := congrArg List.length h.dat; rw [dat_length, List.length_map, h.len] at this; exact this
theorem RkIn.row {n m i k p : Nat} {V U : List Nat} {R : List Row} (h : RkIn n m i k p V U R) {j : Nat} (hj : j < m) : (rg R j).xs = bitsL (U.getD j 0) n := by
  rw [← dat_getD, h.dat]
  simp [List.getD, show j < U.length by rw [h.len]; exact hj]
theorem RkIn.same {n m i k p : Nat} {V U : List Nat} {R : List Row} (h : RkIn n m i k p V U R) (hk : k < m) (hb : tb (U.getD k 0) p = false) : RkIn n m i (k + 1) p V U R := by
  refine ⟨h.len, h.lt, fun j hj => ?_, h.dat⟩
  rw [h.at_ j hj]
  have hk' := h.at_ k hk
  rw [if_neg (by omega)] at hk'
  by_cases e : j = k
  · subst e
    rw [if_neg (by omega)]
    split
    · unfold clr; rw [← hk', hb]; simp
    · rfl
  · by_cases e2 : i < j ∧ j < k
    · rw [if_pos e2, if_pos (by omega)]
    · rw [if_neg e2, if_neg (by omega)]
theorem RkIn.put {n m i k p : Nat} {V U : List Nat} {R : List Row} {r : Row} (h : RkIn n m i k p V U R) (hik : i < k) (hk : k < m) (hv : V.getD i 0 < 2 ^ n) (hb : tb (U.getD k 0) p = true) (hr : r.xs = bitsL (xr (U.getD k 0) (V.getD i 0)) n) : RkIn n m i (k + 1) p V (U.set k (xr (U.getD k 0) (V.getD i 0))) (R.set k r) := by
  have hk' := h.at_ k hk
  rw [if_neg (by omega)] at hk'
  refine ⟨by rw [List.length_set]; exact h.len, fun x hx => ?_, fun j hj => ?_, ?_⟩
  · rcases List.mem_or_eq_of_mem_set hx with hx | rfl
    · exact h.lt x hx
    · exact xr_lt (nat_getD_lt h.lt) hv
  · have e1 : (U.set k (xr (U.getD k 0) (V.getD i 0))).getD j 0 = if j = k then xr (U.getD k 0) (V.getD i 0) else U.getD j 0 := by
      simp only [List.getD, List.getElem?_set]
      by_cases e : k = j
      · subst e; simp [show k < U.length by rw [h.len]; exact hk]
      · simp [e, Ne.symm e]
    rw [e1]
    by_cases e : j = k
    · subst e
      rw [if_pos rfl, if_pos (by omega)]
      unfold clr; rw [← hk', hb]; simp
    · rw [if_neg e, h.at_ j hj]
      by_cases e2 : i < j ∧ j < k
      · rw [if_pos e2, if_pos (by omega)]
      · rw [if_neg e2, if_neg (by omega)]
  · have : Go.Proofs.YtocllmhkppkfoaaDoor.dat (R.set k r) = (Go.Proofs.YtocllmhkppkfoaaDoor.dat R).set k r.xs := by unfold Go.Proofs.YtocllmhkppkfoaaDoor.dat; rw [List.map_set]
    rw [this, h.dat, hr, List.map_set]
theorem RkIn.finish {n m : Nat} {S : List Nat} {i r : Nat} {V U : List Nat} {R R' : List Row} (h0 : RkOut n m S i r V R) (hi : i < m) (hv : V.getD i 0 ≠ 0) (h : RkIn n m i m (lo (V.getD i 0)) V U R') : RkOut n m S (i + 1) (r + 1) U R' := by
  refine ⟨h.len, h.lt, h.dat, ?_⟩
  rw [← h0.rk, drop_getD (V := V) (i := i) (by rw [h0.len]; exact hi), rkS_cons, if_neg hv]
  have e : U.drop (i + 1) = (V.drop (i + 1)).map (clr (lo (V.getD i 0)) (V.getD i 0)) := by
    refine nat_ext (n := m - (i + 1)) (by rw [List.length_drop, h.len]) (by rw [List.length_map, List.length_drop, h0.len]) fun j hj => ?_
    have e1 : ∀ W : List Nat, (W.drop (i + 1)).getD j 0 = W.getD (i + 1 + j) 0 := fun W => by simp only [List.getD, List.getElem?_drop]
    rw [e1, h.at_ _ (by omega), if_pos (by omega)]
    have e2 : ((V.drop (i + 1)).map (clr (lo (V.getD i 0)) (V.getD i 0))).getD j 0 = clr (lo (V.getD i 0)) (V.getD i 0) ((V.drop (i + 1)).getD j 0) := by
      simp [List.getD, show i + 1 + j < V.length by rw [h0.len]; omega]
    rw [e2, e1]
  rw [e]; omega

set_option maxRecDepth 100000 in
set_option maxHeartbeats 4000000 in
theorem l11Rank_any (n : Nat) (A : Option Addr) (m c : Nat) (S : List Nat) (L : List Row) (w : World) (hm : m = S.length) (hsm : m ≤ 1000) (hn : n ≤ 1000) (hS : ∀ r ∈ S, r < 2 ^ n) (hd : dat L = S.map fun v => bitsL v n) (hR : RdR w A L) :
    Calls Tryd.prog 69 #[.slice A m c] w fun e w' => e = .returned (.int .i64 ((rkS S : Nat) : Int)) ∧ Below w.heap.size w w' := by
  have hLl : L.length = m := by have := congrArg List.length hd; rw [dat_length, List.length_map, ← hm] at this; exact this
  have HC := Lib.hid (l01Own2_any A m c L w hLl.symm (by omega) (fun i hi => by
    rw [← dat_getD, hd]
    simp only [List.getD, List.getElem?_map, List.getElem?_eq_getElem (show i < S.length by omega), Option.map_some, Option.getD_some, bitsL_length]; omega) hR)
  have HRK : Hid (∀ R : List Row, dat R = dat L → RkOut n m S 0 0 S R) := Lib.hid (fun R h => ⟨hm.symm, hS, h.trans hd, by simp⟩)
  have hrk := rkS_le S
  rw [← hm] at hrk
  clear hd hR hS hm hLl
  go_enter Tryd.func69, Tryd.ntmps69
  go_wp2_with fail
  refine HC.out.mono ?_
  rintro e w1 ⟨A1, c1, R0, rfl, hl, hd, ho, hb⟩
  have HO1 := Lib.hid ho
  have HB1 := Lib.hid hb
  have HR0 := Lib.hid (HRK.out R0 hd)
  clear ho hb hl hd
  go_wp2_with fail
  go_loopw [3, 4] (fun q i wr => ∃ k r V R, k ≤ m ∧ i = .int .i64 (k : Nat) ∧ q = .int .i64 (r : Nat) ∧ Hid (RkOut n m S k r V R) ∧ OwnR wr w.heap.size (.slice A1 m c1) R ∧ Below w.heap.size w wr) (fun _ i _ => m - (intOf i).toNat)
  case atStart => exact ⟨0, 0, S, R0, by omega, rfl, rfl, HR0, HO1.out, HB1.out⟩
  case round =>
    obtain ⟨i, r, V, R, hi, rfl, rfl, HK, hown, hbel⟩ := hrel
    have HO := Lib.hid hown
    have HB := Lib.hid hbel
    have hsz := hbel.size
    have hrm : r ≤ m := by have := HK.out.rk; omega
    by_cases hlt : i < m
    · obtain ⟨hiR, hxs⟩ := HK.out.row hlt
      have hmR := HK.out.rlen
      have hrd := hown.rd hmR.symm
      obtain ⟨g, o, rfl, hc⟩ := hrd.at_ hiR
      obtain ⟨rfl⟩ : o = 0 := by
        obtain ⟨A2, c2, e2, _, h2, _⟩ := owns_shape hown.out
        injection e2 with e2 _ _
        obtain ⟨g2, e3, _⟩ := h2 (by omega)
        rw [e3] at e2
        injection e2 with e2
        injection e2
      rw [Nat.zero_add] at hc
      have hin := hrd.inn i hiR
      have hvl := nat_getD_lt (j := i) HK.out.lt
      have HIF : Hid (∀ p R' U, RkIn n m i m p V U R' → p = lo (V.getD i 0) → V.getD i 0 ≠ 0 → RkOut n m S (i + 1) (r + 1) U R') := Lib.hid (fun p R' U h hp hv => by subst hp; exact RkIn.finish HK.out hlt hv h)
      have HSK : Hid (V.getD i 0 = 0 → RkOut n m S (i + 1) r V R) := Lib.hid (HK.out.skip hlt)
      have HST : Hid (∀ p, RkIn n m i (i + 1) p V V R) := Lib.hid (fun p => RkIn.start HK.out)
      rw [hxs] at hc hin
      rw [bitsL_length] at hc
      have HIX := Lib.hid (l01Index_any (rg R i).A n (rg R i).c (bitsL (V.getD i 0) n) 1 wr (by rw [bitsL_length]) (by omega) hin)
      clear hown hbel hxs hrd hin
      go_wp2_with fail
      refine HIX.out.mono ?_
      rintro e w' ⟨⟨x, rfl, hx⟩, rfl⟩
      rcases ix_lo hvl hx with ⟨h0, rfl⟩ | ⟨h0, hp, rfl⟩
      · have HN := Lib.hid (HSK.out h0)
        clear hx h0 hvl hc hiR hmR HIX
        go_wp2_with fail
        go_roundw
        case rel => exact ⟨i + 1, r, V, R, by omega, by go_num, rfl, HN, HO.out, HB.out⟩
        case measure => simp [intOf]; omega
      · have HNE := Lib.hid h0
        have HVL := Lib.hid hvl
        have HP0 : Hid (lo (V.getD i 0) = lo (V.getD i 0)) := Lib.hid rfl
        generalize hpe : lo (V.getD i 0) = p at *
        have HPE := Lib.hid hpe
        have hpn : ¬ ((p : Int) < 0) := by omega
        clear hx h0 hvl hpe HP0 hc hiR hmR HIX
        go_wp2_with fail
        go_loopw [6] (fun kk wr => ∃ k U R', i + 1 ≤ k ∧ k ≤ m ∧ kk = .int .i64 (k : Nat) ∧ Hid (RkIn n m i k p V U R') ∧ OwnR wr w.heap.size (.slice (some ⟨g, 0, none⟩) m c1) R' ∧ Below w.heap.size w wr) (fun kk _ => m - (intOf kk).toNat)
        case atStart => exact ⟨i + 1, V, R, by omega, by omega, by go_num, Lib.hid (HST.out p), HO.out, HB.out⟩
        case round =>
          obtain ⟨k, U, R', hik, hk, rfl, HU, hown, hbel⟩ := hrel
          have HO' := Lib.hid hown
          have HB' := Lib.hid hbel
          have hsz' := hbel.size
          by_cases hkm : k < m
          · have hRl := HU.out.rlen
            have hxk := HU.out.row hkm
            have hxi := HU.out.row hlt
            have hUi := HU.out.at_ i hlt
            rw [if_neg (by omega)] at hUi
            rw [hUi] at hxi
            have hrd := hown.rd hRl.symm
            have hck := hrd.cell (k := k) (by omega)
            have hci := hrd.cell (k := i) (by omega)
            have hik2 := hrd.inn k (by omega)
            have hii2 := hrd.inn i (by omega)
            rw [hxk] at hck hik2
            rw [hxi] at hci hii2
            rw [bitsL_length] at hck hci
            rw [Nat.zero_add] at hck hci
            obtain ⟨b, o, hAk, hcp⟩ := hik2.atI (k := p) (by rw [bitsL_length]; exact hp)
            rw [bitsL_getD _ hp] at hcp
            rw [hAk] at hck
            cases htb : tb (U.getD k 0) p
            · have HN := Lib.hid (HU.out.same hkm htb)
              rw [bit_none htb] at hcp
              clear hown hbel hrd hik2 hii2 hxk hxi hUi hRl htb hAk hci
              go_wp2_with fail
              go_roundw
              case rel => exact ⟨k + 1, U, R', by omega, by omega, by go_num, HN, HO'.out, HB'.out⟩
              case measure => simp [intOf]; omega
            · have HN : Hid (∀ r : Row, r.xs = bitsL (xr (U.getD k 0) (V.getD i 0)) n → RkIn n m i (k + 1) p V (U.set k (xr (U.getD k 0) (V.getD i 0))) (R'.set k r)) := Lib.hid (fun r hr => HU.out.put (by omega) hkm HVL.out htb hr)
              rw [bit_one htb] at hcp
              rw [hAk] at hik2
              have HPL := Lib.hid (fun W (hb : Below wr.heap.size wr W) => l11Plus_any (some ⟨b, o, none⟩) (rg R' i).A n (rg R' k).c (rg R' i).c (U.getD k 0) (V.getD i 0) W hn (hik2.below hb) (hii2.below hb))
              have hRk : k < R'.length := by omega
              have HFZ : Hid (∀ W, Below wr.heap.size wr W → W.frozen? ⟨g, k, none⟩ = false) := Lib.hid (fun W hb => by
                have h2 := (HO'.out.later hb).cell (k := k) hRl.symm hRk
                exact h2.2)
              have HPUT : Hid (∀ (W W2 : World) (gp cp : Nat), Below wr.heap.size wr W → W2.ownsRow W.heap.size 2 1 (.slice (some ⟨gp, 0, none⟩) n cp) n (iv (bitsL (xr (U.getD k 0) (V.getD i 0)) n)) → Below W.heap.size W W2 →
                  OwnR (W2.setCell ⟨g, k, none⟩ (.slice (some ⟨gp, 0, none⟩) n cp)) w.heap.size (.slice (some ⟨g, 0, none⟩) m c1) (R'.set k ⟨some ⟨gp, 0, none⟩, cp, bitsL (xr (U.getD k 0) (V.getD i 0)) n⟩)) := Lib.hid (fun W W2 gp cp hb ho hb2 => by
                have h1 := (HO'.out.later hb).later hb2
                have hv1 : Row.val ⟨some ⟨gp, 0, none⟩, cp, bitsL (xr (U.getD k 0) (V.getD i 0)) n⟩ = .slice (some ⟨gp, 0, none⟩) n cp := by simp [Row.val, bitsL_length]
                have h2 := h1.put (j := k) (r := ⟨some ⟨gp, 0, none⟩, cp, bitsL (xr (U.getD k 0) (V.getD i 0)) n⟩) hRl.symm hRk (by
                  rw [hv1]; simp only [bitsL_length]; exact ho.mono (Nat.le_trans hsz' hb.size)) (fun j hj hne => by
                    refine .inr fun e => ?_
                    rw [hv1] at e
                    have a1 := (ho.lt gp rfl).1
                    have a2 := ((HO'.out.inn j hj).lt gp (by rw [← e]; rfl)).2
                    have := hb.size
                    omega)
                rw [hv1] at h2; exact h2)
              have hgl : w.heap.size ≤ g := by
                obtain ⟨A2, c2, e2, _, h2, _⟩ := owns_shape HO'.out.out
                injection e2 with e2 _ _
                obtain ⟨g2, e3, h3, _⟩ := h2 (by omega)
                rw [e3] at e2
                injection e2 with e2
                injection e2 with e2
                omega
              have KS := Lib.hid (fun W (hb : Below wr.heap.size wr W) => show W.cell? ⟨g, k, none⟩ = some (.slice (some ⟨b, o, none⟩) n (rg R' k).c) ∧ W.cell? ⟨g, i, none⟩ = some (.slice (rg R' i).A n (rg R' i).c) from ⟨cell_keep hck hb, cell_keep hci hb⟩)
              have HB_0 := Lib.hid (Below.drew (Below.refl wr.heap.size wr))
              clear hown hbel hrd hik2 hii2 hxk hxi hUi hRl htb hAk hRk
              go_wp2_with fail
              go_region_law (first | (go_simp; go_at_call 126; refine (HPL.out _ HB_0.out).mono ?_; rintro e w3 ⟨gp, cp, rfl, ho, hb⟩; have HPP := Lib.hid (HPUT.out _ _ gp cp HB_0.out ho hb); have HB_1 := Lib.hid (HB_0.out.trans (hb.mono HB_0.out.size)); have fz := HFZ.out _ HB_1.out; have hck3 := (KS.out _ HB_1.out).1; clear ho hb))
              all_goals
                go_wp2_with fail
                go_roundw
                case rel => exact ⟨k + 1, _, _, by omega, by omega, by go_num, Lib.hid (HN.out _ rfl), HPP.out, (HB'.out.trans (HB_1.out.mono hsz')).setCell (p := ⟨g, k, none⟩) hgl _⟩
                case measure => simp [intOf]; omega
          · obtain rfl : k = m := by omega
            have HN := Lib.hid (HIF.out _ _ _ HU.out rfl HNE.out)
            clear hown hbel
            go_wp2_with fail
            go_roundw
            case rel => exact ⟨i + 1, r + 1, U, R', by omega, by go_num, by go_num, HN, HO'.out, HB'.out⟩
            case measure => simp [intOf]; omega
    · obtain rfl : i = m := by omega
      have HE : Hid (rkS S = r) := Lib.hid (by
        have := HK.out.rk
        rw [List.drop_of_length_le (by rw [HK.out.len]; exact Nat.le_refl _), rkS_nil] at this; omega)
      clear hown hbel
      go_wp2_with fail
      go_ret
      exact ⟨by rw [HE.out]; rfl, HB.out⟩
end Go.Proofs.YtocllmhkppkfoaaDoor
