/- impl's vectors and masks: isBit, isVector, maskOf, digitsOf, vectorOf, masksOf, inDegree, vectorsOf · MapBasis: the program; both sides flattened for mkl3.py · FnExactMapBasis: the walk of the law (printed by mkl2.py) · arguments opened: slices of ints, rows of rows -/
import Derived.Test.YtdkmdmpaflgfaaaGreatDoorBxah
import Derived.Test.YtdkmdmpaflgfaaaGreatDoorBxan
import Derived.Test.YtdkmdmpaflgfaaaGreatDoorBxas
import Derived.Test.YtdkmdmpaflgfaaaGreatDoorBxab
import Derived.Deep.RegionHeld3
import Derived.Test.YtdkmdmpaflgfaaaGreatDoorBxaa
import Derived.ProofKit
import Derived.Lib.SmallJoins
import Derived.Deep.Matrix
set_option linter.all false
namespace Go.Proofs.YtdkmdmpaflgfaaaGreatDoor
open Go.RowKit

attribute [local go_sem] i64_or_nat in
set_option maxHeartbeats 1000000 in
theorem maskOf_any (V : Option Addr) (n cv v : Nat) (w : World) (hn : n ≤ 62) (hv : v < 2 ^ n) (hV : Rd w V (iv (bitsL v n))) :
    Calls Tryz.prog 192 #[.slice V n cv] w fun e w' => e = .returned (.int .i64 (v : Nat)) ∧ w = w' := by
  have HV := Lib.hid hV
  have HM := Lib.hid (mk_bits hv)
  have HLT := Lib.hid (fun j => mk_lt ((bitsL v n).take j))
  clear hV hv
  go_enter Tryz.func192, Tryz.ntmps192
  go_wp2_with fail
  go_loop [3, 8] (fun t i => ∃ k : Nat, k ≤ n ∧ i = .int .i64 k ∧ t = .int .i64 (mk ((bitsL v n).take k) : Nat)) (fun _ i => n - (intOf i).toNat)
  case atStart => exact ⟨0, by omega, rfl, rfl⟩
  case round =>
    obtain ⟨k, hk, rfl, rfl⟩ := hrel
    by_cases hlt : k < n
    · obtain ⟨b, o, rfl, hc⟩ := HV.out.atI (k := k) (by rw [bitsL_length]; exact hlt)
      rw [bitsL_getD _ hlt] at hc
      have hms := mk_take (v := bitsL v n) (k := k) (by rw [bitsL_length]; exact hlt)
      rw [bitsL_getD _ hlt] at hms
      have h1 : Sm (mk ((bitsL v n).take k)) := sm_pow (n := 62) (by omega) (Nat.lt_of_lt_of_le (HLT.out k) (Nat.pow_le_pow_right (by omega) (by rw [List.length_take]; omega)))
      have h2 : Sm (2 ^ k) := sm_pow (n := k + 1) (by omega) (pow_lt_pow (by omega))
      have he : ((2 ^ k : Nat) : Int) = (2 : Int) ^ k := by simp
      have hor := i64_or_nat h1 h2
      rw [he] at hor
      obtain ⟨p1, p2⟩ := pow62 (d := k) (by omega)
      generalize mk ((bitsL v n).take k) = p at *
      cases hb : tb v k
      · rw [bit_none hb] at hc hms
        have HE : Hid (mk ((bitsL v n).take (k + 1)) = p) := Lib.hid (by rw [hms, if_neg (by omega)]; unfold orr; simp)
        have hz := i64_or_zero h1
        clear hms he hor
        go_wp2_with fail
        go_round
        case rel => exact ⟨k + 1, by omega, by go_num, by rw [HE.out]⟩
        case measure => simp [intOf]; omega
      · rw [bit_one hb] at hc hms
        have HE : Hid (mk ((bitsL v n).take (k + 1)) = orr p (2 ^ k)) := Lib.hid (by rw [hms, if_pos rfl])
        clear hms he
        go_wp2_with fail
        go_round
        case rel => exact ⟨k + 1, by omega, by go_num, by rw [HE.out]⟩
        case measure => simp [intOf]; omega
    · have e : (bitsL v n).take k = bitsL v n := List.take_of_length_le (by rw [bitsL_length]; omega)
      rw [e, HM.out]
      clear e
      go_wp2_with fail
      go_ret
      exact ⟨rfl, rfl⟩

attribute [local go_sem] i64_bit_int in
set_option maxHeartbeats 1000000 in
theorem digitsOf_any (n v : Nat) (w : World) (hn : n ≤ 62) (hv : Sm v) :
    Calls Tryz.prog 116 #[.int .i64 v, .int .i64 n] w fun e w' => ∃ g cap, e = .returned (.slice (some ⟨g, 0, none⟩) n cap) ∧ w'.ownsRow w.heap.size 2 1 (.slice (some ⟨g, 0, none⟩) n cap) n (iv (bitsL v n)) ∧ Below w.heap.size w w' := by
  go_enter Tryz.func116, Tryz.ntmps116
  go_wp2_with fail
  go_loopw [5, 9] (fun vv i wr => ∃ k g cap : Nat, k ≤ n ∧ i = .int .i64 k ∧ vv = .slice (some ⟨g, 0, none⟩) k cap ∧ wr.ownsRow w.heap.size 2 1 (.slice (some ⟨g, 0, none⟩) k cap) k (iv ((bitsL v n).take k)) ∧ Below w.heap.size w wr) (fun _ i _ => n - (intOf i).toNat)
  case atStart => exact ⟨0, w.heap.size, 0, by omega, rfl, rfl, World.ownsRow_made w #[] 0 (Nat.le_refl _) (by decide) (by simp), (Below.refl _ _).alloc (Nat.le_refl _) _⟩
  case round =>
    obtain ⟨k, g, cap, hk, rfl, rfl, hown, hbel⟩ := hrel
    have HO := Lib.hid hown
    have HB := Lib.hid hbel
    have hsz := hbel.size
    by_cases hlt : k < n
    · have HTS : Hid ((bitsL v n).take (k + 1) = (bitsL v n).take k ++ [bit v k]) := Lib.hid (bitsL_take _ hlt)
      have hmin : min k 64 = k := by omega
      clear hown hbel
      go_wp2_with (at_builtin; refine wpList_app1 _ _ _ _ _ etI (by rfl) (by rfl) w.heap.size (.slice (some ⟨g, 0, none⟩) k cap) k (iv ((bitsL v n).take k)) (by rfl) (HO.out.alloc _) _ (.int .i64 (bit v k)) (by rfl) (new_cell _ _ _) (by rfl) (by omega) (Nat.le_trans hsz (Nat.le_of_lt (by simp))) ?_; (intro g1 cap1 w1 hown1 hgrow1 hat1 hlt1; have HO1 := Lib.hid hown1; have HB1 := Lib.hid (below_app2 HB.out hsz HO.out hgrow1); clear hown1 hgrow1 hat1 hlt1))
      go_roundw
      case rel => exact ⟨k + 1, g1, cap1, by omega, by go_num, rfl, by rw [HTS.out, iv_append]; exact HO1.out, HB1.out⟩
      case measure => simp [intOf]; omega
    · obtain rfl : k = n := by omega
      have he : (bitsL v k).take k = bitsL v k := List.take_of_length_le (by rw [bitsL_length]; exact Nat.le_refl _)
      rw [he] at HO
      clear hown hbel he
      go_wp2_with fail
      go_ret
      exact ⟨g, cap, rfl, HO.out, HB.out⟩
theorem vectorOf_any (A A' : Option Addr) (n c m c' v : Nat) (w : World) (hn : n ≤ 62) (hv : Sm v) :
    Calls Tryz.prog 85 #[.agg #[.slice A n c, .slice A' m c'], .int .i64 v] w fun e w' => ∃ g cap, e = .returned (.slice (some ⟨g, 0, none⟩) n cap) ∧ w'.ownsRow w.heap.size 2 1 (.slice (some ⟨g, 0, none⟩) n cap) n (iv (bitsL v n)) ∧ Below w.heap.size w w' := by
  obtain ⟨x0, x1, xf0, xf1, lx⟩ := blk2cells (blk_new w (.cells #[.slice A n c, .slice A' m c'] 30))
  have HB0 : Hid (Below w.heap.size w (w.alloc (.cells #[.slice A n c, .slice A' m c'] 30))) := Lib.hid ((Below.refl _ _).alloc (Nat.le_refl _) _)
  have HD := Lib.hid (digitsOf_any n v (w.alloc (.cells #[.slice A n c, .slice A' m c'] 30)) hn hv)
  go_enter Tryz.func85, Tryz.ntmps85
  go_wp2_with fail
  refine HD.out.mono ?_
  rintro e w1 ⟨g, cap, rfl, ho, hb⟩
  have HO := Lib.hid (ho.mono HB0.out.size)
  have HB1 := Lib.hid (HB0.out.trans (hb.mono HB0.out.size))
  clear ho hb
  go_wp2_with fail
  go_ret
  exact ⟨g, cap, rfl, HO.out, HB1.out⟩

/-- masks of rows that are all vectors, and whether they are -/
def MasksP (n : Nat) (P : List Row) (w : World) (e : Ending) (w' : World) : Prop :=
  (((P.all fun r => vecB n r.xs) = true ∧ ∃ g cap, e = .returned (.tuple #[.slice (some ⟨g, 0, none⟩) P.length cap, .bool true]) ∧ w'.ownsRow w.heap.size 2 1 (.slice (some ⟨g, 0, none⟩) P.length cap) P.length (nv ((dat P).map mk))) ∨
   ((P.all fun r => vecB n r.xs) = false ∧ e = .returned (.tuple #[.slice none 0 0, .bool false]))) ∧ Below w.heap.size w w'
theorem all_rg {P : List Row} {f : Row → Bool} (h : ∀ i, i < P.length → f (rg P i) = true) : P.all f = true := by
  rw [List.all_eq_true]
  intro r hr
  obtain ⟨i, hi, rfl⟩ := List.getElem_of_mem hr
  rw [← rg_of hi]; exact h i hi
theorem all_rg_no {P : List Row} {f : Row → Bool} {i : Nat} (hi : i < P.length) (h : f (rg P i) = false) : P.all f = false := by
  rw [List.all_eq_false]
  exact ⟨_, rg_mem hi, by rw [h]; simp⟩

set_option maxHeartbeats 2000000 in
theorem vectorsOf_any (A A' B : Option Addr) (n c m c' k cb : Nat) (S : List Nat) (w : World) (hk : k = S.length) (hsm : k ≤ 1048576) (hn : n ≤ 62) (hS : ∀ r ∈ S, Sm r) (hR : Rd w B (nv S)) :
    Calls Tryz.prog 50 #[.agg #[.slice A n c, .slice A' m c'], .slice B k cb] w fun e w' => ∃ A1 c1 R, e = .returned (.slice A1 k c1) ∧ R.length = k ∧ dat R = S.map (fun v => bitsL v n) ∧ OwnR w' w.heap.size (.slice A1 k c1) R ∧ Below w.heap.size w w' := by
  have hk0 := blk_new w (.cells #[.slice A n c, .slice A' m c'] 30)
  have HK0 := Lib.hid hk0
  have HB0 : Hid (Below w.heap.size w (w.alloc (.cells #[.slice A n c, .slice A' m c'] 30))) := Lib.hid ((Below.refl _ _).alloc (Nat.le_refl _) _)
  have HR := Lib.hid hR
  have Hk := Lib.hid hk
  have HS := Lib.hid hS
  clear hR hk hS hk0
  obtain ⟨x0, x1, xf0, xf1, lx⟩ := blk2cells HK0.out
  go_enter Tryz.func50, Tryz.ntmps50
  go_wp2_with fail
  clear x0 x1 xf0 xf1 lx
  go_loopw [5, 11] (fun vv i wr => ∃ R : List Row, ∃ A1 c1, R.length ≤ k ∧ i = .int .i64 (R.length : Nat) ∧ vv = .slice A1 R.length c1 ∧ Hid (dat R = (S.take R.length).map (fun v => bitsL v n)) ∧ OwnR wr w.heap.size (.slice A1 R.length c1) R ∧ wr.heap[w.heap.size]? = some (.cells #[.slice A n c, .slice A' m c'] 30 (0, 0)) ∧ Below w.heap.size w wr) (fun _ i _ => k - (intOf i).toNat)
  case atStart => exact ⟨[], some ⟨w.heap.size + 1, 0, none⟩, 0, by simp, rfl, rfl, Lib.hid rfl, by simpa using (OwnR.made (w.alloc (.cells #[.slice A n c, .slice A' m c'] 30)) (B := w.heap.size) (by simp)), blk_alloc HK0.out _, HB0.out.alloc HB0.out.size _⟩
  case round =>
    obtain ⟨R, A1, c1, hj, rfl, rfl, HD, hown, hblk, hbel⟩ := hrel
    have HO := Lib.hid hown
    have HB := Lib.hid hbel
    have HK := Lib.hid hblk
    have hsz := hbel.size
    have hq : R.length < 1099511627776 := by omega
    by_cases hlt : R.length < k
    · have hjS : R.length < S.length := by rw [← Hk.out]; exact hlt
      obtain ⟨b, o, rfl, hc⟩ := (HR.out.below hbel).atN hjS
      have hs : Sm (S.getD R.length 0) := HS.out _ (by simp [List.getD, hjS])
      have HTS : Hid ((S.take (R.length + 1)).map (fun v => bitsL v n) = (S.take R.length).map (fun v => bitsL v n) ++ [bitsL (S.getD R.length 0) n]) := Lib.hid (by
        rw [List.take_succ_eq_append_getElem hjS, List.map_append]; simp [List.getD, hjS])
      generalize S.getD R.length 0 = q at *
      have HC := Lib.hid (vectorOf_any A A' n c m c' q wr hn hs)
      obtain ⟨x0, x1, xf0, xf1, lx⟩ := blk2cells hblk
      clear hown hbel hs hjS hblk
      go_wp2_with fail
      refine HC.out.mono ?_
      rintro e w1 ⟨g, cap, rfl, ho, hb⟩
      have HO1 := Lib.hid ho
      have HB1 := Lib.hid hb
      have HK1 := Lib.hid (blk_kept HK.out hb)
      clear ho hb x0 x1 xf0 xf1 lx
      go_wp2_with (at_builtin; refine wpList_app1 _ _ _ _ _ etS (by rfl) (by rfl) w.heap.size (.slice A1 R.length c1) R.length (hv R) (by rfl) ((HO.out.later HB1.out).out.alloc _) _ (.slice (some ⟨g, 0, none⟩) n cap) (by rfl) (new_cell _ _ _) (by rfl) hq (Nat.le_trans (Nat.le_trans hsz HB1.out.size) (Nat.le_of_lt (by simp))) ?_; (intro g2 c2 w3 hown3 hg3 hat3 hlt3; have HN := Lib.hid (OwnR.push HO.out HB1.out HO1.out (bitsL_length _ _).symm hsz hown3 hg3); have HB3 := Lib.hid (below_app2 (HB.out.trans (HB1.out.mono hsz)) (Nat.le_trans hsz HB1.out.size) (HO.out.later HB1.out).out hg3); have HK3 := Lib.hid (blk_grown (blk_alloc HK1.out _) hg3 (own_ne_blk (HO.out.later HB1.out).out HK1.out (by decide))); clear hown3 hg3 hat3 hlt3))
      go_roundw
      case rel =>
        refine ⟨R ++ [⟨some ⟨g, 0, none⟩, cap, bitsL q n⟩], some ⟨g2, 0, none⟩, c2, by simp; omega, by simp, by simp, Lib.hid ?_, by simpa using HN.out, HK3.out, HB3.out⟩
        rw [dat_append1, HD.out, List.length_append, List.length_singleton, HTS.out]
      case measure => simp [intOf]; omega
    · obtain rfl : k = R.length := by omega
      have he : S.take R.length = S := List.take_of_length_le (by rw [← Hk.out]; exact Nat.le_refl _)
      rw [he] at HD
      clear hown hbel he hblk
      go_wp2_with fail
      go_ret
      exact ⟨A1, c1, R, rfl, rfl, HD.out, HO.out, HB.out⟩
end Go.Proofs.YtdkmdmpaflgfaaaGreatDoor

namespace Go.Proofs.YtdkmdmpaflgfaaaGreatDoor
open Go.RowKit

set_option maxRecDepth 100000 in
set_option maxHeartbeats 8000000 in
theorem implMapBasis' (A A' B B' : Option Addr) (n c m c' p d q d' : Nat) (xs ys : List Int) (L M : List Row) (w : World) (hT : Tab w) (hw : 0 < w.heap.size) (hM : ModIn w A n A' m xs L) (hN : ModIn w B p B' q ys M) :
    Calls Tryz.prog 14 #[.agg #[.slice A n c, .slice A' m c'], .agg #[.slice B p d, .slice B' q d']] w (ResC (mapBasisOf xs L ys M) w) := by
  obtain ⟨hb0, hk1, hk2⟩ := box_two w A A' B B' n c m c' p d q d'
  have HB0 := Lib.hid hb0
  have HK1 := Lib.hid hk1
  have HK2 := Lib.hid hk2
  have HMP := Lib.hid (mapsOf_any A A' B B' n c m c' p d q d' xs ys L M _ (hT.below hb0 hw) (Nat.lt_of_lt_of_le hw hb0.size) (hM.below hb0) (hN.below hb0))
  have Hn := Lib.hid hM.r.hn
  have Hp := Lib.hid hN.r.hn
  obtain ⟨x0, x1, xf0, xf1, lx⟩ := blk2cells hk1
  obtain ⟨y0, y1, yf0, yf1, ly⟩ := blk2cells hk2
  clear hb0 hk1 hk2 hM hN hT
  go_enter Tryz.func14, Tryz.ntmps14
  go_wp2_with fail
  refine HMP.out.mono ?_
  rintro e w0 ⟨ho, hb⟩
  have HB0' := Lib.hid (HB0.out.trans (hb.mono HB0.out.size))
  have HK1' := Lib.hid (blk_kept HK1.out hb)
  have HK2' := Lib.hid (blk_kept HK2.out hb)
  clear hb x0 x1 xf0 xf1 lx y0 y1 yf0 yf1 ly
  rcases ho with ⟨hno, rfl⟩ | ⟨hy, h60, rfl⟩ | ⟨hy, h60, A1, c1, N, A2, c2, rfl, hd, hon, hob⟩
  · have HF : Hid (mapBasisOf xs L ys M = ([], 1)) := Lib.hid (mapBasisOf_1 hno)
    clear hno
    go_wp2_with fail
    go_ret2
    exact ⟨.slice none 0 0, [], fun _ => 0, fun _ => 0, by rw [HF.out]; rfl, by rw [HF.out]; rfl, OwnC.none _ _ _ _ _, HB0'.out.alloc HB0'.out.size _⟩
  · have HF : Hid (mapBasisOf xs L ys M = ([], 3)) := Lib.hid (mapBasisOf_2 hy h60)
    clear hy h60
    go_wp2_with fail
    go_ret2
    exact ⟨.slice none 0 0, [], fun _ => 0, fun _ => 0, by rw [HF.out]; rfl, by rw [HF.out]; rfl, OwnC.none _ _ _ _ _, HB0'.out.alloc HB0'.out.size _⟩
  have hn16 : n ≤ 16 := by rw [Hn.out]; exact (modB_iff.1 hy.1).shp.len
  have hp16 : p ≤ 16 := by rw [Hp.out]; exact (modB_iff.1 hy.2).shp.len
  have hbz : Below w0.heap.size w0 (w0.alloc (.cells #[.slice A1 N.length c1, .slice A2 (mapsL xs (dat L) ys (dat M)).length c2] 65)) := (Below.refl _ _).alloc (Nat.le_refl _) _
  have HB1 := Lib.hid (HB0'.out.trans (hbz.mono HB0'.out.size))
  have HK1a := Lib.hid (blk_kept HK1'.out hbz)
  have HK2a := Lib.hid (blk_kept HK2'.out hbz)
  have HK3a := Lib.hid (blk_new w0 (.cells #[.slice A1 N.length c1, .slice A2 (mapsL xs (dat L) ys (dat M)).length c2] 65))
  have HV := Lib.hid (((hon.later hbz).rd rfl))
  have HR := Lib.hid ((owns_Rd hob).below hbz)
  have HD := Lib.hid hd
  have hKl := mapsL_lt (Q := dat L) (R := dat M) h60
  have HKS : Hid (∀ r ∈ mapsL xs (dat L) ys (dat M), Sm r) := Lib.hid (fun r hr => sm_of_lt (a := (unk xs ys).length) (by omega) (hKl r hr))
  have HUN := Lib.hid h60
  have HNL : Hid (N.length = (unk xs ys).length) := Lib.hid (by have := congrArg List.length hd; rwa [dat_length, List.length_map] at this)
  have HIN : Hid (∀ u, u < (unk xs ys).length → ((unk xs ys).getD u (0, 0)).1 < n ∧ ((unk xs ys).getD u (0, 0)).2 < p) := Lib.hid (fun u hu => by rw [Hn.out, Hp.out]; exact unk_in u hu)
  have HF0 := Lib.hid (mapBasisOf_0 hy h60)
  have hK60 : (mapsL xs (dat L) ys (dat M)).length ≤ 60 := mapsL_len h60
  generalize mapBasisOf xs L ys M = rr at *
  generalize mapsL xs (dat L) ys (dat M) = K at *
  generalize unk xs ys = P at *
  rw [← Hn.out, ← Hp.out] at HF0
  clear hy h60 hd hon hob hKl hbz
  go_wp2_with fail
  have HZ1 : Hid ((w0.alloc (.cells #[.slice A1 N.length c1, .slice A2 K.length c2] 65)).heap.size = w0.heap.size + 1) := Lib.hid (by simp)
  generalize w0.alloc (.cells #[.slice A1 N.length c1, .slice A2 K.length c2] 65) = w1 at *
  generalize w0.heap.size = b0 at *
  go_loopw [8, 24] (fun s9 s10 wr => ∃ X : List Cub, ∃ A9 c9 lo hi, X.length ≤ K.length ∧ s10 = .int .i64 (X.length : Nat) ∧ s9 = .slice A9 X.length c9 ∧ Hid (cdat X = (K.take X.length).map (fun x => (imgs P n x).map (fun v => bitsL v p))) ∧ OwnC wr w1.heap.size wr.heap.size (.slice A9 X.length c9) X lo hi ∧ Below w1.heap.size w1 wr) (fun _ s _ => K.length - (intOf s).toNat)
  case atStart => exact ⟨[], _, _, fun _ => 0, fun _ => 0, by simp, rfl, rfl, Lib.hid rfl, (by rw [show (some (⟨b0 + 1, 0, none⟩ : Addr)) = some ⟨w1.heap.size, 0, none⟩ from by rw [HZ1.out]]; exact OwnC.made w1 (Nat.le_refl _) _ _), (Below.refl _ _).alloc (Nat.le_refl _) _⟩
  case round =>
    obtain ⟨X, A9, c9, lo, hi, hX, rfl, rfl, HCD, hown, hbel⟩ := hrel
    have HO := Lib.hid hown
    have HBL := Lib.hid hbel
    have hs1 := hbel.size
    by_cases hxK : X.length < K.length
    · have hxi : (X.length : Int) < (K.length : Int) := by omega
      obtain ⟨b, o, rfl, hc⟩ := HR.out.atN hxK
      have hs : Sm (K.getD X.length 0) := HKS.out _ (by simp [List.getD, hxK])
      have HTS : Hid ((K.take (X.length + 1)).map (fun x => (imgs P n x).map (fun v => bitsL v p)) = (K.take X.length).map (fun x => (imgs P n x).map (fun v => bitsL v p)) ++ [(imgs P n (K.getD X.length 0)).map (fun v => bitsL v p)]) := Lib.hid (by
        rw [List.take_succ_eq_append_getElem hxK, List.map_append]; simp [List.getD, hxK])
      generalize K.getD X.length 0 = z at *
      have HTO := Lib.hid (fun (W : World) (hb : Below wr.heap.size wr W) => images_any A1 (some ⟨b, o, none⟩) A A' c1 K.length c2 n c m c' p N P z W hn16 hp16 HD.out (by rw [HNL.out]; exact HUN.out) HIN.out hs (HV.out.below (hbel.trans (hb.mono hbel.size))))
      have HIL : Hid (∀ r ∈ imgs P n z, r < 2 ^ p) := Lib.hid (imgs_lt (fun u hu => (HIN.out u hu).2))
      have HGN : Hid (n = (imgs P n z).length) := Lib.hid (imgs_len P n _).symm
      generalize hG : imgs P n z = G at *
      have HGS : Hid (∀ r ∈ G, Sm r) := Lib.hid (fun r hr => sm_of_lt (a := p) (by omega) (HIL.out r hr))
      have HTS' := Lib.hid HTS.out
      clear hG
      have KS := Lib.hid (fun w' (hb : Below w1.heap.size w1 w') => show w'.cell? ⟨w.heap.size, 0, none⟩ = some (.slice A n c) ∧ w'.cell? ⟨w.heap.size, 1, none⟩ = some (.slice A' m c') ∧ w'.cell? ⟨w.heap.size + 1, 0, none⟩ = some (.slice B p d) ∧ w'.cell? ⟨w.heap.size + 1, 1, none⟩ = some (.slice B' q d') ∧ w'.cell? ⟨b0, 0, none⟩ = some (.slice A1 N.length c1) ∧ w'.cell? ⟨b0, 1, none⟩ = some (.slice (some ⟨b, o, none⟩) K.length c2) from by
        obtain ⟨x0, x1, _⟩ := blk2cells (blk_kept HK1a.out hb)
        obtain ⟨y0, y1, _⟩ := blk2cells (blk_kept HK2a.out hb)
        obtain ⟨z0, z1, _⟩ := blk2cells (blk_kept HK3a.out hb)
        exact ⟨x0, x1, y0, y1, z0, z1⟩)
      have HB_0 := Lib.hid (Below.drew (Below.refl wr.heap.size wr))
      have HX_0 := Lib.hid (Below.drew hbel)
      obtain ⟨z0, z1, zf0, zf1, lz⟩ := blk2cells (blk_kept HK3a.out hbel)
      have hc' := cell_keep hc hbel
      clear hbel hown hc hs
      go_wp2_with fail
      clear z0 z1 zf0 zf1 lz hc'
      go_region_held3 (fun w' => w'.cell? ⟨w.heap.size, 0, none⟩ = some (.slice A n c) ∧ w'.cell? ⟨w.heap.size, 1, none⟩ = some (.slice A' m c') ∧ w'.cell? ⟨w.heap.size + 1, 0, none⟩ = some (.slice B p d) ∧ w'.cell? ⟨w.heap.size + 1, 1, none⟩ = some (.slice B' q d') ∧ w'.cell? ⟨b0, 0, none⟩ = some (.slice A1 N.length c1) ∧ w'.cell? ⟨b0, 1, none⟩ = some (.slice (some ⟨b, o, none⟩) K.length c2))
        (first | exact KS.out _ HX_0.out | exact KS.out _ HX_a.out | exact KS.out _ HX_1.out | exact KS.out _ (HX_1.out.alloc (Nat.le_trans hs1 HB_1.out.size) _) | exact KS.out _ HX_2.out)
        (first
          | (go_at_call 51; (with_reducible refine (HTO.out _ HB_0.out).mono ?_); (rintro e w4 ⟨v4, rfl, ho, hb⟩; obtain ⟨A4, c4, rfl, _⟩ := owns_shape ho; have HO4 := Lib.hid (owns_Rd ho); have HB_a := Lib.hid (HB_0.out.trans (hb.mono HB_0.out.size)); have HX_a := Lib.hid (HBL.out.trans (HB_a.out.mono hs1)); clear ho hb))
          | (go_at_call 50; (with_reducible refine (vectorsOf_any B B' A4 p d q d' n c4 G _ HGN.out (by omega) (by omega) HGS.out HO4.out).mono ?_); (rintro e w5 ⟨A5, c5, R5, rfl, hRl, hRd, ho, hb⟩; have HR1 := Lib.hid hRl; have HR2 := Lib.hid hRd; have HO5 := Lib.hid (ho.mono (B' := wr.heap.size) HB_a.out.size); have HB_1 := Lib.hid (HB_a.out.trans (hb.mono HB_a.out.size)); have HX_1 := Lib.hid (HBL.out.trans (HB_1.out.mono hs1)); clear hRl hRd ho hb))
          | (refine step_app1 _ _ _ _ _ etC (by rfl) (by rfl) w1.heap.size (.slice A9 X.length c9) X.length (cvs X) (by rfl) ?_ _ (.slice A5 n c5) (by rfl) ?_ (by rfl) ?_ ?_ ?_; exact ((HO.out.later HB_1.out (Nat.le_refl _)).out.alloc _); exact (new_cell _ _ _); omega; (have := HB_1.out.size; simp; omega); (intro g6 c6 w6 hown6 hg6 hat6 hlt6; have HN := Lib.hid (OwnC.push (x := ⟨A5, c5, R5⟩) HO.out (Nat.le_refl _) hs1 HB_1.out (by have h := HO5.out; rw [show Cub.val ⟨A5, c5, R5⟩ = .slice A5 n c5 from by rw [← HR1.out]; rfl]; exact h) (by rw [show Cub.val ⟨A5, c5, R5⟩ = .slice A5 n c5 from by rw [← HR1.out]; rfl]; exact hown6) hg6 hat6 hlt6); have HX_2 := Lib.hid (below_app2 HX_1.out (Nat.le_trans hs1 HB_1.out.size) (HO.out.later HB_1.out (Nat.le_refl _)).out hg6); clear hown6 hg6 hat6 hlt6)))
      go_wp2_with fail
      go_roundw
      case rel =>
        refine ⟨X ++ [⟨A5, c5, R5⟩], some ⟨g6, 0, none⟩, c6, _, _, by simp; omega, by simp, by simp, Lib.hid ?_, by simpa using HN.out, HX_2.out⟩
        rw [cdat_append1, HCD.out, List.length_append, List.length_singleton, HTS.out, HR2.out]
      case measure => simp [intOf]; omega
    · obtain he : X.length = K.length := by omega
      have hxi : ¬ (X.length : Int) < (K.length : Int) := by omega
      have HE : Hid (cdat X = K.map (fun x => (imgs P n x).map (fun v => bitsL v p))) := Lib.hid (by rw [HCD.out, he, List.take_length])
      clear hbel hown he
      go_wp2_with fail
      go_ret2
      exact ⟨_, X, lo, hi, by rw [HF0.out]; rfl, by rw [HF0.out, HE.out], HO.out.mono' HB1.out.size (Nat.le_refl _), HB1.out.trans (HBL.out.mono HB1.out.size)⟩
theorem implMapBasis_any (A0 : Option Addr) (n0 c0 : Nat) (xs0 : List Int) (B0 : Option Addr) (m0 d0 : Nat) (L0 : List Row) (A1 : Option Addr) (n1 c1 : Nat) (xs1 : List Int) (B1 : Option Addr) (m1 d1 : Nat) (L1 : List Row) (w : World) (hT : Tab w) (hw : 0 < w.heap.size) (hn0 : n0 = xs0.length) (hs0 : n0 ≤ 1048576) (hR0 : Rd w A0 (iv xs0)) (hm0 : m0 = L0.length) (ht0 : m0 ≤ 1048576) (hl0 : ∀ i, i < L0.length → (rg L0 i).xs.length ≤ 1048576) (hQ0 : RdR w B0 L0) (hn1 : n1 = xs1.length) (hs1 : n1 ≤ 1048576) (hR1 : Rd w A1 (iv xs1)) (hm1 : m1 = L1.length) (ht1 : m1 ≤ 1048576) (hl1 : ∀ i, i < L1.length → (rg L1 i).xs.length ≤ 1048576) (hQ1 : RdR w B1 L1) :
    Calls Tryz.prog 14 #[.agg #[.slice A0 n0 c0, .slice B0 m0 d0], .agg #[.slice A1 n1 c1, .slice B1 m1 d1]] w (ResC (mapBasisOf xs0 L0 xs1 L1) w) :=
  implMapBasis' A0 B0 A1 B1 n0 c0 m0 d0 n1 c1 m1 d1 xs0 xs1 L0 L1 w hT hw ⟨⟨hn0, hR0, hm0, ht0, hQ0⟩, hs0, hl0⟩ ⟨⟨hn1, hR1, hm1, ht1, hQ1⟩, hs1, hl1⟩
end Go.Proofs.YtdkmdmpaflgfaaaGreatDoor

namespace Go.Proofs.YtdkmdmpaflgfaaaGreatDoor
open Go.RowKit

set_option maxRecDepth 100000 in
set_option maxHeartbeats 8000000 in
theorem lawMapBasis_any (A0 : Option Addr) (n0 c0 : Nat) (xs0 : List Int) (B0 : Option Addr) (m0 d0 : Nat) (L0 : List Row) (A1 : Option Addr) (n1 c1 : Nat) (xs1 : List Int) (B1 : Option Addr) (m1 d1 : Nat) (L1 : List Row) (w : World) (hT : Tab w) (hw : 0 < w.heap.size) (hn0 : n0 = xs0.length) (hs0 : n0 ≤ 9223372036854775807) (hR0 : Rd w A0 (iv xs0)) (hm0 : m0 = L0.length) (ht0 : m0 ≤ 9223372036854775807) (hl0 : ∀ i, i < L0.length → (rg L0 i).xs.length ≤ 9223372036854775807) (hQ0 : RdR w B0 L0) (hn1 : n1 = xs1.length) (hs1 : n1 ≤ 9223372036854775807) (hR1 : Rd w A1 (iv xs1)) (hm1 : m1 = L1.length) (ht1 : m1 ≤ 9223372036854775807) (hl1 : ∀ i, i < L1.length → (rg L1 i).xs.length ≤ 9223372036854775807) (hQ1 : RdR w B1 L1) :
    Calls Tryz.prog 3 #[.agg #[.slice A0 n0 c0, .slice B0 m0 d0], .agg #[.slice A1 n1 c1, .slice B1 m1 d1]] w fun e w' => e = .returned (.bool true) ∧ Below w.heap.size w w' := by
  have hI := ((Inw.start w).allocBox #[.slice A0 n0 c0, .slice B0 m0 d0] 25).allocBox #[.slice A1 n1 c1, .slice B1 m1 d1] 25
  simp only [World.size_alloc] at hI
  have I0 := Lib.hid hI
  clear hI
  have HT := Lib.hid hT
  clear hT
  have Hn0 := Lib.hid hn0
  have HR0 := Lib.hid hR0
  have Hm0 := Lib.hid hm0
  have HL0 := Lib.hid hl0
  have HQ0 := Lib.hid hQ0
  clear hn0 hR0 hm0 hl0 hQ0
  have Hn1 := Lib.hid hn1
  have HR1 := Lib.hid hR1
  have Hm1 := Lib.hid hm1
  have HL1 := Lib.hid hl1
  have HQ1 := Lib.hid hQ1
  clear hn1 hR1 hm1 hl1 hQ1
  go_enter Tryz.func3, Tryz.ntmps3
  go_wp2_with fail
  refine (szModule_any A0 B0 n0 c0 m0 d0 L0 (1048576) _ hs0 Hm0.out ht0 HL0.out (by omega) (by omega) (HQ0.out.below I0.out.bel)).mono ?_
  rintro e w1 ⟨z0, rfl, hz, hb⟩
  have I1 := Lib.hid (I0.out.step hb)
  clear hb
  obtain ⟨u_a0_1, v_a0_1, x_a0_1, y_a0_1, z_a0_1⟩ := blk2cells (I1.out.box 1 rfl)
  obtain ⟨u_a1_1, v_a1_1, x_a1_1, y_a1_1, z_a1_1⟩ := blk2cells (I1.out.box 0 rfl)
  rcases hz with rfl | ⟨hz0, hy0⟩
  · go_wp2_with fail
    go_ret
    exact ⟨rfl, I1.out.bel⟩
  have hi0 : ¬ z0 < 0 := by omega
  have hk0 : tot L0 ≤ 1048576 := by omega
  have HLL0 := Lib.hid (fun i (hi : i < L0.length) => Nat.le_trans (len_le_tot hi) hk0)
  go_wp2_with fail
  refine (szModule_any A1 B1 n1 c1 m1 d1 L1 (z0) _ hs1 Hm1.out ht1 HL1.out (by omega) (by omega) (HQ1.out.below I1.out.bel)).mono ?_
  rintro e w2 ⟨z1, rfl, hz, hb⟩
  have I2 := Lib.hid (I1.out.step hb)
  clear hb
  clear u_a0_1 v_a0_1 x_a0_1 y_a0_1 z_a0_1 u_a1_1 v_a1_1 x_a1_1 y_a1_1 z_a1_1
  obtain ⟨u_a0_2, v_a0_2, x_a0_2, y_a0_2, z_a0_2⟩ := blk2cells (I2.out.box 1 rfl)
  obtain ⟨u_a1_2, v_a1_2, x_a1_2, y_a1_2, z_a1_2⟩ := blk2cells (I2.out.box 0 rfl)
  rcases hz with rfl | ⟨hz1, hy1⟩
  · go_wp2_with fail
    go_ret
    exact ⟨rfl, I2.out.bel⟩
  have hi1 : ¬ z1 < 0 := by omega
  have hk1 : tot L1 ≤ 1048576 := by omega
  have HLL1 := Lib.hid (fun i (hi : i < L1.length) => Nat.le_trans (len_le_tot hi) hk1)
  have HTO0 := Lib.hid (fun W (hb : Below w.heap.size w W) => toModule_any A0 B0 n0 c0 m0 d0 xs0 L0 W Hn0.out (by omega) (HR0.out.below hb) Hm0.out (by omega) HLL0.out (HQ0.out.below hb))
  have HTO1 := Lib.hid (fun W (hb : Below w.heap.size w W) => toModule_any A1 B1 n1 c1 m1 d1 xs1 L1 W Hn1.out (by omega) (HR1.out.below hb) Hm1.out (by omega) HLL1.out (HQ1.out.below hb))
  obtain ⟨rr, hrr⟩ : ∃ rr, mapBasisOf xs0 L0 xs1 L1 = rr := ⟨_, rfl⟩
  have hlen := mapBasisOf_len xs0 L0 xs1 L1
  rw [hrr] at hlen
  have HLEN : Hid (CLen rr) := Lib.hid hlen
  clear hlen
  have HDD := Lib.hid (fun (M0 : List Row) (e0 : dat M0 = dat L0) (M1 : List Row) (e1 : dat M1 = dat L1) => (mapBasisOf_dat e0 e1).trans hrr)
  clear hrr
  have hnb0 : n0 ≤ 1048576 := by omega
  have hmb0 : m0 ≤ 1048576 := by omega
  have hnb1 : n1 ≤ 1048576 := by omega
  have hmb1 : m1 ≤ 1048576 := by omega
  have HSP := Lib.hid (fun (W : World) (C0 : Option Addr) (r0 : Rd W C0 (iv xs0)) (E0 : Option Addr) (M0 : List Row) (e0 : dat M0 = dat L0) (q0 : RdR W E0 M0) (C1 : Option Addr) (r1 : Rd W C1 (iv xs1)) (E1 : Option Addr) (M1 : List Row) (e1 : dat M1 = dat L1) (q1 : RdR W E1 M1) => show Calls Tryz.prog 12 #[.agg #[.slice C0 n0 n0, .slice E0 m0 m0], .agg #[.slice C1 n1 n1, .slice E1 m1 m1]] W (ResC rr W) from by
    have h : Calls Tryz.prog 12 #[.agg #[.slice C0 n0 n0, .slice E0 m0 m0], .agg #[.slice C1 n1 n1, .slice E1 m1 m1]] W (ResC (mapBasisOf xs0 M0 xs1 M1) W) := specMapBasis_any C0 n0 n0 xs0 E0 m0 m0 M0 C1 n1 n1 xs1 E1 m1 m1 M1 W Hn0.out (by omega) r0 (by rw [Hm0.out, (dat_xs e0).1]) (by omega) (by intro i hi; rw [(dat_xs e0).2 i]; exact HLL0.out i (by rw [← (dat_xs e0).1]; exact hi)) q0 Hn1.out (by omega) r1 (by rw [Hm1.out, (dat_xs e1).1]) (by omega) (by intro i hi; rw [(dat_xs e1).2 i]; exact HLL1.out i (by rw [← (dat_xs e1).1]; exact hi)) q1
    rw [HDD.out M0 e0 M1 e1] at h
    exact h)
  have HIM := Lib.hid (fun (W : World) (tb : Tab W) (tw : 0 < W.heap.size) (C0 : Option Addr) (r0 : Rd W C0 (iv xs0)) (E0 : Option Addr) (M0 : List Row) (e0 : dat M0 = dat L0) (q0 : RdR W E0 M0) (C1 : Option Addr) (r1 : Rd W C1 (iv xs1)) (E1 : Option Addr) (M1 : List Row) (e1 : dat M1 = dat L1) (q1 : RdR W E1 M1) => show Calls Tryz.prog 14 #[.agg #[.slice C0 n0 n0, .slice E0 m0 m0], .agg #[.slice C1 n1 n1, .slice E1 m1 m1]] W (ResC rr W) from by
    have h : Calls Tryz.prog 14 #[.agg #[.slice C0 n0 n0, .slice E0 m0 m0], .agg #[.slice C1 n1 n1, .slice E1 m1 m1]] W (ResC (mapBasisOf xs0 M0 xs1 M1) W) := implMapBasis_any C0 n0 n0 xs0 E0 m0 m0 M0 C1 n1 n1 xs1 E1 m1 m1 M1 W tb tw Hn0.out (by omega) r0 (by rw [Hm0.out, (dat_xs e0).1]) (by omega) (by intro i hi; rw [(dat_xs e0).2 i]; exact HLL0.out i (by rw [← (dat_xs e0).1]; exact hi)) q0 Hn1.out (by omega) r1 (by rw [Hm1.out, (dat_xs e1).1]) (by omega) (by intro i hi; rw [(dat_xs e1).2 i]; exact HLL1.out i (by rw [← (dat_xs e1).1]; exact hi)) q1
    rw [HDD.out M0 e0 M1 e1] at h
    exact h)
  go_wp2_with fail
  clear hz0 hy0 hi0 hs0 ht0 hz1 hy1 hi1 hs1 ht1
  have KS2 := Lib.hid (fun w' (hb : Below w2.heap.size w2 w') => show w'.cell? ⟨w.heap.size, 0, none⟩ = some (.slice A0 n0 c0) ∧ w'.cell? ⟨w.heap.size, 1, none⟩ = some (.slice B0 m0 d0) ∧ w'.cell? ⟨w.heap.size + 1, 0, none⟩ = some (.slice A1 n1 c1) ∧ w'.cell? ⟨w.heap.size + 1, 1, none⟩ = some (.slice B1 m1 d1) from by
    have J := I2.out.step hb
    exact ⟨(blk2cells (J.box 1 rfl)).1, (blk2cells (J.box 1 rfl)).2.1, (blk2cells (J.box 0 rfl)).1, (blk2cells (J.box 0 rfl)).2.1⟩)
  have HB_0 := Lib.hid (Below.drew (Below.refl w2.heap.size w2))
  have I3 := Lib.hid I2.out.drew
  clear u_a0_2 v_a0_2 x_a0_2 y_a0_2 z_a0_2 u_a1_2 v_a1_2 x_a1_2 y_a1_2 z_a1_2
  go_region_held3 (fun w' => w'.cell? ⟨w.heap.size, 0, none⟩ = some (.slice A0 n0 c0) ∧ w'.cell? ⟨w.heap.size, 1, none⟩ = some (.slice B0 m0 d0) ∧ w'.cell? ⟨w.heap.size + 1, 0, none⟩ = some (.slice A1 n1 c1) ∧ w'.cell? ⟨w.heap.size + 1, 1, none⟩ = some (.slice B1 m1 d1))
      (first | exact KS2.out _ HB_0.out | exact KS2.out _ HB_1.out | exact KS2.out _ HB_2.out | exact KS2.out _ HB_3.out)
      (first
        | (go_at_call 13; (with_reducible refine (HTO0.out _ I3.out.bel).mono ?_); (rintro e w3 ⟨gs0, hs0, Ms0, rfl, hd, ho, hb⟩; have I4 := Lib.hid (I3.out.pushMod hb ho); have HDs0 := Lib.hid hd; clear hd; have HB_1 := Lib.hid (HB_0.out.trans (hb.mono HB_0.out.size)); clear ho hb))
        | (go_at_call 13; (with_reducible refine (HTO1.out _ I4.out.bel).mono ?_); (rintro e w4 ⟨gs1, hs1, Ms1, rfl, hd, ho, hb⟩; have I5 := Lib.hid (I4.out.pushMod hb ho); have HDs1 := Lib.hid hd; clear hd; have HB_2 := Lib.hid (HB_1.out.trans (hb.mono HB_1.out.size)); clear ho hb))
        | (go_at_call 12; (with_reducible refine (HSP.out _ _ (owns_Rd (by have h := (I5.out.mod 1 rfl).deg; rw [← Hn0.out] at h; exact h)) _ _ HDs0.out ((I5.out.mod 1 rfl).act.rd (by rw [Hm0.out, (dat_xs HDs0.out).1])) _ (owns_Rd (by have h := (I5.out.mod 0 rfl).deg; rw [← Hn1.out] at h; exact h)) _ _ HDs1.out ((I5.out.mod 0 rfl).act.rd (by rw [Hm1.out, (dat_xs HDs1.out).1]))).mono ?_); (rintro e w5 ⟨vs, Ns, los, his, rfl, hd, ho, hb⟩; have HB_3 := Lib.hid (HB_2.out.trans (hb.mono HB_2.out.size)); have I6 := Lib.hid (I5.out.pushCub hb ho); have HDs := Lib.hid hd; clear ho hb hd; obtain ⟨As, ks, rfl, _, _, _⟩ := owns_shape (I6.out.cub 0 rfl).out; have HZs := Lib.hid (cubs_small HDs.out HLEN.out); have z1s := HZs.out.1; have z2s := HZs.out.2.1)))
  clear HB_0 HB_1 HB_2 HB_3 KS2
  obtain ⟨u_a0_6, v_a0_6, x_a0_6, y_a0_6, z_a0_6⟩ := blk2cells (I6.out.box 4 rfl)
  obtain ⟨u_a1_6, v_a1_6, x_a1_6, y_a1_6, z_a1_6⟩ := blk2cells (I6.out.box 3 rfl)
  go_wp2_with fail
  refine (HTO0.out _ I6.out.bel).mono ?_
  rintro e w6 ⟨gx0, hx0, Mx0, rfl, hd, ho, hb⟩
  have I7 := Lib.hid (I6.out.pushMod hb ho)
  have HDx0 := Lib.hid hd
  clear hd
  clear ho hb
  clear u_a0_6 v_a0_6 x_a0_6 y_a0_6 z_a0_6 u_a1_6 v_a1_6 x_a1_6 y_a1_6 z_a1_6
  obtain ⟨u_a0_7, v_a0_7, x_a0_7, y_a0_7, z_a0_7⟩ := blk2cells (I7.out.box 5 rfl)
  obtain ⟨u_a1_7, v_a1_7, x_a1_7, y_a1_7, z_a1_7⟩ := blk2cells (I7.out.box 4 rfl)
  go_wp2_with fail
  have hI := I7.out.allocBox #[.slice (some ⟨gx0, 0, none⟩) n0 n0, .slice (some ⟨hx0, 0, none⟩) m0 m0] 30
  refine (HTO1.out _ hI.bel).mono ?_
  rintro e w7 ⟨gx1, hx1, Mx1, rfl, hd, ho, hb⟩
  have I8 := Lib.hid (hI.pushMod hb ho)
  have HDx1 := Lib.hid hd
  clear hd
  clear ho hb
  clear hI
  clear u_a0_7 v_a0_7 x_a0_7 y_a0_7 z_a0_7 u_a1_7 v_a1_7 x_a1_7 y_a1_7 z_a1_7
  obtain ⟨u_a0_8, v_a0_8, x_a0_8, y_a0_8, z_a0_8⟩ := blk2cells (I8.out.box 7 rfl)
  obtain ⟨u_a1_8, v_a1_8, x_a1_8, y_a1_8, z_a1_8⟩ := blk2cells (I8.out.box 6 rfl)
  obtain ⟨u_b0_8, v_b0_8, x_b0_8, y_b0_8, z_b0_8⟩ := blk2cells (I8.out.box 1 rfl)
  go_wp2_with fail
  have hI := I8.out.allocBox #[.slice (some ⟨gx1, 0, none⟩) n1 n1, .slice (some ⟨hx1, 0, none⟩) m1 m1] 30
  refine (HIM.out _ (HT.out.below hI.bel hw) (by have := hI.size; omega) _ (owns_Rd (by have h := (hI.mod 3 rfl).deg; rw [← Hn0.out] at h; exact h)) _ _ HDx0.out ((hI.mod 3 rfl).act.rd (by rw [Hm0.out, (dat_xs HDx0.out).1])) _ (owns_Rd (by have h := (hI.mod 1 rfl).deg; rw [← Hn1.out] at h; exact h)) _ _ HDx1.out ((hI.mod 1 rfl).act.rd (by rw [Hm1.out, (dat_xs HDx1.out).1]))).mono ?_
  rintro e w8 ⟨vg, Ng, log, hig, rfl, hd, ho, hb⟩
  have I9 := Lib.hid (hI.pushCub hb ho)
  have HDg := Lib.hid hd
  clear ho hb hd
  obtain ⟨Ag, kg, rfl, _, _, _⟩ := owns_shape (I9.out.cub 0 rfl).out
  have HZg := Lib.hid (cubs_small HDg.out HLEN.out)
  have z1g := HZg.out.1
  have z2g := HZg.out.2.1
  clear hI
  clear u_a0_8 v_a0_8 x_a0_8 y_a0_8 z_a0_8 u_a1_8 v_a1_8 x_a1_8 y_a1_8 z_a1_8 u_b0_8 v_b0_8 x_b0_8 y_b0_8 z_b0_8
  obtain ⟨u_a0_9, v_a0_9, x_a0_9, y_a0_9, z_a0_9⟩ := blk2cells (I9.out.box 9 rfl)
  obtain ⟨u_a1_9, v_a1_9, x_a1_9, y_a1_9, z_a1_9⟩ := blk2cells (I9.out.box 8 rfl)
  obtain ⟨u_b0_9, v_b0_9, x_b0_9, y_b0_9, z_b0_9⟩ := blk2cells (I9.out.box 3 rfl)
  obtain ⟨u_b1_9, v_b1_9, x_b1_9, y_b1_9, z_b1_9⟩ := blk2cells (I9.out.box 1 rfl)
  go_wp2_with fail
  refine (eqCubsB_any _ _ _ _ _ _ _ _ _ rfl rfl (by omega) HZg.out.2.2 (HDs.out.trans HDg.out.symm) ((I9.out.cub 0 rfl).rd rfl) ((I9.out.cub 5 rfl).rd rfl)).mono ?_
  rintro e w9 ⟨rfl, hb⟩
  have I10 := Lib.hid (I9.out.step hb)
  clear hb
  clear u_a0_9 v_a0_9 x_a0_9 y_a0_9 z_a0_9 u_a1_9 v_a1_9 x_a1_9 y_a1_9 z_a1_9 u_b0_9 v_b0_9 x_b0_9 y_b0_9 z_b0_9 u_b1_9 v_b1_9 x_b1_9 y_b1_9 z_b1_9
  obtain ⟨u_a0_10, v_a0_10, x_a0_10, y_a0_10, z_a0_10⟩ := blk2cells (I10.out.box 9 rfl)
  obtain ⟨u_a1_10, v_a1_10, x_a1_10, y_a1_10, z_a1_10⟩ := blk2cells (I10.out.box 8 rfl)
  obtain ⟨u_b0_10, v_b0_10, x_b0_10, y_b0_10, z_b0_10⟩ := blk2cells (I10.out.box 3 rfl)
  obtain ⟨u_b1_10, v_b1_10, x_b1_10, y_b1_10, z_b1_10⟩ := blk2cells (I10.out.box 1 rfl)
  go_wp2_with fail
  have KS := Lib.hid (fun w' (hb : Below w9.heap.size w9 w') => show w'.cell? ⟨w6.heap.size, 0, none⟩ = some (.slice (some ⟨gx0, 0, none⟩) n0 n0) ∧ w'.cell? ⟨w6.heap.size, 1, none⟩ = some (.slice (some ⟨hx0, 0, none⟩) m0 m0) ∧ w'.cell? ⟨w.heap.size, 0, none⟩ = some (.slice A0 n0 c0) ∧ w'.cell? ⟨w.heap.size, 1, none⟩ = some (.slice B0 m0 d0) from by
    have J := I10.out.step hb
    exact ⟨(blk2cells (J.box 3 rfl)).1, (blk2cells (J.box 3 rfl)).2.1, (blk2cells (J.box 9 rfl)).1, (blk2cells (J.box 9 rfl)).2.1⟩)
  have HB_0 := Lib.hid (Below.drew (Below.refl w9.heap.size w9))
  have I11 := Lib.hid I10.out.drew
  clear u_a0_10 v_a0_10 x_a0_10 y_a0_10 z_a0_10 u_a1_10 v_a1_10 x_a1_10 y_a1_10 z_a1_10 u_b0_10 v_b0_10 x_b0_10 y_b0_10 z_b0_10 u_b1_10 v_b1_10 x_b1_10 y_b1_10 z_b1_10
  go_region_held3 (fun w' => w'.cell? ⟨w6.heap.size, 0, none⟩ = some (.slice (some ⟨gx0, 0, none⟩) n0 n0) ∧ w'.cell? ⟨w6.heap.size, 1, none⟩ = some (.slice (some ⟨hx0, 0, none⟩) m0 m0) ∧ w'.cell? ⟨w.heap.size, 0, none⟩ = some (.slice A0 n0 c0) ∧ w'.cell? ⟨w.heap.size, 1, none⟩ = some (.slice B0 m0 d0))
      (first | exact KS.out _ HB_0.out | exact KS.out _ HB_1.out | exact KS.out _ HB_2.out)
      (first
        | (go_at_call 13; (with_reducible refine (HTO0.out _ I11.out.bel).mono ?_); (rintro e w10 ⟨ge0, he0, Me0, rfl, hd, ho, hb⟩; have I12 := Lib.hid (I11.out.pushMod hb ho); have HDe0 := Lib.hid hd; have HB_1 := Lib.hid (HB_0.out.trans (hb.mono HB_0.out.size)); clear ho hb hd))
        | (go_at_call 16; (with_reducible refine (eqModule_any _ _ _ _ n0 n0 n0 m0 m0 m0 xs0 _ _ _ Hn0.out (by omega) (by rw [Hm0.out, (dat_xs HDx0.out).1]) (by omega) (by intro i hi; rw [(dat_xs HDx0.out).2 i]; exact HLL0.out i (by rw [← (dat_xs HDx0.out).1]; exact hi)) (HDe0.out.trans HDx0.out.symm) (owns_Rd (by have h := (I12.out.mod 5 rfl).deg; rw [← Hn0.out] at h; exact h)) (owns_Rd (by have h := (I12.out.mod 0 rfl).deg; rw [← Hn0.out] at h; exact h)) ((I12.out.mod 5 rfl).act.rd (by rw [Hm0.out, (dat_xs HDx0.out).1])) ((I12.out.mod 0 rfl).act.rd (by rw [Hm0.out, (dat_xs HDe0.out).1]))).mono ?_); (rintro e w11 ⟨rfl, hb⟩; have I13 := Lib.hid (I12.out.step hb); have HB_2 := Lib.hid (HB_1.out.trans (hb.mono HB_1.out.size)); clear hb)))
  clear HB_0 HB_1 HB_2 KS
  obtain ⟨u_a0_13, v_a0_13, x_a0_13, y_a0_13, z_a0_13⟩ := blk2cells (I13.out.box 10 rfl)
  obtain ⟨u_a1_13, v_a1_13, x_a1_13, y_a1_13, z_a1_13⟩ := blk2cells (I13.out.box 9 rfl)
  obtain ⟨u_b0_13, v_b0_13, x_b0_13, y_b0_13, z_b0_13⟩ := blk2cells (I13.out.box 4 rfl)
  obtain ⟨u_b1_13, v_b1_13, x_b1_13, y_b1_13, z_b1_13⟩ := blk2cells (I13.out.box 2 rfl)
  go_wp2_with fail
  have KS := Lib.hid (fun w' (hb : Below w11.heap.size w11 w') => show w'.cell? ⟨w7.heap.size, 0, none⟩ = some (.slice (some ⟨gx1, 0, none⟩) n1 n1) ∧ w'.cell? ⟨w7.heap.size, 1, none⟩ = some (.slice (some ⟨hx1, 0, none⟩) m1 m1) ∧ w'.cell? ⟨w.heap.size + 1, 0, none⟩ = some (.slice A1 n1 c1) ∧ w'.cell? ⟨w.heap.size + 1, 1, none⟩ = some (.slice B1 m1 d1) from by
    have J := I13.out.step hb
    exact ⟨(blk2cells (J.box 2 rfl)).1, (blk2cells (J.box 2 rfl)).2.1, (blk2cells (J.box 9 rfl)).1, (blk2cells (J.box 9 rfl)).2.1⟩)
  have HB_0 := Lib.hid (Below.drew (Below.refl w11.heap.size w11))
  have I14 := Lib.hid I13.out.drew
  clear u_a0_13 v_a0_13 x_a0_13 y_a0_13 z_a0_13 u_a1_13 v_a1_13 x_a1_13 y_a1_13 z_a1_13 u_b0_13 v_b0_13 x_b0_13 y_b0_13 z_b0_13 u_b1_13 v_b1_13 x_b1_13 y_b1_13 z_b1_13
  go_region_held3 (fun w' => w'.cell? ⟨w7.heap.size, 0, none⟩ = some (.slice (some ⟨gx1, 0, none⟩) n1 n1) ∧ w'.cell? ⟨w7.heap.size, 1, none⟩ = some (.slice (some ⟨hx1, 0, none⟩) m1 m1) ∧ w'.cell? ⟨w.heap.size + 1, 0, none⟩ = some (.slice A1 n1 c1) ∧ w'.cell? ⟨w.heap.size + 1, 1, none⟩ = some (.slice B1 m1 d1))
      (first | exact KS.out _ HB_0.out | exact KS.out _ HB_1.out | exact KS.out _ HB_2.out)
      (first
        | (go_at_call 13; (with_reducible refine (HTO1.out _ I14.out.bel).mono ?_); (rintro e w12 ⟨ge1, he1, Me1, rfl, hd, ho, hb⟩; have I15 := Lib.hid (I14.out.pushMod hb ho); have HDe1 := Lib.hid hd; have HB_1 := Lib.hid (HB_0.out.trans (hb.mono HB_0.out.size)); clear ho hb hd))
        | (go_at_call 16; (with_reducible refine (eqModule_any _ _ _ _ n1 n1 n1 m1 m1 m1 xs1 _ _ _ Hn1.out (by omega) (by rw [Hm1.out, (dat_xs HDx1.out).1]) (by omega) (by intro i hi; rw [(dat_xs HDx1.out).2 i]; exact HLL1.out i (by rw [← (dat_xs HDx1.out).1]; exact hi)) (HDe1.out.trans HDx1.out.symm) (owns_Rd (by have h := (I15.out.mod 4 rfl).deg; rw [← Hn1.out] at h; exact h)) (owns_Rd (by have h := (I15.out.mod 0 rfl).deg; rw [← Hn1.out] at h; exact h)) ((I15.out.mod 4 rfl).act.rd (by rw [Hm1.out, (dat_xs HDx1.out).1])) ((I15.out.mod 0 rfl).act.rd (by rw [Hm1.out, (dat_xs HDe1.out).1]))).mono ?_); (rintro e w13 ⟨rfl, hb⟩; have I16 := Lib.hid (I15.out.step hb); have HB_2 := Lib.hid (HB_1.out.trans (hb.mono HB_1.out.size)); clear hb)))
  clear HB_0 HB_1 HB_2 KS
  obtain ⟨u_a0_16, v_a0_16, x_a0_16, y_a0_16, z_a0_16⟩ := blk2cells (I16.out.box 11 rfl)
  obtain ⟨u_a1_16, v_a1_16, x_a1_16, y_a1_16, z_a1_16⟩ := blk2cells (I16.out.box 10 rfl)
  obtain ⟨u_b0_16, v_b0_16, x_b0_16, y_b0_16, z_b0_16⟩ := blk2cells (I16.out.box 5 rfl)
  obtain ⟨u_b1_16, v_b1_16, x_b1_16, y_b1_16, z_b1_16⟩ := blk2cells (I16.out.box 3 rfl)
  go_wp2_with fail
  have HKB0 := Lib.hid (show (0 : Int) ≤ 1 ∧ (1 : Int) ≤ 1 from ⟨by decide, by decide⟩)
  have hxl0 : xs0.length ≤ 1048576 := by rw [← Hn0.out]; exact hnb0
  have hqx0 : tot Mx0 = tot L0 := tot_dat HDx0.out
  have htx0 : tot Mx0 ≤ 1048576 := by rw [hqx0]; exact hk0
  clear hqx0
  have hBx0 := (I16.out.mod 6 rfl).deg.lt gx0 rfl
  refine (markModule_any _ _ _ _ xs0 Mx0 (1) _ (Nat.le_trans hBx0.1 (Nat.le_of_lt hBx0.2)) (I16.out.mod 6 rfl) (I16.out.modUp 6 rfl) (Nat.le_trans hxl0 (by decide)) (by rw [(dat_xs HDx0.out).1, ← Hm0.out]; exact Nat.le_trans hmb0 (by decide)) (Nat.le_trans htx0 (by decide)) HKB0.out.1 (Int.le_trans HKB0.out.2 (by decide))).mono ?_
  clear hBx0
  rintro e w14 ⟨rfl, ho, hk⟩
  have I17 := Lib.hid (I16.out.markMod 6 rfl hk ho)
  clear ho hk
  have HKB1 : Hid (0 ≤ (1 + xs0.length + tot Mx0 : Int) ∧ (1 + xs0.length + tot Mx0 : Int) ≤ 2097153) := Lib.hid (kb_add2 HKB0.out hxl0 htx0)
  clear u_a0_16 v_a0_16 x_a0_16 y_a0_16 z_a0_16 u_a1_16 v_a1_16 x_a1_16 y_a1_16 z_a1_16 u_b0_16 v_b0_16 x_b0_16 y_b0_16 z_b0_16 u_b1_16 v_b1_16 x_b1_16 y_b1_16 z_b1_16
  obtain ⟨u_a0_17, v_a0_17, x_a0_17, y_a0_17, z_a0_17⟩ := blk2cells (I17.out.box 11 rfl)
  obtain ⟨u_a1_17, v_a1_17, x_a1_17, y_a1_17, z_a1_17⟩ := blk2cells (I17.out.box 10 rfl)
  obtain ⟨u_b0_17, v_b0_17, x_b0_17, y_b0_17, z_b0_17⟩ := blk2cells (I17.out.box 5 rfl)
  obtain ⟨u_b1_17, v_b1_17, x_b1_17, y_b1_17, z_b1_17⟩ := blk2cells (I17.out.box 3 rfl)
  have hnn0 : ¬ (1 + xs0.length + tot Mx0 : Int) < 0 := Int.not_lt.2 HKB1.out.1
  go_wp2_with fail
  have hxl1 : xs1.length ≤ 1048576 := by rw [← Hn1.out]; exact hnb1
  have hqx1 : tot Mx1 = tot L1 := tot_dat HDx1.out
  have htx1 : tot Mx1 ≤ 1048576 := by rw [hqx1]; exact hk1
  clear hqx1
  have hBx1 := (I17.out.mod 4 rfl).deg.lt gx1 rfl
  refine (markModule_any _ _ _ _ xs1 Mx1 (1 + xs0.length + tot Mx0) _ (Nat.le_trans hBx1.1 (Nat.le_of_lt hBx1.2)) (I17.out.mod 4 rfl) (I17.out.modUp 4 rfl) (Nat.le_trans hxl1 (by decide)) (by rw [(dat_xs HDx1.out).1, ← Hm1.out]; exact Nat.le_trans hmb1 (by decide)) (Nat.le_trans htx1 (by decide)) HKB1.out.1 (Int.le_trans HKB1.out.2 (by decide))).mono ?_
  clear hBx1
  rintro e w15 ⟨rfl, ho, hk⟩
  have I18 := Lib.hid (I17.out.markMod 4 rfl hk ho)
  clear ho hk
  have HKB2 : Hid (0 ≤ (1 + xs0.length + tot Mx0 + xs1.length + tot Mx1 : Int) ∧ (1 + xs0.length + tot Mx0 + xs1.length + tot Mx1 : Int) ≤ 4194305) := Lib.hid (kb_add2 HKB1.out hxl1 htx1)
  clear u_a0_17 v_a0_17 x_a0_17 y_a0_17 z_a0_17 u_a1_17 v_a1_17 x_a1_17 y_a1_17 z_a1_17 u_b0_17 v_b0_17 x_b0_17 y_b0_17 z_b0_17 u_b1_17 v_b1_17 x_b1_17 y_b1_17 z_b1_17
  obtain ⟨u_a0_18, v_a0_18, x_a0_18, y_a0_18, z_a0_18⟩ := blk2cells (I18.out.box 11 rfl)
  obtain ⟨u_a1_18, v_a1_18, x_a1_18, y_a1_18, z_a1_18⟩ := blk2cells (I18.out.box 10 rfl)
  obtain ⟨u_b0_18, v_b0_18, x_b0_18, y_b0_18, z_b0_18⟩ := blk2cells (I18.out.box 5 rfl)
  obtain ⟨u_b1_18, v_b1_18, x_b1_18, y_b1_18, z_b1_18⟩ := blk2cells (I18.out.box 3 rfl)
  have hnn1 : ¬ (1 + xs0.length + tot Mx0 + xs1.length + tot Mx1 : Int) < 0 := Int.not_lt.2 HKB2.out.1
  go_wp2_with fail
  refine (eqCubsB_any _ _ _ _ _ _ _ _ _ rfl rfl (by omega) HZg.out.2.2 (HDs.out.trans HDg.out.symm) ((I18.out.cub 2 rfl).rd rfl) ((I18.out.cub 7 rfl).rd rfl)).mono ?_
  rintro e w16 ⟨rfl, hb⟩
  have I19 := Lib.hid (I18.out.step hb)
  clear hb
  clear u_a0_18 v_a0_18 x_a0_18 y_a0_18 z_a0_18 u_a1_18 v_a1_18 x_a1_18 y_a1_18 z_a1_18 u_b0_18 v_b0_18 x_b0_18 y_b0_18 z_b0_18 u_b1_18 v_b1_18 x_b1_18 y_b1_18 z_b1_18
  obtain ⟨u_a0_19, v_a0_19, x_a0_19, y_a0_19, z_a0_19⟩ := blk2cells (I19.out.box 11 rfl)
  obtain ⟨u_a1_19, v_a1_19, x_a1_19, y_a1_19, z_a1_19⟩ := blk2cells (I19.out.box 10 rfl)
  obtain ⟨u_b0_19, v_b0_19, x_b0_19, y_b0_19, z_b0_19⟩ := blk2cells (I19.out.box 5 rfl)
  obtain ⟨u_b1_19, v_b1_19, x_b1_19, y_b1_19, z_b1_19⟩ := blk2cells (I19.out.box 3 rfl)
  go_wp2_with fail
  refine (markCubs_any _ _ _ _ _ Ng 1 _ _ _ rfl (I19.out.cub 2 rfl) (I19.out.cubHi 2 rfl) (by omega) (fun i hi => (HZg.out.2.2 i hi).1) (by omega) (by omega) (by omega)).mono ?_
  rintro e w17 ⟨rfl, ho, hk⟩
  have I20 := Lib.hid (I19.out.markCub 2 rfl hk ho)
  clear ho hk
  clear u_a0_19 v_a0_19 x_a0_19 y_a0_19 z_a0_19 u_a1_19 v_a1_19 x_a1_19 y_a1_19 z_a1_19 u_b0_19 v_b0_19 x_b0_19 y_b0_19 z_b0_19 u_b1_19 v_b1_19 x_b1_19 y_b1_19 z_b1_19
  obtain ⟨u_a0_20, v_a0_20, x_a0_20, y_a0_20, z_a0_20⟩ := blk2cells (I20.out.box 11 rfl)
  obtain ⟨u_a1_20, v_a1_20, x_a1_20, y_a1_20, z_a1_20⟩ := blk2cells (I20.out.box 10 rfl)
  obtain ⟨u_b0_20, v_b0_20, x_b0_20, y_b0_20, z_b0_20⟩ := blk2cells (I20.out.box 5 rfl)
  obtain ⟨u_b1_20, v_b1_20, x_b1_20, y_b1_20, z_b1_20⟩ := blk2cells (I20.out.box 3 rfl)
  go_wp2_with fail
  refine (heldCubs_any _ Ng.length _ Ng 1 _ rfl ((I20.out.cub 2 rfl).rd (by rw [marksC_length])) (by omega) (fun i hi => (HZg.out.2.2 i hi).1) (by omega) (by omega) (by omega)).mono ?_
  rintro e w' ⟨rfl, rfl⟩
  go_wp2_with fail
  have KS20 := Lib.hid (fun w' (hb : Below w17.heap.size w17 w') => show w'.cell? ⟨w.heap.size, 0, none⟩ = some (.slice A0 n0 c0) ∧ w'.cell? ⟨w.heap.size, 1, none⟩ = some (.slice B0 m0 d0) ∧ w'.cell? ⟨w.heap.size + 1, 0, none⟩ = some (.slice A1 n1 c1) ∧ w'.cell? ⟨w.heap.size + 1, 1, none⟩ = some (.slice B1 m1 d1) from by
    have J := I20.out.step hb
    exact ⟨(blk2cells (J.box 11 rfl)).1, (blk2cells (J.box 11 rfl)).2.1, (blk2cells (J.box 10 rfl)).1, (blk2cells (J.box 10 rfl)).2.1⟩)
  have HB_0 := Lib.hid (Below.drew (Below.refl w17.heap.size w17))
  have I21 := Lib.hid I20.out.drew
  clear u_a0_20 v_a0_20 x_a0_20 y_a0_20 z_a0_20 u_a1_20 v_a1_20 x_a1_20 y_a1_20 z_a1_20 u_b0_20 v_b0_20 x_b0_20 y_b0_20 z_b0_20 u_b1_20 v_b1_20 x_b1_20 y_b1_20 z_b1_20
  go_region_held3 (fun w' => w'.cell? ⟨w.heap.size, 0, none⟩ = some (.slice A0 n0 c0) ∧ w'.cell? ⟨w.heap.size, 1, none⟩ = some (.slice B0 m0 d0) ∧ w'.cell? ⟨w.heap.size + 1, 0, none⟩ = some (.slice A1 n1 c1) ∧ w'.cell? ⟨w.heap.size + 1, 1, none⟩ = some (.slice B1 m1 d1))
      (first | exact KS20.out _ HB_0.out | exact KS20.out _ HB_1.out | exact KS20.out _ HB_2.out | exact KS20.out _ HB_3.out)
      (first
        | (go_at_call 13; (with_reducible refine (HTO0.out _ I21.out.bel).mono ?_); (rintro e w18 ⟨gh0, hh0, Mh0, rfl, hd, ho, hb⟩; have I22 := Lib.hid (I21.out.pushMod hb ho); have HDh0 := Lib.hid hd; clear hd; have HB_1 := Lib.hid (HB_0.out.trans (hb.mono HB_0.out.size)); clear ho hb))
        | (go_at_call 13; (with_reducible refine (HTO1.out _ I22.out.bel).mono ?_); (rintro e w19 ⟨gh1, hh1, Mh1, rfl, hd, ho, hb⟩; have I23 := Lib.hid (I22.out.pushMod hb ho); have HDh1 := Lib.hid hd; clear hd; have HB_2 := Lib.hid (HB_1.out.trans (hb.mono HB_1.out.size)); clear ho hb))
        | (go_at_call 14; (with_reducible refine (HIM.out _ (HT.out.below I23.out.bel hw) (by have := I23.out.size; omega) _ (owns_Rd (by have h := (I23.out.mod 1 rfl).deg; rw [← Hn0.out] at h; exact h)) _ _ HDh0.out ((I23.out.mod 1 rfl).act.rd (by rw [Hm0.out, (dat_xs HDh0.out).1])) _ (owns_Rd (by have h := (I23.out.mod 0 rfl).deg; rw [← Hn1.out] at h; exact h)) _ _ HDh1.out ((I23.out.mod 0 rfl).act.rd (by rw [Hm1.out, (dat_xs HDh1.out).1]))).mono ?_); (rintro e w20 ⟨vh, Nh, loh, hih, rfl, hd, ho, hb⟩; have HB_3 := Lib.hid (HB_2.out.trans (hb.mono HB_2.out.size)); have I24 := Lib.hid (I23.out.pushCub hb ho); have HDh := Lib.hid hd; clear ho hb hd; obtain ⟨Ah, kh, rfl, _, _, _⟩ := owns_shape (I24.out.cub 0 rfl).out; have HZh := Lib.hid (cubs_small HDh.out HLEN.out); have z1h := HZh.out.1; have z2h := HZh.out.2.1)))
  clear HB_0 HB_1 HB_2 HB_3 KS20
  obtain ⟨u_a0_24, v_a0_24, x_a0_24, y_a0_24, z_a0_24⟩ := blk2cells (I24.out.box 14 rfl)
  obtain ⟨u_a1_24, v_a1_24, x_a1_24, y_a1_24, z_a1_24⟩ := blk2cells (I24.out.box 13 rfl)
  obtain ⟨u_b0_24, v_b0_24, x_b0_24, y_b0_24, z_b0_24⟩ := blk2cells (I24.out.box 8 rfl)
  obtain ⟨u_b1_24, v_b1_24, x_b1_24, y_b1_24, z_b1_24⟩ := blk2cells (I24.out.box 6 rfl)
  go_wp2_with fail
  refine (eqCubsB_any _ _ _ _ _ _ _ _ _ rfl rfl (by omega) HZh.out.2.2 (HDs.out.trans HDh.out.symm) ((I24.out.cub 0 rfl).rd rfl) ((I24.out.cub 10 rfl).rd rfl)).mono ?_
  rintro e w21 ⟨rfl, hb⟩
  have I25 := Lib.hid (I24.out.step hb)
  clear hb
  clear u_a0_24 v_a0_24 x_a0_24 y_a0_24 z_a0_24 u_a1_24 v_a1_24 x_a1_24 y_a1_24 z_a1_24 u_b0_24 v_b0_24 x_b0_24 y_b0_24 z_b0_24 u_b1_24 v_b1_24 x_b1_24 y_b1_24 z_b1_24
  obtain ⟨u_a0_25, v_a0_25, x_a0_25, y_a0_25, z_a0_25⟩ := blk2cells (I25.out.box 14 rfl)
  obtain ⟨u_a1_25, v_a1_25, x_a1_25, y_a1_25, z_a1_25⟩ := blk2cells (I25.out.box 13 rfl)
  obtain ⟨u_b0_25, v_b0_25, x_b0_25, y_b0_25, z_b0_25⟩ := blk2cells (I25.out.box 8 rfl)
  obtain ⟨u_b1_25, v_b1_25, x_b1_25, y_b1_25, z_b1_25⟩ := blk2cells (I25.out.box 6 rfl)
  go_wp2_with fail
  refine (heldCubs_any _ Ng.length _ Ng 1 _ rfl ((I25.out.cub 5 rfl).rd (by rw [marksC_length])) (by omega) (fun i hi => (HZg.out.2.2 i hi).1) (by omega) (by omega) (by omega)).mono ?_
  rintro e w' ⟨rfl, rfl⟩
  go_wp2_with fail
  go_ret
  exact ⟨rfl, I25.out.bel⟩
end Go.Proofs.YtdkmdmpaflgfaaaGreatDoor

namespace Go.Proofs.YtdkmdmpaflgfaaaGreatDoor
open Go.ChangeShapes Go.WideShapes Go.ChangeAt Go.RowKit Go.Joins Go.Deep

section
variable {H : Type} {enc : TypeId × Value → H} {P : Program} {w : World} {base : Nat} {held : Bool}
/-- cells from an address on, as a list -/
theorem Rd_of_cells {a : Addr} {vs : List Value} (h : ∀ j v, vs[j]? = some v → w.cell? (a.add j) = some v) : Rd w (some a) vs := by
  by_cases h0 : vs = []
  · exact .inl h0
  · right
    obtain ⟨b, off, spot⟩ := a
    obtain ⟨v, vs', rfl⟩ : ∃ v vs', vs = v :: vs' := by cases vs with | nil => exact absurd rfl h0 | cons v vs' => exact ⟨v, vs', rfl⟩
    have h1 := h 0 v rfl
    have hspot : spot = none := by simpa [Addr.add] using World.cell?_spot h1
    subst hspot
    refine ⟨b, off, rfl, fun j u hj => ?_⟩
    have := h j u hj
    rwa [Addr.add_lit] at this
theorem ints_Rd {fuel : Nat} {t e : TypeId} {v : Value} {y : DataW H × List MemPlace} (ht : P.underlying t = some (.slice e)) (he : P.underlying e = some (.int .i64)) (hc : P.cellsOf e = 1)
    (hf : DataW.trod enc P w base (fun _ => true) held fuel t [v] = some y) :
    ∃ A n c xs, v = .slice A n c ∧ n = xs.length ∧ n ≤ maxLen ∧ Rd w A (iv xs) ∧ ∀ x ∈ xs, (Lit.int .i64 x).wf = true := by
  rcases open_ints ht he hc hf with ⟨hcs, _⟩ | ⟨a, len, cap, zs, hcs, _, hl, hm, hz, _, hcell, hwz⟩
  · injection hcs with hcs _
    exact ⟨none, 0, 0, [], hcs, rfl, Nat.zero_le _, .inl rfl, by simp⟩
  · injection hcs with hcs _
    simp only [if_true] at hz
    refine ⟨some a, len, cap, zs.take len, hcs, by rw [List.length_take, hz]; omega, by omega, ?_, fun x hx => hwz x (List.mem_of_mem_take hx)⟩
    refine Rd_of_cells fun j v hj => ?_
    have hjl : j < len := by
      have := (List.getElem?_eq_some_iff.1 hj).1
      simp [iv] at this; omega
    have h2 := hcell j (by omega)
    rw [h2]
    simp only [iv, List.getElem?_map, List.getElem?_take, hjl, if_true] at hj
    rw [List.getElem?_eq_getElem (show j < zs.length by omega)] at hj
    simp only [Option.map_some] at hj
    rw [← hj, List.getD, List.getElem?_eq_getElem (show j < zs.length by omega)]
    rfl
theorem open_intsl {r : Reach} {b0 : Nat} {t e : TypeId} {v : Value} {d : DataW H} {p : List MemPlace} (ht : P.underlying t = some (.slice e)) (he : P.underlying e = some (.int .i64)) (hc : P.cellsOf e = 1)
    (hv : Value.okWide P w r b0 t v) (h : DataW.Trod enc P w base (fun _ => true) held t v d p) :
    ∃ A n c xs, v = .slice A n c ∧ n = xs.length ∧ n ≤ maxLen ∧ Rd w A (iv xs) ∧ ∀ x ∈ xs, (Lit.int .i64 x).wf = true := by
  obtain ⟨a0, len0, cap0, rfl⟩ := okWide_slice ht hv
  obtain ⟨fuel, hf⟩ := h
  exact ints_Rd ht he hc hf

theorem rg_range (n : Nat) (f : Nat → Row) (i : Nat) (h : i < n) : rg ((List.range n).map f) i = f i := by
  simp [rg, List.getD, h]
theorem rows_RdR {fuel : Nat} {t e q : TypeId} {v : Value} {y : DataW H × List MemPlace} (ht : P.underlying t = some (.slice e)) (he : P.underlying e = some (.slice q)) (hq : P.underlying q = some (.int .i64)) (ce : P.cellsOf e = 1) (cq : P.cellsOf q = 1)
    (hf : DataW.trod enc P w base (fun _ => true) held fuel t [v] = some y) :
    ∃ A n c L, v = .slice A n c ∧ n = L.length ∧ n ≤ maxLen ∧ RdR w A L ∧ ∀ i, i < L.length → (rg L i).xs.length ≤ maxLen := by
  rcases open_int_rows ht he hq ce cq hf with ⟨hcs, _⟩ | ⟨a, len, cap, A, Ln, C, Z, hcs, _, hl, hm, _, hr⟩
  · injection hcs with hcs _
    exact ⟨none, 0, 0, [], hcs, rfl, Nat.zero_le _, ⟨.inl rfl, (fun i hi => by cases hi), (fun i hi => by cases hi)⟩, (fun i hi => by cases hi)⟩
  · injection hcs with hcs _
    have hlen : ∀ r, r < len → ((Z r).take (Ln r)).length = Ln r := fun r h => by
      obtain ⟨_, h2, _, h4, _⟩ := hr r (by omega)
      rw [List.length_take, h4]; omega
    refine ⟨some a, len, cap, (List.range len).map fun r => ⟨A r, C r, (Z r).take (Ln r)⟩, hcs, by simp, by omega, ⟨?_, ?_, ?_⟩, ?_⟩
    · refine Rd_of_cells fun j v hj => ?_
      have hjl : j < len := by
        have := (List.getElem?_eq_some_iff.1 hj).1
        simp [hv] at this; exact this
      rw [hv_get (by simpa using hjl), rg_range _ _ _ hjl] at hj
      obtain ⟨h1, _⟩ := hr j (by omega)
      rw [h1, ← hj, Row.val]
      simp only [hlen j hjl]
    · intro i hi
      have hil : i < len := by simpa using hi
      rw [rg_range _ _ _ hil]
      obtain ⟨_, h2, _, h4, _, h6, h7⟩ := hr i (by omega)
      simp only
      cases hA : A i with
      | none =>
        have := h6 hA
        left
        have : ((Z i).take (Ln i)) = [] := List.eq_nil_of_length_eq_zero (by rw [hlen i hil]; omega)
        rw [this]; rfl
      | some a' =>
        refine Rd_of_cells fun j v hj => ?_
        have hjl : j < Ln i := by
          have := (List.getElem?_eq_some_iff.1 hj).1
          rw [iv_length, hlen i hil] at this; exact this
        have h3 := (h7 a' hA).2 j (by omega)
        rw [h3]
        simp only [iv, List.getElem?_map, List.getElem?_take, hjl, if_true] at hj
        rw [List.getElem?_eq_getElem (show j < (Z i).length by omega)] at hj
        simp only [Option.map_some] at hj
        rw [← hj, List.getD, List.getElem?_eq_getElem (show j < (Z i).length by omega)]
        rfl
    · intro i hi
      have hil : i < len := by simpa using hi
      rw [rg_range _ _ _ hil]
      obtain ⟨_, h2, h3, _⟩ := hr i (by omega)
      simp only [hlen i hil]; exact h2
    · intro i hi
      have hil : i < len := by simpa using hi
      rw [rg_range _ _ _ hil]
      obtain ⟨_, h2, h3, _⟩ := hr i (by omega)
      simp only [hlen i hil]; omega
theorem open_rowsl {r : Reach} {b0 : Nat} {t e q : TypeId} {v : Value} {d : DataW H} {p : List MemPlace} (ht : P.underlying t = some (.slice e)) (he : P.underlying e = some (.slice q)) (hq : P.underlying q = some (.int .i64)) (ce : P.cellsOf e = 1) (cq : P.cellsOf q = 1)
    (hv : Value.okWide P w r b0 t v) (h : DataW.Trod enc P w base (fun _ => true) held t v d p) :
    ∃ A n c L, v = .slice A n c ∧ n = L.length ∧ n ≤ maxLen ∧ RdR w A L ∧ ∀ i, i < L.length → (rg L i).xs.length ≤ maxLen := by
  obtain ⟨a0, len0, cap0, rfl⟩ := okWide_slice ht hv
  obtain ⟨fuel, hf⟩ := h
  exact rows_RdR ht he hq ce cq hf
/-- a struct of a slice of ints and rows of rows: a module -/
theorem open_module {r : Reach} {b0 : Nat} {t q : TypeId} {f0 f1 : Field} {v : Value} {d : DataW H} {p : List MemPlace} (hs : P.underlying t = some (.struct #[f0, f1])) (hone : oneCellFields P #[f0, f1] = true) (hC : P.cellsOf t = 2)
    (h0 : P.underlying f0.type = some (.slice q)) (h1 : P.underlying f1.type = some (.slice f0.type)) (hq : P.underlying q = some (.int .i64)) (c0 : P.cellsOf f0.type = 1) (cq : P.cellsOf q = 1)
    (hv : Value.okWide P w r b0 t v) (h : DataW.Trod enc P w base (fun _ => true) held t v d p) :
    ∃ A n c xs A' n' c' L, v = .agg #[.slice A n c, .slice A' n' c'] ∧ n = xs.length ∧ n ≤ maxLen ∧ Rd w A (iv xs) ∧ n' = L.length ∧ n' ≤ maxLen ∧ RdR w A' L ∧ ∀ i, i < L.length → (rg L i).xs.length ≤ maxLen := by
  obtain ⟨c0', c1', y0, y1, m, rfl, rfl, rfl, hy0, hy1⟩ := open_agg2 hs hone hC hv h
  obtain ⟨A, n, c, xs, rfl, hn, hm, hR, hwf⟩ := ints_Rd h0 hq cq hy0
  obtain ⟨A', n', c', L, rfl, hn', hm', hR', hl'⟩ := rows_RdR h1 h0 hq c0 cq hy1
  exact ⟨A, n, c, xs, A', n', c', L, rfl, hn, hm, hR, hn', hm', hR', hl'⟩
end
end Go.Proofs.YtdkmdmpaflgfaaaGreatDoor
