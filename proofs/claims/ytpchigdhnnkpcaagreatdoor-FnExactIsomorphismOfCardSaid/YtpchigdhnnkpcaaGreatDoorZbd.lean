/- impl's vectors and masks: isBit, isVector, maskOf, digitsOf, vectorOf, masksOf, inDegree, vectorsOf -/
import Derived.Test.YtpchigdhnnkpcaaGreatDoorZam
namespace Go.Proofs.YtpchigdhnnkpcaaGreatDoor
open Go.RowKit

theorem isBit_any (x : Int) (w : World) : Calls Tryz.prog 129 #[.int .i64 x] w fun e w' => e = .returned (.bool (decide (0 ≤ x) && decide (x ≤ 1))) ∧ w = w' := by
  have HI := Lib.hid (fun W => in_any x 0 1 W)
  rw [inB01] at HI
  go_enter Tryz.func129, Tryz.ntmps129
  go_wp2_with fail
  refine (HI.out _).mono ?_
  rintro e w' ⟨rfl, rfl⟩
  go_wp2_with fail
  go_ret
  exact ⟨rfl, rfl⟩
theorem bit_closure (w : World) (x : Int) : Asks0 Tryz.prog 129 w (.int .i64 x) (decide (0 ≤ x) && decide (x ≤ 1)) := by
  intro m
  exact (isBit_any x (w.drewN m)).mono fun e w' ⟨he, hw⟩ => ⟨he, m, hw⟩

set_option maxHeartbeats 1000000 in
theorem isVector_any (A A' V : Option Addr) (n c m c' k cv : Nat) (v : List Int) (w : World) (hk : k = v.length) (hsm : k ≤ 1099511627776) (hV : Rd w V (iv v)) :
    Calls Tryz.prog 110 #[.agg #[.slice A n c, .slice A' m c'], .slice V k cv] w fun e w' => e = .returned (.bool (vecB n v)) ∧ Below w.heap.size w w' := by
  obtain ⟨x0, x1, xf0, xf1, lx⟩ := blk2cells (blk_new w (.cells #[.slice A n c, .slice A' m c'] 29))
  have hb0 : Below w.heap.size w (w.alloc (.cells #[.slice A n c, .slice A' m c'] 29)) := (Below.refl _ _).alloc (Nat.le_refl _) _
  have HB0 := Lib.hid hb0
  have HAL := Lib.hid (all0_any V k cv v 129 (fun x => decide (0 ≤ x) && decide (x ≤ 1)) _ (fun args w => Tryz.call129 args w) hk hsm (hV.below hb0) (fun x _ o => bit_closure _ x))
  by_cases hkn : k = n
  · have HE : Hid (vecB n v = v.all fun x => decide (0 ≤ x) && decide (x ≤ 1)) := Lib.hid (by unfold vecB; rw [decide_eq_true (by omega : v.length = n)]; simp)
    have hbq : ((k : Int) == (n : Int)) = true := by simp; omega
    generalize (v.all fun x => decide (0 ≤ x) && decide (x ≤ 1)) = b at *
    clear hV hk hkn hb0
    go_enter Tryz.func110, Tryz.ntmps110
    go_wp2_with fail
    refine HAL.out.mono ?_
    rintro e w1 ⟨rfl, hb⟩
    have HB1 := Lib.hid (HB0.out.trans (hb.mono HB0.out.size))
    clear hb
    go_wp2_with fail
    go_ret
    exact ⟨by rw [HE.out]; rfl, HB1.out⟩
  · have HE : Hid (vecB n v = false) := Lib.hid (by
      rw [Bool.eq_false_iff]; intro h; exact hkn (by rw [hk]; exact (vecB_iff.1 h).1))
    have hbq : ((k : Int) == (n : Int)) = false := by simp; omega
    clear hV hk hkn hb0 HAL
    go_enter Tryz.func110, Tryz.ntmps110
    go_wp2_with fail
    go_ret
    exact ⟨by rw [HE.out]; rfl, HB0.out⟩

attribute [local go_sem] i64_or_nat in
set_option maxHeartbeats 1000000 in
theorem maskOf_any (V : Option Addr) (n cv v : Nat) (w : World) (hn : n ≤ 62) (hv : v < 2 ^ n) (hV : Rd w V (iv (bitsL v n))) :
    Calls Tryz.prog 111 #[.slice V n cv] w fun e w' => e = .returned (.int .i64 (v : Nat)) ∧ w = w' := by
  have HV := Lib.hid hV
  have HM := Lib.hid (mk_bits hv)
  have HLT := Lib.hid (fun j => mk_lt ((bitsL v n).take j))
  clear hV hv
  go_enter Tryz.func111, Tryz.ntmps111
  go_wp2_with fail
  go_loop [3, 8] (fun t i => ∃ k : Nat, k ≤ n ∧ i = .int .i64 k ∧ t = .int .i64 (mk ((bitsL v n).take k) : Nat)) (fun _ i => n - (intOf i).toNat)
  case atStart => exact ⟨0, by omega, rfl, rfl⟩
  case round =>
    obtain ⟨k, hk, rfl, rfl⟩ := hrel
    by_cases hlt : k < n
    · obtain ⟨b, o, rfl, hc⟩ := HV.out.atI (k := k) (by rw [bitsL_length]; exact hlt)
      rw [bitsL_getD _ hlt] at hc
      have hms := mk_take (v := bitsL v n) (k := k) (by rw [bitsL_length]; exact hlt)
      rw [bitsL_getD _ hlt] at hms
      have h1 : Sm (mk ((bitsL v n).take k)) := sm_pow (n := 62) (by omega) (Nat.lt_of_lt_of_le (HLT.out k) (Nat.pow_le_pow_right (by omega) (by rw [List.length_take]; omega)))
      have h2 : Sm (2 ^ k) := sm_pow (n := k + 1) (by omega) (pow_lt_pow (by omega))
      have he : ((2 ^ k : Nat) : Int) = (2 : Int) ^ k := by simp
      have hor := i64_or_nat h1 h2
      rw [he] at hor
      obtain ⟨p1, p2⟩ := pow62 (d := k) (by omega)
      generalize mk ((bitsL v n).take k) = p at *
      cases hb : tb v k
      · rw [bit_none hb] at hc hms
        have HE : Hid (mk ((bitsL v n).take (k + 1)) = p) := Lib.hid (by rw [hms, if_neg (by omega)]; unfold orr; simp)
        have hz := i64_or_zero h1
        clear hms he hor
        go_wp2_with fail
        go_round
        case rel => exact ⟨k + 1, by omega, by go_num, by rw [HE.out]⟩
        case measure => simp [intOf]; omega
      · rw [bit_one hb] at hc hms
        have HE : Hid (mk ((bitsL v n).take (k + 1)) = orr p (2 ^ k)) := Lib.hid (by rw [hms, if_pos rfl])
        clear hms he
        go_wp2_with fail
        go_round
        case rel => exact ⟨k + 1, by omega, by go_num, by rw [HE.out]⟩
        case measure => simp [intOf]; omega
    · have e : (bitsL v n).take k = bitsL v n := List.take_of_length_le (by rw [bitsL_length]; omega)
      rw [e, HM.out]
      clear e
      go_wp2_with fail
      go_ret
      exact ⟨rfl, rfl⟩

attribute [local go_sem] i64_bit_int in
set_option maxHeartbeats 1000000 in
theorem digitsOf_any (n v : Nat) (w : World) (hn : n ≤ 62) (hv : Sm v) :
    Calls Tryz.prog 107 #[.int .i64 v, .int .i64 n] w fun e w' => ∃ g cap, e = .returned (.slice (some ⟨g, 0, none⟩) n cap) ∧ w'.ownsRow w.heap.size 2 1 (.slice (some ⟨g, 0, none⟩) n cap) n (iv (bitsL v n)) ∧ Below w.heap.size w w' := by
  go_enter Tryz.func107, Tryz.ntmps107
  go_wp2_with fail
  go_loopw [5, 9] (fun vv i wr => ∃ k g cap : Nat, k ≤ n ∧ i = .int .i64 k ∧ vv = .slice (some ⟨g, 0, none⟩) k cap ∧ wr.ownsRow w.heap.size 2 1 (.slice (some ⟨g, 0, none⟩) k cap) k (iv ((bitsL v n).take k)) ∧ Below w.heap.size w wr) (fun _ i _ => n - (intOf i).toNat)
  case atStart => exact ⟨0, w.heap.size, 0, by omega, rfl, rfl, World.ownsRow_made w #[] 0 (Nat.le_refl _) (by decide) (by simp), (Below.refl _ _).alloc (Nat.le_refl _) _⟩
  case round =>
    obtain ⟨k, g, cap, hk, rfl, rfl, hown, hbel⟩ := hrel
    have HO := Lib.hid hown
    have HB := Lib.hid hbel
    have hsz := hbel.size
    by_cases hlt : k < n
    · have HTS : Hid ((bitsL v n).take (k + 1) = (bitsL v n).take k ++ [bit v k]) := Lib.hid (bitsL_take _ hlt)
      have hmin : min k 64 = k := by omega
      clear hown hbel
      go_wp2_with (at_builtin; refine wpList_app1 _ _ _ _ _ etI (by rfl) (by rfl) w.heap.size (.slice (some ⟨g, 0, none⟩) k cap) k (iv ((bitsL v n).take k)) (by rfl) (HO.out.alloc _) _ (.int .i64 (bit v k)) (by rfl) (new_cell _ _ _) (by rfl) (by omega) (Nat.le_trans hsz (Nat.le_of_lt (by simp))) ?_; (intro g1 cap1 w1 hown1 hgrow1 hat1 hlt1; have HO1 := Lib.hid hown1; have HB1 := Lib.hid (below_app2 HB.out hsz HO.out hgrow1); clear hown1 hgrow1 hat1 hlt1))
      go_roundw
      case rel => exact ⟨k + 1, g1, cap1, by omega, by go_num, rfl, by rw [HTS.out, iv_append]; exact HO1.out, HB1.out⟩
      case measure => simp [intOf]; omega
    · obtain rfl : k = n := by omega
      have he : (bitsL v k).take k = bitsL v k := List.take_of_length_le (by rw [bitsL_length]; exact Nat.le_refl _)
      rw [he] at HO
      clear hown hbel he
      go_wp2_with fail
      go_ret
      exact ⟨g, cap, rfl, HO.out, HB.out⟩
theorem vectorOf_any (A A' : Option Addr) (n c m c' v : Nat) (w : World) (hn : n ≤ 62) (hv : Sm v) :
    Calls Tryz.prog 76 #[.agg #[.slice A n c, .slice A' m c'], .int .i64 v] w fun e w' => ∃ g cap, e = .returned (.slice (some ⟨g, 0, none⟩) n cap) ∧ w'.ownsRow w.heap.size 2 1 (.slice (some ⟨g, 0, none⟩) n cap) n (iv (bitsL v n)) ∧ Below w.heap.size w w' := by
  obtain ⟨x0, x1, xf0, xf1, lx⟩ := blk2cells (blk_new w (.cells #[.slice A n c, .slice A' m c'] 29))
  have HB0 : Hid (Below w.heap.size w (w.alloc (.cells #[.slice A n c, .slice A' m c'] 29))) := Lib.hid ((Below.refl _ _).alloc (Nat.le_refl _) _)
  have HD := Lib.hid (digitsOf_any n v (w.alloc (.cells #[.slice A n c, .slice A' m c'] 29)) hn hv)
  go_enter Tryz.func76, Tryz.ntmps76
  go_wp2_with fail
  refine HD.out.mono ?_
  rintro e w1 ⟨g, cap, rfl, ho, hb⟩
  have HO := Lib.hid (ho.mono HB0.out.size)
  have HB1 := Lib.hid (HB0.out.trans (hb.mono HB0.out.size))
  clear ho hb
  go_wp2_with fail
  go_ret
  exact ⟨g, cap, rfl, HO.out, HB1.out⟩

/-- masks of rows that are all vectors, and whether they are -/
def MasksP (n : Nat) (P : List Row) (w : World) (e : Ending) (w' : World) : Prop :=
  (((P.all fun r => vecB n r.xs) = true ∧ ∃ g cap, e = .returned (.tuple #[.slice (some ⟨g, 0, none⟩) P.length cap, .bool true]) ∧ w'.ownsRow w.heap.size 2 1 (.slice (some ⟨g, 0, none⟩) P.length cap) P.length (nv ((dat P).map mk))) ∨
   ((P.all fun r => vecB n r.xs) = false ∧ e = .returned (.tuple #[.slice none 0 0, .bool false]))) ∧ Below w.heap.size w w'
theorem all_rg {P : List Row} {f : Row → Bool} (h : ∀ i, i < P.length → f (rg P i) = true) : P.all f = true := by
  rw [List.all_eq_true]
  intro r hr
  obtain ⟨i, hi, rfl⟩ := List.getElem_of_mem hr
  rw [← rg_of hi]; exact h i hi
theorem all_rg_no {P : List Row} {f : Row → Bool} {i : Nat} (hi : i < P.length) (h : f (rg P i) = false) : P.all f = false := by
  rw [List.all_eq_false]
  exact ⟨_, rg_mem hi, by rw [h]; simp⟩

set_option maxHeartbeats 2000000 in
theorem masksOf_any (A A' W : Option Addr) (n c m c' k cw : Nat) (P : List Row) (w : World) (hn : n ≤ 62) (hk : k = P.length) (hk1 : k ≤ 1048576) (hl : ∀ i, i < P.length → (rg P i).xs.length ≤ 1048576) (hP : RdR w W P) :
    Calls Tryz.prog 84 #[.agg #[.slice A n c, .slice A' m c'], .slice W k cw] w (MasksP n P w) := by
  have hk0 := blk_new w (.cells #[.slice A n c, .slice A' m c'] 29)
  have HK0 := Lib.hid hk0
  have HB0 : Hid (Below w.heap.size w (w.alloc (.cells #[.slice A n c, .slice A' m c'] 29))) := Lib.hid ((Below.refl _ _).alloc (Nat.le_refl _) _)
  have HP := Lib.hid hP
  have Hk := Lib.hid hk
  have HL := Lib.hid hl
  have HLEN : Hid (((dat P).map mk).length = k) := Lib.hid (by simp [dat, hk])
  clear hk0 hP hk hl
  obtain ⟨x0, x1, xf0, xf1, lx⟩ := blk2cells HK0.out
  go_enter Tryz.func84, Tryz.ntmps84
  go_wp2_with fail
  clear x0 x1 xf0 xf1 lx
  go_loopw [6, 12] (fun vv i wr => ∃ j g cap : Nat, j ≤ k ∧ i = .int .i64 j ∧ vv = .slice (some ⟨g, 0, none⟩) j cap ∧ Hid (∀ t, t < j → vecB n (rg P t).xs = true) ∧ wr.ownsRow w.heap.size 2 1 (.slice (some ⟨g, 0, none⟩) j cap) j (nv (((dat P).map mk).take j)) ∧ wr.heap[w.heap.size]? = some (.cells #[.slice A n c, .slice A' m c'] 29 (0, 0)) ∧ Below w.heap.size w wr) (fun _ i _ => k - (intOf i).toNat)
  case atStart => exact ⟨0, w.heap.size + 1, 0, by omega, rfl, rfl, Lib.hid (fun t ht => by omega), by simpa [nv] using (World.ownsRow_made (w.alloc (.cells #[.slice A n c, .slice A' m c'] 29)) (e := 2) #[] 0 (base := w.heap.size) (by simp) (by decide) (by simp)), blk_alloc HK0.out _, HB0.out.alloc HB0.out.size _⟩
  case round =>
    obtain ⟨j, g, cap, hj, rfl, rfl, HV, hown, hblk, hbel⟩ := hrel
    have HO := Lib.hid hown
    have HB := Lib.hid hbel
    have HK := Lib.hid hblk
    have hsz := hbel.size
    by_cases hlt : j < k
    · have hjP : j < P.length := by rw [← Hk.out]; exact hlt
      obtain ⟨b, o, rfl, hc⟩ := (HP.out.below hbel).at_ hjP
      have hin := (HP.out.below hbel).inn j hjP
      have hle := HL.out j hjP
      have HTS : Hid (((dat P).map mk).take (j + 1) = ((dat P).map mk).take j ++ [mk (rg P j).xs]) := Lib.hid (by
        rw [List.take_succ_eq_append_getElem (by rw [HLEN.out]; exact hlt), List.getElem_map, ← dat_getD]; simp [List.getD, dat, hjP])
      have HRG : Hid (∃ r : Row, rg P j = r) := Lib.hid ⟨_, rfl⟩
      obtain ⟨r, hr⟩ := HRG.out
      rw [hr] at hc hin hle HTS
      have HR := Lib.hid hr
      clear hr HRG
      obtain ⟨rA, rc, rx⟩ := r
      simp only at hc hin hle HTS
      have HIV := Lib.hid (isVector_any A A' rA n c m c' rx.length rc rx wr rfl (by omega) hin)
      obtain ⟨x0, x1, xf0, xf1, lx⟩ := blk2cells hblk
      cases hv : vecB n rx
      · have HF : Hid ((P.all fun r => vecB n r.xs) = false) := Lib.hid (all_rg_no hjP (by rw [HR.out]; exact hv))
        rw [hv] at HIV
        clear hown hbel hblk hin hjP hv
        go_wp2_with (go_at_call 110; refine HIV.out.mono ?_; rintro e w1 ⟨rfl, hb⟩; have HB1 := Lib.hid (HB.out.trans (hb.mono hsz)); clear hb)
        go_ret2
        exact ⟨.inr ⟨HF.out, rfl⟩, HB1.out⟩
      · obtain ⟨e1, e2, e3⟩ := vec_row hv
        have HVJ : Hid (vecB n rx = true) := Lib.hid hv
        rw [hv] at HIV
        have HC := Lib.hid (fun W' (hb : Below wr.heap.size wr W') => maskOf_any rA n rc (mk rx) W' hn e3 (by rw [← e2]; exact hin.below hb))
        rw [e1] at hc HIV
        clear hown hbel hblk hin hjP hv e2 e3
        go_wp2_with fail
        refine HIV.out.mono ?_
        rintro e w1 ⟨rfl, hb⟩
        have HB1 := Lib.hid hb
        have HO1 := Lib.hid (owns_keeps HO.out (Keeps.of_below hb) (.inr (by simp)))
        have HK1 := Lib.hid (blk_kept HK.out hb)
        have hsz1 := Nat.le_trans hsz hb.size
        clear hb x0 x1 xf0 xf1 lx
        go_wp2_with fail
        refine (HC.out _ HB1.out).mono ?_
        rintro e w' ⟨rfl, rfl⟩
        have HBT := Lib.hid (HB.out.trans (HB1.out.mono hsz))
        have hjk : j < 1099511627776 := by omega
        go_wp2_with (at_builtin; refine wpList_app1 _ _ _ _ _ etI (by rfl) (by rfl) w.heap.size (.slice (some ⟨g, 0, none⟩) j cap) j (nv (((dat P).map mk).take j)) (by rfl) (HO1.out.alloc _) _ (.int .i64 (mk rx : Nat)) (by rfl) (new_cell _ _ _) (by rfl) hjk (Nat.le_trans hsz1 (Nat.le_of_lt (by simp))) ?_; (intro g1 cap1 w2 hown1 hgrow1 hat1 hlt1; have HO2 := Lib.hid hown1; have HB2 := Lib.hid (below_app2 HBT.out hsz1 HO1.out hgrow1); have HK2 := Lib.hid (blk_grown (blk_alloc HK1.out _) hgrow1 (own_ne_blk HO1.out HK1.out (by decide))); clear hown1 hgrow1 hat1 hlt1))
        go_roundw
        case rel =>
          refine ⟨j + 1, g1, cap1, by omega, by go_num, rfl, Lib.hid (fun t ht => ?_), by rw [HTS.out, nv_append]; exact HO2.out, HK2.out, HB2.out⟩
          by_cases e : t = j
          · subst e; rw [HR.out]; exact HVJ.out
          · exact HV.out t (by omega)
        case measure => simp [intOf]; omega
    · obtain rfl : j = k := by omega
      have he : ((dat P).map mk).take j = (dat P).map mk := List.take_of_length_le (by rw [HLEN.out]; exact Nat.le_refl _)
      rw [he] at HO
      have HT : Hid ((P.all fun r => vecB n r.xs) = true) := Lib.hid (all_rg (fun i hi => HV.out i (by rw [Hk.out]; exact hi)))
      clear hown hbel hblk he
      go_wp2_with fail
      go_ret2
      have h := HO.out
      have hk := Hk.out
      subst hk
      exact ⟨.inl ⟨HT.out, g, cap, rfl, h⟩, HB.out⟩

attribute [local go_sem] i64_or_nat in
set_option maxHeartbeats 1000000 in
theorem inDegree_any (A A' : Option Addr) (n c m c' : Nat) (xs : List Int) (d : Int) (w : World) (hn : n = xs.length) (hsm : n ≤ 62) (hR : Rd w A (iv xs)) :
    Calls Tryz.prog 99 #[.agg #[.slice A n c, .slice A' m c'], .int .i64 d] w fun e w' => e = .returned (.int .i64 (dmask xs d : Nat)) ∧ Below w.heap.size w w' := by
  obtain ⟨x0, x1, xf0, xf1, lx⟩ := blk2cells (blk_new w (.cells #[.slice A n c, .slice A' m c'] 29))
  have hb0 : Below w.heap.size w (w.alloc (.cells #[.slice A n c, .slice A' m c'] 29)) := (Below.refl _ _).alloc (Nat.le_refl _) _
  have HB0 := Lib.hid hb0
  have HR := Lib.hid (hR.below hb0)
  have Hn := Lib.hid hn
  have HLT := Lib.hid (dmTo_lt xs d)
  clear hR hn hb0
  go_enter Tryz.func99, Tryz.ntmps99
  go_wp2_with fail
  go_loop [5, 11] (fun t i => ∃ k : Nat, k ≤ n ∧ i = .int .i64 k ∧ t = .int .i64 (dmTo xs d k : Nat)) (fun _ i => n - (intOf i).toNat)
  case atStart => exact ⟨0, by omega, rfl, rfl⟩
  case round =>
    obtain ⟨k, hk, rfl, rfl⟩ := hrel
    by_cases hlt : k < n
    · obtain ⟨b, o, rfl, hc⟩ := HR.out.atI (k := k) (by rw [← Hn.out]; exact hlt)
      have HS : Hid (dmTo xs d (k + 1) = if xs.getD k 0 = d then orr (dmTo xs d k) (2 ^ k) else dmTo xs d k) := Lib.hid rfl
      have h1 : Sm (dmTo xs d k) := sm_pow (n := k) (by omega) (HLT.out k)
      have h2 : Sm (2 ^ k) := sm_pow (n := k + 1) (by omega) (pow_lt_pow (by omega))
      have hor := i64_or_nat h1 h2
      rw [show ((2 ^ k : Nat) : Int) = (2 : Int) ^ k by simp] at hor
      obtain ⟨p1, p2⟩ := pow62 (d := k) (by omega)
      generalize dmTo xs d k = p at *
      generalize xs.getD k 0 = y at *
      by_cases he : y = d
      · have HE := Lib.hid (HS.out.trans (if_pos he))
        have heb : (y == d) = true := by simpa using he
        clear HS he
        go_wp2_with fail
        go_round
        case rel => exact ⟨k + 1, by omega, by go_num, by rw [HE.out]⟩
        case measure => simp [intOf]; omega
      · have HE := Lib.hid (HS.out.trans (if_neg he))
        have heb : (y == d) = false := by simpa using he
        clear HS he hor
        go_wp2_with fail
        go_round
        case rel => exact ⟨k + 1, by omega, by go_num, by rw [HE.out]⟩
        case measure => simp [intOf]; omega
    · obtain rfl : k = n := by omega
      have e : dmTo xs d k = dmask xs d := by rw [Hn.out]; rfl
      rw [e]
      clear e
      go_wp2_with fail
      go_ret
      exact ⟨rfl, HB0.out⟩

set_option maxHeartbeats 2000000 in
theorem vectorsOf_any (A A' B : Option Addr) (n c m c' k cb : Nat) (S : List Nat) (w : World) (hk : k = S.length) (hsm : k ≤ 1048576) (hn : n ≤ 62) (hS : ∀ r ∈ S, Sm r) (hR : Rd w B (nv S)) :
    Calls Tryz.prog 48 #[.agg #[.slice A n c, .slice A' m c'], .slice B k cb] w fun e w' => ∃ A1 c1 R, e = .returned (.slice A1 k c1) ∧ R.length = k ∧ dat R = S.map (fun v => bitsL v n) ∧ OwnR w' w.heap.size (.slice A1 k c1) R ∧ Below w.heap.size w w' := by
  have hk0 := blk_new w (.cells #[.slice A n c, .slice A' m c'] 29)
  have HK0 := Lib.hid hk0
  have HB0 : Hid (Below w.heap.size w (w.alloc (.cells #[.slice A n c, .slice A' m c'] 29))) := Lib.hid ((Below.refl _ _).alloc (Nat.le_refl _) _)
  have HR := Lib.hid hR
  have Hk := Lib.hid hk
  have HS := Lib.hid hS
  clear hR hk hS hk0
  obtain ⟨x0, x1, xf0, xf1, lx⟩ := blk2cells HK0.out
  go_enter Tryz.func48, Tryz.ntmps48
  go_wp2_with fail
  clear x0 x1 xf0 xf1 lx
  go_loopw [5, 11] (fun vv i wr => ∃ R : List Row, ∃ A1 c1, R.length ≤ k ∧ i = .int .i64 (R.length : Nat) ∧ vv = .slice A1 R.length c1 ∧ Hid (dat R = (S.take R.length).map (fun v => bitsL v n)) ∧ OwnR wr w.heap.size (.slice A1 R.length c1) R ∧ wr.heap[w.heap.size]? = some (.cells #[.slice A n c, .slice A' m c'] 29 (0, 0)) ∧ Below w.heap.size w wr) (fun _ i _ => k - (intOf i).toNat)
  case atStart => exact ⟨[], some ⟨w.heap.size + 1, 0, none⟩, 0, by simp, rfl, rfl, Lib.hid rfl, by simpa using (OwnR.made (w.alloc (.cells #[.slice A n c, .slice A' m c'] 29)) (B := w.heap.size) (by simp)), blk_alloc HK0.out _, HB0.out.alloc HB0.out.size _⟩
  case round =>
    obtain ⟨R, A1, c1, hj, rfl, rfl, HD, hown, hblk, hbel⟩ := hrel
    have HO := Lib.hid hown
    have HB := Lib.hid hbel
    have HK := Lib.hid hblk
    have hsz := hbel.size
    have hq : R.length < 1099511627776 := by omega
    by_cases hlt : R.length < k
    · have hjS : R.length < S.length := by rw [← Hk.out]; exact hlt
      obtain ⟨b, o, rfl, hc⟩ := (HR.out.below hbel).atN hjS
      have hs : Sm (S.getD R.length 0) := HS.out _ (by simp [List.getD, hjS])
      have HTS : Hid ((S.take (R.length + 1)).map (fun v => bitsL v n) = (S.take R.length).map (fun v => bitsL v n) ++ [bitsL (S.getD R.length 0) n]) := Lib.hid (by
        rw [List.take_succ_eq_append_getElem hjS, List.map_append]; simp [List.getD, hjS])
      generalize S.getD R.length 0 = q at *
      have HC := Lib.hid (vectorOf_any A A' n c m c' q wr hn hs)
      obtain ⟨x0, x1, xf0, xf1, lx⟩ := blk2cells hblk
      clear hown hbel hs hjS hblk
      go_wp2_with fail
      refine HC.out.mono ?_
      rintro e w1 ⟨g, cap, rfl, ho, hb⟩
      have HO1 := Lib.hid ho
      have HB1 := Lib.hid hb
      have HK1 := Lib.hid (blk_kept HK.out hb)
      clear ho hb x0 x1 xf0 xf1 lx
      go_wp2_with (at_builtin; refine wpList_app1 _ _ _ _ _ etS (by rfl) (by rfl) w.heap.size (.slice A1 R.length c1) R.length (hv R) (by rfl) ((HO.out.later HB1.out).out.alloc _) _ (.slice (some ⟨g, 0, none⟩) n cap) (by rfl) (new_cell _ _ _) (by rfl) hq (Nat.le_trans (Nat.le_trans hsz HB1.out.size) (Nat.le_of_lt (by simp))) ?_; (intro g2 c2 w3 hown3 hg3 hat3 hlt3; have HN := Lib.hid (OwnR.push HO.out HB1.out HO1.out (bitsL_length _ _).symm hsz hown3 hg3); have HB3 := Lib.hid (below_app2 (HB.out.trans (HB1.out.mono hsz)) (Nat.le_trans hsz HB1.out.size) (HO.out.later HB1.out).out hg3); have HK3 := Lib.hid (blk_grown (blk_alloc HK1.out _) hg3 (own_ne_blk (HO.out.later HB1.out).out HK1.out (by decide))); clear hown3 hg3 hat3 hlt3))
      go_roundw
      case rel =>
        refine ⟨R ++ [⟨some ⟨g, 0, none⟩, cap, bitsL q n⟩], some ⟨g2, 0, none⟩, c2, by simp; omega, by simp, by simp, Lib.hid ?_, by simpa using HN.out, HK3.out, HB3.out⟩
        rw [dat_append1, HD.out, List.length_append, List.length_singleton, HTS.out]
      case measure => simp [intOf]; omega
    · obtain rfl : k = R.length := by omega
      have he : S.take R.length = S := List.take_of_length_le (by rw [← Hk.out]; exact Nat.le_refl _)
      rw [he] at HD
      clear hown hbel he hblk
      go_wp2_with fail
      go_ret
      exact ⟨A1, c1, R, rfl, rfl, HD.out, HO.out, HB.out⟩
end Go.Proofs.YtpchigdhnnkpcaaGreatDoor
