/- DicksonOf, the program's and the reference's · DicksonOf: the form that the printer of laws wants · FnExactDicksonOf: the walk of the law (printed by mkl2.py) · arguments opened: slices of ints, rows of rows · plain: classes of forms; impl.classes: maps turned in place · the reference's l10Classes (printed by mkub.py) · IsMatrix and the reference's l02Is · impl.ClassOfForms (printed by mkuc.py) -/
import Derived.Test.YtnffpjdlpjkioaaBxad
import Derived.Test.YtnffpjdlpjkioaaBxak
import Derived.Test.YtnffpjdlpjkioaaBxab
import Derived.Deep.RegionHeld3
import Derived.Test.YtnffpjdlpjkioaaBxaa
import Derived.ProofKit
import Derived.Lib.SmallJoins
import Derived.Deep.Matrix
import Derived.StillTailTactics
set_option linter.all false
namespace Go.Proofs.Ytnffpjdlpjkioaa
open Go.RowKit Go.Maps Go.ChangeMaps Go.MapKept

/-- a polynomial and a code come back, its terms to be read -/
def ResPolyY (p : Int × LL × Int) (w : World) (e : Ending) (w' : World) : Prop :=
  ∃ A c R, e = .returned (.tuple #[.agg #[.int .i64 p.1, .slice A R.length c], .int .i64 p.2.2]) ∧ RdY w' A R ∧ dat R = p.2.1 ∧ Below w.heap.size w w'
/-- what DicksonOf answers -/
def dicksonF (k i : Int) : Int × LL × Int := if (inB k 1 4 && inB i 0 (k - 1)) = true then (k, nf ((dkL k.toNat k.toNat).getD i.toNat []), 0) else (0, [], 2)
theorem inB_iff {n a b : Int} : inB n a b = true ↔ a ≤ n ∧ n ≤ b := by unfold inB; simp
theorem isCount_any (k : Int) (w : World) : Calls Try.prog 37 #[.int .i64 k] w fun e w' => e = .returned (.bool (inB k 1 4)) ∧ w = w' := by
  go_enter Try.func37, Try.ntmps37
  go_wp2_with fail
  refine (in_any k 1 4 w).mono ?_
  rintro e w' ⟨rfl, rfl⟩
  go_wp2_with fail
  go_ret
  exact ⟨rfl, rfl⟩
theorem dk_told (k i : Nat) (hk0 : 0 < k) (hk : k ≤ 4) (hi : i < k) : (∀ x ∈ (dkL k k).getD i [], Mon k x) ∧ toldOf k ((dkL k k).getD i []) = ((k : Int), nf ((dkL k k).getD i []), 0) := by
  have h := dkL_hom (k := k) (v := k) (Nat.le_refl _) i (by omega)
  have h16 : 2 ^ k ≤ 16 := Nat.pow_le_pow_right (n := 2) (by omega) hk
  have h1 : 2 ^ k - 2 ^ i ≤ 16 := Nat.le_trans (Nat.sub_le _ _) h16
  exact ⟨h.mon (by omega), told_small h hk0 hk h1⟩

theorem RdY.box2 {w : World} {g : Nat} {A : Option Addr} {L : List Row} {cs : Array Value} {t : TypeId} {f : Nat × Nat} (h : RdY w A L) (hb : w.heap[g]? = some (.cells cs t f)) (h1 : t ≠ 30) (h2 : t ≠ 2) (x y : Value) :
    RdY ((w.setCell ⟨g, 0, none⟩ x).setCell ⟨g, 1, none⟩ y) A L := by
  refine h.keeps (((Keeps.refl w [some g]).setCell (p := ⟨g, 0, none⟩) (by simp) _).setCell (p := ⟨g, 1, none⟩) (by simp) _) fun j hj => ?_
  have e : j = g := by simpa using hj
  subst e
  have : ety w j = some t := by unfold ety; rw [hb]
  rw [this]
  exact ⟨fun e => h1 (by injection e), fun e => h2 (by injection e)⟩

set_option maxRecDepth 100000 in
set_option maxHeartbeats 1000000 in
theorem implDicksonOf_any (k i : Int) (w : World) : Calls Try.prog 11 #[.int .i64 k, .int .i64 i] w (ResPoly (dicksonF k i) w) := by
  have hb := blk_new w (.cells #[.int .i64 0, .slice none 0 0] 24)
  have hB : Below w.heap.size w (w.alloc (.cells #[.int .i64 0, .slice none 0 0] 24)) := (Below.refl _ _).alloc (Nat.le_refl _) _
  have HB := Lib.hid hB
  have HK := Lib.hid hb
  obtain ⟨y0, y1, fy0, fy1, ly⟩ := blk2cells hb
  clear hB
  by_cases h1 : inB k 1 4 = true
  · obtain ⟨k1, k2⟩ := inB_iff.1 h1
    obtain ⟨k, rfl⟩ := Int.eq_ofNat_of_zero_le (show 0 ≤ k by omega)
    have H1 := Lib.hid h1
    by_cases h2 : inB i 0 ((k : Int) - 1) = true
    · obtain ⟨i1, i2⟩ := inB_iff.1 h2
      obtain ⟨i, rfl⟩ := Int.eq_ofNat_of_zero_le i1
      have H2 := Lib.hid h2
      have HE : Hid (dicksonF k i = ((k : Int), nf ((dkL k k).getD i []), 0)) := Lib.hid (by unfold dicksonF; rw [h1, h2]; rfl)
      have HDT := Lib.hid (dk_told k i (by omega) (by omega) (by omega))
      have HLN := Lib.hid (dkL_len k k)
      clear h1 h2
      go_enter Try.func11, Try.ntmps11
      go_wp2_with fail
      refine (isCount_any k _).mono ?_
      rintro e w1 ⟨rfl, rfl⟩
      rw [H1.out]
      go_wp2_with fail
      refine (in_any i 0 ((k : Int) - 1) _).mono ?_
      rintro e w1 ⟨rfl, rfl⟩
      rw [H2.out]
      go_wp2_with fail
      refine (dickson_any k _ (by omega)).mono ?_
      rintro e w2 ⟨v, bs, rfl, hO, hB2⟩
      have hbl : bs.length = k + 1 := by rw [← hO.len, HLN.out]
      obtain ⟨A, c, rfl, -, -, -⟩ := owns_shape hO.out
      obtain ⟨g, rfl, hc⟩ := hO.cell (i := i) (by omega)
      have hP := hO.inn i (by omega)
      have HB2 := Lib.hid (HB.out.trans (hB2.mono HB.out.size))
      have HK2 := Lib.hid (blk_below HK.out hB2 (by simp))
      generalize bs.getD i 0 = b at *
      have HT := Lib.hid (told_any b k _ w2 hP HDT.out.1 (by omega))
      rw [HDT.out.2] at HT
      clear hO hP y0 y1 fy0 fy1 ly hb hB2
      rw [hbl]
      clear hbl
      go_wp2_with fail
      refine HT.out.mono ?_
      rintro e w3 ⟨v, R, rfl, ho3, hd3, hb3⟩
      have HB3 := Lib.hid (HB2.out.trans (hb3.mono HB2.out.size))
      have HK3 := Lib.hid (blk_below HK2.out hb3 (by have := HK2.out; exact (Array.getElem?_eq_some_iff.1 this).1))
      obtain ⟨y0, y1, fy0, fy1, ly⟩ := blk2cells HK3.out
      have HO3 := Lib.hid (ho3.mono (B' := w.heap.size) HB2.out.size)
      have HD3 := Lib.hid hd3
      obtain ⟨A1, c1, rfl, -, -, -⟩ := owns_shape ho3.out
      clear ho3 hd3 hb3 hc
      go_wp2_with fail
      refine bodyPost_ret (v := .tuple #[.agg #[.int .i64 k, .slice A1 R.length c1], .int .i64 0]) ?_ rfl ⟨_, R, by rw [HE.out], HO3.out.box2 HK3.out (by decide) (by decide) _ _, by rw [HE.out]; exact HD3.out, ?_⟩
      · simp [results, Try.results11, go_sem, y0, y1]
      · exact (HB3.out.setCell (p := ⟨w.heap.size, 0, none⟩) (by simp) _).setCell (p := ⟨w.heap.size, 1, none⟩) (by simp) _
    · have h2' : inB i 0 ((k : Int) - 1) = false := by simpa using h2
      have HE : Hid (dicksonF k i = (0, [], 2)) := Lib.hid (by unfold dicksonF; rw [h1, h2']; rfl)
      have H2 := Lib.hid h2'
      clear h1 h2 h2'
      go_enter Try.func11, Try.ntmps11
      go_wp2_with fail
      refine (isCount_any k _).mono ?_
      rintro e w1 ⟨rfl, rfl⟩
      rw [H1.out]
      go_wp2_with fail
      refine (in_any i 0 ((k : Int) - 1) _).mono ?_
      rintro e w1 ⟨rfl, rfl⟩
      rw [H2.out]
      go_wp2_with fail
      refine bodyPost_ret (v := .tuple #[.agg #[.int .i64 0, .slice none 0 0], .int .i64 2]) ?_ rfl ⟨_, [], by rw [HE.out], OwnR.nil _ _, by rw [HE.out]; rfl, ?_⟩
      · simp [results, Try.results11, go_sem, y0, y1]
      · exact HB.out
  · have h1' : inB k 1 4 = false := by simpa using h1
    have HE : Hid (dicksonF k i = (0, [], 2)) := Lib.hid (by unfold dicksonF; rw [h1']; rfl)
    have H1 := Lib.hid h1'
    clear h1 h1'
    go_enter Try.func11, Try.ntmps11
    go_wp2_with fail
    refine (isCount_any k _).mono ?_
    rintro e w1 ⟨rfl, rfl⟩
    rw [H1.out]
    go_wp2_with fail
    refine bodyPost_ret (v := .tuple #[.agg #[.int .i64 0, .slice none 0 0], .int .i64 2]) ?_ rfl ⟨_, [], by rw [HE.out], OwnR.nil _ _, by rw [HE.out]; rfl, ?_⟩
    · simp [results, Try.results11, go_sem, y0, y1]
    · exact HB.out

set_option maxRecDepth 100000 in
set_option maxHeartbeats 1000000 in
theorem specDicksonOf_any (k i : Int) (w : World) : Calls Try.prog 10 #[.int .i64 k, .int .i64 i] w (ResPolyY (dicksonF k i) w) := by
  have hb := blk_new w (.cells #[.int .i64 0, .slice none 0 0] 24)
  have hB : Below w.heap.size w (w.alloc (.cells #[.int .i64 0, .slice none 0 0] 24)) := (Below.refl _ _).alloc (Nat.le_refl _) _
  have HB := Lib.hid hB
  have HK := Lib.hid hb
  obtain ⟨y0, y1, fy0, fy1, ly⟩ := blk2cells hb
  clear hB
  by_cases h1 : inB k 1 4 = true
  · obtain ⟨k1, k2⟩ := inB_iff.1 h1
    obtain ⟨k, rfl⟩ := Int.eq_ofNat_of_zero_le (show 0 ≤ k by omega)
    have H1 := Lib.hid h1
    by_cases h2 : inB i 0 ((k : Int) - 1) = true
    · obtain ⟨i1, i2⟩ := inB_iff.1 h2
      obtain ⟨i, rfl⟩ := Int.eq_ofNat_of_zero_le i1
      have H2 := Lib.hid h2
      have HE : Hid (dicksonF k i = ((k : Int), nf ((dkL k k).getD i []), 0)) := Lib.hid (by unfold dicksonF; rw [h1, h2]; rfl)
      have HLN := Lib.hid (dkL_len k k)
      clear h1 h2
      go_enter Try.func10, Try.ntmps10
      go_wp2_with fail
      refine (l01In_any k 1 4 _).mono ?_
      rintro e w1 ⟨rfl, rfl⟩
      rw [H1.out]
      go_wp2_with fail
      refine (l01In_any i 0 ((k : Int) - 1) _).mono ?_
      rintro e w1 ⟨rfl, rfl⟩
      rw [H2.out]
      go_wp2_with fail
      refine (l10Dickson_any k _ (by omega) (by omega)).mono ?_
      rintro e w2 ⟨v, L, rfl, hO, hcd, hB2⟩
      have hbl : L.length = k + 1 := by have := congrArg List.length hcd; rw [cdat_length, List.length_map, HLN.out] at this; exact this
      obtain ⟨A, c, rfl, -, -, -⟩ := owns_shape hO.out
      obtain ⟨g, rfl, hc⟩ := hO.cell (i := i) (by omega)
      have HD := Lib.hid (cub_dat hcd (i := i) (by omega))
      have HP := Lib.hid (hO.inn i (by omega))
      have hci := hO.out
      have HB2 := Lib.hid (HB.out.trans (hB2.mono HB.out.size))
      have HK2 := Lib.hid (blk_below HK.out hB2 (by simp))
      unfold Cub.val at hc
      generalize cg L i = x at *
      clear hO y0 y1 fy0 fy1 ly hb hB2 hcd hci
      rw [hbl]
      clear hbl
      obtain ⟨y0, y1, fy0, fy1, ly⟩ := blk2cells HK2.out
      go_wp2_with fail
      refine bodyPost_ret (v := .tuple #[.agg #[.int .i64 k, .slice x.A x.rows.length x.c], .int .i64 0]) ?_ rfl ⟨x.A, x.c, x.rows, by rw [HE.out], ?_, by rw [HE.out]; exact HD.out, ?_⟩
      · simp [results, Try.results10, go_sem, y0, y1]
      · exact HP.out.box2 HK2.out (by decide) (by decide) _ _
      · exact (HB2.out.setCell (p := ⟨w.heap.size, 0, none⟩) (by simp) _).setCell (p := ⟨w.heap.size, 1, none⟩) (by simp) _
    · have h2' : inB i 0 ((k : Int) - 1) = false := by simpa using h2
      have HE : Hid (dicksonF k i = (0, [], 2)) := Lib.hid (by unfold dicksonF; rw [h1, h2']; rfl)
      have H2 := Lib.hid h2'
      clear h1 h2 h2'
      go_enter Try.func10, Try.ntmps10
      go_wp2_with fail
      refine (l01In_any k 1 4 _).mono ?_
      rintro e w1 ⟨rfl, rfl⟩
      rw [H1.out]
      go_wp2_with fail
      refine (l01In_any i 0 ((k : Int) - 1) _).mono ?_
      rintro e w1 ⟨rfl, rfl⟩
      rw [H2.out]
      go_wp2_with fail
      refine bodyPost_ret (v := .tuple #[.agg #[.int .i64 0, .slice none 0 0], .int .i64 2]) ?_ rfl ⟨none, 0, [], by rw [HE.out]; rfl, RdY.nil _ _, by rw [HE.out]; rfl, ?_⟩
      · simp [results, Try.results10, go_sem, y0, y1]
      · exact HB.out
  · have h1' : inB k 1 4 = false := by simpa using h1
    have HE : Hid (dicksonF k i = (0, [], 2)) := Lib.hid (by unfold dicksonF; rw [h1']; rfl)
    have H1 := Lib.hid h1'
    clear h1 h1'
    go_enter Try.func10, Try.ntmps10
    go_wp2_with fail
    refine (l01In_any k 1 4 _).mono ?_
    rintro e w1 ⟨rfl, rfl⟩
    rw [H1.out]
    go_wp2_with fail
    refine bodyPost_ret (v := .tuple #[.agg #[.int .i64 0, .slice none 0 0], .int .i64 2]) ?_ rfl ⟨none, 0, [], by rw [HE.out]; rfl, RdY.nil _ _, by rw [HE.out]; rfl, ?_⟩
    · simp [results, Try.results10, go_sem, y0, y1]
    · exact HB.out
end Go.Proofs.Ytnffpjdlpjkioaa

namespace Go.Proofs.Ytnffpjdlpjkioaa
open Go.RowKit

def dicksonOf (k i : Int) : Int × LL × Int := dicksonF k i
theorem dicksonOf_len (k i : Int) : (dicksonOf k i).2.1.length ≤ 2000 ∧ ∀ x ∈ (dicksonOf k i).2.1, x.length ≤ 4 := by
  unfold dicksonOf dicksonF
  split
  · rename_i h
    rw [Bool.and_eq_true, inB_iff, inB_iff] at h
    obtain ⟨⟨k1, k2⟩, i1, i2⟩ := h
    obtain ⟨k, rfl⟩ := Int.eq_ofNat_of_zero_le (show 0 ≤ k by omega)
    obtain ⟨i, rfl⟩ := Int.eq_ofNat_of_zero_le i1
    have hh := dkL_hom (k := k) (v := k) (Nat.le_refl _) i (by omega)
    have h16 : 2 ^ k ≤ 16 := Nat.pow_le_pow_right (n := 2) (by omega) (show k ≤ 4 by omega)
    have h1 : 2 ^ k - 2 ^ i ≤ 16 := Nat.le_trans (Nat.sub_le _ _) h16
    show (nf ((dkL k k).getD i [])).length ≤ 2000 ∧ ∀ x ∈ nf ((dkL k k).getD i []), x.length ≤ 4
    exact ⟨hh.len16 (by omega) (by omega) h1, fun x hx => by
      have := (hh x (nf_sub hx)).1
      omega⟩
  · exact ⟨by simp, fun x hx => by cases hx⟩
theorem specDickson_any (k i : Int) (w : World) : Calls Try.prog 10 #[.int .i64 k, .int .i64 i] w (ResPolyY (dicksonOf k i) w) := specDicksonOf_any k i w
theorem implDickson_any (k i : Int) (w : World) : Calls Try.prog 11 #[.int .i64 k, .int .i64 i] w (ResPoly (dicksonOf k i) w) := implDicksonOf_any k i w
end Go.Proofs.Ytnffpjdlpjkioaa

namespace Go.Proofs.Ytnffpjdlpjkioaa
open Go.RowKit

set_option maxRecDepth 100000 in
set_option maxHeartbeats 8000000 in
theorem lawDickson_any (a0 : Int) (a1 : Int) (w : World)  :
    Calls Try.prog 3 #[.int .i64 a0, .int .i64 a1] w fun e w' => e = .returned (.bool true) ∧ Below w.heap.size w w' := by
  have hI := Inw.start w
  have I0 := Lib.hid hI
  clear hI
  go_enter Try.func3, Try.ntmps3
  obtain ⟨rr, hrr⟩ : ∃ rr, dicksonOf a0 a1 = rr := ⟨_, rfl⟩
  have hlen := dicksonOf_len a0 a1
  rw [hrr] at hlen
  have HDD := Lib.hid hrr
  clear hrr
  have HSP := Lib.hid (fun (W : World)  => show Calls Try.prog 10 #[.int .i64 a0, .int .i64 a1] W (ResPolyY rr W) from by
    have h : Calls Try.prog 10 #[.int .i64 a0, .int .i64 a1] W (ResPolyY (dicksonOf a0 a1) W) := specDickson_any a0 a1 W 
    rw [HDD.out] at h
    exact h)
  have HIM := Lib.hid (fun (W : World)  => show Calls Try.prog 11 #[.int .i64 a0, .int .i64 a1] W (ResPoly rr W) from by
    have h : Calls Try.prog 11 #[.int .i64 a0, .int .i64 a1] W (ResPoly (dicksonOf a0 a1) W) := implDickson_any a0 a1 W 
    rw [HDD.out] at h
    exact h)
  go_wp2_with fail
  refine (HSP.out _ ).mono ?_
  rintro e w1 ⟨As, ks, Ns, rfl, ho, hd, hb⟩
  have HYs := Lib.hid ho
  have HDs := Lib.hid hd
  have HBs := Lib.hid (I0.out.bel.trans (hb.mono I0.out.bel.size))
  clear ho hd hb
  have I1 := Lib.hid (Inw.start w1)
  have HZs := Lib.hid (rows_smallP HDs.out hlen)
  have z1s := HZs.out.1
  have z2s := HZs.out.2.1
  go_wp2_with fail
  have hI := I1.out.allocBox #[.int .i64 rr.1, .slice As Ns.length ks] 24
  refine (HIM.out _ ).mono ?_
  rintro e w2 ⟨vg, Ng, rfl, ho, hd, hb⟩
  have I2 := Lib.hid (hI.pushRows hb ho)
  have HDg := Lib.hid hd
  clear ho hb hd
  obtain ⟨Ag, kg, rfl, _, _, _⟩ := owns_shape (I2.out.rows 0 rfl).out
  have HZg := Lib.hid (rows_smallP HDg.out hlen)
  have z1g := HZg.out.1
  have z2g := HZg.out.2.1
  clear hI
  obtain ⟨u_rs_2, v_rs_2, x_rs_2, y_rs_2, z_rs_2⟩ := blk2cells (I2.out.box 1 rfl)
  go_wp2_with fail
  have hI := I2.out.allocBox #[.int .i64 rr.1, .slice Ag Ng.length kg] 24
  refine (eqPoly_any _ _ _ _ _ _ _ _ _ _ rfl rfl (by omega) (fun i hi => Nat.le_trans (HZg.out.2.2 i hi) (by omega)) (HDs.out.trans HDg.out.symm) ((hI.rows 1 rfl).rd rfl) (HYs.out.below hI.bel).rd).mono ?_
  rintro e w3 ⟨rfl, hb⟩
  have I3 := Lib.hid (hI.step hb)
  clear hb
  clear hI
  clear u_rs_2 v_rs_2 x_rs_2 y_rs_2 z_rs_2
  obtain ⟨u_rs_3, v_rs_3, x_rs_3, y_rs_3, z_rs_3⟩ := blk2cells (I3.out.box 2 rfl)
  obtain ⟨u_rg_3, v_rg_3, x_rg_3, y_rg_3, z_rg_3⟩ := blk2cells (I3.out.box 0 rfl)
  go_wp2_with fail
  have HKB0 := Lib.hid (show (0 : Int) ≤ 1 ∧ (1 : Int) ≤ 1 from ⟨by decide, by decide⟩)
  refine (markPoly_any _ _ _ _ Ng 1 _ (I3.out.rows 1 rfl) (by omega) (by omega) (by omega) (by omega) (I3.out.rowsUp 1 rfl).2).mono ?_
  rintro e w4 ⟨rfl, ho, hk⟩
  have I4 := Lib.hid (I3.out.markRows 1 rfl hk ho)
  clear ho hk
  clear u_rs_3 v_rs_3 x_rs_3 y_rs_3 z_rs_3 u_rg_3 v_rg_3 x_rg_3 y_rg_3 z_rg_3
  obtain ⟨u_rs_4, v_rs_4, x_rs_4, y_rs_4, z_rs_4⟩ := blk2cells (I4.out.box 2 rfl)
  obtain ⟨u_rg_4, v_rg_4, x_rg_4, y_rg_4, z_rg_4⟩ := blk2cells (I4.out.box 0 rfl)
  go_wp2_with fail
  refine (heldPoly_any _ _ Ng.length _ Ng 1 _ rfl ((I4.out.rows 1 rfl).rd (by rw [marksR_length])) (by omega) (by omega) (by omega) (by omega)).mono ?_
  rintro e w5 ⟨rfl, hb⟩
  have I5 := Lib.hid (I4.out.step hb)
  clear hb
  clear u_rs_4 v_rs_4 x_rs_4 y_rs_4 z_rs_4 u_rg_4 v_rg_4 x_rg_4 y_rg_4 z_rg_4
  obtain ⟨u_rs_5, v_rs_5, x_rs_5, y_rs_5, z_rs_5⟩ := blk2cells (I5.out.box 2 rfl)
  obtain ⟨u_rg_5, v_rg_5, x_rg_5, y_rg_5, z_rg_5⟩ := blk2cells (I5.out.box 0 rfl)
  go_wp2_with fail
  refine (HIM.out _ ).mono ?_
  rintro e w6 ⟨vh, Nh, rfl, ho, hd, hb⟩
  have I6 := Lib.hid (I5.out.pushRows hb ho)
  have HDh := Lib.hid hd
  clear ho hb hd
  obtain ⟨Ah, kh, rfl, _, _, _⟩ := owns_shape (I6.out.rows 0 rfl).out
  have HZh := Lib.hid (rows_smallP HDh.out hlen)
  have z1h := HZh.out.1
  have z2h := HZh.out.2.1
  clear u_rs_5 v_rs_5 x_rs_5 y_rs_5 z_rs_5 u_rg_5 v_rg_5 x_rg_5 y_rg_5 z_rg_5
  obtain ⟨u_rs_6, v_rs_6, x_rs_6, y_rs_6, z_rs_6⟩ := blk2cells (I6.out.box 3 rfl)
  obtain ⟨u_rg_6, v_rg_6, x_rg_6, y_rg_6, z_rg_6⟩ := blk2cells (I6.out.box 1 rfl)
  go_wp2_with fail
  have hI := I6.out.allocBox #[.int .i64 rr.1, .slice Ah Nh.length kh] 24
  refine (eqPoly_any _ _ _ _ _ _ _ _ _ _ rfl rfl (by omega) (fun i hi => Nat.le_trans (HZh.out.2.2 i hi) (by omega)) (HDs.out.trans HDh.out.symm) ((hI.rows 1 rfl).rd rfl) (HYs.out.below hI.bel).rd).mono ?_
  rintro e w7 ⟨rfl, hb⟩
  have I7 := Lib.hid (hI.step hb)
  clear hb
  clear hI
  clear u_rs_6 v_rs_6 x_rs_6 y_rs_6 z_rs_6 u_rg_6 v_rg_6 x_rg_6 y_rg_6 z_rg_6
  obtain ⟨u_rs_7, v_rs_7, x_rs_7, y_rs_7, z_rs_7⟩ := blk2cells (I7.out.box 4 rfl)
  obtain ⟨u_rg_7, v_rg_7, x_rg_7, y_rg_7, z_rg_7⟩ := blk2cells (I7.out.box 2 rfl)
  obtain ⟨u_rh_7, v_rh_7, x_rh_7, y_rh_7, z_rh_7⟩ := blk2cells (I7.out.box 0 rfl)
  go_wp2_with fail
  refine (heldPoly_any _ _ Ng.length _ Ng 1 _ rfl ((I7.out.rows 3 rfl).rd (by rw [marksR_length])) (by omega) (by omega) (by omega) (by omega)).mono ?_
  rintro e w8 ⟨rfl, hb⟩
  have I8 := Lib.hid (I7.out.step hb)
  clear hb
  clear u_rs_7 v_rs_7 x_rs_7 y_rs_7 z_rs_7 u_rg_7 v_rg_7 x_rg_7 y_rg_7 z_rg_7 u_rh_7 v_rh_7 x_rh_7 y_rh_7 z_rh_7
  obtain ⟨u_rs_8, v_rs_8, x_rs_8, y_rs_8, z_rs_8⟩ := blk2cells (I8.out.box 4 rfl)
  obtain ⟨u_rg_8, v_rg_8, x_rg_8, y_rg_8, z_rg_8⟩ := blk2cells (I8.out.box 2 rfl)
  obtain ⟨u_rh_8, v_rh_8, x_rh_8, y_rh_8, z_rh_8⟩ := blk2cells (I8.out.box 0 rfl)
  go_wp2_with fail
  go_ret
  exact ⟨rfl, HBs.out.trans (I8.out.bel.mono HBs.out.size)⟩
end Go.Proofs.Ytnffpjdlpjkioaa

namespace Go.Proofs.Ytnffpjdlpjkioaa
open Go.ChangeShapes Go.WideShapes Go.ChangeAt Go.RowKit Go.Joins Go.Deep

section
variable {H : Type} {enc : TypeId × Value → H} {P : Program} {w : World} {base : Nat} {held : Bool}
/-- cells from an address on, as a list -/
theorem Rd_of_cells {a : Addr} {vs : List Value} (h : ∀ j v, vs[j]? = some v → w.cell? (a.add j) = some v) : Rd w (some a) vs := by
  by_cases h0 : vs = []
  · exact .inl h0
  · right
    obtain ⟨b, off, spot⟩ := a
    obtain ⟨v, vs', rfl⟩ : ∃ v vs', vs = v :: vs' := by cases vs with | nil => exact absurd rfl h0 | cons v vs' => exact ⟨v, vs', rfl⟩
    have h1 := h 0 v rfl
    have hspot : spot = none := by simpa [Addr.add] using World.cell?_spot h1
    subst hspot
    refine ⟨b, off, rfl, fun j u hj => ?_⟩
    have := h j u hj
    rwa [Addr.add_lit] at this
theorem ints_Rd {fuel : Nat} {t e : TypeId} {v : Value} {y : DataW H × List MemPlace} (ht : P.underlying t = some (.slice e)) (he : P.underlying e = some (.int .i64)) (hc : P.cellsOf e = 1)
    (hf : DataW.trod enc P w base (fun _ => true) held fuel t [v] = some y) :
    ∃ A n c xs, v = .slice A n c ∧ n = xs.length ∧ n ≤ maxLen ∧ Rd w A (iv xs) ∧ ∀ x ∈ xs, (Lit.int .i64 x).wf = true := by
  rcases open_ints ht he hc hf with ⟨hcs, _⟩ | ⟨a, len, cap, zs, hcs, _, hl, hm, hz, _, hcell, hwz⟩
  · injection hcs with hcs _
    exact ⟨none, 0, 0, [], hcs, rfl, Nat.zero_le _, .inl rfl, by simp⟩
  · injection hcs with hcs _
    simp only [if_true] at hz
    refine ⟨some a, len, cap, zs.take len, hcs, by rw [List.length_take, hz]; omega, by omega, ?_, fun x hx => hwz x (List.mem_of_mem_take hx)⟩
    refine Rd_of_cells fun j v hj => ?_
    have hjl : j < len := by
      have := (List.getElem?_eq_some_iff.1 hj).1
      simp [iv] at this; omega
    have h2 := hcell j (by omega)
    rw [h2]
    simp only [iv, List.getElem?_map, List.getElem?_take, hjl, if_true] at hj
    rw [List.getElem?_eq_getElem (show j < zs.length by omega)] at hj
    simp only [Option.map_some] at hj
    rw [← hj, List.getD, List.getElem?_eq_getElem (show j < zs.length by omega)]
    rfl
theorem open_intsl {r : Reach} {b0 : Nat} {t e : TypeId} {v : Value} {d : DataW H} {p : List MemPlace} (ht : P.underlying t = some (.slice e)) (he : P.underlying e = some (.int .i64)) (hc : P.cellsOf e = 1)
    (hv : Value.okWide P w r b0 t v) (h : DataW.Trod enc P w base (fun _ => true) held t v d p) :
    ∃ A n c xs, v = .slice A n c ∧ n = xs.length ∧ n ≤ maxLen ∧ Rd w A (iv xs) ∧ ∀ x ∈ xs, (Lit.int .i64 x).wf = true := by
  obtain ⟨a0, len0, cap0, rfl⟩ := okWide_slice ht hv
  obtain ⟨fuel, hf⟩ := h
  exact ints_Rd ht he hc hf

theorem rg_range (n : Nat) (f : Nat → Row) (i : Nat) (h : i < n) : rg ((List.range n).map f) i = f i := by
  simp [rg, List.getD, h]
theorem rows_RdR {fuel : Nat} {t e q : TypeId} {v : Value} {y : DataW H × List MemPlace} (ht : P.underlying t = some (.slice e)) (he : P.underlying e = some (.slice q)) (hq : P.underlying q = some (.int .i64)) (ce : P.cellsOf e = 1) (cq : P.cellsOf q = 1)
    (hf : DataW.trod enc P w base (fun _ => true) held fuel t [v] = some y) :
    ∃ A n c L, v = .slice A n c ∧ n = L.length ∧ n ≤ maxLen ∧ RdR w A L ∧ ∀ i, i < L.length → (rg L i).xs.length ≤ maxLen := by
  rcases open_int_rows ht he hq ce cq hf with ⟨hcs, _⟩ | ⟨a, len, cap, A, Ln, C, Z, hcs, _, hl, hm, _, hr⟩
  · injection hcs with hcs _
    exact ⟨none, 0, 0, [], hcs, rfl, Nat.zero_le _, ⟨.inl rfl, (fun i hi => by cases hi), (fun i hi => by cases hi)⟩, (fun i hi => by cases hi)⟩
  · injection hcs with hcs _
    have hlen : ∀ r, r < len → ((Z r).take (Ln r)).length = Ln r := fun r h => by
      obtain ⟨_, h2, _, h4, _⟩ := hr r (by omega)
      rw [List.length_take, h4]; omega
    refine ⟨some a, len, cap, (List.range len).map fun r => ⟨A r, C r, (Z r).take (Ln r)⟩, hcs, by simp, by omega, ⟨?_, ?_, ?_⟩, ?_⟩
    · refine Rd_of_cells fun j v hj => ?_
      have hjl : j < len := by
        have := (List.getElem?_eq_some_iff.1 hj).1
        simp [hv] at this; exact this
      rw [hv_get (by simpa using hjl), rg_range _ _ _ hjl] at hj
      obtain ⟨h1, _⟩ := hr j (by omega)
      rw [h1, ← hj, Row.val]
      simp only [hlen j hjl]
    · intro i hi
      have hil : i < len := by simpa using hi
      rw [rg_range _ _ _ hil]
      obtain ⟨_, h2, _, h4, _, h6, h7⟩ := hr i (by omega)
      simp only
      cases hA : A i with
      | none =>
        have := h6 hA
        left
        have : ((Z i).take (Ln i)) = [] := List.eq_nil_of_length_eq_zero (by rw [hlen i hil]; omega)
        rw [this]; rfl
      | some a' =>
        refine Rd_of_cells fun j v hj => ?_
        have hjl : j < Ln i := by
          have := (List.getElem?_eq_some_iff.1 hj).1
          rw [iv_length, hlen i hil] at this; exact this
        have h3 := (h7 a' hA).2 j (by omega)
        rw [h3]
        simp only [iv, List.getElem?_map, List.getElem?_take, hjl, if_true] at hj
        rw [List.getElem?_eq_getElem (show j < (Z i).length by omega)] at hj
        simp only [Option.map_some] at hj
        rw [← hj, List.getD, List.getElem?_eq_getElem (show j < (Z i).length by omega)]
        rfl
    · intro i hi
      have hil : i < len := by simpa using hi
      rw [rg_range _ _ _ hil]
      obtain ⟨_, h2, h3, _⟩ := hr i (by omega)
      simp only [hlen i hil]; exact h2
    · intro i hi
      have hil : i < len := by simpa using hi
      rw [rg_range _ _ _ hil]
      obtain ⟨_, h2, h3, _⟩ := hr i (by omega)
      simp only [hlen i hil]; omega
theorem open_rowsl {r : Reach} {b0 : Nat} {t e q : TypeId} {v : Value} {d : DataW H} {p : List MemPlace} (ht : P.underlying t = some (.slice e)) (he : P.underlying e = some (.slice q)) (hq : P.underlying q = some (.int .i64)) (ce : P.cellsOf e = 1) (cq : P.cellsOf q = 1)
    (hv : Value.okWide P w r b0 t v) (h : DataW.Trod enc P w base (fun _ => true) held t v d p) :
    ∃ A n c L, v = .slice A n c ∧ n = L.length ∧ n ≤ maxLen ∧ RdR w A L ∧ ∀ i, i < L.length → (rg L i).xs.length ≤ maxLen := by
  obtain ⟨a0, len0, cap0, rfl⟩ := okWide_slice ht hv
  obtain ⟨fuel, hf⟩ := h
  exact rows_RdR ht he hq ce cq hf
/-- a struct of a slice of ints and rows of rows: a module -/
theorem open_module {r : Reach} {b0 : Nat} {t q : TypeId} {f0 f1 : Field} {v : Value} {d : DataW H} {p : List MemPlace} (hs : P.underlying t = some (.struct #[f0, f1])) (hone : oneCellFields P #[f0, f1] = true) (hC : P.cellsOf t = 2)
    (h0 : P.underlying f0.type = some (.slice q)) (h1 : P.underlying f1.type = some (.slice f0.type)) (hq : P.underlying q = some (.int .i64)) (c0 : P.cellsOf f0.type = 1) (cq : P.cellsOf q = 1)
    (hv : Value.okWide P w r b0 t v) (h : DataW.Trod enc P w base (fun _ => true) held t v d p) :
    ∃ A n c xs A' n' c' L, v = .agg #[.slice A n c, .slice A' n' c'] ∧ n = xs.length ∧ n ≤ maxLen ∧ Rd w A (iv xs) ∧ n' = L.length ∧ n' ≤ maxLen ∧ RdR w A' L ∧ ∀ i, i < L.length → (rg L i).xs.length ≤ maxLen := by
  obtain ⟨c0', c1', y0, y1, m, rfl, rfl, rfl, hy0, hy1⟩ := open_agg2 hs hone hC hv h
  obtain ⟨A, n, c, xs, rfl, hn, hm, hR, hwf⟩ := ints_Rd h0 hq cq hy0
  obtain ⟨A', n', c', L, rfl, hn', hm', hR', hl'⟩ := rows_RdR h1 h0 hq c0 cq hy1
  exact ⟨A, n, c, xs, A', n', c', L, rfl, hn, hm, hR, hn', hm', hR', hl'⟩
end
end Go.Proofs.Ytnffpjdlpjkioaa

namespace Go.Proofs.Ytnffpjdlpjkioaa
open Go.RowKit Go.Maps Go.ChangeMaps Go.MapKept

/-- class n with one more form -/
def clsN (k m : Nat) (f : Nat → LL) (n : Nat) : LL := if 0 < n then f n ++ prodM (f (n - 1)) (formM k m k) else f n
/-- the classes of the forms -/
def clsF (k : Nat) : List Nat → Nat → LL
  | [], n => if n = 0 then [List.replicate k 0] else []
  | m :: ms, n => clsN k m (clsF k ms) n
theorem clsF_hom {k : Nat} : ∀ (ms : List Nat) (n : Nat), HomM k n (clsF k ms n)
  | [], n => by
    unfold clsF
    split
    · rename_i h; subst h; exact HomM.one k
    · exact HomM.nil
  | m :: ms, n => by
    unfold clsF clsN
    split
    · have h1 := (clsF_hom ms (n - 1)).prod (hom_form (m := m) (Nat.le_refl k))
      rw [show n - 1 + 1 = n by omega] at h1
      exact (clsF_hom ms n).app h1
    · exact clsF_hom ms n
theorem clsF_zero {k : Nat} : ∀ (ms : List Nat) (n : Nat), ms.length < n → clsF k ms n = []
  | [], n, h => by
    unfold clsF
    rw [if_neg (by simp at h; omega)]
  | m :: ms, n, h => by
    simp at h
    unfold clsF clsN
    rw [if_pos (by omega), clsF_zero ms n (by omega), clsF_zero ms (n - 1) (by omega)]
    rfl

/-- a row of maps, pairwise apart, each the polynomial of a bag of monomials -/
structure OwnPN (w : World) (B : Nat) (v : Value) (bs : List Nat) (f : Nat → LL) : Prop where
  out : w.ownsRow B 56 1 v bs.length (mv bs)
  inn : ∀ i, i < bs.length → PolyB w (bs.getD i 0) ((f i).map cod)
  ge : ∀ b ∈ bs, B ≤ b
  nd : bs.Nodup
section
variable {w w' : World} {B : Nat} {v : Value} {bs : List Nat} {f : Nat → LL}
theorem getD_memN {bs : List Nat} {i : Nat} (h : i < bs.length) : bs.getD i 0 ∈ bs := by simp [List.getD, h]
theorem OwnPN.lt (h : OwnPN w B v bs f) : ∀ b ∈ bs, b < w.heap.size := fun b hb => by
  obtain ⟨i, hi, e⟩ := List.mem_iff_getElem.1 hb
  have := (h.inn i hi).lt
  simpa [List.getD, hi, e] using this
theorem OwnPN.below (h : OwnPN w B v bs f) (hb : Below w.heap.size w w') : OwnPN w' B v bs f :=
  ⟨owns_keeps h.out (Keeps.of_below hb) (.inr (by simp)), fun i hi => (h.inn i hi).below hb, h.ge, h.nd⟩
theorem OwnPN.congr {g : Nat → LL} (h : OwnPN w B v bs f) (k : ∀ i, i < bs.length → Eqv (f i) (g i)) : OwnPN w B v bs g :=
  ⟨h.out, fun i hi => (h.inn i hi).congr (k i hi).cod, h.ge, h.nd⟩
theorem OwnPN.one {b : Nat} {M : LL} (h : PolyB w b (M.map cod)) (hb : B ≤ b) : OwnPN (w.alloc (.cells #[.map (some b)] 56)) B (.slice (some ⟨w.heap.size, 0, none⟩) 1 1) [b] (fun _ => M) := by
  have := OwnPB.one (B := B) h hb
  refine ⟨this.out, fun i hi => ?_, this.ge, List.pairwise_singleton _ _⟩
  have e : i = 0 := by simpa using hi
  subst e
  exact this.inn 0 hi
theorem OwnPN.cell {A : Option Addr} {n c i : Nat} (h : OwnPN w B (.slice A n c) bs f) (hi : i < bs.length) : ∃ g, A = some ⟨g, 0, none⟩ ∧ w.cell? ⟨g, i, none⟩ = some (.map (some (bs.getD i 0))) :=
  OwnPB.cell (Ls := (List.range bs.length).map f) ⟨h.out, fun j hj => by
    have e : ((List.range bs.length).map f).getD j [] = f j := by simp [List.getD, hj]
    rw [e]; exact h.inn j hj, by simp, h.ge⟩ hi
/-- a map of the row has been turned -/
theorem OwnPN.turn {i : Nat} {M : LL} (h : OwnPN w B v bs f) (hi : i < bs.length) (hk : Keeps w w' [some (bs.getD i 0)]) (hP : PolyB w' (bs.getD i 0) (M.map cod)) : OwnPN w' B v bs (fun j => if j = i then M else f j) := by
  refine ⟨owns_keeps h.out hk (.inr ?_), fun j hj => ?_, h.ge, h.nd⟩
  · have := (h.inn i hi).ne_own h.out
    simpa using this
  · by_cases e : j = i
    · subst e; simp only [if_true]; exact hP
    · rw [if_neg e]
      refine (h.inn j hj).keeps hk ?_
      simp only [List.mem_singleton, Option.some.injEq]
      intro e2
      have e1 : bs.getD j 0 = bs[j] := by simp [List.getD, hj]
      have e3 : bs.getD i 0 = bs[i] := by simp [List.getD, hi]
      rw [e1, e3] at e2
      have hp := List.pairwise_iff_getElem.1 h.nd
      rcases Nat.lt_trichotomy j i with hlt | hlt | hlt
      · exact hp j i hj hi hlt e2
      · exact e hlt
      · exact hp i j hi hj hlt e2.symm
theorem OwnPN.push {w1 w2 : World} {g cap b : Nat} {M : LL} {ob : Obj} (h : OwnPN w B v bs f) (hb : Below w.heap.size w w1) (hx : PolyB w1 b (M.map cod)) (hB : w.heap.size ≤ b) (hBB : B ≤ w.heap.size)
    (ho : w2.ownsRow B 56 1 (.slice (some ⟨g, 0, none⟩) (bs.length + 1) cap) (bs.length + 1) (mv bs ++ [.map (some b)])) (hg : (w1.alloc ob).grownBy w2 v.ownBlock) :
    OwnPN w2 B (.slice (some ⟨g, 0, none⟩) (bs ++ [b]).length cap) (bs ++ [b]) (fun j => if j = bs.length then M else f j) := by
  have h0 : OwnPB w B v bs ((List.range bs.length).map f) := ⟨h.out, fun j hj => by
    have e : ((List.range bs.length).map f).getD j [] = f j := by simp [List.getD, hj]
    rw [e]; exact h.inn j hj, by simp, h.ge⟩
  have h1 := h0.push hb hx (Nat.le_trans hBB hB) ho hg
  refine ⟨h1.out, fun i hi => ?_, h1.ge, ?_⟩
  · have := h1.inn i hi
    simp at hi
    by_cases e : i = bs.length
    · subst e
      rw [if_pos rfl]
      simpa [List.getD] using this
    · rw [if_neg e]
      have hlt : i < bs.length := by omega
      have e2 : ((List.range bs.length).map f ++ [M]).getD i [] = f i := by simp [List.getD, List.getElem?_append_left (show i < ((List.range bs.length).map f).length by simpa using hlt), hlt]
      rw [e2] at this
      exact this
  · rw [List.nodup_append]
    refine ⟨h.nd, List.pairwise_singleton _ _, fun a ha c hc e => ?_⟩
    rw [List.mem_singleton.1 hc] at e
    have := h.lt a ha
    omega
end

/-- the classes while one more form is taken in, from the top down: those above i are done -/
def clsM (k m : Nat) (f : Nat → LL) (i n : Nat) : LL := if i < n then clsN k m f n else f n
theorem clsM_top (k m : Nat) (f : Nat → LL) {i n : Nat} (h : n ≤ i) : clsM k m f i n = f n := by unfold clsM; rw [if_neg (by omega)]
theorem clsM_low (k m : Nat) (f : Nat → LL) (n : Nat) : clsM k m f 0 n = clsN k m f n := by
  unfold clsM clsN
  by_cases h : 0 < n
  · rw [if_pos h, if_pos h]
  · rw [if_neg h, if_neg h]
theorem formB_hom (m : Nat) {k : Nat} (hk : k ≤ 4) (hm : m < 2 ^ k) : ∃ L : LL, HomM k 1 L ∧ L = formM k m k ∧ Eqv (formB m) (L.map cod) := ⟨_, hom_form (Nat.le_refl k), rfl, formB_cod hk hm⟩

set_option maxRecDepth 100000 in
set_option maxHeartbeats 4000000 in
theorem classes_any (k : Nat) (A : Option Addr) (n c : Nat) (xs : List Int) (w : World) (hk : k ≤ 4) (hn : n = xs.length) (hn16 : n ≤ 16) (hR : Rd w A (iv xs)) (hx : ∀ x ∈ xs, 0 ≤ x ∧ x < 2 ^ k) :
    Calls Try.prog 46 #[.slice A n c] w fun e w' => ∃ v bs, e = .returned v ∧ bs.length = n + 1 ∧ OwnPN w' w.heap.size v bs (clsF k (xs.map Int.toNat).reverse) ∧ Below w.heap.size w w' := by
  have hmm := @run_makeMap Try.prog
  have e1 : (w.alloc (.map #[] 0)).heap.size = w.heap.size + 1 := by simp
  have HR := Lib.hid hR
  have Hn := Lib.hid hn
  have HX := Lib.hid hx
  clear hR hn hx
  go_enter Try.func46, Try.ntmps46
  go_wp2_with (first | (refine wpList_insert_poly _ rfl _ _ _ rfl w.heap.size [] 0 rfl rfl rfl (PolyC.made w) (I64.of (by omega) (by omega)) (by simp) ?_; intro w1 hq1 hk1 hs1) | go_in)
  rw [e1] at hs1
  have hB1 : Below w.heap.size w w1 := ((Below.refl _ _).alloc (Nat.le_refl _) _).trans (hk1.to_below (by simp) (by simp))
  have hP1 : PolyB w1 w.heap.size ([List.replicate k 0].map cod) := ⟨_, hq1, by rw [List.map_singleton, cod_rep0]; exact Eqv.refl _⟩
  clear hq1 hk1
  go_loopw [3, 12] (fun o i wr => ∃ (j c : Nat) (A : Option Addr) (bs : List Nat), i = .int .i64 j ∧ j ≤ n ∧ o = .slice A (j + 1) c ∧ bs.length = j + 1 ∧ OwnPN wr w.heap.size (.slice A (j + 1) c) bs (clsF k ((xs.map Int.toNat).take j).reverse) ∧ Below w.heap.size w wr) (fun _ i _ => n - (intOf i).toNat)
  case atStart =>
    refine ⟨0, 1, _, [w.heap.size], rfl, by omega, rfl, rfl, ?_, hB1.alloc (by omega) _⟩
    have h := OwnPN.one hP1 (Nat.le_refl _)
    rw [hs1] at h
    refine h.congr fun i hi => ?_
    have : i = 0 := by simpa using hi
    subst this
    exact Eqv.refl _
  case round =>
    obtain ⟨j, c1, A1, bs, rfl, hj, rfl, hbl, hO, hB⟩ := hrel
    have HO := Lib.hid hO
    have HB := Lib.hid hB
    have hsz := hB.size
    obtain ⟨wv, hwv⟩ : ∃ wv, wv = wr := ⟨_, rfl⟩
    subst hwv
    clear hO hB
    by_cases hlt : j < n
    · obtain ⟨ba, oa, rfl, hca0⟩ := HR.out.atI (k := j) (by rw [← Hn.out]; exact hlt)
      have hba := World.block_lt_of_cell? _ _ hca0
      have hca := (HB.out.cell hba).trans hca0
      obtain ⟨x0, x1⟩ := HX.out (xs.getD j 0) (by simp [List.getD, show j < xs.length by rw [← Hn.out]; exact hlt])
      have HTS : Hid (((xs.map Int.toNat).take (j + 1)).reverse = (xs.getD j 0).toNat :: ((xs.map Int.toNat).take j).reverse) := Lib.hid (by
        have hl : j < (xs.map Int.toNat).length := by rw [List.length_map, ← Hn.out]; exact hlt
        have hl2 : j < xs.length := by rw [← Hn.out]; exact hlt
        rw [List.take_succ_eq_append_getElem hl, List.reverse_append]
        simp [List.getD, hl2])
      clear hca0 hba
      generalize xs.getD j 0 = x at *
      obtain ⟨m, rfl⟩ := Int.eq_ofNat_of_zero_le x0
      have hm2 : m < 2 ^ k := by exact_mod_cast x1
      have hm16 : m < 16 := Nat.lt_of_lt_of_le hm2 (by have := Nat.pow_le_pow_right (n := 2) (by omega) hk; exact this)
      have HM2 := Lib.hid hm2
      clear x0 x1 hm2
      obtain ⟨ms, hms⟩ : ∃ ms, ms = ((xs.map Int.toNat).take j).reverse := ⟨_, rfl⟩
      rw [← hms] at HO HTS
      have HZ : Hid (clsF k ms (j + 1) = []) := Lib.hid (clsF_zero ms (j + 1) (by rw [hms]; simp; omega))
      clear hms
      have HOa := Lib.hid ((HO.out.below ((Below.refl wv.heap.size wv).alloc (Nat.le_refl _) (.map #[] 0))).out)
      rw [hbl] at HOa
      go_wp2_with (at_builtin; refine wpList_app1 _ _ _ _ _ etP (by rfl) (by rfl) w.heap.size (.slice A1 (j + 1) c1) (j + 1) (mv bs) (by rfl) (HOa.out.alloc _) _ (.map (some wv.heap.size)) (by rfl) (new_cell1 _ _ _ _) (by rfl) (by omega) (by simp; omega) ?_; (intro g2 c2 w3 hown3 hg3 hat3 hlt3; have HG3 := Lib.hid hg3; have HO3 := Lib.hid hown3; clear hown3 hg3 hat3 hlt3))
      have HP0 := Lib.hid (PolyB.made wv)
      have HPU := Lib.hid (OwnPN.push (M := []) HO.out ((Below.refl wv.heap.size wv).alloc (Nat.le_refl _) (.map #[] 0)) HP0.out (Nat.le_refl _) hsz (by rw [hbl]; exact HO3.out) HG3.out)
      have HB3 := Lib.hid (below_app2 (HB.out.trans (((Below.refl wv.heap.size wv).alloc (Nat.le_refl _) (.map #[] 0)).mono hsz)) (by simp; omega) HOa.out HG3.out)
      obtain ⟨bt, hbt⟩ : ∃ bt, bt = bs ++ [wv.heap.size] := ⟨_, rfl⟩
      have HN : Hid (OwnPN w3 w.heap.size (.slice (some ⟨g2, 0, none⟩) (j + 1 + 1) c2) bt (clsM k m (clsF k ms) (j + 1))) := Lib.hid (by
        have h := HPU.out
        rw [← hbt] at h
        have hl : bt.length = j + 1 + 1 := by rw [hbt]; simp [hbl]
        rw [hl] at h
        refine h.congr fun i hi => ?_
        rw [clsM_top _ _ _ (by omega), hbl]
        by_cases e : i = j + 1
        · subst e; rw [if_pos rfl, HZ.out]; exact Eqv.refl _
        · rw [if_neg e]; exact Eqv.refl _)
      have hbtl : bt.length = j + 2 := by rw [hbt]; simp [hbl]
      clear hbt hbl
      go_wp2_with fail
      go_loopw [6] (fun i wr => ∃ i1 : Nat, i = .int .i64 i1 ∧ i1 ≤ j + 1 ∧ OwnPN wr w.heap.size (.slice (some ⟨g2, 0, none⟩) (j + 1 + 1) c2) bt (clsM k m (clsF k ms) i1) ∧ Below w.heap.size w wr) (fun i _ => (intOf i).toNat)
      case atStart => exact ⟨j + 1, by go_num, by omega, HN.out, HB3.out⟩
      case round =>
        obtain ⟨i, rfl, hi, hON, hBB⟩ := hrel
        have HON := Lib.hid hON
        have HBB := Lib.hid hBB
        have hsb := hBB.size
        by_cases hi1 : 1 ≤ i
        · have hii : (1 : Int) ≤ (i : Int) := by omega
          have hix : ((i : Int) - 1).toNat = i - 1 := by omega
          have hin : (0 : Int) ≤ (i : Int) - 1 := by omega
          have hilt : (i : Int) < (j : Int) + 1 + 1 := by omega
          obtain ⟨_, ea, hc1⟩ := hON.cell (i := i) (by omega)
          cases ea
          obtain ⟨_, ea, hc2⟩ := hON.cell (i := i - 1) (by omega)
          cases ea
          have hg2 := World.block_lt_of_cell? _ _ hc1
          have hg2' := World.block_lt_of_cell? _ _ hc2
          have hin2 : (i : Int) - 1 < (j : Int) + 1 + 1 := by omega
          have hwi : IntKind.i64.wrap ((i : Int) - 1) = (i : Int) - 1 := by rw [IntKind.wrap_i64]; omega
          have KS := Lib.hid (fun w' (hb : Below wr.heap.size wr w') => show w'.cell? ⟨g2, i, none⟩ = some (.map (some (bt.getD i 0))) ∧ w'.cell? ⟨g2, i - 1, none⟩ = some (.map (some (bt.getD (i - 1) 0))) from ⟨(hb.cell hg2).trans hc1, (hb.cell hg2').trans hc2⟩)
          have HH := Lib.hid (fun n => clsF_hom (k := k) ms n)
          have HFM : Hid (HomM k 1 (formM k m k)) := Lib.hid (hom_form (Nat.le_refl k))
          have HPi : Hid (PolyB wr (bt.getD i 0) ((clsF k ms i).map cod)) := Lib.hid (by have h := hON.inn i (by omega); rwa [clsM_top _ _ _ (Nat.le_refl _)] at h)
          have HPj : Hid (PolyB wr (bt.getD (i - 1) 0) ((clsF k ms (i - 1)).map cod)) := Lib.hid (by have h := hON.inn (i - 1) (by omega); rwa [clsM_top _ _ _ (by omega)] at h)
          have HPR : Hid (HomM k i (prodM (clsF k ms (i - 1)) (formM k m k))) := Lib.hid (by have h := (HH.out (i - 1)).prod HFM.out; rwa [show i - 1 + 1 = i by omega] at h)
          have HTU := Lib.hid (fun (w' : World) (M : LL) (h : OwnPN wr w.heap.size (.slice (some ⟨g2, 0, none⟩) (j + 1 + 1) c2) bt (clsM k m (clsF k ms) i)) => h.below (w' := w'))
          have HB0 := Lib.hid (Below.drew (Below.refl wr.heap.size wr))
          clear hON hBB hc1 hc2 hg2 hg2'
          go_wp2_with fail
          go_region_held3 (fun w' => w'.cell? ⟨g2, i, none⟩ = some (.map (some (bt.getD i 0))) ∧ w'.cell? ⟨g2, i - 1, none⟩ = some (.map (some (bt.getD (i - 1) 0))))
            (first | exact KS.out _ HB0.out | exact KS.out _ HB1.out | exact KS.out _ HB2.out | exact HKS.out)
            (first
              | (go_at_call 79; refine (formOf_any m wr.drew hm16).mono ?_; rintro e w4 ⟨gf, rfl, hgf, hPf, hbf⟩; have HPf := Lib.hid (hPf.congr (formB_cod hk HM2.out)); have HB1 := Lib.hid (HB0.out.trans hbf); clear hPf hbf)
              | (go_at_call 73; refine (times_any (bt.getD (i - 1) 0) gf ((clsF k ms (i - 1)).map cod) ((formM k m k).map cod) w4 (HPj.out.below HB1.out) HPf.out (by rw [prodB_cod (HH.out (i - 1)).len HFM.out.len]; exact HPR.out.cb (by omega) hk)).mono ?_; rintro e w5 ⟨gt, rfl, hgt, hPt, hbt⟩; rw [prodB_cod (HH.out (i - 1)).len HFM.out.len] at hPt; have HPt := Lib.hid hPt; have HB2 := Lib.hid (HB1.out.trans (hbt.mono HB1.out.size)); clear hPt hbt)
              | (go_at_call 72; refine (plus_any (bt.getD i 0) gt _ _ w5 (HPi.out.below HB2.out) HPt.out (by have := HPi.out.lt; have := HB1.out.size; omega) ((HH.out i).cb (by omega) hk) (HPR.out.cb (by omega) hk)).mono ?_; rintro e w6 ⟨rfl, hP6, hk6⟩; have HP6 := Lib.hid hP6; have HK6 := Lib.hid hk6; have HO6 := Lib.hid (OwnPN.turn (M := clsF k ms i ++ prodM (clsF k ms (i - 1)) (formM k m k)) (HON.out.below HB2.out) (by omega) HK6.out (by rw [List.map_append]; exact HP6.out)); have HKS : Hid (w6.cell? ⟨g2, i, none⟩ = some (.map (some (bt.getD i 0))) ∧ w6.cell? ⟨g2, i - 1, none⟩ = some (.map (some (bt.getD (i - 1) 0)))) := Lib.hid (by obtain ⟨_, ea, hc1⟩ := HO6.out.cell (i := i) (by omega); cases ea; obtain ⟨_, ea, hc2⟩ := HO6.out.cell (i := i - 1) (by omega); cases ea; exact ⟨hc1, hc2⟩); clear hP6 hk6))
          go_wp2_with fail
          go_roundw
          case rel =>
            refine ⟨i - 1, by have e : ((i - 1 : Nat) : Int) = (i : Int) - 1 := by omega
                              rw [e], by omega, HO6.out.congr fun n hn => ?_, (HBB.out.trans (HB2.out.mono hsb)).trans (HK6.out.to_below (by have := HB2.out.size; omega) (by simp only [List.mem_singleton, Option.some.injEq]; rintro x rfl; exact HON.out.ge _ (getD_memN (by omega))))⟩
            by_cases e : n = i
            · subst e
              rw [if_pos rfl]
              have e2 : clsM k m (clsF k ms) (n - 1) n = clsF k ms n ++ prodM (clsF k ms (n - 1)) (formM k m k) := by
                unfold clsM clsN
                rw [if_pos (by omega), if_pos (by omega)]
              rw [e2]
              exact Eqv.refl _
            · rw [if_neg e]
              have e2 : clsM k m (clsF k ms) (i - 1) n = clsM k m (clsF k ms) i n := by
                unfold clsM
                by_cases h : i < n
                · rw [if_pos h, if_pos (by omega)]
                · rw [if_neg h, if_neg (by omega)]
              rw [e2]
              exact Eqv.refl _
          case measure => simp [intOf]; omega
        · have ei : i = 0 := by omega
          have hii : ¬ (1 : Int) ≤ (i : Int) := by omega
          rw [ei] at HON
          clear ei hON hBB
          go_wp2_with fail
          go_roundw
          case rel =>
            refine ⟨j + 1, c2, some ⟨g2, 0, none⟩, bt, by go_num, by omega, rfl, hbtl, ?_, HBB.out⟩
            rw [HTS.out]
            refine HON.out.congr fun n hn => ?_
            rw [clsM_low]
            exact Eqv.refl _
          case measure => simp [intOf]; omega
    · obtain rfl : j = n := by omega
      have e : (xs.map Int.toNat).take j = xs.map Int.toNat := List.take_of_length_le (by rw [List.length_map, ← Hn.out]; exact Nat.le_refl _)
      rw [e] at HO
      clear e
      go_wp2_with fail
      go_ret
      exact ⟨_, bs, rfl, hbl, HO.out, HB.out⟩
end Go.Proofs.Ytnffpjdlpjkioaa

namespace Go.Proofs.Ytnffpjdlpjkioaa
open Go.RowKit
set_option maxRecDepth 100000 in
set_option maxHeartbeats 4000000 in
theorem l10Classes_any (k : Nat) (A0 : Option Addr) (n c0 : Nat) (xs : List Int) (w : World) (hk0 : 0 < k) (hk : k ≤ 4) (hn : n = xs.length) (hn16 : n ≤ 16) (hR : Rd w A0 (iv xs)) (hx : ∀ x ∈ xs, 0 ≤ x ∧ x < 2 ^ k) :
    Calls Try.prog 42 #[.int .i64 k, .slice A0 n c0] w fun e w' => ∃ v L, e = .returned v ∧ L.length = n + 1 ∧ OwnY w' w.heap.size v L ∧ cdat L = (List.range (n + 1)).map (fun i => nf (clsF k (xs.map Int.toNat).reverse i)) ∧ Below w.heap.size w w' := by
  have hmk := run_make_row' (P := Try.prog) 30 2 (.int .i64 0) 8 Try.underlying30 infoI rfl .i64 .i64 k (by omega) (by omega)
  have hO := made_own w w.heap.size k (Nat.le_refl _) (by omega)
  have HU := Lib.hid (RdY.unit ((Below.refl _ _).alloc (Nat.le_refl _) _) hO)
  have HR := Lib.hid hR
  have Hn := Lib.hid hn
  have HX := Lib.hid hx
  clear hO hR hn hx
  go_enter Try.func42, Try.ntmps42
  go_wp2_with fail
  go_loopw [5, 6] (fun o i wr => ∃ (j c : Nat) (A : Option Addr) (L : List Cub), i = .int .i64 j ∧ j ≤ n ∧ o = .slice A (j + 1) c ∧ L.length = j + 1 ∧ cdat L = ((List.range (j + 1)).map (clsF k ((xs.map Int.toNat).take j).reverse)).map nf ∧ OwnY wr w.heap.size (.slice A (j + 1) c) L ∧ Below w.heap.size w wr) (fun _ i _ => n - (intOf i).toNat)
  case atStart => exact ⟨0, 1, _, [⟨some ⟨w.heap.size + 1, 0, none⟩, 1, [⟨some ⟨w.heap.size, 0, none⟩, k, List.replicate k 0⟩]⟩], rfl, by omega, rfl, rfl, rfl, (by have h := OwnY.one (B := w.heap.size) (x := ⟨some ⟨w.heap.size + 1, 0, none⟩, 1, [⟨some ⟨w.heap.size, 0, none⟩, k, List.replicate k 0⟩]⟩) (by simpa using HU.out) (by simp; omega); simp only [World.size_alloc] at h; exact h), (((Below.refl _ _).alloc (Nat.le_refl _) _).alloc (by simp) _).alloc (by simp; omega) _⟩
  case round =>
    obtain ⟨j, c, A, L, rfl, hj, rfl, hbl, hcd, hO, hB⟩ := hrel
    have HO := Lib.hid hO
    have HB := Lib.hid hB
    have HCL := Lib.hid hcd
    have hsz := hB.size
    obtain ⟨wv, hwv⟩ : ∃ wv, wv = wr := ⟨_, rfl⟩
    subst hwv
    clear hO hB hcd
    by_cases hlt : j < n
    · obtain ⟨ba, oa, rfl, hca0⟩ := HR.out.atI (k := j) (by rw [← Hn.out]; exact hlt)
      have hba := World.block_lt_of_cell? _ _ hca0
      have hca := (HB.out.cell hba).trans hca0
      obtain ⟨x0, x1⟩ := HX.out (xs.getD j 0) (by simp [List.getD, show j < xs.length by rw [← Hn.out]; exact hlt])
      have HTT : Hid (((xs.map Int.toNat).take (j + 1)).reverse = (xs.getD j 0).toNat :: ((xs.map Int.toNat).take j).reverse) := Lib.hid (by
        have hl : j < (xs.map Int.toNat).length := by rw [List.length_map, ← Hn.out]; exact hlt
        have hl2 : j < xs.length := by rw [← Hn.out]; exact hlt
        rw [List.take_succ_eq_append_getElem hl, List.reverse_append]
        simp [List.getD, hl2])
      clear hca0 hba
      generalize xs.getD j 0 = x at *
      obtain ⟨m, rfl⟩ := Int.eq_ofNat_of_zero_le x0
      have hm2 : m < 2 ^ k := by exact_mod_cast x1
      have hm16 : m < 16 := Nat.lt_of_lt_of_le hm2 (by have := Nat.pow_le_pow_right (n := 2) (by omega) hk; exact this)
      clear x0 x1 hm2
      obtain ⟨ms, hms⟩ : ∃ ms, ms = ((xs.map Int.toNat).take j).reverse := ⟨_, rfl⟩
      rw [← hms] at HCL HTT
      have HZ : Hid (clsF k ms (j + 1) = []) := Lib.hid (clsF_zero ms (j + 1) (by rw [hms]; simp; omega))
      clear hms
      have HH := Lib.hid (fun i => clsF_hom (k := k) ms i)
      have HFM : Hid (HomM k 1 (formM k m k)) := Lib.hid (hom_form (Nat.le_refl k))
      have HLD : Hid (∀ i, i ≤ j → dat (cg L i).rows = nf (clsF k ms i)) := Lib.hid fun i hi => by
        have h := cub_dat HCL.out (i := i) (by omega)
        have e : ((List.range (j + 1)).map (clsF k ms)).getD i [] = clsF k ms i := by simp [List.getD, show i < j + 1 by omega]
        rwa [e] at h
      have HLF := Lib.hid (fun W => l08Form_any k m W (by omega) (by unfold Sm; omega))
      go_wp2_with fail
      refine (HLF.out _).mono ?_
      rintro e wf ⟨Af, cf, RF, rfl, hdF, hyF, hcF, hbF⟩
      have HDF := Lib.hid hdF
      have HYF0 := Lib.hid hyF
      have HBF := Lib.hid (HB.out.trans (hbF.mono hsz))
      have HOF := Lib.hid (HO.out.below hbF)
      have hszf := HBF.out.size
      clear hdF hyF hcF hbF HLF
      obtain ⟨wz, hwz⟩ : ∃ wz, wz = wf := ⟨_, rfl⟩
      subst hwz
      have HOz := HOF
      have HYF := HYF0
      go_wp2_with fail
      go_loopw [8, 9] (fun o i wr => ∃ (i1 cn : Nat) (An : Option Addr) (Ln : List Cub), i = .int .i64 i1 ∧ i1 ≤ j + 2 ∧ o = .slice An i1 cn ∧ Ln.length = i1 ∧ cdat Ln = ((List.range i1).map (clsN k m (clsF k ms))).map nf ∧ OwnY wr wz.heap.size (.slice An i1 cn) Ln ∧ Below wz.heap.size wz wr) (fun _ i _ => j + 2 - (intOf i).toNat)
      case atStart => exact ⟨0, 0, some ⟨wz.heap.size, 0, none⟩, [], rfl, by omega, rfl, rfl, rfl, OwnY.made wz (Nat.le_refl _), (Below.refl _ _).alloc (Nat.le_refl _) _⟩
      case round =>
        obtain ⟨i, cn, An, Ln, rfl, hi, rfl, hbn, hcd, hON, hBZ⟩ := hrel
        have HON := Lib.hid hON
        have HBZ := Lib.hid hBZ
        have HCD := Lib.hid hcd
        have hzs := hBZ.size
        clear hON hBZ hcd
        by_cases hil : i < j + 2
        · have HTS : Hid (((List.range (i + 1)).map (clsN k m (clsF k ms))).map nf = ((List.range i).map (clsN k m (clsF k ms))).map nf ++ [nf (clsN k m (clsF k ms) i)]) := Lib.hid (by
            rw [List.range_succ, List.map_append, List.map_append]; rfl)
          have HPR : Hid (0 < i → HomM k i (prodM (formM k m k) (clsF k ms (i - 1)))) := Lib.hid fun h0 => by
            have h := HFM.out.prod (HH.out (i - 1))
            rwa [show 1 + (i - 1) = i by omega] at h
          have HB0 : Hid (Below wr.heap.size wr (wr.alloc (.cells #[] 30))) := Lib.hid ((Below.refl _ _).alloc (Nat.le_refl _) _)
          have HY0 : Hid (RdY (wr.alloc (.cells #[] 30)) (some ⟨wr.heap.size, 0, none⟩) []) := Lib.hid (RdY.nil _ _)
          have HD0 : Hid (dat ([] : List Row) = nf []) := Lib.hid rfl
          have hii : (i : Int) ≤ (j : Int) + 1 := by omega
          by_cases h0 : 0 < i
          · have hix : ((i : Int) - 1).toNat = i - 1 := by omega
            have hin : (0 : Int) ≤ (i : Int) - 1 := by omega
            by_cases hiv : i ≤ j
            · have h0i : (0 : Int) < (i : Int) := by omega
              have hivi : (i : Int) < (j : Int) + 1 := by omega
              obtain ⟨_, eA1, hcA1⟩ := (HOz.out.below (HBZ.out.trans (HB0.out.mono hzs))).cell (i := i) (by omega)
              cases eA1
              have HYL := Lib.hid ((HOz.out.below (HBZ.out.trans (HB0.out.mono hzs))).inn i (by omega))
              have HDL := Lib.hid (HLD.out i hiv)
              unfold Cub.val at hcA1
              generalize cg L i = x1 at *
              have HYL0 := HYL
              obtain ⟨_, eA2, hcA2⟩ := (HOz.out.below (HBZ.out.trans (HB0.out.mono hzs))).cell (i := i - 1) (by omega)
              cases eA2
              have HA2 := Lib.hid (times_hom (A := Af) (c := cf) (B := (cg L (i - 1)).A) (c' := (cg L (i - 1)).c) (W := (wr.alloc (.cells #[] 30))) hk0 hk HFM.out (HH.out (i - 1)) (by omega) (by omega) HDF.out (HLD.out (i - 1) (by omega)) (HYF.out.below (HBZ.out.trans (HB0.out.mono hzs))).rd ((HOz.out.below (HBZ.out.trans (HB0.out.mono hzs))).inn (i - 1) (by omega)).rd)
              unfold Cub.val at hcA2
              generalize cg L (i - 1) = x2 at *
              go_wp2_with fail
              refine HA2.out.mono ?_
              rintro e W2 ⟨AS, cS, RS, rfl, hdS, hyS, hcS, hbS⟩
              have HDS2 := Lib.hid hdS
              have HYS2 := Lib.hid hyS
              have HBS2 := Lib.hid (HB0.out.trans (hbS.mono HB0.out.size))
              have HYO2 := Lib.hid (HYL.out.below hbS)
              clear hdS hyS hbS hcA2
              have HS2 := Lib.hid (sum_hom (A := x1.A) (c := x1.c) (B := AS) (c' := cS) (W := W2) hk0 hk (HH.out i) (HPR.out h0) (by omega) (by omega) HDL.out HDS2.out HYO2.out.rd HYS2.out.rd)
              go_wp2_with fail
              refine HS2.out.mono ?_
              rintro e V2 hres2
              obtain ⟨AT, cT, RT, rfl, hdT, hyT, hcT, hbT⟩ := hres2.toY
              have HD2 := Lib.hid hdT
              have HY2 := Lib.hid hyT
              have HB2 := Lib.hid (HBS2.out.trans (hbT.mono HBS2.out.size))
              clear hdT hyT hcT hbT hres2
              have HOn := Lib.hid ((HON.out.below HB2.out).out)
              have HQf : Hid (dat RT = nf (clsN k m (clsF k ms) i)) := Lib.hid (by
                have h := HD2.out
                unfold clsN
                rw [if_pos h0, h]
                exact nf_eqv ((Eqv.refl _).app (Eqv.of_perm (prodM_comm _ _)))
                )
              have hsV := HB2.out.size
              rw [hbn] at HOn
              go_wp2_with (at_builtin; refine wpList_app1 _ _ _ _ _ etY2 (by rfl) (by rfl) wz.heap.size (.slice An i cn) i (cvs Ln) (by rfl) (HOn.out.alloc _) _ (.slice AT RT.length cT) (by rfl) (by first | exact new_cell _ _ _ | exact new_cell1 _ _ _ _) (by rfl) (by omega) (by simp; omega) ?_; (intro g2 c2 w3 hown3 hg3 hat3 hlt3; have HG3 := Lib.hid hg3; have HO3 := Lib.hid hown3; clear hown3 hg3 hat3 hlt3))
              have HPU := Lib.hid (OwnY.push (x := (⟨AT, cT, RT⟩ : Cub)) HON.out HB2.out HY2.out (by rw [hbn]; exact HO3.out) HG3.out)
              have HB3 := Lib.hid (below_app2 (HBZ.out.trans (HB2.out.mono hzs)) (by omega) HOn.out HG3.out)
              go_roundw
              case rel => exact ⟨i + 1, c2, some ⟨g2, 0, none⟩, Ln ++ [⟨AT, cT, RT⟩], by go_num, by omega, by rfl, by simp [hbn], by rw [HTS.out, cdat_snoc, HCD.out, HQf.out], by simpa [hbn] using HPU.out, HB3.out⟩
              case measure => simp [intOf]; omega
            · have h0i : (0 : Int) < (i : Int) := by omega
              have hivi : ¬ (i : Int) < (j : Int) + 1 := by omega
              have ei : Hid (i = j + 1) := Lib.hid (by omega)
              obtain ⟨_, eA1, hcA1⟩ := (HOz.out.below (HBZ.out.trans (HB0.out.mono hzs))).cell (i := i - 1) (by omega)
              cases eA1
              have HA1 := Lib.hid (times_hom (A := Af) (c := cf) (B := (cg L (i - 1)).A) (c' := (cg L (i - 1)).c) (W := (wr.alloc (.cells #[] 30))) hk0 hk HFM.out (HH.out (i - 1)) (by omega) (by omega) HDF.out (HLD.out (i - 1) (by omega)) (HYF.out.below (HBZ.out.trans (HB0.out.mono hzs))).rd ((HOz.out.below (HBZ.out.trans (HB0.out.mono hzs))).inn (i - 1) (by omega)).rd)
              unfold Cub.val at hcA1
              generalize cg L (i - 1) = x1 at *
              go_wp2_with fail
              refine HA1.out.mono ?_
              rintro e W1 ⟨AS, cS, RS, rfl, hdS, hyS, hcS, hbS⟩
              have HDS1 := Lib.hid hdS
              have HYS1 := Lib.hid hyS
              have HBS1 := Lib.hid (HB0.out.trans (hbS.mono HB0.out.size))
              have HYO1 := Lib.hid (HY0.out.below hbS)
              clear hdS hyS hbS hcA1
              have HS1 := Lib.hid (sum_hom (A := (some ⟨wr.heap.size, 0, none⟩)) (c := 0) (B := AS) (c' := cS) (W := W1) hk0 hk (HomM.nil (k := k) (d := 0)) (HPR.out h0) (by omega) (by omega) HD0.out HDS1.out HYO1.out.rd HYS1.out.rd)
              go_wp2_with fail
              refine HS1.out.mono ?_
              rintro e V1 hres1
              obtain ⟨AT, cT, RT, rfl, hdT, hyT, hcT, hbT⟩ := hres1.toY
              have HD1 := Lib.hid hdT
              have HY1 := Lib.hid hyT
              have HB1 := Lib.hid (HBS1.out.trans (hbT.mono HBS1.out.size))
              clear hdT hyT hcT hbT hres1
              have HOn := Lib.hid ((HON.out.below HB1.out).out)
              have HQf : Hid (dat RT = nf (clsN k m (clsF k ms) i)) := Lib.hid (by
                have h := HD1.out
                unfold clsN
                rw [if_pos h0, h, ei.out, HZ.out, List.nil_append, List.nil_append, Nat.add_sub_cancel]
                exact nf_perm (prodM_comm _ _)
                )
              have hsV := HB1.out.size
              rw [hbn] at HOn
              go_wp2_with (at_builtin; refine wpList_app1 _ _ _ _ _ etY2 (by rfl) (by rfl) wz.heap.size (.slice An i cn) i (cvs Ln) (by rfl) (HOn.out.alloc _) _ (.slice AT RT.length cT) (by rfl) (by first | exact new_cell _ _ _ | exact new_cell1 _ _ _ _) (by rfl) (by omega) (by simp; omega) ?_; (intro g2 c2 w3 hown3 hg3 hat3 hlt3; have HG3 := Lib.hid hg3; have HO3 := Lib.hid hown3; clear hown3 hg3 hat3 hlt3))
              have HPU := Lib.hid (OwnY.push (x := (⟨AT, cT, RT⟩ : Cub)) HON.out HB1.out HY1.out (by rw [hbn]; exact HO3.out) HG3.out)
              have HB3 := Lib.hid (below_app2 (HBZ.out.trans (HB1.out.mono hzs)) (by omega) HOn.out HG3.out)
              go_roundw
              case rel => exact ⟨i + 1, c2, some ⟨g2, 0, none⟩, Ln ++ [⟨AT, cT, RT⟩], by go_num, by omega, by rfl, by simp [hbn], by rw [HTS.out, cdat_snoc, HCD.out, HQf.out], by simpa [hbn] using HPU.out, HB3.out⟩
              case measure => simp [intOf]; omega
          · have hiv : i ≤ j := by omega
            have h0i : ¬ (0 : Int) < (i : Int) := by omega
            have hivi : (i : Int) < (j : Int) + 1 := by omega
            obtain ⟨_, eA1, hcA1⟩ := (HOz.out.below (HBZ.out.trans (HB0.out.mono hzs))).cell (i := i) (by omega)
            cases eA1
            have HYL := Lib.hid ((HOz.out.below (HBZ.out.trans (HB0.out.mono hzs))).inn i (by omega))
            have HDL := Lib.hid (HLD.out i hiv)
            unfold Cub.val at hcA1
            generalize cg L i = x1 at *
            have HOn := Lib.hid ((HON.out.below HB0.out).out)
            have HQf : Hid (dat x1.rows = nf (clsN k m (clsF k ms) i)) := Lib.hid (by
              have h := HDL.out
              unfold clsN
              rw [if_neg h0]
              exact h
              )
            have hsV := HB0.out.size
            rw [hbn] at HOn
            go_wp2_with (at_builtin; refine wpList_app1 _ _ _ _ _ etY2 (by rfl) (by rfl) wz.heap.size (.slice An i cn) i (cvs Ln) (by rfl) (HOn.out.alloc _) _ (.slice x1.A x1.rows.length x1.c) (by rfl) (by first | exact new_cell _ _ _ | exact new_cell1 _ _ _ _) (by rfl) (by omega) (by simp; omega) ?_; (intro g2 c2 w3 hown3 hg3 hat3 hlt3; have HG3 := Lib.hid hg3; have HO3 := Lib.hid hown3; clear hown3 hg3 hat3 hlt3))
            have HPU := Lib.hid (OwnY.push (x := (⟨x1.A, x1.c, x1.rows⟩ : Cub)) HON.out HB0.out HYL.out (by rw [hbn]; exact HO3.out) HG3.out)
            have HB3 := Lib.hid (below_app2 (HBZ.out.trans (HB0.out.mono hzs)) (by omega) HOn.out HG3.out)
            go_roundw
            case rel => exact ⟨i + 1, c2, some ⟨g2, 0, none⟩, Ln ++ [⟨x1.A, x1.c, x1.rows⟩], by go_num, by omega, by rfl, by simp [hbn], by rw [HTS.out, cdat_snoc, HCD.out, HQf.out], by simpa [hbn] using HPU.out, HB3.out⟩
            case measure => simp [intOf]; omega
        · have ei : i = j + 2 := by omega
          have hii : ¬ (i : Int) ≤ (j : Int) + 1 := by omega
          have HEI := Lib.hid ei
          have hbn2 : Ln.length = j + 1 + 1 := by omega
          have HON2 : Hid (OwnY wr wz.heap.size (.slice An (j + 1 + 1) cn) Ln) := Lib.hid (by have h := HON.out; rw [ei] at h; exact h)
          have HCD2 : Hid (cdat Ln = ((List.range (j + 1 + 1)).map (clsN k m (clsF k ms))).map nf) := Lib.hid (by have h := HCD.out; rw [ei] at h; exact h)
          clear ei
          go_wp2_with fail
          go_roundw
          case rel => exact ⟨j + 1, cn, An, Ln, by go_num, by omega, by rw [HEI.out], hbn2, by rw [HTT.out]; exact HCD2.out, HON2.out.mono (by omega), HBF.out.trans (HBZ.out.mono hszf)⟩
          case measure => simp [intOf]; omega
    · obtain rfl : j = n := by omega
      have e : (xs.map Int.toNat).take j = xs.map Int.toNat := List.take_of_length_le (by rw [List.length_map, ← Hn.out]; exact Nat.le_refl _)
      rw [e, List.map_map] at HCL
      clear e
      go_wp2_with fail
      go_ret
      exact ⟨_, L, rfl, hbl, HO.out, HCL.out, HB.out⟩
end Go.Proofs.Ytnffpjdlpjkioaa

namespace Go.Proofs.Ytnffpjdlpjkioaa
open Go.RowKit

def isMat (c : Int) (xs : List Int) : Bool := inB c 0 60 && (decide (xs.length ≤ 200) && xs.all fun x => maskB x c.toNat)
theorem inB_true {n lo hi : Int} (h : inB n lo hi = true) : lo ≤ n ∧ n ≤ hi := by simpa [inB] using h

end Go.Proofs.Ytnffpjdlpjkioaa

namespace Go.Proofs.Ytnffpjdlpjkioaa
open Go.RowKit Go.Maps Go.ChangeMaps Go.MapKept

/-- a form of k variables -/
def formOk (k : Nat) (x : Int) : Bool := inB x 0 ((2 ^ k : Nat) - 1)
theorem formOk_iff {k : Nat} {x : Int} : formOk k x = true ↔ 0 ≤ x ∧ x < 2 ^ k := by
  unfold formOk
  rw [inB_iff]
  have e : ((2 ^ k : Nat) : Int) = (2 : Int) ^ k := by simp
  rw [e]
  omega
theorem isForm_any (x : Int) (k : Nat) (hk : k ≤ 60) (w : World) : Calls Try.prog 45 #[.int .i64 x, .int .i64 k] w fun e w' => e = .returned (.bool (formOk k x)) ∧ w = w' := by
  have hmin : min k 64 = k := by omega
  have hp : (2 : Nat) ^ k ≤ 2 ^ 60 := Nat.pow_le_pow_right (by omega) hk
  have hp1 : 1 ≤ (2 : Nat) ^ k := Nat.one_le_two_pow
  have hs : wrap64 ((2 : Int) ^ k) = ((2 ^ k : Nat) : Int) := shl_small' hk
  have HF := Lib.hid (show inB x 0 (((2 ^ k : Nat) : Int) - 1) = formOk k x from rfl)
  generalize (2 : Nat) ^ k = z at *
  have hw : IntKind.i64.wrap ((z : Int) - 1) = (z : Int) - 1 := by rw [IntKind.wrap_i64]; omega
  go_enter Try.func45, Try.ntmps45
  go_wp2_with fail
  refine (in_any x 0 ((z : Int) - 1) w).mono ?_
  rintro e w' ⟨rfl, rfl⟩
  rw [HF.out]
  go_wp2_with fail
  go_ret
  exact ⟨rfl, rfl⟩
theorem classForm_closure (k : Nat) (hk : k ≤ 60) (mb : Nat) (w : World) (hm : w.cell? ⟨mb, 0, none⟩ = some (.int .i64 k)) (x : Int) :
    Asks Try.prog 44 (.pointer (some ⟨mb, 0, none⟩)) w (.int .i64 x) (formOk k x) := by
  intro m
  go_enter Try.func44, Try.ntmps44
  go_wp2_with (go_at_call 45; refine (isForm_any x k hk _).mono ?_; rintro e w' ⟨rfl, rfl⟩)
  go_ret
  exact ⟨rfl, m, rfl⟩
theorem keeps_cell {w w' : World} {S : List (Option Nat)} {p : Addr} {v : Value} (hk : Keeps w w' S) (h : w.cell? p = some v) (hn : some p.block ∉ S) : w'.cell? p = some v := (World.cell?_of_block (hk.block _ (World.block_lt_of_cell? w p h) hn)).trans h
/-- what ClassOfForms answers -/
def classF (k : Int) (xs : List Int) (i : Int) : Int × LL × Int :=
  if inB k 1 4 = true then if inB xs.length 1 16 = true then if xs.all (formOk k.toNat) = true then if inB i 0 xs.length = true then (k, nf (clsF k.toNat (xs.map Int.toNat).reverse i.toNat), 0) else (0, [], 2) else (0, [], 2) else (0, [], 2) else (0, [], 2)

set_option maxRecDepth 100000 in
set_option maxHeartbeats 4000000 in
theorem implClassOfForms_any (k : Int) (A : Option Addr) (n c : Nat) (xs : List Int) (i : Int) (w : World) (hn : n = xs.length) (hR : Rd w A (iv xs)) :
    Calls Try.prog 17 #[.int .i64 k, .slice A n c, .int .i64 i] w (ResPoly (classF k xs i) w) := by
  have hb0 := blk_alloc (blk_new w (.cells #[.int .i64 k] 2)) (.cells #[.int .i64 0, .slice none 0 0] 24)
  have hb := blk_new1 w (.cells #[.int .i64 k] 2) (.cells #[.int .i64 0, .slice none 0 0] 24)
  have hB : Below w.heap.size w ((w.alloc (.cells #[.int .i64 k] 2)).alloc (.cells #[.int .i64 0, .slice none 0 0] 24)) := ((Below.refl _ _).alloc (Nat.le_refl _) _).alloc (by simp) _
  have HB := Lib.hid hB
  have HK0 := Lib.hid hb0
  have HK := Lib.hid hb
  have HR := Lib.hid hR
  have Hn := Lib.hid hn
  obtain ⟨y0, y1, fy0, fy1, ly⟩ := blk2cells hb
  obtain ⟨x0, xf, xl⟩ := blk1cell hb0
  have HF : Hid (classF k xs i = if inB k 1 4 = true then if inB n 1 16 = true then if xs.all (formOk k.toNat) = true then if inB i 0 n = true then (k, nf (clsF k.toNat (xs.map Int.toNat).reverse i.toNat), 0) else (0, [], 2) else (0, [], 2) else (0, [], 2) else (0, [], 2)) := Lib.hid (by unfold classF; rw [hn])
  have HI1 := Lib.hid (fun W => isCount_any k W)
  have HI2 := Lib.hid (fun W => in_any n 1 16 W)
  have HI4 := Lib.hid (fun W => in_any i 0 n W)
  clear hB hb hb0 hR hn
  cases h1 : inB k 1 4 with
  | false =>
    have HE : Hid (classF k xs i = (0, [], 2)) := Lib.hid (by rw [HF.out, h1, if_neg (by simp)])
    go_enter Try.func17, Try.ntmps17
    go_wp2_with fail
    refine (HI1.out _).mono ?_
    rintro e w1 ⟨rfl, rfl⟩
    rw [h1]
    go_wp2_with fail
    refine bodyPost_ret (v := .tuple #[.agg #[.int .i64 0, .slice none 0 0], .int .i64 2]) ?_ rfl ⟨_, [], by rw [HE.out], OwnR.nil _ _, by rw [HE.out]; rfl, ?_⟩
    · simp [results, Try.results17, go_sem, y0, y1]
    · exact HB.out
  | true =>
    obtain ⟨k1, k2⟩ := inB_iff.1 h1
    obtain ⟨k, rfl⟩ := Int.eq_ofNat_of_zero_le (show 0 ≤ k by omega)
    rw [if_pos h1] at HF
    cases h2 : inB (n : Int) 1 16 with
    | false =>
      have HE : Hid (classF k xs i = (0, [], 2)) := Lib.hid (by rw [HF.out, h2, if_neg (by simp)])
      go_enter Try.func17, Try.ntmps17
      go_wp2_with fail
      refine (HI1.out _).mono ?_
      rintro e w1 ⟨rfl, rfl⟩
      rw [h1]
      go_wp2_with fail
      refine (HI2.out _).mono ?_
      rintro e w1 ⟨rfl, rfl⟩
      rw [h2]
      go_wp2_with fail
      refine bodyPost_ret (v := .tuple #[.agg #[.int .i64 0, .slice none 0 0], .int .i64 2]) ?_ rfl ⟨_, [], by rw [HE.out], OwnR.nil _ _, by rw [HE.out]; rfl, ?_⟩
      · simp [results, Try.results17, go_sem, y0, y1]
      · exact HB.out
    | true =>
      obtain ⟨n1, n2⟩ := inB_iff.1 h2
      rw [if_pos h2] at HF
      have hn16 : n ≤ 16 := by omega
      have ha := all_any A n c xs 44 (.pointer (some ⟨w.heap.size, 0, none⟩)) (formOk k) ((w.alloc (.cells #[.int .i64 k] 2)).alloc (.cells #[.int .i64 0, .slice none 0 0] 24)) (fun args w => Try.call44 args w) Hn.out (by omega)
        (HR.out.below HB.out) (fun x _ o => classForm_closure k (by omega) w.heap.size _ (by rw [World.cell?_alloc_lt _ _ _ (by simp; omega)]; exact x0) x)
      have HA := Lib.hid ha
      rw [Int.toNat_natCast] at HF
      clear ha
      cases h3 : xs.all (formOk k) with
      | false =>
        have HE : Hid (classF k xs i = (0, [], 2)) := Lib.hid (by rw [HF.out, h3, if_neg (by simp)])
        go_enter Try.func17, Try.ntmps17
        go_wp2_with fail
        refine (HI1.out _).mono ?_
        rintro e w1 ⟨rfl, rfl⟩
        rw [h1]
        go_wp2_with fail
        refine (HI2.out _).mono ?_
        rintro e w1 ⟨rfl, rfl⟩
        rw [h2]
        go_wp2_with fail
        refine HA.out.mono ?_
        rintro e w1 ⟨rfl, hb1⟩
        rw [h3]
        have HB1 := Lib.hid (HB.out.trans (hb1.mono HB.out.size))
        have HK1 := Lib.hid (blk_below HK.out hb1 (by simp))
        have HK01 := Lib.hid (blk_below HK0.out hb1 (by simp; omega))
        clear hb1 y0 y1 fy0 fy1 ly x0 xf xl
        obtain ⟨y0, y1, fy0, fy1, ly⟩ := blk2cells HK1.out
        obtain ⟨x0, xf, xl⟩ := blk1cell HK01.out
        go_wp2_with fail
        refine bodyPost_ret (v := .tuple #[.agg #[.int .i64 0, .slice none 0 0], .int .i64 2]) ?_ rfl ⟨_, [], by rw [HE.out], OwnR.nil _ _, by rw [HE.out]; rfl, ?_⟩
        · simp [results, Try.results17, go_sem, y0, y1]
        · exact (HB1.out.setCell (p := ⟨w.heap.size + 1, 0, none⟩) (by simp) _).setCell (p := ⟨w.heap.size + 1, 1, none⟩) (by simp) _
      | true =>
        rw [if_pos h3] at HF
        have HXX : Hid (∀ x ∈ xs, 0 ≤ x ∧ x < 2 ^ k) := Lib.hid (fun x hx => formOk_iff.1 (List.all_eq_true.1 h3 x hx))
        cases h4 : inB i 0 (n : Int) with
        | false =>
          have HE : Hid (classF k xs i = (0, [], 2)) := Lib.hid (by rw [HF.out, h4, if_neg (by simp)])
          go_enter Try.func17, Try.ntmps17
          go_wp2_with fail
          refine (HI1.out _).mono ?_
          rintro e w1 ⟨rfl, rfl⟩
          rw [h1]
          go_wp2_with fail
          refine (HI2.out _).mono ?_
          rintro e w1 ⟨rfl, rfl⟩
          rw [h2]
          go_wp2_with fail
          refine HA.out.mono ?_
          rintro e w1 ⟨rfl, hb1⟩
          rw [h3]
          have HB1 := Lib.hid (HB.out.trans (hb1.mono HB.out.size))
          have HK1 := Lib.hid (blk_below HK.out hb1 (by simp))
          have HK01 := Lib.hid (blk_below HK0.out hb1 (by simp; omega))
          clear hb1 y0 y1 fy0 fy1 ly x0 xf xl
          obtain ⟨y0, y1, fy0, fy1, ly⟩ := blk2cells HK1.out
          obtain ⟨x0, xf, xl⟩ := blk1cell HK01.out
          go_wp2_with fail
          refine (HI4.out _).mono ?_
          rintro e w2 ⟨rfl, rfl⟩
          rw [h4]
          go_wp2_with fail
          refine bodyPost_ret (v := .tuple #[.agg #[.int .i64 0, .slice none 0 0], .int .i64 2]) ?_ rfl ⟨_, [], by rw [HE.out], OwnR.nil _ _, by rw [HE.out]; rfl, ?_⟩
          · simp [results, Try.results17, go_sem, y0, y1]
          · exact (HB1.out.setCell (p := ⟨w.heap.size + 1, 0, none⟩) (by simp) _).setCell (p := ⟨w.heap.size + 1, 1, none⟩) (by simp) _
        | true =>
          obtain ⟨i1, i2⟩ := inB_iff.1 h4
          obtain ⟨i, rfl⟩ := Int.eq_ofNat_of_zero_le i1
          rw [if_pos h4, Int.toNat_natCast] at HF
          go_enter Try.func17, Try.ntmps17
          go_wp2_with fail
          refine (HI1.out _).mono ?_
          rintro e w1 ⟨rfl, rfl⟩
          rw [h1]
          go_wp2_with fail
          refine (HI2.out _).mono ?_
          rintro e w1 ⟨rfl, rfl⟩
          rw [h2]
          go_wp2_with fail
          refine HA.out.mono ?_
          rintro e w1 ⟨rfl, hb1⟩
          rw [h3]
          have HB1 := Lib.hid (HB.out.trans (hb1.mono HB.out.size))
          have HK1 := Lib.hid (blk_below HK.out hb1 (by simp))
          have HK01 := Lib.hid (blk_below HK0.out hb1 (by simp; omega))
          clear hb1 y0 y1 fy0 fy1 ly x0 xf xl
          obtain ⟨y0, y1, fy0, fy1, ly⟩ := blk2cells HK1.out
          obtain ⟨x0, xf, xl⟩ := blk1cell HK01.out
          go_wp2_with fail
          refine (HI4.out _).mono ?_
          rintro e w2 ⟨rfl, rfl⟩
          rw [h4]
          have HH := Lib.hid (clsF_hom (k := k) (xs.map Int.toNat).reverse i)
          have HC := Lib.hid (fun W (hb : Below w.heap.size w W) => classes_any k A n c xs W (by omega) Hn.out hn16 (HR.out.below hb) HXX.out)
          have HTO := Lib.hid (told_small HH.out (by omega) (by omega) (by omega))
          have hiN : i ≤ n := by omega
          have hk4 : k ≤ 4 := by omega
          have hii : (i : Int) < (n : Int) + 1 := by omega
          have KS := Lib.hid (fun w' (hb : Below w1.heap.size w1 w') => show w'.cell? ⟨w.heap.size, 0, none⟩ = some (.int .i64 k) from (hb.cell xl).trans x0)
          have HB0 := Lib.hid (Below.drew (Below.refl w1.heap.size w1))
          have HSZ := Lib.hid xl
          have HLY := Lib.hid ly
          clear h1 h2 h3 h4 k1 k2 n1 n2 HI1 HI2 HI4 HA y0 y1 fy0 fy1 ly x0 xf xl
          go_wp2_with fail
          refine wp_region_held_drew (S := (fun w' => w'.cell? ⟨w.heap.size, 0, none⟩ = some (.int .i64 k))) (by kernel_rfl) (by (first | exact KS.out _ HB0.out | exact KS.out _ HB2.out | exact KS.out _ HB3.out | exact keeps_cell (((Keeps.refl w3 [some (w.heap.size + 1)]).setCell (p := ⟨w.heap.size + 1, 0, none⟩) (by simp) _).setCell (p := ⟨w.heap.size + 1, 1, none⟩) (by simp) _) (KS.out _ HB3.out) (by simp))) (fun hHeld => ?_)
          refine wpAnyH_take (i := 0) (oi := ?oim1_1) (v := ?vm1_1) ?hm1_1 (by kernel_rfl) (by kernel_rfl) (by kernel_rfl) ?qm1_1 (Or.inl ⟨?wm1_1, ?ym1_1⟩) (by assumption) ?rm1_1
          case hm1_1 => (simp only [List.getElem?_toArray, List.getElem?_cons_succ, List.getElem?_cons_zero]; rfl)
          case qm1_1 => exact fun _ _ _ h => h
          case wm1_1 => rfl
          case ym1_1 => (intro w hSw; (try dsimp only at hSw); go_simp <;> with_reducible rfl)
          try simp only [Act.put, List.setIfInBounds_toArray, List.set_cons_zero, List.set_cons_succ]
          refine wpAnyH_take (i := 1) (oi := ?oim1_2) (v := ?vm1_2) ?hm1_2 (by kernel_rfl) (by kernel_rfl) (by kernel_rfl) ?qm1_2 (Or.inl ⟨?wm1_2, ?ym1_2⟩) (by assumption) ?rm1_2
          case hm1_2 => (simp only [List.getElem?_toArray, List.getElem?_cons_succ, List.getElem?_cons_zero]; rfl)
          case qm1_2 => exact fun _ _ _ h => h
          case wm1_2 => rfl
          case ym1_2 => (intro w hSw; (try dsimp only at hSw); go_simp <;> with_reducible rfl)
          try simp only [Act.put, List.setIfInBounds_toArray, List.set_cons_zero, List.set_cons_succ]
          refine wpAnyH_take (i := 3) (oi := ?oim1_3) (v := ?vm1_3) ?hm1_3 (by kernel_rfl) (by kernel_rfl) (by kernel_rfl) ?qm1_3 (Or.inl ⟨?wm1_3, ?ym1_3⟩) (by assumption) ?rm1_3
          case hm1_3 => (simp only [List.getElem?_toArray, List.getElem?_cons_succ, List.getElem?_cons_zero]; rfl)
          case qm1_3 => exact fun _ _ _ h => h
          case wm1_3 => rfl
          case ym1_3 => (intro w hSw; (try dsimp only at hSw); go_simp <;> with_reducible rfl)
          try simp only [Act.put, List.setIfInBounds_toArray, List.set_cons_zero, List.set_cons_succ]
          refine wpAnyH_ready (rs := [2]) (by kernel_rfl) (by simp) ?_
          refine AllReadyH.cons (o := ?oim1_4) ?hm1_4 (fun K hK => ?km1_4) ?mm1_4
          case hm1_4 => (simp only [List.getElem?_toArray, List.getElem?_cons_succ, List.getElem?_cons_zero]; rfl)
          case km1_4 =>
            go_simp
            (go_at_call 46; refine (HC.out w1.drew (HB1.out.trans (HB0.out.mono HB1.out.size))).mono ?_; rintro e w2 ⟨v, bs, rfl, hbl, hO, hbc⟩; have HB2 := Lib.hid (HB0.out.trans hbc); obtain ⟨A', c', rfl, -, -, -⟩ := owns_shape hO.out; obtain ⟨g, rfl, hc⟩ := hO.cell (i := i) (by omega); have hP := Lib.hid (hO.inn i (by omega)); rw [hbl]; generalize bs.getD i 0 = b at *; clear hO hbl hbc)
            refine hK.out _ _ (by (first | exact KS.out _ HB0.out | exact KS.out _ HB2.out | exact KS.out _ HB3.out | exact keeps_cell (((Keeps.refl w3 [some (w.heap.size + 1)]).setCell (p := ⟨w.heap.size + 1, 0, none⟩) (by simp) _).setCell (p := ⟨w.heap.size + 1, 1, none⟩) (by simp) _) (KS.out _ HB3.out) (by simp))) (fun hHeld => ?_)
            clear hK K
            try simp only [Act.put, List.setIfInBounds_toArray, List.set_cons_zero, List.set_cons_succ]
            refine wpAnyH_take (i := 4) (oi := ?oim1_5) (v := ?vm1_5) ?hm1_5 (by kernel_rfl) (by kernel_rfl) (by kernel_rfl) ?qm1_5 (Or.inl ⟨?wm1_5, ?ym1_5⟩) (by assumption) ?rm1_5
            case hm1_5 => (simp only [List.getElem?_toArray, List.getElem?_cons_succ, List.getElem?_cons_zero]; rfl)
            case qm1_5 => exact fun _ _ _ h => h
            case wm1_5 => rfl
            case ym1_5 => (intro w hSw; (try dsimp only at hSw); go_simp <;> with_reducible rfl)
            try simp only [Act.put, List.setIfInBounds_toArray, List.set_cons_zero, List.set_cons_succ]
            refine wpAnyH_ready (rs := [5]) (by kernel_rfl) (by simp) ?_
            refine AllReadyH.cons (o := ?oim1_6) ?hm1_6 (fun K hK => ?km1_6) ?mm1_6
            case hm1_6 => (simp only [List.getElem?_toArray, List.getElem?_cons_succ, List.getElem?_cons_zero]; rfl)
            case km1_6 =>
              go_simp
              refine hK.out _ _ (by (first | exact KS.out _ HB0.out | exact KS.out _ HB2.out | exact KS.out _ HB3.out | exact keeps_cell (((Keeps.refl w3 [some (w.heap.size + 1)]).setCell (p := ⟨w.heap.size + 1, 0, none⟩) (by simp) _).setCell (p := ⟨w.heap.size + 1, 1, none⟩) (by simp) _) (KS.out _ HB3.out) (by simp))) (fun hHeld => ?_)
              clear hK K
              try simp only [Act.put, List.setIfInBounds_toArray, List.set_cons_zero, List.set_cons_succ]
              refine wpAnyH_ready (rs := [6]) (by kernel_rfl) (by simp) ?_
              refine AllReadyH.cons (o := ?oim1_7) ?hm1_7 (fun K hK => ?km1_7) ?mm1_7
              case hm1_7 => (simp only [List.getElem?_toArray, List.getElem?_cons_succ, List.getElem?_cons_zero]; rfl)
              case km1_7 =>
                go_simp
                (go_at_call 39; refine (told_any b k _ w2 hP.out (HH.out.mon (by omega)) hk4).mono ?_; rw [HTO.out]; rintro e w3 ⟨v3, R, rfl, ho3, hd3, hb3⟩; have HB3 := Lib.hid (HB2.out.trans (hb3.mono HB2.out.size)); have HO3 := Lib.hid (ho3.mono (B' := w.heap.size) (Nat.le_trans HB1.out.size HB2.out.size)); have HD3 := Lib.hid hd3; have HK3 := Lib.hid (blk_below HK1.out HB3.out HLY.out); obtain ⟨y0, y1, fy0, fy1, ly⟩ := blk2cells HK3.out; obtain ⟨A1, c1, rfl, -, -, -⟩ := owns_shape ho3.out; clear ho3 hd3 hb3)
                refine hK.out _ _ (by (first | exact KS.out _ HB0.out | exact KS.out _ HB2.out | exact KS.out _ HB3.out | exact keeps_cell (((Keeps.refl w3 [some (w.heap.size + 1)]).setCell (p := ⟨w.heap.size + 1, 0, none⟩) (by simp) _).setCell (p := ⟨w.heap.size + 1, 1, none⟩) (by simp) _) (KS.out _ HB3.out) (by simp))) (fun hHeld => ?_)
                clear hK K
                try simp only [Act.put, List.setIfInBounds_toArray, List.set_cons_zero, List.set_cons_succ]
                refine wpAnyH_take (i := 7) (oi := ?oim1_8) (v := ?vm1_8) ?hm1_8 (by kernel_rfl) (by kernel_rfl) (by kernel_rfl) ?qm1_8 (Or.inl ⟨?wm1_8, ?ym1_8⟩) (by assumption) ?rm1_8
                case hm1_8 => (simp only [List.getElem?_toArray, List.getElem?_cons_succ, List.getElem?_cons_zero]; rfl)
                case qm1_8 => exact fun _ _ _ h => h
                case wm1_8 => rfl
                case ym1_8 => (intro w hSw; (try dsimp only at hSw); go_simp <;> with_reducible rfl)
                try simp only [Act.put, List.setIfInBounds_toArray, List.set_cons_zero, List.set_cons_succ]
                refine wpAnyH_take (i := 8) (oi := ?oim1_9) (v := ?vm1_9) ?hm1_9 (by kernel_rfl) (by kernel_rfl) (by kernel_rfl) ?qm1_9 (Or.inl ⟨?wm1_9, ?ym1_9⟩) (by assumption) ?rm1_9
                case hm1_9 => (simp only [List.getElem?_toArray, List.getElem?_cons_succ, List.getElem?_cons_zero]; rfl)
                case qm1_9 => exact fun _ _ _ h => h
                case wm1_9 => rfl
                case ym1_9 => (intro w hSw; (try dsimp only at hSw); go_simp <;> with_reducible rfl)
                try simp only [Act.put, List.setIfInBounds_toArray, List.set_cons_zero, List.set_cons_succ]
                refine wpAnyH_ready (rs := [9]) (by kernel_rfl) (by simp) ?_
                refine AllReadyH.cons (o := ?oim1_10) ?hm1_10 (fun K hK => ?km1_10) ?mm1_10
                case hm1_10 => (simp only [List.getElem?_toArray, List.getElem?_cons_succ, List.getElem?_cons_zero]; rfl)
                case km1_10 =>
                  go_simp
                  refine hK.out _ _ (by (first | exact KS.out _ HB0.out | exact KS.out _ HB2.out | exact KS.out _ HB3.out | exact keeps_cell (((Keeps.refl w3 [some (w.heap.size + 1)]).setCell (p := ⟨w.heap.size + 1, 0, none⟩) (by simp) _).setCell (p := ⟨w.heap.size + 1, 1, none⟩) (by simp) _) (KS.out _ HB3.out) (by simp))) (fun hHeld => ?_)
                  clear hK K
                  try simp only [Act.put, List.setIfInBounds_toArray, List.set_cons_zero, List.set_cons_succ]
                  refine wpAnyH_take (i := 10) (oi := ?oim1_11) (v := ?vm1_11) ?hm1_11 (by kernel_rfl) (by kernel_rfl) (by kernel_rfl) ?qm1_11 (Or.inl ⟨?wm1_11, ?ym1_11⟩) (by assumption) ?rm1_11
                  case hm1_11 => (simp only [List.getElem?_toArray, List.getElem?_cons_succ, List.getElem?_cons_zero]; rfl)
                  case qm1_11 => exact fun _ _ _ h => h
                  case wm1_11 => rfl
                  case ym1_11 => (intro w hSw; (try dsimp only at hSw); go_simp <;> with_reducible rfl)
                  try simp only [Act.put, List.setIfInBounds_toArray, List.set_cons_zero, List.set_cons_succ]
                  refine wpAnyH_done (by kernel_rfl) ?_ _
                  go_wp2_with fail
                  refine bodyPost_ret (v := .tuple #[.agg #[.int .i64 k, .slice A1 R.length c1], .int .i64 0]) ?_ rfl ⟨_, R, by rw [HF.out], HO3.out.box2 HK3.out (by decide) (by decide) _ _, by rw [HF.out]; exact HD3.out, ?_⟩
                  · simp [results, Try.results17, go_sem, y0, y1]
                  · exact ((HB1.out.trans (HB3.out.mono HB1.out.size)).setCell (p := ⟨w.heap.size + 1, 0, none⟩) (by simp) _).setCell (p := ⟨w.heap.size + 1, 1, none⟩) (by simp) _
                exact AllReadyH.nil
              exact AllReadyH.nil
            exact AllReadyH.nil
          exact AllReadyH.nil
end Go.Proofs.Ytnffpjdlpjkioaa
