/- spec.ClassOfForms · FnExactClassOfForms: the walk of the law (printed by mkl2.py) · forms put into polynomials: plain, and impl.substituted · the reference's l08Raise, l08Substitute · the reference's l08Substitute · slices.IndexFunc, ContainsFunc and impl's all over rows of rows -/
import Derived.Test.YtnffpjdlpjkioaaBxal
import Derived.Test.YtnffpjdlpjkioaaBxai
import Derived.Test.YtnffpjdlpjkioaaBxab
import Derived.Test.YtnffpjdlpjkioaaBxad
import Derived.Deep.RegionHeld3
import Derived.Test.YtnffpjdlpjkioaaBxak
import Derived.Deep.DeepCutAuto
import Derived.StillTailTactics
import Derived.Test.YtnffpjdlpjkioaaBxaa
set_option linter.all false
namespace Go.Proofs.Ytnffpjdlpjkioaa
open Go.RowKit Go.Maps Go.ChangeMaps Go.MapKept

/-- a polynomial of the call's own comes back, with its code -/
theorem classF_bad {k : Int} {xs : List Int} {i : Int} (h : ¬ (inB k 1 4 = true ∧ inB xs.length 1 16 = true ∧ xs.all (formOk k.toNat) = true ∧ inB i 0 xs.length = true)) : classF k xs i = (0, [], 2) := by
  unfold classF
  by_cases h1 : inB k 1 4 = true
  · rw [if_pos h1]
    by_cases h2 : inB xs.length 1 16 = true
    · rw [if_pos h2]
      by_cases h3 : xs.all (formOk k.toNat) = true
      · rw [if_pos h3]
        by_cases h4 : inB i 0 xs.length = true
        · exact absurd ⟨h1, h2, h3, h4⟩ h
        · rw [if_neg h4]
      · rw [if_neg h3]
    · rw [if_neg h2]
  · rw [if_neg h1]
theorem classF_good {k : Int} {xs : List Int} {i : Int} (h1 : inB k 1 4 = true) (h2 : inB xs.length 1 16 = true) (h3 : xs.all (formOk k.toNat) = true) (h4 : inB i 0 xs.length = true) : classF k xs i = (k, nf (clsF k.toNat (xs.map Int.toNat).reverse i.toNat), 0) := by
  unfold classF
  rw [if_pos h1, if_pos h2, if_pos h3, if_pos h4]

set_option maxRecDepth 100000 in
set_option maxHeartbeats 4000000 in
theorem specClassOfForms_any (k : Int) (A : Option Addr) (n c : Nat) (xs : List Int) (i : Int) (w : World) (hn : n = xs.length) (hR : Rd w A (iv xs)) :
    Calls Try.prog 15 #[.int .i64 k, .slice A n c, .int .i64 i] w (ResPoly (classF k xs i) w) := by
  have hb := blk_new w (.cells #[.int .i64 0, .slice none 0 0] 24)
  have hB : Below w.heap.size w (w.alloc (.cells #[.int .i64 0, .slice none 0 0] 24)) := (Below.refl _ _).alloc (Nat.le_refl _) _
  have HB := Lib.hid hB
  have HK := Lib.hid hb
  have HR := Lib.hid hR
  have Hn := Lib.hid hn
  obtain ⟨y0, y1, fy0, fy1, ly⟩ := blk2cells hb
  have HBAD := Lib.hid (fun h => classF_bad (k := k) (xs := xs) (i := i) h)
  have HGOOD := Lib.hid (fun h1 h2 h3 h4 => classF_good (k := k) (xs := xs) (i := i) h1 h2 h3 h4)
  have HI1 := Lib.hid (fun W => l01In_any k 1 4 W)
  have HI4 := Lib.hid (fun W => l01In_any i 0 n W)
  clear hB hb hR hn
  cases h1 : inB k 1 4 with
  | false =>
    have HE : Hid (classF k xs i = (0, [], 2)) := Lib.hid (HBAD.out (fun h => by rw [h1] at h; cases h.1))
    go_enter Try.func15, Try.ntmps15
    go_wp2_with fail
    refine (HI1.out _).mono ?_
    rintro e w1 ⟨rfl, rfl⟩
    rw [h1]
    go_wp2_with fail
    refine bodyPost_ret (v := .tuple #[.agg #[.int .i64 0, .slice none 0 0], .int .i64 2]) ?_ rfl ⟨_, [], by rw [HE.out], OwnR.nil _ _, by rw [HE.out]; rfl, ?_⟩
    · simp [results, Try.results15, go_sem, y0, y1]
    · exact HB.out
  | true =>
    obtain ⟨k1, k2⟩ := inB_iff.1 h1
    obtain ⟨k, rfl⟩ := Int.eq_ofNat_of_zero_le (show 0 ≤ k by omega)
    rw [Int.toNat_natCast] at HGOOD HBAD
    have H1 := Lib.hid h1
    clear h1
    by_cases h2 : 1 ≤ n ∧ n ≤ 16
    · obtain ⟨n1, n2⟩ := h2
      have hn1 : ¬ (n : Int) < 1 := by omega
      have hn2 : ¬ (16 : Int) < (n : Int) := by omega
      cases h4 : inB i 0 (n : Int) with
      | false =>
        have HE : Hid (classF k xs i = (0, [], 2)) := Lib.hid (HBAD.out (fun h => by rw [← Hn.out, h4] at h; cases h.2.2.2))
        go_enter Try.func15, Try.ntmps15
        go_wp2_with fail
        refine (HI1.out _).mono ?_
        rintro e w1 ⟨rfl, rfl⟩
        rw [H1.out]
        go_wp2_with fail
        refine (HI4.out _).mono ?_
        rintro e w1 ⟨rfl, rfl⟩
        rw [h4]
        go_wp2_with fail
        refine bodyPost_ret (v := .tuple #[.agg #[.int .i64 0, .slice none 0 0], .int .i64 2]) ?_ rfl ⟨_, [], by rw [HE.out], OwnR.nil _ _, by rw [HE.out]; rfl, ?_⟩
        · simp [results, Try.results15, go_sem, y0, y1]
        · exact HB.out
      | true =>
        obtain ⟨i1, i2⟩ := inB_iff.1 h4
        obtain ⟨i, rfl⟩ := Int.eq_ofNat_of_zero_le i1
        rw [Int.toNat_natCast] at HGOOD
        have H4 := Lib.hid h4
        have hk4 : k ≤ 4 := by omega
        have hk0 : 0 < k := by omega
        have hmin : min k 64 = k := by omega
        have hsh' := shl_small' (i := k) (by omega)
        have hsh := shl_small (i := k) (by omega)
        have hp : (2 : Nat) ^ k ≤ 16 := Nat.pow_le_pow_right (n := 2) (by omega) hk4
        have hp1 : 1 ≤ (2 : Nat) ^ k := Nat.one_le_two_pow
        have HFO : Hid (∀ x, inB x 0 (((2 ^ k : Nat) : Int) - 1) = formOk k x) := Lib.hid fun x => rfl
        have HCC := Lib.hid (fun (hx : ∀ x ∈ xs, 0 ≤ x ∧ x < 2 ^ k) W (hb : Below w.heap.size w W) => l10Classes_any k A n c xs W hk0 hk4 Hn.out n2 (HR.out.below hb) hx)
        have HFI : Hid (∀ x, formOk k x = true → 0 ≤ x ∧ x < 2 ^ k) := Lib.hid fun x hx => formOk_iff.1 hx
        clear h4
        generalize (2 : Nat) ^ k = z at *
        have hw : IntKind.i64.wrap ((z : Int) - 1) = (z : Int) - 1 := by rw [IntKind.wrap_i64]; omega
        have HLI := Lib.hid (fun x W => l01In_any x 0 ((z : Int) - 1) W)
        go_enter Try.func15, Try.ntmps15
        go_wp2_with fail
        refine (HI1.out _).mono ?_
        rintro e w1 ⟨rfl, rfl⟩
        rw [H1.out]
        go_wp2_with fail
        refine (HI4.out _).mono ?_
        rintro e w1 ⟨rfl, rfl⟩
        rw [H4.out]
        go_wp2_with fail
        go_loopw [8] (fun o wr => ∃ j : Nat, o = .int .i64 j ∧ j ≤ n ∧ (∀ t, t < j → formOk k (xs.getD t 0) = true) ∧ wr = w.alloc (.cells #[.int .i64 0, .slice none 0 0] 24)) (fun o _ => n - (intOf o).toNat)
        case atStart => exact ⟨0, rfl, by omega, fun t ht => by omega, rfl⟩
        case round =>
          obtain ⟨j, rfl, hj, hall, rfl⟩ := hrel
          have HALL := Lib.hid hall
          clear hall
          by_cases hlt : j < n
          · obtain ⟨ba, oa, rfl, hca0⟩ := HR.out.atI (k := j) (by rw [← Hn.out]; exact hlt)
            have hba := World.block_lt_of_cell? _ _ hca0
            have hca := (HB.out.cell hba).trans hca0
            have hjx : j < xs.length := by rw [← Hn.out]; exact hlt
            have hmem : Hid (xs.getD j 0 ∈ xs) := Lib.hid (by simp [List.getD, hjx])
            clear hca0 hba hjx
            generalize hxj : xs.getD j 0 = x at *
            have HXJ := Lib.hid hxj
            clear hxj
            cases hf : formOk k x with
            | false =>
              have HE : Hid (classF k xs i = (0, [], 2)) := Lib.hid (HBAD.out (fun h => by have := List.all_eq_true.1 h.2.2.1 x hmem.out; rw [hf] at this; cases this))
              go_wp2_with fail
              refine (HLI.out x _).mono ?_
              rintro e w1 ⟨rfl, rfl⟩
              rw [HFO.out, hf]
              go_wp2_with fail
              refine bodyPost_ret (v := .tuple #[.agg #[.int .i64 0, .slice none 0 0], .int .i64 2]) ?_ rfl ⟨_, [], by rw [HE.out], OwnR.nil _ _, by rw [HE.out]; rfl, ?_⟩
              · simp [results, Try.results15, go_sem, y0, y1]
              · exact HB.out
            | true =>
              go_wp2_with fail
              refine (HLI.out x _).mono ?_
              rintro e w1 ⟨rfl, rfl⟩
              rw [HFO.out, hf]
              have HF := Lib.hid hf
              clear hf
              go_wp2_with fail
              go_roundw
              case rel =>
                refine ⟨j + 1, by go_num, by omega, fun t ht => ?_, trivial⟩
                by_cases e : t = j
                · subst e; rw [HXJ.out]; exact HF.out
                · exact HALL.out t (by omega)
              case measure => simp [intOf]; omega
          · have ej : j = n := by omega
            have hall : xs.all (formOk k) = true := List.all_eq_true.2 (fun x hx => by
              obtain ⟨t, ht, rfl⟩ := List.getElem_of_mem hx
              have := HALL.out t (by rw [ej, Hn.out]; exact ht)
              simpa [List.getD, ht] using this)
            have HE := Lib.hid (HGOOD.out H1.out (by rw [← Hn.out]; exact inB_iff.2 ⟨by omega, by omega⟩) hall (by rw [← Hn.out]; exact H4.out))
            have HC := Lib.hid (HCC.out (fun x hx => HFI.out x (List.all_eq_true.1 hall x hx)))
            have hji : ¬ (j : Int) < (n : Int) := by omega
            have hii : (i : Int) < (n : Int) + 1 := by omega
            have HH := Lib.hid (clsF_hom (k := k) (xs.map Int.toNat).reverse i)
            clear ej hall HALL
            go_wp2_with fail
            refine (HC.out _ HB.out).mono ?_
            rintro e w2 ⟨v, L, rfl, hbl, hO, hcd, hB2⟩
            obtain ⟨A', c', rfl, -, -, -⟩ := owns_shape hO.out
            obtain ⟨g, rfl, hc⟩ := hO.cell (i := i) (by omega)
            have HD : Hid (dat (cg L i).rows = nf (clsF k (xs.map Int.toNat).reverse i)) := Lib.hid (by
              have h := cub_dat (Ls := (List.range (n + 1)).map (clsF k (xs.map Int.toNat).reverse)) (by rw [hcd, List.map_map]; rfl) (i := i) (by omega)
              have e : ((List.range (n + 1)).map (clsF k (xs.map Int.toNat).reverse)).getD i [] = clsF k (xs.map Int.toNat).reverse i := by simp [List.getD, show i < n + 1 by omega]
              rwa [e] at h)
            have HP := Lib.hid (hO.inn i (by omega))
            have HB2 := Lib.hid (HB.out.trans (hB2.mono HB.out.size))
            have HK2 := Lib.hid (blk_below HK.out hB2 (by simp))
            have HOW := Lib.hid (l01Own2_any (cg L i).A (cg L i).rows.length (cg L i).c (cg L i).rows w2 rfl (Nat.le_trans (hom_len HH.out HD.out hk0 hk4 (by omega)) (by omega)) (fun t ht => Nat.le_trans (hom_lens HH.out HD.out (by omega) t ht) (by omega)) HP.out.rd)
            unfold Cub.val at hc
            generalize cg L i = x at *
            rw [hbl]
            clear hO hcd y0 y1 fy0 fy1 ly hB2 hbl
            go_wp2_with fail
            refine HOW.out.mono ?_
            rintro e w3 ⟨A3, c3, R3, rfl, hl3, hd3, ho3, hb3⟩
            have HB3 := Lib.hid (HB2.out.trans (hb3.mono HB2.out.size))
            have HK3 := Lib.hid (blk_below HK2.out hb3 (Array.getElem?_eq_some_iff.1 HK2.out).1)
            obtain ⟨y0, y1, fy0, fy1, ly⟩ := blk2cells HK3.out
            have HO3 := Lib.hid (ho3.mono (B' := w.heap.size) HB2.out.size)
            have HD3 : Hid (dat R3 = nf (clsF k (xs.map Int.toNat).reverse i)) := Lib.hid (hd3.trans HD.out)
            clear ho3 hd3 hb3 hc hl3
            go_wp2_with fail
            refine bodyPost_ret (v := .tuple #[.agg #[.int .i64 k, .slice A3 x.rows.length c3], .int .i64 0]) ?_ rfl ⟨_, R3, by rw [HE.out], HO3.out.box2 HK3.out (by decide) (by decide) _ _, by rw [HE.out]; exact HD3.out, ?_⟩
            · simp [results, Try.results15, go_sem, y0, y1]
            · exact (HB3.out.setCell (p := ⟨w.heap.size, 0, none⟩) (by simp) _).setCell (p := ⟨w.heap.size, 1, none⟩) (by simp) _
    · have HE : Hid (classF k xs i = (0, [], 2)) := Lib.hid (HBAD.out (fun h => by have := inB_iff.1 h.2.1; rw [← Hn.out] at this; omega))
      by_cases hn1 : (n : Int) < 1
      · go_enter Try.func15, Try.ntmps15
        go_wp2_with fail
        refine (HI1.out _).mono ?_
        rintro e w1 ⟨rfl, rfl⟩
        rw [H1.out]
        go_wp2_with fail
        refine bodyPost_ret (v := .tuple #[.agg #[.int .i64 0, .slice none 0 0], .int .i64 2]) ?_ rfl ⟨_, [], by rw [HE.out], OwnR.nil _ _, by rw [HE.out]; rfl, ?_⟩
        · simp [results, Try.results15, go_sem, y0, y1]
        · exact HB.out
      · have hn2 : (16 : Int) < (n : Int) := by omega
        go_enter Try.func15, Try.ntmps15
        go_wp2_with fail
        refine (HI1.out _).mono ?_
        rintro e w1 ⟨rfl, rfl⟩
        rw [H1.out]
        go_wp2_with fail
        refine bodyPost_ret (v := .tuple #[.agg #[.int .i64 0, .slice none 0 0], .int .i64 2]) ?_ rfl ⟨_, [], by rw [HE.out], OwnR.nil _ _, by rw [HE.out]; rfl, ?_⟩
        · simp [results, Try.results15, go_sem, y0, y1]
        · exact HB.out

def classOf (k : Int) (xs : List Int) (i : Int) : Int × LL × Int := classF k xs i
theorem classOf_len (k : Int) (xs : List Int) (i : Int) : (classOf k xs i).2.1.length ≤ 2000 ∧ ∀ x ∈ (classOf k xs i).2.1, x.length ≤ 4 := by
  unfold classOf
  by_cases h : inB k 1 4 = true ∧ inB xs.length 1 16 = true ∧ xs.all (formOk k.toNat) = true ∧ inB i 0 xs.length = true
  · obtain ⟨h1, h2, h3, h4⟩ := h
    rw [classF_good h1 h2 h3 h4]
    obtain ⟨k1, k2⟩ := inB_iff.1 h1
    obtain ⟨k, rfl⟩ := Int.eq_ofNat_of_zero_le (show 0 ≤ k by omega)
    have n2 := (inB_iff.1 h2).2
    obtain ⟨i1, i2⟩ := inB_iff.1 h4
    obtain ⟨i, rfl⟩ := Int.eq_ofNat_of_zero_le i1
    have hh := clsF_hom (k := k) (xs.map Int.toNat).reverse i
    show (nf (clsF k (xs.map Int.toNat).reverse i)).length ≤ 2000 ∧ ∀ x ∈ nf (clsF k (xs.map Int.toNat).reverse i), x.length ≤ 4
    exact ⟨hh.len16 (by omega) (by omega) (by omega), fun x hx => by
      have := (hh x (nf_sub hx)).1
      omega⟩
  · rw [classF_bad h]
    exact ⟨by simp, fun x hx => by cases hx⟩
theorem specClass_any (k : Int) (A : Option Addr) (n c : Nat) (xs : List Int) (i : Int) (w : World) (hn : n = xs.length) (hs : n ≤ 1048576) (hR : Rd w A (iv xs)) : Calls Try.prog 15 #[.int .i64 k, .slice A n c, .int .i64 i] w (ResPoly (classOf k xs i) w) := specClassOfForms_any k A n c xs i w hn hR
theorem implClass_any (k : Int) (A : Option Addr) (n c : Nat) (xs : List Int) (i : Int) (w : World) (hn : n = xs.length) (hs : n ≤ 1048576) (hR : Rd w A (iv xs)) : Calls Try.prog 17 #[.int .i64 k, .slice A n c, .int .i64 i] w (ResPoly (classOf k xs i) w) := implClassOfForms_any k A n c xs i w hn hR
end Go.Proofs.Ytnffpjdlpjkioaa

namespace Go.Proofs.Ytnffpjdlpjkioaa
open Go.RowKit

set_option maxRecDepth 100000 in
set_option maxHeartbeats 8000000 in
theorem lawClass_any (a0 : Int) (A1 : Option Addr) (n1 c1 : Nat) (xs1 : List Int) (a2 : Int) (w : World) (hn1 : n1 = xs1.length) (hs1 : n1 ≤ 9223372036854775807) (hR1 : Rd w A1 (iv xs1)) :
    Calls Try.prog 4 #[.int .i64 a0, .slice A1 n1 c1, .int .i64 a2] w fun e w' => e = .returned (.bool true) ∧ Below w.heap.size w w' := by
  have hI := Inw.start w
  have I0 := Lib.hid hI
  clear hI
  have Hn1 := Lib.hid hn1
  have HR1 := Lib.hid hR1
  clear hn1 hR1
  by_cases hb1 : ¬ n1 ≤ 1048576
  · have hb' : 1048576 < (n1 : Int) := by omega
    go_enter Try.func4, Try.ntmps4
    go_wp2_with fail
    go_ret
    exact ⟨rfl, I0.out.bel⟩
  have hb1' : ¬ 1048576 < (n1 : Int) := by omega
  go_enter Try.func4, Try.ntmps4
  have HTO1 := Lib.hid (fun W (hb : Below w.heap.size w W) => toInts_any A1 n1 c1 xs1 W Hn1.out (by omega) (HR1.out.below hb))
  obtain ⟨rr, hrr⟩ : ∃ rr, classOf a0 xs1 a2 = rr := ⟨_, rfl⟩
  have hlen := classOf_len a0 xs1 a2
  rw [hrr] at hlen
  have HDD := Lib.hid hrr
  clear hrr
  have hnb1 : n1 ≤ 1048576 := by omega
  have HSP := Lib.hid (fun (W : World) (C1 : Option Addr) (r1 : Rd W C1 (iv xs1)) => show Calls Try.prog 15 #[.int .i64 a0, .slice C1 n1 n1, .int .i64 a2] W (ResPoly rr W) from by
    have h : Calls Try.prog 15 #[.int .i64 a0, .slice C1 n1 n1, .int .i64 a2] W (ResPoly (classOf a0 xs1 a2) W) := specClass_any a0 C1 n1 n1 xs1 a2 W Hn1.out (by omega) r1
    rw [HDD.out] at h
    exact h)
  have HIM := Lib.hid (fun (W : World) (C1 : Option Addr) (r1 : Rd W C1 (iv xs1)) => show Calls Try.prog 17 #[.int .i64 a0, .slice C1 n1 n1, .int .i64 a2] W (ResPoly rr W) from by
    have h : Calls Try.prog 17 #[.int .i64 a0, .slice C1 n1 n1, .int .i64 a2] W (ResPoly (classOf a0 xs1 a2) W) := implClass_any a0 C1 n1 n1 xs1 a2 W Hn1.out (by omega) r1
    rw [HDD.out] at h
    exact h)
  go_wp2_with fail
  clear hb1 hs1
  refine (HTO1.out _ I0.out.bel).mono ?_
  rintro e w1 ⟨gs1, rfl, ho, hb⟩
  have I1 := Lib.hid (I0.out.pushOwn hb ho)
  clear ho hb
  go_wp2_with fail
  refine (HSP.out _ _ (owns_Rd (I1.out.own 0 rfl))).mono ?_
  rintro e w2 ⟨vs, Ns, rfl, ho, hd, hb⟩
  have I2 := Lib.hid (I1.out.pushRows hb ho)
  have HDs := Lib.hid hd
  clear ho hb hd
  obtain ⟨As, ks, rfl, _, _, _⟩ := owns_shape (I2.out.rows 0 rfl).out
  have HZs := Lib.hid (rows_smallP HDs.out hlen)
  have z1s := HZs.out.1
  have z2s := HZs.out.2.1
  go_wp2_with fail
  have hI := I2.out.allocBox #[.int .i64 rr.1, .slice As Ns.length ks] 24
  refine (HTO1.out _ hI.bel).mono ?_
  rintro e w3 ⟨gx1, rfl, ho, hb⟩
  have I3 := Lib.hid (hI.pushOwn hb ho)
  clear ho hb
  clear hI
  obtain ⟨u_rs_3, v_rs_3, x_rs_3, y_rs_3, z_rs_3⟩ := blk2cells (I3.out.box 1 rfl)
  go_wp2_with fail
  refine (HIM.out _ _ (owns_Rd (I3.out.own 0 rfl))).mono ?_
  rintro e w4 ⟨vg, Ng, rfl, ho, hd, hb⟩
  have I4 := Lib.hid (I3.out.pushRows hb ho)
  have HDg := Lib.hid hd
  clear ho hb hd
  obtain ⟨Ag, kg, rfl, _, _, _⟩ := owns_shape (I4.out.rows 0 rfl).out
  have HZg := Lib.hid (rows_smallP HDg.out hlen)
  have z1g := HZg.out.1
  have z2g := HZg.out.2.1
  clear u_rs_3 v_rs_3 x_rs_3 y_rs_3 z_rs_3
  obtain ⟨u_rs_4, v_rs_4, x_rs_4, y_rs_4, z_rs_4⟩ := blk2cells (I4.out.box 2 rfl)
  go_wp2_with fail
  have hI := I4.out.allocBox #[.int .i64 rr.1, .slice Ag Ng.length kg] 24
  refine (eqPoly_any _ _ _ _ _ _ _ _ _ _ rfl rfl (by omega) (fun i hi => Nat.le_trans (HZg.out.2.2 i hi) (by omega)) (HDs.out.trans HDg.out.symm) ((hI.rows 1 rfl).rd rfl) ((hI.rows 4 rfl).rd rfl)).mono ?_
  rintro e w5 ⟨rfl, hb⟩
  have I5 := Lib.hid (hI.step hb)
  clear hb
  clear hI
  clear u_rs_4 v_rs_4 x_rs_4 y_rs_4 z_rs_4
  obtain ⟨u_rs_5, v_rs_5, x_rs_5, y_rs_5, z_rs_5⟩ := blk2cells (I5.out.box 3 rfl)
  obtain ⟨u_rg_5, v_rg_5, x_rg_5, y_rg_5, z_rg_5⟩ := blk2cells (I5.out.box 0 rfl)
  go_wp2_with fail
  refine (HTO1.out _ I5.out.bel).mono ?_
  rintro e w6 ⟨ge1, rfl, ho, hb⟩
  have I6 := Lib.hid (I5.out.pushOwn hb ho)
  clear ho hb
  clear u_rs_5 v_rs_5 x_rs_5 y_rs_5 z_rs_5 u_rg_5 v_rg_5 x_rg_5 y_rg_5 z_rg_5
  obtain ⟨u_rs_6, v_rs_6, x_rs_6, y_rs_6, z_rs_6⟩ := blk2cells (I6.out.box 4 rfl)
  obtain ⟨u_rg_6, v_rg_6, x_rg_6, y_rg_6, z_rg_6⟩ := blk2cells (I6.out.box 1 rfl)
  go_wp2_with fail
  refine (eqIntsB_any _ _ n1 _ _ xs1 _ Hn1.out (by omega) (owns_Rd (I6.out.own 3 rfl)) (owns_Rd (I6.out.own 0 rfl))).mono ?_
  rintro e w7 ⟨rfl, hb⟩
  have I7 := Lib.hid (I6.out.step hb)
  clear hb
  clear u_rs_6 v_rs_6 x_rs_6 y_rs_6 z_rs_6 u_rg_6 v_rg_6 x_rg_6 y_rg_6 z_rg_6
  obtain ⟨u_rs_7, v_rs_7, x_rs_7, y_rs_7, z_rs_7⟩ := blk2cells (I7.out.box 4 rfl)
  obtain ⟨u_rg_7, v_rg_7, x_rg_7, y_rg_7, z_rg_7⟩ := blk2cells (I7.out.box 1 rfl)
  go_wp2_with fail
  have HKB0 := Lib.hid (show (0 : Int) ≤ 1 ∧ (1 : Int) ≤ 1 from ⟨by decide, by decide⟩)
  have hxl1 : xs1.length ≤ 1048576 := by rw [← Hn1.out]; exact hnb1
  refine (markInts_any _ _ n1 xs1 (1) _ (I7.out.own 3 rfl) (Nat.le_trans hnb1 (by decide)) HKB0.out.1 (Int.le_trans HKB0.out.2 (by decide))).mono ?_
  rintro e w8 ⟨rfl, ho, hk⟩
  have I8 := Lib.hid (I7.out.markOwn 3 rfl hk ho)
  clear ho hk
  have HKB1 : Hid (0 ≤ (1 + n1 : Int) ∧ (1 + n1 : Int) ≤ 1048577) := Lib.hid (kb_add1 HKB0.out hnb1)
  clear u_rs_7 v_rs_7 x_rs_7 y_rs_7 z_rs_7 u_rg_7 v_rg_7 x_rg_7 y_rg_7 z_rg_7
  obtain ⟨u_rs_8, v_rs_8, x_rs_8, y_rs_8, z_rs_8⟩ := blk2cells (I8.out.box 4 rfl)
  obtain ⟨u_rg_8, v_rg_8, x_rg_8, y_rg_8, z_rg_8⟩ := blk2cells (I8.out.box 1 rfl)
  have hnn1 : ¬ (1 + n1 : Int) < 0 := Int.not_lt.2 HKB1.out.1
  go_wp2_with fail
  refine (eqPoly_any _ _ _ _ _ _ _ _ _ _ rfl rfl (by omega) (fun i hi => Nat.le_trans (HZg.out.2.2 i hi) (by omega)) (HDs.out.trans HDg.out.symm) ((I8.out.rows 2 rfl).rd rfl) ((I8.out.rows 5 rfl).rd rfl)).mono ?_
  rintro e w9 ⟨rfl, hb⟩
  have I9 := Lib.hid (I8.out.step hb)
  clear hb
  clear u_rs_8 v_rs_8 x_rs_8 y_rs_8 z_rs_8 u_rg_8 v_rg_8 x_rg_8 y_rg_8 z_rg_8
  obtain ⟨u_rs_9, v_rs_9, x_rs_9, y_rs_9, z_rs_9⟩ := blk2cells (I9.out.box 4 rfl)
  obtain ⟨u_rg_9, v_rg_9, x_rg_9, y_rg_9, z_rg_9⟩ := blk2cells (I9.out.box 1 rfl)
  go_wp2_with fail
  refine (markPoly_any _ _ _ _ Ng 1 _ (I9.out.rows 2 rfl) (by omega) (by omega) (by omega) (by omega) (I9.out.rowsUp 2 rfl).2).mono ?_
  rintro e w10 ⟨rfl, ho, hk⟩
  have I10 := Lib.hid (I9.out.markRows 2 rfl hk ho)
  clear ho hk
  clear u_rs_9 v_rs_9 x_rs_9 y_rs_9 z_rs_9 u_rg_9 v_rg_9 x_rg_9 y_rg_9 z_rg_9
  obtain ⟨u_rs_10, v_rs_10, x_rs_10, y_rs_10, z_rs_10⟩ := blk2cells (I10.out.box 4 rfl)
  obtain ⟨u_rg_10, v_rg_10, x_rg_10, y_rg_10, z_rg_10⟩ := blk2cells (I10.out.box 1 rfl)
  go_wp2_with fail
  refine (heldPoly_any _ _ Ng.length _ Ng 1 _ rfl ((I10.out.rows 2 rfl).rd (by rw [marksR_length])) (by omega) (by omega) (by omega) (by omega)).mono ?_
  rintro e w11 ⟨rfl, hb⟩
  have I11 := Lib.hid (I10.out.step hb)
  clear hb
  clear u_rs_10 v_rs_10 x_rs_10 y_rs_10 z_rs_10 u_rg_10 v_rg_10 x_rg_10 y_rg_10 z_rg_10
  obtain ⟨u_rs_11, v_rs_11, x_rs_11, y_rs_11, z_rs_11⟩ := blk2cells (I11.out.box 4 rfl)
  obtain ⟨u_rg_11, v_rg_11, x_rg_11, y_rg_11, z_rg_11⟩ := blk2cells (I11.out.box 1 rfl)
  go_wp2_with fail
  refine (HTO1.out _ I11.out.bel).mono ?_
  rintro e w12 ⟨gh1, rfl, ho, hb⟩
  have I12 := Lib.hid (I11.out.pushOwn hb ho)
  clear ho hb
  clear u_rs_11 v_rs_11 x_rs_11 y_rs_11 z_rs_11 u_rg_11 v_rg_11 x_rg_11 y_rg_11 z_rg_11
  obtain ⟨u_rs_12, v_rs_12, x_rs_12, y_rs_12, z_rs_12⟩ := blk2cells (I12.out.box 5 rfl)
  obtain ⟨u_rg_12, v_rg_12, x_rg_12, y_rg_12, z_rg_12⟩ := blk2cells (I12.out.box 2 rfl)
  go_wp2_with fail
  refine (HIM.out _ _ (owns_Rd (I12.out.own 0 rfl))).mono ?_
  rintro e w13 ⟨vh, Nh, rfl, ho, hd, hb⟩
  have I13 := Lib.hid (I12.out.pushRows hb ho)
  have HDh := Lib.hid hd
  clear ho hb hd
  obtain ⟨Ah, kh, rfl, _, _, _⟩ := owns_shape (I13.out.rows 0 rfl).out
  have HZh := Lib.hid (rows_smallP HDh.out hlen)
  have z1h := HZh.out.1
  have z2h := HZh.out.2.1
  clear u_rs_12 v_rs_12 x_rs_12 y_rs_12 z_rs_12 u_rg_12 v_rg_12 x_rg_12 y_rg_12 z_rg_12
  obtain ⟨u_rs_13, v_rs_13, x_rs_13, y_rs_13, z_rs_13⟩ := blk2cells (I13.out.box 6 rfl)
  obtain ⟨u_rg_13, v_rg_13, x_rg_13, y_rg_13, z_rg_13⟩ := blk2cells (I13.out.box 3 rfl)
  go_wp2_with fail
  have hI := I13.out.allocBox #[.int .i64 rr.1, .slice Ah Nh.length kh] 24
  refine (eqPoly_any _ _ _ _ _ _ _ _ _ _ rfl rfl (by omega) (fun i hi => Nat.le_trans (HZh.out.2.2 i hi) (by omega)) (HDs.out.trans HDh.out.symm) ((hI.rows 1 rfl).rd rfl) ((hI.rows 8 rfl).rd rfl)).mono ?_
  rintro e w14 ⟨rfl, hb⟩
  have I14 := Lib.hid (hI.step hb)
  clear hb
  clear hI
  clear u_rs_13 v_rs_13 x_rs_13 y_rs_13 z_rs_13 u_rg_13 v_rg_13 x_rg_13 y_rg_13 z_rg_13
  obtain ⟨u_rs_14, v_rs_14, x_rs_14, y_rs_14, z_rs_14⟩ := blk2cells (I14.out.box 7 rfl)
  obtain ⟨u_rg_14, v_rg_14, x_rg_14, y_rg_14, z_rg_14⟩ := blk2cells (I14.out.box 4 rfl)
  obtain ⟨u_rh_14, v_rh_14, x_rh_14, y_rh_14, z_rh_14⟩ := blk2cells (I14.out.box 0 rfl)
  go_wp2_with fail
  refine (heldPoly_any _ _ Ng.length _ Ng 1 _ rfl ((I14.out.rows 5 rfl).rd (by rw [marksR_length])) (by omega) (by omega) (by omega) (by omega)).mono ?_
  rintro e w15 ⟨rfl, hb⟩
  have I15 := Lib.hid (I14.out.step hb)
  clear hb
  clear u_rs_14 v_rs_14 x_rs_14 y_rs_14 z_rs_14 u_rg_14 v_rg_14 x_rg_14 y_rg_14 z_rg_14 u_rh_14 v_rh_14 x_rh_14 y_rh_14 z_rh_14
  obtain ⟨u_rs_15, v_rs_15, x_rs_15, y_rs_15, z_rs_15⟩ := blk2cells (I15.out.box 7 rfl)
  obtain ⟨u_rg_15, v_rg_15, x_rg_15, y_rg_15, z_rg_15⟩ := blk2cells (I15.out.box 4 rfl)
  obtain ⟨u_rh_15, v_rh_15, x_rh_15, y_rh_15, z_rh_15⟩ := blk2cells (I15.out.box 0 rfl)
  go_wp2_with fail
  go_ret
  exact ⟨rfl, I15.out.bel⟩
end Go.Proofs.Ytnffpjdlpjkioaa

namespace Go.Proofs.Ytnffpjdlpjkioaa
open Go.RowKit Go.Maps Go.ChangeMaps Go.MapKept

/-- the product of the powers of forms that a term asks for, of its first i exponents -/
def putT (k : Nat) (fs x : List Int) : Nat → LL
  | 0 => [List.replicate k 0]
  | i + 1 => prodM (putT k fs x i) (powM k (formM k (fs.getD i 0).toNat k) (x.getD i 0).toNat 6)
/-- all terms -/
def putB (k : Nat) (fs : List Int) (Q : LL) : LL := Q.flatMap fun x => putT k fs x k
theorem sum_takeS {xs : List Int} {k : Nat} (h : k < xs.length) : (xs.take (k + 1)).sum = (xs.take k).sum + xs.getD k 0 := by
  rw [List.take_succ_eq_append_getElem h, List.sum_append_int]; simp [List.getD, h]
theorem putT_hom {k d : Nat} {fs x : List Int} (hx : ∀ e ∈ x, 0 ≤ e) (hs : x.sum = (d : Int)) (hd : d < 64) : ∀ i, i ≤ x.length → ∃ e : Nat, (x.take i).sum = (e : Int) ∧ e ≤ d ∧ HomM k e (putT k fs x i)
  | 0, _ => ⟨0, rfl, by omega, HomM.one k⟩
  | i + 1, hi => by
    obtain ⟨e, h1, h2, h3⟩ := putT_hom hx hs hd i (by omega)
    have hm : x.getD i 0 ∈ x := by simp [List.getD, show i < x.length by omega]
    obtain ⟨n, hn⟩ := Int.eq_ofNat_of_zero_le (hx _ hm)
    have hsplit : x.sum = (x.take (i + 1)).sum + (x.drop (i + 1)).sum := by rw [← List.sum_append_int, List.take_append_drop]
    have hdrop := (le_sum (x := x.drop (i + 1)) fun e he => hx e (List.mem_of_mem_drop he)).1
    have h4 := sum_takeS (xs := x) (k := i) (by omega)
    rw [h1, hn] at h4
    have hle : e + n ≤ d := by omega
    refine ⟨e + n, by rw [h4]; omega, hle, ?_⟩
    have hp := hom_pow (hom_form (m := (fs.getD i 0).toNat) (Nat.le_refl k)) n 6
    rw [Nat.one_mul, Nat.mod_eq_of_lt (show n < 2 ^ 6 by omega)] at hp
    have := h3.prod hp
    show HomM k (e + n) (prodM (putT k fs x i) (powM k (formM k (fs.getD i 0).toNat k) (x.getD i 0).toNat 6))
    rw [hn, Int.toNat_natCast]
    exact this
theorem putT_full {k d : Nat} {fs x : List Int} (hl : x.length = k) (hx : ∀ e ∈ x, 0 ≤ e) (hs : x.sum = (d : Int)) (hd : d < 64) : HomM k d (putT k fs x k) := by
  obtain ⟨e, h1, _, h3⟩ := putT_hom (k := k) (fs := fs) hx hs hd k (by omega)
  rw [List.take_of_length_le (by omega), hs] at h1
  have : d = e := by omega
  rw [this]
  exact h3
theorem putB_hom {k d : Nat} {fs : List Int} {Q : LL} (h : HomM k d Q) (hd : d < 64) : HomM k d (putB k fs Q) := fun y hy => by
  obtain ⟨x, hx, hy⟩ := List.mem_flatMap.1 hy
  obtain ⟨h1, h2, h3⟩ := h x hx
  exact putT_full (fs := fs) h1 h2 h3 hd y hy
theorem putB_snoc (k : Nat) (fs : List Int) (Q : LL) (x : List Int) : putB k fs (Q ++ [x]) = putB k fs Q ++ putT k fs x k := by simp [putB]
theorem HomM.take {k d : Nat} {Q : LL} (h : HomM k d Q) (i : Nat) : HomM k d (Q.take i) := h.sub fun _ hx => List.mem_of_mem_take hx
theorem tb_powS {n j : Nat} (h : tb n j = true) : 2 ^ j ≤ n := Nat.ge_two_pow_of_testBit h
theorem powerM_any (b k m n : Nat) (w : World) (hk : k ≤ 4) (h : PolyB w b ((formM k m k).map cod)) (hn : n ≤ 40) : Calls Try.prog 90 #[.map (some b), .int .i64 n] w (ResP ((powM k (formM k m k) n 6).map cod) w) := by
  have hf := hom_form (m := m) (Nat.le_refl k)
  have hp := power_any b ((formM k m k).map cod) n w h hn (fun j hj => by
    rw [map_cod_sca]
    have := tb_powS hj
    exact (hf.sca (2 ^ j)).cb (by omega) hk) (fun j _ => by
    rw [powT_cod hf n j]
    exact (hom_pow hf n j).cb (by have := Nat.mod_le n (2 ^ j); omega) hk)
  unfold powB at hp
  rw [powT_cod hf n 6] at hp
  exact hp

set_option maxRecDepth 100000 in
set_option maxHeartbeats 4000000 in
theorem substituted_any (k d : Nat) (A F : Option Addr) (n c c' : Nat) (L : List Row) (fs : List Int) (w : World) (hk : k ≤ 4) (hn : n = L.length) (hsm : n ≤ 2000) (hQ : HomM k d (dat L)) (hd : d ≤ 40) (hfl : fs.length = k) (hf : ∀ x ∈ fs, 0 ≤ x ∧ x < 2 ^ k) (hR : RdR w A L) (hF : Rd w F (iv fs)) :
    Calls Try.prog 54 #[.slice A n c, .slice F k c'] w (ResP ((putB k fs (dat L)).map cod) w) := by
  have hmm := @run_makeMap Try.prog
  have HR := Lib.hid hR
  have HF := Lib.hid hF
  have Hn := Lib.hid hn
  have HQ := Lib.hid hQ
  have HFL := Lib.hid hfl
  have HFF := Lib.hid hf
  clear hR hF hn hQ hfl hf
  go_enter Try.func54, Try.ntmps54
  go_wp2_with fail
  go_loopw [14] (fun o wr => ∃ i : Nat, o = .int .i64 i ∧ i ≤ n ∧ PolyB wr w.heap.size ((putB k fs ((dat L).take i)).map cod) ∧ Below w.heap.size w wr) (fun o _ => n - (intOf o).toNat)
  case atStart => exact ⟨0, rfl, by omega, PolyB.made w, (Below.refl _ _).alloc (Nat.le_refl _) _⟩
  case round =>
    obtain ⟨i, rfl, hi, hP, hB⟩ := hrel
    have HP := Lib.hid hP
    have HB := Lib.hid hB
    have hsz := hB.size
    obtain ⟨wv, hwv⟩ : ∃ wv, wv = wr := ⟨_, rfl⟩
    subst hwv
    clear hP
    by_cases hlt : i < n
    · have hjL : i < L.length := by rw [← Hn.out]; exact hlt
      have hR1 := HR.out.below hB
      obtain ⟨b, o, rfl, hc⟩ := hR1.at_ hjL
      have HIN := Lib.hid (hR1.inn i hjL)
      have hx : (rg L i).xs ∈ dat L := by rw [← dat_getD]; simp [List.getD, dat_length, hjL]
      have HTS : Hid ((dat L).take (i + 1) = (dat L).take i ++ [(rg L i).xs]) := Lib.hid (by
        rw [List.take_succ_eq_append_getElem (by rw [dat_length]; exact hjL), ← dat_getD]; simp [List.getD, dat_length, hjL])
      have hx3 := HQ.out _ hx
      have HX3 := Lib.hid hx3
      have hxl : (rg L i).xs.length = k := hx3.1
      have HSH := Lib.hid (fun j hj => putT_hom (k := k) (fs := fs) hx3.2.1 hx3.2.2 (by omega) j hj)
      clear hR1 hjL hx hx3
      generalize rg L i = r at *
      obtain ⟨rA, rc, rx⟩ := r
      simp only at hc hxl HIN HTS HX3 HSH
      rw [hxl] at hc
      have HXL := Lib.hid hxl
      clear hxl hB
      have hse : (wv.alloc (.map #[] 0)).heap.size = wv.heap.size + 1 := by simp
      go_wp2_with (first | (refine wpList_insert_poly _ rfl _ _ _ rfl wv.heap.size [] 0 rfl rfl rfl (PolyC.made wv) (I64.of (by omega) (by omega)) (by simp) ?_; intro w1 hq1 hk1 hs1) | fail)
      rw [hse] at hs1
      have hB1 : Below wv.heap.size wv w1 := ((Below.refl _ _).alloc (Nat.le_refl _) _).trans (hk1.to_below (by simp) (by simp))
      have hP1 : PolyB w1 wv.heap.size ([List.replicate k 0].map cod) := ⟨_, hq1, by rw [List.map_singleton, cod_rep0]; exact Eqv.refl _⟩
      clear hq1 hk1 hse
      go_wp2_with fail
      go_loopw [8, 22] (fun p o wr => ∃ (j g : Nat), o = .int .i64 j ∧ j ≤ k ∧ p = .map (some g) ∧ wv.heap.size ≤ g ∧ PolyB wr g ((putT k fs rx j).map cod) ∧ Below wv.heap.size wv wr) (fun _ o _ => k - (intOf o).toNat)
      case atStart => exact ⟨0, wv.heap.size, rfl, by omega, rfl, Nat.le_refl _, hP1, hB1⟩
      case round =>
        obtain ⟨j, g, rfl, hj, rfl, hg, hPj, hBj⟩ := hrel
        have HPj := Lib.hid hPj
        have HBj := Lib.hid hBj
        have hszj := hBj.size
        clear hPj
        by_cases hlj : j < k
        · have hji : (j : Int) < (k : Int) := by omega
          obtain ⟨bx, ox, rfl, hcx⟩ := (HIN.out.below hBj).atI (k := j) (by rw [HXL.out]; exact hlj)
          obtain ⟨bf, of, rfl, hcf⟩ := (HF.out.below (HB.out.trans (hBj.mono hsz))).atI (k := j) (by rw [HFL.out]; exact hlj)
          have hmx : rx.getD j 0 ∈ rx := by simp [List.getD, HXL.out, hlj]
          have hmf : fs.getD j 0 ∈ fs := by simp [List.getD, HFL.out, hlj]
          obtain ⟨m, hm⟩ := Int.eq_ofNat_of_zero_le (HFF.out _ hmf).1
          obtain ⟨q, hq⟩ := Int.eq_ofNat_of_zero_le (HX3.out.2.1 _ hmx)
          have hm2 : m < 2 ^ k := by have := (HFF.out _ hmf).2; rw [hm] at this; exact_mod_cast this
          have hm16 : m < 16 := Nat.lt_of_lt_of_le hm2 (by have := Nat.pow_le_pow_right (n := 2) (by omega) hk; exact this)
          have hq40 : q ≤ 40 := by
            have := (le_sum HX3.out.2.1).2 _ hmx
            rw [HX3.out.2.2, hq] at this
            omega
          obtain ⟨e0, _, he0, hh0⟩ := HSH.out j (by rw [HXL.out]; omega)
          obtain ⟨e1, _, he1, hh1⟩ := HSH.out (j + 1) (by rw [HXL.out]; omega)
          have HST : Hid (putT k fs rx (j + 1) = prodM (putT k fs rx j) (powM k (formM k m k) q 6)) := Lib.hid (by
            show prodM (putT k fs rx j) (powM k (formM k (fs.getD j 0).toNat k) (rx.getD j 0).toNat 6) = _
            rw [hm, hq, Int.toNat_natCast, Int.toNat_natCast])
          rw [hm] at hcf
          rw [hq] at hcx
          have HCB : Hid (CB ((prodM (putT k fs rx j) (powM k (formM k m k) q 6)).map cod)) := Lib.hid (by rw [← HST.out]; exact hh1.cb (by omega) hk)
          have HL0 := Lib.hid hh0.len
          have HL1 : Hid (∀ x ∈ powM k (formM k m k) q 6, x.length = k) := Lib.hid (hom_pow (hom_form (m := m) (Nat.le_refl k)) q 6).len
          have HFO := Lib.hid (fun W => (formOf_any m W hm16).mono fun e W' h => h.congr (formB_cod hk hm2))
          clear hmx hmf hm hq hm2 hm16 he0 he1 hh0 hh1 hBj
          generalize hS : putT k fs rx j = S at *
          clear hS
          go_wp2_with fail
          refine (HFO.out wr).mono ?_
          rintro e w2 ⟨gf, rfl, hgf, hPf, hbf⟩
          have HB2 := Lib.hid hbf
          have HPW := Lib.hid (powerM_any gf k m q w2 hk hPf hq40)
          clear hPf hbf
          go_wp2_with fail
          refine HPW.out.mono ?_
          rintro e w3 ⟨gp, rfl, hgp, hPp, hbp⟩
          have HB3 := Lib.hid (HB2.out.trans (hbp.mono HB2.out.size))
          have HT := Lib.hid (times_any g gp (S.map cod) ((powM k (formM k m k) q 6).map cod) w3 (HPj.out.below HB3.out) hPp (by rw [prodB_cod HL0.out HL1.out]; exact HCB.out))
          rw [prodB_cod HL0.out HL1.out] at HT
          clear hPp hbp
          go_wp2_with fail
          refine HT.out.mono ?_
          rintro e w4 ⟨gt, rfl, hgt, hPt, hbt⟩
          have HPt := Lib.hid hPt
          have HB4 := Lib.hid (HB3.out.trans (hbt.mono HB3.out.size))
          clear hPt hbt
          go_wp2_with fail
          go_roundw
          case rel => exact ⟨j + 1, gt, by go_num, by omega, rfl, by have := HB3.out.size; omega, by rw [HST.out]; exact HPt.out, HBj.out.trans (HB4.out.mono hszj)⟩
          case measure => simp [intOf]; omega
        · have ej : j = k := by omega
          have hji : ¬ (j : Int) < (k : Int) := by omega
          rw [ej] at HPj
          have hsub := putT_full (k := k) (fs := fs) HX3.out.1 HX3.out.2.1 HX3.out.2.2 (show d < 64 by omega)
          have hout := putB_hom (fs := fs) (HQ.out.take i) (show d < 64 by omega)
          have HPL := Lib.hid (plus_any w.heap.size g _ _ wr (HP.out.below HBj.out) HPj.out (by have := HP.out.lt; omega) (hout.cb (by omega) hk) (hsub.cb (by omega) hk))
          clear ej hsub hout hBj
          go_wp2_with fail
          refine HPL.out.mono ?_
          rintro e w5 ⟨rfl, hP5, hk5⟩
          have HP5 := Lib.hid hP5
          have HB5 := Lib.hid ((HB.out.trans (HBj.out.mono hsz)).trans (hk5.to_below (by omega) (by simp)))
          clear hP5 hk5
          go_wp2_with fail
          go_roundw
          case rel => exact ⟨i + 1, by go_num, by omega, by rw [HTS.out, putB_snoc, List.map_append]; exact HP5.out, HB5.out⟩
          case measure => simp [intOf]; omega
    · obtain rfl : i = n := by omega
      have e : (dat L).take i = dat L := List.take_of_length_le (by rw [dat_length, ← Hn.out]; exact Nat.le_refl _)
      rw [e] at HP
      clear e hB
      go_wp2_with fail
      go_ret
      exact ⟨_, rfl, Nat.le_refl _, HP.out, HB.out⟩
end Go.Proofs.Ytnffpjdlpjkioaa

namespace Go.Proofs.Ytnffpjdlpjkioaa
open Go.RowKit

theorem powM_end (k : Nat) (P : LL) {n j : Nat} (h : n < 2 ^ j) : ∀ i, powM k P n (j + i) = powM k P n j
  | 0 => rfl
  | i + 1 => by
    have h2 : n < 2 ^ (j + i) := Nat.lt_of_lt_of_le h (Nat.pow_le_pow_right (by omega) (by omega))
    rw [← Nat.add_assoc, powM, if_neg (by rw [tb_big h2]; simp), powM_end k P h i]
/-- a product and a factor under way -/
def RaiseSt (w : World) (X Y : LL) (o nw : Value) (wx : World) : Prop :=
  ∃ Ao co Ro An cn Rn, o = .slice Ao Ro.length co ∧ nw = .slice An Rn.length cn ∧ dat Ro = X ∧ RdY wx Ao Ro ∧ dat Rn = Y ∧ RdY wx An Rn ∧ Below w.heap.size w wx ∧ Ro.length ≤ co
theorem nf_sca_pow (P : LL) (p : Nat) (hp : 0 < p) : ((nf P).map (scaM (p : Int))).map (scaM 2) = (nf P).map (scaM ((p * 2 : Nat) : Int)) := by
  rw [List.map_map]
  refine List.map_congr_left fun x _ => ?_
  show scaM 2 (scaM p x) = _
  unfold scaM
  rw [List.map_map]
  exact List.map_congr_left fun e _ => by show e * p * 2 = e * ((p * 2 : Nat) : Int); rw [Int.mul_assoc]; simp
theorem RaiseSt.a {w w3 : World} {k : Nat} {Y : LL} {An : Option Addr} {cn : Nat} {Rn : List Row} (hk : k ≤ 1099511627776) (hd : dat Rn = Y) (hy : RdY w3 An Rn)
    (hb : Below ((w.alloc (.cells (madeCells #[.int .i64 0] k) 2)).alloc (.cells #[.slice (some ⟨w.heap.size, 0, none⟩) k k] 30)).drew.heap.size ((w.alloc (.cells (madeCells #[.int .i64 0] k) 2)).alloc (.cells #[.slice (some ⟨w.heap.size, 0, none⟩) k k] 30)).drew w3) :
    RaiseSt w [List.replicate k 0] Y (.slice (some ⟨w.heap.size + 1, 0, none⟩) 1 1) (.slice An Rn.length cn) w3 := by
  have h0 : Below w.heap.size w (w.alloc (.cells (madeCells #[.int .i64 0] k) 2)) := (Below.refl _ _).alloc (Nat.le_refl _) _
  have h1 := RdY.unit h0 (made_own w w.heap.size k (Nat.le_refl _) hk)
  rw [World.size_alloc] at h1
  have h2 : Below w.heap.size w ((w.alloc (.cells (madeCells #[.int .i64 0] k) 2)).alloc (.cells #[.slice (some ⟨w.heap.size, 0, none⟩) k k] 30)).drew := (h0.alloc (by simp) _).drew
  exact ⟨_, _, [⟨some ⟨w.heap.size, 0, none⟩, k, List.replicate k 0⟩], An, cn, Rn, rfl, rfl, rfl, h1.drew.below hb, hd, hy, h2.trans (hb.mono h2.size), Nat.le_refl _⟩
theorem RaiseSt.b {w w3 : World} {k : Nat} {Y : LL} {An : Option Addr} {cn : Nat} {Rn : List Row} (hk : k ≤ 1099511627776) (hd : dat Rn = Y) (hy : RdY w3 An Rn)
    (hb : Below (w.alloc (.cells (madeCells #[.int .i64 0] k) 2)).drew.heap.size (w.alloc (.cells (madeCells #[.int .i64 0] k) 2)).drew w3) :
    RaiseSt w [List.replicate k 0] Y (.slice (some ⟨w3.heap.size, 0, none⟩) 1 1) (.slice An Rn.length cn) (w3.alloc (.cells #[.slice (some ⟨w.heap.size, 0, none⟩) k k] 30)) := by
  have h0 : Below w.heap.size w (w.alloc (.cells (madeCells #[.int .i64 0] k) 2)).drew := ((Below.refl _ _).alloc (Nat.le_refl _) _).drew
  have ho : (w.alloc (.cells (madeCells #[.int .i64 0] k) 2)).drew.ownsRow w.heap.size 2 1 (.slice (some ⟨w.heap.size, 0, none⟩) k k) k (iv (List.replicate k 0)) := made_own w w.heap.size k (Nat.le_refl _) hk
  have h1 := RdY.unit (h0.trans (hb.mono h0.size)) (owns_later ho hb)
  have h2 : Below w.heap.size w w3 := h0.trans (hb.mono h0.size)
  exact ⟨_, _, [⟨some ⟨w.heap.size, 0, none⟩, k, List.replicate k 0⟩], An, cn, Rn, rfl, rfl, rfl, h1, hd, hy.below ((Below.refl _ _).alloc (Nat.le_refl _) _), h2.alloc h2.size _, Nat.le_refl _⟩
theorem RaiseSt.c {w w3 : World} {k : Nat} {Y : LL} {An : Option Addr} {cn : Nat} {Rn : List Row} (hk : k ≤ 1099511627776) (hd : dat Rn = Y) (hy : RdY w3 An Rn)
    (hb : Below w.drew.heap.size w.drew w3) :
    RaiseSt w [List.replicate k 0] Y (.slice (some ⟨w3.heap.size + 1, 0, none⟩) 1 1) (.slice An Rn.length cn) ((w3.alloc (.cells (madeCells #[.int .i64 0] k) 2)).alloc (.cells #[.slice (some ⟨w3.heap.size, 0, none⟩) k k] 30)) := by
  have h0 : Below w3.heap.size w3 (w3.alloc (.cells (madeCells #[.int .i64 0] k) 2)) := (Below.refl _ _).alloc (Nat.le_refl _) _
  have h1 := RdY.unit h0 (made_own w3 w3.heap.size k (Nat.le_refl _) hk)
  rw [World.size_alloc] at h1
  have hz : w.heap.size ≤ w3.heap.size := hb.size
  have h2 : Below w.heap.size w w3 := (Below.drew (Below.refl w.heap.size w)).trans hb
  exact ⟨_, _, [⟨some ⟨w3.heap.size, 0, none⟩, k, List.replicate k 0⟩], An, cn, Rn, rfl, rfl, rfl, h1, hd, hy.below (h0.alloc (by simp) _), (h2.alloc hz _).alloc (by simp; omega) _, Nat.le_refl _⟩
theorem unit_rep (k : Nat) : nf [List.replicate k 0] = [List.replicate k (0 : Int)] := rfl

set_option maxRecDepth 100000 in
set_option maxHeartbeats 8000000 in
theorem l08Raise_any (k m n : Nat) (w : World) (hk0 : 0 < k) (hk : k ≤ 4) (hm : m < 16) (hn : n ≤ 40) :
    Calls Try.prog 83 #[.int .i64 k, .int .i64 m, .int .i64 n] w (RdResY (nf (powM k (formM k m k) n 6)) w) := by
  have hmk := run_make_row' (P := Try.prog) 30 2 (.int .i64 0) 8 Try.underlying30 infoI rfl .i64 .i64 k (by omega) (by omega)
  have HLF := Lib.hid (fun W => l08Form_any k m W (by omega) (by unfold Sm; omega))
  have HFH : Hid (HomM k 1 (formM k m k)) := Lib.hid (hom_form (Nat.le_refl k))
  go_enter Try.func83, Try.ntmps83
  go_wp2_with fail
  go_cut [7, 8] (fun o nw wx => RaiseSt w (nf [List.replicate k 0]) (nf (formM k m k)) o nw wx)
  case first =>
    refine wp_region_held_drew (S := (fun _ => True)) (by kernel_rfl) (by (trivial)) (fun hHeld => ?_)
    refine wpAnyH_take (i := 0) (oi := ?oim1_1) (v := ?vm1_1) ?hm1_1 (by kernel_rfl) (by kernel_rfl) (by kernel_rfl) ?qm1_1 (Or.inl ⟨?wm1_1, ?ym1_1⟩) (by assumption) ?rm1_1
    case hm1_1 => (simp only [List.getElem?_toArray, List.getElem?_cons_succ, List.getElem?_cons_zero]; rfl)
    case qm1_1 => exact fun _ _ _ h => h
    case wm1_1 => rfl
    case ym1_1 => (intro w hSw; (try dsimp only at hSw); go_simp <;> with_reducible rfl)
    try simp only [Act.put, List.setIfInBounds_toArray, List.set_cons_zero, List.set_cons_succ]
    refine wpAnyH_take (i := 3) (oi := ?oim1_2) (v := ?vm1_2) ?hm1_2 (by kernel_rfl) (by kernel_rfl) (by kernel_rfl) ?qm1_2 (Or.inl ⟨?wm1_2, ?ym1_2⟩) (by assumption) ?rm1_2
    case hm1_2 => (simp only [List.getElem?_toArray, List.getElem?_cons_succ, List.getElem?_cons_zero]; rfl)
    case qm1_2 => exact fun _ _ _ h => h
    case wm1_2 => rfl
    case ym1_2 => (intro w hSw; (try dsimp only at hSw); go_simp <;> with_reducible rfl)
    try simp only [Act.put, List.setIfInBounds_toArray, List.set_cons_zero, List.set_cons_succ]
    refine wpAnyH_take (i := 4) (oi := ?oim1_3) (v := ?vm1_3) ?hm1_3 (by kernel_rfl) (by kernel_rfl) (by kernel_rfl) ?qm1_3 (Or.inl ⟨?wm1_3, ?ym1_3⟩) (by assumption) ?rm1_3
    case hm1_3 => (simp only [List.getElem?_toArray, List.getElem?_cons_succ, List.getElem?_cons_zero]; rfl)
    case qm1_3 => exact fun _ _ _ h => h
    case wm1_3 => rfl
    case ym1_3 => (intro w hSw; (try dsimp only at hSw); go_simp <;> with_reducible rfl)
    try simp only [Act.put, List.setIfInBounds_toArray, List.set_cons_zero, List.set_cons_succ]
    refine wpAnyH_ready (rs := [1, 5]) (by kernel_rfl) (by simp) ?_
    refine AllReadyH.cons (o := ?oim1_4) ?hm1_4 (fun K hK => ?km1_4) ?mm1_4
    case hm1_4 => (simp only [List.getElem?_toArray, List.getElem?_cons_succ, List.getElem?_cons_zero]; rfl)
    case km1_4 =>
      go_simp
      refine hK.out _ _ (by (trivial)) (fun hHeld => ?_)
      clear hK K
      try simp only [Act.put, List.setIfInBounds_toArray, List.set_cons_zero, List.set_cons_succ]
      refine wpAnyH_ready (rs := [2, 5]) (by kernel_rfl) (by simp) ?_
      refine AllReadyH.cons (o := ?oim1_5) ?hm1_5 (fun K hK => ?km1_5) ?mm1_5
      case hm1_5 => (simp only [List.getElem?_toArray, List.getElem?_cons_succ, List.getElem?_cons_zero]; rfl)
      case km1_5 =>
        go_simp
        refine hK.out _ _ (by (trivial)) (fun hHeld => ?_)
        clear hK K
        try simp only [Act.put, List.setIfInBounds_toArray, List.set_cons_zero, List.set_cons_succ]
        refine wpAnyH_ready (rs := [5]) (by kernel_rfl) (by simp) ?_
        refine AllReadyH.cons (o := ?oim1_6) ?hm1_6 (fun K hK => ?km1_6) ?mm1_6
        case hm1_6 => (simp only [List.getElem?_toArray, List.getElem?_cons_succ, List.getElem?_cons_zero]; rfl)
        case km1_6 =>
          go_simp
          (go_at_call 76; refine (HLF.out _).mono ?_; rintro e w3 ⟨An, cn, Rn, rfl, hdn, hyn, hcn, hbn⟩)
          refine hK.out _ _ (by (trivial)) (fun hHeld => ?_)
          clear hK K
          try simp only [Act.put, List.setIfInBounds_toArray, List.set_cons_zero, List.set_cons_succ]
          refine wpAnyH_take (i := 6) (oi := ?oim1_7) (v := ?vm1_7) ?hm1_7 (by kernel_rfl) (by kernel_rfl) (by kernel_rfl) ?qm1_7 (Or.inl ⟨?wm1_7, ?ym1_7⟩) (by assumption) ?rm1_7
          case hm1_7 => (simp only [List.getElem?_toArray, List.getElem?_cons_succ, List.getElem?_cons_zero]; rfl)
          case qm1_7 => exact fun _ _ _ h => h
          case wm1_7 => rfl
          case ym1_7 => (intro w hSw; (try dsimp only at hSw); go_simp <;> with_reducible rfl)
          try simp only [Act.put, List.setIfInBounds_toArray, List.set_cons_zero, List.set_cons_succ]
          refine wpAnyH_take (i := 7) (oi := ?oim1_8) (v := ?vm1_8) ?hm1_8 (by kernel_rfl) (by kernel_rfl) (by kernel_rfl) ?qm1_8 (Or.inl ⟨?wm1_8, ?ym1_8⟩) (by assumption) ?rm1_8
          case hm1_8 => (simp only [List.getElem?_toArray, List.getElem?_cons_succ, List.getElem?_cons_zero]; rfl)
          case qm1_8 => exact fun _ _ _ h => h
          case wm1_8 => rfl
          case ym1_8 => (intro w hSw; (try dsimp only at hSw); go_simp <;> with_reducible rfl)
          try simp only [Act.put, List.setIfInBounds_toArray, List.set_cons_zero, List.set_cons_succ]
          refine wpAnyH_done (by kernel_rfl) ?_ _
          go_wp2_with fail
          go_meet
          first
          | exact RaiseSt.a (by omega) hdn hyn hbn
          | exact RaiseSt.b (by omega) hdn hyn hbn
          | exact RaiseSt.c (by omega) hdn hyn hbn
        exact AllReadyH.nil
      refine AllReadyH.cons (o := ?oim1_9) ?hm1_9 (fun K hK => ?km1_9) ?mm1_9
      case hm1_9 => (simp only [List.getElem?_toArray, List.getElem?_cons_succ, List.getElem?_cons_zero]; rfl)
      case km1_9 =>
        go_simp
        (go_at_call 76; refine (HLF.out _).mono ?_; rintro e w3 ⟨An, cn, Rn, rfl, hdn, hyn, hcn, hbn⟩)
        refine hK.out _ _ (by (trivial)) (fun hHeld => ?_)
        clear hK K
        try simp only [Act.put, List.setIfInBounds_toArray, List.set_cons_zero, List.set_cons_succ]
        refine wpAnyH_ready (rs := [2]) (by kernel_rfl) (by simp) ?_
        refine AllReadyH.cons (o := ?oim1_10) ?hm1_10 (fun K hK => ?km1_10) ?mm1_10
        case hm1_10 => (simp only [List.getElem?_toArray, List.getElem?_cons_succ, List.getElem?_cons_zero]; rfl)
        case km1_10 =>
          go_simp
          refine hK.out _ _ (by (trivial)) (fun hHeld => ?_)
          clear hK K
          try simp only [Act.put, List.setIfInBounds_toArray, List.set_cons_zero, List.set_cons_succ]
          refine wpAnyH_take (i := 6) (oi := ?oim1_11) (v := ?vm1_11) ?hm1_11 (by kernel_rfl) (by kernel_rfl) (by kernel_rfl) ?qm1_11 (Or.inl ⟨?wm1_11, ?ym1_11⟩) (by assumption) ?rm1_11
          case hm1_11 => (simp only [List.getElem?_toArray, List.getElem?_cons_succ, List.getElem?_cons_zero]; rfl)
          case qm1_11 => exact fun _ _ _ h => h
          case wm1_11 => rfl
          case ym1_11 => (intro w hSw; (try dsimp only at hSw); go_simp <;> with_reducible rfl)
          try simp only [Act.put, List.setIfInBounds_toArray, List.set_cons_zero, List.set_cons_succ]
          refine wpAnyH_take (i := 7) (oi := ?oim1_12) (v := ?vm1_12) ?hm1_12 (by kernel_rfl) (by kernel_rfl) (by kernel_rfl) ?qm1_12 (Or.inl ⟨?wm1_12, ?ym1_12⟩) (by assumption) ?rm1_12
          case hm1_12 => (simp only [List.getElem?_toArray, List.getElem?_cons_succ, List.getElem?_cons_zero]; rfl)
          case qm1_12 => exact fun _ _ _ h => h
          case wm1_12 => rfl
          case ym1_12 => (intro w hSw; (try dsimp only at hSw); go_simp <;> with_reducible rfl)
          try simp only [Act.put, List.setIfInBounds_toArray, List.set_cons_zero, List.set_cons_succ]
          refine wpAnyH_done (by kernel_rfl) ?_ _
          go_wp2_with fail
          go_meet
          first
          | exact RaiseSt.a (by omega) hdn hyn hbn
          | exact RaiseSt.b (by omega) hdn hyn hbn
          | exact RaiseSt.c (by omega) hdn hyn hbn
        exact AllReadyH.nil
      exact AllReadyH.nil
    refine AllReadyH.cons (o := ?oim1_13) ?hm1_13 (fun K hK => ?km1_13) ?mm1_13
    case hm1_13 => (simp only [List.getElem?_toArray, List.getElem?_cons_succ, List.getElem?_cons_zero]; rfl)
    case km1_13 =>
      go_simp
      (go_at_call 76; refine (HLF.out _).mono ?_; rintro e w3 ⟨An, cn, Rn, rfl, hdn, hyn, hcn, hbn⟩)
      refine hK.out _ _ (by (trivial)) (fun hHeld => ?_)
      clear hK K
      try simp only [Act.put, List.setIfInBounds_toArray, List.set_cons_zero, List.set_cons_succ]
      refine wpAnyH_ready (rs := [1]) (by kernel_rfl) (by simp) ?_
      refine AllReadyH.cons (o := ?oim1_14) ?hm1_14 (fun K hK => ?km1_14) ?mm1_14
      case hm1_14 => (simp only [List.getElem?_toArray, List.getElem?_cons_succ, List.getElem?_cons_zero]; rfl)
      case km1_14 =>
        go_simp
        refine hK.out _ _ (by (trivial)) (fun hHeld => ?_)
        clear hK K
        try simp only [Act.put, List.setIfInBounds_toArray, List.set_cons_zero, List.set_cons_succ]
        refine wpAnyH_ready (rs := [2]) (by kernel_rfl) (by simp) ?_
        refine AllReadyH.cons (o := ?oim1_15) ?hm1_15 (fun K hK => ?km1_15) ?mm1_15
        case hm1_15 => (simp only [List.getElem?_toArray, List.getElem?_cons_succ, List.getElem?_cons_zero]; rfl)
        case km1_15 =>
          go_simp
          refine hK.out _ _ (by (trivial)) (fun hHeld => ?_)
          clear hK K
          try simp only [Act.put, List.setIfInBounds_toArray, List.set_cons_zero, List.set_cons_succ]
          refine wpAnyH_take (i := 6) (oi := ?oim1_16) (v := ?vm1_16) ?hm1_16 (by kernel_rfl) (by kernel_rfl) (by kernel_rfl) ?qm1_16 (Or.inl ⟨?wm1_16, ?ym1_16⟩) (by assumption) ?rm1_16
          case hm1_16 => (simp only [List.getElem?_toArray, List.getElem?_cons_succ, List.getElem?_cons_zero]; rfl)
          case qm1_16 => exact fun _ _ _ h => h
          case wm1_16 => rfl
          case ym1_16 => (intro w hSw; (try dsimp only at hSw); go_simp <;> with_reducible rfl)
          try simp only [Act.put, List.setIfInBounds_toArray, List.set_cons_zero, List.set_cons_succ]
          refine wpAnyH_take (i := 7) (oi := ?oim1_17) (v := ?vm1_17) ?hm1_17 (by kernel_rfl) (by kernel_rfl) (by kernel_rfl) ?qm1_17 (Or.inl ⟨?wm1_17, ?ym1_17⟩) (by assumption) ?rm1_17
          case hm1_17 => (simp only [List.getElem?_toArray, List.getElem?_cons_succ, List.getElem?_cons_zero]; rfl)
          case qm1_17 => exact fun _ _ _ h => h
          case wm1_17 => rfl
          case ym1_17 => (intro w hSw; (try dsimp only at hSw); go_simp <;> with_reducible rfl)
          try simp only [Act.put, List.setIfInBounds_toArray, List.set_cons_zero, List.set_cons_succ]
          refine wpAnyH_done (by kernel_rfl) ?_ _
          go_wp2_with fail
          go_meet
          first
          | exact RaiseSt.a (by omega) hdn hyn hbn
          | exact RaiseSt.b (by omega) hdn hyn hbn
          | exact RaiseSt.c (by omega) hdn hyn hbn
        exact AllReadyH.nil
      exact AllReadyH.nil
    exact AllReadyH.nil
  case rest =>
    have HC := Lib.hid hcut
    clear hcut
    go_wp2_with fail
    go_loopw [2, 7, 8] (fun q o nw wr => ∃ j : Nat, q = .int .i64 ((n / 2 ^ j : Nat) : Int) ∧ j ≤ 6 ∧ RaiseSt w (nf (powM k (formM k m k) n j)) ((nf (formM k m k)).map (scaM ((2 ^ j : Nat) : Int))) o nw wr) (fun q _ _ _ => (intOf q).toNat)
    case atStart =>
      refine ⟨0, by simp, by omega, ?_⟩
      have h := HC.out
      have e : (nf (formM k m k)).map (scaM ((2 ^ 0 : Nat) : Int)) = nf (formM k m k) := by
        rw [show (2 ^ 0 : Nat) = 1 from rfl]
        have : (nf (formM k m k)).map (scaM ((1 : Nat) : Int)) = (nf (formM k m k)).map id := List.map_congr_left fun x _ => scaM_one x
        rw [this, List.map_id]
      rw [e]
      exact h
    case round =>
      obtain ⟨j, rfl, hj, Ao, co, Ro, An, cn, Rn, rfl, rfl, hdo, hyo, hdn, hyn, hb, hco⟩ := hrel
      have HCO := Lib.hid hco
      have HDO := Lib.hid hdo
      have HYO := Lib.hid hyo
      have HYN := Lib.hid hyn
      have HDN := Lib.hid hdn
      have HB := Lib.hid hb
      have hsz := hb.size
      obtain ⟨wv, hwv⟩ : ∃ wv, wv = wr := ⟨_, rfl⟩
      subst hwv
      have HNX : Hid (n / 2 ^ (j + 1) = n / 2 ^ j / 2) := Lib.hid (by rw [Nat.pow_succ, Nat.div_div_eq_div_mul])
      have HTB : Hid (tb n j = decide (n / 2 ^ j % 2 = 1)) := Lib.hid (by unfold tb; rw [Nat.testBit_eq_decide_div_mod_eq])
      have HLT : Hid (0 < n / 2 ^ j → 2 ^ j ≤ n) := Lib.hid (fun h => by
        rcases Nat.lt_or_ge n (2 ^ j) with h1 | h1
        · rw [Nat.div_eq_of_lt h1] at h; omega
        · exact h1)
      have HEN : Hid (n / 2 ^ j = 0 → n < 2 ^ j) := Lib.hid (fun h => by
        rcases Nat.lt_or_ge n (2 ^ j) with h1 | h1
        · exact h1
        · have := Nat.div_pos h1 (Nat.two_pow_pos j); omega)
      have HST : Hid (powM k (formM k m k) n (j + 1) = if tb n j = true then prodM (powM k (formM k m k) n j) ((formM k m k).map (scaM ((2 ^ j : Nat) : Int))) else powM k (formM k m k) n j) := Lib.hid rfl
      have HPH := Lib.hid (hom_pow HFH.out n j)
      have HPE := Lib.hid (fun h i => powM_end k (formM k m k) (n := n) (j := j) h i)
      have HYS : Hid (n / 2 ^ j ≤ 40) := Lib.hid (Nat.le_trans (Nat.div_le_self _ _) hn)
      clear hdo hyo hdn hyn hb hco
      generalize hy : n / 2 ^ j = y at *
      have hy40 := HYS.out
      clear hy
      by_cases hpos : 0 < y
      · have hle := HLT.out hpos
        have hj5 : j ≤ 5 := by
          rcases Nat.lt_or_ge j 6 with h | h
          · omega
          · have := Nat.pow_le_pow_right (n := 2) (by omega) h
            have e : (2 : Nat) ^ 6 = 64 := rfl
            omega
        have hmodn : n % 2 ^ j ≤ 40 := Nat.le_trans (Nat.mod_le _ _) hn
        have HSH := Lib.hid (HFH.out.sca (2 ^ j))
        have HDN2 : Hid (dat Rn = nf ((formM k m k).map (scaM ((2 ^ j : Nat) : Int)))) := Lib.hid (by rw [HDN.out, nf_sca _ _ (by have := Nat.two_pow_pos j; omega)])
        have HNL := Lib.hid (hom_len HSH.out HDN2.out hk0 hk (by omega))
        have HNN : Hid (∀ x ∈ dat Rn, x.length = k ∧ ∀ e ∈ x, 0 ≤ e ∧ e < 1000000000) := Lib.hid (by rw [HDN2.out]; exact hom_bd HSH.out (by omega))
        have HNX2 : Hid ((dat Rn).map (scaM 2) = (nf (formM k m k)).map (scaM ((2 ^ (j + 1) : Nat) : Int))) := Lib.hid (by rw [HDN.out, nf_sca_pow _ _ (Nat.two_pow_pos j), Nat.pow_succ])
        have hyi : (0 : Int) < (y : Int) := by omega
        generalize hpj : (2 : Nat) ^ j = pj at *
        clear hpj HLT HEN HPE
        go_upto_if 23 with fail
        go_cut [7] (fun o wx => ∃ A2 c2 R2, o = .slice A2 R2.length c2 ∧ dat R2 = nf (powM k (formM k m k) n (j + 1)) ∧ RdY wx A2 R2 ∧ Below wv.heap.size wv wx ∧ R2.length ≤ c2)
        case first =>
          by_cases hp : y % 2 = 1
          · have hpi : ((y : Int) % 2 == 1) = true := by simp; omega
            have hpi2 : (y : Int) % 2 = 1 := by omega
            rw [decide_eq_true hp] at HTB
            have HT := Lib.hid (times_hom (A := Ao) (c := co) (B := An) (c' := cn) (W := wv) hk0 hk HPH.out HSH.out (by omega) (by omega) HDO.out HDN2.out HYO.out.rd HYN.out.rd)
            go_wp2_with fail
            refine HT.out.mono ?_
            rintro e w2 ⟨A2, c2, R2, rfl, hd2, hy2, hc2, hb2⟩
            have HD2 := Lib.hid hd2
            have HY2 := Lib.hid hy2
            have HB2 := Lib.hid hb2
            clear hd2 hy2 hb2
            go_wp2_with fail
            go_meet
            exact ⟨A2, c2, R2, rfl, by rw [HST.out, if_pos HTB.out]; exact HD2.out, HY2.out, HB2.out, hc2⟩
          · have hpi : ((y : Int) % 2 == 1) = false := by simp; omega
            have hpi2 : ¬ (y : Int) % 2 = 1 := by omega
            rw [decide_eq_false hp] at HTB
            go_wp2_with fail
            go_meet
            exact ⟨Ao, co, Ro, rfl, by rw [HST.out, if_neg (by rw [HTB.out]; simp)]; exact HDO.out, HYO.out, Below.refl _ _, HCO.out⟩
        case rest =>
          obtain ⟨A2, c2, R2, rfl, hd2, hy2, hb2, hc2⟩ := hcut
          have HC2 := Lib.hid hc2
          have HD2 := Lib.hid hd2
          have HY2 := Lib.hid hy2
          have HB2 := Lib.hid hb2
          have hsz2 := hb2.size
          clear hd2 hy2 hb2 hc2
          have HYN2 := Lib.hid (HYN.out.below HB2.out)
          obtain ⟨wz, hwz⟩ : ∃ wz, wz = wc := ⟨_, rfl⟩
          subst hwz
          go_wp2_with fail
          go_loopw [9, 10] (fun vv i wr => ∃ R : List Row, ∃ A1 c1, R.length ≤ Rn.length ∧ i = .int .i64 (R.length : Nat) ∧ vv = .slice A1 R.length c1 ∧ Hid (dat R = ((dat Rn).map (scaM 2)).take R.length) ∧ OwnR wr wz.heap.size (.slice A1 R.length c1) R ∧ Below wz.heap.size wz wr) (fun _ i _ => Rn.length - (intOf i).toNat)
          case atStart => exact ⟨[], some ⟨wz.heap.size, 0, none⟩, 0, by simp, rfl, rfl, Lib.hid rfl, OwnR.made wz (Nat.le_refl _), (Below.refl _ _).alloc (Nat.le_refl _) _⟩
          case round =>
            obtain ⟨R, A1, c1, hjr, rfl, rfl, HD, hown, hbel⟩ := hrel
            have HO := Lib.hid hown
            have HBL := Lib.hid hbel
            have hszb := hbel.size
            have hq : R.length < 1099511627776 := by have := HNL.out; omega
            by_cases hlt : R.length < Rn.length
            · have hR1 := (HYN2.out.below hbel).rd
              obtain ⟨b, o, rfl, hc0⟩ := HYN2.out.rd.at_ hlt
              have hbz := World.block_lt_of_cell? _ _ hc0
              have hc := (hbel.cell hbz).trans hc0
              have HIN := Lib.hid (hR1.inn _ hlt)
              have HNB : Hid (some b ≠ (Value.slice A1 R.length c1).ownBlock) := Lib.hid (fun e => by have := (hown.out.lt b e.symm).1; simp only at hbz; omega)
              clear hc0 hbz
              have hmem : (rg Rn R.length).xs ∈ dat Rn := by rw [← dat_getD]; simp [List.getD, dat_length, hlt]
              obtain ⟨hxl, hxb⟩ := HNN.out _ hmem
              have HTS : Hid (((dat Rn).map (scaM 2)).take (R.length + 1) = ((dat Rn).map (scaM 2)).take R.length ++ [plusM (rg Rn R.length).xs (rg Rn R.length).xs]) := Lib.hid (by
                rw [List.take_succ_eq_append_getElem (by rw [List.length_map, dat_length]; exact hlt), ← dat_getD, scaM_plus]; simp [List.getD, hlt, dat_length])
              generalize rg Rn R.length = r at *
              obtain ⟨rA, rc, rx⟩ := r
              simp only at hc HIN hxl hxb HTS
              have hXB : ∀ i, i < k → 0 ≤ rx.getD i 0 ∧ rx.getD i 0 < 1152921504606846976 := fun i hi => by
                have := hxb (rx.getD i 0) (by simp [List.getD, show i < rx.length by omega])
                omega
              have HPP := Lib.hid (l08Plus_any rA rA k rc rc rx rx wr.drew hxl.symm hxl.symm (by omega) hXB hXB HIN.out HIN.out)
              have HPL : Hid ((plusM rx rx).length = k) := Lib.hid (plusM_length hxl hxl)
              have hgb := World.block_lt_of_cell? _ _ hc
              have HBZ := Lib.hid (Below.drew (Below.refl wr.heap.size wr))
              rw [hxl] at hc
              clear hown hbel hR1 hmem hxb hxl hXB
              go_wp2_with fail
              refine wp_region_K (S := (fun w' => w'.cell? ⟨b, o + R.length, none⟩ = some (.slice rA k rc))) 12 (by kernel_rfl) (by (first | exact hc | exact K4.out | exact allocP K4.out _ | exact K7.out)) (fun hHeld => ?_)
              refine wpAnyK_take (i := 0) (oi := ?oik2_1) (v := ?vk2_1) ?hk2_1 (by kernel_rfl) (by kernel_rfl) (by kernel_rfl) (by kernel_rfl) ?qk2_1 (Or.inl ⟨?wk2_1, ?yk2_1⟩) (by assumption) ?rk2_1
              case hk2_1 => (simp only [List.getElem?_toArray, List.getElem?_cons_succ, List.getElem?_cons_zero]; rfl)
              case qk2_1 => exact fun _ _ _ h => h
              case wk2_1 => rfl
              case yk2_1 => (intro w hSw; (try dsimp only at hSw); go_simp <;> with_reducible rfl)
              try simp only [Act.put, List.setIfInBounds_toArray, List.set_cons_zero, List.set_cons_succ]
              refine wpAnyK_take (i := 1) (oi := ?oik2_2) (v := ?vk2_2) ?hk2_2 (by kernel_rfl) (by kernel_rfl) (by kernel_rfl) (by kernel_rfl) ?qk2_2 (Or.inl ⟨?wk2_2, ?yk2_2⟩) (by assumption) ?rk2_2
              case hk2_2 => (simp only [List.getElem?_toArray, List.getElem?_cons_succ, List.getElem?_cons_zero]; rfl)
              case qk2_2 => exact fun _ _ _ h => h
              case wk2_2 => rfl
              case yk2_2 => (intro w hSw; (try dsimp only at hSw); go_simp <;> with_reducible rfl)
              try simp only [Act.put, List.setIfInBounds_toArray, List.set_cons_zero, List.set_cons_succ]
              refine wpAnyK_take (i := 2) (oi := ?oik2_3) (v := ?vk2_3) ?hk2_3 (by kernel_rfl) (by kernel_rfl) (by kernel_rfl) (by kernel_rfl) ?qk2_3 (Or.inl ⟨?wk2_3, ?yk2_3⟩) (by assumption) ?rk2_3
              case hk2_3 => (simp only [List.getElem?_toArray, List.getElem?_cons_succ, List.getElem?_cons_zero]; rfl)
              case qk2_3 => exact fun _ _ _ h => h
              case wk2_3 => rfl
              case yk2_3 => (intro w hSw; (try dsimp only at hSw); go_simp <;> with_reducible rfl)
              try simp only [Act.put, List.setIfInBounds_toArray, List.set_cons_zero, List.set_cons_succ]
              refine wpAnyK_take (i := 3) (oi := ?oik2_4) (v := ?vk2_4) ?hk2_4 (by kernel_rfl) (by kernel_rfl) (by kernel_rfl) (by kernel_rfl) ?qk2_4 (Or.inl ⟨?wk2_4, ?yk2_4⟩) (by assumption) ?rk2_4
              case hk2_4 => (simp only [List.getElem?_toArray, List.getElem?_cons_succ, List.getElem?_cons_zero]; rfl)
              case qk2_4 => exact fun _ _ _ h => h
              case wk2_4 => rfl
              case yk2_4 => (intro w hSw; (try dsimp only at hSw); go_simp <;> with_reducible rfl)
              try simp only [Act.put, List.setIfInBounds_toArray, List.set_cons_zero, List.set_cons_succ]
              refine wpAnyK_take (i := 4) (oi := ?oik2_5) (v := ?vk2_5) ?hk2_5 (by kernel_rfl) (by kernel_rfl) (by kernel_rfl) (by kernel_rfl) ?qk2_5 (Or.inl ⟨?wk2_5, ?yk2_5⟩) (by assumption) ?rk2_5
              case hk2_5 => (simp only [List.getElem?_toArray, List.getElem?_cons_succ, List.getElem?_cons_zero]; rfl)
              case qk2_5 => exact fun _ _ _ h => h
              case wk2_5 => rfl
              case yk2_5 => (intro w hSw; (try dsimp only at hSw); go_simp <;> with_reducible rfl)
              try simp only [Act.put, List.setIfInBounds_toArray, List.set_cons_zero, List.set_cons_succ]
              refine wpAnyK_take (i := 5) (oi := ?oik2_6) (v := ?vk2_6) ?hk2_6 (by kernel_rfl) (by kernel_rfl) (by kernel_rfl) (by kernel_rfl) ?qk2_6 (Or.inl ⟨?wk2_6, ?yk2_6⟩) (by assumption) ?rk2_6
              case hk2_6 => (simp only [List.getElem?_toArray, List.getElem?_cons_succ, List.getElem?_cons_zero]; rfl)
              case qk2_6 => exact fun _ _ _ h => h
              case wk2_6 => rfl
              case yk2_6 => (intro w hSw; (try dsimp only at hSw); go_simp <;> with_reducible rfl)
              try simp only [Act.put, List.setIfInBounds_toArray, List.set_cons_zero, List.set_cons_succ]
              refine wpAnyK_take (i := 6) (oi := ?oik2_7) (v := ?vk2_7) ?hk2_7 (by kernel_rfl) (by kernel_rfl) (by kernel_rfl) (by kernel_rfl) ?qk2_7 (Or.inl ⟨?wk2_7, ?yk2_7⟩) (by assumption) ?rk2_7
              case hk2_7 => (simp only [List.getElem?_toArray, List.getElem?_cons_succ, List.getElem?_cons_zero]; rfl)
              case qk2_7 => exact fun _ _ _ h => h
              case wk2_7 => rfl
              case yk2_7 => (intro w hSw; (try dsimp only at hSw); go_simp <;> with_reducible rfl)
              try simp only [Act.put, List.setIfInBounds_toArray, List.set_cons_zero, List.set_cons_succ]
              refine wpAnyK_take (i := 7) (oi := ?oik2_8) (v := ?vk2_8) ?hk2_8 (by kernel_rfl) (by kernel_rfl) (by kernel_rfl) (by kernel_rfl) ?qk2_8 (Or.inl ⟨?wk2_8, ?yk2_8⟩) (by assumption) ?rk2_8
              case hk2_8 => (simp only [List.getElem?_toArray, List.getElem?_cons_succ, List.getElem?_cons_zero]; rfl)
              case qk2_8 => exact fun _ _ _ h => h
              case wk2_8 => rfl
              case yk2_8 => (intro w hSw; (try dsimp only at hSw); go_simp <;> with_reducible rfl)
              try simp only [Act.put, List.setIfInBounds_toArray, List.set_cons_zero, List.set_cons_succ]
              refine wpAnyK_take (i := 8) (oi := ?oik2_9) (v := ?vk2_9) ?hk2_9 (by kernel_rfl) (by kernel_rfl) (by kernel_rfl) (by kernel_rfl) ?qk2_9 (Or.inl ⟨?wk2_9, ?yk2_9⟩) (by assumption) ?rk2_9
              case hk2_9 => (simp only [List.getElem?_toArray, List.getElem?_cons_succ, List.getElem?_cons_zero]; rfl)
              case qk2_9 => exact fun _ _ _ h => h
              case wk2_9 => rfl
              case yk2_9 => (intro w hSw; (try dsimp only at hSw); go_simp <;> with_reducible rfl)
              try simp only [Act.put, List.setIfInBounds_toArray, List.set_cons_zero, List.set_cons_succ]
              refine wpAnyK_ready (rs := [9]) (by kernel_rfl) (by simp) ?_
              refine AllReadyK.cons (o := ?oik2_10) ?hk2_10 (fun K hK => ?kk2_10) ?mk2_10
              case hk2_10 => (simp only [List.getElem?_toArray, List.getElem?_cons_succ, List.getElem?_cons_zero]; rfl)
              case kk2_10 =>
                go_simp
                (go_at_call 103; refine HPP.out.mono ?_; rintro e w4 ⟨g4, c4, rfl, ho4, hb4⟩; have HO4 := Lib.hid ho4; have HB4 := Lib.hid (HBZ.out.trans hb4); have K4 : Hid (w4.cell? ⟨b, o + R.length, none⟩ = some (.slice rA k rc)) := Lib.hid ((HB4.out.cell hgb).trans hc); clear ho4 hb4)
                refine hK.out _ _ (by (first | exact hc | exact K4.out | exact allocP K4.out _ | exact K7.out)) (fun hHeld => ?_)
                clear hK K
                try simp only [Act.put, List.setIfInBounds_toArray, List.set_cons_zero, List.set_cons_succ]
                refine wpAnyK_ready (rs := [10]) (by kernel_rfl) (by simp) ?_
                refine AllReadyK.cons (o := ?oik2_11) ?hk2_11 (fun K hK => ?kk2_11) ?mk2_11
                case hk2_11 => (simp only [List.getElem?_toArray, List.getElem?_cons_succ, List.getElem?_cons_zero]; rfl)
                case kk2_11 =>
                  go_simp
                  refine hK.out _ _ (by (first | exact hc | exact K4.out | exact allocP K4.out _ | exact K7.out)) (fun hHeld => ?_)
                  clear hK K
                  try simp only [Act.put, List.setIfInBounds_toArray, List.set_cons_zero, List.set_cons_succ]
                  refine wpAnyK_ready (rs := [11]) (by kernel_rfl) (by simp) ?_
                  refine AllReadyK.cons (o := ?oik2_12) ?hk2_12 (fun K hK => ?kk2_12) ?mk2_12
                  case hk2_12 => (simp only [List.getElem?_toArray, List.getElem?_cons_succ, List.getElem?_cons_zero]; rfl)
                  case kk2_12 =>
                    (refine step_app1 _ _ _ _ _ etS (by rfl) (by rfl) wz.heap.size (.slice A1 R.length c1) R.length (hv R) (by rfl) ?_ _ (.slice (some ⟨g4, 0, none⟩) k c4) (by rfl) ?_ (by rfl) ?_ ?_ ?_; exact (HO.out.later HB4.out).out.alloc _; exact new_cell _ _ _; exact hq; (have := HB4.out.size; simp; omega); (intro g2 cap2 w3 hown3 hg3 hat3 hlt3; have HN := Lib.hid (OwnR.push HO.out HB4.out HO4.out HPL.out.symm hszb hown3 hg3); have HB3 := Lib.hid (below_app2 (HBL.out.trans (HB4.out.mono hszb)) (Nat.le_trans hszb HB4.out.size) (HO.out.later HB4.out).out hg3); have K7 : Hid (w3.cell? ⟨b, o + R.length, none⟩ = some (.slice rA k rc)) := Lib.hid (grownP (allocP K4.out _) hg3 HNB.out); clear hown3 hg3 hat3 hlt3))
                    refine hK.out _ _ (by (first | exact hc | exact K4.out | exact allocP K4.out _ | exact K7.out)) (fun hHeld => ?_)
                    clear hK K
                    try simp only [Act.put, List.setIfInBounds_toArray, List.set_cons_zero, List.set_cons_succ]
                    refine wpAnyK_ready (rs := [12]) (by kernel_rfl) (by simp) ?_
                    refine AllReadyK.fin (o := ?oik2_13) (by decide) ?hk2_13 (fun K hK => ?kk2_13) ?mk2_13
                    case hk2_13 => (simp only [List.getElem?_toArray, List.getElem?_cons_succ, List.getElem?_cons_zero]; rfl)
                    case kk2_13 =>
                      go_simp
                      refine hK.out _ _ ?_
                      clear hK K
                      try simp only [Act.put, List.setIfInBounds_toArray, List.set_cons_zero, List.set_cons_succ]
                      refine wpAnyK_done (by kernel_rfl) ?_ _
                      go_wp2_with fail
                      go_roundw
                      case rel =>
                        refine ⟨R ++ [⟨some ⟨g4, 0, none⟩, c4, plusM rx rx⟩], some ⟨g2, 0, none⟩, cap2, by simp; omega, by simp, by simp, Lib.hid ?_, by simpa using HN.out, HB3.out⟩
                        rw [dat_append1, HD.out, List.length_append, List.length_singleton, HTS.out]
                      case measure => simp [intOf]; omega
                    exact AllReadyK.nil
                  exact AllReadyK.nil
                exact AllReadyK.nil
              exact AllReadyK.nil
            · have er : R.length = Rn.length := by omega
              have he : dat R = (nf (formM k m k)).map (scaM ((2 ^ (j + 1) : Nat) : Int)) := by
                rw [← HNX2.out, HD.out, List.take_of_length_le (by rw [List.length_map, dat_length, er]; exact Nat.le_refl _)]
              have HE := Lib.hid he
              have hii : ¬ (R.length : Int) < (Rn.length : Int) := by omega
              have hyq : IntKind.i64.wrap ((y : Int).tdiv 2) = ((y / 2 : Nat) : Int) := by
                rw [show (y : Int).tdiv 2 = ((y / 2 : Nat) : Int) from rfl, IntKind.wrap_i64]
                omega
              clear er he hown hbel
              go_wp2_with fail
              go_roundw
              case rel =>
                refine ⟨j + 1, by rw [HNX.out]; first | rfl | simp, by omega, A2, c2, R2, A1, c1, R, rfl, rfl, HD2.out, HY2.out.below HBL.out, HE.out, HO.out.rdY rfl, HB.out.trans ((HB2.out.trans (HBL.out.mono hsz2)).mono hsz), HC2.out⟩
              case measure => simp [intOf]; omega
      · have hy0 : y = 0 := by omega
        have hyi : ¬ (0 : Int) < (y : Int) := by omega
        have he := HPE.out (HEN.out hy0) (6 - j)
        rw [show j + (6 - j) = 6 by omega] at he
        have HE := Lib.hid he
        clear he hy0
        go_wp2_with fail
        go_ret
        exact ⟨Ao, co, Ro, rfl, by rw [HE.out]; exact HDO.out, HYO.out, HCO.out, HB.out⟩
end Go.Proofs.Ytnffpjdlpjkioaa

namespace Go.Proofs.Ytnffpjdlpjkioaa
open Go.RowKit

theorem wrapE {q e : Nat} (h : q ≤ 40) : q % 2 ^ 6 = q := Nat.mod_eq_of_lt (by omega)
set_option maxRecDepth 100000 in
set_option maxHeartbeats 8000000 in
theorem l08Substitute_any (k d : Nat) (A F : Option Addr) (n c nf' cf : Nat) (L : List Row) (fs : List Int) (w : World) (hk0 : 0 < k) (hk : k ≤ 4) (hn : n = L.length) (hsm : n ≤ 2000) (hQ : HomM k d (dat L)) (hd : d ≤ 40) (hnf : nf' = k) (hfl : fs.length = k) (hf : ∀ x ∈ fs, 0 ≤ x ∧ x < 2 ^ k) (hR : RdR w A L) (hF : Rd w F (iv fs)) :
    Calls Try.prog 50 #[.int .i64 k, .slice A n c, .slice F nf' cf] w (ResRows (nf (putB k fs (dat L))) w) := by
  subst hnf
  have hmk := run_make_row' (P := Try.prog) 30 2 (.int .i64 0) 8 Try.underlying30 infoI rfl .i64 .i64 nf' (by omega) (by omega)
  have HR := Lib.hid hR
  have HF := Lib.hid hF
  have Hn := Lib.hid hn
  have HQ := Lib.hid hQ
  have HFL := Lib.hid hfl
  have HFF := Lib.hid hf
  have HLE : Hid (∀ i, HomM nf' d (putB nf' fs ((dat L).take i))) := Lib.hid fun i => putB_hom (hQ.take i) (by omega)
  clear hR hF hn hQ hfl hf
  go_enter Try.func50, Try.ntmps50
  go_wp2_with fail
  go_loopw [7, 8] (fun vv o wr => ∃ (i c1 : Nat) (A1 : Option Addr) (R : List Row), o = .int .i64 i ∧ i ≤ n ∧ vv = .slice A1 R.length c1 ∧ dat R = nf (putB nf' fs ((dat L).take i)) ∧ OwnR wr w.heap.size (.slice A1 R.length c1) R ∧ Below w.heap.size w wr) (fun _ o _ => n - (intOf o).toNat)
  case atStart => exact ⟨0, 0, some ⟨w.heap.size, 0, none⟩, [], rfl, by omega, rfl, rfl, OwnR.made w (Nat.le_refl _), (Below.refl _ _).alloc (Nat.le_refl _) _⟩
  case round =>
    obtain ⟨i, c1, A1, R, rfl, hi, rfl, hdat, hown, hB⟩ := hrel
    have HD := Lib.hid hdat
    have HO := Lib.hid hown
    have HB := Lib.hid hB
    have hsz := hB.size
    obtain ⟨wv, hwv⟩ : ∃ wv, wv = wr := ⟨_, rfl⟩
    subst hwv
    clear hdat hown
    by_cases hlt : i < n
    · have hjL : i < L.length := by rw [← Hn.out]; exact hlt
      have hR1 := HR.out.below hB
      obtain ⟨b, o, rfl, hc⟩ := hR1.at_ hjL
      have HIN := Lib.hid (hR1.inn i hjL)
      have hx : (rg L i).xs ∈ dat L := by rw [← dat_getD]; simp [List.getD, dat_length, hjL]
      have HTS : Hid ((dat L).take (i + 1) = (dat L).take i ++ [(rg L i).xs]) := Lib.hid (by
        rw [List.take_succ_eq_append_getElem (by rw [dat_length]; exact hjL), ← dat_getD]; simp [List.getD, dat_length, hjL])
      have hx3 := HQ.out _ hx
      have HX3 := Lib.hid hx3
      have hxl : (rg L i).xs.length = nf' := hx3.1
      have HSH := Lib.hid (fun j hj => putT_hom (k := nf') (fs := fs) hx3.2.1 hx3.2.2 (by omega) j hj)
      have HFU := Lib.hid (putT_full (k := nf') (fs := fs) hx3.1 hx3.2.1 hx3.2.2 (show d < 64 by omega))
      have hcb := World.block_lt_of_cell? _ _ hc
      clear hR1 hjL hx hx3
      generalize rg L i = r at *
      obtain ⟨rA, rc, rx⟩ := r
      simp only at hc hxl HIN HTS HX3 HSH HFU
      rw [hxl] at hc
      have HXL := Lib.hid hxl
      have HC := Lib.hid hc
      have h0 : Below wv.heap.size wv (wv.alloc (.cells (madeCells #[.int .i64 0] nf') 2)) := (Below.refl _ _).alloc (Nat.le_refl _) _
      have HU := Lib.hid (RdY.unit h0 (made_own wv wv.heap.size nf' (Nat.le_refl _) (by omega)))
      have HBU := Lib.hid (h0.alloc (by simp) (.cells #[.slice (some ⟨wv.heap.size, 0, none⟩) nf' nf'] 30))
      clear hxl hB h0
      go_wp2_with fail
      go_loopw [9, 10] (fun p o wr => ∃ (j c2 : Nat) (A2 : Option Addr) (S : List Row), o = .int .i64 j ∧ j ≤ nf' ∧ p = .slice A2 S.length c2 ∧ dat S = nf (putT nf' fs rx j) ∧ RdY wr A2 S ∧ Below wv.heap.size wv wr) (fun _ o _ => nf' - (intOf o).toNat)
      case atStart => exact ⟨0, 1, some ⟨wv.heap.size + 1, 0, none⟩, [⟨some ⟨wv.heap.size, 0, none⟩, nf', List.replicate nf' 0⟩], rfl, by omega, rfl, rfl, by simpa using HU.out, HBU.out⟩
      case round =>
        obtain ⟨j, c2, A2, S, rfl, hj, rfl, hds, hys, hBj⟩ := hrel
        have HDS := Lib.hid hds
        have HYS := Lib.hid hys
        have HBj := Lib.hid hBj
        have hszj := hBj.size
        clear hds hys
        by_cases hlj : j < nf'
        · have hji : (j : Int) < (nf' : Int) := by omega
          have hii : (i : Int) < (n : Int) := by omega
          obtain ⟨bx, ox, rfl, hcx⟩ := (HIN.out.below hBj).atI (k := j) (by rw [HXL.out]; exact hlj)
          obtain ⟨bf, of, rfl, hcf⟩ := (HF.out.below (HB.out.trans (hBj.mono hsz))).atI (k := j) (by rw [HFL.out]; exact hlj)
          have hcj := (hBj.cell hcb).trans HC.out
          have hmx : rx.getD j 0 ∈ rx := by simp [List.getD, HXL.out, hlj]
          have hmf : fs.getD j 0 ∈ fs := by simp [List.getD, HFL.out, hlj]
          obtain ⟨m, hm⟩ := Int.eq_ofNat_of_zero_le (HFF.out _ hmf).1
          obtain ⟨q, hq⟩ := Int.eq_ofNat_of_zero_le (HX3.out.2.1 _ hmx)
          have hm2 : m < 2 ^ nf' := by have := (HFF.out _ hmf).2; rw [hm] at this; exact_mod_cast this
          have hm16 : m < 16 := Nat.lt_of_lt_of_le hm2 (by have := Nat.pow_le_pow_right (n := 2) (by omega) hk; exact this)
          have hq40 : q ≤ 40 := by
            have := (le_sum HX3.out.2.1).2 _ hmx
            rw [HX3.out.2.2, hq] at this
            omega
          obtain ⟨e0, _, he0, hh0⟩ := HSH.out j (by rw [HXL.out]; omega)
          have HST : Hid (putT nf' fs rx (j + 1) = prodM (putT nf' fs rx j) (powM nf' (formM nf' m nf') q 6)) := Lib.hid (by
            show prodM (putT nf' fs rx j) (powM nf' (formM nf' (fs.getD j 0).toNat nf') (rx.getD j 0).toNat 6) = _
            rw [hm, hq, Int.toNat_natCast, Int.toNat_natCast])
          rw [hm] at hcf
          rw [hq] at hcx
          have hpw := hom_pow (hom_form (m := m) (Nat.le_refl nf')) q 6
          rw [Nat.mod_eq_of_lt (show q < 2 ^ 6 by omega)] at hpw
          have HPW := Lib.hid hpw
          have HH0 := Lib.hid hh0
          have HE0 := Lib.hid he0
          have HRA := Lib.hid (fun W => l08Raise_any nf' m q W hk0 hk hm16 hq40)
          have l1 := World.block_lt_of_cell? _ _ hcx
          have l2 := World.block_lt_of_cell? _ _ hcf
          have l3 := World.block_lt_of_cell? _ _ hcj
          have KS := Lib.hid (fun w' (hb : Below wr.heap.size wr w') => show w'.cell? ⟨bf, of + j, none⟩ = some (.int .i64 m) ∧ w'.cell? ⟨b, o + i, none⟩ = some (.slice (some ⟨bx, ox, none⟩) nf' rc) ∧ w'.cell? ⟨bx, ox + j, none⟩ = some (.int .i64 q) from ⟨(hb.cell l2).trans hcf, (hb.cell l3).trans hcj, (hb.cell l1).trans hcx⟩)
          have HB0 := Lib.hid (Below.drew (Below.refl wr.heap.size wr))
          clear hmx hmf hm hq hm2 hm16 he0 hh0 hpw l1 l2 l3 hcx hcf hcj hBj
          go_wp2_with fail
          go_region_held3 (fun w' => w'.cell? ⟨bf, of + j, none⟩ = some (.int .i64 m) ∧ w'.cell? ⟨b, o + i, none⟩ = some (.slice (some ⟨bx, ox, none⟩) nf' rc) ∧ w'.cell? ⟨bx, ox + j, none⟩ = some (.int .i64 q))
            (first | exact KS.out _ HB0.out | exact KS.out _ HB1.out | exact KS.out _ HB2.out)
            (first
              | (go_at_call 83; refine (HRA.out wr.drew).mono ?_; rintro e w3 ⟨A3, c3, R3, rfl, hd3, hy3, hc3, hb3⟩; have HB1 := Lib.hid (HB0.out.trans hb3); have HD3 := Lib.hid hd3; have HY3 := Lib.hid hy3; clear hd3 hy3 hb3)
              | (go_at_call 70; refine (times_hom (A := A2) (c := c2) (B := A3) (c' := c3) (W := w3) hk0 hk HH0.out HPW.out (by have := HE0.out; omega) (by omega) HDS.out HD3.out (HYS.out.below HB1.out).rd HY3.out.rd).mono ?_; rintro e w4 ⟨A4, c4, R4, rfl, hd4, hy4, hc4, hb4⟩; have HB2 := Lib.hid (HB1.out.trans (hb4.mono HB1.out.size)); have HD4 := Lib.hid hd4; have HY4 := Lib.hid hy4; clear hd4 hy4 hb4))
          go_wp2_with fail
          go_roundw
          case rel => exact ⟨j + 1, c4, A4, R4, by go_num, by omega, rfl, by rw [HST.out]; exact HD4.out, HY4.out, HBj.out.trans (HB2.out.mono hszj)⟩
          case measure => simp [intOf]; omega
        · have ej : j = nf' := by omega
          have hji : ¬ (j : Int) < (nf' : Int) := by omega
          rw [ej] at HDS
          have HS := Lib.hid (sum_hom (A := A1) (c := c1) (B := A2) (c' := c2) (W := wr) hk0 hk (HLE.out i) HFU.out (by omega) (by omega) HD.out HDS.out ((HO.out.later HBj.out).rd rfl) HYS.out.rd)
          clear ej hBj
          go_wp2_with fail
          refine HS.out.mono ?_
          rintro e w5 ⟨v5, R5, rfl, hd5, ho5, hb5⟩
          obtain ⟨A5, c5, rfl, -, -, -⟩ := owns_shape ho5.out
          have HD5 := Lib.hid hd5
          have HO5 := Lib.hid (ho5.mono (B' := w.heap.size) (Nat.le_trans hsz hszj))
          have HB5 := Lib.hid ((HB.out.trans (HBj.out.mono hsz)).trans (hb5.mono (Nat.le_trans hsz hszj)))
          clear hd5 ho5 hb5
          go_wp2_with fail
          go_roundw
          case rel => exact ⟨i + 1, c5, A5, R5, by go_num, by omega, rfl, by rw [HTS.out, putB_snoc]; exact HD5.out, HO5.out, HB5.out⟩
          case measure => simp [intOf]; omega
    · obtain rfl : i = n := by omega
      have e : (dat L).take i = dat L := List.take_of_length_le (by rw [dat_length, ← Hn.out]; exact Nat.le_refl _)
      rw [e] at HD
      clear e hB
      go_wp2_with fail
      go_ret
      exact ⟨_, R, rfl, HD.out, HO.out, HB.out⟩
end Go.Proofs.Ytnffpjdlpjkioaa

namespace Go.Proofs.Ytnffpjdlpjkioaa
open Go.RowKit

set_option maxHeartbeats 400000 in
theorem indexFuncR_any (A : Option Addr) (n c : Nat) (L : List Row) (fn : FuncId) (cv : Value) (p : Row → Bool) (w : World) (hcf : Ent fn) (hn : n = L.length) (hsm : n ≤ 1099511627776) (hR : Rd w A (hv L))
    (hf : ∀ r ∈ L, Asks Try.prog fn cv w r.val (p r)) :
    Calls Try.prog 120 #[.slice A n c, .func (.func fn) #[] #[cv]] w fun e w' =>
      e = .returned (.int .i64 (placeOf (L.findIdx? p))) ∧ ∃ m, w.drewN m = w' := by
  have Hn := Lib.hid hn; clear hn
  have HF := Lib.hid hf; clear hf
  have HR := Lib.hid hR; clear hR
  unfold Ent at hcf
  go_enter Try.func120, Try.ntmps120
  go_wp2_with fail
  go_loopw [8] (fun i wr => ∃ k : Nat, k ≤ n ∧ i = .int .i64 k ∧ (∃ m, wr = w.drewN m) ∧ (L.take k).findIdx? p = none) (fun i _ => n - (intOf i).toNat)
  case atStart => exact ⟨0, by omega, rfl, ⟨0, rfl⟩, by simp⟩
  case round =>
    obtain ⟨k, hk, rfl, ⟨m, rfl⟩, hp⟩ := hrel
    have HP := Lib.hid hp; clear hp
    by_cases hlt : k < n
    · have hkL : k < L.length := by rw [← Hn.out]; exact hlt
      obtain ⟨b, o, rfl, hc⟩ : ∃ b o, A = some ⟨b, o, none⟩ ∧ w.cell? ⟨b, o + k, none⟩ = some (rg L k).val := by
        rcases HR.out with h' | ⟨b, o, rfl, h'⟩
        · have := congrArg List.length h'; simp [hv_length] at this; subst this; simp at hkL
        · exact ⟨b, o, rfl, h' k _ (hv_get hkL)⟩
      have ha := HF.out _ (rg_mem hkL) m
      have HX := Lib.hid (rg_of hkL)
      generalize rg L k = x at *
      have HA := Lib.hid ha; clear ha
      generalize hv : x.val = v at *
      clear hv
      cases hb : p x
      · rw [hb] at HA
        go_wp2_with fail
        refine HA.out.mono ?_
        rintro e w' ⟨rfl, m', rfl⟩
        go_wp2_with fail
        go_roundw
        case rel => exact ⟨k + 1, by omega, by go_num, ⟨m', rfl⟩, by rw [List.take_succ_eq_append_getElem hkL, List.findIdx?_append, HP.out, ← HX.out]; simp [hb]⟩
        case measure => simp [intOf]; omega
      · rw [hb] at HA
        go_wp2_with fail
        refine HA.out.mono ?_
        rintro e w' ⟨rfl, m', rfl⟩
        go_wp2_with fail
        go_ret
        refine ⟨?_, m', rfl⟩
        have e : L.findIdx? p = some k := by
          rw [← List.take_append_drop k L, List.findIdx?_append, HP.out, List.drop_eq_getElem_cons hkL, ← HX.out]
          simp [hb, Nat.min_eq_left (Nat.le_of_lt hkL), List.findIdx?_cons]
        rw [e]
        rfl
    · have ek : L.take k = L := List.take_of_length_le (by rw [← Hn.out]; omega)
      go_wp2_with fail
      go_ret
      refine ⟨?_, m, rfl⟩
      have e : L.findIdx? p = none := by rw [← ek, HP.out]
      rw [e]
      rfl

set_option maxHeartbeats 400000 in
theorem containsFuncR_any (A : Option Addr) (n c : Nat) (L : List Row) (fn : FuncId) (cv : Value) (p : Row → Bool) (w : World) (hcf : Ent fn) (hn : n = L.length) (hsm : n ≤ 1099511627776) (hR : Rd w A (hv L))
    (hf : ∀ r ∈ L, Asks Try.prog fn cv w r.val (p r)) :
    Calls Try.prog 107 #[.slice A n c, .func (.func fn) #[] #[cv]] w fun e w' =>
      e = .returned (.bool (L.any p)) ∧ ∃ m, w.drewN m = w' := by
  have HC := Lib.hid (indexFuncR_any A n c L fn cv p w hcf hn hsm hR hf)
  clear hn hR hf hsm
  cases h : L.findIdx? p with
  | none =>
    rw [h] at HC
    have e : L.any p = false := by rw [List.any_eq_false]; rw [findIdx_none] at h; simpa using h
    have HE := Lib.hid e; clear e h
    go_enter Try.func107, Try.ntmps107
    go_wp2_with (go_at_call 120; refine HC.out.mono ?_; rintro e w' ⟨rfl, m', rfl⟩)
    go_ret
    exact ⟨by rw [HE.out]; rfl, m', rfl⟩
  | some k =>
    rw [h] at HC
    have e : L.any p = true := by
      cases ha : L.any p with
      | true => rfl
      | false =>
        rw [List.any_eq_false] at ha
        have : L.findIdx? p = none := by rw [findIdx_none]; simpa using ha
        rw [this] at h; cases h
    have HE := Lib.hid e; clear e h
    have hk : ¬ (k : Int) < 0 := by omega
    go_enter Try.func107, Try.ntmps107
    go_wp2_with (go_at_call 120; refine HC.out.mono ?_; rintro e w' ⟨rfl, m', rfl⟩)
    go_ret
    exact ⟨by rw [HE.out]; simp [placeOf], m', rfl⟩

/-- What a predicate's closure of several captured variables answers. -/
def AsksN (P : Program) (fn : FuncId) (cvs : Array Value) (w : World) (x : Value) (b : Bool) : Prop :=
  ∀ m, Calls P fn (#[x] ++ cvs) (w.drewN m) fun e w' => e = .returned (.bool b) ∧ ∃ m', w.drewN m' = w'
set_option maxHeartbeats 400000 in
/-- all(lists, holds), 'holds' a closure that only looks. -/
theorem allR_any (A : Option Addr) (n c : Nat) (L : List Row) (fn : FuncId) (cvs : Array Value) (p : Row → Bool) (w : World) (hcf : Ent fn) (hn : n = L.length) (hsm : n ≤ 1099511627776) (hR : Rd w A (hv L))
    (hf : ∀ r ∈ L, ∀ o, AsksN Try.prog fn cvs (w.alloc o) r.val (p r)) :
    Calls Try.prog 84 #[.slice A n c, .func (.func fn) #[] cvs] w fun e w' =>
      e = .returned (.bool (L.all p)) ∧ Below w.heap.size w w' := by
  have key : ∀ r ∈ L, Asks Try.prog 108 (.pointer (some ⟨w.heap.size, 0, none⟩)) (w.alloc (.cells #[.func (.func fn) #[] cvs] 70)) r.val (!(p r)) := by
    intro r hr m
    have HF := Lib.hid (hf r hr (.cells #[.func (.func fn) #[] cvs] 70) m)
    clear hf hR
    unfold Ent at hcf
    have hc : (w.alloc (.cells #[.func (.func fn) #[] cvs] 70)).cell? ⟨w.heap.size, 0, none⟩ = some (.func (.func fn) #[] cvs) := new_cell _ _ _
    generalize r.val = v at *
    go_enter Try.func108, Try.ntmps108
    go_wp2_with fail
    refine HF.out.mono ?_
    rintro e w' ⟨rfl, m', rfl⟩
    go_wp2_with fail
    go_ret
    exact ⟨rfl, m', rfl⟩
  have hR' : Rd (w.alloc (.cells #[.func (.func fn) #[] cvs] 70)) A (hv L) := hR.alloc _
  have HC := Lib.hid (containsFuncR_any A n c L _ _ _ _ (fun args w => Try.call108 args w) hn hsm hR' key)
  have e : (!(L.any fun x => !(p x))) = L.all p := by simp [List.all_eq_not_any_not]
  have HE := Lib.hid e; clear e key hR' hR hf hn hsm
  go_enter Try.func84, Try.ntmps84
  go_wp2_with (go_at_call 107; refine HC.out.mono ?_; rintro e w' ⟨rfl, m', rfl⟩)
  go_ret
  exact ⟨by rw [← HE.out]; rfl, below_drewN ((Below.refl _ _).alloc (Nat.le_refl _) _) m'⟩
end Go.Proofs.Ytnffpjdlpjkioaa
