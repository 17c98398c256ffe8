/- the reference's SubstituteForms · SubstituteForms: the form that the printer of laws wants · FnExactSubstituteForms: the walk of the law (printed by mkl2.py) · arguments opened: a polynomial · equal rows of rows: impl.sameLists, the reference's l01Same2 -/
import Derived.Test.YtnffpjdlpjkioaaBxam
import Derived.Test.YtnffpjdlpjkioaaBxan
import Derived.Test.YtnffpjdlpjkioaaBxad
import Derived.Test.YtnffpjdlpjkioaaBxab
import Derived.Deep.RegionHeld3
import Derived.Test.YtnffpjdlpjkioaaBxal
import Derived.Test.YtnffpjdlpjkioaaBxac
import Derived.Test.YtnffpjdlpjkioaaBxak
set_option linter.all false
namespace Go.Proofs.Ytnffpjdlpjkioaa
open Go.RowKit

abbrev pbox : Obj := .cells #[.int .i64 0, .slice none 0 0] 24
/-- a polynomial's own terms, as told -/
structure ToldAt (w : World) (B : Nat) (p : Int × LL × Int) (A : Option Addr) (c : Nat) (R : List Row) : Prop where
  own : OwnR w B (.slice A R.length c) R
  dat : Proofs.Ytnffpjdlpjkioaa.dat R = p.2.1
theorem ToldAt.later {w w' : World} {B : Nat} {p : Int × LL × Int} {A : Option Addr} {c : Nat} {R : List Row} (h : ToldAt w B p A c R) (hb : Below w.heap.size w w') : ToldAt w' B p A c R := ⟨h.own.later hb, h.dat⟩
theorem ToldAt.box2 {w : World} {B g : Nat} {p : Int × LL × Int} {A : Option Addr} {c : Nat} {R : List Row} {cs : Array Value} {f : Nat × Nat} (h : ToldAt w B p A c R) (hb : w.heap[g]? = some (.cells cs 24 f)) (x y : Value) :
    ToldAt ((w.setCell ⟨g, 0, none⟩ x).setCell ⟨g, 1, none⟩ y) B p A c R := ⟨h.own.box2 hb (by decide) (by decide) x y, h.dat⟩

set_option maxHeartbeats 1000000 in
theorem l08Fit_any (k B : Nat) (A : Option Addr) (c : Nat) (M : LL) (R : List Row) (w : World) (hd : dat R = nf M) (ho : OwnR w B (.slice A R.length c) R) (hB : B ≤ w.heap.size) :
    Calls Try.prog 49 #[.int .i64 k, .slice A R.length c] w fun e w' => ∃ A1 c1 R1, e = .returned (.tuple #[.agg #[.int .i64 (toldOf k M).1, .slice A1 R1.length c1], .int .i64 (toldOf k M).2.2]) ∧ ToldAt w' B (toldOf k M) A1 c1 R1 ∧ Below w.heap.size w w' := by
  have hb := blk_new w pbox
  have hB0 : Below w.heap.size w (w.alloc pbox) := (Below.refl _ _).alloc (Nat.le_refl _) _
  have HK := Lib.hid hb
  have HBB := Lib.hid hB0
  have HOW := Lib.hid (fun W (h : Below w.heap.size w W) => ho.later h)
  have HD := Lib.hid hd
  obtain ⟨y0, y1, fy0, fy1, ly⟩ := blk2cells hb
  have hl : R.length = (nf M).length := by rw [← hd, dat_length]
  clear ho hd hB0 hb
  by_cases h : 2000 < R.length
  · have HE : Hid (toldOf k M = (0, [], 3)) := Lib.hid (by unfold toldOf; rw [if_pos (by omega)])
    have hi : (2000 : Int) < (R.length : Int) := by omega
    clear hl h
    go_enter Try.func49, Try.ntmps49
    go_wp2_with fail
    rw [HE.out]
    refine bodyPost_ret (v := .tuple #[.agg #[.int .i64 0, .slice none 0 0], .int .i64 3]) ?_ rfl ⟨none, 0, [], rfl, ⟨OwnR.nil _ _, rfl⟩, ?_⟩
    · simp [results, Try.results49, go_sem, y0, y1]
    · exact HBB.out
  · have HE : Hid (toldOf k M = ((k : Int), nf M, 0)) := Lib.hid (by unfold toldOf; rw [if_neg (by omega)])
    have hi : ¬ (2000 : Int) < (R.length : Int) := by omega
    clear hl h
    go_enter Try.func49, Try.ntmps49
    go_wp2_with fail
    rw [HE.out]
    refine bodyPost_ret (v := .tuple #[.agg #[.int .i64 k, .slice A R.length c], .int .i64 0]) ?_ rfl ⟨A, c, R, rfl, ⟨HOW.out _ ?_, HD.out⟩, ?_⟩
    · simp [results, Try.results49, go_sem, y0, y1]
    · exact (Below.refl _ _).alloc (Nat.le_refl _) _
    · exact (Below.refl _ _).alloc (Nat.le_refl _) _
/-- a box with a polynomial, behind a region that draws its order -/
def FitOut (w wr : World) (p : Int × LL × Int) (o7 o8 : Value) (wx : World) : Prop :=
  ∃ (g : Nat) (A : Option Addr) (c : Nat) (R : List Row), o7 = .pointer (some ⟨g, 0, none⟩) ∧ o8 = .int .i64 p.2.2 ∧ wx.heap[g]? = some (.cells #[.int .i64 p.1, .slice A R.length c] 24 (0, 0)) ∧ ToldAt wx w.heap.size p A c R ∧ Below wr.heap.size wr wx
section
variable {w wr x : World} {p : Int × LL × Int} {A : Option Addr} {c : Nat} {R : List Row}
theorem FitOut.alloc (h : ToldAt x w.heap.size p A c R) (hb : Below wr.heap.size wr x) :
    FitOut w wr p (.pointer (some ⟨x.heap.size, 0, none⟩)) (.int .i64 p.2.2) (x.alloc (.cells #[.int .i64 p.1, .slice A R.length c] 24)) :=
  ⟨_, A, c, R, rfl, rfl, blk_new _ _, h.later ((Below.refl _ _).alloc (Nat.le_refl _) _), hb.alloc hb.size _⟩
theorem FitOut.set {g : Nat} (h : ToldAt x w.heap.size p A c R) (hb : Below wr.heap.size wr x) (hx : x.heap[g]? = some pbox) (hg : wr.heap.size ≤ g) :
    FitOut w wr p (.pointer (some ⟨g, 0, none⟩)) (.int .i64 p.2.2) ((x.setCell ⟨g, 0, none⟩ (.int .i64 p.1)).setCell ⟨g, 1, none⟩ (.slice A R.length c)) :=
  ⟨g, A, c, R, rfl, rfl, blk2set1' (blk2set0' hx _) _, h.box2 hx _ _, (hb.setCell (p := ⟨g, 0, none⟩) hg _).setCell (p := ⟨g, 1, none⟩) hg _⟩
end

set_option maxRecDepth 100000 in
set_option maxHeartbeats 8000000 in
theorem specSubstituteForms_any (k : Int) (A F : Option Addr) (n c nf' cf : Nat) (L : List Row) (fs : List Int) (w : World) (hn : n = L.length) (hsm : n ≤ 1048576) (hl : ∀ i, i < L.length → (rg L i).xs.length ≤ 1048576) (hR : RdR w A L) (hnf : nf' = fs.length) (hsf : nf' ≤ 1048576) (hF : Rd w F (iv fs)) :
    Calls Try.prog 21 #[.agg #[.int .i64 k, .slice A n c], .slice F nf' cf] w (ResPoly (subsF k (dat L) fs) w) := by
  obtain ⟨hb0, hb, hB⟩ := blk_two w (.int .i64 k) (.slice A n c) (.int .i64 0) (.slice none 0 0) 24 24
  have HB := Lib.hid hB
  have HK0 := Lib.hid hb0
  have HK := Lib.hid hb
  have HR := Lib.hid hR
  have HF := Lib.hid hF
  have Hn := Lib.hid hn
  have HNF := Lib.hid hnf
  obtain ⟨y0, y1, fy0, fy1, ly⟩ := blk2cells hb
  obtain ⟨x0, x1, xf0, xf1, lx⟩ := blk2cells hb0
  have HIP := Lib.hid (l08Is_any k A n c L _ hn hsm hl (hR.below hB))
  have HFF : Hid (subsF k (dat L) fs = if polyB k (dat L) = true then if (fs.length : Int) = k then if fs.all (formOk k.toNat) = true then toldOf k.toNat (putB k.toNat fs (dat L)) else (0, [], 2) else (0, [], 2) else (0, [], 1)) := Lib.hid rfl
  have HPH := Lib.hid (fun h => polyB_hom (k := k) (Q := dat L) h)
  clear hB hb hb0 hR hn hl hF hnf
  cases h1 : polyB k (dat L) with
  | false =>
    have HE : Hid (subsF k (dat L) fs = (0, [], 1)) := Lib.hid (by rw [HFF.out, h1, if_neg (by simp)])
    go_enter Try.func21, Try.ntmps21
    go_wp2_with fail
    refine HIP.out.mono ?_
    rintro e w1 ⟨rfl, hb1⟩
    rw [h1]
    have HB1 := Lib.hid (HB.out.trans (hb1.mono HB.out.size))
    have HK1 := Lib.hid (blk_below HK.out hb1 (by simp))
    clear hb1 y0 y1 fy0 fy1 ly x0 x1 xf0 xf1 lx
    obtain ⟨y0, y1, fy0, fy1, ly⟩ := blk2cells HK1.out
    go_wp2_with fail
    refine bodyPost_ret (v := .tuple #[.agg #[.int .i64 0, .slice none 0 0], .int .i64 1]) ?_ rfl ⟨_, [], by rw [HE.out], OwnR.nil _ _, by rw [HE.out]; rfl, ?_⟩
    · simp [results, Try.results21, go_sem, y0, y1]
    · exact (HB1.out.setCell (p := ⟨w.heap.size + 1, 0, none⟩) (by simp) _).setCell (p := ⟨w.heap.size + 1, 1, none⟩) (by simp) _
  | true =>
    obtain ⟨m, d, rfl, hm1, hm4, hd, hQ, hL2, hAs⟩ := HPH.out h1
    rw [if_pos h1, Int.toNat_natCast] at HFF
    have HQ := Lib.hid hQ
    have hn2 : n ≤ 2000 := by rw [Hn.out, ← dat_length]; exact hL2
    clear hQ hL2 hAs
    by_cases h2 : nf' = m
    · subst h2
      rw [if_pos (by rw [HNF.out])] at HFF
      have hmin : min nf' 64 = nf' := by omega
      have hsh' := shl_small' (i := nf') (by omega)
      have hsh := shl_small (i := nf') (by omega)
      have hp : (2 : Nat) ^ nf' ≤ 16 := Nat.pow_le_pow_right (n := 2) (by omega) hm4
      have hp1 : 1 ≤ (2 : Nat) ^ nf' := Nat.one_le_two_pow
      have HSHI : Hid (IntKind.i64.wrap (IntKind.i64.wrap ((2 : Int) ^ min (IntKind.u64.wrap (nf' : Int)).toNat 64) - 1) = ((2 ^ nf' : Nat) : Int) - 1) := Lib.hid (by
        have hu : IntKind.u64.wrap (nf' : Int) = (nf' : Int) := by rw [IntKind.wrap_u64]; omega
        rw [hu, Int.toNat_natCast, hmin, hsh, IntKind.wrap_i64]
        omega)
      have HFO : Hid (∀ x, inB x 0 (((2 ^ nf' : Nat) : Int) - 1) = formOk nf' x) := Lib.hid fun x => rfl
      have HSU := Lib.hid (fun (hx : ∀ x ∈ fs, 0 ≤ x ∧ x < 2 ^ nf') W (hb : Below w.heap.size w W) => l08Substitute_any nf' d A F n c nf' cf L fs W (by omega) hm4 Hn.out hn2 HQ.out hd rfl HNF.out.symm hx (HR.out.below hb) (HF.out.below hb))
      have HFI : Hid (∀ x, formOk nf' x = true → 0 ≤ x ∧ x < 2 ^ nf') := Lib.hid fun x hx => formOk_iff.1 hx
      generalize (2 : Nat) ^ nf' = z at *
      have hw : IntKind.i64.wrap ((z : Int) - 1) = (z : Int) - 1 := by rw [IntKind.wrap_i64]; omega
      have HLI := Lib.hid (fun x W => l01In_any x 0 ((z : Int) - 1) W)
      go_enter Try.func21, Try.ntmps21
      go_wp2_with fail
      refine HIP.out.mono ?_
      rintro e w1 ⟨rfl, hb1⟩
      rw [h1]
      have HB1 := Lib.hid (HB.out.trans (hb1.mono HB.out.size))
      have HK1 := Lib.hid (blk_below HK.out hb1 (by simp))
      have HK01 := Lib.hid (blk_below HK0.out hb1 (by simp; omega))
      clear hb1 y0 y1 fy0 fy1 ly x0 x1 xf0 xf1 lx h1
      obtain ⟨y0, y1, fy0, fy1, ly⟩ := blk2cells HK1.out
      obtain ⟨x0, x1, xf0, xf1, lx⟩ := blk2cells HK01.out
      go_wp2_with fail
      go_loopw [6] (fun o wr => ∃ j : Nat, o = .int .i64 j ∧ j ≤ nf' ∧ (∀ t, t < j → formOk nf' (fs.getD t 0) = true) ∧ Below w1.heap.size w1 wr) (fun o _ => nf' - (intOf o).toNat)
      case atStart => exact ⟨0, rfl, by omega, fun t ht => by omega, Below.refl _ _⟩
      case round =>
        obtain ⟨j, rfl, hj, hall, hbw⟩ := hrel
        have HALL := Lib.hid hall
        have HBW := Lib.hid hbw
        have HK2 := Lib.hid (blk_below HK1.out hbw ly)
        have HK02 := Lib.hid (blk_below HK01.out hbw lx)
        have HB2 := Lib.hid (HB1.out.trans (hbw.mono HB1.out.size))
        clear hall hbw y0 y1 fy0 fy1 ly x0 x1 xf0 xf1 lx
        obtain ⟨y0, y1, fy0, fy1, ly⟩ := blk2cells HK2.out
        obtain ⟨x0, x1, xf0, xf1, lx⟩ := blk2cells HK02.out
        by_cases hlt : j < nf'
        · obtain ⟨ba, oa, rfl, hca⟩ := (HF.out.below HB2.out).atI (k := j) (by rw [← HNF.out]; exact hlt)
          have hjx : j < fs.length := by rw [← HNF.out]; exact hlt
          have hmem : Hid (fs.getD j 0 ∈ fs) := Lib.hid (by simp [List.getD, hjx])
          have hji : (j : Int) < (nf' : Int) := by omega
          have HBD := Lib.hid (Below.drew HBW.out)
          have HBD2 := Lib.hid (Below.drew HB2.out)
          clear hjx
          generalize hxj : fs.getD j 0 = x at *
          have HXJ := Lib.hid hxj
          clear hxj
          cases hf : formOk nf' x with
          | false =>
            have HE : Hid (subsF nf' (dat L) fs = (0, [], 2)) := Lib.hid (by
              have : fs.all (formOk nf') = false := by rw [List.all_eq_false]; exact ⟨x, hmem.out, by rw [hf]; simp⟩
              rw [HFF.out, this, if_neg (by simp)])
            have HLF := Lib.hid (HLI.out x wr.drew)
            rw [HFO.out, hf] at HLF
            go_wp2_with fail
            go_region_held3 (fun w' => w'.cell? ⟨ba, oa + j, none⟩ = some (.int .i64 x) ∧ w'.cell? ⟨w.heap.size, 0, none⟩ = some (.int .i64 nf'))
              (exact ⟨hca, x0⟩)
              (first | (go_at_call 35; rw [HSHI.out]; refine HLF.out.mono ?_; rintro e w2 ⟨rfl, rfl⟩))
            have hkd : wr.drew.heap[w.heap.size + 1]? = some (.cells #[.int .i64 0, .slice none 0 0] 24 (0, 0)) := HK2.out
            clear y0 y1 fy0 fy1 ly x0 x1 xf0 xf1 lx hca
            generalize wr.drew = wd at *
            obtain ⟨y0, y1, fy0, fy1, ly⟩ := blk2cells hkd
            clear hkd
            go_wp2_with fail
            refine bodyPost_ret (v := .tuple #[.agg #[.int .i64 0, .slice none 0 0], .int .i64 2]) ?_ rfl ⟨_, [], by rw [HE.out], OwnR.nil _ _, by rw [HE.out]; rfl, ?_⟩
            · simp [results, Try.results21, go_sem, y0, y1]
            · exact (HBD2.out.setCell (p := ⟨w.heap.size + 1, 0, none⟩) (by simp) _).setCell (p := ⟨w.heap.size + 1, 1, none⟩) (by simp) _
          | true =>
            have HLF := Lib.hid (HLI.out x wr.drew)
            rw [HFO.out, hf] at HLF
            have HFF2 := Lib.hid hf
            clear hf
            go_wp2_with fail
            go_region_held3 (fun w' => w'.cell? ⟨ba, oa + j, none⟩ = some (.int .i64 x) ∧ w'.cell? ⟨w.heap.size, 0, none⟩ = some (.int .i64 nf'))
              (exact ⟨hca, x0⟩)
              (first | (go_at_call 35; rw [HSHI.out]; refine HLF.out.mono ?_; rintro e w2 ⟨rfl, rfl⟩))
            go_wp2_with fail
            go_roundw
            case rel =>
              refine ⟨j + 1, by go_num, by omega, fun t ht => ?_, HBD.out⟩
              by_cases e : t = j
              · subst e; rw [HXJ.out]; exact HFF2.out
              · exact HALL.out t (by omega)
            case measure => simp [intOf]; omega
        · have ej : j = nf' := by omega
          have hall : fs.all (formOk nf') = true := List.all_eq_true.2 (fun x hx => by
            obtain ⟨t, ht, rfl⟩ := List.getElem_of_mem hx
            have := HALL.out t (by rw [ej, HNF.out]; exact ht)
            simpa [List.getD, ht] using this)
          have HE : Hid (subsF nf' (dat L) fs = toldOf nf' (putB nf' fs (dat L))) := Lib.hid (by rw [HFF.out, if_pos hall])
          have HS := Lib.hid (HSU.out (fun x hx => HFI.out x (List.all_eq_true.1 hall x hx)))
          have hji : ¬ (j : Int) < (nf' : Int) := by omega
          have KS := Lib.hid (fun w' (hb : Below wr.heap.size wr w') => show w'.cell? ⟨w.heap.size, 0, none⟩ = some (.int .i64 nf') ∧ w'.cell? ⟨w.heap.size, 1, none⟩ = some (.slice A n c) from ⟨(hb.cell lx).trans x0, (hb.cell lx).trans x1⟩)
          have HLY := Lib.hid ly
          have HXD := Lib.hid (Below.drew (Below.refl wr.heap.size wr))
          have HXA : Hid (Below wr.heap.size wr (wr.alloc pbox).drew) := Lib.hid ((Below.refl wr.heap.size wr).alloc (Nat.le_refl _) pbox).drew
          have HBD := Lib.hid (Below.drew HB2.out)
          have HBA : Hid (Below w.heap.size w (wr.alloc pbox).drew) := Lib.hid (HB2.out.alloc HB2.out.size pbox).drew
          have hszr := HB2.out.size
          have HMO := Lib.hid ((putB_hom (fs := fs) HQ.out (show d < 64 by omega)))
          have HTO : Hid (∃ p, toldOf nf' (putB nf' fs (dat L)) = p) := Lib.hid ⟨_, rfl⟩
          have HFI2 := Lib.hid (fun (A3 : Option Addr) (c3 : Nat) (R3 : List Row) W (h1 : dat R3 = nf (putB nf' fs (dat L))) (h2 : OwnR W w.heap.size (.slice A3 R3.length c3) R3) (h3 : w.heap.size ≤ W.heap.size) => l08Fit_any nf' w.heap.size A3 c3 _ R3 W h1 h2 h3)
          generalize toldOf nf' (putB nf' fs (dat L)) = pp at *
          generalize nf (putB nf' fs (dat L)) = Q0 at *
          clear ej hall HALL y0 y1 fy0 fy1 ly x0 x1 xf0 xf1 lx HTO HFF HIP HSU hsh hsh' hw
          go_wp2_with fail
          go_cut [7, 8] (fun o7 o8 wx => FitOut w wr pp o7 o8 wx)
          case first =>
            refine wp_region_held_drew (S := (fun w' => w'.cell? ⟨w.heap.size, 0, none⟩ = some (.int .i64 nf') ∧ w'.cell? ⟨w.heap.size, 1, none⟩ = some (.slice A n c))) (by kernel_rfl) (by (first | exact KS.out _ HXD.out | exact KS.out _ HXA.out | exact KS.out _ HX3.out | exact KS.out _ (HX3.out.alloc HX3.out.size _) | exact KS.out _ HX4.out | exact KS.out _ (HX4.out.alloc HX4.out.size _) | exact KS.out _ ((HX4.out.setCell (p := ⟨wr.heap.size, 0, none⟩) (Nat.le_refl _) _).setCell (p := ⟨wr.heap.size, 1, none⟩) (Nat.le_refl _) _) | exact KS.out _ ((HX4.out.setCell (p := ⟨w3.heap.size, 0, none⟩) HX3.out.size _).setCell (p := ⟨w3.heap.size, 1, none⟩) HX3.out.size _))) (fun hHeld => ?_)
            refine wpAnyH_take (i := 0) (oi := ?oim1_1) (v := ?vm1_1) ?hm1_1 (by kernel_rfl) (by kernel_rfl) (by kernel_rfl) ?qm1_1 (Or.inl ⟨?wm1_1, ?ym1_1⟩) (by assumption) ?rm1_1
            case hm1_1 => (simp only [List.getElem?_toArray, List.getElem?_cons_succ, List.getElem?_cons_zero]; rfl)
            case qm1_1 => exact fun _ _ _ h => h
            case wm1_1 => rfl
            case ym1_1 => (intro w hSw; (try dsimp only at hSw); go_simp <;> with_reducible rfl)
            try simp only [Act.put, List.setIfInBounds_toArray, List.set_cons_zero, List.set_cons_succ]
            refine wpAnyH_take (i := 1) (oi := ?oim1_2) (v := ?vm1_2) ?hm1_2 (by kernel_rfl) (by kernel_rfl) (by kernel_rfl) ?qm1_2 (Or.inl ⟨?wm1_2, ?ym1_2⟩) (by assumption) ?rm1_2
            case hm1_2 => (simp only [List.getElem?_toArray, List.getElem?_cons_succ, List.getElem?_cons_zero]; rfl)
            case qm1_2 => exact fun _ _ _ h => h
            case wm1_2 => rfl
            case ym1_2 => (intro w hSw; (try dsimp only at hSw); go_simp <;> with_reducible rfl)
            try simp only [Act.put, List.setIfInBounds_toArray, List.set_cons_zero, List.set_cons_succ]
            refine wpAnyH_take (i := 2) (oi := ?oim1_3) (v := ?vm1_3) ?hm1_3 (by kernel_rfl) (by kernel_rfl) (by kernel_rfl) ?qm1_3 (Or.inl ⟨?wm1_3, ?ym1_3⟩) (by assumption) ?rm1_3
            case hm1_3 => (simp only [List.getElem?_toArray, List.getElem?_cons_succ, List.getElem?_cons_zero]; rfl)
            case qm1_3 => exact fun _ _ _ h => h
            case wm1_3 => rfl
            case ym1_3 => (intro w hSw; (try dsimp only at hSw); go_simp <;> with_reducible rfl)
            try simp only [Act.put, List.setIfInBounds_toArray, List.set_cons_zero, List.set_cons_succ]
            refine wpAnyH_take (i := 3) (oi := ?oim1_4) (v := ?vm1_4) ?hm1_4 (by kernel_rfl) (by kernel_rfl) (by kernel_rfl) ?qm1_4 (Or.inl ⟨?wm1_4, ?ym1_4⟩) (by assumption) ?rm1_4
            case hm1_4 => (simp only [List.getElem?_toArray, List.getElem?_cons_succ, List.getElem?_cons_zero]; rfl)
            case qm1_4 => exact fun _ _ _ h => h
            case wm1_4 => rfl
            case ym1_4 => (intro w hSw; (try dsimp only at hSw); go_simp <;> with_reducible rfl)
            try simp only [Act.put, List.setIfInBounds_toArray, List.set_cons_zero, List.set_cons_succ]
            refine wpAnyH_take (i := 4) (oi := ?oim1_5) (v := ?vm1_5) ?hm1_5 (by kernel_rfl) (by kernel_rfl) (by kernel_rfl) ?qm1_5 (Or.inl ⟨?wm1_5, ?ym1_5⟩) (by assumption) ?rm1_5
            case hm1_5 => (simp only [List.getElem?_toArray, List.getElem?_cons_succ, List.getElem?_cons_zero]; rfl)
            case qm1_5 => exact fun _ _ _ h => h
            case wm1_5 => rfl
            case ym1_5 => (intro w hSw; (try dsimp only at hSw); go_simp <;> with_reducible rfl)
            try simp only [Act.put, List.setIfInBounds_toArray, List.set_cons_zero, List.set_cons_succ]
            refine wpAnyH_take (i := 5) (oi := ?oim1_6) (v := ?vm1_6) ?hm1_6 (by kernel_rfl) (by kernel_rfl) (by kernel_rfl) ?qm1_6 (Or.inl ⟨?wm1_6, ?ym1_6⟩) (by assumption) ?rm1_6
            case hm1_6 => (simp only [List.getElem?_toArray, List.getElem?_cons_succ, List.getElem?_cons_zero]; rfl)
            case qm1_6 => exact fun _ _ _ h => h
            case wm1_6 => rfl
            case ym1_6 => (intro w hSw; (try dsimp only at hSw); go_simp <;> with_reducible rfl)
            try simp only [Act.put, List.setIfInBounds_toArray, List.set_cons_zero, List.set_cons_succ]
            refine wpAnyH_take (i := 6) (oi := ?oim1_7) (v := ?vm1_7) ?hm1_7 (by kernel_rfl) (by kernel_rfl) (by kernel_rfl) ?qm1_7 (Or.inl ⟨?wm1_7, ?ym1_7⟩) (by assumption) ?rm1_7
            case hm1_7 => (simp only [List.getElem?_toArray, List.getElem?_cons_succ, List.getElem?_cons_zero]; rfl)
            case qm1_7 => exact fun _ _ _ h => h
            case wm1_7 => rfl
            case ym1_7 => (intro w hSw; (try dsimp only at hSw); go_simp <;> with_reducible rfl)
            try simp only [Act.put, List.setIfInBounds_toArray, List.set_cons_zero, List.set_cons_succ]
            refine wpAnyH_ready (rs := [7, 12]) (by kernel_rfl) (by simp) ?_
            refine AllReadyH.cons (o := ?oim1_8) ?hm1_8 (fun K hK => ?km1_8) ?mm1_8
            case hm1_8 => (simp only [List.getElem?_toArray, List.getElem?_cons_succ, List.getElem?_cons_zero]; rfl)
            case km1_8 =>
              go_simp
              (go_at_call 50; first | ((with_reducible refine (HS.out wr.drew HBD.out).mono ?_); rintro e w3 ⟨v3, R3, rfl, hd3, ho3, hb3⟩; have HX3 := Lib.hid (HXD.out.trans hb3); have HO3 := Lib.hid (ho3.mono (B' := w.heap.size) hszr); have HD3 := Lib.hid hd3; obtain ⟨A3, c3, rfl, -, -, -⟩ := owns_shape ho3.out; clear ho3 hd3 hb3) | ((with_reducible refine (HS.out (wr.alloc pbox).drew HBA.out).mono ?_); rintro e w3 ⟨v3, R3, rfl, hd3, ho3, hb3⟩; have HX3 := Lib.hid (HXA.out.trans (hb3.mono (by show wr.heap.size ≤ (wr.alloc pbox).heap.size; simp))); have HO3 := Lib.hid (ho3.mono (B' := w.heap.size) (by show w.heap.size ≤ (wr.alloc pbox).heap.size; simp; omega)); have HD3 := Lib.hid hd3; have HBX := Lib.hid (blk_below (show (wr.alloc pbox).drew.heap[wr.heap.size]? = some pbox from blk_new wr pbox) hb3 (by show wr.heap.size < (wr.alloc pbox).heap.size; simp)); obtain ⟨A3, c3, rfl, -, -, -⟩ := owns_shape ho3.out; clear ho3 hd3 hb3))
              refine hK.out _ _ (by (first | exact KS.out _ HXD.out | exact KS.out _ HXA.out | exact KS.out _ HX3.out | exact KS.out _ (HX3.out.alloc HX3.out.size _) | exact KS.out _ HX4.out | exact KS.out _ (HX4.out.alloc HX4.out.size _) | exact KS.out _ ((HX4.out.setCell (p := ⟨wr.heap.size, 0, none⟩) (Nat.le_refl _) _).setCell (p := ⟨wr.heap.size, 1, none⟩) (Nat.le_refl _) _) | exact KS.out _ ((HX4.out.setCell (p := ⟨w3.heap.size, 0, none⟩) HX3.out.size _).setCell (p := ⟨w3.heap.size, 1, none⟩) HX3.out.size _))) (fun hHeld => ?_)
              clear hK K
              try simp only [Act.put, List.setIfInBounds_toArray, List.set_cons_zero, List.set_cons_succ]
              refine wpAnyH_ready (rs := [8, 12]) (by kernel_rfl) (by simp) ?_
              refine AllReadyH.cons (o := ?oim1_9) ?hm1_9 (fun K hK => ?km1_9) ?mm1_9
              case hm1_9 => (simp only [List.getElem?_toArray, List.getElem?_cons_succ, List.getElem?_cons_zero]; rfl)
              case km1_9 =>
                go_simp
                (go_at_call 49; have hs3 := HX3.out.size; first | ((with_reducible refine (HFI2.out A3 c3 R3 w3 HD3.out HO3.out (by omega)).mono ?_); rintro e w4 ⟨A4, c4, R4, rfl, ht4, hb4⟩; have HX4 := Lib.hid (HX3.out.trans (hb4.mono hs3)); have HBY := Lib.hid (blk_below HBX.out hb4 (Array.getElem?_eq_some_iff.1 HBX.out).1); (obtain ⟨b0, b1, bf0, bf1, bl⟩ := blk2cells HBY.out); have HT4 := Lib.hid ht4; clear ht4 hb4) | ((with_reducible refine (HFI2.out A3 c3 R3 w3 HD3.out HO3.out (by omega)).mono ?_); rintro e w4 ⟨A4, c4, R4, rfl, ht4, hb4⟩; have HX4 := Lib.hid (HX3.out.trans (hb4.mono hs3)); have HT4 := Lib.hid ht4; clear ht4 hb4) | ((with_reducible refine (HFI2.out A3 c3 R3 (w3.alloc pbox) HD3.out (HO3.out.later ((Below.refl _ _).alloc (Nat.le_refl _) _)) (by simp; omega)).mono ?_); rintro e w4 ⟨A4, c4, R4, rfl, ht4, hb4⟩; have HX4 := Lib.hid ((HX3.out.alloc hs3 pbox).trans (hb4.mono (by simp; omega))); have HBY := Lib.hid (blk_below (blk_new w3 pbox) hb4 (by simp)); (obtain ⟨b0, b1, bf0, bf1, bl⟩ := blk2cells HBY.out); have HT4 := Lib.hid ht4; clear ht4 hb4))
                refine hK.out _ _ (by (first | exact KS.out _ HXD.out | exact KS.out _ HXA.out | exact KS.out _ HX3.out | exact KS.out _ (HX3.out.alloc HX3.out.size _) | exact KS.out _ HX4.out | exact KS.out _ (HX4.out.alloc HX4.out.size _) | exact KS.out _ ((HX4.out.setCell (p := ⟨wr.heap.size, 0, none⟩) (Nat.le_refl _) _).setCell (p := ⟨wr.heap.size, 1, none⟩) (Nat.le_refl _) _) | exact KS.out _ ((HX4.out.setCell (p := ⟨w3.heap.size, 0, none⟩) HX3.out.size _).setCell (p := ⟨w3.heap.size, 1, none⟩) HX3.out.size _))) (fun hHeld => ?_)
                clear hK K
                try simp only [Act.put, List.setIfInBounds_toArray, List.set_cons_zero, List.set_cons_succ]
                refine wpAnyH_take (i := 9) (oi := ?oim1_10) (v := ?vm1_10) ?hm1_10 (by kernel_rfl) (by kernel_rfl) (by kernel_rfl) ?qm1_10 (Or.inl ⟨?wm1_10, ?ym1_10⟩) (by assumption) ?rm1_10
                case hm1_10 => (simp only [List.getElem?_toArray, List.getElem?_cons_succ, List.getElem?_cons_zero]; rfl)
                case qm1_10 => exact fun _ _ _ h => h
                case wm1_10 => rfl
                case ym1_10 => (intro w hSw; (try dsimp only at hSw); go_simp <;> with_reducible rfl)
                try simp only [Act.put, List.setIfInBounds_toArray, List.set_cons_zero, List.set_cons_succ]
                refine wpAnyH_take (i := 10) (oi := ?oim1_11) (v := ?vm1_11) ?hm1_11 (by kernel_rfl) (by kernel_rfl) (by kernel_rfl) ?qm1_11 (Or.inl ⟨?wm1_11, ?ym1_11⟩) (by assumption) ?rm1_11
                case hm1_11 => (simp only [List.getElem?_toArray, List.getElem?_cons_succ, List.getElem?_cons_zero]; rfl)
                case qm1_11 => exact fun _ _ _ h => h
                case wm1_11 => rfl
                case ym1_11 => (intro w hSw; (try dsimp only at hSw); go_simp <;> with_reducible rfl)
                try simp only [Act.put, List.setIfInBounds_toArray, List.set_cons_zero, List.set_cons_succ]
                refine wpAnyH_take (i := 11) (oi := ?oim1_12) (v := ?vm1_12) ?hm1_12 (by kernel_rfl) (by kernel_rfl) (by kernel_rfl) ?qm1_12 (Or.inl ⟨?wm1_12, ?ym1_12⟩) (by assumption) ?rm1_12
                case hm1_12 => (simp only [List.getElem?_toArray, List.getElem?_cons_succ, List.getElem?_cons_zero]; rfl)
                case qm1_12 => exact fun _ _ _ h => h
                case wm1_12 => rfl
                case ym1_12 => (intro w hSw; (try dsimp only at hSw); go_simp <;> with_reducible rfl)
                try simp only [Act.put, List.setIfInBounds_toArray, List.set_cons_zero, List.set_cons_succ]
                refine wpAnyH_ready (rs := [12]) (by kernel_rfl) (by simp) ?_
                refine AllReadyH.cons (o := ?oim1_13) ?hm1_13 (fun K hK => ?km1_13) ?mm1_13
                case hm1_13 => (simp only [List.getElem?_toArray, List.getElem?_cons_succ, List.getElem?_cons_zero]; rfl)
                case km1_13 =>
                  go_simp
                  refine hK.out _ _ (by (first | exact KS.out _ HXD.out | exact KS.out _ HXA.out | exact KS.out _ HX3.out | exact KS.out _ (HX3.out.alloc HX3.out.size _) | exact KS.out _ HX4.out | exact KS.out _ (HX4.out.alloc HX4.out.size _) | exact KS.out _ ((HX4.out.setCell (p := ⟨wr.heap.size, 0, none⟩) (Nat.le_refl _) _).setCell (p := ⟨wr.heap.size, 1, none⟩) (Nat.le_refl _) _) | exact KS.out _ ((HX4.out.setCell (p := ⟨w3.heap.size, 0, none⟩) HX3.out.size _).setCell (p := ⟨w3.heap.size, 1, none⟩) HX3.out.size _))) (fun hHeld => ?_)
                  clear hK K
                  try simp only [Act.put, List.setIfInBounds_toArray, List.set_cons_zero, List.set_cons_succ]
                  refine wpAnyH_ready (rs := [13]) (by kernel_rfl) (by simp) ?_
                  refine AllReadyH.cons (o := ?oim1_14) ?hm1_14 (fun K hK => ?km1_14) ?mm1_14
                  case hm1_14 => (simp only [List.getElem?_toArray, List.getElem?_cons_succ, List.getElem?_cons_zero]; rfl)
                  case km1_14 =>
                    go_simp
                    refine hK.out _ _ (by (first | exact KS.out _ HXD.out | exact KS.out _ HXA.out | exact KS.out _ HX3.out | exact KS.out _ (HX3.out.alloc HX3.out.size _) | exact KS.out _ HX4.out | exact KS.out _ (HX4.out.alloc HX4.out.size _) | exact KS.out _ ((HX4.out.setCell (p := ⟨wr.heap.size, 0, none⟩) (Nat.le_refl _) _).setCell (p := ⟨wr.heap.size, 1, none⟩) (Nat.le_refl _) _) | exact KS.out _ ((HX4.out.setCell (p := ⟨w3.heap.size, 0, none⟩) HX3.out.size _).setCell (p := ⟨w3.heap.size, 1, none⟩) HX3.out.size _))) (fun hHeld => ?_)
                    clear hK K
                    try simp only [Act.put, List.setIfInBounds_toArray, List.set_cons_zero, List.set_cons_succ]
                    refine wpAnyH_take (i := 14) (oi := ?oim1_15) (v := ?vm1_15) ?hm1_15 (by kernel_rfl) (by kernel_rfl) (by kernel_rfl) ?qm1_15 (Or.inl ⟨?wm1_15, ?ym1_15⟩) (by assumption) ?rm1_15
                    case hm1_15 => (simp only [List.getElem?_toArray, List.getElem?_cons_succ, List.getElem?_cons_zero]; rfl)
                    case qm1_15 => exact fun _ _ _ h => h
                    case wm1_15 => rfl
                    case ym1_15 => (intro w hSw; (try dsimp only at hSw); go_simp <;> with_reducible rfl)
                    try simp only [Act.put, List.setIfInBounds_toArray, List.set_cons_zero, List.set_cons_succ]
                    refine wpAnyH_done (by kernel_rfl) ?_ _
                    go_wp2_with fail
                    go_meet
                    first
                    | exact FitOut.alloc HT4.out HX4.out
                    | exact FitOut.set HT4.out HX4.out HBY.out (Nat.le_refl _)
                    | exact FitOut.set HT4.out HX4.out HBY.out HX3.out.size
                  exact AllReadyH.nil
                exact AllReadyH.nil
              refine AllReadyH.cons (o := ?oim1_16) ?hm1_16 (fun K hK => ?km1_16) ?mm1_16
              case hm1_16 => (simp only [List.getElem?_toArray, List.getElem?_cons_succ, List.getElem?_cons_zero]; rfl)
              case km1_16 =>
                go_simp
                refine hK.out _ _ (by (first | exact KS.out _ HXD.out | exact KS.out _ HXA.out | exact KS.out _ HX3.out | exact KS.out _ (HX3.out.alloc HX3.out.size _) | exact KS.out _ HX4.out | exact KS.out _ (HX4.out.alloc HX4.out.size _) | exact KS.out _ ((HX4.out.setCell (p := ⟨wr.heap.size, 0, none⟩) (Nat.le_refl _) _).setCell (p := ⟨wr.heap.size, 1, none⟩) (Nat.le_refl _) _) | exact KS.out _ ((HX4.out.setCell (p := ⟨w3.heap.size, 0, none⟩) HX3.out.size _).setCell (p := ⟨w3.heap.size, 1, none⟩) HX3.out.size _))) (fun hHeld => ?_)
                clear hK K
                try simp only [Act.put, List.setIfInBounds_toArray, List.set_cons_zero, List.set_cons_succ]
                refine wpAnyH_ready (rs := [8]) (by kernel_rfl) (by simp) ?_
                refine AllReadyH.cons (o := ?oim1_17) ?hm1_17 (fun K hK => ?km1_17) ?mm1_17
                case hm1_17 => (simp only [List.getElem?_toArray, List.getElem?_cons_succ, List.getElem?_cons_zero]; rfl)
                case km1_17 =>
                  go_simp
                  (go_at_call 49; have hs3 := HX3.out.size; first | ((with_reducible refine (HFI2.out A3 c3 R3 w3 HD3.out HO3.out (by omega)).mono ?_); rintro e w4 ⟨A4, c4, R4, rfl, ht4, hb4⟩; have HX4 := Lib.hid (HX3.out.trans (hb4.mono hs3)); have HBY := Lib.hid (blk_below HBX.out hb4 (Array.getElem?_eq_some_iff.1 HBX.out).1); (obtain ⟨b0, b1, bf0, bf1, bl⟩ := blk2cells HBY.out); have HT4 := Lib.hid ht4; clear ht4 hb4) | ((with_reducible refine (HFI2.out A3 c3 R3 w3 HD3.out HO3.out (by omega)).mono ?_); rintro e w4 ⟨A4, c4, R4, rfl, ht4, hb4⟩; have HX4 := Lib.hid (HX3.out.trans (hb4.mono hs3)); have HT4 := Lib.hid ht4; clear ht4 hb4) | ((with_reducible refine (HFI2.out A3 c3 R3 (w3.alloc pbox) HD3.out (HO3.out.later ((Below.refl _ _).alloc (Nat.le_refl _) _)) (by simp; omega)).mono ?_); rintro e w4 ⟨A4, c4, R4, rfl, ht4, hb4⟩; have HX4 := Lib.hid ((HX3.out.alloc hs3 pbox).trans (hb4.mono (by simp; omega))); have HBY := Lib.hid (blk_below (blk_new w3 pbox) hb4 (by simp)); (obtain ⟨b0, b1, bf0, bf1, bl⟩ := blk2cells HBY.out); have HT4 := Lib.hid ht4; clear ht4 hb4))
                  refine hK.out _ _ (by (first | exact KS.out _ HXD.out | exact KS.out _ HXA.out | exact KS.out _ HX3.out | exact KS.out _ (HX3.out.alloc HX3.out.size _) | exact KS.out _ HX4.out | exact KS.out _ (HX4.out.alloc HX4.out.size _) | exact KS.out _ ((HX4.out.setCell (p := ⟨wr.heap.size, 0, none⟩) (Nat.le_refl _) _).setCell (p := ⟨wr.heap.size, 1, none⟩) (Nat.le_refl _) _) | exact KS.out _ ((HX4.out.setCell (p := ⟨w3.heap.size, 0, none⟩) HX3.out.size _).setCell (p := ⟨w3.heap.size, 1, none⟩) HX3.out.size _))) (fun hHeld => ?_)
                  clear hK K
                  try simp only [Act.put, List.setIfInBounds_toArray, List.set_cons_zero, List.set_cons_succ]
                  refine wpAnyH_take (i := 9) (oi := ?oim1_18) (v := ?vm1_18) ?hm1_18 (by kernel_rfl) (by kernel_rfl) (by kernel_rfl) ?qm1_18 (Or.inl ⟨?wm1_18, ?ym1_18⟩) (by assumption) ?rm1_18
                  case hm1_18 => (simp only [List.getElem?_toArray, List.getElem?_cons_succ, List.getElem?_cons_zero]; rfl)
                  case qm1_18 => exact fun _ _ _ h => h
                  case wm1_18 => rfl
                  case ym1_18 => (intro w hSw; (try dsimp only at hSw); go_simp <;> with_reducible rfl)
                  try simp only [Act.put, List.setIfInBounds_toArray, List.set_cons_zero, List.set_cons_succ]
                  refine wpAnyH_take (i := 10) (oi := ?oim1_19) (v := ?vm1_19) ?hm1_19 (by kernel_rfl) (by kernel_rfl) (by kernel_rfl) ?qm1_19 (Or.inl ⟨?wm1_19, ?ym1_19⟩) (by assumption) ?rm1_19
                  case hm1_19 => (simp only [List.getElem?_toArray, List.getElem?_cons_succ, List.getElem?_cons_zero]; rfl)
                  case qm1_19 => exact fun _ _ _ h => h
                  case wm1_19 => rfl
                  case ym1_19 => (intro w hSw; (try dsimp only at hSw); go_simp <;> with_reducible rfl)
                  try simp only [Act.put, List.setIfInBounds_toArray, List.set_cons_zero, List.set_cons_succ]
                  refine wpAnyH_take (i := 11) (oi := ?oim1_20) (v := ?vm1_20) ?hm1_20 (by kernel_rfl) (by kernel_rfl) (by kernel_rfl) ?qm1_20 (Or.inl ⟨?wm1_20, ?ym1_20⟩) (by assumption) ?rm1_20
                  case hm1_20 => (simp only [List.getElem?_toArray, List.getElem?_cons_succ, List.getElem?_cons_zero]; rfl)
                  case qm1_20 => exact fun _ _ _ h => h
                  case wm1_20 => rfl
                  case ym1_20 => (intro w hSw; (try dsimp only at hSw); go_simp <;> with_reducible rfl)
                  try simp only [Act.put, List.setIfInBounds_toArray, List.set_cons_zero, List.set_cons_succ]
                  refine wpAnyH_ready (rs := [13]) (by kernel_rfl) (by simp) ?_
                  refine AllReadyH.cons (o := ?oim1_21) ?hm1_21 (fun K hK => ?km1_21) ?mm1_21
                  case hm1_21 => (simp only [List.getElem?_toArray, List.getElem?_cons_succ, List.getElem?_cons_zero]; rfl)
                  case km1_21 =>
                    go_simp
                    refine hK.out _ _ (by (first | exact KS.out _ HXD.out | exact KS.out _ HXA.out | exact KS.out _ HX3.out | exact KS.out _ (HX3.out.alloc HX3.out.size _) | exact KS.out _ HX4.out | exact KS.out _ (HX4.out.alloc HX4.out.size _) | exact KS.out _ ((HX4.out.setCell (p := ⟨wr.heap.size, 0, none⟩) (Nat.le_refl _) _).setCell (p := ⟨wr.heap.size, 1, none⟩) (Nat.le_refl _) _) | exact KS.out _ ((HX4.out.setCell (p := ⟨w3.heap.size, 0, none⟩) HX3.out.size _).setCell (p := ⟨w3.heap.size, 1, none⟩) HX3.out.size _))) (fun hHeld => ?_)
                    clear hK K
                    try simp only [Act.put, List.setIfInBounds_toArray, List.set_cons_zero, List.set_cons_succ]
                    refine wpAnyH_take (i := 14) (oi := ?oim1_22) (v := ?vm1_22) ?hm1_22 (by kernel_rfl) (by kernel_rfl) (by kernel_rfl) ?qm1_22 (Or.inl ⟨?wm1_22, ?ym1_22⟩) (by assumption) ?rm1_22
                    case hm1_22 => (simp only [List.getElem?_toArray, List.getElem?_cons_succ, List.getElem?_cons_zero]; rfl)
                    case qm1_22 => exact fun _ _ _ h => h
                    case wm1_22 => rfl
                    case ym1_22 => (intro w hSw; (try dsimp only at hSw); go_simp <;> with_reducible rfl)
                    try simp only [Act.put, List.setIfInBounds_toArray, List.set_cons_zero, List.set_cons_succ]
                    refine wpAnyH_done (by kernel_rfl) ?_ _
                    go_wp2_with fail
                    go_meet
                    first
                    | exact FitOut.alloc HT4.out HX4.out
                    | exact FitOut.set HT4.out HX4.out HBY.out (Nat.le_refl _)
                    | exact FitOut.set HT4.out HX4.out HBY.out HX3.out.size
                  exact AllReadyH.nil
                exact AllReadyH.nil
              exact AllReadyH.nil
            refine AllReadyH.cons (o := ?oim1_23) ?hm1_23 (fun K hK => ?km1_23) ?mm1_23
            case hm1_23 => (simp only [List.getElem?_toArray, List.getElem?_cons_succ, List.getElem?_cons_zero]; rfl)
            case km1_23 =>
              go_simp
              refine hK.out _ _ (by (first | exact KS.out _ HXD.out | exact KS.out _ HXA.out | exact KS.out _ HX3.out | exact KS.out _ (HX3.out.alloc HX3.out.size _) | exact KS.out _ HX4.out | exact KS.out _ (HX4.out.alloc HX4.out.size _) | exact KS.out _ ((HX4.out.setCell (p := ⟨wr.heap.size, 0, none⟩) (Nat.le_refl _) _).setCell (p := ⟨wr.heap.size, 1, none⟩) (Nat.le_refl _) _) | exact KS.out _ ((HX4.out.setCell (p := ⟨w3.heap.size, 0, none⟩) HX3.out.size _).setCell (p := ⟨w3.heap.size, 1, none⟩) HX3.out.size _))) (fun hHeld => ?_)
              clear hK K
              try simp only [Act.put, List.setIfInBounds_toArray, List.set_cons_zero, List.set_cons_succ]
              refine wpAnyH_ready (rs := [7]) (by kernel_rfl) (by simp) ?_
              refine AllReadyH.cons (o := ?oim1_24) ?hm1_24 (fun K hK => ?km1_24) ?mm1_24
              case hm1_24 => (simp only [List.getElem?_toArray, List.getElem?_cons_succ, List.getElem?_cons_zero]; rfl)
              case km1_24 =>
                go_simp
                (go_at_call 50; first | ((with_reducible refine (HS.out wr.drew HBD.out).mono ?_); rintro e w3 ⟨v3, R3, rfl, hd3, ho3, hb3⟩; have HX3 := Lib.hid (HXD.out.trans hb3); have HO3 := Lib.hid (ho3.mono (B' := w.heap.size) hszr); have HD3 := Lib.hid hd3; obtain ⟨A3, c3, rfl, -, -, -⟩ := owns_shape ho3.out; clear ho3 hd3 hb3) | ((with_reducible refine (HS.out (wr.alloc pbox).drew HBA.out).mono ?_); rintro e w3 ⟨v3, R3, rfl, hd3, ho3, hb3⟩; have HX3 := Lib.hid (HXA.out.trans (hb3.mono (by show wr.heap.size ≤ (wr.alloc pbox).heap.size; simp))); have HO3 := Lib.hid (ho3.mono (B' := w.heap.size) (by show w.heap.size ≤ (wr.alloc pbox).heap.size; simp; omega)); have HD3 := Lib.hid hd3; have HBX := Lib.hid (blk_below (show (wr.alloc pbox).drew.heap[wr.heap.size]? = some pbox from blk_new wr pbox) hb3 (by show wr.heap.size < (wr.alloc pbox).heap.size; simp)); obtain ⟨A3, c3, rfl, -, -, -⟩ := owns_shape ho3.out; clear ho3 hd3 hb3))
                refine hK.out _ _ (by (first | exact KS.out _ HXD.out | exact KS.out _ HXA.out | exact KS.out _ HX3.out | exact KS.out _ (HX3.out.alloc HX3.out.size _) | exact KS.out _ HX4.out | exact KS.out _ (HX4.out.alloc HX4.out.size _) | exact KS.out _ ((HX4.out.setCell (p := ⟨wr.heap.size, 0, none⟩) (Nat.le_refl _) _).setCell (p := ⟨wr.heap.size, 1, none⟩) (Nat.le_refl _) _) | exact KS.out _ ((HX4.out.setCell (p := ⟨w3.heap.size, 0, none⟩) HX3.out.size _).setCell (p := ⟨w3.heap.size, 1, none⟩) HX3.out.size _))) (fun hHeld => ?_)
                clear hK K
                try simp only [Act.put, List.setIfInBounds_toArray, List.set_cons_zero, List.set_cons_succ]
                refine wpAnyH_ready (rs := [8]) (by kernel_rfl) (by simp) ?_
                refine AllReadyH.cons (o := ?oim1_25) ?hm1_25 (fun K hK => ?km1_25) ?mm1_25
                case hm1_25 => (simp only [List.getElem?_toArray, List.getElem?_cons_succ, List.getElem?_cons_zero]; rfl)
                case km1_25 =>
                  go_simp
                  (go_at_call 49; have hs3 := HX3.out.size; first | ((with_reducible refine (HFI2.out A3 c3 R3 w3 HD3.out HO3.out (by omega)).mono ?_); rintro e w4 ⟨A4, c4, R4, rfl, ht4, hb4⟩; have HX4 := Lib.hid (HX3.out.trans (hb4.mono hs3)); have HBY := Lib.hid (blk_below HBX.out hb4 (Array.getElem?_eq_some_iff.1 HBX.out).1); (obtain ⟨b0, b1, bf0, bf1, bl⟩ := blk2cells HBY.out); have HT4 := Lib.hid ht4; clear ht4 hb4) | ((with_reducible refine (HFI2.out A3 c3 R3 w3 HD3.out HO3.out (by omega)).mono ?_); rintro e w4 ⟨A4, c4, R4, rfl, ht4, hb4⟩; have HX4 := Lib.hid (HX3.out.trans (hb4.mono hs3)); have HT4 := Lib.hid ht4; clear ht4 hb4) | ((with_reducible refine (HFI2.out A3 c3 R3 (w3.alloc pbox) HD3.out (HO3.out.later ((Below.refl _ _).alloc (Nat.le_refl _) _)) (by simp; omega)).mono ?_); rintro e w4 ⟨A4, c4, R4, rfl, ht4, hb4⟩; have HX4 := Lib.hid ((HX3.out.alloc hs3 pbox).trans (hb4.mono (by simp; omega))); have HBY := Lib.hid (blk_below (blk_new w3 pbox) hb4 (by simp)); (obtain ⟨b0, b1, bf0, bf1, bl⟩ := blk2cells HBY.out); have HT4 := Lib.hid ht4; clear ht4 hb4))
                  refine hK.out _ _ (by (first | exact KS.out _ HXD.out | exact KS.out _ HXA.out | exact KS.out _ HX3.out | exact KS.out _ (HX3.out.alloc HX3.out.size _) | exact KS.out _ HX4.out | exact KS.out _ (HX4.out.alloc HX4.out.size _) | exact KS.out _ ((HX4.out.setCell (p := ⟨wr.heap.size, 0, none⟩) (Nat.le_refl _) _).setCell (p := ⟨wr.heap.size, 1, none⟩) (Nat.le_refl _) _) | exact KS.out _ ((HX4.out.setCell (p := ⟨w3.heap.size, 0, none⟩) HX3.out.size _).setCell (p := ⟨w3.heap.size, 1, none⟩) HX3.out.size _))) (fun hHeld => ?_)
                  clear hK K
                  try simp only [Act.put, List.setIfInBounds_toArray, List.set_cons_zero, List.set_cons_succ]
                  refine wpAnyH_take (i := 9) (oi := ?oim1_26) (v := ?vm1_26) ?hm1_26 (by kernel_rfl) (by kernel_rfl) (by kernel_rfl) ?qm1_26 (Or.inl ⟨?wm1_26, ?ym1_26⟩) (by assumption) ?rm1_26
                  case hm1_26 => (simp only [List.getElem?_toArray, List.getElem?_cons_succ, List.getElem?_cons_zero]; rfl)
                  case qm1_26 => exact fun _ _ _ h => h
                  case wm1_26 => rfl
                  case ym1_26 => (intro w hSw; (try dsimp only at hSw); go_simp <;> with_reducible rfl)
                  try simp only [Act.put, List.setIfInBounds_toArray, List.set_cons_zero, List.set_cons_succ]
                  refine wpAnyH_take (i := 10) (oi := ?oim1_27) (v := ?vm1_27) ?hm1_27 (by kernel_rfl) (by kernel_rfl) (by kernel_rfl) ?qm1_27 (Or.inl ⟨?wm1_27, ?ym1_27⟩) (by assumption) ?rm1_27
                  case hm1_27 => (simp only [List.getElem?_toArray, List.getElem?_cons_succ, List.getElem?_cons_zero]; rfl)
                  case qm1_27 => exact fun _ _ _ h => h
                  case wm1_27 => rfl
                  case ym1_27 => (intro w hSw; (try dsimp only at hSw); go_simp <;> with_reducible rfl)
                  try simp only [Act.put, List.setIfInBounds_toArray, List.set_cons_zero, List.set_cons_succ]
                  refine wpAnyH_take (i := 11) (oi := ?oim1_28) (v := ?vm1_28) ?hm1_28 (by kernel_rfl) (by kernel_rfl) (by kernel_rfl) ?qm1_28 (Or.inl ⟨?wm1_28, ?ym1_28⟩) (by assumption) ?rm1_28
                  case hm1_28 => (simp only [List.getElem?_toArray, List.getElem?_cons_succ, List.getElem?_cons_zero]; rfl)
                  case qm1_28 => exact fun _ _ _ h => h
                  case wm1_28 => rfl
                  case ym1_28 => (intro w hSw; (try dsimp only at hSw); go_simp <;> with_reducible rfl)
                  try simp only [Act.put, List.setIfInBounds_toArray, List.set_cons_zero, List.set_cons_succ]
                  refine wpAnyH_ready (rs := [13]) (by kernel_rfl) (by simp) ?_
                  refine AllReadyH.cons (o := ?oim1_29) ?hm1_29 (fun K hK => ?km1_29) ?mm1_29
                  case hm1_29 => (simp only [List.getElem?_toArray, List.getElem?_cons_succ, List.getElem?_cons_zero]; rfl)
                  case km1_29 =>
                    go_simp
                    refine hK.out _ _ (by (first | exact KS.out _ HXD.out | exact KS.out _ HXA.out | exact KS.out _ HX3.out | exact KS.out _ (HX3.out.alloc HX3.out.size _) | exact KS.out _ HX4.out | exact KS.out _ (HX4.out.alloc HX4.out.size _) | exact KS.out _ ((HX4.out.setCell (p := ⟨wr.heap.size, 0, none⟩) (Nat.le_refl _) _).setCell (p := ⟨wr.heap.size, 1, none⟩) (Nat.le_refl _) _) | exact KS.out _ ((HX4.out.setCell (p := ⟨w3.heap.size, 0, none⟩) HX3.out.size _).setCell (p := ⟨w3.heap.size, 1, none⟩) HX3.out.size _))) (fun hHeld => ?_)
                    clear hK K
                    try simp only [Act.put, List.setIfInBounds_toArray, List.set_cons_zero, List.set_cons_succ]
                    refine wpAnyH_take (i := 14) (oi := ?oim1_30) (v := ?vm1_30) ?hm1_30 (by kernel_rfl) (by kernel_rfl) (by kernel_rfl) ?qm1_30 (Or.inl ⟨?wm1_30, ?ym1_30⟩) (by assumption) ?rm1_30
                    case hm1_30 => (simp only [List.getElem?_toArray, List.getElem?_cons_succ, List.getElem?_cons_zero]; rfl)
                    case qm1_30 => exact fun _ _ _ h => h
                    case wm1_30 => rfl
                    case ym1_30 => (intro w hSw; (try dsimp only at hSw); go_simp <;> with_reducible rfl)
                    try simp only [Act.put, List.setIfInBounds_toArray, List.set_cons_zero, List.set_cons_succ]
                    refine wpAnyH_done (by kernel_rfl) ?_ _
                    go_wp2_with fail
                    go_meet
                    first
                    | exact FitOut.alloc HT4.out HX4.out
                    | exact FitOut.set HT4.out HX4.out HBY.out (Nat.le_refl _)
                    | exact FitOut.set HT4.out HX4.out HBY.out HX3.out.size
                  exact AllReadyH.nil
                exact AllReadyH.nil
              exact AllReadyH.nil
            exact AllReadyH.nil
          case rest =>
            obtain ⟨g, A5, c5, R5, rfl, rfl, hk5, ht5, hb5⟩ := hcut
            have HT5 := Lib.hid ht5
            have HK5 := Lib.hid hk5
            have HKR := Lib.hid (blk_below HK2.out hb5 HLY.out)
            have HB5 := Lib.hid (HB2.out.trans (hb5.mono HB2.out.size))
            clear ht5 hb5
            obtain ⟨a0, a1, af0, af1, al⟩ := blk2cells hk5
            obtain ⟨y0, y1, fy0, fy1, ly⟩ := blk2cells HKR.out
            clear hk5
            go_wp2_with fail
            rw [HE.out]
            refine bodyPost_ret (v := .tuple #[.agg #[.int .i64 pp.1, .slice A5 R5.length c5], .int .i64 pp.2.2]) ?_ rfl ⟨_, R5, rfl, HT5.out.own.box2 HKR.out (by decide) (by decide) _ _, HT5.out.dat, ?_⟩
            · simp [results, Try.results21, go_sem, y0, y1]
            · exact (HB5.out.setCell (p := ⟨w.heap.size + 1, 0, none⟩) (by simp) _).setCell (p := ⟨w.heap.size + 1, 1, none⟩) (by simp) _
    · have hne : ((nf' : Int) != (m : Int)) = true := by simpa using (show ¬ (nf' : Int) = m by omega)
      have HE : Hid (subsF m (dat L) fs = (0, [], 2)) := Lib.hid (by rw [HFF.out, if_neg (by rw [← HNF.out]; omega)])
      clear h2
      go_enter Try.func21, Try.ntmps21
      go_wp2_with fail
      refine HIP.out.mono ?_
      rintro e w1 ⟨rfl, hb1⟩
      rw [h1]
      have HB1 := Lib.hid (HB.out.trans (hb1.mono HB.out.size))
      have HK1 := Lib.hid (blk_below HK.out hb1 (by simp))
      have HK01 := Lib.hid (blk_below HK0.out hb1 (by simp; omega))
      clear hb1 y0 y1 fy0 fy1 ly x0 x1 xf0 xf1 lx
      obtain ⟨y0, y1, fy0, fy1, ly⟩ := blk2cells HK1.out
      obtain ⟨x0, x1, xf0, xf1, lx⟩ := blk2cells HK01.out
      go_wp2_with fail
      refine bodyPost_ret (v := .tuple #[.agg #[.int .i64 0, .slice none 0 0], .int .i64 2]) ?_ rfl ⟨_, [], by rw [HE.out], OwnR.nil _ _, by rw [HE.out]; rfl, ?_⟩
      · simp [results, Try.results21, go_sem, y0, y1]
      · exact (HB1.out.setCell (p := ⟨w.heap.size + 1, 0, none⟩) (by simp) _).setCell (p := ⟨w.heap.size + 1, 1, none⟩) (by simp) _
end Go.Proofs.Ytnffpjdlpjkioaa

namespace Go.Proofs.Ytnffpjdlpjkioaa
open Go.RowKit

noncomputable def substOf (q : Int) (L : List Row) (xs : List Int) : Int × LL × Int := subsF q (dat L) xs
theorem substOf_dat {q : Int} {L M : List Row} {xs : List Int} (h : dat M = dat L) : substOf q M xs = substOf q L xs := by unfold substOf; rw [h]
theorem told_len {k : Nat} {M : LL} (hk : k ≤ 4) (h : ∀ x ∈ M, x.length = k) : (toldOf k M).2.1.length ≤ 2000 ∧ ∀ x ∈ (toldOf k M).2.1, x.length ≤ 4 := by
  unfold toldOf
  split
  · exact ⟨by simp, fun x hx => by cases hx⟩
  · rename_i h1
    exact ⟨by simpa using h1, fun x hx => by rw [h x (nf_sub hx)]; exact hk⟩
theorem substOf_len (q : Int) (L : List Row) (xs : List Int) : (substOf q L xs).2.1.length ≤ 2000 ∧ ∀ x ∈ (substOf q L xs).2.1, x.length ≤ 4 := by
  unfold substOf subsF
  split
  · rename_i h1
    obtain ⟨m, d, rfl, hm1, hm4, hd, hQ, hL2, hAs⟩ := polyB_hom h1
    split
    · split
      · rw [Int.toNat_natCast]
        exact told_len hm4 (putB_hom hQ (show d < 64 by omega)).len
      · exact ⟨by simp, fun x hx => by cases hx⟩
    · exact ⟨by simp, fun x hx => by cases hx⟩
  · exact ⟨by simp, fun x hx => by cases hx⟩
theorem specSubst_any (q : Int) (A : Option Addr) (n c : Nat) (L : List Row) (F : Option Addr) (nf' cf : Nat) (fs : List Int) (w : World) (hn : n = L.length) (hsm : n ≤ 1048576) (hl : ∀ i, i < L.length → (rg L i).xs.length ≤ 1048576) (hR : RdR w A L) (hnf : nf' = fs.length) (hsf : nf' ≤ 1048576) (hF : Rd w F (iv fs)) :
    Calls Try.prog 21 #[.agg #[.int .i64 q, .slice A n c], .slice F nf' cf] w (ResPoly (substOf q L fs) w) := specSubstituteForms_any q A F n c nf' cf L fs w hn hsm hl hR hnf hsf hF
theorem implSubst_any (q : Int) (A : Option Addr) (n c : Nat) (L : List Row) (F : Option Addr) (nf' cf : Nat) (fs : List Int) (w : World) (hn : n = L.length) (hsm : n ≤ 1048576) (hl : ∀ i, i < L.length → (rg L i).xs.length ≤ 1048576) (hR : RdR w A L) (hnf : nf' = fs.length) (hsf : nf' ≤ 1048576) (hF : Rd w F (iv fs)) :
    Calls Try.prog 23 #[.agg #[.int .i64 q, .slice A n c], .slice F nf' cf] w (ResPoly (substOf q L fs) w) := implSubstituteForms_any q A F n c nf' cf L fs w hn hsm hl hR hnf hsf hF
end Go.Proofs.Ytnffpjdlpjkioaa

namespace Go.Proofs.Ytnffpjdlpjkioaa
open Go.RowKit

set_option maxRecDepth 100000 in
set_option maxHeartbeats 8000000 in
theorem lawSubst_any (q0 : Int) (A0 : Option Addr) (n0 c0 : Nat) (L0 : List Row) (A1 : Option Addr) (n1 c1 : Nat) (xs1 : List Int) (w : World) (hn0 : n0 = L0.length) (hs0 : n0 ≤ 9223372036854775807) (hl0 : ∀ i, i < L0.length → (rg L0 i).xs.length ≤ 9223372036854775807) (hR0 : RdR w A0 L0) (hn1 : n1 = xs1.length) (hs1 : n1 ≤ 9223372036854775807) (hR1 : Rd w A1 (iv xs1)) :
    Calls Try.prog 5 #[.agg #[.int .i64 q0, .slice A0 n0 c0], .slice A1 n1 c1] w fun e w' => e = .returned (.bool true) ∧ Below w.heap.size w w' := by
  have hI := (Inw.start w).allocBox #[.int .i64 q0, .slice A0 n0 c0] 36
  have I0 := Lib.hid hI
  clear hI
  have Hn0 := Lib.hid hn0
  have HR0 := Lib.hid hR0
  have HL0 := Lib.hid hl0
  clear hn0 hR0 hl0
  have Hn1 := Lib.hid hn1
  have HR1 := Lib.hid hR1
  clear hn1 hR1
  by_cases hb1 : ¬ n1 ≤ 1048576
  · have hb' : 1048576 < (n1 : Int) := by omega
    go_enter Try.func5, Try.ntmps5
    go_wp2_with fail
    go_ret
    exact ⟨rfl, I0.out.bel⟩
  have hb1' : ¬ 1048576 < (n1 : Int) := by omega
  go_enter Try.func5, Try.ntmps5
  go_wp2_with fail
  refine (szPoly_any q0 A0 n0 c0 L0 (1048576) _ Hn0.out hs0 HL0.out (by omega) (by omega) (HR0.out.below I0.out.bel)).mono ?_
  rintro e w1 ⟨z0, rfl, hz, hb⟩
  have I1 := Lib.hid (I0.out.step hb)
  clear hb
  obtain ⟨u_a0_1, v_a0_1, x_a0_1, y_a0_1, z_a0_1⟩ := blk2cells (I1.out.box 0 rfl)
  rcases hz with rfl | ⟨hz0, hy0⟩
  · go_wp2_with fail
    go_ret
    exact ⟨rfl, I1.out.bel⟩
  have hi0 : ¬ z0 < 0 := by omega
  have hk0 : tot L0 ≤ 1048576 := by omega
  have HLL0 := Lib.hid (fun i (hi : i < L0.length) => Nat.le_trans (len_le_tot hi) hk0)
  have HTO0 := Lib.hid (fun W (hb : Below w.heap.size w W) => toPoly_any q0 A0 n0 c0 L0 W Hn0.out (by omega) HLL0.out (HR0.out.below hb))
  have HTO1 := Lib.hid (fun W (hb : Below w.heap.size w W) => toInts_any A1 n1 c1 xs1 W Hn1.out (by omega) (HR1.out.below hb))
  obtain ⟨rr, hrr⟩ : ∃ rr, substOf q0 L0 xs1 = rr := ⟨_, rfl⟩
  have hlen := substOf_len q0 L0 xs1
  rw [hrr] at hlen
  have HDD := Lib.hid (fun (M0 : List Row) (e0 : dat M0 = dat L0) => (substOf_dat e0).trans hrr)
  clear hrr
  have hnb0 : n0 ≤ 1048576 := by omega
  have hnb1 : n1 ≤ 1048576 := by omega
  have HSP := Lib.hid (fun (W : World) (C0 : Option Addr) (M0 : List Row) (e0 : dat M0 = dat L0) (r0 : RdR W C0 M0) (C1 : Option Addr) (r1 : Rd W C1 (iv xs1)) => show Calls Try.prog 21 #[.agg #[.int .i64 q0, .slice C0 n0 n0], .slice C1 n1 n1] W (ResPoly rr W) from by
    have h : Calls Try.prog 21 #[.agg #[.int .i64 q0, .slice C0 n0 n0], .slice C1 n1 n1] W (ResPoly (substOf q0 M0 xs1) W) := specSubst_any q0 C0 n0 n0 M0 C1 n1 n1 xs1 W (by rw [Hn0.out, (dat_xs e0).1]) (by omega) (by intro i hi; rw [(dat_xs e0).2 i]; exact HLL0.out i (by rw [← (dat_xs e0).1]; exact hi)) r0 Hn1.out (by omega) r1
    rw [HDD.out M0 e0] at h
    exact h)
  have HIM := Lib.hid (fun (W : World) (C0 : Option Addr) (M0 : List Row) (e0 : dat M0 = dat L0) (r0 : RdR W C0 M0) (C1 : Option Addr) (r1 : Rd W C1 (iv xs1)) => show Calls Try.prog 23 #[.agg #[.int .i64 q0, .slice C0 n0 n0], .slice C1 n1 n1] W (ResPoly rr W) from by
    have h : Calls Try.prog 23 #[.agg #[.int .i64 q0, .slice C0 n0 n0], .slice C1 n1 n1] W (ResPoly (substOf q0 M0 xs1) W) := implSubst_any q0 C0 n0 n0 M0 C1 n1 n1 xs1 W (by rw [Hn0.out, (dat_xs e0).1]) (by omega) (by intro i hi; rw [(dat_xs e0).2 i]; exact HLL0.out i (by rw [← (dat_xs e0).1]; exact hi)) r0 Hn1.out (by omega) r1
    rw [HDD.out M0 e0] at h
    exact h)
  go_wp2_with fail
  clear hz0 hy0 hi0 hs0 hb1 hs1
  refine (HTO0.out _ I1.out.bel).mono ?_
  rintro e w2 ⟨gs0, Ms0, rfl, hd, ho, hb⟩
  have I2 := Lib.hid (I1.out.pushRows hb ho)
  have HDs0 := Lib.hid hd
  clear hd
  clear ho hb
  clear u_a0_1 v_a0_1 x_a0_1 y_a0_1 z_a0_1
  obtain ⟨u_a0_2, v_a0_2, x_a0_2, y_a0_2, z_a0_2⟩ := blk2cells (I2.out.box 1 rfl)
  go_wp2_with fail
  refine (HTO1.out _ I2.out.bel).mono ?_
  rintro e w3 ⟨gs1, rfl, ho, hb⟩
  have I3 := Lib.hid (I2.out.pushOwn hb ho)
  clear ho hb
  clear u_a0_2 v_a0_2 x_a0_2 y_a0_2 z_a0_2
  obtain ⟨u_a0_3, v_a0_3, x_a0_3, y_a0_3, z_a0_3⟩ := blk2cells (I3.out.box 2 rfl)
  go_wp2_with fail
  refine (HSP.out _ _ _ HDs0.out ((I3.out.rows 1 rfl).rd (by rw [Hn0.out, (dat_xs HDs0.out).1])) _ (owns_Rd (I3.out.own 0 rfl))).mono ?_
  rintro e w4 ⟨vs, Ns, rfl, ho, hd, hb⟩
  have I4 := Lib.hid (I3.out.pushRows hb ho)
  have HDs := Lib.hid hd
  clear ho hb hd
  obtain ⟨As, ks, rfl, _, _, _⟩ := owns_shape (I4.out.rows 0 rfl).out
  have HZs := Lib.hid (rows_smallP HDs.out hlen)
  have z1s := HZs.out.1
  have z2s := HZs.out.2.1
  clear u_a0_3 v_a0_3 x_a0_3 y_a0_3 z_a0_3
  obtain ⟨u_a0_4, v_a0_4, x_a0_4, y_a0_4, z_a0_4⟩ := blk2cells (I4.out.box 3 rfl)
  go_wp2_with fail
  have hI := I4.out.allocBox #[.int .i64 rr.1, .slice As Ns.length ks] 24
  refine (HTO0.out _ hI.bel).mono ?_
  rintro e w5 ⟨gx0, Mx0, rfl, hd, ho, hb⟩
  have I5 := Lib.hid (hI.pushRows hb ho)
  have HDx0 := Lib.hid hd
  clear hd
  clear ho hb
  clear hI
  clear u_a0_4 v_a0_4 x_a0_4 y_a0_4 z_a0_4
  obtain ⟨u_a0_5, v_a0_5, x_a0_5, y_a0_5, z_a0_5⟩ := blk2cells (I5.out.box 5 rfl)
  obtain ⟨u_rs_5, v_rs_5, x_rs_5, y_rs_5, z_rs_5⟩ := blk2cells (I5.out.box 1 rfl)
  go_wp2_with fail
  have hI := I5.out.allocBox #[.int .i64 q0, .slice (some ⟨gx0, 0, none⟩) n0 n0] 24
  refine (HTO1.out _ hI.bel).mono ?_
  rintro e w6 ⟨gx1, rfl, ho, hb⟩
  have I6 := Lib.hid (hI.pushOwn hb ho)
  clear ho hb
  clear hI
  clear u_a0_5 v_a0_5 x_a0_5 y_a0_5 z_a0_5 u_rs_5 v_rs_5 x_rs_5 y_rs_5 z_rs_5
  obtain ⟨u_a0_6, v_a0_6, x_a0_6, y_a0_6, z_a0_6⟩ := blk2cells (I6.out.box 7 rfl)
  obtain ⟨u_b0_6, v_b0_6, x_b0_6, y_b0_6, z_b0_6⟩ := blk2cells (I6.out.box 1 rfl)
  obtain ⟨u_rs_6, v_rs_6, x_rs_6, y_rs_6, z_rs_6⟩ := blk2cells (I6.out.box 3 rfl)
  go_wp2_with fail
  refine (HIM.out _ _ _ HDx0.out ((I6.out.rows 2 rfl).rd (by rw [Hn0.out, (dat_xs HDx0.out).1])) _ (owns_Rd (I6.out.own 0 rfl))).mono ?_
  rintro e w7 ⟨vg, Ng, rfl, ho, hd, hb⟩
  have I7 := Lib.hid (I6.out.pushRows hb ho)
  have HDg := Lib.hid hd
  clear ho hb hd
  obtain ⟨Ag, kg, rfl, _, _, _⟩ := owns_shape (I7.out.rows 0 rfl).out
  have HZg := Lib.hid (rows_smallP HDg.out hlen)
  have z1g := HZg.out.1
  have z2g := HZg.out.2.1
  clear u_a0_6 v_a0_6 x_a0_6 y_a0_6 z_a0_6 u_b0_6 v_b0_6 x_b0_6 y_b0_6 z_b0_6 u_rs_6 v_rs_6 x_rs_6 y_rs_6 z_rs_6
  obtain ⟨u_a0_7, v_a0_7, x_a0_7, y_a0_7, z_a0_7⟩ := blk2cells (I7.out.box 8 rfl)
  obtain ⟨u_b0_7, v_b0_7, x_b0_7, y_b0_7, z_b0_7⟩ := blk2cells (I7.out.box 2 rfl)
  obtain ⟨u_rs_7, v_rs_7, x_rs_7, y_rs_7, z_rs_7⟩ := blk2cells (I7.out.box 4 rfl)
  go_wp2_with fail
  have hI := I7.out.allocBox #[.int .i64 rr.1, .slice Ag Ng.length kg] 24
  refine (eqPoly_any _ _ _ _ _ _ _ _ _ _ rfl rfl (by omega) (fun i hi => Nat.le_trans (HZg.out.2.2 i hi) (by omega)) (HDs.out.trans HDg.out.symm) ((hI.rows 1 rfl).rd rfl) ((hI.rows 6 rfl).rd rfl)).mono ?_
  rintro e w8 ⟨rfl, hb⟩
  have I8 := Lib.hid (hI.step hb)
  clear hb
  clear hI
  clear u_a0_7 v_a0_7 x_a0_7 y_a0_7 z_a0_7 u_b0_7 v_b0_7 x_b0_7 y_b0_7 z_b0_7 u_rs_7 v_rs_7 x_rs_7 y_rs_7 z_rs_7
  obtain ⟨u_a0_8, v_a0_8, x_a0_8, y_a0_8, z_a0_8⟩ := blk2cells (I8.out.box 9 rfl)
  obtain ⟨u_b0_8, v_b0_8, x_b0_8, y_b0_8, z_b0_8⟩ := blk2cells (I8.out.box 3 rfl)
  obtain ⟨u_rs_8, v_rs_8, x_rs_8, y_rs_8, z_rs_8⟩ := blk2cells (I8.out.box 5 rfl)
  obtain ⟨u_rg_8, v_rg_8, x_rg_8, y_rg_8, z_rg_8⟩ := blk2cells (I8.out.box 0 rfl)
  go_wp2_with fail
  have KS := Lib.hid (fun w' (hb : Below w8.heap.size w8 w') => show w'.cell? ⟨w5.heap.size, 0, none⟩ = some (.int .i64 q0) ∧ w'.cell? ⟨w5.heap.size, 1, none⟩ = some (.slice (some ⟨gx0, 0, none⟩) n0 n0) ∧ w'.cell? ⟨w.heap.size, 0, none⟩ = some (.int .i64 q0) ∧ w'.cell? ⟨w.heap.size, 1, none⟩ = some (.slice A0 n0 c0) from by
    have J := I8.out.step hb
    exact ⟨(blk2cells (J.box 3 rfl)).1, (blk2cells (J.box 3 rfl)).2.1, (blk2cells (J.box 9 rfl)).1, (blk2cells (J.box 9 rfl)).2.1⟩)
  have HB_0 := Lib.hid (Below.drew (Below.refl w8.heap.size w8))
  have I9 := Lib.hid I8.out.drew
  clear u_a0_8 v_a0_8 x_a0_8 y_a0_8 z_a0_8 u_b0_8 v_b0_8 x_b0_8 y_b0_8 z_b0_8 u_rs_8 v_rs_8 x_rs_8 y_rs_8 z_rs_8 u_rg_8 v_rg_8 x_rg_8 y_rg_8 z_rg_8
  go_region_held3 (fun w' => w'.cell? ⟨w5.heap.size, 0, none⟩ = some (.int .i64 q0) ∧ w'.cell? ⟨w5.heap.size, 1, none⟩ = some (.slice (some ⟨gx0, 0, none⟩) n0 n0) ∧ w'.cell? ⟨w.heap.size, 0, none⟩ = some (.int .i64 q0) ∧ w'.cell? ⟨w.heap.size, 1, none⟩ = some (.slice A0 n0 c0))
      (first | exact KS.out _ HB_0.out | exact KS.out _ HB_1.out | exact KS.out _ HB_2.out)
      (first
        | (go_at_call 22; (with_reducible refine (HTO0.out _ I9.out.bel).mono ?_); (rintro e w9 ⟨ge0, Me0, rfl, hd, ho, hb⟩; have I10 := Lib.hid (I9.out.pushRows hb ho); have HDe0 := Lib.hid hd; have HB_1 := Lib.hid (HB_0.out.trans (hb.mono HB_0.out.size)); clear ho hb hd))
        | (go_at_call 12; (with_reducible refine (eqPoly_any q0 _ _ n0 n0 n0 n0 _ _ _ (by rw [Hn0.out, (dat_xs HDx0.out).1]) (by rw [Hn0.out, (dat_xs HDe0.out).1]) (by omega) (by intro i hi; rw [(dat_xs HDx0.out).2 i]; exact Nat.le_trans (HLL0.out i (by rw [← (dat_xs HDx0.out).1]; exact hi)) (by omega)) (HDe0.out.trans HDx0.out.symm) ((I10.out.rows 5 rfl).rd (by rw [Hn0.out, (dat_xs HDx0.out).1])) ((I10.out.rows 0 rfl).rd (by rw [Hn0.out, (dat_xs HDe0.out).1]))).mono ?_); (rintro e w10 ⟨rfl, hb⟩; have I11 := Lib.hid (I10.out.step hb); have HB_2 := Lib.hid (HB_1.out.trans (hb.mono HB_1.out.size)); clear hb)))
  clear HB_0 HB_1 HB_2 KS
  obtain ⟨u_a0_11, v_a0_11, x_a0_11, y_a0_11, z_a0_11⟩ := blk2cells (I11.out.box 10 rfl)
  obtain ⟨u_b0_11, v_b0_11, x_b0_11, y_b0_11, z_b0_11⟩ := blk2cells (I11.out.box 4 rfl)
  obtain ⟨u_rs_11, v_rs_11, x_rs_11, y_rs_11, z_rs_11⟩ := blk2cells (I11.out.box 6 rfl)
  obtain ⟨u_rg_11, v_rg_11, x_rg_11, y_rg_11, z_rg_11⟩ := blk2cells (I11.out.box 1 rfl)
  go_wp2_with fail
  refine (HTO1.out _ I11.out.bel).mono ?_
  rintro e w11 ⟨ge1, rfl, ho, hb⟩
  have I12 := Lib.hid (I11.out.pushOwn hb ho)
  clear ho hb
  clear u_a0_11 v_a0_11 x_a0_11 y_a0_11 z_a0_11 u_b0_11 v_b0_11 x_b0_11 y_b0_11 z_b0_11 u_rs_11 v_rs_11 x_rs_11 y_rs_11 z_rs_11 u_rg_11 v_rg_11 x_rg_11 y_rg_11 z_rg_11
  obtain ⟨u_a0_12, v_a0_12, x_a0_12, y_a0_12, z_a0_12⟩ := blk2cells (I12.out.box 11 rfl)
  obtain ⟨u_b0_12, v_b0_12, x_b0_12, y_b0_12, z_b0_12⟩ := blk2cells (I12.out.box 5 rfl)
  obtain ⟨u_rs_12, v_rs_12, x_rs_12, y_rs_12, z_rs_12⟩ := blk2cells (I12.out.box 7 rfl)
  obtain ⟨u_rg_12, v_rg_12, x_rg_12, y_rg_12, z_rg_12⟩ := blk2cells (I12.out.box 2 rfl)
  go_wp2_with fail
  refine (eqIntsB_any _ _ n1 _ _ xs1 _ Hn1.out (by omega) (owns_Rd (I12.out.own 4 rfl)) (owns_Rd (I12.out.own 0 rfl))).mono ?_
  rintro e w12 ⟨rfl, hb⟩
  have I13 := Lib.hid (I12.out.step hb)
  clear hb
  clear u_a0_12 v_a0_12 x_a0_12 y_a0_12 z_a0_12 u_b0_12 v_b0_12 x_b0_12 y_b0_12 z_b0_12 u_rs_12 v_rs_12 x_rs_12 y_rs_12 z_rs_12 u_rg_12 v_rg_12 x_rg_12 y_rg_12 z_rg_12
  obtain ⟨u_a0_13, v_a0_13, x_a0_13, y_a0_13, z_a0_13⟩ := blk2cells (I13.out.box 11 rfl)
  obtain ⟨u_b0_13, v_b0_13, x_b0_13, y_b0_13, z_b0_13⟩ := blk2cells (I13.out.box 5 rfl)
  obtain ⟨u_rs_13, v_rs_13, x_rs_13, y_rs_13, z_rs_13⟩ := blk2cells (I13.out.box 7 rfl)
  obtain ⟨u_rg_13, v_rg_13, x_rg_13, y_rg_13, z_rg_13⟩ := blk2cells (I13.out.box 2 rfl)
  go_wp2_with fail
  have HKB0 := Lib.hid (show (0 : Int) ≤ 1 ∧ (1 : Int) ≤ 1 from ⟨by decide, by decide⟩)
  have hxl0 : L0.length ≤ 1048576 := by rw [← Hn0.out]; exact hnb0
  have hqx0 : tot Mx0 = tot L0 := tot_dat HDx0.out
  have htx0 : tot Mx0 ≤ 1048576 := by rw [hqx0]; exact hk0
  clear hqx0
  refine (markPoly_any q0 _ _ _ Mx0 (1) _ (I13.out.rows 6 rfl) (by rw [(dat_xs HDx0.out).1, ← Hn0.out]; exact hnb0) htx0 HKB0.out.1 (Int.le_trans HKB0.out.2 (by decide)) (I13.out.rowsUp 6 rfl).2).mono ?_
  rintro e w13 ⟨rfl, ho, hk⟩
  have I14 := Lib.hid (I13.out.markRows 6 rfl hk ho)
  clear ho hk
  have HKB1 : Hid (0 ≤ (1 + tot Mx0 : Int) ∧ (1 + tot Mx0 : Int) ≤ 1048577) := Lib.hid (kb_add1 HKB0.out htx0)
  clear u_a0_13 v_a0_13 x_a0_13 y_a0_13 z_a0_13 u_b0_13 v_b0_13 x_b0_13 y_b0_13 z_b0_13 u_rs_13 v_rs_13 x_rs_13 y_rs_13 z_rs_13 u_rg_13 v_rg_13 x_rg_13 y_rg_13 z_rg_13
  obtain ⟨u_a0_14, v_a0_14, x_a0_14, y_a0_14, z_a0_14⟩ := blk2cells (I14.out.box 11 rfl)
  obtain ⟨u_b0_14, v_b0_14, x_b0_14, y_b0_14, z_b0_14⟩ := blk2cells (I14.out.box 5 rfl)
  obtain ⟨u_rs_14, v_rs_14, x_rs_14, y_rs_14, z_rs_14⟩ := blk2cells (I14.out.box 7 rfl)
  obtain ⟨u_rg_14, v_rg_14, x_rg_14, y_rg_14, z_rg_14⟩ := blk2cells (I14.out.box 2 rfl)
  have hnn0 : ¬ (1 + tot Mx0 : Int) < 0 := Int.not_lt.2 HKB1.out.1
  go_wp2_with fail
  have hxl1 : xs1.length ≤ 1048576 := by rw [← Hn1.out]; exact hnb1
  refine (markInts_any _ _ n1 xs1 (1 + tot Mx0) _ (I14.out.own 4 rfl) (Nat.le_trans hnb1 (by decide)) HKB1.out.1 (Int.le_trans HKB1.out.2 (by decide))).mono ?_
  rintro e w14 ⟨rfl, ho, hk⟩
  have I15 := Lib.hid (I14.out.markOwn 4 rfl hk ho)
  clear ho hk
  have HKB2 : Hid (0 ≤ (1 + tot Mx0 + n1 : Int) ∧ (1 + tot Mx0 + n1 : Int) ≤ 2097153) := Lib.hid (kb_add1 HKB1.out hnb1)
  clear u_a0_14 v_a0_14 x_a0_14 y_a0_14 z_a0_14 u_b0_14 v_b0_14 x_b0_14 y_b0_14 z_b0_14 u_rs_14 v_rs_14 x_rs_14 y_rs_14 z_rs_14 u_rg_14 v_rg_14 x_rg_14 y_rg_14 z_rg_14
  obtain ⟨u_a0_15, v_a0_15, x_a0_15, y_a0_15, z_a0_15⟩ := blk2cells (I15.out.box 11 rfl)
  obtain ⟨u_b0_15, v_b0_15, x_b0_15, y_b0_15, z_b0_15⟩ := blk2cells (I15.out.box 5 rfl)
  obtain ⟨u_rs_15, v_rs_15, x_rs_15, y_rs_15, z_rs_15⟩ := blk2cells (I15.out.box 7 rfl)
  obtain ⟨u_rg_15, v_rg_15, x_rg_15, y_rg_15, z_rg_15⟩ := blk2cells (I15.out.box 2 rfl)
  have hnn1 : ¬ (1 + tot Mx0 + n1 : Int) < 0 := Int.not_lt.2 HKB2.out.1
  go_wp2_with fail
  refine (eqPoly_any _ _ _ _ _ _ _ _ _ _ rfl rfl (by omega) (fun i hi => Nat.le_trans (HZg.out.2.2 i hi) (by omega)) (HDs.out.trans HDg.out.symm) ((I15.out.rows 3 rfl).rd rfl) ((I15.out.rows 8 rfl).rd rfl)).mono ?_
  rintro e w15 ⟨rfl, hb⟩
  have I16 := Lib.hid (I15.out.step hb)
  clear hb
  clear u_a0_15 v_a0_15 x_a0_15 y_a0_15 z_a0_15 u_b0_15 v_b0_15 x_b0_15 y_b0_15 z_b0_15 u_rs_15 v_rs_15 x_rs_15 y_rs_15 z_rs_15 u_rg_15 v_rg_15 x_rg_15 y_rg_15 z_rg_15
  obtain ⟨u_a0_16, v_a0_16, x_a0_16, y_a0_16, z_a0_16⟩ := blk2cells (I16.out.box 11 rfl)
  obtain ⟨u_b0_16, v_b0_16, x_b0_16, y_b0_16, z_b0_16⟩ := blk2cells (I16.out.box 5 rfl)
  obtain ⟨u_rs_16, v_rs_16, x_rs_16, y_rs_16, z_rs_16⟩ := blk2cells (I16.out.box 7 rfl)
  obtain ⟨u_rg_16, v_rg_16, x_rg_16, y_rg_16, z_rg_16⟩ := blk2cells (I16.out.box 2 rfl)
  go_wp2_with fail
  refine (markPoly_any _ _ _ _ Ng 1 _ (I16.out.rows 3 rfl) (by omega) (by omega) (by omega) (by omega) (I16.out.rowsUp 3 rfl).2).mono ?_
  rintro e w16 ⟨rfl, ho, hk⟩
  have I17 := Lib.hid (I16.out.markRows 3 rfl hk ho)
  clear ho hk
  clear u_a0_16 v_a0_16 x_a0_16 y_a0_16 z_a0_16 u_b0_16 v_b0_16 x_b0_16 y_b0_16 z_b0_16 u_rs_16 v_rs_16 x_rs_16 y_rs_16 z_rs_16 u_rg_16 v_rg_16 x_rg_16 y_rg_16 z_rg_16
  obtain ⟨u_a0_17, v_a0_17, x_a0_17, y_a0_17, z_a0_17⟩ := blk2cells (I17.out.box 11 rfl)
  obtain ⟨u_b0_17, v_b0_17, x_b0_17, y_b0_17, z_b0_17⟩ := blk2cells (I17.out.box 5 rfl)
  obtain ⟨u_rs_17, v_rs_17, x_rs_17, y_rs_17, z_rs_17⟩ := blk2cells (I17.out.box 7 rfl)
  obtain ⟨u_rg_17, v_rg_17, x_rg_17, y_rg_17, z_rg_17⟩ := blk2cells (I17.out.box 2 rfl)
  go_wp2_with fail
  refine (heldPoly_any _ _ Ng.length _ Ng 1 _ rfl ((I17.out.rows 3 rfl).rd (by rw [marksR_length])) (by omega) (by omega) (by omega) (by omega)).mono ?_
  rintro e w17 ⟨rfl, hb⟩
  have I18 := Lib.hid (I17.out.step hb)
  clear hb
  clear u_a0_17 v_a0_17 x_a0_17 y_a0_17 z_a0_17 u_b0_17 v_b0_17 x_b0_17 y_b0_17 z_b0_17 u_rs_17 v_rs_17 x_rs_17 y_rs_17 z_rs_17 u_rg_17 v_rg_17 x_rg_17 y_rg_17 z_rg_17
  obtain ⟨u_a0_18, v_a0_18, x_a0_18, y_a0_18, z_a0_18⟩ := blk2cells (I18.out.box 11 rfl)
  obtain ⟨u_b0_18, v_b0_18, x_b0_18, y_b0_18, z_b0_18⟩ := blk2cells (I18.out.box 5 rfl)
  obtain ⟨u_rs_18, v_rs_18, x_rs_18, y_rs_18, z_rs_18⟩ := blk2cells (I18.out.box 7 rfl)
  obtain ⟨u_rg_18, v_rg_18, x_rg_18, y_rg_18, z_rg_18⟩ := blk2cells (I18.out.box 2 rfl)
  go_wp2_with fail
  refine (HTO0.out _ I18.out.bel).mono ?_
  rintro e w18 ⟨gh0, Mh0, rfl, hd, ho, hb⟩
  have I19 := Lib.hid (I18.out.pushRows hb ho)
  have HDh0 := Lib.hid hd
  clear hd
  clear ho hb
  clear u_a0_18 v_a0_18 x_a0_18 y_a0_18 z_a0_18 u_b0_18 v_b0_18 x_b0_18 y_b0_18 z_b0_18 u_rs_18 v_rs_18 x_rs_18 y_rs_18 z_rs_18 u_rg_18 v_rg_18 x_rg_18 y_rg_18 z_rg_18
  obtain ⟨u_a0_19, v_a0_19, x_a0_19, y_a0_19, z_a0_19⟩ := blk2cells (I19.out.box 12 rfl)
  obtain ⟨u_b0_19, v_b0_19, x_b0_19, y_b0_19, z_b0_19⟩ := blk2cells (I19.out.box 6 rfl)
  obtain ⟨u_rs_19, v_rs_19, x_rs_19, y_rs_19, z_rs_19⟩ := blk2cells (I19.out.box 8 rfl)
  obtain ⟨u_rg_19, v_rg_19, x_rg_19, y_rg_19, z_rg_19⟩ := blk2cells (I19.out.box 3 rfl)
  go_wp2_with fail
  refine (HTO1.out _ I19.out.bel).mono ?_
  rintro e w19 ⟨gh1, rfl, ho, hb⟩
  have I20 := Lib.hid (I19.out.pushOwn hb ho)
  clear ho hb
  clear u_a0_19 v_a0_19 x_a0_19 y_a0_19 z_a0_19 u_b0_19 v_b0_19 x_b0_19 y_b0_19 z_b0_19 u_rs_19 v_rs_19 x_rs_19 y_rs_19 z_rs_19 u_rg_19 v_rg_19 x_rg_19 y_rg_19 z_rg_19
  obtain ⟨u_a0_20, v_a0_20, x_a0_20, y_a0_20, z_a0_20⟩ := blk2cells (I20.out.box 13 rfl)
  obtain ⟨u_b0_20, v_b0_20, x_b0_20, y_b0_20, z_b0_20⟩ := blk2cells (I20.out.box 7 rfl)
  obtain ⟨u_rs_20, v_rs_20, x_rs_20, y_rs_20, z_rs_20⟩ := blk2cells (I20.out.box 9 rfl)
  obtain ⟨u_rg_20, v_rg_20, x_rg_20, y_rg_20, z_rg_20⟩ := blk2cells (I20.out.box 4 rfl)
  go_wp2_with fail
  refine (HIM.out _ _ _ HDh0.out ((I20.out.rows 1 rfl).rd (by rw [Hn0.out, (dat_xs HDh0.out).1])) _ (owns_Rd (I20.out.own 0 rfl))).mono ?_
  rintro e w20 ⟨vh, Nh, rfl, ho, hd, hb⟩
  have I21 := Lib.hid (I20.out.pushRows hb ho)
  have HDh := Lib.hid hd
  clear ho hb hd
  obtain ⟨Ah, kh, rfl, _, _, _⟩ := owns_shape (I21.out.rows 0 rfl).out
  have HZh := Lib.hid (rows_smallP HDh.out hlen)
  have z1h := HZh.out.1
  have z2h := HZh.out.2.1
  clear u_a0_20 v_a0_20 x_a0_20 y_a0_20 z_a0_20 u_b0_20 v_b0_20 x_b0_20 y_b0_20 z_b0_20 u_rs_20 v_rs_20 x_rs_20 y_rs_20 z_rs_20 u_rg_20 v_rg_20 x_rg_20 y_rg_20 z_rg_20
  obtain ⟨u_a0_21, v_a0_21, x_a0_21, y_a0_21, z_a0_21⟩ := blk2cells (I21.out.box 14 rfl)
  obtain ⟨u_b0_21, v_b0_21, x_b0_21, y_b0_21, z_b0_21⟩ := blk2cells (I21.out.box 8 rfl)
  obtain ⟨u_rs_21, v_rs_21, x_rs_21, y_rs_21, z_rs_21⟩ := blk2cells (I21.out.box 10 rfl)
  obtain ⟨u_rg_21, v_rg_21, x_rg_21, y_rg_21, z_rg_21⟩ := blk2cells (I21.out.box 5 rfl)
  go_wp2_with fail
  have hI := I21.out.allocBox #[.int .i64 rr.1, .slice Ah Nh.length kh] 24
  refine (eqPoly_any _ _ _ _ _ _ _ _ _ _ rfl rfl (by omega) (fun i hi => Nat.le_trans (HZh.out.2.2 i hi) (by omega)) (HDs.out.trans HDh.out.symm) ((hI.rows 1 rfl).rd rfl) ((hI.rows 12 rfl).rd rfl)).mono ?_
  rintro e w21 ⟨rfl, hb⟩
  have I22 := Lib.hid (hI.step hb)
  clear hb
  clear hI
  clear u_a0_21 v_a0_21 x_a0_21 y_a0_21 z_a0_21 u_b0_21 v_b0_21 x_b0_21 y_b0_21 z_b0_21 u_rs_21 v_rs_21 x_rs_21 y_rs_21 z_rs_21 u_rg_21 v_rg_21 x_rg_21 y_rg_21 z_rg_21
  obtain ⟨u_a0_22, v_a0_22, x_a0_22, y_a0_22, z_a0_22⟩ := blk2cells (I22.out.box 15 rfl)
  obtain ⟨u_b0_22, v_b0_22, x_b0_22, y_b0_22, z_b0_22⟩ := blk2cells (I22.out.box 9 rfl)
  obtain ⟨u_rs_22, v_rs_22, x_rs_22, y_rs_22, z_rs_22⟩ := blk2cells (I22.out.box 11 rfl)
  obtain ⟨u_rg_22, v_rg_22, x_rg_22, y_rg_22, z_rg_22⟩ := blk2cells (I22.out.box 6 rfl)
  obtain ⟨u_rh_22, v_rh_22, x_rh_22, y_rh_22, z_rh_22⟩ := blk2cells (I22.out.box 0 rfl)
  go_wp2_with fail
  refine (heldPoly_any _ _ Ng.length _ Ng 1 _ rfl ((I22.out.rows 7 rfl).rd (by rw [marksR_length])) (by omega) (by omega) (by omega) (by omega)).mono ?_
  rintro e w22 ⟨rfl, hb⟩
  have I23 := Lib.hid (I22.out.step hb)
  clear hb
  clear u_a0_22 v_a0_22 x_a0_22 y_a0_22 z_a0_22 u_b0_22 v_b0_22 x_b0_22 y_b0_22 z_b0_22 u_rs_22 v_rs_22 x_rs_22 y_rs_22 z_rs_22 u_rg_22 v_rg_22 x_rg_22 y_rg_22 z_rg_22 u_rh_22 v_rh_22 x_rh_22 y_rh_22 z_rh_22
  obtain ⟨u_a0_23, v_a0_23, x_a0_23, y_a0_23, z_a0_23⟩ := blk2cells (I23.out.box 15 rfl)
  obtain ⟨u_b0_23, v_b0_23, x_b0_23, y_b0_23, z_b0_23⟩ := blk2cells (I23.out.box 9 rfl)
  obtain ⟨u_rs_23, v_rs_23, x_rs_23, y_rs_23, z_rs_23⟩ := blk2cells (I23.out.box 11 rfl)
  obtain ⟨u_rg_23, v_rg_23, x_rg_23, y_rg_23, z_rg_23⟩ := blk2cells (I23.out.box 6 rfl)
  obtain ⟨u_rh_23, v_rh_23, x_rh_23, y_rh_23, z_rh_23⟩ := blk2cells (I23.out.box 0 rfl)
  go_wp2_with fail
  go_ret
  exact ⟨rfl, I23.out.bel⟩
end Go.Proofs.Ytnffpjdlpjkioaa

namespace Go.Proofs.Ytnffpjdlpjkioaa
open Go.ChangeShapes Go.WideShapes Go.ChangeAt Go.RowKit Go.Joins Go.Deep

/-- a struct of an int and rows of rows: a polynomial -/
theorem open_poly {H : Type} {enc : TypeId × Value → H} {P : Program} {w : World} {base : Nat} {held : Bool} {r : Reach} {b0 : Nat} {t q : TypeId} {f0 f1 : Field} {v : Value} {d : DataW H} {p : List MemPlace} (hs : P.underlying t = some (.struct #[f0, f1])) (hone : oneCellFields P #[f0, f1] = true) (hC : P.cellsOf t = 2)
    (hi : P.underlying f0.type = some (.int .i64)) (h1 : P.underlying f1.type = some (.slice q)) (hq : P.underlying q = some (.slice f0.type)) (c0 : P.cellsOf f0.type = 1) (cq : P.cellsOf q = 1)
    (hv : Value.okWide P w r b0 t v) (h : DataW.Trod enc P w base (fun _ => true) held t v d p) :
    ∃ a A n c L, v = .agg #[.int .i64 a, .slice A n c] ∧ n = L.length ∧ n ≤ maxLen ∧ RdR w A L ∧ ∀ i, i < L.length → (rg L i).xs.length ≤ maxLen := by
  obtain ⟨c0', c1', y0, y1, m, rfl, rfl, rfl, hy0, hy1⟩ := open_agg2 hs hone hC hv h
  obtain ⟨a, e0, rfl, wa⟩ := DataW.trod_int hi hy0
  injection e0 with e0 _
  subst e0
  obtain ⟨A', n', c', L, rfl, hn', hm', hR', hl'⟩ := rows_RdR h1 hq hi cq c0 hy1
  exact ⟨a, A', n', c', L, rfl, hn', hm', hR', hl'⟩
end Go.Proofs.Ytnffpjdlpjkioaa

namespace Go.Proofs.Ytnffpjdlpjkioaa
open Go.RowKit

theorem list_take_eq {α : Type} [DecidableEq α] {x y : List α} {k : Nat} (hx : k < x.length) (hy : k < y.length) (z : α) (h : x.take k = y.take k) (e : x.getD k z = y.getD k z) : x.take (k + 1) = y.take (k + 1) := by
  rw [List.take_succ_eq_append_getElem hx, List.take_succ_eq_append_getElem hy, h]
  have e1 : x.getD k z = x[k] := by simp [List.getD, hx]
  have e2 : y.getD k z = y[k] := by simp [List.getD, hy]
  rw [← e1, ← e2, e]
theorem ne_of_getD {α : Type} {x y : List α} {k : Nat} {z : α} (e : x.getD k z ≠ y.getD k z) : x ≠ y := fun h => e (by rw [h])
/-- are two lists of lists the same? -/
noncomputable def eqLL (x y : LL) : Bool := @decide (x = y) (Classical.propDecidable _)
theorem eqLL_true {x y : LL} (h : x = y) : eqLL x y = true := by unfold eqLL; simp [h]
theorem eqLL_false {x y : LL} (h : x ≠ y) : eqLL x y = false := by unfold eqLL; simp [h]

set_option maxHeartbeats 1000000 in
theorem sameClosure_any (A B : Option Addr) (n n' c c' : Nat) (x y : List Int) (w : World) (hn : n = x.length) (hn' : n' = y.length) (hsm : n ≤ 1000000) (hsm' : n' ≤ 1000000) (hA : Rd w A (iv x)) (hB : Rd w B (iv y)) :
    Calls Try.prog 92 #[.slice A n c, .slice B n' c'] w fun e w' => e = .returned (.bool (x == y)) ∧ ∃ m, w.drewN m = w' := by
  have HE := Lib.hid (slEqual_any A B n n' c c' x y w hn hn' (by omega) (by omega) hA hB)
  clear hA hB hn hn'
  go_enter Try.func92, Try.ntmps92
  go_wp2_with fail
  refine HE.out.mono ?_
  rintro e w' ⟨rfl, m, rfl⟩
  go_wp2_with fail
  go_ret
  exact ⟨rfl, m, rfl⟩

set_option maxRecDepth 100000 in
set_option maxHeartbeats 2000000 in
theorem equalFunc_any (A B : Option Addr) (n n' c c' : Nat) (L K : List Row) (w : World) (hn : n = L.length) (hn' : n' = K.length) (hsm : n ≤ 1048576) (hsm' : n' ≤ 1048576) (hl : ∀ i, i < L.length → (rg L i).xs.length ≤ 1000000) (hl' : ∀ i, i < K.length → (rg K i).xs.length ≤ 1000000) (hA : RdR w A L) (hB : RdR w B K) :
    Calls Try.prog 91 #[.slice A n c, .slice B n' c', .func (.func 92) #[] #[]] w fun e w' => e = .returned (.bool (eqLL (dat L) (dat K))) ∧ ∃ m, w.drewN m = w' := by
  have HA := Lib.hid hA
  have HB := Lib.hid hB
  have Hn := Lib.hid hn
  have Hn' := Lib.hid hn'
  have HL := Lib.hid hl
  have HK := Lib.hid hl'
  have hcf := fun args w => Try.call92 args w
  by_cases hnn : n = n'
  · subst hnn
    clear hA hB hn hn' hl hl'
    go_enter Try.func91, Try.ntmps91
    go_wp2_with fail
    go_loopw [17] (fun o wr => ∃ k : Nat, o = .int .i64 k ∧ k ≤ n ∧ (∃ m, wr = w.drewN m) ∧ (dat L).take k = (dat K).take k) (fun o _ => n - (intOf o).toNat)
    case atStart => exact ⟨0, rfl, by omega, ⟨0, rfl⟩, rfl⟩
    case round =>
      obtain ⟨k, rfl, hk, ⟨m, rfl⟩, htk⟩ := hrel
      have HTK := Lib.hid htk
      clear htk
      by_cases hlt : k < n
      · have hkL : k < L.length := by rw [← Hn.out]; exact hlt
        have hkK : k < K.length := by rw [← Hn'.out]; exact hlt
        obtain ⟨ba, oa, rfl, hca⟩ := HA.out.at_ hkL
        obtain ⟨bb, ob, rfl, hcb⟩ := HB.out.at_ hkK
        have hI1 := HA.out.inn k hkL
        have hI2 := HB.out.inn k hkK
        have h1 := HL.out k hkL
        have h2 := HK.out k hkK
        have HX := Lib.hid (dat_getD L k)
        have HY := Lib.hid (dat_getD K k)
        have hki : (k : Int) < (n : Int) := by omega
        have HTS : Hid ((dat L).getD k [] = (dat K).getD k [] → (dat L).take (k + 1) = (dat K).take (k + 1)) := Lib.hid (fun e => list_take_eq (by rw [dat_length]; exact hkL) (by rw [dat_length]; exact hkK) [] HTK.out e)
        have HNE : Hid ((dat L).getD k [] ≠ (dat K).getD k [] → eqLL (dat L) (dat K) = false) := Lib.hid (fun e => eqLL_false (ne_of_getD e))
        rw [HX.out, HY.out] at HTS HNE
        clear HX HY hkL hkK
        generalize rg L k = r at *
        generalize rg K k = s at *
        obtain ⟨rA, rc, rx⟩ := r
        obtain ⟨sA, sc, sx⟩ := s
        simp only at hca hcb hI1 hI2 h1 h2 HTS HNE
        have HEQ := Lib.hid (fun mm => sameClosure_any rA sA rx.length sx.length rc sc rx sx (w.drewN mm) rfl rfl (by omega) (by omega) (hI1.drewN mm) (hI2.drewN mm))
        clear hI1 hI2
        cases he : (rx == sx) with
        | true =>
          have HE := Lib.hid (HTS.out (by simpa using he))
          rw [he] at HEQ
          clear he
          go_wp2_with fail
          refine (HEQ.out m).mono ?_
          rintro e w' ⟨rfl, mm, rfl⟩
          rw [World.drewN_drewN]
          go_wp2_with fail
          go_roundw
          case rel => exact ⟨k + 1, by go_num, by omega, ⟨_, rfl⟩, HE.out⟩
          case measure => simp [intOf]; omega
        | false =>
          have HE := Lib.hid (HNE.out (by intro h; rw [h] at he; simp at he))
          rw [he] at HEQ
          clear he
          go_wp2_with fail
          refine (HEQ.out m).mono ?_
          rintro e w' ⟨rfl, mm, rfl⟩
          rw [World.drewN_drewN]
          go_wp2_with fail
          go_ret
          exact ⟨by rw [HE.out]; rfl, _, rfl⟩
      · have ek : k = n := by omega
        have e1 : dat L = dat K := by
          have h := HTK.out
          rw [ek, List.take_of_length_le (by rw [dat_length, ← Hn.out]; exact Nat.le_refl _), List.take_of_length_le (by rw [dat_length, ← Hn'.out]; exact Nat.le_refl _)] at h
          exact h
        have HE := Lib.hid (eqLL_true e1)
        have hki : ¬ (k : Int) < (n : Int) := by omega
        clear ek e1
        go_wp2_with fail
        go_ret
        exact ⟨by rw [HE.out]; rfl, m, rfl⟩
  · have HE : Hid (eqLL (dat L) (dat K) = false) := Lib.hid (eqLL_false (fun h => hnn (by have := congrArg List.length h; rw [dat_length, dat_length, ← hn, ← hn'] at this; exact this)))
    have hne : ((n : Int) != (n' : Int)) = true := by simpa using (show ¬ (n : Int) = n' by omega)
    clear hA hB hn hn' hl hl' hnn
    go_enter Try.func91, Try.ntmps91
    go_wp2_with fail
    go_ret
    exact ⟨by rw [HE.out]; rfl, 0, rfl⟩

set_option maxHeartbeats 1000000 in
theorem sameLists_any (A B : Option Addr) (n n' c c' : Nat) (L K : List Row) (w : World) (hn : n = L.length) (hn' : n' = K.length) (hsm : n ≤ 1048576) (hsm' : n' ≤ 1048576) (hl : ∀ i, i < L.length → (rg L i).xs.length ≤ 1000000) (hl' : ∀ i, i < K.length → (rg K i).xs.length ≤ 1000000) (hA : RdR w A L) (hB : RdR w B K) :
    Calls Try.prog 58 #[.slice A n c, .slice B n' c'] w fun e w' => e = .returned (.bool (eqLL (dat L) (dat K))) ∧ ∃ m, w.drewN m = w' := by
  have HE := Lib.hid (equalFunc_any A B n n' c c' L K w hn hn' hsm hsm' hl hl' hA hB)
  clear hA hB hn hn' hl hl'
  go_enter Try.func58, Try.ntmps58
  go_wp2_with fail
  refine HE.out.mono ?_
  rintro e w' ⟨rfl, m, rfl⟩
  go_wp2_with fail
  go_ret
  exact ⟨rfl, m, rfl⟩

set_option maxRecDepth 100000 in
set_option maxHeartbeats 2000000 in
theorem l01Same2_any (A B : Option Addr) (n n' c c' : Nat) (L K : List Row) (w : World) (hn : n = L.length) (hn' : n' = K.length) (hsm : n ≤ 1048576) (hsm' : n' ≤ 1048576) (hl : ∀ i, i < L.length → (rg L i).xs.length ≤ 1000000) (hl' : ∀ i, i < K.length → (rg K i).xs.length ≤ 1000000) (hA : RdR w A L) (hB : RdR w B K) :
    Calls Try.prog 56 #[.slice A n c, .slice B n' c'] w fun e w' => e = .returned (.bool (eqLL (dat L) (dat K))) ∧ ∃ m, w.drewN m = w' := by
  have HA := Lib.hid hA
  have HB := Lib.hid hB
  have Hn := Lib.hid hn
  have Hn' := Lib.hid hn'
  have HL := Lib.hid hl
  have HK := Lib.hid hl'
  by_cases hnn : n = n'
  · subst hnn
    clear hA hB hn hn' hl hl'
    go_enter Try.func56, Try.ntmps56
    go_wp2_with fail
    go_loopw [5] (fun o wr => ∃ k : Nat, o = .int .i64 k ∧ k ≤ n ∧ (∃ m, wr = w.drewN m) ∧ (dat L).take k = (dat K).take k) (fun o _ => n - (intOf o).toNat)
    case atStart => exact ⟨0, rfl, by omega, ⟨0, rfl⟩, rfl⟩
    case round =>
      obtain ⟨k, rfl, hk, ⟨m, rfl⟩, htk⟩ := hrel
      have HTK := Lib.hid htk
      clear htk
      by_cases hlt : k < n
      · have hkL : k < L.length := by rw [← Hn.out]; exact hlt
        have hkK : k < K.length := by rw [← Hn'.out]; exact hlt
        obtain ⟨ba, oa, rfl, hca⟩ := HA.out.at_ hkL
        obtain ⟨bb, ob, rfl, hcb⟩ := HB.out.at_ hkK
        have hI1 := HA.out.inn k hkL
        have hI2 := HB.out.inn k hkK
        have h1 := HL.out k hkL
        have h2 := HK.out k hkK
        have HX := Lib.hid (dat_getD L k)
        have HY := Lib.hid (dat_getD K k)
        have hki : (k : Int) < (n : Int) := by omega
        have HTS : Hid ((dat L).getD k [] = (dat K).getD k [] → (dat L).take (k + 1) = (dat K).take (k + 1)) := Lib.hid (fun e => list_take_eq (by rw [dat_length]; exact hkL) (by rw [dat_length]; exact hkK) [] HTK.out e)
        have HNE : Hid ((dat L).getD k [] ≠ (dat K).getD k [] → eqLL (dat L) (dat K) = false) := Lib.hid (fun e => eqLL_false (ne_of_getD e))
        rw [HX.out, HY.out] at HTS HNE
        clear HX HY hkL hkK
        generalize rg L k = r at *
        generalize rg K k = s at *
        obtain ⟨rA, rc, rx⟩ := r
        obtain ⟨sA, sc, sx⟩ := s
        simp only at hca hcb hI1 hI2 h1 h2 HTS HNE
        have HEQ := Lib.hid (fun mm => l01Same_any rA sA rx.length sx.length rc sc rx sx (w.drewN mm) rfl rfl (by omega) (by omega) (hI1.drewN mm) (hI2.drewN mm))
        clear hI1 hI2
        cases he : (rx == sx) with
        | true =>
          have HE := Lib.hid (HTS.out (by simpa using he))
          rw [he] at HEQ
          clear he
          have HED : Hid (Calls Try.prog 66 #[.slice rA rx.length rc, .slice sA sx.length sc] (w.drewN m).drew fun e w' => e = .returned (.bool true) ∧ ∃ mm, w.drewN mm = w') := Lib.hid ((HEQ.out (m + 1)).mono fun e w' ⟨h1, mm, h2⟩ => ⟨h1, m + 1 + mm, by rw [← h2, World.drewN_drewN]⟩)
          go_wp2_with fail
          go_region_held3 (fun w' => w'.cell? ⟨ba, oa + k, none⟩ = some (.slice rA rx.length rc) ∧ w'.cell? ⟨bb, ob + k, none⟩ = some (.slice sA sx.length sc))
            (exact ⟨hca, hcb⟩)
            (first | (go_at_call 66; refine HED.out.mono ?_; rintro e w2 ⟨rfl, mm, rfl⟩))
          go_wp2_with fail
          go_roundw
          case rel => exact ⟨k + 1, by go_num, by omega, ⟨_, rfl⟩, HE.out⟩
          case measure => simp [intOf]; omega
        | false =>
          have HE := Lib.hid (HNE.out (by intro h; rw [h] at he; simp at he))
          rw [he] at HEQ
          clear he
          have HED : Hid (Calls Try.prog 66 #[.slice rA rx.length rc, .slice sA sx.length sc] (w.drewN m).drew fun e w' => e = .returned (.bool false) ∧ ∃ mm, w.drewN mm = w') := Lib.hid ((HEQ.out (m + 1)).mono fun e w' ⟨h1, mm, h2⟩ => ⟨h1, m + 1 + mm, by rw [← h2, World.drewN_drewN]⟩)
          go_wp2_with fail
          go_region_held3 (fun w' => w'.cell? ⟨ba, oa + k, none⟩ = some (.slice rA rx.length rc) ∧ w'.cell? ⟨bb, ob + k, none⟩ = some (.slice sA sx.length sc))
            (exact ⟨hca, hcb⟩)
            (first | (go_at_call 66; refine HED.out.mono ?_; rintro e w2 ⟨rfl, mm, rfl⟩))
          go_wp2_with fail
          go_ret
          exact ⟨by rw [HE.out]; rfl, _, rfl⟩
      · have ek : k = n := by omega
        have e1 : dat L = dat K := by
          have h := HTK.out
          rw [ek, List.take_of_length_le (by rw [dat_length, ← Hn.out]; exact Nat.le_refl _), List.take_of_length_le (by rw [dat_length, ← Hn'.out]; exact Nat.le_refl _)] at h
          exact h
        have HE := Lib.hid (eqLL_true e1)
        have hki : ¬ (k : Int) < (n : Int) := by omega
        clear ek e1
        go_wp2_with fail
        go_ret
        exact ⟨by rw [HE.out]; rfl, m, rfl⟩
  · have HE : Hid (eqLL (dat L) (dat K) = false) := Lib.hid (eqLL_false (fun h => hnn (by have := congrArg List.length h; rw [dat_length, dat_length, ← hn, ← hn'] at this; exact this)))
    have hne : ((n : Int) != (n' : Int)) = true := by simpa using (show ¬ (n : Int) = n' by omega)
    clear hA hB hn hn' hl hl' hnn
    go_enter Try.func56, Try.ntmps56
    go_wp2_with fail
    go_ret
    exact ⟨by rw [HE.out]; rfl, 0, rfl⟩
end Go.Proofs.Ytnffpjdlpjkioaa
