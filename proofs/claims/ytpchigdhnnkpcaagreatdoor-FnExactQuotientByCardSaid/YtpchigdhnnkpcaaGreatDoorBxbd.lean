/- results of modules and rows, to be read; the reference's CokernelOfMap · the program's CokernelOfMap (written by mkzt.py) · CokernelOfMap: both sides flattened for mkl3.py (written by mkzv.py) -/
import Derived.Test.YtpchigdhnnkpcaaGreatDoorBxbc
import Derived.Test.YtpchigdhnnkpcaaGreatDoorBxat
import Derived.Test.YtpchigdhnnkpcaaGreatDoorBxaw
import Derived.Test.YtpchigdhnnkpcaaGreatDoorBxav
set_option linter.all false
namespace Go.Proofs.YtpchigdhnnkpcaaGreatDoor
open Go.RowKit

/-- a module and rows of the call's own -/
structure OwnQ (w : World) (B : Nat) (vd : Value) (ds : List Int) (va : Value) (R : List Row) (v3 : Value) (M3 : List Row) : Prop where
  deg : w.ownsRow B 2 1 vd ds.length (iv ds)
  act : OwnR w B va R
  rows : OwnR w B v3 M3
theorem OwnQ.mono {w : World} {B B' : Nat} {vd va v3 : Value} {ds : List Int} {R M3 : List Row} (h : OwnQ w B vd ds va R v3 M3) (hb : B' ≤ B) : OwnQ w B' vd ds va R v3 M3 := ⟨h.deg.mono hb, h.act.mono hb, h.rows.mono hb⟩
theorem OwnQ.later {w w' : World} {B : Nat} {vd va v3 : Value} {ds : List Int} {R M3 : List Row} (h : OwnQ w B vd ds va R v3 M3) (hb : Below w.heap.size w w') : OwnQ w' B vd ds va R v3 M3 := ⟨owns_keeps h.deg (Keeps.of_below hb) (.inr (by simp)), h.act.later hb, h.rows.later hb⟩
def qP (lo hi : Nat) (vd : Value) (ds : List Int) (va : Value) (R : List Row) (v3 : Value) (M3 : List Row) : Piece :=
  ⟨lo, hi, fun w => OwnQ w lo vd ds va R v3 M3 ∧ UpM hi vd va R ∧ UpR hi v3 M3, fun _ _ hs h => ⟨⟨own_same hs h.1.deg h.2.1.1, h.1.act.same hs h.2.1.2, h.1.rows.same hs h.2.2⟩, h.2⟩⟩
section
variable {w0 w w' W x : World} {L : List Piece} {vd va v3 : Value} {ds : List Int} {R M3 : List Row}
theorem Inw.pushQ (h : Inw w0 w L) (hb : Below w.heap.size w w') (ho : OwnQ w' w.heap.size vd ds va R v3 M3) : Inw w0 w' (qP w.heap.size w'.heap.size vd ds va R v3 M3 :: L) :=
  h.push hb _ (Nat.le_refl _) (Nat.le_refl _) ⟨ho, ⟨fun k hk => (ho.deg.lt k hk).2, ho.act.up⟩, ho.rows.up⟩
theorem Inw.q (h : Inw w0 w L) (i : Nat) {lo hi : Nat} (hi' : L[i]? = some (qP lo hi vd ds va R v3 M3)) : OwnQ w lo vd ds va R v3 M3 := (h.get i hi').1
end
/-- the box of a module, and rows, behind a region that draws its order -/
def QOut (W wx : World) (ds : List Int) (E F : List (List Int)) (o8 o9 : Value) : Prop :=
  ∃ (b : Nat) (Ad : Option Addr) (cd : Nat) (A1 : Option Addr) (c1 : Nat) (R : List Row) (A3 : Option Addr) (c3 : Nat) (M3 : List Row) (lo hi : Nat), o8 = .pointer (some ⟨b, 0, none⟩) ∧ o9 = .slice A3 F.length c3 ∧ dat R = E ∧ dat M3 = F ∧
    Inw W wx [boxP b #[.slice Ad ds.length cd, .slice A1 E.length c1] 29, qP lo hi (.slice Ad ds.length cd) ds (.slice A1 E.length c1) R (.slice A3 F.length c3) M3]
section
variable {W x : World} {L : List Piece} {ds : List Int} {E F : List (List Int)} {Ad A1 A3 : Option Addr} {cd c1 c3 lo hi : Nat} {R M3 : List Row}
theorem QOut.alloc (h : Inw W x (qP lo hi (.slice Ad ds.length cd) ds (.slice A1 E.length c1) R (.slice A3 F.length c3) M3 :: L)) (hd : dat R = E) (hd3 : dat M3 = F) :
    QOut W (x.alloc (.cells #[.slice Ad ds.length cd, .slice A1 E.length c1] 29)) ds E F (.pointer (some ⟨x.heap.size, 0, none⟩)) (.slice A3 F.length c3) :=
  ⟨_, Ad, cd, A1, c1, R, A3, c3, M3, lo, hi, rfl, rfl, hd, hd3, (h.sublist (L' := [_]) (List.Sublist.cons_cons _ (List.nil_sublist _))).allocBox _ _⟩
theorem QOut.set {b : Nat} {u v : Value} (h : Inw W x (qP lo hi (.slice Ad ds.length cd) ds (.slice A1 E.length c1) R (.slice A3 F.length c3) M3 :: L)) (i : Nat) (hi' : L[i]? = some (boxP b #[u, v] 29)) (hd : dat R = E) (hd3 : dat M3 = F) :
    QOut W ((x.setCell ⟨b, 0, none⟩ (.slice Ad ds.length cd)).setCell ⟨b, 1, none⟩ (.slice A1 E.length c1)) ds E F (.pointer (some ⟨b, 0, none⟩)) (.slice A3 F.length c3) := by
  have k := h.set2 (i + 1) (by simpa using hi') (.slice Ad ds.length cd) (.slice A1 E.length c1)
  simp only [List.set_cons_succ] at k
  have hil := (List.getElem?_eq_some_iff.1 hi').1
  have hm : boxP b #[.slice Ad ds.length cd, .slice A1 E.length c1] 29 ∈ L.set i (boxP b #[.slice Ad ds.length cd, .slice A1 E.length c1] 29) := List.mem_set hil _
  have k2 := k.sublist (List.Sublist.cons_cons _ (List.singleton_sublist.2 hm))
  exact ⟨b, Ad, cd, A1, c1, R, A3, c3, M3, lo, hi, rfl, rfl, hd, hd3, k2.perm (List.Perm.swap _ _ _)⟩
end
/-- a new module, new rows, and a code, to be read -/
def ResRd (r : (List Int × List (List Int)) × List (List Int) × Int) (w : World) (e : Ending) (w' : World) : Prop :=
  ∃ Ad cd A1 c1 R A3 c3 M3, e = .returned (.tuple #[.agg #[.slice Ad r.1.1.length cd, .slice A1 r.1.2.length c1], .slice A3 r.2.1.length c3, .int .i64 r.2.2]) ∧ dat R = r.1.2 ∧ dat M3 = r.2.1 ∧ OwnQ w' w.heap.size (.slice Ad r.1.1.length cd) r.1.1 (.slice A1 r.1.2.length c1) R (.slice A3 r.2.1.length c3) M3 ∧ Below w.heap.size w w'
theorem eqModQ {w : World} {ds : List Int} {E : List (List Int)} {Ad Ad' A1 A1' : Option Addr} {cd cd' c1 c1' lo lo' : Nat} {R R' M3 : List Row} {v3 : Value} (h1 : OwnM w lo (.slice Ad ds.length cd) ds (.slice A1 E.length c1) R) (e1 : dat R = E) (h2 : OwnQ w lo' (.slice Ad' ds.length cd') ds (.slice A1' E.length c1') R' v3 M3) (e2 : dat R' = E) (hl : ds.length ≤ 1000) (hE : E.length ≤ 10000 ∧ ∀ x ∈ E, x.length ≤ 100) :
    Calls Tryz.prog 15 #[.agg #[.slice Ad ds.length cd, .slice A1 E.length c1], .agg #[.slice Ad' ds.length cd', .slice A1' E.length c1']] w fun e w' => e = .returned (.bool true) ∧ Below w.heap.size w w' := by
  have s1 := rows_small2 e1 hE
  have l1 : E.length = R.length := by rw [← e1, dat_length]
  have l2 : E.length = R'.length := by rw [← e2, dat_length]
  exact eqModule_any _ _ _ _ _ _ _ _ _ _ ds R R' w rfl (by omega) l1 (by omega) (fun i hi => Nat.le_trans (s1.2.2 i hi) (by omega)) (e2.trans e1.symm) (owns_Rd h1.deg) (owns_Rd h2.deg) (h1.act.rd l1) (h2.act.rd l2)
theorem OwnQ.nil (w : World) (B : Nat) : OwnQ w B (.slice none 0 0) [] (.slice none 0 0) [] (.slice none 0 0) [] := ⟨World.ownsRow_nil _ _ _ _, OwnR.nil _ _, OwnR.nil _ _⟩
noncomputable def cokernelOfMapOf (xs : List Int) (L : List Row) (ys : List Int) (M P : List Row) : (List Int × List (List Int)) × List (List Int) × Int :=
  if mapC xs (dat L) ys (dat M) (dat P) = 0 then quotMR ys (dat M) (reduceS ((dat P).map mk)) else (([], []), [], mapC xs (dat L) ys (dat M) (dat P))
theorem image_red {xs ys : List Int} {Q R P : List (List Int)} (h3 : MapP xs Q ys R P) (hs1 : Shp xs Q) (hs2 : Shp ys R) : Red (reduceS (P.map mk)) :=
  red_reduce (fun r hr => sm_of_lt (a := ys.length) (by have := hs2.len; omega) (map_hom h3 hs1 r hr).1)

set_option maxRecDepth 100000 in
set_option maxHeartbeats 8000000 in
theorem specCokernelOfMap' (A A' B B' W : Option Addr) (n c m c' p d q d' k cw : Nat) (xs ys : List Int) (L M P : List Row) (w : World) (hM : ModIn w A n A' m xs L) (hN : ModIn w B p B' q ys M) (hP : RowsIn w W k P) :
    Calls Tryz.prog 31 #[.agg #[.slice A n c, .slice A' m c'], .agg #[.slice B p d, .slice B' q d'], .slice W k cw] w (ResRd (cokernelOfMapOf xs L ys M P) w) := by
  obtain ⟨hb0, hk1, hk2⟩ := box_two w A A' B B' n c m c' p d q d'
  have hk1' := blk_alloc hk1 (.cells #[.slice none 0 0, .slice none 0 0] 29)
  have hk2' := blk_alloc hk2 (.cells #[.slice none 0 0, .slice none 0 0] 29)
  have hk3 := blk_new2 w (.cells #[.slice A n c, .slice A' m c'] 29) (.cells #[.slice B p d, .slice B' q d'] 29) (.cells #[.slice none 0 0, .slice none 0 0] 29)
  have hb0' := hb0.alloc (by simp; omega) (.cells #[.slice none 0 0, .slice none 0 0] 29)
  have HB0 := Lib.hid hb0'
  have HK1 := Lib.hid hk1'
  have HK2 := Lib.hid hk2'
  have HK3 := Lib.hid hk3
  have HCD := Lib.hid (l12Code_any A A' B B' W n c m c' p d q d' k cw xs ys L M P _ (hM.below hb0') (hN.below hb0') (hP.below hb0'))
  have HM := Lib.hid hM
  have HN := Lib.hid hN
  have HP := Lib.hid hP
  clear hb0 hk1 hk2 hk1' hk2' hk3 hb0' hM hN hP
  obtain ⟨x0, x1, xf0, xf1, lx⟩ := blk2cells HK1.out
  obtain ⟨y0, y1, yf0, yf1, ly⟩ := blk2cells HK2.out
  go_enter Tryz.func31, Tryz.ntmps31
  go_wp2_with fail
  refine HCD.out.mono ?_
  rintro e w1 ⟨rfl, hb⟩
  have HB1 := Lib.hid (HB0.out.trans (hb.mono HB0.out.size))
  have HK1a := Lib.hid (blk_kept HK1.out hb)
  have HK2a := Lib.hid (blk_kept HK2.out hb)
  have HK3a := Lib.hid (blk_kept HK3.out hb)
  clear hb x0 x1 xf0 xf1 lx y0 y1 yf0 yf1 ly
  obtain ⟨z0, z1, zf0, zf1, lz⟩ := blk2cells HK3a.out
  rcases Classical.em (mapC xs (dat L) ys (dat M) (dat P) = 0) with h | h
  rotate_left
  · have HF : Hid (cokernelOfMapOf xs L ys M P = (([], []), [], mapC xs (dat L) ys (dat M) (dat P))) := Lib.hid (by unfold cokernelOfMapOf; rw [if_neg h])
    have hcb : (mapC xs (dat L) ys (dat M) (dat P) != 0) = true := by simpa using h
    generalize mapC xs (dat L) ys (dat M) (dat P) = cd at *
    clear h
    go_wp2_with fail
    (try simp only [Exit.inBlock, Exit.then])
    refine ret_mr rfl rfl rfl (blk2set1' (blk2set0' HK3a.out _) _) ?_
    exact ⟨none, 0, none, 0, [], none, 0, [], by rw [HF.out]; rfl, by rw [HF.out]; rfl, by rw [HF.out]; rfl, by rw [HF.out]; exact OwnQ.nil _ _, (HB1.out.setCell (p := ⟨w.heap.size + 1 + 1, 0, none⟩) (by show w.heap.size ≤ w.heap.size + 1 + 1; omega) _).setCell (p := ⟨w.heap.size + 1 + 1, 1, none⟩) (by show w.heap.size ≤ w.heap.size + 1 + 1; omega) _⟩
  obtain ⟨h1, h2, h3⟩ : modB xs (dat L) = true ∧ modB ys (dat M) = true ∧ MapP xs (dat L) ys (dat M) (dat P) := by
    rcases mapC_cases xs (dat L) ys (dat M) (dat P) with h' | h' | ⟨_, h1, h2, h3⟩
    · rw [h'] at h; cases h
    · rw [h'] at h; cases h
    · exact ⟨h1, h2, h3⟩
  have hs1 := (modB_iff.1 h1).shp
  have hs2 := (modB_iff.1 h2).shp
  have hn16 : n ≤ 16 := by rw [HM.out.r.hn]; exact hs1.len
  have hp16 : p ≤ 16 := by rw [HN.out.r.hn]; exact hs2.len
  have hkn : k = n := by rw [HP.out.hk, HM.out.r.hn, ← dat_length]; exact h3.len
  have hk16 : k ≤ 16 := by omega
  clear hkn
  have HTH := Lib.hid (map_hom h3 hs1)
  have HTS : Hid (∀ r ∈ (dat P).map mk, Sm r) := Lib.hid (fun r hr => sm_of_lt (a := ys.length) (by have := hs2.len; omega) (HTH.out r hr).1)
  have HTL : Hid (((dat P).map mk).length = k) := Lib.hid (by rw [List.length_map, dat_length, ← HP.out.hk])
  have HMS := Lib.hid (fun (W' : World) (hb : Below w1.heap.size w1 W') => l12Masks_any p W k cw P W' HP.out.hk HP.out.hk1 (by omega) (by rw [HN.out.r.hn]; exact mapP_vec h3) (HP.out.rd.below (HB1.out.trans (hb.mono HB1.out.size))))
  have HIN := Lib.hid (fun (C : Option Addr) (cc : Nat) (W' : World) (hb : Below w1.heap.size w1 W') (hC : Rd W' C (nv ((dat P).map mk))) => (by
    have h := l12Basis_any B B' C p d q d' k cc ys ((dat P).map mk) W' HN.out.r.hn hp16 hs2.srtL (HN.out.r.deg.below (HB1.out.trans (hb.mono HB1.out.size))) HTL.out.symm (by omega) (by rw [HN.out.r.hn]; exact fun r hr => (HTH.out r hr).1) hC
    rw [byDeg_eq hs2.srtL HTS.out (fun r hr _ => (HTH.out r hr).2)] at h
    exact h))
  obtain ⟨S, hS⟩ : ∃ S, S = reduceS ((dat P).map mk) := ⟨_, rfl⟩
  have HSD : Hid (reduceS ((dat P).map mk) = S) := Lib.hid hS.symm
  have HQU := Lib.hid (fun (C : Option Addr) (cc : Nat) (W' : World) (hb : Below w1.heap.size w1 W') (hC : Rd W' C (nv S)) => l12Quotient_any B B' C p d q d' S.length cc ys M S W' (HN.out.r.below (HB1.out.trans (hb.mono HB1.out.size))) hs2 rfl (by rw [hS]; exact (image_ok h3 hs1 hs2).1) (by rw [hS]; exact fun r hr => ⟨((image_ok h3 hs1 hs2).2 r hr).1, ((image_ok h3 hs1 hs2).2 r hr).2.1⟩) (by rw [hS]; exact image_red h3 hs1 hs2) hC)
  have HF : Hid (cokernelOfMapOf xs L ys M P = quotMR ys (dat M) S) := Lib.hid (by unfold cokernelOfMapOf; rw [if_pos h, HSD.out])
  rw [HSD.out] at HIN
  rw [h]
  clear h h1 h2 h3 hs1 hs2 hS
  clear z0 z1 zf0 zf1 lz
  go_wp2_with fail
  go_cut [10, 11] (fun o10 o11 wx => QOut w1 wx (quoD ys S) (quoA ys (dat M) S) (quotMR ys (dat M) S).2.1 o10 o11)
  case first =>
    have KS := Lib.hid (fun w' (hb : Below w1.heap.size w1 w') => show w'.cell? ⟨w.heap.size + 1, 0, none⟩ = some (.slice B p d) ∧ w'.cell? ⟨w.heap.size + 1, 1, none⟩ = some (.slice B' q d') from by
      obtain ⟨x0, x1, _⟩ := blk2cells (blk_kept HK2a.out hb)
      exact ⟨x0, x1⟩)
    have HJ0 := Lib.hid (Inw.start w1).drew
    have HJz := Lib.hid ((Inw.start w1).allocBox #[.slice none 0 0, .slice none 0 0] 29).drew
    go_region_held3 (fun w' => w'.cell? ⟨w.heap.size + 1, 0, none⟩ = some (.slice B p d) ∧ w'.cell? ⟨w.heap.size + 1, 1, none⟩ = some (.slice B' q d'))
      (first | exact KS.out _ HJ0.out.bel | exact KS.out _ HJz.out.bel | exact KS.out _ HJ1.out.bel | exact KS.out _ HJ2.out.bel | exact KS.out _ HJ3.out.bel | exact KS.out _ (HJ1.out.bel.alloc HJ1.out.bel.size _) | exact KS.out _ (HJ2.out.bel.alloc HJ2.out.bel.size _) | exact KS.out _ (HJ3.out.bel.alloc HJ3.out.bel.size _) | exact KS.out _ ((HJ3.out.bel.setCell hzg _).setCell hzg _))
      (first
        | (go_at_call 42; (first | (with_reducible refine (HMS.out _ HJ0.out.bel).mono ?_) | (with_reducible refine (HMS.out _ HJz.out.bel).mono ?_)); (rintro e x1 ⟨g2, c2, rfl, ho, hb⟩; (first | have HJ1 := Lib.hid (HJ0.out.pushOwn hb ho) | have HJ1 := Lib.hid (HJz.out.pushOwn hb ho)); have HR1 := Lib.hid (owns_Rd ho); clear ho hb))
        | (go_at_call 59; (first | (with_reducible refine (HIN.out _ _ _ HJ1.out.bel HR1.out).mono ?_) | (with_reducible refine (HIN.out _ _ _ (HJ1.out.allocBox #[.slice none 0 0, .slice none 0 0] 29).bel (HR1.out.alloc _)).mono ?_)); (rintro e x2 ⟨v2, rfl, ho, hb⟩; (first | have HJ2 := Lib.hid (HJ1.out.pushOwn hb ho) | have HJ2 := Lib.hid ((HJ1.out.allocBox #[.slice none 0 0, .slice none 0 0] 29).pushOwn hb ho)); obtain ⟨A2, c2', rfl, _⟩ := owns_shape ho; have HR2 := Lib.hid (owns_Rd ho); clear ho hb))
        | (go_at_call 61; (first | (with_reducible refine (HQU.out _ _ _ HJ2.out.bel HR2.out).mono ?_) | (with_reducible refine (HQU.out _ _ _ (HJ2.out.allocBox #[.slice none 0 0, .slice none 0 0] 29).bel (HR2.out.alloc _)).mono ?_)); (rintro e x3 ⟨Ad, cd, A1, c1, R, A3, c3, M3, rfl, ho1, hdR, ho2, hd3, ho3, hb⟩; (first | have HJ3 := Lib.hid (HJ2.out.pushQ hb ⟨ho1, ho2, ho3⟩) | have HJ3 := Lib.hid ((HJ2.out.allocBox #[.slice none 0 0, .slice none 0 0] 29).pushQ hb ⟨ho1, ho2, ho3⟩)); have HDR := Lib.hid hdR; have HD3 := Lib.hid hd3; clear ho1 hdR ho2 hd3 ho3 hb; (try (have hbx := HJ3.out.box 1 rfl; have hzg : w1.heap.size ≤ _ := HJ3.out.lo 1 rfl; have hcc := blk2cells hbx; obtain ⟨zz0, zz1, zz2, zz3, zz4⟩ := hcc; clear hbx)); (try (have hbx := HJ3.out.box 2 rfl; have hzg : w1.heap.size ≤ _ := HJ3.out.lo 2 rfl; have hcc := blk2cells hbx; obtain ⟨zz0, zz1, zz2, zz3, zz4⟩ := hcc; clear hbx)); (try (have hbx := HJ3.out.box 3 rfl; have hzg : w1.heap.size ≤ _ := HJ3.out.lo 3 rfl; have hcc := blk2cells hbx; obtain ⟨zz0, zz1, zz2, zz3, zz4⟩ := hcc; clear hbx)))))
    all_goals go_wp2_with fail
    all_goals go_meet
    all_goals (first | exact QOut.alloc HJ3.out HDR.out HD3.out | exact QOut.set HJ3.out 0 rfl HDR.out HD3.out | exact QOut.set HJ3.out 1 rfl HDR.out HD3.out | exact QOut.set HJ3.out 2 rfl HDR.out HD3.out)
  case rest =>
  obtain ⟨b, Ad, cd, A1, c1, R, A3, c3, M3, lo, hi, rfl, rfl, hdR, hd3, hI⟩ := hcut
  have hlo := hI.lo 1 rfl
  have HQ := Lib.hid ((hI.q 1 rfl).mono hlo)
  have HBw := Lib.hid (HB1.out.trans (hI.bel.mono HB1.out.size))
  have HK3b := Lib.hid (blk_kept HK3a.out hI.bel)
  have HDR := Lib.hid hdR
  have HD3 := Lib.hid hd3
  obtain ⟨y0, y1, yf0, yf1, ly⟩ := blk2cells (hI.box 0 rfl)
  obtain ⟨z0, z1, zf0, zf1, lz⟩ := blk2cells HK3b.out
  clear hdR hd3 hI hlo
  go_wp2_with fail
  (try simp only [Exit.inBlock, Exit.then])
  refine ret_mr rfl rfl rfl (blk2set1' (blk2set0' HK3b.out _) _) ?_
  have h1w := HB1.out.size
  have hk0 := blk2set0' HK3b.out (.slice Ad (quoD ys S).length cd)
  refine ⟨Ad, cd, A1, c1, R, A3, c3, M3, by rw [HF.out]; rfl, by rw [HF.out]; exact HDR.out, by rw [HF.out]; exact HD3.out, ?_, ?_⟩
  · rw [HF.out]
    exact ⟨(own_setBoxZ (k := 1) (own_setBoxZ (k := 0) HQ.out.deg HK3b.out (by decide) _) hk0 (by decide) _).mono h1w, (OwnR.setBoxZ (k := 1) (OwnR.setBoxZ (k := 0) HQ.out.act HK3b.out (by decide) (by decide) _) hk0 (by decide) (by decide) _).mono h1w, (OwnR.setBoxZ (k := 1) (OwnR.setBoxZ (k := 0) HQ.out.rows HK3b.out (by decide) (by decide) _) hk0 (by decide) (by decide) _).mono h1w⟩
  · exact (HBw.out.setCell (p := ⟨w.heap.size + 1 + 1, 0, none⟩) (by show w.heap.size ≤ w.heap.size + 1 + 1; omega) _).setCell (p := ⟨w.heap.size + 1 + 1, 1, none⟩) (by show w.heap.size ≤ w.heap.size + 1 + 1; omega) _
end Go.Proofs.YtpchigdhnnkpcaaGreatDoor

namespace Go.Proofs.YtpchigdhnnkpcaaGreatDoor
open Go.RowKit

set_option maxRecDepth 100000 in
set_option maxHeartbeats 8000000 in
theorem implCokernelOfMap' (A A' B B' W : Option Addr) (n c m c' p d q d' k cw : Nat) (xs ys : List Int) (L M P : List Row) (w : World) (hT : Tab w) (hw : 0 < w.heap.size) (hM : ModIn w A n A' m xs L) (hN : ModIn w B p B' q ys M) (hP : RowsIn w W k P) :
    Calls Tryz.prog 32 #[.agg #[.slice A n c, .slice A' m c'], .agg #[.slice B p d, .slice B' q d'], .slice W k cw] w (ResMR (cokernelOfMapOf xs L ys M P) w) := by
  obtain ⟨hb0, hk1, hk2⟩ := box_two w A A' B B' n c m c' p d q d'
  have hk1' := blk_alloc hk1 (.cells #[.slice none 0 0, .slice none 0 0] 29)
  have hk2' := blk_alloc hk2 (.cells #[.slice none 0 0, .slice none 0 0] 29)
  have hk3 := blk_new2 w (.cells #[.slice A n c, .slice A' m c'] 29) (.cells #[.slice B p d, .slice B' q d'] 29) (.cells #[.slice none 0 0, .slice none 0 0] 29)
  have hb0' := hb0.alloc (by simp; omega) (.cells #[.slice none 0 0, .slice none 0 0] 29)
  have HB0 := Lib.hid hb0'
  have HK1 := Lib.hid hk1'
  have HK2 := Lib.hid hk2'
  have HK3 := Lib.hid hk3
  have HMP := Lib.hid (mapped_any A A' B B' W n c m c' p d q d' k cw xs ys L M P _ (hM.below hb0') (hN.below hb0') (hP.below hb0'))
  have HM := Lib.hid hM
  have HN := Lib.hid hN
  have HP := Lib.hid hP
  have HT := Lib.hid hT
  clear hb0 hk1 hk2 hk1' hk2' hk3 hb0' hM hN hP hT
  obtain ⟨x0, x1, xf0, xf1, lx⟩ := blk2cells HK1.out
  obtain ⟨y0, y1, yf0, yf1, ly⟩ := blk2cells HK2.out
  go_enter Tryz.func32, Tryz.ntmps32
  go_wp2_with fail
  refine HMP.out.mono ?_
  rintro e w1 ⟨ho, hb⟩
  have HB1 := Lib.hid (HB0.out.trans (hb.mono HB0.out.size))
  have HK1a := Lib.hid (blk_kept HK1.out hb)
  have HK2a := Lib.hid (blk_kept HK2.out hb)
  have HK3a := Lib.hid (blk_kept HK3.out hb)
  have hs0 := hb.size
  clear hb x0 x1 xf0 xf1 lx y0 y1 yf0 yf1 ly
  obtain ⟨z0, z1, zf0, zf1, lz⟩ := blk2cells HK3a.out
  rcases ho with ⟨h, g, cap, rfl, ho⟩ | ⟨h, rfl⟩
  · obtain ⟨h1, h2, h3⟩ : modB xs (dat L) = true ∧ modB ys (dat M) = true ∧ MapP xs (dat L) ys (dat M) (dat P) := by
      rcases mapC_cases xs (dat L) ys (dat M) (dat P) with h' | h' | ⟨_, h1, h2, h3⟩
      · rw [h'] at h; cases h
      · rw [h'] at h; cases h
      · exact ⟨h1, h2, h3⟩
    have hs1 := (modB_iff.1 h1).shp
    have hs2 := (modB_iff.1 h2).shp
    have hn16 : n ≤ 16 := by rw [HM.out.r.hn]; exact hs1.len
    have hp16 : p ≤ 16 := by rw [HN.out.r.hn]; exact hs2.len
    have hkn : k = n := by rw [HP.out.hk, HM.out.r.hn, ← dat_length]; exact h3.len
    have hk16 : k ≤ 16 := by omega
    clear hkn
    have hTS : ∀ r ∈ (dat P).map mk, Sm r := fun r hr => sm_of_lt (a := ys.length) (by have := hs2.len; omega) (map_hom h3 hs1 r hr).1
    have hM := HM.out
    have hN := HN.out
    have hP := HP.out
    have hT := HT.out
    have HRC := Lib.hid (fun (C : Option Addr) (cc : Nat) (W' : World) (hb : Below w.heap.size w W') (hC : Rd W' C (nv ((dat P).map mk))) => reduced_any C k cc ((dat P).map mk) W' (hT.below hb hw) (Nat.lt_of_lt_of_le hw hb.size) (by rw [List.length_map, dat_length]; exact hP.hk) (by omega) hTS hC)
    have HPK : Hid (P.length = k) := Lib.hid hP.hk.symm
    obtain ⟨S, hS⟩ : ∃ S, S = reduceS ((dat P).map mk) := ⟨_, rfl⟩
    have HSD : Hid (reduceS ((dat P).map mk) = S) := Lib.hid hS.symm
    have HSL : Hid (S.length ≤ 16) := Lib.hid (by rw [hS]; exact (image_ok h3 hs1 hs2).1)
    have HSQ : Hid (∀ r ∈ S, r ≠ 0 ∧ r < 2 ^ ys.length ∧ ∃ d, Hom ys d r) := Lib.hid (by rw [hS]; exact (image_ok h3 hs1 hs2).2)
    have HSP : Hid (∀ r ∈ S, r ≠ 0 ∧ r < 2 ^ ys.length) := Lib.hid (fun r hr => ⟨(HSQ.out r hr).1, (HSQ.out r hr).2.1⟩)
    have HRD : Hid (Red S) := Lib.hid (by rw [hS]; exact image_red h3 hs1 hs2)
    have HPC := Lib.hid (fun (C : Option Addr) (cc : Nat) (W' : World) (hb : Below w.heap.size w W') (hC : Rd W' C (nv S)) => quotientOf_any B B' C p d q d' S.length cc ys M S W' (hT.below hb hw) (Nat.lt_of_lt_of_le hw hb.size) (hN.below hb) hs2 rfl HSL.out HSP.out HRD.out hC)
    have HF : Hid (cokernelOfMapOf xs L ys M P = quotMR ys (dat M) S) := Lib.hid (by unfold cokernelOfMapOf; rw [if_pos h, HSD.out])
    have HR1 := Lib.hid (owns_Rd ho)
    have KS := Lib.hid (fun w' (hb : Below w1.heap.size w1 w') => show w'.cell? ⟨w.heap.size + 1, 0, none⟩ = some (.slice B p d) ∧ w'.cell? ⟨w.heap.size + 1, 1, none⟩ = some (.slice B' q d') from by
      obtain ⟨x0, x1, _⟩ := blk2cells (blk_kept HK2a.out hb)
      exact ⟨x0, x1⟩)
    have HB_0 := Lib.hid (Below.drew (Below.refl w1.heap.size w1))
    have HW_0 := Lib.hid (HB1.out.trans (HB_0.out.mono HB1.out.size))
    rw [HPK.out]
    clear h h1 h2 h3 hs1 hs2 hM hN hP hT hTS hS ho z0 z1 zf0 zf1 lz
    go_wp2_with fail
    go_region_held3 (fun w' => w'.cell? ⟨w.heap.size + 1, 0, none⟩ = some (.slice B p d) ∧ w'.cell? ⟨w.heap.size + 1, 1, none⟩ = some (.slice B' q d'))
      (first | exact KS.out _ HB_0.out | exact KS.out _ HB_1.out | exact KS.out _ HB_2.out | exact ⟨KS3.out _ _, KS4.out _ _⟩)
      (first
        | (go_at_call 60; (with_reducible refine (HRC.out _ _ _ HW_0.out (HR1.out.below HB_0.out)).mono ?_); (rintro e w2 ⟨v2, rfl, ho, hb⟩; have HO2 := Lib.hid (show w2.ownsRow w1.drew.heap.size 2 1 v2 (reduceS ((dat P).map mk)).length (nv (reduceS ((dat P).map mk))) from ho); rw [HSD.out] at HO2; obtain ⟨A2, c2', rfl, _⟩ := owns_shape HO2.out; have HR2 := Lib.hid (owns_Rd HO2.out); have HB_1 := Lib.hid (HB_0.out.trans (hb.mono HB_0.out.size)); have HW_1 := Lib.hid (HB1.out.trans (HB_1.out.mono HB1.out.size)); clear ho hb))
        | (go_at_call 62; (with_reducible refine (HPC.out _ _ _ HW_1.out HR2.out).mono ?_); (rintro e w3 ⟨v, v3, M3, H, hH, rfl, hmo, hd3, ho3, hb⟩; have HMO := Lib.hid hmo; obtain ⟨Ad, cd, A5, c5, R, rfl, _⟩ := hmo; have HD3 := Lib.hid hd3; have HO3 := Lib.hid ho3; have HB_2 := Lib.hid (HB_1.out.trans (hb.mono HB_1.out.size)); have HZ := Lib.hid (blk_kept HK3a.out HB_2.out); obtain ⟨z0, z1, zf0, zf1, lz⟩ := blk2cells HZ.out; have hx := KS.out _ HB_2.out; have KS3 := Lib.hid (fun (a b : Value) => cell_set2 hx.1 (g := w.heap.size + 1 + 1) (by show w.heap.size + 1 + 1 ≠ w.heap.size + 1; omega) a b); have KS4 := Lib.hid (fun (a b : Value) => cell_set2 hx.2 (g := w.heap.size + 1 + 1) (by show w.heap.size + 1 + 1 ≠ w.heap.size + 1; omega) a b); clear hd3 ho3 hb hx)))
    go_wp2_with fail
    (try simp only [Exit.inBlock, Exit.then])
    refine ret_mr rfl rfl rfl (blk2set1' (blk2set0' HZ.out _) _) ?_
    have hs1 := HB1.out.size
    have hl1 := (blk2cells HK3a.out).2.2.2.2
    have hs2 := HB_1.out.size
    have hkk : Keeps w3 ((w3.setCell ⟨w.heap.size + 1 + 1, 0, none⟩ (.slice Ad (quotMR ys (dat M) S).1.1.length cd)).setCell ⟨w.heap.size + 1 + 1, 1, none⟩ (.slice A5 R.length c5)) [some (w.heap.size + 1 + 1)] := ((Keeps.refl w3 _).setCell (p := ⟨w.heap.size + 1 + 1, 0, none⟩) (by simp) _).setCell (p := ⟨w.heap.size + 1 + 1, 1, none⟩) (by simp) _
    refine ⟨_, _, M3, H, Nat.le_trans hs1 (Nat.le_trans hs2 hH), by rw [HF.out]; rfl, ?_, by rw [HF.out]; exact HD3.out, ?_, ?_⟩
    · rw [HF.out]
      exact (HMO.out.keeps hkk (fun j hj => by
        have : j = w.heap.size + 1 + 1 := by simpa using hj
        left; omega)).mono (show w.heap.size ≤ w2.heap.size by omega)
    · exact HO3.out.keeps hkk (not_in (B := H) (H := w3.heap.size) (fun j hj => by
        have : j = w.heap.size + 1 + 1 := by simpa using hj
        left; omega) fun g hg => HO3.out.out.lt g hg) (fun i hi => not_in (B := H) (H := w3.heap.size) (fun j hj => by
        have : j = w.heap.size + 1 + 1 := by simpa using hj
        left; omega) fun g hg => (HO3.out.inn i hi).lt g hg)
    · exact ((HB1.out.trans (HB_2.out.mono hs1)).setCell (p := ⟨w.heap.size + 1 + 1, 0, none⟩) (by show w.heap.size ≤ w.heap.size + 1 + 1; omega) _).setCell (p := ⟨w.heap.size + 1 + 1, 1, none⟩) (by show w.heap.size ≤ w.heap.size + 1 + 1; omega) _
  · have HF : Hid (cokernelOfMapOf xs L ys M P = (([], []), [], mapC xs (dat L) ys (dat M) (dat P))) := Lib.hid (by unfold cokernelOfMapOf; rw [if_neg h])
    have hcb : (mapC xs (dat L) ys (dat M) (dat P) != 0) = true := by simpa using h
    generalize mapC xs (dat L) ys (dat M) (dat P) = cd at *
    clear h
    go_wp2_with fail
    (try simp only [Exit.inBlock, Exit.then])
    refine ret_mr rfl rfl rfl (blk2set1' (blk2set0' HK3a.out _) _) ?_
    exact ⟨_, .slice none 0 0, [], w.heap.size, Nat.le_refl _, by rw [HF.out]; rfl, by rw [HF.out]; exact ModOutH.nil _ _ _, by rw [HF.out]; rfl, OwnR.nil _ _, (HB1.out.setCell (p := ⟨w.heap.size + 1 + 1, 0, none⟩) (by show w.heap.size ≤ w.heap.size + 1 + 1; omega) _).setCell (p := ⟨w.heap.size + 1 + 1, 1, none⟩) (by show w.heap.size ≤ w.heap.size + 1 + 1; omega) _⟩
end Go.Proofs.YtpchigdhnnkpcaaGreatDoor

namespace Go.Proofs.YtpchigdhnnkpcaaGreatDoor
open Go.RowKit

theorem modC_three (f : Nat → Nat → Nat) (j i : Nat) : ∀ c, ∀ x ∈ modC f j i c, x.length = 3
  | 0, x, h => by cases h
  | c + 1, x, h => by
    unfold modC at h
    rcases List.mem_append.1 h with h | h
    · exact modC_three f j i c x h
    · split at h
      · rw [List.mem_singleton.1 h]; rfl
      · cases h
theorem modI_three (f : Nat → Nat → Nat) (k j : Nat) : ∀ i, ∀ x ∈ modI f k j i, x.length = 3
  | 0, x, h => by cases h
  | i + 1, x, h => by
    unfold modI at h
    rcases List.mem_append.1 h with h | h
    · exact modI_three f k j i x h
    · exact modC_three f j i _ x h
theorem modJ_three (f : Nat → Nat → Nat) (k : Nat) : ∀ j, ∀ x ∈ modJ f k j, x.length = 3
  | 0, x, h => by cases h
  | j + 1, x, h => by
    unfold modJ at h
    rcases List.mem_append.1 h with h | h
    · exact modJ_three f k j x h
    · exact modI_three f k _ _ x h
theorem plen_quot {ys : List Int} {R : List (List Int)} {S : List Nat} (hy : ys.length ≤ 16) : PLen (quotMR ys R S) := by
  have hk := rst_len (pvs S) ys.length
  refine ⟨?_, ⟨?_, fun x hx => ?_⟩, ?_, fun x hx => ?_⟩
  · show (quoD ys S).length ≤ 1000; rw [quoD_len]; omega
  · have h1 := modJ_len (fun j b => told S ys.length (act R (j : Int) (2 ^ (rst (pvs S) ys.length).getD b 0))) (rst (pvs S) ys.length).length 20
    have h2 : (rst (pvs S) ys.length).length * (rst (pvs S) ys.length).length ≤ 16 * 16 := Nat.mul_le_mul (by omega) (by omega)
    show (modJ _ _ 20).length ≤ 10000; omega
  · rw [modJ_three _ _ 20 x hx]; omega
  · show ((quoP ys S).map _).length ≤ 1000; rw [List.length_map, quoP_len]; omega
  · obtain ⟨v, _, rfl⟩ := List.mem_map.1 hx
    rw [bitsL_length]; omega

theorem cokernelOfMapOf_dat {xs ys : List Int} {L L' M M' P P' : List Row} (h1 : dat L' = dat L) (h2 : dat M' = dat M) (h3 : dat P' = dat P) : cokernelOfMapOf xs L' ys M' P' = cokernelOfMapOf xs L ys M P := by unfold cokernelOfMapOf; rw [h1, h2, h3]
theorem cokernelOfMapOf_len (xs : List Int) (L : List Row) (ys : List Int) (M P : List Row) : PLen (cokernelOfMapOf xs L ys M P) := by
  unfold cokernelOfMapOf
  rcases mapC_cases xs (dat L) ys (dat M) (dat P) with h | h | ⟨h, h1, h2, h3⟩
  · rw [if_neg (by rw [h]; decide)]; exact plen_none _
  · rw [if_neg (by rw [h]; decide)]; exact plen_none _
  · rw [if_pos h]
    have hs1 := (modB_iff.1 h1).shp
    have hs2 := (modB_iff.1 h2).shp
    exact plen_quot hs2.len
theorem specCokernelOfMap_any (A0 : Option Addr) (n0 c0 : Nat) (xs0 : List Int) (B0 : Option Addr) (m0 d0 : Nat) (L0 : List Row) (A1 : Option Addr) (n1 c1 : Nat) (xs1 : List Int) (B1 : Option Addr) (m1 d1 : Nat) (L1 : List Row) (A2 : Option Addr) (n2 c2 : Nat) (L2 : List Row) (w : World) (hn0 : n0 = xs0.length) (hs0 : n0 ≤ 1048576) (hR0 : Rd w A0 (iv xs0)) (hm0 : m0 = L0.length) (ht0 : m0 ≤ 1048576) (hl0 : ∀ i, i < L0.length → (rg L0 i).xs.length ≤ 1048576) (hQ0 : RdR w B0 L0) (hn1 : n1 = xs1.length) (hs1 : n1 ≤ 1048576) (hR1 : Rd w A1 (iv xs1)) (hm1 : m1 = L1.length) (ht1 : m1 ≤ 1048576) (hl1 : ∀ i, i < L1.length → (rg L1 i).xs.length ≤ 1048576) (hQ1 : RdR w B1 L1) (hn2 : n2 = L2.length) (hs2 : n2 ≤ 1048576) (hl2 : ∀ i, i < L2.length → (rg L2 i).xs.length ≤ 1048576) (hR2 : RdR w A2 L2) :
    Calls Tryz.prog 31 #[.agg #[.slice A0 n0 c0, .slice B0 m0 d0], .agg #[.slice A1 n1 c1, .slice B1 m1 d1], .slice A2 n2 c2] w (ResRd (cokernelOfMapOf xs0 L0 xs1 L1 L2) w) :=
  specCokernelOfMap' A0 B0 A1 B1 A2 n0 c0 m0 d0 n1 c1 m1 d1 n2 c2 xs0 xs1 L0 L1 L2 w ⟨⟨hn0, hR0, hm0, ht0, hQ0⟩, hs0, hl0⟩ ⟨⟨hn1, hR1, hm1, ht1, hQ1⟩, hs1, hl1⟩ ⟨hn2, hs2, hl2, hR2⟩
theorem implCokernelOfMap_any (A0 : Option Addr) (n0 c0 : Nat) (xs0 : List Int) (B0 : Option Addr) (m0 d0 : Nat) (L0 : List Row) (A1 : Option Addr) (n1 c1 : Nat) (xs1 : List Int) (B1 : Option Addr) (m1 d1 : Nat) (L1 : List Row) (A2 : Option Addr) (n2 c2 : Nat) (L2 : List Row) (w : World) (hT : Tab w) (hw : 0 < w.heap.size) (hn0 : n0 = xs0.length) (hs0 : n0 ≤ 1048576) (hR0 : Rd w A0 (iv xs0)) (hm0 : m0 = L0.length) (ht0 : m0 ≤ 1048576) (hl0 : ∀ i, i < L0.length → (rg L0 i).xs.length ≤ 1048576) (hQ0 : RdR w B0 L0) (hn1 : n1 = xs1.length) (hs1 : n1 ≤ 1048576) (hR1 : Rd w A1 (iv xs1)) (hm1 : m1 = L1.length) (ht1 : m1 ≤ 1048576) (hl1 : ∀ i, i < L1.length → (rg L1 i).xs.length ≤ 1048576) (hQ1 : RdR w B1 L1) (hn2 : n2 = L2.length) (hs2 : n2 ≤ 1048576) (hl2 : ∀ i, i < L2.length → (rg L2 i).xs.length ≤ 1048576) (hR2 : RdR w A2 L2) :
    Calls Tryz.prog 32 #[.agg #[.slice A0 n0 c0, .slice B0 m0 d0], .agg #[.slice A1 n1 c1, .slice B1 m1 d1], .slice A2 n2 c2] w (ResMR (cokernelOfMapOf xs0 L0 xs1 L1 L2) w) :=
  implCokernelOfMap' A0 B0 A1 B1 A2 n0 c0 m0 d0 n1 c1 m1 d1 n2 c2 xs0 xs1 L0 L1 L2 w hT hw ⟨⟨hn0, hR0, hm0, ht0, hQ0⟩, hs0, hl0⟩ ⟨⟨hn1, hR1, hm1, ht1, hQ1⟩, hs1, hl1⟩ ⟨hn2, hs2, hl2, hR2⟩
end Go.Proofs.YtpchigdhnnkpcaaGreatDoor
