/- spanOf · impl.degreesOf · plain: both ways of Margolis counts agree; the action of a sum of words · plain mathematics: reduced rows are in order; a list of rows sorted by pivots is the reduced one · contracts of slices.SortFunc and cmp.Compare, laid at this dump (printed by lay.sh, turned into a template by mksl.py) · own rows beside a span · copies, the span's reduced rows, impl.reduced · impl.reduced · the program's counts, degreesOf, lessCounts · the program's kernel · the reference: HasNoMargolis, free ranks · the program: MargolisCounts, HasNoMargolis -/
import Derived.Test.YtdkmdmpaflgfaaaGreatDoorBxaq
import Derived.Test.YtdkmdmpaflgfaaaGreatDoorBxac
import Derived.Test.YtdkmdmpaflgfaaaGreatDoorBxab
import Derived.Deep.RegionHeld3
import Derived.Test.YtdkmdmpaflgfaaaGreatDoorBxao
import Derived.Shelf.SlSortCmp.NoneTotal
import Derived.Shelf.SlicesG.Cmp
import Derived.Test.YtdkmdmpaflgfaaaGreatDoorProg
import Derived.Deep.Onto
import Derived.Test.YtdkmdmpaflgfaaaGreatDoorBxak
import Derived.Test.YtdkmdmpaflgfaaaGreatDoorBxai
import Derived.Test.YtdkmdmpaflgfaaaGreatDoorBxad
import Derived.Test.YtdkmdmpaflgfaaaGreatDoorBxap
set_option linter.all false
namespace Go.Proofs.YtdkmdmpaflgfaaaGreatDoor
open Go.RowKit

/-- What the two contracts of 'add' say together. -/
def AddRes (L : List (Nat × Nat)) (p : Nat × Nat) : Value := .tuple #[.int .i64 (if (leftN L p).1 = 0 then (leftN L p).2 else 0 : Nat), .bool (decide ((leftN L p).1 ≠ 0))]
theorem add_any (B bs : Nat) (v1 v2 : Value) (L : List (Nat × Nat)) (x y : Nat) (w : World) (hT : Tab w) (hB : 0 < B) (hBw : B ≤ w.heap.size) (hs : SpanAt w B bs v1 v2 L) (hsmall : L.length ≤ 1000000)
    (hx : Sm x) (hy : Sm y) (hg : Good L) :
    Calls Tryz.prog 82 #[.pointer (some ⟨bs, 0, none⟩), .int .i64 x, .int .i64 y] w fun e w' => e = .returned (AddRes L (x, y)) ∧ AddPost w B bs v1 v2 (addL L (x, y)) w' := by
  by_cases h0 : (leftN L (x, y)).1 = 0
  · refine (add_no B bs v1 v2 L x y w hT hs hsmall hx hy hg h0).mono ?_
    rintro e w' ⟨rfl, m, rfl⟩
    refine ⟨by simp [AddRes, h0], Keeps.ofDrewN w m, v1, v2, ?_, .inl rfl, .inl rfl⟩
    unfold addL; rw [if_pos h0]
    exact hs.keeps (Keeps.ofDrewN (S := []) w m) (by simp) (.inr (by simp)) (.inr (by simp))
  · refine (add_yes B bs v1 v2 L x y w hT hB hBw hs hsmall hx hy hg h0).mono ?_
    rintro e w' ⟨rfl, h⟩
    refine ⟨by simp [AddRes, h0], ?_⟩
    unfold addL; rw [if_neg h0]; exact h

theorem AddPost.below {w w' : World} {B bs : Nat} {v1 v2 : Value} {L N : List (Nat × Nat)} (h : AddPost w B bs v1 v2 N w') (hs : SpanAt w B bs v1 v2 L) (hBw : B ≤ w.heap.size) : Below B w w' :=
  h.1.to_below hBw (fun j hj => by
    simp only [List.mem_cons, List.not_mem_nil, or_false] at hj
    rcases hj with hj | hj | hj
    · injection hj with hj; rw [hj]; exact hs.lo
    · exact (hs.own1.lt j hj.symm).1
    · exact (hs.own2.lt j hj.symm).1)

theorem Tab.below {B : Nat} {w w' : World} (h : Tab w) (hb : Below B w w') (hB : 0 < B) : Tab w' := fun j hj => (hb.cell (p := ⟨0, j, none⟩) hB).trans (h j hj)
theorem SpanAt.new (w : World) : SpanAt (w.alloc (.cells #[.slice none 0 0, .slice none 0 0] 97)) w.heap.size w.heap.size (.slice none 0 0) (.slice none 0 0) [] :=
  ⟨heap_alloc_new w _, Nat.le_refl _, World.ownsRow_nil _ _ _ _, World.ownsRow_nil _ _ _ _, .inl rfl⟩

set_option maxHeartbeats 1000000 in
theorem spanOf_any (A : Option Addr) (n c : Nat) (rows : List Nat) (w : World) (hT : Tab w) (hw : 0 < w.heap.size) (hn : n = rows.length) (hsmall : n ≤ 1000000) (hS : ∀ r ∈ rows, Sm r) (hR : Rd w A (nv rows)) :
    Calls Tryz.prog 96 #[.slice A n c] w fun e w' => e = .returned (.pointer (some ⟨w.heap.size, 0, none⟩)) ∧ (∃ v1 v2, SpanAt w' w.heap.size w.heap.size v1 v2 (spanL (zs rows))) ∧ Below w.heap.size w w' := by
  have Hn := Lib.hid hn
  have HR := Lib.hid hR
  have HS := Lib.hid hS
  have HT := Lib.hid hT
  have hsp := SpanAt.new w
  have HSP := Lib.hid hsp
  clear hn hR hS hT hsp
  go_enter Tryz.func96, Tryz.ntmps96
  go_wp2_with fail
  go_loopw [10] (fun i wr => ∃ k : Nat, k ≤ n ∧ i = .int .i64 k ∧ (∃ v1 v2, SpanAt wr w.heap.size w.heap.size v1 v2 (spanL (zs (rows.take k)))) ∧ Below w.heap.size w wr) (fun i _ => n - (intOf i).toNat)
  case atStart => exact ⟨0, by omega, rfl, ⟨_, _, HSP.out⟩, (Below.refl _ _).alloc (Nat.le_refl _) _⟩
  case round =>
    obtain ⟨k, hk, rfl, ⟨v1, v2, hsp⟩, hbel⟩ := hrel
    have hsz : w.heap.size ≤ wr.heap.size := hbel.size
    by_cases hlt : k < n
    · have hkL : k < rows.length := by rw [← Hn.out]; exact hlt
      obtain ⟨b, o, rfl, hc⟩ := (HR.out.below hbel).atN hkL
      have hm : rows.getD k 0 ∈ rows := by simp [List.getD, hkL]
      have g1 := HS.out _ hm
      have e1 : zs (rows.take (k + 1)) = (zs rows).take (k + 1) := by simp [zs, List.map_take]
      have e2 : zs (rows.take k) = (zs rows).take k := by simp [zs, List.map_take]
      have e3 : (zs rows).getD k (0, 0) = (rows.getD k 0, 0) := by simp [zs, List.getD, hkL]
      have Hs : Hid (spanL (zs (rows.take (k + 1))) = addL (spanL (zs (rows.take k))) (rows.getD k 0, 0)) := by
        show _ = _; rw [e1, e2, spanL_take_succ (zs rows) k (by rw [zs_length]; exact hkL), e3]
      have hl := spanL_length_le (zs (rows.take k))
      rw [zs_length, List.length_take] at hl
      have hgd := (spanL_perm (zs (rows.take k)) (fun p hp => by
        obtain ⟨r, hr, rfl⟩ := List.mem_map.1 hp; exact ⟨HS.out r (List.mem_of_mem_take hr), Sm.zero⟩)).2.2
      generalize spanL (zs (rows.take k)) = L at *
      generalize rows.getD k 0 = r at *
      have hp := add_any w.heap.size w.heap.size v1 v2 L r 0 wr (HT.out.below hbel hw) hw hsz hsp (by omega) g1 Sm.zero hgd
      have HP := Lib.hid hp
      have HB := Lib.hid hbel
      have HSQ := Lib.hid hsp
      clear hp hsp hbel hm hgd e1 e2 e3 hl
      go_wp2_with (go_at_call 82; refine HP.out.mono ?_; rintro e w1 ⟨rfl, hpost⟩)
      have HPO := Lib.hid hpost
      clear hpost
      go_roundw
      case rel =>
        obtain ⟨_, u1, u2, hs2, _, _⟩ := HPO.out
        exact ⟨k + 1, by omega, by go_num, ⟨u1, u2, by rw [Hs.out]; exact hs2⟩, HB.out.trans (HPO.out.below HSQ.out hsz)⟩
      case measure => simp [intOf]; omega
    · have ek : rows.take k = rows := List.take_of_length_le (by rw [← Hn.out]; omega)
      rw [ek] at hsp
      have HS' := Lib.hid hsp
      have HB := Lib.hid hbel
      clear hsp hbel
      go_wp2_with fail
      go_ret
      exact ⟨rfl, ⟨v1, v2, HS'.out⟩, HB.out⟩
end Go.Proofs.YtdkmdmpaflgfaaaGreatDoor

namespace Go.Proofs.YtdkmdmpaflgfaaaGreatDoor
open Go.RowKit

def degL (xs : List Int) (S : List Nat) : List Int := S.map fun r => xs.getD (pv r) 0
theorem degL_length (xs : List Int) (S : List Nat) : (degL xs S).length = S.length := by simp [degL]
theorem degL_getD (xs : List Int) {S : List Nat} {k : Nat} (h : k < S.length) : (degL xs S).getD k 0 = xs.getD (pv (S.getD k 0)) 0 := by simp [degL, List.getD, h]
set_option maxRecDepth 100000 in
set_option maxHeartbeats 2000000 in
theorem degreesOf_any (A A' V : Option Addr) (n c m c' k cv : Nat) (xs : List Int) (S : List Nat) (w : World) (hT : Tab w) (hw : 0 < w.heap.size) (hn : n = xs.length) (hsm : n ≤ 1048576) (hk : k = S.length) (hk1 : k ≤ 1048576) (hS : ∀ r ∈ S, r ≠ 0 ∧ Sm r ∧ pv r < n) (hR : Rd w A (iv xs)) (hV : Rd w V (nv S)) :
    Calls Tryz.prog 60 #[.agg #[.slice A n c, .slice A' m c'], .slice V k cv] w fun e w' => ∃ g cap, e = .returned (.slice (some ⟨g, 0, none⟩) k cap) ∧ w'.ownsRow w.heap.size 2 1 (.slice (some ⟨g, 0, none⟩) k cap) k (iv (degL xs S)) ∧ Below w.heap.size w w' := by
  have HR := Lib.hid hR
  have HV := Lib.hid hV
  have Hn := Lib.hid hn
  have Hk := Lib.hid hk
  have HS := Lib.hid hS
  have HT := Lib.hid hT
  have hk0 := blk_new w (.cells #[.slice A n c, .slice A' m c'] 30)
  have hb0 : Below w.heap.size w (w.alloc (.cells #[.slice A n c, .slice A' m c'] 30)) := (Below.refl _ _).alloc (Nat.le_refl _) _
  have hz0 : (w.alloc (.cells #[.slice A n c, .slice A' m c'] 30)).heap.size = w.heap.size + 1 := by simp
  clear hR hV hn hk hS hT
  go_enter Tryz.func60, Tryz.ntmps60
  go_wp2_with fail
  generalize w.alloc (.cells #[.slice A n c, .slice A' m c'] 30) = w0 at *
  have HK0 := Lib.hid hk0
  have HB0 := Lib.hid hb0
  have hs0 : w.heap.size ≤ w0.heap.size := hb0.size
  rw [← hz0]
  clear hk0 hb0 hz0
  go_loopw [5, 11] (fun q i wr => ∃ j g cap : Nat, j ≤ k ∧ i = .int .i64 j ∧ q = .slice (some ⟨g, 0, none⟩) j cap ∧ wr.ownsRow w0.heap.size 2 1 (.slice (some ⟨g, 0, none⟩) j cap) j (iv ((degL xs S).take j)) ∧ Below w0.heap.size w0 wr) (fun _ i _ => k - (intOf i).toNat)
  case atStart => exact ⟨0, w0.heap.size, 0, by omega, rfl, rfl, World.ownsRow_made w0 #[] 0 (Nat.le_refl _) (by decide) (by simp), (Below.refl _ _).alloc (Nat.le_refl _) _⟩
  case round =>
    obtain ⟨j, g, cap, hj, rfl, rfl, hown, hbel⟩ := hrel
    have HO := Lib.hid hown
    have HB := Lib.hid hbel
    have hsz := hbel.size
    by_cases hlt : j < k
    · have hjS : j < S.length := by rw [← Hk.out]; exact hlt
      obtain ⟨b, o, rfl, hc⟩ := (HV.out.below (HB0.out.trans (hbel.mono hs0))).atN hjS
      obtain ⟨p1, p2, p3⟩ := HS.out _ (getD_mem hjS)
      have HTS : Hid ((degL xs S).take (j + 1) = (degL xs S).take j ++ [xs.getD (pv (S.getD j 0)) 0]) := Lib.hid (by
        rw [take_succ_getD (by rw [degL_length]; exact hjS), degL_getD xs hjS])
      generalize S.getD j 0 = r at *
      have hpl : pv r < xs.length := by rw [← Hn.out]; exact p3
      obtain ⟨bx, ox, rfl, hcx⟩ := (HR.out.below HB0.out).atI (k := pv r) hpl
      have HPI := Lib.hid (fun W hT => pivot_any r p1 p2 W hT)
      have KS := Lib.hid (fun w' (hb : Below w0.heap.size w0 w') => show w'.cell? ⟨w.heap.size, 0, none⟩ = some (.slice (some ⟨bx, ox, none⟩) n c) ∧ w'.cell? ⟨bx, ox + pv r, none⟩ = some (.int .i64 (xs.getD (pv r) 0)) from ⟨(blk2cells (blk_kept HK0.out hb)).1, cell_keep hcx hb⟩)
      have HTW := Lib.hid (fun w' (hb : Below w0.heap.size w0 w') => HT.out.below (HB0.out.trans (hb.mono hs0)) hw)
      have HX_0 := Lib.hid (Below.drew HB.out)
      have hpn : ((pv r : Nat) : Int) < (n : Int) := by omega
      generalize xs.getD (pv r) 0 = y at *
      clear hown hbel hjS p1 p2 hpl hcx
      go_wp2_with fail
      go_region_held3 (fun w' => w'.cell? ⟨w.heap.size, 0, none⟩ = some (.slice (some ⟨bx, ox, none⟩) n c) ∧ w'.cell? ⟨bx, ox + pv r, none⟩ = some (.int .i64 y))
        (first | exact KS.out _ HX_0.out | exact KS.out _ (HB.out.alloc hsz _).drew | exact KS.out _ HX_1.out)
        (first
          | (go_at_call 95; (with_reducible refine (HPI.out _ (HTW.out _ HX_0.out)).mono ?_); (rintro e w' ⟨rfl, rfl⟩))
          | (refine step_app1 _ _ _ _ _ etI (by rfl) (by rfl) w0.heap.size (.slice (some ⟨g, 0, none⟩) j cap) j (iv ((degL xs S).take j)) (by rfl) ?_ _ (.int .i64 y) (by rfl) ?_ (by rfl) ?_ ?_ ?_; exact (HO.out.alloc _).drew; exact drew_cell (new_cell _ _ _); omega; (simp; omega); (intro g1 cap1 w1 hown1 hgrow1 hat1 hlt1; have HO1 := Lib.hid hown1; have HX_1 := Lib.hid (below_app2d HB.out hsz HO.out hgrow1); clear hown1 hgrow1 hat1 hlt1)))
      go_wp2_with fail
      go_roundw
      case rel =>
        exact ⟨j + 1, g1, cap1, by omega, by go_num, rfl, by rw [HTS.out, iv_append]; exact HO1.out, HX_1.out⟩
      case measure => simp [intOf]; omega
    · obtain rfl : j = k := by omega
      have he : (degL xs S).take j = degL xs S := List.take_of_length_le (by rw [degL_length, ← Hk.out]; exact Nat.le_refl _)
      rw [he] at HO
      clear hown hbel he
      go_wp2_with fail
      go_ret
      exact ⟨g, cap, rfl, HO.out.mono hs0, HB0.out.trans (HB.out.mono hs0)⟩

end Go.Proofs.YtdkmdmpaflgfaaaGreatDoor

namespace Go.Proofs.YtdkmdmpaflgfaaaGreatDoor

theorem cnt_degL (xs : List Int) (S : List Nat) (d : Int) : cnt (degL xs S) d = (ofDeg xs d S).length := by
  unfold cnt degL ofDeg
  rw [List.countP_map, List.countP_eq_length_filter]; rfl
theorem ker_len {S : List Nat} (hS : ∀ r ∈ S, Sm r) (hl : S.length ≤ 62) : (kerR S).length + rkS S = S.length := by
  obtain ⟨k, hk, hD⟩ := rk_ker _ S rfl hl
  have h1 := (dim_red (kerR_red hS hl)).congr (Q := KerP S) fun z => kerR_sp hS hl z
  rw [h1.unique hD]; exact hk
theorem kerAll_mono {xs : List Int} {F : List Nat} {d k : Nat} (h : d < k) : ∀ r ∈ kerD xs F (d : Int), r ∈ kerAll xs F k := by
  induction k with
  | zero => omega
  | succ k ih =>
    intro r hr
    unfold kerAll
    by_cases e : d = k
    · subst e; exact List.mem_append_right _ hr
    · exact List.mem_append_left _ (ih (by omega) r hr)
section
variable {xs : List Int} {Q : List (List Int)} {F : List Nat} {step : Int}
/-- rows that raise degrees by a step -/
structure StepF (xs : List Int) (F : List Nat) (step : Int) : Prop where
  len : F.length = xs.length
  hom : ∀ i, i < xs.length → Hom xs (xs.getD i 0 + step) (F.getD i 0)
  lt : ∀ r ∈ F, r < 2 ^ xs.length
theorem StepF.sm (h : StepF xs F step) (hs : Shp xs Q) : ∀ r ∈ F, Sm r := fun r hr => hs.sm (h.lt r hr)
theorem StepF.shift (h : StepF xs F step) : ∀ i, i < F.length → Hom (xs.map fun x => x - step) (xs.getD i 0) (F.getD i 0) := fun i hi c hc => by
  rw [h.len] at hi
  obtain ⟨h1, h2⟩ := h.hom i hi c hc
  refine ⟨by rw [List.length_map]; exact h1, ?_⟩
  have : (xs.map fun x => x - step).getD c 0 = xs.getD c 0 - step := by simp [List.getD, h1]
  rw [this, h2]; omega
theorem ker_dim (h : StepF xs F step) (hs : Shp xs Q) (d : Nat) (hd : d ≤ 20) : Dim (Sp (kerD xs F (d : Int))) (ofDeg xs (d : Int) (kerR F)).length := by
  have hF := h.sm hs
  have hn62 : xs.length ≤ 62 := by have := hs.len; omega
  have hKA : ∀ r ∈ kerAll xs F 21, Sm r := fun r hr => by
    obtain ⟨e, _, h1, _⟩ := kerAll_hom hF hn62 r hr
    exact hs.sm h1.lt
  rw [← kerAll_eq hs h.len h.shift hF hs.srtL, ofDeg_byDeg hKA d 21 (by omega)]
  unfold part
  exact (dim_reduce (sm_filter hKA (homB xs (d : Int)))).congr (Q := Sp (kerD xs F (d : Int))) fun v => by
    constructor
    · refine Sp.trans fun r hr => ?_
      obtain ⟨hr1, hr2⟩ := List.mem_filter.1 hr
      obtain ⟨e, _, _, h2⟩ := kerAll_hom hF hn62 r hr1
      exact (kerD_sp hF hn62 (d : Int) r).2 ⟨homB_iff.1 hr2, h2⟩
    · refine Sp.trans fun r hr => .mem (List.mem_filter.2 ⟨kerAll_mono (by omega) r hr, homB_iff.2 ?_⟩)
      exact ((kerD_sp hF hn62 (d : Int) r).1 (.mem hr)).1
/-- the kernel, degree by degree -/
theorem ker_deg (h : StepF xs F step) (hs : Shp xs Q) (d : Nat) (hd : d ≤ 20) : (ofDeg xs (d : Int) (kerR F)).length + rkS (fromT xs F (d : Int) xs.length) = (fromT xs F (d : Int) xs.length).length := by
  have hF := h.sm hs
  have hfs := fromT_sm (xs := xs) hF (d : Int) xs.length
  have hfl : (fromT xs F (d : Int) xs.length).length ≤ 62 := by have := fromT_len xs F (d : Int) xs.length; have := hs.len; omega
  have hD1 := ker_dim h hs d hd
  have hI : (idx xs (d : Int) xs.length).Nodup := idx_nodup xs (d : Int) xs.length
  have hlI : (fromT xs F (d : Int) xs.length).length = (idx xs (d : Int) xs.length).length := by unfold fromT; rw [List.length_map]
  have hD2 : Dim (Sp (kerD xs F (d : Int))) (kerR (fromT xs F (d : Int) xs.length)).length := by
    refine (dim_red (kerR_red hfs hfl)).map (f := kept (idx xs (d : Int) xs.length)) (kept_lin hI) ?_ (fun v hv => ?_) fun w => ?_
    · intro v hv h0
      have hv2 := ((kerR_sp hfs hfl v).1 hv).1
      refine eq_zero_of_tb fun i => ?_
      rcases Nat.lt_or_ge i (idx xs (d : Int) xs.length).length with hi | hi
      · rw [← tb_kept_at hI v hi, h0, tb_zero]
      · exact tb_of_lt hv2 (by rw [hlI]; exact hi)
    · refine hs.sm (lt_of_tb fun m hm => ?_)
      cases hc : tb (kept (idx xs (d : Int) xs.length) v) m with
      | false => rfl
      | true =>
        obtain ⟨i, hi, _, hp⟩ := (tb_kept _ _ _).1 hc
        have := (mem_idx.1 (getD_memP hi 0)).1
        omega
    · exact sp_map (kept_lin hI) w
  rw [hD1.unique hD2]
  exact ker_len hfs hfl
/-- the image, degree by degree -/
theorem img_deg (h : StepF xs F step) (hs : Shp xs Q) (d : Nat) (hd : d ≤ 20) : (ofDeg xs (d : Int) (reduceS F)).length = rkS (fromT xs F ((d : Int) - step) xs.length) := by
  have hF := h.sm hs
  have hh : ∀ r ∈ F, r ≠ 0 → ∃ e : Nat, e < 21 ∧ Hom xs (e : Int) r := fun r hr h0 => by
    obtain ⟨i, hi, rfl⟩ := List.getElem_of_mem hr
    have h1 := h.hom i (by rw [← h.len]; exact hi)
    rw [show F.getD i 0 = F[i] by simp [List.getD, hi]] at h1
    have hp := h1.pv h0 (hF _ hr)
    have h2 := hs.deg _ hp.1
    refine ⟨(xs.getD i 0 + step).toNat, by omega, ?_⟩
    rw [Int.toNat_of_nonneg (by omega)]; exact h1
  rw [← byDeg_eq hs.srtL hF hh, ofDeg_byDeg hF d 21 (by omega)]
  unfold part
  refine (dim_reduce (sm_filter hF _)).unique ((rk_dim _ (fromT xs F ((d : Int) - step) xs.length) rfl (fromT_sm hF _ _)).congr fun v => ?_)
  constructor
  · refine Sp.trans fun r hr => ?_
    obtain ⟨i, hi, rfl⟩ := List.mem_map.1 hr
    obtain ⟨h1, h2⟩ := mem_idx.1 hi
    have h3 := h.hom i h1
    rw [h2, show (d : Int) - step + step = d by omega] at h3
    exact .mem (List.mem_filter.2 ⟨getD_memP (by rw [h.len]; exact h1) 0, homB_iff.2 h3⟩)
  · refine Sp.trans fun r hr => ?_
    obtain ⟨hr1, hr2⟩ := List.mem_filter.1 hr
    by_cases h0 : r = 0
    · rw [h0]; exact .zero
    · obtain ⟨i, hi, rfl⟩ := List.getElem_of_mem hr1
      have hix : i < xs.length := by rw [← h.len]; exact hi
      have e : F.getD i 0 = F[i] := by simp [List.getD, hi]
      have h1 := h.hom i hix
      rw [e] at h1
      have p1 := (h1.pv h0 (hF _ hr1)).2
      have p2 := ((homB_iff.1 hr2).pv h0 (hF _ hr1)).2
      refine .mem (List.mem_map.2 ⟨i, mem_idx.2 ⟨hix, by omega⟩, e⟩)
/-- the counts by kernel and image -/
theorem cntM_law (h : StepF xs F step) (hs : Shp xs Q) (d : Nat) (hd : d ≤ 20) : cntM xs F step (d : Int) = (cnt (degL xs (kerR F)) (d : Int) : Int) - (cnt (degL xs (reduceS F)) (d : Int) : Int) := by
  have hF := h.sm hs
  have h1 := ker_deg h hs d hd
  have h2 := img_deg h hs d hd
  unfold cntM
  rw [cnt_degL, cnt_degL, ← rk_reduce (fromT_sm hF _ _), ← rk_reduce (fromT_sm hF _ _), h2]
  omega
end
/-! ### what words do to degrees -/
theorem wordM_hom {xs : List Int} {Q : List (List Int)} (h : Shp xs Q) {e : Int} {v : Nat} (hv : Hom xs e v) : ∀ u : List Int, Hom xs (e + u.sum) (wordM Q u v)
  | [] => by simpa [wordM] using hv
  | n :: u => by
    have := act_hom h (n := n) (wordM_hom h hv u)
    rw [List.sum_cons, show e + (n + u.sum) = e + u.sum + n by omega]
    exact this
theorem xsumf_hom {α : Type} {xs : List Int} {e : Int} {f : α → Nat} : ∀ {l : List α}, (∀ a ∈ l, Hom xs e (f a)) → Hom xs e (xsumf f l)
  | [], _ => Hom.zero _ _
  | a :: l, h => by
    rw [xsumf_cons]
    exact (h a (List.mem_cons_self ..)).xr (xsumf_hom fun b hb => h b (List.mem_cons_of_mem _ hb))
theorem mact_hom {xs : List Int} {Q : List (List Int)} (h : Shp xs Q) {d e : Int} {T : LL} (hp : ∀ u ∈ sqP d T, IsW d u) {v : Nat} (hv : Hom xs e v) : Hom xs (e + d) (mact Q d T v) :=
  xsumf_hom fun u hu => by
    obtain ⟨r, hr, e2⟩ := hp u hu
    have := wordM_hom h hv u
    rwa [show u.sum = d by rw [e2, lead_deg, hr.deg]] at this
theorem mactF_step {xs : List Int} {Q : List (List Int)} (h : Shp xs Q) {d : Int} {T : LL} (h0 : 0 ≤ d) (hd : d ≤ 63) (hT : As T) (hE : ∀ t ∈ T, Ex d t) : StepF xs (mactF Q d T xs.length) d :=
  ⟨mactF_len _ _ _ _, fun i hi => by rw [mactF_getD _ _ _ hi]; exact mact_hom h (sqP_ok h0 hd hT hE).ws (Hom.pow hi), fun r hr => by
    obtain ⟨i, hi, rfl⟩ := List.mem_map.1 hr
    exact mact_lt h d T (pow_lt_len (List.mem_range.1 hi))⟩
end Go.Proofs.YtdkmdmpaflgfaaaGreatDoor

namespace Go.Proofs.YtdkmdmpaflgfaaaGreatDoor
open Go.RowKit

/-! ### rows under slices.SortFunc -/
/-- a mask that has a pivot -/
def PM := { x : Nat // x ≠ 0 ∧ Sm x }
instance : Inhabited PM := ⟨⟨1, by decide, Sm.one⟩⟩
def encP (x : PM) : Value := .int .i64 (x.1 : Int)
def cfP (x y : PM) : Int := Lib.compareInt ((pv x.1 : Nat) : Int) ((pv y.1 : Nat) : Int)
theorem ltP (x y : PM) : ltOf cfP x y = decide (pv x.1 < pv y.1) := by
  unfold ltOf cfP Lib.compareInt
  by_cases h1 : pv x.1 < pv y.1
  · simp [h1]
  · by_cases h2 : pv y.1 < pv x.1 <;> simp [h1, h2]
theorem swoP : Sort.SWO (ltOf cfP) where
  irrefl x := by rw [ltP]; simp
  trans x y z h1 h2 := by rw [ltP] at *; simp at *; omega
  ntrans x y z h1 h2 := by rw [ltP] at *; simp at *; omega
def pms : (S : List Nat) → (∀ r ∈ S, r ≠ 0 ∧ Sm r) → List PM
  | [], _ => []
  | r :: S, h => ⟨r, h r (List.mem_cons_self ..)⟩ :: pms S (fun s hs => h s (List.mem_cons_of_mem _ hs))
theorem pms_val : ∀ (S : List Nat) (h : ∀ r ∈ S, r ≠ 0 ∧ Sm r), (pms S h).map (·.1) = S
  | [], _ => rfl
  | r :: S, _ => congrArg (r :: ·) (pms_val S _)
theorem enc_val (L : List PM) : L.map encP = nv (L.map (·.1)) := by simp [nv, encP, List.map_map, Function.comp_def]
/-- what the sort leaves is the reduced list -/
theorem sorted_pm {S T : List Nat} {d d' : Array PM} (hS : Red S) (hd : d.toList.map (·.1) = S) (hp : Sort.PermIn 0 d.size d d') (hs : Sort.SortedIn (ltOf cfP) 0 d.size d') (hT : Asc T) (hST : S.Perm T) : d'.toList.map (·.1) = T := by
  obtain ⟨hsz, _, hpm⟩ := hp
  have e1 : (d'.extract 0 d.size).toList = d'.toList := by rw [← hsz]; simp
  have e2 : (d.extract 0 d.size).toList = d.toList := by simp
  rw [e1, e2] at hpm
  have hp1 : (d'.toList.map (·.1)).Perm S := by rw [← hd]; exact hpm.map _
  have hr : Red (d'.toList.map (·.1)) := hS.perm hp1.symm
  refine asc_unique ?_ hT (hp1.trans hST)
  have hnd := hr.off
  rw [List.pairwise_map] at hnd
  unfold Asc
  rw [List.pairwise_map]
  rw [List.pairwise_iff_getElem] at hnd ⊢
  intro i j hi hj hij
  have hne : pv (d'.toList[i]).1 ≠ pv (d'.toList[j]).1 := fun e => by
    have h1 := (hnd i j hi hj hij).1
    have h2 := (d'.toList[i]).2
    rw [← e, tb_pv h2.1 h2.2] at h1; cases h1
  have hlt := hs i j (Nat.zero_le _) hij (by rw [← hsz]; simpa using hj)
  rw [ltP] at hlt
  simp only [Array.length_toList] at hi hj
  rw [getElem!_pos d' j hj, getElem!_pos d' i hi] at hlt
  simp only [Array.getElem_toList] at hne ⊢
  simp at hlt
  omega

/-- a row of the call's own behind the sort -/
theorem sort_own {w : World} {B n cap g q : Nat} {e : TypeId} {xs : List Value} {os : Array Obj} (h : w.ownsRow B e 1 (.slice (some ⟨g, 0, none⟩) n cap) n xs) (d : Array PM) (hd : d.size = n) :
    (sortWorld encP w g 0 q d os).ownsRow B e 1 (.slice (some ⟨g, 0, none⟩) n cap) n (d.toList.map encP) ∧ Keeps w (sortWorld encP w g 0 q d os) [some g] := by
  rcases h.2 with ⟨h0, _⟩ | ⟨g', cap', cur, hv, hb, hg, hc, hm, hs, ht⟩
  · cases h0
  · injection hv with hA _ hcap
    injection hA with hA; injection hA with hA
    subst hA; subst hcap
    have hlt := (Array.getElem?_eq_some_iff.1 hg).1
    have hmod : ∀ k, k < w.heap.size → (sortWorld encP w g 0 q d os).heap[k]? = (w.heap.modify g (Sort.onCells (Sort.putCells encP 0 d)))[k]? := by
      intro k hk
      show ((w.heap.modify g (Sort.onCells (Sort.putCells encP 0 d))) ++ os)[k]? = _
      rw [Array.getElem?_append_left (by simpa using hk)]
    constructor
    · refine ⟨by simp [hd], .inr ⟨g, cap, Sort.putCells encP 0 d cur, rfl, hb, ?_, hc, hm, by simpa [Sort.putCells] using hs, ?_⟩⟩
      · rw [hmod g hlt, Array.getElem?_modify, if_pos rfl, hg]; rfl
      · apply List.ext_getElem?
        intro i
        rw [List.getElem?_take]
        by_cases hi : i < n * 1
        · rw [if_pos hi]
          have hi' : i < d.size := by omega
          have hic : i < cur.size := by omega
          simp only [Sort.putCells, Array.getElem?_toList, Array.getElem?_mapIdx, List.getElem?_map]
          rw [Array.getElem?_eq_getElem hic, Array.getElem?_eq_getElem hi']
          simp only [Option.map_some, Nat.zero_le, true_and, Nat.zero_add, Nat.sub_zero, if_pos hi']
          rw [getElem!_pos d i hi']
        · rw [if_neg hi, List.getElem?_eq_none (by simp; omega)]
    · refine ⟨rfl, rfl, rfl, ?_, ?_⟩
      · show w.heap.size ≤ ((w.heap.modify g (Sort.onCells (Sort.putCells encP 0 d))) ++ os).size
        simp
      · intro k hk hn
        rw [hmod k hk, Array.getElem?_modify, if_neg (fun e => hn (by simp [e]))]
theorem sort_holds {w : World} {B n cap g : Nat} {e : TypeId} {S : List Nat} (hS : ∀ r ∈ S, r ≠ 0 ∧ Sm r) (h : w.ownsRow B e 1 (.slice (some ⟨g, 0, none⟩) n cap) n (nv S)) :
    Sort.Holds encP w g 0 (pms S hS).toArray ∧ (pms S hS).toArray.size = n := by
  have hl : (pms S hS).length = S.length := by have := congrArg List.length (pms_val S hS); simpa using this
  have hn := h.1
  rw [nv_length] at hn
  refine ⟨fun j hj => ?_, by simp [hl]; omega⟩
  have hj' : j < S.length := by rw [← hl]; simpa using hj
  refine ⟨?_, ?_⟩
  · have h1 := h.cells rfl j (encP (pms S hS)[j]!) (by
      have e : nv S = (pms S hS).map encP := by rw [enc_val, pms_val]
      rw [e, List.getElem?_map, List.getElem?_eq_getElem (by omega)]
      rw [getElem!_pos (pms S hS) j (by omega)]; rfl)
    rw [Addr.add_lit] at h1
    rw [h1]
    congr 1
    rw [getElem!_pos _ j (by omega), getElem!_pos _ j hj]
    simp
  · rw [Nat.zero_add]; exact h.frozenAt j
end Go.Proofs.YtdkmdmpaflgfaaaGreatDoor

namespace Go.Proofs
open Go.Shelf
def Tryz.sortL_ren : Go.Shelf.Ren := ⟨fun | 6 => 113 | 15 => 161 | 14 => 160 | 28 => 208 | 29 => 209 | 20 => 200 | 21 => 201 | 22 => 202 | 23 => 203 | 24 => 204 | 25 => 205 | 26 => 206 | 27 => 207 | 46 => 228 | 47 => 229 | 48 => 230 | 49 => 231 | 50 => 232 | 57 => 252 | n => n, fun | 22 => 22 | 24 => 2 | 25 => 124 | 3 => 3 | 39 => 162 | 0 => 0 | 53 => 191 | 55 => 73 | 4 => 4 | 46 => 184 | 45 => 183 | 50 => 188 | 5 => 5 | 9 => 9 | 66 => 202 | 70 => 206 | 76 => 223 | 77 => 224 | n => n, fun | n => n⟩
theorem Tryz.sortL : Go.Proofs.SlLaysF.n6 Tryz.prog Tryz.sortL_ren := {
  mixed := by kernel_rfl
  f6 := ⟨Tryz.f113.name, by decide, Tryz.func113.trans (congrArg some (by kernel_rfl))⟩
  f14 := ⟨Tryz.f160.name, by decide, Tryz.func160.trans (congrArg some (by kernel_rfl))⟩
  f15 := Tryz.func161.trans (congrArg some (by kernel_rfl))
  f20 := ⟨Tryz.f200.name, by decide, Tryz.func200.trans (congrArg some (by kernel_rfl))⟩
  f21 := ⟨Tryz.f201.name, by decide, Tryz.func201.trans (congrArg some (by kernel_rfl))⟩
  f22 := ⟨Tryz.f202.name, by decide, Tryz.func202.trans (congrArg some (by kernel_rfl))⟩
  f23 := ⟨Tryz.f203.name, by decide, Tryz.func203.trans (congrArg some (by kernel_rfl))⟩
  f24 := ⟨Tryz.f204.name, by decide, Tryz.func204.trans (congrArg some (by kernel_rfl))⟩
  f25 := ⟨Tryz.f205.name, by decide, Tryz.func205.trans (congrArg some (by kernel_rfl))⟩
  f26 := ⟨Tryz.f206.name, by decide, Tryz.func206.trans (congrArg some (by kernel_rfl))⟩
  f27 := ⟨Tryz.f207.name, by decide, Tryz.func207.trans (congrArg some (by kernel_rfl))⟩
  f28 := Tryz.func208.trans (congrArg some (by kernel_rfl))
  f29 := Tryz.func209.trans (congrArg some (by kernel_rfl))
  f46 := ⟨Tryz.f228.name, by decide, Tryz.func228.trans (congrArg some (by kernel_rfl))⟩
  f47 := Tryz.func229.trans (congrArg some (by kernel_rfl))
  f48 := Tryz.func230.trans (congrArg some (by kernel_rfl))
  f49 := ⟨Tryz.f231.name, by decide, Tryz.func231.trans (congrArg some (by kernel_rfl))⟩
  f50 := ⟨Tryz.f232.name, by decide, Tryz.func232.trans (congrArg some (by kernel_rfl))⟩
  f57 := ⟨Tryz.f252.name, by decide, Tryz.func252.trans (congrArg some (by kernel_rfl))⟩
  t0 := Tryz.underlying0
  a0 := Tryz.isAgg0
  z0 := Tryz.sizeOf0
  v0 := Tryz.zeroValue0
  t3 := Tryz.underlying3
  a3 := Tryz.isAgg3
  z3 := Tryz.sizeOf3
  v3 := Tryz.zeroValue3
  t4 := Tryz.underlying4
  a4 := Tryz.isAgg4
  z4 := Tryz.sizeOf4
  v4 := Tryz.zeroValue4
  t5 := Tryz.underlying5
  a5 := Tryz.isAgg5
  z5 := Tryz.sizeOf5
  v5 := Tryz.zeroValue5
  t9 := Tryz.underlying9
  a9 := Tryz.isAgg9
  z9 := Tryz.sizeOf9
  v9 := Tryz.zeroValue9
  t22 := Tryz.underlying22
  a22 := Tryz.isAgg22
  z22 := Tryz.sizeOf22
  v22 := Tryz.zeroValue22
  a24 := Tryz.isAgg2
  z24 := Tryz.sizeOf2
  t25 := Tryz.underlying124
  a25 := Tryz.isAgg124
  z25 := Tryz.sizeOf124
  v25 := Tryz.zeroValue124
  t39 := Tryz.underlying162
  a39 := Tryz.isAgg162
  z39 := Tryz.sizeOf162
  v39 := Tryz.zeroValue162
  t45 := Tryz.underlying183
  a45 := Tryz.isAgg183
  z45 := Tryz.sizeOf183
  v45 := Tryz.zeroValue183
  t46 := Tryz.underlying184
  a46 := Tryz.isAgg184
  z46 := Tryz.sizeOf184
  v46 := Tryz.zeroValue184
  t50 := Tryz.underlying188
  a50 := Tryz.isAgg188
  z50 := Tryz.sizeOf188
  v50 := Tryz.zeroValue188
  t53 := Tryz.underlying191
  a53 := Tryz.isAgg191
  z53 := Tryz.sizeOf191
  v53 := Tryz.zeroValue191
  t55 := Tryz.underlying73
  a55 := Tryz.isAgg73
  z55 := Tryz.sizeOf73
  v55 := Tryz.zeroValue73
  t66 := Tryz.underlying202
  a66 := Tryz.isAgg202
  z66 := Tryz.sizeOf202
  v66 := Tryz.zeroValue202
  t70 := Tryz.underlying206
  a70 := Tryz.isAgg206
  z70 := Tryz.sizeOf206
  v70 := Tryz.zeroValue206
  t76 := Tryz.underlying223
  a76 := Tryz.isAgg223
  z76 := Tryz.sizeOf223
  v76 := Tryz.zeroValue223
  t77 := Tryz.underlying224
  a77 := Tryz.isAgg224
  z77 := Tryz.sizeOf224
  v77 := Tryz.zeroValue224 }
def Tryz.cmpL_ren : Go.Shelf.Ren := ⟨fun | 5 => 115 | 7 => 162 | n => n, fun | 22 => 3 | 3 => 3 | 4 => 4 | n => n, fun | n => n⟩
theorem Tryz.cmpL : Go.Proofs.SlLaysC2.n5 Tryz.prog Tryz.cmpL_ren := {
  mixed := by kernel_rfl
  f5 := ⟨Tryz.f115.name, by decide, Tryz.func115.trans (congrArg some (by kernel_rfl))⟩
  f7 := ⟨Tryz.f162.name, by decide, Tryz.func162.trans (congrArg some (by kernel_rfl))⟩
  t3 := Tryz.underlying3
  a3 := Tryz.isAgg3
  z3 := Tryz.sizeOf3
  v3 := Tryz.zeroValue3
  t4 := Tryz.underlying4
  a4 := Tryz.isAgg4
  z4 := Tryz.sizeOf4
  v4 := Tryz.zeroValue4
  t22 := Tryz.underlying3
  a22 := Tryz.isAgg3
  z22 := Tryz.sizeOf3
  v22 := Tryz.zeroValue3 }
end Go.Proofs

namespace Go.Proofs.YtdkmdmpaflgfaaaGreatDoor
open Go.RowKit

theorem own_cast2 {w : World} {B : Nat} {e : TypeId} {v : Value} {n m : Nat} {xs ys : List Value} (h : w.ownsRow B e 1 v n xs) (hn : n = m) (hx : xs = ys) : w.ownsRow B e 1 v m ys := by
  subst hn; subst hx; exact h
theorem nv_snoc2 (xs : List Nat) (x : Nat) : nv xs ++ [.int .i64 (x : Int)] = nv (xs ++ [x]) := by simp [nv]
/-- a span beside an own row -/
theorem span_own_add {w w' : World} {B B' bs m : Nat} {v1 v2 o : Value} {L N : List (Nat × Nat)} {ys : List Value} (hs : SpanAt w B bs v1 v2 L) (ho : w.ownsRow B' 2 1 o m ys) (h1 : o.ownBlock ≠ v1.ownBlock) (h2 : o.ownBlock ≠ v2.ownBlock)
    (hp : AddPost w B bs v1 v2 N w') : w'.ownsRow B' 2 1 o m ys ∧ ∃ u1 u2, SpanAt w' B bs u1 u2 N ∧ o.ownBlock ≠ u1.ownBlock ∧ o.ownBlock ≠ u2.ownBlock := by
  obtain ⟨hk, u1, u2, hs', hu1, hu2⟩ := hp
  have hb := own_ne ho hs.blk (by decide)
  refine ⟨owns_keeps ho hk (.inr ?_), u1, u2, hs', ?_, ?_⟩
  · simp only [List.mem_cons, List.not_mem_nil, or_false, not_or]; exact ⟨hb, h1, h2⟩
  · rcases hu1 with e | ⟨k, e, hk'⟩
    · rw [e]; exact h1
    · intro e'; have := (ho.lt k (e'.trans e)).2; omega
  · rcases hu2 with e | ⟨k, e, hk'⟩
    · rw [e]; exact h2
    · intro e'; have := (ho.lt k (e'.trans e)).2; omega
/-- an append to the own row beside a span -/
theorem span_own_app {w w' : World} {B g bs : Nat} {v1 v2 o : Value} {L : List (Nat × Nat)} {ob : Obj} (hs : SpanAt w B bs v1 v2 L) (hb : o.ownBlock ≠ some bs) (h1 : o.ownBlock ≠ v1.ownBlock) (h2 : o.ownBlock ≠ v2.ownBlock)
    (hg : (w.alloc ob).grownBy w' o.ownBlock) (hat : o.ownBlock = some g ∨ g = (w.alloc ob).heap.size) : SpanAt w' B bs v1 v2 L ∧ some g ≠ v1.ownBlock ∧ some g ≠ v2.ownBlock := by
  refine ⟨hs.keeps (((Keeps.refl w []).alloc ob).trans (Keeps.of_grown hg) (T := [o.ownBlock]) (by simp)) (by simpa using hb.symm) (.inr (by simpa using h1.symm)) (.inr (by simpa using h2.symm)), ?_, ?_⟩
  · rcases hat with h | h
    · rw [← h]; exact h1
    · intro e; have := (hs.own1.lt g e.symm).2; simp at h; omega
  · rcases hat with h | h
    · rw [← h]; exact h2
    · intro e; have := (hs.own2.lt g e.symm).2; simp at h; omega

end Go.Proofs.YtdkmdmpaflgfaaaGreatDoor

namespace Go.Proofs.YtdkmdmpaflgfaaaGreatDoor
open Go.RowKit


/-- the program's comparison of two rows, in every world that holds the table -/
theorem cmp_any (x y : PM) (w : World) (hT : Tab w) : Calls Tryz.prog 114 #[encP x, encP y] w fun e w' => e = .returned (.int .i64 (cfP x y)) ∧ w' = w := by
  have h1 := pivot_any x.1 x.2.1 x.2.2 w hT
  have h2 := pivot_any y.1 y.2.1 y.2.2 w hT
  have hcon := AnyG.cmp_Compare_int Tryz.cmpL (pv x.1 : Nat) (pv y.1 : Nat) w
  change Calls Tryz.prog 115 _ _ _ at hcon
  have H1 := Lib.hid h1
  have H2 := Lib.hid h2
  have H3 := Lib.hid hcon
  clear h1 h2 hcon
  unfold encP cfP
  obtain ⟨x, hx⟩ := x
  obtain ⟨y, hy⟩ := y
  simp only at H1 H2 H3 ⊢
  generalize Lib.compareInt ((pv x : Nat) : Int) ((pv y : Nat) : Int) = r at *
  go_enter Tryz.func114, Tryz.ntmps114
  go_wp2_with (first | (go_at_call 95; (with_reducible refine H1.out.mono ?_); rintro e w' ⟨rfl, rfl⟩) | (go_at_call 95; (with_reducible refine H2.out.mono ?_); rintro e w' ⟨rfl, rfl⟩) | (go_at_call 115; refine H3.out.mono ?_; rintro e w' ⟨rfl, rfl⟩))
  go_ret
  exact ⟨rfl, rfl⟩

theorem tab_sortWorld {w : World} (hT : Tab w) {g off m : Nat} {os : Array Obj} {dk : Array PM} (hg : g ≠ 0) : Tab (sortWorld encP w g off m dk os) := by
  intro j hj
  have h := hT j hj
  have hlt := World.block_lt_of_cell? w _ h
  rw [← h]
  refine World.cell?_of_block ?_
  show ((w.heap.modify g (Sort.onCells (Sort.putCells encP off dk))) ++ os)[0]? = w.heap[0]?
  rw [Array.getElem?_append_left (by simpa using hlt), Array.getElem?_modify, if_neg hg]

set_option maxHeartbeats 1000000 in
/-- (*span).reduced: the rows in order, as a new own row -/
theorem spanReduced_any (B bs : Nat) (v1 v2 : Value) (L : List (Nat × Nat)) (T : List Nat) (w : World) (hTab : Tab w) (hw : 0 < w.heap.size) (hs : SpanAt w B bs v1 v2 L) (hsmall : L.length ≤ 1000000) (hr : Red (r1 L)) (hT : Asc T) (hp : (r1 L).Perm T) :
    Calls Tryz.prog 84 #[.pointer (some ⟨bs, 0, none⟩)] w fun e w' => ∃ v, e = .returned v ∧ w'.ownsRow w.heap.size 2 1 v T.length (nv T) ∧ Below w.heap.size w w' := by
  obtain ⟨A, c, rfl, _, _, _⟩ := owns_shape hs.own1
  have hc := copyOf_any A L.length c (nv (r1 L)) w (by rw [nv_length, r1_length]) (by omega) (nv_one _) (owns_Rd hs.own1)
  obtain ⟨x0, x1, _, _, _⟩ := blk2cells hs.blk
  have hlen : T.length = L.length := by rw [← hp.length_eq, r1_length]
  have HC := Lib.hid hc
  have HLN := Lib.hid hlen
  have HR := Lib.hid hr
  have HA := Lib.hid hT
  have HP := Lib.hid hp
  have HTB := Lib.hid hTab
  clear hc hs hr hT hp hTab hlen
  go_enter Tryz.func84, Tryz.ntmps84
  go_wp2_with fail
  refine HC.out.mono ?_
  rintro e w1 ⟨g, cap, rfl, ho, hb⟩
  have HO := Lib.hid ho
  have HB := Lib.hid hb
  have hg := (ho.lt g rfl)
  have hgw : g < w1.heap.size := hg.2
  have hg0 : g ≠ 0 := by have := hg.1; omega
  have HT1 := Lib.hid (HTB.out.below hb hw)
  clear ho hb hg
  have hne : ∀ r ∈ r1 L, r ≠ 0 ∧ Sm r := HR.out.ne
  by_cases h0 : L.length = 0
  · have hS := fun W => AnyF.slices_SortFunc_none (P := Tryz.prog) (ρ := Tryz.sortL_ren) { Tryz.sortL with } (some ⟨g, 0, none⟩) cap (.func (.func 114) #[] #[]) W
    change ∀ W, Calls Tryz.prog 113 _ _ _ at hS
    have HS := Lib.hid hS
    have hL : L = [] := List.eq_nil_of_length_eq_zero h0
    subst hL
    have hTn : T = [] := List.eq_nil_of_length_eq_zero (by rw [HLN.out]; rfl)
    subst hTn
    clear hS h0 hne
    go_wp2_with (go_at_call 113; refine (HS.out _).mono ?_; rintro e w' ⟨rfl, rfl⟩)
    go_ret
    exact ⟨_, rfl, HO.out, HB.out⟩
  · obtain ⟨hH, hsz⟩ := sort_holds hne HO.out
    have eg : ∀ args w, (callFunc 114 args).run Tryz.prog w = .ok (.enter 114 args) w := enters_of Tryz.func114 (by kernel_rfl) rfl
    have hcr : CmpReads Tryz.prog 114 #[] encP cfP g 0 (pms (r1 L) hne).toArray.size w1 := fun m os dk _ x y => (cmp_any x y _ (tab_sortWorld HT1.out hg0)).mono fun _ _ ⟨he, hw⟩ => ⟨he, 0, by rw [hw]; rfl⟩
    have hS := Any.slices_SortFunc Tryz.sortL encP (fun _ => rfl) cfP swoP 114 #[] g 0 cap (pms (r1 L) hne).toArray w1 eg hcr.lays hH hgw (by rw [hsz]; omega)
    rw [hsz] at hS
    change Calls Tryz.prog 113 _ _ _ at hS
    have HS := Lib.hid hS
    clear hS hcr eg hH
    have hsz' : (pms (r1 L) hne).length = L.length := by simpa using hsz
    clear hsz
    have HSZ := Lib.hid hsz'
    have HNE := Lib.hid hne
    clear h0 hsz'
    go_wp2_with (go_at_call 113; refine HS.out.mono ?_; rintro e w' ⟨rfl, d', q, os, hpm, hst, rfl⟩; have HPM := Lib.hid hpm; have HST := Lib.hid hst; clear hpm hst)
    go_ret
    have hsz : (pms (r1 L) HNE.out).toArray.size = L.length := by simpa using HSZ.out
    have hpm := HPM.out
    have hst := HST.out
    rw [← hsz] at hpm hst
    have hv := sorted_pm (T := T) HR.out (d := (pms (r1 L) HNE.out).toArray) (by simpa using pms_val (r1 L) HNE.out) hpm hst HA.out HP.out
    have hd : d'.size = L.length := by rw [hpm.1]; exact hsz
    obtain ⟨o1, k1⟩ := sort_own HO.out d' hd (q := q) (os := os)
    rw [enc_val, hv] at o1
    refine ⟨_, rfl, own_cast2 o1 HLN.out.symm rfl, HB.out.trans ?_⟩
    exact k1.to_below HB.out.size (fun j hj => by simp only [List.mem_singleton] at hj; injection hj with hj; rw [hj]; exact (HO.out.lt g rfl).1)
end Go.Proofs.YtdkmdmpaflgfaaaGreatDoor

namespace Go.Proofs.YtdkmdmpaflgfaaaGreatDoor
open Go.RowKit

set_option maxHeartbeats 1000000 in
/-- impl.reduced: the reduced rows, as a new own row -/
theorem reduced_any (A : Option Addr) (n c : Nat) (rows : List Nat) (w : World) (hT : Tab w) (hw : 0 < w.heap.size) (hn : n = rows.length) (hsmall : n ≤ 1000000) (hS : ∀ r ∈ rows, Sm r) (hR : Rd w A (nv rows)) :
    Calls Tryz.prog 62 #[.slice A n c] w fun e w' => ∃ v, e = .returned v ∧ w'.ownsRow w.heap.size 2 1 v (reduceS rows).length (nv (reduceS rows)) ∧ Below w.heap.size w w' := by
  have h1 := spanOf_any A n c rows w hT hw hn hsmall hS hR
  have H1 := Lib.hid h1
  have HT := Lib.hid hT
  have hsp := spanL_perm (zs rows) (fun p hp => by obtain ⟨r, hr, rfl⟩ := List.mem_map.1 hp; exact ⟨hS r hr, Sm.zero⟩)
  rw [r1_zs] at hsp
  have HSP := Lib.hid hsp
  have HA := Lib.hid (asc_reduce hS)
  have hl := spanL_length_le (zs rows)
  rw [zs_length, ← hn] at hl
  clear h1 hT hn hS hR hsp
  go_enter Tryz.func62, Tryz.ntmps62
  go_wp2_with fail
  refine H1.out.mono ?_
  rintro e w1 ⟨rfl, ⟨v1, v2, hs⟩, hb⟩
  have h2 := spanReduced_any w.heap.size w.heap.size v1 v2 _ (reduceS rows) w1 (HT.out.below hb hw) (by have := hb.size; omega) hs (by omega) HSP.out.2.1 HA.out HSP.out.1
  have H2 := Lib.hid h2
  have HB := Lib.hid hb
  clear h2 hs hb
  go_wp2_with fail
  refine H2.out.mono ?_
  rintro e w2 ⟨v, rfl, ho, hb⟩
  have HO := Lib.hid ho
  have HB2 := Lib.hid hb
  clear ho hb
  go_wp2_with fail
  go_ret
  exact ⟨v, rfl, HO.out.mono HB.out.size, HB.out.trans (HB2.out.mono HB.out.size)⟩

end Go.Proofs.YtdkmdmpaflgfaaaGreatDoor

namespace Go.Proofs.YtdkmdmpaflgfaaaGreatDoor
open Go.RowKit

set_option maxRecDepth 100000 in
set_option maxHeartbeats 1000000 in
theorem counts_any (A : Option Addr) (n c : Nat) (xs : List Int) (w : World) (hn : n = xs.length) (hsm : n ≤ 1048576) (hd : ∀ i, i < xs.length → 0 ≤ xs.getD i 0 ∧ xs.getD i 0 ≤ 20) (hR : Rd w A (iv xs)) :
    Calls Tryz.prog 59 #[.slice A n c] w fun e w' => ∃ g, e = .returned (.slice (some ⟨g, 0, none⟩) 21 21) ∧ w'.ownsRow w.heap.size 2 1 (.slice (some ⟨g, 0, none⟩) 21 21) 21 (iv (cntL xs)) ∧ Below w.heap.size w w' := by
  have hmk : ∀ w : World, (Instr.makeSlice 22 (.int .i64 21) (.int .i64 21)).run Tryz.prog w = .ok (.slice (some ⟨w.heap.size, 0, none⟩) 21 21) (w.alloc (.cells (madeCells #[.int .i64 0] 21) 2)) := run_make_row' (P := Tryz.prog) 22 2 (.int .i64 0) 8 Tryz.underlying22 infoI rfl .i64 .i64 21 (by omega) (by omega)
  have HO0 := Lib.hid (made_own w w.heap.size 21 (Nat.le_refl _) (by omega))
  have HB0 : Hid (Below w.heap.size w (w.alloc (.cells (madeCells #[.int .i64 0] 21) 2))) := Lib.hid ((Below.refl _ _).alloc (Nat.le_refl _) _)
  have HR := Lib.hid hR
  have Hn := Lib.hid hn
  have HD := Lib.hid hd
  clear hR hn hd
  go_enter Tryz.func59, Tryz.ntmps59
  go_wp2_with fail
  clear hmk
  go_loopw [9] (fun i wr => ∃ k : Nat, k ≤ n ∧ i = .int .i64 k ∧ wr.ownsRow w.heap.size 2 1 (.slice (some ⟨w.heap.size, 0, none⟩) 21 21) 21 (iv (cntL (xs.take k))) ∧ Below w.heap.size w wr) (fun i _ => n - (intOf i).toNat)
  case atStart => exact ⟨0, by omega, rfl, by rw [List.take_zero, cntL_nil]; exact HO0.out, HB0.out⟩
  case round =>
    obtain ⟨k, hk, rfl, hown, hbel⟩ := hrel
    have HO := Lib.hid hown
    have HB := Lib.hid hbel
    by_cases hlt : k < n
    · have hkL : k < xs.length := by rw [← Hn.out]; exact hlt
      obtain ⟨b, o, rfl, hc⟩ := (HR.out.below hbel).atI hkL
      obtain ⟨h0, h1⟩ := HD.out k hkL
      obtain ⟨d, hde⟩ := Int.eq_ofNat_of_zero_le h0
      have hd21 : d < 21 := by omega
      have HST := Lib.hid (cntL_succ hkL hde hd21)
      have hcb := cnt_le (xs.take k) (d : Int)
      rw [List.length_take] at hcb
      rw [hde] at hc
      have hoc := owns_getD hown hd21
      rw [cntL_getD _ hd21] at hoc
      have fz := hown.frozenAt d
      have HSTO := Lib.hid ((World.ownsRow.stored hown d (.int .i64 (((cnt (xs.take k) (d : Int) : Nat) : Int) + 1))).1)
      rw [← iv_set] at HSTO
      have hcn : cnt (xs.take k) (d : Int) ≤ 1048576 := by omega
      generalize cnt (xs.take k) (d : Int) = q at *
      clear hown hbel h0 h1 hde hcb
      go_wp2_with fail
      go_roundw
      case rel => exact ⟨k + 1, by omega, by go_num, by rw [HST.out]; exact HSTO.out, HB.out.setCell (p := ⟨w.heap.size, d, none⟩) (Nat.le_refl _) _⟩
      case measure => simp [intOf]; omega
    · obtain rfl : k = n := by omega
      have he : xs.take k = xs := List.take_of_length_le (by rw [← Hn.out]; exact Nat.le_refl _)
      rw [he] at HO
      clear hown hbel he
      go_wp2_with fail
      go_ret
      exact ⟨w.heap.size, rfl, HO.out, HB.out⟩

/-- the counts, less those of the first k degrees of a list -/
def lessP (xs D : List Int) (k : Nat) : List Int := (List.range 21).map fun (d : Nat) => ((cnt xs (d : Int) : Nat) : Int) - ((cnt (D.take k) (d : Int) : Nat) : Int)
theorem lessP_length (xs D : List Int) (k : Nat) : (lessP xs D k).length = 21 := by simp [lessP]
theorem lessP_getD (xs D : List Int) (k : Nat) {d : Nat} (h : d < 21) : (lessP xs D k).getD d 0 = ((cnt xs (d : Int) : Nat) : Int) - ((cnt (D.take k) (d : Int) : Nat) : Int) := by simp [lessP, List.getD, h]
theorem lessP_zero (xs D : List Int) : lessP xs D 0 = cntL xs := by
  unfold lessP cntL
  apply List.map_congr_left
  intro d _
  rw [List.take_zero]; simp [cnt]
theorem lessP_succ {xs D : List Int} {k d : Nat} (h : k < D.length) (hd : D.getD k 0 = (d : Int)) (h21 : d < 21) : lessP xs D (k + 1) = (lessP xs D k).set d (((cnt xs (d : Int) : Nat) : Int) - ((cnt (D.take k) (d : Int) : Nat) : Int) - 1) := by
  refine list_ext_getD (lessP_length _ _ _) (by rw [List.length_set]; exact lessP_length _ _ _) fun i hi => ?_
  rw [lessP_getD _ _ _ hi, set_getD _ _ _ _ (by rw [lessP_length]; exact h21), lessP_getD _ _ _ hi, cnt_take h, hd]
  by_cases e : i = d
  · subst e; rw [if_pos rfl, if_pos rfl]; omega
  · rw [if_neg (by omega), if_neg e]; rfl
end Go.Proofs.YtdkmdmpaflgfaaaGreatDoor

namespace Go.Proofs.YtdkmdmpaflgfaaaGreatDoor
open Go.RowKit

theorem sm_two {p : Nat} (h : p ≤ 62) : Sm (2 ^ p) := by
  unfold Sm
  have : 2 ^ p ≤ 2 ^ 62 := Nat.pow_le_pow_right (by omega) h
  have e : (2 ^ 62 : Nat) = 4611686018427387904 := by decide
  omega
theorem shl_two {k : Nat} (h : k ≤ 60) : wrap64 ((2 : Int) ^ k) = ((2 ^ k : Nat) : Int) := by
  have h1 : (2 : Nat) ^ k ≤ 2 ^ 60 := Nat.pow_le_pow_right (by omega) h
  have e : (2 ^ 60 : Nat) = 1152921504606846976 := by decide
  have h2 : ((2 ^ k : Nat) : Int) = (2 : Int) ^ k := by rw [Int.natCast_pow]; rfl
  rw [← h2]
  generalize (2 ^ k : Nat) = z at *
  unfold wrap64; omega
set_option maxRecDepth 100000 in
set_option maxHeartbeats 2000000 in
theorem kernel_anyS (A : Option Addr) (n c : Nat) (S : List Nat) (w : World) (hT : Tab w) (hw : 0 < w.heap.size) (hn : n = S.length) (hsmall : n ≤ 60) (hS : ∀ r ∈ S, Sm r) (hR : Rd w A (nv S)) :
    Calls Tryz.prog 61 #[.slice A n c] w fun e w' => ∃ v, e = .returned v ∧ w'.ownsRow w.heap.size 2 1 v (reduceS (kerS S S.length)).length (nv (reduceS (kerS S S.length))) ∧ Below w.heap.size w w' := by
  have HKS := Lib.hid ((kerG_span hS (by omega)).sm (by omega))
  have HSM := Lib.hid (us_sm hS (by omega))
  have Hn := Lib.hid hn
  have HR := Lib.hid hR
  have HS := Lib.hid hS
  have HT := Lib.hid hT
  have HSP0 := Lib.hid (SpanAt.new w)
  clear hn hR hS hT
  go_enter Tryz.func61, Tryz.ntmps61
  go_wp2_with fail
  go_loopw [4, 14] (fun o i wr => ∃ k : Nat, k ≤ n ∧ i = .int .i64 k ∧ wr.ownsRow w.heap.size 2 1 o (kerS S k).length (nv (kerS S k)) ∧
      (∃ v1 v2, SpanAt wr w.heap.size w.heap.size v1 v2 (spanL ((us 0 S).take k)) ∧ o.ownBlock ≠ v1.ownBlock ∧ o.ownBlock ≠ v2.ownBlock) ∧ Below w.heap.size w wr) (fun _ i _ => n - (intOf i).toNat)
  case atStart =>
    refine ⟨0, by omega, rfl, ?_, ⟨_, _, HSP0.out.keeps ((Keeps.refl _ []).alloc _) (by simp) (.inr (by simp)) (.inr (by simp)), by simp [Value.ownBlock], by simp [Value.ownBlock]⟩, ((Below.refl _ _).alloc (Nat.le_refl _) _).alloc (by simp) _⟩
    have := World.ownsRow_made (w.alloc (.cells #[.slice none 0 0, .slice none 0 0] 97)) #[] 0 (base := w.heap.size) (e := 2) (size := 1) (by simp) (by decide) (by simp)
    simp only [World.size_alloc] at this
    exact this
  case round =>
    obtain ⟨k, hk, rfl, hoo, ⟨v1, v2, hsp, hne1, hne2⟩, hbel⟩ := hrel
    have hsz : w.heap.size ≤ wr.heap.size := hbel.size
    have hko := kerOut_length (fun k => spanL ((us 0 S).take k)) S k
    change (kerS S k).length ≤ k at hko
    by_cases hlt : k < n
    · have hkL : k < S.length := by rw [← Hn.out]; exact hlt
      obtain ⟨b, o', rfl, hc⟩ := (HR.out.below hbel).atN hkL
      have hx := HS.out _ (getD_mem hkL)
      have hp2 : Sm (2 ^ k) := by exact sm_two (by omega)
      have Hs : Hid (spanL ((us 0 S).take (k + 1)) = addL (spanL ((us 0 S).take k)) (S.getD k 0, 2 ^ k)) := by
        show _ = _; rw [spanL_take_succ (us 0 S) k (by rw [us_length]; exact hkL), us_getD0 hkL]
      have Hk := Lib.hid (kerS_succ S k)
      have hl := spanL_length_le ((us 0 S).take k)
      rw [List.length_take] at hl
      have hg := (spanL_perm ((us 0 S).take k) (fun p hp => HSM.out p (List.mem_of_mem_take hp))).2.2
      generalize spanL ((us 0 S).take k) = L at *
      generalize kerS S k = O at *
      generalize S.getD k 0 = x at *
      have ha := add_any w.heap.size w.heap.size v1 v2 L x (2 ^ k) wr (HT.out.below hbel hw) hw hsz hsp (by omega) hx hp2 hg
      rw [← shl_two (by omega)] at ha
      have hks : kerStep L (x, 2 ^ k) O = if (leftN L (x, 2 ^ k)).1 = 0 then O ++ [(leftN L (x, 2 ^ k)).2] else O := rfl
      obtain ⟨F, cf, rfl, _, hF, _⟩ := owns_shape hoo
      have HSQ := Lib.hid hsp
      have HOO := Lib.hid hoo
      have HN1 := Lib.hid hne1
      have HN2 := Lib.hid hne2
      have HB := Lib.hid hbel
      by_cases h0 : (leftN L (x, 2 ^ k)).1 = 0
      · have hv : AddRes L (x, 2 ^ k) = .tuple #[.int .i64 ((leftN L (x, 2 ^ k)).2 : Nat), .bool false] := by simp [AddRes, h0]
        rw [hv] at ha
        rw [if_pos h0] at hks
        have HA := Lib.hid ha
        have HKS' := Lib.hid hks
        clear ha hv h0 hks hsp hoo hne1 hne2 hbel hg hF
        generalize (leftN L (x, 2 ^ k)).2 = z at *
        go_wp2_with (first | (go_at_call 82; refine HA.out.mono ?_; (rintro e w3 ⟨rfl, hpost⟩; obtain ⟨q1, u1, u2, q2, q3, q4⟩ := span_own_add HSQ.out HOO.out HN1.out HN2.out hpost; have hb3 := hpost.below HSQ.out hsz; have HQ1 := Lib.hid q1; have HQ2 := Lib.hid q2; have HQ3 := Lib.hid q3; have HQ4 := Lib.hid q4; have HB3 := Lib.hid (HB.out.trans (hb3.mono (Nat.le_refl _))); have hsz3 : w.heap.size ≤ w3.heap.size := HB3.out.size; clear hpost q1 q2 q3 q4 hb3)) | (at_builtin; refine wpList_app1 _ _ _ _ _ etI (by rfl) (by rfl) w.heap.size (.slice F O.length cf) O.length (nv O) (by rfl) ?_ _ (.int .i64 (z : Int)) (by rfl) ?_ (by rfl) ?_ ?_ ?_; exact HQ1.out.alloc _; exact new_cell _ _ _; omega; (simp; omega); (intro g2 cap2 w4 hown2 hgrow2 hat2 hlt2; have HO2' : Hid (w4.ownsRow w.heap.size 2 1 (.slice (some ⟨g2, 0, none⟩) (O.length + 1) cap2) (O.length + 1) (nv (O ++ [z]))) := (by rw [← nv_snoc2]; exact hown2); have HG2 := Lib.hid hgrow2; have HA2 := Lib.hid hat2; clear hown2 hgrow2 hat2 hlt2)))
        go_roundw
        case rel =>
          obtain ⟨t1, t2, t3⟩ := span_own_app HQ2.out (own_ne HQ1.out HQ2.out.blk (by decide)) HQ3.out HQ4.out HG2.out HA2.out
          exact ⟨k + 1, by omega, by go_num, by rw [Hk.out, HKS'.out]; exact own_cast2 HO2'.out (by simp) rfl, ⟨u1, u2, by rw [Hs.out]; exact t1, t2, t3⟩, below_app2 HB3.out hsz3 HQ1.out HG2.out⟩
        case measure => simp [intOf]; omega
      · have hv : AddRes L (x, 2 ^ k) = .tuple #[.int .i64 0, .bool true] := by simp [AddRes, h0]
        rw [hv] at ha
        rw [if_neg h0] at hks
        have HA := Lib.hid ha
        have HKS' := Lib.hid hks
        clear ha hv h0 hks hsp hoo hne1 hne2 hbel hg hF
        go_wp2_with (go_at_call 82; refine HA.out.mono ?_; rintro e w3 ⟨rfl, hpost⟩; have HP := Lib.hid hpost; clear hpost)
        go_roundw
        case rel =>
          obtain ⟨q1, u1, u2, q2, q3, q4⟩ := span_own_add HSQ.out HOO.out HN1.out HN2.out HP.out
          exact ⟨k + 1, by omega, by go_num, by rw [Hk.out, HKS'.out]; exact q1, ⟨u1, u2, by rw [Hs.out]; exact q2, q3, q4⟩, HB.out.trans (HP.out.below HSQ.out hsz)⟩
        case measure => simp [intOf]; omega
    · have ek : k = S.length := by rw [← Hn.out]; omega
      subst ek
      obtain ⟨F, cf, rfl, _, hF, _⟩ := owns_shape hoo
      have hr := reduced_any F (kerS S S.length).length cf (kerS S S.length) wr (HT.out.below hbel hw) (by omega) rfl (by omega) HKS.out (owns_Rd hoo)
      have HRR := Lib.hid hr
      have HB := Lib.hid hbel
      clear hoo hne1 hne2 hsp hbel hF hr
      go_wp2_with fail
      refine HRR.out.mono ?_
      rintro e w2 ⟨v, rfl, ho, hb⟩
      have HO2 := Lib.hid ho
      have HB2 := Lib.hid hb
      clear ho hb
      go_wp2_with fail
      go_ret
      exact ⟨v, rfl, HO2.out.mono hsz, HB.out.trans (HB2.out.mono hsz)⟩

end Go.Proofs.YtdkmdmpaflgfaaaGreatDoor

namespace Go.Proofs.YtdkmdmpaflgfaaaGreatDoor
open Go.RowKit

noncomputable def hasNoOf (xs : List Int) (L : List Row) (s t : Int) : Bool × Int := if (margOf xs L s t).2 = 0 then ((margOf xs L s t).1.all fun x => x == 0, 0) else (false, (margOf xs L s t).2)
theorem hasNoOf_dat {xs : List Int} {L M : List Row} (h : dat M = dat L) (s t : Int) : hasNoOf xs M s t = hasNoOf xs L s t := by unfold hasNoOf; rw [margOf_dat h]
theorem all_zero_iff (ys : List Int) : (ys.all fun x => x == 0) = true ↔ ∀ k, k < ys.length → ys.getD k 0 = 0 := by
  rw [List.all_eq_true]
  constructor
  · intro h k hk
    have := h _ (getD_memP hk 0)
    simpa using this
  · intro h x hx
    obtain ⟨k, hk, rfl⟩ := List.getElem_of_mem hx
    have := h k hk
    simpa [List.getD, hk] using this

set_option maxRecDepth 100000 in
set_option maxHeartbeats 2000000 in
theorem specHasNoMargolis_any (A A' : Option Addr) (n c m c' : Nat) (xs : List Int) (L : List Row) (s t : Int) (w : World) (hM : ModIn w A n A' m xs L) :
    Calls Tryz.prog 25 #[.agg #[.slice A n c, .slice A' m c'], .int .i64 s, .int .i64 t] w (ResB (hasNoOf xs L s t) w) := by
  have HC := Lib.hid (fun W (hb : Below w.heap.size w W) => specMargolisCounts_any A A' n c m c' xs L s t W (hM.below hb))
  have HB0 := Lib.hid ((Below.refl w.heap.size w).alloc (Nat.le_refl _) (.cells #[.slice A n c, .slice A' m c'] 30))
  have HLN := Lib.hid (margOf_len xs L s t)
  have HOF : Hid (hasNoOf xs L s t = if (margOf xs L s t).2 = 0 then ((margOf xs L s t).1.all fun x => x == 0, 0) else (false, (margOf xs L s t).2)) := Lib.hid rfl
  clear hM
  generalize margOf xs L s t = r at *
  obtain ⟨ys, cd⟩ := r
  simp only at HLN HOF
  go_enter Tryz.func25, Tryz.ntmps25
  go_wp2_with fail
  refine (HC.out _ HB0.out).mono ?_
  rintro e w1 ⟨v1, rfl, ho1, hb1⟩
  obtain ⟨A1, c1, rfl, _, _, _⟩ := owns_shape ho1
  have HO1 := Lib.hid ho1
  have HB1 := Lib.hid (HB0.out.trans (hb1.mono HB0.out.size))
  clear ho1 hb1
  by_cases h0 : cd = 0
  · have HE := Lib.hid (HOF.out.trans (if_pos h0))
    subst h0
    have hl := HLN.out
    go_wp2_with fail
    go_loop [10] (fun i => ∃ k : Nat, k ≤ ys.length ∧ i = .int .i64 k ∧ Hid (∀ t, t < k → ys.getD t 0 = 0)) (fun i => ys.length - (intOf i).toNat)
    case atStart => exact ⟨0, Nat.zero_le _, rfl, Lib.hid (fun t ht => by omega)⟩
    case round =>
      obtain ⟨k, hk, rfl, HQ⟩ := hrel
      by_cases hlt : k < ys.length
      · obtain ⟨b, o, rfl, hc⟩ := (owns_Rd HO1.out).atI hlt
        obtain ⟨y, HY⟩ : ∃ y, Hid (y = ys.getD k 0) := ⟨_, Lib.hid rfl⟩
        rw [← HY.out] at hc
        by_cases hy : y = 0
        · have HQ' : Hid (∀ t, t < k + 1 → ys.getD t 0 = 0) := Lib.hid (fun t ht => by
            by_cases e : t = k
            · rw [e, ← HY.out]; exact hy
            · exact HQ.out t (by omega))
          subst hy
          go_wp2_with fail
          go_round
          case rel => exact ⟨k + 1, by omega, by go_num, HQ'⟩
          case measure => simp [intOf]; omega
        · have hyb : (y == 0) = false := by simpa using hy
          have HF : Hid ((ys.all fun x => x == 0) = false) := Lib.hid (by
            cases h : (ys.all fun x => x == 0) with
            | false => rfl
            | true => exact absurd (HY.out.trans ((all_zero_iff ys).1 h k hlt)) hy)
          clear hy
          go_wp2_with fail
          go_ret2
          exact ⟨by rw [HE.out, HF.out]; rfl, HB1.out⟩
      · obtain rfl : k = ys.length := by omega
        have HF := Lib.hid ((all_zero_iff ys).2 HQ.out)
        go_wp2_with fail
        go_ret2
        exact ⟨by rw [HE.out, HF.out]; rfl, HB1.out⟩
  · have HE := Lib.hid (HOF.out.trans (if_neg h0))
    have h0b : (cd == 0) = false := by simpa using h0
    clear h0
    go_wp2_with fail
    go_ret2
    exact ⟨by rw [HE.out]; rfl, HB1.out⟩

/-! ### free ranks -/
def sumN (h : List Int) : Nat := (h.map Int.toNat).sum
noncomputable def frOf (xs : List Int) (L : List Row) (h : List Int) : Int × Int × Int :=
  if modB xs (dat L) = true then (if (topR h).2 = 0 then (((reduceS (mactF (dat L) (degP (topR h).1) [(topR h).1] xs.length)).length : Int), 2 ^ sumN h, 0) else (0, 0, (topR h).2)) else (0, 0, 1)
theorem frOf_dat {xs : List Int} {L M : List Row} (e : dat M = dat L) (h : List Int) : frOf xs M h = frOf xs L h := by unfold frOf; rw [e]
theorem exps_nn {h : List Int} : Nn (exps h) := fun x hx => by
  obtain ⟨y, _, rfl⟩ := List.mem_map.1 hx
  have := pow_posI y.toNat
  omega
theorem two_pow_gt (k : Nat) : (k : Int) + 1 ≤ 2 ^ k := by
  have h1 : k < 2 ^ k := Nat.lt_two_pow_self
  have h3 : ((2 ^ k : Nat) : Int) = (2 : Int) ^ k := by rw [Int.natCast_pow]; rfl
  omega
theorem sumN_deg : ∀ (j : Nat) (h : List Int), (sumN h : Int) ≤ degW j (exps h)
  | j, [] => by simp [sumN, exps, degW]
  | j, x :: h => by
    have ih := sumN_deg (j + 1) h
    have h1 := two_pow_gt x.toNat
    have h2 : (1 : Int) ≤ 2 ^ (j + 1) - 1 := by have := pow_ge1 j; omega
    have h3 := Int.mul_le_mul_of_nonneg_left h2 (show (0 : Int) ≤ 2 ^ x.toNat - 1 by omega)
    simp only [sumN, exps, List.map_cons, List.sum_cons, degW] at ih ⊢
    omega
theorem topR_ok {h : List Int} (h0 : (topR h).2 = 0) : profB h = true ∧ (topR h).1 = topL h ∧ degP (topL h) ≤ 40 ∧ Ex (degP (topL h)) (topL h) ∧ sumN h ≤ 40 := by
  unfold topR at h0 ⊢
  cases hp : profB h with
  | false => rw [hp] at h0; simp at h0
  | true =>
    rw [hp, if_pos rfl] at h0
    rw [if_pos rfl]
    cases hc : closedB h with
    | false => rw [hc] at h0; simp at h0
    | true =>
      rw [hc, if_pos rfl] at h0
      rw [if_pos rfl]
      by_cases h4 : degP (topL h) ≤ 40
      · rw [if_pos h4]
        refine ⟨rfl, rfl, h4, ⟨fun x hx => exps_nn x (mem_trim hx), (trim_split (exps h)).2, degW_P _⟩, ?_⟩
        have h5 : degW 0 (exps h) = degP (topL h) := by rw [← degW_P]; exact (deg_trim 0 (exps h)).symm
        have := sumN_deg 0 h
        omega
      · rw [if_neg h4] at h0; simp at h0
theorem sumN_take (h : List Int) {k : Nat} (hk : k < h.length) : sumN (h.take (k + 1)) = sumN (h.take k) + (h.getD k 0).toNat := by
  unfold sumN
  rw [List.take_succ_eq_append_getElem hk, List.map_append, List.sum_append]
  simp [List.getD, hk]
theorem sumN_take_le (h : List Int) (k : Nat) : sumN (h.take k) ≤ sumN h := by
  conv => rhs; rw [← List.take_append_drop k h]
  unfold sumN
  rw [List.map_append, List.sum_append]; omega
theorem pow_bd40 {k : Nat} (h : k ≤ 50) : (1 : Int) ≤ 2 ^ k ∧ (2 : Int) ^ k ≤ 1125899906842624 := by
  have h1 : 2 ^ k ≤ 2 ^ 50 := Nat.pow_le_pow_right (by omega) h
  have h2 : 1 ≤ 2 ^ k := Nat.one_le_two_pow
  have h3 : ((2 ^ k : Nat) : Int) = (2 : Int) ^ k := by rw [Int.natCast_pow]; rfl
  rw [← h3]; omega
/-- what l13Rank hands back -/
def ResK (r : Int × Int × Int) (w : World) (e : Ending) (w' : World) : Prop := e = .returned (.tuple #[.int .i64 r.1, .int .i64 r.2.1, .int .i64 r.2.2]) ∧ Below w.heap.size w w'

set_option maxRecDepth 100000 in
set_option maxHeartbeats 2000000 in
theorem l13Rank_any (A A' H : Option Addr) (n c m c' k ck : Nat) (xs : List Int) (L : List Row) (h : List Int) (w : World) (hM : ModIn w A n A' m xs L) (hk : k = h.length) (hk1 : k ≤ 1048576) (hH : Rd w H (iv h)) :
    Calls Tryz.prog 64 #[.agg #[.slice A n c, .slice A' m c'], .slice H k ck] w (ResK (frOf xs L h) w) := by
  have HIS := Lib.hid (fun W hb => hM.is c c' W hb)
  have HTP := Lib.hid (fun W (hb : Below w.heap.size w W) => l13Top_any H k ck h W hk hk1 (hH.below hb))
  have HB0 := Lib.hid ((Below.refl w.heap.size w).alloc (Nat.le_refl _) (.cells #[.slice A n c, .slice A' m c'] 30))
  have hwb : (w.alloc (.cells #[.slice A n c, .slice A' m c'] 30)).heap.size = w.heap.size + 1 := by simp
  have KB := Lib.hid (fun w' (hb : Below (w.heap.size + 1) (w.alloc (.cells #[.slice A n c, .slice A' m c'] 30)) w') => blk2cells (blk_below (blk_new w (.cells #[.slice A n c, .slice A' m c'] 30)) hb (by omega)))
  obtain ⟨x0, x1, xf0, xf1, lx⟩ := blk2cells (blk_new w (.cells #[.slice A n c, .slice A' m c'] 30))
  have HWB := Lib.hid hwb
  have HMM := Lib.hid hM
  have HK := Lib.hid hk
  have HH := Lib.hid hH
  have HOF : Hid (frOf xs L h = if modB xs (dat L) = true then (if (topR h).2 = 0 then (((reduceS (mactF (dat L) (degP (topR h).1) [(topR h).1] xs.length)).length : Int), 2 ^ sumN h, 0) else (0, 0, (topR h).2)) else (0, 0, 1)) := Lib.hid rfl
  have HSH := Lib.hid (fun (h : modB xs (dat L) = true) => shp_of h)
  have HTO := Lib.hid (fun (h0 : (topR h).2 = 0) => topR_ok h0)
  clear hM hk hH hwb
  generalize modB xs (dat L) = b at *
  go_enter Tryz.func64, Tryz.ntmps64
  go_wp2_with fail
  refine (HIS.out _ HB0.out).mono ?_
  rintro e w1 ⟨rfl, hb1⟩
  have HB1 := Lib.hid (HB0.out.trans (hb1.mono HB0.out.size))
  have HX1 := Lib.hid (show Below (w.heap.size + 1) (w.alloc (.cells #[.slice A n c, .slice A' m c'] 30)) w1 from by have := HWB.out; rw [← this]; exact hb1)
  clear hb1
  cases b with
  | false =>
    have HE := Lib.hid (HOF.out.trans (if_neg (by simp)))
    go_wp2_with fail
    go_ret3
    exact ⟨by rw [HE.out]; rfl, HB1.out⟩
  | true =>
    have HE := Lib.hid (HOF.out.trans (if_pos rfl))
    have HSHP := Lib.hid (HSH.out rfl)
    go_wp2_with fail
    refine (HTP.out _ HB1.out).mono ?_
    rintro e w2 ⟨v2, rfl, ho2, hb2⟩
    obtain ⟨A2, c2, rfl, _, _, _⟩ := owns_shape ho2
    have HO2 := Lib.hid ho2
    have hs1 : w.heap.size + 1 ≤ w1.heap.size := by have := HX1.out.size; have := HWB.out; omega
    have HX2 := Lib.hid (HX1.out.trans (hb2.mono hs1))
    have HB2 := Lib.hid (HB1.out.trans (hb2.mono HB1.out.size))
    clear ho2 hb2
    by_cases h0 : (topR h).2 = 0
    · have HE2 := Lib.hid (HE.out.trans (if_pos h0))
      obtain ⟨hp, ht, h40, hex, hsn⟩ := HTO.out h0
      have HT := Lib.hid ht
      have HEX := Lib.hid hex
      have H40 := Lib.hid h40
      have HPB := Lib.hid ((profB_iff h).1 hp)
      have H0 := Lib.hid h0
      rw [h0]
      rw [ht] at HO2 HE2 ⊢
      obtain ⟨y0, y1, yf0, yf1, ly⟩ := KB.out w2 HX2.out
      clear x0 x1 xf0 xf1 lx ht h0 hp h40 hex
      go_wp2_with fail
      go_loop [9, 10] (fun v9 v10 => ∃ q : Nat, q ≤ k ∧ v10 = .int .i64 q ∧ v9 = .int .i64 (2 ^ sumN (h.take q))) (fun _ v10 => k - (intOf v10).toNat)
      case atStart => exact ⟨0, Nat.zero_le _, rfl, rfl⟩
      case round =>
        obtain ⟨q, hq, rfl, rfl⟩ := hrel
        by_cases hlt : q < k
        · have hqh : q < h.length := by rw [← HK.out]; exact hlt
          obtain ⟨bh, oh, rfl, hch⟩ := (HH.out.below HB2.out).atI hqh
          have HST := Lib.hid (sumN_take h hqh)
          have hle := sumN_take_le h (q + 1)
          have hin := HPB.out.2 q hqh
          unfold inB at hin
          simp only [Bool.and_eq_true, decide_eq_true_eq] at hin
          obtain ⟨hi1, hi2⟩ := hin
          rw [HST.out] at hle
          generalize h.getD q 0 = x at *
          obtain ⟨u, rfl⟩ : ∃ u : Nat, x = (u : Int) := ⟨x.toNat, by omega⟩
          rw [Int.toNat_natCast] at HST hle
          generalize sumN (h.take q) = a at *
          obtain ⟨p1, p2⟩ := pow_bd40 (k := a) (by omega)
          obtain ⟨p3, p4⟩ := pow_bd40 (k := a + u) (by omega)
          rw [Int.pow_add] at p3 p4
          go_wp2_with fail
          go_round
          case rel => exact ⟨q + 1, by omega, by go_num, by rw [HST.out, Int.pow_add]⟩
          case measure => simp [intOf]; omega
        · obtain rfl : q = k := by omega
          have hte : h.take q = h := List.take_of_length_le (by rw [← HK.out]; exact Nat.le_refl _)
          rw [hte]
          have HRW := Lib.hid (l13Rows_any (degP (topL h)) H40.out A A' (some ⟨w2.heap.size, 0, none⟩) n c m c' 1 1 xs L [⟨A2, c2, topL h⟩] (w2.alloc (.cells #[.slice A2 (topL h).length c2] 22)) HMM.out.r.hn HMM.out.r.hm HSHP.out HMM.out.r.hm1 rfl (by omega) (by omega) (one_as _) (one_ex HEX.out) ((HMM.out.r.act.below HB2.out).alloc _) (RdY.one (owns_Rd HO2.out) (owns_cap HO2.out) (rowY rfl HO2.out)).rd)
          have HSM : Hid (∀ r ∈ mactF (dat L) (degP (topL h)) [topL h] n, Sm r) := Lib.hid (fun r hr => by
            obtain ⟨i, hi, rfl⟩ := List.mem_map.1 hr
            exact HSHP.out.sm (mact_lt HSHP.out _ _ (pow_lt_len (by rw [← HMM.out.r.hn]; exact List.mem_range.1 hi))))
          have HFL := Lib.hid (mactF_len (dat L) (degP (topL h)) [topL h] n)
          have hn16 : n ≤ 16 := by rw [HMM.out.r.hn]; exact HSHP.out.len
          have HNX := Lib.hid HMM.out.r.hn
          have HE3 := HE2.out
          rw [← HMM.out.r.hn] at HE3
          have HE4 := Lib.hid HE3
          clear HE3 HE2 HE HOF hte
          have hdt : dat [(⟨A2, c2, topL h⟩ : Row)] = [topL h] := rfl
          rw [hdt] at HRW
          generalize mactF (dat L) (degP (topL h)) [topL h] n = F at *
          clear hdt
          go_wp2_with fail
          refine HRW.out.mono ?_
          rintro e w3 ⟨v3, rfl, ho3, hb3⟩
          obtain ⟨A3, c3, rfl, _, _, _⟩ := owns_shape ho3
          have HO3 := Lib.hid ho3
          have HB3 := Lib.hid (HB2.out.trans ((((Below.refl w2.heap.size w2).alloc (Nat.le_refl _) (.cells #[.slice A2 (topL h).length c2] 22)).trans (hb3.mono (by simp))).mono HB2.out.size))
          clear ho3 hb3
          go_wp2_with fail
          refine (reduce_any A3 n c3 F w3 HFL.out.symm (by omega) HSM.out (owns_Rd HO3.out)).mono ?_
          rintro e w4 ⟨v4, rfl, ho4, hb4⟩
          obtain ⟨A4, c4, rfl, _, _, _⟩ := owns_shape ho4
          have HB4 := Lib.hid (HB3.out.trans (hb4.mono HB3.out.size))
          clear ho4 hb4
          go_wp2_with fail
          go_ret3
          exact ⟨by rw [HE4.out]; rfl, HB4.out⟩
    · have HE2 := Lib.hid (HE.out.trans (if_neg h0))
      generalize (topR h).2 = cd at *
      have h0b : (cd == 0) = false := by simpa using h0
      clear h0
      go_wp2_with fail
      go_ret3
      exact ⟨by rw [HE2.out]; rfl, HB2.out⟩

set_option maxRecDepth 100000 in
theorem specFreeRankOver_any (A A' H : Option Addr) (n c m c' k ck : Nat) (xs : List Int) (L : List Row) (h : List Int) (w : World) (hM : ModIn w A n A' m xs L) (hk : k = h.length) (hk1 : k ≤ 1048576) (hH : Rd w H (iv h)) :
    Calls Tryz.prog 27 #[.agg #[.slice A n c, .slice A' m c'], .slice H k ck] w (ResI ((frOf xs L h).1, (frOf xs L h).2.2) w) := by
  have HC := Lib.hid (fun W (hb : Below w.heap.size w W) => l13Rank_any A A' H n c m c' k ck xs L h W (hM.below hb) hk hk1 (hH.below hb))
  have HB0 := Lib.hid ((Below.refl w.heap.size w).alloc (Nat.le_refl _) (.cells #[.slice A n c, .slice A' m c'] 30))
  clear hM hk hH
  generalize frOf xs L h = r at *
  go_enter Tryz.func27, Tryz.ntmps27
  go_wp2_with fail
  refine (HC.out _ HB0.out).mono ?_
  rintro e w1 ⟨rfl, hb1⟩
  have HB1 := Lib.hid (HB0.out.trans (hb1.mono HB0.out.size))
  clear hb1
  go_wp2_with fail
  go_ret2
  exact ⟨rfl, HB1.out⟩
noncomputable def isFreeOf (xs : List Int) (L : List Row) (h : List Int) : Bool × Int := if (frOf xs L h).2.2 = 0 then ((frOf xs L h).1 * (frOf xs L h).2.1 == (xs.length : Int), 0) else (false, (frOf xs L h).2.2)
theorem frOf_bd (xs : List Int) (L : List Row) (h : List Int) : 0 ≤ (frOf xs L h).1 ∧ (frOf xs L h).1 ≤ 16 ∧ 0 ≤ (frOf xs L h).2.1 ∧ (frOf xs L h).2.1 ≤ 1125899906842624 := by
  unfold frOf
  split
  · rename_i hm
    split
    · rename_i h0
      obtain ⟨_, _, _, _, h5⟩ := topR_ok h0
      obtain ⟨p1, p2⟩ := pow_bd40 (k := sumN h) (by omega)
      have hs := shp_of hm
      have h6 : (reduceS (mactF (dat L) (degP (topR h).1) [(topR h).1] xs.length)).length ≤ xs.length := by
        have := reduceS_len_le (S := mactF (dat L) (degP (topR h).1) [(topR h).1] xs.length) (fun r hr => by
          obtain ⟨i, hi, rfl⟩ := List.mem_map.1 hr
          exact hs.sm (mact_lt hs _ _ (pow_lt_len (List.mem_range.1 hi))))
        rwa [mactF_len] at this
      have := hs.len
      exact ⟨by simp, by simp only; omega, by simp only; omega, p2⟩
    · exact ⟨by simp, by simp, by simp, by simp⟩
  · exact ⟨by simp, by simp, by simp, by simp⟩
set_option maxRecDepth 100000 in
theorem specIsFreeOver_any (A A' H : Option Addr) (n c m c' k ck : Nat) (xs : List Int) (L : List Row) (h : List Int) (w : World) (hM : ModIn w A n A' m xs L) (hk : k = h.length) (hk1 : k ≤ 1048576) (hH : Rd w H (iv h)) :
    Calls Tryz.prog 30 #[.agg #[.slice A n c, .slice A' m c'], .slice H k ck] w (ResB (isFreeOf xs L h) w) := by
  have HC := Lib.hid (fun W (hb : Below w.heap.size w W) => l13Rank_any A A' H n c m c' k ck xs L h W (hM.below hb) hk hk1 (hH.below hb))
  have HB0 := Lib.hid ((Below.refl w.heap.size w).alloc (Nat.le_refl _) (.cells #[.slice A n c, .slice A' m c'] 30))
  have hwb : (w.alloc (.cells #[.slice A n c, .slice A' m c'] 30)).heap.size = w.heap.size + 1 := by simp
  have KB := Lib.hid (fun w' (hb : Below (w.heap.size + 1) (w.alloc (.cells #[.slice A n c, .slice A' m c'] 30)) w') => blk2cells (blk_below (blk_new w (.cells #[.slice A n c, .slice A' m c'] 30)) hb (by omega)))
  have HWB := Lib.hid hwb
  have HBD := Lib.hid (frOf_bd xs L h)
  have HOF : Hid (isFreeOf xs L h = if (frOf xs L h).2.2 = 0 then ((frOf xs L h).1 * (frOf xs L h).2.1 == (xs.length : Int), 0) else (false, (frOf xs L h).2.2)) := Lib.hid rfl
  have Hn := Lib.hid hM.r.hn
  have hnb := hM.hsm
  clear hM hk hH hwb
  generalize frOf xs L h = r at *
  obtain ⟨a, b, cd⟩ := r
  simp only at HBD HOF
  rw [← Hn.out] at HOF
  go_enter Tryz.func30, Tryz.ntmps30
  go_wp2_with fail
  refine (HC.out _ HB0.out).mono ?_
  rintro e w1 ⟨rfl, hb1⟩
  have HB1 := Lib.hid (HB0.out.trans (hb1.mono HB0.out.size))
  obtain ⟨y0, y1, yf0, yf1, ly⟩ := KB.out w1 (show Below (w.heap.size + 1) (w.alloc (.cells #[.slice A n c, .slice A' m c'] 30)) w1 from by have := HWB.out; rw [← this]; exact hb1)
  clear hb1
  by_cases h0 : cd = 0
  · have HE := Lib.hid (HOF.out.trans (if_pos h0))
    subst h0
    obtain ⟨a1, a2, b1, b2⟩ := HBD.out
    have m1 : 0 ≤ a * b := Int.mul_nonneg a1 b1
    have m2 : a * b ≤ 18014398509481984 := by
      have := Int.mul_le_mul a2 b2 b1 (by omega)
      omega
    go_wp2_with fail
    go_ret2
    exact ⟨by rw [HE.out]; rfl, HB1.out⟩
  · have HE := Lib.hid (HOF.out.trans (if_neg h0))
    have h0b : (cd == 0) = false := by simpa using h0
    clear h0
    go_wp2_with fail
    go_ret2
    exact ⟨by rw [HE.out]; rfl, HB1.out⟩
end Go.Proofs.YtdkmdmpaflgfaaaGreatDoor

namespace Go.Proofs.YtdkmdmpaflgfaaaGreatDoor
open Go.RowKit

theorem red_pv {xs : List Int} {Q : List (List Int)} (hs : Shp xs Q) {S : List Nat} (hr : Red S) (hl : ∀ r ∈ S, r < 2 ^ xs.length) : ∀ r ∈ S, r ≠ 0 ∧ Sm r ∧ pv r < xs.length := fun r h => by
  have h1 := hr.ne r h
  refine ⟨h1.1, h1.2, ?_⟩
  have h2 := tb_pv h1.1 h1.2
  rcases Nat.lt_or_ge (pv r) xs.length with h3 | h3
  · exact h3
  · rw [tb_of_lt (hl r h) h3] at h2; cases h2
theorem spLt {S : List Nat} {n : Nat} (h : ∀ r ∈ S, r < 2 ^ n) {v : Nat} (hv : Sp S v) : v < 2 ^ n := by
  induction hv with
  | zero => exact Nat.two_pow_pos n
  | add hm _ ih => exact xr_lt (h _ hm) ih
theorem reduceS_lt {S : List Nat} {n : Nat} (hS : ∀ r ∈ S, Sm r) (h : ∀ r ∈ S, r < 2 ^ n) : ∀ r ∈ reduceS S, r < 2 ^ n := fun r hr => spLt h ((sp_reduce hS r).1 (.mem hr))
theorem margR_less {xs : List Int} {Q : List (List Int)} {F : List Nat} {step : Int} (h : StepF xs F step) (hs : Shp xs Q) : margR xs F step 21 = lessP (degL xs (kerR F)) (degL xs (reduceS F)) (reduceS F).length := by
  unfold margR lessP
  refine List.map_congr_left fun d hd => ?_
  rw [List.mem_range] at hd
  rw [cntM_law h hs d (by omega), List.take_of_length_le (by rw [degL_length]; exact Nat.le_refl _)]
/-- the test of the numbers, as the program does it -/
theorem rangeM_iff (s t : Int) : rangeM s t = true ↔ 0 ≤ s ∧ s < t ∧ t ≤ 5 := by
  unfold rangeM inB
  simp only [Bool.and_eq_true, decide_eq_true_eq]
  omega
theorem pwr_bd (s t : Nat) (hs : s ≤ 5) (ht : 1 ≤ t) (ht5 : t ≤ 5) : BdD (pwr s t) := by
  obtain ⟨p1, p2⟩ := pow5 hs
  refine ⟨by rw [pwr_len s ht]; omega, fun k => ?_⟩
  by_cases hk : k < (pwr s t).length
  · have hm := getD_memP hk (0 : Int)
    rcases List.mem_append.1 hm with h | h
    · rw [(List.mem_replicate.1 h).2]; omega
    · rw [List.mem_singleton.1 h]; omega
  · rw [show (pwr s t).getD k 0 = 0 by simp [List.getD, hk]]; omega

set_option maxRecDepth 100000 in
set_option maxHeartbeats 4000000 in
theorem implMargolisCounts_any (A A' : Option Addr) (n c m c' : Nat) (xs : List Int) (L : List Row) (s t : Int) (w : World) (hT : Tab w) (hw : 0 < w.heap.size) (hM : ModIn w A n A' m xs L) :
    Calls Tryz.prog 21 #[.agg #[.slice A n c, .slice A' m c'], .int .i64 s, .int .i64 t] w (ResS (margOf xs L s t) w) := by
  have HIS := Lib.hid (fun W hb => hM.isM c c' W hb)
  have hn := hM.r.hn
  have hwb : (w.alloc (.cells #[.slice A n c, .slice A' m c'] 30)).heap.size = w.heap.size + 1 := by simp
  have HB0 := Lib.hid ((Below.refl w.heap.size w).alloc (Nat.le_refl _) (.cells #[.slice A n c, .slice A' m c'] 30))
  have KB := Lib.hid (fun w' (hb : Below (w.heap.size + 1) (w.alloc (.cells #[.slice A n c, .slice A' m c'] 30)) w') => blk2cells (blk_below (blk_new w (.cells #[.slice A n c, .slice A' m c'] 30)) hb (by omega)))
  have KS := Lib.hid (fun w' (hb : Below (w.heap.size + 1) (w.alloc (.cells #[.slice A n c, .slice A' m c'] 30)) w') => show w'.cell? ⟨w.heap.size, 0, none⟩ = some (.slice A n c) ∧ w'.cell? ⟨w.heap.size, 1, none⟩ = some (.slice A' m c') from ⟨(KB.out w' hb).1, (KB.out w' hb).2.1⟩)
  obtain ⟨x0, x1, xf0, xf1, lx⟩ := blk2cells (blk_new w (.cells #[.slice A n c, .slice A' m c'] 30))
  have HWB := Lib.hid hwb
  have HMM := Lib.hid hM
  have Hn := Lib.hid hn
  have HTT := Lib.hid (fun W (hb : Below w.heap.size w W) => (⟨hT.below hb hw, by have := hb.size; omega⟩ : Tab W ∧ 0 < W.heap.size))
  have HMO : Hid (margOf xs L s t = if codeM (modB xs (dat L)) s t = 0 then (margR xs (mactF (dat L) (stepM s.toNat t.toNat) [pwr s.toNat t.toNat] xs.length) (stepM s.toNat t.toNat) 21, 0) else ([], codeM (modB xs (dat L)) s t)) := Lib.hid rfl
  have HSHP := Lib.hid (fun (h : modB xs (dat L) = true) => shp_of h)
  clear hM hn hwb hT hw
  generalize modB xs (dat L) = b at *
  go_enter Tryz.func21, Tryz.ntmps21
  go_wp2_with fail
  refine (HIS.out _ HB0.out).mono ?_
  rintro e w1 ⟨rfl, hb1⟩
  have HB1 := Lib.hid (HB0.out.trans (hb1.mono HB0.out.size))
  have HX1 := Lib.hid (show Below (w.heap.size + 1) (w.alloc (.cells #[.slice A n c, .slice A' m c'] 30)) w1 from by have := HWB.out; rw [← this]; exact hb1)
  clear hb1
  cases b with
  | false =>
    rw [codeM_no] at HMO
    have HE := Lib.hid (HMO.out.trans (if_neg (by omega)))
    go_wp2_with fail
    go_ret2
    exact ⟨_, by rw [HE.out]; rfl, by rw [HE.out]; exact World.ownsRow_nil _ _ _ _, HB1.out⟩
  | true =>
    have HSH := Lib.hid (HSHP.out rfl)
    by_cases hrg : 0 ≤ s ∧ s < t ∧ t ≤ 5
    · have hrm := (rangeM_iff s t).2 hrg
      rw [codeM_in hrm] at HMO
      obtain ⟨a, b, rfl, rfl, hab, hb5⟩ := rangeM_nat hrm
      rw [Int.toNat_natCast, Int.toNat_natCast] at HMO
      have hb1 : 1 ≤ b := by omega
      have hai : (a : Int) < (b : Int) := by omega
      have hbi : (b : Int) ≤ 5 := by omega
      have HEP := Lib.hid (fun W => elementP_any a b (by omega) hb1 hb5 W)
      have HPL := Lib.hid (pwr_len a hb1)
      have HPB := Lib.hid (pwr_bd a b (by omega) hb1 hb5)
      have HPX := Lib.hid (pwr_ex a hb1)
      have HDG : Hid (degP (pwr a b) = stepM a b) := Lib.hid (by rw [← degW_P]; exact (pwr_ex a hb1).deg)
      obtain ⟨m1, m2⟩ := stepM_bd (s := a) (t := b) (by omega) hb5
      generalize hq : pwr a b = q at *
      generalize hst : stepM a b = st at *
      have HQ := Lib.hid hq
      have HST := Lib.hid hst
      clear hq hst hrg hrm
      go_wp2_with fail
      refine (HEP.out _).mono ?_
      rintro e w2 ⟨g, rfl, ho2, hb2⟩
      have HO2 := Lib.hid ho2
      have hs1 : w.heap.size + 1 ≤ w1.heap.size := by have := HX1.out.size; have := HWB.out; omega
      have HX2 := Lib.hid (HX1.out.trans (hb2.mono hs1))
      have HB2 := Lib.hid (HB1.out.trans (hb2.mono HB1.out.size))
      clear ho2 hb2
      go_wp2_with fail
      refine (deg_any (some ⟨g, 0, none⟩) b b q w2 HPL.out.symm HPB.out (owns_Rd HO2.out)).mono ?_
      rintro e w2' ⟨rfl, rfl⟩
      rw [HDG.out]
      by_cases h40 : st ≤ 40
      · rw [if_pos h40, if_pos rfl] at HMO
        have HAC := Lib.hid (actionOf_any st h40 A A' (some ⟨w2.heap.size, 0, none⟩) n c m c' 1 1 xs L [⟨some ⟨g, 0, none⟩, b, q⟩] (w2.alloc (.cells #[.slice (some ⟨g, 0, none⟩) b b] 22)) Hn.out HMM.out.r.hm HSH.out HMM.out.r.hm1 rfl (by omega) (one_as _) (one_ex HPX.out) ((HMM.out.r.deg.below HB2.out).alloc _) ((HMM.out.r.act.below HB2.out).alloc _) (rdR_one HO2.out HPL.out.symm))
        have HSF := Lib.hid (mactF_step HSH.out m1 (show st ≤ 63 by omega) (one_as q) (one_ex HPX.out))
        have hdt : dat [(⟨some ⟨g, 0, none⟩, b, q⟩ : Row)] = [q] := rfl
        rw [hdt] at HAC
        rw [← Hn.out] at HSF HMO
        generalize mactF (dat L) st [q] n = F at *
        obtain ⟨y0, y1, yf0, yf1, ly⟩ := KB.out w2 HX2.out
        clear x0 x1 xf0 xf1 lx hdt
        go_wp2_with fail
        refine HAC.out.mono ?_
        rintro e w3 ⟨v3, rfl, ho3, hb3⟩
        obtain ⟨A3, c3, rfl, _, _, _⟩ := owns_shape ho3
        have HO3 := Lib.hid ho3
        have hs2 : w.heap.size + 1 ≤ w2.heap.size := by have := HX2.out.size; have := HWB.out; omega
        have HX3 := Lib.hid (HX2.out.trans ((((Below.refl w2.heap.size w2).alloc (Nat.le_refl _) (.cells #[.slice (some ⟨g, 0, none⟩) b b] 22)).trans (hb3.mono (by simp))).mono hs2))
        have HMN := Lib.hid (fun W (hb : Below (w.heap.size + 1) (w.alloc (.cells #[.slice A n c, .slice A' m c'] 30)) W) => HB0.out.trans (hb.mono (Nat.le_succ _)))
        have hs3 : w.heap.size + 1 ≤ w3.heap.size := by have := HX3.out.size; have := HWB.out; omega
        clear ho3 hb3 y0 y1 yf0 yf1 ly
        obtain ⟨y0, y1, yf0, yf1, ly⟩ := KB.out w3 HX3.out
        have hn16 : n ≤ 16 := by rw [Hn.out]; exact HSH.out.len
        have HFS : Hid (∀ r ∈ F, Sm r) := Lib.hid (HSF.out.sm HSH.out)
        have HFL : Hid (n = F.length) := Lib.hid (by rw [HSF.out.len, ← Hn.out])
        have HKR : Hid ((∀ r ∈ kerR F, r ≠ 0 ∧ Sm r ∧ pv r < n) ∧ (kerR F).length ≤ 16) := Lib.hid (by
          have h1 := kerR_red HFS.out (by rw [← HFL.out]; omega)
          have h2 : ∀ r ∈ kerR F, r < 2 ^ xs.length := fun r hr => by
            have := ((kerR_sp HFS.out (by rw [← HFL.out]; omega) r).1 (.mem hr)).1
            rwa [HSF.out.len] at this
          exact ⟨by rw [Hn.out]; exact red_pv HSH.out h1 h2, Nat.le_trans (red_len h1 h2) (by rw [← Hn.out]; exact hn16)⟩)
        have HRR : Hid ((∀ r ∈ reduceS F, r ≠ 0 ∧ Sm r ∧ pv r < n) ∧ (reduceS F).length ≤ 16) := Lib.hid (by
          have h1 := red_reduce HFS.out
          have h2 := reduceS_lt HFS.out HSF.out.lt
          exact ⟨by rw [Hn.out]; exact red_pv HSH.out h1 h2, Nat.le_trans (red_len h1 h2) (by rw [← Hn.out]; exact hn16)⟩)
        have HML : Hid (margR xs F st 21 = lessP (degL xs (kerR F)) (degL xs (reduceS F)) (reduceS F).length) := Lib.hid (margR_less HSF.out HSH.out)
        have HDR : Hid (∀ (S : List Nat), (∀ r ∈ S, r ≠ 0 ∧ Sm r ∧ pv r < n) → ∀ j, j < (degL xs S).length → 0 ≤ (degL xs S).getD j 0 ∧ (degL xs S).getD j 0 ≤ 20) := Lib.hid (fun S hS j hj => by
          rw [degL_length] at hj
          rw [degL_getD xs hj]
          have := hS _ (getD_memP hj 0)
          exact HSH.out.deg _ (by rw [← Hn.out]; exact this.2.2))
        have HKE := Lib.hid (fun W (hb : Below w3.heap.size w3 W) => kernel_anyS A3 n c3 F W (HTT.out W (HMN.out W (HX3.out.trans (hb.mono hs3)))).1 (HTT.out W (HMN.out W (HX3.out.trans (hb.mono hs3)))).2 HFL.out (by omega) HFS.out ((owns_Rd HO3.out).below hb))
        have HRE := Lib.hid (fun W (hb : Below w3.heap.size w3 W) => reduced_any A3 n c3 F W (HTT.out W (HMN.out W (HX3.out.trans (hb.mono hs3)))).1 (HTT.out W (HMN.out W (HX3.out.trans (hb.mono hs3)))).2 HFL.out (by omega) HFS.out ((owns_Rd HO3.out).below hb))
        have HDE := Lib.hid (fun (V : Option Addr) (cv : Nat) (S : List Nat) W (hb : Below w3.heap.size w3 W) (hS : ∀ r ∈ S, r ≠ 0 ∧ Sm r ∧ pv r < n) (hl : S.length ≤ 1048576) hV => degreesOf_any A A' V n c m c' S.length cv xs S W (HTT.out W (HMN.out W (HX3.out.trans (hb.mono hs3)))).1 (HTT.out W (HMN.out W (HX3.out.trans (hb.mono hs3)))).2 Hn.out HMM.out.hsm rfl hl hS (HMM.out.r.deg.below (HMN.out W (HX3.out.trans (hb.mono hs3)))) hV)
        have HB_0 := Lib.hid (Below.drew (Below.refl w3.heap.size w3))
        have HX_0 := Lib.hid (HX3.out.trans (HB_0.out.mono hs3))
        have hkr16 := HKR.out.2
        have hrr16 := HRR.out.2
        have HKRE : Hid (reduceS (kerS F F.length) = kerR F) := Lib.hid rfl
        generalize kerR F = KF at *
        generalize reduceS F = RF at *
        go_wp2_with fail
        go_region_held3 (fun w' => w'.cell? ⟨w.heap.size, 0, none⟩ = some (.slice A n c) ∧ w'.cell? ⟨w.heap.size, 1, none⟩ = some (.slice A' m c'))
          (first | exact KS.out _ HX_0.out | exact KS.out _ HX_1.out | exact KS.out _ HX_2.out | exact KS.out _ HX_3.out)
          (first
            | (go_at_call 61; (with_reducible refine (HKE.out _ HB_0.out).mono ?_); (rintro e w4 ⟨v4, rfl, ho, hb⟩; rw [HKRE.out] at ho; obtain ⟨A4, c4, rfl, _, _, _⟩ := owns_shape ho; have HO4 := Lib.hid (owns_Rd ho); have HB_1 := Lib.hid (HB_0.out.trans (hb.mono HB_0.out.size)); have HX_1 := Lib.hid (HX3.out.trans (HB_1.out.mono hs3)); clear ho hb))
            | (go_at_call 60; (with_reducible refine (HDE.out A4 c4 KF _ HB_1.out HKR.out.1 (by omega) HO4.out).mono ?_); (rintro e w5 ⟨g5, c5, rfl, ho, hb⟩; have HO5 := Lib.hid (owns_Rd ho); have HB_2 := Lib.hid (HB_1.out.trans (hb.mono HB_1.out.size)); have HX_2 := Lib.hid (HX3.out.trans (HB_2.out.mono hs3)); clear ho hb))
            | (go_at_call 59; (with_reducible refine (counts_any _ _ _ (degL xs KF) _ (degL_length _ _).symm (by omega) (HDR.out KF HKR.out.1) HO5.out).mono ?_); (rintro e w6 ⟨g6, rfl, ho, hb⟩; have HO6 := Lib.hid ho; have HB_2b := Lib.hid hb; have HB_3 := Lib.hid (HB_2.out.trans (hb.mono HB_2.out.size)); have HX_3 := Lib.hid (HX3.out.trans (HB_3.out.mono hs3)); clear ho hb)))
        have hB0 : w.heap.size ≤ w5.heap.size := by have := HX_2.out.size; have := HWB.out; omega
        have HO7 : Hid (w6.ownsRow w.heap.size 2 1 (.slice (some ⟨g6, 0, none⟩) 21 21) 21 (iv (lessP (degL xs KF) (degL xs RF) 0))) := Lib.hid (by rw [lessP_zero]; exact HO6.out.mono hB0)
        have hg6 := (HO7.out.lt g6 rfl).1
        have hg6b := (HO7.out.lt g6 rfl).2
        have hs6 : w3.heap.size ≤ w6.heap.size := HB_3.out.size
        clear y0 y1 yf0 yf1 ly
        obtain ⟨y0, y1, yf0, yf1, ly⟩ := KB.out w6 HX_3.out
        have HC_0 := Lib.hid (Below.drew (Below.refl w6.heap.size w6))
        have HY_0 := Lib.hid (HB_3.out.trans (HC_0.out.mono hs6))
        have HZ_0 := Lib.hid (HX3.out.trans (HY_0.out.mono hs3))
        go_wp2_with fail
        go_region_held3 (fun w' => w'.cell? ⟨w.heap.size, 0, none⟩ = some (.slice A n c) ∧ w'.cell? ⟨w.heap.size, 1, none⟩ = some (.slice A' m c'))
          (first | exact KS.out _ HZ_0.out | exact KS.out _ HZ_1.out | exact KS.out _ HZ_2.out)
          (first
            | (go_at_call 62; (with_reducible refine (HRE.out _ HY_0.out).mono ?_); (rintro e w7 ⟨v7, rfl, ho, hb⟩; obtain ⟨A7, c7, rfl, _, _, _⟩ := owns_shape ho; have HO8 := Lib.hid (owns_Rd ho); have HC_1 := Lib.hid (HC_0.out.trans (hb.mono HC_0.out.size)); have HY_1 := Lib.hid (HB_3.out.trans (HC_1.out.mono hs6)); have HZ_1 := Lib.hid (HX3.out.trans (HY_1.out.mono hs3)); clear ho hb))
            | (go_at_call 60; (with_reducible refine (HDE.out A7 c7 RF _ HY_1.out HRR.out.1 (by omega) HO8.out).mono ?_); (rintro e w8 ⟨gd, cd, rfl, ho, hb⟩; have HD8 := Lib.hid (owns_Rd ho); have hgd := (ho.lt gd rfl).1; have hs7 := HC_1.out.size; have HC_2 := Lib.hid (HC_1.out.trans (hb.mono HC_1.out.size)); have HY_2 := Lib.hid (HB_3.out.trans (HC_2.out.mono hs6)); have HZ_2 := Lib.hid (HX3.out.trans (HY_2.out.mono hs3)); clear ho hb)))
        have hne : gd ≠ g6 := by omega
        have HO9 := Lib.hid (owns_later HO7.out HC_2.out)
        have HBW := Lib.hid (HMN.out _ HZ_2.out)
        have HLD : Hid ((degL xs RF).length = RF.length) := Lib.hid (degL_length _ _)
        have HDD := Lib.hid (HDR.out RF HRR.out.1)
        have HCX : Hid (∀ d : Int, cnt (degL xs KF) d ≤ 16) := Lib.hid (fun d => by have := cnt_le (degL xs KF) d; rw [degL_length] at this; omega)
        clear y0 y1 yf0 yf1 ly
        go_wp2_with fail
        go_loopw [49] (fun i wr => ∃ j : Nat, j ≤ RF.length ∧ i = .int .i64 j ∧ wr.ownsRow w.heap.size 2 1 (.slice (some ⟨g6, 0, none⟩) 21 21) 21 (iv (lessP (degL xs KF) (degL xs RF) j)) ∧ Rd wr (some ⟨gd, 0, none⟩) (iv (degL xs RF)) ∧ Below w.heap.size w wr) (fun i _ => RF.length - (intOf i).toNat)
        case atStart => exact ⟨0, by omega, rfl, HO9.out, HD8.out, HBW.out⟩
        case round =>
          obtain ⟨j, hj, rfl, hown, hrd, hbel⟩ := hrel
          have HO := Lib.hid hown
          have HB := Lib.hid hbel
          have HRD := Lib.hid hrd
          by_cases hlt : j < RF.length
          · have hjl : j < (degL xs RF).length := by rw [HLD.out]; exact hlt
            have hc := hrd.cellI hjl
            rw [Nat.zero_add] at hc
            obtain ⟨h0, h1⟩ := HDD.out j hjl
            obtain ⟨d, hde⟩ := Int.eq_ofNat_of_zero_le h0
            have hd21 : d < 21 := by omega
            have HST := Lib.hid (lessP_succ (xs := degL xs KF) hjl hde hd21)
            rw [hde] at hc
            have hoc := owns_getD hown hd21
            rw [lessP_getD _ _ _ hd21] at hoc
            have fz := hown.frozenAt d
            have hq1 := HCX.out (d : Int)
            have hq2 := cnt_le ((degL xs RF).take j) (d : Int)
            rw [List.length_take, HLD.out] at hq2
            have hq3 : cnt ((degL xs RF).take j) (d : Int) ≤ 1048576 := by omega
            have HSTO := Lib.hid (fun z : Int => (World.ownsRow.stored hown d (.int .i64 z)).1)
            generalize cnt (degL xs KF) (d : Int) = p at *
            generalize cnt ((degL xs RF).take j) (d : Int) = q at *
            clear hown hbel hrd h0 h1 hde hjl hq2
            go_wp2_with fail
            go_roundw
            case rel => exact ⟨j + 1, by omega, by go_num, by rw [HST.out, iv_set]; exact HSTO.out _, HRD.out.keeps ((Keeps.refl _ [some g6]).setCell (p := ⟨g6, d, none⟩) (by simp) _) (by rintro a ⟨⟩; simp [hne]), HB.out.setCell (p := ⟨g6, d, none⟩) hg6 _⟩
            case measure => simp [intOf]; omega
          · obtain rfl : j = RF.length := by omega
            clear hown hbel hrd
            go_wp2_with fail
            go_ret2
            exact ⟨_, by rw [HMO.out]; rfl, by rw [HMO.out]; simp only [HML.out, lessP_length]; exact HO.out, HB.out⟩
      · rw [if_neg h40, if_neg (by omega)] at HMO
        have HE := HMO
        clear x0 x1 xf0 xf1 lx
        go_wp2_with fail
        go_ret2
        exact ⟨_, by rw [HE.out]; rfl, by rw [HE.out]; exact World.ownsRow_nil _ _ _ _, HB2.out⟩
    · have hrm : rangeM s t = false := by
        cases h : rangeM s t with
        | false => rfl
        | true => exact absurd ((rangeM_iff s t).1 h) hrg
      rw [codeM_out hrm] at HMO
      have HE := Lib.hid (HMO.out.trans (if_neg (by omega)))
      clear hrm x0 x1 xf0 xf1 lx
      by_cases h1 : s < 0
      · clear hrg
        go_wp2_with fail
        go_ret2
        exact ⟨_, by rw [HE.out]; rfl, by rw [HE.out]; exact World.ownsRow_nil _ _ _ _, HB1.out⟩
      · have h1' : 0 ≤ s := by omega
        by_cases h2 : t ≤ s
        · clear hrg
          go_wp2_with fail
          go_ret2
          exact ⟨_, by rw [HE.out]; rfl, by rw [HE.out]; exact World.ownsRow_nil _ _ _ _, HB1.out⟩
        · have h3 : 5 < t := by omega
          have h2' : s < t := by omega
          clear hrg
          go_wp2_with fail
          go_ret2
          exact ⟨_, by rw [HE.out]; rfl, by rw [HE.out]; exact World.ownsRow_nil _ _ _ _, HB1.out⟩
end Go.Proofs.YtdkmdmpaflgfaaaGreatDoor
