/- IsomorphismOf: the reference · rows of []int of the call's own (written by mkownq.py from texts Rw, My) · the walks of the span · span.left -/
import Derived.Test.YtpchigdhnnkpcaaGreatDoorZat
import Derived.Test.YtpchigdhnnkpcaaGreatDoorZau
import Derived.Deep.RegionHeld3
import Derived.Test.YtpchigdhnnkpcaaGreatDoorZam
import Derived.Test.YtpchigdhnnkpcaaGreatDoorZaq
import Derived.Test.YtpchigdhnnkpcaaGreatDoorZaa
import Derived.Test.YtpchigdhnnkpcaaGreatDoorZae
namespace Go.Proofs.YtpchigdhnnkpcaaGreatDoor
open Go.RowKit

noncomputable def isomorphismOfOf (xs : List Int) (L : List Row) (ys : List Int) (M : List Row) : List (List Int) × Int := isoOf xs (dat L) ys (dat M)
theorem isomorphismOfOf_dat {xs : List Int} {L L' : List Row} {ys : List Int} {M M' : List Row} (h1 : dat L' = dat L) (h2 : dat M' = dat M) : isomorphismOfOf xs L' ys M' = isomorphismOfOf xs L ys M := by unfold isomorphismOfOf; rw [h1, h2]
theorem isomorphismOfOf_len (xs : List Int) (L : List Row) (ys : List Int) (M : List Row) : (isomorphismOfOf xs L ys M).1.length ≤ 1000 ∧ ∀ x ∈ (isomorphismOfOf xs L ys M).1, x.length ≤ 1000 := by
  obtain ⟨h1, h2⟩ := isoOf_len (xs := xs) (Q := dat L) (ys := ys) (R := dat M) (fun h => (modB_iff.1 h).shp.len) (fun h => (modB_iff.1 h).shp.len)
  exact ⟨Nat.le_trans h1 (by omega), fun x hx => Nat.le_trans (h2 x hx) (by omega)⟩

set_option maxRecDepth 100000 in
set_option maxHeartbeats 8000000 in
theorem specIsomorphismOf' (A A' B B' : Option Addr) (n c m c' p d q d' : Nat) (xs ys : List Int) (L M : List Row) (w : World) (hM : ModIn w A n A' m xs L) (hN : ModIn w B p B' q ys M) :
    Calls Tryz.prog 11 #[.agg #[.slice A n c, .slice A' m c'], .agg #[.slice B p d, .slice B' q d']] w (ResR (isomorphismOfOf xs L ys M) w) := by
  obtain ⟨hb0, hk1, hk2⟩ := box_two w A A' B B' n c m c' p d q d'
  have HB0 := Lib.hid hb0
  have HK1 := Lib.hid hk1
  have HK2 := Lib.hid hk2
  have HMP := Lib.hid (l12Maps_any A A' B B' n c m c' p d q d' xs ys L M _ (hM.below hb0) (hN.below hb0))
  have Hn := Lib.hid hM.r.hn
  have Hp := Lib.hid hN.r.hn
  obtain ⟨x0, x1, xf0, xf1, lx⟩ := blk2cells hk1
  obtain ⟨y0, y1, yf0, yf1, ly⟩ := blk2cells hk2
  clear hb0 hk1 hk2 hM hN
  go_enter Tryz.func11, Tryz.ntmps11
  go_wp2_with fail
  refine HMP.out.mono ?_
  rintro e w1 ⟨ho, hb⟩
  have HB1 := Lib.hid (HB0.out.trans (hb.mono HB0.out.size))
  have HK1a := Lib.hid (blk_kept HK1.out hb)
  have HK2a := Lib.hid (blk_kept HK2.out hb)
  clear hb x0 x1 xf0 xf1 lx y0 y1 yf0 yf1 ly
  rcases ho with ⟨hno, rfl⟩ | ⟨hy, h60, rfl⟩ | ⟨hy, h60, A1, c1, N, A2, c2, rfl, hd, hon, hob⟩
  · have HF : Hid (isomorphismOfOf xs L ys M = ([], 1)) := Lib.hid (isoOf_1 hno)
    clear hno
    go_wp2_with fail
    go_ret2
    exact ⟨.slice none 0 0, [], by rw [HF.out]; rfl, by rw [HF.out]; rfl, OwnR.nil _ _, HB1.out⟩
  · have HF : Hid (isomorphismOfOf xs L ys M = ([], 3)) := Lib.hid (isoOf_2 hy h60)
    clear hy h60
    go_wp2_with fail
    go_ret2
    exact ⟨.slice none 0 0, [], by rw [HF.out]; rfl, by rw [HF.out]; rfl, OwnR.nil _ _, HB1.out⟩
  have hn16 : n ≤ 16 := by rw [Hn.out]; exact (modB_iff.1 hy.1).shp.len
  have hp16 : p ≤ 16 := by rw [Hp.out]; exact (modB_iff.1 hy.2).shp.len
  have HV := Lib.hid (hon.rd rfl)
  have HR := Lib.hid (owns_Rd hob)
  have HD := Lib.hid hd
  have hKl := mapsL_lt (Q := dat L) (R := dat M) h60
  have HKS : Hid (∀ r ∈ mapsL xs (dat L) ys (dat M), Sm r) := Lib.hid (fun r hr => sm_of_lt (a := (unk xs ys).length) (by omega) (hKl r hr))
  have HUN := Lib.hid h60
  have HNL : Hid (N.length = (unk xs ys).length) := Lib.hid (by have := congrArg List.length hd; rwa [dat_length, List.length_map] at this)
  have HIN : Hid (∀ u, u < (unk xs ys).length → ((unk xs ys).getD u (0, 0)).1 < n ∧ ((unk xs ys).getD u (0, 0)).2 < p) := Lib.hid (fun u hu => by rw [Hn.out, Hp.out]; exact unk_in u hu)
  have HF3 : Hid (¬ (mapsL xs (dat L) ys (dat M)).length ≤ 12 → isomorphismOfOf xs L ys M = ([], 3)) := Lib.hid (fun h => isoOf_3 hy h60 h)
  have HF4 : Hid ((mapsL xs (dat L) ys (dat M)).length ≤ 12 → xs.length ≠ ys.length → isomorphismOfOf xs L ys M = ([], 4)) := Lib.hid (fun h h2 => isoOf_4 hy h60 h h2)
  have HF5 : Hid ((mapsL xs (dat L) ys (dat M)).length ≤ 12 → xs.length = ys.length → (∀ y, y < 2 ^ (mapsL xs (dat L) ys (dat M)).length → isoB (unk xs ys) (mapsL xs (dat L) ys (dat M)) xs.length ys.length y = false) → isomorphismOfOf xs L ys M = ([], 4)) := Lib.hid (fun h h2 h3 => isoOf_5 hy h60 h h2 h3)
  have HF0 : Hid ((mapsL xs (dat L) ys (dat M)).length ≤ 12 → xs.length = ys.length → ∀ x, x < 2 ^ (mapsL xs (dat L) ys (dat M)).length → (∀ y, y < x → isoB (unk xs ys) (mapsL xs (dat L) ys (dat M)) xs.length ys.length y = false) → isoB (unk xs ys) (mapsL xs (dat L) ys (dat M)) xs.length ys.length x = true → isomorphismOfOf xs L ys M = ((imgs (unk xs ys) xs.length (comb (mapsL xs (dat L) ys (dat M)) 0 x)).map (fun v => bitsL v ys.length), 0)) := Lib.hid (fun h h2 x hx h3 h4 => isoOf_0 hy h60 h h2 hx h3 h4)
  generalize isomorphismOfOf xs L ys M = rr at *
  generalize mapsL xs (dat L) ys (dat M) = K at *
  generalize unk xs ys = P at *
  rw [← Hn.out, ← Hp.out] at HF4 HF5 HF0
  clear hy h60 hd hon hob hKl
  by_cases hk12 : K.length ≤ 12
  · have hk12i : ¬ (12 < (K.length : Int)) := by omega
    by_cases hnp : n = p
    · have hnpb : ((n : Int) != (p : Int)) = false := by simp [hnp]
      have HF5 := Lib.hid (HF5.out hk12 hnp)
      have HF0 := Lib.hid (HF0.out hk12 hnp)
      obtain ⟨x0, x1, xf0, xf1, lx⟩ := blk2cells HK1a.out
      obtain ⟨y0, y1, yf0, yf1, ly⟩ := blk2cells HK2a.out
      have hmin : min K.length 64 = K.length := by omega
      obtain ⟨pk1, pk2⟩ := pow62 (d := K.length) (by omega)
      have hpk : ((2 ^ K.length : Nat) : Int) = (2 : Int) ^ K.length := by simp
      have hpkn : (2 : Nat) ^ K.length ≤ 2 ^ 12 := Nat.pow_le_pow_right (by omega) hk12
      have e12 : (2 : Nat) ^ 12 = 4096 := by decide
      clear HF3 HF4 hnp
      go_wp2_with fail
      clear x0 x1 xf0 xf1 lx y0 y1 yf0 yf1 ly
      go_loopw [9] (fun s9 wr => ∃ x : Nat, x ≤ 2 ^ K.length ∧ s9 = .int .i64 x ∧ Hid (∀ y, y < x → isoB P K n p y = false) ∧ Below w1.heap.size w1 wr) (fun s _ => 2 ^ K.length - (intOf s).toNat)
      case atStart => exact ⟨0, by omega, rfl, Lib.hid (fun y hy => by omega), Below.refl _ _⟩
      case round =>
        obtain ⟨x, hx, rfl, HLO, hbel⟩ := hrel
        have HBL := Lib.hid hbel
        have HBW := Lib.hid (HB1.out.trans (hbel.mono HB1.out.size))
        by_cases hxK : x < 2 ^ K.length
        · have hxi : (x : Int) < (2 : Int) ^ K.length := by rw [← hpk]; omega
          have hsx : Sm x := sm_of_lt (a := 12) (by omega) (by omega)
          have HTM := Lib.hid (fun (W : World) (hb : Below wr.heap.size wr W) => l02Times_any A2 K.length c2 K x W rfl (by omega) hsx HKS.out (HR.out.below (hbel.trans (hb.mono hbel.size))))
          have HTO := Lib.hid (fun (W : World) (hb : Below wr.heap.size wr W) => l12Told_any A1 A A' B B' c1 n c m c' p d q d' N P (comb K 0 x) W hn16 hp16 HD.out (by rw [HNL.out]; exact HUN.out) HIN.out (comb_sm K 0 x HKS.out) (HV.out.below (hbel.trans (hb.mono hbel.size))))
          have HIB : Hid (isoB P K n p x = decide ((reduceS (imgs P n (comb K 0 x))).length = p)) := Lib.hid rfl
          have HIL : Hid (∀ r ∈ imgs P n (comb K 0 x), r < 2 ^ p) := Lib.hid (imgs_lt (fun u hu => (HIN.out u hu).2))
          have HF0x := Lib.hid (HF0.out x hxK HLO.out)
          generalize imgs P n (comb K 0 x) = G at *
          generalize comb K 0 x = z at *
          have KS := Lib.hid (fun w' (hb : Below wr.heap.size wr w') => show w'.cell? ⟨w.heap.size, 0, none⟩ = some (.slice A n c) ∧ w'.cell? ⟨w.heap.size, 1, none⟩ = some (.slice A' m c') ∧ w'.cell? ⟨w.heap.size + 1, 0, none⟩ = some (.slice B p d) ∧ w'.cell? ⟨w.heap.size + 1, 1, none⟩ = some (.slice B' q d') from by
            obtain ⟨x0, x1, _⟩ := blk2cells (blk_kept HK1a.out (hbel.trans (hb.mono hbel.size)))
            obtain ⟨y0, y1, _⟩ := blk2cells (blk_kept HK2a.out (hbel.trans (hb.mono hbel.size)))
            exact ⟨x0, x1, y0, y1⟩)
          have HB_0 := Lib.hid (Below.drew (Below.refl wr.heap.size wr))
          clear hbel hpk
          go_wp2_with fail
          go_region_held3 (fun w' => w'.cell? ⟨w.heap.size, 0, none⟩ = some (.slice A n c) ∧ w'.cell? ⟨w.heap.size, 1, none⟩ = some (.slice A' m c') ∧ w'.cell? ⟨w.heap.size + 1, 0, none⟩ = some (.slice B p d) ∧ w'.cell? ⟨w.heap.size + 1, 1, none⟩ = some (.slice B' q d'))
            (first | exact KS.out _ HB_0.out | exact KS.out _ HB_2.out)
            (first
              | (go_at_call 40; (with_reducible refine (HTM.out _ HB_0.out).mono ?_); (rintro e w4 ⟨rfl, rfl⟩))
              | (go_at_call 39; (with_reducible refine (HTO.out _ HB_0.out).mono ?_); (rintro e w5 ⟨A5, c5, R5, rfl, hRl, hRd, ho, hb⟩; have HR1 := Lib.hid hRl; have HR2 := Lib.hid hRd; have HO5 := Lib.hid (ho.mono (show wr.heap.size ≤ wr.drew.heap.size from Nat.le_refl _)); have HB_2 := Lib.hid (HB_0.out.trans (hb.mono HB_0.out.size)); clear hRl hRd ho hb)))
          have hR5 : R5.length = n := HR1.out
          have HMS := Lib.hid (fun (W : World) (hb : Below w5.heap.size w5 W) => l12Masks_any p A5 n c5 R5 W hR5.symm (by omega) (by omega) (fun i hi => by
            have hm : (rg R5 i).xs ∈ dat R5 := List.mem_map.2 ⟨_, rg_mem hi, rfl⟩
            rw [HR2.out] at hm
            obtain ⟨v, _, e⟩ := List.mem_map.1 hm
            rw [← e]; exact vecB_bits) ((HO5.out.rd hR5.symm).below hb))
          have HMK : Hid ((dat R5).map mk = G) := Lib.hid (by rw [HR2.out]; exact masks_bits HIL.out)
          rw [HMK.out] at HMS
          have HGS : Hid (∀ r ∈ G, Sm r) := Lib.hid (fun r hr => sm_of_lt (a := p) (by omega) (HIL.out r hr))
          have HGL : Hid (n = G.length) := Lib.hid (by rw [← HMK.out, List.length_map, dat_length, hR5])
          clear hR5
          have KS2 := Lib.hid (fun w' (hb : Below w5.heap.size w5 w') => show w'.cell? ⟨w.heap.size + 1, 0, none⟩ = some (.slice B p d) from (KS.out w' (HB_2.out.trans (hb.mono HB_2.out.size))).2.2.1)
          have HC_0 := Lib.hid (Below.drew (Below.refl w5.heap.size w5))
          go_wp2_with fail
          go_region_held3 (fun w' => w'.cell? ⟨w.heap.size + 1, 0, none⟩ = some (.slice B p d))
            (first | exact KS2.out _ HC_0.out | exact KS2.out _ HC_1.out | exact KS2.out _ HC_2.out)
            (first
              | (go_at_call 42; (with_reducible refine (HMS.out _ HC_0.out).mono ?_); (rintro e w6 ⟨g6, c6, rfl, ho, hb⟩; have HO6 := Lib.hid (owns_Rd ho); have HC_1 := Lib.hid (HC_0.out.trans (hb.mono HC_0.out.size)); clear ho hb))
              | (go_at_call 41; (with_reducible refine (reduce_any _ _ _ G _ HGL.out (by omega) HGS.out HO6.out).mono ?_); (rintro e w7 ⟨v7, rfl, ho, hb⟩; obtain ⟨A7, c7, rfl, _⟩ := owns_shape ho; have HC_2 := Lib.hid (HC_1.out.trans (hb.mono HC_1.out.size)); clear ho hb)))
          have HO7 := Lib.hid (HO5.out.later HC_2.out)
          have HB7 := Lib.hid (HBL.out.trans ((HB_2.out.trans (HC_2.out.mono HB_2.out.size)).mono HBL.out.size))
          generalize hgl : (reduceS G).length = gl at *
          have HIB2 : Hid (isoB P K n p x = decide (gl = p)) := Lib.hid HIB.out
          by_cases hgp : gl = p
          · have hgpb : ((gl : Int) == (p : Int)) = true := by simp [hgp]
            have HF := Lib.hid (HF0x.out (by rw [HIB2.out]; simpa using hgp))
            clear hgp hgl
            go_wp2_with fail
            go_ret2
            exact ⟨_, R5, by rw [HF.out]; rfl, by rw [HF.out, HR2.out, Hp.out], HO7.out.mono HBW.out.size, HB1.out.trans (HB7.out.mono HB1.out.size)⟩
          · have hgpb : ((gl : Int) == (p : Int)) = false := by simp; omega
            have HLO2 : Hid (∀ y, y < x + 1 → isoB P K n p y = false) := Lib.hid (fun y hy => by
              by_cases e : y = x
              · subst e; rw [HIB2.out]; simpa using hgp
              · exact HLO.out y (by omega))
            clear hgp hgl
            go_wp2_with fail
            go_roundw
            case rel => exact ⟨x + 1, by omega, by go_num, HLO2, HB7.out⟩
            case measure => simp [intOf]; omega
        · obtain rfl : x = 2 ^ K.length := by omega
          have HF := Lib.hid (HF5.out HLO.out)
          have hxi : ¬ (((2 ^ K.length : Nat) : Int) < (2 : Int) ^ K.length) := by rw [hpk]; omega
          clear hbel
          go_wp2_with fail
          go_ret2
          exact ⟨.slice none 0 0, [], by rw [HF.out]; rfl, by rw [HF.out]; rfl, OwnR.nil _ _, HBW.out⟩
    · have hnpb : ((n : Int) != (p : Int)) = true := by simp; omega
      have HF := Lib.hid (HF4.out hk12 hnp)
      obtain ⟨x0, x1, xf0, xf1, lx⟩ := blk2cells HK1a.out
      obtain ⟨y0, y1, yf0, yf1, ly⟩ := blk2cells HK2a.out
      clear hnp
      go_wp2_with fail
      go_ret2
      exact ⟨.slice none 0 0, [], by rw [HF.out]; rfl, by rw [HF.out]; rfl, OwnR.nil _ _, HB1.out⟩
  · have hk12i : 12 < (K.length : Int) := by omega
    have HF := Lib.hid (HF3.out hk12)
    clear hk12
    go_wp2_with fail
    go_ret2
    exact ⟨.slice none 0 0, [], by rw [HF.out]; rfl, by rw [HF.out]; rfl, OwnR.nil _ _, HB1.out⟩
end Go.Proofs.YtpchigdhnnkpcaaGreatDoor

namespace Go.Proofs.YtpchigdhnnkpcaaGreatDoor
open Go.RowKit

theorem etQ : ET Tryz.prog 55 84 24 := ET.mk' (z := .slice none 0 0) Tryz.underlying55 (by kernel_rfl) (by decide) (by decide)
theorem own_twoQ (w : World) (B : Nat) (hB : B ≤ w.heap.size) (x y : Int) : (w.alloc (.cells #[.int .i64 x, .int .i64 y] 3)).ownsRow B 3 1 (.slice (some ⟨w.heap.size, 0, none⟩) 2 2) 2 (iv [x, y]) :=
  ⟨by simp [iv], .inr ⟨w.heap.size, 2, _, rfl, hB, blk_new w _, Nat.le_refl _, by unfold maxLen; omega, rfl, by simp [iv]⟩⟩
/-- Rows of rows of the call's own: the outer one, the inner ones, no two of these in one block. -/
structure OwnQ (w : World) (B : Nat) (v : Value) (L : List Row) : Prop where
  out : w.ownsRow B 84 1 v L.length (hv L)
  inn : ∀ i, i < L.length → w.ownsRow B 3 1 (rg L i).val (rg L i).xs.length (iv (rg L i).xs)
  dis : ∀ i j, i < L.length → j < L.length → i ≠ j → (rg L i).val.ownBlock = none ∨ (rg L i).val.ownBlock ≠ (rg L j).val.ownBlock

section
variable {w w' : World} {B : Nat} {v : Value} {L : List Row}
theorem OwnQ.rd {A : Option Addr} {n c : Nat} (h : OwnQ w B (.slice A n c) L) (hn : n = L.length) : RdR w A L := by
  subst hn
  exact ⟨owns_Rd h.out, fun i hi => owns_Rd (h.inn i hi), fun i hi => owns_cap (h.inn i hi)⟩
theorem OwnQ.oi (h : OwnQ w B v L) {i : Nat} (hi : i < L.length) : v.ownBlock = none ∨ v.ownBlock ≠ (rg L i).val.ownBlock := own_ne2 h.out (h.inn i hi) (by decide)
theorem OwnQ.io (h : OwnQ w B v L) {i : Nat} (hi : i < L.length) : (rg L i).val.ownBlock = none ∨ (rg L i).val.ownBlock ≠ v.ownBlock := own_ne2 (h.inn i hi) h.out (by decide)
theorem OwnQ.keeps {S : List (Option Nat)} (h : OwnQ w B v L) (hk : Keeps w w' S) (h1 : v.ownBlock = none ∨ v.ownBlock ∉ S) (h2 : ∀ i, i < L.length → (rg L i).val.ownBlock = none ∨ (rg L i).val.ownBlock ∉ S) : OwnQ w' B v L :=
  ⟨owns_keeps h.out hk h1, fun i hi => owns_keeps (h.inn i hi) hk (h2 i hi), h.dis⟩
theorem OwnQ.later (h : OwnQ w B v L) (hb : Below w.heap.size w w') : OwnQ w' B v L := h.keeps (Keeps.of_below hb) (.inr (by simp)) (fun _ _ => .inr (by simp))
theorem OwnQ.mono {B' : Nat} (h : OwnQ w B v L) (hB : B' ≤ B) : OwnQ w B' v L := ⟨h.out.mono hB, fun i hi => (h.inn i hi).mono hB, h.dis⟩
theorem OwnQ.drewN (h : OwnQ w B v L) (m : Nat) : OwnQ (w.drewN m) B v L := h.keeps (S := []) (Keeps.ofDrewN w m) (.inr (by simp)) (fun _ _ => .inr (by simp))
/-- an inner row stored at place j of the outer one -/
theorem OwnQ.put {g n c j : Nat} {r : Row} (h : OwnQ w B (.slice (some ⟨g, 0, none⟩) n c) L) (hn : n = L.length) (hj : j < L.length) (hr : w.ownsRow B 3 1 r.val r.xs.length (iv r.xs))
    (hd : ∀ i, i < L.length → i ≠ j → r.val.ownBlock = none ∨ r.val.ownBlock ≠ (rg L i).val.ownBlock) :
    OwnQ (w.setCell ⟨g, j, none⟩ r.val) B (.slice (some ⟨g, 0, none⟩) n c) (L.set j r) := by
  subst hn
  have ks : Keeps w (w.setCell ⟨g, j, none⟩ r.val) [some g] := (Keeps.refl w [some g]).setCell (p := ⟨g, j, none⟩) (by simp) _
  have hrg : r.val.ownBlock = none ∨ r.val.ownBlock ∉ [some g] := by
    have := own_ne2 hr h.out (by decide)
    simpa [Value.ownBlock] using this
  refine ⟨?_, ?_, ?_⟩
  · have := (World.ownsRow.stored h.out j r.val).1
    rw [List.length_set]
    have e : hv (L.set j r) = (hv L).set j r.val := by simp [hv, List.map_set]
    rw [e]; exact this
  · intro i hi
    rw [List.length_set] at hi
    rw [rg_set hj]
    split
    · exact owns_keeps hr ks hrg
    · exact owns_keeps (h.inn i hi) ks (by have := h.io hi; simpa [Value.ownBlock] using this)
  · intro i i' hi hi' hne
    rw [List.length_set] at hi hi'
    rw [rg_set hj, rg_set hj]
    by_cases e1 : i = j
    · by_cases e2 : i' = j
      · omega
      · rw [if_pos e1, if_neg e2]; exact hd i' hi' e2
    · by_cases e2 : i' = j
      · rw [if_neg e1, if_pos e2]; exact none_or_symm (hd i hi e1)
      · rw [if_neg e1, if_neg e2]; exact h.dis i i' hi hi' hne
/-- an inner row written, the others as they were -/
theorem OwnQ.inset {j : Nat} {ys : List Int} (h : OwnQ w B v L) (hj : j < L.length) (hl : ys.length = (rg L j).xs.length) (hk : Keeps w w' [(rg L j).val.ownBlock])
    (hr : w'.ownsRow B 3 1 (rg L j).val (rg L j).xs.length (iv ys)) : OwnQ w' B v (L.set j ⟨(rg L j).A, (rg L j).c, ys⟩) := by
  have ev : Row.val ⟨(rg L j).A, (rg L j).c, ys⟩ = (rg L j).val := by simp [Row.val, hl]
  refine ⟨?_, ?_, ?_⟩
  · rw [List.length_set]
    have e : hv (L.set j ⟨(rg L j).A, (rg L j).c, ys⟩) = hv L := by
      unfold hv
      rw [List.map_set, ev, rg_of hj]
      apply List.ext_getElem?
      intro i
      rw [List.getElem?_set]
      split
      · rename_i e; subst e; simp [hj]
      · rfl
    rw [e]
    exact owns_keeps h.out hk (by have := h.oi hj; simpa using this)
  · intro i hi
    rw [List.length_set] at hi
    rw [rg_set hj]
    split
    · rw [ev]; simp only [hl]; exact hr
    · rename_i hne
      exact owns_keeps (h.inn i hi) hk (by have := h.dis i j hi hj hne; simpa using this)
  · intro i i' hi hi' hne
    rw [List.length_set] at hi hi'
    rw [rg_set hj, rg_set hj]
    by_cases e1 : i = j
    · by_cases e2 : i' = j
      · omega
      · rw [if_pos e1, if_neg e2, ev, ← e1]; exact h.dis i i' hi hi' hne
    · by_cases e2 : i' = j
      · rw [if_neg e1, if_pos e2, ev, ← e2]; exact h.dis i i' hi hi' hne
      · rw [if_neg e1, if_neg e2]; exact h.dis i i' hi hi' hne
/-- an inner row appended -/
theorem OwnQ.app {g c : Nat} {o : Obj} {r : Row} (h : OwnQ w B v L) (hr : w.ownsRow B 3 1 r.val r.xs.length (iv r.xs)) (hd : ∀ i, i < L.length → r.val.ownBlock = none ∨ r.val.ownBlock ≠ (rg L i).val.ownBlock)
    (hown : w'.ownsRow B 84 1 (.slice (some ⟨g, 0, none⟩) (L.length + 1) c) (L.length + 1) (hv L ++ [r.val])) (hg : (w.alloc o).grownBy w' v.ownBlock) :
    OwnQ w' B (.slice (some ⟨g, 0, none⟩) (L.length + 1) c) (L ++ [r]) := by
  have hk : Keeps w w' [v.ownBlock] := ((Keeps.refl w []).alloc o).trans (Keeps.of_grown hg) (by simp)
  have hrv : r.val.ownBlock = none ∨ r.val.ownBlock ≠ v.ownBlock := own_ne2 hr h.out (by decide)
  have e0 : ∀ i, i < L.length → rg (L ++ [r]) i = rg L i := fun i hi => by simp [rg, List.getD, List.getElem?_append, hi]
  have e1 : rg (L ++ [r]) L.length = r := by simp [rg, List.getD]
  refine ⟨?_, ?_, ?_⟩
  · rw [List.length_append]; simpa [hv] using hown
  · intro i hi
    rw [List.length_append] at hi
    simp only [List.length_singleton] at hi
    by_cases h1 : i < L.length
    · rw [e0 i h1]; exact owns_keeps (h.inn i h1) hk (by have := h.io h1; simpa using this)
    · have : i = L.length := by omega
      subst this
      rw [e1]; exact owns_keeps hr hk (by simpa using hrv)
  · intro i j hi hj hne
    rw [List.length_append] at hi hj
    simp only [List.length_singleton] at hi hj
    by_cases h1 : i < L.length
    · by_cases h2 : j < L.length
      · rw [e0 i h1, e0 j h2]; exact h.dis i j h1 h2 hne
      · have : j = L.length := by omega
        subst this
        rw [e0 i h1, e1]; exact none_or_symm (hd i h1)
    · have : i = L.length := by omega
      subst this
      rw [e1, e0 j (by omega)]; exact hd j (by omega)
theorem OwnQ.cell {g n c k : Nat} (h : OwnQ w B (.slice (some ⟨g, 0, none⟩) n c) L) (hn : n = L.length) (hk : k < L.length) : w.cell? ⟨g, k, none⟩ = some (rg L k).val ∧ w.frozen? ⟨g, k, none⟩ = false := by
  subst hn
  exact ⟨by rw [h.out.cellAt k (by omega)]; exact hv_get hk, h.out.frozenAt k⟩
theorem OwnQ.nil (w : World) (B : Nat) : OwnQ w B (.slice none 0 0) [] := ⟨World.ownsRow_nil _ _ _ _, (fun i hi => by cases hi), (fun i j hi => by cases hi)⟩
theorem OwnQ.made (w : World) (hB : B ≤ w.heap.size) : OwnQ (w.alloc (.cells #[] 84)) B (.slice (some ⟨w.heap.size, 0, none⟩) 0 0) [] :=
  ⟨World.ownsRow_made w #[] 0 hB (by decide) (by simp), (fun i hi => by cases hi), (fun i j hi => by cases hi)⟩
end
theorem OwnQ.push {wr w1 : World} {B g cap n : Nat} {v : Value} {R : List Row} {ws : List Int} (hR : OwnQ wr B v R) (hb : Below wr.heap.size wr w1) (ho : w1.ownsRow wr.heap.size 3 1 (.slice (some ⟨g, 0, none⟩) n cap) n (iv ws)) (hn : n = ws.length) (hB : B ≤ wr.heap.size)
    {o : Obj} {g2 c2 : Nat} {w3 : World} (hown : w3.ownsRow B 84 1 (.slice (some ⟨g2, 0, none⟩) (R.length + 1) c2) (R.length + 1) (hv R ++ [.slice (some ⟨g, 0, none⟩) n cap])) (hg : (w1.alloc o).grownBy w3 v.ownBlock) :
    OwnQ w3 B (.slice (some ⟨g2, 0, none⟩) (R.length + 1) c2) (R ++ [⟨some ⟨g, 0, none⟩, cap, ws⟩]) := by
  subst hn
  refine (hR.later hb).app (r := ⟨some ⟨g, 0, none⟩, cap, ws⟩) (ho.mono hB) ?_ hown hg
  intro i hi
  refine .inr fun e => ?_
  have h1 := (ho.lt g rfl).1
  have h2 := ((hR.inn i hi).lt g (by rw [← e]; rfl)).2
  omega

end Go.Proofs.YtpchigdhnnkpcaaGreatDoor

namespace Go.Proofs.YtpchigdhnnkpcaaGreatDoor
open Go.RowKit

/-- the table of trailing zeros lies where the program's start lays it -/
def Tab (w : World) : Prop := ∀ j, j < 64 → w.cell? ⟨0, j, none⟩ = some (.int .u8 ((Lib.deBruijn64tab.getD j 0 : Nat) : Int))

set_option maxHeartbeats 1000000 in
theorem tz64_core (x k idx : Nat) (w : World) (hx0 : ((x : Int) == 0) = false)
    (key : IntKind.u64.wrap (bits BinOp.and IntKind.u64 (x : Int) (IntKind.u64.wrap (-(x : Int))) * 285870213051353865) / 288230376151711744 = (idx : Int))
    (hi : idx < 64) (hk : k < 64) (hcell : w.cell? ⟨0, idx, none⟩ = some (.int .u8 k)) :
    Calls Tryz.prog 112 #[.int .u64 x] w fun e w' => e = .returned (.int .i64 k) ∧ w = w' := by
  go_enter Tryz.func112, Tryz.ntmps112
  go_wp2_with (simp only [key])
  go_ret
  exact ⟨rfl, rfl⟩

theorem tz64_key (x a : Nat) (hx : x < 18446744073709551616) (hx0 : x ≠ 0) (hlow : x &&& (18446744073709551616 - x) = a) :
    IntKind.u64.wrap (bits BinOp.and IntKind.u64 (x : Int) (IntKind.u64.wrap (-(x : Int))) * 285870213051353865) / 288230376151711744 = ((a * 285870213051353865 % 18446744073709551616 / 288230376151711744 : Nat) : Int) := by
  have e1 : IntKind.u64.wrap (-(x : Int)) = ((18446744073709551616 - x : Nat) : Int) := by rw [IntKind.wrap_u64]; omega
  rw [e1, bits_and_u64_nat x _ hx (by omega), hlow, IntKind.wrap_u64]
  omega

theorem tz64 (x : Nat) (hx0 : x ≠ 0) (hx : Sm x) (w : World) (hT : Tab w) :
    Calls Tryz.prog 112 #[.int .u64 x] w fun e w' => e = .returned (.int .i64 (pv x)) ∧ w = w' := by
  unfold Sm at hx
  obtain ⟨hlow, hk⟩ := Lib.lowest_bit 64 x hx0 (by omega)
  obtain ⟨hi, htab⟩ := Lib.deBruijn64_at _ hk
  have hcell := hT _ hi
  rw [htab] at hcell
  exact tz64_core x _ _ w (by simp; omega) (tz64_key x _ (by omega) hx0 hlow) hi hk hcell

theorem u64_of_sm {x : Nat} (h : Sm x) : IntKind.u64.wrap (x : Int) = x := by unfold Sm at h; rw [IntKind.wrap_u64]; omega

set_option maxHeartbeats 400000 in
theorem pivot_any (x : Nat) (hx0 : x ≠ 0) (hx : Sm x) (w : World) (hT : Tab w) :
    Calls Tryz.prog 90 #[.int .i64 x] w fun e w' => e = .returned (.int .i64 (pv x)) ∧ w = w' := by
  have hc := u64_of_sm hx
  go_enter Tryz.func90, Tryz.ntmps90
  go_wp2_with (go_at_call 112; refine (tz64 x hx0 hx _ hT).mono ?_; rintro e w' ⟨rfl, rfl⟩)
  go_ret
  exact ⟨rfl, rfl⟩
end Go.Proofs.YtpchigdhnnkpcaaGreatDoor

namespace Go.Proofs.YtpchigdhnnkpcaaGreatDoor
open Go.RowKit

attribute [local go_sem] i64_xor_nat i64_bit_test in
set_option maxHeartbeats 1000000 in
theorem left_any (bs : Nat) (A A' : Option Addr) (n c c' : Nat) (L : List (Nat × Nat)) (x y : Nat) (w : World) (hT : Tab w) (hn : n = L.length) (hsmall : n ≤ 1000000)
    (hx : Sm x) (hy : Sm y) (hg : Good L)
    (h0 : w.cell? ⟨bs, 0, none⟩ = some (.slice A n c)) (h1 : w.cell? ⟨bs, 1, none⟩ = some (.slice A' n c'))
    (hA : Rd w A (nv (r1 L))) (hA' : Rd w A' (nv (r2 L))) :
    Calls Tryz.prog 95 #[.pointer (some ⟨bs, 0, none⟩), .int .i64 x, .int .i64 y] w fun e w' =>
      e = .returned (.tuple #[.int .i64 (leftN L (x, y)).1, .int .i64 (leftN L (x, y)).2]) ∧ ∃ m, w' = w.drewN m := by
  have Hn := Lib.hid hn; clear hn
  go_enter Tryz.func95, Tryz.ntmps95
  go_wp2_with fail
  go_loopw [1, 2, 15] (fun v u i wr => ∃ k : Nat, k ≤ n ∧ i = .int .i64 k ∧ (∃ m, wr = w.drewN m) ∧ v = .int .i64 (leftN (L.take k) (x, y)).1 ∧ u = .int .i64 (leftN (L.take k) (x, y)).2) (fun _ _ i _ => n - (intOf i).toNat)
  case atStart => exact ⟨0, by omega, rfl, ⟨0, rfl⟩, rfl, rfl⟩
  case round =>
    obtain ⟨k, hk, rfl, ⟨m, rfl⟩, rfl, rfl⟩ := hrel
    by_cases hlt : k < n
    · have hkL : k < L.length := by rw [← Hn.out]; exact hlt
      obtain ⟨b, o, rfl, hc⟩ := hA.atN (k := k) (by rw [r1_length]; exact hkL)
      obtain ⟨b', o', rfl, hc'⟩ := hA'.atN (k := k) (by rw [r2_length]; exact hkL)
      rw [r1_getD] at hc; rw [r2_getD] at hc'
      obtain ⟨g0, g1, g2⟩ := hg.at_ hkL
      have Hs := Lib.hid (fold_take_succ leftStep (x, y) L k (0, 0) hkL)
      have hp : SmP (leftN (L.take k) (x, y)) := SmP.foldl (hg.take k) ⟨hx, hy⟩
      obtain ⟨p1, p2⟩ := hp
      have hpv := pv_le g0 g1
      generalize hP : leftN (L.take k) (x, y) = p at *
      generalize hR : L.getD k (0, 0) = r at *
      have HP := Lib.hid hP; clear hP
      have HR := Lib.hid hR; clear hR hA hA' hg
      have hpiv := fun (W : World) (hT : Tab W) => pivot_any r.1 g0 g1 W hT
      have HV := Lib.hid hpiv; clear hpiv
      cases hb : tb p.1 (pv r.1)
      · go_wp2_with (go_at_call 90; refine (HV.out _ (by exact hT)).mono ?_; rintro e w' ⟨rfl, rfl⟩)
        go_roundw
        case rel => exact ⟨k + 1, by omega, by go_num, ⟨m, rfl⟩, by unfold leftN at *; rw [Hs.out, HP.out]; simp [leftStep, hb], by unfold leftN at *; rw [Hs.out, HP.out]; simp [leftStep, hb]⟩
        case measure => simp [intOf]; omega
      · go_wp2_with (go_at_call 90; refine (HV.out _ (by exact hT)).mono ?_; rintro e w' ⟨rfl, rfl⟩)
        go_quiet (fail)
        go_wp2_with fail
        go_roundw
        case rel => exact ⟨k + 1, by omega, by go_num, ⟨_, rfl⟩, by unfold leftN at *; rw [Hs.out, HP.out]; simp [leftStep, hb], by unfold leftN at *; rw [Hs.out, HP.out]; simp [leftStep, hb]⟩
        case measure => simp [intOf]; omega
    · go_wp2_with fail
      go_ret2
      have e : L.take k = L := List.take_of_length_le (by rw [← Hn.out]; omega)
      rw [e]
      exact ⟨rfl, m, rfl⟩
end Go.Proofs.YtpchigdhnnkpcaaGreatDoor
