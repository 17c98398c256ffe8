/- the reference's l12Is · the reference's l12Two, l12Code, IsModuleMap, ApplyMap · parts of maps: results; the reference's ImageOfMap -/
import Derived.Test.YtpchigdhnnkpcaaGreatDoorBxak
import Derived.Test.YtpchigdhnnkpcaaGreatDoorBxal
import Derived.Test.YtpchigdhnnkpcaaGreatDoorBxam
import Derived.Test.YtpchigdhnnkpcaaGreatDoorBxar
import Derived.Test.YtpchigdhnnkpcaaGreatDoorBxab
import Derived.Deep.RegionHeld3
set_option linter.all false
namespace Go.Proofs.YtpchigdhnnkpcaaGreatDoor
open Go.RowKit

theorem shl_wrap {t : Nat} (h : t ≤ 62) : IntKind.i64.wrap ((2 : Int) ^ min (IntKind.u64.wrap (t : Int)).toNat 64) = (2 : Int) ^ t := by
  have e : min (IntKind.u64.wrap (t : Int)).toNat 64 = t := by
    have : IntKind.u64.wrap (t : Int) = (t : Int) := by rw [IntKind.wrap_u64]; omega
    rw [this]; omega
  obtain ⟨p1, p2⟩ := pow62 h
  rw [e, IntKind.wrap_i64]
  generalize (2 : Int) ^ t = z at *
  omega
theorem sm16 {v n : Nat} (hn : n ≤ 16) (h : v < 2 ^ n) : Sm v := sm_pow (by omega) h
theorem mks_rg {P : List Row} {i : Nat} (h : i < P.length) : ((dat P).map mk).getD i 0 = mk (rg P i).xs := by rw [mks_getD (by rw [dat_length]; exact h), dat_getD]
set_option maxRecDepth 100000 in
set_option maxHeartbeats 8000000 in
theorem l12Is_any (A A' B B' W : Option Addr) (n c m c' p d q d' k cw : Nat) (xs ys : List Int) (L M P : List Row) (w : World)
    (hM : ModR w A n A' m xs L) (hs : Shp xs (dat L)) (hN : ModR w B p B' q ys M) (ht : Shp ys (dat M)) (hk : k = P.length) (hk1 : k ≤ 1048576) (hl : ∀ i, i < P.length → (rg P i).xs.length ≤ 1048576) (hP : RdR w W P) :
    Calls Tryz.prog 77 #[.agg #[.slice A n c, .slice A' m c'], .agg #[.slice B p d, .slice B' q d'], .slice W k cw] w fun e w' => e = .returned (.bool (mapB xs (dat L) ys (dat M) (dat P))) ∧ Below w.heap.size w w' := by
  have hn16 : n ≤ 16 := by rw [hM.hn]; exact hs.len
  have hp16 : p ≤ 16 := by rw [hN.hn]; exact ht.len
  have hb0 : Below w.heap.size w ((w.alloc (.cells #[.slice A n c, .slice A' m c'] 29)).alloc (.cells #[.slice B p d, .slice B' q d'] 29)) := ((Below.refl _ _).alloc (Nat.le_refl _) _).alloc (by simp) _
  have HK1 := Lib.hid (blk_alloc (blk_new w (.cells #[.slice A n c, .slice A' m c'] 29)) (.cells #[.slice B p d, .slice B' q d'] 29))
  have HK2 := Lib.hid (blk_new1 w (.cells #[.slice A n c, .slice A' m c'] 29) (.cells #[.slice B p d, .slice B' q d'] 29))
  have HB0 := Lib.hid hb0
  have HM := Lib.hid hM
  have HN := Lib.hid hN
  have HS := Lib.hid hs
  have HT := Lib.hid ht
  have HP := Lib.hid hP
  have Hk := Lib.hid hk
  have HL := Lib.hid hl
  have Hn := Lib.hid hM.hn
  have Hp := Lib.hid hN.hn
  clear hM hN hs ht hP hk hl hb0
  obtain ⟨x0, x1, xf0, xf1, lx⟩ := blk2cells HK1.out
  obtain ⟨y0, y1, yf0, yf1, ly⟩ := blk2cells HK2.out
  by_cases hkn : k = n
  · subst hkn
    go_enter Tryz.func77, Tryz.ntmps77
    go_wp2_with fail
    clear x0 x1 xf0 xf1 lx y0 y1 yf0 yf1 ly
    go_loopw [7] (fun s7 wr => ∃ i : Nat, i ≤ k ∧ s7 = .int .i64 i ∧ Hid (∀ t, t < i → vecB p (rg P t).xs = true ∧ Hom ys (xs.getD t 0) (mk (rg P t).xs)) ∧ Below ((w.alloc (.cells #[.slice A k c, .slice A' m c'] 29)).alloc (.cells #[.slice B p d, .slice B' q d'] 29)).heap.size ((w.alloc (.cells #[.slice A k c, .slice A' m c'] 29)).alloc (.cells #[.slice B p d, .slice B' q d'] 29)) wr) (fun i _ => k - (intOf i).toNat)
    case atStart => exact ⟨0, by omega, rfl, Lib.hid (fun t ht => by omega), Below.refl _ _⟩
    case round =>
      obtain ⟨i, hi, rfl, HQ, hbel⟩ := hrel
      have HBL := Lib.hid hbel
      have HB1 := Lib.hid (HB0.out.trans (hbel.mono HB0.out.size))
      have HK1a := Lib.hid (blk_kept HK1.out hbel)
      have HK2a := Lib.hid (blk_kept HK2.out hbel)
      by_cases hlt : i < k
      · have hiP : i < P.length := by rw [← Hk.out]; exact hlt
        obtain ⟨b, o, rfl, hc⟩ := (HP.out.below HB1.out).at_ hiP
        have hin := (HP.out.below HB1.out).inn i hiP
        have hle := HL.out i hiP
        obtain ⟨b2, o2, rfl, hc2⟩ := (HM.out.deg.below HB1.out).atI (k := i) (by rw [← Hn.out]; exact hlt)
        generalize hdd : xs.getD i 0 = dd at *
        have HDD := Lib.hid hdd
        clear hdd
        have HRG : Hid (∃ r : Row, rg P i = r) := Lib.hid ⟨_, rfl⟩
        obtain ⟨r, hr⟩ := HRG.out
        rw [hr] at hc hin hle
        have HR := Lib.hid hr
        clear hr HRG
        obtain ⟨rA, rc, rx⟩ := r
        simp only at hc hin hle
        have HV := Lib.hid (fun W' (hb : Below wr.heap.size wr W') => l11Vector_any (some ⟨b2, o2, none⟩) A' rA k c m c' rx.length rc rx W' rfl (by omega) (hin.below hb))
        have HV2 := Lib.hid (fun W' (hb : Below wr.heap.size wr W') => l11Vector_any B B' rA p d q d' rx.length rc rx W' rfl (by omega) (hin.below hb))
        have KS := Lib.hid (fun w' (hb : Below wr.heap.size wr w') => show w'.cell? ⟨w.heap.size + 1, 0, none⟩ = some (.slice B p d) ∧ w'.cell? ⟨w.heap.size + 1, 1, none⟩ = some (.slice B' q d') ∧ w'.cell? ⟨w.heap.size, 0, none⟩ = some (.slice (some ⟨b2, o2, none⟩) k c) ∧ w'.cell? ⟨b, o + i, none⟩ = some (.slice rA rx.length rc) ∧ w'.cell? ⟨b2, o2 + i, none⟩ = some (.int .i64 dd) from by
          obtain ⟨x0, x1, _⟩ := blk2cells (blk_kept HK1a.out hb)
          obtain ⟨y0, y1, _⟩ := blk2cells (blk_kept HK2a.out hb)
          exact ⟨y0, y1, x0, cell_keep hc hb, cell_keep hc2 hb⟩)
        have HB_0 := Lib.hid (Below.drew (Below.refl wr.heap.size wr))
        cases hvb : vecB p rx
        · have HF : Hid (mapB xs (dat L) ys (dat M) (dat P) = false) := Lib.hid (mapB_no (fun h => by
            have h1 := h.vec i (by rw [dat_length]; exact hiP)
            rw [dat_getD, HR.out, ← Hp.out, hvb] at h1; cases h1))
          rw [hvb] at HV2
          clear hbel hin hle hc hc2 hvb hiP
          go_wp2_with fail
          refine wp_region_held_drew (S := (fun w' => w'.cell? ⟨w.heap.size + 1, 0, none⟩ = some (.slice B p d) ∧ w'.cell? ⟨w.heap.size + 1, 1, none⟩ = some (.slice B' q d') ∧ w'.cell? ⟨w.heap.size, 0, none⟩ = some (.slice (some ⟨b2, o2, none⟩) k c) ∧ w'.cell? ⟨b, o + i, none⟩ = some (.slice rA rx.length rc) ∧ w'.cell? ⟨b2, o2 + i, none⟩ = some (.int .i64 dd))) (by kernel_rfl) (by first | exact KS.out _ HB_0.out | exact KS.out _ HB_1.out) (fun hHeld => ?_)
          refine wpAnyH_take (i := 0) (oi := ?ob0) (v := ?vb0) ?hb0 (by kernel_rfl) (by kernel_rfl) (by kernel_rfl) ?qb0 (Or.inl ⟨?wb0, ?yb0⟩) (by assumption) ?rb0
          case hb0 => (simp only [List.getElem?_toArray, List.getElem?_cons_succ, List.getElem?_cons_zero]; rfl)
          case qb0 => exact fun _ _ _ h => h
          case wb0 => rfl
          case yb0 => (intro w hSw; (try dsimp only at hSw); go_simp <;> with_reducible rfl)
          try simp only [Act.put, List.setIfInBounds_toArray, List.set_cons_zero, List.set_cons_succ]
          refine wpAnyH_take (i := 1) (oi := ?ob1) (v := ?vb1) ?hb1 (by kernel_rfl) (by kernel_rfl) (by kernel_rfl) ?qb1 (Or.inl ⟨?wb1, ?yb1⟩) (by assumption) ?rb1
          case hb1 => (simp only [List.getElem?_toArray, List.getElem?_cons_succ, List.getElem?_cons_zero]; rfl)
          case qb1 => exact fun _ _ _ h => h
          case wb1 => rfl
          case yb1 => (intro w hSw; (try dsimp only at hSw); go_simp <;> with_reducible rfl)
          try simp only [Act.put, List.setIfInBounds_toArray, List.set_cons_zero, List.set_cons_succ]
          refine wpAnyH_take (i := 2) (oi := ?ob2) (v := ?vb2) ?hb2 (by kernel_rfl) (by kernel_rfl) (by kernel_rfl) ?qb2 (Or.inl ⟨?wb2, ?yb2⟩) (by assumption) ?rb2
          case hb2 => (simp only [List.getElem?_toArray, List.getElem?_cons_succ, List.getElem?_cons_zero]; rfl)
          case qb2 => exact fun _ _ _ h => h
          case wb2 => rfl
          case yb2 => (intro w hSw; (try dsimp only at hSw); go_simp <;> with_reducible rfl)
          try simp only [Act.put, List.setIfInBounds_toArray, List.set_cons_zero, List.set_cons_succ]
          refine wpAnyH_take (i := 3) (oi := ?ob3) (v := ?vb3) ?hb3 (by kernel_rfl) (by kernel_rfl) (by kernel_rfl) ?qb3 (Or.inl ⟨?wb3, ?yb3⟩) (by assumption) ?rb3
          case hb3 => (simp only [List.getElem?_toArray, List.getElem?_cons_succ, List.getElem?_cons_zero]; rfl)
          case qb3 => exact fun _ _ _ h => h
          case wb3 => rfl
          case yb3 => (intro w hSw; (try dsimp only at hSw); go_simp <;> with_reducible rfl)
          try simp only [Act.put, List.setIfInBounds_toArray, List.set_cons_zero, List.set_cons_succ]
          refine wpAnyH_take (i := 4) (oi := ?ob4) (v := ?vb4) ?hb4 (by kernel_rfl) (by kernel_rfl) (by kernel_rfl) ?qb4 (Or.inl ⟨?wb4, ?yb4⟩) (by assumption) ?rb4
          case hb4 => (simp only [List.getElem?_toArray, List.getElem?_cons_succ, List.getElem?_cons_zero]; rfl)
          case qb4 => exact fun _ _ _ h => h
          case wb4 => rfl
          case yb4 => (intro w hSw; (try dsimp only at hSw); go_simp <;> with_reducible rfl)
          try simp only [Act.put, List.setIfInBounds_toArray, List.set_cons_zero, List.set_cons_succ]
          refine wpAnyH_ready (rs := [5]) (by kernel_rfl) (by simp) ?_
          refine AllReadyH.cons (o := ?ob5) ?hb5 (fun K hK => ?kb5) AllReadyH.nil
          case hb5 => (simp only [List.getElem?_toArray, List.getElem?_cons_succ, List.getElem?_cons_zero]; rfl)
          go_simp
          (go_at_call 98; (with_reducible refine (HV2.out _ HB_0.out).mono ?_); (rintro e w1 ⟨rfl, hb⟩; have HB_1 := Lib.hid (HB_0.out.trans (hb.mono HB_0.out.size)); clear hb))
          refine hK.out _ _ (by first | exact KS.out _ HB_0.out | exact KS.out _ HB_1.out) (fun hHeld => ?_)
          clear hK K
          try simp only [Act.put, List.setIfInBounds_toArray, List.set_cons_zero, List.set_cons_succ]
          refine wpAnyH_take (i := 6) (oi := ?ob6) (v := ?vb6) ?hb6 (by kernel_rfl) (by kernel_rfl) (by kernel_rfl) ?qb6 (Or.inl ⟨?wb6, ?yb6⟩) (by assumption) ?rb6
          case hb6 => (simp only [List.getElem?_toArray, List.getElem?_cons_succ, List.getElem?_cons_zero]; rfl)
          case qb6 => exact fun _ _ _ h => h
          case wb6 => rfl
          case yb6 => (intro w hSw; (try dsimp only at hSw); go_simp <;> with_reducible rfl)
          try simp only [Act.put, List.setIfInBounds_toArray, List.set_cons_zero, List.set_cons_succ]
          refine wpAnyH_take (i := 7) (oi := ?ob7) (v := ?vb7) ?hb7 (by kernel_rfl) (by kernel_rfl) (by kernel_rfl) ?qb7 (Or.inl ⟨?wb7, ?yb7⟩) (by assumption) ?rb7
          case hb7 => (simp only [List.getElem?_toArray, List.getElem?_cons_succ, List.getElem?_cons_zero]; rfl)
          case qb7 => exact fun _ _ _ h => h
          case wb7 => rfl
          case yb7 => (intro w hSw; (try dsimp only at hSw); go_simp <;> with_reducible rfl)
          try simp only [Act.put, List.setIfInBounds_toArray, List.set_cons_zero, List.set_cons_succ]
          refine wpAnyH_take (i := 8) (oi := ?ob8) (v := undef) ?hb8 (by kernel_rfl) (by kernel_rfl) (by kernel_rfl) ?qb8 (Or.inr ⟨?wb8, rfl⟩) (by assumption) ?rb8
          case hb8 => (simp only [List.getElem?_toArray, List.getElem?_cons_succ, List.getElem?_cons_zero]; rfl)
          case qb8 => exact fun _ _ _ h => h
          case wb8 => rfl
          try simp only [Act.put, List.setIfInBounds_toArray, List.set_cons_zero, List.set_cons_succ]
          refine wpAnyH_take (i := 9) (oi := ?ob9) (v := undef) ?hb9 (by kernel_rfl) (by kernel_rfl) (by kernel_rfl) ?qb9 (Or.inr ⟨?wb9, rfl⟩) (by assumption) ?rb9
          case hb9 => (simp only [List.getElem?_toArray, List.getElem?_cons_succ, List.getElem?_cons_zero]; rfl)
          case qb9 => exact fun _ _ _ h => h
          case wb9 => rfl
          try simp only [Act.put, List.setIfInBounds_toArray, List.set_cons_zero, List.set_cons_succ]
          refine wpAnyH_take (i := 10) (oi := ?ob10) (v := undef) ?hb10 (by kernel_rfl) (by kernel_rfl) (by kernel_rfl) ?qb10 (Or.inr ⟨?wb10, rfl⟩) (by assumption) ?rb10
          case hb10 => (simp only [List.getElem?_toArray, List.getElem?_cons_succ, List.getElem?_cons_zero]; rfl)
          case qb10 => exact fun _ _ _ h => h
          case wb10 => rfl
          try simp only [Act.put, List.setIfInBounds_toArray, List.set_cons_zero, List.set_cons_succ]
          refine wpAnyH_take (i := 11) (oi := ?ob11) (v := undef) ?hb11 (by kernel_rfl) (by kernel_rfl) (by kernel_rfl) ?qb11 (Or.inr ⟨?wb11, rfl⟩) (by assumption) ?rb11
          case hb11 => (simp only [List.getElem?_toArray, List.getElem?_cons_succ, List.getElem?_cons_zero]; rfl)
          case qb11 => exact fun _ _ _ h => h
          case wb11 => rfl
          try simp only [Act.put, List.setIfInBounds_toArray, List.set_cons_zero, List.set_cons_succ]
          refine wpAnyH_take (i := 12) (oi := ?ob12) (v := undef) ?hb12 (by kernel_rfl) (by kernel_rfl) (by kernel_rfl) ?qb12 (Or.inr ⟨?wb12, rfl⟩) (by assumption) ?rb12
          case hb12 => (simp only [List.getElem?_toArray, List.getElem?_cons_succ, List.getElem?_cons_zero]; rfl)
          case qb12 => exact fun _ _ _ h => h
          case wb12 => rfl
          try simp only [Act.put, List.setIfInBounds_toArray, List.set_cons_zero, List.set_cons_succ]
          refine wpAnyH_take (i := 13) (oi := ?ob13) (v := undef) ?hb13 (by kernel_rfl) (by kernel_rfl) (by kernel_rfl) ?qb13 (Or.inr ⟨?wb13, rfl⟩) (by assumption) ?rb13
          case hb13 => (simp only [List.getElem?_toArray, List.getElem?_cons_succ, List.getElem?_cons_zero]; rfl)
          case qb13 => exact fun _ _ _ h => h
          case wb13 => rfl
          try simp only [Act.put, List.setIfInBounds_toArray, List.set_cons_zero, List.set_cons_succ]
          refine wpAnyH_take (i := 14) (oi := ?ob14) (v := undef) ?hb14 (by kernel_rfl) (by kernel_rfl) (by kernel_rfl) ?qb14 (Or.inr ⟨?wb14, rfl⟩) (by assumption) ?rb14
          case hb14 => (simp only [List.getElem?_toArray, List.getElem?_cons_succ, List.getElem?_cons_zero]; rfl)
          case qb14 => exact fun _ _ _ h => h
          case wb14 => rfl
          try simp only [Act.put, List.setIfInBounds_toArray, List.set_cons_zero, List.set_cons_succ]
          refine wpAnyH_take (i := 15) (oi := ?ob15) (v := undef) ?hb15 (by kernel_rfl) (by kernel_rfl) (by kernel_rfl) ?qb15 (Or.inr ⟨?wb15, rfl⟩) (by assumption) ?rb15
          case hb15 => (simp only [List.getElem?_toArray, List.getElem?_cons_succ, List.getElem?_cons_zero]; rfl)
          case qb15 => exact fun _ _ _ h => h
          case wb15 => rfl
          try simp only [Act.put, List.setIfInBounds_toArray, List.set_cons_zero, List.set_cons_succ]
          refine wpAnyH_take (i := 16) (oi := ?ob16) (v := undef) ?hb16 (by kernel_rfl) (by kernel_rfl) (by kernel_rfl) ?qb16 (Or.inr ⟨?wb16, rfl⟩) (by assumption) ?rb16
          case hb16 => (simp only [List.getElem?_toArray, List.getElem?_cons_succ, List.getElem?_cons_zero]; rfl)
          case qb16 => exact fun _ _ _ h => h
          case wb16 => rfl
          try simp only [Act.put, List.setIfInBounds_toArray, List.set_cons_zero, List.set_cons_succ]
          refine wpAnyH_take (i := 17) (oi := ?ob17) (v := undef) ?hb17 (by kernel_rfl) (by kernel_rfl) (by kernel_rfl) ?qb17 (Or.inr ⟨?wb17, rfl⟩) (by assumption) ?rb17
          case hb17 => (simp only [List.getElem?_toArray, List.getElem?_cons_succ, List.getElem?_cons_zero]; rfl)
          case qb17 => exact fun _ _ _ h => h
          case wb17 => rfl
          try simp only [Act.put, List.setIfInBounds_toArray, List.set_cons_zero, List.set_cons_succ]
          refine wpAnyH_take (i := 18) (oi := ?ob18) (v := undef) ?hb18 (by kernel_rfl) (by kernel_rfl) (by kernel_rfl) ?qb18 (Or.inr ⟨?wb18, rfl⟩) (by assumption) ?rb18
          case hb18 => (simp only [List.getElem?_toArray, List.getElem?_cons_succ, List.getElem?_cons_zero]; rfl)
          case qb18 => exact fun _ _ _ h => h
          case wb18 => rfl
          try simp only [Act.put, List.setIfInBounds_toArray, List.set_cons_zero, List.set_cons_succ]
          refine wpAnyH_take (i := 19) (oi := ?ob19) (v := undef) ?hb19 (by kernel_rfl) (by kernel_rfl) (by kernel_rfl) ?qb19 (Or.inr ⟨?wb19, rfl⟩) (by assumption) ?rb19
          case hb19 => (simp only [List.getElem?_toArray, List.getElem?_cons_succ, List.getElem?_cons_zero]; rfl)
          case qb19 => exact fun _ _ _ h => h
          case wb19 => rfl
          try simp only [Act.put, List.setIfInBounds_toArray, List.set_cons_zero, List.set_cons_succ]
          refine wpAnyH_take (i := 20) (oi := ?ob20) (v := undef) ?hb20 (by kernel_rfl) (by kernel_rfl) (by kernel_rfl) ?qb20 (Or.inr ⟨?wb20, rfl⟩) (by assumption) ?rb20
          case hb20 => (simp only [List.getElem?_toArray, List.getElem?_cons_succ, List.getElem?_cons_zero]; rfl)
          case qb20 => exact fun _ _ _ h => h
          case wb20 => rfl
          try simp only [Act.put, List.setIfInBounds_toArray, List.set_cons_zero, List.set_cons_succ]
          refine wpAnyH_take (i := 21) (oi := ?ob21) (v := undef) ?hb21 (by kernel_rfl) (by kernel_rfl) (by kernel_rfl) ?qb21 (Or.inr ⟨?wb21, rfl⟩) (by assumption) ?rb21
          case hb21 => (simp only [List.getElem?_toArray, List.getElem?_cons_succ, List.getElem?_cons_zero]; rfl)
          case qb21 => exact fun _ _ _ h => h
          case wb21 => rfl
          try simp only [Act.put, List.setIfInBounds_toArray, List.set_cons_zero, List.set_cons_succ]
          refine wpAnyH_take (i := 22) (oi := ?ob22) (v := ?vb22) ?hb22 (by kernel_rfl) (by kernel_rfl) (by kernel_rfl) ?qb22 (Or.inl ⟨?wb22, ?yb22⟩) (by assumption) ?rb22
          case hb22 => (simp only [List.getElem?_toArray, List.getElem?_cons_succ, List.getElem?_cons_zero]; rfl)
          case qb22 => exact fun _ _ _ h => h
          case wb22 => rfl
          case yb22 => (intro w hSw; (try dsimp only at hSw); go_simp <;> with_reducible rfl)
          try simp only [Act.put, List.setIfInBounds_toArray, List.set_cons_zero, List.set_cons_succ]
          refine wpAnyH_done (by kernel_rfl) ?_ _
          go_wp2_with fail
          go_ret
          exact ⟨by rw [HF.out]; rfl, HB1.out.trans (HB_1.out.mono HB1.out.size)⟩
        · obtain ⟨e1, e2, e3⟩ := vec_row hvb
          have HVB : Hid (vecB p rx = true) := Lib.hid hvb
          rw [e1] at hc hle HV2 KS
          rw [e2] at hin
          rw [hvb] at HV2
          generalize hmk : mk rx = v at *
          have HMK := Lib.hid hmk
          have HMA := Lib.hid (fun W' (hb : Below wr.heap.size wr W') => l12Mask_any rA p rc v W' (by omega) e3 (hin.below hb))
          have HDE := Lib.hid (fun W' (hb : Below wr.heap.size wr W') => l12Degree_any B B' p d q d' ys dd W' Hp.out (by omega) ((HN.out.deg.below HB1.out).below hb))
          have hand := i64_andnot_nat (sm16 hp16 e3) (sm16 HT.out.len (dmask_lt ys dd))
          have HH : Hid (nt v (dmask ys dd) = 0 ↔ Hom ys dd v) := Lib.hid nt_hom
          generalize dmask ys dd = u at *
          generalize nt v u = z at *
          have HHF : Hid (z ≠ 0 → mapB xs (dat L) ys (dat M) (dat P) = false) := Lib.hid (fun hz => mapB_no (fun h => by
            have h1 := h.hom i (by rw [dat_length]; exact hiP)
            rw [dat_getD, HR.out, HDD.out] at h1
            simp only [HMK.out] at h1
            exact hz (HH.out.2 h1)))
          clear hbel hin hle hc hc2 hvb hiP e1 e2 e3 hmk
          go_wp2_with fail
          refine wp_region_held_drew (S := (fun w' => w'.cell? ⟨w.heap.size + 1, 0, none⟩ = some (.slice B p d) ∧ w'.cell? ⟨w.heap.size + 1, 1, none⟩ = some (.slice B' q d') ∧ w'.cell? ⟨w.heap.size, 0, none⟩ = some (.slice (some ⟨b2, o2, none⟩) k c) ∧ w'.cell? ⟨b, o + i, none⟩ = some (.slice rA p rc) ∧ w'.cell? ⟨b2, o2 + i, none⟩ = some (.int .i64 dd))) (by kernel_rfl) (by first | exact KS.out _ HB_0.out | exact KS.out _ HB_1.out | exact KS.out _ HB_2.out) (fun hHeld => ?_)
          refine wpAnyH_take (i := 0) (oi := ?oc0) (v := ?vc0) ?hc0 (by kernel_rfl) (by kernel_rfl) (by kernel_rfl) ?qc0 (Or.inl ⟨?wc0, ?yc0⟩) (by assumption) ?rc0
          case hc0 => (simp only [List.getElem?_toArray, List.getElem?_cons_succ, List.getElem?_cons_zero]; rfl)
          case qc0 => exact fun _ _ _ h => h
          case wc0 => rfl
          case yc0 => (intro w hSw; (try dsimp only at hSw); go_simp <;> with_reducible rfl)
          try simp only [Act.put, List.setIfInBounds_toArray, List.set_cons_zero, List.set_cons_succ]
          refine wpAnyH_take (i := 1) (oi := ?oc1) (v := ?vc1) ?hc1 (by kernel_rfl) (by kernel_rfl) (by kernel_rfl) ?qc1 (Or.inl ⟨?wc1, ?yc1⟩) (by assumption) ?rc1
          case hc1 => (simp only [List.getElem?_toArray, List.getElem?_cons_succ, List.getElem?_cons_zero]; rfl)
          case qc1 => exact fun _ _ _ h => h
          case wc1 => rfl
          case yc1 => (intro w hSw; (try dsimp only at hSw); go_simp <;> with_reducible rfl)
          try simp only [Act.put, List.setIfInBounds_toArray, List.set_cons_zero, List.set_cons_succ]
          refine wpAnyH_take (i := 2) (oi := ?oc2) (v := ?vc2) ?hc2 (by kernel_rfl) (by kernel_rfl) (by kernel_rfl) ?qc2 (Or.inl ⟨?wc2, ?yc2⟩) (by assumption) ?rc2
          case hc2 => (simp only [List.getElem?_toArray, List.getElem?_cons_succ, List.getElem?_cons_zero]; rfl)
          case qc2 => exact fun _ _ _ h => h
          case wc2 => rfl
          case yc2 => (intro w hSw; (try dsimp only at hSw); go_simp <;> with_reducible rfl)
          try simp only [Act.put, List.setIfInBounds_toArray, List.set_cons_zero, List.set_cons_succ]
          refine wpAnyH_take (i := 3) (oi := ?oc3) (v := ?vc3) ?hc3 (by kernel_rfl) (by kernel_rfl) (by kernel_rfl) ?qc3 (Or.inl ⟨?wc3, ?yc3⟩) (by assumption) ?rc3
          case hc3 => (simp only [List.getElem?_toArray, List.getElem?_cons_succ, List.getElem?_cons_zero]; rfl)
          case qc3 => exact fun _ _ _ h => h
          case wc3 => rfl
          case yc3 => (intro w hSw; (try dsimp only at hSw); go_simp <;> with_reducible rfl)
          try simp only [Act.put, List.setIfInBounds_toArray, List.set_cons_zero, List.set_cons_succ]
          refine wpAnyH_take (i := 4) (oi := ?oc4) (v := ?vc4) ?hc4 (by kernel_rfl) (by kernel_rfl) (by kernel_rfl) ?qc4 (Or.inl ⟨?wc4, ?yc4⟩) (by assumption) ?rc4
          case hc4 => (simp only [List.getElem?_toArray, List.getElem?_cons_succ, List.getElem?_cons_zero]; rfl)
          case qc4 => exact fun _ _ _ h => h
          case wc4 => rfl
          case yc4 => (intro w hSw; (try dsimp only at hSw); go_simp <;> with_reducible rfl)
          try simp only [Act.put, List.setIfInBounds_toArray, List.set_cons_zero, List.set_cons_succ]
          refine wpAnyH_ready (rs := [5]) (by kernel_rfl) (by simp) ?_
          refine AllReadyH.cons (o := ?oc5) ?hc5 (fun K hK => ?kc5) AllReadyH.nil
          case hc5 => (simp only [List.getElem?_toArray, List.getElem?_cons_succ, List.getElem?_cons_zero]; rfl)
          go_simp
          (go_at_call 98; (with_reducible refine (HV2.out _ HB_0.out).mono ?_); (rintro e w1 ⟨rfl, hb⟩; have HB_1 := Lib.hid (HB_0.out.trans (hb.mono HB_0.out.size)); clear hb))
          refine hK.out _ _ (by first | exact KS.out _ HB_0.out | exact KS.out _ HB_1.out | exact KS.out _ HB_2.out) (fun hHeld => ?_)
          clear hK K
          try simp only [Act.put, List.setIfInBounds_toArray, List.set_cons_zero, List.set_cons_succ]
          refine wpAnyH_take (i := 6) (oi := ?oc6) (v := ?vc6) ?hc6 (by kernel_rfl) (by kernel_rfl) (by kernel_rfl) ?qc6 (Or.inl ⟨?wc6, ?yc6⟩) (by assumption) ?rc6
          case hc6 => (simp only [List.getElem?_toArray, List.getElem?_cons_succ, List.getElem?_cons_zero]; rfl)
          case qc6 => exact fun _ _ _ h => h
          case wc6 => rfl
          case yc6 => (intro w hSw; (try dsimp only at hSw); go_simp <;> with_reducible rfl)
          try simp only [Act.put, List.setIfInBounds_toArray, List.set_cons_zero, List.set_cons_succ]
          refine wpAnyH_take (i := 7) (oi := ?oc7) (v := ?vc7) ?hc7 (by kernel_rfl) (by kernel_rfl) (by kernel_rfl) ?qc7 (Or.inl ⟨?wc7, ?yc7⟩) (by assumption) ?rc7
          case hc7 => (simp only [List.getElem?_toArray, List.getElem?_cons_succ, List.getElem?_cons_zero]; rfl)
          case qc7 => exact fun _ _ _ h => h
          case wc7 => rfl
          case yc7 => (intro w hSw; (try dsimp only at hSw); go_simp <;> with_reducible rfl)
          try simp only [Act.put, List.setIfInBounds_toArray, List.set_cons_zero, List.set_cons_succ]
          refine wpAnyH_take (i := 8) (oi := ?oc8) (v := ?vc8) ?hc8 (by kernel_rfl) (by kernel_rfl) (by kernel_rfl) ?qc8 (Or.inl ⟨?wc8, ?yc8⟩) (by assumption) ?rc8
          case hc8 => (simp only [List.getElem?_toArray, List.getElem?_cons_succ, List.getElem?_cons_zero]; rfl)
          case qc8 => exact fun _ _ _ h => h
          case wc8 => rfl
          case yc8 => (intro w hSw; (try dsimp only at hSw); go_simp <;> with_reducible rfl)
          try simp only [Act.put, List.setIfInBounds_toArray, List.set_cons_zero, List.set_cons_succ]
          refine wpAnyH_take (i := 9) (oi := ?oc9) (v := ?vc9) ?hc9 (by kernel_rfl) (by kernel_rfl) (by kernel_rfl) ?qc9 (Or.inl ⟨?wc9, ?yc9⟩) (by assumption) ?rc9
          case hc9 => (simp only [List.getElem?_toArray, List.getElem?_cons_succ, List.getElem?_cons_zero]; rfl)
          case qc9 => exact fun _ _ _ h => h
          case wc9 => rfl
          case yc9 => (intro w hSw; (try dsimp only at hSw); go_simp <;> with_reducible rfl)
          try simp only [Act.put, List.setIfInBounds_toArray, List.set_cons_zero, List.set_cons_succ]
          refine wpAnyH_take (i := 10) (oi := ?oc10) (v := ?vc10) ?hc10 (by kernel_rfl) (by kernel_rfl) (by kernel_rfl) ?qc10 (Or.inl ⟨?wc10, ?yc10⟩) (by assumption) ?rc10
          case hc10 => (simp only [List.getElem?_toArray, List.getElem?_cons_succ, List.getElem?_cons_zero]; rfl)
          case qc10 => exact fun _ _ _ h => h
          case wc10 => rfl
          case yc10 => (intro w hSw; (try dsimp only at hSw); go_simp <;> with_reducible rfl)
          try simp only [Act.put, List.setIfInBounds_toArray, List.set_cons_zero, List.set_cons_succ]
          refine wpAnyH_take (i := 11) (oi := ?oc11) (v := ?vc11) ?hc11 (by kernel_rfl) (by kernel_rfl) (by kernel_rfl) ?qc11 (Or.inl ⟨?wc11, ?yc11⟩) (by assumption) ?rc11
          case hc11 => (simp only [List.getElem?_toArray, List.getElem?_cons_succ, List.getElem?_cons_zero]; rfl)
          case qc11 => exact fun _ _ _ h => h
          case wc11 => rfl
          case yc11 => (intro w hSw; (try dsimp only at hSw); go_simp <;> with_reducible rfl)
          try simp only [Act.put, List.setIfInBounds_toArray, List.set_cons_zero, List.set_cons_succ]
          refine wpAnyH_take (i := 13) (oi := ?oc13) (v := ?vc13) ?hc13 (by kernel_rfl) (by kernel_rfl) (by kernel_rfl) ?qc13 (Or.inl ⟨?wc13, ?yc13⟩) (by assumption) ?rc13
          case hc13 => (simp only [List.getElem?_toArray, List.getElem?_cons_succ, List.getElem?_cons_zero]; rfl)
          case qc13 => exact fun _ _ _ h => h
          case wc13 => rfl
          case yc13 => (intro w hSw; (try dsimp only at hSw); go_simp <;> with_reducible rfl)
          try simp only [Act.put, List.setIfInBounds_toArray, List.set_cons_zero, List.set_cons_succ]
          refine wpAnyH_take (i := 14) (oi := ?oc14) (v := ?vc14) ?hc14 (by kernel_rfl) (by kernel_rfl) (by kernel_rfl) ?qc14 (Or.inl ⟨?wc14, ?yc14⟩) (by assumption) ?rc14
          case hc14 => (simp only [List.getElem?_toArray, List.getElem?_cons_succ, List.getElem?_cons_zero]; rfl)
          case qc14 => exact fun _ _ _ h => h
          case wc14 => rfl
          case yc14 => (intro w hSw; (try dsimp only at hSw); go_simp <;> with_reducible rfl)
          try simp only [Act.put, List.setIfInBounds_toArray, List.set_cons_zero, List.set_cons_succ]
          refine wpAnyH_take (i := 15) (oi := ?oc15) (v := ?vc15) ?hc15 (by kernel_rfl) (by kernel_rfl) (by kernel_rfl) ?qc15 (Or.inl ⟨?wc15, ?yc15⟩) (by assumption) ?rc15
          case hc15 => (simp only [List.getElem?_toArray, List.getElem?_cons_succ, List.getElem?_cons_zero]; rfl)
          case qc15 => exact fun _ _ _ h => h
          case wc15 => rfl
          case yc15 => (intro w hSw; (try dsimp only at hSw); go_simp <;> with_reducible rfl)
          try simp only [Act.put, List.setIfInBounds_toArray, List.set_cons_zero, List.set_cons_succ]
          refine wpAnyH_take (i := 16) (oi := ?oc16) (v := ?vc16) ?hc16 (by kernel_rfl) (by kernel_rfl) (by kernel_rfl) ?qc16 (Or.inl ⟨?wc16, ?yc16⟩) (by assumption) ?rc16
          case hc16 => (simp only [List.getElem?_toArray, List.getElem?_cons_succ, List.getElem?_cons_zero]; rfl)
          case qc16 => exact fun _ _ _ h => h
          case wc16 => rfl
          case yc16 => (intro w hSw; (try dsimp only at hSw); go_simp <;> with_reducible rfl)
          try simp only [Act.put, List.setIfInBounds_toArray, List.set_cons_zero, List.set_cons_succ]
          refine wpAnyH_take (i := 17) (oi := ?oc17) (v := ?vc17) ?hc17 (by kernel_rfl) (by kernel_rfl) (by kernel_rfl) ?qc17 (Or.inl ⟨?wc17, ?yc17⟩) (by assumption) ?rc17
          case hc17 => (simp only [List.getElem?_toArray, List.getElem?_cons_succ, List.getElem?_cons_zero]; rfl)
          case qc17 => exact fun _ _ _ h => h
          case wc17 => rfl
          case yc17 => (intro w hSw; (try dsimp only at hSw); go_simp <;> with_reducible rfl)
          try simp only [Act.put, List.setIfInBounds_toArray, List.set_cons_zero, List.set_cons_succ]
          refine wpAnyH_take (i := 18) (oi := ?oc18) (v := ?vc18) ?hc18 (by kernel_rfl) (by kernel_rfl) (by kernel_rfl) ?qc18 (Or.inl ⟨?wc18, ?yc18⟩) (by assumption) ?rc18
          case hc18 => (simp only [List.getElem?_toArray, List.getElem?_cons_succ, List.getElem?_cons_zero]; rfl)
          case qc18 => exact fun _ _ _ h => h
          case wc18 => rfl
          case yc18 => (intro w hSw; (try dsimp only at hSw); go_simp <;> with_reducible rfl)
          try simp only [Act.put, List.setIfInBounds_toArray, List.set_cons_zero, List.set_cons_succ]
          refine wpAnyH_ready (rs := [12]) (by kernel_rfl) (by simp) ?_
          refine AllReadyH.cons (o := ?oc12) ?hc12 (fun K hK => ?kc12) AllReadyH.nil
          case hc12 => (simp only [List.getElem?_toArray, List.getElem?_cons_succ, List.getElem?_cons_zero]; rfl)
          go_simp
          (go_at_call 70; (with_reducible refine (HMA.out _ HB_1.out).mono ?_); (rintro e w2 ⟨rfl, rfl⟩))
          refine hK.out _ _ (by first | exact KS.out _ HB_0.out | exact KS.out _ HB_1.out | exact KS.out _ HB_2.out) (fun hHeld => ?_)
          clear hK K
          try simp only [Act.put, List.setIfInBounds_toArray, List.set_cons_zero, List.set_cons_succ]
          refine wpAnyH_ready (rs := [19]) (by kernel_rfl) (by simp) ?_
          refine AllReadyH.cons (o := ?oc19) ?hc19 (fun K hK => ?kc19) AllReadyH.nil
          case hc19 => (simp only [List.getElem?_toArray, List.getElem?_cons_succ, List.getElem?_cons_zero]; rfl)
          go_simp
          (go_at_call 78; (with_reducible refine (HDE.out _ HB_1.out).mono ?_); (rintro e w3 ⟨rfl, hb⟩; have HB_2 := Lib.hid (HB_1.out.trans (hb.mono HB_1.out.size)); clear hb))
          refine hK.out _ _ (by first | exact KS.out _ HB_0.out | exact KS.out _ HB_1.out | exact KS.out _ HB_2.out) (fun hHeld => ?_)
          clear hK K
          try simp only [Act.put, List.setIfInBounds_toArray, List.set_cons_zero, List.set_cons_succ]
          refine wpAnyH_take (i := 20) (oi := ?oc20) (v := ?vc20) ?hc20 (by kernel_rfl) (by kernel_rfl) (by kernel_rfl) ?qc20 (Or.inl ⟨?wc20, ?yc20⟩) (by assumption) ?rc20
          case hc20 => (simp only [List.getElem?_toArray, List.getElem?_cons_succ, List.getElem?_cons_zero]; rfl)
          case qc20 => exact fun _ _ _ h => h
          case wc20 => rfl
          case yc20 => (intro w hSw; (try dsimp only at hSw); go_simp <;> with_reducible rfl)
          try simp only [Act.put, List.setIfInBounds_toArray, List.set_cons_zero, List.set_cons_succ]
          refine wpAnyH_take (i := 21) (oi := ?oc21) (v := ?vc21) ?hc21 (by kernel_rfl) (by kernel_rfl) (by kernel_rfl) ?qc21 (Or.inl ⟨?wc21, ?yc21⟩) (by assumption) ?rc21
          case hc21 => (simp only [List.getElem?_toArray, List.getElem?_cons_succ, List.getElem?_cons_zero]; rfl)
          case qc21 => exact fun _ _ _ h => h
          case wc21 => rfl
          case yc21 => (intro w hSw; (try dsimp only at hSw); go_simp <;> with_reducible rfl)
          try simp only [Act.put, List.setIfInBounds_toArray, List.set_cons_zero, List.set_cons_succ]
          refine wpAnyH_take (i := 22) (oi := ?oc22) (v := ?vc22) ?hc22 (by kernel_rfl) (by kernel_rfl) (by kernel_rfl) ?qc22 (Or.inl ⟨?wc22, ?yc22⟩) (by assumption) ?rc22
          case hc22 => (simp only [List.getElem?_toArray, List.getElem?_cons_succ, List.getElem?_cons_zero]; rfl)
          case qc22 => exact fun _ _ _ h => h
          case wc22 => rfl
          case yc22 => (intro w hSw; (try dsimp only at hSw); go_simp <;> with_reducible rfl)
          try simp only [Act.put, List.setIfInBounds_toArray, List.set_cons_zero, List.set_cons_succ]
          refine wpAnyH_done (by kernel_rfl) ?_ _
          by_cases hz : z = 0
          · have HOK := Lib.hid (HH.out.1 hz)
            have hzb : ((z : Int) != 0) = false := by simp [hz]
            clear hz
            go_wp2_with fail
            go_roundw
            case rel =>
              refine ⟨i + 1, by omega, by go_num, Lib.hid (fun t ht => ?_), HBL.out.trans (HB_2.out.mono HBL.out.size)⟩
              by_cases e : t = i
              · subst e; rw [HR.out, HDD.out]; exact ⟨HVB.out, by simp only [HMK.out]; exact HOK.out⟩
              · exact HQ.out t (by omega)
            case measure => simp [intOf]; omega
          · have HF := Lib.hid (HHF.out hz)
            have hzb : ((z : Int) != 0) = true := by simp [hz]
            clear hz
            go_wp2_with fail
            go_ret
            exact ⟨by rw [HF.out]; rfl, HB1.out.trans (HB_2.out.mono HB1.out.size)⟩
      · obtain rfl : i = k := by omega
        have HVEC : Hid (∀ t, t < P.length → vecB p (rg P t).xs = true) := Lib.hid (fun t ht => (HQ.out t (by rw [Hk.out]; exact ht)).1)
        have HMS := Lib.hid (l12Masks_any p W i cw P wr Hk.out hk1 (by omega) HVEC.out (HP.out.below HB1.out))
        have HLTM : Hid (∀ r ∈ (dat P).map mk, r < 2 ^ p) := Lib.hid (mks_lt (fun t ht => by rw [dat_getD]; exact HVEC.out t (by rw [← dat_length]; exact ht)))
        have HLEN : Hid (((dat P).map mk).length = i) := Lib.hid (by rw [List.length_map, dat_length, Hk.out])
        clear hbel
        go_wp2_with fail
        refine HMS.out.mono ?_
        rintro e w5 ⟨gm, cm, rfl, ho, hb⟩
        have HB5 := Lib.hid (HB1.out.trans (hb.mono HB1.out.size))
        have HK1b := Lib.hid (blk_kept HK1a.out hb)
        have HK2b := Lib.hid (blk_kept HK2a.out hb)
        have HRM := Lib.hid (owns_Rd ho)
        have HM5 := Lib.hid (HM.out.below HB5.out)
        have HN5 := Lib.hid (HN.out.below HB5.out)
        clear ho hb HMS
        go_wp2_with fail
        go_loopw [9] (fun s9 wr => ∃ t : Nat, t ≤ i ∧ s9 = .int .i64 t ∧ Hid (∀ t', t' < t → ∀ j : Nat, 1 ≤ j → j ≤ 20 → comb ((dat P).map mk) 0 (act (dat L) (j : Int) (2 ^ t')) = act (dat M) (j : Int) (mk ((dat P).getD t' []))) ∧ Below w5.heap.size w5 wr) (fun s _ => i - (intOf s).toNat)
        case atStart => exact ⟨0, by omega, rfl, Lib.hid (fun t ht => by omega), Below.refl _ _⟩
        case round =>
          obtain ⟨t, hti, rfl, HE, hbel⟩ := hrel
          have HBT := Lib.hid hbel
          by_cases hlt2 : t < i
          · clear hbel
            go_wp2_with fail
            go_loopw [10] (fun s10 wr => ∃ j : Nat, 1 ≤ j ∧ j ≤ 21 ∧ s10 = .int .i64 j ∧ Hid (∀ j' : Nat, 1 ≤ j' → j' < j → comb ((dat P).map mk) 0 (act (dat L) (j' : Int) (2 ^ t)) = act (dat M) (j' : Int) (mk ((dat P).getD t []))) ∧ Below w5.heap.size w5 wr) (fun s _ => 21 - (intOf s).toNat)
            case atStart => exact ⟨1, by omega, by omega, rfl, Lib.hid (fun j' h1 h2 => by omega), HBT.out⟩
            case round =>
              obtain ⟨j, hj1, hj2, rfl, HJ, hbel⟩ := hrel
              have HBJ := Lib.hid hbel
              by_cases hlt3 : j ≤ 20
              · have htP : t < P.length := by rw [← Hk.out]; exact hlt2
                have hcm := (HRM.out.below hbel).atN (k := t) (by rw [HLEN.out]; exact hlt2)
                rw [mks_rg htP] at hcm
                obtain ⟨bm, om, hem, hcm⟩ := hcm
                injection hem with hem
                injection hem with hem1 hem2 _
                subst hem1
                subst hem2
                rw [Nat.zero_add] at hcm
                have HEQ : Hid ((dat P).getD t [] = (rg P t).xs) := Lib.hid (dat_getD P t)
                have e3 := (vec_row (HVEC.out t htP)).2.2
                generalize hmv : mk (rg P t).xs = v at *
                have HMV := Lib.hid hmv
                clear hmv
                have HSM : Hid (∀ r ∈ (dat P).map mk, Sm r) := Lib.hid (fun r hr => sm16 hp16 (HLTM.out r hr))
                have hpow : ((2 ^ t : Nat) : Int) = (2 : Int) ^ t := by simp
                have hlt2t : 2 ^ t < 2 ^ xs.length := pow_lt_pow (by rw [← Hn.out]; exact hlt2)
                have HA1 := Lib.hid (fun W' (hb : Below w5.heap.size w5 W') => l12Act_any A A' i c m c' xs L (j : Int) ((2 : Int) ^ t) (2 ^ t) W' (HM5.out.below hb) HS.out hpow.symm hlt2t)
                have HIM := Lib.hid (fun W' (hb : Below w5.heap.size w5 W') => l12Image_any (some ⟨gm, 0, none⟩) i cm ((dat P).map mk) (act (dat L) (j : Int) (2 ^ t)) W' HLEN.out.symm (by omega) (sm16 HS.out.len (act_lt HS.out hlt2t _)) HSM.out (HRM.out.below hb))
                have HA2 := Lib.hid (fun W' (hb : Below w5.heap.size w5 W') => l12Act_any B B' p d q d' ys M (j : Int) (v : Int) v W' (HN5.out.below hb) HT.out rfl (by rw [← Hp.out]; exact e3))
                obtain ⟨p1, p2⟩ := pow62 (d := t) (by omega)
                have hHJ1 : Hid (comb ((dat P).map mk) 0 (act (dat L) (j : Int) (2 ^ t)) = act (dat M) (j : Int) v → ∀ j' : Nat, 1 ≤ j' → j' < j + 1 → comb ((dat P).map mk) 0 (act (dat L) (j' : Int) (2 ^ t)) = act (dat M) (j' : Int) (mk ((dat P).getD t []))) := Lib.hid (fun he j' h1 h2 => by
                  by_cases e : j' = j
                  · subst e; rw [HEQ.out, HMV.out]; exact he
                  · exact HJ.out j' h1 (by omega))
                have hHJ2 : Hid (comb ((dat P).map mk) 0 (act (dat L) (j : Int) (2 ^ t)) ≠ act (dat M) (j : Int) v → mapB xs (dat L) ys (dat M) (dat P) = false) := Lib.hid (fun hne => mapB_no (fun h => hne (by
                  have h1 := h.eqn t (by rw [dat_length]; exact htP) j hj1 hlt3
                  rw [HEQ.out, HMV.out] at h1; exact h1)))
                have KS := Lib.hid (fun w' (hb : Below wr.heap.size wr w') => show w'.cell? ⟨w.heap.size, 0, none⟩ = some (.slice A i c) ∧ w'.cell? ⟨w.heap.size, 1, none⟩ = some (.slice A' m c') ∧ w'.cell? ⟨w.heap.size + 1, 0, none⟩ = some (.slice B p d) ∧ w'.cell? ⟨w.heap.size + 1, 1, none⟩ = some (.slice B' q d') ∧ w'.cell? ⟨gm, t, none⟩ = some (.int .i64 (v : Int)) from by
                  obtain ⟨x0, x1, _⟩ := blk2cells (blk_kept HK1b.out (HBJ.out.trans (hb.mono HBJ.out.size)))
                  obtain ⟨y0, y1, _⟩ := blk2cells (blk_kept HK2b.out (HBJ.out.trans (hb.mono HBJ.out.size)))
                  exact ⟨x0, x1, y0, y1, cell_keep hcm hb⟩)
                have HB_0 := Lib.hid (Below.drew (Below.refl wr.heap.size wr))
                have HT_0 := Lib.hid (HBJ.out.trans (HB_0.out.mono HBJ.out.size))
                generalize act (dat L) (j : Int) (2 ^ t) = u1 at *
                generalize comb ((dat P).map mk) 0 u1 = z1 at *
                generalize act (dat M) (j : Int) v = z2 at *
                have hshl := shl_wrap (t := t) (by omega)
                clear hbel hcm e3 htP hlt2t
                go_wp2_with fail
                go_region_held3 (fun w' => w'.cell? ⟨w.heap.size, 0, none⟩ = some (.slice A i c) ∧ w'.cell? ⟨w.heap.size, 1, none⟩ = some (.slice A' m c') ∧ w'.cell? ⟨w.heap.size + 1, 0, none⟩ = some (.slice B p d) ∧ w'.cell? ⟨w.heap.size + 1, 1, none⟩ = some (.slice B' q d') ∧ w'.cell? ⟨gm, t, none⟩ = some (.int .i64 (v : Int)))
                  (first | exact KS.out _ HB_0.out | exact KS.out _ HB_1.out | exact KS.out _ HB_2.out)
                  (first
                    | (go_at_call 81; (with_reducible refine (HA1.out _ HT_0.out).mono ?_); (rintro e w1 ⟨rfl, hb⟩; have HB_1 := Lib.hid (HB_0.out.trans (hb.mono HB_0.out.size)); have HT_1 := Lib.hid (HBJ.out.trans (HB_1.out.mono HBJ.out.size)); clear hb))
                    | (go_at_call 108; (with_reducible refine (HIM.out _ HT_1.out).mono ?_); (rintro e w2 ⟨rfl, rfl⟩))
                    | (go_at_call 81; (with_reducible refine (HA2.out _ HT_1.out).mono ?_); (rintro e w3 ⟨rfl, hb⟩; have HB_2 := Lib.hid (HB_1.out.trans (hb.mono HB_1.out.size)); clear hb)))
                have HT_2 := Lib.hid (HBJ.out.trans (HB_2.out.mono HBJ.out.size))
                by_cases hz : z1 = z2
                · have HYES := Lib.hid (hHJ1.out hz)
                  have hzb : ((z1 : Int) != (z2 : Int)) = false := by simp [hz]
                  clear hz
                  go_wp2_with fail
                  go_roundw
                  case rel => exact ⟨j + 1, by omega, by omega, by go_num, HYES, HT_2.out⟩
                  case measure => simp [intOf]; omega
                · have HF := Lib.hid (hHJ2.out hz)
                  have hzb : ((z1 : Int) != (z2 : Int)) = true := by simp; omega
                  clear hz
                  go_wp2_with fail
                  go_ret
                  exact ⟨by rw [HF.out]; rfl, HB5.out.trans (HT_2.out.mono HB5.out.size)⟩
              · obtain rfl : j = 21 := by omega
                clear hbel
                go_wp2_with fail
                go_roundw
                case rel =>
                  refine ⟨t + 1, by omega, by go_num, Lib.hid (fun t' ht' j' h1 h2 => ?_), HBJ.out⟩
                  by_cases e : t' = t
                  · subst e; exact HJ.out j' h1 (by omega)
                  · exact HE.out t' (by omega) j' h1 h2
                case measure => simp [intOf]; omega
          · obtain rfl : t = i := by omega
            have HYES : Hid (mapB xs (dat L) ys (dat M) (dat P) = true) := Lib.hid (mapB_yes ⟨by rw [dat_length, ← Hk.out, Hn.out], fun i hi => by rw [dat_getD, ← Hp.out]; exact HVEC.out i (by rw [← dat_length]; exact hi), fun i hi => by rw [dat_getD]; exact (HQ.out i (by rw [Hk.out, ← dat_length]; exact hi)).2, fun i hi j h1 h2 => HE.out i (by rw [Hk.out, ← dat_length]; exact hi) j h1 h2⟩)
            clear hbel
            go_wp2_with fail
            go_ret
            exact ⟨by rw [HYES.out]; rfl, HB5.out.trans (HBT.out.mono HB5.out.size)⟩
  · have hkb : ((k : Int) != (n : Int)) = true := by simp; omega
    have HF : Hid (mapB xs (dat L) ys (dat M) (dat P) = false) := Lib.hid (mapB_no (fun h => hkn (by rw [Hk.out, Hn.out, ← dat_length]; exact h.len)))
    clear hkn
    go_enter Tryz.func77, Tryz.ntmps77
    go_wp2_with fail
    go_ret
    exact ⟨by rw [HF.out]; rfl, HB0.out⟩
end Go.Proofs.YtpchigdhnnkpcaaGreatDoor

namespace Go.Proofs.YtpchigdhnnkpcaaGreatDoor
open Go.RowKit

noncomputable def mapC (xs : List Int) (Q : List (List Int)) (ys : List Int) (R P : List (List Int)) : Int := if modB xs Q = true ∧ modB ys R = true then (if mapB xs Q ys R P = true then 0 else 2) else 1
theorem mapC_1 {xs : List Int} {Q : List (List Int)} {ys : List Int} {R P : List (List Int)} (h : twoC (modB xs Q) (modB ys R) = 1) : mapC xs Q ys R P = 1 := by
  unfold mapC; rw [if_neg]; intro h2; rw [h2.1, h2.2] at h; cases h
theorem two01 (a b : Bool) : twoC a b = 1 ∨ (twoC a b = 0 ∧ a = true ∧ b = true) := by cases a <;> cases b <;> simp [twoC]
theorem mapC_2 {xs : List Int} {Q : List (List Int)} {ys : List Int} {R P : List (List Int)} (h1 : modB xs Q = true) (h2 : modB ys R = true) (h : mapB xs Q ys R P = false) : mapC xs Q ys R P = 2 := by
  unfold mapC; rw [if_pos ⟨h1, h2⟩, if_neg (by rw [h]; simp)]
theorem mapC_0 {xs : List Int} {Q : List (List Int)} {ys : List Int} {R P : List (List Int)} (h1 : modB xs Q = true) (h2 : modB ys R = true) (h : mapB xs Q ys R P = true) : mapC xs Q ys R P = 0 := by
  unfold mapC; rw [if_pos ⟨h1, h2⟩, if_pos h]
theorem mapC_cases (xs : List Int) (Q : List (List Int)) (ys : List Int) (R P : List (List Int)) : mapC xs Q ys R P = 1 ∨ mapC xs Q ys R P = 2 ∨ (mapC xs Q ys R P = 0 ∧ modB xs Q = true ∧ modB ys R = true ∧ MapP xs Q ys R P) := by
  unfold mapC
  by_cases h : modB xs Q = true ∧ modB ys R = true
  · rw [if_pos h]
    by_cases h2 : mapB xs Q ys R P = true
    · rw [if_pos h2]; exact .inr (.inr ⟨rfl, h.1, h.2, mapB_iff.1 h2⟩)
    · rw [if_neg h2]; exact .inr (.inl rfl)
  · rw [if_neg h]; exact .inl rfl

set_option maxHeartbeats 2000000 in
theorem l12Code_any (A A' B B' W : Option Addr) (n c m c' p d q d' k cw : Nat) (xs ys : List Int) (L M P : List Row) (w : World) (hM : ModIn w A n A' m xs L) (hN : ModIn w B p B' q ys M) (hP : RowsIn w W k P) :
    Calls Tryz.prog 52 #[.agg #[.slice A n c, .slice A' m c'], .agg #[.slice B p d, .slice B' q d'], .slice W k cw] w fun e w' => e = .returned (.int .i64 (mapC xs (dat L) ys (dat M) (dat P))) ∧ Below w.heap.size w w' := by
  obtain ⟨hb0, hk1, hk2⟩ := box_two w A A' B B' n c m c' p d q d'
  have HB0 := Lib.hid hb0
  have HK1 := Lib.hid hk1
  have HK2 := Lib.hid hk2
  have HTW := Lib.hid (l12Two_any A A' B B' n c m c' p d q d' xs ys L M _ (hM.below hb0) (hN.below hb0))
  obtain ⟨x0, x1, xf0, xf1, lx⟩ := blk2cells hk1
  obtain ⟨y0, y1, yf0, yf1, ly⟩ := blk2cells hk2
  have HM := Lib.hid hM
  have HN := Lib.hid hN
  have HP := Lib.hid hP
  clear hb0 hk1 hk2 hM hN hP
  go_enter Tryz.func52, Tryz.ntmps52
  go_wp2_with fail
  refine HTW.out.mono ?_
  rintro e w1 ⟨rfl, hb⟩
  have HB1 := Lib.hid (HB0.out.trans (hb.mono HB0.out.size))
  have HK1a := Lib.hid (blk_kept HK1.out hb)
  have HK2a := Lib.hid (blk_kept HK2.out hb)
  clear hb x0 x1 xf0 xf1 lx y0 y1 yf0 yf1 ly
  obtain ⟨x0, x1, xf0, xf1, lx⟩ := blk2cells HK1a.out
  obtain ⟨y0, y1, yf0, yf1, ly⟩ := blk2cells HK2a.out
  rcases two01 (modB xs (dat L)) (modB ys (dat M)) with h | ⟨h, h1, h2⟩
  · have HF := Lib.hid (mapC_1 (P := dat P) h)
    rw [h]
    clear h
    go_wp2_with fail
    go_ret
    exact ⟨by rw [HF.out]; rfl, HB1.out⟩
  · rw [h]
    have HIS := Lib.hid (l12Is_any A A' B B' W n c m c' p d q d' k cw xs ys L M P w1 (HM.out.r.below HB1.out) (modB_iff.1 h1).shp (HN.out.r.below HB1.out) (modB_iff.1 h2).shp HP.out.hk HP.out.hk1 HP.out.hl (HP.out.rd.below HB1.out))
    cases hm : mapB xs (dat L) ys (dat M) (dat P)
    · rw [hm] at HIS
      have HF := Lib.hid (mapC_2 h1 h2 hm)
      clear h h1 h2 hm
      go_wp2_with (go_at_call 77; refine HIS.out.mono ?_; rintro e w2 ⟨rfl, hb⟩; have HB2 := Lib.hid (HB1.out.trans (hb.mono HB1.out.size)); clear hb)
      go_ret
      exact ⟨by rw [HF.out]; rfl, HB2.out⟩
    · rw [hm] at HIS
      have HF := Lib.hid (mapC_0 h1 h2 hm)
      clear h h1 h2 hm
      go_wp2_with (go_at_call 77; refine HIS.out.mono ?_; rintro e w2 ⟨rfl, hb⟩; have HB2 := Lib.hid (HB1.out.trans (hb.mono HB1.out.size)); clear hb)
      go_ret
      exact ⟨by rw [HF.out]; rfl, HB2.out⟩

noncomputable def isModuleMapOf (xs : List Int) (L : List Row) (ys : List Int) (M P : List Row) : Bool × Int := if mapC xs (dat L) ys (dat M) (dat P) = 1 then (false, 1) else (decide (mapC xs (dat L) ys (dat M) (dat P) = 0), 0)
theorem isModuleMapOf_dat {xs : List Int} {L L' : List Row} {ys : List Int} {M M' P P' : List Row} (h1 : dat L' = dat L) (h2 : dat M' = dat M) (h3 : dat P' = dat P) : isModuleMapOf xs L' ys M' P' = isModuleMapOf xs L ys M P := by
  unfold isModuleMapOf; rw [h1, h2, h3]

noncomputable def applyMapOf (xs : List Int) (L : List Row) (ys : List Int) (M P : List Row) (v : List Int) : List Int × Int :=
  if mapC xs (dat L) ys (dat M) (dat P) = 0 then (if vecB xs.length v = true then (bitsL (comb ((dat P).map mk) 0 (mk v)) ys.length, 0) else ([], 2)) else ([], mapC xs (dat L) ys (dat M) (dat P))
theorem applyMapOf_dat {xs : List Int} {L L' : List Row} {ys : List Int} {M M' P P' : List Row} {v : List Int} (h1 : dat L' = dat L) (h2 : dat M' = dat M) (h3 : dat P' = dat P) : applyMapOf xs L' ys M' P' v = applyMapOf xs L ys M P v := by
  unfold applyMapOf; rw [h1, h2, h3]
theorem applyMapOf_no {xs : List Int} {L : List Row} {ys : List Int} {M P : List Row} {v : List Int} (h : mapC xs (dat L) ys (dat M) (dat P) ≠ 0) : applyMapOf xs L ys M P v = ([], mapC xs (dat L) ys (dat M) (dat P)) := by unfold applyMapOf; rw [if_neg h]
theorem applyMapOf_2 {xs : List Int} {L : List Row} {ys : List Int} {M P : List Row} {v : List Int} (h : mapC xs (dat L) ys (dat M) (dat P) = 0) (hv : vecB xs.length v = false) : applyMapOf xs L ys M P v = ([], 2) := by unfold applyMapOf; rw [if_pos h, if_neg (by rw [hv]; simp)]
theorem applyMapOf_yes {xs : List Int} {L : List Row} {ys : List Int} {M P : List Row} {v : List Int} (h : mapC xs (dat L) ys (dat M) (dat P) = 0) (hv : vecB xs.length v = true) : applyMapOf xs L ys M P v = (bitsL (comb ((dat P).map mk) 0 (mk v)) ys.length, 0) := by unfold applyMapOf; rw [if_pos h, if_pos hv]
theorem applyMapOf_len (xs : List Int) (L : List Row) (ys : List Int) (M P : List Row) (v : List Int) : (applyMapOf xs L ys M P v).1.length ≤ 1000 := by
  rcases mapC_cases xs (dat L) ys (dat M) (dat P) with h | h | ⟨h, _, h2, _⟩
  · rw [applyMapOf_no (by omega)]; simp
  · rw [applyMapOf_no (by omega)]; simp
  · cases hv : vecB xs.length v
    · rw [applyMapOf_2 h hv]; simp
    · rw [applyMapOf_yes h hv]; simp only [bitsL_length]; have := (modB_iff.1 h2).shp.len; omega
theorem mapP_vec {xs : List Int} {Q : List (List Int)} {ys : List Int} {R : List (List Int)} {P : List Row} (h : MapP xs Q ys R (dat P)) : ∀ i, i < P.length → vecB ys.length (rg P i).xs = true := fun i hi => by
  have := h.vec i (by rw [dat_length]; exact hi)
  rwa [dat_getD] at this
theorem mapP_lt {xs : List Int} {Q : List (List Int)} {ys : List Int} {R : List (List Int)} {P : List Row} (h : MapP xs Q ys R (dat P)) : ∀ r ∈ (dat P).map mk, r < 2 ^ ys.length := mks_lt h.vec
theorem mapP_len {xs : List Int} {Q : List (List Int)} {ys : List Int} {R : List (List Int)} {P : List Row} (h : MapP xs Q ys R (dat P)) : P.length = xs.length := by have := h.len; rwa [dat_length] at this
end Go.Proofs.YtpchigdhnnkpcaaGreatDoor

namespace Go.Proofs.YtpchigdhnnkpcaaGreatDoor
open Go.RowKit

/-- .. and all of its blocks lie below H -/
def ModOutH (B H : Nat) (ds : List Int) (E : List (List Int)) (v : Value) (w' : World) : Prop :=
  ∃ Ad cd A1 c1 R, v = .agg #[.slice Ad ds.length cd, .slice A1 R.length c1] ∧ w'.ownsRow B 2 1 (.slice Ad ds.length cd) ds.length (iv ds) ∧ dat R = E ∧ OwnR w' B (.slice A1 R.length c1) R ∧ (∀ i, i < R.length → (Value.slice Ad ds.length cd).ownBlock = none ∨ (Value.slice Ad ds.length cd).ownBlock ≠ (rg R i).val.ownBlock) ∧
    (∀ g, (Value.slice Ad ds.length cd).ownBlock = some g → g < H) ∧ UpR H (.slice A1 R.length c1) R
theorem ModOut.up {B : Nat} {ds : List Int} {E : List (List Int)} {v : Value} {w : World} (h : ModOut B ds E v w) : ModOutH B w.heap.size ds E v w := by
  obtain ⟨Ad, cd, A1, c1, R, rfl, h1, h2, h3, h4⟩ := h
  exact ⟨Ad, cd, A1, c1, R, rfl, h1, h2, h3, h4, fun g hg => (h1.lt g hg).2, h3.up⟩
theorem not_in {v : Value} {B H : Nat} {S : List (Option Nat)} (hS : ∀ j, some j ∈ S → j < B ∨ H ≤ j) (h1 : ∀ g, v.ownBlock = some g → B ≤ g ∧ g < H) : v.ownBlock = none ∨ v.ownBlock ∉ S := by
  cases h : v.ownBlock with
  | none => exact .inl rfl
  | some g =>
    refine .inr fun e => ?_
    have h2 := h1 g h
    have h3 := hS g e
    omega
theorem ModOutH.keeps {B H : Nat} {ds : List Int} {E : List (List Int)} {v : Value} {w w' : World} {S : List (Option Nat)} (h : ModOutH B H ds E v w) (hk : Keeps w w' S) (hS : ∀ j, some j ∈ S → j < B ∨ H ≤ j) : ModOutH B H ds E v w' := by
  obtain ⟨Ad, cd, A1, c1, R, rfl, h1, h2, h3, h4, h5, h6, h7⟩ := h
  exact ⟨Ad, cd, A1, c1, R, rfl, owns_keeps h1 hk (not_in hS fun g hg => ⟨(h1.lt g hg).1, h5 g hg⟩), h2, h3.keeps hk (not_in hS fun g hg => ⟨(h3.out.lt g hg).1, h6 g hg⟩) (fun i hi => not_in hS fun g hg => ⟨((h3.inn i hi).lt g hg).1, h7 i hi g hg⟩), h4, h5, h6, h7⟩
theorem ModOutH.mono {B B' H : Nat} {ds : List Int} {E : List (List Int)} {v : Value} {w : World} (h : ModOutH B H ds E v w) (hB : B' ≤ B) : ModOutH B' H ds E v w := by
  obtain ⟨Ad, cd, A1, c1, R, rfl, h1, h2, h3, h4, h5, h6⟩ := h
  exact ⟨Ad, cd, A1, c1, R, rfl, h1.mono hB, h2, h3.mono hB, h4, h5, h6⟩
theorem ModOutH.nil (B H : Nat) (w : World) : ModOutH B H [] [] (.agg #[.slice none 0 0, .slice none 0 0]) w :=
  ⟨none, 0, none, 0, [], rfl, World.ownsRow_nil _ _ _ _, rfl, OwnR.nil _ _, (fun i hi => by cases hi), (fun g hg => by simp [Value.ownBlock] at hg), ⟨fun g hg => by simp [Value.ownBlock] at hg, fun i hi => by cases hi⟩⟩
/-- a new module, new rows behind it, and a code -/
def ResMR (r : (List Int × List (List Int)) × List (List Int) × Int) (w : World) (e : Ending) (w' : World) : Prop :=
  ∃ v v3 M3 H, w.heap.size ≤ H ∧ e = .returned (.tuple #[v, v3, .int .i64 r.2.2]) ∧ ModOutH w.heap.size H r.1.1 r.1.2 v w' ∧ dat M3 = r.2.1 ∧ OwnR w' H v3 M3 ∧ Below w.heap.size w w'
theorem ret_mr {fn : Func} {pt ut vt : Tmp} (h : fn.results = #[.cell pt 29, .tmp ut, .tmp vt]) {a : Act} {w : World} {g : Nat} {v1 v2 : Value} {R : Ending → World → Prop} (hp : a.tmps.getD pt undef = .pointer (some ⟨g, 0, none⟩)) (hd : a.defers = [])
    (hg : w.heap[g]? = some (.cells #[v1, v2] 29 (0, 0))) (hR : R (.returned (.tuple #[.agg #[v1, v2], a.tmps.getD ut undef, a.tmps.getD vt undef])) w) : bodyPost Tryz.prog fn R .ret a w := by
  refine bodyPost_ret ?_ hd hR
  have hl := run_loadVar_row w g _ 29 _ _ _ hg Tryz.underlying29 rfl (by kernel_rfl)
  have hp' : a.tmps[pt]?.getD undef = .pointer (some ⟨g, 0, none⟩) := by simpa using hp
  simp [results, h, Sem.run_bind, Result.andThen, asAddr, hp', hl]

def partMR (ys : List Int) (R : List (List Int)) (S : List Nat) : (List Int × List (List Int)) × List (List Int) × Int := ((partD ys S, partA R S), S.map (fun v => bitsL v ys.length), 0)
noncomputable def imageOfMapOf (xs : List Int) (L : List Row) (ys : List Int) (M P : List Row) : (List Int × List (List Int)) × List (List Int) × Int :=
  if mapC xs (dat L) ys (dat M) (dat P) = 0 then partMR ys (dat M) (reduceS ((dat P).map mk)) else (([], []), [], mapC xs (dat L) ys (dat M) (dat P))
noncomputable def kernelOfMapOf (xs : List Int) (L : List Row) (ys : List Int) (M P : List Row) : (List Int × List (List Int)) × List (List Int) × Int :=
  if mapC xs (dat L) ys (dat M) (dat P) = 0 then partMR xs (dat L) (kerR ((dat P).map mk)) else (([], []), [], mapC xs (dat L) ys (dat M) (dat P))
theorem red_homP {ys : List Int} {T : List Nat} (hx : SrtL ys) (hT : ∀ r ∈ T, Sm r) (hh : ∀ r ∈ T, r ≠ 0 → ∃ d : Nat, d < 21 ∧ Hom ys (d : Int) r) : ∀ r ∈ byDeg ys T 21, r ≠ 0 ∧ r < 2 ^ ys.length ∧ ∃ d, Hom ys d r := fun r hr => by
  obtain ⟨d, _, hr⟩ := (byDeg_all hx hT 21).2.2 r hr
  obtain ⟨h1, h2, _, _⟩ := part_mem hT hr
  exact ⟨h2, h1.lt, _, h1⟩
end Go.Proofs.YtpchigdhnnkpcaaGreatDoor
