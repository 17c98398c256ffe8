/- the program's kernel · the program's ImageOfMap, KernelOfMap (written by mkzt.py) · ImageOfMap, KernelOfMap: both sides flattened for mkl3.py (written by mkzv.py) -/
import Derived.Test.YtpchigdhnnkpcaaGreatDoorBxav
import Derived.Test.YtpchigdhnnkpcaaGreatDoorBxae
import Derived.Test.YtpchigdhnnkpcaaGreatDoorBxat
set_option linter.all false
namespace Go.Proofs.YtpchigdhnnkpcaaGreatDoor
open Go.RowKit

theorem sm_two {p : Nat} (h : p ≤ 62) : Sm (2 ^ p) := by
  unfold Sm
  have : 2 ^ p ≤ 2 ^ 62 := Nat.pow_le_pow_right (by omega) h
  have e : (2 ^ 62 : Nat) = 4611686018427387904 := by decide
  omega
theorem shl_two {k : Nat} (h : k ≤ 60) : wrap64 ((2 : Int) ^ k) = ((2 ^ k : Nat) : Int) := by
  have h1 : (2 : Nat) ^ k ≤ 2 ^ 60 := Nat.pow_le_pow_right (by omega) h
  have e : (2 ^ 60 : Nat) = 1152921504606846976 := by decide
  have h2 : ((2 ^ k : Nat) : Int) = (2 : Int) ^ k := by rw [Int.natCast_pow]; rfl
  rw [← h2]
  generalize (2 ^ k : Nat) = z at *
  unfold wrap64; omega
set_option maxRecDepth 100000 in
set_option maxHeartbeats 2000000 in
theorem kernel_anyS (A : Option Addr) (n c : Nat) (S : List Nat) (w : World) (hT : Tab w) (hw : 0 < w.heap.size) (hn : n = S.length) (hsmall : n ≤ 60) (hS : ∀ r ∈ S, Sm r) (hR : Rd w A (nv S)) :
    Calls Tryz.prog 58 #[.slice A n c] w fun e w' => ∃ v, e = .returned v ∧ w'.ownsRow w.heap.size 2 1 v (reduceS (kerS S S.length)).length (nv (reduceS (kerS S S.length))) ∧ Below w.heap.size w w' := by
  have HKS := Lib.hid ((kerG_span hS (by omega)).sm (by omega))
  have HSM := Lib.hid (us_sm hS (by omega))
  have Hn := Lib.hid hn
  have HR := Lib.hid hR
  have HS := Lib.hid hS
  have HT := Lib.hid hT
  have HSP0 := Lib.hid (SpanAt.new w)
  clear hn hR hS hT
  go_enter Tryz.func58, Tryz.ntmps58
  go_wp2_with fail
  go_loopw [4, 14] (fun o i wr => ∃ k : Nat, k ≤ n ∧ i = .int .i64 k ∧ wr.ownsRow w.heap.size 2 1 o (kerS S k).length (nv (kerS S k)) ∧
      (∃ v1 v2, SpanAt wr w.heap.size w.heap.size v1 v2 (spanL ((us 0 S).take k)) ∧ o.ownBlock ≠ v1.ownBlock ∧ o.ownBlock ≠ v2.ownBlock) ∧ Below w.heap.size w wr) (fun _ i _ => n - (intOf i).toNat)
  case atStart =>
    refine ⟨0, by omega, rfl, ?_, ⟨_, _, HSP0.out.keeps ((Keeps.refl _ []).alloc _) (by simp) (.inr (by simp)) (.inr (by simp)), by simp [Value.ownBlock], by simp [Value.ownBlock]⟩, ((Below.refl _ _).alloc (Nat.le_refl _) _).alloc (by simp) _⟩
    have := World.ownsRow_made (w.alloc (.cells #[.slice none 0 0, .slice none 0 0] 62)) #[] 0 (base := w.heap.size) (e := 2) (size := 1) (by simp) (by decide) (by simp)
    simp only [World.size_alloc] at this
    exact this
  case round =>
    obtain ⟨k, hk, rfl, hoo, ⟨v1, v2, hsp, hne1, hne2⟩, hbel⟩ := hrel
    have hsz : w.heap.size ≤ wr.heap.size := hbel.size
    have hko := kerOut_length (fun k => spanL ((us 0 S).take k)) S k
    change (kerS S k).length ≤ k at hko
    by_cases hlt : k < n
    · have hkL : k < S.length := by rw [← Hn.out]; exact hlt
      obtain ⟨b, o', rfl, hc⟩ := (HR.out.below hbel).atN hkL
      have hx := HS.out _ (getD_mem hkL)
      have hp2 : Sm (2 ^ k) := by exact sm_two (by omega)
      have Hs : Hid (spanL ((us 0 S).take (k + 1)) = addL (spanL ((us 0 S).take k)) (S.getD k 0, 2 ^ k)) := by
        show _ = _; rw [spanL_take_succ (us 0 S) k (by rw [us_length]; exact hkL), us_getD0 hkL]
      have Hk := Lib.hid (kerS_succ S k)
      have hl := spanL_length_le ((us 0 S).take k)
      rw [List.length_take] at hl
      have hg := (spanL_perm ((us 0 S).take k) (fun p hp => HSM.out p (List.mem_of_mem_take hp))).2.2
      generalize spanL ((us 0 S).take k) = L at *
      generalize kerS S k = O at *
      generalize S.getD k 0 = x at *
      have ha := add_any w.heap.size w.heap.size v1 v2 L x (2 ^ k) wr (HT.out.below hbel hw) hw hsz hsp (by omega) hx hp2 hg
      rw [← shl_two (by omega)] at ha
      have hks : kerStep L (x, 2 ^ k) O = if (leftN L (x, 2 ^ k)).1 = 0 then O ++ [(leftN L (x, 2 ^ k)).2] else O := rfl
      obtain ⟨F, cf, rfl, _, hF, _⟩ := owns_shape hoo
      have HSQ := Lib.hid hsp
      have HOO := Lib.hid hoo
      have HN1 := Lib.hid hne1
      have HN2 := Lib.hid hne2
      have HB := Lib.hid hbel
      by_cases h0 : (leftN L (x, 2 ^ k)).1 = 0
      · have hv : AddRes L (x, 2 ^ k) = .tuple #[.int .i64 ((leftN L (x, 2 ^ k)).2 : Nat), .bool false] := by simp [AddRes, h0]
        rw [hv] at ha
        rw [if_pos h0] at hks
        have HA := Lib.hid ha
        have HKS' := Lib.hid hks
        clear ha hv h0 hks hsp hoo hne1 hne2 hbel hg hF
        generalize (leftN L (x, 2 ^ k)).2 = z at *
        go_wp2_with (first | (go_at_call 73; refine HA.out.mono ?_; (rintro e w3 ⟨rfl, hpost⟩; obtain ⟨q1, u1, u2, q2, q3, q4⟩ := span_own_add HSQ.out HOO.out HN1.out HN2.out hpost; have hb3 := hpost.below HSQ.out hsz; have HQ1 := Lib.hid q1; have HQ2 := Lib.hid q2; have HQ3 := Lib.hid q3; have HQ4 := Lib.hid q4; have HB3 := Lib.hid (HB.out.trans (hb3.mono (Nat.le_refl _))); have hsz3 : w.heap.size ≤ w3.heap.size := HB3.out.size; clear hpost q1 q2 q3 q4 hb3)) | (at_builtin; refine wpList_app1 _ _ _ _ _ etI (by rfl) (by rfl) w.heap.size (.slice F O.length cf) O.length (nv O) (by rfl) ?_ _ (.int .i64 (z : Int)) (by rfl) ?_ (by rfl) ?_ ?_ ?_; exact HQ1.out.alloc _; exact new_cell _ _ _; omega; (simp; omega); (intro g2 cap2 w4 hown2 hgrow2 hat2 hlt2; have HO2' : Hid (w4.ownsRow w.heap.size 2 1 (.slice (some ⟨g2, 0, none⟩) (O.length + 1) cap2) (O.length + 1) (nv (O ++ [z]))) := (by rw [← nv_snoc2]; exact hown2); have HG2 := Lib.hid hgrow2; have HA2 := Lib.hid hat2; clear hown2 hgrow2 hat2 hlt2)))
        go_roundw
        case rel =>
          obtain ⟨t1, t2, t3⟩ := span_own_app HQ2.out (own_ne HQ1.out HQ2.out.blk (by decide)) HQ3.out HQ4.out HG2.out HA2.out
          exact ⟨k + 1, by omega, by go_num, by rw [Hk.out, HKS'.out]; exact own_cast2 HO2'.out (by simp) rfl, ⟨u1, u2, by rw [Hs.out]; exact t1, t2, t3⟩, below_app2 HB3.out hsz3 HQ1.out HG2.out⟩
        case measure => simp [intOf]; omega
      · have hv : AddRes L (x, 2 ^ k) = .tuple #[.int .i64 0, .bool true] := by simp [AddRes, h0]
        rw [hv] at ha
        rw [if_neg h0] at hks
        have HA := Lib.hid ha
        have HKS' := Lib.hid hks
        clear ha hv h0 hks hsp hoo hne1 hne2 hbel hg hF
        go_wp2_with (go_at_call 73; refine HA.out.mono ?_; rintro e w3 ⟨rfl, hpost⟩; have HP := Lib.hid hpost; clear hpost)
        go_roundw
        case rel =>
          obtain ⟨q1, u1, u2, q2, q3, q4⟩ := span_own_add HSQ.out HOO.out HN1.out HN2.out HP.out
          exact ⟨k + 1, by omega, by go_num, by rw [Hk.out, HKS'.out]; exact q1, ⟨u1, u2, by rw [Hs.out]; exact q2, q3, q4⟩, HB.out.trans (HP.out.below HSQ.out hsz)⟩
        case measure => simp [intOf]; omega
    · have ek : k = S.length := by rw [← Hn.out]; omega
      subst ek
      obtain ⟨F, cf, rfl, _, hF, _⟩ := owns_shape hoo
      have hr := reduced_any F (kerS S S.length).length cf (kerS S S.length) wr (HT.out.below hbel hw) (by omega) rfl (by omega) HKS.out (owns_Rd hoo)
      have HRR := Lib.hid hr
      have HB := Lib.hid hbel
      clear hoo hne1 hne2 hsp hbel hF hr
      go_wp2_with fail
      refine HRR.out.mono ?_
      rintro e w2 ⟨v, rfl, ho, hb⟩
      have HO2 := Lib.hid ho
      have HB2 := Lib.hid hb
      clear ho hb
      go_wp2_with fail
      go_ret
      exact ⟨v, rfl, HO2.out.mono hsz, HB.out.trans (HB2.out.mono hsz)⟩

end Go.Proofs.YtpchigdhnnkpcaaGreatDoor

namespace Go.Proofs.YtpchigdhnnkpcaaGreatDoor
open Go.RowKit

theorem part_ok {ys : List Int} {S0 : List Nat} (hs : SrtL ys) (hl : ys.length ≤ 16) (h1 : ∀ r ∈ S0, r < 2 ^ ys.length) (h2 : ∀ r ∈ S0, r ≠ 0 → ∃ d : Nat, d < 21 ∧ Hom ys (d : Int) r) : (byDeg ys S0 21).length ≤ 16 ∧ ∀ r ∈ byDeg ys S0 21, r ≠ 0 ∧ r < 2 ^ ys.length ∧ ∃ d, Hom ys d r := by
  refine ⟨?_, red_homP hs (fun r hr => sm_of_lt (a := ys.length) (by omega) (h1 r hr)) h2⟩
  have h5 := byDeg_len (xs := ys) (S := S0) hs (by omega) h1 21
  omega
theorem image_ok {xs ys : List Int} {Q R P : List (List Int)} (h3 : MapP xs Q ys R P) (hs1 : Shp xs Q) (hs2 : Shp ys R) : (reduceS (P.map mk)).length ≤ 16 ∧ ∀ r ∈ reduceS (P.map mk), r ≠ 0 ∧ r < 2 ^ ys.length ∧ ∃ d, Hom ys d r := by
  have hth := map_hom h3 hs1
  have hts : ∀ r ∈ P.map mk, Sm r := fun r hr => sm_of_lt (a := ys.length) (by have := hs2.len; omega) (hth r hr).1
  rw [← byDeg_eq hs2.srtL hts (fun r hr _ => (hth r hr).2)]
  exact part_ok hs2.srtL hs2.len (fun r hr => (hth r hr).1) (fun r hr _ => (hth r hr).2)
theorem kernel_ok {xs ys : List Int} {Q R P : List (List Int)} (h3 : MapP xs Q ys R P) (hs1 : Shp xs Q) (hs2 : Shp ys R) : (kerR (P.map mk)).length ≤ 16 ∧ ∀ r ∈ kerR (P.map mk), r ≠ 0 ∧ r < 2 ^ xs.length ∧ ∃ d, Hom xs d r := by
  have hth := map_hom h3 hs1
  have hts : ∀ r ∈ P.map mk, Sm r := fun r hr => sm_of_lt (a := ys.length) (by have := hs2.len; omega) (hth r hr).1
  have hFh : ∀ i, i < (P.map mk).length → Hom ys (xs.getD i 0) ((P.map mk).getD i 0) := fun i hi => by
    rw [List.length_map] at hi
    have := h3.hom i hi
    simpa [List.getD, hi] using this
  have hkh := kerAll_hom (xs := xs) (k := 21) hts (by have := hs1.len; omega)
  rw [← kerAll_eq hs1 (by rw [List.length_map]; exact h3.len) hFh hts hs1.srtL]
  exact part_ok hs1.srtL hs1.len (fun r hr => by obtain ⟨_, _, h, _⟩ := hkh r hr; exact h.lt) (fun r hr _ => by obtain ⟨d, h, h', _⟩ := hkh r hr; exact ⟨d, h, h'⟩)

set_option maxRecDepth 100000 in
set_option maxHeartbeats 8000000 in
theorem implImageOfMap' (A A' B B' W : Option Addr) (n c m c' p d q d' k cw : Nat) (xs ys : List Int) (L M P : List Row) (w : World) (hT : Tab w) (hw : 0 < w.heap.size) (hM : ModIn w A n A' m xs L) (hN : ModIn w B p B' q ys M) (hP : RowsIn w W k P) :
    Calls Tryz.prog 30 #[.agg #[.slice A n c, .slice A' m c'], .agg #[.slice B p d, .slice B' q d'], .slice W k cw] w (ResMR (imageOfMapOf xs L ys M P) w) := by
  obtain ⟨hb0, hk1, hk2⟩ := box_two w A A' B B' n c m c' p d q d'
  have hk1' := blk_alloc hk1 (.cells #[.slice none 0 0, .slice none 0 0] 29)
  have hk2' := blk_alloc hk2 (.cells #[.slice none 0 0, .slice none 0 0] 29)
  have hk3 := blk_new2 w (.cells #[.slice A n c, .slice A' m c'] 29) (.cells #[.slice B p d, .slice B' q d'] 29) (.cells #[.slice none 0 0, .slice none 0 0] 29)
  have hb0' := hb0.alloc (by simp; omega) (.cells #[.slice none 0 0, .slice none 0 0] 29)
  have HB0 := Lib.hid hb0'
  have HK1 := Lib.hid hk1'
  have HK2 := Lib.hid hk2'
  have HK3 := Lib.hid hk3
  have HMP := Lib.hid (mapped_any A A' B B' W n c m c' p d q d' k cw xs ys L M P _ (hM.below hb0') (hN.below hb0') (hP.below hb0'))
  have HM := Lib.hid hM
  have HN := Lib.hid hN
  have HP := Lib.hid hP
  have HT := Lib.hid hT
  clear hb0 hk1 hk2 hk1' hk2' hk3 hb0' hM hN hP hT
  obtain ⟨x0, x1, xf0, xf1, lx⟩ := blk2cells HK1.out
  obtain ⟨y0, y1, yf0, yf1, ly⟩ := blk2cells HK2.out
  go_enter Tryz.func30, Tryz.ntmps30
  go_wp2_with fail
  refine HMP.out.mono ?_
  rintro e w1 ⟨ho, hb⟩
  have HB1 := Lib.hid (HB0.out.trans (hb.mono HB0.out.size))
  have HK1a := Lib.hid (blk_kept HK1.out hb)
  have HK2a := Lib.hid (blk_kept HK2.out hb)
  have HK3a := Lib.hid (blk_kept HK3.out hb)
  have hs0 := hb.size
  clear hb x0 x1 xf0 xf1 lx y0 y1 yf0 yf1 ly
  obtain ⟨z0, z1, zf0, zf1, lz⟩ := blk2cells HK3a.out
  rcases ho with ⟨h, g, cap, rfl, ho⟩ | ⟨h, rfl⟩
  · obtain ⟨h1, h2, h3⟩ : modB xs (dat L) = true ∧ modB ys (dat M) = true ∧ MapP xs (dat L) ys (dat M) (dat P) := by
      rcases mapC_cases xs (dat L) ys (dat M) (dat P) with h' | h' | ⟨_, h1, h2, h3⟩
      · rw [h'] at h; cases h
      · rw [h'] at h; cases h
      · exact ⟨h1, h2, h3⟩
    have hs1 := (modB_iff.1 h1).shp
    have hs2 := (modB_iff.1 h2).shp
    have hn16 : n ≤ 16 := by rw [HM.out.r.hn]; exact hs1.len
    have hp16 : p ≤ 16 := by rw [HN.out.r.hn]; exact hs2.len
    have hkn : k = n := by rw [HP.out.hk, HM.out.r.hn, ← dat_length]; exact h3.len
    have hk16 : k ≤ 16 := by omega
    clear hkn
    have hTS : ∀ r ∈ (dat P).map mk, Sm r := fun r hr => sm_of_lt (a := ys.length) (by have := hs2.len; omega) (map_hom h3 hs1 r hr).1
    have hM := HM.out
    have hN := HN.out
    have hP := HP.out
    have hT := HT.out
    have HRC := Lib.hid (fun (C : Option Addr) (cc : Nat) (W' : World) (hb : Below w.heap.size w W') (hC : Rd W' C (nv ((dat P).map mk))) => reduced_any C k cc ((dat P).map mk) W' (hT.below hb hw) (Nat.lt_of_lt_of_le hw hb.size) (by rw [List.length_map, dat_length]; exact hP.hk) (by omega) hTS hC)
    have HPK : Hid (P.length = k) := Lib.hid hP.hk.symm
    obtain ⟨S, hS⟩ : ∃ S, S = reduceS ((dat P).map mk) := ⟨_, rfl⟩
    have HSD : Hid (reduceS ((dat P).map mk) = S) := Lib.hid hS.symm
    have HSL : Hid (S.length ≤ 16) := Lib.hid (by rw [hS]; exact (image_ok h3 hs1 hs2).1)
    have HSQ : Hid (∀ r ∈ S, r ≠ 0 ∧ r < 2 ^ ys.length ∧ ∃ d, Hom ys d r) := Lib.hid (by rw [hS]; exact (image_ok h3 hs1 hs2).2)
    have HSP : Hid (∀ r ∈ S, r ≠ 0 ∧ r < 2 ^ ys.length) := Lib.hid (fun r hr => ⟨(HSQ.out r hr).1, (HSQ.out r hr).2.1⟩)
    have HPC := Lib.hid (fun (C : Option Addr) (cc : Nat) (W' : World) (hb : Below w.heap.size w W') (hC : Rd W' C (nv S)) => partOf_any B B' C p d q d' S.length cc ys M S W' (hT.below hb hw) (Nat.lt_of_lt_of_le hw hb.size) (hN.below hb) hs2 rfl HSL.out HSP.out hC)
    have HF : Hid (imageOfMapOf xs L ys M P = partMR ys (dat M) S) := Lib.hid (by unfold imageOfMapOf; rw [if_pos h, HSD.out])
    have HR1 := Lib.hid (owns_Rd ho)
    have KS := Lib.hid (fun w' (hb : Below w1.heap.size w1 w') => show w'.cell? ⟨w.heap.size + 1, 0, none⟩ = some (.slice B p d) ∧ w'.cell? ⟨w.heap.size + 1, 1, none⟩ = some (.slice B' q d') from by
      obtain ⟨x0, x1, _⟩ := blk2cells (blk_kept HK2a.out hb)
      exact ⟨x0, x1⟩)
    have HB_0 := Lib.hid (Below.drew (Below.refl w1.heap.size w1))
    have HW_0 := Lib.hid (HB1.out.trans (HB_0.out.mono HB1.out.size))
    rw [HPK.out]
    clear h h1 h2 h3 hs1 hs2 hM hN hP hT hTS hS ho z0 z1 zf0 zf1 lz
    go_wp2_with fail
    go_region_held3 (fun w' => w'.cell? ⟨w.heap.size + 1, 0, none⟩ = some (.slice B p d) ∧ w'.cell? ⟨w.heap.size + 1, 1, none⟩ = some (.slice B' q d'))
      (first | exact KS.out _ HB_0.out | exact KS.out _ HB_1.out | exact KS.out _ HB_2.out | exact ⟨KS3.out _ _, KS4.out _ _⟩)
      (first
        | (go_at_call 60; (with_reducible refine (HRC.out _ _ _ HW_0.out (HR1.out.below HB_0.out)).mono ?_); (rintro e w2 ⟨v2, rfl, ho, hb⟩; have HO2 := Lib.hid (show w2.ownsRow w1.drew.heap.size 2 1 v2 (reduceS ((dat P).map mk)).length (nv (reduceS ((dat P).map mk))) from ho); rw [HSD.out] at HO2; obtain ⟨A2, c2', rfl, _⟩ := owns_shape HO2.out; have HR2 := Lib.hid (owns_Rd HO2.out); have HB_1 := Lib.hid (HB_0.out.trans (hb.mono HB_0.out.size)); have HW_1 := Lib.hid (HB1.out.trans (HB_1.out.mono HB1.out.size)); clear ho hb))
        | (go_at_call 57; (with_reducible refine (HPC.out _ _ _ HW_1.out HR2.out).mono ?_); (rintro e w3 ⟨v, v3, M3, H, hH, rfl, hmo, hd3, ho3, hb⟩; have HMO := Lib.hid hmo; obtain ⟨Ad, cd, A5, c5, R, rfl, _⟩ := hmo; have HD3 := Lib.hid hd3; have HO3 := Lib.hid ho3; have HB_2 := Lib.hid (HB_1.out.trans (hb.mono HB_1.out.size)); have HZ := Lib.hid (blk_kept HK3a.out HB_2.out); obtain ⟨z0, z1, zf0, zf1, lz⟩ := blk2cells HZ.out; have hx := KS.out _ HB_2.out; have KS3 := Lib.hid (fun (a b : Value) => cell_set2 hx.1 (g := w.heap.size + 1 + 1) (by show w.heap.size + 1 + 1 ≠ w.heap.size + 1; omega) a b); have KS4 := Lib.hid (fun (a b : Value) => cell_set2 hx.2 (g := w.heap.size + 1 + 1) (by show w.heap.size + 1 + 1 ≠ w.heap.size + 1; omega) a b); clear hd3 ho3 hb hx)))
    go_wp2_with fail
    (try simp only [Exit.inBlock, Exit.then])
    refine ret_mr rfl rfl rfl (blk2set1' (blk2set0' HZ.out _) _) ?_
    have hs1 := HB1.out.size
    have hl1 := (blk2cells HK3a.out).2.2.2.2
    have hs2 := HB_1.out.size
    have hkk : Keeps w3 ((w3.setCell ⟨w.heap.size + 1 + 1, 0, none⟩ (.slice Ad (partMR ys (dat M) S).1.1.length cd)).setCell ⟨w.heap.size + 1 + 1, 1, none⟩ (.slice A5 R.length c5)) [some (w.heap.size + 1 + 1)] := ((Keeps.refl w3 _).setCell (p := ⟨w.heap.size + 1 + 1, 0, none⟩) (by simp) _).setCell (p := ⟨w.heap.size + 1 + 1, 1, none⟩) (by simp) _
    refine ⟨_, _, M3, H, Nat.le_trans hs1 (Nat.le_trans hs2 hH), by rw [HF.out]; rfl, ?_, by rw [HF.out]; exact HD3.out, ?_, ?_⟩
    · rw [HF.out]
      exact (HMO.out.keeps hkk (fun j hj => by
        have : j = w.heap.size + 1 + 1 := by simpa using hj
        left; omega)).mono (show w.heap.size ≤ w2.heap.size by omega)
    · exact HO3.out.keeps hkk (not_in (B := H) (H := w3.heap.size) (fun j hj => by
        have : j = w.heap.size + 1 + 1 := by simpa using hj
        left; omega) fun g hg => HO3.out.out.lt g hg) (fun i hi => not_in (B := H) (H := w3.heap.size) (fun j hj => by
        have : j = w.heap.size + 1 + 1 := by simpa using hj
        left; omega) fun g hg => (HO3.out.inn i hi).lt g hg)
    · exact ((HB1.out.trans (HB_2.out.mono hs1)).setCell (p := ⟨w.heap.size + 1 + 1, 0, none⟩) (by show w.heap.size ≤ w.heap.size + 1 + 1; omega) _).setCell (p := ⟨w.heap.size + 1 + 1, 1, none⟩) (by show w.heap.size ≤ w.heap.size + 1 + 1; omega) _
  · have HF : Hid (imageOfMapOf xs L ys M P = (([], []), [], mapC xs (dat L) ys (dat M) (dat P))) := Lib.hid (by unfold imageOfMapOf; rw [if_neg h])
    have hcb : (mapC xs (dat L) ys (dat M) (dat P) != 0) = true := by simpa using h
    generalize mapC xs (dat L) ys (dat M) (dat P) = cd at *
    clear h
    go_wp2_with fail
    (try simp only [Exit.inBlock, Exit.then])
    refine ret_mr rfl rfl rfl (blk2set1' (blk2set0' HK3a.out _) _) ?_
    exact ⟨_, .slice none 0 0, [], w.heap.size, Nat.le_refl _, by rw [HF.out]; rfl, by rw [HF.out]; exact ModOutH.nil _ _ _, by rw [HF.out]; rfl, OwnR.nil _ _, (HB1.out.setCell (p := ⟨w.heap.size + 1 + 1, 0, none⟩) (by show w.heap.size ≤ w.heap.size + 1 + 1; omega) _).setCell (p := ⟨w.heap.size + 1 + 1, 1, none⟩) (by show w.heap.size ≤ w.heap.size + 1 + 1; omega) _⟩

set_option maxRecDepth 100000 in
set_option maxHeartbeats 8000000 in
theorem implKernelOfMap' (A A' B B' W : Option Addr) (n c m c' p d q d' k cw : Nat) (xs ys : List Int) (L M P : List Row) (w : World) (hT : Tab w) (hw : 0 < w.heap.size) (hM : ModIn w A n A' m xs L) (hN : ModIn w B p B' q ys M) (hP : RowsIn w W k P) :
    Calls Tryz.prog 27 #[.agg #[.slice A n c, .slice A' m c'], .agg #[.slice B p d, .slice B' q d'], .slice W k cw] w (ResMR (kernelOfMapOf xs L ys M P) w) := by
  obtain ⟨hb0, hk1, hk2⟩ := box_two w A A' B B' n c m c' p d q d'
  have hk1' := blk_alloc hk1 (.cells #[.slice none 0 0, .slice none 0 0] 29)
  have hk2' := blk_alloc hk2 (.cells #[.slice none 0 0, .slice none 0 0] 29)
  have hk3 := blk_new2 w (.cells #[.slice A n c, .slice A' m c'] 29) (.cells #[.slice B p d, .slice B' q d'] 29) (.cells #[.slice none 0 0, .slice none 0 0] 29)
  have hb0' := hb0.alloc (by simp; omega) (.cells #[.slice none 0 0, .slice none 0 0] 29)
  have HB0 := Lib.hid hb0'
  have HK1 := Lib.hid hk1'
  have HK2 := Lib.hid hk2'
  have HK3 := Lib.hid hk3
  have HMP := Lib.hid (mapped_any A A' B B' W n c m c' p d q d' k cw xs ys L M P _ (hM.below hb0') (hN.below hb0') (hP.below hb0'))
  have HM := Lib.hid hM
  have HN := Lib.hid hN
  have HP := Lib.hid hP
  have HT := Lib.hid hT
  clear hb0 hk1 hk2 hk1' hk2' hk3 hb0' hM hN hP hT
  obtain ⟨x0, x1, xf0, xf1, lx⟩ := blk2cells HK1.out
  obtain ⟨y0, y1, yf0, yf1, ly⟩ := blk2cells HK2.out
  go_enter Tryz.func27, Tryz.ntmps27
  go_wp2_with fail
  refine HMP.out.mono ?_
  rintro e w1 ⟨ho, hb⟩
  have HB1 := Lib.hid (HB0.out.trans (hb.mono HB0.out.size))
  have HK1a := Lib.hid (blk_kept HK1.out hb)
  have HK2a := Lib.hid (blk_kept HK2.out hb)
  have HK3a := Lib.hid (blk_kept HK3.out hb)
  have hs0 := hb.size
  clear hb x0 x1 xf0 xf1 lx y0 y1 yf0 yf1 ly
  obtain ⟨z0, z1, zf0, zf1, lz⟩ := blk2cells HK3a.out
  rcases ho with ⟨h, g, cap, rfl, ho⟩ | ⟨h, rfl⟩
  · obtain ⟨h1, h2, h3⟩ : modB xs (dat L) = true ∧ modB ys (dat M) = true ∧ MapP xs (dat L) ys (dat M) (dat P) := by
      rcases mapC_cases xs (dat L) ys (dat M) (dat P) with h' | h' | ⟨_, h1, h2, h3⟩
      · rw [h'] at h; cases h
      · rw [h'] at h; cases h
      · exact ⟨h1, h2, h3⟩
    have hs1 := (modB_iff.1 h1).shp
    have hs2 := (modB_iff.1 h2).shp
    have hn16 : n ≤ 16 := by rw [HM.out.r.hn]; exact hs1.len
    have hp16 : p ≤ 16 := by rw [HN.out.r.hn]; exact hs2.len
    have hkn : k = n := by rw [HP.out.hk, HM.out.r.hn, ← dat_length]; exact h3.len
    have hk16 : k ≤ 16 := by omega
    clear hkn
    have hTS : ∀ r ∈ (dat P).map mk, Sm r := fun r hr => sm_of_lt (a := ys.length) (by have := hs2.len; omega) (map_hom h3 hs1 r hr).1
    have hM := HM.out
    have hN := HN.out
    have hP := HP.out
    have hT := HT.out
    have HRC := Lib.hid (fun (C : Option Addr) (cc : Nat) (W' : World) (hb : Below w.heap.size w W') (hC : Rd W' C (nv ((dat P).map mk))) => kernel_anyS C k cc ((dat P).map mk) W' (hT.below hb hw) (Nat.lt_of_lt_of_le hw hb.size) (by rw [List.length_map, dat_length]; exact hP.hk) (by omega) hTS hC)
    have HPK : Hid (P.length = k) := Lib.hid hP.hk.symm
    obtain ⟨S, hS⟩ : ∃ S, S = kerR ((dat P).map mk) := ⟨_, rfl⟩
    have HSD : Hid (kerR ((dat P).map mk) = S) := Lib.hid hS.symm
    have HSL : Hid (S.length ≤ 16) := Lib.hid (by rw [hS]; exact (kernel_ok h3 hs1 hs2).1)
    have HSQ : Hid (∀ r ∈ S, r ≠ 0 ∧ r < 2 ^ xs.length ∧ ∃ d, Hom xs d r) := Lib.hid (by rw [hS]; exact (kernel_ok h3 hs1 hs2).2)
    have HSP : Hid (∀ r ∈ S, r ≠ 0 ∧ r < 2 ^ xs.length) := Lib.hid (fun r hr => ⟨(HSQ.out r hr).1, (HSQ.out r hr).2.1⟩)
    have HPC := Lib.hid (fun (C : Option Addr) (cc : Nat) (W' : World) (hb : Below w.heap.size w W') (hC : Rd W' C (nv S)) => partOf_any A A' C n c m c' S.length cc xs L S W' (hT.below hb hw) (Nat.lt_of_lt_of_le hw hb.size) (hM.below hb) hs1 rfl HSL.out HSP.out hC)
    have HF : Hid (kernelOfMapOf xs L ys M P = partMR xs (dat L) S) := Lib.hid (by unfold kernelOfMapOf; rw [if_pos h, HSD.out])
    have HR1 := Lib.hid (owns_Rd ho)
    have KS := Lib.hid (fun w' (hb : Below w1.heap.size w1 w') => show w'.cell? ⟨w.heap.size, 0, none⟩ = some (.slice A n c) ∧ w'.cell? ⟨w.heap.size, 1, none⟩ = some (.slice A' m c') from by
      obtain ⟨x0, x1, _⟩ := blk2cells (blk_kept HK1a.out hb)
      exact ⟨x0, x1⟩)
    have HB_0 := Lib.hid (Below.drew (Below.refl w1.heap.size w1))
    have HW_0 := Lib.hid (HB1.out.trans (HB_0.out.mono HB1.out.size))
    rw [HPK.out]
    clear h h1 h2 h3 hs1 hs2 hM hN hP hT hTS hS ho z0 z1 zf0 zf1 lz
    go_wp2_with fail
    go_region_held3 (fun w' => w'.cell? ⟨w.heap.size, 0, none⟩ = some (.slice A n c) ∧ w'.cell? ⟨w.heap.size, 1, none⟩ = some (.slice A' m c'))
      (first | exact KS.out _ HB_0.out | exact KS.out _ HB_1.out | exact KS.out _ HB_2.out | exact ⟨KS3.out _ _, KS4.out _ _⟩)
      (first
        | (go_at_call 58; (with_reducible refine (HRC.out _ _ _ HW_0.out (HR1.out.below HB_0.out)).mono ?_); (rintro e w2 ⟨v2, rfl, ho, hb⟩; have HO2 := Lib.hid (show w2.ownsRow w1.drew.heap.size 2 1 v2 (kerR ((dat P).map mk)).length (nv (kerR ((dat P).map mk))) from ho); rw [HSD.out] at HO2; obtain ⟨A2, c2', rfl, _⟩ := owns_shape HO2.out; have HR2 := Lib.hid (owns_Rd HO2.out); have HB_1 := Lib.hid (HB_0.out.trans (hb.mono HB_0.out.size)); have HW_1 := Lib.hid (HB1.out.trans (HB_1.out.mono HB1.out.size)); clear ho hb))
        | (go_at_call 57; (with_reducible refine (HPC.out _ _ _ HW_1.out HR2.out).mono ?_); (rintro e w3 ⟨v, v3, M3, H, hH, rfl, hmo, hd3, ho3, hb⟩; have HMO := Lib.hid hmo; obtain ⟨Ad, cd, A5, c5, R, rfl, _⟩ := hmo; have HD3 := Lib.hid hd3; have HO3 := Lib.hid ho3; have HB_2 := Lib.hid (HB_1.out.trans (hb.mono HB_1.out.size)); have HZ := Lib.hid (blk_kept HK3a.out HB_2.out); obtain ⟨z0, z1, zf0, zf1, lz⟩ := blk2cells HZ.out; have hx := KS.out _ HB_2.out; have KS3 := Lib.hid (fun (a b : Value) => cell_set2 hx.1 (g := w.heap.size + 1 + 1) (by show w.heap.size + 1 + 1 ≠ w.heap.size; omega) a b); have KS4 := Lib.hid (fun (a b : Value) => cell_set2 hx.2 (g := w.heap.size + 1 + 1) (by show w.heap.size + 1 + 1 ≠ w.heap.size; omega) a b); clear hd3 ho3 hb hx)))
    go_wp2_with fail
    (try simp only [Exit.inBlock, Exit.then])
    refine ret_mr rfl rfl rfl (blk2set1' (blk2set0' HZ.out _) _) ?_
    have hs1 := HB1.out.size
    have hl1 := (blk2cells HK3a.out).2.2.2.2
    have hs2 := HB_1.out.size
    have hkk : Keeps w3 ((w3.setCell ⟨w.heap.size + 1 + 1, 0, none⟩ (.slice Ad (partMR xs (dat L) S).1.1.length cd)).setCell ⟨w.heap.size + 1 + 1, 1, none⟩ (.slice A5 R.length c5)) [some (w.heap.size + 1 + 1)] := ((Keeps.refl w3 _).setCell (p := ⟨w.heap.size + 1 + 1, 0, none⟩) (by simp) _).setCell (p := ⟨w.heap.size + 1 + 1, 1, none⟩) (by simp) _
    refine ⟨_, _, M3, H, Nat.le_trans hs1 (Nat.le_trans hs2 hH), by rw [HF.out]; rfl, ?_, by rw [HF.out]; exact HD3.out, ?_, ?_⟩
    · rw [HF.out]
      exact (HMO.out.keeps hkk (fun j hj => by
        have : j = w.heap.size + 1 + 1 := by simpa using hj
        left; omega)).mono (show w.heap.size ≤ w2.heap.size by omega)
    · exact HO3.out.keeps hkk (not_in (B := H) (H := w3.heap.size) (fun j hj => by
        have : j = w.heap.size + 1 + 1 := by simpa using hj
        left; omega) fun g hg => HO3.out.out.lt g hg) (fun i hi => not_in (B := H) (H := w3.heap.size) (fun j hj => by
        have : j = w.heap.size + 1 + 1 := by simpa using hj
        left; omega) fun g hg => (HO3.out.inn i hi).lt g hg)
    · exact ((HB1.out.trans (HB_2.out.mono hs1)).setCell (p := ⟨w.heap.size + 1 + 1, 0, none⟩) (by show w.heap.size ≤ w.heap.size + 1 + 1; omega) _).setCell (p := ⟨w.heap.size + 1 + 1, 1, none⟩) (by show w.heap.size ≤ w.heap.size + 1 + 1; omega) _
  · have HF : Hid (kernelOfMapOf xs L ys M P = (([], []), [], mapC xs (dat L) ys (dat M) (dat P))) := Lib.hid (by unfold kernelOfMapOf; rw [if_neg h])
    have hcb : (mapC xs (dat L) ys (dat M) (dat P) != 0) = true := by simpa using h
    generalize mapC xs (dat L) ys (dat M) (dat P) = cd at *
    clear h
    go_wp2_with fail
    (try simp only [Exit.inBlock, Exit.then])
    refine ret_mr rfl rfl rfl (blk2set1' (blk2set0' HK3a.out _) _) ?_
    exact ⟨_, .slice none 0 0, [], w.heap.size, Nat.le_refl _, by rw [HF.out]; rfl, by rw [HF.out]; exact ModOutH.nil _ _ _, by rw [HF.out]; rfl, OwnR.nil _ _, (HB1.out.setCell (p := ⟨w.heap.size + 1 + 1, 0, none⟩) (by show w.heap.size ≤ w.heap.size + 1 + 1; omega) _).setCell (p := ⟨w.heap.size + 1 + 1, 1, none⟩) (by show w.heap.size ≤ w.heap.size + 1 + 1; omega) _⟩
end Go.Proofs.YtpchigdhnnkpcaaGreatDoor

namespace Go.Proofs.YtpchigdhnnkpcaaGreatDoor
open Go.RowKit

theorem partC_three (Q : List (List Int)) (S : List Nat) (j i : Nat) : ∀ c, ∀ x ∈ partC Q S j i c, x.length = 3
  | 0, x, h => by cases h
  | c + 1, x, h => by
    unfold partC at h
    rcases List.mem_append.1 h with h | h
    · exact partC_three Q S j i c x h
    · split at h
      · rw [List.mem_singleton.1 h]; rfl
      · cases h
theorem partI_three (Q : List (List Int)) (S : List Nat) (j : Nat) : ∀ i, ∀ x ∈ partI Q S j i, x.length = 3
  | 0, x, h => by cases h
  | i + 1, x, h => by
    unfold partI at h
    rcases List.mem_append.1 h with h | h
    · exact partI_three Q S j i x h
    · exact partC_three Q S j i _ x h
theorem partJ_three (Q : List (List Int)) (S : List Nat) : ∀ j, ∀ x ∈ partJ Q S j, x.length = 3
  | 0, x, h => by cases h
  | j + 1, x, h => by
    unfold partJ at h
    rcases List.mem_append.1 h with h | h
    · exact partJ_three Q S j x h
    · exact partI_three Q S _ _ x h
theorem plen_none (c : Int) : PLen (([], []), [], c) := ⟨Nat.zero_le _, ⟨Nat.zero_le _, fun x hx => by cases hx⟩, Nat.zero_le _, fun x hx => by cases hx⟩
theorem plen_part {ys : List Int} {R : List (List Int)} {S : List Nat} (hy : ys.length ≤ 16) (hS : S.length ≤ 16) : PLen (partMR ys R S) := by
  refine ⟨?_, ⟨?_, fun x hx => ?_⟩, ?_, fun x hx => ?_⟩
  · show (partD ys S).length ≤ 1000; rw [partD_len]; omega
  · have h1 := partJ_len R S 20
    have h2 : S.length * S.length ≤ 16 * 16 := Nat.mul_le_mul hS hS
    show (partJ R S 20).length ≤ 10000; omega
  · rw [partJ_three R S 20 x hx]; omega
  · show (S.map _).length ≤ 1000; rw [List.length_map]; omega
  · obtain ⟨v, _, rfl⟩ := List.mem_map.1 hx
    rw [bitsL_length]; omega

theorem imageOfMapOf_dat {xs ys : List Int} {L L' M M' P P' : List Row} (h1 : dat L' = dat L) (h2 : dat M' = dat M) (h3 : dat P' = dat P) : imageOfMapOf xs L' ys M' P' = imageOfMapOf xs L ys M P := by unfold imageOfMapOf; rw [h1, h2, h3]
theorem imageOfMapOf_len (xs : List Int) (L : List Row) (ys : List Int) (M P : List Row) : PLen (imageOfMapOf xs L ys M P) := by
  unfold imageOfMapOf
  rcases mapC_cases xs (dat L) ys (dat M) (dat P) with h | h | ⟨h, h1, h2, h3⟩
  · rw [if_neg (by rw [h]; decide)]; exact plen_none _
  · rw [if_neg (by rw [h]; decide)]; exact plen_none _
  · rw [if_pos h]
    have hs1 := (modB_iff.1 h1).shp
    have hs2 := (modB_iff.1 h2).shp
    exact plen_part hs2.len (image_ok h3 hs1 hs2).1
theorem specImageOfMap_any (A0 : Option Addr) (n0 c0 : Nat) (xs0 : List Int) (B0 : Option Addr) (m0 d0 : Nat) (L0 : List Row) (A1 : Option Addr) (n1 c1 : Nat) (xs1 : List Int) (B1 : Option Addr) (m1 d1 : Nat) (L1 : List Row) (A2 : Option Addr) (n2 c2 : Nat) (L2 : List Row) (w : World) (hn0 : n0 = xs0.length) (hs0 : n0 ≤ 1048576) (hR0 : Rd w A0 (iv xs0)) (hm0 : m0 = L0.length) (ht0 : m0 ≤ 1048576) (hl0 : ∀ i, i < L0.length → (rg L0 i).xs.length ≤ 1048576) (hQ0 : RdR w B0 L0) (hn1 : n1 = xs1.length) (hs1 : n1 ≤ 1048576) (hR1 : Rd w A1 (iv xs1)) (hm1 : m1 = L1.length) (ht1 : m1 ≤ 1048576) (hl1 : ∀ i, i < L1.length → (rg L1 i).xs.length ≤ 1048576) (hQ1 : RdR w B1 L1) (hn2 : n2 = L2.length) (hs2 : n2 ≤ 1048576) (hl2 : ∀ i, i < L2.length → (rg L2 i).xs.length ≤ 1048576) (hR2 : RdR w A2 L2) :
    Calls Tryz.prog 29 #[.agg #[.slice A0 n0 c0, .slice B0 m0 d0], .agg #[.slice A1 n1 c1, .slice B1 m1 d1], .slice A2 n2 c2] w (ResMR (imageOfMapOf xs0 L0 xs1 L1 L2) w) :=
  specImageOfMap' A0 B0 A1 B1 A2 n0 c0 m0 d0 n1 c1 m1 d1 n2 c2 xs0 xs1 L0 L1 L2 w ⟨⟨hn0, hR0, hm0, ht0, hQ0⟩, hs0, hl0⟩ ⟨⟨hn1, hR1, hm1, ht1, hQ1⟩, hs1, hl1⟩ ⟨hn2, hs2, hl2, hR2⟩
theorem implImageOfMap_any (A0 : Option Addr) (n0 c0 : Nat) (xs0 : List Int) (B0 : Option Addr) (m0 d0 : Nat) (L0 : List Row) (A1 : Option Addr) (n1 c1 : Nat) (xs1 : List Int) (B1 : Option Addr) (m1 d1 : Nat) (L1 : List Row) (A2 : Option Addr) (n2 c2 : Nat) (L2 : List Row) (w : World) (hT : Tab w) (hw : 0 < w.heap.size) (hn0 : n0 = xs0.length) (hs0 : n0 ≤ 1048576) (hR0 : Rd w A0 (iv xs0)) (hm0 : m0 = L0.length) (ht0 : m0 ≤ 1048576) (hl0 : ∀ i, i < L0.length → (rg L0 i).xs.length ≤ 1048576) (hQ0 : RdR w B0 L0) (hn1 : n1 = xs1.length) (hs1 : n1 ≤ 1048576) (hR1 : Rd w A1 (iv xs1)) (hm1 : m1 = L1.length) (ht1 : m1 ≤ 1048576) (hl1 : ∀ i, i < L1.length → (rg L1 i).xs.length ≤ 1048576) (hQ1 : RdR w B1 L1) (hn2 : n2 = L2.length) (hs2 : n2 ≤ 1048576) (hl2 : ∀ i, i < L2.length → (rg L2 i).xs.length ≤ 1048576) (hR2 : RdR w A2 L2) :
    Calls Tryz.prog 30 #[.agg #[.slice A0 n0 c0, .slice B0 m0 d0], .agg #[.slice A1 n1 c1, .slice B1 m1 d1], .slice A2 n2 c2] w (ResMR (imageOfMapOf xs0 L0 xs1 L1 L2) w) :=
  implImageOfMap' A0 B0 A1 B1 A2 n0 c0 m0 d0 n1 c1 m1 d1 n2 c2 xs0 xs1 L0 L1 L2 w hT hw ⟨⟨hn0, hR0, hm0, ht0, hQ0⟩, hs0, hl0⟩ ⟨⟨hn1, hR1, hm1, ht1, hQ1⟩, hs1, hl1⟩ ⟨hn2, hs2, hl2, hR2⟩

theorem kernelOfMapOf_dat {xs ys : List Int} {L L' M M' P P' : List Row} (h1 : dat L' = dat L) (h2 : dat M' = dat M) (h3 : dat P' = dat P) : kernelOfMapOf xs L' ys M' P' = kernelOfMapOf xs L ys M P := by unfold kernelOfMapOf; rw [h1, h2, h3]
theorem kernelOfMapOf_len (xs : List Int) (L : List Row) (ys : List Int) (M P : List Row) : PLen (kernelOfMapOf xs L ys M P) := by
  unfold kernelOfMapOf
  rcases mapC_cases xs (dat L) ys (dat M) (dat P) with h | h | ⟨h, h1, h2, h3⟩
  · rw [if_neg (by rw [h]; decide)]; exact plen_none _
  · rw [if_neg (by rw [h]; decide)]; exact plen_none _
  · rw [if_pos h]
    have hs1 := (modB_iff.1 h1).shp
    have hs2 := (modB_iff.1 h2).shp
    exact plen_part hs1.len (kernel_ok h3 hs1 hs2).1
theorem specKernelOfMap_any (A0 : Option Addr) (n0 c0 : Nat) (xs0 : List Int) (B0 : Option Addr) (m0 d0 : Nat) (L0 : List Row) (A1 : Option Addr) (n1 c1 : Nat) (xs1 : List Int) (B1 : Option Addr) (m1 d1 : Nat) (L1 : List Row) (A2 : Option Addr) (n2 c2 : Nat) (L2 : List Row) (w : World) (hn0 : n0 = xs0.length) (hs0 : n0 ≤ 1048576) (hR0 : Rd w A0 (iv xs0)) (hm0 : m0 = L0.length) (ht0 : m0 ≤ 1048576) (hl0 : ∀ i, i < L0.length → (rg L0 i).xs.length ≤ 1048576) (hQ0 : RdR w B0 L0) (hn1 : n1 = xs1.length) (hs1 : n1 ≤ 1048576) (hR1 : Rd w A1 (iv xs1)) (hm1 : m1 = L1.length) (ht1 : m1 ≤ 1048576) (hl1 : ∀ i, i < L1.length → (rg L1 i).xs.length ≤ 1048576) (hQ1 : RdR w B1 L1) (hn2 : n2 = L2.length) (hs2 : n2 ≤ 1048576) (hl2 : ∀ i, i < L2.length → (rg L2 i).xs.length ≤ 1048576) (hR2 : RdR w A2 L2) :
    Calls Tryz.prog 25 #[.agg #[.slice A0 n0 c0, .slice B0 m0 d0], .agg #[.slice A1 n1 c1, .slice B1 m1 d1], .slice A2 n2 c2] w (ResMR (kernelOfMapOf xs0 L0 xs1 L1 L2) w) :=
  specKernelOfMap' A0 B0 A1 B1 A2 n0 c0 m0 d0 n1 c1 m1 d1 n2 c2 xs0 xs1 L0 L1 L2 w ⟨⟨hn0, hR0, hm0, ht0, hQ0⟩, hs0, hl0⟩ ⟨⟨hn1, hR1, hm1, ht1, hQ1⟩, hs1, hl1⟩ ⟨hn2, hs2, hl2, hR2⟩
theorem implKernelOfMap_any (A0 : Option Addr) (n0 c0 : Nat) (xs0 : List Int) (B0 : Option Addr) (m0 d0 : Nat) (L0 : List Row) (A1 : Option Addr) (n1 c1 : Nat) (xs1 : List Int) (B1 : Option Addr) (m1 d1 : Nat) (L1 : List Row) (A2 : Option Addr) (n2 c2 : Nat) (L2 : List Row) (w : World) (hT : Tab w) (hw : 0 < w.heap.size) (hn0 : n0 = xs0.length) (hs0 : n0 ≤ 1048576) (hR0 : Rd w A0 (iv xs0)) (hm0 : m0 = L0.length) (ht0 : m0 ≤ 1048576) (hl0 : ∀ i, i < L0.length → (rg L0 i).xs.length ≤ 1048576) (hQ0 : RdR w B0 L0) (hn1 : n1 = xs1.length) (hs1 : n1 ≤ 1048576) (hR1 : Rd w A1 (iv xs1)) (hm1 : m1 = L1.length) (ht1 : m1 ≤ 1048576) (hl1 : ∀ i, i < L1.length → (rg L1 i).xs.length ≤ 1048576) (hQ1 : RdR w B1 L1) (hn2 : n2 = L2.length) (hs2 : n2 ≤ 1048576) (hl2 : ∀ i, i < L2.length → (rg L2 i).xs.length ≤ 1048576) (hR2 : RdR w A2 L2) :
    Calls Tryz.prog 27 #[.agg #[.slice A0 n0 c0, .slice B0 m0 d0], .agg #[.slice A1 n1 c1, .slice B1 m1 d1], .slice A2 n2 c2] w (ResMR (kernelOfMapOf xs0 L0 xs1 L1 L2) w) :=
  implKernelOfMap' A0 B0 A1 B1 A2 n0 c0 m0 d0 n1 c1 m1 d1 n2 c2 xs0 xs1 L0 L1 L2 w hT hw ⟨⟨hn0, hR0, hm0, ht0, hQ0⟩, hs0, hl0⟩ ⟨⟨hn1, hR1, hm1, ht1, hQ1⟩, hs1, hl1⟩ ⟨hn2, hs2, hl2, hR2⟩
end Go.Proofs.YtpchigdhnnkpcaaGreatDoor
