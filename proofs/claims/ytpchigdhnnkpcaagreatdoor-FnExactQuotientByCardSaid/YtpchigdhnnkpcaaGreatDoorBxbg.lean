/- the reference's l12Part -/
import Derived.Test.YtpchigdhnnkpcaaGreatDoorBxbf
import Derived.Test.YtpchigdhnnkpcaaGreatDoorBxas
import Derived.Test.YtpchigdhnnkpcaaGreatDoorBxba
import Derived.Test.YtpchigdhnnkpcaaGreatDoorBxat
set_option linter.all false
namespace Go.Proofs.YtpchigdhnnkpcaaGreatDoor
open Go.RowKit

/-- is v homogeneous of a degree below k? -/
def fitsB (xs : List Int) (v : Nat) : Nat → Bool
  | 0 => false
  | d + 1 => fitsB xs v d || homB xs ((d : Nat) : Int) v
theorem fitsB_iff {xs : List Int} {v : Nat} : ∀ {k}, fitsB xs v k = true ↔ ∃ d : Nat, d < k ∧ Hom xs (d : Int) v
  | 0 => by simp [fitsB]
  | k + 1 => by
    unfold fitsB
    rw [Bool.or_eq_true, fitsB_iff, homB_iff]
    constructor
    · rintro (⟨d, h1, h2⟩ | h)
      · exact ⟨d, by omega, h2⟩
      · exact ⟨k, by omega, h⟩
    · rintro ⟨d, h1, h2⟩
      by_cases e : d = k
      · subst e; exact .inr h2
      · exact .inl ⟨d, by omega, h2⟩
def okR (xs : List Int) (r : List Int) : Bool := vecB xs.length r && fitsB xs (mk r) 21
def okB (xs : List Int) (P : List (List Int)) : Bool := P.all (okR xs)
noncomputable def genC (xs : List Int) (Q P : List (List Int)) : Int := if modB xs Q = true then if P.length ≤ 20 ∧ okB xs P = true then 0 else 2 else 1
noncomputable def genV (xs : List Int) (Q P : List (List Int)) : List Nat := if genC xs Q P = 0 then genR Q (P.map mk) else []
theorem genC_1 {xs : List Int} {Q P : List (List Int)} (h : modB xs Q = false) : genC xs Q P = 1 ∧ genV xs Q P = [] := by
  have e : genC xs Q P = 1 := by unfold genC; rw [h]; rfl
  exact ⟨e, by unfold genV; rw [e]; rfl⟩
theorem genC_2 {xs : List Int} {Q P : List (List Int)} (h : modB xs Q = true) (h2 : ¬ (P.length ≤ 20 ∧ okB xs P = true)) : genC xs Q P = 2 ∧ genV xs Q P = [] := by
  have e : genC xs Q P = 2 := by unfold genC; rw [if_pos h, if_neg h2]
  exact ⟨e, by unfold genV; rw [e]; rfl⟩
theorem genC_0 {xs : List Int} {Q P : List (List Int)} (h : modB xs Q = true) (h2 : P.length ≤ 20) (h3 : okB xs P = true) : genC xs Q P = 0 ∧ genV xs Q P = genR Q (P.map mk) := by
  have e : genC xs Q P = 0 := by unfold genC; rw [if_pos h, if_pos ⟨h2, h3⟩]
  exact ⟨e, by unfold genV; rw [e]; rfl⟩
theorem okB_all {xs : List Int} {P : List Row} (h : ∀ i, i < P.length → okR xs (rg P i).xs = true) : okB xs (dat P) = true := by
  unfold okB
  rw [List.all_eq_true]
  intro r hr
  obtain ⟨i, hi, e⟩ := List.getElem_of_mem hr
  have hi2 : i < P.length := by rw [dat_length] at hi; exact hi
  have := h i hi2
  rw [← dat_getD] at this
  rw [← e]
  simpa [List.getD, hi] using this
theorem okB_no {xs : List Int} {P : List Row} {i : Nat} (hi : i < P.length) (h : okR xs (rg P i).xs = false) : okB xs (dat P) = false := by
  unfold okB
  rw [List.all_eq_false]
  have hi2 : i < (dat P).length := by rw [dat_length]; exact hi
  refine ⟨(dat P)[i], List.getElem_mem hi2, ?_⟩
  rw [← dat_getD] at h
  have e : (dat P).getD i [] = (dat P)[i] := by simp [List.getD, hi2]
  rw [e] at h
  simp [h]
theorem okB_mem {xs : List Int} {P : List (List Int)} (h : okB xs P = true) : ∀ r ∈ P.map mk, r < 2 ^ xs.length ∧ ∃ d : Nat, d < 21 ∧ Hom xs (d : Int) r := fun r hr => by
  obtain ⟨p, hp, rfl⟩ := List.mem_map.1 hr
  have h1 := List.all_eq_true.1 h p hp
  unfold okR at h1
  rw [Bool.and_eq_true] at h1
  exact ⟨(vec_bits h1.1).2, fitsB_iff.1 h1.2⟩
/-- the basis of the least part, and the code -/
def GenP (xs : List Int) (Q P : List (List Int)) (w : World) (e : Ending) (w' : World) : Prop :=
  ∃ v, e = .returned (.tuple #[v, .int .i64 (genC xs Q P)]) ∧ w'.ownsRow w.heap.size 2 1 v (genV xs Q P).length (nv (genV xs Q P)) ∧ Below w.heap.size w w'
theorem GenP.no {xs : List Int} {Q P : List (List Int)} {w w' : World} {z : Int} (h : genC xs Q P = z ∧ genV xs Q P = []) (hb : Below w.heap.size w w') : GenP xs Q P w (.returned (.tuple #[.slice none 0 0, .int .i64 z])) w' :=
  ⟨.slice none 0 0, by rw [h.1], by rw [h.2]; exact World.ownsRow_nil _ _ _ _, hb⟩
theorem SI.len {xs : List Int} {Q : List (List Int)} {T b : List Nat} (hs : Shp xs Q) (h : SI xs Q T b) : b.length ≤ 16 := by
  have h1 := red_len h.red fun r hr => (h.hom r hr).2.1
  have h2 := hs.len
  omega
def lenV : Value → Nat
  | .slice _ n _ => n
  | _ => 0

set_option maxRecDepth 100000 in
set_option maxHeartbeats 8000000 in
theorem l12Part_any (A A' W : Option Addr) (n c m c' k cw : Nat) (xs : List Int) (L P : List Row) (w : World) (hM : ModIn w A n A' m xs L) (hP : RowsIn w W k P) :
    Calls Tryz.prog 63 #[.agg #[.slice A n c, .slice A' m c'], .slice W k cw] w (GenP xs (dat L) (dat P) w) := by
  have hk0 := blk_new w (.cells #[.slice A n c, .slice A' m c'] 29)
  have hb0 : Below w.heap.size w (w.alloc (.cells #[.slice A n c, .slice A' m c'] 29)) := (Below.refl _ _).alloc (Nat.le_refl _) _
  have HIS := Lib.hid (hM.is c c' _ hb0)
  have HM := Lib.hid hM
  have HP := Lib.hid hP
  have Hk : Hid (k = P.length) := Lib.hid hP.hk
  have Hn : Hid (n = xs.length) := Lib.hid hM.r.hn
  obtain ⟨x0, x1, xf0, xf1, lx⟩ := blk2cells hk0
  have hz0 : (w.alloc (.cells #[.slice A n c, .slice A' m c'] 29)).heap.size = w.heap.size + 1 := by simp
  have hpk1 := hP.hk1
  clear hM hP
  go_enter Tryz.func63, Tryz.ntmps63
  go_wp2_with fail
  generalize w.alloc (.cells #[.slice A n c, .slice A' m c'] 29) = w0 at *
  have HB0 := Lib.hid hb0
  have HK0 := Lib.hid hk0
  clear hb0 hk0
  refine HIS.out.mono ?_
  rintro e w1 ⟨rfl, hb⟩
  have HB1 := Lib.hid (HB0.out.trans (hb.mono HB0.out.size))
  have HK1 := Lib.hid (blk_kept HK0.out hb)
  clear hb x0 x1 xf0 xf1 lx HIS
  cases hmod : modB xs (dat L)
  · have HF := Lib.hid (genC_1 (P := dat P) hmod)
    clear hmod
    go_wp2_with fail
    go_ret2
    exact GenP.no HF.out HB1.out
  have hs := (modB_iff.1 hmod).shp
  have HSH := Lib.hid hs
  have HMOD := Lib.hid hmod
  have hn16 : n ≤ 16 := by rw [Hn.out]; exact hs.len
  clear hs hmod
  by_cases h20 : k ≤ 20
  rotate_left
  · have HF := Lib.hid (genC_2 (P := dat P) HMOD.out (by rw [dat_length, ← Hk.out]; omega))
    have h20i : (20 : Int) < (k : Int) := by omega
    clear h20
    go_wp2_with fail
    go_ret2
    exact GenP.no HF.out HB1.out
  have h20i : ¬ (20 : Int) < (k : Int) := by omega
  have HVC := Lib.hid (fun (V : Option Addr) (kv cv : Nat) (v : List Int) (W : World) (hkv : kv = v.length) (hsm : kv ≤ 1099511627776) (hV : Rd W V (iv v)) => l11Vector_any A A' V n c m c' kv cv v W hkv hsm hV)
  have HDG := Lib.hid (fun (d : Int) (W : World) (hb : Below w.heap.size w W) => l12Degree_any A A' n c m c' xs d W Hn.out (by omega) (HM.out.r.deg.below hb))
  have HDS : Hid (∀ d, Sm (dmask xs d)) := Lib.hid (fun d => sm_of_lt (a := xs.length) (by have := HSH.out.len; omega) (dmask_lt xs d))
  have HBA := Lib.hid (fun (V : Option Addr) (k cv : Nat) (T : List Nat) (W : World) (hb : Below w.heap.size w W) (hkT : k = T.length) (hk1 : k ≤ 1000000) (hT : ∀ r ∈ T, r < 2 ^ n) (hV : Rd W V (nv T)) => l12Basis_any A A' V n c m c' k cv xs T W Hn.out hn16 HSH.out.srtL (HM.out.r.deg.below hb) hkT hk1 hT hV)
  have HAM := Lib.hid (fun (z : Int) (v : Nat) (W : World) (hb : Below w.heap.size w W) (hv : v < 2 ^ xs.length) => l12Act_any A A' n c m c' xs L z (v : Int) v W (HM.out.r.below hb) HSH.out rfl hv)
  have HLEN : Hid (((dat P).map mk).length = k) := Lib.hid (by rw [List.length_map, dat_length, Hk.out])
  have hs1 := HB1.out.size
  go_wp2_with fail
  go_loopw [6, 7] (fun s6 s7 wr => ∃ (i : Nat) (Am : Option Addr) (cm : Nat), i ≤ k ∧ s7 = .int .i64 i ∧ s6 = .slice Am i cm ∧ wr.ownsRow w1.heap.size 2 1 (.slice Am i cm) i (nv (((dat P).map mk).take i)) ∧ (∀ j, j < i → okR xs (rg P j).xs = true) ∧ Below w1.heap.size w1 wr) (fun _ s => fun _ => k - (intOf s).toNat)
  case atStart => exact ⟨0, _, 0, by omega, rfl, rfl, World.ownsRow_made w1 #[] 0 (Nat.le_refl _) (by decide) (by simp), (fun j hj => by omega), (Below.refl _ _).alloc (Nat.le_refl _) _⟩
  case round =>
    obtain ⟨i, Am, cm, hi, rfl, rfl, hown, hok, hbel⟩ := hrel
    have HO := Lib.hid hown
    have HB := Lib.hid hbel
    have HOK := Lib.hid hok
    have hsz := hbel.size
    have hbw := HB1.out.trans (hbel.mono hs1)
    by_cases hik : i < k
    · have hiP : i < P.length := by rw [← Hk.out]; exact hik
      obtain ⟨b, o, hWe, hc⟩ := (HP.out.rd.below hbw).at_ hiP
      have hin := (HP.out.rd.below hbw).inn i hiP
      have hll := HP.out.hl i hiP
      have hki : (i : Int) < (k : Int) := by omega
      have HTS : Hid (((dat P).map mk).take (i + 1) = ((dat P).map mk).take i ++ [mk (rg P i).xs]) := Lib.hid (by
        rw [List.take_succ_eq_append_getElem (by rw [HLEN.out]; exact hik), List.getElem_map, ← dat_getD]; simp [List.getD, dat, hiP])
      have HNO : Hid (okR xs (rg P i).xs = false → genC xs (dat L) (dat P) = 2 ∧ genV xs (dat L) (dat P) = []) := Lib.hid (fun h => genC_2 HMOD.out (by rw [okB_no hiP h]; simp))
      have HYES : Hid (okR xs (rg P i).xs = true → ∀ j, j < i + 1 → okR xs (rg P j).xs = true) := Lib.hid (fun h j hj => by
        by_cases e : j = i
        · subst e; exact h
        · exact HOK.out j (by omega))
      subst hWe
      generalize rg P i = r at *
      obtain ⟨rA, rc, rx⟩ := r
      simp only at hc hin hll HTS HNO HYES
      have HIN := Lib.hid hin
      have HBW := Lib.hid hbw
      have HKr := Lib.hid (blk_kept HK1.out hbel)
      have HVI := Lib.hid (fun (W : World) (hb : Below wr.heap.size wr W) => HVC.out rA rx.length rc rx W rfl (by omega) (hin.below hb))
      have KS := Lib.hid (fun w' (hb : Below wr.heap.size wr w') => show w'.cell? ⟨w.heap.size, 0, none⟩ = some (.slice A n c) ∧ w'.cell? ⟨w.heap.size, 1, none⟩ = some (.slice A' m c') ∧ w'.cell? ⟨b, o + i, none⟩ = some (.slice rA rx.length rc) from by
        obtain ⟨x0, x1, _⟩ := blk2cells (blk_kept HKr.out hb)
        exact ⟨x0, x1, cell_keep hc hb⟩)
      have HCK := Lib.hid (fun (W : World) (hb : Below wr.heap.size wr W) => cell_keep hc hb)
      have HB_0 := Lib.hid (Below.drew (Below.refl wr.heap.size wr))
      clear hown hbel hok hbw hc hin
      have hok0 : okR xs rx = (vecB n rx && fitsB xs (mk rx) 21) := by unfold okR; rw [← Hn.out]
      obtain ⟨bv, hbv⟩ : ∃ bv, bv = vecB n rx := ⟨_, rfl⟩
      rw [← hbv] at hok0
      have HBV := Lib.hid hbv
      have HOK0 := Lib.hid hok0
      clear hbv hok0
      cases bv with
      | false =>
        have HF := Lib.hid (HNO.out (by rw [HOK0.out]; rfl))
        go_wp2_with fail
        go_region_held3 (fun w' => w'.cell? ⟨w.heap.size, 0, none⟩ = some (.slice A n c) ∧ w'.cell? ⟨w.heap.size, 1, none⟩ = some (.slice A' m c') ∧ w'.cell? ⟨b, o + i, none⟩ = some (.slice rA rx.length rc))
          (first | exact KS.out _ HB_0.out | exact KS.out _ HB_1.out)
          ((go_at_call 98; (with_reducible refine (HVI.out _ HB_0.out).mono ?_); (rintro e w7 ⟨rfl, hb⟩; rw [← HBV.out]; have HB_1 := Lib.hid (HB_0.out.trans (hb.mono HB_0.out.size)); clear hb)))
        go_wp2_with fail
        go_ret2
        exact GenP.no HF.out (HBW.out.trans (HB_1.out.mono HBW.out.size))
      | true =>
        go_wp2_with fail
        go_region_held3 (fun w' => w'.cell? ⟨w.heap.size, 0, none⟩ = some (.slice A n c) ∧ w'.cell? ⟨w.heap.size, 1, none⟩ = some (.slice A' m c') ∧ w'.cell? ⟨b, o + i, none⟩ = some (.slice rA rx.length rc))
          (first | exact KS.out _ HB_0.out | exact KS.out _ HB_1.out)
          ((go_at_call 98; (with_reducible refine (HVI.out _ HB_0.out).mono ?_); (rintro e w7 ⟨rfl, hb⟩; rw [← HBV.out]; have HB_1 := Lib.hid (HB_0.out.trans (hb.mono HB_0.out.size)); clear hb)))
        obtain ⟨e1, e2, e3⟩ := vec_row HBV.out.symm
        have hin7 := HIN.out.below HB_1.out
        rw [e2] at hin7
        have hqs := sm_of_lt (a := n) (by omega) e3
        have HMK := Lib.hid (l12Mask_any rA n rc (mk rx) w7 (by omega) e3 hin7)
        rw [← e1] at HMK
        have HO7 := Lib.hid (owns_keeps HO.out (Keeps.of_below HB_1.out) (.inr (by simp)))
        have HB7 := Lib.hid (HB.out.trans (HB_1.out.mono hsz))
        have HK7 := Lib.hid (blk_kept HKr.out HB_1.out)
        have hs7 := HB7.out.size
        have HBW7 := Lib.hid (HB1.out.trans (HB7.out.mono hs1))
        have HFS : Hid (∀ d, fitsB xs (mk rx) (d + 1) = (fitsB xs (mk rx) d || (nt (mk rx) (dmask xs (d : Int)) == 0))) := Lib.hid (fun d => rfl)
        have HFZ : Hid (fitsB xs (mk rx) 0 = false) := Lib.hid rfl
        generalize hqq : mk rx = q at *
        have HQQ := Lib.hid hqq
        clear hqq
        clear e1 e2 e3 hin7 HB_0 HB_1 KS HVI HCK HIN HO HB HKr
        generalize fitsB xs q = ft at *
        go_wp2_with fail
        refine HMK.out.mono ?_
        rintro e w8 ⟨rfl, rfl⟩
        go_wp2_with fail
        go_loopw [9, 10] (fun s9 s10 wr => ∃ d : Nat, d ≤ 21 ∧ s10 = .int .i64 d ∧ s9 = .bool (ft d) ∧ Below w7.heap.size w7 wr) (fun _ s => fun _ => 21 - (intOf s).toNat)
        case atStart => exact ⟨0, by omega, rfl, by rw [HFZ.out], Below.refl _ _⟩
        case round =>
          obtain ⟨d, hd, rfl, rfl, hbel⟩ := hrel
          have HBd := Lib.hid hbel
          have hszd := hbel.size
          by_cases hd20 : d ≤ 20
          · have hdi : (d : Int) ≤ 20 := by omega
            have HFd := Lib.hid (HFS.out d)
            obtain ⟨x0, x1, xf0, xf1, lx⟩ := blk2cells (blk_kept HK7.out hbel)
            obtain ⟨bd, hbd⟩ : ∃ bd, bd = ft d := ⟨_, rfl⟩
            rw [← hbd] at HFd ⊢
            clear hbd
            cases bd with
            | true =>
              clear hbel
              go_wp2_with fail
              go_roundw
              case rel => exact ⟨d + 1, by omega, by go_num, by rw [HFd.out]; rfl, HBd.out⟩
              case measure => simp [intOf]; omega
            | false =>
              have HDC := Lib.hid (HDG.out (d : Int) wr (HBW7.out.trans (hbel.mono HBW7.out.size)))
              have hand := i64_andnot_nat hqs (HDS.out (d : Int))
              generalize dmask xs (d : Int) = u at *
              generalize nt q u = z at *
              have hzz : ((z : Int) == 0) = (z == 0) := by
                by_cases e : z = 0
                · subst e; rfl
                · rw [show (z == 0) = false by simpa using e]; simp; omega
              clear hbel
              go_wp2_with (go_at_call 78; refine HDC.out.mono ?_; rintro e w9 ⟨rfl, hb⟩; have HB9 := Lib.hid (HBd.out.trans (hb.mono hszd)); clear hb)
              go_roundw
              case rel => exact ⟨d + 1, by omega, by go_num, by rw [HFd.out]; rfl, HB9.out⟩
              case measure => simp [intOf]; omega
          · obtain rfl : d = 21 := by omega
            have HO9 := Lib.hid (owns_keeps HO7.out (Keeps.of_below hbel) (.inr (by simp)))
            have HB9 := Lib.hid (HB7.out.trans (hbel.mono hs7))
            have hs9 := HB9.out.size
            clear hbel
            obtain ⟨bd, hbd⟩ : ∃ bd, bd = ft 21 := ⟨_, rfl⟩
            have HBD := Lib.hid hbd
            rw [← hbd]
            clear hbd
            rw [← HBD.out] at HOK0
            cases bd with
            | false =>
              have HF := Lib.hid (HNO.out (by rw [HOK0.out]; rfl))
              go_wp2_with fail
              go_ret2
              exact GenP.no HF.out (HB1.out.trans (HB9.out.mono hs1))
            | true =>
              go_wp2_with (at_builtin; refine wpList_app1 _ _ _ _ _ etI (by rfl) (by rfl) w1.heap.size (.slice Am i cm) i (nv (((dat P).map mk).take i)) (by rfl) (HO9.out.alloc _) _ (.int .i64 (q : Int)) (by rfl) (new_cell _ _ _) (by rfl) (by omega) (Nat.le_trans hs9 (Nat.le_of_lt (by simp))) ?_; (intro g1 cap1 w10 hown1 hgrow1 hat1 hlt1; have HO10 := Lib.hid hown1; have HB10 := Lib.hid (below_app2 HB9.out hs9 HO9.out hgrow1); clear hown1 hgrow1 hat1 hlt1))
              go_roundw
              case rel => exact ⟨i + 1, some ⟨g1, 0, none⟩, cap1, by omega, by go_num, rfl, by rw [HTS.out, nv_append]; exact HO10.out, HYES.out (by rw [HOK0.out]; rfl), HB10.out⟩
              case measure => simp [intOf]; omega
    · obtain rfl : k = i := by omega
      have HF := Lib.hid (genC_0 HMOD.out (by rw [dat_length, ← Hk.out]; exact h20) (okB_all (fun j hj => hok j (by rw [Hk.out]; exact hj))))
      have HMM := Lib.hid (okB_mem (okB_all (fun j hj => hok j (by rw [Hk.out]; exact hj))))
      rw [show ((dat P).map mk).take k = (dat P).map mk from List.take_of_length_le (by rw [HLEN.out]; exact Nat.le_refl _)] at hown
      have HKr := Lib.hid (blk_kept HK1.out hbel)
      have HBW := Lib.hid hbw
      generalize hT : (dat P).map mk = T at *
      clear hT
      have HSI := Lib.hid (SI.of HSH.out (fun r hr => (HMM.out r hr).1) (fun r hr _ => (HMM.out r hr).2) (T := T) (fun r hr => .mem hr) (fun r hr => .mem hr))
      have HBC := Lib.hid (HBA.out Am k cm T wr hbw HLEN.out.symm (by omega) (fun r hr => by rw [Hn.out]; exact (HMM.out r hr).1) (owns_Rd hown))
      obtain ⟨x0, x1, xf0, xf1, lx⟩ := blk2cells HKr.out
      clear hown hbel hok hbw
      go_wp2_with fail
      refine HBC.out.mono ?_
      rintro e w2 ⟨v2, rfl, ho, hb⟩
      obtain ⟨A2, c2, rfl, _⟩ := owns_shape ho
      have HO2 := Lib.hid (ho.mono HBW.out.size)
      have HB2 := Lib.hid (HBW.out.trans (hb.mono HBW.out.size))
      have HK2 := Lib.hid (blk_kept HKr.out hb)
      clear ho hb x0 x1 xf0 xf1 lx
      go_wp2_with fail
      go_loopw [11] (fun s11 wr => ∃ (S : List Nat) (As : Option Addr) (cs : Nat), s11 = .slice As S.length cs ∧ Hid (SI xs (dat L) T S) ∧ wr.ownsRow w.heap.size 2 1 (.slice As S.length cs) S.length (nv S) ∧ Below w2.heap.size w2 wr ∧ S.length ≤ 16) (fun s => fun _ => 16 - lenV s)
      case atStart => exact ⟨byDeg xs T 21, A2, c2, rfl, Lib.hid HSI.out, HO2.out, Below.refl _ _, HSI.out.len HSH.out⟩
      case round =>
        obtain ⟨S, As, cs, rfl, hsi, hown, hbel, hsl⟩ := hrel
        obtain ⟨wa, hwa⟩ : ∃ wa, wa = wr := ⟨_, rfl⟩
        subst hwa
        have HO := Lib.hid hown
        have HB := Lib.hid hbel
        have hst := SI.step HSH.out hsi.out
        have HST := Lib.hid hst
        have HMO := Lib.hid (SI.more HSH.out hsi.out)
        have HSR := Lib.hid (fun r hr => (hsi.out.hom r hr).2.1)
        have HRS := Lib.hid (owns_Rd hown)
        have HBW0 := Lib.hid (HB2.out.trans (hbel.mono HB2.out.size))
        have HKr := Lib.hid (blk_kept HK2.out hbel)
        have hsz := hbel.size
        have HML := Lib.hid (fun i => moreT_len (dat L) S i)
        have HM0 : Hid (moreT (dat L) S 0 = S) := Lib.hid rfl
        clear hown hbel hst
        go_wp2_with (at_builtin; refine wpList_appR _ _ _ _ _ etI (by rfl) (by rfl) wa.heap.size (.slice (some ⟨wa.heap.size, 0, none⟩) 0 0) 0 [] (by rfl) (World.ownsRow_made wa #[] 0 (Nat.le_refl _) (by decide) (by simp)) As S.length cs (nv S) (by rfl) (nv_length _).symm (HRS.out.below ((Below.refl _ _).alloc (Nat.le_refl _) _)) (nv_one _) (by omega) (by simp) ?_; (intro v3 w3 hown3 hg3 hat3; have HB3 := Lib.hid (((Below.refl wa.heap.size wa).alloc (Nat.le_refl _) (.cells #[] 2)).grown hg3 (by simp) (fun k hk => by simp [Value.ownBlock] at hk; omega)); rw [Nat.zero_add, List.nil_append] at hown3; obtain ⟨A3, c3, rfl, _⟩ := owns_shape hown3; have HO3 := Lib.hid hown3; clear hown3 hg3 hat3))
        have hs3 := HB3.out.size
        go_loopw [12, 13] (fun s12 s13 w4 => ∃ (i : Nat) (Am : Option Addr) (cm : Nat), i ≤ S.length ∧ s13 = .int .i64 i ∧ s12 = .slice Am (moreT (dat L) S i).length cm ∧ w4.ownsRow wa.heap.size 2 1 (.slice Am (moreT (dat L) S i).length cm) (moreT (dat L) S i).length (nv (moreT (dat L) S i)) ∧ Below wa.heap.size wa w4) (fun _ s => fun _ => S.length - (intOf s).toNat)
        case atStart => exact ⟨0, A3, c3, by omega, rfl, by rw [HM0.out], by rw [HM0.out]; exact HO3.out, HB3.out⟩
        case round =>
          obtain ⟨i, Am, cm, hi, rfl, rfl, hown, hbel⟩ := hrel
          have HO4 := Lib.hid hown
          have HB4 := Lib.hid hbel
          have hml := HML.out i
          by_cases hik : i < S.length
          · have HMS : Hid (moreT (dat L) S (i + 1) = moreT (dat L) S i ++ acts (dat L) (S.getD i 0) 20) := Lib.hid rfl
            have hri := HSR.out _ (getD_mem hik)
            obtain ⟨b, o, hAe, hc0⟩ := HRS.out.atN hik
            have HAL := Lib.hid (fun j => acts_len (dat L) (S.getD i 0) j)
            have HA0 : Hid (acts (dat L) (S.getD i 0) 0 = []) := Lib.hid rfl
            have HAS : Hid (∀ j, 1 ≤ j → acts (dat L) (S.getD i 0) j = acts (dat L) (S.getD i 0) (j - 1) ++ [act (dat L) (j : Int) (S.getD i 0)]) := Lib.hid (fun j hj => by
              obtain ⟨j', rfl⟩ : ∃ j', j = j' + 1 := ⟨j - 1, by omega⟩
              exact acts_succ _ _ _)
            have HAMr := Lib.hid (fun (z : Int) (W : World) (hb : Below wa.heap.size wa W) => HAM.out z (S.getD i 0) W (HBW0.out.trans (hb.mono HBW0.out.size)) hri)
            have HCK := Lib.hid (fun (W : World) (hb : Below wa.heap.size wa W) => cell_keep hc0 hb)
            subst hAe
            generalize moreT (dat L) S i = G at *
            generalize hG1 : moreT (dat L) S (i + 1) = G' at *
            have HG1 := Lib.hid hG1
            clear hG1
            generalize S.getD i 0 = r at *
            generalize act (dat L) = at' at *
            generalize acts (dat L) r = ac at *
            clear hown hbel hc0 hri
            go_wp2_with fail
            go_loopw [12, 14] (fun s12 s14 w5 => ∃ (j : Nat) (Am : Option Addr) (cm : Nat), 1 ≤ j ∧ j ≤ 21 ∧ s14 = .int .i64 j ∧ s12 = .slice Am (G ++ ac (j - 1)).length cm ∧ w5.ownsRow wa.heap.size 2 1 (.slice Am (G ++ ac (j - 1)).length cm) (G ++ ac (j - 1)).length (nv (G ++ ac (j - 1))) ∧ Below wa.heap.size wa w5) (fun _ s => fun _ => 21 - (intOf s).toNat)
            case atStart => exact ⟨1, Am, cm, by omega, by omega, rfl, by rw [HA0.out, List.append_nil], by rw [HA0.out, List.append_nil]; exact HO4.out, HB4.out⟩
            case round =>
              obtain ⟨j, Am, cm, hj1, hj2, rfl, rfl, hown, hbel⟩ := hrel
              have HO5 := Lib.hid hown
              have HB5 := Lib.hid hbel
              have hsz5 := hbel.size
              by_cases hj20 : j ≤ 20
              · have hj20i : (j : Int) ≤ 20 := by omega
                have HGJ : Hid (G ++ ac j = (G ++ ac (j - 1)) ++ [at' (j : Int) r]) := Lib.hid (by rw [HAS.out j hj1, ← List.append_assoc])
                have haj := HAL.out (j - 1)
                have hgl : (G ++ ac (j - 1)).length ≤ 1000000 := by rw [List.length_append]; omega
                generalize G ++ ac (j - 1) = GJ at *
                have HAMj := Lib.hid (fun (W : World) (hb : Below wa.heap.size wa W) => HAMr.out (j : Int) W hb)
                have KS := Lib.hid (fun w' (hb : Below wa.heap.size wa w') => show w'.cell? ⟨w.heap.size, 0, none⟩ = some (.slice A n c) ∧ w'.cell? ⟨w.heap.size, 1, none⟩ = some (.slice A' m c') ∧ w'.cell? ⟨b, o + i, none⟩ = some (.int .i64 (r : Nat)) from by
                  obtain ⟨x0, x1, _⟩ := blk2cells (blk_kept HKr.out hb)
                  exact ⟨x0, x1, HCK.out _ hb⟩)
                have HB_0 := Lib.hid (Below.drew HB5.out)
                clear hown hbel
                go_wp2_with fail
                refine wp_region_K (S := (fun w' => w'.cell? ⟨w.heap.size, 0, none⟩ = some (.slice A n c) ∧ w'.cell? ⟨w.heap.size, 1, none⟩ = some (.slice A' m c') ∧ w'.cell? ⟨b, o + i, none⟩ = some (.int .i64 (r : Nat)))) 10 (by kernel_rfl) (by (first | exact KS.out _ HB_0.out | exact KS.out _ HB_1.out | exact KS.out _ (HB_1.out.alloc HB_1.out.size _) | exact KS.out _ HB_2.out)) (fun hHeld => ?_)
                refine wpAnyK_take (i := 0) (oi := ?oik1_1) (v := ?vk1_1) ?hk1_1 (by kernel_rfl) (by kernel_rfl) (by kernel_rfl) (by kernel_rfl) ?qk1_1 (Or.inl ⟨?wk1_1, ?yk1_1⟩) (by assumption) ?rk1_1
                case hk1_1 => (simp only [List.getElem?_toArray, List.getElem?_cons_succ, List.getElem?_cons_zero]; rfl)
                case qk1_1 => exact fun _ _ _ h => h
                case wk1_1 => rfl
                case yk1_1 => (intro w hSw; (try dsimp only at hSw); go_simp <;> with_reducible rfl)
                try simp only [Act.put, List.setIfInBounds_toArray, List.set_cons_zero, List.set_cons_succ]
                refine wpAnyK_take (i := 1) (oi := ?oik1_2) (v := ?vk1_2) ?hk1_2 (by kernel_rfl) (by kernel_rfl) (by kernel_rfl) (by kernel_rfl) ?qk1_2 (Or.inl ⟨?wk1_2, ?yk1_2⟩) (by assumption) ?rk1_2
                case hk1_2 => (simp only [List.getElem?_toArray, List.getElem?_cons_succ, List.getElem?_cons_zero]; rfl)
                case qk1_2 => exact fun _ _ _ h => h
                case wk1_2 => rfl
                case yk1_2 => (intro w hSw; (try dsimp only at hSw); go_simp <;> with_reducible rfl)
                try simp only [Act.put, List.setIfInBounds_toArray, List.set_cons_zero, List.set_cons_succ]
                refine wpAnyK_take (i := 2) (oi := ?oik1_3) (v := ?vk1_3) ?hk1_3 (by kernel_rfl) (by kernel_rfl) (by kernel_rfl) (by kernel_rfl) ?qk1_3 (Or.inl ⟨?wk1_3, ?yk1_3⟩) (by assumption) ?rk1_3
                case hk1_3 => (simp only [List.getElem?_toArray, List.getElem?_cons_succ, List.getElem?_cons_zero]; rfl)
                case qk1_3 => exact fun _ _ _ h => h
                case wk1_3 => rfl
                case yk1_3 => (intro w hSw; (try dsimp only at hSw); go_simp <;> with_reducible rfl)
                try simp only [Act.put, List.setIfInBounds_toArray, List.set_cons_zero, List.set_cons_succ]
                refine wpAnyK_take (i := 3) (oi := ?oik1_4) (v := ?vk1_4) ?hk1_4 (by kernel_rfl) (by kernel_rfl) (by kernel_rfl) (by kernel_rfl) ?qk1_4 (Or.inl ⟨?wk1_4, ?yk1_4⟩) (by assumption) ?rk1_4
                case hk1_4 => (simp only [List.getElem?_toArray, List.getElem?_cons_succ, List.getElem?_cons_zero]; rfl)
                case qk1_4 => exact fun _ _ _ h => h
                case wk1_4 => rfl
                case yk1_4 => (intro w hSw; (try dsimp only at hSw); go_simp <;> with_reducible rfl)
                try simp only [Act.put, List.setIfInBounds_toArray, List.set_cons_zero, List.set_cons_succ]
                refine wpAnyK_take (i := 4) (oi := ?oik1_5) (v := ?vk1_5) ?hk1_5 (by kernel_rfl) (by kernel_rfl) (by kernel_rfl) (by kernel_rfl) ?qk1_5 (Or.inl ⟨?wk1_5, ?yk1_5⟩) (by assumption) ?rk1_5
                case hk1_5 => (simp only [List.getElem?_toArray, List.getElem?_cons_succ, List.getElem?_cons_zero]; rfl)
                case qk1_5 => exact fun _ _ _ h => h
                case wk1_5 => rfl
                case yk1_5 => (intro w hSw; (try dsimp only at hSw); go_simp <;> with_reducible rfl)
                try simp only [Act.put, List.setIfInBounds_toArray, List.set_cons_zero, List.set_cons_succ]
                refine wpAnyK_take (i := 5) (oi := ?oik1_6) (v := ?vk1_6) ?hk1_6 (by kernel_rfl) (by kernel_rfl) (by kernel_rfl) (by kernel_rfl) ?qk1_6 (Or.inl ⟨?wk1_6, ?yk1_6⟩) (by assumption) ?rk1_6
                case hk1_6 => (simp only [List.getElem?_toArray, List.getElem?_cons_succ, List.getElem?_cons_zero]; rfl)
                case qk1_6 => exact fun _ _ _ h => h
                case wk1_6 => rfl
                case yk1_6 => (intro w hSw; (try dsimp only at hSw); go_simp <;> with_reducible rfl)
                try simp only [Act.put, List.setIfInBounds_toArray, List.set_cons_zero, List.set_cons_succ]
                refine wpAnyK_take (i := 6) (oi := ?oik1_7) (v := ?vk1_7) ?hk1_7 (by kernel_rfl) (by kernel_rfl) (by kernel_rfl) (by kernel_rfl) ?qk1_7 (Or.inl ⟨?wk1_7, ?yk1_7⟩) (by assumption) ?rk1_7
                case hk1_7 => (simp only [List.getElem?_toArray, List.getElem?_cons_succ, List.getElem?_cons_zero]; rfl)
                case qk1_7 => exact fun _ _ _ h => h
                case wk1_7 => rfl
                case yk1_7 => (intro w hSw; (try dsimp only at hSw); go_simp <;> with_reducible rfl)
                try simp only [Act.put, List.setIfInBounds_toArray, List.set_cons_zero, List.set_cons_succ]
                refine wpAnyK_ready (rs := [7]) (by kernel_rfl) (by simp) ?_
                refine AllReadyK.cons (o := ?oik1_8) ?hk1_8 (fun K hK => ?kk1_8) ?mk1_8
                case hk1_8 => (simp only [List.getElem?_toArray, List.getElem?_cons_succ, List.getElem?_cons_zero]; rfl)
                case kk1_8 =>
                  go_simp
                  (go_at_call 81; (with_reducible refine (HAMj.out _ HB_0.out).mono ?_); (rintro e w7 ⟨rfl, hb⟩; have HB_1 := Lib.hid (HB_0.out.trans (hb.mono HB_0.out.size)); have HO7 := Lib.hid (owns_keeps HO5.out (Keeps.of_below (Below.trans (Below.drew (Below.refl _ _)) hb)) (.inr (by simp))); clear hb))
                  refine hK.out _ _ (by (first | exact KS.out _ HB_0.out | exact KS.out _ HB_1.out | exact KS.out _ (HB_1.out.alloc HB_1.out.size _) | exact KS.out _ HB_2.out)) (fun hHeld => ?_)
                  clear hK K
                  try simp only [Act.put, List.setIfInBounds_toArray, List.set_cons_zero, List.set_cons_succ]
                  refine wpAnyK_ready (rs := [8]) (by kernel_rfl) (by simp) ?_
                  refine AllReadyK.cons (o := ?oik1_9) ?hk1_9 (fun K hK => ?kk1_9) ?mk1_9
                  case hk1_9 => (simp only [List.getElem?_toArray, List.getElem?_cons_succ, List.getElem?_cons_zero]; rfl)
                  case kk1_9 =>
                    go_simp
                    refine hK.out _ _ (by (first | exact KS.out _ HB_0.out | exact KS.out _ HB_1.out | exact KS.out _ (HB_1.out.alloc HB_1.out.size _) | exact KS.out _ HB_2.out)) (fun hHeld => ?_)
                    clear hK K
                    try simp only [Act.put, List.setIfInBounds_toArray, List.set_cons_zero, List.set_cons_succ]
                    refine wpAnyK_ready (rs := [9]) (by kernel_rfl) (by simp) ?_
                    refine AllReadyK.cons (o := ?oik1_10) ?hk1_10 (fun K hK => ?kk1_10) ?mk1_10
                    case hk1_10 => (simp only [List.getElem?_toArray, List.getElem?_cons_succ, List.getElem?_cons_zero]; rfl)
                    case kk1_10 =>
                      (refine step_app1 _ _ _ _ _ etI (by rfl) (by rfl) wa.heap.size (.slice Am GJ.length cm) GJ.length (nv GJ) (by rfl) ?_ _ (.int .i64 (at' (j : Int) r : Nat)) (by rfl) ?_ (by rfl) ?_ ?_ ?_; exact HO7.out.alloc _; exact new_cell _ _ _; omega; (have := HB_1.out.size; simp; omega); (intro g8 c8 w8 hown8 hgrow8 hat8 hlt8; have HO8 := Lib.hid hown8; have HB_2 := Lib.hid (below_app2 HB_1.out HB_1.out.size HO7.out hgrow8); clear hown8 hgrow8 hat8 hlt8))
                      refine hK.out _ _ (by (first | exact KS.out _ HB_0.out | exact KS.out _ HB_1.out | exact KS.out _ (HB_1.out.alloc HB_1.out.size _) | exact KS.out _ HB_2.out)) (fun hHeld => ?_)
                      clear hK K
                      try simp only [Act.put, List.setIfInBounds_toArray, List.set_cons_zero, List.set_cons_succ]
                      refine wpAnyK_ready (rs := [10]) (by kernel_rfl) (by simp) ?_
                      refine AllReadyK.fin (o := ?oik1_11) (by decide) ?hk1_11 (fun K hK => ?kk1_11) ?mk1_11
                      case hk1_11 => (simp only [List.getElem?_toArray, List.getElem?_cons_succ, List.getElem?_cons_zero]; rfl)
                      case kk1_11 =>
                        go_simp
                        refine hK.out _ _ ?_
                        clear hK K
                        try simp only [Act.put, List.setIfInBounds_toArray, List.set_cons_zero, List.set_cons_succ]
                        refine wpAnyK_done (by kernel_rfl) ?_ _
                        go_wp2_with fail
                        go_roundw
                        case rel => exact ⟨j + 1, some ⟨g8, 0, none⟩, c8, by omega, by omega, by go_num, by rw [show j + 1 - 1 = j by omega, HGJ.out, List.length_append]; rfl, by rw [show j + 1 - 1 = j by omega, HGJ.out, List.length_append, nv_snocZ]; exact HO8.out, HB_2.out⟩
                        case measure => simp [intOf]; omega
                      exact AllReadyK.nil
                    exact AllReadyK.nil
                  exact AllReadyK.nil
                exact AllReadyK.nil
              · obtain rfl : j = 21 := by omega
                rw [show 21 - 1 = 20 from rfl, ← HMS.out] at hown
                have HO6 := Lib.hid hown
                rw [show (G ++ ac (21 - 1)).length = G'.length by rw [HMS.out]]
                clear hown hbel hml
                go_wp2_with fail
                go_roundw
                case rel => exact ⟨i + 1, Am, cm, by omega, by go_num, by rw [HG1.out], by rw [HG1.out]; exact HO6.out, HB5.out⟩
                case measure => simp [intOf]; omega
          · obtain rfl : i = S.length := by omega
            have HBN := Lib.hid (HBA.out Am (moreT (dat L) S S.length).length cm (moreT (dat L) S S.length) wr (HBW0.out.trans (hbel.mono HBW0.out.size)) rfl (by omega) (fun r hr => by rw [Hn.out]; exact HMO.out.1 r hr) (owns_Rd hown))
            clear hml
            have HBW4 := Lib.hid (HBW0.out.trans (hbel.mono HBW0.out.size))
            have HBa := Lib.hid (HB.out.trans (hbel.mono hsz))
            have HOS := Lib.hid (owns_keeps HO.out (Keeps.of_below hbel) (.inr (by simp)))
            have hnl := HST.out.1.len HSH.out
            have hle := HST.out.2.1
            generalize byDeg xs (moreT (dat L) S S.length) 21 = N at *
            generalize moreT (dat L) S S.length = M at *
            obtain ⟨x0, x1, xf0, xf1, lx⟩ := blk2cells (blk_kept HKr.out hbel)
            clear hown hbel
            go_wp2_with fail
            refine HBN.out.mono ?_
            rintro e w6 ⟨v6, rfl, ho, hb⟩
            obtain ⟨A6, c6, rfl, _⟩ := owns_shape ho
            have HO6 := Lib.hid (ho.mono HBW4.out.size)
            have HB6 := Lib.hid (HBW4.out.trans (hb.mono HBW4.out.size))
            have HBa6 := Lib.hid (HBa.out.trans (hb.mono HBa.out.size))
            have HOS6 := Lib.hid (owns_keeps HOS.out (Keeps.of_below hb) (.inr (by simp)))
            clear ho hb x0 x1 xf0 xf1 lx
            by_cases e : N.length = S.length
            · have hg := (HST.out.2.2 e).eq
              have HG := Lib.hid hg
              have hee : ((N.length : Int) == (S.length : Int)) = true := by rw [e]; simp
              clear e hg
              go_wp2_with fail
              go_ret2
              exact ⟨.slice As S.length cs, by rw [HF.out.1]; rfl, by rw [HF.out.2, ← HG.out]; exact HOS6.out, HB6.out⟩
            · have hee : ((N.length : Int) == (S.length : Int)) = false := by simp; omega
              go_wp2_with fail
              go_roundw
              case rel => exact ⟨N, A6, c6, rfl, Lib.hid HST.out.1, HO6.out, HBa6.out, hnl⟩
              case measure => simp [lenV]; omega
end Go.Proofs.YtpchigdhnnkpcaaGreatDoor
