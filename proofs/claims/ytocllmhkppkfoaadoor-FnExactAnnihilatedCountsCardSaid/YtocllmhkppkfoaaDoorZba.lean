/- the program's AnnihilatedCounts · FnExactAnnihilatedCounts: the walk of the law (printed by mkl2.py) -/
import Derived.Test.YtocllmhkppkfoaaDoorZar
import Derived.Test.YtocllmhkppkfoaaDoorZav
import Derived.Test.YtocllmhkppkfoaaDoorZaw
import Derived.Test.YtocllmhkppkfoaaDoorZaz
import Derived.Test.YtocllmhkppkfoaaDoorZae
import Derived.Deep.RegionHeld3
namespace Go.Proofs.YtocllmhkppkfoaaDoor
open Go.RowKit

def powsL (n : Nat) : List Nat := (List.range n).map fun b => 2 ^ b
theorem powsL_succ (n : Nat) : powsL (n + 1) = powsL n ++ [2 ^ n] := by unfold powsL; rw [List.range_succ, List.map_append]; rfl
theorem powsL_length (n : Nat) : (powsL n).length = n := by simp [powsL]
theorem mem_powsL {n r : Nat} (h : r ∈ powsL n) : ∃ b, b < n ∧ r = 2 ^ b := by
  unfold powsL at h
  obtain ⟨b, hb, rfl⟩ := List.mem_map.1 h
  exact ⟨b, List.mem_range.1 hb, rfl⟩
/-- what is left after the squares 1 .. k -/
def zeroK (Q : List (List Int)) (n : Nat) : Nat → List Nat
  | 0 => powsL n
  | k + 1 => meetS (zeroK Q n k) (kerR (sqRow Q n (k + 1)))
section
variable {xs : List Int} {Q : List (List Int)}
theorem sqRow_sm' (h : Shp xs Q) (k : Nat) : (∀ r ∈ sqRow Q xs.length k, Sm r) ∧ (sqRow Q xs.length k).length ≤ 62 := ⟨sqRow_sm h k, by rw [sqRow_length]; have := h.len; omega⟩
theorem zeroK_all (h : Shp xs Q) : ∀ k, (∀ r ∈ zeroK Q xs.length k, Sm r) ∧ ∀ v, Sp (zeroK Q xs.length k) v ↔ v < 2 ^ xs.length ∧ ∀ t, t < k → act Q ((t + 1 : Nat) : Int) v = 0
  | 0 => by
    have h16 := h.len
    refine ⟨fun r hr => ?_, fun v => ⟨fun hv => ⟨?_, fun t ht => absurd ht (by omega)⟩, fun hv => ?_⟩⟩
    · obtain ⟨b, hb, rfl⟩ := mem_powsL hr; exact sm_two (by omega)
    · refine sp_lt (fun r hr => ?_) hv
      obtain ⟨b, hb, rfl⟩ := mem_powsL hr; exact pow_lt_pow hb
    · refine sp_bits _ v hv.1 fun i hi => ?_
      unfold zeroK powsL
      refine List.mem_map.2 ⟨i, List.mem_range.2 ?_, rfl⟩
      rcases Nat.lt_or_ge i xs.length with h1 | h1
      · exact h1
      · rw [tb_of_lt hv.1 h1] at hi; cases hi
  | k + 1 => by
    obtain ⟨h1, h2⟩ := zeroK_all h k
    obtain ⟨s1, s2⟩ := sqRow_sm' h (k + 1)
    have hk := (kerR_ok s1 s2).1
    refine ⟨fun r hr => ((meetS_red h1 hk).1.ne r hr).2, fun v => ?_⟩
    unfold zeroK
    rw [meetS_sp h1 hk, h2, kerR_sp s1 s2, sqRow_length]
    constructor
    · rintro ⟨⟨a, b⟩, a', b'⟩
      refine ⟨a, fun t ht => ?_⟩
      rcases Nat.lt_or_ge t k with h3 | h3
      · exact b t h3
      · have e : t = k := by omega
        subst e; rw [sq_times h _ a] at b'; exact b'
    · rintro ⟨a, b⟩
      exact ⟨⟨a, fun t ht => b t (by omega)⟩, a, by rw [sq_times h _ a]; exact b k (by omega)⟩
theorem zeroK_red (h : Shp xs Q) (k : Nat) : Red (zeroK Q xs.length (k + 1)) ∧ Asc (zeroK Q xs.length (k + 1)) := by
  obtain ⟨s1, s2⟩ := sqRow_sm' h (k + 1)
  exact meetS_red (zeroK_all h k).1 (kerR_ok s1 s2).1
theorem zeroK_len (h : Shp xs Q) : ∀ k, (zeroK Q xs.length k).length ≤ xs.length
  | 0 => by unfold zeroK; rw [powsL_length]; exact Nat.le_refl _
  | k + 1 => red_len (zeroK_red h k).1 fun r hr => (((zeroK_all h (k + 1)).2 r).1 (.mem hr)).1
theorem ann_zero (h : Shp xs Q) : cntL (degL xs (zeroK Q xs.length 20)) = subP xs (annF xs Q) 21 := by
  refine list_ext_getD (cntL_length _) (subP_length _ _ _) fun d hd => ?_
  rw [cntL_getD _ hd, subP_getD _ _ _ hd, if_pos hd]
  unfold degL
  rw [cnt_ofDeg]
  have : (ofDeg xs ((d : Nat) : Int) (zeroK Q xs.length 20)).length + rkS (annRows xs Q ((d : Nat) : Int)) = cnt xs ((d : Nat) : Int) := ann_law h (zeroK_red h 19).1 (zeroK_red h 19).2 (fun v => (zeroK_all h 20).2 v) d (by omega)
  unfold annF; omega
theorem zero_deg (h : Shp xs Q) : ∀ i, i < (degL xs (zeroK Q xs.length 20)).length → 0 ≤ (degL xs (zeroK Q xs.length 20)).getD i 0 ∧ (degL xs (zeroK Q xs.length 20)).getD i 0 ≤ 20 := fun i hi => by
  rw [degL_length] at hi
  rw [degL_getD xs hi]
  have hm := getD_mem hi
  have h1 := (zeroK_red h 19).1.ne _ hm
  exact h.deg _ (pv_lt h1.1 h1.2 (((zeroK_all h 20).2 _).1 (.mem hm)).1)
theorem zero_pv (h : Shp xs Q) : ∀ r ∈ zeroK Q xs.length 20, r ≠ 0 ∧ Sm r ∧ pv r < xs.length := fun r hr => by
  have h1 := (zeroK_red h 19).1.ne _ hr
  exact ⟨h1.1, h1.2, pv_lt h1.1 h1.2 (((zeroK_all h 20).2 _).1 (.mem hr)).1⟩
end

set_option maxRecDepth 100000 in
set_option maxHeartbeats 8000000 in
theorem implAnnihilatedCounts_any (A : Option Addr) (n c : Nat) (xs : List Int) (A' : Option Addr) (m c' : Nat) (L : List Row) (w : World) (hT : Tab w) (hw : 0 < w.heap.size) (hn : n = xs.length) (hsm : n ≤ 1048576) (hR : Rd w A (iv xs)) (hm : m = L.length) (hm1 : m ≤ 1048576) (hl : ∀ i, i < L.length → (rg L i).xs.length ≤ 1048576) (hR' : RdR w A' L) :
    Calls Tryd.prog 18 #[.agg #[.slice A n c, .slice A' m c']] w (ResS (annihilatedCountsOf xs L) w) := by
  have hb0 : Below w.heap.size w (w.alloc (.cells #[.slice A n c, .slice A' m c'] 29)) := (Below.refl _ _).alloc (Nat.le_refl _) _
  have hk0 := blk_new w (.cells #[.slice A n c, .slice A' m c'] 29)
  obtain ⟨x0, x1, xf0, xf1, lx⟩ := blk2cells hk0
  have HM := Lib.hid (isModule_any A A' n c m c' xs L _ hn hsm (hR.below hb0) hm hm1 hl (hR'.below hb0))
  have HB0 := Lib.hid hb0
  have HK0 := Lib.hid hk0
  cases hmod : modB xs (dat L)
  · rw [hmod] at HM
    have HF := Lib.hid (annihilatedCountsOf_no hmod)
    clear hb0 hk0 hn hR hm hl hR' hmod hT
    go_enter Tryd.func18, Tryd.ntmps18
    go_wp2_with (go_at_call 72; refine HM.out.mono ?_; rintro e w1 ⟨rfl, hb⟩; have HB1 := Lib.hid (HB0.out.trans (hb.mono HB0.out.size)); clear hb)
    go_ret2
    exact ⟨.slice none 0 0, by rw [HF.out]; rfl, by rw [HF.out]; exact World.ownsRow_nil _ _ _ _, HB1.out⟩
  · rw [hmod] at HM
    have hshp := (modB_iff.1 hmod).shp
    have h16 : n ≤ 16 := by rw [hn]; exact hshp.len
    have HF := Lib.hid (annihilatedCountsOf_yes hmod)
    have HAZ : Hid (cntL (degL xs (zeroK (dat L) n 20)) = subP xs (annF xs (dat L)) 21) := Lib.hid (by rw [hn]; exact ann_zero hshp)
    have HZS : Hid (∀ k, (∀ r ∈ zeroK (dat L) n k, Sm r) ∧ (zeroK (dat L) n k).length ≤ n) := Lib.hid (by rw [hn]; exact fun k => ⟨(zeroK_all hshp k).1, zeroK_len hshp k⟩)
    have HSQ : Hid (∀ k, (∀ r ∈ sqRow (dat L) n k, Sm r) ∧ (sqRow (dat L) n k).length ≤ 62) := Lib.hid (by rw [hn]; exact sqRow_sm' hshp)
    have HZD : Hid (∀ i, i < (degL xs (zeroK (dat L) n 20)).length → 0 ≤ (degL xs (zeroK (dat L) n 20)).getD i 0 ∧ (degL xs (zeroK (dat L) n 20)).getD i 0 ≤ 20) := Lib.hid (by rw [hn]; exact zero_deg hshp)
    have HZP : Hid (∀ r ∈ zeroK (dat L) n 20, r ≠ 0 ∧ Sm r ∧ pv r < n) := Lib.hid (by rw [hn]; exact zero_pv hshp)
    have HTO := Lib.hid (fun W (hb : Below w.heap.size w W) => tableOf_any A A' n c m c' xs L W hn hm hm1 hshp (hR'.below hb))
    have HDG := Lib.hid (fun (V : Option Addr) (k cv : Nat) (S : List Nat) W (hb : Below w.heap.size w W) hk hk1 hS hV => degreesOf_any A A' V n c m c' k cv xs S W (hT.below hb hw) (by have := hb.size; omega) hn hsm hk hk1 hS (hR.below hb) hV)
    have HTB := Lib.hid (fun W (hb : Below w.heap.size w W) => hT.below hb hw)
    clear hb0 hk0 hn hR hm hl hR' hmod hshp hT
    go_enter Tryd.func18, Tryd.ntmps18
    go_wp2_with fail
    refine HM.out.mono ?_
    rintro e w1 ⟨rfl, hb⟩
    have HB1 := Lib.hid (HB0.out.trans (hb.mono HB0.out.size))
    have HK1 := Lib.hid (blk_kept HK0.out hb)
    clear hb x0 x1 xf0 xf1 lx
    obtain ⟨x0, x1, xf0, xf1, lx⟩ := blk2cells HK1.out
    go_wp2_with fail
    refine (HTO.out _ HB1.out).mono ?_
    rintro e w3 ⟨g, h, rfl, ht⟩
    have HK3 := Lib.hid (blk_below HK1.out ht.bel lx)
    have HB3 := Lib.hid (HB1.out.trans (ht.bel.mono HB1.out.size))
    have HTT := Lib.hid ht.rd
    have hs03 : w.heap.size ≤ w3.heap.size := HB3.out.size
    clear x0 x1 xf0 xf1 lx ht
    obtain ⟨x0, x1, xf0, xf1, lx⟩ := blk2cells (blk_alloc HK3.out (.cells #[] 2))
    go_wp2_with fail
    clear x0 x1 xf0 xf1 lx
    go_loopw [5, 17] (fun q i wr => ∃ (k gz cz : Nat), k ≤ n ∧ i = .int .i64 k ∧ q = .slice (some ⟨gz, 0, none⟩) k cz ∧ wr.ownsRow w3.heap.size 2 1 (.slice (some ⟨gz, 0, none⟩) k cz) k (nv (powsL k)) ∧ Below w3.heap.size w3 wr) (fun _ i _ => n - (intOf i).toNat)
    case atStart => exact ⟨0, w3.heap.size, 0, by omega, rfl, rfl, World.ownsRow_made w3 #[] 0 (Nat.le_refl _) (by decide) (by simp), (Below.refl _ _).alloc (Nat.le_refl _) _⟩
    case round =>
      obtain ⟨k, gz, cz, hk, rfl, rfl, hown, hbel⟩ := hrel
      have HO := Lib.hid hown
      have HB := Lib.hid hbel
      have hsz := hbel.size
      by_cases hlt : k < n
      · have HE := Lib.hid (shl_two (k := k) (by omega))
        have hmin : min k 64 = k := by omega
        clear hown hbel
        go_wp2_with (at_builtin; refine wpList_app1 _ _ _ _ _ etI (by rfl) (by rfl) w3.heap.size (.slice (some ⟨gz, 0, none⟩) k cz) k (nv (powsL k)) (by rfl) (HO.out.alloc _) _ (.int .i64 (wrap64 ((2 : Int) ^ k))) (by rfl) (new_cell _ _ _) (by rfl) (by omega) (Nat.le_trans hsz (Nat.le_of_lt (by simp))) ?_; (intro g1 cap1 w4 hown1 hgrow1 hat1 hlt1; have HO1 := Lib.hid hown1; have HX := Lib.hid (below_app2 HB.out hsz HO.out hgrow1); clear hown1 hgrow1 hat1 hlt1))
        go_roundw
        case rel => exact ⟨k + 1, g1, cap1, by omega, by go_num, rfl, by rw [powsL_succ, ← nv_snoc2, ← HE.out]; exact HO1.out, HX.out⟩
        case measure => simp [intOf]; omega
      · obtain rfl : k = n := by omega
        have HP0 : Hid ((powsL k).length = k) := Lib.hid (powsL_length k)
        have HKW := Lib.hid (blk_kept HK3.out hbel)
        obtain ⟨x0, x1, xf0, xf1, lx⟩ := blk2cells HKW.out
        clear hown hbel
        go_wp2_with fail
        go_loopw [5, 7] (fun q i wr => ∃ (j : Nat) (Az : Option Addr) (cz : Nat), j ≤ 20 ∧ i = .int .i64 ((j : Int) + 1) ∧ q = .slice Az (zeroK (dat L) k j).length cz ∧ Rd wr Az (nv (zeroK (dat L) k j)) ∧ Below w3.heap.size w3 wr) (fun _ i _ => 21 - (intOf i).toNat)
        case atStart => exact ⟨0, _, cz, by omega, rfl, by rw [show zeroK (dat L) k 0 = powsL k from rfl, HP0.out], owns_Rd HO.out, HB.out⟩
        case round =>
          obtain ⟨j, Az, cz', hj, rfl, rfl, hrd, hbel⟩ := hrel
          have HRZ := Lib.hid hrd
          have HBZ := Lib.hid hbel
          have hs4 := hbel.size
          by_cases hj20 : j < 20
          · have hji : (j : Int) + 1 ≤ 20 := by omega
            have HTW := HTT.out.below hbel
            obtain ⟨hh, hc, hrow⟩ := HTW.row (j + 1) (by omega)
            have hc' : wr.cell? ⟨g, 1 + (j + 1), none⟩ = some (.slice (some ⟨hh, 0, none⟩) k k) := hc
            have HZj := Lib.hid (HZS.out j)
            obtain ⟨q1, q2⟩ := HSQ.out (j + 1)
            have hl1 := (HZS.out j).2
            have HKR := Lib.hid (kernel_anyS (some ⟨hh, 0, none⟩) k k (sqRow (dat L) k (j + 1)) wr (HTB.out _ (HB3.out.trans (hbel.mono hs03))) (by omega) (sqRow_length _ _ _).symm (by omega) q1 hrow)
            have hkl := (kerR_ok q1 q2).2
            rw [sqRow_length] at hkl
            have HMT := Lib.hid (fun (B : Option Addr) (cB : Nat) W (hb : Below wr.heap.size wr W) (hB : Rd W B (nv (kerR (sqRow (dat L) k (j + 1))))) => meet_any Az B (zeroK (dat L) k j).length (kerR (sqRow (dat L) k (j + 1))).length cz' cB (zeroK (dat L) k j) (kerR (sqRow (dat L) k (j + 1))) W (HTB.out _ (HB3.out.trans ((HBZ.out.trans (hb.mono hs4)).mono hs03))) (by have := hb.size; omega) rfl rfl (by omega) (by omega) HZj.out.1 (kerR_ok q1 q2).1 (HRZ.out.below hb) hB)
            have HZ1 : Hid (zeroK (dat L) k (j + 1) = meetS (zeroK (dat L) k j) (kerR (sqRow (dat L) k (j + 1)))) := Lib.hid rfl
            have HKE : Hid (reduceS (kerS (sqRow (dat L) k (j + 1)) (sqRow (dat L) k (j + 1)).length) = kerR (sqRow (dat L) k (j + 1))) := Lib.hid rfl
            have hnum : ((j : Int) + 1).toNat = j + 1 := by omega
            clear hrd hbel HTW hrow hc q1 q2 hkl hl1
            go_wp2_with fail
            refine HKR.out.mono ?_
            rintro e w5 ⟨v5, rfl, ho, hb⟩
            obtain ⟨A5, c5, rfl, _⟩ := owns_shape ho
            have HR5 := Lib.hid (owns_Rd ho)
            have HB5 := Lib.hid hb
            rw [HKE.out] at HR5
            rw [HKE.out]
            clear ho hb
            go_wp2_with fail
            refine (HMT.out A5 c5 _ HB5.out HR5.out).mono ?_
            rintro e w6 ⟨v6, rfl, ho, hb⟩
            obtain ⟨A6, c6, rfl, _⟩ := owns_shape ho
            have HR6 := Lib.hid (owns_Rd ho)
            have HB6 := Lib.hid (HB5.out.trans (hb.mono HB5.out.size))
            clear ho hb
            go_wp2_with fail
            go_roundw
            case rel => exact ⟨j + 1, A6, c6, by omega, by go_num, by rw [HZ1.out], by rw [HZ1.out]; exact HR6.out, HBZ.out.trans (HB6.out.mono hs4)⟩
            case measure => simp [intOf]; omega
          · obtain rfl : j = 20 := by omega
            have hj21 : ((20 : Nat) : Int) + 1 = 21 := rfl
            have HBW := Lib.hid (HB3.out.trans (hbel.mono hs03))
            have hl1 := (HZS.out 20).2
            have HKX := Lib.hid (blk_kept HK3.out hbel)
            obtain ⟨x0, x1, xf0, xf1, lx⟩ := blk2cells HKX.out
            have HDW := Lib.hid (HDG.out Az _ cz' (zeroK (dat L) k 20) _ HBW.out rfl (by omega) HZP.out HRZ.out)
            clear hrd hbel
            go_wp2_with fail
            refine HDW.out.mono ?_
            rintro e w7 ⟨g7, c7, rfl, ho, hb⟩
            have HR7 := Lib.hid (owns_Rd ho)
            have HB7 := Lib.hid (HBW.out.trans (hb.mono HBW.out.size))
            have HLD : Hid ((zeroK (dat L) k 20).length = (degL xs (zeroK (dat L) k 20)).length) := Lib.hid (degL_length _ _).symm
            have HCW := Lib.hid (counts_any (some ⟨g7, 0, none⟩) (zeroK (dat L) k 20).length c7 (degL xs (zeroK (dat L) k 20)) w7 HLD.out (by omega) HZD.out HR7.out)
            clear ho hb x0 x1 xf0 xf1 lx
            go_wp2_with fail
            refine HCW.out.mono ?_
            rintro e w8 ⟨g8, rfl, ho, hb⟩
            have HO8 := Lib.hid (ho.mono HB7.out.size)
            have HB8 := Lib.hid (HB7.out.trans (hb.mono HB7.out.size))
            clear ho hb
            go_wp2_with fail
            go_ret2
            exact ⟨_, by rw [HF.out]; rfl, by rw [HF.out]; simp only [subP_length]; rw [← HAZ.out]; exact HO8.out, HB8.out⟩
end Go.Proofs.YtocllmhkppkfoaaDoor

namespace Go.Proofs.YtocllmhkppkfoaaDoor
open Go.RowKit

set_option maxRecDepth 100000 in
set_option maxHeartbeats 8000000 in
theorem lawAnnihilatedCounts_any (A0 : Option Addr) (n0 c0 : Nat) (xs0 : List Int) (B0 : Option Addr) (m0 d0 : Nat) (L0 : List Row) (w : World) (hT : Tab w) (hw : 0 < w.heap.size) (hn0 : n0 = xs0.length) (hs0 : n0 ≤ 9223372036854775807) (hR0 : Rd w A0 (iv xs0)) (hm0 : m0 = L0.length) (ht0 : m0 ≤ 9223372036854775807) (hl0 : ∀ i, i < L0.length → (rg L0 i).xs.length ≤ 9223372036854775807) (hQ0 : RdR w B0 L0) :
    Calls Tryd.prog 4 #[.agg #[.slice A0 n0 c0, .slice B0 m0 d0]] w fun e w' => e = .returned (.bool true) ∧ Below w.heap.size w w' := by
  have hI := (Inw.start w).allocBox #[.slice A0 n0 c0, .slice B0 m0 d0] 25
  have I0 := Lib.hid hI
  clear hI
  have HT := Lib.hid hT
  clear hT
  have Hn0 := Lib.hid hn0
  have HR0 := Lib.hid hR0
  have Hm0 := Lib.hid hm0
  have HL0 := Lib.hid hl0
  have HQ0 := Lib.hid hQ0
  clear hn0 hR0 hm0 hl0 hQ0
  go_enter Tryd.func4, Tryd.ntmps4
  go_wp2_with fail
  refine (szModule_any A0 B0 n0 c0 m0 d0 L0 (1048576) _ hs0 Hm0.out ht0 HL0.out (by omega) (by omega) (HQ0.out.below I0.out.bel)).mono ?_
  rintro e w1 ⟨z0, rfl, hz, hb⟩
  have I1 := Lib.hid (I0.out.step hb)
  clear hb
  obtain ⟨u_a0_1, v_a0_1, x_a0_1, y_a0_1, z_a0_1⟩ := blk2cells (I1.out.box 0 rfl)
  rcases hz with rfl | ⟨hz0, hy0⟩
  · go_wp2_with fail
    go_ret
    exact ⟨rfl, I1.out.bel⟩
  have hi0 : ¬ z0 < 0 := by omega
  have hk0 : tot L0 ≤ 1048576 := by omega
  have HLL0 := Lib.hid (fun i (hi : i < L0.length) => Nat.le_trans (len_le_tot hi) hk0)
  have HTO0 := Lib.hid (fun W (hb : Below w.heap.size w W) => toModule_any A0 B0 n0 c0 m0 d0 xs0 L0 W Hn0.out (by omega) (HR0.out.below hb) Hm0.out (by omega) HLL0.out (HQ0.out.below hb))
  obtain ⟨rr, hrr⟩ : ∃ rr, annihilatedCountsOf xs0 L0 = rr := ⟨_, rfl⟩
  have hlen := annihilatedCountsOf_len xs0 L0
  rw [hrr] at hlen
  have HDD := Lib.hid (fun (M0 : List Row) (e0 : dat M0 = dat L0) => (annihilatedCountsOf_dat e0).trans hrr)
  clear hrr
  have hnb0 : n0 ≤ 1048576 := by omega
  have hmb0 : m0 ≤ 1048576 := by omega
  have HSP := Lib.hid (fun (W : World) (C0 : Option Addr) (r0 : Rd W C0 (iv xs0)) (E0 : Option Addr) (M0 : List Row) (e0 : dat M0 = dat L0) (q0 : RdR W E0 M0) => show Calls Tryd.prog 17 #[.agg #[.slice C0 n0 n0, .slice E0 m0 m0]] W (ResS rr W) from by
    have h : Calls Tryd.prog 17 #[.agg #[.slice C0 n0 n0, .slice E0 m0 m0]] W (ResS (annihilatedCountsOf xs0 M0) W) := specAnnihilatedCounts_any C0 n0 n0 xs0 E0 m0 m0 M0 W Hn0.out (by omega) r0 (by rw [Hm0.out, (dat_xs e0).1]) (by omega) (by intro i hi; rw [(dat_xs e0).2 i]; exact HLL0.out i (by rw [← (dat_xs e0).1]; exact hi)) q0
    rw [HDD.out M0 e0] at h
    exact h)
  have HIM := Lib.hid (fun (W : World) (tb : Tab W) (tw : 0 < W.heap.size) (C0 : Option Addr) (r0 : Rd W C0 (iv xs0)) (E0 : Option Addr) (M0 : List Row) (e0 : dat M0 = dat L0) (q0 : RdR W E0 M0) => show Calls Tryd.prog 18 #[.agg #[.slice C0 n0 n0, .slice E0 m0 m0]] W (ResS rr W) from by
    have h : Calls Tryd.prog 18 #[.agg #[.slice C0 n0 n0, .slice E0 m0 m0]] W (ResS (annihilatedCountsOf xs0 M0) W) := implAnnihilatedCounts_any C0 n0 n0 xs0 E0 m0 m0 M0 W tb tw Hn0.out (by omega) r0 (by rw [Hm0.out, (dat_xs e0).1]) (by omega) (by intro i hi; rw [(dat_xs e0).2 i]; exact HLL0.out i (by rw [← (dat_xs e0).1]; exact hi)) q0
    rw [HDD.out M0 e0] at h
    exact h)
  go_wp2_with fail
  clear hz0 hy0 hi0 hs0 ht0
  refine (HTO0.out _ I1.out.bel).mono ?_
  rintro e w2 ⟨gs0, hs0, Ms0, rfl, hd, ho, hb⟩
  have I2 := Lib.hid (I1.out.pushMod hb ho)
  have HDs0 := Lib.hid hd
  clear hd
  clear ho hb
  clear u_a0_1 v_a0_1 x_a0_1 y_a0_1 z_a0_1
  obtain ⟨u_a0_2, v_a0_2, x_a0_2, y_a0_2, z_a0_2⟩ := blk2cells (I2.out.box 1 rfl)
  go_wp2_with fail
  refine (HSP.out _ _ (owns_Rd (by have h := (I2.out.mod 0 rfl).deg; rw [← Hn0.out] at h; exact h)) _ _ HDs0.out ((I2.out.mod 0 rfl).act.rd (by rw [Hm0.out, (dat_xs HDs0.out).1]))).mono ?_
  rintro e w3 ⟨vs, rfl, ho, hb⟩
  have I3 := Lib.hid (I2.out.pushOwn hb ho)
  clear ho hb
  obtain ⟨As, ks, rfl, _, _, _⟩ := owns_shape (I3.out.own 0 rfl)
  clear u_a0_2 v_a0_2 x_a0_2 y_a0_2 z_a0_2
  obtain ⟨u_a0_3, v_a0_3, x_a0_3, y_a0_3, z_a0_3⟩ := blk2cells (I3.out.box 2 rfl)
  go_wp2_with fail
  refine (HTO0.out _ I3.out.bel).mono ?_
  rintro e w4 ⟨gx0, hx0, Mx0, rfl, hd, ho, hb⟩
  have I4 := Lib.hid (I3.out.pushMod hb ho)
  have HDx0 := Lib.hid hd
  clear hd
  clear ho hb
  clear u_a0_3 v_a0_3 x_a0_3 y_a0_3 z_a0_3
  obtain ⟨u_a0_4, v_a0_4, x_a0_4, y_a0_4, z_a0_4⟩ := blk2cells (I4.out.box 3 rfl)
  go_wp2_with fail
  have hI := I4.out.allocBox #[.slice (some ⟨gx0, 0, none⟩) n0 n0, .slice (some ⟨hx0, 0, none⟩) m0 m0] 29
  refine (HIM.out _ (HT.out.below hI.bel hw) (by have := hI.size; omega) _ (owns_Rd (by have h := (hI.mod 1 rfl).deg; rw [← Hn0.out] at h; exact h)) _ _ HDx0.out ((hI.mod 1 rfl).act.rd (by rw [Hm0.out, (dat_xs HDx0.out).1]))).mono ?_
  rintro e w5 ⟨vg, rfl, ho, hb⟩
  have I5 := Lib.hid (hI.pushOwn hb ho)
  clear ho hb
  obtain ⟨Ag, kg, rfl, _, _, _⟩ := owns_shape (I5.out.own 0 rfl)
  clear hI
  clear u_a0_4 v_a0_4 x_a0_4 y_a0_4 z_a0_4
  obtain ⟨u_a0_5, v_a0_5, x_a0_5, y_a0_5, z_a0_5⟩ := blk2cells (I5.out.box 5 rfl)
  obtain ⟨u_b0_5, v_b0_5, x_b0_5, y_b0_5, z_b0_5⟩ := blk2cells (I5.out.box 1 rfl)
  go_wp2_with fail
  refine (eqIntsB_any _ _ _ _ _ rr.1 _ rfl (by omega) (owns_Rd (I5.out.own 0 rfl)) (owns_Rd (I5.out.own 3 rfl))).mono ?_
  rintro e w6 ⟨rfl, hb⟩
  have I6 := Lib.hid (I5.out.step hb)
  clear hb
  clear u_a0_5 v_a0_5 x_a0_5 y_a0_5 z_a0_5 u_b0_5 v_b0_5 x_b0_5 y_b0_5 z_b0_5
  obtain ⟨u_a0_6, v_a0_6, x_a0_6, y_a0_6, z_a0_6⟩ := blk2cells (I6.out.box 5 rfl)
  obtain ⟨u_b0_6, v_b0_6, x_b0_6, y_b0_6, z_b0_6⟩ := blk2cells (I6.out.box 1 rfl)
  go_wp2_with fail
  have KS := Lib.hid (fun w' (hb : Below w6.heap.size w6 w') => show w'.cell? ⟨w4.heap.size, 0, none⟩ = some (.slice (some ⟨gx0, 0, none⟩) n0 n0) ∧ w'.cell? ⟨w4.heap.size, 1, none⟩ = some (.slice (some ⟨hx0, 0, none⟩) m0 m0) ∧ w'.cell? ⟨w.heap.size, 0, none⟩ = some (.slice A0 n0 c0) ∧ w'.cell? ⟨w.heap.size, 1, none⟩ = some (.slice B0 m0 d0) from by
    have J := I6.out.step hb
    exact ⟨(blk2cells (J.box 1 rfl)).1, (blk2cells (J.box 1 rfl)).2.1, (blk2cells (J.box 5 rfl)).1, (blk2cells (J.box 5 rfl)).2.1⟩)
  have HB_0 := Lib.hid (Below.drew (Below.refl w6.heap.size w6))
  have I7 := Lib.hid I6.out.drew
  clear u_a0_6 v_a0_6 x_a0_6 y_a0_6 z_a0_6 u_b0_6 v_b0_6 x_b0_6 y_b0_6 z_b0_6
  go_region_held3 (fun w' => w'.cell? ⟨w4.heap.size, 0, none⟩ = some (.slice (some ⟨gx0, 0, none⟩) n0 n0) ∧ w'.cell? ⟨w4.heap.size, 1, none⟩ = some (.slice (some ⟨hx0, 0, none⟩) m0 m0) ∧ w'.cell? ⟨w.heap.size, 0, none⟩ = some (.slice A0 n0 c0) ∧ w'.cell? ⟨w.heap.size, 1, none⟩ = some (.slice B0 m0 d0))
      (first | exact KS.out _ HB_0.out | exact KS.out _ HB_1.out | exact KS.out _ HB_2.out)
      (first
        | (go_at_call 10; (with_reducible refine (HTO0.out _ I7.out.bel).mono ?_); (rintro e w7 ⟨ge0, he0, Me0, rfl, hd, ho, hb⟩; have I8 := Lib.hid (I7.out.pushMod hb ho); have HDe0 := Lib.hid hd; have HB_1 := Lib.hid (HB_0.out.trans (hb.mono HB_0.out.size)); clear ho hb hd))
        | (go_at_call 13; (with_reducible refine (eqModule_any _ _ _ _ n0 n0 n0 m0 m0 m0 xs0 _ _ _ Hn0.out (by omega) (by rw [Hm0.out, (dat_xs HDx0.out).1]) (by omega) (by intro i hi; rw [(dat_xs HDx0.out).2 i]; exact HLL0.out i (by rw [← (dat_xs HDx0.out).1]; exact hi)) (HDe0.out.trans HDx0.out.symm) (owns_Rd (by have h := (I8.out.mod 3 rfl).deg; rw [← Hn0.out] at h; exact h)) (owns_Rd (by have h := (I8.out.mod 0 rfl).deg; rw [← Hn0.out] at h; exact h)) ((I8.out.mod 3 rfl).act.rd (by rw [Hm0.out, (dat_xs HDx0.out).1])) ((I8.out.mod 0 rfl).act.rd (by rw [Hm0.out, (dat_xs HDe0.out).1]))).mono ?_); (rintro e w8 ⟨rfl, hb⟩; have I9 := Lib.hid (I8.out.step hb); have HB_2 := Lib.hid (HB_1.out.trans (hb.mono HB_1.out.size)); clear hb)))
  clear HB_0 HB_1 HB_2 KS
  obtain ⟨u_a0_9, v_a0_9, x_a0_9, y_a0_9, z_a0_9⟩ := blk2cells (I9.out.box 6 rfl)
  obtain ⟨u_b0_9, v_b0_9, x_b0_9, y_b0_9, z_b0_9⟩ := blk2cells (I9.out.box 2 rfl)
  go_wp2_with fail
  have HKB0 := Lib.hid (show (0 : Int) ≤ 1 ∧ (1 : Int) ≤ 1 from ⟨by decide, by decide⟩)
  have hxl0 : xs0.length ≤ 1048576 := by rw [← Hn0.out]; exact hnb0
  have hqx0 : tot Mx0 = tot L0 := tot_dat HDx0.out
  have htx0 : tot Mx0 ≤ 1048576 := by rw [hqx0]; exact hk0
  clear hqx0
  have hBx0 := (I9.out.mod 3 rfl).deg.lt gx0 rfl
  refine (markModule_any _ _ _ _ xs0 Mx0 (1) _ (Nat.le_trans hBx0.1 (Nat.le_of_lt hBx0.2)) (I9.out.mod 3 rfl) (I9.out.modUp 3 rfl) (Nat.le_trans hxl0 (by decide)) (by rw [(dat_xs HDx0.out).1, ← Hm0.out]; exact Nat.le_trans hmb0 (by decide)) (Nat.le_trans htx0 (by decide)) HKB0.out.1 (Int.le_trans HKB0.out.2 (by decide))).mono ?_
  clear hBx0
  rintro e w9 ⟨rfl, ho, hk⟩
  have I10 := Lib.hid (I9.out.markMod 3 rfl hk ho)
  clear ho hk
  have HKB1 : Hid (0 ≤ (1 + xs0.length + tot Mx0 : Int) ∧ (1 + xs0.length + tot Mx0 : Int) ≤ 2097153) := Lib.hid (kb_add2 HKB0.out hxl0 htx0)
  clear u_a0_9 v_a0_9 x_a0_9 y_a0_9 z_a0_9 u_b0_9 v_b0_9 x_b0_9 y_b0_9 z_b0_9
  obtain ⟨u_a0_10, v_a0_10, x_a0_10, y_a0_10, z_a0_10⟩ := blk2cells (I10.out.box 6 rfl)
  obtain ⟨u_b0_10, v_b0_10, x_b0_10, y_b0_10, z_b0_10⟩ := blk2cells (I10.out.box 2 rfl)
  have hnn0 : ¬ (1 + xs0.length + tot Mx0 : Int) < 0 := Int.not_lt.2 HKB1.out.1
  go_wp2_with fail
  refine (eqIntsB_any _ _ _ _ _ rr.1 _ rfl (by omega) (owns_Rd (I10.out.own 1 rfl)) (owns_Rd (I10.out.own 4 rfl))).mono ?_
  rintro e w10 ⟨rfl, hb⟩
  have I11 := Lib.hid (I10.out.step hb)
  clear hb
  clear u_a0_10 v_a0_10 x_a0_10 y_a0_10 z_a0_10 u_b0_10 v_b0_10 x_b0_10 y_b0_10 z_b0_10
  obtain ⟨u_a0_11, v_a0_11, x_a0_11, y_a0_11, z_a0_11⟩ := blk2cells (I11.out.box 6 rfl)
  obtain ⟨u_b0_11, v_b0_11, x_b0_11, y_b0_11, z_b0_11⟩ := blk2cells (I11.out.box 2 rfl)
  go_wp2_with fail
  refine (markInts_any _ _ rr.1.length rr.1 1 _ (I11.out.own 1 rfl) (by omega) (by omega) (by omega)).mono ?_
  rintro e w11 ⟨rfl, ho, hk⟩
  have I12 := Lib.hid (I11.out.markOwn 1 rfl hk ho)
  clear ho hk
  clear u_a0_11 v_a0_11 x_a0_11 y_a0_11 z_a0_11 u_b0_11 v_b0_11 x_b0_11 y_b0_11 z_b0_11
  obtain ⟨u_a0_12, v_a0_12, x_a0_12, y_a0_12, z_a0_12⟩ := blk2cells (I12.out.box 6 rfl)
  obtain ⟨u_b0_12, v_b0_12, x_b0_12, y_b0_12, z_b0_12⟩ := blk2cells (I12.out.box 2 rfl)
  go_wp2_with fail
  refine (heldInts_any _ rr.1.length _ 1 _ (owns_Rd (I12.out.own 1 rfl)) (by omega) (by omega) (by omega)).mono ?_
  rintro e w' ⟨rfl, rfl⟩
  go_wp2_with fail
  refine (HTO0.out _ I12.out.bel).mono ?_
  rintro e w12 ⟨gh0, hh0, Mh0, rfl, hd, ho, hb⟩
  have I13 := Lib.hid (I12.out.pushMod hb ho)
  have HDh0 := Lib.hid hd
  clear hd
  clear ho hb
  clear u_a0_12 v_a0_12 x_a0_12 y_a0_12 z_a0_12 u_b0_12 v_b0_12 x_b0_12 y_b0_12 z_b0_12
  obtain ⟨u_a0_13, v_a0_13, x_a0_13, y_a0_13, z_a0_13⟩ := blk2cells (I13.out.box 7 rfl)
  obtain ⟨u_b0_13, v_b0_13, x_b0_13, y_b0_13, z_b0_13⟩ := blk2cells (I13.out.box 3 rfl)
  go_wp2_with fail
  refine (HIM.out _ (HT.out.below I13.out.bel hw) (by have := I13.out.size; omega) _ (owns_Rd (by have h := (I13.out.mod 0 rfl).deg; rw [← Hn0.out] at h; exact h)) _ _ HDh0.out ((I13.out.mod 0 rfl).act.rd (by rw [Hm0.out, (dat_xs HDh0.out).1]))).mono ?_
  rintro e w13 ⟨vh, rfl, ho, hb⟩
  have I14 := Lib.hid (I13.out.pushOwn hb ho)
  clear ho hb
  obtain ⟨Ah, kh, rfl, _, _, _⟩ := owns_shape (I14.out.own 0 rfl)
  clear u_a0_13 v_a0_13 x_a0_13 y_a0_13 z_a0_13 u_b0_13 v_b0_13 x_b0_13 y_b0_13 z_b0_13
  obtain ⟨u_a0_14, v_a0_14, x_a0_14, y_a0_14, z_a0_14⟩ := blk2cells (I14.out.box 8 rfl)
  obtain ⟨u_b0_14, v_b0_14, x_b0_14, y_b0_14, z_b0_14⟩ := blk2cells (I14.out.box 4 rfl)
  go_wp2_with fail
  refine (eqIntsB_any _ _ _ _ _ rr.1 _ rfl (by omega) (owns_Rd (I14.out.own 0 rfl)) (owns_Rd (I14.out.own 6 rfl))).mono ?_
  rintro e w14 ⟨rfl, hb⟩
  have I15 := Lib.hid (I14.out.step hb)
  clear hb
  clear u_a0_14 v_a0_14 x_a0_14 y_a0_14 z_a0_14 u_b0_14 v_b0_14 x_b0_14 y_b0_14 z_b0_14
  obtain ⟨u_a0_15, v_a0_15, x_a0_15, y_a0_15, z_a0_15⟩ := blk2cells (I15.out.box 8 rfl)
  obtain ⟨u_b0_15, v_b0_15, x_b0_15, y_b0_15, z_b0_15⟩ := blk2cells (I15.out.box 4 rfl)
  go_wp2_with fail
  refine (heldInts_any _ rr.1.length _ 1 _ (owns_Rd (I15.out.own 3 rfl)) (by omega) (by omega) (by omega)).mono ?_
  rintro e w' ⟨rfl, rfl⟩
  go_wp2_with fail
  go_ret
  exact ⟨rfl, I15.out.bel⟩
end Go.Proofs.YtocllmhkppkfoaaDoor
