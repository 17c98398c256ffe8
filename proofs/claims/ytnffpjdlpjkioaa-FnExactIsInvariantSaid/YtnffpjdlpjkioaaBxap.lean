/- invariants: plain, and the program's closure that puts forms in · IsInvariant, the program's and the reference's · the reference's IsInvariant · FnExactIsInvariant: the walk of the law (printed by mkl2.py) -/
import Derived.Test.YtnffpjdlpjkioaaBxao
import Derived.Test.YtnffpjdlpjkioaaBxan
import Derived.Deep.DeepCutAuto
import Derived.Test.YtnffpjdlpjkioaaBxab
import Derived.Test.YtnffpjdlpjkioaaBxad
import Derived.Deep.RegionHeld3
set_option linter.all false
namespace Go.Proofs.Ytnffpjdlpjkioaa
open Go.RowKit Go.Maps Go.ChangeMaps Go.MapKept

/-- the forms of the variables themselves -/
def plainL (k : Nat) : List Int := (List.range k).map fun i => ((2 ^ i : Nat) : Int)
theorem plainL_length (k : Nat) : (plainL k).length = k := by simp [plainL]
theorem plainL_getD {k i : Nat} (h : i < k) : (plainL k).getD i 0 = ((2 ^ i : Nat) : Int) := by simp [plainL, List.getD, h]
theorem plainL_take {k i : Nat} (h : i < k) : (plainL k).take (i + 1) = (plainL k).take i ++ [((2 ^ i : Nat) : Int)] := by
  rw [List.take_succ_eq_append_getElem (by rw [plainL_length]; exact h)]
  simp [plainL]
/-- two neighbours changed over -/
def swapL (k j : Nat) : List Int := ((plainL k).set j ((2 ^ (j + 1) : Nat) : Int)).set (j + 1) ((2 ^ j : Nat) : Int)
theorem swapL_length (k j : Nat) : (swapL k j).length = k := by simp [swapL, plainL_length]
def shearL (k : Nat) : List Int := (plainL k).set 0 3
theorem shearL_length (k : Nat) : (shearL k).length = k := by simp [shearL, plainL_length]
theorem pow_ltI {i k : Nat} (h : i < k) : (0 : Int) ≤ ((2 ^ i : Nat) : Int) ∧ ((2 ^ i : Nat) : Int) < 2 ^ k := by
  have h1 : (2 : Nat) ^ i < 2 ^ k := Nat.pow_lt_pow_right (by omega) h
  have e : ((2 ^ k : Nat) : Int) = (2 : Int) ^ k := by simp
  rw [← e]
  exact ⟨Int.natCast_nonneg _, Int.ofNat_lt.2 h1⟩
theorem plainL_ok (k : Nat) : ∀ x ∈ plainL k, 0 ≤ x ∧ x < 2 ^ k := fun x hx => by
  obtain ⟨i, hi, rfl⟩ := List.mem_map.1 hx
  exact pow_ltI (List.mem_range.1 hi)
theorem set_ok {k : Nat} {l : List Int} (h : ∀ x ∈ l, 0 ≤ x ∧ x < 2 ^ k) {i : Nat} {z : Int} (hz : 0 ≤ z ∧ z < 2 ^ k) : ∀ x ∈ l.set i z, 0 ≤ x ∧ x < 2 ^ k := fun x hx => by
  rcases List.mem_or_eq_of_mem_set hx with h1 | rfl
  · exact h x h1
  · exact hz
theorem swapL_ok {k j : Nat} (h : j + 1 < k) : ∀ x ∈ swapL k j, 0 ≤ x ∧ x < 2 ^ k := set_ok (set_ok (plainL_ok k) (pow_ltI h)) (pow_ltI (by omega))
theorem shearL_ok {k : Nat} (h : 1 < k) : ∀ x ∈ shearL k, 0 ≤ x ∧ x < 2 ^ k := set_ok (plainL_ok k) (by
  have h1 : (2 : Nat) ^ 2 ≤ 2 ^ k := Nat.pow_le_pow_right (by omega) h
  have e : ((2 ^ k : Nat) : Int) = (2 : Int) ^ k := by simp
  rw [← e]
  have : (2 : Nat) ^ 2 = 4 := rfl
  omega)
/-- does a polynomial stay as it is? -/
noncomputable def fixB (k : Nat) (fs : List Int) (Q : LL) : Bool := eqLL (nf (putB k fs Q)) Q
/-- what IsInvariant answers -/
noncomputable def invF (k : Int) (Q : LL) : Bool × Int :=
  if polyB k Q = true then (((List.range (k.toNat - 1)).all fun j => fixB k.toNat (swapL k.toNat j) Q) && (if 1 < k.toNat then fixB k.toNat (shearL k.toNat) Q else true), 0) else (false, 1)
theorem powM_one (n : Nat) : ∀ j, powM 1 (formM 1 1 1) n j = [[((n % 2 ^ j : Nat) : Int)]]
  | 0 => by rw [Nat.pow_zero, Nat.mod_one]; rfl
  | j + 1 => by
    have hb : n % 2 ^ (j + 1) = n % 2 ^ j + 2 ^ j * (tb n j).toNat := by
      unfold tb; rw [Nat.testBit_eq_decide_div_mod_eq, Nat.pow_succ, Nat.mod_mul]; rcases Nat.mod_two_eq_zero_or_one (n / 2 ^ j) with h | h <;> simp [h]
    have hf : formM 1 1 1 = [[1]] := rfl
    unfold powM
    rw [powM_one n j, hf]
    split
    · rename_i ht
      rw [ht] at hb
      rw [hb]
      show [[((n % 2 ^ j : Nat) : Int) + 1 * ((2 ^ j : Nat) : Int)]] = _
      simp
    · rename_i ht
      have : tb n j = false := by simpa using ht
      rw [this] at hb
      rw [hb]
      simp
theorem putB_one {d : Nat} {Q : LL} (h : HomM 1 d Q) (hd : d < 64) : putB 1 (plainL 1) Q = Q := by
  have key : ∀ x ∈ Q, putT 1 (plainL 1) x 1 = [x] := fun x hx => by
    obtain ⟨h1, h2, h3⟩ := h x hx
    match x, h1 with
    | [a], _ =>
      have ha : 0 ≤ a := h2 a (List.mem_cons_self ..)
      obtain ⟨n, rfl⟩ := Int.eq_ofNat_of_zero_le ha
      have hn : n = d := by simp at h3; omega
      have e : putT 1 (plainL 1) [(n : Int)] 1 = prodM [[0]] (powM 1 (formM 1 1 1) n 6) := rfl
      rw [e, powM_one, Nat.mod_eq_of_lt (show n < 2 ^ 6 by omega)]
      show [[(0 : Int) + (n : Int)]] = _
      simp
  unfold putB
  rw [flatMap_congr' key]
  simp
theorem fixB_one {d : Nat} {Q : LL} (h : HomM 1 d Q) (hd : d < 64) (hA : As Q) : fixB 1 (plainL 1) Q = true := by
  unfold fixB
  rw [putB_one h hd, nf_of_as hA]
  exact eqLL_true rfl

/-- poly.terms of a bag: its odd ones in order -/
theorem termsM_any (b1 k : Nat) (M : LL) (w : World) (h : PolyB w b1 (M.map cod)) (hM : ∀ x ∈ M, Mon k x) (hk : k ≤ 4) :
    Calls Try.prog 59 #[.map (some b1), .int .i64 k] w (ResRows (nf M) w) := by
  obtain ⟨C, hC, hE⟩ := h
  have hCB : CB C := (cod_cb hk hM).sub fun c hc => eqv_mem hC.nodup hE hc
  refine (terms_any b1 k C w hC hCB hk).mono ?_
  rintro e w' ⟨v, S, rfl, ho, hp, hs, hb⟩
  exact ⟨v, S, rfl, terms_nf hM hC.nodup hE hp hs, ho, hb⟩

set_option maxRecDepth 100000 in
set_option maxHeartbeats 2000000 in
theorem stays_any (b k d : Nat) (A F : Option Addr) (n c cf : Nat) (L : List Row) (fs : List Int) (w : World) (hb : w.heap[b]? = some (.cells #[.int .i64 k, .slice A n c] 24 (0, 0))) (hk0 : 0 < k) (hk : k ≤ 4) (hn : n = L.length) (hsm : n ≤ 2000) (hQ : HomM k d (dat L)) (hd : d ≤ 40) (hfl : fs.length = k) (hf : ∀ x ∈ fs, 0 ≤ x ∧ x < 2 ^ k) (hR : RdR w A L) (hF : Rd w F (iv fs)) :
    Calls Try.prog 57 #[.slice F k cf, .pointer (some ⟨b, 0, none⟩)] w fun e w' => e = .returned (.bool (fixB k fs (dat L))) ∧ Below w.heap.size w w' := by
  obtain ⟨x0, x1, xf0, xf1, lx⟩ := blk2cells hb
  have HSU := Lib.hid (substituted_any k d A F n c cf L fs w.drew hk hn hsm hQ hd hfl hf ⟨hR.out, hR.inn, hR.cap⟩ hF)
  have HP := Lib.hid (putB_hom (fs := fs) hQ (show d < 64 by omega))
  have HPL := Lib.hid ((putB_hom (fs := fs) hQ (show d < 64 by omega)).len40 hk0 hk hd)
  have HR := Lib.hid hR
  have Hn := Lib.hid hn
  have HQL : Hid (∀ i, i < L.length → (rg L i).xs.length ≤ 1000000) := Lib.hid fun i hi => by
    have hm : (rg L i).xs ∈ dat L := by rw [← dat_getD]; simp [List.getD, dat_length, hi]
    have := (hQ _ hm).1
    omega
  have HFX : Hid (eqLL (nf (putB k fs (dat L))) (dat L) = fixB k fs (dat L)) := Lib.hid rfl
  have KS := Lib.hid (fun w' (hb : Below w.heap.size w w') => show w'.cell? ⟨b, 0, none⟩ = some (.int .i64 k) ∧ w'.cell? ⟨b, 1, none⟩ = some (.slice A n c) from ⟨(hb.cell lx).trans x0, (hb.cell lx).trans x1⟩)
  have HB0 := Lib.hid (Below.drew (Below.refl w.heap.size w))
  clear hb hR hF hn hQ hfl hf x0 x1 xf0 xf1 lx
  generalize fixB k fs (dat L) = fb at *
  go_enter Try.func57, Try.ntmps57
  go_wp2_with fail
  go_region_held3 (fun w' => w'.cell? ⟨b, 0, none⟩ = some (.int .i64 k) ∧ w'.cell? ⟨b, 1, none⟩ = some (.slice A n c))
    (first | exact KS.out _ HB0.out | exact KS.out _ HB1.out | exact KS.out _ HB2.out | exact KS.out _ HB3.out)
    (first
      | (go_at_call 54; refine HSU.out.mono ?_; rintro e w1 ⟨g, rfl, hg, hP, hb1⟩; have HB1 := Lib.hid (HB0.out.trans hb1); have HP1 := Lib.hid hP; clear hP hb1)
      | (go_at_call 59; refine (termsM_any g k _ w1 HP1.out (HP.out.mon (by omega)) hk).mono ?_; rintro e w2 ⟨v2, R2, rfl, hd2, ho2, hb2⟩; obtain ⟨A2, c2, rfl, -, -, -⟩ := owns_shape ho2.out; have HB2 := Lib.hid (HB1.out.trans (hb2.mono HB1.out.size)); have HD2 := Lib.hid hd2; have HO2 := Lib.hid ho2; clear hd2 ho2 hb2)
      | (go_at_call 58; refine (sameLists_any A2 A R2.length n c2 c R2 L w2 rfl Hn.out (by rw [← dat_length, HD2.out]; have := HPL.out; omega) (by omega) (hom_lens HP.out HD2.out (by omega)) HQL.out (HO2.out.rd rfl) (HR.out.below HB2.out)).mono ?_; rw [HD2.out, HFX.out]; rintro e w3 ⟨rfl, m, rfl⟩; have HB3 := Lib.hid (below_drewN HB2.out m)))
  go_wp2_with fail
  go_ret
  exact ⟨rfl, HB3.out⟩

attribute [local go_sem] i64_bit_test in
set_option maxRecDepth 100000 in
set_option maxHeartbeats 1000000 in
theorem l10Forms_any (k : Nat) (w : World) (hk : k ≤ 60) : Calls Try.prog 55 #[.int .i64 k] w fun e w' => ∃ g cap, e = .returned (.slice (some ⟨g, 0, none⟩) k cap) ∧ w'.ownsRow w.heap.size 2 1 (.slice (some ⟨g, 0, none⟩) k cap) k (iv (plainL k)) ∧ Below w.heap.size w w' := by
  go_enter Try.func55, Try.ntmps55
  go_wp2_with fail
  go_loopw [3, 4] (fun vv i wr => ∃ j g cap : Nat, j ≤ k ∧ i = .int .i64 j ∧ vv = .slice (some ⟨g, 0, none⟩) j cap ∧ wr.ownsRow w.heap.size 2 1 (.slice (some ⟨g, 0, none⟩) j cap) j (iv ((plainL k).take j)) ∧ Below w.heap.size w wr) (fun _ i _ => k - (intOf i).toNat)
  case atStart => exact ⟨0, w.heap.size, 0, by omega, rfl, rfl, World.ownsRow_made w #[] 0 (Nat.le_refl _) (by decide) (by simp), (Below.refl _ _).alloc (Nat.le_refl _) _⟩
  case round =>
    obtain ⟨j, g, cap, hj, rfl, rfl, hown, hbel⟩ := hrel
    have HO := Lib.hid hown
    have HBL := Lib.hid hbel
    have hsz := hbel.size
    clear hown hbel
    by_cases hlt : j < k
    · have HTS := Lib.hid (plainL_take hlt)
      have hsh' := shl_small' (i := j) (by omega)
      have hsh := shl_small (i := j) (by omega)
      have hmin : min j 64 = j := by omega
      generalize hz : (2 : Nat) ^ j = z at *
      clear hz
      go_wp2_with (at_builtin; refine wpList_app1 _ _ _ _ _ etI (by rfl) (by rfl) w.heap.size (.slice (some ⟨g, 0, none⟩) j cap) j (iv ((plainL k).take j)) (by rfl) (HO.out.alloc _) _ (.int .i64 (z : Int)) (by first | rfl | (show Value.int .i64 _ = _; rw [hsh]) | (show Value.int .i64 _ = _; rw [hsh'])) (new_cell _ _ _) (by rfl) (by omega) (Nat.le_trans hsz (Nat.le_of_lt (by simp))) ?_; (intro g2 cap2 w2 hown2 hgrow2 hat2 hlt3; have HO2 := Lib.hid hown2; have HB2 := Lib.hid (below_app2 HBL.out hsz HO.out hgrow2); clear hown2 hgrow2 hat2 hlt3))
      go_roundw
      case rel => exact ⟨j + 1, g2, cap2, by omega, by go_num, rfl, by rw [HTS.out, iv_append]; exact HO2.out, HB2.out⟩
      case measure => simp [intOf]; omega
    · obtain rfl : j = k := by omega
      have he : (plainL j).take j = plainL j := List.take_of_length_le (by rw [plainL_length]; exact Nat.le_refl _)
      rw [he] at HO
      clear he
      go_wp2_with fail
      go_ret
      exact ⟨g, cap, rfl, HO.out, HBL.out⟩
end Go.Proofs.Ytnffpjdlpjkioaa

namespace Go.Proofs.Ytnffpjdlpjkioaa
open Go.RowKit

set_option maxRecDepth 100000 in
set_option maxHeartbeats 8000000 in
theorem implIsInvariant_any (k : Int) (A : Option Addr) (n c : Nat) (L : List Row) (w : World) (hn : n = L.length) (hsm : n ≤ 1048576) (hl : ∀ i, i < L.length → (rg L i).xs.length ≤ 1048576) (hR : RdR w A L) :
    Calls Try.prog 25 #[.agg #[.int .i64 k, .slice A n c]] w (ResB (invF k (dat L)) w) := by
  have hb := blk_new w (.cells #[.int .i64 k, .slice A n c] 24)
  have hB : Below w.heap.size w (w.alloc (.cells #[.int .i64 k, .slice A n c] 24)) := (Below.refl _ _).alloc (Nat.le_refl _) _
  have HB := Lib.hid hB
  have HK := Lib.hid hb
  have HR := Lib.hid hR
  have Hn := Lib.hid hn
  obtain ⟨x0, x1, xf0, xf1, lx⟩ := blk2cells hb
  have HIP := Lib.hid (isPoly_any k A n c L _ hn hsm hl (hR.below hB))
  have HFF : Hid (invF k (dat L) = if polyB k (dat L) = true then (((List.range (k.toNat - 1)).all fun j => fixB k.toNat (swapL k.toNat j) (dat L)) && (if 1 < k.toNat then fixB k.toNat (shearL k.toNat) (dat L) else true), 0) else (false, 1)) := Lib.hid rfl
  have HPH := Lib.hid (fun h => polyB_hom (k := k) (Q := dat L) h)
  clear hB hb hR hn hl
  cases h1 : polyB k (dat L) with
  | false =>
    have HE : Hid (invF k (dat L) = (false, 1)) := Lib.hid (by rw [HFF.out, h1, if_neg (by simp)])
    go_enter Try.func25, Try.ntmps25
    go_wp2_with fail
    refine HIP.out.mono ?_
    rintro e w1 ⟨rfl, hb1⟩
    rw [h1]
    have HB1 := Lib.hid (HB.out.trans (hb1.mono HB.out.size))
    clear hb1
    go_wp2_with fail
    go_ret2
    exact ⟨by rw [HE.out]; rfl, HB1.out⟩
  | true =>
    obtain ⟨m, d, rfl, hm1, hm4, hd, hQ, hL2, hAs⟩ := HPH.out h1
    rw [if_pos h1, Int.toNat_natCast] at HFF
    have HQ := Lib.hid hQ
    have HAS := Lib.hid hAs
    have hn2 : n ≤ 2000 := by rw [Hn.out, ← dat_length]; exact hL2
    clear hQ hL2 hAs
    go_enter Try.func25, Try.ntmps25
    go_wp2_with fail
    refine HIP.out.mono ?_
    rintro e w1 ⟨rfl, hb1⟩
    rw [h1]
    have HB1 := Lib.hid (HB.out.trans (hb1.mono HB.out.size))
    have HK1 := Lib.hid (blk_below HK.out hb1 (by simp))
    clear hb1 h1 x0 x1 xf0 xf1 lx HIP
    obtain ⟨x0, x1, xf0, xf1, lx⟩ := blk2cells HK1.out
    have hszw := HB1.out.size
    go_wp2_with fail
    go_loopw [4, 15] (fun vv i wr => ∃ j g cap : Nat, j ≤ m ∧ i = .int .i64 j ∧ vv = .slice (some ⟨g, 0, none⟩) j cap ∧ wr.ownsRow w1.heap.size 2 1 (.slice (some ⟨g, 0, none⟩) j cap) j (iv ((plainL m).take j)) ∧ Below w1.heap.size w1 wr) (fun _ i _ => m - (intOf i).toNat)
    case atStart => exact ⟨0, w1.heap.size, 0, by omega, rfl, rfl, World.ownsRow_made w1 #[] 0 (Nat.le_refl _) (by decide) (by simp), (Below.refl _ _).alloc (Nat.le_refl _) _⟩
    case round =>
      obtain ⟨j, g, cap, hj, rfl, rfl, hown, hbel⟩ := hrel
      have HO := Lib.hid hown
      have HBL := Lib.hid hbel
      have hsz := hbel.size
      clear hown hbel
      by_cases hlt : j < m
      · have HTS := Lib.hid (plainL_take hlt)
        have hsh' := shl_small' (i := j) (by omega)
        have hsh := shl_small (i := j) (by omega)
        have hmin : min j 64 = j := by omega
        generalize hz : (2 : Nat) ^ j = z at *
        clear hz
        go_wp2_with (at_builtin; refine wpList_app1 _ _ _ _ _ etI (by rfl) (by rfl) w1.heap.size (.slice (some ⟨g, 0, none⟩) j cap) j (iv ((plainL m).take j)) (by rfl) (HO.out.alloc _) _ (.int .i64 (z : Int)) (by first | rfl | (show Value.int .i64 _ = _; rw [hsh]) | (show Value.int .i64 _ = _; rw [hsh'])) (new_cell _ _ _) (by rfl) (by omega) (Nat.le_trans hsz (Nat.le_of_lt (by simp))) ?_; (intro g2 cap2 w2 hown2 hgrow2 hat2 hlt3; have HO2 := Lib.hid hown2; have HB2 := Lib.hid (below_app2 HBL.out hsz HO.out hgrow2); clear hown2 hgrow2 hat2 hlt3))
        go_roundw
        case rel => exact ⟨j + 1, g2, cap2, by omega, by go_num, rfl, by rw [HTS.out, iv_append]; exact HO2.out, HB2.out⟩
        case measure => simp [intOf]; omega
      · obtain rfl : j = m := by omega
        have HOP : Hid (wr.ownsRow w1.heap.size 2 1 (.slice (some ⟨g, 0, none⟩) j cap) j (iv (plainL j))) := Lib.hid (by
          have h := HO.out
          rw [List.take_of_length_le (by rw [plainL_length]; exact Nat.le_refl _)] at h
          exact h)
        have HKR := Lib.hid (blk_below HK1.out HBL.out lx)
        have HBR := Lib.hid (HB1.out.trans (HBL.out.mono hszw))
        obtain ⟨wp, hwp⟩ : ∃ wp, wp = wr := ⟨_, rfl⟩
        subst hwp
        have hgp := (HOP.out.lt g rfl)
        have HGP := Lib.hid hgp
        have hszp := HBR.out.size
        clear hgp HO x0 x1 xf0 xf1 lx
        go_wp2_with fail
        go_loopw [7] (fun o wr => ∃ i : Nat, o = .int .i64 ((i : Int) + 1) ∧ i + 1 ≤ j ∧ (∀ t, t < i → fixB j (swapL j t) (dat L) = true) ∧ Below wp.heap.size wp wr) (fun o _ => j + 1 - (intOf o).toNat)
        case atStart => exact ⟨0, rfl, by omega, fun t ht => by omega, Below.refl _ _⟩
        case round =>
          obtain ⟨i, rfl, hi, hall, hbw⟩ := hrel
          have HALL := Lib.hid hall
          have HBW := Lib.hid hbw
          have hszb := hbw.size
          have HKW := Lib.hid (blk_below HKR.out hbw (Array.getElem?_eq_some_iff.1 HKR.out).1)
          have HOW := Lib.hid (owns_later HOP.out hbw)
          have HBA := Lib.hid (HBR.out.trans (hbw.mono hszp))
          clear hall hbw
          by_cases hlt2 : i + 1 < j
          · have hii : (i : Int) + 1 < (j : Int) := by omega
            have hi0 : (0 : Int) ≤ (i : Int) + 1 := by omega
            have hin : ((i : Int) + 1).toNat = i + 1 := by omega
            have hsub : (i : Int) + 1 - 1 = (i : Int) := by omega
            have hij : (i : Int) < (j : Int) := by omega
            have hsw : IntKind.i64.wrap (i : Int) = (i : Int) := by rw [IntKind.wrap_i64]; omega
            have hi00 : (0 : Int) ≤ (i : Int) := by omega
            have HCP := Lib.hid (copyOf_any (some ⟨g, 0, none⟩) j cap (iv (plainL j)) wr (by rw [iv_length, plainL_length]) (by omega) (iv_one _) (owns_Rd HOW.out))
            go_wp2_with fail
            refine HCP.out.mono ?_
            rintro e w3 ⟨g3, c3, rfl, ho3, hb3⟩
            have hc1 := owns_getD ho3 (k := i + 1) hlt2
            have hc2 := owns_getD ho3 (k := i) (by omega)
            have hf1 := ho3.frozenAt (i + 1)
            have hf2 := ho3.frozenAt i
            rw [plainL_getD hlt2] at hc1
            rw [plainL_getD (show i < j by omega)] at hc2
            have hs1 := (World.ownsRow.stored ho3 i (.int .i64 ((2 ^ (i + 1) : Nat) : Int))).1
            rw [← iv_set] at hs1
            have hs2 := (World.ownsRow.stored hs1 (i + 1) (.int .i64 ((2 ^ i : Nat) : Int))).1
            rw [← iv_set] at hs2
            have HS2 := Lib.hid hs2
            have hg3 := (ho3.lt g3 rfl).1
            have HBS : Hid (Below wr.heap.size wr ((w3.setCell ⟨g3, i, none⟩ (.int .i64 ((2 ^ (i + 1) : Nat) : Int))).setCell ⟨g3, i + 1, none⟩ (.int .i64 ((2 ^ i : Nat) : Int))).drew) := Lib.hid ((hb3.setCell (p := ⟨g3, i, none⟩) hg3 _).setCell (p := ⟨g3, i + 1, none⟩) hg3 _).drew
            have HOK := Lib.hid (swapL_ok (k := j) (j := i) hlt2)
            have HSWD : Hid (((plainL j).set i ((2 ^ (i + 1) : Nat) : Int)).set (i + 1) ((2 ^ i : Nat) : Int) = swapL j i) := Lib.hid rfl
            rw [HSWD.out] at HS2
            have HSTY := Lib.hid (stays_any w.heap.size j d A (some ⟨g3, 0, none⟩) n c c3 L (swapL j i) _ (blk_below HKW.out HBS.out (Array.getElem?_eq_some_iff.1 HKW.out).1) (by omega) hm4 Hn.out hn2 HQ.out hd (swapL_length _ _) HOK.out (HR.out.below (HBA.out.trans (HBS.out.mono (Nat.le_trans hszp hszb)))) (owns_Rd (show ((w3.setCell ⟨g3, i, none⟩ (.int .i64 ((2 ^ (i + 1) : Nat) : Int))).setCell ⟨g3, i + 1, none⟩ (.int .i64 ((2 ^ i : Nat) : Int))).drew.ownsRow _ _ _ _ _ _ from HS2.out)))
            clear hs1 hs2 ho3 hb3 hg3 HSWD HS2
            generalize (2 : Nat) ^ (i + 1) = za at *
            generalize (2 : Nat) ^ i = zb at *
            go_wp2_with fail
            refine wp_region_any (by kernel_rfl) ?_
            try (change wpAny _ _ _ _ _ _ _ (World.drew _))
            refine wpAny_take (i := 0) (oi := ?oio1_1) (v := ?vo1_1) ?ho1_1 (by kernel_rfl) (by kernel_rfl) (by kernel_rfl) ?qo1_1 (Or.inl ⟨?wo1_1, ?yo1_1⟩) ?ro1_1
            case ho1_1 => (simp only [List.getElem?_toArray, List.getElem?_cons_succ, List.getElem?_cons_zero]; rfl)
            case qo1_1 => exact fun _ _ _ h => h
            case wo1_1 => rfl
            case yo1_1 => (intro w; go_simp <;> with_reducible rfl)
            try simp only [Act.put, List.setIfInBounds_toArray, List.set_cons_zero, List.set_cons_succ]
            refine wpAny_take (i := 1) (oi := ?oio1_2) (v := ?vo1_2) ?ho1_2 (by kernel_rfl) (by kernel_rfl) (by kernel_rfl) ?qo1_2 (Or.inl ⟨?wo1_2, ?yo1_2⟩) ?ro1_2
            case ho1_2 => (simp only [List.getElem?_toArray, List.getElem?_cons_succ, List.getElem?_cons_zero]; rfl)
            case qo1_2 => exact fun _ _ _ h => h
            case wo1_2 => rfl
            case yo1_2 => (intro w; go_simp <;> with_reducible rfl)
            try simp only [Act.put, List.setIfInBounds_toArray, List.set_cons_zero, List.set_cons_succ]
            refine wpAny_take (i := 2) (oi := ?oio1_3) (v := ?vo1_3) ?ho1_3 (by kernel_rfl) (by kernel_rfl) (by kernel_rfl) ?qo1_3 (Or.inl ⟨?wo1_3, ?yo1_3⟩) ?ro1_3
            case ho1_3 => (simp only [List.getElem?_toArray, List.getElem?_cons_succ, List.getElem?_cons_zero]; rfl)
            case qo1_3 => exact fun _ _ _ h => h
            case wo1_3 => rfl
            case yo1_3 => (intro w; go_simp <;> with_reducible rfl)
            try simp only [Act.put, List.setIfInBounds_toArray, List.set_cons_zero, List.set_cons_succ]
            refine wpAny_take (i := 3) (oi := ?oio1_4) (v := ?vo1_4) ?ho1_4 (by kernel_rfl) (by kernel_rfl) (by kernel_rfl) ?qo1_4 (Or.inl ⟨?wo1_4, ?yo1_4⟩) ?ro1_4
            case ho1_4 => (simp only [List.getElem?_toArray, List.getElem?_cons_succ, List.getElem?_cons_zero]; rfl)
            case qo1_4 => exact fun _ _ _ h => h
            case wo1_4 => rfl
            case yo1_4 => (intro w; go_simp <;> with_reducible rfl)
            try simp only [Act.put, List.setIfInBounds_toArray, List.set_cons_zero, List.set_cons_succ]
            refine wpAny_take (i := 4) (oi := ?oio1_5) (v := ?vo1_5) ?ho1_5 (by kernel_rfl) (by kernel_rfl) (by kernel_rfl) ?qo1_5 (Or.inl ⟨?wo1_5, ?yo1_5⟩) ?ro1_5
            case ho1_5 => (simp only [List.getElem?_toArray, List.getElem?_cons_succ, List.getElem?_cons_zero]; rfl)
            case qo1_5 => exact fun _ _ _ h => h
            case wo1_5 => rfl
            case yo1_5 => (intro w; go_simp <;> with_reducible rfl)
            try simp only [Act.put, List.setIfInBounds_toArray, List.set_cons_zero, List.set_cons_succ]
            refine wpAny_take (i := 5) (oi := ?oio1_6) (v := ?vo1_6) ?ho1_6 (by kernel_rfl) (by kernel_rfl) (by kernel_rfl) ?qo1_6 (Or.inl ⟨?wo1_6, ?yo1_6⟩) ?ro1_6
            case ho1_6 => (simp only [List.getElem?_toArray, List.getElem?_cons_succ, List.getElem?_cons_zero]; rfl)
            case qo1_6 => exact fun _ _ _ h => h
            case wo1_6 => rfl
            case yo1_6 => (intro w; go_simp <;> with_reducible rfl)
            try simp only [Act.put, List.setIfInBounds_toArray, List.set_cons_zero, List.set_cons_succ]
            refine wpAny_take (i := 6) (oi := ?oio1_7) (v := ?vo1_7) ?ho1_7 (by kernel_rfl) (by kernel_rfl) (by kernel_rfl) ?qo1_7 (Or.inl ⟨?wo1_7, ?yo1_7⟩) ?ro1_7
            case ho1_7 => (simp only [List.getElem?_toArray, List.getElem?_cons_succ, List.getElem?_cons_zero]; rfl)
            case qo1_7 => exact fun _ _ _ h => h
            case wo1_7 => rfl
            case yo1_7 => (intro w; go_simp <;> with_reducible rfl)
            try simp only [Act.put, List.setIfInBounds_toArray, List.set_cons_zero, List.set_cons_succ]
            refine wpAny_take (i := 7) (oi := ?oio1_8) (v := ?vo1_8) ?ho1_8 (by kernel_rfl) (by kernel_rfl) (by kernel_rfl) ?qo1_8 (Or.inl ⟨?wo1_8, ?yo1_8⟩) ?ro1_8
            case ho1_8 => (simp only [List.getElem?_toArray, List.getElem?_cons_succ, List.getElem?_cons_zero]; rfl)
            case qo1_8 => exact fun _ _ _ h => h
            case wo1_8 => rfl
            case yo1_8 => (intro w; go_simp <;> with_reducible rfl)
            try simp only [Act.put, List.setIfInBounds_toArray, List.set_cons_zero, List.set_cons_succ]
            refine wpAny_take (i := 9) (oi := ?oio1_9) (v := ?vo1_9) ?ho1_9 (by kernel_rfl) (by kernel_rfl) (by kernel_rfl) ?qo1_9 (Or.inl ⟨?wo1_9, ?yo1_9⟩) ?ro1_9
            case ho1_9 => (simp only [List.getElem?_toArray, List.getElem?_cons_succ, List.getElem?_cons_zero]; rfl)
            case qo1_9 => exact fun _ _ _ h => h
            case wo1_9 => rfl
            case yo1_9 => (intro w; go_simp <;> with_reducible rfl)
            try simp only [Act.put, List.setIfInBounds_toArray, List.set_cons_zero, List.set_cons_succ]
            refine wpAny_take (i := 10) (oi := ?oio1_10) (v := ?vo1_10) ?ho1_10 (by kernel_rfl) (by kernel_rfl) (by kernel_rfl) ?qo1_10 (Or.inl ⟨?wo1_10, ?yo1_10⟩) ?ro1_10
            case ho1_10 => (simp only [List.getElem?_toArray, List.getElem?_cons_succ, List.getElem?_cons_zero]; rfl)
            case qo1_10 => exact fun _ _ _ h => h
            case wo1_10 => rfl
            case yo1_10 => (intro w; go_simp <;> with_reducible rfl)
            try simp only [Act.put, List.setIfInBounds_toArray, List.set_cons_zero, List.set_cons_succ]
            refine wpAny_take (i := 11) (oi := ?oio1_11) (v := ?vo1_11) ?ho1_11 (by kernel_rfl) (by kernel_rfl) (by kernel_rfl) ?qo1_11 (Or.inl ⟨?wo1_11, ?yo1_11⟩) ?ro1_11
            case ho1_11 => (simp only [List.getElem?_toArray, List.getElem?_cons_succ, List.getElem?_cons_zero]; rfl)
            case qo1_11 => exact fun _ _ _ h => h
            case wo1_11 => rfl
            case yo1_11 => (intro w; go_simp <;> with_reducible rfl)
            try simp only [Act.put, List.setIfInBounds_toArray, List.set_cons_zero, List.set_cons_succ]
            refine wpAny_take (i := 12) (oi := ?oio1_12) (v := ?vo1_12) ?ho1_12 (by kernel_rfl) (by kernel_rfl) (by kernel_rfl) ?qo1_12 (Or.inl ⟨?wo1_12, ?yo1_12⟩) ?ro1_12
            case ho1_12 => (simp only [List.getElem?_toArray, List.getElem?_cons_succ, List.getElem?_cons_zero]; rfl)
            case qo1_12 => exact fun _ _ _ h => h
            case wo1_12 => rfl
            case yo1_12 => (intro w; go_simp <;> with_reducible rfl)
            try simp only [Act.put, List.setIfInBounds_toArray, List.set_cons_zero, List.set_cons_succ]
            refine wpAny_ready (rs := [8, 13]) (by kernel_rfl) (by simp) ?_
            refine AllReady.cons (o := ?oio1_13) ?ho1_13 (fun K hK => ?ko1_13) ?mo1_13
            case ho1_13 => (simp only [List.getElem?_toArray, List.getElem?_cons_succ, List.getElem?_cons_zero]; rfl)
            case ko1_13 =>
              go_simp
              refine hK _ _ ?_
              clear hK K
              try simp only [Act.put, List.setIfInBounds_toArray, List.set_cons_zero, List.set_cons_succ]
              refine wpAny_ready (rs := [13]) (by kernel_rfl) (by simp) ?_
              refine AllReady.cons (o := ?oio1_14) ?ho1_14 (fun K hK => ?ko1_14) ?mo1_14
              case ho1_14 => (simp only [List.getElem?_toArray, List.getElem?_cons_succ, List.getElem?_cons_zero]; rfl)
              case ko1_14 =>
                go_simp
                refine hK _ _ ?_
                clear hK K
                try simp only [Act.put, List.setIfInBounds_toArray, List.set_cons_zero, List.set_cons_succ]
                refine wpAny_take (i := 14) (oi := ?oio1_15) (v := ?vo1_15) ?ho1_15 (by kernel_rfl) (by kernel_rfl) (by kernel_rfl) ?qo1_15 (Or.inl ⟨?wo1_15, ?yo1_15⟩) ?ro1_15
                case ho1_15 => (simp only [List.getElem?_toArray, List.getElem?_cons_succ, List.getElem?_cons_zero]; rfl)
                case qo1_15 => exact fun _ _ _ h => h
                case wo1_15 => rfl
                case yo1_15 => (intro w; go_simp <;> with_reducible rfl)
                try simp only [Act.put, List.setIfInBounds_toArray, List.set_cons_zero, List.set_cons_succ]
                refine wpAny_ready (rs := [15]) (by kernel_rfl) (by simp) ?_
                refine AllReady.cons (o := ?oio1_16) ?ho1_16 (fun K hK => ?ko1_16) ?mo1_16
                case ho1_16 => (simp only [List.getElem?_toArray, List.getElem?_cons_succ, List.getElem?_cons_zero]; rfl)
                case ko1_16 =>
                  go_simp
                  refine hK _ _ ?_
                  clear hK K
                  try simp only [Act.put, List.setIfInBounds_toArray, List.set_cons_zero, List.set_cons_succ]
                  refine wpAny_take (i := 16) (oi := ?oio1_17) (v := ?vo1_17) ?ho1_17 (by kernel_rfl) (by kernel_rfl) (by kernel_rfl) ?qo1_17 (Or.inl ⟨?wo1_17, ?yo1_17⟩) ?ro1_17
                  case ho1_17 => (simp only [List.getElem?_toArray, List.getElem?_cons_succ, List.getElem?_cons_zero]; rfl)
                  case qo1_17 => exact fun _ _ _ h => h
                  case wo1_17 => rfl
                  case yo1_17 => (intro w; go_simp <;> with_reducible rfl)
                  try simp only [Act.put, List.setIfInBounds_toArray, List.set_cons_zero, List.set_cons_succ]
                  refine wpAny_ready (rs := [17]) (by kernel_rfl) (by simp) ?_
                  refine AllReady.cons (o := ?oio1_18) ?ho1_18 (fun K hK => ?ko1_18) ?mo1_18
                  case ho1_18 => (simp only [List.getElem?_toArray, List.getElem?_cons_succ, List.getElem?_cons_zero]; rfl)
                  case ko1_18 =>
                    go_simp
                    refine hK _ _ ?_
                    clear hK K
                    try simp only [Act.put, List.setIfInBounds_toArray, List.set_cons_zero, List.set_cons_succ]
                    refine wpAny_done (by kernel_rfl) ?_ _
                    go_wp2_with fail
                    refine HSTY.out.mono ?_
                    rintro e w4 ⟨rfl, hb4⟩
                    have HB4 := Lib.hid (HBS.out.trans (hb4.mono HBS.out.size))
                    clear hb4
                    cases hfx : fixB j (swapL j i) (dat L) with
                    | false =>
                      have HE : Hid (invF j (dat L) = (false, 0)) := Lib.hid (by
                        have : ((List.range (j - 1)).all fun j' => fixB j (swapL j j') (dat L)) = false := by
                          rw [List.all_eq_false]
                          exact ⟨i, List.mem_range.2 (by omega), by rw [hfx]; simp⟩
                        rw [HFF.out, this]; rfl)
                      go_wp2_with fail
                      go_ret2
                      exact ⟨by rw [HE.out]; rfl, HBA.out.trans (HB4.out.mono (Nat.le_trans hszp hszb))⟩
                    | true =>
                      have HFX := Lib.hid hfx
                      clear hfx
                      go_wp2_with fail
                      go_roundw
                      case rel =>
                        refine ⟨i + 1, by go_num, by omega, fun t ht => ?_, HBW.out.trans (HB4.out.mono hszb)⟩
                        by_cases e : t = i
                        · subst e; exact HFX.out
                        · exact HALL.out t (by omega)
                      case measure => simp [intOf]; omega
                  exact AllReady.nil
                exact AllReady.nil
              exact AllReady.nil
            refine AllReady.cons (o := ?oio1_19) ?ho1_19 (fun K hK => ?ko1_19) ?mo1_19
            case ho1_19 => (simp only [List.getElem?_toArray, List.getElem?_cons_succ, List.getElem?_cons_zero]; rfl)
            case ko1_19 =>
              go_simp
              refine hK _ _ ?_
              clear hK K
              try simp only [Act.put, List.setIfInBounds_toArray, List.set_cons_zero, List.set_cons_succ]
              refine wpAny_ready (rs := [8]) (by kernel_rfl) (by simp) ?_
              refine AllReady.cons (o := ?oio1_20) ?ho1_20 (fun K hK => ?ko1_20) ?mo1_20
              case ho1_20 => (simp only [List.getElem?_toArray, List.getElem?_cons_succ, List.getElem?_cons_zero]; rfl)
              case ko1_20 =>
                go_simp
                refine hK _ _ ?_
                clear hK K
                try simp only [Act.put, List.setIfInBounds_toArray, List.set_cons_zero, List.set_cons_succ]
                refine wpAny_take (i := 14) (oi := ?oio1_21) (v := ?vo1_21) ?ho1_21 (by kernel_rfl) (by kernel_rfl) (by kernel_rfl) ?qo1_21 (Or.inl ⟨?wo1_21, ?yo1_21⟩) ?ro1_21
                case ho1_21 => (simp only [List.getElem?_toArray, List.getElem?_cons_succ, List.getElem?_cons_zero]; rfl)
                case qo1_21 => exact fun _ _ _ h => h
                case wo1_21 => rfl
                case yo1_21 => (intro w; go_simp <;> with_reducible rfl)
                try simp only [Act.put, List.setIfInBounds_toArray, List.set_cons_zero, List.set_cons_succ]
                refine wpAny_ready (rs := [15]) (by kernel_rfl) (by simp) ?_
                refine AllReady.cons (o := ?oio1_22) ?ho1_22 (fun K hK => ?ko1_22) ?mo1_22
                case ho1_22 => (simp only [List.getElem?_toArray, List.getElem?_cons_succ, List.getElem?_cons_zero]; rfl)
                case ko1_22 =>
                  go_simp
                  refine hK _ _ ?_
                  clear hK K
                  try simp only [Act.put, List.setIfInBounds_toArray, List.set_cons_zero, List.set_cons_succ]
                  refine wpAny_take (i := 16) (oi := ?oio1_23) (v := ?vo1_23) ?ho1_23 (by kernel_rfl) (by kernel_rfl) (by kernel_rfl) ?qo1_23 (Or.inl ⟨?wo1_23, ?yo1_23⟩) ?ro1_23
                  case ho1_23 => (simp only [List.getElem?_toArray, List.getElem?_cons_succ, List.getElem?_cons_zero]; rfl)
                  case qo1_23 => exact fun _ _ _ h => h
                  case wo1_23 => rfl
                  case yo1_23 => (intro w; go_simp <;> with_reducible rfl)
                  try simp only [Act.put, List.setIfInBounds_toArray, List.set_cons_zero, List.set_cons_succ]
                  refine wpAny_ready (rs := [17]) (by kernel_rfl) (by simp) ?_
                  refine AllReady.cons (o := ?oio1_24) ?ho1_24 (fun K hK => ?ko1_24) ?mo1_24
                  case ho1_24 => (simp only [List.getElem?_toArray, List.getElem?_cons_succ, List.getElem?_cons_zero]; rfl)
                  case ko1_24 =>
                    go_simp
                    refine hK _ _ ?_
                    clear hK K
                    try simp only [Act.put, List.setIfInBounds_toArray, List.set_cons_zero, List.set_cons_succ]
                    refine wpAny_done (by kernel_rfl) ?_ _
                    go_wp2_with fail
                    refine HSTY.out.mono ?_
                    rintro e w4 ⟨rfl, hb4⟩
                    have HB4 := Lib.hid (HBS.out.trans (hb4.mono HBS.out.size))
                    clear hb4
                    cases hfx : fixB j (swapL j i) (dat L) with
                    | false =>
                      have HE : Hid (invF j (dat L) = (false, 0)) := Lib.hid (by
                        have : ((List.range (j - 1)).all fun j' => fixB j (swapL j j') (dat L)) = false := by
                          rw [List.all_eq_false]
                          exact ⟨i, List.mem_range.2 (by omega), by rw [hfx]; simp⟩
                        rw [HFF.out, this]; rfl)
                      go_wp2_with fail
                      go_ret2
                      exact ⟨by rw [HE.out]; rfl, HBA.out.trans (HB4.out.mono (Nat.le_trans hszp hszb))⟩
                    | true =>
                      have HFX := Lib.hid hfx
                      clear hfx
                      go_wp2_with fail
                      go_roundw
                      case rel =>
                        refine ⟨i + 1, by go_num, by omega, fun t ht => ?_, HBW.out.trans (HB4.out.mono hszb)⟩
                        by_cases e : t = i
                        · subst e; exact HFX.out
                        · exact HALL.out t (by omega)
                      case measure => simp [intOf]; omega
                  exact AllReady.nil
                exact AllReady.nil
              exact AllReady.nil
            exact AllReady.nil
          · have hii : ¬ (i : Int) + 1 < (j : Int) := by omega
            have HALB : Hid (((List.range (j - 1)).all fun j' => fixB j (swapL j j') (dat L)) = true) := Lib.hid (List.all_eq_true.2 fun t ht => HALL.out t (by have := List.mem_range.1 ht; omega))
            by_cases hj2 : 2 ≤ j
            · have hj2i : (2 : Int) ≤ (j : Int) := by omega
              have HE : Hid (invF j (dat L) = (fixB j (shearL j) (dat L), 0)) := Lib.hid (by rw [HFF.out, HALB.out, if_pos (by omega)]; rfl)
              have hc0 := owns_getD HOW.out (k := 0) (by omega)
              have hf0 := HOW.out.frozenAt 0
              have hs1 := (World.ownsRow.stored HOW.out 0 (.int .i64 3)).1
              rw [← iv_set] at hs1
              have HBS : Hid (Below w.heap.size w (wr.setCell ⟨g, 0, none⟩ (.int .i64 3))) := Lib.hid (HBA.out.setCell (p := ⟨g, 0, none⟩) (by have := HGP.out.1; show w.heap.size ≤ g; omega) _)
              have HKS := Lib.hid (blk_seto HKW.out ⟨g, 0, none⟩ (by have := HGP.out.1; have := (Array.getElem?_eq_some_iff.1 HK1.out).1; show g ≠ w.heap.size; omega) (.int .i64 3))
              have HSTY := Lib.hid (stays_any w.heap.size j d A (some ⟨g, 0, none⟩) n c cap L (shearL j) _ HKS.out (by omega) hm4 Hn.out hn2 HQ.out hd (shearL_length _) (shearL_ok (by omega)) (HR.out.below HBS.out) (owns_Rd hs1))
              have hji : (0 : Int) < (j : Int) := by omega
              clear hs1
              generalize fixB j (shearL j) (dat L) = fb at *
              go_wp2_with fail
              refine HSTY.out.mono ?_
              rintro e w4 ⟨rfl, hb4⟩
              have HB4 := Lib.hid (HBS.out.trans (hb4.mono HBS.out.size))
              clear hb4
              go_wp2_with fail
              go_ret2
              exact ⟨by rw [HE.out]; rfl, HB4.out⟩
            · have ej : j = 1 := by omega
              have hj2i : ¬ (2 : Int) ≤ (j : Int) := by omega
              have HE : Hid (invF j (dat L) = (true, 0)) := Lib.hid (by rw [HFF.out, HALB.out, if_neg (by omega)]; rfl)
              have HFX : Hid (fixB j (plainL j) (dat L) = true) := Lib.hid (by
                have hq := HQ.out
                rw [ej] at hq ⊢
                exact fixB_one hq (by omega) HAS.out)
              have HSTY := Lib.hid (stays_any w.heap.size j d A (some ⟨g, 0, none⟩) n c cap L (plainL j) wr HKW.out (by omega) hm4 Hn.out hn2 HQ.out hd (plainL_length _) (plainL_ok _) (HR.out.below HBA.out) (owns_Rd HOW.out))
              rw [HFX.out] at HSTY
              clear ej
              go_wp2_with fail
              refine HSTY.out.mono ?_
              rintro e w4 ⟨rfl, hb4⟩
              have HB4 := Lib.hid (HBA.out.trans (hb4.mono HBA.out.size))
              clear hb4
              go_wp2_with fail
              go_ret2
              exact ⟨by rw [HE.out]; rfl, HB4.out⟩
end Go.Proofs.Ytnffpjdlpjkioaa

namespace Go.Proofs.Ytnffpjdlpjkioaa
open Go.RowKit

set_option maxRecDepth 100000 in
set_option maxHeartbeats 8000000 in
theorem specIsInvariant_any (k : Int) (A : Option Addr) (n c : Nat) (L : List Row) (w : World) (hn : n = L.length) (hsm : n ≤ 1048576) (hl : ∀ i, i < L.length → (rg L i).xs.length ≤ 1048576) (hR : RdR w A L) :
    Calls Try.prog 24 #[.agg #[.int .i64 k, .slice A n c]] w (ResB (invF k (dat L)) w) := by
  have hb := blk_new w (.cells #[.int .i64 k, .slice A n c] 24)
  have hB : Below w.heap.size w (w.alloc (.cells #[.int .i64 k, .slice A n c] 24)) := (Below.refl _ _).alloc (Nat.le_refl _) _
  have HB := Lib.hid hB
  have HK := Lib.hid hb
  have HR := Lib.hid hR
  have Hn := Lib.hid hn
  obtain ⟨x0, x1, xf0, xf1, lx⟩ := blk2cells hb
  have HIP := Lib.hid (l08Is_any k A n c L _ hn hsm hl (hR.below hB))
  have HFF : Hid (invF k (dat L) = if polyB k (dat L) = true then (((List.range (k.toNat - 1)).all fun j => fixB k.toNat (swapL k.toNat j) (dat L)) && (if 1 < k.toNat then fixB k.toNat (shearL k.toNat) (dat L) else true), 0) else (false, 1)) := Lib.hid rfl
  have HPH := Lib.hid (fun h => polyB_hom (k := k) (Q := dat L) h)
  clear hB hb hR hn hl
  cases h1 : polyB k (dat L) with
  | false =>
    have HE : Hid (invF k (dat L) = (false, 1)) := Lib.hid (by rw [HFF.out, h1, if_neg (by simp)])
    go_enter Try.func24, Try.ntmps24
    go_wp2_with fail
    refine HIP.out.mono ?_
    rintro e w1 ⟨rfl, hb1⟩
    rw [h1]
    have HB1 := Lib.hid (HB.out.trans (hb1.mono HB.out.size))
    clear hb1
    go_wp2_with fail
    go_ret2
    exact ⟨by rw [HE.out]; rfl, HB1.out⟩
  | true =>
    obtain ⟨m, d, rfl, hm1, hm4, hd, hQ, hL2, hAs⟩ := HPH.out h1
    rw [if_pos h1, Int.toNat_natCast] at HFF
    have HQ := Lib.hid hQ
    have hn2 : n ≤ 2000 := by rw [Hn.out, ← dat_length]; exact hL2
    have HQL : Hid (∀ i, i < L.length → (rg L i).xs.length ≤ 1000000) := Lib.hid fun i hi => by
      have hm : (rg L i).xs ∈ dat L := by rw [← dat_getD]; simp [List.getD, dat_length, hi]
      have := (hQ _ hm).1
      omega
    have HSUB := Lib.hid (fun (F : Option Addr) (cf : Nat) (fs : List Int) W (h1 : fs.length = m) (h2 : ∀ x ∈ fs, 0 ≤ x ∧ x < 2 ^ m) (h3 : Below w.heap.size w W) (h4 : Rd W F (iv fs)) => l08Substitute_any m d A F n c m cf L fs W (by omega) hm4 Hn.out hn2 hQ hd rfl h1 h2 (HR.out.below h3) h4)
    have HSAM := Lib.hid (fun (fs : List Int) (A2 : Option Addr) (c2 : Nat) (R2 : List Row) W (h1 : dat R2 = nf (putB m fs (dat L))) (h2 : RdR W A2 R2) (h3 : Below w.heap.size w W) => show Calls Try.prog 56 #[.slice A2 R2.length c2, .slice A n c] W fun e w' => e = .returned (.bool (fixB m fs (dat L))) ∧ ∃ mm, W.drewN mm = w' from by
      have hp := putB_hom (fs := fs) hQ (show d < 64 by omega)
      have h := l01Same2_any A2 A R2.length n c2 c R2 L W rfl Hn.out (by have := hom_len hp h1 (by omega) hm4 hd; omega) (by omega) (hom_lens hp h1 (by omega)) HQL.out h2 (HR.out.below h3)
      rw [h1] at h
      exact h)
    clear hQ hL2 hAs
    go_enter Try.func24, Try.ntmps24
    go_wp2_with fail
    refine HIP.out.mono ?_
    rintro e w1 ⟨rfl, hb1⟩
    rw [h1]
    have HB1 := Lib.hid (HB.out.trans (hb1.mono HB.out.size))
    have HK1 := Lib.hid (blk_below HK.out hb1 (by simp))
    have hszw := HB1.out.size
    clear hb1 h1 x0 x1 xf0 xf1 lx HIP
    go_wp2_with fail
    go_loopw [4] (fun o wr => ∃ j : Nat, o = .int .i64 j ∧ j + 1 ≤ m ∧ (∀ t, t < j → fixB m (swapL m t) (dat L) = true) ∧ Below w1.heap.size w1 wr) (fun o _ => m - (intOf o).toNat)
    case atStart => exact ⟨0, rfl, by omega, fun t ht => by omega, Below.refl _ _⟩
    case round =>
      obtain ⟨i, rfl, hi, hall, hbw⟩ := hrel
      have HALL := Lib.hid hall
      have HBW := Lib.hid hbw
      have HKW := Lib.hid (blk_below HK1.out hbw (Array.getElem?_eq_some_iff.1 HK1.out).1)
      have HBA := Lib.hid (HB1.out.trans (hbw.mono hszw))
      have hszb := hbw.size
      have hsza := HBA.out.size
      clear hall hbw
      obtain ⟨x0, x1, xf0, xf1, lx⟩ := blk2cells HKW.out
      by_cases hlt2 : i + 1 < m
      · have hii : (i : Int) + 1 < (m : Int) := by omega
        have hi0 : (0 : Int) ≤ (i : Int) + 1 := by omega
        have hin : ((i : Int) + 1).toNat = i + 1 := by omega
        have hij : (i : Int) < (m : Int) := by omega
        have HCP := Lib.hid (l10Forms_any m wr (by omega))
        go_wp2_with fail
        refine HCP.out.mono ?_
        rintro e w3 ⟨g3, c3, rfl, ho3, hb3⟩
        have hc1 := owns_getD ho3 (k := i + 1) hlt2
        have hc2 := owns_getD ho3 (k := i) (by omega)
        have hf1 := ho3.frozenAt (i + 1)
        have hf2 := ho3.frozenAt i
        rw [plainL_getD hlt2] at hc1
        rw [plainL_getD (show i < m by omega)] at hc2
        have hs1 := (World.ownsRow.stored ho3 i (.int .i64 ((2 ^ (i + 1) : Nat) : Int))).1
        rw [← iv_set] at hs1
        have hs2 := (World.ownsRow.stored hs1 (i + 1) (.int .i64 ((2 ^ i : Nat) : Int))).1
        rw [← iv_set] at hs2
        have HSWD : Hid (((plainL m).set i ((2 ^ (i + 1) : Nat) : Int)).set (i + 1) ((2 ^ i : Nat) : Int) = swapL m i) := Lib.hid rfl
        rw [HSWD.out] at hs2
        have HS2 := Lib.hid hs2
        have hg3 := (ho3.lt g3 rfl).1
        have HBS : Hid (Below wr.heap.size wr ((w3.setCell ⟨g3, i, none⟩ (.int .i64 ((2 ^ (i + 1) : Nat) : Int))).setCell ⟨g3, i + 1, none⟩ (.int .i64 ((2 ^ i : Nat) : Int)))) := Lib.hid ((hb3.setCell (p := ⟨g3, i, none⟩) hg3 _).setCell (p := ⟨g3, i + 1, none⟩) hg3 _)
        have HOK := Lib.hid (swapL_ok (k := m) (j := i) hlt2)
        have HK3 := Lib.hid (blk_below HKW.out hb3 lx)
        clear hs1 hs2 ho3 hb3 hg3 HSWD x0 x1 xf0 xf1 lx
        obtain ⟨x0, x1, xf0, xf1, lx⟩ := blk2cells HK3.out
        generalize (2 : Nat) ^ (i + 1) = za at *
        generalize (2 : Nat) ^ i = zb at *
        go_wp2_with fail
        clear x0 x1 xf0 xf1 lx hc1 hc2 hf1 hf2
        have HKS := Lib.hid (blk_below HKW.out HBS.out (Array.getElem?_eq_some_iff.1 HKW.out).1)
        generalize (w3.setCell ⟨g3, i, none⟩ (.int .i64 za)).setCell ⟨g3, i + 1, none⟩ (.int .i64 zb) = W at *
        obtain ⟨x0, x1, xf0, xf1, lx⟩ := blk2cells HKS.out
        have HBW2 := Lib.hid (HBA.out.trans (HBS.out.mono hsza))
        have KS := Lib.hid (fun w' (hb : Below W.heap.size W w') => show w'.cell? ⟨w.heap.size, 0, none⟩ = some (.int .i64 m) ∧ w'.cell? ⟨w.heap.size, 1, none⟩ = some (.slice A n c) from ⟨(hb.cell lx).trans x0, (hb.cell lx).trans x1⟩)
        have HD0 := Lib.hid (Below.drew (Below.refl W.heap.size W))
        have HDW := Lib.hid (Below.drew HBW2.out)
        have HSU := Lib.hid (HSUB.out (some ⟨g3, 0, none⟩) c3 (swapL m i) W.drew (swapL_length _ _) HOK.out HDW.out (owns_Rd HS2.out))
        have hszW := HBS.out.size
        go_region_held3 (fun w' => w'.cell? ⟨w.heap.size, 0, none⟩ = some (.int .i64 m) ∧ w'.cell? ⟨w.heap.size, 1, none⟩ = some (.slice A n c))
          (first | exact KS.out _ HD0.out | exact KS.out _ HD1.out | exact KS.out _ HD2.out)
          (first
            | (go_at_call 50; refine HSU.out.mono ?_; rintro e w4 ⟨v4, R4, rfl, hd4, ho4, hb4⟩; obtain ⟨A4, c4, rfl, -, -, -⟩ := owns_shape ho4.out; have HD1 := Lib.hid (HD0.out.trans hb4); have HE4 := Lib.hid hd4; have HO4 := Lib.hid ho4; clear hd4 ho4 hb4)
            | (go_at_call 56; refine (HSAM.out (swapL m i) A4 c4 R4 w4 HE4.out (HO4.out.rd rfl) (HBW2.out.trans (HD1.out.mono HBW2.out.size))).mono ?_; rintro e w5 ⟨rfl, mm, rfl⟩; have HD2 := Lib.hid (below_drewN HD1.out mm)))
        have HB5 := Lib.hid (HBS.out.trans (HD2.out.mono hszW))
        clear x0 x1 xf0 xf1 lx
        cases hfx : fixB m (swapL m i) (dat L) with
        | false =>
          have HE : Hid (invF m (dat L) = (false, 0)) := Lib.hid (by
            have : ((List.range (m - 1)).all fun j' => fixB m (swapL m j') (dat L)) = false := by
              rw [List.all_eq_false]
              exact ⟨i, List.mem_range.2 (by omega), by rw [hfx]; simp⟩
            rw [HFF.out, this]; rfl)
          go_wp2_with fail
          go_ret2
          exact ⟨by rw [HE.out]; rfl, HBA.out.trans (HB5.out.mono hsza)⟩
        | true =>
          have HFX := Lib.hid hfx
          clear hfx
          go_wp2_with fail
          go_roundw
          case rel =>
            refine ⟨i + 1, by go_num, by omega, fun t ht => ?_, HBW.out.trans (HB5.out.mono hszb)⟩
            by_cases e : t = i
            · subst e; exact HFX.out
            · exact HALL.out t (by omega)
          case measure => simp [intOf]; omega
      · have hii : ¬ (i : Int) + 1 < (m : Int) := by omega
        have HALB : Hid (((List.range (m - 1)).all fun j' => fixB m (swapL m j') (dat L)) = true) := Lib.hid (List.all_eq_true.2 fun t ht => HALL.out t (by have := List.mem_range.1 ht; omega))
        by_cases hm2 : 1 < m
        · have hm2i : (1 : Int) < (m : Int) := by omega
          have hm0i : (0 : Int) < (m : Int) := by omega
          have HE : Hid (invF m (dat L) = (fixB m (shearL m) (dat L), 0)) := Lib.hid (by rw [HFF.out, HALB.out, if_pos hm2]; rfl)
          have HCP := Lib.hid (l10Forms_any m wr (by omega))
          go_wp2_with fail
          refine HCP.out.mono ?_
          rintro e w3 ⟨g3, c3, rfl, ho3, hb3⟩
          have hc2 := owns_getD ho3 (k := 0) (by omega)
          have hf2 := ho3.frozenAt 0
          have hs1 := (World.ownsRow.stored ho3 0 (.int .i64 3)).1
          rw [← iv_set] at hs1
          have HS2 : Hid ((w3.setCell ⟨g3, 0, none⟩ (.int .i64 3)).ownsRow wr.heap.size 2 1 (.slice (some ⟨g3, 0, none⟩) m c3) m (iv (shearL m))) := Lib.hid hs1
          have hg3 := (ho3.lt g3 rfl).1
          have HBS : Hid (Below wr.heap.size wr (w3.setCell ⟨g3, 0, none⟩ (.int .i64 3))) := Lib.hid (hb3.setCell (p := ⟨g3, 0, none⟩) hg3 _)
          have HOK := Lib.hid (shearL_ok (k := m) hm2)
          have HK3 := Lib.hid (blk_below HKW.out hb3 lx)
          clear hs1 ho3 hb3 hg3 x0 x1 xf0 xf1 lx
          obtain ⟨x0, x1, xf0, xf1, lx⟩ := blk2cells HK3.out
          go_wp2_with fail
          clear x0 x1 xf0 xf1 lx hc2 hf2
          have HKS := Lib.hid (blk_below HKW.out HBS.out (Array.getElem?_eq_some_iff.1 HKW.out).1)
          generalize w3.setCell ⟨g3, 0, none⟩ (.int .i64 3) = W at *
          obtain ⟨x0, x1, xf0, xf1, lx⟩ := blk2cells HKS.out
          have HBW2 := Lib.hid (HBA.out.trans (HBS.out.mono hsza))
          have KS := Lib.hid (fun w' (hb : Below W.heap.size W w') => show w'.cell? ⟨w.heap.size, 0, none⟩ = some (.int .i64 m) ∧ w'.cell? ⟨w.heap.size, 1, none⟩ = some (.slice A n c) from ⟨(hb.cell lx).trans x0, (hb.cell lx).trans x1⟩)
          have HD0 := Lib.hid (Below.drew (Below.refl W.heap.size W))
          have HDW := Lib.hid (Below.drew HBW2.out)
          have HSU := Lib.hid (HSUB.out (some ⟨g3, 0, none⟩) c3 (shearL m) W.drew (shearL_length _) HOK.out HDW.out (owns_Rd HS2.out))
          have hszW := HBS.out.size
          go_region_held3 (fun w' => w'.cell? ⟨w.heap.size, 0, none⟩ = some (.int .i64 m) ∧ w'.cell? ⟨w.heap.size, 1, none⟩ = some (.slice A n c))
            (first | exact KS.out _ HD0.out | exact KS.out _ HD1.out | exact KS.out _ HD2.out)
            (first
              | (go_at_call 50; refine HSU.out.mono ?_; rintro e w4 ⟨v4, R4, rfl, hd4, ho4, hb4⟩; obtain ⟨A4, c4, rfl, -, -, -⟩ := owns_shape ho4.out; have HD1 := Lib.hid (HD0.out.trans hb4); have HE4 := Lib.hid hd4; have HO4 := Lib.hid ho4; clear hd4 ho4 hb4)
              | (go_at_call 56; refine (HSAM.out (shearL m) A4 c4 R4 w4 HE4.out (HO4.out.rd rfl) (HBW2.out.trans (HD1.out.mono HBW2.out.size))).mono ?_; rintro e w5 ⟨rfl, mm, rfl⟩; have HD2 := Lib.hid (below_drewN HD1.out mm)))
          have HB5 := Lib.hid (HBS.out.trans (HD2.out.mono hszW))
          clear x0 x1 xf0 xf1 lx
          generalize fixB m (shearL m) (dat L) = fb at *
          go_wp2_with fail
          go_ret2
          exact ⟨by rw [HE.out]; rfl, HBA.out.trans (HB5.out.mono hsza)⟩
        · have hm2i : ¬ (1 : Int) < (m : Int) := by omega
          have HE : Hid (invF m (dat L) = (true, 0)) := Lib.hid (by rw [HFF.out, HALB.out, if_neg hm2]; rfl)
          go_wp2_with fail
          go_ret2
          exact ⟨by rw [HE.out]; rfl, HBA.out⟩

noncomputable def invOf (q : Int) (L : List Row) : Bool × Int := invF q (dat L)
theorem invOf_dat {q : Int} {L M : List Row} (h : dat M = dat L) : invOf q M = invOf q L := by unfold invOf; rw [h]
theorem specInv_any (q : Int) (A : Option Addr) (n c : Nat) (L : List Row) (w : World) (hn : n = L.length) (hsm : n ≤ 1048576) (hl : ∀ i, i < L.length → (rg L i).xs.length ≤ 1048576) (hR : RdR w A L) :
    Calls Try.prog 24 #[.agg #[.int .i64 q, .slice A n c]] w (ResB (invOf q L) w) := specIsInvariant_any q A n c L w hn hsm hl hR
theorem implInv_any (q : Int) (A : Option Addr) (n c : Nat) (L : List Row) (w : World) (hn : n = L.length) (hsm : n ≤ 1048576) (hl : ∀ i, i < L.length → (rg L i).xs.length ≤ 1048576) (hR : RdR w A L) :
    Calls Try.prog 25 #[.agg #[.int .i64 q, .slice A n c]] w (ResB (invOf q L) w) := implIsInvariant_any q A n c L w hn hsm hl hR
end Go.Proofs.Ytnffpjdlpjkioaa

namespace Go.Proofs.Ytnffpjdlpjkioaa
open Go.RowKit

set_option maxRecDepth 100000 in
set_option maxHeartbeats 8000000 in
theorem lawInv_any (q0 : Int) (A0 : Option Addr) (n0 c0 : Nat) (L0 : List Row) (w : World) (hn0 : n0 = L0.length) (hs0 : n0 ≤ 9223372036854775807) (hl0 : ∀ i, i < L0.length → (rg L0 i).xs.length ≤ 9223372036854775807) (hR0 : RdR w A0 L0) :
    Calls Try.prog 6 #[.agg #[.int .i64 q0, .slice A0 n0 c0]] w fun e w' => e = .returned (.bool true) ∧ Below w.heap.size w w' := by
  have hI := (Inw.start w).allocBox #[.int .i64 q0, .slice A0 n0 c0] 36
  have I0 := Lib.hid hI
  clear hI
  have Hn0 := Lib.hid hn0
  have HR0 := Lib.hid hR0
  have HL0 := Lib.hid hl0
  clear hn0 hR0 hl0
  go_enter Try.func6, Try.ntmps6
  go_wp2_with fail
  refine (szPoly_any q0 A0 n0 c0 L0 (1048576) _ Hn0.out hs0 HL0.out (by omega) (by omega) (HR0.out.below I0.out.bel)).mono ?_
  rintro e w1 ⟨z0, rfl, hz, hb⟩
  have I1 := Lib.hid (I0.out.step hb)
  clear hb
  obtain ⟨u_a0_1, v_a0_1, x_a0_1, y_a0_1, z_a0_1⟩ := blk2cells (I1.out.box 0 rfl)
  rcases hz with rfl | ⟨hz0, hy0⟩
  · go_wp2_with fail
    go_ret
    exact ⟨rfl, I1.out.bel⟩
  have hi0 : ¬ z0 < 0 := by omega
  have hk0 : tot L0 ≤ 1048576 := by omega
  have HLL0 := Lib.hid (fun i (hi : i < L0.length) => Nat.le_trans (len_le_tot hi) hk0)
  have HTO0 := Lib.hid (fun W (hb : Below w.heap.size w W) => toPoly_any q0 A0 n0 c0 L0 W Hn0.out (by omega) HLL0.out (HR0.out.below hb))
  obtain ⟨rr, hrr⟩ : ∃ rr, invOf q0 L0 = rr := ⟨_, rfl⟩
  have HDD := Lib.hid (fun (M0 : List Row) (e0 : dat M0 = dat L0) => (invOf_dat e0).trans hrr)
  clear hrr
  have hnb0 : n0 ≤ 1048576 := by omega
  have HSP := Lib.hid (fun (W : World) (C0 : Option Addr) (M0 : List Row) (e0 : dat M0 = dat L0) (r0 : RdR W C0 M0) => show Calls Try.prog 24 #[.agg #[.int .i64 q0, .slice C0 n0 n0]] W (ResB rr W) from by
    have h : Calls Try.prog 24 #[.agg #[.int .i64 q0, .slice C0 n0 n0]] W (ResB (invOf q0 M0) W) := specInv_any q0 C0 n0 n0 M0 W (by rw [Hn0.out, (dat_xs e0).1]) (by omega) (by intro i hi; rw [(dat_xs e0).2 i]; exact HLL0.out i (by rw [← (dat_xs e0).1]; exact hi)) r0
    rw [HDD.out M0 e0] at h
    exact h)
  have HIM := Lib.hid (fun (W : World) (C0 : Option Addr) (M0 : List Row) (e0 : dat M0 = dat L0) (r0 : RdR W C0 M0) => show Calls Try.prog 25 #[.agg #[.int .i64 q0, .slice C0 n0 n0]] W (ResB rr W) from by
    have h : Calls Try.prog 25 #[.agg #[.int .i64 q0, .slice C0 n0 n0]] W (ResB (invOf q0 M0) W) := implInv_any q0 C0 n0 n0 M0 W (by rw [Hn0.out, (dat_xs e0).1]) (by omega) (by intro i hi; rw [(dat_xs e0).2 i]; exact HLL0.out i (by rw [← (dat_xs e0).1]; exact hi)) r0
    rw [HDD.out M0 e0] at h
    exact h)
  go_wp2_with fail
  clear hz0 hy0 hi0 hs0
  refine (HTO0.out _ I1.out.bel).mono ?_
  rintro e w2 ⟨gs0, Ms0, rfl, hd, ho, hb⟩
  have I2 := Lib.hid (I1.out.pushRows hb ho)
  have HDs0 := Lib.hid hd
  clear hd
  clear ho hb
  clear u_a0_1 v_a0_1 x_a0_1 y_a0_1 z_a0_1
  obtain ⟨u_a0_2, v_a0_2, x_a0_2, y_a0_2, z_a0_2⟩ := blk2cells (I2.out.box 1 rfl)
  go_wp2_with fail
  refine (HSP.out _ _ _ HDs0.out ((I2.out.rows 0 rfl).rd (by rw [Hn0.out, (dat_xs HDs0.out).1]))).mono ?_
  rintro e w3 ⟨rfl, hb⟩
  have I3 := Lib.hid (I2.out.step hb)
  clear hb
  clear u_a0_2 v_a0_2 x_a0_2 y_a0_2 z_a0_2
  obtain ⟨u_a0_3, v_a0_3, x_a0_3, y_a0_3, z_a0_3⟩ := blk2cells (I3.out.box 1 rfl)
  go_wp2_with fail
  refine (HTO0.out _ I3.out.bel).mono ?_
  rintro e w4 ⟨gx0, Mx0, rfl, hd, ho, hb⟩
  have I4 := Lib.hid (I3.out.pushRows hb ho)
  have HDx0 := Lib.hid hd
  clear hd
  clear ho hb
  clear u_a0_3 v_a0_3 x_a0_3 y_a0_3 z_a0_3
  obtain ⟨u_a0_4, v_a0_4, x_a0_4, y_a0_4, z_a0_4⟩ := blk2cells (I4.out.box 2 rfl)
  go_wp2_with fail
  have hI := I4.out.allocBox #[.int .i64 q0, .slice (some ⟨gx0, 0, none⟩) n0 n0] 24
  refine (HIM.out _ _ _ HDx0.out ((hI.rows 1 rfl).rd (by rw [Hn0.out, (dat_xs HDx0.out).1]))).mono ?_
  rintro e w5 ⟨rfl, hb⟩
  have I5 := Lib.hid (hI.step hb)
  clear hb
  clear hI
  clear u_a0_4 v_a0_4 x_a0_4 y_a0_4 z_a0_4
  obtain ⟨u_a0_5, v_a0_5, x_a0_5, y_a0_5, z_a0_5⟩ := blk2cells (I5.out.box 3 rfl)
  obtain ⟨u_b0_5, v_b0_5, x_b0_5, y_b0_5, z_b0_5⟩ := blk2cells (I5.out.box 0 rfl)
  go_wp2_with fail
  have KS := Lib.hid (fun w' (hb : Below w5.heap.size w5 w') => show w'.cell? ⟨w4.heap.size, 0, none⟩ = some (.int .i64 q0) ∧ w'.cell? ⟨w4.heap.size, 1, none⟩ = some (.slice (some ⟨gx0, 0, none⟩) n0 n0) ∧ w'.cell? ⟨w.heap.size, 0, none⟩ = some (.int .i64 q0) ∧ w'.cell? ⟨w.heap.size, 1, none⟩ = some (.slice A0 n0 c0) from by
    have J := I5.out.step hb
    exact ⟨(blk2cells (J.box 0 rfl)).1, (blk2cells (J.box 0 rfl)).2.1, (blk2cells (J.box 3 rfl)).1, (blk2cells (J.box 3 rfl)).2.1⟩)
  have HB_0 := Lib.hid (Below.drew (Below.refl w5.heap.size w5))
  have I6 := Lib.hid I5.out.drew
  clear u_a0_5 v_a0_5 x_a0_5 y_a0_5 z_a0_5 u_b0_5 v_b0_5 x_b0_5 y_b0_5 z_b0_5
  go_region_held3 (fun w' => w'.cell? ⟨w4.heap.size, 0, none⟩ = some (.int .i64 q0) ∧ w'.cell? ⟨w4.heap.size, 1, none⟩ = some (.slice (some ⟨gx0, 0, none⟩) n0 n0) ∧ w'.cell? ⟨w.heap.size, 0, none⟩ = some (.int .i64 q0) ∧ w'.cell? ⟨w.heap.size, 1, none⟩ = some (.slice A0 n0 c0))
      (first | exact KS.out _ HB_0.out | exact KS.out _ HB_1.out | exact KS.out _ HB_2.out)
      (first
        | (go_at_call 22; (with_reducible refine (HTO0.out _ I6.out.bel).mono ?_); (rintro e w6 ⟨ge0, Me0, rfl, hd, ho, hb⟩; have I7 := Lib.hid (I6.out.pushRows hb ho); have HDe0 := Lib.hid hd; have HB_1 := Lib.hid (HB_0.out.trans (hb.mono HB_0.out.size)); clear ho hb hd))
        | (go_at_call 12; (with_reducible refine (eqPoly_any q0 _ _ n0 n0 n0 n0 _ _ _ (by rw [Hn0.out, (dat_xs HDx0.out).1]) (by rw [Hn0.out, (dat_xs HDe0.out).1]) (by omega) (by intro i hi; rw [(dat_xs HDx0.out).2 i]; exact Nat.le_trans (HLL0.out i (by rw [← (dat_xs HDx0.out).1]; exact hi)) (by omega)) (HDe0.out.trans HDx0.out.symm) ((I7.out.rows 2 rfl).rd (by rw [Hn0.out, (dat_xs HDx0.out).1])) ((I7.out.rows 0 rfl).rd (by rw [Hn0.out, (dat_xs HDe0.out).1]))).mono ?_); (rintro e w7 ⟨rfl, hb⟩; have I8 := Lib.hid (I7.out.step hb); have HB_2 := Lib.hid (HB_1.out.trans (hb.mono HB_1.out.size)); clear hb)))
  clear HB_0 HB_1 HB_2 KS
  obtain ⟨u_a0_8, v_a0_8, x_a0_8, y_a0_8, z_a0_8⟩ := blk2cells (I8.out.box 4 rfl)
  obtain ⟨u_b0_8, v_b0_8, x_b0_8, y_b0_8, z_b0_8⟩ := blk2cells (I8.out.box 1 rfl)
  go_wp2_with fail
  go_ret
  exact ⟨rfl, I8.out.bel⟩
end Go.Proofs.Ytnffpjdlpjkioaa
