/- the program's mapsOf (written by mkyg.py and region.py) -/
import Derived.Test.YtdkmdmpaflgfaaaGreatDoorBxar
set_option linter.all false
namespace Go.Proofs.YtdkmdmpaflgfaaaGreatDoor
open Go.RowKit

/-- what mapsOf leaves -/
def MapsOutI (B : Nat) (xs : List Int) (Q : List (List Int)) (ys : List Int) (R : List (List Int)) (e : Ending) (w' : World) : Prop :=
  (¬ (modB xs Q = true ∧ modB ys R = true) ∧ e = .returned (.tuple #[.agg #[.slice none 0 0, .slice none 0 0], .int .i64 1])) ∨
  ((modB xs Q = true ∧ modB ys R = true) ∧ ¬ (unk xs ys).length ≤ 60 ∧ e = .returned (.tuple #[.agg #[.slice none 0 0, .slice none 0 0], .int .i64 3])) ∨
  ((modB xs Q = true ∧ modB ys R = true) ∧ (unk xs ys).length ≤ 60 ∧ ∃ A1 c1 N A2 c2, e = .returned (.tuple #[.agg #[.slice A1 N.length c1, .slice A2 (mapsL xs Q ys R).length c2], .int .i64 0]) ∧ dat N = (unk xs ys).map pairI ∧ OwnQ w' B (.slice A1 N.length c1) N ∧ w'.ownsRow B 2 1 (.slice A2 (mapsL xs Q ys R).length c2) (mapsL xs Q ys R).length (nv (mapsL xs Q ys R)))
/-- both tables and the span's box are there -/
def TabsGot (w : World) (A : Option Addr) (n c : Nat) (Q : List (List Int)) (B : Option Addr) (p d : Nat) (R : List (List Int)) (o1 o2 o3 : Value) (wx : World) : Prop :=
  ∃ g1 g2 bs, o1 = .pointer (some ⟨g1, 0, none⟩) ∧ o2 = .pointer (some ⟨g2, 0, none⟩) ∧ o3 = .pointer (some ⟨bs, 0, none⟩) ∧ TblAt wx g1 A n c Q ∧ TblAt wx g2 B p d R ∧ SpanAt wx w.heap.size bs (.slice none 0 0) (.slice none 0 0) [] ∧ Below w.heap.size w wx
theorem TblAt.alloc {w : World} {g n c : Nat} {A : Option Addr} {Q : List (List Int)} (h : TblAt w g A n c Q) (o : Obj) : TblAt (w.alloc o) g A n c Q := h.below ((Below.refl _ _).alloc (Nat.le_refl _) o)
theorem TabsGot.last {w w2 : World} {A : Option Addr} {n c : Nat} {Q : List (List Int)} {B : Option Addr} {p d : Nat} {R : List (List Int)} {g1 g2 : Nat} (h1 : TblAt w2 g1 A n c Q) (h2 : TblAt w2 g2 B p d R) (hb : Below w.heap.size w w2) :
    TabsGot w A n c Q B p d R (.pointer (some ⟨g1, 0, none⟩)) (.pointer (some ⟨g2, 0, none⟩)) (.pointer (some ⟨w2.heap.size, 0, none⟩)) (w2.alloc (.cells #[.slice none 0 0, .slice none 0 0] 97)) :=
  ⟨_, _, _, rfl, rfl, rfl, h1.alloc _, h2.alloc _, ⟨blk_new _ _, hb.size, World.ownsRow_nil _ _ _ _, World.ownsRow_nil _ _ _ _, .inl rfl⟩, hb.alloc hb.size _⟩
theorem TabsGot.early {w w2 : World} {A : Option Addr} {n c : Nat} {Q : List (List Int)} {B : Option Addr} {p d : Nat} {R : List (List Int)} {g1 g2 bs : Nat} (h1 : TblAt w2 g1 A n c Q) (h2 : TblAt w2 g2 B p d R) (hb : Below w.heap.size w w2)
    (hz : w2.heap[bs]? = some (.cells #[.slice none 0 0, .slice none 0 0] 97 (0, 0))) (hg : w.heap.size ≤ bs) :
    TabsGot w A n c Q B p d R (.pointer (some ⟨g1, 0, none⟩)) (.pointer (some ⟨g2, 0, none⟩)) (.pointer (some ⟨bs, 0, none⟩)) w2 :=
  ⟨_, _, _, rfl, rfl, rfl, h1, h2, ⟨hz, hg, World.ownsRow_nil _ _ _ _, World.ownsRow_nil _ _ _ _, .inl rfl⟩, hb⟩

attribute [local go_sem] i64_bit_test in
set_option maxRecDepth 100000 in
set_option maxHeartbeats 32000000 in
theorem mapsOf_any (A A' B B' : Option Addr) (n c m c' p d q d' : Nat) (xs ys : List Int) (L M : List Row) (w : World) (hT : Tab w) (hw : 0 < w.heap.size) (hM : ModIn w A n A' m xs L) (hN : ModIn w B p B' q ys M) :
    Calls Tryz.prog 49 #[.agg #[.slice A n c, .slice A' m c'], .agg #[.slice B p d, .slice B' q d']] w fun e w' => MapsOutI w.heap.size xs (dat L) ys (dat M) e w' ∧ Below w.heap.size w w' := by
  obtain ⟨hb0, hk1, hk2⟩ := box_two w A A' B B' n c m c' p d q d'
  have hk1' := blk_alloc hk1 (.cells #[.slice none 0 0, .slice none 0 0] 65)
  have hk2' := blk_alloc hk2 (.cells #[.slice none 0 0, .slice none 0 0] 65)
  have hk3 := blk_new2 w (.cells #[.slice A n c, .slice A' m c'] 30) (.cells #[.slice B p d, .slice B' q d'] 30) (.cells #[.slice none 0 0, .slice none 0 0] 65)
  have hb0' := hb0.alloc (by simp; omega) (.cells #[.slice none 0 0, .slice none 0 0] 65)
  have HB0 := Lib.hid hb0'
  have HK1 := Lib.hid hk1'
  have HK2 := Lib.hid hk2'
  have HK3 := Lib.hid hk3
  have HIM := Lib.hid (hM.isM c c')
  have HIN := Lib.hid (hN.isM d d')
  have HM := Lib.hid hM
  have HN := Lib.hid hN
  have HT := Lib.hid hT
  clear hb0 hk1 hk2 hk1' hk2' hk3 hb0' hM hN hT
  obtain ⟨x0, x1, xf0, xf1, lx⟩ := blk2cells HK1.out
  go_enter Tryz.func49, Tryz.ntmps49
  go_wp2_with fail
  refine (HIM.out _ HB0.out).mono ?_
  rintro e w1 ⟨rfl, hb⟩
  have HB1 := Lib.hid (HB0.out.trans (hb.mono HB0.out.size))
  have HK1a := Lib.hid (blk_kept HK1.out hb)
  have HK2a := Lib.hid (blk_kept HK2.out hb)
  have HK3a := Lib.hid (blk_kept HK3.out hb)
  clear hb x0 x1 xf0 xf1 lx
  cases h1 : modB xs (dat L)
  · have HNO : Hid (¬ (modB xs (dat L) = true ∧ modB ys (dat M) = true)) := Lib.hid (by rw [h1]; simp)
    clear h1
    obtain ⟨z0, z1, zf0, zf1, lz⟩ := blk2cells HK3a.out
    go_wp2_with fail
    (try simp only [Exit.inBlock, Exit.then])
    refine ret_maps rfl rfl rfl (stored2 HK3a.out) ?_
    exact ⟨.inl ⟨HNO.out, rfl⟩, below_set2 HB1.out (by omega) _ _⟩
  obtain ⟨y0, y1, yf0, yf1, ly⟩ := blk2cells HK2a.out
  go_wp2_with fail
  refine (HIN.out _ HB1.out).mono ?_
  rintro e w2 ⟨rfl, hb⟩
  have HB2 := Lib.hid (HB1.out.trans (hb.mono HB1.out.size))
  have HK1b := Lib.hid (blk_kept HK1a.out hb)
  have HK2b := Lib.hid (blk_kept HK2a.out hb)
  have HK3b := Lib.hid (blk_kept HK3a.out hb)
  clear hb y0 y1 yf0 yf1 ly
  cases h2 : modB ys (dat M)
  · have HNO : Hid (¬ (modB xs (dat L) = true ∧ modB ys (dat M) = true)) := Lib.hid (by rw [h2]; simp)
    clear h1 h2
    obtain ⟨z0, z1, zf0, zf1, lz⟩ := blk2cells HK3b.out
    go_wp2_with fail
    (try simp only [Exit.inBlock, Exit.then])
    refine ret_maps rfl rfl rfl (stored2 HK3b.out) ?_
    exact ⟨.inl ⟨HNO.out, rfl⟩, below_set2 HB2.out (by omega) _ _⟩
  have HYES : Hid (modB xs (dat L) = true ∧ modB ys (dat M) = true) := Lib.hid ⟨h1, h2⟩
  have s1 := (modB_iff.1 h1).shp
  have s2 := (modB_iff.1 h2).shp
  have hn16 : n ≤ 16 := by rw [HM.out.r.hn]; exact s1.len
  have hp16 : p ≤ 16 := by rw [HN.out.r.hn]; exact s2.len
  have HS1 := Lib.hid s1
  have HS2 := Lib.hid s2
  have l1 := (blk2cells HK1b.out).2.2.2.2
  have l2 := (blk2cells HK2b.out).2.2.2.2
  have l3 := (blk2cells HK3b.out).2.2.2.2
  clear h1 h2 s1 s2
  have HK1c := Lib.hid (blk_alloc HK1b.out (.cells #[.slice none 0 0, .slice none 0 0] 65))
  have HK2c := Lib.hid (blk_alloc HK2b.out (.cells #[.slice none 0 0, .slice none 0 0] 65))
  have HK3c := Lib.hid (blk_alloc HK3b.out (.cells #[.slice none 0 0, .slice none 0 0] 65))
  have HK6 := Lib.hid (blk_new w2 (.cells #[.slice none 0 0, .slice none 0 0] 65))
  have HB6 := Lib.hid (HB2.out.alloc HB2.out.size (.cells #[.slice none 0 0, .slice none 0 0] 65))
  obtain ⟨x0, x1, xf0, xf1, lx⟩ := blk2cells HK1b.out
  go_wp2_with fail
  generalize w2.alloc (.cells #[.slice none 0 0, .slice none 0 0] 65) = w6 at *
  generalize w2.heap.size = b6 at *
  have l6 := (blk2cells HK6.out).2.2.2.2
  have hs6 := HB6.out.size
  clear x0 x1 xf0 xf1 lx HK1 HK2 HK3 HK1a HK2a HK3a HK1b HK2b HK3b HIM HIN HB0 HB1 HB2
  have HR1 := Lib.hid HM.out.r.deg
  have HR2 := Lib.hid HN.out.r.deg
  have Hn := Lib.hid HM.out.r.hn
  have Hp := Lib.hid HN.out.r.hn
  go_loopw [33] (fun ii wr => ∃ (j : Nat) (N : List Row) (A1 : Option Addr) (c1 : Nat), j ≤ n ∧ ii = .int .i64 j ∧ Hid (dat N = (unkI xs ys j).map pairI) ∧ OwnQ wr b6 (.slice A1 N.length c1) N ∧ wr.heap[b6]? = some (.cells #[.slice A1 N.length c1, .slice none 0 0] 65 (0, 0)) ∧ Below b6 w6 wr) (fun ii _ => n - (intOf ii).toNat)
  case atStart => exact ⟨0, [], none, 0, by omega, rfl, Lib.hid rfl, OwnQ.nil _ _, HK6.out, Below.refl _ _⟩
  case round =>
    obtain ⟨j, N, A1, c1, hj, rfl, HD, hown, hk6, hbel⟩ := hrel
    have HO := Lib.hid hown
    have HB := Lib.hid hbel
    have HK6r := Lib.hid hk6
    have hsz := hbel.size
    obtain ⟨y0, y1, yf0, yf1, ly⟩ := blk2cells (blk_below HK2c.out hbel (by omega))
    by_cases hlt : j < n
    · have hjx : j < xs.length := by rw [← Hn.out]; exact hlt
      obtain ⟨b1, o1, rfl, hc1⟩ := (HR1.out.below (HB6.out.trans (hbel.mono (by omega)))).atI (k := j) hjx
      have HX : Hid (xs.getD j 0 = xs.getD j 0) := Lib.hid rfl
      have HUC : Hid (∀ k, unkC xs ys j (k + 1) = unkC xs ys j k ++ if xs.getD j 0 = ys.getD k 0 then [(j, k)] else []) := Lib.hid (fun k => unkC_succ xs ys j k)
      generalize xs.getD j 0 = x at *
      clear hown hbel hk6 HX
      go_wp2_with fail
      clear y0 y1 yf0 yf1 ly hc1
      go_loopw [41] (fun ii wr => ∃ (k : Nat) (N : List Row) (A1 : Option Addr) (c1 : Nat), k ≤ p ∧ ii = .int .i64 k ∧ Hid (dat N = (unkI xs ys j ++ unkC xs ys j k).map pairI) ∧ OwnQ wr b6 (.slice A1 N.length c1) N ∧ wr.heap[b6]? = some (.cells #[.slice A1 N.length c1, .slice none 0 0] 65 (0, 0)) ∧ Below b6 w6 wr) (fun ii _ => p - (intOf ii).toNat)
      case atStart => exact ⟨0, N, A1, c1, by omega, rfl, Lib.hid (by rw [HD.out]; simp [unkC]), HO.out, HK6r.out, HB.out⟩
      case round =>
        obtain ⟨k, N, A1, c1, hk, rfl, HD, hown, hk6, hbel⟩ := hrel
        have HO := Lib.hid hown
        have HB := Lib.hid hbel
        have HK6r := Lib.hid hk6
        have hsz := hbel.size
        obtain ⟨z0, z1, zf0, zf1, lz⟩ := blk2cells hk6
        by_cases hkp : k < p
        · have hky : k < ys.length := by rw [← Hp.out]; exact hkp
          obtain ⟨b2, o2, rfl, hc2⟩ := (HR2.out.below (HB6.out.trans (hbel.mono (by omega)))).atI (k := k) hky
          have hU := HUC.out k
          have hRl : N.length ≤ 512 := by
            have h1 := congrArg List.length HD.out
            rw [dat_length, List.length_map, List.length_append] at h1
            have h2 := unkI_len xs ys j
            have h3 : (unkC xs ys j k).length ≤ k := by unfold unkC; rw [List.length_map]; exact Nat.le_trans (List.length_filter_le _ _) (by simp)
            have h4 : j * ys.length ≤ 16 * 16 := Nat.mul_le_mul (by omega) (by rw [← Hp.out]; omega)
            omega
          have hq : N.length < 1099511627776 := by omega
          by_cases he : x = ys.getD k 0
          · rw [if_pos he] at hU
            have HU := Lib.hid hU
            have heb : (x == ys.getD k 0) = true := by simpa using he
            generalize ys.getD k 0 = y at *
            have HB1 := Lib.hid ((Below.refl wr.heap.size wr).alloc (Nat.le_refl _) (.cells #[.int .i64 (j : Int), .int .i64 (k : Int)] 3))
            have HN2 := Lib.hid (own_twoQ wr wr.heap.size (Nat.le_refl _) (j : Int) (k : Int))
            have HOL := Lib.hid (HO.out.later HB1.out)
            clear hown hbel hk6 hU he hRl
            go_wp2_with (at_builtin; refine wpList_app1 _ _ _ _ _ etQ (by rfl) (by rfl) b6 (.slice A1 N.length c1) N.length (hv N) (by rfl) (HOL.out.out.alloc _) _ (.slice (some ⟨wr.heap.size, 0, none⟩) 2 2) (by rfl) (new_cell1 wr _ _ _) (by rfl) hq (Nat.le_trans (Nat.le_trans (Nat.le_of_lt lz) HB1.out.size) (Nat.le_of_lt (by simp))) ?_; (intro g2 c2 w3 hown3 hg3 hat3 hlt3; have HNN := Lib.hid (OwnQ.push HO.out HB1.out HN2.out rfl (Nat.le_of_lt lz) hown3 hg3); have HB3 := Lib.hid (below_app2 (HB.out.trans (HB1.out.mono (Nat.le_of_lt lz))) (Nat.le_trans (Nat.le_of_lt lz) HB1.out.size) HOL.out.out hg3); have HK3 := Lib.hid (blk_grown (blk_alloc (blk_alloc HK6r.out _) _) hg3 (own_ne_blk HOL.out.out (blk_alloc HK6r.out _) (by decide))); clear hown3 hg3 hat3 hlt3 z0 z1 zf0 zf1; obtain ⟨z0, z1, zf0, zf1, lz3⟩ := blk2cells HK3.out))
            go_roundw
            case rel =>
              refine ⟨k + 1, N ++ [⟨some ⟨wr.heap.size, 0, none⟩, 2, [(j : Int), (k : Int)]⟩], some ⟨g2, 0, none⟩, c2, by omega, by go_num, Lib.hid ?_, by simpa using HNN.out.setBox HK3.out (by decide) (by decide) _, by simpa using blk2set0' HK3.out _, HB3.out.setCell (p := ⟨b6, 0, none⟩) (Nat.le_refl _) _⟩
              rw [dat_append1, HD.out, HU.out, ← List.append_assoc, List.map_append (l₁ := unkI xs ys j ++ unkC xs ys j k)]; rfl
            case measure => simp [intOf]; omega
          · rw [if_neg he, List.append_nil] at hU
            have HD' : Hid (dat N = (unkI xs ys j ++ unkC xs ys j (k + 1)).map pairI) := Lib.hid (by rw [hU]; exact HD.out)
            have heb : (x == ys.getD k 0) = false := by simpa using he
            generalize ys.getD k 0 = y at *
            clear hown hbel hk6 hU he hRl
            go_wp2_with fail
            go_roundw
            case rel => exact ⟨k + 1, N, A1, c1, by omega, by go_num, HD', HO.out, HK6r.out, HB.out⟩
            case measure => simp [intOf]; omega
        · obtain rfl : k = p := by omega
          have HD' : Hid (dat N = (unkI xs ys (j + 1)).map pairI) := Lib.hid (by rw [HD.out, Hp.out]; rfl)
          clear hown hbel hk6
          go_wp2_with fail
          go_roundw
          case rel => exact ⟨j + 1, N, A1, c1, by omega, by go_num, HD', HO.out, HK6r.out, HB.out⟩
          case measure => simp [intOf]; omega
    · obtain rfl : n = j := by omega
      have HD' : Hid (dat N = (unk xs ys).map pairI) := Lib.hid (by rw [HD.out]; unfold unk; rw [Hn.out])
      have hNl : N.length = (unk xs ys).length := by have := congrArg List.length HD'.out; rwa [dat_length, List.length_map] at this
      obtain ⟨w7, hw7⟩ : ∃ w7, w7 = wr := ⟨_, rfl⟩
      subst hw7
      clear y0 y1 yf0 yf1 ly HD HR1 HR2
      obtain ⟨z0, z1, zf0, zf1, lz⟩ := blk2cells hk6
      have HB7 := Lib.hid (HB6.out.trans (hbel.mono (by omega)))
      have HK1d := Lib.hid (blk_below HK1c.out hbel (by omega))
      have HK2d := Lib.hid (blk_below HK2c.out hbel (by omega))
      have HK3d := Lib.hid (blk_below HK3c.out hbel (by omega))
      have hs7 := HB7.out.size
      have HOB := Lib.hid (HO.out.mono (B' := w.heap.size) (by omega))
      clear hown hbel hk6 HO HB hsz HK1c HK2c HK3c
      by_cases h60 : N.length ≤ 60
      · have h60i : ¬ (60 < (N.length : Int)) := by omega
        have HNL := Lib.hid hNl
        have HUN : Hid ((unk xs ys).length ≤ 60) := Lib.hid (by omega)
        clear hNl
        have HT1 := Lib.hid (HM.out.r.table HS1.out c c')
        have HT2 := Lib.hid (HN.out.r.table HS2.out d d')
        have KS := Lib.hid (fun w' (hb : Below w7.heap.size w7 w') => show w'.cell? ⟨w.heap.size, 0, none⟩ = some (.slice A n c) ∧ w'.cell? ⟨w.heap.size, 1, none⟩ = some (.slice A' m c') ∧ w'.cell? ⟨w.heap.size + 1, 0, none⟩ = some (.slice B p d) ∧ w'.cell? ⟨w.heap.size + 1, 1, none⟩ = some (.slice B' q d') from by
          obtain ⟨x0, x1, _⟩ := blk2cells (blk_kept HK1d.out hb)
          obtain ⟨y0, y1, _⟩ := blk2cells (blk_kept HK2d.out hb)
          exact ⟨x0, x1, y0, y1⟩)
        go_wp2_with fail
        clear z0 z1 zf0 zf1 lz
        go_cut [11, 12, 13] (fun o1 o2 o3 wx => TabsGot w7 A n c (dat L) B p d (dat M) o1 o2 o3 wx)
        case first =>
          have HB0 := Lib.hid ((Below.refl w7.heap.size w7).drew)
          have HBz : Hid (Below w7.heap.size w7 (w7.alloc (.cells #[.slice none 0 0, .slice none 0 0] 97)).drew) := Lib.hid (((Below.refl _ _).alloc (Nat.le_refl _) _).drew)
          go_region_held3 (fun w' => w'.cell? ⟨w.heap.size, 0, none⟩ = some (.slice A n c) ∧ w'.cell? ⟨w.heap.size, 1, none⟩ = some (.slice A' m c') ∧ w'.cell? ⟨w.heap.size + 1, 0, none⟩ = some (.slice B p d) ∧ w'.cell? ⟨w.heap.size + 1, 1, none⟩ = some (.slice B' q d'))
            (first | exact KS.out _ (Below.drew (Below.refl _ _)) | exact KS.out _ HBz.out | exact KS.out _ HB1.out | exact KS.out _ (HB1.out.alloc HB1.out.size _) | exact KS.out _ HB2.out | exact KS.out _ (HB2.out.alloc HB2.out.size _))
            (first
              | (go_at_call 81; (with_reducible refine (HT1.out _ (by first | exact HB7.out.trans (HB0.out.mono hs7) | exact HB7.out.trans (HBz.out.mono hs7))).mono ?_); (rintro e x1 ⟨g1, rfl, ht, hb⟩; have HG1 := Lib.hid ht; have HB1 : Hid (Below w7.heap.size w7 x1) := Lib.hid (by first | exact HB0.out.trans (hb.mono HB0.out.size) | exact HBz.out.trans (hb.mono HBz.out.size)); (try (have HZB := Lib.hid (blk_kept (w := (w7.alloc (.cells #[.slice none 0 0, .slice none 0 0] 97)).drew) (blk_new w7 (.cells #[.slice none 0 0, .slice none 0 0] 97)) hb); have hzg : w7.heap.size ≤ w7.heap.size := Nat.le_refl _)); clear ht hb))
              | (go_at_call 81; (with_reducible refine (HT2.out _ (by first | exact HB7.out.trans (HB1.out.mono hs7) | exact HB7.out.trans ((HB1.out.alloc HB1.out.size _).mono hs7))).mono ?_); (rintro e x2 ⟨g2, rfl, ht, hb⟩; have HG2 := Lib.hid ht; have HB2 : Hid (Below w7.heap.size w7 x2) := Lib.hid (by first | exact HB1.out.trans (hb.mono HB1.out.size) | exact (HB1.out.alloc HB1.out.size _).trans (hb.mono (by have := HB1.out.size; simp; first | omega | exact this))); have HG1b : Hid (TblAt x2 g1 A n c (dat L)) := Lib.hid (by first | exact HG1.out.below hb | exact (HG1.out.alloc _).below hb); (try (have HZB2 := Lib.hid (blk_kept HZB.out hb))); (try (have HZB2 := Lib.hid (blk_kept (blk_new x1 (.cells #[.slice none 0 0, .slice none 0 0] 97)) hb); have hzg : w7.heap.size ≤ x1.heap.size := HB1.out.size)); clear ht hb)))
          all_goals go_wp2_with fail
          all_goals go_meet
          all_goals (first | exact TabsGot.last HG1b.out HG2.out HB2.out | exact TabsGot.early HG1b.out HG2.out HB2.out HZB2.out hzg)
        case rest =>
        obtain ⟨g1, g2, bs, rfl, rfl, rfl, ht1, ht2, hsp, hbx⟩ := hcut
        have HKA1 := Lib.hid (blk_kept HK1d.out hbx)
        have HKA2 := Lib.hid (blk_kept HK2d.out hbx)
        have HKA3 := Lib.hid (blk_kept HK3d.out hbx)
        have HKA6 := Lib.hid (blk_kept HK6r.out hbx)
        have lb6 := (blk2cells HK6r.out).2.2.2.2
        have HTW := Lib.hid (HT.out.below (HB7.out.trans (hbx.mono hs7)) hw)
        have HOBW : Hid (∀ W, Below w7.heap.size w7 W → OwnQ W w.heap.size (.slice A1 N.length c1) N) := Lib.hid (fun W hW => HOB.out.later hW)
        have HRNB : Hid (∀ W, Below w7.heap.size w7 W → RdR W A1 N) := Lib.hid (fun W hW => (HOB.out.later hW).rd rfl)
        have HTB1 := Lib.hid ht1
        have HTB2 := Lib.hid ht2
        have HBX := Lib.hid hbx
        have HSI0 := Lib.hid (SpanIn.new hsp)
        have hxs := hbx.size
        have HOUT : Hid (∀ (A2 : Option Addr) (c2 : Nat) (w' : World), OwnQ w' w.heap.size (.slice A1 N.length c1) N → w'.ownsRow w.heap.size 2 1 (.slice A2 (mapsL xs (dat L) ys (dat M)).length c2) (mapsL xs (dat L) ys (dat M)).length (nv (mapsL xs (dat L) ys (dat M))) → MapsOutI w.heap.size xs (dat L) ys (dat M) (.returned (.tuple #[.agg #[.slice A1 N.length c1, .slice A2 (mapsL xs (dat L) ys (dat M)).length c2], .int .i64 0])) w') :=
          Lib.hid (fun A2 c2 w' ha hb => .inr (.inr ⟨HYES.out, HUN.out, A1, c1, N, A2, c2, rfl, HD'.out, ha, hb⟩))
        have HMK : Hid (kerR (trL (reduceS (eqIJ (unk xs ys) (dat L) (dat M) n p 20)) (unk xs ys).length) = mapsL xs (dat L) ys (dat M)) := Lib.hid (by rw [Hn.out, Hp.out]; exact mapsL_ker HUN.out)
        have HPM : Hid (∀ u, u < N.length → (rg N u).xs = pairI ((unk xs ys).getD u (0, 0)) ∧ ((unk xs ys).getD u (0, 0)).1 < n ∧ ((unk xs ys).getD u (0, 0)).2 < p) := by
          show ∀ u, u < N.length → _
          intro u hu
          have hu' : u < (unk xs ys).length := by rw [← HNL.out]; exact hu
          have hm : (unk xs ys).getD u (0, 0) ∈ unkI xs ys xs.length := by
            show _ ∈ unk xs ys
            simp [List.getD, hu']
          have h2 := unkI_mem hm
          refine ⟨?_, by rw [Hn.out]; exact h2.1, by rw [Hp.out]; exact h2.2.1⟩
          rw [← dat_getD, HD'.out]
          simp [List.getD, hu']
        have HSA : Hid (∀ (z : Int) (v : Nat), v < 2 ^ n → Sm (act (dat L) z v)) := Lib.hid (fun z v hv => HS1.out.sm (act_lt HS1.out (by rw [← Hn.out]; exact hv) z))
        have HSB : Hid (∀ (z : Int) (v : Nat), v < 2 ^ p → Sm (act (dat M) z v)) := Lib.hid (fun z v hv => HS2.out.sm (act_lt HS2.out (by rw [← Hp.out]; exact hv) z))
        have HQ1 : Hid (∀ (W : World), TblAt W g1 A n c (dat L) → ∀ {j i : Nat}, j < 21 → i < n → ∃ h, W.cell? ⟨g1, 1 + j, none⟩ = some (.slice (some ⟨h, 0, none⟩) n n) ∧ W.cell? ⟨h, i, none⟩ = some (.int .i64 (act (dat L) (j : Int) (2 ^ i) : Nat))) := Lib.hid (fun W h _ _ hj hi => h.sq HS1.out hj hi)
        have HQ2 : Hid (∀ (W : World), TblAt W g2 B p d (dat M) → ∀ {j i : Nat}, j < 21 → i < p → ∃ h, W.cell? ⟨g2, 1 + j, none⟩ = some (.slice (some ⟨h, 0, none⟩) p p) ∧ W.cell? ⟨h, i, none⟩ = some (.int .i64 (act (dat M) (j : Int) (2 ^ i) : Nat))) := Lib.hid (fun W h _ _ hj hi => h.sq HS2.out hj hi)
        have HSB0 := Lib.hid hsp.blk
        clear ht1 ht2 hsp hbx HYES HUN HD' HS1 HS2 HM HN KS HT1 HT2 HK1d HK2d HK3d HK6r HT HK6
        generalize mapsL xs (dat L) ys (dat M) = K at *
        generalize hPe : unk xs ys = P at *
        generalize hQe : dat L = Q at *
        generalize hRe : dat M = R at *
        have HQE := Lib.hid hQe
        have HRE := Lib.hid hRe
        clear hQe hRe
        have hPN : P.length = N.length := HNL.out.symm
        clear hPe
        have HGD : Hid (∀ j i cc, Good (spanL (zs (eqT P Q R n p j i cc)))) := Lib.hid (fun j i cc => eqT_good (by omega) j i cc)
        have HRS : Hid (∀ i j cc, Sm (eqR P Q R i j cc)) := Lib.hid (fun i j cc => sm_of_lt (a := P.length) (by omega) (eqR_lt i j cc))
        have HMS : Hid (∀ i j cc u, u ≤ N.length → Sm (eqM P Q R i j cc u)) := Lib.hid (fun i j cc u hu => sm_of_lt (a := u) (by omega) (eqM_lt P Q R i j cc u))
        have HPN := Lib.hid hPN
        clear hPN
        go_wp2_with fail
        go_loopw [14] (fun s14 wr => ∃ j : Nat, 1 ≤ j ∧ j ≤ 21 ∧ s14 = .int .i64 j ∧ SpanIn wc wr w7.heap.size bs (spanL (zs (eqT P Q R n p j 0 0)))) (fun s _ => 21 - (intOf s).toNat)
        case atStart => exact ⟨1, by omega, by omega, rfl, HSI0.out⟩
        case round =>
          obtain ⟨j, hj1, hj2, rfl, hsi⟩ := hrel
          have HSI := Lib.hid hsi
          have HBL := Lib.hid (hsi.below hxs)
          by_cases hj20 : j ≤ 20
          · have hj20i : (j : Int) ≤ 20 := by omega
            have hj21i : (j : Int) < 21 := by omega
            obtain ⟨x0, x1, xf0, xf1, lx⟩ := blk2cells (blk_below HKA1.out HBL.out (by omega))
            clear hsi
            go_wp2_with fail
            clear x0 x1 xf0 xf1 lx
            go_loopw [77] (fun s77 wr => ∃ i : Nat, i ≤ n ∧ s77 = .int .i64 i ∧ SpanIn wc wr w7.heap.size bs (spanL (zs (eqT P Q R n p j i 0)))) (fun s _ => n - (intOf s).toNat)
            case atStart => exact ⟨0, by omega, rfl, HSI.out⟩
            case round =>
              obtain ⟨i, hi, rfl, hsi⟩ := hrel
              have HSI := Lib.hid hsi
              have HBL := Lib.hid (hsi.below hxs)
              by_cases hin : i < n
              · have hini : (i : Int) < (n : Int) := by omega
                obtain ⟨x0, x1, xf0, xf1, lx⟩ := blk2cells (blk_below HKA2.out HBL.out (by omega))
                clear hsi
                go_wp2_with fail
                clear x0 x1 xf0 xf1 lx
                go_loopw [83] (fun s83 wr => ∃ cc : Nat, cc ≤ p ∧ s83 = .int .i64 cc ∧ SpanIn wc wr w7.heap.size bs (spanL (zs (eqT P Q R n p j i cc)))) (fun s _ => p - (intOf s).toNat)
                case atStart => exact ⟨0, by omega, rfl, HSI.out⟩
                case round =>
                  obtain ⟨cc, hcc, rfl, hsi⟩ := hrel
                  have HSI := Lib.hid hsi
                  have HBL := Lib.hid (hsi.below hxs)
                  obtain ⟨w9, hw9⟩ : ∃ w9, w9 = wr := ⟨_, rfl⟩
                  subst hw9
                  by_cases hccp : cc < p
                  · have hccpi : (cc : Int) < (p : Int) := by omega
                    have HT1 := Lib.hid (HTB1.out.keepsB HSB0.out hsi.kp)
                    have HT2 := Lib.hid (HTB2.out.keepsB HSB0.out hsi.kp)
                    have HRW := Lib.hid (HRNB.out w9 (HBX.out.trans HBL.out))
                    obtain ⟨x0, x1, xf0, xf1, lx⟩ := blk2cells (blk_below HKA6.out HBL.out (by omega))
                    clear hsi
                    go_wp2_with fail
                    clear x0 x1 xf0 xf1 lx
                    go_loopw [17, 89] (fun s17 s89 wr => ∃ u : Nat, u ≤ N.length ∧ s17 = .int .i64 (eqM P Q R i j cc u : Nat) ∧ s89 = .int .i64 u ∧ ∃ m, w9.drewN m = wr) (fun _ s _ => N.length - (intOf s).toNat)
                    case atStart => exact ⟨0, by omega, rfl, rfl, 0, rfl⟩
                    case round =>
                      obtain ⟨u, hu, rfl, rfl, m, hm⟩ := hrel
                      by_cases huN : u < N.length
                      · obtain ⟨hrow, ho1, ho2⟩ := HPM.out u huN
                        obtain ⟨h1, q1, q2⟩ := HQ1.out w9 HT1.out (j := j) (i := i) (by omega) hin
                        obtain ⟨h2, q3, q4⟩ := HQ2.out w9 HT2.out (j := j) (i := (P.getD u (0, 0)).2) (by omega) ho2
                        obtain ⟨b, o, rfl, hcell⟩ := HRW.out.at_ huN
                        have hin2 := HRW.out.inn u huN
                        rw [hrow] at hin2 hcell
                        have hlen2 : (pairI (P.getD u (0, 0))).length = 2 := rfl
                        rw [hlen2] at hcell
                        obtain ⟨br, ob, hAr, hc0⟩ := hin2.atI (k := 0) (by rw [hlen2]; omega)
                        rw [hAr] at hcell hin2
                        have hc1 := hin2.cellI (k := 1) (by rw [hlen2]; omega)
                        rw [Nat.add_zero] at hc0
                        have hp0 : (pairI (P.getD u (0, 0))).getD 0 0 = (((P.getD u (0, 0)).1 : Nat) : Int) := rfl
                        have hp1 : (pairI (P.getD u (0, 0))).getD 1 0 = (((P.getD u (0, 0)).2 : Nat) : Int) := rfl
                        rw [hp0] at hc0
                        rw [hp1] at hc1
                        have HE := Lib.hid (eqM_next (P := P) (Q := Q) (R := R) i j cc u)
                        have hsr := HMS.out i j cc u (by omega)
                        have hsm1 := HSA.out (j : Int) (2 ^ i) (pow_lt_pow hin)
                        have hsm2 := HSB.out (j : Int) (2 ^ (P.getD u (0, 0)).2) (pow_lt_pow ho2)
                        generalize (P.getD u (0, 0)).1 = o1 at *
                        generalize (P.getD u (0, 0)).2 = o2 at *
                        generalize act Q (j : Int) (2 ^ i) = m1 at *
                        generalize act R (j : Int) (2 ^ o2) = m2 at *
                        generalize eqM P Q R i j cc u = r at *
                        replace q1 := cell_dn q1 hm
                        replace q2 := cell_dn q2 hm
                        replace q3 := cell_dn q3 hm
                        replace q4 := cell_dn q4 hm
                        replace hc0 := cell_dn hc0 hm
                        replace hc1 := cell_dn hc1 hm
                        replace hcell := cell_dn hcell hm
                        clear hrow hin2 hAr hp0 hp1
                        have hmo1 : min o1 64 = o1 := by omega
                        have hmu : min u 64 = u := by omega
                        have hmcc : min cc 64 = cc := by omega
                        obtain ⟨pu1, pu2⟩ := pow62 (d := u) (by omega)
                        have ho2i : (o2 : Int) < (p : Int) := by omega
                        cases hbm : tb m1 o1
                        · have HE1 : Hid (eqM P Q R i j cc (u + 1) = xr r (if o1 = i ∧ tb m2 cc = true then 2 ^ u else 0)) := Lib.hid (by rw [HE.out, hbm, if_neg (by simp), xr_zero])
                          have HSr := Lib.hid hsr
                          go_wp2_with fail
                          refine wp_region_held_drew (S := (fun w' => w'.cell? ⟨g1, 1 + j, none⟩ = some (.slice (some ⟨h1, 0, none⟩) n n) ∧ w'.cell? ⟨h1, i, none⟩ = some (.int .i64 (m1 : Nat)) ∧ w'.cell? ⟨br, ob, none⟩ = some (.int .i64 (o1 : Nat)) ∧ w'.cell? ⟨br, ob + 1, none⟩ = some (.int .i64 (o2 : Nat)))) (by kernel_rfl) (by exact ⟨q1, q2, hc0, hc1⟩) (fun hHeld => ?_)
                          refine wpAnyH_take (i := 0) (oi := ?or1_0) (v := ?vr1_0) ?hr1_0 (by kernel_rfl) (by kernel_rfl) (by kernel_rfl) ?qr1_0 (Or.inl ⟨?wr1_0, ?yr1_0⟩) (by assumption) ?rr1_0
                          case hr1_0 => (simp only [List.getElem?_toArray, List.getElem?_cons_succ, List.getElem?_cons_zero]; rfl)
                          case qr1_0 => exact fun _ _ _ h => h
                          case wr1_0 => rfl
                          case yr1_0 => (intro w hSw; (try dsimp only at hSw); go_simp <;> with_reducible rfl)
                          try simp only [Act.put, List.setIfInBounds_toArray, List.set_cons_zero, List.set_cons_succ]
                          refine wpAnyH_take (i := 1) (oi := ?or1_1) (v := ?vr1_1) ?hr1_1 (by kernel_rfl) (by kernel_rfl) (by kernel_rfl) ?qr1_1 (Or.inl ⟨?wr1_1, ?yr1_1⟩) (by assumption) ?rr1_1
                          case hr1_1 => (simp only [List.getElem?_toArray, List.getElem?_cons_succ, List.getElem?_cons_zero]; rfl)
                          case qr1_1 => exact fun _ _ _ h => h
                          case wr1_1 => rfl
                          case yr1_1 => (intro w hSw; (try dsimp only at hSw); go_simp <;> with_reducible rfl)
                          try simp only [Act.put, List.setIfInBounds_toArray, List.set_cons_zero, List.set_cons_succ]
                          refine wpAnyH_take (i := 2) (oi := ?or1_2) (v := ?vr1_2) ?hr1_2 (by kernel_rfl) (by kernel_rfl) (by kernel_rfl) ?qr1_2 (Or.inl ⟨?wr1_2, ?yr1_2⟩) (by assumption) ?rr1_2
                          case hr1_2 => (simp only [List.getElem?_toArray, List.getElem?_cons_succ, List.getElem?_cons_zero]; rfl)
                          case qr1_2 => exact fun _ _ _ h => h
                          case wr1_2 => rfl
                          case yr1_2 => (intro w hSw; (try dsimp only at hSw); go_simp <;> with_reducible rfl)
                          try simp only [Act.put, List.setIfInBounds_toArray, List.set_cons_zero, List.set_cons_succ]
                          refine wpAnyH_take (i := 3) (oi := ?or1_3) (v := ?vr1_3) ?hr1_3 (by kernel_rfl) (by kernel_rfl) (by kernel_rfl) ?qr1_3 (Or.inl ⟨?wr1_3, ?yr1_3⟩) (by assumption) ?rr1_3
                          case hr1_3 => (simp only [List.getElem?_toArray, List.getElem?_cons_succ, List.getElem?_cons_zero]; rfl)
                          case qr1_3 => exact fun _ _ _ h => h
                          case wr1_3 => rfl
                          case yr1_3 => (intro w hSw; (try dsimp only at hSw); go_simp <;> with_reducible rfl)
                          try simp only [Act.put, List.setIfInBounds_toArray, List.set_cons_zero, List.set_cons_succ]
                          refine wpAnyH_take (i := 4) (oi := ?or1_4) (v := ?vr1_4) ?hr1_4 (by kernel_rfl) (by kernel_rfl) (by kernel_rfl) ?qr1_4 (Or.inl ⟨?wr1_4, ?yr1_4⟩) (by assumption) ?rr1_4
                          case hr1_4 => (simp only [List.getElem?_toArray, List.getElem?_cons_succ, List.getElem?_cons_zero]; rfl)
                          case qr1_4 => exact fun _ _ _ h => h
                          case wr1_4 => rfl
                          case yr1_4 => (intro w hSw; (try dsimp only at hSw); go_simp <;> with_reducible rfl)
                          try simp only [Act.put, List.setIfInBounds_toArray, List.set_cons_zero, List.set_cons_succ]
                          refine wpAnyH_take (i := 5) (oi := ?or1_5) (v := ?vr1_5) ?hr1_5 (by kernel_rfl) (by kernel_rfl) (by kernel_rfl) ?qr1_5 (Or.inl ⟨?wr1_5, ?yr1_5⟩) (by assumption) ?rr1_5
                          case hr1_5 => (simp only [List.getElem?_toArray, List.getElem?_cons_succ, List.getElem?_cons_zero]; rfl)
                          case qr1_5 => exact fun _ _ _ h => h
                          case wr1_5 => rfl
                          case yr1_5 => (intro w hSw; (try dsimp only at hSw); go_simp <;> with_reducible rfl)
                          try simp only [Act.put, List.setIfInBounds_toArray, List.set_cons_zero, List.set_cons_succ]
                          refine wpAnyH_take (i := 6) (oi := ?or1_6) (v := ?vr1_6) ?hr1_6 (by kernel_rfl) (by kernel_rfl) (by kernel_rfl) ?qr1_6 (Or.inl ⟨?wr1_6, ?yr1_6⟩) (by assumption) ?rr1_6
                          case hr1_6 => (simp only [List.getElem?_toArray, List.getElem?_cons_succ, List.getElem?_cons_zero]; rfl)
                          case qr1_6 => exact fun _ _ _ h => h
                          case wr1_6 => rfl
                          case yr1_6 => (intro w hSw; (try dsimp only at hSw); go_simp <;> with_reducible rfl)
                          try simp only [Act.put, List.setIfInBounds_toArray, List.set_cons_zero, List.set_cons_succ]
                          refine wpAnyH_take (i := 7) (oi := ?or1_7) (v := ?vr1_7) ?hr1_7 (by kernel_rfl) (by kernel_rfl) (by kernel_rfl) ?qr1_7 (Or.inl ⟨?wr1_7, ?yr1_7⟩) (by assumption) ?rr1_7
                          case hr1_7 => (simp only [List.getElem?_toArray, List.getElem?_cons_succ, List.getElem?_cons_zero]; rfl)
                          case qr1_7 => exact fun _ _ _ h => h
                          case wr1_7 => rfl
                          case yr1_7 => (intro w hSw; (try dsimp only at hSw); go_simp <;> with_reducible rfl)
                          try simp only [Act.put, List.setIfInBounds_toArray, List.set_cons_zero, List.set_cons_succ]
                          refine wpAnyH_take (i := 8) (oi := ?or1_8) (v := ?vr1_8) ?hr1_8 (by kernel_rfl) (by kernel_rfl) (by kernel_rfl) ?qr1_8 (Or.inl ⟨?wr1_8, ?yr1_8⟩) (by assumption) ?rr1_8
                          case hr1_8 => (simp only [List.getElem?_toArray, List.getElem?_cons_succ, List.getElem?_cons_zero]; rfl)
                          case qr1_8 => exact fun _ _ _ h => h
                          case wr1_8 => rfl
                          case yr1_8 => (intro w hSw; (try dsimp only at hSw); go_simp <;> with_reducible rfl)
                          try simp only [Act.put, List.setIfInBounds_toArray, List.set_cons_zero, List.set_cons_succ]
                          refine wpAnyH_take (i := 9) (oi := ?or1_9) (v := ?vr1_9) ?hr1_9 (by kernel_rfl) (by kernel_rfl) (by kernel_rfl) ?qr1_9 (Or.inl ⟨?wr1_9, ?yr1_9⟩) (by assumption) ?rr1_9
                          case hr1_9 => (simp only [List.getElem?_toArray, List.getElem?_cons_succ, List.getElem?_cons_zero]; rfl)
                          case qr1_9 => exact fun _ _ _ h => h
                          case wr1_9 => rfl
                          case yr1_9 => (intro w hSw; (try dsimp only at hSw); go_simp <;> with_reducible rfl)
                          try simp only [Act.put, List.setIfInBounds_toArray, List.set_cons_zero, List.set_cons_succ]
                          refine wpAnyH_take (i := 10) (oi := ?or1_10) (v := ?vr1_10) ?hr1_10 (by kernel_rfl) (by kernel_rfl) (by kernel_rfl) ?qr1_10 (Or.inl ⟨?wr1_10, ?yr1_10⟩) (by assumption) ?rr1_10
                          case hr1_10 => (simp only [List.getElem?_toArray, List.getElem?_cons_succ, List.getElem?_cons_zero]; rfl)
                          case qr1_10 => exact fun _ _ _ h => h
                          case wr1_10 => rfl
                          case yr1_10 => (intro w hSw; (try dsimp only at hSw); go_simp <;> with_reducible rfl)
                          try simp only [Act.put, List.setIfInBounds_toArray, List.set_cons_zero, List.set_cons_succ]
                          refine wpAnyH_take (i := 11) (oi := ?or1_11) (v := ?vr1_11) ?hr1_11 (by kernel_rfl) (by kernel_rfl) (by kernel_rfl) ?qr1_11 (Or.inl ⟨?wr1_11, ?yr1_11⟩) (by assumption) ?rr1_11
                          case hr1_11 => (simp only [List.getElem?_toArray, List.getElem?_cons_succ, List.getElem?_cons_zero]; rfl)
                          case qr1_11 => exact fun _ _ _ h => h
                          case wr1_11 => rfl
                          case yr1_11 => (intro w hSw; (try dsimp only at hSw); go_simp <;> with_reducible rfl)
                          try simp only [Act.put, List.setIfInBounds_toArray, List.set_cons_zero, List.set_cons_succ]
                          refine wpAnyH_take (i := 12) (oi := ?or1_12) (v := ?vr1_12) ?hr1_12 (by kernel_rfl) (by kernel_rfl) (by kernel_rfl) ?qr1_12 (Or.inl ⟨?wr1_12, ?yr1_12⟩) (by assumption) ?rr1_12
                          case hr1_12 => (simp only [List.getElem?_toArray, List.getElem?_cons_succ, List.getElem?_cons_zero]; rfl)
                          case qr1_12 => exact fun _ _ _ h => h
                          case wr1_12 => rfl
                          case yr1_12 => (intro w hSw; (try dsimp only at hSw); go_simp <;> with_reducible rfl)
                          try simp only [Act.put, List.setIfInBounds_toArray, List.set_cons_zero, List.set_cons_succ]
                          refine wpAnyH_take (i := 13) (oi := ?or1_13) (v := ?vr1_13) ?hr1_13 (by kernel_rfl) (by kernel_rfl) (by kernel_rfl) ?qr1_13 (Or.inl ⟨?wr1_13, ?yr1_13⟩) (by assumption) ?rr1_13
                          case hr1_13 => (simp only [List.getElem?_toArray, List.getElem?_cons_succ, List.getElem?_cons_zero]; rfl)
                          case qr1_13 => exact fun _ _ _ h => h
                          case wr1_13 => rfl
                          case yr1_13 => (intro w hSw; (try dsimp only at hSw); go_simp <;> with_reducible rfl)
                          try simp only [Act.put, List.setIfInBounds_toArray, List.set_cons_zero, List.set_cons_succ]
                          refine wpAnyH_take (i := 14) (oi := ?or1_14) (v := ?vr1_14) ?hr1_14 (by kernel_rfl) (by kernel_rfl) (by kernel_rfl) ?qr1_14 (Or.inl ⟨?wr1_14, ?yr1_14⟩) (by assumption) ?rr1_14
                          case hr1_14 => (simp only [List.getElem?_toArray, List.getElem?_cons_succ, List.getElem?_cons_zero]; rfl)
                          case qr1_14 => exact fun _ _ _ h => h
                          case wr1_14 => rfl
                          case yr1_14 => (intro w hSw; (try dsimp only at hSw); go_simp <;> with_reducible rfl)
                          try simp only [Act.put, List.setIfInBounds_toArray, List.set_cons_zero, List.set_cons_succ]
                          refine wpAnyH_take (i := 15) (oi := ?or1_15) (v := ?vr1_15) ?hr1_15 (by kernel_rfl) (by kernel_rfl) (by kernel_rfl) ?qr1_15 (Or.inl ⟨?wr1_15, ?yr1_15⟩) (by assumption) ?rr1_15
                          case hr1_15 => (simp only [List.getElem?_toArray, List.getElem?_cons_succ, List.getElem?_cons_zero]; rfl)
                          case qr1_15 => exact fun _ _ _ h => h
                          case wr1_15 => rfl
                          case yr1_15 => (intro w hSw; (try dsimp only at hSw); go_simp <;> with_reducible rfl)
                          try simp only [Act.put, List.setIfInBounds_toArray, List.set_cons_zero, List.set_cons_succ]
                          refine wpAnyH_take (i := 16) (oi := ?or1_16) (v := undef) ?hr1_16 (by kernel_rfl) (by kernel_rfl) (by kernel_rfl) ?qr1_16 (Or.inr ⟨?wr1_16, rfl⟩) (by assumption) ?rr1_16
                          case hr1_16 => (simp only [List.getElem?_toArray, List.getElem?_cons_succ, List.getElem?_cons_zero]; rfl)
                          case qr1_16 => exact fun _ _ _ h => h
                          case wr1_16 => rfl
                          try simp only [Act.put, List.setIfInBounds_toArray, List.set_cons_zero, List.set_cons_succ]
                          refine wpAnyH_take (i := 17) (oi := ?or1_17) (v := undef) ?hr1_17 (by kernel_rfl) (by kernel_rfl) (by kernel_rfl) ?qr1_17 (Or.inr ⟨?wr1_17, rfl⟩) (by assumption) ?rr1_17
                          case hr1_17 => (simp only [List.getElem?_toArray, List.getElem?_cons_succ, List.getElem?_cons_zero]; rfl)
                          case qr1_17 => exact fun _ _ _ h => h
                          case wr1_17 => rfl
                          try simp only [Act.put, List.setIfInBounds_toArray, List.set_cons_zero, List.set_cons_succ]
                          refine wpAnyH_take (i := 18) (oi := ?or1_18) (v := undef) ?hr1_18 (by kernel_rfl) (by kernel_rfl) (by kernel_rfl) ?qr1_18 (Or.inr ⟨?wr1_18, rfl⟩) (by assumption) ?rr1_18
                          case hr1_18 => (simp only [List.getElem?_toArray, List.getElem?_cons_succ, List.getElem?_cons_zero]; rfl)
                          case qr1_18 => exact fun _ _ _ h => h
                          case wr1_18 => rfl
                          try simp only [Act.put, List.setIfInBounds_toArray, List.set_cons_zero, List.set_cons_succ]
                          refine wpAnyH_take (i := 19) (oi := ?or1_19) (v := undef) ?hr1_19 (by kernel_rfl) (by kernel_rfl) (by kernel_rfl) ?qr1_19 (Or.inr ⟨?wr1_19, rfl⟩) (by assumption) ?rr1_19
                          case hr1_19 => (simp only [List.getElem?_toArray, List.getElem?_cons_succ, List.getElem?_cons_zero]; rfl)
                          case qr1_19 => exact fun _ _ _ h => h
                          case wr1_19 => rfl
                          try simp only [Act.put, List.setIfInBounds_toArray, List.set_cons_zero, List.set_cons_succ]
                          refine wpAnyH_take (i := 20) (oi := ?or1_20) (v := undef) ?hr1_20 (by kernel_rfl) (by kernel_rfl) (by kernel_rfl) ?qr1_20 (Or.inr ⟨?wr1_20, rfl⟩) (by assumption) ?rr1_20
                          case hr1_20 => (simp only [List.getElem?_toArray, List.getElem?_cons_succ, List.getElem?_cons_zero]; rfl)
                          case qr1_20 => exact fun _ _ _ h => h
                          case wr1_20 => rfl
                          try simp only [Act.put, List.setIfInBounds_toArray, List.set_cons_zero, List.set_cons_succ]
                          refine wpAnyH_take (i := 21) (oi := ?or1_21) (v := ?vr1_21) ?hr1_21 (by kernel_rfl) (by kernel_rfl) (by kernel_rfl) ?qr1_21 (Or.inl ⟨?wr1_21, ?yr1_21⟩) (by assumption) ?rr1_21
                          case hr1_21 => (simp only [List.getElem?_toArray, List.getElem?_cons_succ, List.getElem?_cons_zero]; rfl)
                          case qr1_21 => exact fun _ _ _ h => h
                          case wr1_21 => rfl
                          case yr1_21 => (intro w hSw; (try dsimp only at hSw); go_simp <;> with_reducible rfl)
                          try simp only [Act.put, List.setIfInBounds_toArray, List.set_cons_zero, List.set_cons_succ]
                          refine wpAnyH_done (by kernel_rfl) ?_ _
                          go_wp2_with fail
                          by_cases hoi : o1 = i
                          · have hoib : ((o1 : Int) == (i : Int)) = true := by simp [hoi]
                            cases hbn : tb m2 cc
                            · have HE2 : Hid (eqM P Q R i j cc (u + 1) = r) := Lib.hid (by rw [HE1.out, hbn, if_neg (by simp), xr_zero])
                              clear hoi
                              go_wp2_with fail
                              refine wp_region_held_drew (S := (fun w' => w'.cell? ⟨g2, 1 + j, none⟩ = some (.slice (some ⟨h2, 0, none⟩) p p) ∧ w'.cell? ⟨h2, o2, none⟩ = some (.int .i64 (m2 : Nat)) ∧ w'.cell? ⟨br, ob, none⟩ = some (.int .i64 (o1 : Nat)) ∧ w'.cell? ⟨br, ob + 1, none⟩ = some (.int .i64 (o2 : Nat)))) (by kernel_rfl) (by exact ⟨q3, q4, hc0, hc1⟩) (fun hHeld => ?_)
                              refine wpAnyH_take (i := 0) (oi := ?or2_0) (v := ?vr2_0) ?hr2_0 (by kernel_rfl) (by kernel_rfl) (by kernel_rfl) ?qr2_0 (Or.inl ⟨?wr2_0, ?yr2_0⟩) (by assumption) ?rr2_0
                              case hr2_0 => (simp only [List.getElem?_toArray, List.getElem?_cons_succ, List.getElem?_cons_zero]; rfl)
                              case qr2_0 => exact fun _ _ _ h => h
                              case wr2_0 => rfl
                              case yr2_0 => (intro w hSw; (try dsimp only at hSw); go_simp <;> with_reducible rfl)
                              try simp only [Act.put, List.setIfInBounds_toArray, List.set_cons_zero, List.set_cons_succ]
                              refine wpAnyH_take (i := 1) (oi := ?or2_1) (v := ?vr2_1) ?hr2_1 (by kernel_rfl) (by kernel_rfl) (by kernel_rfl) ?qr2_1 (Or.inl ⟨?wr2_1, ?yr2_1⟩) (by assumption) ?rr2_1
                              case hr2_1 => (simp only [List.getElem?_toArray, List.getElem?_cons_succ, List.getElem?_cons_zero]; rfl)
                              case qr2_1 => exact fun _ _ _ h => h
                              case wr2_1 => rfl
                              case yr2_1 => (intro w hSw; (try dsimp only at hSw); go_simp <;> with_reducible rfl)
                              try simp only [Act.put, List.setIfInBounds_toArray, List.set_cons_zero, List.set_cons_succ]
                              refine wpAnyH_take (i := 2) (oi := ?or2_2) (v := ?vr2_2) ?hr2_2 (by kernel_rfl) (by kernel_rfl) (by kernel_rfl) ?qr2_2 (Or.inl ⟨?wr2_2, ?yr2_2⟩) (by assumption) ?rr2_2
                              case hr2_2 => (simp only [List.getElem?_toArray, List.getElem?_cons_succ, List.getElem?_cons_zero]; rfl)
                              case qr2_2 => exact fun _ _ _ h => h
                              case wr2_2 => rfl
                              case yr2_2 => (intro w hSw; (try dsimp only at hSw); go_simp <;> with_reducible rfl)
                              try simp only [Act.put, List.setIfInBounds_toArray, List.set_cons_zero, List.set_cons_succ]
                              refine wpAnyH_take (i := 3) (oi := ?or2_3) (v := ?vr2_3) ?hr2_3 (by kernel_rfl) (by kernel_rfl) (by kernel_rfl) ?qr2_3 (Or.inl ⟨?wr2_3, ?yr2_3⟩) (by assumption) ?rr2_3
                              case hr2_3 => (simp only [List.getElem?_toArray, List.getElem?_cons_succ, List.getElem?_cons_zero]; rfl)
                              case qr2_3 => exact fun _ _ _ h => h
                              case wr2_3 => rfl
                              case yr2_3 => (intro w hSw; (try dsimp only at hSw); go_simp <;> with_reducible rfl)
                              try simp only [Act.put, List.setIfInBounds_toArray, List.set_cons_zero, List.set_cons_succ]
                              refine wpAnyH_take (i := 4) (oi := ?or2_4) (v := ?vr2_4) ?hr2_4 (by kernel_rfl) (by kernel_rfl) (by kernel_rfl) ?qr2_4 (Or.inl ⟨?wr2_4, ?yr2_4⟩) (by assumption) ?rr2_4
                              case hr2_4 => (simp only [List.getElem?_toArray, List.getElem?_cons_succ, List.getElem?_cons_zero]; rfl)
                              case qr2_4 => exact fun _ _ _ h => h
                              case wr2_4 => rfl
                              case yr2_4 => (intro w hSw; (try dsimp only at hSw); go_simp <;> with_reducible rfl)
                              try simp only [Act.put, List.setIfInBounds_toArray, List.set_cons_zero, List.set_cons_succ]
                              refine wpAnyH_take (i := 5) (oi := ?or2_5) (v := ?vr2_5) ?hr2_5 (by kernel_rfl) (by kernel_rfl) (by kernel_rfl) ?qr2_5 (Or.inl ⟨?wr2_5, ?yr2_5⟩) (by assumption) ?rr2_5
                              case hr2_5 => (simp only [List.getElem?_toArray, List.getElem?_cons_succ, List.getElem?_cons_zero]; rfl)
                              case qr2_5 => exact fun _ _ _ h => h
                              case wr2_5 => rfl
                              case yr2_5 => (intro w hSw; (try dsimp only at hSw); go_simp <;> with_reducible rfl)
                              try simp only [Act.put, List.setIfInBounds_toArray, List.set_cons_zero, List.set_cons_succ]
                              refine wpAnyH_take (i := 6) (oi := ?or2_6) (v := ?vr2_6) ?hr2_6 (by kernel_rfl) (by kernel_rfl) (by kernel_rfl) ?qr2_6 (Or.inl ⟨?wr2_6, ?yr2_6⟩) (by assumption) ?rr2_6
                              case hr2_6 => (simp only [List.getElem?_toArray, List.getElem?_cons_succ, List.getElem?_cons_zero]; rfl)
                              case qr2_6 => exact fun _ _ _ h => h
                              case wr2_6 => rfl
                              case yr2_6 => (intro w hSw; (try dsimp only at hSw); go_simp <;> with_reducible rfl)
                              try simp only [Act.put, List.setIfInBounds_toArray, List.set_cons_zero, List.set_cons_succ]
                              refine wpAnyH_take (i := 7) (oi := ?or2_7) (v := ?vr2_7) ?hr2_7 (by kernel_rfl) (by kernel_rfl) (by kernel_rfl) ?qr2_7 (Or.inl ⟨?wr2_7, ?yr2_7⟩) (by assumption) ?rr2_7
                              case hr2_7 => (simp only [List.getElem?_toArray, List.getElem?_cons_succ, List.getElem?_cons_zero]; rfl)
                              case qr2_7 => exact fun _ _ _ h => h
                              case wr2_7 => rfl
                              case yr2_7 => (intro w hSw; (try dsimp only at hSw); go_simp <;> with_reducible rfl)
                              try simp only [Act.put, List.setIfInBounds_toArray, List.set_cons_zero, List.set_cons_succ]
                              refine wpAnyH_take (i := 8) (oi := ?or2_8) (v := ?vr2_8) ?hr2_8 (by kernel_rfl) (by kernel_rfl) (by kernel_rfl) ?qr2_8 (Or.inl ⟨?wr2_8, ?yr2_8⟩) (by assumption) ?rr2_8
                              case hr2_8 => (simp only [List.getElem?_toArray, List.getElem?_cons_succ, List.getElem?_cons_zero]; rfl)
                              case qr2_8 => exact fun _ _ _ h => h
                              case wr2_8 => rfl
                              case yr2_8 => (intro w hSw; (try dsimp only at hSw); go_simp <;> with_reducible rfl)
                              try simp only [Act.put, List.setIfInBounds_toArray, List.set_cons_zero, List.set_cons_succ]
                              refine wpAnyH_take (i := 9) (oi := ?or2_9) (v := ?vr2_9) ?hr2_9 (by kernel_rfl) (by kernel_rfl) (by kernel_rfl) ?qr2_9 (Or.inl ⟨?wr2_9, ?yr2_9⟩) (by assumption) ?rr2_9
                              case hr2_9 => (simp only [List.getElem?_toArray, List.getElem?_cons_succ, List.getElem?_cons_zero]; rfl)
                              case qr2_9 => exact fun _ _ _ h => h
                              case wr2_9 => rfl
                              case yr2_9 => (intro w hSw; (try dsimp only at hSw); go_simp <;> with_reducible rfl)
                              try simp only [Act.put, List.setIfInBounds_toArray, List.set_cons_zero, List.set_cons_succ]
                              refine wpAnyH_take (i := 10) (oi := ?or2_10) (v := ?vr2_10) ?hr2_10 (by kernel_rfl) (by kernel_rfl) (by kernel_rfl) ?qr2_10 (Or.inl ⟨?wr2_10, ?yr2_10⟩) (by assumption) ?rr2_10
                              case hr2_10 => (simp only [List.getElem?_toArray, List.getElem?_cons_succ, List.getElem?_cons_zero]; rfl)
                              case qr2_10 => exact fun _ _ _ h => h
                              case wr2_10 => rfl
                              case yr2_10 => (intro w hSw; (try dsimp only at hSw); go_simp <;> with_reducible rfl)
                              try simp only [Act.put, List.setIfInBounds_toArray, List.set_cons_zero, List.set_cons_succ]
                              refine wpAnyH_take (i := 11) (oi := ?or2_11) (v := ?vr2_11) ?hr2_11 (by kernel_rfl) (by kernel_rfl) (by kernel_rfl) ?qr2_11 (Or.inl ⟨?wr2_11, ?yr2_11⟩) (by assumption) ?rr2_11
                              case hr2_11 => (simp only [List.getElem?_toArray, List.getElem?_cons_succ, List.getElem?_cons_zero]; rfl)
                              case qr2_11 => exact fun _ _ _ h => h
                              case wr2_11 => rfl
                              case yr2_11 => (intro w hSw; (try dsimp only at hSw); go_simp <;> with_reducible rfl)
                              try simp only [Act.put, List.setIfInBounds_toArray, List.set_cons_zero, List.set_cons_succ]
                              refine wpAnyH_take (i := 12) (oi := ?or2_12) (v := ?vr2_12) ?hr2_12 (by kernel_rfl) (by kernel_rfl) (by kernel_rfl) ?qr2_12 (Or.inl ⟨?wr2_12, ?yr2_12⟩) (by assumption) ?rr2_12
                              case hr2_12 => (simp only [List.getElem?_toArray, List.getElem?_cons_succ, List.getElem?_cons_zero]; rfl)
                              case qr2_12 => exact fun _ _ _ h => h
                              case wr2_12 => rfl
                              case yr2_12 => (intro w hSw; (try dsimp only at hSw); go_simp <;> with_reducible rfl)
                              try simp only [Act.put, List.setIfInBounds_toArray, List.set_cons_zero, List.set_cons_succ]
                              refine wpAnyH_take (i := 13) (oi := ?or2_13) (v := ?vr2_13) ?hr2_13 (by kernel_rfl) (by kernel_rfl) (by kernel_rfl) ?qr2_13 (Or.inl ⟨?wr2_13, ?yr2_13⟩) (by assumption) ?rr2_13
                              case hr2_13 => (simp only [List.getElem?_toArray, List.getElem?_cons_succ, List.getElem?_cons_zero]; rfl)
                              case qr2_13 => exact fun _ _ _ h => h
                              case wr2_13 => rfl
                              case yr2_13 => (intro w hSw; (try dsimp only at hSw); go_simp <;> with_reducible rfl)
                              try simp only [Act.put, List.setIfInBounds_toArray, List.set_cons_zero, List.set_cons_succ]
                              refine wpAnyH_take (i := 14) (oi := ?or2_14) (v := ?vr2_14) ?hr2_14 (by kernel_rfl) (by kernel_rfl) (by kernel_rfl) ?qr2_14 (Or.inl ⟨?wr2_14, ?yr2_14⟩) (by assumption) ?rr2_14
                              case hr2_14 => (simp only [List.getElem?_toArray, List.getElem?_cons_succ, List.getElem?_cons_zero]; rfl)
                              case qr2_14 => exact fun _ _ _ h => h
                              case wr2_14 => rfl
                              case yr2_14 => (intro w hSw; (try dsimp only at hSw); go_simp <;> with_reducible rfl)
                              try simp only [Act.put, List.setIfInBounds_toArray, List.set_cons_zero, List.set_cons_succ]
                              refine wpAnyH_take (i := 15) (oi := ?or2_15) (v := ?vr2_15) ?hr2_15 (by kernel_rfl) (by kernel_rfl) (by kernel_rfl) ?qr2_15 (Or.inl ⟨?wr2_15, ?yr2_15⟩) (by assumption) ?rr2_15
                              case hr2_15 => (simp only [List.getElem?_toArray, List.getElem?_cons_succ, List.getElem?_cons_zero]; rfl)
                              case qr2_15 => exact fun _ _ _ h => h
                              case wr2_15 => rfl
                              case yr2_15 => (intro w hSw; (try dsimp only at hSw); go_simp <;> with_reducible rfl)
                              try simp only [Act.put, List.setIfInBounds_toArray, List.set_cons_zero, List.set_cons_succ]
                              refine wpAnyH_take (i := 16) (oi := ?or2_16) (v := ?vr2_16) ?hr2_16 (by kernel_rfl) (by kernel_rfl) (by kernel_rfl) ?qr2_16 (Or.inl ⟨?wr2_16, ?yr2_16⟩) (by assumption) ?rr2_16
                              case hr2_16 => (simp only [List.getElem?_toArray, List.getElem?_cons_succ, List.getElem?_cons_zero]; rfl)
                              case qr2_16 => exact fun _ _ _ h => h
                              case wr2_16 => rfl
                              case yr2_16 => (intro w hSw; (try dsimp only at hSw); go_simp <;> with_reducible rfl)
                              try simp only [Act.put, List.setIfInBounds_toArray, List.set_cons_zero, List.set_cons_succ]
                              refine wpAnyH_take (i := 17) (oi := ?or2_17) (v := ?vr2_17) ?hr2_17 (by kernel_rfl) (by kernel_rfl) (by kernel_rfl) ?qr2_17 (Or.inl ⟨?wr2_17, ?yr2_17⟩) (by assumption) ?rr2_17
                              case hr2_17 => (simp only [List.getElem?_toArray, List.getElem?_cons_succ, List.getElem?_cons_zero]; rfl)
                              case qr2_17 => exact fun _ _ _ h => h
                              case wr2_17 => rfl
                              case yr2_17 => (intro w hSw; (try dsimp only at hSw); go_simp <;> with_reducible rfl)
                              try simp only [Act.put, List.setIfInBounds_toArray, List.set_cons_zero, List.set_cons_succ]
                              refine wpAnyH_take (i := 18) (oi := ?or2_18) (v := ?vr2_18) ?hr2_18 (by kernel_rfl) (by kernel_rfl) (by kernel_rfl) ?qr2_18 (Or.inl ⟨?wr2_18, ?yr2_18⟩) (by assumption) ?rr2_18
                              case hr2_18 => (simp only [List.getElem?_toArray, List.getElem?_cons_succ, List.getElem?_cons_zero]; rfl)
                              case qr2_18 => exact fun _ _ _ h => h
                              case wr2_18 => rfl
                              case yr2_18 => (intro w hSw; (try dsimp only at hSw); go_simp <;> with_reducible rfl)
                              try simp only [Act.put, List.setIfInBounds_toArray, List.set_cons_zero, List.set_cons_succ]
                              refine wpAnyH_take (i := 19) (oi := ?or2_19) (v := ?vr2_19) ?hr2_19 (by kernel_rfl) (by kernel_rfl) (by kernel_rfl) ?qr2_19 (Or.inl ⟨?wr2_19, ?yr2_19⟩) (by assumption) ?rr2_19
                              case hr2_19 => (simp only [List.getElem?_toArray, List.getElem?_cons_succ, List.getElem?_cons_zero]; rfl)
                              case qr2_19 => exact fun _ _ _ h => h
                              case wr2_19 => rfl
                              case yr2_19 => (intro w hSw; (try dsimp only at hSw); go_simp <;> with_reducible rfl)
                              try simp only [Act.put, List.setIfInBounds_toArray, List.set_cons_zero, List.set_cons_succ]
                              refine wpAnyH_take (i := 20) (oi := ?or2_20) (v := ?vr2_20) ?hr2_20 (by kernel_rfl) (by kernel_rfl) (by kernel_rfl) ?qr2_20 (Or.inl ⟨?wr2_20, ?yr2_20⟩) (by assumption) ?rr2_20
                              case hr2_20 => (simp only [List.getElem?_toArray, List.getElem?_cons_succ, List.getElem?_cons_zero]; rfl)
                              case qr2_20 => exact fun _ _ _ h => h
                              case wr2_20 => rfl
                              case yr2_20 => (intro w hSw; (try dsimp only at hSw); go_simp <;> with_reducible rfl)
                              try simp only [Act.put, List.setIfInBounds_toArray, List.set_cons_zero, List.set_cons_succ]
                              refine wpAnyH_take (i := 21) (oi := ?or2_21) (v := ?vr2_21) ?hr2_21 (by kernel_rfl) (by kernel_rfl) (by kernel_rfl) ?qr2_21 (Or.inl ⟨?wr2_21, ?yr2_21⟩) (by assumption) ?rr2_21
                              case hr2_21 => (simp only [List.getElem?_toArray, List.getElem?_cons_succ, List.getElem?_cons_zero]; rfl)
                              case qr2_21 => exact fun _ _ _ h => h
                              case wr2_21 => rfl
                              case yr2_21 => (intro w hSw; (try dsimp only at hSw); go_simp <;> with_reducible rfl)
                              try simp only [Act.put, List.setIfInBounds_toArray, List.set_cons_zero, List.set_cons_succ]
                              refine wpAnyH_done (by kernel_rfl) ?_ _
                              go_wp2_with fail
                              go_roundw
                              case rel => exact ⟨u + 1, by omega, by rw [HE2.out], by go_num, m + 2, by rw [← hm]; rfl⟩
                              case measure => simp [intOf]; omega
                            · have HE2 : Hid (eqM P Q R i j cc (u + 1) = xr r (2 ^ u)) := Lib.hid (by rw [HE1.out, hbn, if_pos ⟨hoi, rfl⟩])
                              have hxr := xor_two HSr.out (t := u) (by omega)
                              clear hoi
                              go_wp2_with fail
                              refine wp_region_held_drew (S := (fun w' => w'.cell? ⟨g2, 1 + j, none⟩ = some (.slice (some ⟨h2, 0, none⟩) p p) ∧ w'.cell? ⟨h2, o2, none⟩ = some (.int .i64 (m2 : Nat)) ∧ w'.cell? ⟨br, ob, none⟩ = some (.int .i64 (o1 : Nat)) ∧ w'.cell? ⟨br, ob + 1, none⟩ = some (.int .i64 (o2 : Nat)))) (by kernel_rfl) (by exact ⟨q3, q4, hc0, hc1⟩) (fun hHeld => ?_)
                              refine wpAnyH_take (i := 0) (oi := ?or3_0) (v := ?vr3_0) ?hr3_0 (by kernel_rfl) (by kernel_rfl) (by kernel_rfl) ?qr3_0 (Or.inl ⟨?wr3_0, ?yr3_0⟩) (by assumption) ?rr3_0
                              case hr3_0 => (simp only [List.getElem?_toArray, List.getElem?_cons_succ, List.getElem?_cons_zero]; rfl)
                              case qr3_0 => exact fun _ _ _ h => h
                              case wr3_0 => rfl
                              case yr3_0 => (intro w hSw; (try dsimp only at hSw); go_simp <;> with_reducible rfl)
                              try simp only [Act.put, List.setIfInBounds_toArray, List.set_cons_zero, List.set_cons_succ]
                              refine wpAnyH_take (i := 1) (oi := ?or3_1) (v := ?vr3_1) ?hr3_1 (by kernel_rfl) (by kernel_rfl) (by kernel_rfl) ?qr3_1 (Or.inl ⟨?wr3_1, ?yr3_1⟩) (by assumption) ?rr3_1
                              case hr3_1 => (simp only [List.getElem?_toArray, List.getElem?_cons_succ, List.getElem?_cons_zero]; rfl)
                              case qr3_1 => exact fun _ _ _ h => h
                              case wr3_1 => rfl
                              case yr3_1 => (intro w hSw; (try dsimp only at hSw); go_simp <;> with_reducible rfl)
                              try simp only [Act.put, List.setIfInBounds_toArray, List.set_cons_zero, List.set_cons_succ]
                              refine wpAnyH_take (i := 2) (oi := ?or3_2) (v := ?vr3_2) ?hr3_2 (by kernel_rfl) (by kernel_rfl) (by kernel_rfl) ?qr3_2 (Or.inl ⟨?wr3_2, ?yr3_2⟩) (by assumption) ?rr3_2
                              case hr3_2 => (simp only [List.getElem?_toArray, List.getElem?_cons_succ, List.getElem?_cons_zero]; rfl)
                              case qr3_2 => exact fun _ _ _ h => h
                              case wr3_2 => rfl
                              case yr3_2 => (intro w hSw; (try dsimp only at hSw); go_simp <;> with_reducible rfl)
                              try simp only [Act.put, List.setIfInBounds_toArray, List.set_cons_zero, List.set_cons_succ]
                              refine wpAnyH_take (i := 3) (oi := ?or3_3) (v := ?vr3_3) ?hr3_3 (by kernel_rfl) (by kernel_rfl) (by kernel_rfl) ?qr3_3 (Or.inl ⟨?wr3_3, ?yr3_3⟩) (by assumption) ?rr3_3
                              case hr3_3 => (simp only [List.getElem?_toArray, List.getElem?_cons_succ, List.getElem?_cons_zero]; rfl)
                              case qr3_3 => exact fun _ _ _ h => h
                              case wr3_3 => rfl
                              case yr3_3 => (intro w hSw; (try dsimp only at hSw); go_simp <;> with_reducible rfl)
                              try simp only [Act.put, List.setIfInBounds_toArray, List.set_cons_zero, List.set_cons_succ]
                              refine wpAnyH_take (i := 4) (oi := ?or3_4) (v := ?vr3_4) ?hr3_4 (by kernel_rfl) (by kernel_rfl) (by kernel_rfl) ?qr3_4 (Or.inl ⟨?wr3_4, ?yr3_4⟩) (by assumption) ?rr3_4
                              case hr3_4 => (simp only [List.getElem?_toArray, List.getElem?_cons_succ, List.getElem?_cons_zero]; rfl)
                              case qr3_4 => exact fun _ _ _ h => h
                              case wr3_4 => rfl
                              case yr3_4 => (intro w hSw; (try dsimp only at hSw); go_simp <;> with_reducible rfl)
                              try simp only [Act.put, List.setIfInBounds_toArray, List.set_cons_zero, List.set_cons_succ]
                              refine wpAnyH_take (i := 5) (oi := ?or3_5) (v := ?vr3_5) ?hr3_5 (by kernel_rfl) (by kernel_rfl) (by kernel_rfl) ?qr3_5 (Or.inl ⟨?wr3_5, ?yr3_5⟩) (by assumption) ?rr3_5
                              case hr3_5 => (simp only [List.getElem?_toArray, List.getElem?_cons_succ, List.getElem?_cons_zero]; rfl)
                              case qr3_5 => exact fun _ _ _ h => h
                              case wr3_5 => rfl
                              case yr3_5 => (intro w hSw; (try dsimp only at hSw); go_simp <;> with_reducible rfl)
                              try simp only [Act.put, List.setIfInBounds_toArray, List.set_cons_zero, List.set_cons_succ]
                              refine wpAnyH_take (i := 6) (oi := ?or3_6) (v := ?vr3_6) ?hr3_6 (by kernel_rfl) (by kernel_rfl) (by kernel_rfl) ?qr3_6 (Or.inl ⟨?wr3_6, ?yr3_6⟩) (by assumption) ?rr3_6
                              case hr3_6 => (simp only [List.getElem?_toArray, List.getElem?_cons_succ, List.getElem?_cons_zero]; rfl)
                              case qr3_6 => exact fun _ _ _ h => h
                              case wr3_6 => rfl
                              case yr3_6 => (intro w hSw; (try dsimp only at hSw); go_simp <;> with_reducible rfl)
                              try simp only [Act.put, List.setIfInBounds_toArray, List.set_cons_zero, List.set_cons_succ]
                              refine wpAnyH_take (i := 7) (oi := ?or3_7) (v := ?vr3_7) ?hr3_7 (by kernel_rfl) (by kernel_rfl) (by kernel_rfl) ?qr3_7 (Or.inl ⟨?wr3_7, ?yr3_7⟩) (by assumption) ?rr3_7
                              case hr3_7 => (simp only [List.getElem?_toArray, List.getElem?_cons_succ, List.getElem?_cons_zero]; rfl)
                              case qr3_7 => exact fun _ _ _ h => h
                              case wr3_7 => rfl
                              case yr3_7 => (intro w hSw; (try dsimp only at hSw); go_simp <;> with_reducible rfl)
                              try simp only [Act.put, List.setIfInBounds_toArray, List.set_cons_zero, List.set_cons_succ]
                              refine wpAnyH_take (i := 8) (oi := ?or3_8) (v := ?vr3_8) ?hr3_8 (by kernel_rfl) (by kernel_rfl) (by kernel_rfl) ?qr3_8 (Or.inl ⟨?wr3_8, ?yr3_8⟩) (by assumption) ?rr3_8
                              case hr3_8 => (simp only [List.getElem?_toArray, List.getElem?_cons_succ, List.getElem?_cons_zero]; rfl)
                              case qr3_8 => exact fun _ _ _ h => h
                              case wr3_8 => rfl
                              case yr3_8 => (intro w hSw; (try dsimp only at hSw); go_simp <;> with_reducible rfl)
                              try simp only [Act.put, List.setIfInBounds_toArray, List.set_cons_zero, List.set_cons_succ]
                              refine wpAnyH_take (i := 9) (oi := ?or3_9) (v := ?vr3_9) ?hr3_9 (by kernel_rfl) (by kernel_rfl) (by kernel_rfl) ?qr3_9 (Or.inl ⟨?wr3_9, ?yr3_9⟩) (by assumption) ?rr3_9
                              case hr3_9 => (simp only [List.getElem?_toArray, List.getElem?_cons_succ, List.getElem?_cons_zero]; rfl)
                              case qr3_9 => exact fun _ _ _ h => h
                              case wr3_9 => rfl
                              case yr3_9 => (intro w hSw; (try dsimp only at hSw); go_simp <;> with_reducible rfl)
                              try simp only [Act.put, List.setIfInBounds_toArray, List.set_cons_zero, List.set_cons_succ]
                              refine wpAnyH_take (i := 10) (oi := ?or3_10) (v := ?vr3_10) ?hr3_10 (by kernel_rfl) (by kernel_rfl) (by kernel_rfl) ?qr3_10 (Or.inl ⟨?wr3_10, ?yr3_10⟩) (by assumption) ?rr3_10
                              case hr3_10 => (simp only [List.getElem?_toArray, List.getElem?_cons_succ, List.getElem?_cons_zero]; rfl)
                              case qr3_10 => exact fun _ _ _ h => h
                              case wr3_10 => rfl
                              case yr3_10 => (intro w hSw; (try dsimp only at hSw); go_simp <;> with_reducible rfl)
                              try simp only [Act.put, List.setIfInBounds_toArray, List.set_cons_zero, List.set_cons_succ]
                              refine wpAnyH_take (i := 11) (oi := ?or3_11) (v := ?vr3_11) ?hr3_11 (by kernel_rfl) (by kernel_rfl) (by kernel_rfl) ?qr3_11 (Or.inl ⟨?wr3_11, ?yr3_11⟩) (by assumption) ?rr3_11
                              case hr3_11 => (simp only [List.getElem?_toArray, List.getElem?_cons_succ, List.getElem?_cons_zero]; rfl)
                              case qr3_11 => exact fun _ _ _ h => h
                              case wr3_11 => rfl
                              case yr3_11 => (intro w hSw; (try dsimp only at hSw); go_simp <;> with_reducible rfl)
                              try simp only [Act.put, List.setIfInBounds_toArray, List.set_cons_zero, List.set_cons_succ]
                              refine wpAnyH_take (i := 12) (oi := ?or3_12) (v := ?vr3_12) ?hr3_12 (by kernel_rfl) (by kernel_rfl) (by kernel_rfl) ?qr3_12 (Or.inl ⟨?wr3_12, ?yr3_12⟩) (by assumption) ?rr3_12
                              case hr3_12 => (simp only [List.getElem?_toArray, List.getElem?_cons_succ, List.getElem?_cons_zero]; rfl)
                              case qr3_12 => exact fun _ _ _ h => h
                              case wr3_12 => rfl
                              case yr3_12 => (intro w hSw; (try dsimp only at hSw); go_simp <;> with_reducible rfl)
                              try simp only [Act.put, List.setIfInBounds_toArray, List.set_cons_zero, List.set_cons_succ]
                              refine wpAnyH_take (i := 13) (oi := ?or3_13) (v := ?vr3_13) ?hr3_13 (by kernel_rfl) (by kernel_rfl) (by kernel_rfl) ?qr3_13 (Or.inl ⟨?wr3_13, ?yr3_13⟩) (by assumption) ?rr3_13
                              case hr3_13 => (simp only [List.getElem?_toArray, List.getElem?_cons_succ, List.getElem?_cons_zero]; rfl)
                              case qr3_13 => exact fun _ _ _ h => h
                              case wr3_13 => rfl
                              case yr3_13 => (intro w hSw; (try dsimp only at hSw); go_simp <;> with_reducible rfl)
                              try simp only [Act.put, List.setIfInBounds_toArray, List.set_cons_zero, List.set_cons_succ]
                              refine wpAnyH_take (i := 14) (oi := ?or3_14) (v := ?vr3_14) ?hr3_14 (by kernel_rfl) (by kernel_rfl) (by kernel_rfl) ?qr3_14 (Or.inl ⟨?wr3_14, ?yr3_14⟩) (by assumption) ?rr3_14
                              case hr3_14 => (simp only [List.getElem?_toArray, List.getElem?_cons_succ, List.getElem?_cons_zero]; rfl)
                              case qr3_14 => exact fun _ _ _ h => h
                              case wr3_14 => rfl
                              case yr3_14 => (intro w hSw; (try dsimp only at hSw); go_simp <;> with_reducible rfl)
                              try simp only [Act.put, List.setIfInBounds_toArray, List.set_cons_zero, List.set_cons_succ]
                              refine wpAnyH_take (i := 15) (oi := ?or3_15) (v := ?vr3_15) ?hr3_15 (by kernel_rfl) (by kernel_rfl) (by kernel_rfl) ?qr3_15 (Or.inl ⟨?wr3_15, ?yr3_15⟩) (by assumption) ?rr3_15
                              case hr3_15 => (simp only [List.getElem?_toArray, List.getElem?_cons_succ, List.getElem?_cons_zero]; rfl)
                              case qr3_15 => exact fun _ _ _ h => h
                              case wr3_15 => rfl
                              case yr3_15 => (intro w hSw; (try dsimp only at hSw); go_simp <;> with_reducible rfl)
                              try simp only [Act.put, List.setIfInBounds_toArray, List.set_cons_zero, List.set_cons_succ]
                              refine wpAnyH_take (i := 16) (oi := ?or3_16) (v := ?vr3_16) ?hr3_16 (by kernel_rfl) (by kernel_rfl) (by kernel_rfl) ?qr3_16 (Or.inl ⟨?wr3_16, ?yr3_16⟩) (by assumption) ?rr3_16
                              case hr3_16 => (simp only [List.getElem?_toArray, List.getElem?_cons_succ, List.getElem?_cons_zero]; rfl)
                              case qr3_16 => exact fun _ _ _ h => h
                              case wr3_16 => rfl
                              case yr3_16 => (intro w hSw; (try dsimp only at hSw); go_simp <;> with_reducible rfl)
                              try simp only [Act.put, List.setIfInBounds_toArray, List.set_cons_zero, List.set_cons_succ]
                              refine wpAnyH_take (i := 17) (oi := ?or3_17) (v := ?vr3_17) ?hr3_17 (by kernel_rfl) (by kernel_rfl) (by kernel_rfl) ?qr3_17 (Or.inl ⟨?wr3_17, ?yr3_17⟩) (by assumption) ?rr3_17
                              case hr3_17 => (simp only [List.getElem?_toArray, List.getElem?_cons_succ, List.getElem?_cons_zero]; rfl)
                              case qr3_17 => exact fun _ _ _ h => h
                              case wr3_17 => rfl
                              case yr3_17 => (intro w hSw; (try dsimp only at hSw); go_simp <;> with_reducible rfl)
                              try simp only [Act.put, List.setIfInBounds_toArray, List.set_cons_zero, List.set_cons_succ]
                              refine wpAnyH_take (i := 18) (oi := ?or3_18) (v := ?vr3_18) ?hr3_18 (by kernel_rfl) (by kernel_rfl) (by kernel_rfl) ?qr3_18 (Or.inl ⟨?wr3_18, ?yr3_18⟩) (by assumption) ?rr3_18
                              case hr3_18 => (simp only [List.getElem?_toArray, List.getElem?_cons_succ, List.getElem?_cons_zero]; rfl)
                              case qr3_18 => exact fun _ _ _ h => h
                              case wr3_18 => rfl
                              case yr3_18 => (intro w hSw; (try dsimp only at hSw); go_simp <;> with_reducible rfl)
                              try simp only [Act.put, List.setIfInBounds_toArray, List.set_cons_zero, List.set_cons_succ]
                              refine wpAnyH_take (i := 19) (oi := ?or3_19) (v := ?vr3_19) ?hr3_19 (by kernel_rfl) (by kernel_rfl) (by kernel_rfl) ?qr3_19 (Or.inl ⟨?wr3_19, ?yr3_19⟩) (by assumption) ?rr3_19
                              case hr3_19 => (simp only [List.getElem?_toArray, List.getElem?_cons_succ, List.getElem?_cons_zero]; rfl)
                              case qr3_19 => exact fun _ _ _ h => h
                              case wr3_19 => rfl
                              case yr3_19 => (intro w hSw; (try dsimp only at hSw); go_simp <;> with_reducible rfl)
                              try simp only [Act.put, List.setIfInBounds_toArray, List.set_cons_zero, List.set_cons_succ]
                              refine wpAnyH_take (i := 20) (oi := ?or3_20) (v := ?vr3_20) ?hr3_20 (by kernel_rfl) (by kernel_rfl) (by kernel_rfl) ?qr3_20 (Or.inl ⟨?wr3_20, ?yr3_20⟩) (by assumption) ?rr3_20
                              case hr3_20 => (simp only [List.getElem?_toArray, List.getElem?_cons_succ, List.getElem?_cons_zero]; rfl)
                              case qr3_20 => exact fun _ _ _ h => h
                              case wr3_20 => rfl
                              case yr3_20 => (intro w hSw; (try dsimp only at hSw); go_simp <;> with_reducible rfl)
                              try simp only [Act.put, List.setIfInBounds_toArray, List.set_cons_zero, List.set_cons_succ]
                              refine wpAnyH_take (i := 21) (oi := ?or3_21) (v := ?vr3_21) ?hr3_21 (by kernel_rfl) (by kernel_rfl) (by kernel_rfl) ?qr3_21 (Or.inl ⟨?wr3_21, ?yr3_21⟩) (by assumption) ?rr3_21
                              case hr3_21 => (simp only [List.getElem?_toArray, List.getElem?_cons_succ, List.getElem?_cons_zero]; rfl)
                              case qr3_21 => exact fun _ _ _ h => h
                              case wr3_21 => rfl
                              case yr3_21 => (intro w hSw; (try dsimp only at hSw); go_simp <;> with_reducible rfl)
                              try simp only [Act.put, List.setIfInBounds_toArray, List.set_cons_zero, List.set_cons_succ]
                              refine wpAnyH_done (by kernel_rfl) ?_ _
                              go_wp2_with fail
                              go_roundw
                              case rel => exact ⟨u + 1, by omega, by rw [HE2.out], by go_num, m + 2, by rw [← hm]; rfl⟩
                              case measure => simp [intOf]; omega
                          · have hoib : ((o1 : Int) == (i : Int)) = false := by simp; omega
                            have HE2 : Hid (eqM P Q R i j cc (u + 1) = r) := Lib.hid (by rw [HE1.out, if_neg (fun h => hoi h.1), xr_zero])
                            clear hoi
                            go_wp2_with fail
                            refine wp_region_held_drew (S := (fun w' => w'.cell? ⟨g2, 1 + j, none⟩ = some (.slice (some ⟨h2, 0, none⟩) p p) ∧ w'.cell? ⟨h2, o2, none⟩ = some (.int .i64 (m2 : Nat)) ∧ w'.cell? ⟨br, ob, none⟩ = some (.int .i64 (o1 : Nat)) ∧ w'.cell? ⟨br, ob + 1, none⟩ = some (.int .i64 (o2 : Nat)))) (by kernel_rfl) (by exact ⟨q3, q4, hc0, hc1⟩) (fun hHeld => ?_)
                            refine wpAnyH_take (i := 0) (oi := ?or4_0) (v := ?vr4_0) ?hr4_0 (by kernel_rfl) (by kernel_rfl) (by kernel_rfl) ?qr4_0 (Or.inl ⟨?wr4_0, ?yr4_0⟩) (by assumption) ?rr4_0
                            case hr4_0 => (simp only [List.getElem?_toArray, List.getElem?_cons_succ, List.getElem?_cons_zero]; rfl)
                            case qr4_0 => exact fun _ _ _ h => h
                            case wr4_0 => rfl
                            case yr4_0 => (intro w hSw; (try dsimp only at hSw); go_simp <;> with_reducible rfl)
                            try simp only [Act.put, List.setIfInBounds_toArray, List.set_cons_zero, List.set_cons_succ]
                            refine wpAnyH_take (i := 1) (oi := ?or4_1) (v := ?vr4_1) ?hr4_1 (by kernel_rfl) (by kernel_rfl) (by kernel_rfl) ?qr4_1 (Or.inl ⟨?wr4_1, ?yr4_1⟩) (by assumption) ?rr4_1
                            case hr4_1 => (simp only [List.getElem?_toArray, List.getElem?_cons_succ, List.getElem?_cons_zero]; rfl)
                            case qr4_1 => exact fun _ _ _ h => h
                            case wr4_1 => rfl
                            case yr4_1 => (intro w hSw; (try dsimp only at hSw); go_simp <;> with_reducible rfl)
                            try simp only [Act.put, List.setIfInBounds_toArray, List.set_cons_zero, List.set_cons_succ]
                            refine wpAnyH_take (i := 2) (oi := ?or4_2) (v := ?vr4_2) ?hr4_2 (by kernel_rfl) (by kernel_rfl) (by kernel_rfl) ?qr4_2 (Or.inl ⟨?wr4_2, ?yr4_2⟩) (by assumption) ?rr4_2
                            case hr4_2 => (simp only [List.getElem?_toArray, List.getElem?_cons_succ, List.getElem?_cons_zero]; rfl)
                            case qr4_2 => exact fun _ _ _ h => h
                            case wr4_2 => rfl
                            case yr4_2 => (intro w hSw; (try dsimp only at hSw); go_simp <;> with_reducible rfl)
                            try simp only [Act.put, List.setIfInBounds_toArray, List.set_cons_zero, List.set_cons_succ]
                            refine wpAnyH_take (i := 3) (oi := ?or4_3) (v := ?vr4_3) ?hr4_3 (by kernel_rfl) (by kernel_rfl) (by kernel_rfl) ?qr4_3 (Or.inl ⟨?wr4_3, ?yr4_3⟩) (by assumption) ?rr4_3
                            case hr4_3 => (simp only [List.getElem?_toArray, List.getElem?_cons_succ, List.getElem?_cons_zero]; rfl)
                            case qr4_3 => exact fun _ _ _ h => h
                            case wr4_3 => rfl
                            case yr4_3 => (intro w hSw; (try dsimp only at hSw); go_simp <;> with_reducible rfl)
                            try simp only [Act.put, List.setIfInBounds_toArray, List.set_cons_zero, List.set_cons_succ]
                            refine wpAnyH_take (i := 4) (oi := ?or4_4) (v := ?vr4_4) ?hr4_4 (by kernel_rfl) (by kernel_rfl) (by kernel_rfl) ?qr4_4 (Or.inl ⟨?wr4_4, ?yr4_4⟩) (by assumption) ?rr4_4
                            case hr4_4 => (simp only [List.getElem?_toArray, List.getElem?_cons_succ, List.getElem?_cons_zero]; rfl)
                            case qr4_4 => exact fun _ _ _ h => h
                            case wr4_4 => rfl
                            case yr4_4 => (intro w hSw; (try dsimp only at hSw); go_simp <;> with_reducible rfl)
                            try simp only [Act.put, List.setIfInBounds_toArray, List.set_cons_zero, List.set_cons_succ]
                            refine wpAnyH_take (i := 5) (oi := ?or4_5) (v := ?vr4_5) ?hr4_5 (by kernel_rfl) (by kernel_rfl) (by kernel_rfl) ?qr4_5 (Or.inl ⟨?wr4_5, ?yr4_5⟩) (by assumption) ?rr4_5
                            case hr4_5 => (simp only [List.getElem?_toArray, List.getElem?_cons_succ, List.getElem?_cons_zero]; rfl)
                            case qr4_5 => exact fun _ _ _ h => h
                            case wr4_5 => rfl
                            case yr4_5 => (intro w hSw; (try dsimp only at hSw); go_simp <;> with_reducible rfl)
                            try simp only [Act.put, List.setIfInBounds_toArray, List.set_cons_zero, List.set_cons_succ]
                            refine wpAnyH_take (i := 6) (oi := ?or4_6) (v := undef) ?hr4_6 (by kernel_rfl) (by kernel_rfl) (by kernel_rfl) ?qr4_6 (Or.inr ⟨?wr4_6, rfl⟩) (by assumption) ?rr4_6
                            case hr4_6 => (simp only [List.getElem?_toArray, List.getElem?_cons_succ, List.getElem?_cons_zero]; rfl)
                            case qr4_6 => exact fun _ _ _ h => h
                            case wr4_6 => rfl
                            try simp only [Act.put, List.setIfInBounds_toArray, List.set_cons_zero, List.set_cons_succ]
                            refine wpAnyH_take (i := 7) (oi := ?or4_7) (v := undef) ?hr4_7 (by kernel_rfl) (by kernel_rfl) (by kernel_rfl) ?qr4_7 (Or.inr ⟨?wr4_7, rfl⟩) (by assumption) ?rr4_7
                            case hr4_7 => (simp only [List.getElem?_toArray, List.getElem?_cons_succ, List.getElem?_cons_zero]; rfl)
                            case qr4_7 => exact fun _ _ _ h => h
                            case wr4_7 => rfl
                            try simp only [Act.put, List.setIfInBounds_toArray, List.set_cons_zero, List.set_cons_succ]
                            refine wpAnyH_take (i := 8) (oi := ?or4_8) (v := undef) ?hr4_8 (by kernel_rfl) (by kernel_rfl) (by kernel_rfl) ?qr4_8 (Or.inr ⟨?wr4_8, rfl⟩) (by assumption) ?rr4_8
                            case hr4_8 => (simp only [List.getElem?_toArray, List.getElem?_cons_succ, List.getElem?_cons_zero]; rfl)
                            case qr4_8 => exact fun _ _ _ h => h
                            case wr4_8 => rfl
                            try simp only [Act.put, List.setIfInBounds_toArray, List.set_cons_zero, List.set_cons_succ]
                            refine wpAnyH_take (i := 9) (oi := ?or4_9) (v := undef) ?hr4_9 (by kernel_rfl) (by kernel_rfl) (by kernel_rfl) ?qr4_9 (Or.inr ⟨?wr4_9, rfl⟩) (by assumption) ?rr4_9
                            case hr4_9 => (simp only [List.getElem?_toArray, List.getElem?_cons_succ, List.getElem?_cons_zero]; rfl)
                            case qr4_9 => exact fun _ _ _ h => h
                            case wr4_9 => rfl
                            try simp only [Act.put, List.setIfInBounds_toArray, List.set_cons_zero, List.set_cons_succ]
                            refine wpAnyH_take (i := 10) (oi := ?or4_10) (v := undef) ?hr4_10 (by kernel_rfl) (by kernel_rfl) (by kernel_rfl) ?qr4_10 (Or.inr ⟨?wr4_10, rfl⟩) (by assumption) ?rr4_10
                            case hr4_10 => (simp only [List.getElem?_toArray, List.getElem?_cons_succ, List.getElem?_cons_zero]; rfl)
                            case qr4_10 => exact fun _ _ _ h => h
                            case wr4_10 => rfl
                            try simp only [Act.put, List.setIfInBounds_toArray, List.set_cons_zero, List.set_cons_succ]
                            refine wpAnyH_take (i := 11) (oi := ?or4_11) (v := undef) ?hr4_11 (by kernel_rfl) (by kernel_rfl) (by kernel_rfl) ?qr4_11 (Or.inr ⟨?wr4_11, rfl⟩) (by assumption) ?rr4_11
                            case hr4_11 => (simp only [List.getElem?_toArray, List.getElem?_cons_succ, List.getElem?_cons_zero]; rfl)
                            case qr4_11 => exact fun _ _ _ h => h
                            case wr4_11 => rfl
                            try simp only [Act.put, List.setIfInBounds_toArray, List.set_cons_zero, List.set_cons_succ]
                            refine wpAnyH_take (i := 12) (oi := ?or4_12) (v := undef) ?hr4_12 (by kernel_rfl) (by kernel_rfl) (by kernel_rfl) ?qr4_12 (Or.inr ⟨?wr4_12, rfl⟩) (by assumption) ?rr4_12
                            case hr4_12 => (simp only [List.getElem?_toArray, List.getElem?_cons_succ, List.getElem?_cons_zero]; rfl)
                            case qr4_12 => exact fun _ _ _ h => h
                            case wr4_12 => rfl
                            try simp only [Act.put, List.setIfInBounds_toArray, List.set_cons_zero, List.set_cons_succ]
                            refine wpAnyH_take (i := 13) (oi := ?or4_13) (v := undef) ?hr4_13 (by kernel_rfl) (by kernel_rfl) (by kernel_rfl) ?qr4_13 (Or.inr ⟨?wr4_13, rfl⟩) (by assumption) ?rr4_13
                            case hr4_13 => (simp only [List.getElem?_toArray, List.getElem?_cons_succ, List.getElem?_cons_zero]; rfl)
                            case qr4_13 => exact fun _ _ _ h => h
                            case wr4_13 => rfl
                            try simp only [Act.put, List.setIfInBounds_toArray, List.set_cons_zero, List.set_cons_succ]
                            refine wpAnyH_take (i := 14) (oi := ?or4_14) (v := undef) ?hr4_14 (by kernel_rfl) (by kernel_rfl) (by kernel_rfl) ?qr4_14 (Or.inr ⟨?wr4_14, rfl⟩) (by assumption) ?rr4_14
                            case hr4_14 => (simp only [List.getElem?_toArray, List.getElem?_cons_succ, List.getElem?_cons_zero]; rfl)
                            case qr4_14 => exact fun _ _ _ h => h
                            case wr4_14 => rfl
                            try simp only [Act.put, List.setIfInBounds_toArray, List.set_cons_zero, List.set_cons_succ]
                            refine wpAnyH_take (i := 15) (oi := ?or4_15) (v := undef) ?hr4_15 (by kernel_rfl) (by kernel_rfl) (by kernel_rfl) ?qr4_15 (Or.inr ⟨?wr4_15, rfl⟩) (by assumption) ?rr4_15
                            case hr4_15 => (simp only [List.getElem?_toArray, List.getElem?_cons_succ, List.getElem?_cons_zero]; rfl)
                            case qr4_15 => exact fun _ _ _ h => h
                            case wr4_15 => rfl
                            try simp only [Act.put, List.setIfInBounds_toArray, List.set_cons_zero, List.set_cons_succ]
                            refine wpAnyH_take (i := 16) (oi := ?or4_16) (v := undef) ?hr4_16 (by kernel_rfl) (by kernel_rfl) (by kernel_rfl) ?qr4_16 (Or.inr ⟨?wr4_16, rfl⟩) (by assumption) ?rr4_16
                            case hr4_16 => (simp only [List.getElem?_toArray, List.getElem?_cons_succ, List.getElem?_cons_zero]; rfl)
                            case qr4_16 => exact fun _ _ _ h => h
                            case wr4_16 => rfl
                            try simp only [Act.put, List.setIfInBounds_toArray, List.set_cons_zero, List.set_cons_succ]
                            refine wpAnyH_take (i := 17) (oi := ?or4_17) (v := undef) ?hr4_17 (by kernel_rfl) (by kernel_rfl) (by kernel_rfl) ?qr4_17 (Or.inr ⟨?wr4_17, rfl⟩) (by assumption) ?rr4_17
                            case hr4_17 => (simp only [List.getElem?_toArray, List.getElem?_cons_succ, List.getElem?_cons_zero]; rfl)
                            case qr4_17 => exact fun _ _ _ h => h
                            case wr4_17 => rfl
                            try simp only [Act.put, List.setIfInBounds_toArray, List.set_cons_zero, List.set_cons_succ]
                            refine wpAnyH_take (i := 18) (oi := ?or4_18) (v := undef) ?hr4_18 (by kernel_rfl) (by kernel_rfl) (by kernel_rfl) ?qr4_18 (Or.inr ⟨?wr4_18, rfl⟩) (by assumption) ?rr4_18
                            case hr4_18 => (simp only [List.getElem?_toArray, List.getElem?_cons_succ, List.getElem?_cons_zero]; rfl)
                            case qr4_18 => exact fun _ _ _ h => h
                            case wr4_18 => rfl
                            try simp only [Act.put, List.setIfInBounds_toArray, List.set_cons_zero, List.set_cons_succ]
                            refine wpAnyH_take (i := 19) (oi := ?or4_19) (v := undef) ?hr4_19 (by kernel_rfl) (by kernel_rfl) (by kernel_rfl) ?qr4_19 (Or.inr ⟨?wr4_19, rfl⟩) (by assumption) ?rr4_19
                            case hr4_19 => (simp only [List.getElem?_toArray, List.getElem?_cons_succ, List.getElem?_cons_zero]; rfl)
                            case qr4_19 => exact fun _ _ _ h => h
                            case wr4_19 => rfl
                            try simp only [Act.put, List.setIfInBounds_toArray, List.set_cons_zero, List.set_cons_succ]
                            refine wpAnyH_take (i := 20) (oi := ?or4_20) (v := undef) ?hr4_20 (by kernel_rfl) (by kernel_rfl) (by kernel_rfl) ?qr4_20 (Or.inr ⟨?wr4_20, rfl⟩) (by assumption) ?rr4_20
                            case hr4_20 => (simp only [List.getElem?_toArray, List.getElem?_cons_succ, List.getElem?_cons_zero]; rfl)
                            case qr4_20 => exact fun _ _ _ h => h
                            case wr4_20 => rfl
                            try simp only [Act.put, List.setIfInBounds_toArray, List.set_cons_zero, List.set_cons_succ]
                            refine wpAnyH_take (i := 21) (oi := ?or4_21) (v := ?vr4_21) ?hr4_21 (by kernel_rfl) (by kernel_rfl) (by kernel_rfl) ?qr4_21 (Or.inl ⟨?wr4_21, ?yr4_21⟩) (by assumption) ?rr4_21
                            case hr4_21 => (simp only [List.getElem?_toArray, List.getElem?_cons_succ, List.getElem?_cons_zero]; rfl)
                            case qr4_21 => exact fun _ _ _ h => h
                            case wr4_21 => rfl
                            case yr4_21 => (intro w hSw; (try dsimp only at hSw); go_simp <;> with_reducible rfl)
                            try simp only [Act.put, List.setIfInBounds_toArray, List.set_cons_zero, List.set_cons_succ]
                            refine wpAnyH_done (by kernel_rfl) ?_ _
                            go_wp2_with fail
                            go_roundw
                            case rel => exact ⟨u + 1, by omega, by rw [HE2.out], by go_num, m + 2, by rw [← hm]; rfl⟩
                            case measure => simp [intOf]; omega
                        · by_cases hoc : o2 = cc
                          · have hocb : ((o2 : Int) == (cc : Int)) = true := by simp [hoc]
                            have HE1' : Hid (eqM P Q R i j cc (u + 1) = xr (xr r (2 ^ u)) (if o1 = i ∧ tb m2 cc = true then 2 ^ u else 0)) := Lib.hid (by rw [HE.out, hbm, if_pos ⟨rfl, hoc⟩])
                            have hxr0 := xor_two hsr (t := u) (by omega)
                            have HSr := Lib.hid (hsr.xr (sm_of_lt (a := u + 1) (by omega) (pow_lt_succ u)))
                            clear hoc
                            go_wp2_with fail
                            refine wp_region_held_drew (S := (fun w' => w'.cell? ⟨g1, 1 + j, none⟩ = some (.slice (some ⟨h1, 0, none⟩) n n) ∧ w'.cell? ⟨h1, i, none⟩ = some (.int .i64 (m1 : Nat)) ∧ w'.cell? ⟨br, ob, none⟩ = some (.int .i64 (o1 : Nat)) ∧ w'.cell? ⟨br, ob + 1, none⟩ = some (.int .i64 (o2 : Nat)))) (by kernel_rfl) (by exact ⟨q1, q2, hc0, hc1⟩) (fun hHeld => ?_)
                            refine wpAnyH_take (i := 0) (oi := ?or5_0) (v := ?vr5_0) ?hr5_0 (by kernel_rfl) (by kernel_rfl) (by kernel_rfl) ?qr5_0 (Or.inl ⟨?wr5_0, ?yr5_0⟩) (by assumption) ?rr5_0
                            case hr5_0 => (simp only [List.getElem?_toArray, List.getElem?_cons_succ, List.getElem?_cons_zero]; rfl)
                            case qr5_0 => exact fun _ _ _ h => h
                            case wr5_0 => rfl
                            case yr5_0 => (intro w hSw; (try dsimp only at hSw); go_simp <;> with_reducible rfl)
                            try simp only [Act.put, List.setIfInBounds_toArray, List.set_cons_zero, List.set_cons_succ]
                            refine wpAnyH_take (i := 1) (oi := ?or5_1) (v := ?vr5_1) ?hr5_1 (by kernel_rfl) (by kernel_rfl) (by kernel_rfl) ?qr5_1 (Or.inl ⟨?wr5_1, ?yr5_1⟩) (by assumption) ?rr5_1
                            case hr5_1 => (simp only [List.getElem?_toArray, List.getElem?_cons_succ, List.getElem?_cons_zero]; rfl)
                            case qr5_1 => exact fun _ _ _ h => h
                            case wr5_1 => rfl
                            case yr5_1 => (intro w hSw; (try dsimp only at hSw); go_simp <;> with_reducible rfl)
                            try simp only [Act.put, List.setIfInBounds_toArray, List.set_cons_zero, List.set_cons_succ]
                            refine wpAnyH_take (i := 2) (oi := ?or5_2) (v := ?vr5_2) ?hr5_2 (by kernel_rfl) (by kernel_rfl) (by kernel_rfl) ?qr5_2 (Or.inl ⟨?wr5_2, ?yr5_2⟩) (by assumption) ?rr5_2
                            case hr5_2 => (simp only [List.getElem?_toArray, List.getElem?_cons_succ, List.getElem?_cons_zero]; rfl)
                            case qr5_2 => exact fun _ _ _ h => h
                            case wr5_2 => rfl
                            case yr5_2 => (intro w hSw; (try dsimp only at hSw); go_simp <;> with_reducible rfl)
                            try simp only [Act.put, List.setIfInBounds_toArray, List.set_cons_zero, List.set_cons_succ]
                            refine wpAnyH_take (i := 3) (oi := ?or5_3) (v := ?vr5_3) ?hr5_3 (by kernel_rfl) (by kernel_rfl) (by kernel_rfl) ?qr5_3 (Or.inl ⟨?wr5_3, ?yr5_3⟩) (by assumption) ?rr5_3
                            case hr5_3 => (simp only [List.getElem?_toArray, List.getElem?_cons_succ, List.getElem?_cons_zero]; rfl)
                            case qr5_3 => exact fun _ _ _ h => h
                            case wr5_3 => rfl
                            case yr5_3 => (intro w hSw; (try dsimp only at hSw); go_simp <;> with_reducible rfl)
                            try simp only [Act.put, List.setIfInBounds_toArray, List.set_cons_zero, List.set_cons_succ]
                            refine wpAnyH_take (i := 4) (oi := ?or5_4) (v := ?vr5_4) ?hr5_4 (by kernel_rfl) (by kernel_rfl) (by kernel_rfl) ?qr5_4 (Or.inl ⟨?wr5_4, ?yr5_4⟩) (by assumption) ?rr5_4
                            case hr5_4 => (simp only [List.getElem?_toArray, List.getElem?_cons_succ, List.getElem?_cons_zero]; rfl)
                            case qr5_4 => exact fun _ _ _ h => h
                            case wr5_4 => rfl
                            case yr5_4 => (intro w hSw; (try dsimp only at hSw); go_simp <;> with_reducible rfl)
                            try simp only [Act.put, List.setIfInBounds_toArray, List.set_cons_zero, List.set_cons_succ]
                            refine wpAnyH_take (i := 5) (oi := ?or5_5) (v := ?vr5_5) ?hr5_5 (by kernel_rfl) (by kernel_rfl) (by kernel_rfl) ?qr5_5 (Or.inl ⟨?wr5_5, ?yr5_5⟩) (by assumption) ?rr5_5
                            case hr5_5 => (simp only [List.getElem?_toArray, List.getElem?_cons_succ, List.getElem?_cons_zero]; rfl)
                            case qr5_5 => exact fun _ _ _ h => h
                            case wr5_5 => rfl
                            case yr5_5 => (intro w hSw; (try dsimp only at hSw); go_simp <;> with_reducible rfl)
                            try simp only [Act.put, List.setIfInBounds_toArray, List.set_cons_zero, List.set_cons_succ]
                            refine wpAnyH_take (i := 6) (oi := ?or5_6) (v := ?vr5_6) ?hr5_6 (by kernel_rfl) (by kernel_rfl) (by kernel_rfl) ?qr5_6 (Or.inl ⟨?wr5_6, ?yr5_6⟩) (by assumption) ?rr5_6
                            case hr5_6 => (simp only [List.getElem?_toArray, List.getElem?_cons_succ, List.getElem?_cons_zero]; rfl)
                            case qr5_6 => exact fun _ _ _ h => h
                            case wr5_6 => rfl
                            case yr5_6 => (intro w hSw; (try dsimp only at hSw); go_simp <;> with_reducible rfl)
                            try simp only [Act.put, List.setIfInBounds_toArray, List.set_cons_zero, List.set_cons_succ]
                            refine wpAnyH_take (i := 7) (oi := ?or5_7) (v := ?vr5_7) ?hr5_7 (by kernel_rfl) (by kernel_rfl) (by kernel_rfl) ?qr5_7 (Or.inl ⟨?wr5_7, ?yr5_7⟩) (by assumption) ?rr5_7
                            case hr5_7 => (simp only [List.getElem?_toArray, List.getElem?_cons_succ, List.getElem?_cons_zero]; rfl)
                            case qr5_7 => exact fun _ _ _ h => h
                            case wr5_7 => rfl
                            case yr5_7 => (intro w hSw; (try dsimp only at hSw); go_simp <;> with_reducible rfl)
                            try simp only [Act.put, List.setIfInBounds_toArray, List.set_cons_zero, List.set_cons_succ]
                            refine wpAnyH_take (i := 8) (oi := ?or5_8) (v := ?vr5_8) ?hr5_8 (by kernel_rfl) (by kernel_rfl) (by kernel_rfl) ?qr5_8 (Or.inl ⟨?wr5_8, ?yr5_8⟩) (by assumption) ?rr5_8
                            case hr5_8 => (simp only [List.getElem?_toArray, List.getElem?_cons_succ, List.getElem?_cons_zero]; rfl)
                            case qr5_8 => exact fun _ _ _ h => h
                            case wr5_8 => rfl
                            case yr5_8 => (intro w hSw; (try dsimp only at hSw); go_simp <;> with_reducible rfl)
                            try simp only [Act.put, List.setIfInBounds_toArray, List.set_cons_zero, List.set_cons_succ]
                            refine wpAnyH_take (i := 9) (oi := ?or5_9) (v := ?vr5_9) ?hr5_9 (by kernel_rfl) (by kernel_rfl) (by kernel_rfl) ?qr5_9 (Or.inl ⟨?wr5_9, ?yr5_9⟩) (by assumption) ?rr5_9
                            case hr5_9 => (simp only [List.getElem?_toArray, List.getElem?_cons_succ, List.getElem?_cons_zero]; rfl)
                            case qr5_9 => exact fun _ _ _ h => h
                            case wr5_9 => rfl
                            case yr5_9 => (intro w hSw; (try dsimp only at hSw); go_simp <;> with_reducible rfl)
                            try simp only [Act.put, List.setIfInBounds_toArray, List.set_cons_zero, List.set_cons_succ]
                            refine wpAnyH_take (i := 10) (oi := ?or5_10) (v := ?vr5_10) ?hr5_10 (by kernel_rfl) (by kernel_rfl) (by kernel_rfl) ?qr5_10 (Or.inl ⟨?wr5_10, ?yr5_10⟩) (by assumption) ?rr5_10
                            case hr5_10 => (simp only [List.getElem?_toArray, List.getElem?_cons_succ, List.getElem?_cons_zero]; rfl)
                            case qr5_10 => exact fun _ _ _ h => h
                            case wr5_10 => rfl
                            case yr5_10 => (intro w hSw; (try dsimp only at hSw); go_simp <;> with_reducible rfl)
                            try simp only [Act.put, List.setIfInBounds_toArray, List.set_cons_zero, List.set_cons_succ]
                            refine wpAnyH_take (i := 11) (oi := ?or5_11) (v := ?vr5_11) ?hr5_11 (by kernel_rfl) (by kernel_rfl) (by kernel_rfl) ?qr5_11 (Or.inl ⟨?wr5_11, ?yr5_11⟩) (by assumption) ?rr5_11
                            case hr5_11 => (simp only [List.getElem?_toArray, List.getElem?_cons_succ, List.getElem?_cons_zero]; rfl)
                            case qr5_11 => exact fun _ _ _ h => h
                            case wr5_11 => rfl
                            case yr5_11 => (intro w hSw; (try dsimp only at hSw); go_simp <;> with_reducible rfl)
                            try simp only [Act.put, List.setIfInBounds_toArray, List.set_cons_zero, List.set_cons_succ]
                            refine wpAnyH_take (i := 12) (oi := ?or5_12) (v := ?vr5_12) ?hr5_12 (by kernel_rfl) (by kernel_rfl) (by kernel_rfl) ?qr5_12 (Or.inl ⟨?wr5_12, ?yr5_12⟩) (by assumption) ?rr5_12
                            case hr5_12 => (simp only [List.getElem?_toArray, List.getElem?_cons_succ, List.getElem?_cons_zero]; rfl)
                            case qr5_12 => exact fun _ _ _ h => h
                            case wr5_12 => rfl
                            case yr5_12 => (intro w hSw; (try dsimp only at hSw); go_simp <;> with_reducible rfl)
                            try simp only [Act.put, List.setIfInBounds_toArray, List.set_cons_zero, List.set_cons_succ]
                            refine wpAnyH_take (i := 13) (oi := ?or5_13) (v := ?vr5_13) ?hr5_13 (by kernel_rfl) (by kernel_rfl) (by kernel_rfl) ?qr5_13 (Or.inl ⟨?wr5_13, ?yr5_13⟩) (by assumption) ?rr5_13
                            case hr5_13 => (simp only [List.getElem?_toArray, List.getElem?_cons_succ, List.getElem?_cons_zero]; rfl)
                            case qr5_13 => exact fun _ _ _ h => h
                            case wr5_13 => rfl
                            case yr5_13 => (intro w hSw; (try dsimp only at hSw); go_simp <;> with_reducible rfl)
                            try simp only [Act.put, List.setIfInBounds_toArray, List.set_cons_zero, List.set_cons_succ]
                            refine wpAnyH_take (i := 14) (oi := ?or5_14) (v := ?vr5_14) ?hr5_14 (by kernel_rfl) (by kernel_rfl) (by kernel_rfl) ?qr5_14 (Or.inl ⟨?wr5_14, ?yr5_14⟩) (by assumption) ?rr5_14
                            case hr5_14 => (simp only [List.getElem?_toArray, List.getElem?_cons_succ, List.getElem?_cons_zero]; rfl)
                            case qr5_14 => exact fun _ _ _ h => h
                            case wr5_14 => rfl
                            case yr5_14 => (intro w hSw; (try dsimp only at hSw); go_simp <;> with_reducible rfl)
                            try simp only [Act.put, List.setIfInBounds_toArray, List.set_cons_zero, List.set_cons_succ]
                            refine wpAnyH_take (i := 15) (oi := ?or5_15) (v := ?vr5_15) ?hr5_15 (by kernel_rfl) (by kernel_rfl) (by kernel_rfl) ?qr5_15 (Or.inl ⟨?wr5_15, ?yr5_15⟩) (by assumption) ?rr5_15
                            case hr5_15 => (simp only [List.getElem?_toArray, List.getElem?_cons_succ, List.getElem?_cons_zero]; rfl)
                            case qr5_15 => exact fun _ _ _ h => h
                            case wr5_15 => rfl
                            case yr5_15 => (intro w hSw; (try dsimp only at hSw); go_simp <;> with_reducible rfl)
                            try simp only [Act.put, List.setIfInBounds_toArray, List.set_cons_zero, List.set_cons_succ]
                            refine wpAnyH_take (i := 16) (oi := ?or5_16) (v := ?vr5_16) ?hr5_16 (by kernel_rfl) (by kernel_rfl) (by kernel_rfl) ?qr5_16 (Or.inl ⟨?wr5_16, ?yr5_16⟩) (by assumption) ?rr5_16
                            case hr5_16 => (simp only [List.getElem?_toArray, List.getElem?_cons_succ, List.getElem?_cons_zero]; rfl)
                            case qr5_16 => exact fun _ _ _ h => h
                            case wr5_16 => rfl
                            case yr5_16 => (intro w hSw; (try dsimp only at hSw); go_simp <;> with_reducible rfl)
                            try simp only [Act.put, List.setIfInBounds_toArray, List.set_cons_zero, List.set_cons_succ]
                            refine wpAnyH_take (i := 17) (oi := ?or5_17) (v := ?vr5_17) ?hr5_17 (by kernel_rfl) (by kernel_rfl) (by kernel_rfl) ?qr5_17 (Or.inl ⟨?wr5_17, ?yr5_17⟩) (by assumption) ?rr5_17
                            case hr5_17 => (simp only [List.getElem?_toArray, List.getElem?_cons_succ, List.getElem?_cons_zero]; rfl)
                            case qr5_17 => exact fun _ _ _ h => h
                            case wr5_17 => rfl
                            case yr5_17 => (intro w hSw; (try dsimp only at hSw); go_simp <;> with_reducible rfl)
                            try simp only [Act.put, List.setIfInBounds_toArray, List.set_cons_zero, List.set_cons_succ]
                            refine wpAnyH_take (i := 18) (oi := ?or5_18) (v := ?vr5_18) ?hr5_18 (by kernel_rfl) (by kernel_rfl) (by kernel_rfl) ?qr5_18 (Or.inl ⟨?wr5_18, ?yr5_18⟩) (by assumption) ?rr5_18
                            case hr5_18 => (simp only [List.getElem?_toArray, List.getElem?_cons_succ, List.getElem?_cons_zero]; rfl)
                            case qr5_18 => exact fun _ _ _ h => h
                            case wr5_18 => rfl
                            case yr5_18 => (intro w hSw; (try dsimp only at hSw); go_simp <;> with_reducible rfl)
                            try simp only [Act.put, List.setIfInBounds_toArray, List.set_cons_zero, List.set_cons_succ]
                            refine wpAnyH_take (i := 19) (oi := ?or5_19) (v := ?vr5_19) ?hr5_19 (by kernel_rfl) (by kernel_rfl) (by kernel_rfl) ?qr5_19 (Or.inl ⟨?wr5_19, ?yr5_19⟩) (by assumption) ?rr5_19
                            case hr5_19 => (simp only [List.getElem?_toArray, List.getElem?_cons_succ, List.getElem?_cons_zero]; rfl)
                            case qr5_19 => exact fun _ _ _ h => h
                            case wr5_19 => rfl
                            case yr5_19 => (intro w hSw; (try dsimp only at hSw); go_simp <;> with_reducible rfl)
                            try simp only [Act.put, List.setIfInBounds_toArray, List.set_cons_zero, List.set_cons_succ]
                            refine wpAnyH_take (i := 20) (oi := ?or5_20) (v := ?vr5_20) ?hr5_20 (by kernel_rfl) (by kernel_rfl) (by kernel_rfl) ?qr5_20 (Or.inl ⟨?wr5_20, ?yr5_20⟩) (by assumption) ?rr5_20
                            case hr5_20 => (simp only [List.getElem?_toArray, List.getElem?_cons_succ, List.getElem?_cons_zero]; rfl)
                            case qr5_20 => exact fun _ _ _ h => h
                            case wr5_20 => rfl
                            case yr5_20 => (intro w hSw; (try dsimp only at hSw); go_simp <;> with_reducible rfl)
                            try simp only [Act.put, List.setIfInBounds_toArray, List.set_cons_zero, List.set_cons_succ]
                            refine wpAnyH_take (i := 21) (oi := ?or5_21) (v := ?vr5_21) ?hr5_21 (by kernel_rfl) (by kernel_rfl) (by kernel_rfl) ?qr5_21 (Or.inl ⟨?wr5_21, ?yr5_21⟩) (by assumption) ?rr5_21
                            case hr5_21 => (simp only [List.getElem?_toArray, List.getElem?_cons_succ, List.getElem?_cons_zero]; rfl)
                            case qr5_21 => exact fun _ _ _ h => h
                            case wr5_21 => rfl
                            case yr5_21 => (intro w hSw; (try dsimp only at hSw); go_simp <;> with_reducible rfl)
                            try simp only [Act.put, List.setIfInBounds_toArray, List.set_cons_zero, List.set_cons_succ]
                            refine wpAnyH_done (by kernel_rfl) ?_ _
                            go_wp2_with fail
                            have HE1 := HE1'
                            generalize xr r (2 ^ u) = r at *
                            clear hxr0
                            by_cases hoi : o1 = i
                            · have hoib : ((o1 : Int) == (i : Int)) = true := by simp [hoi]
                              cases hbn : tb m2 cc
                              · have HE2 : Hid (eqM P Q R i j cc (u + 1) = r) := Lib.hid (by rw [HE1.out, hbn, if_neg (by simp), xr_zero])
                                clear hoi
                                go_wp2_with fail
                                refine wp_region_held_drew (S := (fun w' => w'.cell? ⟨g2, 1 + j, none⟩ = some (.slice (some ⟨h2, 0, none⟩) p p) ∧ w'.cell? ⟨h2, o2, none⟩ = some (.int .i64 (m2 : Nat)) ∧ w'.cell? ⟨br, ob, none⟩ = some (.int .i64 (o1 : Nat)) ∧ w'.cell? ⟨br, ob + 1, none⟩ = some (.int .i64 (o2 : Nat)))) (by kernel_rfl) (by exact ⟨q3, q4, hc0, hc1⟩) (fun hHeld => ?_)
                                refine wpAnyH_take (i := 0) (oi := ?or6_0) (v := ?vr6_0) ?hr6_0 (by kernel_rfl) (by kernel_rfl) (by kernel_rfl) ?qr6_0 (Or.inl ⟨?wr6_0, ?yr6_0⟩) (by assumption) ?rr6_0
                                case hr6_0 => (simp only [List.getElem?_toArray, List.getElem?_cons_succ, List.getElem?_cons_zero]; rfl)
                                case qr6_0 => exact fun _ _ _ h => h
                                case wr6_0 => rfl
                                case yr6_0 => (intro w hSw; (try dsimp only at hSw); go_simp <;> with_reducible rfl)
                                try simp only [Act.put, List.setIfInBounds_toArray, List.set_cons_zero, List.set_cons_succ]
                                refine wpAnyH_take (i := 1) (oi := ?or6_1) (v := ?vr6_1) ?hr6_1 (by kernel_rfl) (by kernel_rfl) (by kernel_rfl) ?qr6_1 (Or.inl ⟨?wr6_1, ?yr6_1⟩) (by assumption) ?rr6_1
                                case hr6_1 => (simp only [List.getElem?_toArray, List.getElem?_cons_succ, List.getElem?_cons_zero]; rfl)
                                case qr6_1 => exact fun _ _ _ h => h
                                case wr6_1 => rfl
                                case yr6_1 => (intro w hSw; (try dsimp only at hSw); go_simp <;> with_reducible rfl)
                                try simp only [Act.put, List.setIfInBounds_toArray, List.set_cons_zero, List.set_cons_succ]
                                refine wpAnyH_take (i := 2) (oi := ?or6_2) (v := ?vr6_2) ?hr6_2 (by kernel_rfl) (by kernel_rfl) (by kernel_rfl) ?qr6_2 (Or.inl ⟨?wr6_2, ?yr6_2⟩) (by assumption) ?rr6_2
                                case hr6_2 => (simp only [List.getElem?_toArray, List.getElem?_cons_succ, List.getElem?_cons_zero]; rfl)
                                case qr6_2 => exact fun _ _ _ h => h
                                case wr6_2 => rfl
                                case yr6_2 => (intro w hSw; (try dsimp only at hSw); go_simp <;> with_reducible rfl)
                                try simp only [Act.put, List.setIfInBounds_toArray, List.set_cons_zero, List.set_cons_succ]
                                refine wpAnyH_take (i := 3) (oi := ?or6_3) (v := ?vr6_3) ?hr6_3 (by kernel_rfl) (by kernel_rfl) (by kernel_rfl) ?qr6_3 (Or.inl ⟨?wr6_3, ?yr6_3⟩) (by assumption) ?rr6_3
                                case hr6_3 => (simp only [List.getElem?_toArray, List.getElem?_cons_succ, List.getElem?_cons_zero]; rfl)
                                case qr6_3 => exact fun _ _ _ h => h
                                case wr6_3 => rfl
                                case yr6_3 => (intro w hSw; (try dsimp only at hSw); go_simp <;> with_reducible rfl)
                                try simp only [Act.put, List.setIfInBounds_toArray, List.set_cons_zero, List.set_cons_succ]
                                refine wpAnyH_take (i := 4) (oi := ?or6_4) (v := ?vr6_4) ?hr6_4 (by kernel_rfl) (by kernel_rfl) (by kernel_rfl) ?qr6_4 (Or.inl ⟨?wr6_4, ?yr6_4⟩) (by assumption) ?rr6_4
                                case hr6_4 => (simp only [List.getElem?_toArray, List.getElem?_cons_succ, List.getElem?_cons_zero]; rfl)
                                case qr6_4 => exact fun _ _ _ h => h
                                case wr6_4 => rfl
                                case yr6_4 => (intro w hSw; (try dsimp only at hSw); go_simp <;> with_reducible rfl)
                                try simp only [Act.put, List.setIfInBounds_toArray, List.set_cons_zero, List.set_cons_succ]
                                refine wpAnyH_take (i := 5) (oi := ?or6_5) (v := ?vr6_5) ?hr6_5 (by kernel_rfl) (by kernel_rfl) (by kernel_rfl) ?qr6_5 (Or.inl ⟨?wr6_5, ?yr6_5⟩) (by assumption) ?rr6_5
                                case hr6_5 => (simp only [List.getElem?_toArray, List.getElem?_cons_succ, List.getElem?_cons_zero]; rfl)
                                case qr6_5 => exact fun _ _ _ h => h
                                case wr6_5 => rfl
                                case yr6_5 => (intro w hSw; (try dsimp only at hSw); go_simp <;> with_reducible rfl)
                                try simp only [Act.put, List.setIfInBounds_toArray, List.set_cons_zero, List.set_cons_succ]
                                refine wpAnyH_take (i := 6) (oi := ?or6_6) (v := ?vr6_6) ?hr6_6 (by kernel_rfl) (by kernel_rfl) (by kernel_rfl) ?qr6_6 (Or.inl ⟨?wr6_6, ?yr6_6⟩) (by assumption) ?rr6_6
                                case hr6_6 => (simp only [List.getElem?_toArray, List.getElem?_cons_succ, List.getElem?_cons_zero]; rfl)
                                case qr6_6 => exact fun _ _ _ h => h
                                case wr6_6 => rfl
                                case yr6_6 => (intro w hSw; (try dsimp only at hSw); go_simp <;> with_reducible rfl)
                                try simp only [Act.put, List.setIfInBounds_toArray, List.set_cons_zero, List.set_cons_succ]
                                refine wpAnyH_take (i := 7) (oi := ?or6_7) (v := ?vr6_7) ?hr6_7 (by kernel_rfl) (by kernel_rfl) (by kernel_rfl) ?qr6_7 (Or.inl ⟨?wr6_7, ?yr6_7⟩) (by assumption) ?rr6_7
                                case hr6_7 => (simp only [List.getElem?_toArray, List.getElem?_cons_succ, List.getElem?_cons_zero]; rfl)
                                case qr6_7 => exact fun _ _ _ h => h
                                case wr6_7 => rfl
                                case yr6_7 => (intro w hSw; (try dsimp only at hSw); go_simp <;> with_reducible rfl)
                                try simp only [Act.put, List.setIfInBounds_toArray, List.set_cons_zero, List.set_cons_succ]
                                refine wpAnyH_take (i := 8) (oi := ?or6_8) (v := ?vr6_8) ?hr6_8 (by kernel_rfl) (by kernel_rfl) (by kernel_rfl) ?qr6_8 (Or.inl ⟨?wr6_8, ?yr6_8⟩) (by assumption) ?rr6_8
                                case hr6_8 => (simp only [List.getElem?_toArray, List.getElem?_cons_succ, List.getElem?_cons_zero]; rfl)
                                case qr6_8 => exact fun _ _ _ h => h
                                case wr6_8 => rfl
                                case yr6_8 => (intro w hSw; (try dsimp only at hSw); go_simp <;> with_reducible rfl)
                                try simp only [Act.put, List.setIfInBounds_toArray, List.set_cons_zero, List.set_cons_succ]
                                refine wpAnyH_take (i := 9) (oi := ?or6_9) (v := ?vr6_9) ?hr6_9 (by kernel_rfl) (by kernel_rfl) (by kernel_rfl) ?qr6_9 (Or.inl ⟨?wr6_9, ?yr6_9⟩) (by assumption) ?rr6_9
                                case hr6_9 => (simp only [List.getElem?_toArray, List.getElem?_cons_succ, List.getElem?_cons_zero]; rfl)
                                case qr6_9 => exact fun _ _ _ h => h
                                case wr6_9 => rfl
                                case yr6_9 => (intro w hSw; (try dsimp only at hSw); go_simp <;> with_reducible rfl)
                                try simp only [Act.put, List.setIfInBounds_toArray, List.set_cons_zero, List.set_cons_succ]
                                refine wpAnyH_take (i := 10) (oi := ?or6_10) (v := ?vr6_10) ?hr6_10 (by kernel_rfl) (by kernel_rfl) (by kernel_rfl) ?qr6_10 (Or.inl ⟨?wr6_10, ?yr6_10⟩) (by assumption) ?rr6_10
                                case hr6_10 => (simp only [List.getElem?_toArray, List.getElem?_cons_succ, List.getElem?_cons_zero]; rfl)
                                case qr6_10 => exact fun _ _ _ h => h
                                case wr6_10 => rfl
                                case yr6_10 => (intro w hSw; (try dsimp only at hSw); go_simp <;> with_reducible rfl)
                                try simp only [Act.put, List.setIfInBounds_toArray, List.set_cons_zero, List.set_cons_succ]
                                refine wpAnyH_take (i := 11) (oi := ?or6_11) (v := ?vr6_11) ?hr6_11 (by kernel_rfl) (by kernel_rfl) (by kernel_rfl) ?qr6_11 (Or.inl ⟨?wr6_11, ?yr6_11⟩) (by assumption) ?rr6_11
                                case hr6_11 => (simp only [List.getElem?_toArray, List.getElem?_cons_succ, List.getElem?_cons_zero]; rfl)
                                case qr6_11 => exact fun _ _ _ h => h
                                case wr6_11 => rfl
                                case yr6_11 => (intro w hSw; (try dsimp only at hSw); go_simp <;> with_reducible rfl)
                                try simp only [Act.put, List.setIfInBounds_toArray, List.set_cons_zero, List.set_cons_succ]
                                refine wpAnyH_take (i := 12) (oi := ?or6_12) (v := ?vr6_12) ?hr6_12 (by kernel_rfl) (by kernel_rfl) (by kernel_rfl) ?qr6_12 (Or.inl ⟨?wr6_12, ?yr6_12⟩) (by assumption) ?rr6_12
                                case hr6_12 => (simp only [List.getElem?_toArray, List.getElem?_cons_succ, List.getElem?_cons_zero]; rfl)
                                case qr6_12 => exact fun _ _ _ h => h
                                case wr6_12 => rfl
                                case yr6_12 => (intro w hSw; (try dsimp only at hSw); go_simp <;> with_reducible rfl)
                                try simp only [Act.put, List.setIfInBounds_toArray, List.set_cons_zero, List.set_cons_succ]
                                refine wpAnyH_take (i := 13) (oi := ?or6_13) (v := ?vr6_13) ?hr6_13 (by kernel_rfl) (by kernel_rfl) (by kernel_rfl) ?qr6_13 (Or.inl ⟨?wr6_13, ?yr6_13⟩) (by assumption) ?rr6_13
                                case hr6_13 => (simp only [List.getElem?_toArray, List.getElem?_cons_succ, List.getElem?_cons_zero]; rfl)
                                case qr6_13 => exact fun _ _ _ h => h
                                case wr6_13 => rfl
                                case yr6_13 => (intro w hSw; (try dsimp only at hSw); go_simp <;> with_reducible rfl)
                                try simp only [Act.put, List.setIfInBounds_toArray, List.set_cons_zero, List.set_cons_succ]
                                refine wpAnyH_take (i := 14) (oi := ?or6_14) (v := ?vr6_14) ?hr6_14 (by kernel_rfl) (by kernel_rfl) (by kernel_rfl) ?qr6_14 (Or.inl ⟨?wr6_14, ?yr6_14⟩) (by assumption) ?rr6_14
                                case hr6_14 => (simp only [List.getElem?_toArray, List.getElem?_cons_succ, List.getElem?_cons_zero]; rfl)
                                case qr6_14 => exact fun _ _ _ h => h
                                case wr6_14 => rfl
                                case yr6_14 => (intro w hSw; (try dsimp only at hSw); go_simp <;> with_reducible rfl)
                                try simp only [Act.put, List.setIfInBounds_toArray, List.set_cons_zero, List.set_cons_succ]
                                refine wpAnyH_take (i := 15) (oi := ?or6_15) (v := ?vr6_15) ?hr6_15 (by kernel_rfl) (by kernel_rfl) (by kernel_rfl) ?qr6_15 (Or.inl ⟨?wr6_15, ?yr6_15⟩) (by assumption) ?rr6_15
                                case hr6_15 => (simp only [List.getElem?_toArray, List.getElem?_cons_succ, List.getElem?_cons_zero]; rfl)
                                case qr6_15 => exact fun _ _ _ h => h
                                case wr6_15 => rfl
                                case yr6_15 => (intro w hSw; (try dsimp only at hSw); go_simp <;> with_reducible rfl)
                                try simp only [Act.put, List.setIfInBounds_toArray, List.set_cons_zero, List.set_cons_succ]
                                refine wpAnyH_take (i := 16) (oi := ?or6_16) (v := ?vr6_16) ?hr6_16 (by kernel_rfl) (by kernel_rfl) (by kernel_rfl) ?qr6_16 (Or.inl ⟨?wr6_16, ?yr6_16⟩) (by assumption) ?rr6_16
                                case hr6_16 => (simp only [List.getElem?_toArray, List.getElem?_cons_succ, List.getElem?_cons_zero]; rfl)
                                case qr6_16 => exact fun _ _ _ h => h
                                case wr6_16 => rfl
                                case yr6_16 => (intro w hSw; (try dsimp only at hSw); go_simp <;> with_reducible rfl)
                                try simp only [Act.put, List.setIfInBounds_toArray, List.set_cons_zero, List.set_cons_succ]
                                refine wpAnyH_take (i := 17) (oi := ?or6_17) (v := ?vr6_17) ?hr6_17 (by kernel_rfl) (by kernel_rfl) (by kernel_rfl) ?qr6_17 (Or.inl ⟨?wr6_17, ?yr6_17⟩) (by assumption) ?rr6_17
                                case hr6_17 => (simp only [List.getElem?_toArray, List.getElem?_cons_succ, List.getElem?_cons_zero]; rfl)
                                case qr6_17 => exact fun _ _ _ h => h
                                case wr6_17 => rfl
                                case yr6_17 => (intro w hSw; (try dsimp only at hSw); go_simp <;> with_reducible rfl)
                                try simp only [Act.put, List.setIfInBounds_toArray, List.set_cons_zero, List.set_cons_succ]
                                refine wpAnyH_take (i := 18) (oi := ?or6_18) (v := ?vr6_18) ?hr6_18 (by kernel_rfl) (by kernel_rfl) (by kernel_rfl) ?qr6_18 (Or.inl ⟨?wr6_18, ?yr6_18⟩) (by assumption) ?rr6_18
                                case hr6_18 => (simp only [List.getElem?_toArray, List.getElem?_cons_succ, List.getElem?_cons_zero]; rfl)
                                case qr6_18 => exact fun _ _ _ h => h
                                case wr6_18 => rfl
                                case yr6_18 => (intro w hSw; (try dsimp only at hSw); go_simp <;> with_reducible rfl)
                                try simp only [Act.put, List.setIfInBounds_toArray, List.set_cons_zero, List.set_cons_succ]
                                refine wpAnyH_take (i := 19) (oi := ?or6_19) (v := ?vr6_19) ?hr6_19 (by kernel_rfl) (by kernel_rfl) (by kernel_rfl) ?qr6_19 (Or.inl ⟨?wr6_19, ?yr6_19⟩) (by assumption) ?rr6_19
                                case hr6_19 => (simp only [List.getElem?_toArray, List.getElem?_cons_succ, List.getElem?_cons_zero]; rfl)
                                case qr6_19 => exact fun _ _ _ h => h
                                case wr6_19 => rfl
                                case yr6_19 => (intro w hSw; (try dsimp only at hSw); go_simp <;> with_reducible rfl)
                                try simp only [Act.put, List.setIfInBounds_toArray, List.set_cons_zero, List.set_cons_succ]
                                refine wpAnyH_take (i := 20) (oi := ?or6_20) (v := ?vr6_20) ?hr6_20 (by kernel_rfl) (by kernel_rfl) (by kernel_rfl) ?qr6_20 (Or.inl ⟨?wr6_20, ?yr6_20⟩) (by assumption) ?rr6_20
                                case hr6_20 => (simp only [List.getElem?_toArray, List.getElem?_cons_succ, List.getElem?_cons_zero]; rfl)
                                case qr6_20 => exact fun _ _ _ h => h
                                case wr6_20 => rfl
                                case yr6_20 => (intro w hSw; (try dsimp only at hSw); go_simp <;> with_reducible rfl)
                                try simp only [Act.put, List.setIfInBounds_toArray, List.set_cons_zero, List.set_cons_succ]
                                refine wpAnyH_take (i := 21) (oi := ?or6_21) (v := ?vr6_21) ?hr6_21 (by kernel_rfl) (by kernel_rfl) (by kernel_rfl) ?qr6_21 (Or.inl ⟨?wr6_21, ?yr6_21⟩) (by assumption) ?rr6_21
                                case hr6_21 => (simp only [List.getElem?_toArray, List.getElem?_cons_succ, List.getElem?_cons_zero]; rfl)
                                case qr6_21 => exact fun _ _ _ h => h
                                case wr6_21 => rfl
                                case yr6_21 => (intro w hSw; (try dsimp only at hSw); go_simp <;> with_reducible rfl)
                                try simp only [Act.put, List.setIfInBounds_toArray, List.set_cons_zero, List.set_cons_succ]
                                refine wpAnyH_done (by kernel_rfl) ?_ _
                                go_wp2_with fail
                                go_roundw
                                case rel => exact ⟨u + 1, by omega, by rw [HE2.out], by go_num, m + 2, by rw [← hm]; rfl⟩
                                case measure => simp [intOf]; omega
                              · have HE2 : Hid (eqM P Q R i j cc (u + 1) = xr r (2 ^ u)) := Lib.hid (by rw [HE1.out, hbn, if_pos ⟨hoi, rfl⟩])
                                have hxr := xor_two HSr.out (t := u) (by omega)
                                clear hoi
                                go_wp2_with fail
                                refine wp_region_held_drew (S := (fun w' => w'.cell? ⟨g2, 1 + j, none⟩ = some (.slice (some ⟨h2, 0, none⟩) p p) ∧ w'.cell? ⟨h2, o2, none⟩ = some (.int .i64 (m2 : Nat)) ∧ w'.cell? ⟨br, ob, none⟩ = some (.int .i64 (o1 : Nat)) ∧ w'.cell? ⟨br, ob + 1, none⟩ = some (.int .i64 (o2 : Nat)))) (by kernel_rfl) (by exact ⟨q3, q4, hc0, hc1⟩) (fun hHeld => ?_)
                                refine wpAnyH_take (i := 0) (oi := ?or7_0) (v := ?vr7_0) ?hr7_0 (by kernel_rfl) (by kernel_rfl) (by kernel_rfl) ?qr7_0 (Or.inl ⟨?wr7_0, ?yr7_0⟩) (by assumption) ?rr7_0
                                case hr7_0 => (simp only [List.getElem?_toArray, List.getElem?_cons_succ, List.getElem?_cons_zero]; rfl)
                                case qr7_0 => exact fun _ _ _ h => h
                                case wr7_0 => rfl
                                case yr7_0 => (intro w hSw; (try dsimp only at hSw); go_simp <;> with_reducible rfl)
                                try simp only [Act.put, List.setIfInBounds_toArray, List.set_cons_zero, List.set_cons_succ]
                                refine wpAnyH_take (i := 1) (oi := ?or7_1) (v := ?vr7_1) ?hr7_1 (by kernel_rfl) (by kernel_rfl) (by kernel_rfl) ?qr7_1 (Or.inl ⟨?wr7_1, ?yr7_1⟩) (by assumption) ?rr7_1
                                case hr7_1 => (simp only [List.getElem?_toArray, List.getElem?_cons_succ, List.getElem?_cons_zero]; rfl)
                                case qr7_1 => exact fun _ _ _ h => h
                                case wr7_1 => rfl
                                case yr7_1 => (intro w hSw; (try dsimp only at hSw); go_simp <;> with_reducible rfl)
                                try simp only [Act.put, List.setIfInBounds_toArray, List.set_cons_zero, List.set_cons_succ]
                                refine wpAnyH_take (i := 2) (oi := ?or7_2) (v := ?vr7_2) ?hr7_2 (by kernel_rfl) (by kernel_rfl) (by kernel_rfl) ?qr7_2 (Or.inl ⟨?wr7_2, ?yr7_2⟩) (by assumption) ?rr7_2
                                case hr7_2 => (simp only [List.getElem?_toArray, List.getElem?_cons_succ, List.getElem?_cons_zero]; rfl)
                                case qr7_2 => exact fun _ _ _ h => h
                                case wr7_2 => rfl
                                case yr7_2 => (intro w hSw; (try dsimp only at hSw); go_simp <;> with_reducible rfl)
                                try simp only [Act.put, List.setIfInBounds_toArray, List.set_cons_zero, List.set_cons_succ]
                                refine wpAnyH_take (i := 3) (oi := ?or7_3) (v := ?vr7_3) ?hr7_3 (by kernel_rfl) (by kernel_rfl) (by kernel_rfl) ?qr7_3 (Or.inl ⟨?wr7_3, ?yr7_3⟩) (by assumption) ?rr7_3
                                case hr7_3 => (simp only [List.getElem?_toArray, List.getElem?_cons_succ, List.getElem?_cons_zero]; rfl)
                                case qr7_3 => exact fun _ _ _ h => h
                                case wr7_3 => rfl
                                case yr7_3 => (intro w hSw; (try dsimp only at hSw); go_simp <;> with_reducible rfl)
                                try simp only [Act.put, List.setIfInBounds_toArray, List.set_cons_zero, List.set_cons_succ]
                                refine wpAnyH_take (i := 4) (oi := ?or7_4) (v := ?vr7_4) ?hr7_4 (by kernel_rfl) (by kernel_rfl) (by kernel_rfl) ?qr7_4 (Or.inl ⟨?wr7_4, ?yr7_4⟩) (by assumption) ?rr7_4
                                case hr7_4 => (simp only [List.getElem?_toArray, List.getElem?_cons_succ, List.getElem?_cons_zero]; rfl)
                                case qr7_4 => exact fun _ _ _ h => h
                                case wr7_4 => rfl
                                case yr7_4 => (intro w hSw; (try dsimp only at hSw); go_simp <;> with_reducible rfl)
                                try simp only [Act.put, List.setIfInBounds_toArray, List.set_cons_zero, List.set_cons_succ]
                                refine wpAnyH_take (i := 5) (oi := ?or7_5) (v := ?vr7_5) ?hr7_5 (by kernel_rfl) (by kernel_rfl) (by kernel_rfl) ?qr7_5 (Or.inl ⟨?wr7_5, ?yr7_5⟩) (by assumption) ?rr7_5
                                case hr7_5 => (simp only [List.getElem?_toArray, List.getElem?_cons_succ, List.getElem?_cons_zero]; rfl)
                                case qr7_5 => exact fun _ _ _ h => h
                                case wr7_5 => rfl
                                case yr7_5 => (intro w hSw; (try dsimp only at hSw); go_simp <;> with_reducible rfl)
                                try simp only [Act.put, List.setIfInBounds_toArray, List.set_cons_zero, List.set_cons_succ]
                                refine wpAnyH_take (i := 6) (oi := ?or7_6) (v := ?vr7_6) ?hr7_6 (by kernel_rfl) (by kernel_rfl) (by kernel_rfl) ?qr7_6 (Or.inl ⟨?wr7_6, ?yr7_6⟩) (by assumption) ?rr7_6
                                case hr7_6 => (simp only [List.getElem?_toArray, List.getElem?_cons_succ, List.getElem?_cons_zero]; rfl)
                                case qr7_6 => exact fun _ _ _ h => h
                                case wr7_6 => rfl
                                case yr7_6 => (intro w hSw; (try dsimp only at hSw); go_simp <;> with_reducible rfl)
                                try simp only [Act.put, List.setIfInBounds_toArray, List.set_cons_zero, List.set_cons_succ]
                                refine wpAnyH_take (i := 7) (oi := ?or7_7) (v := ?vr7_7) ?hr7_7 (by kernel_rfl) (by kernel_rfl) (by kernel_rfl) ?qr7_7 (Or.inl ⟨?wr7_7, ?yr7_7⟩) (by assumption) ?rr7_7
                                case hr7_7 => (simp only [List.getElem?_toArray, List.getElem?_cons_succ, List.getElem?_cons_zero]; rfl)
                                case qr7_7 => exact fun _ _ _ h => h
                                case wr7_7 => rfl
                                case yr7_7 => (intro w hSw; (try dsimp only at hSw); go_simp <;> with_reducible rfl)
                                try simp only [Act.put, List.setIfInBounds_toArray, List.set_cons_zero, List.set_cons_succ]
                                refine wpAnyH_take (i := 8) (oi := ?or7_8) (v := ?vr7_8) ?hr7_8 (by kernel_rfl) (by kernel_rfl) (by kernel_rfl) ?qr7_8 (Or.inl ⟨?wr7_8, ?yr7_8⟩) (by assumption) ?rr7_8
                                case hr7_8 => (simp only [List.getElem?_toArray, List.getElem?_cons_succ, List.getElem?_cons_zero]; rfl)
                                case qr7_8 => exact fun _ _ _ h => h
                                case wr7_8 => rfl
                                case yr7_8 => (intro w hSw; (try dsimp only at hSw); go_simp <;> with_reducible rfl)
                                try simp only [Act.put, List.setIfInBounds_toArray, List.set_cons_zero, List.set_cons_succ]
                                refine wpAnyH_take (i := 9) (oi := ?or7_9) (v := ?vr7_9) ?hr7_9 (by kernel_rfl) (by kernel_rfl) (by kernel_rfl) ?qr7_9 (Or.inl ⟨?wr7_9, ?yr7_9⟩) (by assumption) ?rr7_9
                                case hr7_9 => (simp only [List.getElem?_toArray, List.getElem?_cons_succ, List.getElem?_cons_zero]; rfl)
                                case qr7_9 => exact fun _ _ _ h => h
                                case wr7_9 => rfl
                                case yr7_9 => (intro w hSw; (try dsimp only at hSw); go_simp <;> with_reducible rfl)
                                try simp only [Act.put, List.setIfInBounds_toArray, List.set_cons_zero, List.set_cons_succ]
                                refine wpAnyH_take (i := 10) (oi := ?or7_10) (v := ?vr7_10) ?hr7_10 (by kernel_rfl) (by kernel_rfl) (by kernel_rfl) ?qr7_10 (Or.inl ⟨?wr7_10, ?yr7_10⟩) (by assumption) ?rr7_10
                                case hr7_10 => (simp only [List.getElem?_toArray, List.getElem?_cons_succ, List.getElem?_cons_zero]; rfl)
                                case qr7_10 => exact fun _ _ _ h => h
                                case wr7_10 => rfl
                                case yr7_10 => (intro w hSw; (try dsimp only at hSw); go_simp <;> with_reducible rfl)
                                try simp only [Act.put, List.setIfInBounds_toArray, List.set_cons_zero, List.set_cons_succ]
                                refine wpAnyH_take (i := 11) (oi := ?or7_11) (v := ?vr7_11) ?hr7_11 (by kernel_rfl) (by kernel_rfl) (by kernel_rfl) ?qr7_11 (Or.inl ⟨?wr7_11, ?yr7_11⟩) (by assumption) ?rr7_11
                                case hr7_11 => (simp only [List.getElem?_toArray, List.getElem?_cons_succ, List.getElem?_cons_zero]; rfl)
                                case qr7_11 => exact fun _ _ _ h => h
                                case wr7_11 => rfl
                                case yr7_11 => (intro w hSw; (try dsimp only at hSw); go_simp <;> with_reducible rfl)
                                try simp only [Act.put, List.setIfInBounds_toArray, List.set_cons_zero, List.set_cons_succ]
                                refine wpAnyH_take (i := 12) (oi := ?or7_12) (v := ?vr7_12) ?hr7_12 (by kernel_rfl) (by kernel_rfl) (by kernel_rfl) ?qr7_12 (Or.inl ⟨?wr7_12, ?yr7_12⟩) (by assumption) ?rr7_12
                                case hr7_12 => (simp only [List.getElem?_toArray, List.getElem?_cons_succ, List.getElem?_cons_zero]; rfl)
                                case qr7_12 => exact fun _ _ _ h => h
                                case wr7_12 => rfl
                                case yr7_12 => (intro w hSw; (try dsimp only at hSw); go_simp <;> with_reducible rfl)
                                try simp only [Act.put, List.setIfInBounds_toArray, List.set_cons_zero, List.set_cons_succ]
                                refine wpAnyH_take (i := 13) (oi := ?or7_13) (v := ?vr7_13) ?hr7_13 (by kernel_rfl) (by kernel_rfl) (by kernel_rfl) ?qr7_13 (Or.inl ⟨?wr7_13, ?yr7_13⟩) (by assumption) ?rr7_13
                                case hr7_13 => (simp only [List.getElem?_toArray, List.getElem?_cons_succ, List.getElem?_cons_zero]; rfl)
                                case qr7_13 => exact fun _ _ _ h => h
                                case wr7_13 => rfl
                                case yr7_13 => (intro w hSw; (try dsimp only at hSw); go_simp <;> with_reducible rfl)
                                try simp only [Act.put, List.setIfInBounds_toArray, List.set_cons_zero, List.set_cons_succ]
                                refine wpAnyH_take (i := 14) (oi := ?or7_14) (v := ?vr7_14) ?hr7_14 (by kernel_rfl) (by kernel_rfl) (by kernel_rfl) ?qr7_14 (Or.inl ⟨?wr7_14, ?yr7_14⟩) (by assumption) ?rr7_14
                                case hr7_14 => (simp only [List.getElem?_toArray, List.getElem?_cons_succ, List.getElem?_cons_zero]; rfl)
                                case qr7_14 => exact fun _ _ _ h => h
                                case wr7_14 => rfl
                                case yr7_14 => (intro w hSw; (try dsimp only at hSw); go_simp <;> with_reducible rfl)
                                try simp only [Act.put, List.setIfInBounds_toArray, List.set_cons_zero, List.set_cons_succ]
                                refine wpAnyH_take (i := 15) (oi := ?or7_15) (v := ?vr7_15) ?hr7_15 (by kernel_rfl) (by kernel_rfl) (by kernel_rfl) ?qr7_15 (Or.inl ⟨?wr7_15, ?yr7_15⟩) (by assumption) ?rr7_15
                                case hr7_15 => (simp only [List.getElem?_toArray, List.getElem?_cons_succ, List.getElem?_cons_zero]; rfl)
                                case qr7_15 => exact fun _ _ _ h => h
                                case wr7_15 => rfl
                                case yr7_15 => (intro w hSw; (try dsimp only at hSw); go_simp <;> with_reducible rfl)
                                try simp only [Act.put, List.setIfInBounds_toArray, List.set_cons_zero, List.set_cons_succ]
                                refine wpAnyH_take (i := 16) (oi := ?or7_16) (v := ?vr7_16) ?hr7_16 (by kernel_rfl) (by kernel_rfl) (by kernel_rfl) ?qr7_16 (Or.inl ⟨?wr7_16, ?yr7_16⟩) (by assumption) ?rr7_16
                                case hr7_16 => (simp only [List.getElem?_toArray, List.getElem?_cons_succ, List.getElem?_cons_zero]; rfl)
                                case qr7_16 => exact fun _ _ _ h => h
                                case wr7_16 => rfl
                                case yr7_16 => (intro w hSw; (try dsimp only at hSw); go_simp <;> with_reducible rfl)
                                try simp only [Act.put, List.setIfInBounds_toArray, List.set_cons_zero, List.set_cons_succ]
                                refine wpAnyH_take (i := 17) (oi := ?or7_17) (v := ?vr7_17) ?hr7_17 (by kernel_rfl) (by kernel_rfl) (by kernel_rfl) ?qr7_17 (Or.inl ⟨?wr7_17, ?yr7_17⟩) (by assumption) ?rr7_17
                                case hr7_17 => (simp only [List.getElem?_toArray, List.getElem?_cons_succ, List.getElem?_cons_zero]; rfl)
                                case qr7_17 => exact fun _ _ _ h => h
                                case wr7_17 => rfl
                                case yr7_17 => (intro w hSw; (try dsimp only at hSw); go_simp <;> with_reducible rfl)
                                try simp only [Act.put, List.setIfInBounds_toArray, List.set_cons_zero, List.set_cons_succ]
                                refine wpAnyH_take (i := 18) (oi := ?or7_18) (v := ?vr7_18) ?hr7_18 (by kernel_rfl) (by kernel_rfl) (by kernel_rfl) ?qr7_18 (Or.inl ⟨?wr7_18, ?yr7_18⟩) (by assumption) ?rr7_18
                                case hr7_18 => (simp only [List.getElem?_toArray, List.getElem?_cons_succ, List.getElem?_cons_zero]; rfl)
                                case qr7_18 => exact fun _ _ _ h => h
                                case wr7_18 => rfl
                                case yr7_18 => (intro w hSw; (try dsimp only at hSw); go_simp <;> with_reducible rfl)
                                try simp only [Act.put, List.setIfInBounds_toArray, List.set_cons_zero, List.set_cons_succ]
                                refine wpAnyH_take (i := 19) (oi := ?or7_19) (v := ?vr7_19) ?hr7_19 (by kernel_rfl) (by kernel_rfl) (by kernel_rfl) ?qr7_19 (Or.inl ⟨?wr7_19, ?yr7_19⟩) (by assumption) ?rr7_19
                                case hr7_19 => (simp only [List.getElem?_toArray, List.getElem?_cons_succ, List.getElem?_cons_zero]; rfl)
                                case qr7_19 => exact fun _ _ _ h => h
                                case wr7_19 => rfl
                                case yr7_19 => (intro w hSw; (try dsimp only at hSw); go_simp <;> with_reducible rfl)
                                try simp only [Act.put, List.setIfInBounds_toArray, List.set_cons_zero, List.set_cons_succ]
                                refine wpAnyH_take (i := 20) (oi := ?or7_20) (v := ?vr7_20) ?hr7_20 (by kernel_rfl) (by kernel_rfl) (by kernel_rfl) ?qr7_20 (Or.inl ⟨?wr7_20, ?yr7_20⟩) (by assumption) ?rr7_20
                                case hr7_20 => (simp only [List.getElem?_toArray, List.getElem?_cons_succ, List.getElem?_cons_zero]; rfl)
                                case qr7_20 => exact fun _ _ _ h => h
                                case wr7_20 => rfl
                                case yr7_20 => (intro w hSw; (try dsimp only at hSw); go_simp <;> with_reducible rfl)
                                try simp only [Act.put, List.setIfInBounds_toArray, List.set_cons_zero, List.set_cons_succ]
                                refine wpAnyH_take (i := 21) (oi := ?or7_21) (v := ?vr7_21) ?hr7_21 (by kernel_rfl) (by kernel_rfl) (by kernel_rfl) ?qr7_21 (Or.inl ⟨?wr7_21, ?yr7_21⟩) (by assumption) ?rr7_21
                                case hr7_21 => (simp only [List.getElem?_toArray, List.getElem?_cons_succ, List.getElem?_cons_zero]; rfl)
                                case qr7_21 => exact fun _ _ _ h => h
                                case wr7_21 => rfl
                                case yr7_21 => (intro w hSw; (try dsimp only at hSw); go_simp <;> with_reducible rfl)
                                try simp only [Act.put, List.setIfInBounds_toArray, List.set_cons_zero, List.set_cons_succ]
                                refine wpAnyH_done (by kernel_rfl) ?_ _
                                go_wp2_with fail
                                go_roundw
                                case rel => exact ⟨u + 1, by omega, by rw [HE2.out], by go_num, m + 2, by rw [← hm]; rfl⟩
                                case measure => simp [intOf]; omega
                            · have hoib : ((o1 : Int) == (i : Int)) = false := by simp; omega
                              have HE2 : Hid (eqM P Q R i j cc (u + 1) = r) := Lib.hid (by rw [HE1.out, if_neg (fun h => hoi h.1), xr_zero])
                              clear hoi
                              go_wp2_with fail
                              refine wp_region_held_drew (S := (fun w' => w'.cell? ⟨g2, 1 + j, none⟩ = some (.slice (some ⟨h2, 0, none⟩) p p) ∧ w'.cell? ⟨h2, o2, none⟩ = some (.int .i64 (m2 : Nat)) ∧ w'.cell? ⟨br, ob, none⟩ = some (.int .i64 (o1 : Nat)) ∧ w'.cell? ⟨br, ob + 1, none⟩ = some (.int .i64 (o2 : Nat)))) (by kernel_rfl) (by exact ⟨q3, q4, hc0, hc1⟩) (fun hHeld => ?_)
                              refine wpAnyH_take (i := 0) (oi := ?or8_0) (v := ?vr8_0) ?hr8_0 (by kernel_rfl) (by kernel_rfl) (by kernel_rfl) ?qr8_0 (Or.inl ⟨?wr8_0, ?yr8_0⟩) (by assumption) ?rr8_0
                              case hr8_0 => (simp only [List.getElem?_toArray, List.getElem?_cons_succ, List.getElem?_cons_zero]; rfl)
                              case qr8_0 => exact fun _ _ _ h => h
                              case wr8_0 => rfl
                              case yr8_0 => (intro w hSw; (try dsimp only at hSw); go_simp <;> with_reducible rfl)
                              try simp only [Act.put, List.setIfInBounds_toArray, List.set_cons_zero, List.set_cons_succ]
                              refine wpAnyH_take (i := 1) (oi := ?or8_1) (v := ?vr8_1) ?hr8_1 (by kernel_rfl) (by kernel_rfl) (by kernel_rfl) ?qr8_1 (Or.inl ⟨?wr8_1, ?yr8_1⟩) (by assumption) ?rr8_1
                              case hr8_1 => (simp only [List.getElem?_toArray, List.getElem?_cons_succ, List.getElem?_cons_zero]; rfl)
                              case qr8_1 => exact fun _ _ _ h => h
                              case wr8_1 => rfl
                              case yr8_1 => (intro w hSw; (try dsimp only at hSw); go_simp <;> with_reducible rfl)
                              try simp only [Act.put, List.setIfInBounds_toArray, List.set_cons_zero, List.set_cons_succ]
                              refine wpAnyH_take (i := 2) (oi := ?or8_2) (v := ?vr8_2) ?hr8_2 (by kernel_rfl) (by kernel_rfl) (by kernel_rfl) ?qr8_2 (Or.inl ⟨?wr8_2, ?yr8_2⟩) (by assumption) ?rr8_2
                              case hr8_2 => (simp only [List.getElem?_toArray, List.getElem?_cons_succ, List.getElem?_cons_zero]; rfl)
                              case qr8_2 => exact fun _ _ _ h => h
                              case wr8_2 => rfl
                              case yr8_2 => (intro w hSw; (try dsimp only at hSw); go_simp <;> with_reducible rfl)
                              try simp only [Act.put, List.setIfInBounds_toArray, List.set_cons_zero, List.set_cons_succ]
                              refine wpAnyH_take (i := 3) (oi := ?or8_3) (v := ?vr8_3) ?hr8_3 (by kernel_rfl) (by kernel_rfl) (by kernel_rfl) ?qr8_3 (Or.inl ⟨?wr8_3, ?yr8_3⟩) (by assumption) ?rr8_3
                              case hr8_3 => (simp only [List.getElem?_toArray, List.getElem?_cons_succ, List.getElem?_cons_zero]; rfl)
                              case qr8_3 => exact fun _ _ _ h => h
                              case wr8_3 => rfl
                              case yr8_3 => (intro w hSw; (try dsimp only at hSw); go_simp <;> with_reducible rfl)
                              try simp only [Act.put, List.setIfInBounds_toArray, List.set_cons_zero, List.set_cons_succ]
                              refine wpAnyH_take (i := 4) (oi := ?or8_4) (v := ?vr8_4) ?hr8_4 (by kernel_rfl) (by kernel_rfl) (by kernel_rfl) ?qr8_4 (Or.inl ⟨?wr8_4, ?yr8_4⟩) (by assumption) ?rr8_4
                              case hr8_4 => (simp only [List.getElem?_toArray, List.getElem?_cons_succ, List.getElem?_cons_zero]; rfl)
                              case qr8_4 => exact fun _ _ _ h => h
                              case wr8_4 => rfl
                              case yr8_4 => (intro w hSw; (try dsimp only at hSw); go_simp <;> with_reducible rfl)
                              try simp only [Act.put, List.setIfInBounds_toArray, List.set_cons_zero, List.set_cons_succ]
                              refine wpAnyH_take (i := 5) (oi := ?or8_5) (v := ?vr8_5) ?hr8_5 (by kernel_rfl) (by kernel_rfl) (by kernel_rfl) ?qr8_5 (Or.inl ⟨?wr8_5, ?yr8_5⟩) (by assumption) ?rr8_5
                              case hr8_5 => (simp only [List.getElem?_toArray, List.getElem?_cons_succ, List.getElem?_cons_zero]; rfl)
                              case qr8_5 => exact fun _ _ _ h => h
                              case wr8_5 => rfl
                              case yr8_5 => (intro w hSw; (try dsimp only at hSw); go_simp <;> with_reducible rfl)
                              try simp only [Act.put, List.setIfInBounds_toArray, List.set_cons_zero, List.set_cons_succ]
                              refine wpAnyH_take (i := 6) (oi := ?or8_6) (v := undef) ?hr8_6 (by kernel_rfl) (by kernel_rfl) (by kernel_rfl) ?qr8_6 (Or.inr ⟨?wr8_6, rfl⟩) (by assumption) ?rr8_6
                              case hr8_6 => (simp only [List.getElem?_toArray, List.getElem?_cons_succ, List.getElem?_cons_zero]; rfl)
                              case qr8_6 => exact fun _ _ _ h => h
                              case wr8_6 => rfl
                              try simp only [Act.put, List.setIfInBounds_toArray, List.set_cons_zero, List.set_cons_succ]
                              refine wpAnyH_take (i := 7) (oi := ?or8_7) (v := undef) ?hr8_7 (by kernel_rfl) (by kernel_rfl) (by kernel_rfl) ?qr8_7 (Or.inr ⟨?wr8_7, rfl⟩) (by assumption) ?rr8_7
                              case hr8_7 => (simp only [List.getElem?_toArray, List.getElem?_cons_succ, List.getElem?_cons_zero]; rfl)
                              case qr8_7 => exact fun _ _ _ h => h
                              case wr8_7 => rfl
                              try simp only [Act.put, List.setIfInBounds_toArray, List.set_cons_zero, List.set_cons_succ]
                              refine wpAnyH_take (i := 8) (oi := ?or8_8) (v := undef) ?hr8_8 (by kernel_rfl) (by kernel_rfl) (by kernel_rfl) ?qr8_8 (Or.inr ⟨?wr8_8, rfl⟩) (by assumption) ?rr8_8
                              case hr8_8 => (simp only [List.getElem?_toArray, List.getElem?_cons_succ, List.getElem?_cons_zero]; rfl)
                              case qr8_8 => exact fun _ _ _ h => h
                              case wr8_8 => rfl
                              try simp only [Act.put, List.setIfInBounds_toArray, List.set_cons_zero, List.set_cons_succ]
                              refine wpAnyH_take (i := 9) (oi := ?or8_9) (v := undef) ?hr8_9 (by kernel_rfl) (by kernel_rfl) (by kernel_rfl) ?qr8_9 (Or.inr ⟨?wr8_9, rfl⟩) (by assumption) ?rr8_9
                              case hr8_9 => (simp only [List.getElem?_toArray, List.getElem?_cons_succ, List.getElem?_cons_zero]; rfl)
                              case qr8_9 => exact fun _ _ _ h => h
                              case wr8_9 => rfl
                              try simp only [Act.put, List.setIfInBounds_toArray, List.set_cons_zero, List.set_cons_succ]
                              refine wpAnyH_take (i := 10) (oi := ?or8_10) (v := undef) ?hr8_10 (by kernel_rfl) (by kernel_rfl) (by kernel_rfl) ?qr8_10 (Or.inr ⟨?wr8_10, rfl⟩) (by assumption) ?rr8_10
                              case hr8_10 => (simp only [List.getElem?_toArray, List.getElem?_cons_succ, List.getElem?_cons_zero]; rfl)
                              case qr8_10 => exact fun _ _ _ h => h
                              case wr8_10 => rfl
                              try simp only [Act.put, List.setIfInBounds_toArray, List.set_cons_zero, List.set_cons_succ]
                              refine wpAnyH_take (i := 11) (oi := ?or8_11) (v := undef) ?hr8_11 (by kernel_rfl) (by kernel_rfl) (by kernel_rfl) ?qr8_11 (Or.inr ⟨?wr8_11, rfl⟩) (by assumption) ?rr8_11
                              case hr8_11 => (simp only [List.getElem?_toArray, List.getElem?_cons_succ, List.getElem?_cons_zero]; rfl)
                              case qr8_11 => exact fun _ _ _ h => h
                              case wr8_11 => rfl
                              try simp only [Act.put, List.setIfInBounds_toArray, List.set_cons_zero, List.set_cons_succ]
                              refine wpAnyH_take (i := 12) (oi := ?or8_12) (v := undef) ?hr8_12 (by kernel_rfl) (by kernel_rfl) (by kernel_rfl) ?qr8_12 (Or.inr ⟨?wr8_12, rfl⟩) (by assumption) ?rr8_12
                              case hr8_12 => (simp only [List.getElem?_toArray, List.getElem?_cons_succ, List.getElem?_cons_zero]; rfl)
                              case qr8_12 => exact fun _ _ _ h => h
                              case wr8_12 => rfl
                              try simp only [Act.put, List.setIfInBounds_toArray, List.set_cons_zero, List.set_cons_succ]
                              refine wpAnyH_take (i := 13) (oi := ?or8_13) (v := undef) ?hr8_13 (by kernel_rfl) (by kernel_rfl) (by kernel_rfl) ?qr8_13 (Or.inr ⟨?wr8_13, rfl⟩) (by assumption) ?rr8_13
                              case hr8_13 => (simp only [List.getElem?_toArray, List.getElem?_cons_succ, List.getElem?_cons_zero]; rfl)
                              case qr8_13 => exact fun _ _ _ h => h
                              case wr8_13 => rfl
                              try simp only [Act.put, List.setIfInBounds_toArray, List.set_cons_zero, List.set_cons_succ]
                              refine wpAnyH_take (i := 14) (oi := ?or8_14) (v := undef) ?hr8_14 (by kernel_rfl) (by kernel_rfl) (by kernel_rfl) ?qr8_14 (Or.inr ⟨?wr8_14, rfl⟩) (by assumption) ?rr8_14
                              case hr8_14 => (simp only [List.getElem?_toArray, List.getElem?_cons_succ, List.getElem?_cons_zero]; rfl)
                              case qr8_14 => exact fun _ _ _ h => h
                              case wr8_14 => rfl
                              try simp only [Act.put, List.setIfInBounds_toArray, List.set_cons_zero, List.set_cons_succ]
                              refine wpAnyH_take (i := 15) (oi := ?or8_15) (v := undef) ?hr8_15 (by kernel_rfl) (by kernel_rfl) (by kernel_rfl) ?qr8_15 (Or.inr ⟨?wr8_15, rfl⟩) (by assumption) ?rr8_15
                              case hr8_15 => (simp only [List.getElem?_toArray, List.getElem?_cons_succ, List.getElem?_cons_zero]; rfl)
                              case qr8_15 => exact fun _ _ _ h => h
                              case wr8_15 => rfl
                              try simp only [Act.put, List.setIfInBounds_toArray, List.set_cons_zero, List.set_cons_succ]
                              refine wpAnyH_take (i := 16) (oi := ?or8_16) (v := undef) ?hr8_16 (by kernel_rfl) (by kernel_rfl) (by kernel_rfl) ?qr8_16 (Or.inr ⟨?wr8_16, rfl⟩) (by assumption) ?rr8_16
                              case hr8_16 => (simp only [List.getElem?_toArray, List.getElem?_cons_succ, List.getElem?_cons_zero]; rfl)
                              case qr8_16 => exact fun _ _ _ h => h
                              case wr8_16 => rfl
                              try simp only [Act.put, List.setIfInBounds_toArray, List.set_cons_zero, List.set_cons_succ]
                              refine wpAnyH_take (i := 17) (oi := ?or8_17) (v := undef) ?hr8_17 (by kernel_rfl) (by kernel_rfl) (by kernel_rfl) ?qr8_17 (Or.inr ⟨?wr8_17, rfl⟩) (by assumption) ?rr8_17
                              case hr8_17 => (simp only [List.getElem?_toArray, List.getElem?_cons_succ, List.getElem?_cons_zero]; rfl)
                              case qr8_17 => exact fun _ _ _ h => h
                              case wr8_17 => rfl
                              try simp only [Act.put, List.setIfInBounds_toArray, List.set_cons_zero, List.set_cons_succ]
                              refine wpAnyH_take (i := 18) (oi := ?or8_18) (v := undef) ?hr8_18 (by kernel_rfl) (by kernel_rfl) (by kernel_rfl) ?qr8_18 (Or.inr ⟨?wr8_18, rfl⟩) (by assumption) ?rr8_18
                              case hr8_18 => (simp only [List.getElem?_toArray, List.getElem?_cons_succ, List.getElem?_cons_zero]; rfl)
                              case qr8_18 => exact fun _ _ _ h => h
                              case wr8_18 => rfl
                              try simp only [Act.put, List.setIfInBounds_toArray, List.set_cons_zero, List.set_cons_succ]
                              refine wpAnyH_take (i := 19) (oi := ?or8_19) (v := undef) ?hr8_19 (by kernel_rfl) (by kernel_rfl) (by kernel_rfl) ?qr8_19 (Or.inr ⟨?wr8_19, rfl⟩) (by assumption) ?rr8_19
                              case hr8_19 => (simp only [List.getElem?_toArray, List.getElem?_cons_succ, List.getElem?_cons_zero]; rfl)
                              case qr8_19 => exact fun _ _ _ h => h
                              case wr8_19 => rfl
                              try simp only [Act.put, List.setIfInBounds_toArray, List.set_cons_zero, List.set_cons_succ]
                              refine wpAnyH_take (i := 20) (oi := ?or8_20) (v := undef) ?hr8_20 (by kernel_rfl) (by kernel_rfl) (by kernel_rfl) ?qr8_20 (Or.inr ⟨?wr8_20, rfl⟩) (by assumption) ?rr8_20
                              case hr8_20 => (simp only [List.getElem?_toArray, List.getElem?_cons_succ, List.getElem?_cons_zero]; rfl)
                              case qr8_20 => exact fun _ _ _ h => h
                              case wr8_20 => rfl
                              try simp only [Act.put, List.setIfInBounds_toArray, List.set_cons_zero, List.set_cons_succ]
                              refine wpAnyH_take (i := 21) (oi := ?or8_21) (v := ?vr8_21) ?hr8_21 (by kernel_rfl) (by kernel_rfl) (by kernel_rfl) ?qr8_21 (Or.inl ⟨?wr8_21, ?yr8_21⟩) (by assumption) ?rr8_21
                              case hr8_21 => (simp only [List.getElem?_toArray, List.getElem?_cons_succ, List.getElem?_cons_zero]; rfl)
                              case qr8_21 => exact fun _ _ _ h => h
                              case wr8_21 => rfl
                              case yr8_21 => (intro w hSw; (try dsimp only at hSw); go_simp <;> with_reducible rfl)
                              try simp only [Act.put, List.setIfInBounds_toArray, List.set_cons_zero, List.set_cons_succ]
                              refine wpAnyH_done (by kernel_rfl) ?_ _
                              go_wp2_with fail
                              go_roundw
                              case rel => exact ⟨u + 1, by omega, by rw [HE2.out], by go_num, m + 2, by rw [← hm]; rfl⟩
                              case measure => simp [intOf]; omega
                          · have hocb : ((o2 : Int) == (cc : Int)) = false := by simp; omega
                            have HE1 : Hid (eqM P Q R i j cc (u + 1) = xr r (if o1 = i ∧ tb m2 cc = true then 2 ^ u else 0)) := Lib.hid (by rw [HE.out, if_neg (fun h => hoc h.2), xr_zero])
                            have HSr := Lib.hid hsr
                            clear hoc
                            go_wp2_with fail
                            refine wp_region_held_drew (S := (fun w' => w'.cell? ⟨g1, 1 + j, none⟩ = some (.slice (some ⟨h1, 0, none⟩) n n) ∧ w'.cell? ⟨h1, i, none⟩ = some (.int .i64 (m1 : Nat)) ∧ w'.cell? ⟨br, ob, none⟩ = some (.int .i64 (o1 : Nat)) ∧ w'.cell? ⟨br, ob + 1, none⟩ = some (.int .i64 (o2 : Nat)))) (by kernel_rfl) (by exact ⟨q1, q2, hc0, hc1⟩) (fun hHeld => ?_)
                            refine wpAnyH_take (i := 0) (oi := ?or9_0) (v := ?vr9_0) ?hr9_0 (by kernel_rfl) (by kernel_rfl) (by kernel_rfl) ?qr9_0 (Or.inl ⟨?wr9_0, ?yr9_0⟩) (by assumption) ?rr9_0
                            case hr9_0 => (simp only [List.getElem?_toArray, List.getElem?_cons_succ, List.getElem?_cons_zero]; rfl)
                            case qr9_0 => exact fun _ _ _ h => h
                            case wr9_0 => rfl
                            case yr9_0 => (intro w hSw; (try dsimp only at hSw); go_simp <;> with_reducible rfl)
                            try simp only [Act.put, List.setIfInBounds_toArray, List.set_cons_zero, List.set_cons_succ]
                            refine wpAnyH_take (i := 1) (oi := ?or9_1) (v := ?vr9_1) ?hr9_1 (by kernel_rfl) (by kernel_rfl) (by kernel_rfl) ?qr9_1 (Or.inl ⟨?wr9_1, ?yr9_1⟩) (by assumption) ?rr9_1
                            case hr9_1 => (simp only [List.getElem?_toArray, List.getElem?_cons_succ, List.getElem?_cons_zero]; rfl)
                            case qr9_1 => exact fun _ _ _ h => h
                            case wr9_1 => rfl
                            case yr9_1 => (intro w hSw; (try dsimp only at hSw); go_simp <;> with_reducible rfl)
                            try simp only [Act.put, List.setIfInBounds_toArray, List.set_cons_zero, List.set_cons_succ]
                            refine wpAnyH_take (i := 2) (oi := ?or9_2) (v := ?vr9_2) ?hr9_2 (by kernel_rfl) (by kernel_rfl) (by kernel_rfl) ?qr9_2 (Or.inl ⟨?wr9_2, ?yr9_2⟩) (by assumption) ?rr9_2
                            case hr9_2 => (simp only [List.getElem?_toArray, List.getElem?_cons_succ, List.getElem?_cons_zero]; rfl)
                            case qr9_2 => exact fun _ _ _ h => h
                            case wr9_2 => rfl
                            case yr9_2 => (intro w hSw; (try dsimp only at hSw); go_simp <;> with_reducible rfl)
                            try simp only [Act.put, List.setIfInBounds_toArray, List.set_cons_zero, List.set_cons_succ]
                            refine wpAnyH_take (i := 3) (oi := ?or9_3) (v := ?vr9_3) ?hr9_3 (by kernel_rfl) (by kernel_rfl) (by kernel_rfl) ?qr9_3 (Or.inl ⟨?wr9_3, ?yr9_3⟩) (by assumption) ?rr9_3
                            case hr9_3 => (simp only [List.getElem?_toArray, List.getElem?_cons_succ, List.getElem?_cons_zero]; rfl)
                            case qr9_3 => exact fun _ _ _ h => h
                            case wr9_3 => rfl
                            case yr9_3 => (intro w hSw; (try dsimp only at hSw); go_simp <;> with_reducible rfl)
                            try simp only [Act.put, List.setIfInBounds_toArray, List.set_cons_zero, List.set_cons_succ]
                            refine wpAnyH_take (i := 4) (oi := ?or9_4) (v := ?vr9_4) ?hr9_4 (by kernel_rfl) (by kernel_rfl) (by kernel_rfl) ?qr9_4 (Or.inl ⟨?wr9_4, ?yr9_4⟩) (by assumption) ?rr9_4
                            case hr9_4 => (simp only [List.getElem?_toArray, List.getElem?_cons_succ, List.getElem?_cons_zero]; rfl)
                            case qr9_4 => exact fun _ _ _ h => h
                            case wr9_4 => rfl
                            case yr9_4 => (intro w hSw; (try dsimp only at hSw); go_simp <;> with_reducible rfl)
                            try simp only [Act.put, List.setIfInBounds_toArray, List.set_cons_zero, List.set_cons_succ]
                            refine wpAnyH_take (i := 5) (oi := ?or9_5) (v := ?vr9_5) ?hr9_5 (by kernel_rfl) (by kernel_rfl) (by kernel_rfl) ?qr9_5 (Or.inl ⟨?wr9_5, ?yr9_5⟩) (by assumption) ?rr9_5
                            case hr9_5 => (simp only [List.getElem?_toArray, List.getElem?_cons_succ, List.getElem?_cons_zero]; rfl)
                            case qr9_5 => exact fun _ _ _ h => h
                            case wr9_5 => rfl
                            case yr9_5 => (intro w hSw; (try dsimp only at hSw); go_simp <;> with_reducible rfl)
                            try simp only [Act.put, List.setIfInBounds_toArray, List.set_cons_zero, List.set_cons_succ]
                            refine wpAnyH_take (i := 6) (oi := ?or9_6) (v := ?vr9_6) ?hr9_6 (by kernel_rfl) (by kernel_rfl) (by kernel_rfl) ?qr9_6 (Or.inl ⟨?wr9_6, ?yr9_6⟩) (by assumption) ?rr9_6
                            case hr9_6 => (simp only [List.getElem?_toArray, List.getElem?_cons_succ, List.getElem?_cons_zero]; rfl)
                            case qr9_6 => exact fun _ _ _ h => h
                            case wr9_6 => rfl
                            case yr9_6 => (intro w hSw; (try dsimp only at hSw); go_simp <;> with_reducible rfl)
                            try simp only [Act.put, List.setIfInBounds_toArray, List.set_cons_zero, List.set_cons_succ]
                            refine wpAnyH_take (i := 7) (oi := ?or9_7) (v := ?vr9_7) ?hr9_7 (by kernel_rfl) (by kernel_rfl) (by kernel_rfl) ?qr9_7 (Or.inl ⟨?wr9_7, ?yr9_7⟩) (by assumption) ?rr9_7
                            case hr9_7 => (simp only [List.getElem?_toArray, List.getElem?_cons_succ, List.getElem?_cons_zero]; rfl)
                            case qr9_7 => exact fun _ _ _ h => h
                            case wr9_7 => rfl
                            case yr9_7 => (intro w hSw; (try dsimp only at hSw); go_simp <;> with_reducible rfl)
                            try simp only [Act.put, List.setIfInBounds_toArray, List.set_cons_zero, List.set_cons_succ]
                            refine wpAnyH_take (i := 8) (oi := ?or9_8) (v := ?vr9_8) ?hr9_8 (by kernel_rfl) (by kernel_rfl) (by kernel_rfl) ?qr9_8 (Or.inl ⟨?wr9_8, ?yr9_8⟩) (by assumption) ?rr9_8
                            case hr9_8 => (simp only [List.getElem?_toArray, List.getElem?_cons_succ, List.getElem?_cons_zero]; rfl)
                            case qr9_8 => exact fun _ _ _ h => h
                            case wr9_8 => rfl
                            case yr9_8 => (intro w hSw; (try dsimp only at hSw); go_simp <;> with_reducible rfl)
                            try simp only [Act.put, List.setIfInBounds_toArray, List.set_cons_zero, List.set_cons_succ]
                            refine wpAnyH_take (i := 9) (oi := ?or9_9) (v := ?vr9_9) ?hr9_9 (by kernel_rfl) (by kernel_rfl) (by kernel_rfl) ?qr9_9 (Or.inl ⟨?wr9_9, ?yr9_9⟩) (by assumption) ?rr9_9
                            case hr9_9 => (simp only [List.getElem?_toArray, List.getElem?_cons_succ, List.getElem?_cons_zero]; rfl)
                            case qr9_9 => exact fun _ _ _ h => h
                            case wr9_9 => rfl
                            case yr9_9 => (intro w hSw; (try dsimp only at hSw); go_simp <;> with_reducible rfl)
                            try simp only [Act.put, List.setIfInBounds_toArray, List.set_cons_zero, List.set_cons_succ]
                            refine wpAnyH_take (i := 10) (oi := ?or9_10) (v := ?vr9_10) ?hr9_10 (by kernel_rfl) (by kernel_rfl) (by kernel_rfl) ?qr9_10 (Or.inl ⟨?wr9_10, ?yr9_10⟩) (by assumption) ?rr9_10
                            case hr9_10 => (simp only [List.getElem?_toArray, List.getElem?_cons_succ, List.getElem?_cons_zero]; rfl)
                            case qr9_10 => exact fun _ _ _ h => h
                            case wr9_10 => rfl
                            case yr9_10 => (intro w hSw; (try dsimp only at hSw); go_simp <;> with_reducible rfl)
                            try simp only [Act.put, List.setIfInBounds_toArray, List.set_cons_zero, List.set_cons_succ]
                            refine wpAnyH_take (i := 11) (oi := ?or9_11) (v := ?vr9_11) ?hr9_11 (by kernel_rfl) (by kernel_rfl) (by kernel_rfl) ?qr9_11 (Or.inl ⟨?wr9_11, ?yr9_11⟩) (by assumption) ?rr9_11
                            case hr9_11 => (simp only [List.getElem?_toArray, List.getElem?_cons_succ, List.getElem?_cons_zero]; rfl)
                            case qr9_11 => exact fun _ _ _ h => h
                            case wr9_11 => rfl
                            case yr9_11 => (intro w hSw; (try dsimp only at hSw); go_simp <;> with_reducible rfl)
                            try simp only [Act.put, List.setIfInBounds_toArray, List.set_cons_zero, List.set_cons_succ]
                            refine wpAnyH_take (i := 12) (oi := ?or9_12) (v := ?vr9_12) ?hr9_12 (by kernel_rfl) (by kernel_rfl) (by kernel_rfl) ?qr9_12 (Or.inl ⟨?wr9_12, ?yr9_12⟩) (by assumption) ?rr9_12
                            case hr9_12 => (simp only [List.getElem?_toArray, List.getElem?_cons_succ, List.getElem?_cons_zero]; rfl)
                            case qr9_12 => exact fun _ _ _ h => h
                            case wr9_12 => rfl
                            case yr9_12 => (intro w hSw; (try dsimp only at hSw); go_simp <;> with_reducible rfl)
                            try simp only [Act.put, List.setIfInBounds_toArray, List.set_cons_zero, List.set_cons_succ]
                            refine wpAnyH_take (i := 13) (oi := ?or9_13) (v := ?vr9_13) ?hr9_13 (by kernel_rfl) (by kernel_rfl) (by kernel_rfl) ?qr9_13 (Or.inl ⟨?wr9_13, ?yr9_13⟩) (by assumption) ?rr9_13
                            case hr9_13 => (simp only [List.getElem?_toArray, List.getElem?_cons_succ, List.getElem?_cons_zero]; rfl)
                            case qr9_13 => exact fun _ _ _ h => h
                            case wr9_13 => rfl
                            case yr9_13 => (intro w hSw; (try dsimp only at hSw); go_simp <;> with_reducible rfl)
                            try simp only [Act.put, List.setIfInBounds_toArray, List.set_cons_zero, List.set_cons_succ]
                            refine wpAnyH_take (i := 14) (oi := ?or9_14) (v := ?vr9_14) ?hr9_14 (by kernel_rfl) (by kernel_rfl) (by kernel_rfl) ?qr9_14 (Or.inl ⟨?wr9_14, ?yr9_14⟩) (by assumption) ?rr9_14
                            case hr9_14 => (simp only [List.getElem?_toArray, List.getElem?_cons_succ, List.getElem?_cons_zero]; rfl)
                            case qr9_14 => exact fun _ _ _ h => h
                            case wr9_14 => rfl
                            case yr9_14 => (intro w hSw; (try dsimp only at hSw); go_simp <;> with_reducible rfl)
                            try simp only [Act.put, List.setIfInBounds_toArray, List.set_cons_zero, List.set_cons_succ]
                            refine wpAnyH_take (i := 15) (oi := ?or9_15) (v := ?vr9_15) ?hr9_15 (by kernel_rfl) (by kernel_rfl) (by kernel_rfl) ?qr9_15 (Or.inl ⟨?wr9_15, ?yr9_15⟩) (by assumption) ?rr9_15
                            case hr9_15 => (simp only [List.getElem?_toArray, List.getElem?_cons_succ, List.getElem?_cons_zero]; rfl)
                            case qr9_15 => exact fun _ _ _ h => h
                            case wr9_15 => rfl
                            case yr9_15 => (intro w hSw; (try dsimp only at hSw); go_simp <;> with_reducible rfl)
                            try simp only [Act.put, List.setIfInBounds_toArray, List.set_cons_zero, List.set_cons_succ]
                            refine wpAnyH_take (i := 16) (oi := ?or9_16) (v := ?vr9_16) ?hr9_16 (by kernel_rfl) (by kernel_rfl) (by kernel_rfl) ?qr9_16 (Or.inl ⟨?wr9_16, ?yr9_16⟩) (by assumption) ?rr9_16
                            case hr9_16 => (simp only [List.getElem?_toArray, List.getElem?_cons_succ, List.getElem?_cons_zero]; rfl)
                            case qr9_16 => exact fun _ _ _ h => h
                            case wr9_16 => rfl
                            case yr9_16 => (intro w hSw; (try dsimp only at hSw); go_simp <;> with_reducible rfl)
                            try simp only [Act.put, List.setIfInBounds_toArray, List.set_cons_zero, List.set_cons_succ]
                            refine wpAnyH_take (i := 17) (oi := ?or9_17) (v := ?vr9_17) ?hr9_17 (by kernel_rfl) (by kernel_rfl) (by kernel_rfl) ?qr9_17 (Or.inl ⟨?wr9_17, ?yr9_17⟩) (by assumption) ?rr9_17
                            case hr9_17 => (simp only [List.getElem?_toArray, List.getElem?_cons_succ, List.getElem?_cons_zero]; rfl)
                            case qr9_17 => exact fun _ _ _ h => h
                            case wr9_17 => rfl
                            case yr9_17 => (intro w hSw; (try dsimp only at hSw); go_simp <;> with_reducible rfl)
                            try simp only [Act.put, List.setIfInBounds_toArray, List.set_cons_zero, List.set_cons_succ]
                            refine wpAnyH_take (i := 18) (oi := ?or9_18) (v := ?vr9_18) ?hr9_18 (by kernel_rfl) (by kernel_rfl) (by kernel_rfl) ?qr9_18 (Or.inl ⟨?wr9_18, ?yr9_18⟩) (by assumption) ?rr9_18
                            case hr9_18 => (simp only [List.getElem?_toArray, List.getElem?_cons_succ, List.getElem?_cons_zero]; rfl)
                            case qr9_18 => exact fun _ _ _ h => h
                            case wr9_18 => rfl
                            case yr9_18 => (intro w hSw; (try dsimp only at hSw); go_simp <;> with_reducible rfl)
                            try simp only [Act.put, List.setIfInBounds_toArray, List.set_cons_zero, List.set_cons_succ]
                            refine wpAnyH_take (i := 19) (oi := ?or9_19) (v := ?vr9_19) ?hr9_19 (by kernel_rfl) (by kernel_rfl) (by kernel_rfl) ?qr9_19 (Or.inl ⟨?wr9_19, ?yr9_19⟩) (by assumption) ?rr9_19
                            case hr9_19 => (simp only [List.getElem?_toArray, List.getElem?_cons_succ, List.getElem?_cons_zero]; rfl)
                            case qr9_19 => exact fun _ _ _ h => h
                            case wr9_19 => rfl
                            case yr9_19 => (intro w hSw; (try dsimp only at hSw); go_simp <;> with_reducible rfl)
                            try simp only [Act.put, List.setIfInBounds_toArray, List.set_cons_zero, List.set_cons_succ]
                            refine wpAnyH_take (i := 20) (oi := ?or9_20) (v := ?vr9_20) ?hr9_20 (by kernel_rfl) (by kernel_rfl) (by kernel_rfl) ?qr9_20 (Or.inl ⟨?wr9_20, ?yr9_20⟩) (by assumption) ?rr9_20
                            case hr9_20 => (simp only [List.getElem?_toArray, List.getElem?_cons_succ, List.getElem?_cons_zero]; rfl)
                            case qr9_20 => exact fun _ _ _ h => h
                            case wr9_20 => rfl
                            case yr9_20 => (intro w hSw; (try dsimp only at hSw); go_simp <;> with_reducible rfl)
                            try simp only [Act.put, List.setIfInBounds_toArray, List.set_cons_zero, List.set_cons_succ]
                            refine wpAnyH_take (i := 21) (oi := ?or9_21) (v := ?vr9_21) ?hr9_21 (by kernel_rfl) (by kernel_rfl) (by kernel_rfl) ?qr9_21 (Or.inl ⟨?wr9_21, ?yr9_21⟩) (by assumption) ?rr9_21
                            case hr9_21 => (simp only [List.getElem?_toArray, List.getElem?_cons_succ, List.getElem?_cons_zero]; rfl)
                            case qr9_21 => exact fun _ _ _ h => h
                            case wr9_21 => rfl
                            case yr9_21 => (intro w hSw; (try dsimp only at hSw); go_simp <;> with_reducible rfl)
                            try simp only [Act.put, List.setIfInBounds_toArray, List.set_cons_zero, List.set_cons_succ]
                            refine wpAnyH_done (by kernel_rfl) ?_ _
                            go_wp2_with fail
                            by_cases hoi : o1 = i
                            · have hoib : ((o1 : Int) == (i : Int)) = true := by simp [hoi]
                              cases hbn : tb m2 cc
                              · have HE2 : Hid (eqM P Q R i j cc (u + 1) = r) := Lib.hid (by rw [HE1.out, hbn, if_neg (by simp), xr_zero])
                                clear hoi
                                go_wp2_with fail
                                refine wp_region_held_drew (S := (fun w' => w'.cell? ⟨g2, 1 + j, none⟩ = some (.slice (some ⟨h2, 0, none⟩) p p) ∧ w'.cell? ⟨h2, o2, none⟩ = some (.int .i64 (m2 : Nat)) ∧ w'.cell? ⟨br, ob, none⟩ = some (.int .i64 (o1 : Nat)) ∧ w'.cell? ⟨br, ob + 1, none⟩ = some (.int .i64 (o2 : Nat)))) (by kernel_rfl) (by exact ⟨q3, q4, hc0, hc1⟩) (fun hHeld => ?_)
                                refine wpAnyH_take (i := 0) (oi := ?or10_0) (v := ?vr10_0) ?hr10_0 (by kernel_rfl) (by kernel_rfl) (by kernel_rfl) ?qr10_0 (Or.inl ⟨?wr10_0, ?yr10_0⟩) (by assumption) ?rr10_0
                                case hr10_0 => (simp only [List.getElem?_toArray, List.getElem?_cons_succ, List.getElem?_cons_zero]; rfl)
                                case qr10_0 => exact fun _ _ _ h => h
                                case wr10_0 => rfl
                                case yr10_0 => (intro w hSw; (try dsimp only at hSw); go_simp <;> with_reducible rfl)
                                try simp only [Act.put, List.setIfInBounds_toArray, List.set_cons_zero, List.set_cons_succ]
                                refine wpAnyH_take (i := 1) (oi := ?or10_1) (v := ?vr10_1) ?hr10_1 (by kernel_rfl) (by kernel_rfl) (by kernel_rfl) ?qr10_1 (Or.inl ⟨?wr10_1, ?yr10_1⟩) (by assumption) ?rr10_1
                                case hr10_1 => (simp only [List.getElem?_toArray, List.getElem?_cons_succ, List.getElem?_cons_zero]; rfl)
                                case qr10_1 => exact fun _ _ _ h => h
                                case wr10_1 => rfl
                                case yr10_1 => (intro w hSw; (try dsimp only at hSw); go_simp <;> with_reducible rfl)
                                try simp only [Act.put, List.setIfInBounds_toArray, List.set_cons_zero, List.set_cons_succ]
                                refine wpAnyH_take (i := 2) (oi := ?or10_2) (v := ?vr10_2) ?hr10_2 (by kernel_rfl) (by kernel_rfl) (by kernel_rfl) ?qr10_2 (Or.inl ⟨?wr10_2, ?yr10_2⟩) (by assumption) ?rr10_2
                                case hr10_2 => (simp only [List.getElem?_toArray, List.getElem?_cons_succ, List.getElem?_cons_zero]; rfl)
                                case qr10_2 => exact fun _ _ _ h => h
                                case wr10_2 => rfl
                                case yr10_2 => (intro w hSw; (try dsimp only at hSw); go_simp <;> with_reducible rfl)
                                try simp only [Act.put, List.setIfInBounds_toArray, List.set_cons_zero, List.set_cons_succ]
                                refine wpAnyH_take (i := 3) (oi := ?or10_3) (v := ?vr10_3) ?hr10_3 (by kernel_rfl) (by kernel_rfl) (by kernel_rfl) ?qr10_3 (Or.inl ⟨?wr10_3, ?yr10_3⟩) (by assumption) ?rr10_3
                                case hr10_3 => (simp only [List.getElem?_toArray, List.getElem?_cons_succ, List.getElem?_cons_zero]; rfl)
                                case qr10_3 => exact fun _ _ _ h => h
                                case wr10_3 => rfl
                                case yr10_3 => (intro w hSw; (try dsimp only at hSw); go_simp <;> with_reducible rfl)
                                try simp only [Act.put, List.setIfInBounds_toArray, List.set_cons_zero, List.set_cons_succ]
                                refine wpAnyH_take (i := 4) (oi := ?or10_4) (v := ?vr10_4) ?hr10_4 (by kernel_rfl) (by kernel_rfl) (by kernel_rfl) ?qr10_4 (Or.inl ⟨?wr10_4, ?yr10_4⟩) (by assumption) ?rr10_4
                                case hr10_4 => (simp only [List.getElem?_toArray, List.getElem?_cons_succ, List.getElem?_cons_zero]; rfl)
                                case qr10_4 => exact fun _ _ _ h => h
                                case wr10_4 => rfl
                                case yr10_4 => (intro w hSw; (try dsimp only at hSw); go_simp <;> with_reducible rfl)
                                try simp only [Act.put, List.setIfInBounds_toArray, List.set_cons_zero, List.set_cons_succ]
                                refine wpAnyH_take (i := 5) (oi := ?or10_5) (v := ?vr10_5) ?hr10_5 (by kernel_rfl) (by kernel_rfl) (by kernel_rfl) ?qr10_5 (Or.inl ⟨?wr10_5, ?yr10_5⟩) (by assumption) ?rr10_5
                                case hr10_5 => (simp only [List.getElem?_toArray, List.getElem?_cons_succ, List.getElem?_cons_zero]; rfl)
                                case qr10_5 => exact fun _ _ _ h => h
                                case wr10_5 => rfl
                                case yr10_5 => (intro w hSw; (try dsimp only at hSw); go_simp <;> with_reducible rfl)
                                try simp only [Act.put, List.setIfInBounds_toArray, List.set_cons_zero, List.set_cons_succ]
                                refine wpAnyH_take (i := 6) (oi := ?or10_6) (v := ?vr10_6) ?hr10_6 (by kernel_rfl) (by kernel_rfl) (by kernel_rfl) ?qr10_6 (Or.inl ⟨?wr10_6, ?yr10_6⟩) (by assumption) ?rr10_6
                                case hr10_6 => (simp only [List.getElem?_toArray, List.getElem?_cons_succ, List.getElem?_cons_zero]; rfl)
                                case qr10_6 => exact fun _ _ _ h => h
                                case wr10_6 => rfl
                                case yr10_6 => (intro w hSw; (try dsimp only at hSw); go_simp <;> with_reducible rfl)
                                try simp only [Act.put, List.setIfInBounds_toArray, List.set_cons_zero, List.set_cons_succ]
                                refine wpAnyH_take (i := 7) (oi := ?or10_7) (v := ?vr10_7) ?hr10_7 (by kernel_rfl) (by kernel_rfl) (by kernel_rfl) ?qr10_7 (Or.inl ⟨?wr10_7, ?yr10_7⟩) (by assumption) ?rr10_7
                                case hr10_7 => (simp only [List.getElem?_toArray, List.getElem?_cons_succ, List.getElem?_cons_zero]; rfl)
                                case qr10_7 => exact fun _ _ _ h => h
                                case wr10_7 => rfl
                                case yr10_7 => (intro w hSw; (try dsimp only at hSw); go_simp <;> with_reducible rfl)
                                try simp only [Act.put, List.setIfInBounds_toArray, List.set_cons_zero, List.set_cons_succ]
                                refine wpAnyH_take (i := 8) (oi := ?or10_8) (v := ?vr10_8) ?hr10_8 (by kernel_rfl) (by kernel_rfl) (by kernel_rfl) ?qr10_8 (Or.inl ⟨?wr10_8, ?yr10_8⟩) (by assumption) ?rr10_8
                                case hr10_8 => (simp only [List.getElem?_toArray, List.getElem?_cons_succ, List.getElem?_cons_zero]; rfl)
                                case qr10_8 => exact fun _ _ _ h => h
                                case wr10_8 => rfl
                                case yr10_8 => (intro w hSw; (try dsimp only at hSw); go_simp <;> with_reducible rfl)
                                try simp only [Act.put, List.setIfInBounds_toArray, List.set_cons_zero, List.set_cons_succ]
                                refine wpAnyH_take (i := 9) (oi := ?or10_9) (v := ?vr10_9) ?hr10_9 (by kernel_rfl) (by kernel_rfl) (by kernel_rfl) ?qr10_9 (Or.inl ⟨?wr10_9, ?yr10_9⟩) (by assumption) ?rr10_9
                                case hr10_9 => (simp only [List.getElem?_toArray, List.getElem?_cons_succ, List.getElem?_cons_zero]; rfl)
                                case qr10_9 => exact fun _ _ _ h => h
                                case wr10_9 => rfl
                                case yr10_9 => (intro w hSw; (try dsimp only at hSw); go_simp <;> with_reducible rfl)
                                try simp only [Act.put, List.setIfInBounds_toArray, List.set_cons_zero, List.set_cons_succ]
                                refine wpAnyH_take (i := 10) (oi := ?or10_10) (v := ?vr10_10) ?hr10_10 (by kernel_rfl) (by kernel_rfl) (by kernel_rfl) ?qr10_10 (Or.inl ⟨?wr10_10, ?yr10_10⟩) (by assumption) ?rr10_10
                                case hr10_10 => (simp only [List.getElem?_toArray, List.getElem?_cons_succ, List.getElem?_cons_zero]; rfl)
                                case qr10_10 => exact fun _ _ _ h => h
                                case wr10_10 => rfl
                                case yr10_10 => (intro w hSw; (try dsimp only at hSw); go_simp <;> with_reducible rfl)
                                try simp only [Act.put, List.setIfInBounds_toArray, List.set_cons_zero, List.set_cons_succ]
                                refine wpAnyH_take (i := 11) (oi := ?or10_11) (v := ?vr10_11) ?hr10_11 (by kernel_rfl) (by kernel_rfl) (by kernel_rfl) ?qr10_11 (Or.inl ⟨?wr10_11, ?yr10_11⟩) (by assumption) ?rr10_11
                                case hr10_11 => (simp only [List.getElem?_toArray, List.getElem?_cons_succ, List.getElem?_cons_zero]; rfl)
                                case qr10_11 => exact fun _ _ _ h => h
                                case wr10_11 => rfl
                                case yr10_11 => (intro w hSw; (try dsimp only at hSw); go_simp <;> with_reducible rfl)
                                try simp only [Act.put, List.setIfInBounds_toArray, List.set_cons_zero, List.set_cons_succ]
                                refine wpAnyH_take (i := 12) (oi := ?or10_12) (v := ?vr10_12) ?hr10_12 (by kernel_rfl) (by kernel_rfl) (by kernel_rfl) ?qr10_12 (Or.inl ⟨?wr10_12, ?yr10_12⟩) (by assumption) ?rr10_12
                                case hr10_12 => (simp only [List.getElem?_toArray, List.getElem?_cons_succ, List.getElem?_cons_zero]; rfl)
                                case qr10_12 => exact fun _ _ _ h => h
                                case wr10_12 => rfl
                                case yr10_12 => (intro w hSw; (try dsimp only at hSw); go_simp <;> with_reducible rfl)
                                try simp only [Act.put, List.setIfInBounds_toArray, List.set_cons_zero, List.set_cons_succ]
                                refine wpAnyH_take (i := 13) (oi := ?or10_13) (v := ?vr10_13) ?hr10_13 (by kernel_rfl) (by kernel_rfl) (by kernel_rfl) ?qr10_13 (Or.inl ⟨?wr10_13, ?yr10_13⟩) (by assumption) ?rr10_13
                                case hr10_13 => (simp only [List.getElem?_toArray, List.getElem?_cons_succ, List.getElem?_cons_zero]; rfl)
                                case qr10_13 => exact fun _ _ _ h => h
                                case wr10_13 => rfl
                                case yr10_13 => (intro w hSw; (try dsimp only at hSw); go_simp <;> with_reducible rfl)
                                try simp only [Act.put, List.setIfInBounds_toArray, List.set_cons_zero, List.set_cons_succ]
                                refine wpAnyH_take (i := 14) (oi := ?or10_14) (v := ?vr10_14) ?hr10_14 (by kernel_rfl) (by kernel_rfl) (by kernel_rfl) ?qr10_14 (Or.inl ⟨?wr10_14, ?yr10_14⟩) (by assumption) ?rr10_14
                                case hr10_14 => (simp only [List.getElem?_toArray, List.getElem?_cons_succ, List.getElem?_cons_zero]; rfl)
                                case qr10_14 => exact fun _ _ _ h => h
                                case wr10_14 => rfl
                                case yr10_14 => (intro w hSw; (try dsimp only at hSw); go_simp <;> with_reducible rfl)
                                try simp only [Act.put, List.setIfInBounds_toArray, List.set_cons_zero, List.set_cons_succ]
                                refine wpAnyH_take (i := 15) (oi := ?or10_15) (v := ?vr10_15) ?hr10_15 (by kernel_rfl) (by kernel_rfl) (by kernel_rfl) ?qr10_15 (Or.inl ⟨?wr10_15, ?yr10_15⟩) (by assumption) ?rr10_15
                                case hr10_15 => (simp only [List.getElem?_toArray, List.getElem?_cons_succ, List.getElem?_cons_zero]; rfl)
                                case qr10_15 => exact fun _ _ _ h => h
                                case wr10_15 => rfl
                                case yr10_15 => (intro w hSw; (try dsimp only at hSw); go_simp <;> with_reducible rfl)
                                try simp only [Act.put, List.setIfInBounds_toArray, List.set_cons_zero, List.set_cons_succ]
                                refine wpAnyH_take (i := 16) (oi := ?or10_16) (v := ?vr10_16) ?hr10_16 (by kernel_rfl) (by kernel_rfl) (by kernel_rfl) ?qr10_16 (Or.inl ⟨?wr10_16, ?yr10_16⟩) (by assumption) ?rr10_16
                                case hr10_16 => (simp only [List.getElem?_toArray, List.getElem?_cons_succ, List.getElem?_cons_zero]; rfl)
                                case qr10_16 => exact fun _ _ _ h => h
                                case wr10_16 => rfl
                                case yr10_16 => (intro w hSw; (try dsimp only at hSw); go_simp <;> with_reducible rfl)
                                try simp only [Act.put, List.setIfInBounds_toArray, List.set_cons_zero, List.set_cons_succ]
                                refine wpAnyH_take (i := 17) (oi := ?or10_17) (v := ?vr10_17) ?hr10_17 (by kernel_rfl) (by kernel_rfl) (by kernel_rfl) ?qr10_17 (Or.inl ⟨?wr10_17, ?yr10_17⟩) (by assumption) ?rr10_17
                                case hr10_17 => (simp only [List.getElem?_toArray, List.getElem?_cons_succ, List.getElem?_cons_zero]; rfl)
                                case qr10_17 => exact fun _ _ _ h => h
                                case wr10_17 => rfl
                                case yr10_17 => (intro w hSw; (try dsimp only at hSw); go_simp <;> with_reducible rfl)
                                try simp only [Act.put, List.setIfInBounds_toArray, List.set_cons_zero, List.set_cons_succ]
                                refine wpAnyH_take (i := 18) (oi := ?or10_18) (v := ?vr10_18) ?hr10_18 (by kernel_rfl) (by kernel_rfl) (by kernel_rfl) ?qr10_18 (Or.inl ⟨?wr10_18, ?yr10_18⟩) (by assumption) ?rr10_18
                                case hr10_18 => (simp only [List.getElem?_toArray, List.getElem?_cons_succ, List.getElem?_cons_zero]; rfl)
                                case qr10_18 => exact fun _ _ _ h => h
                                case wr10_18 => rfl
                                case yr10_18 => (intro w hSw; (try dsimp only at hSw); go_simp <;> with_reducible rfl)
                                try simp only [Act.put, List.setIfInBounds_toArray, List.set_cons_zero, List.set_cons_succ]
                                refine wpAnyH_take (i := 19) (oi := ?or10_19) (v := ?vr10_19) ?hr10_19 (by kernel_rfl) (by kernel_rfl) (by kernel_rfl) ?qr10_19 (Or.inl ⟨?wr10_19, ?yr10_19⟩) (by assumption) ?rr10_19
                                case hr10_19 => (simp only [List.getElem?_toArray, List.getElem?_cons_succ, List.getElem?_cons_zero]; rfl)
                                case qr10_19 => exact fun _ _ _ h => h
                                case wr10_19 => rfl
                                case yr10_19 => (intro w hSw; (try dsimp only at hSw); go_simp <;> with_reducible rfl)
                                try simp only [Act.put, List.setIfInBounds_toArray, List.set_cons_zero, List.set_cons_succ]
                                refine wpAnyH_take (i := 20) (oi := ?or10_20) (v := ?vr10_20) ?hr10_20 (by kernel_rfl) (by kernel_rfl) (by kernel_rfl) ?qr10_20 (Or.inl ⟨?wr10_20, ?yr10_20⟩) (by assumption) ?rr10_20
                                case hr10_20 => (simp only [List.getElem?_toArray, List.getElem?_cons_succ, List.getElem?_cons_zero]; rfl)
                                case qr10_20 => exact fun _ _ _ h => h
                                case wr10_20 => rfl
                                case yr10_20 => (intro w hSw; (try dsimp only at hSw); go_simp <;> with_reducible rfl)
                                try simp only [Act.put, List.setIfInBounds_toArray, List.set_cons_zero, List.set_cons_succ]
                                refine wpAnyH_take (i := 21) (oi := ?or10_21) (v := ?vr10_21) ?hr10_21 (by kernel_rfl) (by kernel_rfl) (by kernel_rfl) ?qr10_21 (Or.inl ⟨?wr10_21, ?yr10_21⟩) (by assumption) ?rr10_21
                                case hr10_21 => (simp only [List.getElem?_toArray, List.getElem?_cons_succ, List.getElem?_cons_zero]; rfl)
                                case qr10_21 => exact fun _ _ _ h => h
                                case wr10_21 => rfl
                                case yr10_21 => (intro w hSw; (try dsimp only at hSw); go_simp <;> with_reducible rfl)
                                try simp only [Act.put, List.setIfInBounds_toArray, List.set_cons_zero, List.set_cons_succ]
                                refine wpAnyH_done (by kernel_rfl) ?_ _
                                go_wp2_with fail
                                go_roundw
                                case rel => exact ⟨u + 1, by omega, by rw [HE2.out], by go_num, m + 2, by rw [← hm]; rfl⟩
                                case measure => simp [intOf]; omega
                              · have HE2 : Hid (eqM P Q R i j cc (u + 1) = xr r (2 ^ u)) := Lib.hid (by rw [HE1.out, hbn, if_pos ⟨hoi, rfl⟩])
                                have hxr := xor_two HSr.out (t := u) (by omega)
                                clear hoi
                                go_wp2_with fail
                                refine wp_region_held_drew (S := (fun w' => w'.cell? ⟨g2, 1 + j, none⟩ = some (.slice (some ⟨h2, 0, none⟩) p p) ∧ w'.cell? ⟨h2, o2, none⟩ = some (.int .i64 (m2 : Nat)) ∧ w'.cell? ⟨br, ob, none⟩ = some (.int .i64 (o1 : Nat)) ∧ w'.cell? ⟨br, ob + 1, none⟩ = some (.int .i64 (o2 : Nat)))) (by kernel_rfl) (by exact ⟨q3, q4, hc0, hc1⟩) (fun hHeld => ?_)
                                refine wpAnyH_take (i := 0) (oi := ?or11_0) (v := ?vr11_0) ?hr11_0 (by kernel_rfl) (by kernel_rfl) (by kernel_rfl) ?qr11_0 (Or.inl ⟨?wr11_0, ?yr11_0⟩) (by assumption) ?rr11_0
                                case hr11_0 => (simp only [List.getElem?_toArray, List.getElem?_cons_succ, List.getElem?_cons_zero]; rfl)
                                case qr11_0 => exact fun _ _ _ h => h
                                case wr11_0 => rfl
                                case yr11_0 => (intro w hSw; (try dsimp only at hSw); go_simp <;> with_reducible rfl)
                                try simp only [Act.put, List.setIfInBounds_toArray, List.set_cons_zero, List.set_cons_succ]
                                refine wpAnyH_take (i := 1) (oi := ?or11_1) (v := ?vr11_1) ?hr11_1 (by kernel_rfl) (by kernel_rfl) (by kernel_rfl) ?qr11_1 (Or.inl ⟨?wr11_1, ?yr11_1⟩) (by assumption) ?rr11_1
                                case hr11_1 => (simp only [List.getElem?_toArray, List.getElem?_cons_succ, List.getElem?_cons_zero]; rfl)
                                case qr11_1 => exact fun _ _ _ h => h
                                case wr11_1 => rfl
                                case yr11_1 => (intro w hSw; (try dsimp only at hSw); go_simp <;> with_reducible rfl)
                                try simp only [Act.put, List.setIfInBounds_toArray, List.set_cons_zero, List.set_cons_succ]
                                refine wpAnyH_take (i := 2) (oi := ?or11_2) (v := ?vr11_2) ?hr11_2 (by kernel_rfl) (by kernel_rfl) (by kernel_rfl) ?qr11_2 (Or.inl ⟨?wr11_2, ?yr11_2⟩) (by assumption) ?rr11_2
                                case hr11_2 => (simp only [List.getElem?_toArray, List.getElem?_cons_succ, List.getElem?_cons_zero]; rfl)
                                case qr11_2 => exact fun _ _ _ h => h
                                case wr11_2 => rfl
                                case yr11_2 => (intro w hSw; (try dsimp only at hSw); go_simp <;> with_reducible rfl)
                                try simp only [Act.put, List.setIfInBounds_toArray, List.set_cons_zero, List.set_cons_succ]
                                refine wpAnyH_take (i := 3) (oi := ?or11_3) (v := ?vr11_3) ?hr11_3 (by kernel_rfl) (by kernel_rfl) (by kernel_rfl) ?qr11_3 (Or.inl ⟨?wr11_3, ?yr11_3⟩) (by assumption) ?rr11_3
                                case hr11_3 => (simp only [List.getElem?_toArray, List.getElem?_cons_succ, List.getElem?_cons_zero]; rfl)
                                case qr11_3 => exact fun _ _ _ h => h
                                case wr11_3 => rfl
                                case yr11_3 => (intro w hSw; (try dsimp only at hSw); go_simp <;> with_reducible rfl)
                                try simp only [Act.put, List.setIfInBounds_toArray, List.set_cons_zero, List.set_cons_succ]
                                refine wpAnyH_take (i := 4) (oi := ?or11_4) (v := ?vr11_4) ?hr11_4 (by kernel_rfl) (by kernel_rfl) (by kernel_rfl) ?qr11_4 (Or.inl ⟨?wr11_4, ?yr11_4⟩) (by assumption) ?rr11_4
                                case hr11_4 => (simp only [List.getElem?_toArray, List.getElem?_cons_succ, List.getElem?_cons_zero]; rfl)
                                case qr11_4 => exact fun _ _ _ h => h
                                case wr11_4 => rfl
                                case yr11_4 => (intro w hSw; (try dsimp only at hSw); go_simp <;> with_reducible rfl)
                                try simp only [Act.put, List.setIfInBounds_toArray, List.set_cons_zero, List.set_cons_succ]
                                refine wpAnyH_take (i := 5) (oi := ?or11_5) (v := ?vr11_5) ?hr11_5 (by kernel_rfl) (by kernel_rfl) (by kernel_rfl) ?qr11_5 (Or.inl ⟨?wr11_5, ?yr11_5⟩) (by assumption) ?rr11_5
                                case hr11_5 => (simp only [List.getElem?_toArray, List.getElem?_cons_succ, List.getElem?_cons_zero]; rfl)
                                case qr11_5 => exact fun _ _ _ h => h
                                case wr11_5 => rfl
                                case yr11_5 => (intro w hSw; (try dsimp only at hSw); go_simp <;> with_reducible rfl)
                                try simp only [Act.put, List.setIfInBounds_toArray, List.set_cons_zero, List.set_cons_succ]
                                refine wpAnyH_take (i := 6) (oi := ?or11_6) (v := ?vr11_6) ?hr11_6 (by kernel_rfl) (by kernel_rfl) (by kernel_rfl) ?qr11_6 (Or.inl ⟨?wr11_6, ?yr11_6⟩) (by assumption) ?rr11_6
                                case hr11_6 => (simp only [List.getElem?_toArray, List.getElem?_cons_succ, List.getElem?_cons_zero]; rfl)
                                case qr11_6 => exact fun _ _ _ h => h
                                case wr11_6 => rfl
                                case yr11_6 => (intro w hSw; (try dsimp only at hSw); go_simp <;> with_reducible rfl)
                                try simp only [Act.put, List.setIfInBounds_toArray, List.set_cons_zero, List.set_cons_succ]
                                refine wpAnyH_take (i := 7) (oi := ?or11_7) (v := ?vr11_7) ?hr11_7 (by kernel_rfl) (by kernel_rfl) (by kernel_rfl) ?qr11_7 (Or.inl ⟨?wr11_7, ?yr11_7⟩) (by assumption) ?rr11_7
                                case hr11_7 => (simp only [List.getElem?_toArray, List.getElem?_cons_succ, List.getElem?_cons_zero]; rfl)
                                case qr11_7 => exact fun _ _ _ h => h
                                case wr11_7 => rfl
                                case yr11_7 => (intro w hSw; (try dsimp only at hSw); go_simp <;> with_reducible rfl)
                                try simp only [Act.put, List.setIfInBounds_toArray, List.set_cons_zero, List.set_cons_succ]
                                refine wpAnyH_take (i := 8) (oi := ?or11_8) (v := ?vr11_8) ?hr11_8 (by kernel_rfl) (by kernel_rfl) (by kernel_rfl) ?qr11_8 (Or.inl ⟨?wr11_8, ?yr11_8⟩) (by assumption) ?rr11_8
                                case hr11_8 => (simp only [List.getElem?_toArray, List.getElem?_cons_succ, List.getElem?_cons_zero]; rfl)
                                case qr11_8 => exact fun _ _ _ h => h
                                case wr11_8 => rfl
                                case yr11_8 => (intro w hSw; (try dsimp only at hSw); go_simp <;> with_reducible rfl)
                                try simp only [Act.put, List.setIfInBounds_toArray, List.set_cons_zero, List.set_cons_succ]
                                refine wpAnyH_take (i := 9) (oi := ?or11_9) (v := ?vr11_9) ?hr11_9 (by kernel_rfl) (by kernel_rfl) (by kernel_rfl) ?qr11_9 (Or.inl ⟨?wr11_9, ?yr11_9⟩) (by assumption) ?rr11_9
                                case hr11_9 => (simp only [List.getElem?_toArray, List.getElem?_cons_succ, List.getElem?_cons_zero]; rfl)
                                case qr11_9 => exact fun _ _ _ h => h
                                case wr11_9 => rfl
                                case yr11_9 => (intro w hSw; (try dsimp only at hSw); go_simp <;> with_reducible rfl)
                                try simp only [Act.put, List.setIfInBounds_toArray, List.set_cons_zero, List.set_cons_succ]
                                refine wpAnyH_take (i := 10) (oi := ?or11_10) (v := ?vr11_10) ?hr11_10 (by kernel_rfl) (by kernel_rfl) (by kernel_rfl) ?qr11_10 (Or.inl ⟨?wr11_10, ?yr11_10⟩) (by assumption) ?rr11_10
                                case hr11_10 => (simp only [List.getElem?_toArray, List.getElem?_cons_succ, List.getElem?_cons_zero]; rfl)
                                case qr11_10 => exact fun _ _ _ h => h
                                case wr11_10 => rfl
                                case yr11_10 => (intro w hSw; (try dsimp only at hSw); go_simp <;> with_reducible rfl)
                                try simp only [Act.put, List.setIfInBounds_toArray, List.set_cons_zero, List.set_cons_succ]
                                refine wpAnyH_take (i := 11) (oi := ?or11_11) (v := ?vr11_11) ?hr11_11 (by kernel_rfl) (by kernel_rfl) (by kernel_rfl) ?qr11_11 (Or.inl ⟨?wr11_11, ?yr11_11⟩) (by assumption) ?rr11_11
                                case hr11_11 => (simp only [List.getElem?_toArray, List.getElem?_cons_succ, List.getElem?_cons_zero]; rfl)
                                case qr11_11 => exact fun _ _ _ h => h
                                case wr11_11 => rfl
                                case yr11_11 => (intro w hSw; (try dsimp only at hSw); go_simp <;> with_reducible rfl)
                                try simp only [Act.put, List.setIfInBounds_toArray, List.set_cons_zero, List.set_cons_succ]
                                refine wpAnyH_take (i := 12) (oi := ?or11_12) (v := ?vr11_12) ?hr11_12 (by kernel_rfl) (by kernel_rfl) (by kernel_rfl) ?qr11_12 (Or.inl ⟨?wr11_12, ?yr11_12⟩) (by assumption) ?rr11_12
                                case hr11_12 => (simp only [List.getElem?_toArray, List.getElem?_cons_succ, List.getElem?_cons_zero]; rfl)
                                case qr11_12 => exact fun _ _ _ h => h
                                case wr11_12 => rfl
                                case yr11_12 => (intro w hSw; (try dsimp only at hSw); go_simp <;> with_reducible rfl)
                                try simp only [Act.put, List.setIfInBounds_toArray, List.set_cons_zero, List.set_cons_succ]
                                refine wpAnyH_take (i := 13) (oi := ?or11_13) (v := ?vr11_13) ?hr11_13 (by kernel_rfl) (by kernel_rfl) (by kernel_rfl) ?qr11_13 (Or.inl ⟨?wr11_13, ?yr11_13⟩) (by assumption) ?rr11_13
                                case hr11_13 => (simp only [List.getElem?_toArray, List.getElem?_cons_succ, List.getElem?_cons_zero]; rfl)
                                case qr11_13 => exact fun _ _ _ h => h
                                case wr11_13 => rfl
                                case yr11_13 => (intro w hSw; (try dsimp only at hSw); go_simp <;> with_reducible rfl)
                                try simp only [Act.put, List.setIfInBounds_toArray, List.set_cons_zero, List.set_cons_succ]
                                refine wpAnyH_take (i := 14) (oi := ?or11_14) (v := ?vr11_14) ?hr11_14 (by kernel_rfl) (by kernel_rfl) (by kernel_rfl) ?qr11_14 (Or.inl ⟨?wr11_14, ?yr11_14⟩) (by assumption) ?rr11_14
                                case hr11_14 => (simp only [List.getElem?_toArray, List.getElem?_cons_succ, List.getElem?_cons_zero]; rfl)
                                case qr11_14 => exact fun _ _ _ h => h
                                case wr11_14 => rfl
                                case yr11_14 => (intro w hSw; (try dsimp only at hSw); go_simp <;> with_reducible rfl)
                                try simp only [Act.put, List.setIfInBounds_toArray, List.set_cons_zero, List.set_cons_succ]
                                refine wpAnyH_take (i := 15) (oi := ?or11_15) (v := ?vr11_15) ?hr11_15 (by kernel_rfl) (by kernel_rfl) (by kernel_rfl) ?qr11_15 (Or.inl ⟨?wr11_15, ?yr11_15⟩) (by assumption) ?rr11_15
                                case hr11_15 => (simp only [List.getElem?_toArray, List.getElem?_cons_succ, List.getElem?_cons_zero]; rfl)
                                case qr11_15 => exact fun _ _ _ h => h
                                case wr11_15 => rfl
                                case yr11_15 => (intro w hSw; (try dsimp only at hSw); go_simp <;> with_reducible rfl)
                                try simp only [Act.put, List.setIfInBounds_toArray, List.set_cons_zero, List.set_cons_succ]
                                refine wpAnyH_take (i := 16) (oi := ?or11_16) (v := ?vr11_16) ?hr11_16 (by kernel_rfl) (by kernel_rfl) (by kernel_rfl) ?qr11_16 (Or.inl ⟨?wr11_16, ?yr11_16⟩) (by assumption) ?rr11_16
                                case hr11_16 => (simp only [List.getElem?_toArray, List.getElem?_cons_succ, List.getElem?_cons_zero]; rfl)
                                case qr11_16 => exact fun _ _ _ h => h
                                case wr11_16 => rfl
                                case yr11_16 => (intro w hSw; (try dsimp only at hSw); go_simp <;> with_reducible rfl)
                                try simp only [Act.put, List.setIfInBounds_toArray, List.set_cons_zero, List.set_cons_succ]
                                refine wpAnyH_take (i := 17) (oi := ?or11_17) (v := ?vr11_17) ?hr11_17 (by kernel_rfl) (by kernel_rfl) (by kernel_rfl) ?qr11_17 (Or.inl ⟨?wr11_17, ?yr11_17⟩) (by assumption) ?rr11_17
                                case hr11_17 => (simp only [List.getElem?_toArray, List.getElem?_cons_succ, List.getElem?_cons_zero]; rfl)
                                case qr11_17 => exact fun _ _ _ h => h
                                case wr11_17 => rfl
                                case yr11_17 => (intro w hSw; (try dsimp only at hSw); go_simp <;> with_reducible rfl)
                                try simp only [Act.put, List.setIfInBounds_toArray, List.set_cons_zero, List.set_cons_succ]
                                refine wpAnyH_take (i := 18) (oi := ?or11_18) (v := ?vr11_18) ?hr11_18 (by kernel_rfl) (by kernel_rfl) (by kernel_rfl) ?qr11_18 (Or.inl ⟨?wr11_18, ?yr11_18⟩) (by assumption) ?rr11_18
                                case hr11_18 => (simp only [List.getElem?_toArray, List.getElem?_cons_succ, List.getElem?_cons_zero]; rfl)
                                case qr11_18 => exact fun _ _ _ h => h
                                case wr11_18 => rfl
                                case yr11_18 => (intro w hSw; (try dsimp only at hSw); go_simp <;> with_reducible rfl)
                                try simp only [Act.put, List.setIfInBounds_toArray, List.set_cons_zero, List.set_cons_succ]
                                refine wpAnyH_take (i := 19) (oi := ?or11_19) (v := ?vr11_19) ?hr11_19 (by kernel_rfl) (by kernel_rfl) (by kernel_rfl) ?qr11_19 (Or.inl ⟨?wr11_19, ?yr11_19⟩) (by assumption) ?rr11_19
                                case hr11_19 => (simp only [List.getElem?_toArray, List.getElem?_cons_succ, List.getElem?_cons_zero]; rfl)
                                case qr11_19 => exact fun _ _ _ h => h
                                case wr11_19 => rfl
                                case yr11_19 => (intro w hSw; (try dsimp only at hSw); go_simp <;> with_reducible rfl)
                                try simp only [Act.put, List.setIfInBounds_toArray, List.set_cons_zero, List.set_cons_succ]
                                refine wpAnyH_take (i := 20) (oi := ?or11_20) (v := ?vr11_20) ?hr11_20 (by kernel_rfl) (by kernel_rfl) (by kernel_rfl) ?qr11_20 (Or.inl ⟨?wr11_20, ?yr11_20⟩) (by assumption) ?rr11_20
                                case hr11_20 => (simp only [List.getElem?_toArray, List.getElem?_cons_succ, List.getElem?_cons_zero]; rfl)
                                case qr11_20 => exact fun _ _ _ h => h
                                case wr11_20 => rfl
                                case yr11_20 => (intro w hSw; (try dsimp only at hSw); go_simp <;> with_reducible rfl)
                                try simp only [Act.put, List.setIfInBounds_toArray, List.set_cons_zero, List.set_cons_succ]
                                refine wpAnyH_take (i := 21) (oi := ?or11_21) (v := ?vr11_21) ?hr11_21 (by kernel_rfl) (by kernel_rfl) (by kernel_rfl) ?qr11_21 (Or.inl ⟨?wr11_21, ?yr11_21⟩) (by assumption) ?rr11_21
                                case hr11_21 => (simp only [List.getElem?_toArray, List.getElem?_cons_succ, List.getElem?_cons_zero]; rfl)
                                case qr11_21 => exact fun _ _ _ h => h
                                case wr11_21 => rfl
                                case yr11_21 => (intro w hSw; (try dsimp only at hSw); go_simp <;> with_reducible rfl)
                                try simp only [Act.put, List.setIfInBounds_toArray, List.set_cons_zero, List.set_cons_succ]
                                refine wpAnyH_done (by kernel_rfl) ?_ _
                                go_wp2_with fail
                                go_roundw
                                case rel => exact ⟨u + 1, by omega, by rw [HE2.out], by go_num, m + 2, by rw [← hm]; rfl⟩
                                case measure => simp [intOf]; omega
                            · have hoib : ((o1 : Int) == (i : Int)) = false := by simp; omega
                              have HE2 : Hid (eqM P Q R i j cc (u + 1) = r) := Lib.hid (by rw [HE1.out, if_neg (fun h => hoi h.1), xr_zero])
                              clear hoi
                              go_wp2_with fail
                              refine wp_region_held_drew (S := (fun w' => w'.cell? ⟨g2, 1 + j, none⟩ = some (.slice (some ⟨h2, 0, none⟩) p p) ∧ w'.cell? ⟨h2, o2, none⟩ = some (.int .i64 (m2 : Nat)) ∧ w'.cell? ⟨br, ob, none⟩ = some (.int .i64 (o1 : Nat)) ∧ w'.cell? ⟨br, ob + 1, none⟩ = some (.int .i64 (o2 : Nat)))) (by kernel_rfl) (by exact ⟨q3, q4, hc0, hc1⟩) (fun hHeld => ?_)
                              refine wpAnyH_take (i := 0) (oi := ?or12_0) (v := ?vr12_0) ?hr12_0 (by kernel_rfl) (by kernel_rfl) (by kernel_rfl) ?qr12_0 (Or.inl ⟨?wr12_0, ?yr12_0⟩) (by assumption) ?rr12_0
                              case hr12_0 => (simp only [List.getElem?_toArray, List.getElem?_cons_succ, List.getElem?_cons_zero]; rfl)
                              case qr12_0 => exact fun _ _ _ h => h
                              case wr12_0 => rfl
                              case yr12_0 => (intro w hSw; (try dsimp only at hSw); go_simp <;> with_reducible rfl)
                              try simp only [Act.put, List.setIfInBounds_toArray, List.set_cons_zero, List.set_cons_succ]
                              refine wpAnyH_take (i := 1) (oi := ?or12_1) (v := ?vr12_1) ?hr12_1 (by kernel_rfl) (by kernel_rfl) (by kernel_rfl) ?qr12_1 (Or.inl ⟨?wr12_1, ?yr12_1⟩) (by assumption) ?rr12_1
                              case hr12_1 => (simp only [List.getElem?_toArray, List.getElem?_cons_succ, List.getElem?_cons_zero]; rfl)
                              case qr12_1 => exact fun _ _ _ h => h
                              case wr12_1 => rfl
                              case yr12_1 => (intro w hSw; (try dsimp only at hSw); go_simp <;> with_reducible rfl)
                              try simp only [Act.put, List.setIfInBounds_toArray, List.set_cons_zero, List.set_cons_succ]
                              refine wpAnyH_take (i := 2) (oi := ?or12_2) (v := ?vr12_2) ?hr12_2 (by kernel_rfl) (by kernel_rfl) (by kernel_rfl) ?qr12_2 (Or.inl ⟨?wr12_2, ?yr12_2⟩) (by assumption) ?rr12_2
                              case hr12_2 => (simp only [List.getElem?_toArray, List.getElem?_cons_succ, List.getElem?_cons_zero]; rfl)
                              case qr12_2 => exact fun _ _ _ h => h
                              case wr12_2 => rfl
                              case yr12_2 => (intro w hSw; (try dsimp only at hSw); go_simp <;> with_reducible rfl)
                              try simp only [Act.put, List.setIfInBounds_toArray, List.set_cons_zero, List.set_cons_succ]
                              refine wpAnyH_take (i := 3) (oi := ?or12_3) (v := ?vr12_3) ?hr12_3 (by kernel_rfl) (by kernel_rfl) (by kernel_rfl) ?qr12_3 (Or.inl ⟨?wr12_3, ?yr12_3⟩) (by assumption) ?rr12_3
                              case hr12_3 => (simp only [List.getElem?_toArray, List.getElem?_cons_succ, List.getElem?_cons_zero]; rfl)
                              case qr12_3 => exact fun _ _ _ h => h
                              case wr12_3 => rfl
                              case yr12_3 => (intro w hSw; (try dsimp only at hSw); go_simp <;> with_reducible rfl)
                              try simp only [Act.put, List.setIfInBounds_toArray, List.set_cons_zero, List.set_cons_succ]
                              refine wpAnyH_take (i := 4) (oi := ?or12_4) (v := ?vr12_4) ?hr12_4 (by kernel_rfl) (by kernel_rfl) (by kernel_rfl) ?qr12_4 (Or.inl ⟨?wr12_4, ?yr12_4⟩) (by assumption) ?rr12_4
                              case hr12_4 => (simp only [List.getElem?_toArray, List.getElem?_cons_succ, List.getElem?_cons_zero]; rfl)
                              case qr12_4 => exact fun _ _ _ h => h
                              case wr12_4 => rfl
                              case yr12_4 => (intro w hSw; (try dsimp only at hSw); go_simp <;> with_reducible rfl)
                              try simp only [Act.put, List.setIfInBounds_toArray, List.set_cons_zero, List.set_cons_succ]
                              refine wpAnyH_take (i := 5) (oi := ?or12_5) (v := ?vr12_5) ?hr12_5 (by kernel_rfl) (by kernel_rfl) (by kernel_rfl) ?qr12_5 (Or.inl ⟨?wr12_5, ?yr12_5⟩) (by assumption) ?rr12_5
                              case hr12_5 => (simp only [List.getElem?_toArray, List.getElem?_cons_succ, List.getElem?_cons_zero]; rfl)
                              case qr12_5 => exact fun _ _ _ h => h
                              case wr12_5 => rfl
                              case yr12_5 => (intro w hSw; (try dsimp only at hSw); go_simp <;> with_reducible rfl)
                              try simp only [Act.put, List.setIfInBounds_toArray, List.set_cons_zero, List.set_cons_succ]
                              refine wpAnyH_take (i := 6) (oi := ?or12_6) (v := undef) ?hr12_6 (by kernel_rfl) (by kernel_rfl) (by kernel_rfl) ?qr12_6 (Or.inr ⟨?wr12_6, rfl⟩) (by assumption) ?rr12_6
                              case hr12_6 => (simp only [List.getElem?_toArray, List.getElem?_cons_succ, List.getElem?_cons_zero]; rfl)
                              case qr12_6 => exact fun _ _ _ h => h
                              case wr12_6 => rfl
                              try simp only [Act.put, List.setIfInBounds_toArray, List.set_cons_zero, List.set_cons_succ]
                              refine wpAnyH_take (i := 7) (oi := ?or12_7) (v := undef) ?hr12_7 (by kernel_rfl) (by kernel_rfl) (by kernel_rfl) ?qr12_7 (Or.inr ⟨?wr12_7, rfl⟩) (by assumption) ?rr12_7
                              case hr12_7 => (simp only [List.getElem?_toArray, List.getElem?_cons_succ, List.getElem?_cons_zero]; rfl)
                              case qr12_7 => exact fun _ _ _ h => h
                              case wr12_7 => rfl
                              try simp only [Act.put, List.setIfInBounds_toArray, List.set_cons_zero, List.set_cons_succ]
                              refine wpAnyH_take (i := 8) (oi := ?or12_8) (v := undef) ?hr12_8 (by kernel_rfl) (by kernel_rfl) (by kernel_rfl) ?qr12_8 (Or.inr ⟨?wr12_8, rfl⟩) (by assumption) ?rr12_8
                              case hr12_8 => (simp only [List.getElem?_toArray, List.getElem?_cons_succ, List.getElem?_cons_zero]; rfl)
                              case qr12_8 => exact fun _ _ _ h => h
                              case wr12_8 => rfl
                              try simp only [Act.put, List.setIfInBounds_toArray, List.set_cons_zero, List.set_cons_succ]
                              refine wpAnyH_take (i := 9) (oi := ?or12_9) (v := undef) ?hr12_9 (by kernel_rfl) (by kernel_rfl) (by kernel_rfl) ?qr12_9 (Or.inr ⟨?wr12_9, rfl⟩) (by assumption) ?rr12_9
                              case hr12_9 => (simp only [List.getElem?_toArray, List.getElem?_cons_succ, List.getElem?_cons_zero]; rfl)
                              case qr12_9 => exact fun _ _ _ h => h
                              case wr12_9 => rfl
                              try simp only [Act.put, List.setIfInBounds_toArray, List.set_cons_zero, List.set_cons_succ]
                              refine wpAnyH_take (i := 10) (oi := ?or12_10) (v := undef) ?hr12_10 (by kernel_rfl) (by kernel_rfl) (by kernel_rfl) ?qr12_10 (Or.inr ⟨?wr12_10, rfl⟩) (by assumption) ?rr12_10
                              case hr12_10 => (simp only [List.getElem?_toArray, List.getElem?_cons_succ, List.getElem?_cons_zero]; rfl)
                              case qr12_10 => exact fun _ _ _ h => h
                              case wr12_10 => rfl
                              try simp only [Act.put, List.setIfInBounds_toArray, List.set_cons_zero, List.set_cons_succ]
                              refine wpAnyH_take (i := 11) (oi := ?or12_11) (v := undef) ?hr12_11 (by kernel_rfl) (by kernel_rfl) (by kernel_rfl) ?qr12_11 (Or.inr ⟨?wr12_11, rfl⟩) (by assumption) ?rr12_11
                              case hr12_11 => (simp only [List.getElem?_toArray, List.getElem?_cons_succ, List.getElem?_cons_zero]; rfl)
                              case qr12_11 => exact fun _ _ _ h => h
                              case wr12_11 => rfl
                              try simp only [Act.put, List.setIfInBounds_toArray, List.set_cons_zero, List.set_cons_succ]
                              refine wpAnyH_take (i := 12) (oi := ?or12_12) (v := undef) ?hr12_12 (by kernel_rfl) (by kernel_rfl) (by kernel_rfl) ?qr12_12 (Or.inr ⟨?wr12_12, rfl⟩) (by assumption) ?rr12_12
                              case hr12_12 => (simp only [List.getElem?_toArray, List.getElem?_cons_succ, List.getElem?_cons_zero]; rfl)
                              case qr12_12 => exact fun _ _ _ h => h
                              case wr12_12 => rfl
                              try simp only [Act.put, List.setIfInBounds_toArray, List.set_cons_zero, List.set_cons_succ]
                              refine wpAnyH_take (i := 13) (oi := ?or12_13) (v := undef) ?hr12_13 (by kernel_rfl) (by kernel_rfl) (by kernel_rfl) ?qr12_13 (Or.inr ⟨?wr12_13, rfl⟩) (by assumption) ?rr12_13
                              case hr12_13 => (simp only [List.getElem?_toArray, List.getElem?_cons_succ, List.getElem?_cons_zero]; rfl)
                              case qr12_13 => exact fun _ _ _ h => h
                              case wr12_13 => rfl
                              try simp only [Act.put, List.setIfInBounds_toArray, List.set_cons_zero, List.set_cons_succ]
                              refine wpAnyH_take (i := 14) (oi := ?or12_14) (v := undef) ?hr12_14 (by kernel_rfl) (by kernel_rfl) (by kernel_rfl) ?qr12_14 (Or.inr ⟨?wr12_14, rfl⟩) (by assumption) ?rr12_14
                              case hr12_14 => (simp only [List.getElem?_toArray, List.getElem?_cons_succ, List.getElem?_cons_zero]; rfl)
                              case qr12_14 => exact fun _ _ _ h => h
                              case wr12_14 => rfl
                              try simp only [Act.put, List.setIfInBounds_toArray, List.set_cons_zero, List.set_cons_succ]
                              refine wpAnyH_take (i := 15) (oi := ?or12_15) (v := undef) ?hr12_15 (by kernel_rfl) (by kernel_rfl) (by kernel_rfl) ?qr12_15 (Or.inr ⟨?wr12_15, rfl⟩) (by assumption) ?rr12_15
                              case hr12_15 => (simp only [List.getElem?_toArray, List.getElem?_cons_succ, List.getElem?_cons_zero]; rfl)
                              case qr12_15 => exact fun _ _ _ h => h
                              case wr12_15 => rfl
                              try simp only [Act.put, List.setIfInBounds_toArray, List.set_cons_zero, List.set_cons_succ]
                              refine wpAnyH_take (i := 16) (oi := ?or12_16) (v := undef) ?hr12_16 (by kernel_rfl) (by kernel_rfl) (by kernel_rfl) ?qr12_16 (Or.inr ⟨?wr12_16, rfl⟩) (by assumption) ?rr12_16
                              case hr12_16 => (simp only [List.getElem?_toArray, List.getElem?_cons_succ, List.getElem?_cons_zero]; rfl)
                              case qr12_16 => exact fun _ _ _ h => h
                              case wr12_16 => rfl
                              try simp only [Act.put, List.setIfInBounds_toArray, List.set_cons_zero, List.set_cons_succ]
                              refine wpAnyH_take (i := 17) (oi := ?or12_17) (v := undef) ?hr12_17 (by kernel_rfl) (by kernel_rfl) (by kernel_rfl) ?qr12_17 (Or.inr ⟨?wr12_17, rfl⟩) (by assumption) ?rr12_17
                              case hr12_17 => (simp only [List.getElem?_toArray, List.getElem?_cons_succ, List.getElem?_cons_zero]; rfl)
                              case qr12_17 => exact fun _ _ _ h => h
                              case wr12_17 => rfl
                              try simp only [Act.put, List.setIfInBounds_toArray, List.set_cons_zero, List.set_cons_succ]
                              refine wpAnyH_take (i := 18) (oi := ?or12_18) (v := undef) ?hr12_18 (by kernel_rfl) (by kernel_rfl) (by kernel_rfl) ?qr12_18 (Or.inr ⟨?wr12_18, rfl⟩) (by assumption) ?rr12_18
                              case hr12_18 => (simp only [List.getElem?_toArray, List.getElem?_cons_succ, List.getElem?_cons_zero]; rfl)
                              case qr12_18 => exact fun _ _ _ h => h
                              case wr12_18 => rfl
                              try simp only [Act.put, List.setIfInBounds_toArray, List.set_cons_zero, List.set_cons_succ]
                              refine wpAnyH_take (i := 19) (oi := ?or12_19) (v := undef) ?hr12_19 (by kernel_rfl) (by kernel_rfl) (by kernel_rfl) ?qr12_19 (Or.inr ⟨?wr12_19, rfl⟩) (by assumption) ?rr12_19
                              case hr12_19 => (simp only [List.getElem?_toArray, List.getElem?_cons_succ, List.getElem?_cons_zero]; rfl)
                              case qr12_19 => exact fun _ _ _ h => h
                              case wr12_19 => rfl
                              try simp only [Act.put, List.setIfInBounds_toArray, List.set_cons_zero, List.set_cons_succ]
                              refine wpAnyH_take (i := 20) (oi := ?or12_20) (v := undef) ?hr12_20 (by kernel_rfl) (by kernel_rfl) (by kernel_rfl) ?qr12_20 (Or.inr ⟨?wr12_20, rfl⟩) (by assumption) ?rr12_20
                              case hr12_20 => (simp only [List.getElem?_toArray, List.getElem?_cons_succ, List.getElem?_cons_zero]; rfl)
                              case qr12_20 => exact fun _ _ _ h => h
                              case wr12_20 => rfl
                              try simp only [Act.put, List.setIfInBounds_toArray, List.set_cons_zero, List.set_cons_succ]
                              refine wpAnyH_take (i := 21) (oi := ?or12_21) (v := ?vr12_21) ?hr12_21 (by kernel_rfl) (by kernel_rfl) (by kernel_rfl) ?qr12_21 (Or.inl ⟨?wr12_21, ?yr12_21⟩) (by assumption) ?rr12_21
                              case hr12_21 => (simp only [List.getElem?_toArray, List.getElem?_cons_succ, List.getElem?_cons_zero]; rfl)
                              case qr12_21 => exact fun _ _ _ h => h
                              case wr12_21 => rfl
                              case yr12_21 => (intro w hSw; (try dsimp only at hSw); go_simp <;> with_reducible rfl)
                              try simp only [Act.put, List.setIfInBounds_toArray, List.set_cons_zero, List.set_cons_succ]
                              refine wpAnyH_done (by kernel_rfl) ?_ _
                              go_wp2_with fail
                              go_roundw
                              case rel => exact ⟨u + 1, by omega, by rw [HE2.out], by go_num, m + 2, by rw [← hm]; rfl⟩
                              case measure => simp [intOf]; omega
                      · obtain rfl : u = N.length := by omega
                        have HEQ : Hid (eqM P Q R i j cc N.length = eqR P Q R i j cc) := Lib.hid (by unfold eqR; rw [HPN.out])
                        rw [HEQ.out]
                        have hsq : SpanIn wc wr w7.heap.size bs (spanL (zs (eqT P Q R n p j i cc))) := by rw [← hm]; exact HSI.out.drewN m
                        have had := hsq.add (HTW.out.below (hsq.below hxs) (by omega)) (by omega) hxs (eqT_small hj2 (by omega) (by omega) hn16 hp16) (HRS.out i j cc) (HGD.out j i cc)
                        have HSTP := Lib.hid (eqT_span (P := P) (Q := Q) (R := R) (n := n) (p := p) j i cc)
                        have HAD := Lib.hid had
                        clear had hsq
                        generalize spanL (zs (eqT P Q R n p j i cc)) = LL at *
                        generalize eqR P Q R i j cc = rr at *
                        go_wp2_with fail
                        refine HAD.out.mono ?_
                        rintro e w10 ⟨rfl, hsi⟩
                        have HS' : Hid (SpanIn wc w10 w7.heap.size bs (spanL (zs (eqT P Q R n p j i (cc + 1))))) := Lib.hid (by rw [HSTP.out]; exact hsi)
                        clear hsi
                        go_wp2_with fail
                        go_roundw
                        case rel => exact ⟨cc + 1, by omega, by go_num, HS'.out⟩
                        case measure => simp [intOf]; omega
                  · obtain rfl : p = cc := by omega
                    have HS' : Hid (SpanIn wc w9 w7.heap.size bs (spanL (zs (eqT P Q R n p j (i + 1) 0)))) := Lib.hid (by rw [← eqT_p]; exact HSI.out)
                    clear hsi
                    go_wp2_with fail
                    go_roundw
                    case rel => exact ⟨i + 1, by omega, by go_num, HS'.out⟩
                    case measure => simp [intOf]; omega
              · obtain rfl : n = i := by omega
                have HS' : Hid (SpanIn wc wr w7.heap.size bs (spanL (zs (eqT P Q R n p (j + 1) 0 0)))) := Lib.hid (by rw [← eqT_n hj1]; exact HSI.out)
                clear hsi
                go_wp2_with fail
                go_roundw
                case rel => exact ⟨j + 1, by omega, by omega, by go_num, HS'.out⟩
                case measure => simp [intOf]; omega
          · obtain rfl : j = 21 := by omega
            have hTs : ∀ r ∈ eqIJ P Q R n p 20, Sm r := fun r hr => sm_of_lt (a := P.length) (by have := HPN.out; omega) (eqIJ_lt r hr)
            obtain ⟨hperm, hred, _⟩ := spanL_perm (zs (eqIJ P Q R n p 20)) (fun q hq => by obtain ⟨r, hr, rfl⟩ := List.mem_map.1 hq; exact ⟨hTs r hr, Sm.zero⟩)
            rw [r1_zs] at hperm
            have hCr := red_reduce hTs
            have hCa := asc_reduce hTs
            have hClt : ∀ r ∈ reduceS (eqIJ P Q R n p 20), r < 2 ^ N.length := fun r hr => by rw [← HPN.out]; exact sp_lt eqIJ_lt ((sp_reduce hTs r).1 (.mem hr))
            have hCl : (reduceS (eqIJ P Q R n p 20)).length ≤ N.length := red_len hCr hClt
            have hsm := eqT_small (P := P) (Q := Q) (R := R) (n := n) (p := p) (j := 21) (i := 0) (c := 0) (by omega) (by omega) (by omega) hn16 hp16
            rw [eqT_end] at hsm hsi
            obtain ⟨v1, v2, hsp, _, _, _⟩ := hsi
            have hspd : SpanAt wr.drew w7.heap.size bs v1 v2 (spanL (zs (eqIJ P Q R n p 20))) := hsp.keeps ((Keeps.refl wr []).drew) (by simp) (.inr (by simp)) (.inr (by simp))
            have HTWR := Lib.hid (HTW.out.below HBL.out (by omega : 0 < w7.heap.size))
            have HTD := Lib.hid ((HTW.out.below HBL.out (by omega)).below (B := w7.heap.size) (Below.drew (Below.refl w7.heap.size wr)) (by omega))
            have hws := HBL.out.size
            have HSPR := Lib.hid (spanReduced_any w7.heap.size bs v1 v2 (spanL (zs (eqIJ P Q R n p 20))) (reduceS (eqIJ P Q R n p 20)) wr.drew HTD.out (show 0 < wr.heap.size by omega) hspd hsm hred hCa hperm)
            have hMK := HMK.out
            rw [HPN.out] at hMK
            have HCS : Hid (∀ r ∈ reduceS (eqIJ P Q R n p 20), Sm r) := Lib.hid (fun r hr => (hCr.ne r hr).2)
            generalize reduceS (eqIJ P Q R n p 20) = C at *
            have htS : ∀ r ∈ trL C N.length, Sm r := fun r hr => by
              unfold trL at hr
              obtain ⟨u, _, rfl⟩ := List.mem_map.1 hr
              exact sm_of_lt (a := C.length) (by omega) (lt_of_tb fun m hm => by rw [tb_trTo, decide_eq_false (by omega)]; rfl)
            have HTRN := Lib.hid (fun (Ac : Option Addr) (kc : Nat) (W : World) (hR : Rd W Ac (nv C)) => transposed_any Ac C.length kc N.length C W rfl (by omega) h60 HCS.out hR)
            have HKER := Lib.hid (fun (Ac : Option Addr) (kc : Nat) (W : World) (hTb : Tab W) (hW : 0 < W.heap.size) (hR : Rd W Ac (nv (trL C N.length))) => kernel_anyS Ac N.length kc (trL C N.length) W hTb hW (trL_length C N.length).symm h60 htS hR)
            have HKR : Hid (reduceS (kerS (trL C N.length) (trL C N.length).length) = K) := Lib.hid hMK
            have HB11 := Lib.hid (Below.drew (Below.refl wr.heap.size wr))
            have HK6a := Lib.hid (blk_below HKA6.out HBL.out lb6)
            have HK3a := Lib.hid (blk_below HKA3.out HBL.out (by omega))
            have HOQ := Lib.hid (HOBW.out wr (HBX.out.trans HBL.out))
            have HBW := Lib.hid (HB7.out.trans ((HBX.out.trans HBL.out).mono hs7))
            obtain ⟨x0, x1, xf0, xf1, lx⟩ := blk2cells HK6a.out
            clear hTs hperm hred hCr hCa hClt hsm hsp hspd hMK htS HSI HRS HMS HGD
            go_wp2_with fail
            refine wp_region_any (by kernel_rfl) ?_
            try (change wpAny _ _ _ _ _ _ _ (World.drew _))
            refine wpAny_take (i := 0) (oi := ?oio13_1) (v := ?vo13_1) ?ho13_1 (by kernel_rfl) (by kernel_rfl) (by kernel_rfl) ?qo13_1 (Or.inl ⟨?wo13_1, ?yo13_1⟩) ?ro13_1
            case ho13_1 => (simp only [List.getElem?_toArray, List.getElem?_cons_succ, List.getElem?_cons_zero]; rfl)
            case qo13_1 => exact fun _ _ _ h => h
            case wo13_1 => rfl
            case yo13_1 => (intro w; go_simp <;> with_reducible rfl)
            try simp only [Act.put, List.setIfInBounds_toArray, List.set_cons_zero, List.set_cons_succ]
            refine wpAny_take (i := 2) (oi := ?oio13_2) (v := ?vo13_2) ?ho13_2 (by kernel_rfl) (by kernel_rfl) (by kernel_rfl) ?qo13_2 (Or.inl ⟨?wo13_2, ?yo13_2⟩) ?ro13_2
            case ho13_2 => (simp only [List.getElem?_toArray, List.getElem?_cons_succ, List.getElem?_cons_zero]; rfl)
            case qo13_2 => exact fun _ _ _ h => h
            case wo13_2 => rfl
            case yo13_2 => (intro w; go_simp <;> with_reducible rfl)
            try simp only [Act.put, List.setIfInBounds_toArray, List.set_cons_zero, List.set_cons_succ]
            refine wpAny_ready (rs := [1, 3]) (by kernel_rfl) (by simp) ?_
            refine AllReady.cons (o := ?oio13_3) ?ho13_3 (fun K hK => ?ko13_3) ?mo13_3
            case ho13_3 => (simp only [List.getElem?_toArray, List.getElem?_cons_succ, List.getElem?_cons_zero]; rfl)
            case ko13_3 =>
              go_simp
              go_at_call 84; refine HSPR.out.mono ?_; rintro e w11 ⟨v11, rfl, ho, hb⟩; obtain ⟨Ac, kc, rfl, _⟩ := owns_shape ho; have HB11 := Lib.hid (HB11.out.trans hb); have HO11 := Lib.hid ho; have HK6b := Lib.hid (blk_kept HK6a.out HB11.out); clear ho hb; obtain ⟨x0, x1, xf0, xf1, lx⟩ := blk2cells HK6b.out
              refine hK _ _ ?_
              clear hK K
              try simp only [Act.put, List.setIfInBounds_toArray, List.set_cons_zero, List.set_cons_succ]
              refine wpAny_ready (rs := [3]) (by kernel_rfl) (by simp) ?_
              refine AllReady.cons (o := ?oio13_4) ?ho13_4 (fun K hK => ?ko13_4) ?mo13_4
              case ho13_4 => (simp only [List.getElem?_toArray, List.getElem?_cons_succ, List.getElem?_cons_zero]; rfl)
              case ko13_4 =>
                go_simp
                refine hK _ _ ?_
                clear hK K
                try simp only [Act.put, List.setIfInBounds_toArray, List.set_cons_zero, List.set_cons_succ]
                refine wpAny_ready (rs := [4]) (by kernel_rfl) (by simp) ?_
                refine AllReady.cons (o := ?oio13_5) ?ho13_5 (fun K hK => ?ko13_5) ?mo13_5
                case ho13_5 => (simp only [List.getElem?_toArray, List.getElem?_cons_succ, List.getElem?_cons_zero]; rfl)
                case ko13_5 =>
                  go_simp
                  refine hK _ _ ?_
                  clear hK K
                  try simp only [Act.put, List.setIfInBounds_toArray, List.set_cons_zero, List.set_cons_succ]
                  refine wpAny_ready (rs := [5]) (by kernel_rfl) (by simp) ?_
                  refine AllReady.cons (o := ?oio13_6) ?ho13_6 (fun K hK => ?ko13_6) ?mo13_6
                  case ho13_6 => (simp only [List.getElem?_toArray, List.getElem?_cons_succ, List.getElem?_cons_zero]; rfl)
                  case ko13_6 =>
                    go_simp
                    go_at_call 83; refine (HTRN.out Ac kc w11 (owns_Rd HO11.out)).mono ?_; rintro e w12 ⟨v12, rfl, ho, hb⟩; obtain ⟨Ad, kd, rfl, _⟩ := owns_shape ho; have HB12 := Lib.hid (HB11.out.trans (hb.mono HB11.out.size)); have HO12 := Lib.hid ho; clear ho hb
                    refine hK _ _ ?_
                    clear hK K
                    try simp only [Act.put, List.setIfInBounds_toArray, List.set_cons_zero, List.set_cons_succ]
                    refine wpAny_ready (rs := [6]) (by kernel_rfl) (by simp) ?_
                    refine AllReady.cons (o := ?oio13_7) ?ho13_7 (fun K hK => ?ko13_7) ?mo13_7
                    case ho13_7 => (simp only [List.getElem?_toArray, List.getElem?_cons_succ, List.getElem?_cons_zero]; rfl)
                    case ko13_7 =>
                      go_simp
                      go_at_call 61; refine (HKER.out Ad kd w12 (HTWR.out.below HB12.out (by omega)) (Nat.lt_of_lt_of_le (show 0 < wr.heap.size by omega) HB12.out.size) (owns_Rd HO12.out)).mono ?_; rintro e w13 ⟨v13, rfl, ho, hb⟩; rw [HKR.out] at ho; obtain ⟨Ae, ke, rfl, _⟩ := owns_shape ho; have HB13 := Lib.hid (HB12.out.trans (hb.mono HB12.out.size)); have HO13 := Lib.hid (ho.mono (Nat.le_trans (by omega : w.heap.size ≤ wr.heap.size) HB12.out.size)); clear ho hb; have HK6d := Lib.hid (blk_kept HK6a.out HB13.out); have HK3d := Lib.hid (blk_kept HK3a.out HB13.out); have HOD := Lib.hid (HOQ.out.later HB13.out); have HBD := Lib.hid (HBW.out.trans (HB13.out.mono (by omega))); clear x0 x1 xf0 xf1 lx; obtain ⟨x0, x1, xf0, xf1, lx⟩ := blk2cells HK6d.out; obtain ⟨z0, z1, zf0, zf1, lz⟩ := blk2cells HK3d.out
                      refine hK _ _ ?_
                      clear hK K
                      try simp only [Act.put, List.setIfInBounds_toArray, List.set_cons_zero, List.set_cons_succ]
                      refine wpAny_take (i := 7) (oi := ?oio13_8) (v := ?vo13_8) ?ho13_8 (by kernel_rfl) (by kernel_rfl) (by kernel_rfl) ?qo13_8 (Or.inl ⟨?wo13_8, ?yo13_8⟩) ?ro13_8
                      case ho13_8 => (simp only [List.getElem?_toArray, List.getElem?_cons_succ, List.getElem?_cons_zero]; rfl)
                      case qo13_8 => exact fun _ _ _ h => h
                      case wo13_8 => rfl
                      case yo13_8 => (intro w; go_simp <;> with_reducible rfl)
                      try simp only [Act.put, List.setIfInBounds_toArray, List.set_cons_zero, List.set_cons_succ]
                      refine wpAny_ready (rs := [8]) (by kernel_rfl) (by simp) ?_
                      refine AllReady.cons (o := ?oio13_9) ?ho13_9 (fun K hK => ?ko13_9) ?mo13_9
                      case ho13_9 => (simp only [List.getElem?_toArray, List.getElem?_cons_succ, List.getElem?_cons_zero]; rfl)
                      case ko13_9 =>
                        go_simp
                        refine hK _ _ ?_
                        clear hK K
                        try simp only [Act.put, List.setIfInBounds_toArray, List.set_cons_zero, List.set_cons_succ]
                        refine wpAny_done (by kernel_rfl) ?_ _
                        go_wp2_with fail
                        have HE1 := Lib.hid (blk2set1' HK6d.out (.slice Ae K.length ke))
                        have HE2 := Lib.hid (blk_seto HK3d.out ⟨b6, 1, none⟩ (by show b6 ≠ w.heap.size + 1 + 1; omega) (.slice Ae K.length ke))
                        (try simp only [Exit.inBlock, Exit.then])
                        refine ret_maps rfl rfl rfl (stored2 HE2.out) ?_
                        rw [HQE.out, HRE.out]
                        exact ⟨HOUT.out Ae ke _ (((HOD.out.setBox HK6d.out (by decide) (by decide) _).setBox HE2.out (by decide) (by decide) _).setBox (blk2set0' HE2.out _) (by decide) (by decide) _) (own_setBox (own_setBox (own_setBox HO13.out HK6d.out (by decide) _) HE2.out (by decide) _) (blk2set0' HE2.out _) (by decide) _), below_set2 (HBD.out.setCell (p := ⟨b6, 1, none⟩) (by show w.heap.size ≤ b6; omega) _) (by omega) _ _⟩
                      exact AllReady.nil
                    exact AllReady.nil
                  exact AllReady.nil
                exact AllReady.nil
              exact AllReady.nil
            refine AllReady.cons (o := ?oio13_10) ?ho13_10 (fun K hK => ?ko13_10) ?mo13_10
            case ho13_10 => (simp only [List.getElem?_toArray, List.getElem?_cons_succ, List.getElem?_cons_zero]; rfl)
            case ko13_10 =>
              go_simp
              refine hK _ _ ?_
              clear hK K
              try simp only [Act.put, List.setIfInBounds_toArray, List.set_cons_zero, List.set_cons_succ]
              refine wpAny_ready (rs := [1, 4]) (by kernel_rfl) (by simp) ?_
              refine AllReady.cons (o := ?oio13_11) ?ho13_11 (fun K hK => ?ko13_11) ?mo13_11
              case ho13_11 => (simp only [List.getElem?_toArray, List.getElem?_cons_succ, List.getElem?_cons_zero]; rfl)
              case ko13_11 =>
                go_simp
                go_at_call 84; refine HSPR.out.mono ?_; rintro e w11 ⟨v11, rfl, ho, hb⟩; obtain ⟨Ac, kc, rfl, _⟩ := owns_shape ho; have HB11 := Lib.hid (HB11.out.trans hb); have HO11 := Lib.hid ho; have HK6b := Lib.hid (blk_kept HK6a.out HB11.out); clear ho hb; obtain ⟨x0, x1, xf0, xf1, lx⟩ := blk2cells HK6b.out
                refine hK _ _ ?_
                clear hK K
                try simp only [Act.put, List.setIfInBounds_toArray, List.set_cons_zero, List.set_cons_succ]
                refine wpAny_ready (rs := [4]) (by kernel_rfl) (by simp) ?_
                refine AllReady.cons (o := ?oio13_12) ?ho13_12 (fun K hK => ?ko13_12) ?mo13_12
                case ho13_12 => (simp only [List.getElem?_toArray, List.getElem?_cons_succ, List.getElem?_cons_zero]; rfl)
                case ko13_12 =>
                  go_simp
                  refine hK _ _ ?_
                  clear hK K
                  try simp only [Act.put, List.setIfInBounds_toArray, List.set_cons_zero, List.set_cons_succ]
                  refine wpAny_ready (rs := [5]) (by kernel_rfl) (by simp) ?_
                  refine AllReady.cons (o := ?oio13_13) ?ho13_13 (fun K hK => ?ko13_13) ?mo13_13
                  case ho13_13 => (simp only [List.getElem?_toArray, List.getElem?_cons_succ, List.getElem?_cons_zero]; rfl)
                  case ko13_13 =>
                    go_simp
                    go_at_call 83; refine (HTRN.out Ac kc w11 (owns_Rd HO11.out)).mono ?_; rintro e w12 ⟨v12, rfl, ho, hb⟩; obtain ⟨Ad, kd, rfl, _⟩ := owns_shape ho; have HB12 := Lib.hid (HB11.out.trans (hb.mono HB11.out.size)); have HO12 := Lib.hid ho; clear ho hb
                    refine hK _ _ ?_
                    clear hK K
                    try simp only [Act.put, List.setIfInBounds_toArray, List.set_cons_zero, List.set_cons_succ]
                    refine wpAny_ready (rs := [6]) (by kernel_rfl) (by simp) ?_
                    refine AllReady.cons (o := ?oio13_14) ?ho13_14 (fun K hK => ?ko13_14) ?mo13_14
                    case ho13_14 => (simp only [List.getElem?_toArray, List.getElem?_cons_succ, List.getElem?_cons_zero]; rfl)
                    case ko13_14 =>
                      go_simp
                      go_at_call 61; refine (HKER.out Ad kd w12 (HTWR.out.below HB12.out (by omega)) (Nat.lt_of_lt_of_le (show 0 < wr.heap.size by omega) HB12.out.size) (owns_Rd HO12.out)).mono ?_; rintro e w13 ⟨v13, rfl, ho, hb⟩; rw [HKR.out] at ho; obtain ⟨Ae, ke, rfl, _⟩ := owns_shape ho; have HB13 := Lib.hid (HB12.out.trans (hb.mono HB12.out.size)); have HO13 := Lib.hid (ho.mono (Nat.le_trans (by omega : w.heap.size ≤ wr.heap.size) HB12.out.size)); clear ho hb; have HK6d := Lib.hid (blk_kept HK6a.out HB13.out); have HK3d := Lib.hid (blk_kept HK3a.out HB13.out); have HOD := Lib.hid (HOQ.out.later HB13.out); have HBD := Lib.hid (HBW.out.trans (HB13.out.mono (by omega))); clear x0 x1 xf0 xf1 lx; obtain ⟨x0, x1, xf0, xf1, lx⟩ := blk2cells HK6d.out; obtain ⟨z0, z1, zf0, zf1, lz⟩ := blk2cells HK3d.out
                      refine hK _ _ ?_
                      clear hK K
                      try simp only [Act.put, List.setIfInBounds_toArray, List.set_cons_zero, List.set_cons_succ]
                      refine wpAny_take (i := 7) (oi := ?oio13_15) (v := ?vo13_15) ?ho13_15 (by kernel_rfl) (by kernel_rfl) (by kernel_rfl) ?qo13_15 (Or.inl ⟨?wo13_15, ?yo13_15⟩) ?ro13_15
                      case ho13_15 => (simp only [List.getElem?_toArray, List.getElem?_cons_succ, List.getElem?_cons_zero]; rfl)
                      case qo13_15 => exact fun _ _ _ h => h
                      case wo13_15 => rfl
                      case yo13_15 => (intro w; go_simp <;> with_reducible rfl)
                      try simp only [Act.put, List.setIfInBounds_toArray, List.set_cons_zero, List.set_cons_succ]
                      refine wpAny_ready (rs := [8]) (by kernel_rfl) (by simp) ?_
                      refine AllReady.cons (o := ?oio13_16) ?ho13_16 (fun K hK => ?ko13_16) ?mo13_16
                      case ho13_16 => (simp only [List.getElem?_toArray, List.getElem?_cons_succ, List.getElem?_cons_zero]; rfl)
                      case ko13_16 =>
                        go_simp
                        refine hK _ _ ?_
                        clear hK K
                        try simp only [Act.put, List.setIfInBounds_toArray, List.set_cons_zero, List.set_cons_succ]
                        refine wpAny_done (by kernel_rfl) ?_ _
                        go_wp2_with fail
                        have HE1 := Lib.hid (blk2set1' HK6d.out (.slice Ae K.length ke))
                        have HE2 := Lib.hid (blk_seto HK3d.out ⟨b6, 1, none⟩ (by show b6 ≠ w.heap.size + 1 + 1; omega) (.slice Ae K.length ke))
                        (try simp only [Exit.inBlock, Exit.then])
                        refine ret_maps rfl rfl rfl (stored2 HE2.out) ?_
                        rw [HQE.out, HRE.out]
                        exact ⟨HOUT.out Ae ke _ (((HOD.out.setBox HK6d.out (by decide) (by decide) _).setBox HE2.out (by decide) (by decide) _).setBox (blk2set0' HE2.out _) (by decide) (by decide) _) (own_setBox (own_setBox (own_setBox HO13.out HK6d.out (by decide) _) HE2.out (by decide) _) (blk2set0' HE2.out _) (by decide) _), below_set2 (HBD.out.setCell (p := ⟨b6, 1, none⟩) (by show w.heap.size ≤ b6; omega) _) (by omega) _ _⟩
                      exact AllReady.nil
                    exact AllReady.nil
                  exact AllReady.nil
                exact AllReady.nil
              refine AllReady.cons (o := ?oio13_17) ?ho13_17 (fun K hK => ?ko13_17) ?mo13_17
              case ho13_17 => (simp only [List.getElem?_toArray, List.getElem?_cons_succ, List.getElem?_cons_zero]; rfl)
              case ko13_17 =>
                go_simp
                refine hK _ _ ?_
                clear hK K
                try simp only [Act.put, List.setIfInBounds_toArray, List.set_cons_zero, List.set_cons_succ]
                refine wpAny_ready (rs := [1]) (by kernel_rfl) (by simp) ?_
                refine AllReady.cons (o := ?oio13_18) ?ho13_18 (fun K hK => ?ko13_18) ?mo13_18
                case ho13_18 => (simp only [List.getElem?_toArray, List.getElem?_cons_succ, List.getElem?_cons_zero]; rfl)
                case ko13_18 =>
                  go_simp
                  go_at_call 84; refine HSPR.out.mono ?_; rintro e w11 ⟨v11, rfl, ho, hb⟩; obtain ⟨Ac, kc, rfl, _⟩ := owns_shape ho; have HB11 := Lib.hid (HB11.out.trans hb); have HO11 := Lib.hid ho; have HK6b := Lib.hid (blk_kept HK6a.out HB11.out); clear ho hb; obtain ⟨x0, x1, xf0, xf1, lx⟩ := blk2cells HK6b.out
                  refine hK _ _ ?_
                  clear hK K
                  try simp only [Act.put, List.setIfInBounds_toArray, List.set_cons_zero, List.set_cons_succ]
                  refine wpAny_ready (rs := [5]) (by kernel_rfl) (by simp) ?_
                  refine AllReady.cons (o := ?oio13_19) ?ho13_19 (fun K hK => ?ko13_19) ?mo13_19
                  case ho13_19 => (simp only [List.getElem?_toArray, List.getElem?_cons_succ, List.getElem?_cons_zero]; rfl)
                  case ko13_19 =>
                    go_simp
                    go_at_call 83; refine (HTRN.out Ac kc w11 (owns_Rd HO11.out)).mono ?_; rintro e w12 ⟨v12, rfl, ho, hb⟩; obtain ⟨Ad, kd, rfl, _⟩ := owns_shape ho; have HB12 := Lib.hid (HB11.out.trans (hb.mono HB11.out.size)); have HO12 := Lib.hid ho; clear ho hb
                    refine hK _ _ ?_
                    clear hK K
                    try simp only [Act.put, List.setIfInBounds_toArray, List.set_cons_zero, List.set_cons_succ]
                    refine wpAny_ready (rs := [6]) (by kernel_rfl) (by simp) ?_
                    refine AllReady.cons (o := ?oio13_20) ?ho13_20 (fun K hK => ?ko13_20) ?mo13_20
                    case ho13_20 => (simp only [List.getElem?_toArray, List.getElem?_cons_succ, List.getElem?_cons_zero]; rfl)
                    case ko13_20 =>
                      go_simp
                      go_at_call 61; refine (HKER.out Ad kd w12 (HTWR.out.below HB12.out (by omega)) (Nat.lt_of_lt_of_le (show 0 < wr.heap.size by omega) HB12.out.size) (owns_Rd HO12.out)).mono ?_; rintro e w13 ⟨v13, rfl, ho, hb⟩; rw [HKR.out] at ho; obtain ⟨Ae, ke, rfl, _⟩ := owns_shape ho; have HB13 := Lib.hid (HB12.out.trans (hb.mono HB12.out.size)); have HO13 := Lib.hid (ho.mono (Nat.le_trans (by omega : w.heap.size ≤ wr.heap.size) HB12.out.size)); clear ho hb; have HK6d := Lib.hid (blk_kept HK6a.out HB13.out); have HK3d := Lib.hid (blk_kept HK3a.out HB13.out); have HOD := Lib.hid (HOQ.out.later HB13.out); have HBD := Lib.hid (HBW.out.trans (HB13.out.mono (by omega))); clear x0 x1 xf0 xf1 lx; obtain ⟨x0, x1, xf0, xf1, lx⟩ := blk2cells HK6d.out; obtain ⟨z0, z1, zf0, zf1, lz⟩ := blk2cells HK3d.out
                      refine hK _ _ ?_
                      clear hK K
                      try simp only [Act.put, List.setIfInBounds_toArray, List.set_cons_zero, List.set_cons_succ]
                      refine wpAny_take (i := 7) (oi := ?oio13_21) (v := ?vo13_21) ?ho13_21 (by kernel_rfl) (by kernel_rfl) (by kernel_rfl) ?qo13_21 (Or.inl ⟨?wo13_21, ?yo13_21⟩) ?ro13_21
                      case ho13_21 => (simp only [List.getElem?_toArray, List.getElem?_cons_succ, List.getElem?_cons_zero]; rfl)
                      case qo13_21 => exact fun _ _ _ h => h
                      case wo13_21 => rfl
                      case yo13_21 => (intro w; go_simp <;> with_reducible rfl)
                      try simp only [Act.put, List.setIfInBounds_toArray, List.set_cons_zero, List.set_cons_succ]
                      refine wpAny_ready (rs := [8]) (by kernel_rfl) (by simp) ?_
                      refine AllReady.cons (o := ?oio13_22) ?ho13_22 (fun K hK => ?ko13_22) ?mo13_22
                      case ho13_22 => (simp only [List.getElem?_toArray, List.getElem?_cons_succ, List.getElem?_cons_zero]; rfl)
                      case ko13_22 =>
                        go_simp
                        refine hK _ _ ?_
                        clear hK K
                        try simp only [Act.put, List.setIfInBounds_toArray, List.set_cons_zero, List.set_cons_succ]
                        refine wpAny_done (by kernel_rfl) ?_ _
                        go_wp2_with fail
                        have HE1 := Lib.hid (blk2set1' HK6d.out (.slice Ae K.length ke))
                        have HE2 := Lib.hid (blk_seto HK3d.out ⟨b6, 1, none⟩ (by show b6 ≠ w.heap.size + 1 + 1; omega) (.slice Ae K.length ke))
                        (try simp only [Exit.inBlock, Exit.then])
                        refine ret_maps rfl rfl rfl (stored2 HE2.out) ?_
                        rw [HQE.out, HRE.out]
                        exact ⟨HOUT.out Ae ke _ (((HOD.out.setBox HK6d.out (by decide) (by decide) _).setBox HE2.out (by decide) (by decide) _).setBox (blk2set0' HE2.out _) (by decide) (by decide) _) (own_setBox (own_setBox (own_setBox HO13.out HK6d.out (by decide) _) HE2.out (by decide) _) (blk2set0' HE2.out _) (by decide) _), below_set2 (HBD.out.setCell (p := ⟨b6, 1, none⟩) (by show w.heap.size ≤ b6; omega) _) (by omega) _ _⟩
                      exact AllReady.nil
                    exact AllReady.nil
                  exact AllReady.nil
                exact AllReady.nil
              exact AllReady.nil
            exact AllReady.nil
      · have h60i : 60 < (N.length : Int) := by omega
        have H60 : Hid (¬ (unk xs ys).length ≤ 60) := Lib.hid (by omega)
        clear hNl
        obtain ⟨y0, y1, yf0, yf1, ly⟩ := blk2cells HK3d.out
        go_wp2_with fail
        (try simp only [Exit.inBlock, Exit.then])
        refine ret_maps rfl rfl rfl (stored2 HK3d.out) ?_
        exact ⟨.inr (.inl ⟨HYES.out, H60.out, rfl⟩), below_set2 HB7.out (by omega) _ _⟩
end Go.Proofs.YtdkmdmpaflgfaaaGreatDoor
