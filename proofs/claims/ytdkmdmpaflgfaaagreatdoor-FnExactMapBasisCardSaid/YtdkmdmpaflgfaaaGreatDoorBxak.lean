/- the reference's l12Two; modules and rows that came in · the reference's l12Unknowns · the reference's l02Low, l02Without · the reference's l02Put, l02Reduce -/
import Derived.Test.YtdkmdmpaflgfaaaGreatDoorBxaj
import Derived.Test.YtdkmdmpaflgfaaaGreatDoorBxaf
import Derived.Test.YtdkmdmpaflgfaaaGreatDoorBxac
import Derived.Test.YtdkmdmpaflgfaaaGreatDoorBxaa
import Derived.Deep.Onto
set_option linter.all false
namespace Go.Proofs.YtdkmdmpaflgfaaaGreatDoor
open Go.RowKit

/-- a module that has come in -/
structure ModIn (w : World) (A : Option Addr) (n : Nat) (A' : Option Addr) (m : Nat) (xs : List Int) (L : List Row) : Prop where
  r : ModR w A n A' m xs L
  hsm : n ≤ 1048576
  hl : ∀ i, i < L.length → (rg L i).xs.length ≤ 1048576
theorem ModIn.below {w w' : World} {A A' : Option Addr} {n m : Nat} {xs : List Int} {L : List Row} (h : ModIn w A n A' m xs L) (hb : Below w.heap.size w w') : ModIn w' A n A' m xs L := ⟨h.r.below hb, h.hsm, h.hl⟩
theorem ModIn.is {w : World} {A A' : Option Addr} {n m : Nat} {xs : List Int} {L : List Row} (h : ModIn w A n A' m xs L) (c c' : Nat) (W : World) (hb : Below w.heap.size w W) :
    Calls Tryz.prog 86 #[.agg #[.slice A n c, .slice A' m c']] W fun e w' => e = .returned (.bool (modB xs (dat L))) ∧ Below W.heap.size W w' :=
  l11Is_any A A' n c m c' xs L W h.r.hn h.hsm (h.r.deg.below hb) h.r.hm h.r.hm1 h.hl (h.r.act.below hb)
/-- rows that have come in -/
structure RowsIn (w : World) (A : Option Addr) (k : Nat) (P : List Row) : Prop where
  hk : k = P.length
  hk1 : k ≤ 1048576
  hl : ∀ i, i < P.length → (rg P i).xs.length ≤ 1048576
  rd : RdR w A P
theorem RowsIn.below {w w' : World} {A : Option Addr} {k : Nat} {P : List Row} (h : RowsIn w A k P) (hb : Below w.heap.size w w') : RowsIn w' A k P := ⟨h.hk, h.hk1, h.hl, h.rd.below hb⟩

def twoC (a b : Bool) : Int := if a = true ∧ b = true then 0 else 1
theorem twoC_ff (b : Bool) : twoC false b = 1 := rfl
theorem twoC_tf : twoC true false = 1 := rfl
theorem twoC_tt : twoC true true = 0 := rfl
/-- two boxes of modules -/
theorem box_two (w : World) (A A' B B' : Option Addr) (n c m c' p d q d' : Nat) :
    Below w.heap.size w ((w.alloc (.cells #[.slice A n c, .slice A' m c'] 30)).alloc (.cells #[.slice B p d, .slice B' q d'] 30)) ∧
    ((w.alloc (.cells #[.slice A n c, .slice A' m c'] 30)).alloc (.cells #[.slice B p d, .slice B' q d'] 30)).heap[w.heap.size]? = some (.cells #[.slice A n c, .slice A' m c'] 30 (0, 0)) ∧
    ((w.alloc (.cells #[.slice A n c, .slice A' m c'] 30)).alloc (.cells #[.slice B p d, .slice B' q d'] 30)).heap[w.heap.size + 1]? = some (.cells #[.slice B p d, .slice B' q d'] 30 (0, 0)) :=
  ⟨((Below.refl _ _).alloc (Nat.le_refl _) _).alloc (by simp) _, blk_alloc (blk_new w _) _, blk_new1 w _ _⟩

set_option maxHeartbeats 2000000 in
theorem l12Two_any (A A' B B' : Option Addr) (n c m c' p d q d' : Nat) (xs ys : List Int) (L M : List Row) (w : World) (hM : ModIn w A n A' m xs L) (hN : ModIn w B p B' q ys M) :
    Calls Tryz.prog 76 #[.agg #[.slice A n c, .slice A' m c'], .agg #[.slice B p d, .slice B' q d']] w fun e w' => e = .returned (.int .i64 (twoC (modB xs (dat L)) (modB ys (dat M)))) ∧ Below w.heap.size w w' := by
  obtain ⟨hb0, hk1, hk2⟩ := box_two w A A' B B' n c m c' p d q d'
  have HB0 := Lib.hid hb0
  have HK1 := Lib.hid hk1
  have HK2 := Lib.hid hk2
  have HM := Lib.hid (hM.is c c')
  have HN := Lib.hid (hN.is d d')
  clear hb0 hk1 hk2 hM hN
  obtain ⟨x0, x1, xf0, xf1, lx⟩ := blk2cells HK1.out
  go_enter Tryz.func76, Tryz.ntmps76
  cases h1 : modB xs (dat L)
  · rw [h1] at HM
    clear h1
    go_wp2_with (go_at_call 86; refine (HM.out _ HB0.out).mono ?_; rintro e w1 ⟨rfl, hb⟩; have HB1 := Lib.hid (HB0.out.trans (hb.mono HB0.out.size)); clear hb)
    go_ret
    exact ⟨by rw [twoC_ff]; rfl, HB1.out⟩
  · rw [h1] at HM
    clear h1
    cases h2 : modB ys (dat M)
    all_goals
      rw [h2] at HN
      clear h2
      go_wp2_with fail
      refine (HM.out _ HB0.out).mono ?_
      rintro e w1 ⟨rfl, hb⟩
      have HB1 := Lib.hid (HB0.out.trans (hb.mono HB0.out.size))
      have HK2a := Lib.hid (blk_kept HK2.out hb)
      clear hb x0 x1 xf0 xf1 lx
      obtain ⟨y0, y1, yf0, yf1, ly⟩ := blk2cells HK2a.out
      go_wp2_with (go_at_call 86; refine (HN.out _ HB1.out).mono ?_; rintro e w2 ⟨rfl, hb⟩; have HB2 := Lib.hid (HB1.out.trans (hb.mono HB1.out.size)); clear hb)
      go_ret
    · exact ⟨by rw [twoC_tf]; rfl, HB2.out⟩
    · exact ⟨by rw [twoC_tt]; rfl, HB2.out⟩
end Go.Proofs.YtdkmdmpaflgfaaaGreatDoor

namespace Go.Proofs.YtdkmdmpaflgfaaaGreatDoor
open Go.RowKit

def pairI (p : Nat × Nat) : List Int := [(p.1 : Int), (p.2 : Int)]
theorem own_two (w : World) (B : Nat) (hB : B ≤ w.heap.size) (x y : Int) : (w.alloc (.cells #[.int .i64 x, .int .i64 y] 2)).ownsRow B 2 1 (.slice (some ⟨w.heap.size, 0, none⟩) 2 2) 2 (iv [x, y]) :=
  ⟨by simp [iv], .inr ⟨w.heap.size, 2, _, rfl, hB, blk_new w _, Nat.le_refl _, by unfold maxLen; omega, rfl, by simp [iv]⟩⟩
set_option maxRecDepth 100000 in
set_option maxHeartbeats 4000000 in
theorem l12Unknowns_any (A A' B B' : Option Addr) (n c m c' p d q d' : Nat) (xs ys : List Int) (w : World) (hn : n = xs.length) (hp : p = ys.length) (hn16 : n ≤ 16) (hp16 : p ≤ 16) (hR : Rd w A (iv xs)) (hS : Rd w B (iv ys)) :
    Calls Tryz.prog 77 #[.agg #[.slice A n c, .slice A' m c'], .agg #[.slice B p d, .slice B' q d']] w fun e w' => ∃ A1 c1 R, e = .returned (.slice A1 R.length c1) ∧ dat R = (unk xs ys).map pairI ∧ OwnR w' w.heap.size (.slice A1 R.length c1) R ∧ Below w.heap.size w w' := by
  obtain ⟨hb0, hk1, hk2⟩ := box_two w A A' B B' n c m c' p d q d'
  have hz0 : ((w.alloc (.cells #[.slice A n c, .slice A' m c'] 30)).alloc (.cells #[.slice B p d, .slice B' q d'] 30)).heap.size = w.heap.size + 1 + 1 := by simp
  have HR := Lib.hid hR
  have HS := Lib.hid hS
  have Hn := Lib.hid hn
  have Hp := Lib.hid hp
  clear hR hS hn hp
  go_enter Tryz.func77, Tryz.ntmps77
  go_wp2_with fail
  generalize (w.alloc (.cells #[.slice A n c, .slice A' m c'] 30)).alloc (.cells #[.slice B p d, .slice B' q d'] 30) = w0 at *
  have HB0 := Lib.hid hb0
  have HK1 := Lib.hid hk1
  have HK2 := Lib.hid hk2
  have hs0 := hb0.size
  rw [← hz0]
  clear hb0 hk1 hk2 hz0
  go_loopw [5, 6] (fun vv i wr => ∃ (j : Nat) (R : List Row) (A1 : Option Addr) (c1 : Nat), j ≤ n ∧ i = .int .i64 j ∧ vv = .slice A1 R.length c1 ∧ Hid (dat R = (unkI xs ys j).map pairI) ∧ OwnR wr w0.heap.size (.slice A1 R.length c1) R ∧ Below w0.heap.size w0 wr) (fun _ i _ => n - (intOf i).toNat)
  case atStart => exact ⟨0, [], some ⟨w0.heap.size, 0, none⟩, 0, by omega, rfl, rfl, Lib.hid rfl, OwnR.made w0 (Nat.le_refl _), (Below.refl _ _).alloc (Nat.le_refl _) _⟩
  case round =>
    obtain ⟨j, R, A1, c1, hj, rfl, rfl, HD, hown, hbel⟩ := hrel
    have HO := Lib.hid hown
    have HB := Lib.hid hbel
    have hsz := hbel.size
    obtain ⟨x0, x1, xf0, xf1, lx⟩ := blk2cells (blk_kept HK1.out hbel)
    by_cases hlt : j < n
    · clear hown hbel
      go_wp2_with fail
      clear x0 x1 xf0 xf1 lx
      go_loopw [5, 7] (fun vv i wr => ∃ (k : Nat) (R : List Row) (A1 : Option Addr) (c1 : Nat), k ≤ p ∧ i = .int .i64 k ∧ vv = .slice A1 R.length c1 ∧ Hid (dat R = (unkI xs ys j ++ unkC xs ys j k).map pairI) ∧ OwnR wr w0.heap.size (.slice A1 R.length c1) R ∧ Below w0.heap.size w0 wr) (fun _ i _ => p - (intOf i).toNat)
      case atStart => exact ⟨0, R, A1, c1, by omega, rfl, rfl, Lib.hid (by rw [HD.out]; simp [unkC]), HO.out, HB.out⟩
      case round =>
        obtain ⟨k, R, A1, c1, hk, rfl, rfl, HD, hown, hbel⟩ := hrel
        have HO := Lib.hid hown
        have HB := Lib.hid hbel
        have hsz := hbel.size
        obtain ⟨x0, x1, xf0, xf1, lx⟩ := blk2cells (blk_kept HK1.out hbel)
        obtain ⟨y0, y1, yf0, yf1, ly⟩ := blk2cells (blk_kept HK2.out hbel)
        by_cases hkp : k < p
        · have hb3 := HB0.out.trans (hbel.mono hs0)
          obtain ⟨b1, o1, rfl, hc1⟩ := (HR.out.below hb3).atI (k := j) (by rw [← Hn.out]; exact hlt)
          obtain ⟨b2, o2, rfl, hc2⟩ := (HS.out.below hb3).atI (k := k) (by rw [← Hp.out]; exact hkp)
          have hU := unkC_succ xs ys j k
          have hRl : R.length ≤ 512 := by
            have h1 := congrArg List.length HD.out
            rw [dat_length, List.length_map, List.length_append] at h1
            have h2 := unkI_len xs ys j
            have h3 : (unkC xs ys j k).length ≤ k := by unfold unkC; rw [List.length_map]; exact Nat.le_trans (List.length_filter_le _ _) (by simp)
            have h4 : j * ys.length ≤ 16 * 16 := Nat.mul_le_mul (by omega) (by rw [← Hp.out]; omega)
            omega
          have hq : R.length < 1099511627776 := by omega
          by_cases he : xs.getD j 0 = ys.getD k 0
          · rw [if_pos he] at hU
            have HU := Lib.hid hU
            have heb : (xs.getD j 0 == ys.getD k 0) = true := by simpa using he
            generalize xs.getD j 0 = x at *
            generalize ys.getD k 0 = y at *
            clear hown hbel hU he hb3 hRl
            go_wp2_with fail
            go_quiet (fail)
            have HB1 := Lib.hid ((below_drewN (Below.refl wr.heap.size wr) nq).alloc (Nat.le_refl _) (.cells #[.int .i64 (j : Int), .int .i64 (k : Int)] 2))
            have HN2 := Lib.hid (own_two (wr.drewN nq) wr.heap.size (Nat.le_refl _) (j : Int) (k : Int))
            have HOL := Lib.hid (HO.out.later HB1.out)
            have hsd : (wr.drewN nq).heap.size = wr.heap.size := rfl
            go_wp2_with (at_builtin; refine wpList_app1 _ _ _ _ _ etS (by rfl) (by rfl) w0.heap.size (.slice A1 R.length c1) R.length (hv R) (by rfl) (HOL.out.out.alloc _) _ (.slice (some ⟨wr.heap.size, 0, none⟩) 2 2) (by rfl) (new_cell1 (wr.drewN nq) _ _ _) (by rfl) hq (Nat.le_trans (Nat.le_trans hsz HB1.out.size) (Nat.le_of_lt (by simp))) ?_; (intro g2 c2 w3 hown3 hg3 hat3 hlt3; have HN := Lib.hid (OwnR.push HO.out HB1.out HN2.out rfl hsz hown3 hg3); have HB3 := Lib.hid (below_app2 (HB.out.trans (HB1.out.mono hsz)) (Nat.le_trans hsz HB1.out.size) HOL.out.out hg3); clear hown3 hg3 hat3 hlt3))
            go_roundw
            case rel =>
              refine ⟨k + 1, R ++ [⟨some ⟨wr.heap.size, 0, none⟩, 2, [(j : Int), (k : Int)]⟩], some ⟨g2, 0, none⟩, c2, by omega, by go_num, by simp, Lib.hid ?_, by simpa using HN.out, HB3.out⟩
              rw [dat_append1, HD.out, HU.out, ← List.append_assoc, List.map_append (l₁ := unkI xs ys j ++ unkC xs ys j k)]; rfl
            case measure => simp [intOf]; omega
          · rw [if_neg he, List.append_nil] at hU
            have HD' : Hid (dat R = (unkI xs ys j ++ unkC xs ys j (k + 1)).map pairI) := Lib.hid (by rw [hU]; exact HD.out)
            have heb : (xs.getD j 0 == ys.getD k 0) = false := by simpa using he
            generalize xs.getD j 0 = x at *
            generalize ys.getD k 0 = y at *
            clear hown hbel hU he hb3 hRl
            go_wp2_with fail
            go_quiet (fail)
            go_wp2_with fail
            go_roundw
            case rel => exact ⟨k + 1, R, A1, c1, by omega, by go_num, rfl, HD', HO.out.drewN _, below_drewN HB.out _⟩
            case measure => simp [intOf]; omega
        · obtain rfl : k = p := by omega
          have HD' : Hid (dat R = (unkI xs ys (j + 1)).map pairI) := Lib.hid (by rw [HD.out, Hp.out]; rfl)
          clear hown hbel
          go_wp2_with fail
          go_roundw
          case rel => exact ⟨j + 1, R, A1, c1, by omega, by go_num, rfl, HD', HO.out, HB.out⟩
          case measure => simp [intOf]; omega
    · obtain rfl : j = n := by omega
      have HD' : Hid (dat R = (unk xs ys).map pairI) := Lib.hid (by rw [HD.out]; unfold unk; rw [Hn.out])
      clear hown hbel
      go_wp2_with fail
      go_ret
      exact ⟨A1, c1, R, rfl, HD'.out, HO.out.mono hs0, HB0.out.trans (HB.out.mono hs0)⟩
end Go.Proofs.YtdkmdmpaflgfaaaGreatDoor

namespace Go.Proofs.YtdkmdmpaflgfaaaGreatDoor
open Go.RowKit

def pw (p : Nat) : Nat := 2 ^ p
theorem low_val {a : Nat} (h0 : a ≠ 0) (h : Sm a) : bits .and .i64 (a : Int) (wrap64 (-(a : Int))) = ((pw (pv a) : Nat) : Int) := by
  unfold Sm at h
  obtain ⟨hl, hk⟩ := Lib.lowest_bit 64 a h0 (by omega)
  have e : wrap64 (-(a : Int)) = -(a : Int) := by unfold wrap64; omega
  have hp : 2 ^ pv a ≤ a := by
    have : a &&& (2 ^ 64 - a) ≤ a := Nat.and_le_left
    unfold pv; omega
  rw [e]
  show IntKind.i64.wrap ((BitVec.ofInt 64 (a : Int) &&& BitVec.ofInt 64 (-(a : Int))).toNat : Int) = _
  have e2 : (BitVec.ofInt 64 (-(a : Int))).toNat = 2 ^ 64 - a := by
    rw [BitVec.toNat_ofInt]
    omega
  rw [BitVec.toNat_and, ofInt64_nat a (by omega), e2, hl, IntKind.wrap_i64]
  unfold pw pv at *
  omega
theorem pw_sm {p : Nat} (h : p ≤ 62) : Sm (pw p) := by
  unfold Sm pw
  have : 2 ^ p ≤ 2 ^ 62 := Nat.pow_le_pow_right (by omega) h
  have e : (2 ^ 62 : Nat) = 4611686018427387904 := by decide
  omega
theorem and_pw (v p : Nat) : an v (pw p) = if tb v p then pw p else 0 := by
  apply Nat.eq_of_testBit_eq
  intro i
  unfold an pw tb
  rw [Nat.testBit_and, Nat.testBit_two_pow]
  by_cases h : p = i
  · subst h
    cases hb : v.testBit p <;> simp
  · split
    · rw [Nat.testBit_two_pow]; simp [h]
    · simp [h]
theorem and_pw_ne {v p : Nat} (hv : Sm v) (hp : p ≤ 62) : (bits .and .i64 (v : Int) ((pw p : Nat) : Int) != 0) = tb v p := by
  rw [i64_and_nat hv (pw_sm hp), and_pw]
  cases tb v p with
  | true => exact bne_iff_ne.2 (fun e => Nat.ne_of_gt (Nat.two_pow_pos p) (Int.ofNat_eq_zero.1 e))
  | false => rfl
theorem pw_lt (p q : Nat) : (((pw p : Nat) : Int) < ((pw q : Nat) : Int)) = (p < q) := by
  unfold pw
  rw [Int.ofNat_lt]
  exact propext (Nat.pow_lt_pow_iff_right (by omega))

theorem pw_ltN (p q : Nat) : (pw p < pw q) = (p < q) := by
  unfold pw; exact propext (Nat.pow_lt_pow_iff_right (by omega))

set_option maxHeartbeats 400000 in
theorem low_any (x : Nat) (h0 : x ≠ 0) (hx : Sm x) (w : World) : Calls Tryz.prog 107 #[.int .i64 x] w fun e w' => e = .returned (.int .i64 (pw (pv x))) ∧ w = w' := by
  have hl := low_val h0 hx
  go_enter Tryz.func107, Tryz.ntmps107
  go_wp2
  go_ret
  exact ⟨rfl, rfl⟩

theorem leftS_take_succ (S : List Nat) (x k : Nat) (h : k < S.length) : leftS (S.take (k + 1)) x = if tb (leftS (S.take k) x) (pv (S.getD k 0)) then xr (leftS (S.take k) x) (S.getD k 0) else leftS (S.take k) x := by
  unfold leftS; rw [fold_take_succ _ _ _ _ 0 h]

attribute [local go_sem] i64_xor_nat and_pw_ne in
set_option maxHeartbeats 1000000 in
theorem without_any (A : Option Addr) (n c : Nat) (S : List Nat) (x : Nat) (w : World) (hn : n = S.length) (hsmall : n ≤ 1000000) (hx : Sm x) (hS : ∀ r ∈ S, r ≠ 0 ∧ Sm r) (hA : Rd w A (nv S)) :
    Calls Tryz.prog 158 #[.slice A n c, .int .i64 x] w fun e w' => e = .returned (.int .i64 (leftS S x)) ∧ w = w' := by
  have Hn := Lib.hid hn; clear hn
  go_enter Tryz.func158, Tryz.ntmps158
  go_wp2_with fail
  go_loop [1, 5] (fun v i => ∃ k : Nat, k ≤ n ∧ i = .int .i64 k ∧ v = .int .i64 (leftS (S.take k) x)) (fun _ i => n - (intOf i).toNat)
  case atStart => exact ⟨0, by omega, rfl, rfl⟩
  case round =>
    obtain ⟨k, hk, rfl, rfl⟩ := hrel
    by_cases hlt : k < n
    · have hkL : k < S.length := by rw [← Hn.out]; exact hlt
      obtain ⟨b, o, rfl, hc⟩ := hA.atN hkL
      have hm : S.getD k 0 ∈ S := by simp [List.getD, hkL]
      obtain ⟨g0, g1⟩ := hS _ hm
      have Hs := Lib.hid (leftS_take_succ S x k hkL)
      have hp : Sm (leftS (S.take k) x) := leftS_sm (fun r hr => hS r (List.mem_of_mem_take hr)) hx
      generalize leftS (S.take k) x = v at *
      generalize S.getD k 0 = r at *
      have hpv := pv_le g0 g1
      have HL := Lib.hid (fun W => low_any r g0 g1 W)
      clear hA hS hm
      cases hb : tb v (pv r)
      all_goals
        go_wp2_with (go_at_call 107; refine (HL.out _).mono ?_; rintro e w' ⟨rfl, rfl⟩)
        go_round
        case rel => exact ⟨k + 1, by omega, by go_num, by rw [Hs.out, hb]; rfl⟩
        case measure => simp [intOf]; omega
    · have ek : S.take k = S := List.take_of_length_le (by rw [← Hn.out]; omega)
      rw [ek]
      go_wp2_with fail
      go_ret
      exact ⟨rfl, rfl⟩
end Go.Proofs.YtdkmdmpaflgfaaaGreatDoor

namespace Go.Proofs.YtdkmdmpaflgfaaaGreatDoor
open Go.RowKit

theorem nv_snoc (xs : List Nat) (x : Nat) : nv xs ++ [.int .i64 (x : Int)] = nv (xs ++ [x]) := by simp [nv]

/-- the loop of l02Put after k rounds -/
def putK (x : Nat) (S : List Nat) (k : Nat) : List Nat × Bool := (S.take k).foldl (putStep x) ([], false)
theorem putK_succ (x : Nat) (S : List Nat) (k : Nat) (h : k < S.length) : putK x S (k + 1) = putStep x (putK x S k) (S.getD k 0) := fold_take_succ _ _ _ _ 0 h
theorem putStep_len (x : Nat) (p : List Nat × Bool) (r : Nat) : (putStep x p r).1.length ≤ p.1.length + 2 := by
  unfold putStep; split <;> simp
theorem putK_len (x : Nat) (S : List Nat) (k : Nat) : (putK x S k).1.length ≤ 2 * k := by
  induction k with
  | zero => simp [putK]
  | succ k ih =>
    by_cases h : k < S.length
    · rw [putK_succ x S k h]; have := putStep_len x (putK x S k) (S.getD k 0); omega
    · have : putK x S (k + 1) = putK x S k := by unfold putK; rw [List.take_of_length_le (by omega), List.take_of_length_le (by omega)]
      rw [this]; omega

/-- a row of the call's own made longer by one -/
theorem below_app {H : Nat} {w wr w1 : World} {v : Value} {n : Nat} {xs : List Value} {e : TypeId} (hb : Below H w wr) (hH : H ≤ wr.heap.size) (hown : wr.ownsRow H e 1 v n xs) {o : Obj} (hg : (wr.alloc o).grownBy w1 v.ownBlock) : Below H w w1 :=
  (hb.alloc hH o).grown hg (by simp; omega) (fun k hk => (hown.lt k hk).1)

theorem own_cast {w : World} {B : Nat} {e : TypeId} {v : Value} {n m : Nat} {xs ys : List Value} (h : w.ownsRow B e 1 v n xs) (hn : n = m) (hx : xs = ys) : w.ownsRow B e 1 v m ys := by
  subst hn; subst hx; exact h

attribute [local go_sem] i64_xor_nat and_pw_ne pw_lt pw_ltN in
set_option maxRecDepth 100000 in
set_option maxHeartbeats 2000000 in
theorem put_any (B : Nat) (v : Value) (S : List Nat) (x : Nat) (w : World) (hB : B ≤ w.heap.size) (hown : w.ownsRow B 2 1 v S.length (nv S)) (hsmall : S.length ≤ 1000000) (hx : Sm x) (hS : Red S) :
    Calls Tryz.prog 108 #[v, .int .i64 x] w fun e w' => ∃ v', e = .returned v' ∧ w'.ownsRow B 2 1 v' (putS S x).length (nv (putS S x)) ∧ Below w.heap.size w w' ∧ (v' = v ∨ w'.ownsRow w.heap.size 2 1 v' (putS S x).length (nv (putS S x))) := by
  obtain ⟨A, c, rfl, _, hA, _⟩ := owns_shape hown
  have hR := owns_Rd hown
  have hw := without_any A S.length c S x w rfl hsmall hx hS.ne hR
  by_cases h0 : leftS S x = 0
  · rw [h0] at hw
    have HW := Lib.hid hw
    have e : putS S x = S := by unfold putS; rw [if_pos h0]
    have HE := Lib.hid e
    have HO := Lib.hid hown
    clear hw e h0 hR hA hown hS
    go_enter Tryz.func108, Tryz.ntmps108
    go_wp2_with (go_at_call 158; refine HW.out.mono ?_; rintro e w' ⟨rfl, rfl⟩)
    go_ret
    exact ⟨_, rfl, by rw [HE.out]; exact HO.out, Below.refl _ _, .inl rfl⟩
  · have e : putS S x = putEnd (leftS S x) (putK (leftS S x) S S.length) := by unfold putS putK; rw [if_neg h0, List.take_length]
    have hsm := leftS_sm hS.ne hx
    generalize leftS S x = y at *
    have HW := Lib.hid hw
    have HE := Lib.hid e
    have hy0 : ((y : Int) == 0) = false := by simp; exact h0
    have hpy := pv_le h0 hsm
    have HLy := Lib.hid (fun W => low_any y h0 hsm W)
    have HR := Lib.hid hR
    have HS := Lib.hid hS.ne
    clear hw e hR hA hown hS h0
    go_enter Tryz.func108, Tryz.ntmps108
    go_wp2_with (first | (go_at_call 158; refine HW.out.mono ?_; rintro e w' ⟨rfl, rfl⟩) | (go_at_call 107; refine (HLy.out _).mono ?_; rintro e w' ⟨rfl, rfl⟩))
    go_loopw [6, 7, 8] (fun o d i wr => ∃ k : Nat, k ≤ S.length ∧ i = .int .i64 k ∧ d = .bool (putK y S k).2 ∧ wr.ownsRow w.heap.size 2 1 o (putK y S k).1.length (nv (putK y S k).1) ∧ Below w.heap.size w wr) (fun _ _ i _ => S.length - (intOf i).toNat)
    case atStart => exact ⟨0, by omega, rfl, rfl, World.ownsRow_made w #[] 0 (Nat.le_refl _) (by decide) (by simp), (Below.refl _ _).alloc (Nat.le_refl _) _⟩
    case round =>
      obtain ⟨k, hk, rfl, rfl, hown, hbel⟩ := hrel
      have hsz : w.heap.size ≤ wr.heap.size := hbel.size
      by_cases hlt : k < S.length
      · have hc := (HR.out.below hbel).atN hlt
        obtain ⟨b, o, rfl, hc⟩ := hc
        have hm : S.getD k 0 ∈ S := by simp [List.getD, hlt]
        obtain ⟨g0, g1⟩ := HS.out _ hm
        have Hs := Lib.hid (putK_succ y S k hlt)
        have hl := putK_len y S k
        generalize putK y S k = p at *
        generalize S.getD k 0 = r at *
        obtain ⟨out, done⟩ := p
        have hpv := pv_le g0 g1
        have HL := Lib.hid (fun W => low_any r g0 g1 W)
        have HO := Lib.hid hown
        have HB := Lib.hid hbel
        clear hown hbel hm
        simp only at hl
        cases done
        · by_cases hp : pv y < pv r
          · cases hb : tb r (pv y)
            · go_wp2_with (first | (go_at_call 107; refine (HL.out _).mono ?_; rintro e w' ⟨rfl, rfl⟩) | (at_builtin; refine wpList_app1 _ _ _ _ _ etI (by rfl) (by rfl) w.heap.size _ out.length (nv out) (by rfl) ?_ _ (.int .i64 (y : Int)) (by rfl) ?_ (by rfl) ?_ ?_ ?_; exact HO.out.alloc _; exact new_cell _ _ _; omega; (simp; omega); (intro g1' cap1 w1 hown1 hgrow1 hat1 hlt1; have HO1 : Hid (w1.ownsRow w.heap.size 2 1 (.slice (some ⟨g1', 0, none⟩) (out.length + 1) cap1) (out.length + 1) (nv (out ++ [y]))) := (by rw [← nv_snoc]; exact hown1); have HB1 := Lib.hid (below_app HB.out hsz HO.out hgrow1); have hsz1 : w.heap.size ≤ w1.heap.size := HB1.out.size; clear hown1 hgrow1 hat1 hlt1)) | (at_builtin; refine wpList_app1 _ _ _ _ _ etI (by rfl) (by rfl) w.heap.size _ (out.length + 1) (nv (out ++ [y])) (by rfl) ?_ _ (.int .i64 (r : Int)) (by rfl) ?_ (by rfl) ?_ ?_ ?_; exact HO1.out.alloc _; exact new_cell _ _ _; omega; (simp; omega); (intro g2' cap2 w2 hown2 hgrow2 hat2 hlt2; have HO2 : Hid (w2.ownsRow w.heap.size 2 1 (.slice (some ⟨g2', 0, none⟩) (out.length + 1 + 1) cap2) (out.length + 1 + 1) (nv (out ++ [y] ++ [r]))) := (by rw [← nv_snoc]; exact hown2); have HB2 := Lib.hid (below_app HB1.out hsz1 HO1.out hgrow2); clear hown2 hgrow2 hat2 hlt2)))
              go_roundw
              case rel => exact ⟨k + 1, by omega, by go_num, by rw [Hs.out]; simp [putStep, hp], own_cast HO2.out (by rw [Hs.out]; simp [putStep, hp]) (by rw [Hs.out]; simp [putStep, stepS, hb, hp]), HB2.out⟩
              case measure => simp [intOf]; omega
            · go_wp2_with (first | (go_at_call 107; refine (HL.out _).mono ?_; rintro e w' ⟨rfl, rfl⟩) | (at_builtin; refine wpList_app1 _ _ _ _ _ etI (by rfl) (by rfl) w.heap.size _ out.length (nv out) (by rfl) ?_ _ (.int .i64 (y : Int)) (by rfl) ?_ (by rfl) ?_ ?_ ?_; exact HO.out.alloc _; exact new_cell _ _ _; omega; (simp; omega); (intro g1' cap1 w1 hown1 hgrow1 hat1 hlt1; have HO1 : Hid (w1.ownsRow w.heap.size 2 1 (.slice (some ⟨g1', 0, none⟩) (out.length + 1) cap1) (out.length + 1) (nv (out ++ [y]))) := (by rw [← nv_snoc]; exact hown1); have HB1 := Lib.hid (below_app HB.out hsz HO.out hgrow1); have hsz1 : w.heap.size ≤ w1.heap.size := HB1.out.size; clear hown1 hgrow1 hat1 hlt1)) | (at_builtin; refine wpList_app1 _ _ _ _ _ etI (by rfl) (by rfl) w.heap.size _ (out.length + 1) (nv (out ++ [y])) (by rfl) ?_ _ (.int .i64 (xr r y : Int)) (by rfl) ?_ (by rfl) ?_ ?_ ?_; exact HO1.out.alloc _; exact new_cell _ _ _; omega; (simp; omega); (intro g2' cap2 w2 hown2 hgrow2 hat2 hlt2; have HO2 : Hid (w2.ownsRow w.heap.size 2 1 (.slice (some ⟨g2', 0, none⟩) (out.length + 1 + 1) cap2) (out.length + 1 + 1) (nv (out ++ [y] ++ [xr r y]))) := (by rw [← nv_snoc]; exact hown2); have HB2 := Lib.hid (below_app HB1.out hsz1 HO1.out hgrow2); clear hown2 hgrow2 hat2 hlt2)))
              go_roundw
              case rel => exact ⟨k + 1, by omega, by go_num, by rw [Hs.out]; simp [putStep, hp], own_cast HO2.out (by rw [Hs.out]; simp [putStep, hp]) (by rw [Hs.out]; simp [putStep, stepS, hb, hp]), HB2.out⟩
              case measure => simp [intOf]; omega
          · have hp' : decide (pv y < pv r) = false := by simpa using hp
            cases hb : tb r (pv y)
            · go_wp2_with (first | (go_at_call 107; refine (HL.out _).mono ?_; rintro e w' ⟨rfl, rfl⟩) | (at_builtin; refine wpList_app1 _ _ _ _ _ etI (by rfl) (by rfl) w.heap.size _ out.length (nv out) (by rfl) ?_ _ (.int .i64 (r : Int)) (by rfl) ?_ (by rfl) ?_ ?_ ?_; exact HO.out.alloc _; exact new_cell _ _ _; omega; (simp; omega); (intro g1' cap1 w1 hown1 hgrow1 hat1 hlt1; have HO1 : Hid (w1.ownsRow w.heap.size 2 1 (.slice (some ⟨g1', 0, none⟩) (out.length + 1) cap1) (out.length + 1) (nv (out ++ [r]))) := (by rw [← nv_snoc]; exact hown1); have HB1 := Lib.hid (below_app HB.out hsz HO.out hgrow1); have hsz1 : w.heap.size ≤ w1.heap.size := HB1.out.size; clear hown1 hgrow1 hat1 hlt1)))
              go_roundw
              case rel => exact ⟨k + 1, by omega, by go_num, by rw [Hs.out]; simp [putStep, hp], own_cast HO1.out (by rw [Hs.out]; simp [putStep, hp]) (by rw [Hs.out]; simp [putStep, stepS, hb, hp]), HB1.out⟩
              case measure => simp [intOf]; omega
            · go_wp2_with (first | (go_at_call 107; refine (HL.out _).mono ?_; rintro e w' ⟨rfl, rfl⟩) | (at_builtin; refine wpList_app1 _ _ _ _ _ etI (by rfl) (by rfl) w.heap.size _ out.length (nv out) (by rfl) ?_ _ (.int .i64 (xr r y : Int)) (by rfl) ?_ (by rfl) ?_ ?_ ?_; exact HO.out.alloc _; exact new_cell _ _ _; omega; (simp; omega); (intro g1' cap1 w1 hown1 hgrow1 hat1 hlt1; have HO1 : Hid (w1.ownsRow w.heap.size 2 1 (.slice (some ⟨g1', 0, none⟩) (out.length + 1) cap1) (out.length + 1) (nv (out ++ [xr r y]))) := (by rw [← nv_snoc]; exact hown1); have HB1 := Lib.hid (below_app HB.out hsz HO.out hgrow1); have hsz1 : w.heap.size ≤ w1.heap.size := HB1.out.size; clear hown1 hgrow1 hat1 hlt1)))
              go_roundw
              case rel => exact ⟨k + 1, by omega, by go_num, by rw [Hs.out]; simp [putStep, hp], own_cast HO1.out (by rw [Hs.out]; simp [putStep, hp]) (by rw [Hs.out]; simp [putStep, stepS, hb, hp]), HB1.out⟩
              case measure => simp [intOf]; omega
        · cases hb : tb r (pv y)
          · go_wp2_with (first | (go_at_call 107; refine (HL.out _).mono ?_; rintro e w' ⟨rfl, rfl⟩) | (at_builtin; refine wpList_app1 _ _ _ _ _ etI (by rfl) (by rfl) w.heap.size _ out.length (nv out) (by rfl) ?_ _ (.int .i64 (r : Int)) (by rfl) ?_ (by rfl) ?_ ?_ ?_; exact HO.out.alloc _; exact new_cell _ _ _; omega; (simp; omega); (intro g1' cap1 w1 hown1 hgrow1 hat1 hlt1; have HO1 : Hid (w1.ownsRow w.heap.size 2 1 (.slice (some ⟨g1', 0, none⟩) (out.length + 1) cap1) (out.length + 1) (nv (out ++ [r]))) := (by rw [← nv_snoc]; exact hown1); have HB1 := Lib.hid (below_app HB.out hsz HO.out hgrow1); have hsz1 : w.heap.size ≤ w1.heap.size := HB1.out.size; clear hown1 hgrow1 hat1 hlt1)))
            go_roundw
            case rel => exact ⟨k + 1, by omega, by go_num, by rw [Hs.out]; simp [putStep], own_cast HO1.out (by rw [Hs.out]; simp [putStep]) (by rw [Hs.out]; simp [putStep, stepS, hb]), HB1.out⟩
            case measure => simp [intOf]; omega
          · go_wp2_with (first | (go_at_call 107; refine (HL.out _).mono ?_; rintro e w' ⟨rfl, rfl⟩) | (at_builtin; refine wpList_app1 _ _ _ _ _ etI (by rfl) (by rfl) w.heap.size _ out.length (nv out) (by rfl) ?_ _ (.int .i64 (xr r y : Int)) (by rfl) ?_ (by rfl) ?_ ?_ ?_; exact HO.out.alloc _; exact new_cell _ _ _; omega; (simp; omega); (intro g1' cap1 w1 hown1 hgrow1 hat1 hlt1; have HO1 : Hid (w1.ownsRow w.heap.size 2 1 (.slice (some ⟨g1', 0, none⟩) (out.length + 1) cap1) (out.length + 1) (nv (out ++ [xr r y]))) := (by rw [← nv_snoc]; exact hown1); have HB1 := Lib.hid (below_app HB.out hsz HO.out hgrow1); have hsz1 : w.heap.size ≤ w1.heap.size := HB1.out.size; clear hown1 hgrow1 hat1 hlt1)))
            go_roundw
            case rel => exact ⟨k + 1, by omega, by go_num, by rw [Hs.out]; simp [putStep], own_cast HO1.out (by rw [Hs.out]; simp [putStep]) (by rw [Hs.out]; simp [putStep, stepS, hb]), HB1.out⟩
            case measure => simp [intOf]; omega
      · have ek : k = S.length := by omega
        subst ek
        have hl := putK_len y S S.length
        generalize putK y S S.length = p at *
        obtain ⟨out, done⟩ := p
        have HO := Lib.hid hown
        have HB := Lib.hid hbel
        clear hown hbel
        simp only at hl
        cases done
        · go_wp2_with (at_builtin; refine wpList_app1 _ _ _ _ _ etI (by rfl) (by rfl) w.heap.size _ out.length (nv out) (by rfl) ?_ _ (.int .i64 (y : Int)) (by rfl) ?_ (by rfl) ?_ ?_ ?_; exact HO.out.alloc _; exact new_cell _ _ _; omega; (simp; omega); (intro g1' cap1 w1 hown1 hgrow1 hat1 hlt1; have HO1 : Hid (w1.ownsRow w.heap.size 2 1 (.slice (some ⟨g1', 0, none⟩) (out.length + 1) cap1) (out.length + 1) (nv (out ++ [y]))) := (by rw [← nv_snoc]; exact hown1); have HB1 := Lib.hid (below_app HB.out hsz HO.out hgrow1); have hsz1 : w.heap.size ≤ w1.heap.size := HB1.out.size; clear hown1 hgrow1 hat1 hlt1))
          go_ret
          refine ⟨_, rfl, own_cast ((HO1.out).mono hB) (by rw [HE.out]; simp [putEnd]) (by rw [HE.out]; simp [putEnd]), HB1.out, .inr (own_cast HO1.out (by rw [HE.out]; simp [putEnd]) (by rw [HE.out]; simp [putEnd]))⟩
        · go_wp2_with fail
          go_ret
          refine ⟨_, rfl, own_cast ((HO.out).mono hB) (by rw [HE.out]; simp [putEnd]) (by rw [HE.out]; simp [putEnd]), HB.out, .inr (own_cast HO.out (by rw [HE.out]; simp [putEnd]) (by rw [HE.out]; simp [putEnd]))⟩
end Go.Proofs.YtdkmdmpaflgfaaaGreatDoor
