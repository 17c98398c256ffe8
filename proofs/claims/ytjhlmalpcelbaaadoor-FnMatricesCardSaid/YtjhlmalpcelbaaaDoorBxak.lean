/- draws of matrices: DrawIsMatrix, DrawKernelOf, DrawHasMask, DrawSolveRows, l02Square, DrawInverseMatrix · draws: DrawHasMask, DrawSolveRows · draws: l02Square, DrawInverseMatrix · the program's kernel · products of masks and rows: times, l02Times, TimesRow · the program's InverseMatrix -/
import Derived.Test.YtjhlmalpcelbaaaDoorBxag
import Derived.Test.YtjhlmalpcelbaaaDoorBxae
import Derived.Deep.CutBlock
import Derived.Deep.DeepCutAuto
import Derived.Test.YtjhlmalpcelbaaaDoorBxah
import Derived.Test.YtjhlmalpcelbaaaDoorBxai
import Derived.StillTailTactics
import Derived.Test.YtjhlmalpcelbaaaDoorBxaf
import Derived.Deep.OwnRows
set_option linter.all false
namespace Go.Proofs.YtjhlmalpcelbaaaDoor
open Go.RowKit

/-- a matrix that is drawn, to be read -/
def MO (w : World) (e : Ending) (w' : World) : Prop :=
  ∃ (cl : Int) (A1 : Option Addr) (k1 : Nat) (xs : List Int), e = .returned (.agg #[.int .i64 cl, .slice A1 xs.length k1]) ∧ w'.ownsRow w.heap.size 2 1 (.slice A1 xs.length k1) xs.length (iv xs) ∧ xs.length ≤ 300 ∧ Below w.heap.size w w'
theorem one_endO {w wz : World} {B m : Nat} {v v1 u1 : Value} {xs : List Value} (o1 : wz.ownsRow B 2 1 v m xs) (hz : wz.heap[w.heap.size]? = some (.cells #[.int .i64 0, .slice none 0 0] 26 (0, 0))) (hB : w.heap.size ≤ B) (hb : Below w.heap.size w wz) :
    ((wz.setCell ⟨w.heap.size, 0, none⟩ u1).setCell ⟨w.heap.size, 1, none⟩ v1).ownsRow w.heap.size 2 1 v m xs ∧ Below w.heap.size w ((wz.setCell ⟨w.heap.size, 0, none⟩ u1).setCell ⟨w.heap.size, 1, none⟩ v1) := by
  have k : Keeps wz ((wz.setCell ⟨w.heap.size, 0, none⟩ u1).setCell ⟨w.heap.size, 1, none⟩ v1) [some w.heap.size] :=
    ((Keeps.refl wz _).setCell (p := ⟨w.heap.size, 0, none⟩) (by simp) u1).setCell (p := ⟨w.heap.size, 1, none⟩) (by simp) v1
  exact ⟨(owns_keeps o1 k (.inr (by simp only [List.mem_singleton]; exact own_ne o1 hz (by decide)))).mono hB, hb.trans (k.to_below hb.size (fun j hj => by
    simp only [List.mem_singleton] at hj
    injection hj with hj; omega))⟩

set_option maxRecDepth 100000 in
set_option maxHeartbeats 2000000 in
theorem drawIs_any (A : Option Addr) (n c : Nat) (bs : List Nat) (w : World) (hn : n = bs.length) (hsm : n ≤ 4096) (hby : ∀ b ∈ bs, b < 256) (hR : Rd w A (bv bs)) (hlt : ∀ a, A = some a → a.block < w.heap.size) :
    Calls Tryd.prog 18 #[.slice A n c] w (MO w) := by
  have HFR := Lib.hid (from_any A n c bs (w.alloc (.cells #[.int .i64 0, .slice none 0 0] 26)) hn hsm hby (hR.alloc _) (fun a ha => by have := hlt a ha; simp; omega))
  have HA := Lib.hid hlt
  have HB0 := Lib.hid ((Below.refl w.heap.size w).alloc (Nat.le_refl _) (.cells #[.int .i64 0, .slice none 0 0] 26))
  have HZ2 := Lib.hid (blk_new w (.cells #[.int .i64 0, .slice none 0 0] 26))
  clear hn hby hR hlt
  go_enter Tryd.func18, Tryd.ntmps18
  go_wp2_with fail
  refine HFR.out.mono ?_
  rintro e w1 ⟨rfl, hs1, hb1⟩
  have hsz : (w.alloc (.cells #[.int .i64 0, .slice none 0 0] 26)).heap.size = w.heap.size + 1 := by simp
  rw [hsz] at hs1 hb1 ⊢
  have HS1 := Lib.hid hs1
  have HB1 := Lib.hid hb1
  clear hs1 hb1
  have hgl := HS1.out.lt
  go_wp2_with fail
  refine (spoil_any (w.heap.size + 1) A n c bs w1 HS1.out (fun a ha => by have := HA.out a ha; omega)).mono ?_
  rintro e w2 ⟨cl, v1, xs, rfl, ho1, hxl, hs2, hk2⟩
  obtain ⟨A1, c1, rfl, _, _, _⟩ := owns_shape ho1
  have hz2 := (hk2.block w.heap.size (by omega) (by simp)).trans ((HB1.out.block w.heap.size (by simp)).trans HZ2.out)
  obtain ⟨y0, y1, fy0, fy1, _⟩ := blk2cells hz2
  have hbw : Below w.heap.size w w2 := (HB0.out.trans (HB1.out.mono (by simp))).trans (hk2.to_below (by omega) (fun j hj => by simp only [List.mem_singleton] at hj; injection hj with hj; omega))
  have HBW := Lib.hid hbw
  have HO := Lib.hid ho1
  have HZZ := Lib.hid hz2
  clear hz2 hbw ho1 hs2 hk2
  go_wp2_with fail
  obtain ⟨f1, f2⟩ := one_endO (u1 := .int .i64 cl) (v1 := .slice A1 xs.length c1) HO.out HZZ.out (by omega) HBW.out
  refine bodyPost_ret (v := .agg #[.int .i64 cl, .slice A1 xs.length c1]) ?_ rfl ⟨cl, A1, c1, xs, rfl, f1, by omega, f2⟩
  simp [results, Tryd.results18, go_sem, y0, y1]

set_option maxRecDepth 100000 in
set_option maxHeartbeats 2000000 in
theorem drawKer_any (A : Option Addr) (n c : Nat) (bs : List Nat) (w : World) (hn : n = bs.length) (hsm : n ≤ 4096) (hby : ∀ b ∈ bs, b < 256) (hR : Rd w A (bv bs)) (hlt : ∀ a, A = some a → a.block < w.heap.size) :
    Calls Tryd.prog 39 #[.slice A n c] w (MO w) := by
  have HFR := Lib.hid (drawIs_any A n c bs (w.alloc (.cells #[.int .i64 0, .slice none 0 0] 26)) hn hsm hby (hR.alloc _) (fun a ha => by have := hlt a ha; simp; omega))
  have HB0 := Lib.hid ((Below.refl w.heap.size w).alloc (Nat.le_refl _) (.cells #[.int .i64 0, .slice none 0 0] 26))
  have HZ2 := Lib.hid (blk_new w (.cells #[.int .i64 0, .slice none 0 0] 26))
  clear hn hby hR hlt
  go_enter Tryd.func39, Tryd.ntmps39
  go_wp2_with fail
  refine HFR.out.mono ?_
  rintro e w2 ⟨cl, A1, c1, xs, rfl, hr, hxl, hb⟩
  have hsz : (w.alloc (.cells #[.int .i64 0, .slice none 0 0] 26)).heap.size = w.heap.size + 1 := by simp
  rw [hsz] at hr hb
  have hz2 := (hb.block w.heap.size (by simp)).trans HZ2.out
  obtain ⟨y0, y1, fy0, fy1, _⟩ := blk2cells hz2
  have HBW := Lib.hid (HB0.out.trans (hb.mono (by simp)))
  have HZZ := Lib.hid hz2
  have HRR := Lib.hid hr
  clear hz2 hb hr
  go_wp2_with fail
  obtain ⟨f1, f2⟩ := one_endO (u1 := .int .i64 cl) (v1 := .slice A1 xs.length c1) HRR.out HZZ.out (by omega) HBW.out
  refine bodyPost_ret (v := .agg #[.int .i64 cl, .slice A1 xs.length c1]) ?_ rfl ⟨cl, A1, c1, xs, rfl, f1, by omega, f2⟩
  simp [results, Tryd.results39, go_sem, y0, y1]

set_option maxRecDepth 100000 in
set_option maxHeartbeats 2000000 in
theorem l02Times_free (A : Option Addr) (n c : Nat) (xs : List Int) (x : Nat) (w : World) (hn : n = xs.length) (hsm : n ≤ 1000) (hx : Sm x) (hR : Rd w A (iv xs)) :
    Calls Tryd.prog 79 #[.int .i64 x, .slice A n c] w fun e w' => (∃ y : Int, e = .returned (.int .i64 y)) ∧ w = w' := by
  have HR := Lib.hid hR
  have Hn := Lib.hid hn
  clear hR hn
  go_enter Tryd.func79, Tryd.ntmps79
  go_wp2_with fail
  go_loop [5, 6] (fun t i => ∃ k : Nat, k ≤ n ∧ i = .int .i64 k ∧ ∃ y : Int, t = .int .i64 y) (fun _ i => n - (intOf i).toNat)
  case atStart => exact ⟨0, by omega, rfl, 0, rfl⟩
  case round =>
    obtain ⟨k, hk, rfl, y, rfl⟩ := hrel
    by_cases hlt : k < n
    · have hkL : k < xs.length := by rw [← Hn.out]; exact hlt
      obtain ⟨b, o, rfl, hc⟩ := HR.out.atI hkL
      generalize xs.getD k 0 = q at *
      cases hb : (bits .and .i64 ((x : Int) / 2 ^ (min k 64)) 1 == 1)
      · go_wp2_with fail
        go_round
        case rel => exact ⟨k + 1, by omega, by go_num, _, rfl⟩
        case measure => simp [intOf]; omega
      · go_wp2_with fail
        go_round
        case rel => exact ⟨k + 1, by omega, by go_num, _, rfl⟩
        case measure => simp [intOf]; omega
    · go_wp2_with fail
      go_ret
      exact ⟨⟨_, rfl⟩, rfl⟩
end Go.Proofs.YtjhlmalpcelbaaaDoor

namespace Go.Proofs.YtjhlmalpcelbaaaDoor
open Go.RowKit

/-- a matrix and a number that are drawn -/
def MOV (w : World) (e : Ending) (w' : World) : Prop :=
  ∃ (cl : Int) (A1 : Option Addr) (k1 : Nat) (xs : List Int) (y : Int), e = .returned (.tuple #[.agg #[.int .i64 cl, .slice A1 xs.length k1], .int .i64 y]) ∧ w'.ownsRow w.heap.size 2 1 (.slice A1 xs.length k1) xs.length (iv xs) ∧ xs.length ≤ 300 ∧ Below w.heap.size w w'
/-- the matrix in its box, beside the source and the box of the result -/
structure HmAt (w wr : World) (g : Nat) (A : Option Addr) (n c : Nat) (bs : List Nat) (ga : Nat) (cl : Int) (A1 : Option Addr) (k1 : Nat) (xs : List Int) : Prop where
  b2 : wr.heap[w.heap.size]? = some (.cells #[.int .i64 0, .slice none 0 0] 26 (0, 0))
  src : SrcAt wr g A n c bs
  box : wr.heap[ga]? = some (.cells #[.int .i64 cl, .slice A1 xs.length k1] 26 (0, 0))
  own : wr.ownsRow (w.heap.size + 1) 2 1 (.slice A1 xs.length k1) xs.length (iv xs)
  bel : Below w.heap.size w wr
  g2 : w.heap.size + 1 ≤ g
  ga2 : w.heap.size + 1 ≤ ga
theorem HmAt.step {w wr w' : World} {g : Nat} {A : Option Addr} {n c : Nat} {bs : List Nat} {ga : Nat} {cl : Int} {A1 : Option Addr} {k1 : Nat} {xs : List Int} (h : HmAt w wr g A n c bs ga cl A1 k1 xs) (hs : SrcAt w' g A n c bs) (hk : Keeps wr w' [some g]) : HmAt w w' g A n c bs ga cl A1 k1 xs := by
  have h2 := h.g2
  refine ⟨(hk.block _ (Array.getElem?_eq_some_iff.1 h.b2).1 (by simp; omega)).trans h.b2, hs, (hk.block _ (Array.getElem?_eq_some_iff.1 h.box).1 (by simp; exact h.src.box_ne h.box)).trans h.box, owns_keeps h.own hk (h.src.own_ne h.own), h.bel.trans (hk.to_below h.bel.size (fun j hj => by simp only [List.mem_singleton] at hj; injection hj with hj; omega)), h.g2, h.ga2⟩
theorem HmAt.drew {w wr : World} {g : Nat} {A : Option Addr} {n c : Nat} {bs : List Nat} {ga : Nat} {cl : Int} {A1 : Option Addr} {k1 : Nat} {xs : List Int} (h : HmAt w wr g A n c bs ga cl A1 k1 xs) : HmAt w wr.drew g A n c bs ga cl A1 k1 xs :=
  h.step (h.src.keeps ((Keeps.refl wr []).drew) (by simp) (by simp)) ((Keeps.refl wr [some g]).drew)

set_option maxRecDepth 100000 in
set_option maxHeartbeats 4000000 in
theorem drawHas_any (A : Option Addr) (n c : Nat) (bs : List Nat) (w : World) (hn : n = bs.length) (hsm : n ≤ 4096) (hby : ∀ b ∈ bs, b < 256) (hR : Rd w A (bv bs)) (hlt : ∀ a, A = some a → a.block < w.heap.size) :
    Calls Tryd.prog 86 #[.slice A n c] w (MOV w) := by
  have HFR := Lib.hid (from_any A n c bs (w.alloc (.cells #[.int .i64 0, .slice none 0 0] 26)) hn hsm hby (hR.alloc _) (fun a ha => by have := hlt a ha; simp; omega))
  have HA := Lib.hid hlt
  have HB0 := Lib.hid ((Below.refl w.heap.size w).alloc (Nat.le_refl _) (.cells #[.int .i64 0, .slice none 0 0] 26))
  have HZ2 := Lib.hid (blk_new w (.cells #[.int .i64 0, .slice none 0 0] 26))
  clear hn hby hR hlt
  go_enter Tryd.func86, Tryd.ntmps86
  go_wp2_with fail
  refine HFR.out.mono ?_
  rintro e w1 ⟨rfl, hs1, hb1⟩
  have hsz : (w.alloc (.cells #[.int .i64 0, .slice none 0 0] 26)).heap.size = w.heap.size + 1 := by simp
  rw [hsz] at hs1 hb1 ⊢
  have HS1 := Lib.hid hs1
  have HB1 := Lib.hid hb1
  clear hs1 hb1
  have hgl := HS1.out.lt
  go_wp2_with fail
  refine (spoil_any (w.heap.size + 1) A n c bs w1 HS1.out (fun a ha => by have := HA.out a ha; omega)).mono ?_
  rintro e w2 ⟨cl, v1, xs, rfl, ho1, hxl, hs2, hk2⟩
  obtain ⟨A1, c1, rfl, _, _, _⟩ := owns_shape ho1
  have hT2 : HmAt w (w2.alloc (.cells #[.int .i64 cl, .slice A1 xs.length c1] 26)) (w.heap.size + 1) A n c bs w2.heap.size cl A1 c1 xs := by
    have hb2 := hk2.size
    have hbw : Below w.heap.size w w2 := (HB0.out.trans (HB1.out.mono (by simp))).trans (hk2.to_below (by omega) (fun j hj => by simp only [List.mem_singleton] at hj; injection hj with hj; omega))
    exact ⟨blk_alloc ((hk2.block _ (by omega) (by simp)).trans ((HB1.out.block _ (by simp)).trans HZ2.out)) _, hs2.keeps ((Keeps.refl w2 []).alloc _) (by simp) (by simp), blk_new w2 _, (ho1.mono (by omega)).alloc _, hbw.alloc hbw.size _, by omega, by omega⟩
  have H2 := Lib.hid hT2
  clear ho1 hs2 hk2 hT2 HFR HB0 HZ2 HS1 HB1
  have hw2 : w.heap.size + 1 ≤ w2.heap.size := H2.out.ga2
  go_wp2_with fail
  generalize w2.alloc (.cells #[.int .i64 cl, .slice A1 xs.length c1] 26) = wp at *
  generalize w2.heap.size = ga at *
  obtain ⟨z0, z1, _, _, _⟩ := blk2cells H2.out.box
  refine wp_region_held_drew (S := (fun w' => w'.cell? ⟨ga, 1, none⟩ = some (.slice A1 xs.length c1))) (by kernel_rfl) (by (first | exact z1 | exact (blk2cells H3.out.box).2.1)) (fun hHeld => ?_)
  refine wpAnyH_take (i := 0) (oi := ?oim2_1) (v := ?vm2_1) ?hm2_1 (by kernel_rfl) (by kernel_rfl) (by kernel_rfl) ?qm2_1 (Or.inl ⟨?wm2_1, ?ym2_1⟩) (by assumption) ?rm2_1
  case hm2_1 => (simp only [List.getElem?_toArray, List.getElem?_cons_succ, List.getElem?_cons_zero]; rfl)
  case qm2_1 => exact fun _ _ _ h => h
  case wm2_1 => rfl
  case ym2_1 => (intro w hSw; (try dsimp only at hSw); go_simp <;> with_reducible rfl)
  try simp only [Act.put, List.setIfInBounds_toArray, List.set_cons_zero, List.set_cons_succ]
  refine wpAnyH_take (i := 2) (oi := ?oim2_2) (v := ?vm2_2) ?hm2_2 (by kernel_rfl) (by kernel_rfl) (by kernel_rfl) ?qm2_2 (Or.inl ⟨?wm2_2, ?ym2_2⟩) (by assumption) ?rm2_2
  case hm2_2 => (simp only [List.getElem?_toArray, List.getElem?_cons_succ, List.getElem?_cons_zero]; rfl)
  case qm2_2 => exact fun _ _ _ h => h
  case wm2_2 => rfl
  case ym2_2 => (intro w hSw; (try dsimp only at hSw); go_simp <;> with_reducible rfl)
  try simp only [Act.put, List.setIfInBounds_toArray, List.set_cons_zero, List.set_cons_succ]
  refine wpAnyH_take (i := 3) (oi := ?oim2_3) (v := ?vm2_3) ?hm2_3 (by kernel_rfl) (by kernel_rfl) (by kernel_rfl) ?qm2_3 (Or.inl ⟨?wm2_3, ?ym2_3⟩) (by assumption) ?rm2_3
  case hm2_3 => (simp only [List.getElem?_toArray, List.getElem?_cons_succ, List.getElem?_cons_zero]; rfl)
  case qm2_3 => exact fun _ _ _ h => h
  case wm2_3 => rfl
  case ym2_3 => (intro w hSw; (try dsimp only at hSw); go_simp <;> with_reducible rfl)
  try simp only [Act.put, List.setIfInBounds_toArray, List.set_cons_zero, List.set_cons_succ]
  refine wpAnyH_ready (rs := [1]) (by kernel_rfl) (by simp) ?_
  refine AllReadyH.cons (o := ?oim2_4) ?hm2_4 (fun K hK => ?km2_4) ?mm2_4
  case hm2_4 => (simp only [List.getElem?_toArray, List.getElem?_cons_succ, List.getElem?_cons_zero]; rfl)
  case km2_4 =>
    go_simp
    (go_at_call 72); refine (next_any (w.heap.size + 1) A n c bs 65536 (by omega) _ H2.out.drew.src).mono ?_; rintro e w3 ⟨x, rfl, hx0, hx1, _, hs3, hk3⟩; obtain ⟨q, rfl⟩ := Int.eq_ofNat_of_zero_le hx0; have hq9 := hx1 (by omega); have H3 := Lib.hid (H2.out.drew.step hs3 hk3); clear hs3 hk3 hx0 hx1
    refine hK.out _ _ (by (first | exact z1 | exact (blk2cells H3.out.box).2.1)) (fun hHeld => ?_)
    clear hK K
    try simp only [Act.put, List.setIfInBounds_toArray, List.set_cons_zero, List.set_cons_succ]
    refine wpAnyH_ready (rs := [4]) (by kernel_rfl) (by simp) ?_
    refine AllReadyH.cons (o := ?oim2_5) ?hm2_5 (fun K hK => ?km2_5) ?mm2_5
    case hm2_5 => (simp only [List.getElem?_toArray, List.getElem?_cons_succ, List.getElem?_cons_zero]; rfl)
    case km2_5 =>
      go_simp
      (go_at_call 79); refine (l02Times_free A1 xs.length c1 xs q w3 rfl (by omega) (by unfold Sm; omega) (owns_Rd H3.out.own)).mono ?_; rintro e w4 ⟨⟨y, rfl⟩, rfl⟩
      refine hK.out _ _ (by (first | exact z1 | exact (blk2cells H3.out.box).2.1)) (fun hHeld => ?_)
      clear hK K
      try simp only [Act.put, List.setIfInBounds_toArray, List.set_cons_zero, List.set_cons_succ]
      refine wpAnyH_take (i := 5) (oi := ?oim2_6) (v := ?vm2_6) ?hm2_6 (by kernel_rfl) (by kernel_rfl) (by kernel_rfl) ?qm2_6 (Or.inl ⟨?wm2_6, ?ym2_6⟩) (by assumption) ?rm2_6
      case hm2_6 => (simp only [List.getElem?_toArray, List.getElem?_cons_succ, List.getElem?_cons_zero]; rfl)
      case qm2_6 => exact fun _ _ _ h => h
      case wm2_6 => rfl
      case ym2_6 => (intro w hSw; (try dsimp only at hSw); go_simp <;> with_reducible rfl)
      try simp only [Act.put, List.setIfInBounds_toArray, List.set_cons_zero, List.set_cons_succ]
      refine wpAnyH_done (by kernel_rfl) ?_ _
      clear z0 z1 H2 hq9
      go_wp2_with fail
      refine (next_any (w.heap.size + 1) A n c bs 3 (by omega) _ H3.out.src).mono ?_
      rintro e w5 ⟨x, rfl, hx0, _, _, hs5, hk5⟩
      have H5 := Lib.hid (H3.out.step hs5 hk5)
      clear hs5 hk5 H3 hx0
      go_upto_if 18 with (fail)
      go_cut [6] (fun o6 wx => (∃ y : Int, o6 = .int .i64 y) ∧ HmAt w wx (w.heap.size + 1) A n c bs ga cl A1 c1 xs)
      case first =>
        by_cases hx : x = 0
        · subst hx
          go_wp2_with fail
          refine (next_any (w.heap.size + 1) A n c bs 8 (by omega) _ H5.out.src).mono ?_
          rintro e w6 ⟨z, rfl, hz0, hz1, _, hs6, hk6⟩
          have H6 := Lib.hid (H5.out.step hs6 hk6)
          obtain ⟨q2, rfl⟩ := Int.eq_ofNat_of_zero_le hz0
          have hq2 := hz1 (by omega)
          clear hs6 hk6 hz0 hz1
          go_wp2_with fail
          go_meet
          exact ⟨⟨_, rfl⟩, H6.out⟩
        · have hxb : (x == 0) = false := by simpa using hx
          clear hx
          go_wp2_with fail
          go_meet
          exact ⟨⟨_, rfl⟩, H5.out⟩
      case rest =>
      obtain ⟨⟨y2, rfl⟩, h7⟩ := hcut
      have H7 := Lib.hid h7
      clear h7 H5
      obtain ⟨z0, z1, _, _, _⟩ := blk2cells H7.out.box
      obtain ⟨y0, y1, fy0, fy1, _⟩ := blk2cells H7.out.b2
      have hga := H7.out.ga2
      go_wp2_with fail
      refine wp_region_held_drew (S := (fun w' => w'.cell? ⟨ga, 0, none⟩ = some (.int .i64 cl) ∧ w'.cell? ⟨ga, 1, none⟩ = some (.slice A1 xs.length c1))) (by kernel_rfl) (by (first | exact ⟨z0, z1⟩ | exact ⟨(blk2cells H8.out.box).1, (blk2cells H8.out.box).2.1⟩ | exact ⟨cell_set (cell_set (blk2cells H8.out.box).1 (by simp; omega)) (by simp; omega), cell_set (cell_set (blk2cells H8.out.box).2.1 (by simp; omega)) (by simp; omega)⟩)) (fun hHeld => ?_)
      refine wpAnyH_take (i := 0) (oi := ?oim1_1) (v := ?vm1_1) ?hm1_1 (by kernel_rfl) (by kernel_rfl) (by kernel_rfl) ?qm1_1 (Or.inl ⟨?wm1_1, ?ym1_1⟩) (by assumption) ?rm1_1
      case hm1_1 => (simp only [List.getElem?_toArray, List.getElem?_cons_succ, List.getElem?_cons_zero]; rfl)
      case qm1_1 => exact fun _ _ _ h => h
      case wm1_1 => rfl
      case ym1_1 => (intro w hSw; (try dsimp only at hSw); go_simp <;> with_reducible rfl)
      try simp only [Act.put, List.setIfInBounds_toArray, List.set_cons_zero, List.set_cons_succ]
      refine wpAnyH_take (i := 1) (oi := ?oim1_2) (v := ?vm1_2) ?hm1_2 (by kernel_rfl) (by kernel_rfl) (by kernel_rfl) ?qm1_2 (Or.inl ⟨?wm1_2, ?ym1_2⟩) (by assumption) ?rm1_2
      case hm1_2 => (simp only [List.getElem?_toArray, List.getElem?_cons_succ, List.getElem?_cons_zero]; rfl)
      case qm1_2 => exact fun _ _ _ h => h
      case wm1_2 => rfl
      case ym1_2 => (intro w hSw; (try dsimp only at hSw); go_simp <;> with_reducible rfl)
      try simp only [Act.put, List.setIfInBounds_toArray, List.set_cons_zero, List.set_cons_succ]
      refine wpAnyH_take (i := 2) (oi := ?oim1_3) (v := ?vm1_3) ?hm1_3 (by kernel_rfl) (by kernel_rfl) (by kernel_rfl) ?qm1_3 (Or.inl ⟨?wm1_3, ?ym1_3⟩) (by assumption) ?rm1_3
      case hm1_3 => (simp only [List.getElem?_toArray, List.getElem?_cons_succ, List.getElem?_cons_zero]; rfl)
      case qm1_3 => exact fun _ _ _ h => h
      case wm1_3 => rfl
      case ym1_3 => (intro w hSw; (try dsimp only at hSw); go_simp <;> with_reducible rfl)
      try simp only [Act.put, List.setIfInBounds_toArray, List.set_cons_zero, List.set_cons_succ]
      refine wpAnyH_ready (rs := [3]) (by kernel_rfl) (by simp) ?_
      refine AllReadyH.cons (o := ?oim1_4) ?hm1_4 (fun K hK => ?km1_4) ?mm1_4
      case hm1_4 => (simp only [List.getElem?_toArray, List.getElem?_cons_succ, List.getElem?_cons_zero]; rfl)
      case km1_4 =>
        go_simp
        (go_at_call 72); refine (next_any (w.heap.size + 1) A n c bs 24 (by omega) _ H7.out.drew.src).mono ?_; rintro e w8 ⟨x8, rfl, hx0, hx1, _, hs8, hk8⟩; have hx9 := hx1 (by omega); have H8 := Lib.hid (H7.out.drew.step hs8 hk8); clear y0 y1 fy0 fy1; (obtain ⟨y0, y1, fy0, fy1, _⟩ := blk2cells H8.out.b2); clear hs8 hk8 hx1
        refine hK.out _ _ (by (first | exact ⟨z0, z1⟩ | exact ⟨(blk2cells H8.out.box).1, (blk2cells H8.out.box).2.1⟩ | exact ⟨cell_set (cell_set (blk2cells H8.out.box).1 (by simp; omega)) (by simp; omega), cell_set (cell_set (blk2cells H8.out.box).2.1 (by simp; omega)) (by simp; omega)⟩)) (fun hHeld => ?_)
        clear hK K
        try simp only [Act.put, List.setIfInBounds_toArray, List.set_cons_zero, List.set_cons_succ]
        refine wpAnyH_take (i := 4) (oi := ?oim1_5) (v := ?vm1_5) ?hm1_5 (by kernel_rfl) (by kernel_rfl) (by kernel_rfl) ?qm1_5 (Or.inl ⟨?wm1_5, ?ym1_5⟩) (by assumption) ?rm1_5
        case hm1_5 => (simp only [List.getElem?_toArray, List.getElem?_cons_succ, List.getElem?_cons_zero]; rfl)
        case qm1_5 => exact fun _ _ _ h => h
        case wm1_5 => rfl
        case ym1_5 => (intro w hSw; (try dsimp only at hSw); go_simp <;> with_reducible rfl)
        try simp only [Act.put, List.setIfInBounds_toArray, List.set_cons_zero, List.set_cons_succ]
        refine wpAnyH_take (i := 5) (oi := ?oim1_6) (v := ?vm1_6) ?hm1_6 (by kernel_rfl) (by kernel_rfl) (by kernel_rfl) ?qm1_6 (Or.inl ⟨?wm1_6, ?ym1_6⟩) (by assumption) ?rm1_6
        case hm1_6 => (simp only [List.getElem?_toArray, List.getElem?_cons_succ, List.getElem?_cons_zero]; rfl)
        case qm1_6 => exact fun _ _ _ h => h
        case wm1_6 => rfl
        case ym1_6 => (intro w hSw; (try dsimp only at hSw); go_simp <;> with_reducible rfl)
        try simp only [Act.put, List.setIfInBounds_toArray, List.set_cons_zero, List.set_cons_succ]
        refine wpAnyH_take (i := 6) (oi := ?oim1_7) (v := ?vm1_7) ?hm1_7 (by kernel_rfl) (by kernel_rfl) (by kernel_rfl) ?qm1_7 (Or.inl ⟨?wm1_7, ?ym1_7⟩) (by assumption) ?rm1_7
        case hm1_7 => (simp only [List.getElem?_toArray, List.getElem?_cons_succ, List.getElem?_cons_zero]; rfl)
        case qm1_7 => exact fun _ _ _ h => h
        case wm1_7 => rfl
        case ym1_7 => (intro w hSw; (try dsimp only at hSw); go_simp <;> with_reducible rfl)
        try simp only [Act.put, List.setIfInBounds_toArray, List.set_cons_zero, List.set_cons_succ]
        refine wpAnyH_ready (rs := [7]) (by kernel_rfl) (by simp) ?_
        refine AllReadyH.cons (o := ?oim1_8) ?hm1_8 (fun K hK => ?km1_8) ?mm1_8
        case hm1_8 => (simp only [List.getElem?_toArray, List.getElem?_cons_succ, List.getElem?_cons_zero]; rfl)
        case km1_8 =>
          go_simp
          refine hK.out _ _ (by (first | exact ⟨z0, z1⟩ | exact ⟨(blk2cells H8.out.box).1, (blk2cells H8.out.box).2.1⟩ | exact ⟨cell_set (cell_set (blk2cells H8.out.box).1 (by simp; omega)) (by simp; omega), cell_set (cell_set (blk2cells H8.out.box).2.1 (by simp; omega)) (by simp; omega)⟩)) (fun hHeld => ?_)
          clear hK K
          try simp only [Act.put, List.setIfInBounds_toArray, List.set_cons_zero, List.set_cons_succ]
          refine wpAnyH_take (i := 8) (oi := ?oim1_9) (v := ?vm1_9) ?hm1_9 (by kernel_rfl) (by kernel_rfl) (by kernel_rfl) ?qm1_9 (Or.inl ⟨?wm1_9, ?ym1_9⟩) (by assumption) ?rm1_9
          case hm1_9 => (simp only [List.getElem?_toArray, List.getElem?_cons_succ, List.getElem?_cons_zero]; rfl)
          case qm1_9 => exact fun _ _ _ h => h
          case wm1_9 => rfl
          case ym1_9 => (intro w hSw; (try dsimp only at hSw); go_simp <;> with_reducible rfl)
          try simp only [Act.put, List.setIfInBounds_toArray, List.set_cons_zero, List.set_cons_succ]
          refine wpAnyH_done (by kernel_rfl) ?_ _
          go_wp2_with fail
          obtain ⟨f1, f2⟩ := one_endO (u1 := .int .i64 cl) (v1 := .slice A1 xs.length c1) H8.out.own H8.out.b2 (by omega) H8.out.bel
          generalize IntKind.i64.wrap (y2 - IntKind.i64.wrap (IntKind.i64.wrap (x8.tdiv 23) * 100)) = zz
          refine bodyPost_ret (v := .tuple #[.agg #[.int .i64 cl, .slice A1 xs.length c1], .int .i64 zz]) ?_ rfl ⟨cl, A1, c1, xs, zz, rfl, f1, by omega, f2⟩
          simp [results, Tryd.results86, go_sem, y0, y1]
        exact AllReadyH.nil
      exact AllReadyH.nil
    exact AllReadyH.nil
  exact AllReadyH.nil

set_option maxRecDepth 100000 in
set_option maxHeartbeats 2000000 in
theorem drawSolve_any (A : Option Addr) (n c : Nat) (bs : List Nat) (w : World) (hn : n = bs.length) (hsm : n ≤ 4096) (hby : ∀ b ∈ bs, b < 256) (hR : Rd w A (bv bs)) (hlt : ∀ a, A = some a → a.block < w.heap.size) :
    Calls Tryd.prog 43 #[.slice A n c] w (MOV w) := by
  have HFR := Lib.hid (drawHas_any A n c bs (w.alloc (.cells #[.int .i64 0, .slice none 0 0] 26)) hn hsm hby (hR.alloc _) (fun a ha => by have := hlt a ha; simp; omega))
  have HB0 := Lib.hid ((Below.refl w.heap.size w).alloc (Nat.le_refl _) (.cells #[.int .i64 0, .slice none 0 0] 26))
  have HZ2 := Lib.hid (blk_new w (.cells #[.int .i64 0, .slice none 0 0] 26))
  clear hn hby hR hlt
  go_enter Tryd.func43, Tryd.ntmps43
  go_wp2_with fail
  refine HFR.out.mono ?_
  rintro e w2 ⟨cl, A1, c1, xs, y, rfl, hr, hxl, hb⟩
  have hsz : (w.alloc (.cells #[.int .i64 0, .slice none 0 0] 26)).heap.size = w.heap.size + 1 := by simp
  rw [hsz] at hr hb
  have hz2 := (hb.block w.heap.size (by simp)).trans HZ2.out
  have hbs := hb.size
  have HY := Lib.hid (blk_alloc hz2 (.cells #[.int .i64 cl, .slice A1 xs.length c1] 26))
  have HBW := Lib.hid ((HB0.out.trans (hb.mono (by simp))).alloc (by omega) (.cells #[.int .i64 cl, .slice A1 xs.length c1] 26))
  have HRR := Lib.hid (hr.alloc (.cells #[.int .i64 cl, .slice A1 xs.length c1] 26))
  clear hz2 hb hr
  obtain ⟨y0, y1, fy0, fy1, _⟩ := blk2cells HY.out
  go_wp2_with fail
  obtain ⟨f1, f2⟩ := one_endO (u1 := .int .i64 cl) (v1 := .slice A1 xs.length c1) HRR.out HY.out (by omega) HBW.out
  refine bodyPost_ret (v := .tuple #[.agg #[.int .i64 cl, .slice A1 xs.length c1], .int .i64 y]) ?_ rfl ⟨cl, A1, c1, xs, y, rfl, f1, by omega, f2⟩
  simp [results, Tryd.results43, go_sem, y0, y1]
end Go.Proofs.YtjhlmalpcelbaaaDoor

namespace Go.Proofs.YtjhlmalpcelbaaaDoor
open Go.RowKit

theorem iv_setB (xs : List Int) (i : Nat) (u : Int) : iv (xs.set i u) = (iv xs).set i (.int .i64 u) := by simp [iv, List.map_set]
theorem MAt.set {w wr : World} {g : Nat} {A : Option Addr} {n c : Nat} {bs : List Nat} {gm gr c1 : Nat} {cl : Int} {xs : List Int} (h : MAt w wr g A n c bs gm cl xs) (hg : g < w.heap.size) (hA : ∀ a, A = some a → a.block < w.heap.size)
    (hb : wr.heap[gm]? = some (.cells #[.int .i64 cl, .slice (some ⟨gr, 0, none⟩) xs.length c1] 26 (0, 0))) (ho : wr.ownsRow w.heap.size 2 1 (.slice (some ⟨gr, 0, none⟩) xs.length c1) xs.length (iv xs)) (i : Nat) (u : Int) :
    MAt w (wr.setCell ⟨gr, i, none⟩ (.int .i64 u)) g A n c bs gm cl (xs.set i u) := by
  have hlt := h.lt
  have hgr := (ho.lt gr rfl).1
  have hne1 : gr ≠ gm := fun e => own_ne ho hb (by decide) (by rw [e]; rfl)
  have hne2 : gr ≠ w.heap.size := fun e => own_ne ho h.box (by decide) (by rw [e]; rfl)
  have k := (Keeps.refl wr [some gr]).setCell (p := ⟨gr, i, none⟩) (by simp) (.int .i64 u)
  have hs := (World.ownsRow.stored ho i (.int .i64 u)).1
  rw [← iv_setB] at hs
  have hl : (xs.set i u).length = xs.length := List.length_set ..
  refine ⟨⟨.slice (some ⟨gr, 0, none⟩) xs.length c1, (k.block _ (Array.getElem?_eq_some_iff.1 hb).1 (by simp; omega)).trans hb, by rw [hl]; exact hs⟩, (k.block _ (Array.getElem?_eq_some_iff.1 h.box).1 (by simp; omega)).trans h.box, h.src.keeps k (by simp; omega) (fun a ha => by have := hA a ha; simp; omega), h.kp.own k (fun j hj => by simp only [List.mem_singleton] at hj; injection hj with hj; omega), h.lt⟩
theorem MAt.drew {w wr : World} {g : Nat} {A : Option Addr} {n c : Nat} {bs : List Nat} {gm : Nat} {cl : Int} {xs : List Int} (h : MAt w wr g A n c bs gm cl xs) (hg : g < w.heap.size) : MAt w wr.drew g A n c bs gm cl xs :=
  h.step hg (h.src.keeps ((Keeps.refl wr []).drew) (by simp) (by simp)) ((Keeps.refl wr [some g]).drew)

set_option maxRecDepth 100000 in
set_option maxHeartbeats 4000000 in
theorem square_any (g : Nat) (A : Option Addr) (n c : Nat) (bs : List Nat) (w : World) (hs : SrcAt w g A n c bs) (hA : ∀ a, A = some a → a.block < w.heap.size) :
    Calls Tryd.prog 90 #[.pointer (some ⟨g, 0, none⟩)] w (DrawOut w g A n c bs 201) := by
  have hg := hs.lt
  have HA := Lib.hid hA
  have HS0 := Lib.hid (hs.keeps ((Keeps.refl w []).alloc (.cells #[.int .i64 0, .slice none 0 0] 26)) (by simp) (by simp))
  have HKW := Lib.hid ((Keeps.refl w [some g]).alloc (.cells #[.int .i64 0, .slice none 0 0] 26))
  have HBR0 := Lib.hid (blk_new w (.cells #[.int .i64 0, .slice none 0 0] 26))
  clear hs hA
  go_enter Tryd.func90, Tryd.ntmps90
  go_wp2_with fail
  refine (next_any g A n c bs 8 (by omega) _ HS0.out).mono ?_
  rintro e w0 ⟨x, rfl, hx0, hx1, _, hs0, hk0⟩
  obtain ⟨k, rfl⟩ := Int.eq_ofNat_of_zero_le hx0
  have hk8 := hx1 (by omega)
  have HS1 := Lib.hid hs0
  have HK1 := Lib.hid (HKW.out.g1 hk0)
  have hz0 := hk0.size
  simp at hz0
  have HBR1 := Lib.hid ((hk0.block w.heap.size (by simp) (by simp only [List.mem_singleton]; intro e; injection e with e; omega)).trans HBR0.out)
  clear hs0 hk0 hx0 hx1 HBR0 HKW HS0
  go_wp2_with fail
  refine (with_any g A n c bs k k (by omega) (by omega) w0 HS1.out (fun a ha => by have := HA.out a ha; omega)).mono ?_
  rintro e w1 ⟨v1, xs, rfl, ho1, hxl, hs1, hk1⟩
  have hM1 : MAt w (w1.alloc (.cells #[.int .i64 k, v1] 26)) g A n c bs w1.heap.size k xs := by
    have hsz := hk1.size
    refine ⟨⟨v1, blk_new w1 _, (ho1.mono (by omega)).alloc _⟩, ?_, hs1.keeps ((Keeps.refl w1 []).alloc _) (by simp) (by simp), (HK1.out.g1 hk1).alloc _, by omega⟩
    exact blk_alloc ((hk1.block w.heap.size (by omega) (by simp only [List.mem_singleton]; intro e; injection e with e; omega)).trans HBR1.out) _
  have HM1 := Lib.hid hM1
  obtain ⟨A1, c1, rfl, _, _, _⟩ := owns_shape ho1
  subst hxl
  clear ho1 hs1 hk1 hM1 HBR1 HK1 HS1
  go_wp2_with fail
  generalize w1.alloc (.cells #[.int .i64 (xs.length : Nat), .slice A1 xs.length c1] 26) = wp at *
  generalize hgm : w1.heap.size = gm at *
  clear hgm
  go_loopw [5] (fun o wr => ∃ i : Nat, i ≤ xs.length ∧ o = .int .i64 i ∧ ∃ ys : List Int, ys.length = xs.length ∧ MAt w wr g A n c bs gm xs.length ys) (fun o _ => xs.length - (intOf o).toNat)
  case atStart => exact ⟨0, by omega, rfl, xs, rfl, HM1.out⟩
  case round =>
    obtain ⟨i, hi, rfl, ys, hyl, hm⟩ := hrel
    have HM := Lib.hid hm
    have HYL := Lib.hid hyl
    clear hm hyl
    by_cases hlt : i < xs.length
    · have hlti : (i : Int) < (xs.length : Int) := by omega
      go_wp2_with fail
      refine (next_any g A n c bs 4 (by omega) _ HM.out.src).mono ?_
      rintro e w2 ⟨x, rfl, hx0, _, _, hs2, hk2⟩
      have HM2 := Lib.hid (HM.out.step hg hs2 hk2)
      clear hs2 hk2
      by_cases hx : 0 < x
      · obtain ⟨v2, hb2, ho2⟩ := HM2.out.rows
        obtain ⟨A2, c2, rfl, _, hA2, _⟩ := owns_shape ho2
        obtain ⟨gr, rfl, hgr, _⟩ := hA2 (by have := HYL.out; simp; omega)
        have hcell : w2.cell? ⟨gr, i, none⟩ = some (.int .i64 (ys.getD i 0)) := by
          have hil : i < ys.length := by have := HYL.out; omega
          have := ho2.cellAt i (by simpa using hil)
          rw [this]
          simp [iv, List.getD, hil]
        have hfz := ho2.frozenAt i
        obtain ⟨z0, z1, zf0, zf1, zl⟩ := blk2cells hb2
        have HB2 := Lib.hid hb2
        have HO2 := Lib.hid ho2
        rw [HYL.out] at z1
        generalize ys.getD i 0 = r at *
        clear hb2 ho2 hA2
        go_wp2_with fail
        refine wp_region_K (S := (fun w' => w'.cell? ⟨gm, 1, none⟩ = some (.slice (some ⟨gr, 0, none⟩) xs.length c2) ∧ w'.cell? ⟨gr, i, none⟩ = some (.int .i64 r))) 18 (by kernel_rfl) (by exact ⟨z1, hcell⟩) (fun hHeld => ?_)
        refine wpAnyK_take (i := 0) (oi := ?oik1_1) (v := ?vk1_1) ?hk1_1 (by kernel_rfl) (by kernel_rfl) (by kernel_rfl) (by kernel_rfl) ?qk1_1 (Or.inl ⟨?wk1_1, ?yk1_1⟩) (by assumption) ?rk1_1
        case hk1_1 => (simp only [List.getElem?_toArray, List.getElem?_cons_succ, List.getElem?_cons_zero]; rfl)
        case qk1_1 => exact fun _ _ _ h => h
        case wk1_1 => rfl
        case yk1_1 => (intro w hSw; (try dsimp only at hSw); go_simp <;> with_reducible rfl)
        try simp only [Act.put, List.setIfInBounds_toArray, List.set_cons_zero, List.set_cons_succ]
        refine wpAnyK_take (i := 1) (oi := ?oik1_2) (v := ?vk1_2) ?hk1_2 (by kernel_rfl) (by kernel_rfl) (by kernel_rfl) (by kernel_rfl) ?qk1_2 (Or.inl ⟨?wk1_2, ?yk1_2⟩) (by assumption) ?rk1_2
        case hk1_2 => (simp only [List.getElem?_toArray, List.getElem?_cons_succ, List.getElem?_cons_zero]; rfl)
        case qk1_2 => exact fun _ _ _ h => h
        case wk1_2 => rfl
        case yk1_2 => (intro w hSw; (try dsimp only at hSw); go_simp <;> with_reducible rfl)
        try simp only [Act.put, List.setIfInBounds_toArray, List.set_cons_zero, List.set_cons_succ]
        refine wpAnyK_take (i := 2) (oi := ?oik1_3) (v := ?vk1_3) ?hk1_3 (by kernel_rfl) (by kernel_rfl) (by kernel_rfl) (by kernel_rfl) ?qk1_3 (Or.inl ⟨?wk1_3, ?yk1_3⟩) (by assumption) ?rk1_3
        case hk1_3 => (simp only [List.getElem?_toArray, List.getElem?_cons_succ, List.getElem?_cons_zero]; rfl)
        case qk1_3 => exact fun _ _ _ h => h
        case wk1_3 => rfl
        case yk1_3 => (intro w hSw; (try dsimp only at hSw); go_simp <;> with_reducible rfl)
        try simp only [Act.put, List.setIfInBounds_toArray, List.set_cons_zero, List.set_cons_succ]
        refine wpAnyK_take (i := 3) (oi := ?oik1_4) (v := ?vk1_4) ?hk1_4 (by kernel_rfl) (by kernel_rfl) (by kernel_rfl) (by kernel_rfl) ?qk1_4 (Or.inl ⟨?wk1_4, ?yk1_4⟩) (by assumption) ?rk1_4
        case hk1_4 => (simp only [List.getElem?_toArray, List.getElem?_cons_succ, List.getElem?_cons_zero]; rfl)
        case qk1_4 => exact fun _ _ _ h => h
        case wk1_4 => rfl
        case yk1_4 => (intro w hSw; (try dsimp only at hSw); go_simp <;> with_reducible rfl)
        try simp only [Act.put, List.setIfInBounds_toArray, List.set_cons_zero, List.set_cons_succ]
        refine wpAnyK_take (i := 4) (oi := ?oik1_5) (v := ?vk1_5) ?hk1_5 (by kernel_rfl) (by kernel_rfl) (by kernel_rfl) (by kernel_rfl) ?qk1_5 (Or.inl ⟨?wk1_5, ?yk1_5⟩) (by assumption) ?rk1_5
        case hk1_5 => (simp only [List.getElem?_toArray, List.getElem?_cons_succ, List.getElem?_cons_zero]; rfl)
        case qk1_5 => exact fun _ _ _ h => h
        case wk1_5 => rfl
        case yk1_5 => (intro w hSw; (try dsimp only at hSw); go_simp <;> with_reducible rfl)
        try simp only [Act.put, List.setIfInBounds_toArray, List.set_cons_zero, List.set_cons_succ]
        refine wpAnyK_take (i := 5) (oi := ?oik1_6) (v := ?vk1_6) ?hk1_6 (by kernel_rfl) (by kernel_rfl) (by kernel_rfl) (by kernel_rfl) ?qk1_6 (Or.inl ⟨?wk1_6, ?yk1_6⟩) (by assumption) ?rk1_6
        case hk1_6 => (simp only [List.getElem?_toArray, List.getElem?_cons_succ, List.getElem?_cons_zero]; rfl)
        case qk1_6 => exact fun _ _ _ h => h
        case wk1_6 => rfl
        case yk1_6 => (intro w hSw; (try dsimp only at hSw); go_simp <;> with_reducible rfl)
        try simp only [Act.put, List.setIfInBounds_toArray, List.set_cons_zero, List.set_cons_succ]
        refine wpAnyK_take (i := 6) (oi := ?oik1_7) (v := ?vk1_7) ?hk1_7 (by kernel_rfl) (by kernel_rfl) (by kernel_rfl) (by kernel_rfl) ?qk1_7 (Or.inl ⟨?wk1_7, ?yk1_7⟩) (by assumption) ?rk1_7
        case hk1_7 => (simp only [List.getElem?_toArray, List.getElem?_cons_succ, List.getElem?_cons_zero]; rfl)
        case qk1_7 => exact fun _ _ _ h => h
        case wk1_7 => rfl
        case yk1_7 => (intro w hSw; (try dsimp only at hSw); go_simp <;> with_reducible rfl)
        try simp only [Act.put, List.setIfInBounds_toArray, List.set_cons_zero, List.set_cons_succ]
        refine wpAnyK_take (i := 7) (oi := ?oik1_8) (v := ?vk1_8) ?hk1_8 (by kernel_rfl) (by kernel_rfl) (by kernel_rfl) (by kernel_rfl) ?qk1_8 (Or.inl ⟨?wk1_8, ?yk1_8⟩) (by assumption) ?rk1_8
        case hk1_8 => (simp only [List.getElem?_toArray, List.getElem?_cons_succ, List.getElem?_cons_zero]; rfl)
        case qk1_8 => exact fun _ _ _ h => h
        case wk1_8 => rfl
        case yk1_8 => (intro w hSw; (try dsimp only at hSw); go_simp <;> with_reducible rfl)
        try simp only [Act.put, List.setIfInBounds_toArray, List.set_cons_zero, List.set_cons_succ]
        refine wpAnyK_take (i := 8) (oi := ?oik1_9) (v := ?vk1_9) ?hk1_9 (by kernel_rfl) (by kernel_rfl) (by kernel_rfl) (by kernel_rfl) ?qk1_9 (Or.inl ⟨?wk1_9, ?yk1_9⟩) (by assumption) ?rk1_9
        case hk1_9 => (simp only [List.getElem?_toArray, List.getElem?_cons_succ, List.getElem?_cons_zero]; rfl)
        case qk1_9 => exact fun _ _ _ h => h
        case wk1_9 => rfl
        case yk1_9 => (intro w hSw; (try dsimp only at hSw); go_simp <;> with_reducible rfl)
        try simp only [Act.put, List.setIfInBounds_toArray, List.set_cons_zero, List.set_cons_succ]
        refine wpAnyK_take (i := 9) (oi := ?oik1_10) (v := ?vk1_10) ?hk1_10 (by kernel_rfl) (by kernel_rfl) (by kernel_rfl) (by kernel_rfl) ?qk1_10 (Or.inl ⟨?wk1_10, ?yk1_10⟩) (by assumption) ?rk1_10
        case hk1_10 => (simp only [List.getElem?_toArray, List.getElem?_cons_succ, List.getElem?_cons_zero]; rfl)
        case qk1_10 => exact fun _ _ _ h => h
        case wk1_10 => rfl
        case yk1_10 => (intro w hSw; (try dsimp only at hSw); go_simp <;> with_reducible rfl)
        try simp only [Act.put, List.setIfInBounds_toArray, List.set_cons_zero, List.set_cons_succ]
        refine wpAnyK_take (i := 10) (oi := ?oik1_11) (v := ?vk1_11) ?hk1_11 (by kernel_rfl) (by kernel_rfl) (by kernel_rfl) (by kernel_rfl) ?qk1_11 (Or.inl ⟨?wk1_11, ?yk1_11⟩) (by assumption) ?rk1_11
        case hk1_11 => (simp only [List.getElem?_toArray, List.getElem?_cons_succ, List.getElem?_cons_zero]; rfl)
        case qk1_11 => exact fun _ _ _ h => h
        case wk1_11 => rfl
        case yk1_11 => (intro w hSw; (try dsimp only at hSw); go_simp <;> with_reducible rfl)
        try simp only [Act.put, List.setIfInBounds_toArray, List.set_cons_zero, List.set_cons_succ]
        refine wpAnyK_take (i := 11) (oi := ?oik1_12) (v := ?vk1_12) ?hk1_12 (by kernel_rfl) (by kernel_rfl) (by kernel_rfl) (by kernel_rfl) ?qk1_12 (Or.inl ⟨?wk1_12, ?yk1_12⟩) (by assumption) ?rk1_12
        case hk1_12 => (simp only [List.getElem?_toArray, List.getElem?_cons_succ, List.getElem?_cons_zero]; rfl)
        case qk1_12 => exact fun _ _ _ h => h
        case wk1_12 => rfl
        case yk1_12 => (intro w hSw; (try dsimp only at hSw); go_simp <;> with_reducible rfl)
        try simp only [Act.put, List.setIfInBounds_toArray, List.set_cons_zero, List.set_cons_succ]
        refine wpAnyK_take (i := 12) (oi := ?oik1_13) (v := ?vk1_13) ?hk1_13 (by kernel_rfl) (by kernel_rfl) (by kernel_rfl) (by kernel_rfl) ?qk1_13 (Or.inl ⟨?wk1_13, ?yk1_13⟩) (by assumption) ?rk1_13
        case hk1_13 => (simp only [List.getElem?_toArray, List.getElem?_cons_succ, List.getElem?_cons_zero]; rfl)
        case qk1_13 => exact fun _ _ _ h => h
        case wk1_13 => rfl
        case yk1_13 => (intro w hSw; (try dsimp only at hSw); go_simp <;> with_reducible rfl)
        try simp only [Act.put, List.setIfInBounds_toArray, List.set_cons_zero, List.set_cons_succ]
        refine wpAnyK_take (i := 13) (oi := ?oik1_14) (v := ?vk1_14) ?hk1_14 (by kernel_rfl) (by kernel_rfl) (by kernel_rfl) (by kernel_rfl) ?qk1_14 (Or.inl ⟨?wk1_14, ?yk1_14⟩) (by assumption) ?rk1_14
        case hk1_14 => (simp only [List.getElem?_toArray, List.getElem?_cons_succ, List.getElem?_cons_zero]; rfl)
        case qk1_14 => exact fun _ _ _ h => h
        case wk1_14 => rfl
        case yk1_14 => (intro w hSw; (try dsimp only at hSw); go_simp <;> with_reducible rfl)
        try simp only [Act.put, List.setIfInBounds_toArray, List.set_cons_zero, List.set_cons_succ]
        refine wpAnyK_take (i := 14) (oi := ?oik1_15) (v := ?vk1_15) ?hk1_15 (by kernel_rfl) (by kernel_rfl) (by kernel_rfl) (by kernel_rfl) ?qk1_15 (Or.inl ⟨?wk1_15, ?yk1_15⟩) (by assumption) ?rk1_15
        case hk1_15 => (simp only [List.getElem?_toArray, List.getElem?_cons_succ, List.getElem?_cons_zero]; rfl)
        case qk1_15 => exact fun _ _ _ h => h
        case wk1_15 => rfl
        case yk1_15 => (intro w hSw; (try dsimp only at hSw); go_simp <;> with_reducible rfl)
        try simp only [Act.put, List.setIfInBounds_toArray, List.set_cons_zero, List.set_cons_succ]
        refine wpAnyK_take (i := 15) (oi := ?oik1_16) (v := ?vk1_16) ?hk1_16 (by kernel_rfl) (by kernel_rfl) (by kernel_rfl) (by kernel_rfl) ?qk1_16 (Or.inl ⟨?wk1_16, ?yk1_16⟩) (by assumption) ?rk1_16
        case hk1_16 => (simp only [List.getElem?_toArray, List.getElem?_cons_succ, List.getElem?_cons_zero]; rfl)
        case qk1_16 => exact fun _ _ _ h => h
        case wk1_16 => rfl
        case yk1_16 => (intro w hSw; (try dsimp only at hSw); go_simp <;> with_reducible rfl)
        try simp only [Act.put, List.setIfInBounds_toArray, List.set_cons_zero, List.set_cons_succ]
        refine wpAnyK_take (i := 16) (oi := ?oik1_17) (v := ?vk1_17) ?hk1_17 (by kernel_rfl) (by kernel_rfl) (by kernel_rfl) (by kernel_rfl) ?qk1_17 (Or.inl ⟨?wk1_17, ?yk1_17⟩) (by assumption) ?rk1_17
        case hk1_17 => (simp only [List.getElem?_toArray, List.getElem?_cons_succ, List.getElem?_cons_zero]; rfl)
        case qk1_17 => exact fun _ _ _ h => h
        case wk1_17 => rfl
        case yk1_17 => (intro w hSw; (try dsimp only at hSw); go_simp <;> with_reducible rfl)
        try simp only [Act.put, List.setIfInBounds_toArray, List.set_cons_zero, List.set_cons_succ]
        refine wpAnyK_take (i := 17) (oi := ?oik1_18) (v := ?vk1_18) ?hk1_18 (by kernel_rfl) (by kernel_rfl) (by kernel_rfl) (by kernel_rfl) ?qk1_18 (Or.inl ⟨?wk1_18, ?yk1_18⟩) (by assumption) ?rk1_18
        case hk1_18 => (simp only [List.getElem?_toArray, List.getElem?_cons_succ, List.getElem?_cons_zero]; rfl)
        case qk1_18 => exact fun _ _ _ h => h
        case wk1_18 => rfl
        case yk1_18 => (intro w hSw; (try dsimp only at hSw); go_simp <;> with_reducible rfl)
        try simp only [Act.put, List.setIfInBounds_toArray, List.set_cons_zero, List.set_cons_succ]
        refine wpAnyK_ready (rs := [18]) (by kernel_rfl) (by simp) ?_
        refine AllReadyK.fin (o := ?oik1_19) (by decide) ?hk1_19 (fun K hK => ?kk1_19) ?mk1_19
        case hk1_19 => (simp only [List.getElem?_toArray, List.getElem?_cons_succ, List.getElem?_cons_zero]; rfl)
        case kk1_19 =>
          go_simp
          refine hK.out _ _ ?_
          clear hK K
          try simp only [Act.put, List.setIfInBounds_toArray, List.set_cons_zero, List.set_cons_succ]
          refine wpAnyK_ready (rs := [19]) (by kernel_rfl) (by simp) ?_
          refine AllReadyK.fin (o := ?oik1_20) (by decide) ?hk1_20 (fun K hK => ?kk1_20) ?mk1_20
          case hk1_20 => (simp only [List.getElem?_toArray, List.getElem?_cons_succ, List.getElem?_cons_zero]; rfl)
          case kk1_20 =>
            go_simp
            refine hK.out _ _ ?_
            clear hK K
            try simp only [Act.put, List.setIfInBounds_toArray, List.set_cons_zero, List.set_cons_succ]
            refine wpAnyK_done (by kernel_rfl) ?_ _
            go_wp2_with fail
            go_roundw
            case rel => exact ⟨i + 1, by omega, by go_num, _, by rw [List.length_set]; exact HYL.out, (HM2.out.set hg HA.out HB2.out HO2.out i _).drew hg⟩
            case measure => simp [intOf]; omega
          exact AllReadyK.nil
        exact AllReadyK.nil
      · have hxn : ¬ (0 : Int) < x := hx
        obtain ⟨v2, hb2, ho2⟩ := HM2.out.rows
        obtain ⟨A2, c2, rfl, _, _, _⟩ := owns_shape ho2
        obtain ⟨z0, z1, zf0, zf1, zl⟩ := blk2cells hb2
        obtain ⟨y0, y1, yf0, yf1, yl⟩ := blk2cells HM2.out.box
        obtain ⟨e1, e2, e3⟩ := draw_end (x0 := .int .i64 xs.length) ho2 HM2.out.box HM2.out.src HM2.out.kp hg HA.out
        have HE1 := Lib.hid e1
        have HE2 := Lib.hid e2
        have HE3 := Lib.hid e3
        clear hb2 ho2 e1 e2 e3 hx
        go_wp2_with fail
        refine bodyPost_ret (v := .agg #[.int .i64 xs.length, .slice A2 ys.length c2]) ?_ rfl ⟨xs.length, .slice A2 ys.length c2, ys, rfl, HE1.out, by have := HYL.out; omega, HE2.out, HE3.out⟩
        simp [results, Tryd.results90, go_sem, y0, y1]
    · have hlti : ¬ (i : Int) < (xs.length : Int) := by omega
      obtain ⟨v2, hb2, ho2⟩ := HM.out.rows
      obtain ⟨A2, c2, rfl, _, _, _⟩ := owns_shape ho2
      obtain ⟨z0, z1, zf0, zf1, zl⟩ := blk2cells hb2
      obtain ⟨y0, y1, yf0, yf1, yl⟩ := blk2cells HM.out.box
      obtain ⟨e1, e2, e3⟩ := draw_end (x0 := .int .i64 xs.length) ho2 HM.out.box HM.out.src HM.out.kp hg HA.out
      have HE1 := Lib.hid e1
      have HE2 := Lib.hid e2
      have HE3 := Lib.hid e3
      clear hb2 ho2 e1 e2 e3 hlt
      go_wp2_with fail
      refine bodyPost_ret (v := .agg #[.int .i64 xs.length, .slice A2 ys.length c2]) ?_ rfl ⟨xs.length, .slice A2 ys.length c2, ys, rfl, HE1.out, by have := HYL.out; omega, HE2.out, HE3.out⟩
      simp [results, Tryd.results90, go_sem, y0, y1]

set_option maxRecDepth 100000 in
set_option maxHeartbeats 4000000 in
theorem drawInv_any (A : Option Addr) (n c : Nat) (bs : List Nat) (w : World) (hn : n = bs.length) (hsm : n ≤ 4096) (hby : ∀ b ∈ bs, b < 256) (hR : Rd w A (bv bs)) (hlt : ∀ a, A = some a → a.block < w.heap.size) :
    Calls Tryd.prog 47 #[.slice A n c] w (MO w) := by
  have HFR := Lib.hid (from_any A n c bs (w.alloc (.cells #[.int .i64 0, .slice none 0 0] 26)) hn hsm hby (hR.alloc _) (fun a ha => by have := hlt a ha; simp; omega))
  have HA := Lib.hid hlt
  have HB0 := Lib.hid ((Below.refl w.heap.size w).alloc (Nat.le_refl _) (.cells #[.int .i64 0, .slice none 0 0] 26))
  have HZ2 := Lib.hid (blk_new w (.cells #[.int .i64 0, .slice none 0 0] 26))
  clear hn hby hR hlt
  go_enter Tryd.func47, Tryd.ntmps47
  go_wp2_with fail
  refine HFR.out.mono ?_
  rintro e w1 ⟨rfl, hs1, hb1⟩
  have hsz : (w.alloc (.cells #[.int .i64 0, .slice none 0 0] 26)).heap.size = w.heap.size + 1 := by simp
  rw [hsz] at hs1 hb1 ⊢
  have HS1 := Lib.hid hs1
  have HB1 := Lib.hid hb1
  clear hs1 hb1
  have hgl1 := HS1.out.lt
  go_wp2_with fail
  refine (next_any (w.heap.size + 1) A n c bs 8 (by omega) _ HS1.out).mono ?_
  rintro e w3 ⟨x, rfl, _, _, _, hs3, hk3⟩
  have HS3 := Lib.hid hs3
  have hgl := hs3.lt
  have HZ3 := Lib.hid ((hk3.block w.heap.size (by omega) (by simp)).trans ((HB1.out.block w.heap.size (by simp)).trans HZ2.out))
  have HB3 : Hid (Below w.heap.size w w3) := Lib.hid ((HB0.out.trans (HB1.out.mono (by simp))).trans (hk3.to_below (by omega) (fun j hj => by simp only [List.mem_singleton] at hj; injection hj with hj; omega)))
  clear hs3 hk3 HS1 HB1 HB0 HZ2 HFR
  by_cases hx : x = 0
  · subst hx
    go_wp2_with fail
    refine (spoil_any (w.heap.size + 1) A n c bs w3 HS3.out (fun a ha => by have := HA.out a ha; omega)).mono ?_
    rintro e w2 ⟨cl, v1, xs, rfl, ho1, hxl, hs2, hk2⟩
    obtain ⟨A1, c1, rfl, _, _, _⟩ := owns_shape ho1
    have hz2 := (hk2.block w.heap.size (by omega) (by simp)).trans HZ3.out
    obtain ⟨y0, y1, fy0, fy1, _⟩ := blk2cells hz2
    have hbw : Below w.heap.size w w2 := HB3.out.trans (hk2.to_below (by omega) (fun j hj => by simp only [List.mem_singleton] at hj; injection hj with hj; omega))
    have HBW := Lib.hid hbw
    have HO := Lib.hid ho1
    have HZZ := Lib.hid hz2
    clear hz2 hbw ho1 hs2 hk2
    go_wp2_with fail
    obtain ⟨f1, f2⟩ := one_endO (u1 := .int .i64 cl) (v1 := .slice A1 xs.length c1) HO.out HZZ.out (by omega) HBW.out
    refine bodyPost_ret (v := .agg #[.int .i64 cl, .slice A1 xs.length c1]) ?_ rfl ⟨cl, A1, c1, xs, rfl, f1, by omega, f2⟩
    simp [results, Tryd.results47, go_sem, y0, y1]
  · have hxb : (x == 0) = false := by simpa using hx
    clear hx
    go_wp2_with fail
    refine (square_any (w.heap.size + 1) A n c bs w3 HS3.out (fun a ha => by have := HA.out a ha; omega)).mono ?_
    rintro e w2 ⟨cl, v1, xs, rfl, ho1, hxl, hs2, hk2⟩
    obtain ⟨A1, c1, rfl, _, _, _⟩ := owns_shape ho1
    have hz2 := (hk2.block w.heap.size (by omega) (by simp)).trans HZ3.out
    obtain ⟨y0, y1, fy0, fy1, _⟩ := blk2cells hz2
    have hbw : Below w.heap.size w w2 := HB3.out.trans (hk2.to_below (by omega) (fun j hj => by simp only [List.mem_singleton] at hj; injection hj with hj; omega))
    have HBW := Lib.hid hbw
    have HO := Lib.hid ho1
    have HZZ := Lib.hid hz2
    clear hz2 hbw ho1 hs2 hk2
    go_wp2_with fail
    obtain ⟨f1, f2⟩ := one_endO (u1 := .int .i64 cl) (v1 := .slice A1 xs.length c1) HO.out HZZ.out (by omega) HBW.out
    refine bodyPost_ret (v := .agg #[.int .i64 cl, .slice A1 xs.length c1]) ?_ rfl ⟨cl, A1, c1, xs, rfl, f1, by omega, f2⟩
    simp [results, Tryd.results47, go_sem, y0, y1]
end Go.Proofs.YtjhlmalpcelbaaaDoor

namespace Go.Proofs.YtjhlmalpcelbaaaDoor
open Go.RowKit

theorem kerS_K {S : List Nat} (hS : ∀ r ∈ S, Sm r) (hl : S.length ≤ 62) : reduceS (kerS S S.length) = reduceS (kerK S S.length) := (kernel_both hS hl).symm

theorem kernel_any (A : Option Addr) (n c : Nat) (S : List Nat) (w : World) (hT : Tab w) (hw : 0 < w.heap.size) (hn : n = S.length) (hsmall : n ≤ 60) (hS : ∀ r ∈ S, Sm r) (hR : Rd w A (nv S)) :
    Calls Tryd.prog 84 #[.slice A n c] w fun e w' => ∃ v, e = .returned v ∧ w'.ownsRow w.heap.size 2 1 v (reduceS (kerK S S.length)).length (nv (reduceS (kerK S S.length))) ∧ Below w.heap.size w w' := by
  have h := kernel_anyS A n c S w hT hw hn hsmall hS hR
  rw [kerS_K hS (by omega)] at h
  exact h

/-! ### few rows -/
def fewOf (c : Int) (xs : List Int) : Int := if isMat c xs then (if 60 < xs.length then 2 else 0) else 1
set_option maxHeartbeats 1000000 in
theorem l02Few_any (c : Int) (A : Option Addr) (n cap : Nat) (xs : List Int) (w : World) (hn : n = xs.length) (hsm : n ≤ 1099511627776) (hR : Rd w A (iv xs)) :
    Calls Tryd.prog 82 #[.agg #[.int .i64 c, .slice A n cap]] w fun e w' => e = .returned (.int .i64 (fewOf c xs)) ∧ Below w.heap.size w w' := by
  have hb1 := blk_new w (.cells #[.int .i64 c, .slice A n cap] 26)
  have hbel : Below w.heap.size w (w.alloc (.cells #[.int .i64 c, .slice A n cap] 26)) := (Below.refl _ _).alloc (Nat.le_refl _) _
  have h1 := l02Is_any c A n cap xs _ hn hsm (hR.below hbel)
  have HK1 := Lib.hid hb1
  have HB := Lib.hid hbel
  cases hi : isMat c xs with
  | false =>
    rw [hi] at h1
    have HE : Hid (fewOf c xs = 1) := by show _ = _; simp [fewOf, hi]
    have H1 := Lib.hid h1
    clear h1 hi hb1 hbel hR hn
    go_enter Tryd.func82, Tryd.ntmps82
    go_wp2_with fail
    refine H1.out.mono ?_
    rintro e w1 ⟨rfl, hb⟩
    have HB1 := Lib.hid hb
    clear hb
    go_wp2_with fail
    go_ret
    exact ⟨by rw [HE.out]; rfl, HB.out.trans (HB1.out.mono HB.out.size)⟩
  | true =>
    rw [hi] at h1
    have H1 := Lib.hid h1
    by_cases hc : 60 < n
    · have HE : Hid (fewOf c xs = 2) := by show _ = _; unfold fewOf; rw [if_pos hi, if_pos (by omega)]
      clear h1 hi hb1 hbel hR hn
      go_enter Tryd.func82, Tryd.ntmps82
      go_wp2_with fail
      refine H1.out.mono ?_
      rintro e w1 ⟨rfl, hb⟩
      obtain ⟨x0, x1, _, _, _⟩ := blk2cells (blk_keep HK1.out hb)
      have HB1 := Lib.hid hb
      clear hb
      go_wp2_with fail
      go_ret
      exact ⟨by rw [HE.out]; rfl, HB.out.trans (HB1.out.mono HB.out.size)⟩
    · have HE : Hid (fewOf c xs = 0) := by show _ = _; unfold fewOf; rw [if_pos hi, if_neg (by omega)]
      clear h1 hi hb1 hbel hR hn
      go_enter Tryd.func82, Tryd.ntmps82
      go_wp2_with fail
      refine H1.out.mono ?_
      rintro e w1 ⟨rfl, hb⟩
      obtain ⟨x0, x1, _, _, _⟩ := blk2cells (blk_keep HK1.out hb)
      have HB1 := Lib.hid hb
      clear hb
      go_wp2_with fail
      go_ret
      exact ⟨by rw [HE.out]; rfl, HB.out.trans (HB1.out.mono HB.out.size)⟩

set_option maxHeartbeats 1000000 in
theorem narrow_any (c : Int) (A : Option Addr) (n cap : Nat) (xs : List Int) (w : World) (hn : n = xs.length) (hsm : n ≤ 1099511627776) (hR : Rd w A (iv xs)) :
    Calls Tryd.prog 76 #[.agg #[.int .i64 c, .slice A n cap]] w fun e w' => e = .returned (.int .i64 (fewOf c xs)) ∧ Below w.heap.size w w' := by
  have hb1 := blk_new w (.cells #[.int .i64 c, .slice A n cap] 26)
  have hbel : Below w.heap.size w (w.alloc (.cells #[.int .i64 c, .slice A n cap] 26)) := (Below.refl _ _).alloc (Nat.le_refl _) _
  have h1 := isMatrix_any c A n cap xs _ hn hsm (hR.below hbel)
  have HK1 := Lib.hid hb1
  have HB := Lib.hid hbel
  cases hi : isMat c xs with
  | false =>
    rw [hi] at h1
    have HE : Hid (fewOf c xs = 1) := by show _ = _; simp [fewOf, hi]
    have H1 := Lib.hid h1
    clear h1 hi hb1 hbel hR hn
    go_enter Tryd.func76, Tryd.ntmps76
    go_wp2_with fail
    refine H1.out.mono ?_
    rintro e w1 ⟨rfl, hb⟩
    have HB1 := Lib.hid hb
    clear hb
    go_wp2_with fail
    go_ret
    exact ⟨by rw [HE.out]; rfl, HB.out.trans (HB1.out.mono HB.out.size)⟩
  | true =>
    rw [hi] at h1
    have H1 := Lib.hid h1
    by_cases hc : 60 < n
    · have HE : Hid (fewOf c xs = 2) := by show _ = _; unfold fewOf; rw [if_pos hi, if_pos (by omega)]
      clear h1 hi hb1 hbel hR hn
      go_enter Tryd.func76, Tryd.ntmps76
      go_wp2_with fail
      refine H1.out.mono ?_
      rintro e w1 ⟨rfl, hb⟩
      obtain ⟨x0, x1, _, _, _⟩ := blk2cells (blk_keep HK1.out hb)
      have HB1 := Lib.hid hb
      clear hb
      go_wp2_with fail
      go_ret
      exact ⟨by rw [HE.out]; rfl, HB.out.trans (HB1.out.mono HB.out.size)⟩
    · have HE : Hid (fewOf c xs = 0) := by show _ = _; unfold fewOf; rw [if_pos hi, if_neg (by omega)]
      clear h1 hi hb1 hbel hR hn
      go_enter Tryd.func76, Tryd.ntmps76
      go_wp2_with fail
      refine H1.out.mono ?_
      rintro e w1 ⟨rfl, hb⟩
      obtain ⟨x0, x1, _, _, _⟩ := blk2cells (blk_keep HK1.out hb)
      have HB1 := Lib.hid hb
      clear hb
      go_wp2_with fail
      go_ret
      exact ⟨by rw [HE.out]; rfl, HB.out.trans (HB1.out.mono HB.out.size)⟩

end Go.Proofs.YtjhlmalpcelbaaaDoor

namespace Go.Proofs.YtjhlmalpcelbaaaDoor
open Go.RowKit

theorem comb_snoc : ∀ (S : List Nat) (r i x : Nat), comb (S ++ [r]) i x = xr (comb S i x) (if tb x (i + S.length) = true then r else 0)
  | [], r, i, x => by simp [comb, xr_zero, zero_xr]
  | s :: S, r, i, x => by
    simp only [List.cons_append, comb, comb_snoc S r (i + 1) x, List.length_cons, xr_assoc]
    rw [show i + 1 + S.length = i + (S.length + 1) by omega]
theorem comb_succ (S : List Nat) (x : Nat) {k : Nat} (h : k < S.length) : comb (S.take (k + 1)) 0 x = xr (comb (S.take k) 0 x) (if tb x k = true then S.getD k 0 else 0) := by
  rw [List.take_succ_eq_append_getElem h, comb_snoc, List.length_take, Nat.min_eq_left (Nat.le_of_lt h), Nat.zero_add]
  simp [List.getD, h]
theorem comb_sm : ∀ (S : List Nat) (i x : Nat), (∀ r ∈ S, Sm r) → Sm (comb S i x)
  | [], _, _, _ => Sm.zero
  | r :: S, i, x, h => by
    simp only [comb]
    refine Sm.xr ?_ (comb_sm S (i + 1) x fun s hs => h s (List.mem_cons_of_mem _ hs))
    split
    · exact h r (List.mem_cons_self ..)
    · exact Sm.zero
attribute [local go_sem] i64_xor_nat i64_bit_test in
set_option maxHeartbeats 1000000 in
theorem times_any (A : Option Addr) (n c : Nat) (S : List Nat) (x : Nat) (w : World) (hn : n = S.length) (hsm : n ≤ 64) (hx : Sm x) (hS : ∀ r ∈ S, Sm r) (hR : Rd w A (nv S)) :
    Calls Tryd.prog 77 #[.int .i64 x, .slice A n c] w fun e w' => e = .returned (.int .i64 (comb S 0 x : Nat)) ∧ w = w' := by
  have HR := Lib.hid hR
  have Hn := Lib.hid hn
  have HS := Lib.hid hS
  clear hR hn hS
  go_enter Tryd.func77, Tryd.ntmps77
  go_wp2_with fail
  go_loop [5, 10] (fun t i => ∃ k : Nat, k ≤ n ∧ i = .int .i64 k ∧ t = .int .i64 (comb (S.take k) 0 x : Nat)) (fun _ i => n - (intOf i).toNat)
  case atStart => exact ⟨0, by omega, rfl, rfl⟩
  case round =>
    obtain ⟨k, hk, rfl, rfl⟩ := hrel
    by_cases hlt : k < n
    · have hkL : k < S.length := by rw [← Hn.out]; exact hlt
      obtain ⟨b, o, rfl, hc⟩ := HR.out.atN hkL
      have HC := Lib.hid (comb_succ S x hkL)
      have h1 : Sm (comb (S.take k) 0 x) := comb_sm _ _ _ fun r hr => HS.out r (List.mem_of_mem_take hr)
      have h2 : Sm (S.getD k 0) := HS.out _ (by simp [List.getD, hkL])
      generalize comb (S.take k) 0 x = p at *
      generalize S.getD k 0 = q at *
      have hmin : min k 64 = k := by omega
      cases hb : tb x k
      · have HE := Lib.hid (HC.out.trans (by rw [hb]; simp [xr_zero] : _ = p))
        go_wp2_with fail
        go_round
        case rel => exact ⟨k + 1, by omega, by go_num, by rw [HE.out]⟩
        case measure => simp [intOf]; omega
      · have HE := Lib.hid (HC.out.trans (by rw [hb]; simp : _ = xr p q))
        go_wp2_with fail
        go_round
        case rel => exact ⟨k + 1, by omega, by go_num, by rw [HE.out]⟩
        case measure => simp [intOf]; omega
    · have e : S.take k = S := List.take_of_length_le (by rw [← Hn.out]; omega)
      rw [e]
      clear e
      go_wp2_with fail
      go_ret
      exact ⟨rfl, rfl⟩

attribute [local go_sem] i64_xor_nat i64_bit_test in
set_option maxHeartbeats 1000000 in
theorem l02Times_any (A : Option Addr) (n c : Nat) (S : List Nat) (x : Nat) (w : World) (hn : n = S.length) (hsm : n ≤ 64) (hx : Sm x) (hS : ∀ r ∈ S, Sm r) (hR : Rd w A (nv S)) :
    Calls Tryd.prog 79 #[.int .i64 x, .slice A n c] w fun e w' => e = .returned (.int .i64 (comb S 0 x : Nat)) ∧ w = w' := by
  have HR := Lib.hid hR
  have Hn := Lib.hid hn
  have HS := Lib.hid hS
  clear hR hn hS
  go_enter Tryd.func79, Tryd.ntmps79
  go_wp2_with fail
  go_loop [5, 6] (fun t i => ∃ k : Nat, k ≤ n ∧ i = .int .i64 k ∧ t = .int .i64 (comb (S.take k) 0 x : Nat)) (fun _ i => n - (intOf i).toNat)
  case atStart => exact ⟨0, by omega, rfl, rfl⟩
  case round =>
    obtain ⟨k, hk, rfl, rfl⟩ := hrel
    by_cases hlt : k < n
    · have hkL : k < S.length := by rw [← Hn.out]; exact hlt
      obtain ⟨b, o, rfl, hc⟩ := HR.out.atN hkL
      have HC := Lib.hid (comb_succ S x hkL)
      have h1 : Sm (comb (S.take k) 0 x) := comb_sm _ _ _ fun r hr => HS.out r (List.mem_of_mem_take hr)
      have h2 : Sm (S.getD k 0) := HS.out _ (by simp [List.getD, hkL])
      generalize comb (S.take k) 0 x = p at *
      generalize S.getD k 0 = q at *
      have hmin : min k 64 = k := by omega
      cases hb : tb x k
      · have HE := Lib.hid (HC.out.trans (by rw [hb]; simp [xr_zero] : _ = p))
        go_wp2_with fail
        go_round
        case rel => exact ⟨k + 1, by omega, by go_num, by rw [HE.out]⟩
        case measure => simp [intOf]; omega
      · have HE := Lib.hid (HC.out.trans (by rw [hb]; simp : _ = xr p q))
        go_wp2_with fail
        go_round
        case rel => exact ⟨k + 1, by omega, by go_num, by rw [HE.out]⟩
        case measure => simp [intOf]; omega
    · have e : S.take k = S := List.take_of_length_le (by rw [← Hn.out]; omega)
      rw [e]
      clear e
      go_wp2_with fail
      go_ret
      exact ⟨rfl, rfl⟩

/-- what TimesRow answers -/
def timesOf (x : Int) (c : Int) (xs : List Int) : Int × Int :=
  if isMat c xs then (if maskB x xs.length && decide (xs.length ≤ 60) then ((comb (toN xs) 0 x.toNat : Nat), 0) else (0, 2)) else (0, 1)
theorem toN_len (xs : List Int) : (toN xs).length = xs.length := by simp [toN]

set_option maxHeartbeats 1000000 in
theorem implTimes_any (x : Int) (c : Int) (A : Option Addr) (n cap : Nat) (xs : List Int) (w : World) (hn : n = xs.length) (hsm : n ≤ 1099511627776) (hR : Rd w A (iv xs)) :
    Calls Tryd.prog 28 #[.int .i64 x, .agg #[.int .i64 c, .slice A n cap]] w fun e w' => e = .returned (.tuple #[.int .i64 (timesOf x c xs).1, .int .i64 (timesOf x c xs).2]) ∧ Below w.heap.size w w' := by
  have hb1 := blk_new w (.cells #[.int .i64 c, .slice A n cap] 26)
  have hbel : Below w.heap.size w (w.alloc (.cells #[.int .i64 c, .slice A n cap] 26)) := (Below.refl _ _).alloc (Nat.le_refl _) _
  have h1 := narrow_any c A n cap xs _ hn hsm (hR.below hbel)
  have HK1 := Lib.hid hb1
  have HB := Lib.hid hbel
  have HR := Lib.hid hR
  cases hi : isMat c xs with
  | false =>
    rw [show fewOf c xs = 1 by simp [fewOf, hi]] at h1
    have HE : Hid (timesOf x c xs = (0, 1)) := by show _ = _; simp [timesOf, hi]
    have H1 := Lib.hid h1
    clear h1 hi hb1 hbel hR hn
    go_enter Tryd.func28, Tryd.ntmps28
    go_wp2_with fail
    refine H1.out.mono ?_
    rintro e w1 ⟨rfl, hb⟩
    have HB1 := Lib.hid hb
    clear hb
    go_wp2_with fail
    go_ret2
    exact ⟨by rw [HE.out]; rfl, HB.out.trans (HB1.out.mono HB.out.size)⟩
  | true =>
    by_cases hl : 60 < xs.length
    · rw [show fewOf c xs = 2 by unfold fewOf; rw [if_pos hi, if_pos hl]] at h1
      have HE : Hid (timesOf x c xs = (0, 2)) := by show _ = _; unfold timesOf; rw [if_pos hi, if_neg (by simp; omega)]
      have H1 := Lib.hid h1
      clear h1 hi hb1 hbel hR hn
      go_enter Tryd.func28, Tryd.ntmps28
      go_wp2_with fail
      refine H1.out.mono ?_
      rintro e w1 ⟨rfl, hb⟩
      have HB1 := Lib.hid hb
      clear hb
      go_wp2_with fail
      go_ret2
      exact ⟨by rw [HE.out]; rfl, HB.out.trans (HB1.out.mono HB.out.size)⟩
    · rw [show fewOf c xs = 0 by unfold fewOf; rw [if_pos hi, if_neg hl]] at h1
      have H1 := Lib.hid h1
      have hmk := fun W => isMask_any x n (by omega) W
      have HSx := Lib.hid (isMat_sm hi)
      have HRx : Hid (Rd w A (nv (toN xs))) := by have := HR.out; rw [iv_toN (fun x hx => (isMat_nonneg hi x hx).1)] at this; exact this
      cases hm : maskB x n with
      | false =>
        rw [hm] at hmk
        have HE : Hid (timesOf x c xs = (0, 2)) := by show _ = _; unfold timesOf; rw [if_pos hi, if_neg (by rw [← hn, hm]; simp)]
        have HM := Lib.hid hmk
        clear h1 hi hb1 hbel hR hn hm hmk
        go_enter Tryd.func28, Tryd.ntmps28
        go_wp2_with fail
        refine H1.out.mono ?_
        rintro e w1 ⟨rfl, hb⟩
        obtain ⟨x0, x1, _, _, _⟩ := blk2cells (blk_keep HK1.out hb)
        have HB1 := Lib.hid hb
        clear hb
        go_wp2_with fail
        refine (HM.out _).mono ?_
        rintro e w2 ⟨rfl, rfl⟩
        go_wp2_with fail
        go_ret2
        exact ⟨by rw [HE.out]; rfl, HB.out.trans (HB1.out.mono HB.out.size)⟩
      | true =>
        rw [hm] at hmk
        obtain ⟨hx0, hxs⟩ := maskB_sm (by omega) hm
        obtain ⟨z, rfl⟩ := Int.eq_ofNat_of_zero_le hx0
        rw [Int.toNat_natCast] at hxs
        have HE : Hid (timesOf z c xs = (((comb (toN xs) 0 z : Nat) : Int), (0 : Int))) := by show _ = _; unfold timesOf; rw [if_pos hi, if_pos (by rw [← hn, hm]; simp; omega)]; rfl
        have HM := Lib.hid hmk
        have HTI := Lib.hid (fun W (hW : Rd W A (nv (toN xs))) => times_any A n cap (toN xs) z W (by rw [toN_len]; exact hn) (by omega) hxs HSx.out hW)
        clear h1 hi hb1 hbel hR hn hm hmk hxs hx0
        go_enter Tryd.func28, Tryd.ntmps28
        go_wp2_with fail
        refine H1.out.mono ?_
        rintro e w1 ⟨rfl, hb⟩
        obtain ⟨x0, x1, _, _, _⟩ := blk2cells (blk_keep HK1.out hb)
        have HB1 := Lib.hid hb
        clear hb
        go_wp2_with fail
        refine (HM.out _).mono ?_
        rintro e w2 ⟨rfl, rfl⟩
        go_wp2_with fail
        refine (HTI.out _ (HRx.out.below (HB.out.trans (HB1.out.mono HB.out.size)))).mono ?_
        rintro e w3 ⟨rfl, rfl⟩
        go_wp2_with fail
        go_ret2
        exact ⟨by rw [HE.out]; rfl, HB.out.trans (HB1.out.mono HB.out.size)⟩

theorem l02Mask_big (v : Int) (d : Nat) (hd : 60 < d) (w : World) : Calls Tryd.prog 78 #[.int .i64 v, .int .i64 d] w fun e w' => e = .returned (.bool false) ∧ w = w' := by
  have h1 := fun W => l01In_any d 0 60 W
  rw [show inB (d : Int) 0 60 = false by simp [inB]; omega] at h1
  have H1 := Lib.hid h1
  clear h1
  go_enter Tryd.func78, Tryd.ntmps78
  go_wp2_with fail
  refine (H1.out _).mono ?_
  rintro e w1 ⟨rfl, rfl⟩
  go_wp2_with fail
  go_ret
  exact ⟨rfl, rfl⟩
theorem l02Mask_all (v : Int) (d : Nat) (w : World) : Calls Tryd.prog 78 #[.int .i64 v, .int .i64 d] w fun e w' => e = .returned (.bool (maskB v d && decide (d ≤ 60))) ∧ w = w' := by
  by_cases hd : d ≤ 60
  · have := l02Mask_any v d hd w
    rwa [show decide (d ≤ 60) = true by simpa using hd, Bool.and_true]
  · have := l02Mask_big v d (by omega) w
    rwa [show decide (d ≤ 60) = false by simpa using hd, Bool.and_false]

set_option maxHeartbeats 1000000 in
theorem specTimes_any (x : Int) (c : Int) (A : Option Addr) (n cap : Nat) (xs : List Int) (w : World) (hn : n = xs.length) (hsm : n ≤ 1099511627776) (hR : Rd w A (iv xs)) :
    Calls Tryd.prog 29 #[.int .i64 x, .agg #[.int .i64 c, .slice A n cap]] w fun e w' => e = .returned (.tuple #[.int .i64 (timesOf x c xs).1, .int .i64 (timesOf x c xs).2]) ∧ Below w.heap.size w w' := by
  have hb1 := blk_new w (.cells #[.int .i64 c, .slice A n cap] 26)
  have hbel : Below w.heap.size w (w.alloc (.cells #[.int .i64 c, .slice A n cap] 26)) := (Below.refl _ _).alloc (Nat.le_refl _) _
  have h1 := l02Is_any c A n cap xs _ hn hsm (hR.below hbel)
  have HK1 := Lib.hid hb1
  have HB := Lib.hid hbel
  have HR := Lib.hid hR
  cases hi : isMat c xs with
  | false =>
    rw [hi] at h1
    have HE : Hid (timesOf x c xs = (0, 1)) := by show _ = _; simp [timesOf, hi]
    have H1 := Lib.hid h1
    clear h1 hi hb1 hbel hR hn
    go_enter Tryd.func29, Tryd.ntmps29
    go_wp2_with fail
    refine H1.out.mono ?_
    rintro e w1 ⟨rfl, hb⟩
    have HB1 := Lib.hid hb
    clear hb
    go_wp2_with fail
    go_ret2
    exact ⟨by rw [HE.out]; rfl, HB.out.trans (HB1.out.mono HB.out.size)⟩
  | true =>
    rw [hi] at h1
    have H1 := Lib.hid h1
    have hmk := fun W => l02Mask_all x n W
    have HSx := Lib.hid (isMat_sm hi)
    have HRx : Hid (Rd w A (nv (toN xs))) := by have := HR.out; rw [iv_toN (fun x hx => (isMat_nonneg hi x hx).1)] at this; exact this
    cases hm : (maskB x n && decide (n ≤ 60)) with
    | false =>
      rw [hm] at hmk
      have HE : Hid (timesOf x c xs = (0, 2)) := by show _ = _; unfold timesOf; rw [if_pos hi, if_neg (by rw [← hn, hm]; simp)]
      have HM := Lib.hid hmk
      clear h1 hi hb1 hbel hR hn hm hmk
      go_enter Tryd.func29, Tryd.ntmps29
      go_wp2_with fail
      refine H1.out.mono ?_
      rintro e w1 ⟨rfl, hb⟩
      obtain ⟨x0, x1, _, _, _⟩ := blk2cells (blk_keep HK1.out hb)
      have HB1 := Lib.hid hb
      clear hb
      go_wp2_with fail
      refine (HM.out _).mono ?_
      rintro e w2 ⟨rfl, rfl⟩
      go_wp2_with fail
      go_ret2
      exact ⟨by rw [HE.out]; rfl, HB.out.trans (HB1.out.mono HB.out.size)⟩
    | true =>
      rw [hm] at hmk
      have hm' := hm
      simp only [Bool.and_eq_true, decide_eq_true_eq] at hm'
      obtain ⟨hx0, hxs⟩ := maskB_sm hm'.2 hm'.1
      have hn60 := hm'.2
      obtain ⟨z, rfl⟩ := Int.eq_ofNat_of_zero_le hx0
      rw [Int.toNat_natCast] at hxs
      have HE : Hid (timesOf z c xs = (((comb (toN xs) 0 z : Nat) : Int), (0 : Int))) := by show _ = _; unfold timesOf; rw [if_pos hi, if_pos (by rw [← hn, hm])]; rfl
      have HM := Lib.hid hmk
      have HTI := Lib.hid (fun W (hW : Rd W A (nv (toN xs))) => l02Times_any A n cap (toN xs) z W (by rw [toN_len]; exact hn) (by omega) hxs HSx.out hW)
      clear h1 hi hb1 hbel hR hn hm hmk hxs hx0 hm'
      go_enter Tryd.func29, Tryd.ntmps29
      go_wp2_with fail
      refine H1.out.mono ?_
      rintro e w1 ⟨rfl, hb⟩
      obtain ⟨x0, x1, _, _, _⟩ := blk2cells (blk_keep HK1.out hb)
      have HB1 := Lib.hid hb
      clear hb
      go_wp2_with fail
      refine (HM.out _).mono ?_
      rintro e w2 ⟨rfl, rfl⟩
      go_wp2_with fail
      refine (HTI.out _ (HRx.out.below (HB.out.trans (HB1.out.mono HB.out.size)))).mono ?_
      rintro e w3 ⟨rfl, rfl⟩
      go_wp2_with fail
      go_ret2
      exact ⟨by rw [HE.out]; rfl, HB.out.trans (HB1.out.mono HB.out.size)⟩
end Go.Proofs.YtjhlmalpcelbaaaDoor

namespace Go.Proofs.YtjhlmalpcelbaaaDoor
open Go.RowKit

/-- the answer by the program's way -/
theorem isMat_sq {n : Nat} {xs : List Int} (hi : isMat n xs = true) (hn : n = xs.length) : Sq (toN xs) n := by
  refine ⟨by simp [toN, hn], ?_, ?_⟩
  · intro r hr
    obtain ⟨x, hx, rfl⟩ := List.mem_map.1 hr
    unfold isMat at hi
    simp only [Bool.and_eq_true, List.all_eq_true] at hi
    have h1 := inB_true (hi.2.2 x hx)
    rw [Int.toNat_natCast] at h1
    have h2 := pow_pos' n
    have e : ((2 ^ n : Nat) : Int) = (2 : Int) ^ n := by rw [Int.natCast_pow]; rfl
    generalize (2 : Int) ^ n = z at *
    omega
  · obtain ⟨d, hd, h60⟩ := isMat_cols hi
    omega
theorem invOf_sq {n : Nat} {xs : List Int} (hi : isMat n xs = true) (hn : n = xs.length) : invOf n xs = if ∀ j, j < n → (solL (toN xs) (2 ^ j)).1 = 0 then ((n : Int), invK (toN xs) n, 0) else (0, [], 5) := by
  unfold invOf; rw [if_pos hi, if_pos (by rw [hn]), ← hn]; rfl
theorem invOf_free {n : Nat} {xs : List Int} (hi : isMat n xs = true) (hn : n = xs.length) (hf : freeRows (toN xs)) : invOf n xs = ((n : Int), (spanL (us 0 (toN xs))).foldl putC (List.replicate n 0), 0) := by
  have hs := isMat_sq hi hn
  rw [invOf_sq hi hn, if_pos (hs.sol.2 hf), hs.inverse hf]; rfl
theorem invOf_bound {n : Nat} {xs : List Int} (hi : isMat n xs = true) (hn : n = xs.length) (hf : ¬ freeRows (toN xs)) : invOf n xs = (0, [], 5) := by
  have hs := isMat_sq hi hn
  rw [invOf_sq hi hn, if_neg (fun h => hf (hs.sol.1 h))]
theorem invOf_len (c : Int) (xs : List Int) : (invOf c xs).2.1.length ≤ 1000 := by
  unfold invOf
  split
  · rename_i h
    split
    · split
      · have := isMat_len h; simp; omega
      · simp
    · simp
  · simp
theorem cell_set_drew {w : World} {a p : Addr} {v u : Value} (h : w.cell? a = some v) (hne : a.block ≠ p.block) : (w.setCell p u).drew.cell? a = some v :=
  (World.cell?_of_block (a := a) (Below.heap_setCell w p u a.block hne)).trans h

theorem OutAt.made {w : World} {B g n : Nat} {c : Int} {x : Obj} (hB : B ≤ g) (hx : x = .cells (madeCells #[.int .i64 0] n) 2) (hn : n ≤ 1000) (h1 : w.heap[g]? = some x) (bx : Nat) (h2 : w.heap[bx]? = some (.cells #[.int .i64 c, .slice (some ⟨g, 0, none⟩) n n] 26 (0, 0))) :
    OutAt w B bx c n (List.replicate n 0) := by
  subst hx
  refine ⟨_, h2, by simp [nv], .inr ⟨g, n, _, rfl, hB, h1, Nat.le_refl _, by unfold maxLen; omega, by simp [madeCells], ?_⟩⟩
  have := iv_replicate n
  rw [show nv (List.replicate n 0) = iv (List.replicate n 0) by simp [nv, iv], ← this]
  rw [List.take_of_length_le (by simp [madeCells])]

theorem made_a (wr : World) (n : Nat) (c : Int) (hn : n ≤ 1000) : ∃ g : Nat, Value.pointer (some ⟨wr.heap.size + 1, 0, none⟩) = .pointer (some ⟨g, 0, none⟩) ∧
    OutAt ((wr.alloc (.cells (madeCells #[.int .i64 0] n) 2)).alloc (.cells #[.int .i64 c, .slice (some ⟨wr.heap.size, 0, none⟩) n n] 26)).drew wr.heap.size g c n (List.replicate n 0) ∧
    Below wr.heap.size wr ((wr.alloc (.cells (madeCells #[.int .i64 0] n) 2)).alloc (.cells #[.int .i64 c, .slice (some ⟨wr.heap.size, 0, none⟩) n n] 26)).drew ∧ wr.heap.size ≤ g :=
  ⟨_, rfl, OutAt.made (Nat.le_refl _) rfl hn (blk_alloc (blk_new wr (.cells (madeCells #[.int .i64 0] n) 2)) (.cells #[.int .i64 c, .slice (some ⟨wr.heap.size, 0, none⟩) n n] 26)) _ (blk_new1 wr _ _), (((Below.refl _ _).alloc (Nat.le_refl _) _).alloc (by simp) _).drew, by omega⟩
theorem made_b (wr : World) (n : Nat) (c : Int) (hn : n ≤ 1000) : ∃ g : Nat, Value.pointer (some ⟨wr.heap.size, 0, none⟩) = .pointer (some ⟨g, 0, none⟩) ∧
    OutAt ((wr.alloc (.cells #[.int .i64 c, .slice (some ⟨wr.heap.size + 1, 0, none⟩) n n] 26)).alloc (.cells (madeCells #[.int .i64 0] n) 2)).drew wr.heap.size g c n (List.replicate n 0) ∧
    Below wr.heap.size wr ((wr.alloc (.cells #[.int .i64 c, .slice (some ⟨wr.heap.size + 1, 0, none⟩) n n] 26)).alloc (.cells (madeCells #[.int .i64 0] n) 2)).drew ∧ wr.heap.size ≤ g :=
  ⟨_, rfl, OutAt.made (g := wr.heap.size + 1) (by omega) rfl hn (blk_new1 wr (.cells #[.int .i64 c, .slice (some ⟨wr.heap.size + 1, 0, none⟩) n n] 26) (.cells (madeCells #[.int .i64 0] n) 2)) _ (blk_alloc (blk_new wr _) _), (((Below.refl _ _).alloc (Nat.le_refl _) _).alloc (by simp) _).drew, by omega⟩

set_option maxRecDepth 100000 in
set_option maxHeartbeats 2000000 in
theorem implInv_any (c : Int) (A : Option Addr) (n cap : Nat) (xs : List Int) (w : World) (hT : Tab w) (hw : 0 < w.heap.size) (hn : n = xs.length) (hsm : n ≤ 1099511627776) (hR : Rd w A (iv xs)) :
    Calls Tryd.prog 48 #[.agg #[.int .i64 c, .slice A n cap]] w fun e w' =>
      ∃ v, e = .returned (.tuple #[.agg #[.int .i64 (invOf c xs).1, v], .int .i64 (invOf c xs).2.2]) ∧ w'.ownsRow w.heap.size 2 1 v (invOf c xs).2.1.length (nv (invOf c xs).2.1) ∧ Below w.heap.size w w' := by
  have hb1 := blk_alloc (blk_new w (.cells #[.int .i64 c, .slice A n cap] 26)) (.cells #[.int .i64 0, .slice none 0 0] 26)
  have hb2 := blk_new1 w (.cells #[.int .i64 c, .slice A n cap] 26) (.cells #[.int .i64 0, .slice none 0 0] 26)
  have hbel : Below w.heap.size w ((w.alloc (.cells #[.int .i64 c, .slice A n cap] 26)).alloc (.cells #[.int .i64 0, .slice none 0 0] 26)) := ((Below.refl _ _).alloc (Nat.le_refl _) _).alloc (by simp) _
  have h1 := isMatrix_any c A n cap xs _ hn hsm (hR.below hbel)
  have HK1 := Lib.hid hb1
  have HK2 := Lib.hid hb2
  have HB := Lib.hid hbel
  have HR := Lib.hid hR
  have Hn := Lib.hid hn
  have HT := Lib.hid hT
  clear hb1 hb2 hbel hR hn hT
  cases hi : isMat c xs with
  | false =>
    rw [hi] at h1
    have HE : Hid (invOf c xs = (0, [], 1)) := by show _ = _; simp [invOf, hi]
    have H1 := Lib.hid h1
    clear h1 hi
    go_enter Tryd.func48, Tryd.ntmps48
    go_wp2_with fail
    refine H1.out.mono ?_
    rintro e w1 ⟨rfl, hb⟩
    have HK2a := Lib.hid (blk_keep HK2.out hb)
    have HB1 := Lib.hid (HB.out.trans (hb.mono HB.out.size))
    obtain ⟨x0, x1, f0, f1, lx⟩ := blk2cells HK2a.out
    clear hb
    go_wp2_with fail
    refine bodyPost_ret (v := .tuple #[.agg #[.int .i64 0, .slice none 0 0], .int .i64 1]) ?_ rfl ⟨_, by rw [HE.out], by rw [HE.out]; exact World.ownsRow_nil _ _ _ _, ?_⟩
    · simp [results, Tryd.results48, go_sem, x0, x1]
    · exact (HB1.out.setCell (p := ⟨w.heap.size + 1, 0, none⟩) (by simp) _).setCell (p := ⟨w.heap.size + 1, 1, none⟩) (by simp) _
  | true =>
    rw [hi] at h1
    have H1 := Lib.hid h1
    have HSx := Lib.hid (isMat_sm hi)
    have HRx : Hid (Rd w A (nv (toN xs))) := by have := HR.out; rw [iv_toN (fun x hx => (isMat_nonneg hi x hx).1)] at this; exact this
    have lx : (toN xs).length = xs.length := by simp [toN]
    have Lx := Lib.hid lx
    obtain ⟨d, hd, hd60⟩ := isMat_cols hi
    clear h1 lx
    by_cases hc : c = (n : Int)
    · subst hc
      have hn60 : n ≤ 60 := by omega
      have HF := Lib.hid (invOf_free hi Hn.out)
      have HNF := Lib.hid (invOf_bound hi Hn.out)
      have HSQ0 := Lib.hid (isMat_sq hi Hn.out)
      have HSM := Lib.hid (us_sm HSx.out (by rw [Lx.out, ← Hn.out]; omega))
      clear hi hd hd60
      go_enter Tryd.func48, Tryd.ntmps48
      go_wp2_with fail
      refine H1.out.mono ?_
      rintro e w1 ⟨rfl, hb⟩
      have HK1a := Lib.hid (blk_keep HK1.out hb)
      have HK2a := Lib.hid (blk_keep HK2.out hb)
      have HB1 := Lib.hid (HB.out.trans (hb.mono HB.out.size))
      have hs1 := HB1.out.size
      have lx2 := (Array.getElem?_eq_some_iff.1 HK2a.out).1
      obtain ⟨x0, x1, f0, f1, lx⟩ := blk2cells HK1a.out
      have HS0 := Lib.hid (SpanAt.new w1)
      clear hb
      go_wp2_with fail
      go_loopw [30] (fun i wr => ∃ k : Nat, k ≤ n ∧ i = .int .i64 k ∧ (∀ j, j < k → (leftN (spanL ((us 0 (toN xs)).take j)) ((us 0 (toN xs)).getD j (0, 0))).1 ≠ 0) ∧ (∃ v1 v2, SpanAt wr w1.heap.size w1.heap.size v1 v2 (spanL ((us 0 (toN xs)).take k))) ∧ Below w1.heap.size w1 wr) (fun i _ => n - (intOf i).toNat)
      case atStart => exact ⟨0, by omega, rfl, fun j hj => absurd hj (by omega), ⟨_, _, HS0.out⟩, (Below.refl _ _).alloc (Nat.le_refl _) _⟩
      case round =>
        obtain ⟨k, hk, rfl, hall, ⟨v1, v2, hsp⟩, hbel⟩ := hrel
        have hsz : w1.heap.size ≤ wr.heap.size := hbel.size
        by_cases hlt : k < n
        · have hkL : k < (toN xs).length := by rw [Lx.out, ← Hn.out]; exact hlt
          obtain ⟨b, o, rfl, hc⟩ := (HRx.out.below (HB1.out.trans (hbel.mono hs1))).atN hkL
          have hx := HSx.out _ (getD_mem hkL)
          have hp2 : Sm (2 ^ k) := by have := pw_sm (p := k) (by omega); exact this
          have Hs := Lib.hid (spanL_take_succ (us 0 (toN xs)) k (by rw [us_length]; exact hkL))
          have hu := us_getD (toN xs) 0 k hkL
          rw [Nat.zero_add] at hu
          have hl := spanL_length_le ((us 0 (toN xs)).take k)
          rw [List.length_take] at hl
          have hg := (spanL_perm ((us 0 (toN xs)).take k) (fun p hp => HSM.out p (List.mem_of_mem_take hp))).2.2
          have hfr : ¬ (leftN (spanL ((us 0 (toN xs)).take k)) ((us 0 (toN xs)).getD k (0, 0))).1 ≠ 0 → ¬ freeRows (toN xs) := fun h h' => h (h' k hkL)
          have hal : (leftN (spanL ((us 0 (toN xs)).take k)) ((us 0 (toN xs)).getD k (0, 0))).1 ≠ 0 → ∀ j, j < k + 1 → (leftN (spanL ((us 0 (toN xs)).take j)) ((us 0 (toN xs)).getD j (0, 0))).1 ≠ 0 := by
            intro h j hj
            by_cases e : j = k
            · subst e; exact h
            · exact hall j (by omega)
          rw [hu] at hfr hal
          have Hs : Hid (spanL ((us 0 (toN xs)).take (k + 1)) = addL (spanL ((us 0 (toN xs)).take k)) ((toN xs).getD k 0, 2 ^ k)) := by show _ = _; rw [← hu]; exact Hs.out
          have HAL := Lib.hid hal
          have HFR := Lib.hid hfr
          clear hall hal hfr hu
          generalize spanL ((us 0 (toN xs)).take k) = L at *
          generalize (toN xs).getD k 0 = x at *
          have ha := add_any w1.heap.size w1.heap.size v1 v2 L x (2 ^ k) wr (HT.out.below (HB1.out.trans (hbel.mono hs1)) hw) (by omega) hsz hsp (by omega) hx hp2 hg
          rw [← shl_one (by omega)] at ha
          have HSQ := Lib.hid hsp
          have HBL := Lib.hid hbel
          by_cases h0 : (leftN L (x, 2 ^ k)).1 = 0
          · have hv : AddRes L (x, 2 ^ k) = .tuple #[.int .i64 ((leftN L (x, 2 ^ k)).2 : Nat), .bool false] := by simp [AddRes, h0]
            rw [hv] at ha
            have HA := Lib.hid ha
            have HE := Lib.hid (HNF.out (HFR.out (by simp [h0])))
            clear ha hv h0 hsp hbel hg
            generalize (leftN L (x, 2 ^ k)).2 = z at *
            go_wp2_with (go_at_call 60; refine HA.out.mono ?_; rintro e w3 ⟨rfl, hpost⟩; have hb3 := HBL.out.trans (hpost.below HSQ.out hsz); have HB3 := Lib.hid hb3; obtain ⟨y0, y1, g0, g1, ly⟩ := blk2cells (blk_below HK2a.out hb3 lx2); clear hpost hb3)
            refine bodyPost_ret (v := .tuple #[.agg #[.int .i64 0, .slice none 0 0], .int .i64 5]) ?_ rfl ⟨_, by rw [HE.out], by rw [HE.out]; exact World.ownsRow_nil _ _ _ _, ?_⟩
            · simp [results, Tryd.results48, go_sem, y0, y1]
            · exact ((HB1.out.trans (HB3.out.mono hs1)).setCell (p := ⟨w.heap.size + 1, 0, none⟩) (by simp) _).setCell (p := ⟨w.heap.size + 1, 1, none⟩) (by simp) _
          · have hv : AddRes L (x, 2 ^ k) = .tuple #[.int .i64 0, .bool true] := by simp [AddRes, h0]
            rw [hv] at ha
            have HA := Lib.hid ha
            have HAL' := Lib.hid (HAL.out h0)
            clear ha hv h0 hsp hbel hg
            go_wp2_with (go_at_call 60; refine HA.out.mono ?_; rintro e w3 ⟨rfl, hpost⟩; have HP := Lib.hid hpost; clear hpost)
            go_roundw
            case rel =>
              obtain ⟨_, u1, u2, hs2, _, _⟩ := HP.out
              exact ⟨k + 1, by omega, by go_num, HAL'.out, ⟨u1, u2, by rw [Hs.out]; exact hs2⟩, HBL.out.trans (HP.out.below HSQ.out hsz)⟩
            case measure => simp [intOf]; omega
        · obtain ⟨W0, rfl⟩ : ∃ W0, W0 = wr := ⟨_, rfl⟩
          have ek : k = (toN xs).length := by rw [Lx.out, ← Hn.out]; omega
          have hfr : freeRows (toN xs) := fun j hj => hall j (by omega)
          have et : (us 0 (toN xs)).take k = us 0 (toN xs) := List.take_of_length_le (by rw [us_length]; omega)
          rw [et] at hsp
          have HE := Lib.hid (HF.out hfr)
          have hLn : (spanL (us 0 (toN xs))).length = n := HSQ0.out.len_iff.2 hfr
          have HLN := Lib.hid hLn
          have hLle : (spanL (us 0 (toN xs))).length ≤ 60 := by omega
          have HPV : Hid (∀ i, i < (spanL (us 0 (toN xs))).length → pv ((spanL (us 0 (toN xs))).getD i (0, 0)).1 < n) := by
            show ∀ i, _ → _
            intro i hi
            exact HSQ0.out.pivs _ (List.mem_map_of_mem (List.mem_map_of_mem (by simp [List.getD, hi])))
          have hgd := (spanL_perm (us 0 (toN xs)) HSM.out).2.2
          obtain ⟨V1, c1, rfl, _, hV1, _⟩ := owns_shape hsp.own1
          obtain ⟨V2, c2, rfl, _, hV2, _⟩ := owns_shape hsp.own2
          obtain ⟨s0, s1, t0, t1, ls⟩ := blk2cells hsp.blk
          have HSQ := Lib.hid hsp
          have HBL := Lib.hid hbel
          obtain ⟨x0, x1, f0, f1, _⟩ := blk2cells (blk_below HK1a.out hbel lx)
          obtain ⟨y0, y1, g0, g1, ly⟩ := blk2cells (blk_below HK2a.out hbel lx2)
          have hmk := run_make_row' (P := Tryd.prog) 24 2 (.int .i64 0) 8 Tryd.underlying24 infoI rfl .i64 .i64 n (by omega) (by omega)
          clear hall hfr et ek hLn hsp hbel hV1 hV2
          generalize hL : spanL (us 0 (toN xs)) = L at *
          have HL := Lib.hid hL
          clear hL
          go_wp2_with fail
          go_cut [9] (fun o wx => ∃ g : Nat, o = .pointer (some ⟨g, 0, none⟩) ∧ OutAt wx W0.heap.size g n n (List.replicate n 0) ∧ Below W0.heap.size W0 wx ∧ W0.heap.size ≤ g)
          case first =>
            go_region_law (fail)
            all_goals go_wp2_with fail
            all_goals go_meet
            all_goals (first | exact made_a _ _ _ (by omega) | exact made_b _ _ _ (by omega))
          case rest =>
            obtain ⟨g, rfl, ho, hb, hg⟩ := hcut
            have HBX := Lib.hid (HBL.out.trans (hb.mono HBL.out.size))
            have HO := Lib.hid ho
            have HBW := Lib.hid hb
            have hwr := HBL.out.size
            have hpos : 0 < W0.heap.size := by omega
            clear x0 x1 f0 f1 y0 y1 g0 g1 s0 s1 t0 t1 ho hb hmk
            obtain ⟨s0, s1, _, _, _⟩ := blk2cells (blk_below HSQ.out.blk HBW.out ls)
            go_wp2_with fail
            go_loopw [58] (fun i wy => ∃ k : Nat, k ≤ L.length ∧ i = .int .i64 k ∧ OutAt wy W0.heap.size g n n ((L.take k).foldl putC (List.replicate n 0)) ∧ Below W0.heap.size W0 wy) (fun i _ => L.length - (intOf i).toNat)
            case atStart => exact ⟨0, by omega, rfl, HO.out, HBW.out⟩
            case round =>
              obtain ⟨i, hi, rfl, ⟨v, hbo, hoo⟩, hbel⟩ := hrel
              have hsz : W0.heap.size ≤ wr.heap.size := hbel.size
              obtain ⟨z0, z1, fz0, fz1, lz⟩ := blk2cells hbo
              by_cases hlt2 : i < L.length
              · obtain ⟨b1, o1, rfl, hc1⟩ := ((owns_Rd HSQ.out.own1).below hbel).atN (k := i) (by rw [r1_length]; exact hlt2)
                obtain ⟨b2, o2, rfl, hc2⟩ := ((owns_Rd HSQ.out.own2).below hbel).atN (k := i) (by rw [r2_length]; exact hlt2)
                rw [r1_getD] at hc1; rw [r2_getD] at hc2
                obtain ⟨q0, q1, q2⟩ := hgd.at_ hlt2
                have hpn := HPV.out _ hlt2
                have Hi := Lib.hid (fold_take_succ putC (List.replicate n 0) L i (0, 0) hlt2)
                obtain ⟨q3, q4, _, _, _⟩ := blk2cells (blk_below HSQ.out.blk hbel ls)
                obtain ⟨Av, cv, rfl, _, hAv, _⟩ := owns_shape hoo
                obtain ⟨gv, rfl, hgv0, hgv1⟩ := hAv (by omega)
                have hfv := hoo.frozenAt (pv (L.getD i (0, 0)).1)
                have hcv := hoo.cellAt (pv (L.getD i (0, 0)).1) (by omega)
                have hlp := hoo.1
                have hb2 : b2 < W0.heap.size := by
                  obtain ⟨b3, o3, e3, hc3⟩ := (owns_Rd HSQ.out.own2).atN (k := i) (by rw [r2_length]; exact hlt2)
                  injection e3 with e3; injection e3 with e3
                  rw [e3]; exact World.block_lt_of_cell? W0 _ hc3
                have hgg : gv ≠ g := fun e => own_ne hoo hbo (by decide) (by rw [e]; rfl)
                have hn1 : g ≠ gv := fun e => hgg e.symm
                have hn2 : w1.heap.size ≠ gv := by omega
                have hn3 : b2 ≠ gv := by omega
                have hcell : ∃ u, wr.cell? ⟨gv, pv (L.getD i (0, 0)).1, none⟩ = some u := by
                  rw [nv_length] at hlp
                  rw [hcv]
                  exact ⟨_, List.getElem?_eq_getElem (by rw [nv_length]; omega)⟩
                obtain ⟨u, hcu⟩ := hcell
                generalize hP : (L.take i).foldl putC (List.replicate n 0) = p at *
                generalize hR' : L.getD i (0, 0) = r at *
                have HP := Lib.hid hP; clear hP
                have HR' := Lib.hid hR'; clear hR'
                have HOO := Lib.hid hoo
                have HBO := Lib.hid hbo
                have HBL2 := Lib.hid hbel
                have HPI := Lib.hid (fun W hT => pivot_any r.1 q0 q1 W hT)
                have HTT := Lib.hid (HT.out.below (HB1.out.trans (HBL.out.trans (hbel.mono hwr) |>.mono hs1)) hw)
                clear hoo hbo hbel hcv
                go_wp2_with fail
                go_region_held3 (fun w' => w'.cell? ⟨g, 1, none⟩ = some (.slice (some ⟨gv, 0, none⟩) n cv) ∧ w'.cell? ⟨w1.heap.size, 1, none⟩ = some (.slice (some ⟨b2, o2, none⟩) L.length c2) ∧ w'.cell? ⟨b2, o2 + i, none⟩ = some (.int .i64 (r.2 : Int)))
                  (first | exact ⟨z1, q4, hc2⟩ | exact ⟨cell_set_drew z1 hn1, cell_set_drew q4 hn2, cell_set_drew hc2 hn3⟩)
                  (first | (go_at_call 91; refine (HPI.out _ (by exact HTT.out)).mono ?_; rintro e w' ⟨rfl, rfl⟩))
                go_wp2_with fail
                go_roundw
                case rel =>
                  refine ⟨i + 1, by omega, by go_num, ?_, (HBL2.out.setCell (p := ⟨gv, pv r.1, none⟩) hgv0 _).drew⟩
                  refine ⟨_, blk_set_other HBO.out ⟨gv, pv r.1, none⟩ hgg _, ?_⟩
                  rw [Hi.out]
                  show World.ownsRow _ _ _ _ _ _ (nv (p.set (pv r.1) r.2))
                  rw [nv_set]
                  exact (World.ownsRow.stored HOO.out (pv r.1) _).1
                case measure => simp [intOf]; omega
              · have ei : L.take i = L := List.take_of_length_le (by omega)
                rw [ei] at hoo
                obtain ⟨Av, cv, rfl, _, _, _⟩ := owns_shape hoo
                have HBO := Lib.hid hbo
                have HOO := Lib.hid hoo
                have HBL2 := Lib.hid hbel
                have HBR := Lib.hid (blk_below (blk_below HK2a.out HBL.out lx2) hbel ly)
                obtain ⟨y0, y1, g0, g1, _⟩ := blk2cells HBR.out
                clear hoo hbo hbel ei
                go_wp2_with fail
                refine bodyPost_ret (v := .tuple #[.agg #[.int .i64 n, .slice Av n cv], .int .i64 0]) ?_ rfl ⟨_, by rw [HE.out], ?_, ?_⟩
                · simp [results, Tryd.results48, go_sem, y0, y1]
                · rw [HE.out]
                  have hl := HOO.out.1
                  rw [nv_length] at hl
                  refine own_cast (owns_keeps HOO.out (((Keeps.refl wr [some (w.heap.size + 1)]).setCell (p := ⟨w.heap.size + 1, 0, none⟩) (by simp) _).setCell (p := ⟨w.heap.size + 1, 1, none⟩) (by simp) _) (.inr ?_) |>.mono (by omega)) (by simpa using hl.symm) rfl
                  simp only [List.mem_singleton]
                  exact own_ne HOO.out HBR.out (by decide)
                · exact ((HB1.out.trans ((HBL.out.trans (HBL2.out.mono hwr)).mono hs1)).setCell (p := ⟨w.heap.size + 1, 0, none⟩) (by simp) _).setCell (p := ⟨w.heap.size + 1, 1, none⟩) (by simp) _
    · have HE : Hid (invOf c xs = (0, [], 2)) := by show _ = _; unfold invOf; rw [if_pos hi, if_neg (by rw [← Hn.out]; exact hc)]
      have hcb : (c != (n : Int)) = true := by simpa using hc
      clear hi hd hd60 hc
      go_enter Tryd.func48, Tryd.ntmps48
      go_wp2_with fail
      refine H1.out.mono ?_
      rintro e w1 ⟨rfl, hb⟩
      obtain ⟨x0, x1, f0, f1, lx⟩ := blk2cells (blk_keep HK1.out hb)
      obtain ⟨y0, y1, g0, g1, ly⟩ := blk2cells (blk_keep HK2.out hb)
      have HB1 := Lib.hid (HB.out.trans (hb.mono HB.out.size))
      clear hb
      go_wp2_with fail
      refine bodyPost_ret (v := .tuple #[.agg #[.int .i64 0, .slice none 0 0], .int .i64 2]) ?_ rfl ⟨_, by rw [HE.out], by rw [HE.out]; exact World.ownsRow_nil _ _ _ _, ?_⟩
      · simp [results, Tryd.results48, go_sem, y0, y1]
      · exact (HB1.out.setCell (p := ⟨w.heap.size + 1, 0, none⟩) (by simp) _).setCell (p := ⟨w.heap.size + 1, 1, none⟩) (by simp) _
end Go.Proofs.YtjhlmalpcelbaaaDoor
