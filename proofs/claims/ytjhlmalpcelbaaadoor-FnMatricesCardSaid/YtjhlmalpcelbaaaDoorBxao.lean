/- draws: DrawTimesRow, DrawMultiplyMatrices -/
import Derived.Test.YtjhlmalpcelbaaaDoorBxak
set_option linter.all false
namespace Go.Proofs.YtjhlmalpcelbaaaDoor
open Go.RowKit

theorem draw_bound (n : Nat) : IntKind.i64.wrap (IntKind.i64.wrap (2 ^ min (IntKind.u64.wrap (if (30 : Int) < (n : Int) then 30 else (n : Int))).toNat 64) + 1) ≤ 4611686018427387904 := by
  have hq : min (IntKind.u64.wrap (if (30 : Int) < (n : Int) then 30 else (n : Int))).toNat 64 ≤ 30 := by
    split
    · have : IntKind.u64.wrap 30 = 30 := by decide
      rw [this]
      decide
    · have : IntKind.u64.wrap (n : Int) = (n : Int) := by rw [IntKind.wrap_u64]; omega
      rw [this]
      omega
  generalize min (IntKind.u64.wrap (if (30 : Int) < (n : Int) then 30 else (n : Int))).toNat 64 = q at *
  have h1 : (2 : Nat) ^ q ≤ 2 ^ 30 := Nat.pow_le_pow_right (by omega) hq
  have h2 : (2 : Nat) ^ 30 = 1073741824 := by decide
  have h3 := pow_pos' q
  have h4 : (2 : Int) ^ q ≤ 1073741824 := by
    have e : ((2 ^ q : Nat) : Int) = (2 : Int) ^ q := by simp
    rw [← e]
    omega
  generalize (2 : Int) ^ q = z at *
  rw [IntKind.wrap_i64, IntKind.wrap_i64]
  omega
theorem draw_bound2 (n : Nat) : IntKind.i64.wrap (IntKind.i64.wrap (2 ^ min (IntKind.u64.wrap (min (n : Int) 30)).toNat 64) + 1) ≤ 4611686018427387904 := by
  have e : min (n : Int) 30 = if (30 : Int) < (n : Int) then 30 else (n : Int) := by
    split <;> omega
  rw [e]
  exact draw_bound n
/-- a number and a matrix that are drawn -/
def MVO (w : World) (e : Ending) (w' : World) : Prop :=
  ∃ (cl : Int) (A1 : Option Addr) (k1 : Nat) (xs : List Int) (y : Int), e = .returned (.tuple #[.int .i64 y, .agg #[.int .i64 cl, .slice A1 xs.length k1]]) ∧ w'.ownsRow w.heap.size 2 1 (.slice A1 xs.length k1) xs.length (iv xs) ∧ xs.length ≤ 300 ∧ Below w.heap.size w w'

set_option maxRecDepth 100000 in
set_option maxHeartbeats 4000000 in
theorem drawTimes_any (A : Option Addr) (n c : Nat) (bs : List Nat) (w : World) (hn : n = bs.length) (hsm : n ≤ 4096) (hby : ∀ b ∈ bs, b < 256) (hR : Rd w A (bv bs)) (hlt : ∀ a, A = some a → a.block < w.heap.size) :
    Calls Tryd.prog 27 #[.slice A n c] w (MVO w) := by
  have HFR := Lib.hid (from_any A n c bs (w.alloc (.cells #[.int .i64 0, .slice none 0 0] 26)) hn hsm hby (hR.alloc _) (fun a ha => by have := hlt a ha; simp; omega))
  have HA := Lib.hid hlt
  have HB0 := Lib.hid ((Below.refl w.heap.size w).alloc (Nat.le_refl _) (.cells #[.int .i64 0, .slice none 0 0] 26))
  have HZ2 := Lib.hid (blk_new w (.cells #[.int .i64 0, .slice none 0 0] 26))
  clear hn hby hR hlt
  go_enter Tryd.func27, Tryd.ntmps27
  go_wp2_with fail
  refine HFR.out.mono ?_
  rintro e w1 ⟨rfl, hs1, hb1⟩
  have hsz : (w.alloc (.cells #[.int .i64 0, .slice none 0 0] 26)).heap.size = w.heap.size + 1 := by simp
  rw [hsz] at hs1 hb1 ⊢
  have HS1 := Lib.hid hs1
  have HB1 := Lib.hid hb1
  clear hs1 hb1
  have hgl := HS1.out.lt
  go_wp2_with fail
  refine (spoil_any (w.heap.size + 1) A n c bs w1 HS1.out (fun a ha => by have := HA.out a ha; omega)).mono ?_
  rintro e w2 ⟨cl, v1, xs, rfl, ho1, hxl, hs2, hk2⟩
  obtain ⟨A1, c1, rfl, _, _, _⟩ := owns_shape ho1
  have hT2 : HmAt w (w2.alloc (.cells #[.int .i64 cl, .slice A1 xs.length c1] 26)) (w.heap.size + 1) A n c bs w2.heap.size cl A1 c1 xs := by
    have hb2 := hk2.size
    have hbw : Below w.heap.size w w2 := (HB0.out.trans (HB1.out.mono (by simp))).trans (hk2.to_below (by omega) (fun j hj => by simp only [List.mem_singleton] at hj; injection hj with hj; omega))
    exact ⟨blk_alloc ((hk2.block _ (by omega) (by simp)).trans ((HB1.out.block _ (by simp)).trans HZ2.out)) _, hs2.keeps ((Keeps.refl w2 []).alloc _) (by simp) (by simp), blk_new w2 _, (ho1.mono (by omega)).alloc _, hbw.alloc hbw.size _, by omega, by omega⟩
  have H2 := Lib.hid hT2
  clear ho1 hs2 hk2 hT2 HFR HB0 HZ2 HS1 HB1
  have hw2 : w.heap.size + 1 ≤ w2.heap.size := H2.out.ga2
  go_wp2_with fail
  generalize w2.alloc (.cells #[.int .i64 cl, .slice A1 xs.length c1] 26) = wp at *
  generalize w2.heap.size = ga at *
  obtain ⟨z0, z1, _, _, _⟩ := blk2cells H2.out.box
  have hga := H2.out.ga2
  obtain ⟨y0, y1, fy0, fy1, _⟩ := blk2cells H2.out.b2
  refine wp_region_held_drew (S := (fun w' => w'.cell? ⟨ga, 0, none⟩ = some (.int .i64 cl) ∧ w'.cell? ⟨ga, 1, none⟩ = some (.slice A1 xs.length c1))) (by kernel_rfl) (by (first | exact ⟨z0, z1⟩ | exact ⟨cell_set (cell_set (blk2cells H4.out.box).1 (by simp; omega)) (by simp; omega), cell_set (cell_set (blk2cells H4.out.box).2.1 (by simp; omega)) (by simp; omega)⟩ | exact ⟨(blk2cells H4.out.box).1, (blk2cells H4.out.box).2.1⟩ | exact ⟨(blk2cells H3.out.box).1, (blk2cells H3.out.box).2.1⟩)) (fun hHeld => ?_)
  refine wpAnyH_take (i := 0) (oi := ?oim1_1) (v := ?vm1_1) ?hm1_1 (by kernel_rfl) (by kernel_rfl) (by kernel_rfl) ?qm1_1 (Or.inl ⟨?wm1_1, ?ym1_1⟩) (by assumption) ?rm1_1
  case hm1_1 => (simp only [List.getElem?_toArray, List.getElem?_cons_succ, List.getElem?_cons_zero]; rfl)
  case qm1_1 => exact fun _ _ _ h => h
  case wm1_1 => rfl
  case ym1_1 => (intro w hSw; (try dsimp only at hSw); go_simp <;> with_reducible rfl)
  try simp only [Act.put, List.setIfInBounds_toArray, List.set_cons_zero, List.set_cons_succ]
  refine wpAnyH_take (i := 1) (oi := ?oim1_2) (v := ?vm1_2) ?hm1_2 (by kernel_rfl) (by kernel_rfl) (by kernel_rfl) ?qm1_2 (Or.inl ⟨?wm1_2, ?ym1_2⟩) (by assumption) ?rm1_2
  case hm1_2 => (simp only [List.getElem?_toArray, List.getElem?_cons_succ, List.getElem?_cons_zero]; rfl)
  case qm1_2 => exact fun _ _ _ h => h
  case wm1_2 => rfl
  case ym1_2 => (intro w hSw; (try dsimp only at hSw); go_simp <;> with_reducible rfl)
  try simp only [Act.put, List.setIfInBounds_toArray, List.set_cons_zero, List.set_cons_succ]
  refine wpAnyH_take (i := 2) (oi := ?oim1_3) (v := ?vm1_3) ?hm1_3 (by kernel_rfl) (by kernel_rfl) (by kernel_rfl) ?qm1_3 (Or.inl ⟨?wm1_3, ?ym1_3⟩) (by assumption) ?rm1_3
  case hm1_3 => (simp only [List.getElem?_toArray, List.getElem?_cons_succ, List.getElem?_cons_zero]; rfl)
  case qm1_3 => exact fun _ _ _ h => h
  case wm1_3 => rfl
  case ym1_3 => (intro w hSw; (try dsimp only at hSw); go_simp <;> with_reducible rfl)
  try simp only [Act.put, List.setIfInBounds_toArray, List.set_cons_zero, List.set_cons_succ]
  refine wpAnyH_take (i := 3) (oi := ?oim1_4) (v := ?vm1_4) ?hm1_4 (by kernel_rfl) (by kernel_rfl) (by kernel_rfl) ?qm1_4 (Or.inl ⟨?wm1_4, ?ym1_4⟩) (by assumption) ?rm1_4
  case hm1_4 => (simp only [List.getElem?_toArray, List.getElem?_cons_succ, List.getElem?_cons_zero]; rfl)
  case qm1_4 => exact fun _ _ _ h => h
  case wm1_4 => rfl
  case ym1_4 => (intro w hSw; (try dsimp only at hSw); go_simp <;> with_reducible rfl)
  try simp only [Act.put, List.setIfInBounds_toArray, List.set_cons_zero, List.set_cons_succ]
  refine wpAnyH_take (i := 4) (oi := ?oim1_5) (v := ?vm1_5) ?hm1_5 (by kernel_rfl) (by kernel_rfl) (by kernel_rfl) ?qm1_5 (Or.inl ⟨?wm1_5, ?ym1_5⟩) (by assumption) ?rm1_5
  case hm1_5 => (simp only [List.getElem?_toArray, List.getElem?_cons_succ, List.getElem?_cons_zero]; rfl)
  case qm1_5 => exact fun _ _ _ h => h
  case wm1_5 => rfl
  case ym1_5 => (intro w hSw; (try dsimp only at hSw); go_simp <;> with_reducible rfl)
  try simp only [Act.put, List.setIfInBounds_toArray, List.set_cons_zero, List.set_cons_succ]
  refine wpAnyH_take (i := 5) (oi := ?oim1_6) (v := ?vm1_6) ?hm1_6 (by kernel_rfl) (by kernel_rfl) (by kernel_rfl) ?qm1_6 (Or.inl ⟨?wm1_6, ?ym1_6⟩) (by assumption) ?rm1_6
  case hm1_6 => (simp only [List.getElem?_toArray, List.getElem?_cons_succ, List.getElem?_cons_zero]; rfl)
  case qm1_6 => exact fun _ _ _ h => h
  case wm1_6 => rfl
  case ym1_6 => (intro w hSw; (try dsimp only at hSw); go_simp <;> with_reducible rfl)
  try simp only [Act.put, List.setIfInBounds_toArray, List.set_cons_zero, List.set_cons_succ]
  refine wpAnyH_take (i := 6) (oi := ?oim1_7) (v := ?vm1_7) ?hm1_7 (by kernel_rfl) (by kernel_rfl) (by kernel_rfl) ?qm1_7 (Or.inl ⟨?wm1_7, ?ym1_7⟩) (by assumption) ?rm1_7
  case hm1_7 => (simp only [List.getElem?_toArray, List.getElem?_cons_succ, List.getElem?_cons_zero]; rfl)
  case qm1_7 => exact fun _ _ _ h => h
  case wm1_7 => rfl
  case ym1_7 => (intro w hSw; (try dsimp only at hSw); go_simp <;> with_reducible rfl)
  try simp only [Act.put, List.setIfInBounds_toArray, List.set_cons_zero, List.set_cons_succ]
  refine wpAnyH_take (i := 7) (oi := ?oim1_8) (v := ?vm1_8) ?hm1_8 (by kernel_rfl) (by kernel_rfl) (by kernel_rfl) ?qm1_8 (Or.inl ⟨?wm1_8, ?ym1_8⟩) (by assumption) ?rm1_8
  case hm1_8 => (simp only [List.getElem?_toArray, List.getElem?_cons_succ, List.getElem?_cons_zero]; rfl)
  case qm1_8 => exact fun _ _ _ h => h
  case wm1_8 => rfl
  case ym1_8 => (intro w hSw; (try dsimp only at hSw); go_simp <;> with_reducible rfl)
  try simp only [Act.put, List.setIfInBounds_toArray, List.set_cons_zero, List.set_cons_succ]
  refine wpAnyH_take (i := 9) (oi := ?oim1_9) (v := ?vm1_9) ?hm1_9 (by kernel_rfl) (by kernel_rfl) (by kernel_rfl) ?qm1_9 (Or.inl ⟨?wm1_9, ?ym1_9⟩) (by assumption) ?rm1_9
  case hm1_9 => (simp only [List.getElem?_toArray, List.getElem?_cons_succ, List.getElem?_cons_zero]; rfl)
  case qm1_9 => exact fun _ _ _ h => h
  case wm1_9 => rfl
  case ym1_9 => (intro w hSw; (try dsimp only at hSw); go_simp <;> with_reducible rfl)
  try simp only [Act.put, List.setIfInBounds_toArray, List.set_cons_zero, List.set_cons_succ]
  refine wpAnyH_take (i := 13) (oi := ?oim1_10) (v := ?vm1_10) ?hm1_10 (by kernel_rfl) (by kernel_rfl) (by kernel_rfl) ?qm1_10 (Or.inl ⟨?wm1_10, ?ym1_10⟩) (by assumption) ?rm1_10
  case hm1_10 => (simp only [List.getElem?_toArray, List.getElem?_cons_succ, List.getElem?_cons_zero]; rfl)
  case qm1_10 => exact fun _ _ _ h => h
  case wm1_10 => rfl
  case ym1_10 => (intro w hSw; (try dsimp only at hSw); go_simp <;> with_reducible rfl)
  try simp only [Act.put, List.setIfInBounds_toArray, List.set_cons_zero, List.set_cons_succ]
  refine wpAnyH_ready (rs := [8]) (by kernel_rfl) (by simp) ?_
  refine AllReadyH.cons (o := ?oim1_11) ?hm1_11 (fun K hK => ?km1_11) ?mm1_11
  case hm1_11 => (simp only [List.getElem?_toArray, List.getElem?_cons_succ, List.getElem?_cons_zero]; rfl)
  case km1_11 =>
    go_simp
    (go_at_call 72); refine (next_any (w.heap.size + 1) A n c bs _ (by first | with_reducible exact draw_bound _ | with_reducible exact draw_bound2 _) _ H2.out.drew.src).mono ?_; rintro e w3 ⟨x3, rfl, hx0, _, _, hs3, hk3⟩; have H3 := Lib.hid (H2.out.drew.step hs3 hk3); clear hs3 hk3 hx0
    refine hK.out _ _ (by (first | exact ⟨z0, z1⟩ | exact ⟨cell_set (cell_set (blk2cells H4.out.box).1 (by simp; omega)) (by simp; omega), cell_set (cell_set (blk2cells H4.out.box).2.1 (by simp; omega)) (by simp; omega)⟩ | exact ⟨(blk2cells H4.out.box).1, (blk2cells H4.out.box).2.1⟩ | exact ⟨(blk2cells H3.out.box).1, (blk2cells H3.out.box).2.1⟩)) (fun hHeld => ?_)
    clear hK K
    try simp only [Act.put, List.setIfInBounds_toArray, List.set_cons_zero, List.set_cons_succ]
    refine wpAnyH_ready (rs := [10]) (by kernel_rfl) (by simp) ?_
    refine AllReadyH.cons (o := ?oim1_12) ?hm1_12 (fun K hK => ?km1_12) ?mm1_12
    case hm1_12 => (simp only [List.getElem?_toArray, List.getElem?_cons_succ, List.getElem?_cons_zero]; rfl)
    case km1_12 =>
      go_simp
      (go_at_call 72); refine (next_any (w.heap.size + 1) A n c bs 24 (by omega) _ H3.out.src).mono ?_; rintro e w4 ⟨x4, rfl, _, _, _, hs4, hk4⟩; have H4 := Lib.hid (H3.out.step hs4 hk4); clear hs4 hk4 y0 y1 fy0 fy1; (obtain ⟨y0, y1, fy0, fy1, _⟩ := blk2cells H4.out.b2)
      refine hK.out _ _ (by (first | exact ⟨z0, z1⟩ | exact ⟨cell_set (cell_set (blk2cells H4.out.box).1 (by simp; omega)) (by simp; omega), cell_set (cell_set (blk2cells H4.out.box).2.1 (by simp; omega)) (by simp; omega)⟩ | exact ⟨(blk2cells H4.out.box).1, (blk2cells H4.out.box).2.1⟩ | exact ⟨(blk2cells H3.out.box).1, (blk2cells H3.out.box).2.1⟩)) (fun hHeld => ?_)
      clear hK K
      try simp only [Act.put, List.setIfInBounds_toArray, List.set_cons_zero, List.set_cons_succ]
      refine wpAnyH_take (i := 11) (oi := ?oim1_13) (v := ?vm1_13) ?hm1_13 (by kernel_rfl) (by kernel_rfl) (by kernel_rfl) ?qm1_13 (Or.inl ⟨?wm1_13, ?ym1_13⟩) (by assumption) ?rm1_13
      case hm1_13 => (simp only [List.getElem?_toArray, List.getElem?_cons_succ, List.getElem?_cons_zero]; rfl)
      case qm1_13 => exact fun _ _ _ h => h
      case wm1_13 => rfl
      case ym1_13 => (intro w hSw; (try dsimp only at hSw); go_simp <;> with_reducible rfl)
      try simp only [Act.put, List.setIfInBounds_toArray, List.set_cons_zero, List.set_cons_succ]
      refine wpAnyH_take (i := 12) (oi := ?oim1_14) (v := ?vm1_14) ?hm1_14 (by kernel_rfl) (by kernel_rfl) (by kernel_rfl) ?qm1_14 (Or.inl ⟨?wm1_14, ?ym1_14⟩) (by assumption) ?rm1_14
      case hm1_14 => (simp only [List.getElem?_toArray, List.getElem?_cons_succ, List.getElem?_cons_zero]; rfl)
      case qm1_14 => exact fun _ _ _ h => h
      case wm1_14 => rfl
      case ym1_14 => (intro w hSw; (try dsimp only at hSw); go_simp <;> with_reducible rfl)
      try simp only [Act.put, List.setIfInBounds_toArray, List.set_cons_zero, List.set_cons_succ]
      refine wpAnyH_take (i := 14) (oi := ?oim1_15) (v := ?vm1_15) ?hm1_15 (by kernel_rfl) (by kernel_rfl) (by kernel_rfl) ?qm1_15 (Or.inl ⟨?wm1_15, ?ym1_15⟩) (by assumption) ?rm1_15
      case hm1_15 => (simp only [List.getElem?_toArray, List.getElem?_cons_succ, List.getElem?_cons_zero]; rfl)
      case qm1_15 => exact fun _ _ _ h => h
      case wm1_15 => rfl
      case ym1_15 => (intro w hSw; (try dsimp only at hSw); go_simp <;> with_reducible rfl)
      try simp only [Act.put, List.setIfInBounds_toArray, List.set_cons_zero, List.set_cons_succ]
      refine wpAnyH_ready (rs := [15]) (by kernel_rfl) (by simp) ?_
      refine AllReadyH.cons (o := ?oim1_16) ?hm1_16 (fun K hK => ?km1_16) ?mm1_16
      case hm1_16 => (simp only [List.getElem?_toArray, List.getElem?_cons_succ, List.getElem?_cons_zero]; rfl)
      case km1_16 =>
        go_simp
        refine hK.out _ _ (by (first | exact ⟨z0, z1⟩ | exact ⟨cell_set (cell_set (blk2cells H4.out.box).1 (by simp; omega)) (by simp; omega), cell_set (cell_set (blk2cells H4.out.box).2.1 (by simp; omega)) (by simp; omega)⟩ | exact ⟨(blk2cells H4.out.box).1, (blk2cells H4.out.box).2.1⟩ | exact ⟨(blk2cells H3.out.box).1, (blk2cells H3.out.box).2.1⟩)) (fun hHeld => ?_)
        clear hK K
        try simp only [Act.put, List.setIfInBounds_toArray, List.set_cons_zero, List.set_cons_succ]
        refine wpAnyH_done (by kernel_rfl) ?_ _
        all_goals go_wp2_with fail
        all_goals
          obtain ⟨f1, f2⟩ := one_endO (u1 := .int .i64 cl) (v1 := .slice A1 xs.length c1) H4.out.own H4.out.b2 (by omega) H4.out.bel
          generalize IntKind.i64.wrap (x3 - IntKind.i64.wrap (x4.tdiv 23)) = zz
          refine bodyPost_ret (v := .tuple #[.int .i64 zz, .agg #[.int .i64 cl, .slice A1 xs.length c1]]) ?_ rfl ⟨cl, A1, c1, xs, zz, rfl, f1, by omega, f2⟩
          simp [results, Tryd.results27, go_sem, y0, y1]
      exact AllReadyH.nil
    exact AllReadyH.nil
  exact AllReadyH.nil
end Go.Proofs.YtjhlmalpcelbaaaDoor
