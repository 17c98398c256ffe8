/- the reference's draws: DrawSumOfSpaces · comparisons of the laws: likeInts, matrix9, big · plain mathematics: reduced rows are in order; a list of rows sorted by pivots is the reduced one · plain mathematics: reduced rows are one for one space; kernels, by both ways · plain mathematics: meets of spaces, by both ways · the reference's l02Kernel · the reference's l02Meet · plain mathematics: dimensions of sums, meets and complements · contracts of slices.SortFunc and cmp.Compare, laid at this dump (printed by lay.sh, turned into a template by mksl.py) · copies, the span's reduced rows, impl.reduced · impl.reduced · modules: what they are (no program in sight) · masks as lists of digits (no program in sight) · vectors, their masks, maps of modules (no program in sight) -/
import Derived.Test.YtjhlmalpcelbaaaDoorBxag
import Derived.Test.YtjhlmalpcelbaaaDoorBxae
import Derived.Test.YtjhlmalpcelbaaaDoorBxac
import Derived.Shelf.SlSortCmp.NoneTotal
import Derived.Test.YtjhlmalpcelbaaaDoorBxaf
import Derived.Shelf.SlicesG.Cmp
import Derived.Test.YtjhlmalpcelbaaaDoorProg
import Derived.Deep.Onto
import Derived.Test.YtjhlmalpcelbaaaDoorBxaa
set_option linter.all false
namespace Go.Proofs.YtjhlmalpcelbaaaDoor
open Go.RowKit

set_option maxRecDepth 100000 in
set_option maxHeartbeats 4000000 in
theorem drawSum_any (A : Option Addr) (n c : Nat) (bs : List Nat) (w : World) (hn : n = bs.length) (hsm : n ≤ 4096) (hby : ∀ b ∈ bs, b < 256) (hR : Rd w A (bv bs)) (hlt : ∀ a, A = some a → a.block < w.heap.size) :
    Calls Tryd.prog 7 #[.slice A n c] w (TwoOut w) := by
  have HTW := Lib.hid (two_any A n c bs ((w.alloc (.cells #[.int .i64 0, .slice none 0 0] 26)).alloc (.cells #[.int .i64 0, .slice none 0 0] 26)) hn hsm hby ((hR.alloc _).alloc _) (fun a ha => by have := hlt a ha; simp; omega))
  have HB0 := Lib.hid (((Below.refl w.heap.size w).alloc (Nat.le_refl _) (.cells #[.int .i64 0, .slice none 0 0] 26)).alloc (by simp) (.cells #[.int .i64 0, .slice none 0 0] 26))
  have HZ2 := Lib.hid (blk_alloc (blk_new w (.cells #[.int .i64 0, .slice none 0 0] 26)) (.cells #[.int .i64 0, .slice none 0 0] 26))
  have HZ3 := Lib.hid (blk_new1 w (.cells #[.int .i64 0, .slice none 0 0] 26) (.cells #[.int .i64 0, .slice none 0 0] 26))
  have HSZ : Hid (((w.alloc (.cells #[.int .i64 0, .slice none 0 0] 26)).alloc (.cells #[.int .i64 0, .slice none 0 0] 26)).heap.size = w.heap.size + 2) := Lib.hid (by simp)
  clear hn hby hR hlt
  go_enter Tryd.func7, Tryd.ntmps7
  go_wp2_with fail
  refine HTW.out.mono ?_
  rintro e w1 ⟨c1, c2, A1, A2, k1, k2, xs, ys, rfl, hr1, hr2, ha1, ha2, hl1, hl2, hb⟩
  have hz2 := (hb.block w.heap.size (by simp; omega)).trans HZ2.out
  have hz3 := (hb.block (w.heap.size + 1) (by simp)).trans HZ3.out
  have HBW := Lib.hid (HB0.out.trans (hb.mono (by simp; omega)))
  have hs1 : w.heap.size + 2 ≤ w1.heap.size := by have := hb.size; rw [HSZ.out] at this; exact this
  rw [HSZ.out] at ha1 ha2
  have HR1 := Lib.hid hr1
  have HR2 := Lib.hid hr2
  have HA1 := Lib.hid ha1
  have HA2 := Lib.hid ha2
  clear hr1 hr2 ha1 ha2 hb HTW HZ2 HZ3 HB0 HSZ
  have HD2 := Lib.hid (blk_alloc (blk_alloc hz2 (.cells #[.int .i64 c1, .slice A1 xs.length k1] 26)) (.cells #[.int .i64 c2, .slice A2 ys.length k2] 26))
  have HD3 := Lib.hid (blk_alloc (blk_alloc hz3 (.cells #[.int .i64 c1, .slice A1 xs.length k1] 26)) (.cells #[.int .i64 c2, .slice A2 ys.length k2] 26))
  obtain ⟨p0, p1, pf0, pf1, pl⟩ := blk2cells HD2.out
  obtain ⟨q0, q1, qf0, qf1, ql⟩ := blk2cells HD3.out
  have HBX := Lib.hid ((HBW.out.alloc (by omega) (.cells #[.int .i64 c1, .slice A1 xs.length k1] 26)).alloc (by simp; omega) (.cells #[.int .i64 c2, .slice A2 ys.length k2] 26))
  have HRX1 := Lib.hid ((HR1.out.alloc (.cells #[.int .i64 c1, .slice A1 xs.length k1] 26)).alloc (.cells #[.int .i64 c2, .slice A2 ys.length k2] 26))
  have HRX2 := Lib.hid ((HR2.out.alloc (.cells #[.int .i64 c1, .slice A1 xs.length k1] 26)).alloc (.cells #[.int .i64 c2, .slice A2 ys.length k2] 26))
  obtain ⟨z0, z1, zf0, zf1, zl⟩ := blk2cells (blk_alloc (blk_new w1 (.cells #[.int .i64 c1, .slice A1 xs.length k1] 26)) (.cells #[.int .i64 c2, .slice A2 ys.length k2] 26))
  obtain ⟨y0, y1, yf0, yf1, yl⟩ := blk2cells (blk_new1 w1 (.cells #[.int .i64 c1, .slice A1 xs.length k1] 26) (.cells #[.int .i64 c2, .slice A2 ys.length k2] 26))
  clear hz2 hz3
  go_wp2_with fail
  have hgw1 : w1.heap.size + 1 < ((w1.alloc (.cells #[.int .i64 c1, .slice A1 xs.length k1] 26)).alloc (.cells #[.int .i64 c2, .slice A2 ys.length k2] 26)).heap.size := yl
  generalize (w1.alloc (.cells #[.int .i64 c1, .slice A1 xs.length k1] 26)).alloc (.cells #[.int .i64 c2, .slice A2 ys.length k2] 26) = wz at *
  generalize w1.heap.size = gz at *
  refine wp_region_held_drew (S := (fun w' => (w'.cell? ⟨gz, 0, none⟩ = some (.int .i64 c1) ∧ w'.cell? ⟨gz, 1, none⟩ = some (.slice A1 xs.length k1)) ∧ (w'.cell? ⟨gz + 1, 0, none⟩ = some (.int .i64 c2) ∧ w'.cell? ⟨gz + 1, 1, none⟩ = some (.slice A2 ys.length k2)))) (by kernel_rfl) (by (first | exact ⟨⟨z0, z1⟩, ⟨y0, y1⟩⟩ | exact ⟨⟨cell_set (cell_set z0 (by simp; omega)) (by simp; omega), cell_set (cell_set z1 (by simp; omega)) (by simp; omega)⟩, ⟨cell_set (cell_set y0 (by simp; omega)) (by simp; omega), cell_set (cell_set y1 (by simp; omega)) (by simp; omega)⟩⟩ | exact ⟨⟨cell_set (cell_set (cell_set (cell_set z0 (by simp; omega)) (by simp; omega)) (by simp; omega)) (by simp; omega), cell_set (cell_set (cell_set (cell_set z1 (by simp; omega)) (by simp; omega)) (by simp; omega)) (by simp; omega)⟩, ⟨cell_set (cell_set (cell_set (cell_set y0 (by simp; omega)) (by simp; omega)) (by simp; omega)) (by simp; omega), cell_set (cell_set (cell_set (cell_set y1 (by simp; omega)) (by simp; omega)) (by simp; omega)) (by simp; omega)⟩⟩)) (fun hHeld => ?_)
  refine wpAnyH_take (i := 0) (oi := ?oim1_1) (v := ?vm1_1) ?hm1_1 (by kernel_rfl) (by kernel_rfl) (by kernel_rfl) ?qm1_1 (Or.inl ⟨?wm1_1, ?ym1_1⟩) (by assumption) ?rm1_1
  case hm1_1 => (simp only [List.getElem?_toArray, List.getElem?_cons_succ, List.getElem?_cons_zero]; rfl)
  case qm1_1 => exact fun _ _ _ h => h
  case wm1_1 => rfl
  case ym1_1 => (intro w hSw; (try dsimp only at hSw); go_simp <;> with_reducible rfl)
  try simp only [Act.put, List.setIfInBounds_toArray, List.set_cons_zero, List.set_cons_succ]
  refine wpAnyH_take (i := 1) (oi := ?oim1_2) (v := ?vm1_2) ?hm1_2 (by kernel_rfl) (by kernel_rfl) (by kernel_rfl) ?qm1_2 (Or.inl ⟨?wm1_2, ?ym1_2⟩) (by assumption) ?rm1_2
  case hm1_2 => (simp only [List.getElem?_toArray, List.getElem?_cons_succ, List.getElem?_cons_zero]; rfl)
  case qm1_2 => exact fun _ _ _ h => h
  case wm1_2 => rfl
  case ym1_2 => (intro w hSw; (try dsimp only at hSw); go_simp <;> with_reducible rfl)
  try simp only [Act.put, List.setIfInBounds_toArray, List.set_cons_zero, List.set_cons_succ]
  refine wpAnyH_ready (rs := [2]) (by kernel_rfl) (by simp) ?_
  refine AllReadyH.cons (o := ?oim1_3) ?hm1_3 (fun K hK => ?km1_3) ?mm1_3
  case hm1_3 => (simp only [List.getElem?_toArray, List.getElem?_cons_succ, List.getElem?_cons_zero]; rfl)
  case km1_3 =>
    go_simp
    refine hK.out _ _ (by (first | exact ⟨⟨z0, z1⟩, ⟨y0, y1⟩⟩ | exact ⟨⟨cell_set (cell_set z0 (by simp; omega)) (by simp; omega), cell_set (cell_set z1 (by simp; omega)) (by simp; omega)⟩, ⟨cell_set (cell_set y0 (by simp; omega)) (by simp; omega), cell_set (cell_set y1 (by simp; omega)) (by simp; omega)⟩⟩ | exact ⟨⟨cell_set (cell_set (cell_set (cell_set z0 (by simp; omega)) (by simp; omega)) (by simp; omega)) (by simp; omega), cell_set (cell_set (cell_set (cell_set z1 (by simp; omega)) (by simp; omega)) (by simp; omega)) (by simp; omega)⟩, ⟨cell_set (cell_set (cell_set (cell_set y0 (by simp; omega)) (by simp; omega)) (by simp; omega)) (by simp; omega), cell_set (cell_set (cell_set (cell_set y1 (by simp; omega)) (by simp; omega)) (by simp; omega)) (by simp; omega)⟩⟩)) (fun hHeld => ?_)
    clear hK K
    try simp only [Act.put, List.setIfInBounds_toArray, List.set_cons_zero, List.set_cons_succ]
    refine wpAnyH_ready (rs := [3]) (by kernel_rfl) (by simp) ?_
    refine AllReadyH.cons (o := ?oim1_4) ?hm1_4 (fun K hK => ?km1_4) ?mm1_4
    case hm1_4 => (simp only [List.getElem?_toArray, List.getElem?_cons_succ, List.getElem?_cons_zero]; rfl)
    case km1_4 =>
      go_simp
      refine hK.out _ _ (by (first | exact ⟨⟨z0, z1⟩, ⟨y0, y1⟩⟩ | exact ⟨⟨cell_set (cell_set z0 (by simp; omega)) (by simp; omega), cell_set (cell_set z1 (by simp; omega)) (by simp; omega)⟩, ⟨cell_set (cell_set y0 (by simp; omega)) (by simp; omega), cell_set (cell_set y1 (by simp; omega)) (by simp; omega)⟩⟩ | exact ⟨⟨cell_set (cell_set (cell_set (cell_set z0 (by simp; omega)) (by simp; omega)) (by simp; omega)) (by simp; omega), cell_set (cell_set (cell_set (cell_set z1 (by simp; omega)) (by simp; omega)) (by simp; omega)) (by simp; omega)⟩, ⟨cell_set (cell_set (cell_set (cell_set y0 (by simp; omega)) (by simp; omega)) (by simp; omega)) (by simp; omega), cell_set (cell_set (cell_set (cell_set y1 (by simp; omega)) (by simp; omega)) (by simp; omega)) (by simp; omega)⟩⟩)) (fun hHeld => ?_)
      clear hK K
      try simp only [Act.put, List.setIfInBounds_toArray, List.set_cons_zero, List.set_cons_succ]
      refine wpAnyH_done (by kernel_rfl) ?_ _
      go_wp2_with fail
      obtain ⟨f1, f2, f3⟩ := two_endR (u1 := .int .i64 c1) (v1 := .slice A1 xs.length k1) (u2 := .int .i64 c2) (v2 := .slice A2 ys.length k2) HRX1.out HRX2.out HA1.out HA2.out HBX.out
      refine bodyPost_ret (v := .tuple #[.agg #[.int .i64 c1, .slice A1 xs.length k1], .agg #[.int .i64 c2, .slice A2 ys.length k2]]) ?_ rfl ⟨c1, c2, A1, A2, k1, k2, xs, ys, rfl, f1, f2, (fun a ha => by have := HA1.out a ha; omega), (fun a ha => by have := HA2.out a ha; omega), by omega, by omega, f3.drew⟩
      simp [results, Tryd.results7, go_sem, p0, p1, q0, q1]
    exact AllReadyH.nil
  exact AllReadyH.nil
end Go.Proofs.YtjhlmalpcelbaaaDoor

namespace Go.Proofs.YtjhlmalpcelbaaaDoor
open Go.RowKit

set_option maxHeartbeats 1000000 in
theorem likeInts_any (A A' : Option Addr) (n n' c c' : Nat) (xs ys : List Int) (w : World) (hn : n = xs.length) (hn' : n' = ys.length) (hsm : n ≤ 1099511627776) (hsm' : n' ≤ 1099511627776) (hR : Rd w A (iv xs)) (hR' : Rd w A' (iv ys)) :
    Calls Tryd.prog 15 #[.slice A n c, .slice A' n' c'] w fun e w' => e = .returned (.bool (eqI xs ys)) ∧ ∃ m, w.drewN m = w' := by
  by_cases hl : n = n'
  · subst hl
    have Hn := Lib.hid hn
    have Hn' := Lib.hid hn'
    clear hn hn'
    go_enter Tryd.func15, Tryd.ntmps15
    go_wp2_with fail
    go_loopw [5] (fun i wr => ∃ k : Nat, k ≤ n ∧ i = .int .i64 k ∧ (∃ m, wr = w.drewN m) ∧ xs.take k = ys.take k) (fun i _ => n - (intOf i).toNat)
    case atStart => exact ⟨0, by omega, rfl, ⟨0, rfl⟩, by simp⟩
    case round =>
      obtain ⟨k, hk, rfl, ⟨m, rfl⟩, hp⟩ := hrel
      have HP := Lib.hid hp; clear hp
      by_cases hlt : k < n
      · have hkL : k < xs.length := by rw [← Hn.out]; exact hlt
        have hkL' : k < ys.length := by rw [← Hn'.out]; exact hlt
        obtain ⟨b, o, rfl, hc⟩ := hR.atI hkL
        obtain ⟨b', o', rfl, hc'⟩ := hR'.atI hkL'
        have hx : xs[k] = xs.getD k 0 := by simp [List.getD, hkL]
        have hy : ys[k] = ys.getD k 0 := by simp [List.getD, hkL']
        have HX := Lib.hid hx; have HY := Lib.hid hy; clear hx hy hR hR'
        generalize xs.getD k 0 = x at *
        generalize ys.getD k 0 = y at *
        by_cases hxy : x = y
        · subst hxy
          go_wp2_with fail
          go_quiet (fail)
          go_wp2_with fail
          go_roundw
          case rel => exact ⟨k + 1, by omega, by go_num, ⟨_, rfl⟩, by rw [List.take_succ_eq_append_getElem hkL, List.take_succ_eq_append_getElem hkL', HP.out, HX.out, HY.out]⟩
          case measure => simp [intOf]; omega
        · have hb : (x != y) = true := by simpa using hxy
          have HXY := Lib.hid hxy; clear hxy
          go_wp2_with fail
          go_quiet (fail)
          go_wp2_with fail
          go_ret
          have e : eqI xs ys = false := by
            unfold eqI
            rw [beq_eq_false_iff_ne]
            intro e; subst e
            exact HXY.out (HX.out.symm.trans HY.out)
          exact ⟨by rw [e]; rfl, m + nq, by rw [World.drewN_drewN]⟩
      · have ek : xs.take k = xs := List.take_of_length_le (by rw [← Hn.out]; omega)
        have ek' : ys.take k = ys := List.take_of_length_le (by rw [← Hn'.out]; omega)
        have e : eqI xs ys = true := by
          unfold eqI; rw [beq_iff_eq, ← ek, ← ek']; exact HP.out
        have HE := Lib.hid e; clear e ek ek'
        go_wp2_with fail
        go_ret
        exact ⟨by rw [HE.out]; rfl, m, rfl⟩
  · have e : eqI xs ys = false := by
      unfold eqI; rw [beq_eq_false_iff_ne]; intro e; subst e; omega
    have hb : ((n : Int) != (n' : Int)) = true := by simp; omega
    have HE := Lib.hid e; clear e hn hn' hl hR hR'
    go_enter Tryd.func15, Tryd.ntmps15
    go_wp2_with fail
    go_ret
    exact ⟨by rw [HE.out]; rfl, 0, rfl⟩
set_option maxHeartbeats 1000000 in
theorem matrix9_any (c c' : Int) (A A' : Option Addr) (n n' cap cap' : Nat) (xs ys : List Int) (w : World) (hn : n = xs.length) (hn' : n' = ys.length) (hsm : n ≤ 1099511627776) (hsm' : n' ≤ 1099511627776) (hR : Rd w A (iv xs)) (hR' : Rd w A' (iv ys)) :
    Calls Tryd.prog 10 #[.agg #[.int .i64 c, .slice A n cap], .agg #[.int .i64 c', .slice A' n' cap']] w fun e w' => e = .returned (.bool (eqMat c xs c' ys)) ∧ Below w.heap.size w w' := by
  have hb1 := blk2cells (blk_alloc (blk_new w (.cells #[.int .i64 c, .slice A n cap] 26)) (.cells #[.int .i64 c', .slice A' n' cap'] 26))
  have hb2 := blk2cells (blk_new1 w (.cells #[.int .i64 c, .slice A n cap] 26) (.cells #[.int .i64 c', .slice A' n' cap'] 26))
  have he := likeInts_any A A' n n' cap cap' xs ys ((w.alloc (.cells #[.int .i64 c, .slice A n cap] 26)).alloc (.cells #[.int .i64 c', .slice A' n' cap'] 26)) hn hn' hsm hsm' ((hR.alloc _).alloc _) ((hR'.alloc _).alloc _)
  obtain ⟨x0, x1, _, _, _⟩ := hb1
  obtain ⟨y0, y1, _, _, _⟩ := hb2
  by_cases hc : c = c'
  · subst hc
    have e : eqMat c xs c ys = eqI xs ys := by simp [eqMat]
    have HE := Lib.hid e
    have HQ := Lib.hid he
    clear e he hR hR' hn hn'
    cases hq : eqI xs ys
    all_goals
      rw [hq] at HQ HE
      go_enter Tryd.func10, Tryd.ntmps10
      go_wp2_with (go_at_call 15; refine HQ.out.mono ?_; rintro e w' ⟨rfl, m, rfl⟩)
      go_ret
      exact ⟨by rw [HE.out]; rfl, below_drewN (((Below.refl _ _).alloc (Nat.le_refl _) _).alloc (by simp) _) m⟩
  · have e : eqMat c xs c' ys = false := by simp [eqMat, hc]
    have hb : (c == c') = false := by simpa using hc
    have HE := Lib.hid e
    clear e he hR hR' hn hn' hc
    go_enter Tryd.func10, Tryd.ntmps10
    go_wp2_with fail
    go_ret
    exact ⟨by rw [HE.out]; rfl, ((Below.refl _ _).alloc (Nat.le_refl _) _).alloc (by simp) _⟩


theorem big_any (A : Option Addr) (n c : Nat) (w : World) : Calls Tryd.prog 6 #[.slice A n c] w fun e w' => e = .returned (.bool (decide (4096 < n))) ∧ w = w' := by
  by_cases h : 4096 < n
  · have hi : (4096 : Int) < (n : Int) := by omega
    have HE : Hid (decide (4096 < n) = true) := Lib.hid (by simpa using h)
    clear h
    go_enter Tryd.func6, Tryd.ntmps6
    go_wp2_with fail
    go_ret
    exact ⟨by rw [HE.out]; rfl, rfl⟩
  · have hi : ¬ (4096 : Int) < (n : Int) := by omega
    have HE : Hid (decide (4096 < n) = false) := Lib.hid (by simpa using h)
    clear h
    go_enter Tryd.func6, Tryd.ntmps6
    go_wp2_with fail
    go_ret
    exact ⟨by rw [HE.out]; rfl, rfl⟩
end Go.Proofs.YtjhlmalpcelbaaaDoor

namespace Go.Proofs.YtjhlmalpcelbaaaDoor
open Go.RowKit

/-! ### rows under slices.SortFunc -/
/-- a mask that has a pivot -/
def PM := { x : Nat // x ≠ 0 ∧ Sm x }
instance : Inhabited PM := ⟨⟨1, by decide, Sm.one⟩⟩
def encP (x : PM) : Value := .int .i64 (x.1 : Int)
def cfP (x y : PM) : Int := Lib.compareInt ((pv x.1 : Nat) : Int) ((pv y.1 : Nat) : Int)
theorem ltP (x y : PM) : ltOf cfP x y = decide (pv x.1 < pv y.1) := by
  unfold ltOf cfP Lib.compareInt
  by_cases h1 : pv x.1 < pv y.1
  · simp [h1]
  · by_cases h2 : pv y.1 < pv x.1 <;> simp [h1, h2]
theorem swoP : Sort.SWO (ltOf cfP) where
  irrefl x := by rw [ltP]; simp
  trans x y z h1 h2 := by rw [ltP] at *; simp at *; omega
  ntrans x y z h1 h2 := by rw [ltP] at *; simp at *; omega
def pms : (S : List Nat) → (∀ r ∈ S, r ≠ 0 ∧ Sm r) → List PM
  | [], _ => []
  | r :: S, h => ⟨r, h r (List.mem_cons_self ..)⟩ :: pms S (fun s hs => h s (List.mem_cons_of_mem _ hs))
theorem pms_val : ∀ (S : List Nat) (h : ∀ r ∈ S, r ≠ 0 ∧ Sm r), (pms S h).map (·.1) = S
  | [], _ => rfl
  | r :: S, _ => congrArg (r :: ·) (pms_val S _)
theorem enc_val (L : List PM) : L.map encP = nv (L.map (·.1)) := by simp [nv, encP, List.map_map, Function.comp_def]
/-- what the sort leaves is the reduced list -/
theorem sorted_pm {S T : List Nat} {d d' : Array PM} (hS : Red S) (hd : d.toList.map (·.1) = S) (hp : Sort.PermIn 0 d.size d d') (hs : Sort.SortedIn (ltOf cfP) 0 d.size d') (hT : Asc T) (hST : S.Perm T) : d'.toList.map (·.1) = T := by
  obtain ⟨hsz, _, hpm⟩ := hp
  have e1 : (d'.extract 0 d.size).toList = d'.toList := by rw [← hsz]; simp
  have e2 : (d.extract 0 d.size).toList = d.toList := by simp
  rw [e1, e2] at hpm
  have hp1 : (d'.toList.map (·.1)).Perm S := by rw [← hd]; exact hpm.map _
  have hr : Red (d'.toList.map (·.1)) := hS.perm hp1.symm
  refine asc_unique ?_ hT (hp1.trans hST)
  have hnd := hr.off
  rw [List.pairwise_map] at hnd
  unfold Asc
  rw [List.pairwise_map]
  rw [List.pairwise_iff_getElem] at hnd ⊢
  intro i j hi hj hij
  have hne : pv (d'.toList[i]).1 ≠ pv (d'.toList[j]).1 := fun e => by
    have h1 := (hnd i j hi hj hij).1
    have h2 := (d'.toList[i]).2
    rw [← e, tb_pv h2.1 h2.2] at h1; cases h1
  have hlt := hs i j (Nat.zero_le _) hij (by rw [← hsz]; simpa using hj)
  rw [ltP] at hlt
  simp only [Array.length_toList] at hi hj
  rw [getElem!_pos d' j hj, getElem!_pos d' i hi] at hlt
  simp only [Array.getElem_toList] at hne ⊢
  simp at hlt
  omega

/-- a row of the call's own behind the sort -/
theorem sort_own {w : World} {B n cap g q : Nat} {e : TypeId} {xs : List Value} {os : Array Obj} (h : w.ownsRow B e 1 (.slice (some ⟨g, 0, none⟩) n cap) n xs) (d : Array PM) (hd : d.size = n) :
    (sortWorld encP w g 0 q d os).ownsRow B e 1 (.slice (some ⟨g, 0, none⟩) n cap) n (d.toList.map encP) ∧ Keeps w (sortWorld encP w g 0 q d os) [some g] := by
  rcases h.2 with ⟨h0, _⟩ | ⟨g', cap', cur, hv, hb, hg, hc, hm, hs, ht⟩
  · cases h0
  · injection hv with hA _ hcap
    injection hA with hA; injection hA with hA
    subst hA; subst hcap
    have hlt := (Array.getElem?_eq_some_iff.1 hg).1
    have hmod : ∀ k, k < w.heap.size → (sortWorld encP w g 0 q d os).heap[k]? = (w.heap.modify g (Sort.onCells (Sort.putCells encP 0 d)))[k]? := by
      intro k hk
      show ((w.heap.modify g (Sort.onCells (Sort.putCells encP 0 d))) ++ os)[k]? = _
      rw [Array.getElem?_append_left (by simpa using hk)]
    constructor
    · refine ⟨by simp [hd], .inr ⟨g, cap, Sort.putCells encP 0 d cur, rfl, hb, ?_, hc, hm, by simpa [Sort.putCells] using hs, ?_⟩⟩
      · rw [hmod g hlt, Array.getElem?_modify, if_pos rfl, hg]; rfl
      · apply List.ext_getElem?
        intro i
        rw [List.getElem?_take]
        by_cases hi : i < n * 1
        · rw [if_pos hi]
          have hi' : i < d.size := by omega
          have hic : i < cur.size := by omega
          simp only [Sort.putCells, Array.getElem?_toList, Array.getElem?_mapIdx, List.getElem?_map]
          rw [Array.getElem?_eq_getElem hic, Array.getElem?_eq_getElem hi']
          simp only [Option.map_some, Nat.zero_le, true_and, Nat.zero_add, Nat.sub_zero, if_pos hi']
          rw [getElem!_pos d i hi']
        · rw [if_neg hi, List.getElem?_eq_none (by simp; omega)]
    · refine ⟨rfl, rfl, rfl, ?_, ?_⟩
      · show w.heap.size ≤ ((w.heap.modify g (Sort.onCells (Sort.putCells encP 0 d))) ++ os).size
        simp
      · intro k hk hn
        rw [hmod k hk, Array.getElem?_modify, if_neg (fun e => hn (by simp [e]))]
theorem sort_holds {w : World} {B n cap g : Nat} {e : TypeId} {S : List Nat} (hS : ∀ r ∈ S, r ≠ 0 ∧ Sm r) (h : w.ownsRow B e 1 (.slice (some ⟨g, 0, none⟩) n cap) n (nv S)) :
    Sort.Holds encP w g 0 (pms S hS).toArray ∧ (pms S hS).toArray.size = n := by
  have hl : (pms S hS).length = S.length := by have := congrArg List.length (pms_val S hS); simpa using this
  have hn := h.1
  rw [nv_length] at hn
  refine ⟨fun j hj => ?_, by simp [hl]; omega⟩
  have hj' : j < S.length := by rw [← hl]; simpa using hj
  refine ⟨?_, ?_⟩
  · have h1 := h.cells rfl j (encP (pms S hS)[j]!) (by
      have e : nv S = (pms S hS).map encP := by rw [enc_val, pms_val]
      rw [e, List.getElem?_map, List.getElem?_eq_getElem (by omega)]
      rw [getElem!_pos (pms S hS) j (by omega)]; rfl)
    rw [Addr.add_lit] at h1
    rw [h1]
    congr 1
    rw [getElem!_pos _ j (by omega), getElem!_pos _ j hj]
    simp
  · rw [Nat.zero_add]; exact h.frozenAt j
end Go.Proofs.YtjhlmalpcelbaaaDoor

namespace Go.Proofs.YtjhlmalpcelbaaaDoor
end Go.Proofs.YtjhlmalpcelbaaaDoor

namespace Go.Proofs.YtjhlmalpcelbaaaDoor
end Go.Proofs.YtjhlmalpcelbaaaDoor

namespace Go.Proofs.YtjhlmalpcelbaaaDoor
open Go.RowKit

def kerK (S : List Nat) (k : Nat) : List Nat := kerOut (fun k => solK S k) S k
theorem kerK_succ (S : List Nat) (k : Nat) : kerK S (k + 1) = kerStep (solK S k) (S.getD k 0, 2 ^ k) (kerK S k) := rfl
theorem kerK_all {S : List Nat} : kerK S S.length = kerOut (fun k => growAll ((us 0 S).take k)) S S.length := rfl

theorem apart_ne2 {v : Value} {g' c' n' : Nat} (h : v.ownBlock = none ∨ v.ownBlock ≠ some g') : v.ownBlock ≠ (Value.slice (some ⟨g', 0, none⟩) n' c').ownBlock := by
  rcases h with h | h
  · rw [h]; intro e; cases e
  · exact h
attribute [local go_sem] i64_xor_nat and_pw_ne in
set_option maxRecDepth 100000 in
set_option maxHeartbeats 2000000 in
theorem l02Kernel_any (A : Option Addr) (n c : Nat) (S : List Nat) (w : World) (hn : n = S.length) (hsmall : n ≤ 60) (hS : ∀ r ∈ S, Sm r) (hR : Rd w A (nv S)) :
    Calls Tryd.prog 85 #[.slice A n c] w fun e w' => ∃ v, e = .returned v ∧ w'.ownsRow w.heap.size 2 1 v (reduceS (kerK S S.length)).length (nv (reduceS (kerK S S.length))) ∧ Below w.heap.size w w' := by
  have Hn := Lib.hid hn
  have HR := Lib.hid hR
  have HG := Lib.hid (fun k => solK_good hS (by omega) k)
  have HKS := Lib.hid ((kerG_sol hS).sm (by omega))
  have HS := Lib.hid hS
  clear hn hR hS
  go_enter Tryd.func85, Tryd.ntmps85
  go_wp2_with fail
  go_loopw [3, 4, 5, 6] (fun d s o i wr => ∃ k : Nat, k ≤ n ∧ i = .int .i64 k ∧ wr.ownsRow w.heap.size 2 1 d (solK S k).length (nv (r1 (solK S k))) ∧ wr.ownsRow w.heap.size 2 1 s (solK S k).length (nv (r2 (solK S k))) ∧ wr.ownsRow w.heap.size 2 1 o (kerK S k).length (nv (kerK S k)) ∧ (d.ownBlock ≠ s.ownBlock ∧ d.ownBlock ≠ o.ownBlock ∧ s.ownBlock ≠ o.ownBlock) ∧ Below w.heap.size w wr) (fun _ _ _ i _ => n - (intOf i).toNat)
  case atStart =>
    refine ⟨0, by omega, rfl, ?_, ?_, ?_, by simp [Value.ownBlock]; omega, (((Below.refl _ _).alloc (Nat.le_refl _) _).alloc (by simp) _).alloc (by simp; omega) _⟩
    · exact ((World.ownsRow_made w #[] 0 (Nat.le_refl _) (by decide) (by simp)).alloc _).alloc _
    · have := World.ownsRow_made (w.alloc (.cells #[] 2)) #[] 0 (base := w.heap.size) (e := 2) (size := 1) (by simp) (by decide) (by simp)
      rw [World.size_alloc] at this
      exact this.alloc _
    · have := World.ownsRow_made ((w.alloc (.cells #[] 2)).alloc (.cells #[] 2)) #[] 0 (base := w.heap.size) (e := 2) (size := 1) (by simp; omega) (by decide) (by simp)
      simp only [World.size_alloc] at this
      exact this
  case round =>
    obtain ⟨k, hk, rfl, hod, hos, hoo, ⟨hds, hdo, hso⟩, hbel⟩ := hrel
    have hsz : w.heap.size ≤ wr.heap.size := hbel.size
    have hko := kerOut_length (fun k => solK S k) S k
    change (kerK S k).length ≤ k at hko
    by_cases hlt : k < n
    · have hkL : k < S.length := by rw [← Hn.out]; exact hlt
      obtain ⟨b, o, rfl, hc⟩ := (HR.out.below hbel).atN hkL
      have hx := HS.out _ (getD_mem hkL)
      have Hs := Lib.hid (solK_succ hkL)
      have Hk := Lib.hid (kerK_succ S k)
      have hg := HG.out k
      have hl := solK_length S k (by omega)
      have hp2 : Sm (2 ^ k) := by
        have := pw_sm (p := k) (by omega); exact this
      generalize solK S k = L at *
      generalize kerK S k = O at *
      generalize S.getD k 0 = x at *
      obtain ⟨D, cd, rfl, _, hD, _⟩ := owns_shape hod
      obtain ⟨E, ce, rfl, _, hE, _⟩ := owns_shape hos
      obtain ⟨F, cf, rfl, _, hF, _⟩ := owns_shape hoo
      have HOD := Lib.hid hod
      have HOS := Lib.hid hos
      have HOO := Lib.hid hoo
      have HDS := Lib.hid hds
      have HDO := Lib.hid hdo
      have HSO := Lib.hid hso
      have HB := Lib.hid hbel
      have HRD := Lib.hid (owns_Rd hod)
      have HRE := Lib.hid (owns_Rd hos)
      clear hod hos hoo hds hdo hso hbel hD hE hF
      go_wp2_with fail
      go_loop [7, 8, 9] (fun a b j => ∃ i : Nat, i ≤ L.length ∧ j = .int .i64 i ∧ a = .int .i64 (leftN (L.take i) (x, 2 ^ k)).1 ∧ b = .int .i64 (leftN (L.take i) (x, 2 ^ k)).2) (fun _ _ j => L.length - (intOf j).toNat)
      case atStart =>
        exact ⟨0, by omega, rfl, rfl, congrArg (Value.int .i64) (shl_one (by omega))⟩
      case round =>
        obtain ⟨i, hi, rfl, rfl, rfl⟩ := hrel
        by_cases hlt2 : i < L.length
        · obtain ⟨b1, o1, rfl, hc1⟩ := HRD.out.atN (k := i) (by rw [r1_length]; exact hlt2)
          obtain ⟨b2, o2, rfl, hc2⟩ := HRE.out.atN (k := i) (by rw [r2_length]; exact hlt2)
          rw [r1_getD] at hc1; rw [r2_getD] at hc2
          obtain ⟨g0, g1, g2⟩ := hg.at_ hlt2
          have Hi := Lib.hid (fold_take_succ leftStep (x, 2 ^ k) L i (0, 0) hlt2)
          have hq : SmP (leftN (L.take i) (x, 2 ^ k)) := SmP.foldl (hg.take i) ⟨hx, hp2⟩
          obtain ⟨q1, q2⟩ := hq
          have hpv := pv_le g0 g1
          generalize hP : leftN (L.take i) (x, 2 ^ k) = p at *
          generalize hR' : L.getD i (0, 0) = r at *
          have HP := Lib.hid hP; clear hP
          have HR' := Lib.hid hR'; clear hR' hg
          have HL := Lib.hid (fun W => low_any r.1 g0 g1 W)
          cases hb : tb p.1 (pv r.1)
          all_goals
            go_wp2_with (go_at_call 94; refine (HL.out _).mono ?_; rintro e w' ⟨rfl, rfl⟩)
            go_round
            case rel => exact ⟨i + 1, by omega, by go_num, by unfold leftN at *; rw [Hi.out, HP.out]; simp [leftStep, hb], by unfold leftN at *; rw [Hi.out, HP.out]; simp [leftStep, hb]⟩
            case measure => simp [intOf]; omega
        · have ei : L.take i = L := List.take_of_length_le (by omega)
          rw [ei]
          have hq : SmP (leftN L (x, 2 ^ k)) := SmP.foldl hg ⟨hx, hp2⟩
          have hgr := grow_cases L (x, 2 ^ k)
          have hks : kerStep L (x, 2 ^ k) O = if (leftN L (x, 2 ^ k)).1 = 0 then O ++ [(leftN L (x, 2 ^ k)).2] else O := rfl
          obtain ⟨q1, q2⟩ := hq
          generalize leftN L (x, 2 ^ k) = q at *
          rcases hgr with ⟨hgr, h0⟩ | ⟨hgr, h0⟩
          · rw [if_pos h0] at hks
            have HGR := Lib.hid hgr
            have HKS' := Lib.hid hks
            clear hgr hks
            rw [h0]
            go_wp2_with (at_builtin; refine wpList_app1 _ _ _ _ _ etI (by rfl) (by rfl) w.heap.size (.slice F O.length cf) O.length (nv O) (by rfl) ?_ _ (.int .i64 (q.2 : Int)) (by rfl) ?_ (by rfl) ?_ ?_ ?_; exact HOO.out.alloc _; exact new_cell _ _ _; omega; (simp; omega); (intro g1' cap1 w1 hown1 hgrow1 hat1 hlt1; obtain ⟨t1, t2⟩ := own_other_app HOD.out (.inr HDO.out) hgrow1 hat1; obtain ⟨t3, t4⟩ := own_other_app HOS.out (.inr HSO.out) hgrow1 hat1; have HB1 := Lib.hid (below_app HB.out hsz HOO.out hgrow1); have HO1 : Hid (w1.ownsRow w.heap.size 2 1 (.slice (some ⟨g1', 0, none⟩) (O.length + 1) cap1) (O.length + 1) (nv (O ++ [q.2]))) := (by rw [← nv_snoc]; exact hown1); have HT1 := Lib.hid t1; have HT2 := Lib.hid (apart_ne2 (n' := O.length + 1) (c' := cap1) t2); have HT3 := Lib.hid t3; have HT4 := Lib.hid (apart_ne2 (n' := O.length + 1) (c' := cap1) t4); clear hown1 hgrow1 hat1 hlt1 t1 t2 t3 t4))
            go_roundw
            case rel => exact ⟨k + 1, by omega, by go_num, by rw [Hs.out, HGR.out]; exact HT1.out, by rw [Hs.out, HGR.out]; exact HT3.out, by rw [Hk.out, HKS'.out]; exact own_cast HO1.out (by simp) rfl, ⟨HDS.out, HT2.out, HT4.out⟩, HB1.out⟩
            case measure => simp [intOf]; omega
          · rw [if_neg h0] at hks
            have HGR := Lib.hid hgr
            have HKS' := Lib.hid hks
            have hne0 : ((q.1 : Int) == 0) = false := by simpa using h0
            clear hgr hks
            go_wp2_with (first | (at_builtin; refine wpList_app1 _ _ _ _ _ etI (by rfl) (by rfl) w.heap.size (.slice D L.length cd) L.length (nv (r1 L)) (by rfl) ?_ _ (.int .i64 (q.1 : Int)) (by rfl) ?_ (by rfl) ?_ ?_ ?_; exact HOD.out.alloc _; exact new_cell _ _ _; omega; (simp; omega); (intro g1' cap1 w1 hown1 hgrow1 hat1 hlt1; obtain ⟨t1, t2⟩ := own_other_app HOS.out (.inr HDS.out.symm) hgrow1 hat1; obtain ⟨t3, t4⟩ := own_other_app HOO.out (.inr HDO.out.symm) hgrow1 hat1; have HB1 := Lib.hid (below_app HB.out hsz HOD.out hgrow1); have hsz1 : w.heap.size ≤ w1.heap.size := HB1.out.size; have HO1 : Hid (w1.ownsRow w.heap.size 2 1 (.slice (some ⟨g1', 0, none⟩) (L.length + 1) cap1) (L.length + 1) (nv (r1 (L ++ [q])))) := (by show Go.World.ownsRow _ _ _ _ _ _ _; rw [show r1 (L ++ [q]) = r1 L ++ [q.1] by simp [r1], ← nv_snoc]; exact hown1); have HT1 := Lib.hid t1; have HT2 := Lib.hid t2; have HT3 := Lib.hid t3; have HT4 := Lib.hid (apart_ne2 (n' := L.length + 1) (c' := cap1) t4); clear hown1 hgrow1 hat1 hlt1 t1 t2 t3 t4)) | (at_builtin; refine wpList_app1 _ _ _ _ _ etI (by rfl) (by rfl) w.heap.size (.slice E L.length ce) L.length (nv (r2 L)) (by rfl) ?_ _ (.int .i64 (q.2 : Int)) (by rfl) ?_ (by rfl) ?_ ?_ ?_; exact HT1.out.alloc _; exact new_cell _ _ _; omega; (simp; omega); (intro g2' cap2 w2 hown2 hgrow2 hat2 hlt2; obtain ⟨t1, t2⟩ := own_other_app HO1.out (apart_some HT2.out) hgrow2 hat2; obtain ⟨t3, t4⟩ := own_other_app HT3.out (.inr HSO.out.symm) hgrow2 hat2; have HB2 := Lib.hid (below_app HB1.out hsz1 HT1.out hgrow2); have HO2 : Hid (w2.ownsRow w.heap.size 2 1 (.slice (some ⟨g2', 0, none⟩) (L.length + 1) cap2) (L.length + 1) (nv (r2 (L ++ [q])))) := (by show Go.World.ownsRow _ _ _ _ _ _ _; rw [show r2 (L ++ [q]) = r2 L ++ [q.2] by simp [r2], ← nv_snoc]; exact hown2); have HU1 := Lib.hid t1; have HU2 := Lib.hid (apart_ne (n' := L.length + 1) (c' := cap2) t2); have HU3 := Lib.hid t3; have HU4 := Lib.hid (apart_ne2 (n' := L.length + 1) (c' := cap2) t4); clear hown2 hgrow2 hat2 hlt2 t1 t2 t3 t4)))
            go_roundw
            case rel => exact ⟨k + 1, by omega, by go_num, by rw [Hs.out, HGR.out]; exact own_cast HU1.out (by simp) rfl, by rw [Hs.out, HGR.out]; exact own_cast HO2.out (by simp) rfl, by rw [Hk.out, HKS'.out]; exact HU3.out, ⟨HU2.out, HT4.out.symm, HU4.out.symm⟩, HB2.out⟩
            case measure => simp [intOf]; omega
    · have ek : k = S.length := by rw [← Hn.out]; omega
      subst ek
      obtain ⟨F, cf, rfl, _, hF, _⟩ := owns_shape hoo
      have hr := reduce_any F (kerK S S.length).length cf (kerK S S.length) wr rfl (by omega) HKS.out (owns_Rd hoo)
      have HRR := Lib.hid hr
      have HB := Lib.hid hbel
      clear hod hos hoo hds hdo hso hbel hF hr
      go_wp2_with fail
      refine HRR.out.mono ?_
      rintro e w2 ⟨v, rfl, ho, hb⟩
      have HO2 := Lib.hid ho
      have HB2 := Lib.hid hb
      clear ho hb
      go_wp2_with fail
      go_ret
      exact ⟨v, rfl, HO2.out.mono hsz, HB.out.trans (HB2.out.mono hsz)⟩
end Go.Proofs.YtjhlmalpcelbaaaDoor

namespace Go.Proofs.YtjhlmalpcelbaaaDoor
open Go.RowKit

theorem gp_length (ps : List (Nat × Nat)) : ∀ k, k ≤ ps.length → (gp ps k).length ≤ k := by
  intro k
  induction k with
  | zero => intro _; simp [gp, growAll]
  | succ k ih => intro h; rw [gp_succ (by omega)]; have := growL_length (gp ps k) (ps.getD k (0, 0)); have := ih (by omega); omega
theorem gp_good {ps : List (Nat × Nat)} (h : ∀ p ∈ ps, SmP p) (k : Nat) : Good (gp ps k) := by
  have h1 : ∀ p ∈ ps.take k, SmP p := fun p hp => h p (List.mem_of_mem_take hp)
  have he : Ech (r1 (gp ps k)) := grow_ech_all _ [] ⟨by simp [r1], by simp [r1]⟩ fun p hp => (h1 p hp).1
  have hs := grow_all (P := SmP) smp_left _ [] h1 (by simp)
  intro r hr
  exact ⟨(he.ne r.1 (List.mem_map_of_mem hr)).1, hs r hr⟩

attribute [local go_sem] i64_xor_nat and_pw_ne in
set_option maxRecDepth 100000 in
set_option maxHeartbeats 4000000 in
theorem l02Meet_any (A A' : Option Addr) (n n' c c' : Nat) (S T : List Nat) (w : World) (hn : n = S.length) (hn' : n' = T.length) (hsmall : n ≤ 200) (hsmall' : n' ≤ 200) (hS : ∀ r ∈ S, Sm r) (hT : ∀ r ∈ T, Sm r) (hR : Rd w A (nv S)) (hR' : Rd w A' (nv T)) :
    Calls Tryd.prog 58 #[.slice A n c, .slice A' n' c'] w fun e w' => ∃ v, e = .returned v ∧ w'.ownsRow w.heap.size 2 1 v (meetS S T).length (nv (meetS S T)) ∧ Below w.heap.size w w' := by
  have h1 := reduce_any A n c S w hn (by omega) hS hR
  have h2 := fun W (hb : Below w.heap.size w W) => reduce_any A' n' c' T W hn' (by omega) hT (hR'.below hb)
  have hl1 := reduceS_length_le S
  have hl2 := reduceS_length_le T
  rw [← hn] at hl1; rw [← hn'] at hl2
  have hpp := sm_pairs (A := reduceS S) (B := reduceS T) (fun r hr => ((red_reduce hS).ne r hr).2) (fun r hr => ((red_reduce hT).ne r hr).2)
  have HE := Lib.hid (meet_both hS hT)
  have HKS : Hid (∀ z ∈ kerP (dup (reduceS S) ++ zs (reduceS T)) ((reduceS S).length + (reduceS T).length), Sm z) := by
    show ∀ z ∈ _, Sm z
    rw [kerP_meet (red_reduce hS) _ (Nat.le_refl _)]
    have sA : ∀ r ∈ reduceS S, Sm r := fun r hr => ((red_reduce hS).ne r hr).2
    exact (meetG_grow sA (fun r hr => ((red_reduce hT).ne r hr).2)).sm sA
  have H1 := Lib.hid h1
  have H2 := Lib.hid h2
  have HG := Lib.hid (fun k => gp_good hpp k)
  have HPP := Lib.hid hpp
  clear h1 h2 hpp hn hn' hS hT hR hR'
  generalize hF : reduceS S = F at *
  generalize hQ : reduceS T = Q at *
  have HF := Lib.hid hF; clear hF
  have HQ := Lib.hid hQ; clear hQ
  go_enter Tryd.func58, Tryd.ntmps58
  go_wp2_with fail
  refine H1.out.mono ?_
  rintro e w1 ⟨v1, rfl, ho, hb⟩
  obtain ⟨V1, c1, rfl, _, hV1, hV1'⟩ := owns_shape ho
  clear hV1 hV1'
  have HB1 := Lib.hid hb
  have HR1 := Lib.hid (owns_Rd ho)
  clear ho hb
  go_wp2_with fail
  refine (H2.out _ HB1.out).mono ?_
  rintro e W2 ⟨v2, rfl, ho, hb⟩
  obtain ⟨V2, c2, rfl, _, hV2, hV2'⟩ := owns_shape ho
  clear hV2 hV2'
  have HB2 := Lib.hid (HB1.out.trans (hb.mono HB1.out.size))
  have HR1' := Lib.hid (HR1.out.below hb)
  have HR2 := Lib.hid (owns_Rd ho)
  have hw2 : w.heap.size ≤ W2.heap.size := HB2.out.size
  have hps : (dup F ++ zs Q).length = F.length + Q.length := by rw [List.length_append, dup_length, zs_length]
  have HPL := Lib.hid hps
  clear ho hb hps
  go_wp2_with fail
  go_loopw [7, 8, 9, 10] (fun d s o i wr => ∃ k : Nat, k ≤ F.length + Q.length ∧ i = .int .i64 k ∧ wr.ownsRow W2.heap.size 2 1 d (gp (dup F ++ zs Q) k).length (nv (r1 (gp (dup F ++ zs Q) k))) ∧ wr.ownsRow W2.heap.size 2 1 s (gp (dup F ++ zs Q) k).length (nv (r2 (gp (dup F ++ zs Q) k))) ∧ wr.ownsRow W2.heap.size 2 1 o (kerP (dup F ++ zs Q) k).length (nv (kerP (dup F ++ zs Q) k)) ∧ (d.ownBlock ≠ s.ownBlock ∧ d.ownBlock ≠ o.ownBlock ∧ s.ownBlock ≠ o.ownBlock) ∧ Below W2.heap.size W2 wr) (fun _ _ _ i _ => F.length + Q.length - (intOf i).toNat)
  case atStart =>
    refine ⟨0, by omega, rfl, ?_, ?_, ?_, by simp [Value.ownBlock]; omega, (((Below.refl _ _).alloc (Nat.le_refl _) _).alloc (by simp) _).alloc (by simp; omega) _⟩
    · exact ((World.ownsRow_made W2 #[] 0 (Nat.le_refl _) (by decide) (by simp)).alloc _).alloc _
    · have := World.ownsRow_made (W2.alloc (.cells #[] 2)) #[] 0 (base := W2.heap.size) (e := 2) (size := 1) (by simp) (by decide) (by simp)
      rw [World.size_alloc] at this
      exact this.alloc _
    · have := World.ownsRow_made ((W2.alloc (.cells #[] 2)).alloc (.cells #[] 2)) #[] 0 (base := W2.heap.size) (e := 2) (size := 1) (by simp; omega) (by decide) (by simp)
      simp only [World.size_alloc] at this
      exact this
  case round =>
    obtain ⟨k, hk, rfl, hod, hos, hoo, ⟨hds, hdo, hso⟩, hbel⟩ := hrel
    have hsz : W2.heap.size ≤ wr.heap.size := hbel.size
    have hko := kerP_length (dup F ++ zs Q) k
    by_cases hlt : k < F.length + Q.length
    · have hkL : k < (dup F ++ zs Q).length := by rw [HPL.out]; exact hlt
      have hltI : (k : Int) < (F.length : Int) + (Q.length : Int) := by omega
      have hltB : decide ((k : Int) < (F.length : Int) + (Q.length : Int)) = true := by simpa using hltI
      have Hs := Lib.hid (gp_succ hkL)
      have Hk := Lib.hid (kerP_succ (dup F ++ zs Q) k)
      have hg := HG.out k
      have hl := gp_length (dup F ++ zs Q) k (by omega)
      have hpp : SmP ((dup F ++ zs Q).getD k (0, 0)) := HPP.out _ (by simp only [List.getD, List.getElem?_eq_getElem hkL, Option.getD_some]; exact List.getElem_mem hkL)
      have hcase : (k < F.length ∧ (dup F ++ zs Q).getD k (0, 0) = (F.getD k 0, F.getD k 0)) ∨ (¬ k < F.length ∧ (dup F ++ zs Q).getD k (0, 0) = (Q.getD (k - F.length) 0, 0)) := by
        by_cases h : k < F.length
        · exact .inl ⟨h, by rw [getD_app_left (by rw [dup_length]; exact h), dup_getD h]⟩
        · exact .inr ⟨h, by rw [getD_app_right (by rw [dup_length]; omega), dup_length, zs_getD (by omega)]⟩
      have hcell : (k < F.length ∧ ∃ b o, V1 = some ⟨b, o, none⟩ ∧ wr.cell? ⟨b, o + k, none⟩ = some (.int .i64 ((((dup F ++ zs Q).getD k (0, 0)).1 : Nat) : Int)) ∧ ((((dup F ++ zs Q).getD k (0, 0)).2 : Nat) : Int) = ((((dup F ++ zs Q).getD k (0, 0)).1 : Nat) : Int)) ∨
          (¬ k < F.length ∧ ∃ b o, V2 = some ⟨b, o, none⟩ ∧ wr.cell? ⟨b, o + (k - F.length), none⟩ = some (.int .i64 ((((dup F ++ zs Q).getD k (0, 0)).1 : Nat) : Int)) ∧ (0 : Int) = ((((dup F ++ zs Q).getD k (0, 0)).2 : Nat) : Int)) := by
        rcases hcase with ⟨h, e⟩ | ⟨h, e⟩
        · obtain ⟨b, o, rfl, hc⟩ := (HR1'.out.below hbel).atN (k := k) h
          exact .inl ⟨h, b, o, rfl, by rw [e]; exact hc, by rw [e]⟩
        · obtain ⟨b, o, rfl, hc⟩ := (HR2.out.below hbel).atN (k := k - F.length) (by omega)
          exact .inr ⟨h, b, o, rfl, by rw [e]; exact hc, by rw [e]; rfl⟩
      clear hcase hkL
      generalize hL : gp (dup F ++ zs Q) k = L at *
      generalize hO : kerP (dup F ++ zs Q) k = O at *
      generalize (dup F ++ zs Q).getD k (0, 0) = p0 at *
      clear hL hO
      obtain ⟨D, cd, rfl, _, hD, _⟩ := owns_shape hod
      obtain ⟨E, ce, rfl, _, hE, _⟩ := owns_shape hos
      obtain ⟨F', cf, rfl, _, hF', _⟩ := owns_shape hoo
      have HOD := Lib.hid hod
      have HOS := Lib.hid hos
      have HOO := Lib.hid hoo
      have HDS := Lib.hid hds
      have HDO := Lib.hid hdo
      have HSO := Lib.hid hso
      have HB := Lib.hid hbel
      have HRD := Lib.hid (owns_Rd hod)
      have HRE := Lib.hid (owns_Rd hos)
      clear hod hos hoo hds hdo hso hbel hD hE hF'
      rcases hcell with ⟨hkF, b, o, rfl, hc, h12⟩ | ⟨hkF, b, o, rfl, hc, h12⟩
      all_goals
        have H12 := Lib.hid h12
        clear h12
        go_wp2_with fail
        go_loop [11, 12, 13] (fun a b j => ∃ i : Nat, i ≤ L.length ∧ j = .int .i64 i ∧ a = .int .i64 (leftN (L.take i) p0).1 ∧ b = .int .i64 (leftN (L.take i) p0).2) (fun _ _ j => L.length - (intOf j).toNat)
        case atStart =>
          first | exact ⟨0, by omega, rfl, rfl, congrArg (Value.int .i64) H12.out.symm⟩ | exact ⟨0, by omega, rfl, rfl, congrArg (Value.int .i64) H12.out⟩
        case round =>
          obtain ⟨i, hi, rfl, rfl, rfl⟩ := hrel
          by_cases hlt2 : i < L.length
          · obtain ⟨b1, o1, rfl, hc1⟩ := HRD.out.atN (k := i) (by rw [r1_length]; exact hlt2)
            obtain ⟨b2, o2, rfl, hc2⟩ := HRE.out.atN (k := i) (by rw [r2_length]; exact hlt2)
            rw [r1_getD] at hc1; rw [r2_getD] at hc2
            obtain ⟨g0, g1, g2⟩ := hg.at_ hlt2
            have Hi := Lib.hid (fold_take_succ leftStep p0 L i (0, 0) hlt2)
            have hq : SmP (leftN (L.take i) p0) := SmP.foldl (hg.take i) hpp
            obtain ⟨q1, q2⟩ := hq
            have hpv := pv_le g0 g1
            generalize hP : leftN (L.take i) p0 = p at *
            generalize hR' : L.getD i (0, 0) = r at *
            have HP := Lib.hid hP; clear hP
            have HR' := Lib.hid hR'; clear hR' hg
            have HL := Lib.hid (fun W => low_any r.1 g0 g1 W)
            cases hb : tb p.1 (pv r.1)
            all_goals
              go_wp2_with (go_at_call 94; refine (HL.out _).mono ?_; rintro e w' ⟨rfl, rfl⟩)
              go_round
              case rel => exact ⟨i + 1, by omega, by go_num, by unfold leftN at *; rw [Hi.out, HP.out]; simp [leftStep, hb], by unfold leftN at *; rw [Hi.out, HP.out]; simp [leftStep, hb]⟩
              case measure => simp [intOf]; omega
          · have ei : L.take i = L := List.take_of_length_le (by omega)
            rw [ei]
            have hq : SmP (leftN L p0) := SmP.foldl hg hpp
            have hgr := grow_cases L p0
            have hks : kerStep L p0 O = if (leftN L p0).1 = 0 then O ++ [(leftN L p0).2] else O := rfl
            obtain ⟨q1, q2⟩ := hq
            generalize leftN L p0 = q at *
            rcases hgr with ⟨hgr, h0⟩ | ⟨hgr, h0⟩
            · rw [if_pos h0] at hks
              have HGR := Lib.hid hgr
              have HKS' := Lib.hid hks
              clear hgr hks
              rw [h0]
              go_wp2_with (at_builtin; refine wpList_app1 _ _ _ _ _ etI (by rfl) (by rfl) W2.heap.size (.slice F' O.length cf) O.length (nv O) (by rfl) ?_ _ (.int .i64 (q.2 : Int)) (by rfl) ?_ (by rfl) ?_ ?_ ?_; exact HOO.out.alloc _; exact new_cell _ _ _; omega; (simp; omega); (intro g1' cap1 w1 hown1 hgrow1 hat1 hlt1; obtain ⟨t1, t2⟩ := own_other_app HOD.out (.inr HDO.out) hgrow1 hat1; obtain ⟨t3, t4⟩ := own_other_app HOS.out (.inr HSO.out) hgrow1 hat1; have HB1 := Lib.hid (below_app HB.out hsz HOO.out hgrow1); have HO1 : Hid (w1.ownsRow W2.heap.size 2 1 (.slice (some ⟨g1', 0, none⟩) (O.length + 1) cap1) (O.length + 1) (nv (O ++ [q.2]))) := (by rw [← nv_snoc]; exact hown1); have HT1 := Lib.hid t1; have HT2 := Lib.hid (apart_ne2 (n' := O.length + 1) (c' := cap1) t2); have HT3 := Lib.hid t3; have HT4 := Lib.hid (apart_ne2 (n' := O.length + 1) (c' := cap1) t4); clear hown1 hgrow1 hat1 hlt1 t1 t2 t3 t4))
              go_roundw
              case rel => exact ⟨k + 1, by omega, by go_num, by rw [Hs.out, HGR.out]; exact HT1.out, by rw [Hs.out, HGR.out]; exact HT3.out, by rw [Hk.out, HKS'.out]; exact own_cast HO1.out (by simp) rfl, ⟨HDS.out, HT2.out, HT4.out⟩, HB1.out⟩
              case measure => simp [intOf]; omega
            · rw [if_neg h0] at hks
              have HGR := Lib.hid hgr
              have HKS' := Lib.hid hks
              have hne0 : ((q.1 : Int) == 0) = false := by simpa using h0
              clear hgr hks
              go_wp2_with (first | (at_builtin; refine wpList_app1 _ _ _ _ _ etI (by rfl) (by rfl) W2.heap.size (.slice D L.length cd) L.length (nv (r1 L)) (by rfl) ?_ _ (.int .i64 (q.1 : Int)) (by rfl) ?_ (by rfl) ?_ ?_ ?_; exact HOD.out.alloc _; exact new_cell _ _ _; omega; (simp; omega); (intro g1' cap1 w1 hown1 hgrow1 hat1 hlt1; obtain ⟨t1, t2⟩ := own_other_app HOS.out (.inr HDS.out.symm) hgrow1 hat1; obtain ⟨t3, t4⟩ := own_other_app HOO.out (.inr HDO.out.symm) hgrow1 hat1; have HB1 := Lib.hid (below_app HB.out hsz HOD.out hgrow1); have hsz1 : W2.heap.size ≤ w1.heap.size := HB1.out.size; have HO1 : Hid (w1.ownsRow W2.heap.size 2 1 (.slice (some ⟨g1', 0, none⟩) (L.length + 1) cap1) (L.length + 1) (nv (r1 (L ++ [q])))) := (by show Go.World.ownsRow _ _ _ _ _ _ _; rw [show r1 (L ++ [q]) = r1 L ++ [q.1] by simp [r1], ← nv_snoc]; exact hown1); have HT1 := Lib.hid t1; have HT2 := Lib.hid t2; have HT3 := Lib.hid t3; have HT4 := Lib.hid (apart_ne2 (n' := L.length + 1) (c' := cap1) t4); clear hown1 hgrow1 hat1 hlt1 t1 t2 t3 t4)) | (at_builtin; refine wpList_app1 _ _ _ _ _ etI (by rfl) (by rfl) W2.heap.size (.slice E L.length ce) L.length (nv (r2 L)) (by rfl) ?_ _ (.int .i64 (q.2 : Int)) (by rfl) ?_ (by rfl) ?_ ?_ ?_; exact HT1.out.alloc _; exact new_cell _ _ _; omega; (simp; omega); (intro g2' cap2 w2 hown2 hgrow2 hat2 hlt2; obtain ⟨t1, t2⟩ := own_other_app HO1.out (apart_some HT2.out) hgrow2 hat2; obtain ⟨t3, t4⟩ := own_other_app HT3.out (.inr HSO.out.symm) hgrow2 hat2; have HB2 := Lib.hid (below_app HB1.out hsz1 HT1.out hgrow2); have HO2 : Hid (w2.ownsRow W2.heap.size 2 1 (.slice (some ⟨g2', 0, none⟩) (L.length + 1) cap2) (L.length + 1) (nv (r2 (L ++ [q])))) := (by show Go.World.ownsRow _ _ _ _ _ _ _; rw [show r2 (L ++ [q]) = r2 L ++ [q.2] by simp [r2], ← nv_snoc]; exact hown2); have HU1 := Lib.hid t1; have HU2 := Lib.hid (apart_ne (n' := L.length + 1) (c' := cap2) t2); have HU3 := Lib.hid t3; have HU4 := Lib.hid (apart_ne2 (n' := L.length + 1) (c' := cap2) t4); clear hown2 hgrow2 hat2 hlt2 t1 t2 t3 t4)))
              go_roundw
              case rel => exact ⟨k + 1, by omega, by go_num, by rw [Hs.out, HGR.out]; exact own_cast HU1.out (by simp) rfl, by rw [Hs.out, HGR.out]; exact own_cast HO2.out (by simp) rfl, by rw [Hk.out, HKS'.out]; exact HU3.out, ⟨HU2.out, HT4.out.symm, HU4.out.symm⟩, HB2.out⟩
              case measure => simp [intOf]; omega
    · have ek : k = F.length + Q.length := by omega
      subst ek
      obtain ⟨F', cf, rfl, _, hF', _⟩ := owns_shape hoo
      have hr := reduce_any F' (kerP (dup F ++ zs Q) (F.length + Q.length)).length cf (kerP (dup F ++ zs Q) (F.length + Q.length)) wr rfl (by omega) HKS.out (owns_Rd hoo)
      rw [HE.out] at hr
      have HRR := Lib.hid hr
      have HB := Lib.hid hbel
      clear hod hos hoo hds hdo hso hbel hF' hr
      go_wp2_with fail
      refine HRR.out.mono ?_
      rintro e w2 ⟨v, rfl, ho, hb⟩
      have HO2 := Lib.hid ho
      have HB3 := Lib.hid hb
      clear ho hb
      go_wp2_with fail
      go_ret
      exact ⟨v, rfl, HO2.out.mono (Nat.le_trans hw2 hsz), HB2.out.trans ((HB.out.trans (HB3.out.mono hsz)).mono hw2)⟩
end Go.Proofs.YtjhlmalpcelbaaaDoor

namespace Go.Proofs.YtjhlmalpcelbaaaDoor

/-- complements fill up the sum -/
theorem compK_fst (A B : List Nat) : ∀ k, k ≤ B.length → (compK (reduceS A) B k).1 = reduceS (A ++ B.take k) := by
  intro k
  induction k with
  | zero => intro _; simp [compK]
  | succ k ih =>
    intro hk
    rw [compK_succ _ _ _ (by omega)]
    show putS (compK (reduceS A) B k).1 (B.getD k 0) = _
    rw [ih (by omega), List.take_succ_eq_append_getElem (by omega), ← List.append_assoc, reduce_snoc]
    simp [List.getD, show k < B.length by omega]
theorem compK_len (S B : List Nat) : ∀ k, k ≤ B.length → (compK S B k).1.length = S.length + (compK S B k).2.1.length := by
  intro k
  induction k with
  | zero => intro _; simp [compK]
  | succ k ih =>
    intro hk
    have ih := ih (by omega)
    rw [compK_succ _ _ _ (by omega)]
    simp only [compStep, putS_len]
    split
    · exact ih
    · simp; omega
theorem comp_rank (A B : List Nat) : (reduceS A).length + (compK (reduceS A) B B.length).2.1.length = (reduceS (A ++ B)).length := by
  rw [← compK_len _ _ _ (Nat.le_refl _), compK_fst A B _ (Nat.le_refl _), List.take_length]

end Go.Proofs.YtjhlmalpcelbaaaDoor

namespace Go.Proofs
open Go.Shelf
def Tryd.sortL_ren : Go.Shelf.Ren := ⟨fun | 6 => 102 | 15 => 106 | 14 => 105 | 28 => 116 | 29 => 117 | 20 => 108 | 21 => 109 | 22 => 110 | 23 => 111 | 24 => 112 | 25 => 113 | 26 => 114 | 27 => 115 | 46 => 118 | 47 => 119 | 48 => 120 | 49 => 121 | 50 => 122 | 57 => 123 | n => n, fun | 22 => 24 | 24 => 2 | 25 => 97 | 3 => 3 | 39 => 84 | 0 => 0 | 53 => 111 | 55 => 53 | 4 => 4 | 46 => 104 | 45 => 103 | 50 => 108 | 5 => 5 | 9 => 9 | 66 => 112 | 70 => 116 | 76 => 118 | 77 => 119 | n => n, fun | n => n⟩
theorem Tryd.sortL : Go.Proofs.SlLaysF.n6 Tryd.prog Tryd.sortL_ren := {
  mixed := by kernel_rfl
  f6 := ⟨Tryd.f102.name, by decide, Tryd.func102.trans (congrArg some (by kernel_rfl))⟩
  f14 := ⟨Tryd.f105.name, by decide, Tryd.func105.trans (congrArg some (by kernel_rfl))⟩
  f15 := Tryd.func106.trans (congrArg some (by kernel_rfl))
  f20 := ⟨Tryd.f108.name, by decide, Tryd.func108.trans (congrArg some (by kernel_rfl))⟩
  f21 := ⟨Tryd.f109.name, by decide, Tryd.func109.trans (congrArg some (by kernel_rfl))⟩
  f22 := ⟨Tryd.f110.name, by decide, Tryd.func110.trans (congrArg some (by kernel_rfl))⟩
  f23 := ⟨Tryd.f111.name, by decide, Tryd.func111.trans (congrArg some (by kernel_rfl))⟩
  f24 := ⟨Tryd.f112.name, by decide, Tryd.func112.trans (congrArg some (by kernel_rfl))⟩
  f25 := ⟨Tryd.f113.name, by decide, Tryd.func113.trans (congrArg some (by kernel_rfl))⟩
  f26 := ⟨Tryd.f114.name, by decide, Tryd.func114.trans (congrArg some (by kernel_rfl))⟩
  f27 := ⟨Tryd.f115.name, by decide, Tryd.func115.trans (congrArg some (by kernel_rfl))⟩
  f28 := Tryd.func116.trans (congrArg some (by kernel_rfl))
  f29 := Tryd.func117.trans (congrArg some (by kernel_rfl))
  f46 := ⟨Tryd.f118.name, by decide, Tryd.func118.trans (congrArg some (by kernel_rfl))⟩
  f47 := Tryd.func119.trans (congrArg some (by kernel_rfl))
  f48 := Tryd.func120.trans (congrArg some (by kernel_rfl))
  f49 := ⟨Tryd.f121.name, by decide, Tryd.func121.trans (congrArg some (by kernel_rfl))⟩
  f50 := ⟨Tryd.f122.name, by decide, Tryd.func122.trans (congrArg some (by kernel_rfl))⟩
  f57 := ⟨Tryd.f123.name, by decide, Tryd.func123.trans (congrArg some (by kernel_rfl))⟩
  t0 := Tryd.underlying0
  a0 := Tryd.isAgg0
  z0 := Tryd.sizeOf0
  v0 := Tryd.zeroValue0
  t3 := Tryd.underlying3
  a3 := Tryd.isAgg3
  z3 := Tryd.sizeOf3
  v3 := Tryd.zeroValue3
  t4 := Tryd.underlying4
  a4 := Tryd.isAgg4
  z4 := Tryd.sizeOf4
  v4 := Tryd.zeroValue4
  t5 := Tryd.underlying5
  a5 := Tryd.isAgg5
  z5 := Tryd.sizeOf5
  v5 := Tryd.zeroValue5
  t9 := Tryd.underlying9
  a9 := Tryd.isAgg9
  z9 := Tryd.sizeOf9
  v9 := Tryd.zeroValue9
  t22 := Tryd.underlying24
  a22 := Tryd.isAgg24
  z22 := Tryd.sizeOf24
  v22 := Tryd.zeroValue24
  a24 := Tryd.isAgg2
  z24 := Tryd.sizeOf2
  t25 := Tryd.underlying97
  a25 := Tryd.isAgg97
  z25 := Tryd.sizeOf97
  v25 := Tryd.zeroValue97
  t39 := Tryd.underlying84
  a39 := Tryd.isAgg84
  z39 := Tryd.sizeOf84
  v39 := Tryd.zeroValue84
  t45 := Tryd.underlying103
  a45 := Tryd.isAgg103
  z45 := Tryd.sizeOf103
  v45 := Tryd.zeroValue103
  t46 := Tryd.underlying104
  a46 := Tryd.isAgg104
  z46 := Tryd.sizeOf104
  v46 := Tryd.zeroValue104
  t50 := Tryd.underlying108
  a50 := Tryd.isAgg108
  z50 := Tryd.sizeOf108
  v50 := Tryd.zeroValue108
  t53 := Tryd.underlying111
  a53 := Tryd.isAgg111
  z53 := Tryd.sizeOf111
  v53 := Tryd.zeroValue111
  t55 := Tryd.underlying53
  a55 := Tryd.isAgg53
  z55 := Tryd.sizeOf53
  v55 := Tryd.zeroValue53
  t66 := Tryd.underlying112
  a66 := Tryd.isAgg112
  z66 := Tryd.sizeOf112
  v66 := Tryd.zeroValue112
  t70 := Tryd.underlying116
  a70 := Tryd.isAgg116
  z70 := Tryd.sizeOf116
  v70 := Tryd.zeroValue116
  t76 := Tryd.underlying118
  a76 := Tryd.isAgg118
  z76 := Tryd.sizeOf118
  v76 := Tryd.zeroValue118
  t77 := Tryd.underlying119
  a77 := Tryd.isAgg119
  z77 := Tryd.sizeOf119
  v77 := Tryd.zeroValue119 }
def Tryd.cmpL_ren : Go.Shelf.Ren := ⟨fun | 5 => 104 | 7 => 107 | n => n, fun | 22 => 3 | 3 => 3 | 4 => 4 | n => n, fun | n => n⟩
theorem Tryd.cmpL : Go.Proofs.SlLaysC2.n5 Tryd.prog Tryd.cmpL_ren := {
  mixed := by kernel_rfl
  f5 := ⟨Tryd.f104.name, by decide, Tryd.func104.trans (congrArg some (by kernel_rfl))⟩
  f7 := ⟨Tryd.f107.name, by decide, Tryd.func107.trans (congrArg some (by kernel_rfl))⟩
  t3 := Tryd.underlying3
  a3 := Tryd.isAgg3
  z3 := Tryd.sizeOf3
  v3 := Tryd.zeroValue3
  t4 := Tryd.underlying4
  a4 := Tryd.isAgg4
  z4 := Tryd.sizeOf4
  v4 := Tryd.zeroValue4
  t22 := Tryd.underlying3
  a22 := Tryd.isAgg3
  z22 := Tryd.sizeOf3
  v22 := Tryd.zeroValue3 }
end Go.Proofs

namespace Go.Proofs.YtjhlmalpcelbaaaDoor
open Go.RowKit


/-- the program's comparison of two rows, in every world that holds the table -/
theorem cmp_any (x y : PM) (w : World) (hT : Tab w) : Calls Tryd.prog 103 #[encP x, encP y] w fun e w' => e = .returned (.int .i64 (cfP x y)) ∧ w' = w := by
  have h1 := pivot_any x.1 x.2.1 x.2.2 w hT
  have h2 := pivot_any y.1 y.2.1 y.2.2 w hT
  have hcon := AnyG.cmp_Compare_int Tryd.cmpL (pv x.1 : Nat) (pv y.1 : Nat) w
  change Calls Tryd.prog 104 _ _ _ at hcon
  have H1 := Lib.hid h1
  have H2 := Lib.hid h2
  have H3 := Lib.hid hcon
  clear h1 h2 hcon
  unfold encP cfP
  obtain ⟨x, hx⟩ := x
  obtain ⟨y, hy⟩ := y
  simp only at H1 H2 H3 ⊢
  generalize Lib.compareInt ((pv x : Nat) : Int) ((pv y : Nat) : Int) = r at *
  go_enter Tryd.func103, Tryd.ntmps103
  go_wp2_with (first | (go_at_call 91; (with_reducible refine H1.out.mono ?_); rintro e w' ⟨rfl, rfl⟩) | (go_at_call 91; (with_reducible refine H2.out.mono ?_); rintro e w' ⟨rfl, rfl⟩) | (go_at_call 104; refine H3.out.mono ?_; rintro e w' ⟨rfl, rfl⟩))
  go_ret
  exact ⟨rfl, rfl⟩

theorem tab_sortWorld {w : World} (hT : Tab w) {g off m : Nat} {os : Array Obj} {dk : Array PM} (hg : g ≠ 0) : Tab (sortWorld encP w g off m dk os) := by
  intro j hj
  have h := hT j hj
  have hlt := World.block_lt_of_cell? w _ h
  rw [← h]
  refine World.cell?_of_block ?_
  show ((w.heap.modify g (Sort.onCells (Sort.putCells encP off dk))) ++ os)[0]? = w.heap[0]?
  rw [Array.getElem?_append_left (by simpa using hlt), Array.getElem?_modify, if_neg hg]

set_option maxHeartbeats 1000000 in
/-- (*span).reduced: the rows in order, as a new own row -/
theorem spanReduced_any (B bs : Nat) (v1 v2 : Value) (L : List (Nat × Nat)) (T : List Nat) (w : World) (hTab : Tab w) (hw : 0 < w.heap.size) (hs : SpanAt w B bs v1 v2 L) (hsmall : L.length ≤ 1000000) (hr : Red (r1 L)) (hT : Asc T) (hp : (r1 L).Perm T) :
    Calls Tryd.prog 92 #[.pointer (some ⟨bs, 0, none⟩)] w fun e w' => ∃ v, e = .returned v ∧ w'.ownsRow w.heap.size 2 1 v T.length (nv T) ∧ Below w.heap.size w w' := by
  obtain ⟨A, c, rfl, _, _, _⟩ := owns_shape hs.own1
  have hc := copyOf_any A L.length c (nv (r1 L)) w (by rw [nv_length, r1_length]) (by omega) (nv_one _) (owns_Rd hs.own1)
  obtain ⟨x0, x1, _, _, _⟩ := blk2cells hs.blk
  have hlen : T.length = L.length := by rw [← hp.length_eq, r1_length]
  have HC := Lib.hid hc
  have HLN := Lib.hid hlen
  have HR := Lib.hid hr
  have HA := Lib.hid hT
  have HP := Lib.hid hp
  have HTB := Lib.hid hTab
  clear hc hs hr hT hp hTab hlen
  go_enter Tryd.func92, Tryd.ntmps92
  go_wp2_with fail
  refine HC.out.mono ?_
  rintro e w1 ⟨g, cap, rfl, ho, hb⟩
  have HO := Lib.hid ho
  have HB := Lib.hid hb
  have hg := (ho.lt g rfl)
  have hgw : g < w1.heap.size := hg.2
  have hg0 : g ≠ 0 := by have := hg.1; omega
  have HT1 := Lib.hid (HTB.out.below hb hw)
  clear ho hb hg
  have hne : ∀ r ∈ r1 L, r ≠ 0 ∧ Sm r := HR.out.ne
  by_cases h0 : L.length = 0
  · have hS := fun W => AnyF.slices_SortFunc_none (P := Tryd.prog) (ρ := Tryd.sortL_ren) { Tryd.sortL with } (some ⟨g, 0, none⟩) cap (.func (.func 103) #[] #[]) W
    change ∀ W, Calls Tryd.prog 102 _ _ _ at hS
    have HS := Lib.hid hS
    have hL : L = [] := List.eq_nil_of_length_eq_zero h0
    subst hL
    have hTn : T = [] := List.eq_nil_of_length_eq_zero (by rw [HLN.out]; rfl)
    subst hTn
    clear hS h0 hne
    go_wp2_with (go_at_call 102; refine (HS.out _).mono ?_; rintro e w' ⟨rfl, rfl⟩)
    go_ret
    exact ⟨_, rfl, HO.out, HB.out⟩
  · obtain ⟨hH, hsz⟩ := sort_holds hne HO.out
    have eg : ∀ args w, (callFunc 103 args).run Tryd.prog w = .ok (.enter 103 args) w := enters_of Tryd.func103 (by kernel_rfl) rfl
    have hcr : CmpReads Tryd.prog 103 #[] encP cfP g 0 (pms (r1 L) hne).toArray.size w1 := fun m os dk _ x y => (cmp_any x y _ (tab_sortWorld HT1.out hg0)).mono fun _ _ ⟨he, hw⟩ => ⟨he, 0, by rw [hw]; rfl⟩
    have hS := Any.slices_SortFunc Tryd.sortL encP (fun _ => rfl) cfP swoP 103 #[] g 0 cap (pms (r1 L) hne).toArray w1 eg hcr.lays hH hgw (by rw [hsz]; omega)
    rw [hsz] at hS
    change Calls Tryd.prog 102 _ _ _ at hS
    have HS := Lib.hid hS
    clear hS hcr eg hH
    have hsz' : (pms (r1 L) hne).length = L.length := by simpa using hsz
    clear hsz
    have HSZ := Lib.hid hsz'
    have HNE := Lib.hid hne
    clear h0 hsz'
    go_wp2_with (go_at_call 102; refine HS.out.mono ?_; rintro e w' ⟨rfl, d', q, os, hpm, hst, rfl⟩; have HPM := Lib.hid hpm; have HST := Lib.hid hst; clear hpm hst)
    go_ret
    have hsz : (pms (r1 L) HNE.out).toArray.size = L.length := by simpa using HSZ.out
    have hpm := HPM.out
    have hst := HST.out
    rw [← hsz] at hpm hst
    have hv := sorted_pm (T := T) HR.out (d := (pms (r1 L) HNE.out).toArray) (by simpa using pms_val (r1 L) HNE.out) hpm hst HA.out HP.out
    have hd : d'.size = L.length := by rw [hpm.1]; exact hsz
    obtain ⟨o1, k1⟩ := sort_own HO.out d' hd (q := q) (os := os)
    rw [enc_val, hv] at o1
    refine ⟨_, rfl, own_cast2 o1 HLN.out.symm rfl, HB.out.trans ?_⟩
    exact k1.to_below HB.out.size (fun j hj => by simp only [List.mem_singleton] at hj; injection hj with hj; rw [hj]; exact (HO.out.lt g rfl).1)
end Go.Proofs.YtjhlmalpcelbaaaDoor

namespace Go.Proofs.YtjhlmalpcelbaaaDoor
open Go.RowKit

set_option maxHeartbeats 1000000 in
/-- impl.reduced: the reduced rows, as a new own row -/
theorem reduced_any (A : Option Addr) (n c : Nat) (rows : List Nat) (w : World) (hT : Tab w) (hw : 0 < w.heap.size) (hn : n = rows.length) (hsmall : n ≤ 1000000) (hS : ∀ r ∈ rows, Sm r) (hR : Rd w A (nv rows)) :
    Calls Tryd.prog 52 #[.slice A n c] w fun e w' => ∃ v, e = .returned v ∧ w'.ownsRow w.heap.size 2 1 v (reduceS rows).length (nv (reduceS rows)) ∧ Below w.heap.size w w' := by
  have h1 := spanOf_any A n c rows w hT hw hn hsmall hS hR
  have H1 := Lib.hid h1
  have HT := Lib.hid hT
  have hsp := spanL_perm (zs rows) (fun p hp => by obtain ⟨r, hr, rfl⟩ := List.mem_map.1 hp; exact ⟨hS r hr, Sm.zero⟩)
  rw [r1_zs] at hsp
  have HSP := Lib.hid hsp
  have HA := Lib.hid (asc_reduce hS)
  have hl := spanL_length_le (zs rows)
  rw [zs_length, ← hn] at hl
  clear h1 hT hn hS hR hsp
  go_enter Tryd.func52, Tryd.ntmps52
  go_wp2_with fail
  refine H1.out.mono ?_
  rintro e w1 ⟨rfl, ⟨v1, v2, hs⟩, hb⟩
  have h2 := spanReduced_any w.heap.size w.heap.size v1 v2 _ (reduceS rows) w1 (HT.out.below hb hw) (by have := hb.size; omega) hs (by omega) HSP.out.2.1 HA.out HSP.out.1
  have H2 := Lib.hid h2
  have HB := Lib.hid hb
  clear h2 hs hb
  go_wp2_with fail
  refine H2.out.mono ?_
  rintro e w2 ⟨v, rfl, ho, hb⟩
  have HO := Lib.hid ho
  have HB2 := Lib.hid hb
  clear ho hb
  go_wp2_with fail
  go_ret
  exact ⟨v, rfl, HO.out.mono HB.out.size, HB.out.trans (HB2.out.mono HB.out.size)⟩

end Go.Proofs.YtjhlmalpcelbaaaDoor

namespace Go.Proofs.YtjhlmalpcelbaaaDoor

/-! ### lists of numbers in order -/
def lexLt : List Int → List Int → Bool
  | [], [] => false
  | [], _ :: _ => true
  | _ :: _, [] => false
  | a :: x, b :: y => if a = b then lexLt x y else decide (a < b)
theorem lexLt_irrefl : ∀ x, lexLt x x = false
  | [] => rfl
  | a :: x => by simp only [lexLt, if_true]; exact lexLt_irrefl x
theorem lexLt_trans : ∀ {x y z : List Int}, lexLt x y = true → lexLt y z = true → lexLt x z = true
  | [], [], _, h, _ => by simp [lexLt] at h
  | [], _ :: _, [], _, h => by simp [lexLt] at h
  | [], _ :: _, _ :: _, _, _ => rfl
  | _ :: _, [], _, h, _ => by simp [lexLt] at h
  | _ :: _, _ :: _, [], _, h => by simp [lexLt] at h
  | a :: x, b :: y, c :: z, h1, h2 => by
    simp only [lexLt] at h1 h2 ⊢
    by_cases e1 : a = b
    · rw [if_pos e1] at h1
      by_cases e2 : b = c
      · rw [if_pos e2] at h2; rw [if_pos (e1.trans e2)]; exact lexLt_trans h1 h2
      · rw [if_neg e2] at h2; rw [if_neg (by rw [e1]; exact e2), e1]; exact h2
    · rw [if_neg e1] at h1
      simp only [decide_eq_true_eq] at h1
      by_cases e2 : b = c
      · rw [if_neg (by omega)]; simp; omega
      · rw [if_neg e2] at h2; simp only [decide_eq_true_eq] at h2; rw [if_neg (by omega)]; simp; omega
def AscP (Q : List (List Int)) : Prop := ∀ i, i + 1 < Q.length → lexLt (Q.getD i []) (Q.getD (i + 1) []) = true
theorem AscP.lt {Q : List (List Int)} (h : AscP Q) : ∀ d i, i + d + 1 < Q.length → lexLt (Q.getD i []) (Q.getD (i + d + 1) []) = true := by
  intro d
  induction d with
  | zero => intro i hi; exact h i hi
  | succ d ih => intro i hi; exact lexLt_trans (ih i (by omega)) (h (i + d + 1) (by omega))
theorem AscP.nodup {Q : List (List Int)} (h : AscP Q) : Q.Nodup := by
  rw [List.nodup_iff_pairwise_ne, List.pairwise_iff_getElem]
  intro i j hi hj hij e
  have := h.lt (j - i - 1) i (by omega)
  rw [show i + (j - i - 1) + 1 = j by omega] at this
  simp only [List.getD, List.getElem?_eq_getElem hi, List.getElem?_eq_getElem hj, Option.getD_some] at this
  rw [e, lexLt_irrefl] at this; cases this

/-! ### what a square makes of a mask -/
def hit (n : Int) (v : Nat) (e : List Int) : Nat := if e.getD 0 0 = n ∧ tb v (e.getD 1 0).toNat = true then 2 ^ (e.getD 2 0).toNat else 0
def actE (Q : List (List Int)) (n : Int) (v : Nat) : Nat := Q.foldl (fun a e => xr a (hit n v e)) 0
def act (Q : List (List Int)) (n : Int) (v : Nat) : Nat := if n = 0 then v else actE Q n v
theorem hit_lin (n : Int) (v w : Nat) (e : List Int) : hit n (xr v w) e = xr (hit n v e) (hit n w e) := by
  unfold hit
  rw [tb_xr]
  by_cases h : e.getD 0 0 = n
  · rw [h]
    cases tb v (e.getD 1 0).toNat <;> cases tb w (e.getD 1 0).toNat <;> simp [xr_self, xr_zero, zero_xr]
  · rw [if_neg (fun hh => h hh.1), if_neg (fun hh => h hh.1), if_neg (fun hh => h hh.1)]; rfl
theorem xfold {α : Type} (f : α → Nat) : ∀ (Q : List α) (a : Nat), Q.foldl (fun a e => xr a (f e)) a = xr a (Q.foldl (fun a e => xr a (f e)) 0) := by
  intro Q
  induction Q with
  | nil => intro a; exact (xr_zero a).symm
  | cons e Q ih => intro a; simp only [List.foldl_cons]; rw [ih, ih (xr 0 (f e)), zero_xr, xr_assoc]
theorem actE_cons (e : List Int) (Q : List (List Int)) (n : Int) (v : Nat) : actE (e :: Q) n v = xr (hit n v e) (actE Q n v) := by
  unfold actE; simp only [List.foldl_cons]; rw [xfold, zero_xr]
theorem actE_lin (Q : List (List Int)) (n : Int) (v w : Nat) : actE Q n (xr v w) = xr (actE Q n v) (actE Q n w) := by
  induction Q with
  | nil => exact (xr_self 0).symm
  | cons e Q ih => rw [actE_cons, actE_cons, actE_cons, ih, hit_lin]; simp only [xr_assoc]; rw [xr_left (hit n w e)]
theorem act_lin (Q : List (List Int)) (n : Int) (v w : Nat) : act Q n (xr v w) = xr (act Q n v) (act Q n w) := by
  unfold act; split
  · rfl
  · exact actE_lin Q n v w
theorem act_zero (Q : List (List Int)) (n : Int) : act Q n 0 = 0 := by have := act_lin Q n 0 0; rw [xr_self, xr_self] at this; exact this
theorem act0 (Q : List (List Int)) (v : Nat) : act Q 0 v = v := by unfold act; rw [if_pos rfl]
theorem act_pos {n : Int} (h : n ≠ 0) (Q : List (List Int)) (v : Nat) : act Q n v = actE Q n v := by unfold act; rw [if_neg h]

/-! ### shapes of modules -/
structure EntM (xs : List Int) (e : List Int) : Prop where
  len : e.length = 3
  pos : 1 ≤ e.getD 0 0
  lo1 : 0 ≤ e.getD 1 0
  hi1 : e.getD 1 0 < xs.length
  lo2 : 0 ≤ e.getD 2 0
  hi2 : e.getD 2 0 < xs.length
  dg : xs.getD (e.getD 2 0).toNat 0 = xs.getD (e.getD 1 0).toNat 0 + e.getD 0 0
structure Shp (xs : List Int) (Q : List (List Int)) : Prop where
  len : xs.length ≤ 16
  deg : ∀ i, i < xs.length → 0 ≤ xs.getD i 0 ∧ xs.getD i 0 ≤ 20
  srt : ∀ i, i + 1 < xs.length → xs.getD i 0 ≤ xs.getD (i + 1) 0
  asc : AscP Q
  ent : ∀ k, k < Q.length → EntM xs (Q.getD k [])
theorem getD_of_mem {Q : List (List Int)} {e : List Int} (h : e ∈ Q) : ∃ k, k < Q.length ∧ Q.getD k [] = e := by
  obtain ⟨k, hk, rfl⟩ := List.getElem_of_mem h
  exact ⟨k, hk, by simp [List.getD, hk]⟩
section
variable {xs : List Int} {Q : List (List Int)}
theorem Shp.mem (h : Shp xs Q) {e : List Int} (he : e ∈ Q) : EntM xs e := by
  obtain ⟨k, hk, rfl⟩ := getD_of_mem he
  exact h.ent k hk
theorem EntM.le20 (hd : ∀ i, i < xs.length → 0 ≤ xs.getD i 0 ∧ xs.getD i 0 ≤ 20) {e : List Int} (h : EntM xs e) : e.getD 0 0 ≤ 20 := by
  have h1 := hd (e.getD 2 0).toNat (by have := h.lo2; have := h.hi2; omega)
  have h2 := hd (e.getD 1 0).toNat (by have := h.lo1; have := h.hi1; omega)
  have := h.dg
  omega
theorem Shp.le20 (h : Shp xs Q) {e : List Int} (he : e ∈ Q) : e.getD 0 0 ≤ 20 := (h.mem he).le20 h.deg
theorem pow_lt_pow {a b : Nat} (h : a < b) : 2 ^ a < 2 ^ b := Nat.pow_lt_pow_right (by omega) h
theorem xr_lt {a b n : Nat} (ha : a < 2 ^ n) (hb : b < 2 ^ n) : xr a b < 2 ^ n := Nat.xor_lt_two_pow ha hb
theorem hit_lt {e : List Int} (h : EntM xs e) (n : Int) (v : Nat) : hit n v e < 2 ^ xs.length := by
  unfold hit; split
  · exact pow_lt_pow (by have := h.lo2; have := h.hi2; omega)
  · exact Nat.two_pow_pos _
theorem actE_lt (n : Int) (v : Nat) : ∀ {Q : List (List Int)}, (∀ e ∈ Q, EntM xs e) → actE Q n v < 2 ^ xs.length
  | [], _ => Nat.two_pow_pos _
  | e :: Q, h => by
    rw [actE_cons]
    exact xr_lt (hit_lt (h e (List.mem_cons_self ..)) n v) (actE_lt n v fun f hf => h f (List.mem_cons_of_mem _ hf))
theorem act_lt (h : Shp xs Q) {v : Nat} (hv : v < 2 ^ xs.length) (n : Int) : act Q n v < 2 ^ xs.length := by
  unfold act; split
  · exact hv
  · exact actE_lt n v fun e he => h.mem he
theorem actE_big (n : Int) (v : Nat) : ∀ {Q : List (List Int)}, (∀ e ∈ Q, e.getD 0 0 ≠ n) → actE Q n v = 0
  | [], _ => rfl
  | e :: Q, h => by
    rw [actE_cons, actE_big n v fun f hf => h f (List.mem_cons_of_mem _ hf)]
    unfold hit
    rw [if_neg (fun hh => h e (List.mem_cons_self ..) hh.1)]; rfl
theorem act_big (h : Shp xs Q) {n : Int} (hn : 20 < n) (v : Nat) : act Q n v = 0 := by
  rw [act_pos (by omega)]
  exact actE_big n v fun e he => by have := h.le20 he; omega
theorem act_neg (h : Shp xs Q) {n : Int} (hn : n < 0) (v : Nat) : act Q n v = 0 := by
  rw [act_pos (by omega)]
  exact actE_big n v fun e he => by have := (h.mem he).pos; omega

/-! ### the table of squares -/
def sqStep (n i : Nat) (a : Nat) (e : List Int) : Nat := if e.getD 0 0 = (n : Int) ∧ e.getD 1 0 = (i : Int) then orr a (2 ^ (e.getD 2 0).toNat) else a
def sqOr (Q : List (List Int)) (n i : Nat) : Nat := Q.foldl (sqStep n i) (if n = 0 then 2 ^ i else 0)
def sqRow (Q : List (List Int)) (size n : Nat) : List Nat := (List.range size).map (sqOr Q n)
theorem sqRow_length (Q : List (List Int)) (size n : Nat) : (sqRow Q size n).length = size := by simp [sqRow]
theorem sqRow_getD (Q : List (List Int)) {size n i : Nat} (h : i < size) : (sqRow Q size n).getD i 0 = sqOr Q n i := by simp [sqRow, List.getD, h]
theorem orr_xr {a c : Nat} (h : tb a c = false) : orr a (2 ^ c) = xr a (2 ^ c) := by
  apply eq_of_tb
  intro n
  rw [tb_xr, tb_pow]
  unfold orr tb
  rw [Nat.testBit_or, Nat.testBit_two_pow]
  by_cases e : c = n
  · subst e; unfold tb at h; rw [h]; simp
  · simp [e]
theorem list3 {e : List Int} (h : e.length = 3) : e = [e.getD 0 0, e.getD 1 0, e.getD 2 0] := by
  match e, h with
  | [a, b, c], _ => rfl
theorem sq_fold (n i : Nat) : ∀ (Q : List (List Int)) (a : Nat), (∀ e ∈ Q, EntM xs e) → Q.Nodup → (∀ e ∈ Q, e.getD 0 0 = (n : Int) → e.getD 1 0 = (i : Int) → tb a (e.getD 2 0).toNat = false) → Q.foldl (sqStep n i) a = xr a (actE Q n (2 ^ i)) := by
  intro Q
  induction Q with
  | nil => intro a _ _ _; exact (xr_zero a).symm
  | cons e Q ih =>
    intro a hQ hnd hf
    have he := hQ e (List.mem_cons_self ..)
    have hnd' := List.nodup_cons.1 hnd
    rw [actE_cons, List.foldl_cons]
    by_cases hm : e.getD 0 0 = (n : Int) ∧ e.getD 1 0 = (i : Int)
    · have h1 : sqStep n i a e = xr a (2 ^ (e.getD 2 0).toNat) := by
        unfold sqStep; rw [if_pos hm]; exact orr_xr (hf e (List.mem_cons_self ..) hm.1 hm.2)
      have h2 : hit (n : Int) (2 ^ i) e = 2 ^ (e.getD 2 0).toNat := by
        unfold hit; rw [if_pos ⟨hm.1, by rw [tb_pow, hm.2]; simp⟩]
      rw [h1, h2, ih _ (fun f hf' => hQ f (List.mem_cons_of_mem _ hf')) hnd'.2, xr_assoc]
      intro f hf' g1 g2
      rw [tb_xr, tb_pow, hf f (List.mem_cons_of_mem _ hf') g1 g2]
      simp only [Bool.false_xor, decide_eq_false_iff_not]
      intro e2
      apply hnd'.1
      have hfe := hQ f (List.mem_cons_of_mem _ hf')
      have : f = e := by
        rw [list3 hfe.len, list3 he.len, g1, g2, hm.1, hm.2]
        have := hfe.lo2; have := he.lo2
        rw [show e.getD 2 0 = f.getD 2 0 by omega]
      rw [← this]; exact hf'
    · have h1 : sqStep n i a e = a := by unfold sqStep; rw [if_neg hm]
      have h2 : hit (n : Int) (2 ^ i) e = 0 := by
        unfold hit; rw [if_neg]
        intro hh
        apply hm
        refine ⟨hh.1, ?_⟩
        have := hh.2
        rw [tb_pow] at this
        simp only [decide_eq_true_eq] at this
        have := he.lo1
        omega
      rw [h1, h2, zero_xr, ih a (fun f hf' => hQ f (List.mem_cons_of_mem _ hf')) hnd'.2 (fun f hf' => hf f (List.mem_cons_of_mem _ hf'))]
theorem sqOr_act (h : Shp xs Q) (n i : Nat) : sqOr Q n i = act Q n (2 ^ i) := by
  unfold sqOr
  by_cases h0 : n = 0
  · subst h0
    rw [if_pos rfl]
    rw [sq_fold (xs := xs) 0 i Q _ (fun e he => h.mem he) h.asc.nodup (fun e he h1 => by have := (h.mem he).pos; omega)]
    rw [actE_big _ _ fun e he => by have := (h.mem he).pos; omega, xr_zero]
    exact (act0 Q _).symm
  · rw [if_neg h0, sq_fold (xs := xs) n i Q _ (fun e he => h.mem he) h.asc.nodup (fun e he _ _ => tb_zero _), zero_xr, act_pos (by omega)]
/-- the product with the rows of a square is the square -/
theorem sq_times (h : Shp xs Q) (n : Nat) {v : Nat} (hv : v < 2 ^ xs.length) : comb (sqRow Q xs.length n) 0 v = act Q n v :=
  lin_ext (f := comb (sqRow Q xs.length n) 0) (g := act Q n) (comb_xr _ 0) (act_lin Q n) xs.length (fun k hk => by
    have := comb_pow (sqRow Q xs.length n) 0 k
    rw [Nat.zero_add] at this
    rw [this, sqRow_getD Q hk, sqOr_act h]) v hv

/-! ### degrees -/
def Hom (xs : List Int) (d : Int) (v : Nat) : Prop := ∀ c, tb v c = true → c < xs.length ∧ xs.getD c 0 = d
theorem Hom.zero (xs : List Int) (d : Int) : Hom xs d 0 := fun c h => by rw [tb_zero] at h; cases h
theorem Hom.xr {d : Int} {v w : Nat} (hv : Hom xs d v) (hw : Hom xs d w) : Hom xs d (xr v w) := fun c h => by
  rw [tb_xr] at h
  cases h1 : tb v c
  · rw [h1] at h; exact hw c (by simpa using h)
  · exact hv c h1
theorem Hom.pow {i : Nat} (hi : i < xs.length) : Hom xs (xs.getD i 0) (2 ^ i) := fun c h => by
  rw [tb_pow] at h; simp only [decide_eq_true_eq] at h; subst h; exact ⟨hi, rfl⟩
theorem Hom.eq_zero {d : Int} {v : Nat} (hv : Hom xs d v) (h : ∀ i, i < xs.length → xs.getD i 0 ≠ d) : v = 0 := eq_of_tb fun c => by
  rw [tb_zero]
  cases hc : tb v c with
  | false => rfl
  | true => exact absurd (hv c hc).2 (h c (hv c hc).1)
theorem Hom.lt {d : Int} {v : Nat} (hv : Hom xs d v) : v < 2 ^ xs.length := lt_of_tb fun m hm => by
  cases hc : tb v m with
  | false => rfl
  | true => have := (hv m hc).1; omega
theorem hom_hit {e : List Int} (he : EntM xs e) (n d : Int) {v : Nat} (hv : Hom xs d v) : Hom xs (d + n) (hit n v e) := by
  unfold hit; split
  · rename_i h
    have h1 := (hv _ h.2).2
    have h2 := he.dg
    rw [h1, h.1] at h2
    rw [← h2]
    exact Hom.pow (by have := he.lo2; have := he.hi2; omega)
  · exact Hom.zero _ _
theorem hom_actE (n d : Int) {v : Nat} (hv : Hom xs d v) : ∀ {Q : List (List Int)}, (∀ e ∈ Q, EntM xs e) → Hom xs (d + n) (actE Q n v)
  | [], _ => Hom.zero _ _
  | e :: Q, h => by
    rw [actE_cons]
    exact (hom_hit (h e (List.mem_cons_self ..)) n d hv).xr (hom_actE n d hv fun f hf => h f (List.mem_cons_of_mem _ hf))
theorem act_hom (h : Shp xs Q) {n d : Int} {v : Nat} (hv : Hom xs d v) : Hom xs (d + n) (act Q n v) := by
  unfold act; split
  · rename_i h0; subst h0; rw [Int.add_zero]; exact hv
  · exact hom_actE n d hv fun e he => h.mem he
theorem Shp.mono (h : Shp xs Q) : ∀ d i, i + d < xs.length → xs.getD i 0 ≤ xs.getD (i + d) 0 := by
  intro d
  induction d with
  | zero => intro i _; exact Int.le_refl _
  | succ d ih => intro i hi; exact Int.le_trans (ih i (by omega)) (h.srt (i + d) (by omega))
theorem Shp.mono' (h : Shp xs Q) {i j : Nat} (hij : i ≤ j) (hj : j < xs.length) : xs.getD i 0 ≤ xs.getD j 0 := by
  have := h.mono (j - i) i (by omega)
  rwa [show i + (j - i) = j by omega] at this

/-! ### Adem's relations -/
def xsumf {α : Type} (f : α → Nat) (l : List α) : Nat := l.foldl (fun x j => xr x (f j)) 0
theorem xsumf_cons {α : Type} (f : α → Nat) (a : α) (l : List α) : xsumf f (a :: l) = xr (f a) (xsumf f l) := by
  unfold xsumf; simp only [List.foldl_cons]; rw [xfold, zero_xr]
theorem xsumf_append {α : Type} (f : α → Nat) (l m : List α) : xsumf f (l ++ m) = xr (xsumf f l) (xsumf f m) := by
  induction l with
  | nil => exact (zero_xr _).symm
  | cons a l ih => rw [List.cons_append, xsumf_cons, xsumf_cons, ih, xr_assoc]
theorem xsumf_reverse {α : Type} (f : α → Nat) (l : List α) : xsumf f l.reverse = xsumf f l := by
  induction l with
  | nil => rfl
  | cons a l ih => rw [List.reverse_cons, xsumf_append, ih, xsumf_cons, xsumf_cons, xr_comm]; simp only [xsumf, List.foldl_nil]; rw [xr_zero]
theorem xsumf_map {α β : Type} (f : β → Nat) (g : α → β) (l : List α) : xsumf f (l.map g) = xsumf (fun a => f (g a)) l := by
  unfold xsumf; rw [List.foldl_map]
theorem xsumf_zero {α : Type} (f : α → Nat) : ∀ (l : List α), (∀ a ∈ l, f a = 0) → xsumf f l = 0
  | [], _ => rfl
  | a :: l, h => by rw [xsumf_cons, h a (List.mem_cons_self ..), xsumf_zero f l fun b hb => h b (List.mem_cons_of_mem _ hb)]; rfl
theorem xsumf_congr {α : Type} {f g : α → Nat} : ∀ (l : List α), (∀ a ∈ l, f a = g a) → xsumf f l = xsumf g l
  | [], _ => rfl
  | a :: l, h => by rw [xsumf_cons, xsumf_cons, h a (List.mem_cons_self ..), xsumf_congr l fun b hb => h b (List.mem_cons_of_mem _ hb)]
/-- does j occur in Adem's relation for a and b? -/
def relB (a b j : Nat) : Bool := an (b - j - 1) (a - 2 * j) == a - 2 * j
def relN (a b : Nat) : List Nat := (List.range (a / 2 + 1)).filter (relB a b)
def adem (Q : List (List Int)) (a b v : Nat) : Nat := xsumf (fun j => act Q ((a + b - j : Nat) : Int) (act Q (j : Int) v)) (relN a b)
def OkAt (Q : List (List Int)) (a b v : Nat) : Prop := act Q (a : Int) (act Q (b : Int) v) = adem Q a b v
structure IsMod (xs : List Int) (Q : List (List Int)) : Prop where
  shp : Shp xs Q
  ok : ∀ a b : Nat, 1 ≤ a → a < 2 * b → a + b ≤ 20 → ∀ i, i < xs.length → OkAt Q a b (2 ^ i)
noncomputable def modB (xs : List Int) (Q : List (List Int)) : Bool := @decide (IsMod xs Q) (Classical.propDecidable _)
theorem modB_iff : modB xs Q = true ↔ IsMod xs Q := by unfold modB; simp
theorem modB_false : modB xs Q = false ↔ ¬ IsMod xs Q := by unfold modB; simp
theorem mem_relN {a b j : Nat} (h : j ∈ relN a b) : 2 * j ≤ a ∧ relB a b j = true := by
  unfold relN at h
  rw [List.mem_filter, List.mem_range] at h
  exact ⟨by omega, h.2⟩
/-- beyond the span of the degrees nothing is left of two squares -/
theorem far_zero (h : Shp xs Q) {a b i : Nat} (hi : i < xs.length) (hs : ∀ j, j < xs.length → xs.getD j 0 < xs.getD i 0 + a + b) (c e : Nat) (hc : c + e = a + b) : act Q (c : Int) (act Q (e : Int) (2 ^ i)) = 0 := by
  have h1 := act_hom h (n := (c : Int)) (act_hom h (n := (e : Int)) (Hom.pow hi))
  exact h1.eq_zero fun j hj => by have := hs j hj; omega
theorem far_ok (h : Shp xs Q) {a b i : Nat} (hi : i < xs.length) (hab : a < 2 * b) (hs : ∀ j, j < xs.length → xs.getD j 0 < xs.getD i 0 + a + b) : OkAt Q a b (2 ^ i) := by
  unfold OkAt adem
  rw [far_zero h hi hs a b rfl, xsumf_zero]
  intro j hj
  have := (mem_relN hj).1
  exact far_zero h hi hs _ _ (by omega)
/-- the words of Adem's relation, in order -/
def ademW (a b j : Nat) : List Int := if j = 0 then [((a + b : Nat) : Int)] else [((a + b - j : Nat) : Int), (j : Int)]
def wordM (Q : List (List Int)) (w : List Int) (v : Nat) : Nat := w.foldr (fun n v => act Q n v) v
theorem wordM_adem (Q : List (List Int)) (a b j v : Nat) : wordM Q (ademW a b j) v = act Q ((a + b - j : Nat) : Int) (act Q (j : Int) v) := by
  unfold ademW; split
  · rename_i h; subst h; simp only [wordM, List.foldr_cons, List.foldr_nil, Int.natCast_zero]; rw [act0]; rfl
  · rfl
def ademF (a b : Nat) : List (List Int) := ((relN a b).reverse).map (ademW a b)
theorem adem_form (Q : List (List Int)) (a b v : Nat) : xsumf (fun w => wordM Q w v) (ademF a b) = adem Q a b v := by
  unfold ademF adem
  rw [xsumf_map, xsumf_reverse]
  exact xsumf_congr _ fun j _ => wordM_adem Q a b j v
end
end Go.Proofs.YtjhlmalpcelbaaaDoor

namespace Go.Proofs.YtjhlmalpcelbaaaDoor

def bit (v i : Nat) : Int := if tb v i = true then 1 else 0
theorem bit_bd (v i : Nat) : 0 ≤ bit v i ∧ bit v i ≤ 1 := by unfold bit; split <;> omega
theorem bit_one {v i : Nat} (h : tb v i = true) : bit v i = 1 := by unfold bit; rw [if_pos h]
theorem bit_none {v i : Nat} (h : tb v i = false) : bit v i = 0 := by unfold bit; rw [if_neg (by rw [h]; simp)]
theorem bit_iff (v i : Nat) : bit v i = 1 ↔ tb v i = true := by unfold bit; split <;> simp_all
theorem bit_xr (v w i : Nat) : bit (xr v w) i = (bit v i + bit w i) % 2 := by
  unfold bit; rw [tb_xr]; cases tb v i <;> cases tb w i <;> simp
def bitsL (v n : Nat) : List Int := (List.range n).map (bit v)
theorem bitsL_length (v n : Nat) : (bitsL v n).length = n := by simp [bitsL]
theorem bitsL_getD (v : Nat) {n i : Nat} (h : i < n) : (bitsL v n).getD i 0 = bit v i := by simp [bitsL, List.getD, h]
theorem list_ext_getD {x y : List Int} {n : Nat} (hx : x.length = n) (hy : y.length = n) (h : ∀ i, i < n → x.getD i 0 = y.getD i 0) : x = y := by
  apply List.ext_getElem (by omega)
  intro i h1 h2
  have := h i (by omega)
  simpa [List.getD, h1, h2] using this
theorem bitsL_inj {v w n : Nat} (hv : v < 2 ^ n) (hw : w < 2 ^ n) (h : bitsL v n = bitsL w n) : v = w := eq_of_tb fun m => by
  rcases Nat.lt_or_ge m n with hm | hm
  · have e : bit v m = bit w m := by rw [← bitsL_getD v hm, ← bitsL_getD w hm, h]
    cases h1 : tb v m <;> cases h2 : tb w m <;> simp [bit, h1, h2] at e <;> rfl
  · rw [tb_of_lt hv hm, tb_of_lt hw hm]
theorem bitsL_zero (n : Nat) : bitsL 0 n = List.replicate n 0 := list_ext_getD (bitsL_length _ _) (by simp) fun i hi => by
  rw [bitsL_getD _ hi, bit_none (tb_zero i)]; simp [List.getD, hi]
theorem set_getD (x : List Int) (c i : Nat) (y : Int) (hc : c < x.length) : (x.set c y).getD i 0 = if i = c then y else x.getD i 0 := by
  simp only [List.getD, List.getElem?_set]
  by_cases h : c = i
  · subst h; simp [hc]
  · simp [h, Ne.symm h]
theorem bitsL_flip (v : Nat) {n c : Nat} (h : c < n) : (bitsL v n).set c (1 - bit v c) = bitsL (xr v (2 ^ c)) n := list_ext_getD (by simp [bitsL_length]) (bitsL_length _ _) fun i hi => by
  rw [set_getD _ _ _ _ (by rw [bitsL_length]; exact h), bitsL_getD _ hi, bitsL_getD _ hi]
  unfold bit
  rw [tb_xr, tb_pow]
  by_cases e : i = c
  · subst e; simp; cases tb v i <;> simp
  · rw [if_neg e]; simp [show ¬ c = i from fun x => e x.symm]
theorem bitsL_unit {n k : Nat} (hk : k < n) : (List.replicate n (0 : Int)).set k 1 = bitsL (2 ^ k) n := by
  have := bitsL_flip 0 hk
  rw [bit_none (tb_zero k), zero_xr, bitsL_zero] at this
  simpa using this
theorem take_succ_getD {x : List Int} {k : Nat} (h : k < x.length) : x.take (k + 1) = x.take k ++ [x.getD k 0] := by
  rw [List.take_succ_eq_append_getElem h]; simp [List.getD, h]
theorem bitsL_take (v : Nat) {n k : Nat} (h : k < n) : (bitsL v n).take (k + 1) = (bitsL v n).take k ++ [bit v k] := by
  rw [take_succ_getD (by rw [bitsL_length]; exact h), bitsL_getD _ h]
end Go.Proofs.YtjhlmalpcelbaaaDoor

namespace Go.Proofs.YtjhlmalpcelbaaaDoor

/-! ### the mask of a list of digits -/
def mk : List Int → Nat
  | [] => 0
  | x :: v => (if x = 1 then 1 else 0) + 2 * mk v
theorem tb_mk : ∀ (v : List Int) (i : Nat), tb (mk v) i = decide (v.getD i 0 = 1)
  | [], i => by simp [mk, tb_zero]
  | x :: v, 0 => by
    unfold tb mk
    rw [Nat.testBit_zero]
    by_cases h : x = 1 <;> simp [h] <;> omega
  | x :: v, i + 1 => by
    have := tb_mk v i
    unfold tb at this ⊢
    rw [Nat.testBit_succ, show mk (x :: v) / 2 = mk v by rw [show mk (x :: v) = (if x = 1 then 1 else 0) + 2 * mk v from rfl]; split <;> omega, this]
    simp
theorem mk_lt (v : List Int) : mk v < 2 ^ v.length := lt_of_tb fun m hm => by
  rw [tb_mk]; simp [List.getD, List.getElem?_eq_none hm]
theorem mk_bits {v n : Nat} (h : v < 2 ^ n) : mk (bitsL v n) = v := eq_of_tb fun i => by
  rw [tb_mk]
  rcases Nat.lt_or_ge i n with hi | hi
  · rw [bitsL_getD _ hi]
    cases hb : tb v i
    · rw [bit_none hb]; rfl
    · rw [bit_one hb]; rfl
  · rw [tb_of_lt h hi]
    simp [List.getD, List.getElem?_eq_none (show (bitsL v n).length ≤ i by rw [bitsL_length]; exact hi)]
/-- is a list a vector of n digits? -/
def vecB (n : Nat) (v : List Int) : Bool := (v.all fun x => decide (0 ≤ x) && decide (x ≤ 1)) && decide (v.length = n)
theorem vecB_iff {n : Nat} {v : List Int} : vecB n v = true ↔ v.length = n ∧ ∀ i, i < v.length → 0 ≤ v.getD i 0 ∧ v.getD i 0 ≤ 1 := by
  unfold vecB
  rw [Bool.and_eq_true, List.all_eq_true, decide_eq_true_eq]
  constructor
  · rintro ⟨h1, h2⟩
    refine ⟨h2, fun i hi => ?_⟩
    have := h1 (v[i]) (List.getElem_mem hi)
    simpa [List.getD, hi] using this
  · rintro ⟨h1, h2⟩
    refine ⟨fun x hx => ?_, h1⟩
    obtain ⟨i, hi, rfl⟩ := List.getElem_of_mem hx
    simpa [List.getD, hi] using h2 i hi
theorem vec_bits {n : Nat} {v : List Int} (h : vecB n v = true) : v = bitsL (mk v) n ∧ mk v < 2 ^ n := by
  obtain ⟨h1, h2⟩ := vecB_iff.1 h
  refine ⟨list_ext_getD h1 (bitsL_length _ _) fun i hi => ?_, by have := mk_lt v; rwa [h1] at this⟩
  rw [bitsL_getD _ hi]
  obtain ⟨a, b⟩ := h2 i (by omega)
  unfold bit
  rw [tb_mk]
  by_cases e : v.getD i 0 = 1
  · rw [if_pos (by simpa using e)]; exact e
  · rw [if_neg (by simpa using e)]; omega
theorem vecB_bits {v n : Nat} : vecB n (bitsL v n) = true := vecB_iff.2 ⟨bitsL_length _ _, fun i hi => by
  rw [bitsL_length] at hi
  rw [bitsL_getD _ hi]; exact bit_bd v i⟩
theorem mk_take {v : List Int} {k : Nat} (hk : k < v.length) : mk (v.take (k + 1)) = orr (mk (v.take k)) (if v.getD k 0 = 1 then 2 ^ k else 0) := by
  apply eq_of_tb
  intro i
  have e : ∀ j, (v.take j).getD i 0 = if i < j then v.getD i 0 else 0 := fun j => by
    simp only [List.getD, List.getElem?_take]; split <;> rfl
  unfold orr
  rw [show tb (mk (v.take k) ||| (if v.getD k 0 = 1 then 2 ^ k else 0)) i = (tb (mk (v.take k)) i || tb (if v.getD k 0 = 1 then 2 ^ k else 0) i) by unfold tb; exact Nat.testBit_or ..]
  rw [tb_mk, tb_mk, e, e]
  by_cases h : v.getD k 0 = 1
  · rw [if_pos h, tb_pow]
    by_cases hi : i < k
    · simp [hi, show i < k + 1 by omega, show ¬ k = i by omega]
    · by_cases hik : i = k
      · subst hik; have h' := h; simp only [List.getD_eq_getElem?_getD] at h'; simp [h']
      · simp [hi, show ¬ i < k + 1 by omega, show ¬ k = i by omega]
  · rw [if_neg h, tb_zero]
    by_cases hi : i < k
    · simp [hi, show i < k + 1 by omega]
    · by_cases hik : i = k
      · subst hik; have h' := h; simp only [List.getD_eq_getElem?_getD] at h'; simp [h']
      · simp [hi, show ¬ i < k + 1 by omega]

/-! ### the digits of a degree -/
def dmTo (xs : List Int) (d : Int) : Nat → Nat
  | 0 => 0
  | k + 1 => if xs.getD k 0 = d then orr (dmTo xs d k) (2 ^ k) else dmTo xs d k
def dmask (xs : List Int) (d : Int) : Nat := dmTo xs d xs.length
theorem tb_orr (a b i : Nat) : tb (orr a b) i = (tb a i || tb b i) := by unfold tb orr; exact Nat.testBit_or ..
theorem tb_dmTo (xs : List Int) (d : Int) : ∀ k i, tb (dmTo xs d k) i = (decide (i < k) && decide (xs.getD i 0 = d))
  | 0, i => by simp [dmTo, tb_zero]
  | k + 1, i => by
    unfold dmTo
    by_cases h : xs.getD k 0 = d
    · rw [if_pos h, tb_orr, tb_dmTo xs d k, tb_pow]
      by_cases hi : i < k
      · simp [hi, show i < k + 1 by omega, show ¬ k = i by omega]
      · by_cases hik : i = k
        · subst hik; have h' := h; simp only [List.getD_eq_getElem?_getD] at h'; simp [h']
        · simp [hi, show ¬ i < k + 1 by omega, show ¬ k = i by omega]
    · rw [if_neg h, tb_dmTo xs d k]
      by_cases hi : i < k
      · simp [hi, show i < k + 1 by omega]
      · by_cases hik : i = k
        · subst hik; have h' := h; simp only [List.getD_eq_getElem?_getD] at h'; simp [h']
        · simp [hi, show ¬ i < k + 1 by omega]
theorem tb_dmask (xs : List Int) (d : Int) (i : Nat) : tb (dmask xs d) i = (decide (i < xs.length) && decide (xs.getD i 0 = d)) := tb_dmTo xs d _ i
theorem dmTo_lt (xs : List Int) (d : Int) (k : Nat) : dmTo xs d k < 2 ^ k := lt_of_tb fun m hm => by rw [tb_dmTo]; simp; omega
theorem dmask_lt (xs : List Int) (d : Int) : dmask xs d < 2 ^ xs.length := dmTo_lt xs d _
/-- a without the digits of b -/
def nt (a b : Nat) : Nat := a ^^^ (a &&& b)
theorem tb_nt (a b i : Nat) : tb (nt a b) i = (tb a i && !tb b i) := by
  unfold tb nt
  rw [Nat.testBit_xor, Nat.testBit_and]
  cases a.testBit i <;> cases b.testBit i <;> rfl
theorem nt_lt {a b n : Nat} (ha : a < 2 ^ n) : nt a b < 2 ^ n := lt_of_tb fun m hm => by rw [tb_nt, tb_of_lt ha hm]; rfl
theorem nt_hom {xs : List Int} {d : Int} {v : Nat} : nt v (dmask xs d) = 0 ↔ Hom xs d v := by
  constructor
  · intro h c hc
    have := congrArg (fun z => tb z c) h
    simp only [tb_nt, tb_zero, hc, tb_dmask] at this
    simpa using this
  · intro h
    apply eq_of_tb
    intro c
    rw [tb_nt, tb_zero, tb_dmask]
    cases hc : tb v c with
    | false => rfl
    | true => obtain ⟨a, b⟩ := h c hc; rw [decide_eq_true a, decide_eq_true b]; rfl

/-! ### maps -/
structure MapP (xs : List Int) (Q : List (List Int)) (ys : List Int) (R P : List (List Int)) : Prop where
  len : P.length = xs.length
  vec : ∀ i, i < P.length → vecB ys.length (P.getD i []) = true
  hom : ∀ i, i < P.length → Hom ys (xs.getD i 0) (mk (P.getD i []))
  eqn : ∀ i, i < P.length → ∀ j : Nat, 1 ≤ j → j ≤ 20 → comb (P.map mk) 0 (act Q (j : Int) (2 ^ i)) = act R (j : Int) (mk (P.getD i []))
noncomputable def mapB (xs : List Int) (Q : List (List Int)) (ys : List Int) (R P : List (List Int)) : Bool := @decide (MapP xs Q ys R P) (Classical.propDecidable _)
theorem mapB_iff {xs : List Int} {Q : List (List Int)} {ys : List Int} {R P : List (List Int)} : mapB xs Q ys R P = true ↔ MapP xs Q ys R P := by unfold mapB; simp
theorem mapB_no {xs : List Int} {Q : List (List Int)} {ys : List Int} {R P : List (List Int)} (h : ¬ MapP xs Q ys R P) : mapB xs Q ys R P = false := by unfold mapB; simp [h]
theorem mapB_yes {xs : List Int} {Q : List (List Int)} {ys : List Int} {R P : List (List Int)} (h : MapP xs Q ys R P) : mapB xs Q ys R P = true := mapB_iff.2 h
theorem mks_getD {P : List (List Int)} {i : Nat} (h : i < P.length) : (P.map mk).getD i 0 = mk (P.getD i []) := by simp [List.getD, h]
theorem comb_lt {S : List Nat} {n : Nat} (h : ∀ r ∈ S, r < 2 ^ n) : ∀ i x, comb S i x < 2 ^ n := by
  induction S with
  | nil => intro i x; exact Nat.two_pow_pos _
  | cons r S ih =>
    intro i x
    simp only [comb]
    refine xr_lt ?_ (ih (fun s hs => h s (List.mem_cons_of_mem _ hs)) _ _)
    split
    · exact h r (List.mem_cons_self ..)
    · exact Nat.two_pow_pos _
theorem mks_lt {P : List (List Int)} {n : Nat} (h : ∀ i, i < P.length → vecB n (P.getD i []) = true) : ∀ r ∈ P.map mk, r < 2 ^ n := by
  intro r hr
  obtain ⟨p, hp, rfl⟩ := List.mem_map.1 hr
  obtain ⟨i, hi, rfl⟩ := List.getElem_of_mem hp
  have := h i hi
  simp only [List.getD, hi, List.getElem?_eq_getElem, Option.getD_some] at this
  exact (vec_bits this).2
end Go.Proofs.YtjhlmalpcelbaaaDoor
