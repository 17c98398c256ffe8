/- the reference's l12Unknowns · rows of []int of the call's own (written by mkownq.py from texts Rw, My) · the reference's l02Low, l02Without -/
import Derived.Test.YtocllmhkppkfoaaGreatDoorZak
import Derived.Test.YtocllmhkppkfoaaGreatDoorZao
import Derived.Test.YtocllmhkppkfoaaGreatDoorZah
import Derived.Test.YtocllmhkppkfoaaGreatDoorZae
import Derived.Test.YtocllmhkppkfoaaGreatDoorZaa
namespace Go.Proofs.YtocllmhkppkfoaaGreatDoor
open Go.RowKit

def pairI (p : Nat × Nat) : List Int := [(p.1 : Int), (p.2 : Int)]
theorem own_two (w : World) (B : Nat) (hB : B ≤ w.heap.size) (x y : Int) : (w.alloc (.cells #[.int .i64 x, .int .i64 y] 2)).ownsRow B 2 1 (.slice (some ⟨w.heap.size, 0, none⟩) 2 2) 2 (iv [x, y]) :=
  ⟨by simp [iv], .inr ⟨w.heap.size, 2, _, rfl, hB, blk_new w _, Nat.le_refl _, by unfold maxLen; omega, rfl, by simp [iv]⟩⟩
set_option maxRecDepth 100000 in
set_option maxHeartbeats 4000000 in
theorem l12Unknowns_any (A A' B B' : Option Addr) (n c m c' p d q d' : Nat) (xs ys : List Int) (w : World) (hn : n = xs.length) (hp : p = ys.length) (hn16 : n ≤ 16) (hp16 : p ≤ 16) (hR : Rd w A (iv xs)) (hS : Rd w B (iv ys)) :
    Calls Tryz.prog 18 #[.agg #[.slice A n c, .slice A' m c'], .agg #[.slice B p d, .slice B' q d']] w fun e w' => ∃ A1 c1 R, e = .returned (.slice A1 R.length c1) ∧ dat R = (unk xs ys).map pairI ∧ OwnR w' w.heap.size (.slice A1 R.length c1) R ∧ Below w.heap.size w w' := by
  obtain ⟨hb0, hk1, hk2⟩ := box_two w A A' B B' n c m c' p d q d'
  have hz0 : ((w.alloc (.cells #[.slice A n c, .slice A' m c'] 29)).alloc (.cells #[.slice B p d, .slice B' q d'] 29)).heap.size = w.heap.size + 1 + 1 := by simp
  have HR := Lib.hid hR
  have HS := Lib.hid hS
  have Hn := Lib.hid hn
  have Hp := Lib.hid hp
  clear hR hS hn hp
  go_enter Tryz.func18, Tryz.ntmps18
  go_wp2_with fail
  generalize (w.alloc (.cells #[.slice A n c, .slice A' m c'] 29)).alloc (.cells #[.slice B p d, .slice B' q d'] 29) = w0 at *
  have HB0 := Lib.hid hb0
  have HK1 := Lib.hid hk1
  have HK2 := Lib.hid hk2
  have hs0 := hb0.size
  rw [← hz0]
  clear hb0 hk1 hk2 hz0
  go_loopw [5, 6] (fun vv i wr => ∃ (j : Nat) (R : List Row) (A1 : Option Addr) (c1 : Nat), j ≤ n ∧ i = .int .i64 j ∧ vv = .slice A1 R.length c1 ∧ Hid (dat R = (unkI xs ys j).map pairI) ∧ OwnR wr w0.heap.size (.slice A1 R.length c1) R ∧ Below w0.heap.size w0 wr) (fun _ i _ => n - (intOf i).toNat)
  case atStart => exact ⟨0, [], some ⟨w0.heap.size, 0, none⟩, 0, by omega, rfl, rfl, Lib.hid rfl, OwnR.made w0 (Nat.le_refl _), (Below.refl _ _).alloc (Nat.le_refl _) _⟩
  case round =>
    obtain ⟨j, R, A1, c1, hj, rfl, rfl, HD, hown, hbel⟩ := hrel
    have HO := Lib.hid hown
    have HB := Lib.hid hbel
    have hsz := hbel.size
    obtain ⟨x0, x1, xf0, xf1, lx⟩ := blk2cells (blk_kept HK1.out hbel)
    by_cases hlt : j < n
    · clear hown hbel
      go_wp2_with fail
      clear x0 x1 xf0 xf1 lx
      go_loopw [5, 7] (fun vv i wr => ∃ (k : Nat) (R : List Row) (A1 : Option Addr) (c1 : Nat), k ≤ p ∧ i = .int .i64 k ∧ vv = .slice A1 R.length c1 ∧ Hid (dat R = (unkI xs ys j ++ unkC xs ys j k).map pairI) ∧ OwnR wr w0.heap.size (.slice A1 R.length c1) R ∧ Below w0.heap.size w0 wr) (fun _ i _ => p - (intOf i).toNat)
      case atStart => exact ⟨0, R, A1, c1, by omega, rfl, rfl, Lib.hid (by rw [HD.out]; simp [unkC]), HO.out, HB.out⟩
      case round =>
        obtain ⟨k, R, A1, c1, hk, rfl, rfl, HD, hown, hbel⟩ := hrel
        have HO := Lib.hid hown
        have HB := Lib.hid hbel
        have hsz := hbel.size
        obtain ⟨x0, x1, xf0, xf1, lx⟩ := blk2cells (blk_kept HK1.out hbel)
        obtain ⟨y0, y1, yf0, yf1, ly⟩ := blk2cells (blk_kept HK2.out hbel)
        by_cases hkp : k < p
        · have hb3 := HB0.out.trans (hbel.mono hs0)
          obtain ⟨b1, o1, rfl, hc1⟩ := (HR.out.below hb3).atI (k := j) (by rw [← Hn.out]; exact hlt)
          obtain ⟨b2, o2, rfl, hc2⟩ := (HS.out.below hb3).atI (k := k) (by rw [← Hp.out]; exact hkp)
          have hU := unkC_succ xs ys j k
          have hRl : R.length ≤ 512 := by
            have h1 := congrArg List.length HD.out
            rw [dat_length, List.length_map, List.length_append] at h1
            have h2 := unkI_len xs ys j
            have h3 : (unkC xs ys j k).length ≤ k := by unfold unkC; rw [List.length_map]; exact Nat.le_trans (List.length_filter_le _ _) (by simp)
            have h4 : j * ys.length ≤ 16 * 16 := Nat.mul_le_mul (by omega) (by rw [← Hp.out]; omega)
            omega
          have hq : R.length < 1099511627776 := by omega
          by_cases he : xs.getD j 0 = ys.getD k 0
          · rw [if_pos he] at hU
            have HU := Lib.hid hU
            have heb : (xs.getD j 0 == ys.getD k 0) = true := by simpa using he
            generalize xs.getD j 0 = x at *
            generalize ys.getD k 0 = y at *
            clear hown hbel hU he hb3 hRl
            go_wp2_with fail
            go_quiet (fail)
            have HB1 := Lib.hid ((below_drewN (Below.refl wr.heap.size wr) nq).alloc (Nat.le_refl _) (.cells #[.int .i64 (j : Int), .int .i64 (k : Int)] 2))
            have HN2 := Lib.hid (own_two (wr.drewN nq) wr.heap.size (Nat.le_refl _) (j : Int) (k : Int))
            have HOL := Lib.hid (HO.out.later HB1.out)
            have hsd : (wr.drewN nq).heap.size = wr.heap.size := rfl
            go_wp2_with (at_builtin; refine wpList_app1 _ _ _ _ _ etS (by rfl) (by rfl) w0.heap.size (.slice A1 R.length c1) R.length (hv R) (by rfl) (HOL.out.out.alloc _) _ (.slice (some ⟨wr.heap.size, 0, none⟩) 2 2) (by rfl) (new_cell1 (wr.drewN nq) _ _ _) (by rfl) hq (Nat.le_trans (Nat.le_trans hsz HB1.out.size) (Nat.le_of_lt (by simp))) ?_; (intro g2 c2 w3 hown3 hg3 hat3 hlt3; have HN := Lib.hid (OwnR.push HO.out HB1.out HN2.out rfl hsz hown3 hg3); have HB3 := Lib.hid (below_app2 (HB.out.trans (HB1.out.mono hsz)) (Nat.le_trans hsz HB1.out.size) HOL.out.out hg3); clear hown3 hg3 hat3 hlt3))
            go_roundw
            case rel =>
              refine ⟨k + 1, R ++ [⟨some ⟨wr.heap.size, 0, none⟩, 2, [(j : Int), (k : Int)]⟩], some ⟨g2, 0, none⟩, c2, by omega, by go_num, by simp, Lib.hid ?_, by simpa using HN.out, HB3.out⟩
              rw [dat_append1, HD.out, HU.out, ← List.append_assoc, List.map_append (l₁ := unkI xs ys j ++ unkC xs ys j k)]; rfl
            case measure => simp [intOf]; omega
          · rw [if_neg he, List.append_nil] at hU
            have HD' : Hid (dat R = (unkI xs ys j ++ unkC xs ys j (k + 1)).map pairI) := Lib.hid (by rw [hU]; exact HD.out)
            have heb : (xs.getD j 0 == ys.getD k 0) = false := by simpa using he
            generalize xs.getD j 0 = x at *
            generalize ys.getD k 0 = y at *
            clear hown hbel hU he hb3 hRl
            go_wp2_with fail
            go_quiet (fail)
            go_wp2_with fail
            go_roundw
            case rel => exact ⟨k + 1, R, A1, c1, by omega, by go_num, rfl, HD', HO.out.drewN _, below_drewN HB.out _⟩
            case measure => simp [intOf]; omega
        · obtain rfl : k = p := by omega
          have HD' : Hid (dat R = (unkI xs ys (j + 1)).map pairI) := Lib.hid (by rw [HD.out, Hp.out]; rfl)
          clear hown hbel
          go_wp2_with fail
          go_roundw
          case rel => exact ⟨j + 1, R, A1, c1, by omega, by go_num, rfl, HD', HO.out, HB.out⟩
          case measure => simp [intOf]; omega
    · obtain rfl : j = n := by omega
      have HD' : Hid (dat R = (unk xs ys).map pairI) := Lib.hid (by rw [HD.out]; unfold unk; rw [Hn.out])
      clear hown hbel
      go_wp2_with fail
      go_ret
      exact ⟨A1, c1, R, rfl, HD'.out, HO.out.mono hs0, HB0.out.trans (HB.out.mono hs0)⟩
end Go.Proofs.YtocllmhkppkfoaaGreatDoor

namespace Go.Proofs.YtocllmhkppkfoaaGreatDoor
open Go.RowKit

theorem etQ : ET Tryz.prog 40 52 24 := ET.mk' (z := .slice none 0 0) Tryz.underlying40 (by kernel_rfl) (by decide) (by decide)
theorem own_twoQ (w : World) (B : Nat) (hB : B ≤ w.heap.size) (x y : Int) : (w.alloc (.cells #[.int .i64 x, .int .i64 y] 3)).ownsRow B 3 1 (.slice (some ⟨w.heap.size, 0, none⟩) 2 2) 2 (iv [x, y]) :=
  ⟨by simp [iv], .inr ⟨w.heap.size, 2, _, rfl, hB, blk_new w _, Nat.le_refl _, by unfold maxLen; omega, rfl, by simp [iv]⟩⟩
/-- Rows of rows of the call's own: the outer one, the inner ones, no two of these in one block. -/
structure OwnQ (w : World) (B : Nat) (v : Value) (L : List Row) : Prop where
  out : w.ownsRow B 52 1 v L.length (hv L)
  inn : ∀ i, i < L.length → w.ownsRow B 3 1 (rg L i).val (rg L i).xs.length (iv (rg L i).xs)
  dis : ∀ i j, i < L.length → j < L.length → i ≠ j → (rg L i).val.ownBlock = none ∨ (rg L i).val.ownBlock ≠ (rg L j).val.ownBlock

section
variable {w w' : World} {B : Nat} {v : Value} {L : List Row}
theorem OwnQ.rd {A : Option Addr} {n c : Nat} (h : OwnQ w B (.slice A n c) L) (hn : n = L.length) : RdR w A L := by
  subst hn
  exact ⟨owns_Rd h.out, fun i hi => owns_Rd (h.inn i hi), fun i hi => owns_cap (h.inn i hi)⟩
theorem OwnQ.oi (h : OwnQ w B v L) {i : Nat} (hi : i < L.length) : v.ownBlock = none ∨ v.ownBlock ≠ (rg L i).val.ownBlock := own_ne2 h.out (h.inn i hi) (by decide)
theorem OwnQ.io (h : OwnQ w B v L) {i : Nat} (hi : i < L.length) : (rg L i).val.ownBlock = none ∨ (rg L i).val.ownBlock ≠ v.ownBlock := own_ne2 (h.inn i hi) h.out (by decide)
theorem OwnQ.keeps {S : List (Option Nat)} (h : OwnQ w B v L) (hk : Keeps w w' S) (h1 : v.ownBlock = none ∨ v.ownBlock ∉ S) (h2 : ∀ i, i < L.length → (rg L i).val.ownBlock = none ∨ (rg L i).val.ownBlock ∉ S) : OwnQ w' B v L :=
  ⟨owns_keeps h.out hk h1, fun i hi => owns_keeps (h.inn i hi) hk (h2 i hi), h.dis⟩
theorem OwnQ.later (h : OwnQ w B v L) (hb : Below w.heap.size w w') : OwnQ w' B v L := h.keeps (Keeps.of_below hb) (.inr (by simp)) (fun _ _ => .inr (by simp))
theorem OwnQ.mono {B' : Nat} (h : OwnQ w B v L) (hB : B' ≤ B) : OwnQ w B' v L := ⟨h.out.mono hB, fun i hi => (h.inn i hi).mono hB, h.dis⟩
theorem OwnQ.drewN (h : OwnQ w B v L) (m : Nat) : OwnQ (w.drewN m) B v L := h.keeps (S := []) (Keeps.ofDrewN w m) (.inr (by simp)) (fun _ _ => .inr (by simp))
/-- an inner row stored at place j of the outer one -/
theorem OwnQ.put {g n c j : Nat} {r : Row} (h : OwnQ w B (.slice (some ⟨g, 0, none⟩) n c) L) (hn : n = L.length) (hj : j < L.length) (hr : w.ownsRow B 3 1 r.val r.xs.length (iv r.xs))
    (hd : ∀ i, i < L.length → i ≠ j → r.val.ownBlock = none ∨ r.val.ownBlock ≠ (rg L i).val.ownBlock) :
    OwnQ (w.setCell ⟨g, j, none⟩ r.val) B (.slice (some ⟨g, 0, none⟩) n c) (L.set j r) := by
  subst hn
  have ks : Keeps w (w.setCell ⟨g, j, none⟩ r.val) [some g] := (Keeps.refl w [some g]).setCell (p := ⟨g, j, none⟩) (by simp) _
  have hrg : r.val.ownBlock = none ∨ r.val.ownBlock ∉ [some g] := by
    have := own_ne2 hr h.out (by decide)
    simpa [Value.ownBlock] using this
  refine ⟨?_, ?_, ?_⟩
  · have := (World.ownsRow.stored h.out j r.val).1
    rw [List.length_set]
    have e : hv (L.set j r) = (hv L).set j r.val := by simp [hv, List.map_set]
    rw [e]; exact this
  · intro i hi
    rw [List.length_set] at hi
    rw [rg_set hj]
    split
    · exact owns_keeps hr ks hrg
    · exact owns_keeps (h.inn i hi) ks (by have := h.io hi; simpa [Value.ownBlock] using this)
  · intro i i' hi hi' hne
    rw [List.length_set] at hi hi'
    rw [rg_set hj, rg_set hj]
    by_cases e1 : i = j
    · by_cases e2 : i' = j
      · omega
      · rw [if_pos e1, if_neg e2]; exact hd i' hi' e2
    · by_cases e2 : i' = j
      · rw [if_neg e1, if_pos e2]; exact none_or_symm (hd i hi e1)
      · rw [if_neg e1, if_neg e2]; exact h.dis i i' hi hi' hne
/-- an inner row written, the others as they were -/
theorem OwnQ.inset {j : Nat} {ys : List Int} (h : OwnQ w B v L) (hj : j < L.length) (hl : ys.length = (rg L j).xs.length) (hk : Keeps w w' [(rg L j).val.ownBlock])
    (hr : w'.ownsRow B 3 1 (rg L j).val (rg L j).xs.length (iv ys)) : OwnQ w' B v (L.set j ⟨(rg L j).A, (rg L j).c, ys⟩) := by
  have ev : Row.val ⟨(rg L j).A, (rg L j).c, ys⟩ = (rg L j).val := by simp [Row.val, hl]
  refine ⟨?_, ?_, ?_⟩
  · rw [List.length_set]
    have e : hv (L.set j ⟨(rg L j).A, (rg L j).c, ys⟩) = hv L := by
      unfold hv
      rw [List.map_set, ev, rg_of hj]
      apply List.ext_getElem?
      intro i
      rw [List.getElem?_set]
      split
      · rename_i e; subst e; simp [hj]
      · rfl
    rw [e]
    exact owns_keeps h.out hk (by have := h.oi hj; simpa using this)
  · intro i hi
    rw [List.length_set] at hi
    rw [rg_set hj]
    split
    · rw [ev]; simp only [hl]; exact hr
    · rename_i hne
      exact owns_keeps (h.inn i hi) hk (by have := h.dis i j hi hj hne; simpa using this)
  · intro i i' hi hi' hne
    rw [List.length_set] at hi hi'
    rw [rg_set hj, rg_set hj]
    by_cases e1 : i = j
    · by_cases e2 : i' = j
      · omega
      · rw [if_pos e1, if_neg e2, ev, ← e1]; exact h.dis i i' hi hi' hne
    · by_cases e2 : i' = j
      · rw [if_neg e1, if_pos e2, ev, ← e2]; exact h.dis i i' hi hi' hne
      · rw [if_neg e1, if_neg e2]; exact h.dis i i' hi hi' hne
/-- an inner row appended -/
theorem OwnQ.app {g c : Nat} {o : Obj} {r : Row} (h : OwnQ w B v L) (hr : w.ownsRow B 3 1 r.val r.xs.length (iv r.xs)) (hd : ∀ i, i < L.length → r.val.ownBlock = none ∨ r.val.ownBlock ≠ (rg L i).val.ownBlock)
    (hown : w'.ownsRow B 52 1 (.slice (some ⟨g, 0, none⟩) (L.length + 1) c) (L.length + 1) (hv L ++ [r.val])) (hg : (w.alloc o).grownBy w' v.ownBlock) :
    OwnQ w' B (.slice (some ⟨g, 0, none⟩) (L.length + 1) c) (L ++ [r]) := by
  have hk : Keeps w w' [v.ownBlock] := ((Keeps.refl w []).alloc o).trans (Keeps.of_grown hg) (by simp)
  have hrv : r.val.ownBlock = none ∨ r.val.ownBlock ≠ v.ownBlock := own_ne2 hr h.out (by decide)
  have e0 : ∀ i, i < L.length → rg (L ++ [r]) i = rg L i := fun i hi => by simp [rg, List.getD, List.getElem?_append, hi]
  have e1 : rg (L ++ [r]) L.length = r := by simp [rg, List.getD]
  refine ⟨?_, ?_, ?_⟩
  · rw [List.length_append]; simpa [hv] using hown
  · intro i hi
    rw [List.length_append] at hi
    simp only [List.length_singleton] at hi
    by_cases h1 : i < L.length
    · rw [e0 i h1]; exact owns_keeps (h.inn i h1) hk (by have := h.io h1; simpa using this)
    · have : i = L.length := by omega
      subst this
      rw [e1]; exact owns_keeps hr hk (by simpa using hrv)
  · intro i j hi hj hne
    rw [List.length_append] at hi hj
    simp only [List.length_singleton] at hi hj
    by_cases h1 : i < L.length
    · by_cases h2 : j < L.length
      · rw [e0 i h1, e0 j h2]; exact h.dis i j h1 h2 hne
      · have : j = L.length := by omega
        subst this
        rw [e0 i h1, e1]; exact none_or_symm (hd i h1)
    · have : i = L.length := by omega
      subst this
      rw [e1, e0 j (by omega)]; exact hd j (by omega)
theorem OwnQ.cell {g n c k : Nat} (h : OwnQ w B (.slice (some ⟨g, 0, none⟩) n c) L) (hn : n = L.length) (hk : k < L.length) : w.cell? ⟨g, k, none⟩ = some (rg L k).val ∧ w.frozen? ⟨g, k, none⟩ = false := by
  subst hn
  exact ⟨by rw [h.out.cellAt k (by omega)]; exact hv_get hk, h.out.frozenAt k⟩
theorem OwnQ.nil (w : World) (B : Nat) : OwnQ w B (.slice none 0 0) [] := ⟨World.ownsRow_nil _ _ _ _, (fun i hi => by cases hi), (fun i j hi => by cases hi)⟩
theorem OwnQ.made (w : World) (hB : B ≤ w.heap.size) : OwnQ (w.alloc (.cells #[] 52)) B (.slice (some ⟨w.heap.size, 0, none⟩) 0 0) [] :=
  ⟨World.ownsRow_made w #[] 0 hB (by decide) (by simp), (fun i hi => by cases hi), (fun i j hi => by cases hi)⟩
end
theorem OwnQ.push {wr w1 : World} {B g cap n : Nat} {v : Value} {R : List Row} {ws : List Int} (hR : OwnQ wr B v R) (hb : Below wr.heap.size wr w1) (ho : w1.ownsRow wr.heap.size 3 1 (.slice (some ⟨g, 0, none⟩) n cap) n (iv ws)) (hn : n = ws.length) (hB : B ≤ wr.heap.size)
    {o : Obj} {g2 c2 : Nat} {w3 : World} (hown : w3.ownsRow B 52 1 (.slice (some ⟨g2, 0, none⟩) (R.length + 1) c2) (R.length + 1) (hv R ++ [.slice (some ⟨g, 0, none⟩) n cap])) (hg : (w1.alloc o).grownBy w3 v.ownBlock) :
    OwnQ w3 B (.slice (some ⟨g2, 0, none⟩) (R.length + 1) c2) (R ++ [⟨some ⟨g, 0, none⟩, cap, ws⟩]) := by
  subst hn
  refine (hR.later hb).app (r := ⟨some ⟨g, 0, none⟩, cap, ws⟩) (ho.mono hB) ?_ hown hg
  intro i hi
  refine .inr fun e => ?_
  have h1 := (ho.lt g rfl).1
  have h2 := ((hR.inn i hi).lt g (by rw [← e]; rfl)).2
  omega

end Go.Proofs.YtocllmhkppkfoaaGreatDoor

namespace Go.Proofs.YtocllmhkppkfoaaGreatDoor
open Go.RowKit

def pw (p : Nat) : Nat := 2 ^ p
theorem low_val {a : Nat} (h0 : a ≠ 0) (h : Sm a) : bits .and .i64 (a : Int) (wrap64 (-(a : Int))) = ((pw (pv a) : Nat) : Int) := by
  unfold Sm at h
  obtain ⟨hl, hk⟩ := Lib.lowest_bit 64 a h0 (by omega)
  have e : wrap64 (-(a : Int)) = -(a : Int) := by unfold wrap64; omega
  have hp : 2 ^ pv a ≤ a := by
    have : a &&& (2 ^ 64 - a) ≤ a := Nat.and_le_left
    unfold pv; omega
  rw [e]
  show IntKind.i64.wrap ((BitVec.ofInt 64 (a : Int) &&& BitVec.ofInt 64 (-(a : Int))).toNat : Int) = _
  have e2 : (BitVec.ofInt 64 (-(a : Int))).toNat = 2 ^ 64 - a := by
    rw [BitVec.toNat_ofInt]
    omega
  rw [BitVec.toNat_and, ofInt64_nat a (by omega), e2, hl, IntKind.wrap_i64]
  unfold pw pv at *
  omega
theorem pw_sm {p : Nat} (h : p ≤ 62) : Sm (pw p) := by
  unfold Sm pw
  have : 2 ^ p ≤ 2 ^ 62 := Nat.pow_le_pow_right (by omega) h
  have e : (2 ^ 62 : Nat) = 4611686018427387904 := by decide
  omega
theorem and_pw (v p : Nat) : an v (pw p) = if tb v p then pw p else 0 := by
  apply Nat.eq_of_testBit_eq
  intro i
  unfold an pw tb
  rw [Nat.testBit_and, Nat.testBit_two_pow]
  by_cases h : p = i
  · subst h
    cases hb : v.testBit p <;> simp
  · split
    · rw [Nat.testBit_two_pow]; simp [h]
    · simp [h]
theorem and_pw_ne {v p : Nat} (hv : Sm v) (hp : p ≤ 62) : (bits .and .i64 (v : Int) ((pw p : Nat) : Int) != 0) = tb v p := by
  rw [i64_and_nat hv (pw_sm hp), and_pw]
  cases tb v p with
  | true => exact bne_iff_ne.2 (fun e => Nat.ne_of_gt (Nat.two_pow_pos p) (Int.ofNat_eq_zero.1 e))
  | false => rfl
theorem pw_lt (p q : Nat) : (((pw p : Nat) : Int) < ((pw q : Nat) : Int)) = (p < q) := by
  unfold pw
  rw [Int.ofNat_lt]
  exact propext (Nat.pow_lt_pow_iff_right (by omega))

theorem pw_ltN (p q : Nat) : (pw p < pw q) = (p < q) := by
  unfold pw; exact propext (Nat.pow_lt_pow_iff_right (by omega))

set_option maxHeartbeats 400000 in
theorem low_any (x : Nat) (h0 : x ≠ 0) (hx : Sm x) (w : World) : Calls Tryz.prog 28 #[.int .i64 x] w fun e w' => e = .returned (.int .i64 (pw (pv x))) ∧ w = w' := by
  have hl := low_val h0 hx
  go_enter Tryz.func28, Tryz.ntmps28
  go_wp2
  go_ret
  exact ⟨rfl, rfl⟩

theorem leftS_take_succ (S : List Nat) (x k : Nat) (h : k < S.length) : leftS (S.take (k + 1)) x = if tb (leftS (S.take k) x) (pv (S.getD k 0)) then xr (leftS (S.take k) x) (S.getD k 0) else leftS (S.take k) x := by
  unfold leftS; rw [fold_take_succ _ _ _ _ 0 h]

attribute [local go_sem] i64_xor_nat and_pw_ne in
set_option maxHeartbeats 1000000 in
theorem without_any (A : Option Addr) (n c : Nat) (S : List Nat) (x : Nat) (w : World) (hn : n = S.length) (hsmall : n ≤ 1000000) (hx : Sm x) (hS : ∀ r ∈ S, r ≠ 0 ∧ Sm r) (hA : Rd w A (nv S)) :
    Calls Tryz.prog 42 #[.slice A n c, .int .i64 x] w fun e w' => e = .returned (.int .i64 (leftS S x)) ∧ w = w' := by
  have Hn := Lib.hid hn; clear hn
  go_enter Tryz.func42, Tryz.ntmps42
  go_wp2_with fail
  go_loop [1, 5] (fun v i => ∃ k : Nat, k ≤ n ∧ i = .int .i64 k ∧ v = .int .i64 (leftS (S.take k) x)) (fun _ i => n - (intOf i).toNat)
  case atStart => exact ⟨0, by omega, rfl, rfl⟩
  case round =>
    obtain ⟨k, hk, rfl, rfl⟩ := hrel
    by_cases hlt : k < n
    · have hkL : k < S.length := by rw [← Hn.out]; exact hlt
      obtain ⟨b, o, rfl, hc⟩ := hA.atN hkL
      have hm : S.getD k 0 ∈ S := by simp [List.getD, hkL]
      obtain ⟨g0, g1⟩ := hS _ hm
      have Hs := Lib.hid (leftS_take_succ S x k hkL)
      have hp : Sm (leftS (S.take k) x) := leftS_sm (fun r hr => hS r (List.mem_of_mem_take hr)) hx
      generalize leftS (S.take k) x = v at *
      generalize S.getD k 0 = r at *
      have hpv := pv_le g0 g1
      have HL := Lib.hid (fun W => low_any r g0 g1 W)
      clear hA hS hm
      cases hb : tb v (pv r)
      all_goals
        go_wp2_with (go_at_call 28; refine (HL.out _).mono ?_; rintro e w' ⟨rfl, rfl⟩)
        go_round
        case rel => exact ⟨k + 1, by omega, by go_num, by rw [Hs.out, hb]; rfl⟩
        case measure => simp [intOf]; omega
    · have ek : S.take k = S := List.take_of_length_le (by rw [← Hn.out]; omega)
      rw [ek]
      go_wp2_with fail
      go_ret
      exact ⟨rfl, rfl⟩
end Go.Proofs.YtocllmhkppkfoaaGreatDoor
