/- the reference's l12Module -/
import Derived.Test.YtpchigdhnnkpcaaGreatDoorBxag
import Derived.Test.YtpchigdhnnkpcaaGreatDoorBxal
import Derived.Test.YtpchigdhnnkpcaaGreatDoorBxak
import Derived.Deep.RegionHeld3
import Derived.OwnWalk
set_option linter.all false
namespace Go.Proofs.YtpchigdhnnkpcaaGreatDoor
open Go.RowKit

theorem own_three (w : World) (B : Nat) (hB : B ≤ w.heap.size) (x y z : Int) : (w.alloc (.cells #[.int .i64 x, .int .i64 y, .int .i64 z] 2)).ownsRow B 2 1 (.slice (some ⟨w.heap.size, 0, none⟩) 3 3) 3 (iv [x, y, z]) :=
  ⟨by simp [iv], .inr ⟨w.heap.size, 3, _, rfl, hB, blk_new w _, Nat.le_refl _, by unfold maxLen; omega, rfl, by simp [iv]⟩⟩
theorem own_setBoxZ {w : World} {B : Nat} {v : Value} {n : Nat} {xs : List Value} {e : TypeId} {g k : Nat} {cs : Array Value} {t : TypeId} (h : w.ownsRow B e 1 v n xs) (hb : w.heap[g]? = some (.cells cs t (0, 0))) (h1 : e ≠ t) (x : Value) : (w.setCell ⟨g, k, none⟩ x).ownsRow B e 1 v n xs :=
  owns_keeps h ((Keeps.refl w [some g]).setCell (by simp) _) (.inr (by simpa using own_ne_blk h hb h1))
theorem OwnR.setBoxZ {w : World} {B : Nat} {v : Value} {L : List Row} {g k : Nat} {cs : Array Value} {t : TypeId} (h : OwnR w B v L) (hb : w.heap[g]? = some (.cells cs t (0, 0))) (h1 : 22 ≠ t) (h2 : 2 ≠ t) (x : Value) : OwnR (w.setCell ⟨g, k, none⟩ x) B v L :=
  h.keeps ((Keeps.refl w [some g]).setCell (by simp) _) (.inr (by simpa using own_ne_blk h.out hb h1)) (fun i hi => .inr (by simpa using own_ne_blk (h.inn i hi) hb h2))
theorem ret_mod {fn : Func} {pt : Tmp} (h : fn.results = #[.cell pt 29]) {a : Act} {w : World} {g : Nat} {v1 v2 : Value} {R : Ending → World → Prop} (hp : a.tmps.getD pt undef = .pointer (some ⟨g, 0, none⟩)) (hd : a.defers = [])
    (hg : w.heap[g]? = some (.cells #[v1, v2] 29 (0, 0))) (hR : R (.returned (.agg #[v1, v2])) w) : bodyPost Tryz.prog fn R .ret a w :=
  bodyPost_ret (results_cell_row h a.tmps w g _ _ _ _ hp hg Tryz.underlying29 rfl (by kernel_rfl)) hd hR
theorem partI_next (Q : List (List Int)) (S : List Nat) (j i : Nat) : partI Q S j (i + 1) = partI Q S j i ++ partC Q S j i S.length := rfl
/-- a new module: its degrees, its action, no two of the rows in one block -/
def ModOut (B : Nat) (ds : List Int) (E : List (List Int)) (v : Value) (w' : World) : Prop :=
  ∃ Ad cd A1 c1 R, v = .agg #[.slice Ad ds.length cd, .slice A1 R.length c1] ∧ w'.ownsRow B 2 1 (.slice Ad ds.length cd) ds.length (iv ds) ∧ dat R = E ∧ OwnR w' B (.slice A1 R.length c1) R ∧ ∀ i, i < R.length → (Value.slice Ad ds.length cd).ownBlock = none ∨ (Value.slice Ad ds.length cd).ownBlock ≠ (rg R i).val.ownBlock
theorem take_succ_getDI {l : List Int} {k : Nat} (h : k < l.length) : l.take (k + 1) = l.take k ++ [l.getD k 0] := by
  rw [List.take_succ_eq_append_getElem h]; simp [List.getD, h]
set_option maxRecDepth 100000 in
set_option maxHeartbeats 16000000 in
theorem l12Module_any (A A' C : Option Addr) (n c m c' k cc : Nat) (xs : List Int) (L : List Row) (S : List Nat) (w : World) (hM : ModR w A n A' m xs L) (hs : Shp xs (dat L)) (hk : k = S.length) (hk1 : k ≤ 16) (hS : ∀ r ∈ S, r ≠ 0 ∧ r < 2 ^ xs.length ∧ ∃ d, Hom xs d r) (hC : Rd w C (nv S)) :
    Calls Tryz.prog 54 #[.agg #[.slice A n c, .slice A' m c'], .slice C k cc] w fun e w' => ∃ v, e = .returned v ∧ ModOut w.heap.size (partD xs S) (partA (dat L) S) v w' ∧ Below w.heap.size w w' := by
  have hn16 : n ≤ 16 := by rw [hM.hn]; exact hs.len
  have hk0 := blk_new w (.cells #[.slice A n c, .slice A' m c'] 29)
  have hb0 : Below w.heap.size w (w.alloc (.cells #[.slice A n c, .slice A' m c'] 29)) := (Below.refl _ _).alloc (Nat.le_refl _) _
  have hk0b := blk_alloc (blk_alloc (blk_alloc hk0 (.cells #[.slice none 0 0, .slice none 0 0] 29)) (.cells #[] 22)) (.cells #[.slice none 0 0, .slice none 0 0] 29)
  have hk4 := blk_alloc (blk_alloc (blk_new (w.alloc (.cells #[.slice A n c, .slice A' m c'] 29)) (.cells #[.slice none 0 0, .slice none 0 0] 29)) (.cells #[] 22)) (.cells #[.slice none 0 0, .slice none 0 0] 29)
  have hk5 := blk_new (((w.alloc (.cells #[.slice A n c, .slice A' m c'] 29)).alloc (.cells #[.slice none 0 0, .slice none 0 0] 29)).alloc (.cells #[] 22)) (.cells #[.slice none 0 0, .slice none 0 0] 29)
  have hact := (OwnR.made ((w.alloc (.cells #[.slice A n c, .slice A' m c'] 29)).alloc (.cells #[.slice none 0 0, .slice none 0 0] 29)) (B := w.heap.size + 1 + 1) (by simp)).later ((Below.refl _ _).alloc (Nat.le_refl _) (.cells #[.slice none 0 0, .slice none 0 0] 29))
  have hbb : Below w.heap.size w ((((w.alloc (.cells #[.slice A n c, .slice A' m c'] 29)).alloc (.cells #[.slice none 0 0, .slice none 0 0] 29)).alloc (.cells #[] 22)).alloc (.cells #[.slice none 0 0, .slice none 0 0] 29)) := ((hb0.alloc (by simp) _).alloc (by simp; omega) _).alloc (by simp; omega) _
  have hz : ((((w.alloc (.cells #[.slice A n c, .slice A' m c'] 29)).alloc (.cells #[.slice none 0 0, .slice none 0 0] 29)).alloc (.cells #[] 22)).alloc (.cells #[.slice none 0 0, .slice none 0 0] 29)).heap.size = w.heap.size + 4 := by simp
  simp only [World.size_alloc] at hk4 hk5 hact
  have HSS : Hid (∀ r ∈ S, r ≠ 0 ∧ Sm r ∧ pv r < n) := Lib.hid (fun r hr => by
    obtain ⟨h1, h2, _⟩ := hS r hr
    have h3 := sm_of_lt (a := xs.length) (by have := hs.len; omega) h2
    exact ⟨h1, h3, by rw [hM.hn]; exact pv_lt h1 h3 h2⟩)
  have Hk := Lib.hid hk
  have Hn := Lib.hid hM.hn
  have HC := Lib.hid hC
  have HDG := Lib.hid hM.deg
  have HSH := Lib.hid hs
  have HSD := Lib.hid hS
  have HM := Lib.hid hM
  clear hk hC hS hs hM hb0 hk0
  go_enter Tryz.func54, Tryz.ntmps54
  go_wp2_with fail
  generalize (((w.alloc (.cells #[.slice A n c, .slice A' m c'] 29)).alloc (.cells #[.slice none 0 0, .slice none 0 0] 29)).alloc (.cells #[] 22)).alloc (.cells #[.slice none 0 0, .slice none 0 0] 29) = w0 at *
  have HB0 := Lib.hid hbb
  have HK0 := Lib.hid hk0b
  have HK4 := Lib.hid hk4
  have HK5 := Lib.hid hk5
  have HAC := Lib.hid hact
  clear hk0b hk4 hk5 hact hbb
  go_loopw [7] (fun s7 wr => ∃ (i : Nat) (Ad : Option Addr) (cd : Nat), i ≤ k ∧ s7 = .int .i64 i ∧ wr.ownsRow w0.heap.size 2 1 (.slice Ad i cd) i (iv ((partD xs S).take i)) ∧ wr.heap[w.heap.size + 1 + 1 + 1]? = some (.cells #[.slice Ad i cd, .slice none 0 0] 29 (0, 0)) ∧ Below (w.heap.size + 1 + 1 + 1) w0 wr) (fun s _ => k - (intOf s).toNat)
  case atStart => exact ⟨0, none, 0, by omega, rfl, World.ownsRow_nil _ _ _ _, HK5.out, Below.refl _ _⟩
  case round =>
    obtain ⟨i, Ad, cd, hi, rfl, hown, hk5, hbel⟩ := hrel
    have HO := Lib.hid hown
    have HB := Lib.hid hbel
    have HK5r := Lib.hid hk5
    by_cases hik : i < k
    · have hiS : i < S.length := by rw [← Hk.out]; exact hik
      have hbw := HB0.out.trans (hbel.mono (by omega : w.heap.size ≤ w.heap.size + 1 + 1 + 1))
      obtain ⟨b, o, rfl, hc⟩ := (HC.out.below hbw).atN hiS
      obtain ⟨h0, hsm, hpn⟩ := HSS.out _ (getD_mem hiS)
      have HTD : Hid ((partD xs S).take (i + 1) = (partD xs S).take i ++ [xs.getD (pv (S.getD i 0)) 0]) := Lib.hid (by rw [take_succ_getDI (by rw [partD_len]; exact hiS), partD_getD xs hiS])
      obtain ⟨bx, ox, rfl, hcx⟩ := (HDG.out.below hbw).atI (k := pv (S.getD i 0)) (by rw [← Hn.out]; exact hpn)
      have HBIT : Hid (∀ a, a < pv (S.getD i 0) → tb (S.getD i 0) a = false) := Lib.hid (fun a ha => tb_lt_pv h0 hsm ha)
      have HBPV := Lib.hid (tb_pv h0 hsm)
      generalize S.getD i 0 = r at *
      clear hown hbel hk5 hbw h0
      go_wp2_with fail
      go_loop [8] (fun s8 => ∃ a : Nat, a ≤ pv r ∧ s8 = .int .i64 a) (fun s => pv r - (intOf s).toNat)
      case atStart => exact ⟨0, by omega, rfl⟩
      case round =>
        obtain ⟨a, ha, rfl⟩ := hrel
        have hmin : min a 64 = a := by omega
        have hbn := i64_bit_nat (n := a) hsm
        by_cases hap : a < pv r
        · have hb := HBIT.out a hap
          rw [hb] at hbn
          simp only [Bool.toNat_false, Int.natCast_zero] at hbn
          go_wp2_with fail
          go_round
          case rel => exact ⟨a + 1, by omega, by go_num⟩
          case measure => simp [intOf]; omega
        · obtain rfl : a = pv r := by omega
          have hb := HBPV.out
          rw [hb] at hbn
          simp only [Bool.toNat_true, Int.natCast_one] at hbn
          obtain ⟨x0, x1, xf0, xf1, lx⟩ := blk2cells (blk_below HK0.out HB.out (by omega))
          obtain ⟨z0, z1, zf0, zf1, lz⟩ := blk2cells HK5r.out
          have hpni : ((pv r : Nat) : Int) < (n : Int) := by omega
          generalize xs.getD (pv r) 0 = y at *
          go_wp2_with fail
          refine wp_region_any (by kernel_rfl) ?_
          try (change wpAny _ _ _ _ _ _ _ (World.drew _))
          refine wpAny_take (i := 0) (oi := ?oio1_1) (v := ?vo1_1) ?ho1_1 (by kernel_rfl) (by kernel_rfl) (by kernel_rfl) ?qo1_1 (Or.inl ⟨?wo1_1, ?yo1_1⟩) ?ro1_1
          case ho1_1 => (simp only [List.getElem?_toArray, List.getElem?_cons_succ, List.getElem?_cons_zero]; rfl)
          case qo1_1 => exact fun _ _ _ h => h
          case wo1_1 => rfl
          case yo1_1 => (intro w; go_simp <;> with_reducible rfl)
          try simp only [Act.put, List.setIfInBounds_toArray, List.set_cons_zero, List.set_cons_succ]
          refine wpAny_take (i := 2) (oi := ?oio1_2) (v := ?vo1_2) ?ho1_2 (by kernel_rfl) (by kernel_rfl) (by kernel_rfl) ?qo1_2 (Or.inl ⟨?wo1_2, ?yo1_2⟩) ?ro1_2
          case ho1_2 => (simp only [List.getElem?_toArray, List.getElem?_cons_succ, List.getElem?_cons_zero]; rfl)
          case qo1_2 => exact fun _ _ _ h => h
          case wo1_2 => rfl
          case yo1_2 => (intro w; go_simp <;> with_reducible rfl)
          try simp only [Act.put, List.setIfInBounds_toArray, List.set_cons_zero, List.set_cons_succ]
          refine wpAny_take (i := 4) (oi := ?oio1_3) (v := ?vo1_3) ?ho1_3 (by kernel_rfl) (by kernel_rfl) (by kernel_rfl) ?qo1_3 (Or.inl ⟨?wo1_3, ?yo1_3⟩) ?ro1_3
          case ho1_3 => (simp only [List.getElem?_toArray, List.getElem?_cons_succ, List.getElem?_cons_zero]; rfl)
          case qo1_3 => exact fun _ _ _ h => h
          case wo1_3 => rfl
          case yo1_3 => (intro w; go_simp <;> with_reducible rfl)
          try simp only [Act.put, List.setIfInBounds_toArray, List.set_cons_zero, List.set_cons_succ]
          refine wpAny_ready (rs := [1, 3]) (by kernel_rfl) (by simp) ?_
          refine AllReady.cons (o := ?oio1_4) ?ho1_4 (fun K hK => ?ko1_4) ?mo1_4
          case ho1_4 => (simp only [List.getElem?_toArray, List.getElem?_cons_succ, List.getElem?_cons_zero]; rfl)
          case ko1_4 =>
            go_simp
            refine hK _ _ ?_
            clear hK K
            try simp only [Act.put, List.setIfInBounds_toArray, List.set_cons_zero, List.set_cons_succ]
            refine wpAny_ready (rs := [3]) (by kernel_rfl) (by simp) ?_
            refine AllReady.cons (o := ?oio1_5) ?ho1_5 (fun K hK => ?ko1_5) ?mo1_5
            case ho1_5 => (simp only [List.getElem?_toArray, List.getElem?_cons_succ, List.getElem?_cons_zero]; rfl)
            case ko1_5 =>
              go_simp
              refine hK _ _ ?_
              clear hK K
              try simp only [Act.put, List.setIfInBounds_toArray, List.set_cons_zero, List.set_cons_succ]
              refine wpAny_take (i := 5) (oi := ?oio1_6) (v := ?vo1_6) ?ho1_6 (by kernel_rfl) (by kernel_rfl) (by kernel_rfl) ?qo1_6 (Or.inl ⟨?wo1_6, ?yo1_6⟩) ?ro1_6
              case ho1_6 => (simp only [List.getElem?_toArray, List.getElem?_cons_succ, List.getElem?_cons_zero]; rfl)
              case qo1_6 => exact fun _ _ _ h => h
              case wo1_6 => rfl
              case yo1_6 => (intro w; go_simp <;> with_reducible rfl)
              try simp only [Act.put, List.setIfInBounds_toArray, List.set_cons_zero, List.set_cons_succ]
              refine wpAny_ready (rs := [6]) (by kernel_rfl) (by simp) ?_
              refine AllReady.cons (o := ?oio1_7) ?ho1_7 (fun K hK => ?ko1_7) ?mo1_7
              case ho1_7 => (simp only [List.getElem?_toArray, List.getElem?_cons_succ, List.getElem?_cons_zero]; rfl)
              case ko1_7 =>
                go_simp
                refine hK _ _ ?_
                clear hK K
                try simp only [Act.put, List.setIfInBounds_toArray, List.set_cons_zero, List.set_cons_succ]
                refine wpAny_ready (rs := [7]) (by kernel_rfl) (by simp) ?_
                refine AllReady.cons (o := ?oio1_8) ?ho1_8 (fun K hK => ?ko1_8) ?mo1_8
                case ho1_8 => (simp only [List.getElem?_toArray, List.getElem?_cons_succ, List.getElem?_cons_zero]; rfl)
                case ko1_8 =>
                  go_simp
                  refine hK _ _ ?_
                  clear hK K
                  try simp only [Act.put, List.setIfInBounds_toArray, List.set_cons_zero, List.set_cons_succ]
                  refine wpAny_ready (rs := [8]) (by kernel_rfl) (by simp) ?_
                  refine AllReady.cons (o := ?oio1_9) ?ho1_9 (fun K hK => ?ko1_9) ?mo1_9
                  case ho1_9 => (simp only [List.getElem?_toArray, List.getElem?_cons_succ, List.getElem?_cons_zero]; rfl)
                  case ko1_9 =>
                    (refine step_app1 _ _ _ _ _ etI (by rfl) (by rfl) w0.heap.size (.slice Ad i cd) i (iv ((partD xs S).take i)) (by rfl) ?_ _ (.int .i64 y) (by rfl) ?_ (by rfl) ?_ ?_ ?_; exact (HO.out.alloc _).drew; exact drew_cell (new_cell _ _ _); omega; (have := HB.out.size; simp; omega); (intro g1 cap1 w3 hown1 hgrow1 hat1 hlt1; have HO3 := Lib.hid hown1; have HB3 := Lib.hid (below_app2d HB.out (by have := HB.out.size; omega) (HO.out.mono (show w.heap.size + 1 + 1 + 1 ≤ w0.heap.size by omega)) hgrow1); have HK3 := Lib.hid (blk_grown (w := (wr.alloc (.cells #[.int .i64 y] 2)).drew) (blk_alloc HK5r.out _) hgrow1 (own_ne_blk HO.out HK5r.out (by decide))); clear hown1 hgrow1 hat1 hlt1 z0 z1 zf0 zf1 lz; obtain ⟨z0, z1, zf0, zf1, lz⟩ := blk2cells HK3.out))
                    refine hK _ _ ?_
                    clear hK K
                    try simp only [Act.put, List.setIfInBounds_toArray, List.set_cons_zero, List.set_cons_succ]
                    refine wpAny_take (i := 9) (oi := ?oio1_10) (v := ?vo1_10) ?ho1_10 (by kernel_rfl) (by kernel_rfl) (by kernel_rfl) ?qo1_10 (Or.inl ⟨?wo1_10, ?yo1_10⟩) ?ro1_10
                    case ho1_10 => (simp only [List.getElem?_toArray, List.getElem?_cons_succ, List.getElem?_cons_zero]; rfl)
                    case qo1_10 => exact fun _ _ _ h => h
                    case wo1_10 => rfl
                    case yo1_10 => (intro w; go_simp <;> with_reducible rfl)
                    try simp only [Act.put, List.setIfInBounds_toArray, List.set_cons_zero, List.set_cons_succ]
                    refine wpAny_ready (rs := [10]) (by kernel_rfl) (by simp) ?_
                    refine AllReady.cons (o := ?oio1_11) ?ho1_11 (fun K hK => ?ko1_11) ?mo1_11
                    case ho1_11 => (simp only [List.getElem?_toArray, List.getElem?_cons_succ, List.getElem?_cons_zero]; rfl)
                    case ko1_11 =>
                      go_simp
                      refine hK _ _ ?_
                      clear hK K
                      try simp only [Act.put, List.setIfInBounds_toArray, List.set_cons_zero, List.set_cons_succ]
                      refine wpAny_done (by kernel_rfl) ?_ _
                      go_wp2_with fail
                      go_roundw
                      case rel => exact ⟨i + 1, some ⟨g1, 0, none⟩, cap1, by omega, by go_num, by rw [HTD.out, iv_append]; exact own_setBoxZ HO3.out HK3.out (by decide) _, blk2set0' HK3.out _, HB3.out.setCell (p := ⟨w.heap.size + 1 + 1 + 1, 0, none⟩) (Nat.le_refl _) _⟩
                      case measure => simp [intOf]; omega
                    exact AllReady.nil
                  exact AllReady.nil
                exact AllReady.nil
              exact AllReady.nil
            exact AllReady.nil
          refine AllReady.cons (o := ?oio1_12) ?ho1_12 (fun K hK => ?ko1_12) ?mo1_12
          case ho1_12 => (simp only [List.getElem?_toArray, List.getElem?_cons_succ, List.getElem?_cons_zero]; rfl)
          case ko1_12 =>
            go_simp
            refine hK _ _ ?_
            clear hK K
            try simp only [Act.put, List.setIfInBounds_toArray, List.set_cons_zero, List.set_cons_succ]
            refine wpAny_take (i := 5) (oi := ?oio1_13) (v := ?vo1_13) ?ho1_13 (by kernel_rfl) (by kernel_rfl) (by kernel_rfl) ?qo1_13 (Or.inl ⟨?wo1_13, ?yo1_13⟩) ?ro1_13
            case ho1_13 => (simp only [List.getElem?_toArray, List.getElem?_cons_succ, List.getElem?_cons_zero]; rfl)
            case qo1_13 => exact fun _ _ _ h => h
            case wo1_13 => rfl
            case yo1_13 => (intro w; go_simp <;> with_reducible rfl)
            try simp only [Act.put, List.setIfInBounds_toArray, List.set_cons_zero, List.set_cons_succ]
            refine wpAny_ready (rs := [1, 6]) (by kernel_rfl) (by simp) ?_
            refine AllReady.cons (o := ?oio1_14) ?ho1_14 (fun K hK => ?ko1_14) ?mo1_14
            case ho1_14 => (simp only [List.getElem?_toArray, List.getElem?_cons_succ, List.getElem?_cons_zero]; rfl)
            case ko1_14 =>
              go_simp
              refine hK _ _ ?_
              clear hK K
              try simp only [Act.put, List.setIfInBounds_toArray, List.set_cons_zero, List.set_cons_succ]
              refine wpAny_ready (rs := [6]) (by kernel_rfl) (by simp) ?_
              refine AllReady.cons (o := ?oio1_15) ?ho1_15 (fun K hK => ?ko1_15) ?mo1_15
              case ho1_15 => (simp only [List.getElem?_toArray, List.getElem?_cons_succ, List.getElem?_cons_zero]; rfl)
              case ko1_15 =>
                go_simp
                refine hK _ _ ?_
                clear hK K
                try simp only [Act.put, List.setIfInBounds_toArray, List.set_cons_zero, List.set_cons_succ]
                refine wpAny_ready (rs := [7]) (by kernel_rfl) (by simp) ?_
                refine AllReady.cons (o := ?oio1_16) ?ho1_16 (fun K hK => ?ko1_16) ?mo1_16
                case ho1_16 => (simp only [List.getElem?_toArray, List.getElem?_cons_succ, List.getElem?_cons_zero]; rfl)
                case ko1_16 =>
                  go_simp
                  refine hK _ _ ?_
                  clear hK K
                  try simp only [Act.put, List.setIfInBounds_toArray, List.set_cons_zero, List.set_cons_succ]
                  refine wpAny_ready (rs := [8]) (by kernel_rfl) (by simp) ?_
                  refine AllReady.cons (o := ?oio1_17) ?ho1_17 (fun K hK => ?ko1_17) ?mo1_17
                  case ho1_17 => (simp only [List.getElem?_toArray, List.getElem?_cons_succ, List.getElem?_cons_zero]; rfl)
                  case ko1_17 =>
                    (refine step_app1 _ _ _ _ _ etI (by rfl) (by rfl) w0.heap.size (.slice Ad i cd) i (iv ((partD xs S).take i)) (by rfl) ?_ _ (.int .i64 y) (by rfl) ?_ (by rfl) ?_ ?_ ?_; exact (HO.out.alloc _).drew; exact drew_cell (new_cell _ _ _); omega; (have := HB.out.size; simp; omega); (intro g1 cap1 w3 hown1 hgrow1 hat1 hlt1; have HO3 := Lib.hid hown1; have HB3 := Lib.hid (below_app2d HB.out (by have := HB.out.size; omega) (HO.out.mono (show w.heap.size + 1 + 1 + 1 ≤ w0.heap.size by omega)) hgrow1); have HK3 := Lib.hid (blk_grown (w := (wr.alloc (.cells #[.int .i64 y] 2)).drew) (blk_alloc HK5r.out _) hgrow1 (own_ne_blk HO.out HK5r.out (by decide))); clear hown1 hgrow1 hat1 hlt1 z0 z1 zf0 zf1 lz; obtain ⟨z0, z1, zf0, zf1, lz⟩ := blk2cells HK3.out))
                    refine hK _ _ ?_
                    clear hK K
                    try simp only [Act.put, List.setIfInBounds_toArray, List.set_cons_zero, List.set_cons_succ]
                    refine wpAny_take (i := 9) (oi := ?oio1_18) (v := ?vo1_18) ?ho1_18 (by kernel_rfl) (by kernel_rfl) (by kernel_rfl) ?qo1_18 (Or.inl ⟨?wo1_18, ?yo1_18⟩) ?ro1_18
                    case ho1_18 => (simp only [List.getElem?_toArray, List.getElem?_cons_succ, List.getElem?_cons_zero]; rfl)
                    case qo1_18 => exact fun _ _ _ h => h
                    case wo1_18 => rfl
                    case yo1_18 => (intro w; go_simp <;> with_reducible rfl)
                    try simp only [Act.put, List.setIfInBounds_toArray, List.set_cons_zero, List.set_cons_succ]
                    refine wpAny_ready (rs := [10]) (by kernel_rfl) (by simp) ?_
                    refine AllReady.cons (o := ?oio1_19) ?ho1_19 (fun K hK => ?ko1_19) ?mo1_19
                    case ho1_19 => (simp only [List.getElem?_toArray, List.getElem?_cons_succ, List.getElem?_cons_zero]; rfl)
                    case ko1_19 =>
                      go_simp
                      refine hK _ _ ?_
                      clear hK K
                      try simp only [Act.put, List.setIfInBounds_toArray, List.set_cons_zero, List.set_cons_succ]
                      refine wpAny_done (by kernel_rfl) ?_ _
                      go_wp2_with fail
                      go_roundw
                      case rel => exact ⟨i + 1, some ⟨g1, 0, none⟩, cap1, by omega, by go_num, by rw [HTD.out, iv_append]; exact own_setBoxZ HO3.out HK3.out (by decide) _, blk2set0' HK3.out _, HB3.out.setCell (p := ⟨w.heap.size + 1 + 1 + 1, 0, none⟩) (Nat.le_refl _) _⟩
                      case measure => simp [intOf]; omega
                    exact AllReady.nil
                  exact AllReady.nil
                exact AllReady.nil
              exact AllReady.nil
            refine AllReady.cons (o := ?oio1_20) ?ho1_20 (fun K hK => ?ko1_20) ?mo1_20
            case ho1_20 => (simp only [List.getElem?_toArray, List.getElem?_cons_succ, List.getElem?_cons_zero]; rfl)
            case ko1_20 =>
              go_simp
              refine hK _ _ ?_
              clear hK K
              try simp only [Act.put, List.setIfInBounds_toArray, List.set_cons_zero, List.set_cons_succ]
              refine wpAny_ready (rs := [1, 7]) (by kernel_rfl) (by simp) ?_
              refine AllReady.cons (o := ?oio1_21) ?ho1_21 (fun K hK => ?ko1_21) ?mo1_21
              case ho1_21 => (simp only [List.getElem?_toArray, List.getElem?_cons_succ, List.getElem?_cons_zero]; rfl)
              case ko1_21 =>
                go_simp
                refine hK _ _ ?_
                clear hK K
                try simp only [Act.put, List.setIfInBounds_toArray, List.set_cons_zero, List.set_cons_succ]
                refine wpAny_ready (rs := [7]) (by kernel_rfl) (by simp) ?_
                refine AllReady.cons (o := ?oio1_22) ?ho1_22 (fun K hK => ?ko1_22) ?mo1_22
                case ho1_22 => (simp only [List.getElem?_toArray, List.getElem?_cons_succ, List.getElem?_cons_zero]; rfl)
                case ko1_22 =>
                  go_simp
                  refine hK _ _ ?_
                  clear hK K
                  try simp only [Act.put, List.setIfInBounds_toArray, List.set_cons_zero, List.set_cons_succ]
                  refine wpAny_ready (rs := [8]) (by kernel_rfl) (by simp) ?_
                  refine AllReady.cons (o := ?oio1_23) ?ho1_23 (fun K hK => ?ko1_23) ?mo1_23
                  case ho1_23 => (simp only [List.getElem?_toArray, List.getElem?_cons_succ, List.getElem?_cons_zero]; rfl)
                  case ko1_23 =>
                    (refine step_app1 _ _ _ _ _ etI (by rfl) (by rfl) w0.heap.size (.slice Ad i cd) i (iv ((partD xs S).take i)) (by rfl) ?_ _ (.int .i64 y) (by rfl) ?_ (by rfl) ?_ ?_ ?_; exact (HO.out.alloc _).drew; exact drew_cell (new_cell _ _ _); omega; (have := HB.out.size; simp; omega); (intro g1 cap1 w3 hown1 hgrow1 hat1 hlt1; have HO3 := Lib.hid hown1; have HB3 := Lib.hid (below_app2d HB.out (by have := HB.out.size; omega) (HO.out.mono (show w.heap.size + 1 + 1 + 1 ≤ w0.heap.size by omega)) hgrow1); have HK3 := Lib.hid (blk_grown (w := (wr.alloc (.cells #[.int .i64 y] 2)).drew) (blk_alloc HK5r.out _) hgrow1 (own_ne_blk HO.out HK5r.out (by decide))); clear hown1 hgrow1 hat1 hlt1 z0 z1 zf0 zf1 lz; obtain ⟨z0, z1, zf0, zf1, lz⟩ := blk2cells HK3.out))
                    refine hK _ _ ?_
                    clear hK K
                    try simp only [Act.put, List.setIfInBounds_toArray, List.set_cons_zero, List.set_cons_succ]
                    refine wpAny_take (i := 9) (oi := ?oio1_24) (v := ?vo1_24) ?ho1_24 (by kernel_rfl) (by kernel_rfl) (by kernel_rfl) ?qo1_24 (Or.inl ⟨?wo1_24, ?yo1_24⟩) ?ro1_24
                    case ho1_24 => (simp only [List.getElem?_toArray, List.getElem?_cons_succ, List.getElem?_cons_zero]; rfl)
                    case qo1_24 => exact fun _ _ _ h => h
                    case wo1_24 => rfl
                    case yo1_24 => (intro w; go_simp <;> with_reducible rfl)
                    try simp only [Act.put, List.setIfInBounds_toArray, List.set_cons_zero, List.set_cons_succ]
                    refine wpAny_ready (rs := [10]) (by kernel_rfl) (by simp) ?_
                    refine AllReady.cons (o := ?oio1_25) ?ho1_25 (fun K hK => ?ko1_25) ?mo1_25
                    case ho1_25 => (simp only [List.getElem?_toArray, List.getElem?_cons_succ, List.getElem?_cons_zero]; rfl)
                    case ko1_25 =>
                      go_simp
                      refine hK _ _ ?_
                      clear hK K
                      try simp only [Act.put, List.setIfInBounds_toArray, List.set_cons_zero, List.set_cons_succ]
                      refine wpAny_done (by kernel_rfl) ?_ _
                      go_wp2_with fail
                      go_roundw
                      case rel => exact ⟨i + 1, some ⟨g1, 0, none⟩, cap1, by omega, by go_num, by rw [HTD.out, iv_append]; exact own_setBoxZ HO3.out HK3.out (by decide) _, blk2set0' HK3.out _, HB3.out.setCell (p := ⟨w.heap.size + 1 + 1 + 1, 0, none⟩) (Nat.le_refl _) _⟩
                      case measure => simp [intOf]; omega
                    exact AllReady.nil
                  exact AllReady.nil
                exact AllReady.nil
              refine AllReady.cons (o := ?oio1_26) ?ho1_26 (fun K hK => ?ko1_26) ?mo1_26
              case ho1_26 => (simp only [List.getElem?_toArray, List.getElem?_cons_succ, List.getElem?_cons_zero]; rfl)
              case ko1_26 =>
                go_simp
                refine hK _ _ ?_
                clear hK K
                try simp only [Act.put, List.setIfInBounds_toArray, List.set_cons_zero, List.set_cons_succ]
                refine wpAny_ready (rs := [1]) (by kernel_rfl) (by simp) ?_
                refine AllReady.cons (o := ?oio1_27) ?ho1_27 (fun K hK => ?ko1_27) ?mo1_27
                case ho1_27 => (simp only [List.getElem?_toArray, List.getElem?_cons_succ, List.getElem?_cons_zero]; rfl)
                case ko1_27 =>
                  go_simp
                  refine hK _ _ ?_
                  clear hK K
                  try simp only [Act.put, List.setIfInBounds_toArray, List.set_cons_zero, List.set_cons_succ]
                  refine wpAny_ready (rs := [8]) (by kernel_rfl) (by simp) ?_
                  refine AllReady.cons (o := ?oio1_28) ?ho1_28 (fun K hK => ?ko1_28) ?mo1_28
                  case ho1_28 => (simp only [List.getElem?_toArray, List.getElem?_cons_succ, List.getElem?_cons_zero]; rfl)
                  case ko1_28 =>
                    (refine step_app1 _ _ _ _ _ etI (by rfl) (by rfl) w0.heap.size (.slice Ad i cd) i (iv ((partD xs S).take i)) (by rfl) ?_ _ (.int .i64 y) (by rfl) ?_ (by rfl) ?_ ?_ ?_; exact (HO.out.alloc _).drew; exact drew_cell (new_cell _ _ _); omega; (have := HB.out.size; simp; omega); (intro g1 cap1 w3 hown1 hgrow1 hat1 hlt1; have HO3 := Lib.hid hown1; have HB3 := Lib.hid (below_app2d HB.out (by have := HB.out.size; omega) (HO.out.mono (show w.heap.size + 1 + 1 + 1 ≤ w0.heap.size by omega)) hgrow1); have HK3 := Lib.hid (blk_grown (w := (wr.alloc (.cells #[.int .i64 y] 2)).drew) (blk_alloc HK5r.out _) hgrow1 (own_ne_blk HO.out HK5r.out (by decide))); clear hown1 hgrow1 hat1 hlt1 z0 z1 zf0 zf1 lz; obtain ⟨z0, z1, zf0, zf1, lz⟩ := blk2cells HK3.out))
                    refine hK _ _ ?_
                    clear hK K
                    try simp only [Act.put, List.setIfInBounds_toArray, List.set_cons_zero, List.set_cons_succ]
                    refine wpAny_take (i := 9) (oi := ?oio1_29) (v := ?vo1_29) ?ho1_29 (by kernel_rfl) (by kernel_rfl) (by kernel_rfl) ?qo1_29 (Or.inl ⟨?wo1_29, ?yo1_29⟩) ?ro1_29
                    case ho1_29 => (simp only [List.getElem?_toArray, List.getElem?_cons_succ, List.getElem?_cons_zero]; rfl)
                    case qo1_29 => exact fun _ _ _ h => h
                    case wo1_29 => rfl
                    case yo1_29 => (intro w; go_simp <;> with_reducible rfl)
                    try simp only [Act.put, List.setIfInBounds_toArray, List.set_cons_zero, List.set_cons_succ]
                    refine wpAny_ready (rs := [10]) (by kernel_rfl) (by simp) ?_
                    refine AllReady.cons (o := ?oio1_30) ?ho1_30 (fun K hK => ?ko1_30) ?mo1_30
                    case ho1_30 => (simp only [List.getElem?_toArray, List.getElem?_cons_succ, List.getElem?_cons_zero]; rfl)
                    case ko1_30 =>
                      go_simp
                      refine hK _ _ ?_
                      clear hK K
                      try simp only [Act.put, List.setIfInBounds_toArray, List.set_cons_zero, List.set_cons_succ]
                      refine wpAny_done (by kernel_rfl) ?_ _
                      go_wp2_with fail
                      go_roundw
                      case rel => exact ⟨i + 1, some ⟨g1, 0, none⟩, cap1, by omega, by go_num, by rw [HTD.out, iv_append]; exact own_setBoxZ HO3.out HK3.out (by decide) _, blk2set0' HK3.out _, HB3.out.setCell (p := ⟨w.heap.size + 1 + 1 + 1, 0, none⟩) (Nat.le_refl _) _⟩
                      case measure => simp [intOf]; omega
                    exact AllReady.nil
                  exact AllReady.nil
                exact AllReady.nil
              exact AllReady.nil
            exact AllReady.nil
          exact AllReady.nil
    · obtain rfl : k = i := by omega
      have htk : (partD xs S).take k = partD xs S := List.take_of_length_le (by rw [partD_len, ← Hk.out]; exact Nat.le_refl _)
      rw [htk] at hown
      obtain ⟨w5, hw5⟩ : ∃ w5, w5 = wr := ⟨_, rfl⟩
      subst hw5
      have hk50 : Keeps w0 w5 [some (w.heap.size + 1 + 1 + 1)] := ⟨hbel.os, hbel.tape, hbel.output, hbel.size, fun q hq hne => hbel.block q (by
        have : q ≠ w.heap.size + 1 + 1 + 1 := fun e => hne (by simp [e])
        omega)⟩
      have hac5 : OwnR w5 (w.heap.size + 1 + 1) (.slice (some ⟨w.heap.size + 1 + 1, 0, none⟩) 0 0) [] := HAC.out.keeps hk50 (.inr (by simp [Value.ownBlock])) (fun i hi => by cases hi)
      have HB5 := Lib.hid (HB0.out.trans (hbel.mono (by omega : w.heap.size ≤ w.heap.size + 1 + 1 + 1)))
      have HA0 := Lib.hid (ActIn.start hac5 (fun g hg => by simpa [Value.ownBlock] using hg.symm))
      have hs5 := hbel.size
      have HKP0 := Lib.hid (blk_below HK0.out hbel (by omega))
      have HKP4 := Lib.hid (blk_below HK4.out hbel (by omega))
      have HDO := Lib.hid hown
      have hbk : ∀ (g : Nat) (x : Obj), g ≠ w.heap.size + 1 + 1 → w5.heap[g]? = some x → ∀ wr, Keeps w5 wr [some (w.heap.size + 1 + 1)] → wr.heap[g]? = some x := fun g x hg hx wr hkp => (hkp.block g (Array.getElem?_eq_some_iff.1 hx).1 (by simpa using hg)).trans hx
      have HBK := Lib.hid hbk
      have HDW : Hid (∀ wr, Keeps w5 wr [some (w.heap.size + 1 + 1)] → wr.ownsRow w0.heap.size 2 1 (.slice Ad k cd) k (iv (partD xs S))) := Lib.hid (fun wr hkp => owns_keeps hown hkp (.inr (fun e => by
        have e : (Value.slice Ad k cd).ownBlock = some (w.heap.size + 1 + 1) := by simpa using e
        have := (hown.lt _ e).1; omega)))
      have HBW : Hid (∀ wr, Keeps w5 wr [some (w.heap.size + 1 + 1)] → Below w.heap.size w wr) := Lib.hid (fun wr hkp => HB5.out.trans (hkp.to_below HB5.out.size (fun j hj => by rw [show j = w.heap.size + 1 + 1 by simpa using hj]; omega)))
      have HPN : Hid (∀ (i c j : Nat), i < k → c < k → tb (act (dat L) (j : Int) (S.getD i 0)) (pv (S.getD c 0)) = true → (partD xs S).getD c 0 = (partD xs S).getD i 0 + (j : Int)) := Lib.hid (fun i c j hi hc h => part_deg HSH.out (fun r hr => ⟨(HSS.out r hr).1, (HSS.out r hr).2.1, (HSD.out r hr).2.2⟩) (by rw [← Hk.out]; exact hi) (by rw [← Hk.out]; exact hc) h)
      have HDB : Hid (∀ i, i < k → 0 ≤ (partD xs S).getD i 0 ∧ (partD xs S).getD i 0 ≤ 20) := Lib.hid (fun i hi => by
        have hiS : i < S.length := by rw [← Hk.out]; exact hi
        rw [partD_getD xs hiS]; exact HSH.out.deg _ (by rw [← Hn.out]; exact (HSS.out _ (getD_mem hiS)).2.2))
      have HPL := Lib.hid (fun j => partJ_len (dat L) S j)
      have HPI := Lib.hid (fun j i => partI_len (dat L) S j i)
      have HPC := Lib.hid (fun j i c => partC_len (dat L) S j i c)
      have hpd := partD_len xs S
      have HPD := Lib.hid hpd
      have HAM := Lib.hid (fun (z : Int) (v : Nat) (W : World) (hb : Below w.heap.size w W) (hv : v < 2 ^ xs.length) => l12Act_any A A' n c m c' xs L z (v : Int) v W (HM.out.below hb) HSH.out rfl hv)
      have HACS : Hid (∀ (z : Int) (v : Nat), v < 2 ^ xs.length → Sm (act (dat L) z v)) := Lib.hid (fun z v hv => HSH.out.sm (act_lt HSH.out hv z))
      clear hbel hown hk5 hk50 hac5 htk hbk hpd HK0 HK4 HK5 HAC HO HB
      obtain ⟨z0, z1, zf0, zf1, lz⟩ := blk2cells HK5r.out
      go_wp2_with fail
      clear z0 z1 zf0 zf1 lz
      go_loopw [6, 9] (fun s6 s9 wr => ∃ (j : Nat) (R : List Row) (A1 : Option Addr) (c1 : Nat), 1 ≤ j ∧ j ≤ 21 ∧ s9 = .int .i64 j ∧ s6 = .slice A1 R.length c1 ∧ Hid (dat R = partJ (dat L) S (j - 1)) ∧ ActIn w5 wr (w.heap.size + 1 + 1) A1 c1 R) (fun _ s => fun _ => 21 - (intOf s).toNat)
      case atStart => exact ⟨1, [], _, 0, by omega, by omega, rfl, rfl, Lib.hid rfl, HA0.out⟩
      case round =>
        obtain ⟨j, R, A1, c1, hj1, hj2, rfl, rfl, HD, hai⟩ := hrel
        have HAI := Lib.hid hai
        by_cases hj20 : j ≤ 20
        · have hj20i : (j : Int) ≤ 20 := by omega
          clear hai
          go_wp2_with fail
          go_loopw [6, 10] (fun s6 s10 wr => ∃ (i : Nat) (R : List Row) (A1 : Option Addr) (c1 : Nat), i ≤ k ∧ s10 = .int .i64 i ∧ s6 = .slice A1 R.length c1 ∧ Hid (dat R = partJ (dat L) S (j - 1) ++ partI (dat L) S j i) ∧ ActIn w5 wr (w.heap.size + 1 + 1) A1 c1 R) (fun _ s => fun _ => k - (intOf s).toNat)
          case atStart => exact ⟨0, R, A1, c1, by omega, rfl, rfl, Lib.hid (by rw [HD.out]; simp [partI]), HAI.out⟩
          case round =>
            obtain ⟨i, R, A1, c1, hi, rfl, rfl, HD, hai⟩ := hrel
            have HAI := Lib.hid hai
            by_cases hik : i < k
            · have hiS : i < S.length := by rw [← Hk.out]; exact hik
              have HBr := Lib.hid (HBW.out wr hai.kp)
              obtain ⟨b, o, hCe, hcS⟩ := (HC.out.below HBr.out).atN hiS
              have hri := (HSD.out _ (getD_mem hiS)).2.1
              have HAMi := Lib.hid (fun (W : World) (hb : Below wr.heap.size wr W) => HAM.out (j : Int) (S.getD i 0) W (HBr.out.trans (hb.mono HBr.out.size)) hri)
              have hmv := HACS.out (j : Int) (S.getD i 0) hri
              have HCS : Hid (∀ c, partC (dat L) S j i (c + 1) = partC (dat L) S j i c ++ if tb (act (dat L) (j : Int) (S.getD i 0)) (pv (S.getD c 0)) = true then [[(j : Int), (i : Int), (c : Int)]] else []) := Lib.hid (fun c => rfl)
              have HPNi := Lib.hid (fun c (hc : c < k) => HPN.out i c j hik hc)
              have HK0r := Lib.hid (HBK.out _ _ (by omega) HKP0.out wr hai.kp)
              generalize act (dat L) (j : Int) (S.getD i 0) = mv at *
              generalize S.getD i 0 = ri at *
              subst hCe
              have KS := Lib.hid (fun w' (hb : Below wr.heap.size wr w') => show w'.cell? ⟨w.heap.size, 0, none⟩ = some (.slice A n c) ∧ w'.cell? ⟨w.heap.size, 1, none⟩ = some (.slice A' m c') ∧ w'.cell? ⟨b, o + i, none⟩ = some (.int .i64 (ri : Nat)) from by
                obtain ⟨x0, x1, _⟩ := blk2cells (blk_kept HK0r.out hb)
                exact ⟨x0, x1, cell_keep hcS hb⟩)
              have HB_0 := Lib.hid (Below.drew (Below.refl wr.heap.size wr))
              clear hai hcS
              go_wp2_with fail
              go_region_held3 (fun w' => w'.cell? ⟨w.heap.size, 0, none⟩ = some (.slice A n c) ∧ w'.cell? ⟨w.heap.size, 1, none⟩ = some (.slice A' m c') ∧ w'.cell? ⟨b, o + i, none⟩ = some (.int .i64 (ri : Nat)))
                (first | exact KS.out _ HB_0.out | exact KS.out _ HB_1.out)
                ((go_at_call 81; (with_reducible refine (HAMi.out _ HB_0.out).mono ?_); (rintro e w7 ⟨rfl, hb⟩; have HB_1 := Lib.hid (HB_0.out.trans (hb.mono HB_0.out.size)); clear hb)))
              have HAI7 := Lib.hid (HAI.out.later HB_1.out)
              clear KS HB_0 HB_1 HAMi
              go_wp2_with fail
              go_loopw [6, 12] (fun s6 s12 wr => ∃ (cj : Nat) (R : List Row) (A1 : Option Addr) (c1 : Nat), cj ≤ k ∧ s12 = .int .i64 cj ∧ s6 = .slice A1 R.length c1 ∧ Hid (dat R = partJ (dat L) S (j - 1) ++ partI (dat L) S j i ++ partC (dat L) S j i cj) ∧ ActIn w5 wr (w.heap.size + 1 + 1) A1 c1 R) (fun _ s => fun _ => k - (intOf s).toNat)
              case atStart => exact ⟨0, R, A1, c1, by omega, rfl, rfl, Lib.hid (by rw [HD.out]; simp [partC]), HAI7.out⟩
              case round =>
                obtain ⟨cj, R, A1, c1, hcj, rfl, rfl, HD, hai⟩ := hrel
                have HAI := Lib.hid hai
                by_cases hck : cj < k
                · have hcS : cj < S.length := by rw [← Hk.out]; exact hck
                  have hcki : (cj : Int) < (k : Int) := by omega
                  have hiki : (i : Int) < (k : Int) := by omega
                  have HBr := Lib.hid (HBW.out wr hai.kp)
                  obtain ⟨bq, oq, hbq, hc⟩ := (HC.out.below HBr.out).atN hcS
                  injection hbq with hbq
                  injection hbq with hbq1 hbq2 _
                  subst hbq1; subst hbq2
                  obtain ⟨r0, rsm, rpn⟩ := HSS.out _ (getD_mem hcS)
                  have hdeg := HDW.out wr hai.kp
                  obtain ⟨F, cf, hFe, _, hF, _⟩ := owns_shape hdeg
                  obtain ⟨gd, hFg, _, _⟩ := hF (by omega)
                  injection hFe with hFe1 hFe2 hFe3
                  subst hFe3
                  rw [hFg] at hFe1
                  subst hFe1
                  have hdc := owns_getD hdeg hck
                  have hdi := owns_getD hdeg hik
                  obtain ⟨z0, z1, zf0, zf1, lz⟩ := blk2cells (HBK.out _ _ (by omega) HK5r.out wr hai.kp)
                  have hpn := HPNi.out cj hck
                  have hcs := HCS.out cj
                  obtain ⟨d1, d2⟩ := HDB.out i hik
                  have hrl : R.length ≤ 6000 := by
                    have h1 := congrArg List.length HD.out
                    rw [dat_length, List.length_append, List.length_append] at h1
                    have h2 := HPL.out (j - 1)
                    have h3 := HPI.out j i
                    have h4 := HPC.out j i cj
                    rw [← Hk.out] at h2 h3
                    have h5 : k * k ≤ 16 * 16 := Nat.mul_le_mul hk1 hk1
                    have h6 : (j - 1) * (k * k) ≤ 20 * (16 * 16) := Nat.mul_le_mul (by omega) h5
                    have h7 : i * k ≤ 16 * 16 := Nat.mul_le_mul (by omega) hk1
                    omega
                  have hq : R.length < 1099511627776 := by omega
                  have HLW := Lib.hid (fun W => low_any (S.getD cj 0) r0 rsm W)
                  have hand := and_pw_ne hmv (show pv (S.getD cj 0) ≤ 62 by omega)
                  generalize S.getD cj 0 = r at *
                  generalize (partD xs S).getD cj 0 = dc at *
                  generalize (partD xs S).getD i 0 = di at *
                  have hsum : wrap64 (di + (j : Int)) = di + (j : Int) := by unfold wrap64; omega
                  have hsumA : IntKind.i64.wrap (di + (j : Int)) = di + (j : Int) := by rw [IntKind.wrap_i64]; omega
                  clear hdeg hF hrl r0 rsm
                  by_cases hdd : dc = di + (j : Int)
                  · have hddb : (dc == di + (j : Int)) = true := by simp [hdd]
                    cases htb : tb mv (pv r)
                    · rw [htb] at hand
                      have HD' : Hid (dat R = partJ (dat L) S (j - 1) ++ partI (dat L) S j i ++ partC (dat L) S j i (cj + 1)) := Lib.hid (by rw [hcs, htb, if_neg (by simp), List.append_nil]; exact HD.out)
                      clear hai hcs hpn hdd
                      go_wp2_with fail
                      refine wp_region_held_drew (S := (fun w' => w'.cell? ⟨w.heap.size + 1 + 1 + 1, 0, none⟩ = some (.slice (some ⟨gd, 0, none⟩) k cd) ∧ w'.cell? ⟨gd, cj, none⟩ = some (.int .i64 dc) ∧ w'.cell? ⟨gd, i, none⟩ = some (.int .i64 di) ∧ w'.cell? ⟨b, o + cj, none⟩ = some (.int .i64 (r : Nat)))) (by kernel_rfl) (by exact ⟨z0, hdc, hdi, hc⟩) (fun hHeld => ?_)
                      refine wpAnyH_take (i := 0) (oi := ?or2_0) (v := ?vr2_0) ?hr2_0 (by kernel_rfl) (by kernel_rfl) (by kernel_rfl) ?qr2_0 (Or.inl ⟨?wr2_0, ?yr2_0⟩) (by assumption) ?rr2_0
                      case hr2_0 => (simp only [List.getElem?_toArray, List.getElem?_cons_succ, List.getElem?_cons_zero]; rfl)
                      case qr2_0 => exact fun _ _ _ h => h
                      case wr2_0 => rfl
                      case yr2_0 => (intro w hSw; (try dsimp only at hSw); go_simp <;> with_reducible rfl)
                      try simp only [Act.put, List.setIfInBounds_toArray, List.set_cons_zero, List.set_cons_succ]
                      refine wpAnyH_take (i := 1) (oi := ?or2_1) (v := ?vr2_1) ?hr2_1 (by kernel_rfl) (by kernel_rfl) (by kernel_rfl) ?qr2_1 (Or.inl ⟨?wr2_1, ?yr2_1⟩) (by assumption) ?rr2_1
                      case hr2_1 => (simp only [List.getElem?_toArray, List.getElem?_cons_succ, List.getElem?_cons_zero]; rfl)
                      case qr2_1 => exact fun _ _ _ h => h
                      case wr2_1 => rfl
                      case yr2_1 => (intro w hSw; (try dsimp only at hSw); go_simp <;> with_reducible rfl)
                      try simp only [Act.put, List.setIfInBounds_toArray, List.set_cons_zero, List.set_cons_succ]
                      refine wpAnyH_take (i := 2) (oi := ?or2_2) (v := ?vr2_2) ?hr2_2 (by kernel_rfl) (by kernel_rfl) (by kernel_rfl) ?qr2_2 (Or.inl ⟨?wr2_2, ?yr2_2⟩) (by assumption) ?rr2_2
                      case hr2_2 => (simp only [List.getElem?_toArray, List.getElem?_cons_succ, List.getElem?_cons_zero]; rfl)
                      case qr2_2 => exact fun _ _ _ h => h
                      case wr2_2 => rfl
                      case yr2_2 => (intro w hSw; (try dsimp only at hSw); go_simp <;> with_reducible rfl)
                      try simp only [Act.put, List.setIfInBounds_toArray, List.set_cons_zero, List.set_cons_succ]
                      refine wpAnyH_take (i := 3) (oi := ?or2_3) (v := ?vr2_3) ?hr2_3 (by kernel_rfl) (by kernel_rfl) (by kernel_rfl) ?qr2_3 (Or.inl ⟨?wr2_3, ?yr2_3⟩) (by assumption) ?rr2_3
                      case hr2_3 => (simp only [List.getElem?_toArray, List.getElem?_cons_succ, List.getElem?_cons_zero]; rfl)
                      case qr2_3 => exact fun _ _ _ h => h
                      case wr2_3 => rfl
                      case yr2_3 => (intro w hSw; (try dsimp only at hSw); go_simp <;> with_reducible rfl)
                      try simp only [Act.put, List.setIfInBounds_toArray, List.set_cons_zero, List.set_cons_succ]
                      refine wpAnyH_take (i := 4) (oi := ?or2_4) (v := ?vr2_4) ?hr2_4 (by kernel_rfl) (by kernel_rfl) (by kernel_rfl) ?qr2_4 (Or.inl ⟨?wr2_4, ?yr2_4⟩) (by assumption) ?rr2_4
                      case hr2_4 => (simp only [List.getElem?_toArray, List.getElem?_cons_succ, List.getElem?_cons_zero]; rfl)
                      case qr2_4 => exact fun _ _ _ h => h
                      case wr2_4 => rfl
                      case yr2_4 => (intro w hSw; (try dsimp only at hSw); go_simp <;> with_reducible rfl)
                      try simp only [Act.put, List.setIfInBounds_toArray, List.set_cons_zero, List.set_cons_succ]
                      refine wpAnyH_take (i := 5) (oi := ?or2_5) (v := ?vr2_5) ?hr2_5 (by kernel_rfl) (by kernel_rfl) (by kernel_rfl) ?qr2_5 (Or.inl ⟨?wr2_5, ?yr2_5⟩) (by assumption) ?rr2_5
                      case hr2_5 => (simp only [List.getElem?_toArray, List.getElem?_cons_succ, List.getElem?_cons_zero]; rfl)
                      case qr2_5 => exact fun _ _ _ h => h
                      case wr2_5 => rfl
                      case yr2_5 => (intro w hSw; (try dsimp only at hSw); go_simp <;> with_reducible rfl)
                      try simp only [Act.put, List.setIfInBounds_toArray, List.set_cons_zero, List.set_cons_succ]
                      refine wpAnyH_take (i := 6) (oi := ?or2_6) (v := ?vr2_6) ?hr2_6 (by kernel_rfl) (by kernel_rfl) (by kernel_rfl) ?qr2_6 (Or.inl ⟨?wr2_6, ?yr2_6⟩) (by assumption) ?rr2_6
                      case hr2_6 => (simp only [List.getElem?_toArray, List.getElem?_cons_succ, List.getElem?_cons_zero]; rfl)
                      case qr2_6 => exact fun _ _ _ h => h
                      case wr2_6 => rfl
                      case yr2_6 => (intro w hSw; (try dsimp only at hSw); go_simp <;> with_reducible rfl)
                      try simp only [Act.put, List.setIfInBounds_toArray, List.set_cons_zero, List.set_cons_succ]
                      refine wpAnyH_take (i := 7) (oi := ?or2_7) (v := ?vr2_7) ?hr2_7 (by kernel_rfl) (by kernel_rfl) (by kernel_rfl) ?qr2_7 (Or.inl ⟨?wr2_7, ?yr2_7⟩) (by assumption) ?rr2_7
                      case hr2_7 => (simp only [List.getElem?_toArray, List.getElem?_cons_succ, List.getElem?_cons_zero]; rfl)
                      case qr2_7 => exact fun _ _ _ h => h
                      case wr2_7 => rfl
                      case yr2_7 => (intro w hSw; (try dsimp only at hSw); go_simp <;> with_reducible rfl)
                      try simp only [Act.put, List.setIfInBounds_toArray, List.set_cons_zero, List.set_cons_succ]
                      refine wpAnyH_take (i := 8) (oi := ?or2_8) (v := ?vr2_8) ?hr2_8 (by kernel_rfl) (by kernel_rfl) (by kernel_rfl) ?qr2_8 (Or.inl ⟨?wr2_8, ?yr2_8⟩) (by assumption) ?rr2_8
                      case hr2_8 => (simp only [List.getElem?_toArray, List.getElem?_cons_succ, List.getElem?_cons_zero]; rfl)
                      case qr2_8 => exact fun _ _ _ h => h
                      case wr2_8 => rfl
                      case yr2_8 => (intro w hSw; (try dsimp only at hSw); go_simp <;> with_reducible rfl)
                      try simp only [Act.put, List.setIfInBounds_toArray, List.set_cons_zero, List.set_cons_succ]
                      refine wpAnyH_take (i := 9) (oi := ?or2_9) (v := ?vr2_9) ?hr2_9 (by kernel_rfl) (by kernel_rfl) (by kernel_rfl) ?qr2_9 (Or.inl ⟨?wr2_9, ?yr2_9⟩) (by assumption) ?rr2_9
                      case hr2_9 => (simp only [List.getElem?_toArray, List.getElem?_cons_succ, List.getElem?_cons_zero]; rfl)
                      case qr2_9 => exact fun _ _ _ h => h
                      case wr2_9 => rfl
                      case yr2_9 => (intro w hSw; (try dsimp only at hSw); go_simp <;> with_reducible rfl)
                      try simp only [Act.put, List.setIfInBounds_toArray, List.set_cons_zero, List.set_cons_succ]
                      refine wpAnyH_take (i := 10) (oi := ?or2_10) (v := ?vr2_10) ?hr2_10 (by kernel_rfl) (by kernel_rfl) (by kernel_rfl) ?qr2_10 (Or.inl ⟨?wr2_10, ?yr2_10⟩) (by assumption) ?rr2_10
                      case hr2_10 => (simp only [List.getElem?_toArray, List.getElem?_cons_succ, List.getElem?_cons_zero]; rfl)
                      case qr2_10 => exact fun _ _ _ h => h
                      case wr2_10 => rfl
                      case yr2_10 => (intro w hSw; (try dsimp only at hSw); go_simp <;> with_reducible rfl)
                      try simp only [Act.put, List.setIfInBounds_toArray, List.set_cons_zero, List.set_cons_succ]
                      refine wpAnyH_take (i := 11) (oi := ?or2_11) (v := ?vr2_11) ?hr2_11 (by kernel_rfl) (by kernel_rfl) (by kernel_rfl) ?qr2_11 (Or.inl ⟨?wr2_11, ?yr2_11⟩) (by assumption) ?rr2_11
                      case hr2_11 => (simp only [List.getElem?_toArray, List.getElem?_cons_succ, List.getElem?_cons_zero]; rfl)
                      case qr2_11 => exact fun _ _ _ h => h
                      case wr2_11 => rfl
                      case yr2_11 => (intro w hSw; (try dsimp only at hSw); go_simp <;> with_reducible rfl)
                      try simp only [Act.put, List.setIfInBounds_toArray, List.set_cons_zero, List.set_cons_succ]
                      refine wpAnyH_take (i := 12) (oi := ?or2_12) (v := ?vr2_12) ?hr2_12 (by kernel_rfl) (by kernel_rfl) (by kernel_rfl) ?qr2_12 (Or.inl ⟨?wr2_12, ?yr2_12⟩) (by assumption) ?rr2_12
                      case hr2_12 => (simp only [List.getElem?_toArray, List.getElem?_cons_succ, List.getElem?_cons_zero]; rfl)
                      case qr2_12 => exact fun _ _ _ h => h
                      case wr2_12 => rfl
                      case yr2_12 => (intro w hSw; (try dsimp only at hSw); go_simp <;> with_reducible rfl)
                      try simp only [Act.put, List.setIfInBounds_toArray, List.set_cons_zero, List.set_cons_succ]
                      refine wpAnyH_take (i := 13) (oi := ?or2_13) (v := ?vr2_13) ?hr2_13 (by kernel_rfl) (by kernel_rfl) (by kernel_rfl) ?qr2_13 (Or.inl ⟨?wr2_13, ?yr2_13⟩) (by assumption) ?rr2_13
                      case hr2_13 => (simp only [List.getElem?_toArray, List.getElem?_cons_succ, List.getElem?_cons_zero]; rfl)
                      case qr2_13 => exact fun _ _ _ h => h
                      case wr2_13 => rfl
                      case yr2_13 => (intro w hSw; (try dsimp only at hSw); go_simp <;> with_reducible rfl)
                      try simp only [Act.put, List.setIfInBounds_toArray, List.set_cons_zero, List.set_cons_succ]
                      refine wpAnyH_take (i := 14) (oi := ?or2_14) (v := ?vr2_14) ?hr2_14 (by kernel_rfl) (by kernel_rfl) (by kernel_rfl) ?qr2_14 (Or.inl ⟨?wr2_14, ?yr2_14⟩) (by assumption) ?rr2_14
                      case hr2_14 => (simp only [List.getElem?_toArray, List.getElem?_cons_succ, List.getElem?_cons_zero]; rfl)
                      case qr2_14 => exact fun _ _ _ h => h
                      case wr2_14 => rfl
                      case yr2_14 => (intro w hSw; (try dsimp only at hSw); go_simp <;> with_reducible rfl)
                      try simp only [Act.put, List.setIfInBounds_toArray, List.set_cons_zero, List.set_cons_succ]
                      refine wpAnyH_take (i := 15) (oi := ?or2_15) (v := ?vr2_15) ?hr2_15 (by kernel_rfl) (by kernel_rfl) (by kernel_rfl) ?qr2_15 (Or.inl ⟨?wr2_15, ?yr2_15⟩) (by assumption) ?rr2_15
                      case hr2_15 => (simp only [List.getElem?_toArray, List.getElem?_cons_succ, List.getElem?_cons_zero]; rfl)
                      case qr2_15 => exact fun _ _ _ h => h
                      case wr2_15 => rfl
                      case yr2_15 => (intro w hSw; (try dsimp only at hSw); go_simp <;> with_reducible rfl)
                      try simp only [Act.put, List.setIfInBounds_toArray, List.set_cons_zero, List.set_cons_succ]
                      refine wpAnyH_take (i := 16) (oi := ?or2_16) (v := ?vr2_16) ?hr2_16 (by kernel_rfl) (by kernel_rfl) (by kernel_rfl) ?qr2_16 (Or.inl ⟨?wr2_16, ?yr2_16⟩) (by assumption) ?rr2_16
                      case hr2_16 => (simp only [List.getElem?_toArray, List.getElem?_cons_succ, List.getElem?_cons_zero]; rfl)
                      case qr2_16 => exact fun _ _ _ h => h
                      case wr2_16 => rfl
                      case yr2_16 => (intro w hSw; (try dsimp only at hSw); go_simp <;> with_reducible rfl)
                      try simp only [Act.put, List.setIfInBounds_toArray, List.set_cons_zero, List.set_cons_succ]
                      refine wpAnyH_take (i := 17) (oi := ?or2_17) (v := ?vr2_17) ?hr2_17 (by kernel_rfl) (by kernel_rfl) (by kernel_rfl) ?qr2_17 (Or.inl ⟨?wr2_17, ?yr2_17⟩) (by assumption) ?rr2_17
                      case hr2_17 => (simp only [List.getElem?_toArray, List.getElem?_cons_succ, List.getElem?_cons_zero]; rfl)
                      case qr2_17 => exact fun _ _ _ h => h
                      case wr2_17 => rfl
                      case yr2_17 => (intro w hSw; (try dsimp only at hSw); go_simp <;> with_reducible rfl)
                      try simp only [Act.put, List.setIfInBounds_toArray, List.set_cons_zero, List.set_cons_succ]
                      refine wpAnyH_take (i := 18) (oi := ?or2_18) (v := ?vr2_18) ?hr2_18 (by kernel_rfl) (by kernel_rfl) (by kernel_rfl) ?qr2_18 (Or.inl ⟨?wr2_18, ?yr2_18⟩) (by assumption) ?rr2_18
                      case hr2_18 => (simp only [List.getElem?_toArray, List.getElem?_cons_succ, List.getElem?_cons_zero]; rfl)
                      case qr2_18 => exact fun _ _ _ h => h
                      case wr2_18 => rfl
                      case yr2_18 => (intro w hSw; (try dsimp only at hSw); go_simp <;> with_reducible rfl)
                      try simp only [Act.put, List.setIfInBounds_toArray, List.set_cons_zero, List.set_cons_succ]
                      refine wpAnyH_ready (rs := [19]) (by kernel_rfl) (by simp) ?_
                      refine AllReadyH.cons (o := ?or2_19) ?hr2_19 (fun K hK => ?kr2_19) AllReadyH.nil
                      case hr2_19 => (simp only [List.getElem?_toArray, List.getElem?_cons_succ, List.getElem?_cons_zero]; rfl)
                      go_simp
                      go_at_call 82; refine (HLW.out _).mono ?_; rintro e w8 ⟨rfl, rfl⟩
                      refine hK.out _ _ (by exact ⟨z0, hdc, hdi, hc⟩) (fun hHeld => ?_)
                      clear hK K
                      try simp only [Act.put, List.setIfInBounds_toArray, List.set_cons_zero, List.set_cons_succ]
                      refine wpAnyH_take (i := 20) (oi := ?or2_20) (v := ?vr2_20) ?hr2_20 (by kernel_rfl) (by kernel_rfl) (by kernel_rfl) ?qr2_20 (Or.inl ⟨?wr2_20, ?yr2_20⟩) (by assumption) ?rr2_20
                      case hr2_20 => (simp only [List.getElem?_toArray, List.getElem?_cons_succ, List.getElem?_cons_zero]; rfl)
                      case qr2_20 => exact fun _ _ _ h => h
                      case wr2_20 => rfl
                      case yr2_20 => (intro w hSw; (try dsimp only at hSw); go_simp <;> with_reducible rfl)
                      try simp only [Act.put, List.setIfInBounds_toArray, List.set_cons_zero, List.set_cons_succ]
                      refine wpAnyH_take (i := 21) (oi := ?or2_21) (v := ?vr2_21) ?hr2_21 (by kernel_rfl) (by kernel_rfl) (by kernel_rfl) ?qr2_21 (Or.inl ⟨?wr2_21, ?yr2_21⟩) (by assumption) ?rr2_21
                      case hr2_21 => (simp only [List.getElem?_toArray, List.getElem?_cons_succ, List.getElem?_cons_zero]; rfl)
                      case qr2_21 => exact fun _ _ _ h => h
                      case wr2_21 => rfl
                      case yr2_21 => (intro w hSw; (try dsimp only at hSw); go_simp <;> with_reducible rfl)
                      try simp only [Act.put, List.setIfInBounds_toArray, List.set_cons_zero, List.set_cons_succ]
                      refine wpAnyH_take (i := 22) (oi := ?or2_22) (v := ?vr2_22) ?hr2_22 (by kernel_rfl) (by kernel_rfl) (by kernel_rfl) ?qr2_22 (Or.inl ⟨?wr2_22, ?yr2_22⟩) (by assumption) ?rr2_22
                      case hr2_22 => (simp only [List.getElem?_toArray, List.getElem?_cons_succ, List.getElem?_cons_zero]; rfl)
                      case qr2_22 => exact fun _ _ _ h => h
                      case wr2_22 => rfl
                      case yr2_22 => (intro w hSw; (try dsimp only at hSw); go_simp <;> with_reducible rfl)
                      try simp only [Act.put, List.setIfInBounds_toArray, List.set_cons_zero, List.set_cons_succ]
                      refine wpAnyH_done (by kernel_rfl) ?_ _
                      go_wp2_with fail
                      go_roundw
                      case rel => exact ⟨cj + 1, R, A1, c1, by omega, by go_num, rfl, HD', HAI.out.later (below_drewN (Below.refl _ _) 1)⟩
                      case measure => simp [intOf]; omega
                    · rw [htb] at hand
                      have HD' := Lib.hid hcs
                      rw [htb, if_pos rfl] at HD'
                      have HAId : Hid (ActIn w5 wr.drew (w.heap.size + 1 + 1) A1 c1 R) := Lib.hid (HAI.out.later (Below.drew (Below.refl _ _)))
                      have hbw : w.heap.size + 1 + 1 ≤ wr.drew.heap.size := by have h1 := HAId.out.kp.size; omega
                      clear hai hcs hpn hdd
                      go_wp2_with fail
                      refine wp_region_held_drew (S := (fun w' => w'.cell? ⟨w.heap.size + 1 + 1 + 1, 0, none⟩ = some (.slice (some ⟨gd, 0, none⟩) k cd) ∧ w'.cell? ⟨gd, cj, none⟩ = some (.int .i64 dc) ∧ w'.cell? ⟨gd, i, none⟩ = some (.int .i64 di) ∧ w'.cell? ⟨b, o + cj, none⟩ = some (.int .i64 (r : Nat)))) (by kernel_rfl) (by exact ⟨z0, hdc, hdi, hc⟩) (fun hHeld => ?_)
                      refine wpAnyH_take (i := 0) (oi := ?or3_0) (v := ?vr3_0) ?hr3_0 (by kernel_rfl) (by kernel_rfl) (by kernel_rfl) ?qr3_0 (Or.inl ⟨?wr3_0, ?yr3_0⟩) (by assumption) ?rr3_0
                      case hr3_0 => (simp only [List.getElem?_toArray, List.getElem?_cons_succ, List.getElem?_cons_zero]; rfl)
                      case qr3_0 => exact fun _ _ _ h => h
                      case wr3_0 => rfl
                      case yr3_0 => (intro w hSw; (try dsimp only at hSw); go_simp <;> with_reducible rfl)
                      try simp only [Act.put, List.setIfInBounds_toArray, List.set_cons_zero, List.set_cons_succ]
                      refine wpAnyH_take (i := 1) (oi := ?or3_1) (v := ?vr3_1) ?hr3_1 (by kernel_rfl) (by kernel_rfl) (by kernel_rfl) ?qr3_1 (Or.inl ⟨?wr3_1, ?yr3_1⟩) (by assumption) ?rr3_1
                      case hr3_1 => (simp only [List.getElem?_toArray, List.getElem?_cons_succ, List.getElem?_cons_zero]; rfl)
                      case qr3_1 => exact fun _ _ _ h => h
                      case wr3_1 => rfl
                      case yr3_1 => (intro w hSw; (try dsimp only at hSw); go_simp <;> with_reducible rfl)
                      try simp only [Act.put, List.setIfInBounds_toArray, List.set_cons_zero, List.set_cons_succ]
                      refine wpAnyH_take (i := 2) (oi := ?or3_2) (v := ?vr3_2) ?hr3_2 (by kernel_rfl) (by kernel_rfl) (by kernel_rfl) ?qr3_2 (Or.inl ⟨?wr3_2, ?yr3_2⟩) (by assumption) ?rr3_2
                      case hr3_2 => (simp only [List.getElem?_toArray, List.getElem?_cons_succ, List.getElem?_cons_zero]; rfl)
                      case qr3_2 => exact fun _ _ _ h => h
                      case wr3_2 => rfl
                      case yr3_2 => (intro w hSw; (try dsimp only at hSw); go_simp <;> with_reducible rfl)
                      try simp only [Act.put, List.setIfInBounds_toArray, List.set_cons_zero, List.set_cons_succ]
                      refine wpAnyH_take (i := 3) (oi := ?or3_3) (v := ?vr3_3) ?hr3_3 (by kernel_rfl) (by kernel_rfl) (by kernel_rfl) ?qr3_3 (Or.inl ⟨?wr3_3, ?yr3_3⟩) (by assumption) ?rr3_3
                      case hr3_3 => (simp only [List.getElem?_toArray, List.getElem?_cons_succ, List.getElem?_cons_zero]; rfl)
                      case qr3_3 => exact fun _ _ _ h => h
                      case wr3_3 => rfl
                      case yr3_3 => (intro w hSw; (try dsimp only at hSw); go_simp <;> with_reducible rfl)
                      try simp only [Act.put, List.setIfInBounds_toArray, List.set_cons_zero, List.set_cons_succ]
                      refine wpAnyH_take (i := 4) (oi := ?or3_4) (v := ?vr3_4) ?hr3_4 (by kernel_rfl) (by kernel_rfl) (by kernel_rfl) ?qr3_4 (Or.inl ⟨?wr3_4, ?yr3_4⟩) (by assumption) ?rr3_4
                      case hr3_4 => (simp only [List.getElem?_toArray, List.getElem?_cons_succ, List.getElem?_cons_zero]; rfl)
                      case qr3_4 => exact fun _ _ _ h => h
                      case wr3_4 => rfl
                      case yr3_4 => (intro w hSw; (try dsimp only at hSw); go_simp <;> with_reducible rfl)
                      try simp only [Act.put, List.setIfInBounds_toArray, List.set_cons_zero, List.set_cons_succ]
                      refine wpAnyH_take (i := 5) (oi := ?or3_5) (v := ?vr3_5) ?hr3_5 (by kernel_rfl) (by kernel_rfl) (by kernel_rfl) ?qr3_5 (Or.inl ⟨?wr3_5, ?yr3_5⟩) (by assumption) ?rr3_5
                      case hr3_5 => (simp only [List.getElem?_toArray, List.getElem?_cons_succ, List.getElem?_cons_zero]; rfl)
                      case qr3_5 => exact fun _ _ _ h => h
                      case wr3_5 => rfl
                      case yr3_5 => (intro w hSw; (try dsimp only at hSw); go_simp <;> with_reducible rfl)
                      try simp only [Act.put, List.setIfInBounds_toArray, List.set_cons_zero, List.set_cons_succ]
                      refine wpAnyH_take (i := 6) (oi := ?or3_6) (v := ?vr3_6) ?hr3_6 (by kernel_rfl) (by kernel_rfl) (by kernel_rfl) ?qr3_6 (Or.inl ⟨?wr3_6, ?yr3_6⟩) (by assumption) ?rr3_6
                      case hr3_6 => (simp only [List.getElem?_toArray, List.getElem?_cons_succ, List.getElem?_cons_zero]; rfl)
                      case qr3_6 => exact fun _ _ _ h => h
                      case wr3_6 => rfl
                      case yr3_6 => (intro w hSw; (try dsimp only at hSw); go_simp <;> with_reducible rfl)
                      try simp only [Act.put, List.setIfInBounds_toArray, List.set_cons_zero, List.set_cons_succ]
                      refine wpAnyH_take (i := 7) (oi := ?or3_7) (v := ?vr3_7) ?hr3_7 (by kernel_rfl) (by kernel_rfl) (by kernel_rfl) ?qr3_7 (Or.inl ⟨?wr3_7, ?yr3_7⟩) (by assumption) ?rr3_7
                      case hr3_7 => (simp only [List.getElem?_toArray, List.getElem?_cons_succ, List.getElem?_cons_zero]; rfl)
                      case qr3_7 => exact fun _ _ _ h => h
                      case wr3_7 => rfl
                      case yr3_7 => (intro w hSw; (try dsimp only at hSw); go_simp <;> with_reducible rfl)
                      try simp only [Act.put, List.setIfInBounds_toArray, List.set_cons_zero, List.set_cons_succ]
                      refine wpAnyH_take (i := 8) (oi := ?or3_8) (v := ?vr3_8) ?hr3_8 (by kernel_rfl) (by kernel_rfl) (by kernel_rfl) ?qr3_8 (Or.inl ⟨?wr3_8, ?yr3_8⟩) (by assumption) ?rr3_8
                      case hr3_8 => (simp only [List.getElem?_toArray, List.getElem?_cons_succ, List.getElem?_cons_zero]; rfl)
                      case qr3_8 => exact fun _ _ _ h => h
                      case wr3_8 => rfl
                      case yr3_8 => (intro w hSw; (try dsimp only at hSw); go_simp <;> with_reducible rfl)
                      try simp only [Act.put, List.setIfInBounds_toArray, List.set_cons_zero, List.set_cons_succ]
                      refine wpAnyH_take (i := 9) (oi := ?or3_9) (v := ?vr3_9) ?hr3_9 (by kernel_rfl) (by kernel_rfl) (by kernel_rfl) ?qr3_9 (Or.inl ⟨?wr3_9, ?yr3_9⟩) (by assumption) ?rr3_9
                      case hr3_9 => (simp only [List.getElem?_toArray, List.getElem?_cons_succ, List.getElem?_cons_zero]; rfl)
                      case qr3_9 => exact fun _ _ _ h => h
                      case wr3_9 => rfl
                      case yr3_9 => (intro w hSw; (try dsimp only at hSw); go_simp <;> with_reducible rfl)
                      try simp only [Act.put, List.setIfInBounds_toArray, List.set_cons_zero, List.set_cons_succ]
                      refine wpAnyH_take (i := 10) (oi := ?or3_10) (v := ?vr3_10) ?hr3_10 (by kernel_rfl) (by kernel_rfl) (by kernel_rfl) ?qr3_10 (Or.inl ⟨?wr3_10, ?yr3_10⟩) (by assumption) ?rr3_10
                      case hr3_10 => (simp only [List.getElem?_toArray, List.getElem?_cons_succ, List.getElem?_cons_zero]; rfl)
                      case qr3_10 => exact fun _ _ _ h => h
                      case wr3_10 => rfl
                      case yr3_10 => (intro w hSw; (try dsimp only at hSw); go_simp <;> with_reducible rfl)
                      try simp only [Act.put, List.setIfInBounds_toArray, List.set_cons_zero, List.set_cons_succ]
                      refine wpAnyH_take (i := 11) (oi := ?or3_11) (v := ?vr3_11) ?hr3_11 (by kernel_rfl) (by kernel_rfl) (by kernel_rfl) ?qr3_11 (Or.inl ⟨?wr3_11, ?yr3_11⟩) (by assumption) ?rr3_11
                      case hr3_11 => (simp only [List.getElem?_toArray, List.getElem?_cons_succ, List.getElem?_cons_zero]; rfl)
                      case qr3_11 => exact fun _ _ _ h => h
                      case wr3_11 => rfl
                      case yr3_11 => (intro w hSw; (try dsimp only at hSw); go_simp <;> with_reducible rfl)
                      try simp only [Act.put, List.setIfInBounds_toArray, List.set_cons_zero, List.set_cons_succ]
                      refine wpAnyH_take (i := 12) (oi := ?or3_12) (v := ?vr3_12) ?hr3_12 (by kernel_rfl) (by kernel_rfl) (by kernel_rfl) ?qr3_12 (Or.inl ⟨?wr3_12, ?yr3_12⟩) (by assumption) ?rr3_12
                      case hr3_12 => (simp only [List.getElem?_toArray, List.getElem?_cons_succ, List.getElem?_cons_zero]; rfl)
                      case qr3_12 => exact fun _ _ _ h => h
                      case wr3_12 => rfl
                      case yr3_12 => (intro w hSw; (try dsimp only at hSw); go_simp <;> with_reducible rfl)
                      try simp only [Act.put, List.setIfInBounds_toArray, List.set_cons_zero, List.set_cons_succ]
                      refine wpAnyH_take (i := 13) (oi := ?or3_13) (v := ?vr3_13) ?hr3_13 (by kernel_rfl) (by kernel_rfl) (by kernel_rfl) ?qr3_13 (Or.inl ⟨?wr3_13, ?yr3_13⟩) (by assumption) ?rr3_13
                      case hr3_13 => (simp only [List.getElem?_toArray, List.getElem?_cons_succ, List.getElem?_cons_zero]; rfl)
                      case qr3_13 => exact fun _ _ _ h => h
                      case wr3_13 => rfl
                      case yr3_13 => (intro w hSw; (try dsimp only at hSw); go_simp <;> with_reducible rfl)
                      try simp only [Act.put, List.setIfInBounds_toArray, List.set_cons_zero, List.set_cons_succ]
                      refine wpAnyH_take (i := 14) (oi := ?or3_14) (v := ?vr3_14) ?hr3_14 (by kernel_rfl) (by kernel_rfl) (by kernel_rfl) ?qr3_14 (Or.inl ⟨?wr3_14, ?yr3_14⟩) (by assumption) ?rr3_14
                      case hr3_14 => (simp only [List.getElem?_toArray, List.getElem?_cons_succ, List.getElem?_cons_zero]; rfl)
                      case qr3_14 => exact fun _ _ _ h => h
                      case wr3_14 => rfl
                      case yr3_14 => (intro w hSw; (try dsimp only at hSw); go_simp <;> with_reducible rfl)
                      try simp only [Act.put, List.setIfInBounds_toArray, List.set_cons_zero, List.set_cons_succ]
                      refine wpAnyH_take (i := 15) (oi := ?or3_15) (v := ?vr3_15) ?hr3_15 (by kernel_rfl) (by kernel_rfl) (by kernel_rfl) ?qr3_15 (Or.inl ⟨?wr3_15, ?yr3_15⟩) (by assumption) ?rr3_15
                      case hr3_15 => (simp only [List.getElem?_toArray, List.getElem?_cons_succ, List.getElem?_cons_zero]; rfl)
                      case qr3_15 => exact fun _ _ _ h => h
                      case wr3_15 => rfl
                      case yr3_15 => (intro w hSw; (try dsimp only at hSw); go_simp <;> with_reducible rfl)
                      try simp only [Act.put, List.setIfInBounds_toArray, List.set_cons_zero, List.set_cons_succ]
                      refine wpAnyH_take (i := 16) (oi := ?or3_16) (v := ?vr3_16) ?hr3_16 (by kernel_rfl) (by kernel_rfl) (by kernel_rfl) ?qr3_16 (Or.inl ⟨?wr3_16, ?yr3_16⟩) (by assumption) ?rr3_16
                      case hr3_16 => (simp only [List.getElem?_toArray, List.getElem?_cons_succ, List.getElem?_cons_zero]; rfl)
                      case qr3_16 => exact fun _ _ _ h => h
                      case wr3_16 => rfl
                      case yr3_16 => (intro w hSw; (try dsimp only at hSw); go_simp <;> with_reducible rfl)
                      try simp only [Act.put, List.setIfInBounds_toArray, List.set_cons_zero, List.set_cons_succ]
                      refine wpAnyH_take (i := 17) (oi := ?or3_17) (v := ?vr3_17) ?hr3_17 (by kernel_rfl) (by kernel_rfl) (by kernel_rfl) ?qr3_17 (Or.inl ⟨?wr3_17, ?yr3_17⟩) (by assumption) ?rr3_17
                      case hr3_17 => (simp only [List.getElem?_toArray, List.getElem?_cons_succ, List.getElem?_cons_zero]; rfl)
                      case qr3_17 => exact fun _ _ _ h => h
                      case wr3_17 => rfl
                      case yr3_17 => (intro w hSw; (try dsimp only at hSw); go_simp <;> with_reducible rfl)
                      try simp only [Act.put, List.setIfInBounds_toArray, List.set_cons_zero, List.set_cons_succ]
                      refine wpAnyH_take (i := 18) (oi := ?or3_18) (v := ?vr3_18) ?hr3_18 (by kernel_rfl) (by kernel_rfl) (by kernel_rfl) ?qr3_18 (Or.inl ⟨?wr3_18, ?yr3_18⟩) (by assumption) ?rr3_18
                      case hr3_18 => (simp only [List.getElem?_toArray, List.getElem?_cons_succ, List.getElem?_cons_zero]; rfl)
                      case qr3_18 => exact fun _ _ _ h => h
                      case wr3_18 => rfl
                      case yr3_18 => (intro w hSw; (try dsimp only at hSw); go_simp <;> with_reducible rfl)
                      try simp only [Act.put, List.setIfInBounds_toArray, List.set_cons_zero, List.set_cons_succ]
                      refine wpAnyH_ready (rs := [19]) (by kernel_rfl) (by simp) ?_
                      refine AllReadyH.cons (o := ?or3_19) ?hr3_19 (fun K hK => ?kr3_19) AllReadyH.nil
                      case hr3_19 => (simp only [List.getElem?_toArray, List.getElem?_cons_succ, List.getElem?_cons_zero]; rfl)
                      go_simp
                      go_at_call 82; refine (HLW.out _).mono ?_; rintro e w8 ⟨rfl, rfl⟩
                      refine hK.out _ _ (by exact ⟨z0, hdc, hdi, hc⟩) (fun hHeld => ?_)
                      clear hK K
                      try simp only [Act.put, List.setIfInBounds_toArray, List.set_cons_zero, List.set_cons_succ]
                      refine wpAnyH_take (i := 20) (oi := ?or3_20) (v := ?vr3_20) ?hr3_20 (by kernel_rfl) (by kernel_rfl) (by kernel_rfl) ?qr3_20 (Or.inl ⟨?wr3_20, ?yr3_20⟩) (by assumption) ?rr3_20
                      case hr3_20 => (simp only [List.getElem?_toArray, List.getElem?_cons_succ, List.getElem?_cons_zero]; rfl)
                      case qr3_20 => exact fun _ _ _ h => h
                      case wr3_20 => rfl
                      case yr3_20 => (intro w hSw; (try dsimp only at hSw); go_simp <;> with_reducible rfl)
                      try simp only [Act.put, List.setIfInBounds_toArray, List.set_cons_zero, List.set_cons_succ]
                      refine wpAnyH_take (i := 21) (oi := ?or3_21) (v := ?vr3_21) ?hr3_21 (by kernel_rfl) (by kernel_rfl) (by kernel_rfl) ?qr3_21 (Or.inl ⟨?wr3_21, ?yr3_21⟩) (by assumption) ?rr3_21
                      case hr3_21 => (simp only [List.getElem?_toArray, List.getElem?_cons_succ, List.getElem?_cons_zero]; rfl)
                      case qr3_21 => exact fun _ _ _ h => h
                      case wr3_21 => rfl
                      case yr3_21 => (intro w hSw; (try dsimp only at hSw); go_simp <;> with_reducible rfl)
                      try simp only [Act.put, List.setIfInBounds_toArray, List.set_cons_zero, List.set_cons_succ]
                      refine wpAnyH_take (i := 22) (oi := ?or3_22) (v := ?vr3_22) ?hr3_22 (by kernel_rfl) (by kernel_rfl) (by kernel_rfl) ?qr3_22 (Or.inl ⟨?wr3_22, ?yr3_22⟩) (by assumption) ?rr3_22
                      case hr3_22 => (simp only [List.getElem?_toArray, List.getElem?_cons_succ, List.getElem?_cons_zero]; rfl)
                      case qr3_22 => exact fun _ _ _ h => h
                      case wr3_22 => rfl
                      case yr3_22 => (intro w hSw; (try dsimp only at hSw); go_simp <;> with_reducible rfl)
                      try simp only [Act.put, List.setIfInBounds_toArray, List.set_cons_zero, List.set_cons_succ]
                      refine wpAnyH_done (by kernel_rfl) ?_ _
                      generalize wr.drew = wd at *
                      clear z0 z1 zf0 zf1 lz hdc hdi hc
                      have HB1 := Lib.hid ((Below.refl wd.heap.size wd).alloc (Nat.le_refl _) (.cells #[.int .i64 (j : Int), .int .i64 (i : Int), .int .i64 (cj : Int)] 2))
                      have HN2 := Lib.hid (own_three wd wd.heap.size (Nat.le_refl _) (j : Int) (i : Int) (cj : Int))
                      have HOL := Lib.hid (HAId.out.own.later HB1.out)
                      go_wp2_with (at_builtin; refine wpList_app1 _ _ _ _ _ etS (by rfl) (by rfl) (w.heap.size + 1 + 1) (.slice A1 R.length c1) R.length (hv R) (by rfl) (HOL.out.out.alloc _) _ (.slice (some ⟨wd.heap.size, 0, none⟩) 3 3) (by rfl) (new_cell1 wd _ _ _) (by rfl) hq (Nat.le_trans (Nat.le_trans hbw HB1.out.size) (Nat.le_of_lt (by simp))) ?_; (intro g2 c2 w3 hown3 hg3 hat3 hlt3; have HNN := Lib.hid (ActIn.push HAId.out HB1.out HN2.out rfl hbw hown3 hg3 hat3); clear hown3 hg3 hat3 hlt3))
                      go_roundw
                      case rel =>
                        refine ⟨cj + 1, R ++ [⟨some ⟨wd.heap.size, 0, none⟩, 3, [(j : Int), (i : Int), (cj : Int)]⟩], some ⟨g2, 0, none⟩, c2, by omega, by go_num, by simp, Lib.hid ?_, HNN.out⟩
                        rw [dat_append1, HD.out, HD'.out, ← List.append_assoc]
                      case measure => simp [intOf]; omega
                  · have hddb : (dc == di + (j : Int)) = false := by simpa using hdd
                    have hnt : tb mv (pv r) = false := by
                      cases h : tb mv (pv r) with
                      | false => rfl
                      | true => exact absurd (hpn h) hdd
                    have HD' : Hid (dat R = partJ (dat L) S (j - 1) ++ partI (dat L) S j i ++ partC (dat L) S j i (cj + 1)) := Lib.hid (by rw [hcs, hnt, if_neg (by simp), List.append_nil]; exact HD.out)
                    clear hai hcs hpn hdd hand hnt
                    go_wp2_with fail
                    refine wp_region_held_drew (S := (fun w' => w'.cell? ⟨w.heap.size + 1 + 1 + 1, 0, none⟩ = some (.slice (some ⟨gd, 0, none⟩) k cd) ∧ w'.cell? ⟨gd, cj, none⟩ = some (.int .i64 dc) ∧ w'.cell? ⟨gd, i, none⟩ = some (.int .i64 di) ∧ w'.cell? ⟨b, o + cj, none⟩ = some (.int .i64 (r : Nat)))) (by kernel_rfl) (by exact ⟨z0, hdc, hdi, hc⟩) (fun hHeld => ?_)
                    refine wpAnyH_take (i := 0) (oi := ?or4_0) (v := ?vr4_0) ?hr4_0 (by kernel_rfl) (by kernel_rfl) (by kernel_rfl) ?qr4_0 (Or.inl ⟨?wr4_0, ?yr4_0⟩) (by assumption) ?rr4_0
                    case hr4_0 => (simp only [List.getElem?_toArray, List.getElem?_cons_succ, List.getElem?_cons_zero]; rfl)
                    case qr4_0 => exact fun _ _ _ h => h
                    case wr4_0 => rfl
                    case yr4_0 => (intro w hSw; (try dsimp only at hSw); go_simp <;> with_reducible rfl)
                    try simp only [Act.put, List.setIfInBounds_toArray, List.set_cons_zero, List.set_cons_succ]
                    refine wpAnyH_take (i := 1) (oi := ?or4_1) (v := ?vr4_1) ?hr4_1 (by kernel_rfl) (by kernel_rfl) (by kernel_rfl) ?qr4_1 (Or.inl ⟨?wr4_1, ?yr4_1⟩) (by assumption) ?rr4_1
                    case hr4_1 => (simp only [List.getElem?_toArray, List.getElem?_cons_succ, List.getElem?_cons_zero]; rfl)
                    case qr4_1 => exact fun _ _ _ h => h
                    case wr4_1 => rfl
                    case yr4_1 => (intro w hSw; (try dsimp only at hSw); go_simp <;> with_reducible rfl)
                    try simp only [Act.put, List.setIfInBounds_toArray, List.set_cons_zero, List.set_cons_succ]
                    refine wpAnyH_take (i := 2) (oi := ?or4_2) (v := ?vr4_2) ?hr4_2 (by kernel_rfl) (by kernel_rfl) (by kernel_rfl) ?qr4_2 (Or.inl ⟨?wr4_2, ?yr4_2⟩) (by assumption) ?rr4_2
                    case hr4_2 => (simp only [List.getElem?_toArray, List.getElem?_cons_succ, List.getElem?_cons_zero]; rfl)
                    case qr4_2 => exact fun _ _ _ h => h
                    case wr4_2 => rfl
                    case yr4_2 => (intro w hSw; (try dsimp only at hSw); go_simp <;> with_reducible rfl)
                    try simp only [Act.put, List.setIfInBounds_toArray, List.set_cons_zero, List.set_cons_succ]
                    refine wpAnyH_take (i := 3) (oi := ?or4_3) (v := ?vr4_3) ?hr4_3 (by kernel_rfl) (by kernel_rfl) (by kernel_rfl) ?qr4_3 (Or.inl ⟨?wr4_3, ?yr4_3⟩) (by assumption) ?rr4_3
                    case hr4_3 => (simp only [List.getElem?_toArray, List.getElem?_cons_succ, List.getElem?_cons_zero]; rfl)
                    case qr4_3 => exact fun _ _ _ h => h
                    case wr4_3 => rfl
                    case yr4_3 => (intro w hSw; (try dsimp only at hSw); go_simp <;> with_reducible rfl)
                    try simp only [Act.put, List.setIfInBounds_toArray, List.set_cons_zero, List.set_cons_succ]
                    refine wpAnyH_take (i := 4) (oi := ?or4_4) (v := ?vr4_4) ?hr4_4 (by kernel_rfl) (by kernel_rfl) (by kernel_rfl) ?qr4_4 (Or.inl ⟨?wr4_4, ?yr4_4⟩) (by assumption) ?rr4_4
                    case hr4_4 => (simp only [List.getElem?_toArray, List.getElem?_cons_succ, List.getElem?_cons_zero]; rfl)
                    case qr4_4 => exact fun _ _ _ h => h
                    case wr4_4 => rfl
                    case yr4_4 => (intro w hSw; (try dsimp only at hSw); go_simp <;> with_reducible rfl)
                    try simp only [Act.put, List.setIfInBounds_toArray, List.set_cons_zero, List.set_cons_succ]
                    refine wpAnyH_take (i := 5) (oi := ?or4_5) (v := ?vr4_5) ?hr4_5 (by kernel_rfl) (by kernel_rfl) (by kernel_rfl) ?qr4_5 (Or.inl ⟨?wr4_5, ?yr4_5⟩) (by assumption) ?rr4_5
                    case hr4_5 => (simp only [List.getElem?_toArray, List.getElem?_cons_succ, List.getElem?_cons_zero]; rfl)
                    case qr4_5 => exact fun _ _ _ h => h
                    case wr4_5 => rfl
                    case yr4_5 => (intro w hSw; (try dsimp only at hSw); go_simp <;> with_reducible rfl)
                    try simp only [Act.put, List.setIfInBounds_toArray, List.set_cons_zero, List.set_cons_succ]
                    refine wpAnyH_take (i := 6) (oi := ?or4_6) (v := ?vr4_6) ?hr4_6 (by kernel_rfl) (by kernel_rfl) (by kernel_rfl) ?qr4_6 (Or.inl ⟨?wr4_6, ?yr4_6⟩) (by assumption) ?rr4_6
                    case hr4_6 => (simp only [List.getElem?_toArray, List.getElem?_cons_succ, List.getElem?_cons_zero]; rfl)
                    case qr4_6 => exact fun _ _ _ h => h
                    case wr4_6 => rfl
                    case yr4_6 => (intro w hSw; (try dsimp only at hSw); go_simp <;> with_reducible rfl)
                    try simp only [Act.put, List.setIfInBounds_toArray, List.set_cons_zero, List.set_cons_succ]
                    refine wpAnyH_take (i := 7) (oi := ?or4_7) (v := ?vr4_7) ?hr4_7 (by kernel_rfl) (by kernel_rfl) (by kernel_rfl) ?qr4_7 (Or.inl ⟨?wr4_7, ?yr4_7⟩) (by assumption) ?rr4_7
                    case hr4_7 => (simp only [List.getElem?_toArray, List.getElem?_cons_succ, List.getElem?_cons_zero]; rfl)
                    case qr4_7 => exact fun _ _ _ h => h
                    case wr4_7 => rfl
                    case yr4_7 => (intro w hSw; (try dsimp only at hSw); go_simp <;> with_reducible rfl)
                    try simp only [Act.put, List.setIfInBounds_toArray, List.set_cons_zero, List.set_cons_succ]
                    refine wpAnyH_take (i := 8) (oi := ?or4_8) (v := ?vr4_8) ?hr4_8 (by kernel_rfl) (by kernel_rfl) (by kernel_rfl) ?qr4_8 (Or.inl ⟨?wr4_8, ?yr4_8⟩) (by assumption) ?rr4_8
                    case hr4_8 => (simp only [List.getElem?_toArray, List.getElem?_cons_succ, List.getElem?_cons_zero]; rfl)
                    case qr4_8 => exact fun _ _ _ h => h
                    case wr4_8 => rfl
                    case yr4_8 => (intro w hSw; (try dsimp only at hSw); go_simp <;> with_reducible rfl)
                    try simp only [Act.put, List.setIfInBounds_toArray, List.set_cons_zero, List.set_cons_succ]
                    refine wpAnyH_take (i := 9) (oi := ?or4_9) (v := ?vr4_9) ?hr4_9 (by kernel_rfl) (by kernel_rfl) (by kernel_rfl) ?qr4_9 (Or.inl ⟨?wr4_9, ?yr4_9⟩) (by assumption) ?rr4_9
                    case hr4_9 => (simp only [List.getElem?_toArray, List.getElem?_cons_succ, List.getElem?_cons_zero]; rfl)
                    case qr4_9 => exact fun _ _ _ h => h
                    case wr4_9 => rfl
                    case yr4_9 => (intro w hSw; (try dsimp only at hSw); go_simp <;> with_reducible rfl)
                    try simp only [Act.put, List.setIfInBounds_toArray, List.set_cons_zero, List.set_cons_succ]
                    refine wpAnyH_take (i := 10) (oi := ?or4_10) (v := ?vr4_10) ?hr4_10 (by kernel_rfl) (by kernel_rfl) (by kernel_rfl) ?qr4_10 (Or.inl ⟨?wr4_10, ?yr4_10⟩) (by assumption) ?rr4_10
                    case hr4_10 => (simp only [List.getElem?_toArray, List.getElem?_cons_succ, List.getElem?_cons_zero]; rfl)
                    case qr4_10 => exact fun _ _ _ h => h
                    case wr4_10 => rfl
                    case yr4_10 => (intro w hSw; (try dsimp only at hSw); go_simp <;> with_reducible rfl)
                    try simp only [Act.put, List.setIfInBounds_toArray, List.set_cons_zero, List.set_cons_succ]
                    refine wpAnyH_take (i := 11) (oi := ?or4_11) (v := ?vr4_11) ?hr4_11 (by kernel_rfl) (by kernel_rfl) (by kernel_rfl) ?qr4_11 (Or.inl ⟨?wr4_11, ?yr4_11⟩) (by assumption) ?rr4_11
                    case hr4_11 => (simp only [List.getElem?_toArray, List.getElem?_cons_succ, List.getElem?_cons_zero]; rfl)
                    case qr4_11 => exact fun _ _ _ h => h
                    case wr4_11 => rfl
                    case yr4_11 => (intro w hSw; (try dsimp only at hSw); go_simp <;> with_reducible rfl)
                    try simp only [Act.put, List.setIfInBounds_toArray, List.set_cons_zero, List.set_cons_succ]
                    refine wpAnyH_take (i := 12) (oi := ?or4_12) (v := ?vr4_12) ?hr4_12 (by kernel_rfl) (by kernel_rfl) (by kernel_rfl) ?qr4_12 (Or.inl ⟨?wr4_12, ?yr4_12⟩) (by assumption) ?rr4_12
                    case hr4_12 => (simp only [List.getElem?_toArray, List.getElem?_cons_succ, List.getElem?_cons_zero]; rfl)
                    case qr4_12 => exact fun _ _ _ h => h
                    case wr4_12 => rfl
                    case yr4_12 => (intro w hSw; (try dsimp only at hSw); go_simp <;> with_reducible rfl)
                    try simp only [Act.put, List.setIfInBounds_toArray, List.set_cons_zero, List.set_cons_succ]
                    refine wpAnyH_take (i := 13) (oi := ?or4_13) (v := ?vr4_13) ?hr4_13 (by kernel_rfl) (by kernel_rfl) (by kernel_rfl) ?qr4_13 (Or.inl ⟨?wr4_13, ?yr4_13⟩) (by assumption) ?rr4_13
                    case hr4_13 => (simp only [List.getElem?_toArray, List.getElem?_cons_succ, List.getElem?_cons_zero]; rfl)
                    case qr4_13 => exact fun _ _ _ h => h
                    case wr4_13 => rfl
                    case yr4_13 => (intro w hSw; (try dsimp only at hSw); go_simp <;> with_reducible rfl)
                    try simp only [Act.put, List.setIfInBounds_toArray, List.set_cons_zero, List.set_cons_succ]
                    refine wpAnyH_take (i := 14) (oi := ?or4_14) (v := undef) ?hr4_14 (by kernel_rfl) (by kernel_rfl) (by kernel_rfl) ?qr4_14 (Or.inr ⟨?wr4_14, rfl⟩) (by assumption) ?rr4_14
                    case hr4_14 => (simp only [List.getElem?_toArray, List.getElem?_cons_succ, List.getElem?_cons_zero]; rfl)
                    case qr4_14 => exact fun _ _ _ h => h
                    case wr4_14 => rfl
                    try simp only [Act.put, List.setIfInBounds_toArray, List.set_cons_zero, List.set_cons_succ]
                    refine wpAnyH_take (i := 15) (oi := ?or4_15) (v := undef) ?hr4_15 (by kernel_rfl) (by kernel_rfl) (by kernel_rfl) ?qr4_15 (Or.inr ⟨?wr4_15, rfl⟩) (by assumption) ?rr4_15
                    case hr4_15 => (simp only [List.getElem?_toArray, List.getElem?_cons_succ, List.getElem?_cons_zero]; rfl)
                    case qr4_15 => exact fun _ _ _ h => h
                    case wr4_15 => rfl
                    try simp only [Act.put, List.setIfInBounds_toArray, List.set_cons_zero, List.set_cons_succ]
                    refine wpAnyH_take (i := 16) (oi := ?or4_16) (v := undef) ?hr4_16 (by kernel_rfl) (by kernel_rfl) (by kernel_rfl) ?qr4_16 (Or.inr ⟨?wr4_16, rfl⟩) (by assumption) ?rr4_16
                    case hr4_16 => (simp only [List.getElem?_toArray, List.getElem?_cons_succ, List.getElem?_cons_zero]; rfl)
                    case qr4_16 => exact fun _ _ _ h => h
                    case wr4_16 => rfl
                    try simp only [Act.put, List.setIfInBounds_toArray, List.set_cons_zero, List.set_cons_succ]
                    refine wpAnyH_take (i := 17) (oi := ?or4_17) (v := undef) ?hr4_17 (by kernel_rfl) (by kernel_rfl) (by kernel_rfl) ?qr4_17 (Or.inr ⟨?wr4_17, rfl⟩) (by assumption) ?rr4_17
                    case hr4_17 => (simp only [List.getElem?_toArray, List.getElem?_cons_succ, List.getElem?_cons_zero]; rfl)
                    case qr4_17 => exact fun _ _ _ h => h
                    case wr4_17 => rfl
                    try simp only [Act.put, List.setIfInBounds_toArray, List.set_cons_zero, List.set_cons_succ]
                    refine wpAnyH_take (i := 18) (oi := ?or4_18) (v := undef) ?hr4_18 (by kernel_rfl) (by kernel_rfl) (by kernel_rfl) ?qr4_18 (Or.inr ⟨?wr4_18, rfl⟩) (by assumption) ?rr4_18
                    case hr4_18 => (simp only [List.getElem?_toArray, List.getElem?_cons_succ, List.getElem?_cons_zero]; rfl)
                    case qr4_18 => exact fun _ _ _ h => h
                    case wr4_18 => rfl
                    try simp only [Act.put, List.setIfInBounds_toArray, List.set_cons_zero, List.set_cons_succ]
                    refine wpAnyH_take (i := 19) (oi := ?or4_19) (v := undef) ?hr4_19 (by kernel_rfl) (by kernel_rfl) (by kernel_rfl) ?qr4_19 (Or.inr ⟨?wr4_19, rfl⟩) (by assumption) ?rr4_19
                    case hr4_19 => (simp only [List.getElem?_toArray, List.getElem?_cons_succ, List.getElem?_cons_zero]; rfl)
                    case qr4_19 => exact fun _ _ _ h => h
                    case wr4_19 => rfl
                    try simp only [Act.put, List.setIfInBounds_toArray, List.set_cons_zero, List.set_cons_succ]
                    refine wpAnyH_take (i := 20) (oi := ?or4_20) (v := undef) ?hr4_20 (by kernel_rfl) (by kernel_rfl) (by kernel_rfl) ?qr4_20 (Or.inr ⟨?wr4_20, rfl⟩) (by assumption) ?rr4_20
                    case hr4_20 => (simp only [List.getElem?_toArray, List.getElem?_cons_succ, List.getElem?_cons_zero]; rfl)
                    case qr4_20 => exact fun _ _ _ h => h
                    case wr4_20 => rfl
                    try simp only [Act.put, List.setIfInBounds_toArray, List.set_cons_zero, List.set_cons_succ]
                    refine wpAnyH_take (i := 21) (oi := ?or4_21) (v := undef) ?hr4_21 (by kernel_rfl) (by kernel_rfl) (by kernel_rfl) ?qr4_21 (Or.inr ⟨?wr4_21, rfl⟩) (by assumption) ?rr4_21
                    case hr4_21 => (simp only [List.getElem?_toArray, List.getElem?_cons_succ, List.getElem?_cons_zero]; rfl)
                    case qr4_21 => exact fun _ _ _ h => h
                    case wr4_21 => rfl
                    try simp only [Act.put, List.setIfInBounds_toArray, List.set_cons_zero, List.set_cons_succ]
                    refine wpAnyH_take (i := 22) (oi := ?or4_22) (v := ?vr4_22) ?hr4_22 (by kernel_rfl) (by kernel_rfl) (by kernel_rfl) ?qr4_22 (Or.inl ⟨?wr4_22, ?yr4_22⟩) (by assumption) ?rr4_22
                    case hr4_22 => (simp only [List.getElem?_toArray, List.getElem?_cons_succ, List.getElem?_cons_zero]; rfl)
                    case qr4_22 => exact fun _ _ _ h => h
                    case wr4_22 => rfl
                    case yr4_22 => (intro w hSw; (try dsimp only at hSw); go_simp <;> with_reducible rfl)
                    try simp only [Act.put, List.setIfInBounds_toArray, List.set_cons_zero, List.set_cons_succ]
                    refine wpAnyH_done (by kernel_rfl) ?_ _
                    go_wp2_with fail
                    go_roundw
                    case rel => exact ⟨cj + 1, R, A1, c1, by omega, by go_num, rfl, HD', HAI.out.later (below_drewN (Below.refl _ _) 1)⟩
                    case measure => simp [intOf]; omega
                · obtain rfl : k = cj := by omega
                  have HD' : Hid (dat R = partJ (dat L) S (j - 1) ++ partI (dat L) S j (i + 1)) := Lib.hid (by
                    rw [HD.out, List.append_assoc, partI_next, ← Hk.out])
                  clear hai
                  go_wp2_with fail
                  go_roundw
                  case rel => exact ⟨i + 1, R, A1, c1, by omega, by go_num, rfl, HD', HAI.out⟩
                  case measure => simp [intOf]; omega
            · obtain rfl : k = i := by omega
              have HD' : Hid (dat R = partJ (dat L) S (j + 1 - 1)) := Lib.hid (by
                obtain ⟨j', rfl⟩ : ∃ j', j = j' + 1 := ⟨j - 1, by omega⟩
                rw [HD.out]
                show _ = partJ (dat L) S j' ++ partI (dat L) S (j' + 1) S.length
                rw [← Hk.out]; rfl)
              clear hai
              go_wp2_with fail
              go_roundw
              case rel => exact ⟨j + 1, R, A1, c1, by omega, by omega, by go_num, rfl, HD', HAI.out⟩
              case measure => simp [intOf]; omega
        · obtain rfl : j = 21 := by omega
          have hpl : (partD xs S).length = k := by rw [HPD.out, Hk.out]
          have hdeg := HDW.out wr hai.kp
          have hk5r := HBK.out _ _ (by omega) HK5r.out wr hai.kp
          have hk4r := HBK.out _ _ (by omega) HKP4.out wr hai.kp
          have HE1 := Lib.hid (blk2set1' hk5r (.slice A1 R.length c1))
          have HE2 := Lib.hid (blk_seto hk4r ⟨w.heap.size + 1 + 1 + 1, 1, none⟩ (by show w.heap.size + 1 + 1 + 1 ≠ w.heap.size + 1; omega) (.slice A1 R.length c1))
          have HE3 := Lib.hid (blk2set0' HE2.out (.slice Ad k cd))
          have HFD := Lib.hid (own_setBoxZ (k := 1) (own_setBoxZ (k := 0) (own_setBoxZ (k := 1) hdeg hk5r (by decide) (.slice A1 R.length c1)) HE2.out (by decide) (.slice Ad k cd)) HE3.out (by decide) (.slice A1 R.length c1))
          have HFA := Lib.hid (OwnR.setBoxZ (k := 1) (OwnR.setBoxZ (k := 0) (OwnR.setBoxZ (k := 1) hai.own hk5r (by decide) (by decide) (.slice A1 R.length c1)) HE2.out (by decide) (by decide) (.slice Ad k cd)) HE3.out (by decide) (by decide) (.slice A1 R.length c1))
          have HDJ : Hid (∀ i, i < R.length → (Value.slice Ad k cd).ownBlock = none ∨ (Value.slice Ad k cd).ownBlock ≠ (rg R i).val.ownBlock) := Lib.hid (fun i hi => by
            cases h : (Value.slice Ad k cd).ownBlock with
            | none => exact .inl rfl
            | some g =>
              refine .inr fun e => ?_
              have h1 := (HDO.out.lt g h).2
              have h2 := HAI.out.new i hi g e.symm
              omega)
          have HBF := Lib.hid (HBW.out wr hai.kp)
          obtain ⟨z0, z1, zf0, zf1, lz⟩ := blk2cells hk5r
          obtain ⟨y0, y1, yf0, yf1, ly⟩ := blk2cells hk4r
          have h45 : w.heap.size + 1 ≠ w.heap.size + 1 + 1 + 1 := by omega
          clear hai hdeg hk5r hk4r
          go_wp2_with fail
          (try simp only [Exit.inBlock, Exit.then])
          refine ret_mod rfl rfl rfl (blk2set1' HE3.out _) ?_
          refine ⟨_, rfl, ⟨Ad, cd, A1, c1, R, by rw [hpl], by rw [hpl]; exact HFD.out.mono (by omega), HD.out, HFA.out.mono (by omega), by rw [hpl]; exact HDJ.out⟩, ?_⟩
          exact (((HBF.out.setCell (p := ⟨w.heap.size + 1 + 1 + 1, 1, none⟩) (by show w.heap.size ≤ w.heap.size + 1 + 1 + 1; omega) _).setCell (p := ⟨w.heap.size + 1, 0, none⟩) (by show w.heap.size ≤ w.heap.size + 1; omega) _).setCell (p := ⟨w.heap.size + 1, 1, none⟩) (by show w.heap.size ≤ w.heap.size + 1; omega) _)
end Go.Proofs.YtpchigdhnnkpcaaGreatDoor
