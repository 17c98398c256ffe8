/- the program's transposed · the images that a mask of unknowns tells: the reference's l12Told, the program's images -/
import Derived.Test.YtdkmdmpaflgfaaaGreatDoorBxal
import Derived.Test.YtdkmdmpaflgfaaaGreatDoorBxaf
import Derived.Test.YtdkmdmpaflgfaaaGreatDoorBxah
import Derived.Test.YtdkmdmpaflgfaaaGreatDoorBxak
set_option linter.all false
namespace Go.Proofs.YtdkmdmpaflgfaaaGreatDoor
open Go.RowKit

theorem mapR_ite {U j : Nat} (f g : Nat → Nat) (h : j < U) (v : Nat) (hv : v = g j) : (mapR U fun u => if u < j then g u else f u).set j v = mapR U fun u => if u < j + 1 then g u else f u := by
  rw [mapR_set _ _ h]
  refine mapR_congr fun u _ => ?_
  by_cases e : u = j
  · subst e; simp [hv]
  · have h2 : u < j + 1 ↔ u < j := by omega
    rw [if_neg e]; simp only [h2]
theorem or_two {a t : Nat} (ha : Sm a) (ht : t ≤ 60) : bits .or .i64 (a : Int) ((2 : Int) ^ t) = ((orr a (2 ^ t) : Nat) : Int) := by
  have h2 : Sm (2 ^ t) := sm_of_lt (a := t + 1) (by omega) (pow_lt_succ t)
  have := i64_or_nat ha h2
  rwa [show ((2 ^ t : Nat) : Int) = (2 : Int) ^ t by simp] at this
theorem or_nil {a : Nat} (ha : Sm a) : bits .or .i64 (a : Int) 0 = (a : Int) := by
  have := i64_or_nat ha (b := 0) Sm.zero
  simpa [orr] using this

set_option maxRecDepth 100000 in
set_option maxHeartbeats 8000000 in
theorem transposed_any (A : Option Addr) (n c U : Nat) (C : List Nat) (w : World) (hn : n = C.length) (hn60 : n ≤ 60) (hU : U ≤ 60) (hS : ∀ r ∈ C, Sm r) (hR : Rd w A (nv C)) :
    Calls Tryz.prog 83 #[.slice A n c, .int .i64 U] w fun e w' => ∃ v, e = .returned v ∧ w'.ownsRow w.heap.size 2 1 v U (nv (trL C U)) ∧ Below w.heap.size w w' := by
  have hmk := run_make_row' (P := Tryz.prog) 22 2 (.int .i64 0) 8 Tryz.underlying22 infoI rfl .i64 .i64 U (by omega) (by omega)
  have HR := Lib.hid hR
  have Hn := Lib.hid hn
  have HS := Lib.hid hS
  have HTS : Hid (∀ u i, i ≤ n → Sm (trTo C u i)) := Lib.hid (fun u i hi => sm_of_lt (a := i) (by omega) (lt_of_tb fun m hm => by rw [tb_trTo, decide_eq_false (by omega)]; rfl))
  have HFIN : Hid (trL C U = mapR U fun u => trTo C u n) := Lib.hid (by rw [hn]; rfl)
  have HMO : Hid ((w.alloc (.cells (madeCells #[.int .i64 0] U) 2)).ownsRow w.heap.size 2 1 (.slice (some ⟨w.heap.size, 0, none⟩) U U) U (nv (mapR U fun u => trTo C u 0))) := Lib.hid (by
    have h := made_own w w.heap.size U (Nat.le_refl _) (by omega)
    rw [← mapR_zero] at h; exact h)
  clear hn hS hR
  go_enter Tryz.func83, Tryz.ntmps83
  go_wp2_with fail
  go_loopw [13] (fun ii wr => ∃ i : Nat, i ≤ n ∧ ii = .int .i64 i ∧ wr.ownsRow w.heap.size 2 1 (.slice (some ⟨w.heap.size, 0, none⟩) U U) U (nv (mapR U fun u => trTo C u i)) ∧ Below w.heap.size w wr) (fun ii _ => n - (intOf ii).toNat)
  case atStart => exact ⟨0, by omega, rfl, HMO.out, (Below.refl _ _).alloc (Nat.le_refl _) _⟩
  case round =>
    obtain ⟨i, hi, rfl, hown, hbel⟩ := hrel
    have HO := Lib.hid hown
    have HB := Lib.hid hbel
    by_cases hin : i < n
    · have hiC : i < C.length := by rw [← Hn.out]; exact hin
      obtain ⟨b, o, rfl, hc⟩ := (HR.out.below hbel).atN hiC
      have hv := HS.out _ (getD_mem hiC)
      have HTR : Hid (∀ u, trTo C u (i + 1) = if tb (C.getD i 0) u = true then orr (trTo C u i) (2 ^ i) else trTo C u i) := Lib.hid (fun u => rfl)
      generalize C.getD i 0 = v at *
      have HV := Lib.hid hv
      clear hown hbel hv
      go_wp2_with fail
      go_loopw [20] (fun jj wr => ∃ j : Nat, j ≤ U ∧ jj = .int .i64 j ∧ wr.ownsRow w.heap.size 2 1 (.slice (some ⟨w.heap.size, 0, none⟩) U U) U (nv (mapR U fun u => if u < j then trTo C u (i + 1) else trTo C u i)) ∧ Below w.heap.size w wr) (fun jj _ => U - (intOf jj).toNat)
      case atStart => exact ⟨0, by omega, rfl, by rw [mapR_congr (g := fun u => trTo C u i) (fun c _ => by rw [if_neg (by omega)])]; exact HO.out, HB.out⟩
      case round =>
        obtain ⟨j, hj, rfl, hown, hbel⟩ := hrel
        have HOj := Lib.hid hown
        have HBj := Lib.hid hbel
        by_cases hjU : j < U
        · have hmin : min j 64 = j := by omega
          have hmini : min i 64 = i := by omega
          obtain ⟨pb1, pb2⟩ := pow62 (d := i) (by omega)
          have hji : (j : Int) < (U : Int) := by omega
          have hcs := own_nv_getD hown hjU
          rw [mapR_getD _ hjU, if_neg (by omega)] at hcs
          have fz := hown.frozenAt j
          have hbn := i64_bit_nat (n := j) HV.out
          have hs := HTS.out j i (by omega)
          have hot := or_two (t := i) hs (by omega)
          have ho0 := or_nil hs
          have HTj := Lib.hid (HTR.out j)
          cases hbj : tb v j
          · rw [hbj] at hbn
            have HSTO := Lib.hid ((World.ownsRow.stored hown j (.int .i64 ((trTo C j i : Nat) : Int))).1)
            rw [← nv_setY, mapR_ite _ _ hjU _ (by rw [HTj.out, hbj]; simp)] at HSTO
            clear hown hbel hs hot
            generalize trTo C j i = a at *
            simp only [Bool.toNat_false, Int.natCast_zero] at hbn
            go_wp2_with fail
            refine wp_region_any (by kernel_rfl) ?_
            try (change wpAny _ _ _ _ _ _ _ (World.drew _))
            refine wpAny_take (i := 0) (oi := ?oio1_1) (v := ?vo1_1) ?ho1_1 (by kernel_rfl) (by kernel_rfl) (by kernel_rfl) ?qo1_1 (Or.inl ⟨?wo1_1, ?yo1_1⟩) ?ro1_1
            case ho1_1 => (simp only [List.getElem?_toArray, List.getElem?_cons_succ, List.getElem?_cons_zero]; rfl)
            case qo1_1 => exact fun _ _ _ h => h
            case wo1_1 => rfl
            case yo1_1 => (intro w; go_simp <;> with_reducible rfl)
            try simp only [Act.put, List.setIfInBounds_toArray, List.set_cons_zero, List.set_cons_succ]
            refine wpAny_take (i := 1) (oi := ?oio1_2) (v := ?vo1_2) ?ho1_2 (by kernel_rfl) (by kernel_rfl) (by kernel_rfl) ?qo1_2 (Or.inl ⟨?wo1_2, ?yo1_2⟩) ?ro1_2
            case ho1_2 => (simp only [List.getElem?_toArray, List.getElem?_cons_succ, List.getElem?_cons_zero]; rfl)
            case qo1_2 => exact fun _ _ _ h => h
            case wo1_2 => rfl
            case yo1_2 => (intro w; go_simp <;> with_reducible rfl)
            try simp only [Act.put, List.setIfInBounds_toArray, List.set_cons_zero, List.set_cons_succ]
            refine wpAny_take (i := 2) (oi := ?oio1_3) (v := ?vo1_3) ?ho1_3 (by kernel_rfl) (by kernel_rfl) (by kernel_rfl) ?qo1_3 (Or.inl ⟨?wo1_3, ?yo1_3⟩) ?ro1_3
            case ho1_3 => (simp only [List.getElem?_toArray, List.getElem?_cons_succ, List.getElem?_cons_zero]; rfl)
            case qo1_3 => exact fun _ _ _ h => h
            case wo1_3 => rfl
            case yo1_3 => (intro w; go_simp <;> with_reducible rfl)
            try simp only [Act.put, List.setIfInBounds_toArray, List.set_cons_zero, List.set_cons_succ]
            refine wpAny_take (i := 4) (oi := ?oio1_4) (v := ?vo1_4) ?ho1_4 (by kernel_rfl) (by kernel_rfl) (by kernel_rfl) ?qo1_4 (Or.inl ⟨?wo1_4, ?yo1_4⟩) ?ro1_4
            case ho1_4 => (simp only [List.getElem?_toArray, List.getElem?_cons_succ, List.getElem?_cons_zero]; rfl)
            case qo1_4 => exact fun _ _ _ h => h
            case wo1_4 => rfl
            case yo1_4 => (intro w; go_simp <;> with_reducible rfl)
            try simp only [Act.put, List.setIfInBounds_toArray, List.set_cons_zero, List.set_cons_succ]
            refine wpAny_take (i := 5) (oi := ?oio1_5) (v := ?vo1_5) ?ho1_5 (by kernel_rfl) (by kernel_rfl) (by kernel_rfl) ?qo1_5 (Or.inl ⟨?wo1_5, ?yo1_5⟩) ?ro1_5
            case ho1_5 => (simp only [List.getElem?_toArray, List.getElem?_cons_succ, List.getElem?_cons_zero]; rfl)
            case qo1_5 => exact fun _ _ _ h => h
            case wo1_5 => rfl
            case yo1_5 => (intro w; go_simp <;> with_reducible rfl)
            try simp only [Act.put, List.setIfInBounds_toArray, List.set_cons_zero, List.set_cons_succ]
            refine wpAny_take (i := 6) (oi := ?oio1_6) (v := ?vo1_6) ?ho1_6 (by kernel_rfl) (by kernel_rfl) (by kernel_rfl) ?qo1_6 (Or.inl ⟨?wo1_6, ?yo1_6⟩) ?ro1_6
            case ho1_6 => (simp only [List.getElem?_toArray, List.getElem?_cons_succ, List.getElem?_cons_zero]; rfl)
            case qo1_6 => exact fun _ _ _ h => h
            case wo1_6 => rfl
            case yo1_6 => (intro w; go_simp <;> with_reducible rfl)
            try simp only [Act.put, List.setIfInBounds_toArray, List.set_cons_zero, List.set_cons_succ]
            refine wpAny_take (i := 7) (oi := ?oio1_7) (v := ?vo1_7) ?ho1_7 (by kernel_rfl) (by kernel_rfl) (by kernel_rfl) ?qo1_7 (Or.inl ⟨?wo1_7, ?yo1_7⟩) ?ro1_7
            case ho1_7 => (simp only [List.getElem?_toArray, List.getElem?_cons_succ, List.getElem?_cons_zero]; rfl)
            case qo1_7 => exact fun _ _ _ h => h
            case wo1_7 => rfl
            case yo1_7 => (intro w; go_simp <;> with_reducible rfl)
            try simp only [Act.put, List.setIfInBounds_toArray, List.set_cons_zero, List.set_cons_succ]
            refine wpAny_take (i := 8) (oi := ?oio1_8) (v := ?vo1_8) ?ho1_8 (by kernel_rfl) (by kernel_rfl) (by kernel_rfl) ?qo1_8 (Or.inl ⟨?wo1_8, ?yo1_8⟩) ?ro1_8
            case ho1_8 => (simp only [List.getElem?_toArray, List.getElem?_cons_succ, List.getElem?_cons_zero]; rfl)
            case qo1_8 => exact fun _ _ _ h => h
            case wo1_8 => rfl
            case yo1_8 => (intro w; go_simp <;> with_reducible rfl)
            try simp only [Act.put, List.setIfInBounds_toArray, List.set_cons_zero, List.set_cons_succ]
            refine wpAny_take (i := 9) (oi := ?oio1_9) (v := ?vo1_9) ?ho1_9 (by kernel_rfl) (by kernel_rfl) (by kernel_rfl) ?qo1_9 (Or.inl ⟨?wo1_9, ?yo1_9⟩) ?ro1_9
            case ho1_9 => (simp only [List.getElem?_toArray, List.getElem?_cons_succ, List.getElem?_cons_zero]; rfl)
            case qo1_9 => exact fun _ _ _ h => h
            case wo1_9 => rfl
            case yo1_9 => (intro w; go_simp <;> with_reducible rfl)
            try simp only [Act.put, List.setIfInBounds_toArray, List.set_cons_zero, List.set_cons_succ]
            refine wpAny_ready (rs := [3]) (by kernel_rfl) (by simp) ?_
            refine AllReady.cons (o := ?oio1_10) ?ho1_10 (fun K hK => ?ko1_10) ?mo1_10
            case ho1_10 => (simp only [List.getElem?_toArray, List.getElem?_cons_succ, List.getElem?_cons_zero]; rfl)
            case ko1_10 =>
              go_simp
              refine hK _ _ ?_
              clear hK K
              try simp only [Act.put, List.setIfInBounds_toArray, List.set_cons_zero, List.set_cons_succ]
              refine wpAny_take (i := 10) (oi := ?oio1_11) (v := ?vo1_11) ?ho1_11 (by kernel_rfl) (by kernel_rfl) (by kernel_rfl) ?qo1_11 (Or.inl ⟨?wo1_11, ?yo1_11⟩) ?ro1_11
              case ho1_11 => (simp only [List.getElem?_toArray, List.getElem?_cons_succ, List.getElem?_cons_zero]; rfl)
              case qo1_11 => exact fun _ _ _ h => h
              case wo1_11 => rfl
              case yo1_11 => (intro w; go_simp <;> with_reducible rfl)
              try simp only [Act.put, List.setIfInBounds_toArray, List.set_cons_zero, List.set_cons_succ]
              refine wpAny_take (i := 11) (oi := ?oio1_12) (v := ?vo1_12) ?ho1_12 (by kernel_rfl) (by kernel_rfl) (by kernel_rfl) ?qo1_12 (Or.inl ⟨?wo1_12, ?yo1_12⟩) ?ro1_12
              case ho1_12 => (simp only [List.getElem?_toArray, List.getElem?_cons_succ, List.getElem?_cons_zero]; rfl)
              case qo1_12 => exact fun _ _ _ h => h
              case wo1_12 => rfl
              case yo1_12 => (intro w; go_simp <;> with_reducible rfl)
              try simp only [Act.put, List.setIfInBounds_toArray, List.set_cons_zero, List.set_cons_succ]
              refine wpAny_ready (rs := [12]) (by kernel_rfl) (by simp) ?_
              refine AllReady.cons (o := ?oio1_13) ?ho1_13 (fun K hK => ?ko1_13) ?mo1_13
              case ho1_13 => (simp only [List.getElem?_toArray, List.getElem?_cons_succ, List.getElem?_cons_zero]; rfl)
              case ko1_13 =>
                go_simp
                refine hK _ _ ?_
                clear hK K
                try simp only [Act.put, List.setIfInBounds_toArray, List.set_cons_zero, List.set_cons_succ]
                refine wpAny_done (by kernel_rfl) ?_ _
                go_wp2_with fail
                go_roundw
                case rel => exact ⟨j + 1, by omega, by go_num, by rw [ho0]; exact HSTO.out, by rw [ho0]; exact Below.drew (HBj.out.setCell (p := ⟨w.heap.size, j, none⟩) (Nat.le_refl _) _)⟩
                case measure => simp [intOf]; omega
              exact AllReady.nil
            exact AllReady.nil
          · rw [hbj] at hbn
            have HSTO := Lib.hid ((World.ownsRow.stored hown j (.int .i64 ((orr (trTo C j i) (2 ^ i) : Nat) : Int))).1)
            rw [← nv_setY, mapR_ite _ _ hjU _ (by rw [HTj.out, hbj]; simp)] at HSTO
            clear hown hbel hs ho0
            generalize trTo C j i = a at *
            simp only [Bool.toNat_true, Int.natCast_one] at hbn
            go_wp2_with fail
            refine wp_region_any (by kernel_rfl) ?_
            try (change wpAny _ _ _ _ _ _ _ (World.drew _))
            refine wpAny_take (i := 0) (oi := ?oio2_1) (v := ?vo2_1) ?ho2_1 (by kernel_rfl) (by kernel_rfl) (by kernel_rfl) ?qo2_1 (Or.inl ⟨?wo2_1, ?yo2_1⟩) ?ro2_1
            case ho2_1 => (simp only [List.getElem?_toArray, List.getElem?_cons_succ, List.getElem?_cons_zero]; rfl)
            case qo2_1 => exact fun _ _ _ h => h
            case wo2_1 => rfl
            case yo2_1 => (intro w; go_simp <;> with_reducible rfl)
            try simp only [Act.put, List.setIfInBounds_toArray, List.set_cons_zero, List.set_cons_succ]
            refine wpAny_take (i := 1) (oi := ?oio2_2) (v := ?vo2_2) ?ho2_2 (by kernel_rfl) (by kernel_rfl) (by kernel_rfl) ?qo2_2 (Or.inl ⟨?wo2_2, ?yo2_2⟩) ?ro2_2
            case ho2_2 => (simp only [List.getElem?_toArray, List.getElem?_cons_succ, List.getElem?_cons_zero]; rfl)
            case qo2_2 => exact fun _ _ _ h => h
            case wo2_2 => rfl
            case yo2_2 => (intro w; go_simp <;> with_reducible rfl)
            try simp only [Act.put, List.setIfInBounds_toArray, List.set_cons_zero, List.set_cons_succ]
            refine wpAny_take (i := 2) (oi := ?oio2_3) (v := ?vo2_3) ?ho2_3 (by kernel_rfl) (by kernel_rfl) (by kernel_rfl) ?qo2_3 (Or.inl ⟨?wo2_3, ?yo2_3⟩) ?ro2_3
            case ho2_3 => (simp only [List.getElem?_toArray, List.getElem?_cons_succ, List.getElem?_cons_zero]; rfl)
            case qo2_3 => exact fun _ _ _ h => h
            case wo2_3 => rfl
            case yo2_3 => (intro w; go_simp <;> with_reducible rfl)
            try simp only [Act.put, List.setIfInBounds_toArray, List.set_cons_zero, List.set_cons_succ]
            refine wpAny_take (i := 4) (oi := ?oio2_4) (v := ?vo2_4) ?ho2_4 (by kernel_rfl) (by kernel_rfl) (by kernel_rfl) ?qo2_4 (Or.inl ⟨?wo2_4, ?yo2_4⟩) ?ro2_4
            case ho2_4 => (simp only [List.getElem?_toArray, List.getElem?_cons_succ, List.getElem?_cons_zero]; rfl)
            case qo2_4 => exact fun _ _ _ h => h
            case wo2_4 => rfl
            case yo2_4 => (intro w; go_simp <;> with_reducible rfl)
            try simp only [Act.put, List.setIfInBounds_toArray, List.set_cons_zero, List.set_cons_succ]
            refine wpAny_take (i := 5) (oi := ?oio2_5) (v := ?vo2_5) ?ho2_5 (by kernel_rfl) (by kernel_rfl) (by kernel_rfl) ?qo2_5 (Or.inl ⟨?wo2_5, ?yo2_5⟩) ?ro2_5
            case ho2_5 => (simp only [List.getElem?_toArray, List.getElem?_cons_succ, List.getElem?_cons_zero]; rfl)
            case qo2_5 => exact fun _ _ _ h => h
            case wo2_5 => rfl
            case yo2_5 => (intro w; go_simp <;> with_reducible rfl)
            try simp only [Act.put, List.setIfInBounds_toArray, List.set_cons_zero, List.set_cons_succ]
            refine wpAny_take (i := 6) (oi := ?oio2_6) (v := ?vo2_6) ?ho2_6 (by kernel_rfl) (by kernel_rfl) (by kernel_rfl) ?qo2_6 (Or.inl ⟨?wo2_6, ?yo2_6⟩) ?ro2_6
            case ho2_6 => (simp only [List.getElem?_toArray, List.getElem?_cons_succ, List.getElem?_cons_zero]; rfl)
            case qo2_6 => exact fun _ _ _ h => h
            case wo2_6 => rfl
            case yo2_6 => (intro w; go_simp <;> with_reducible rfl)
            try simp only [Act.put, List.setIfInBounds_toArray, List.set_cons_zero, List.set_cons_succ]
            refine wpAny_take (i := 7) (oi := ?oio2_7) (v := ?vo2_7) ?ho2_7 (by kernel_rfl) (by kernel_rfl) (by kernel_rfl) ?qo2_7 (Or.inl ⟨?wo2_7, ?yo2_7⟩) ?ro2_7
            case ho2_7 => (simp only [List.getElem?_toArray, List.getElem?_cons_succ, List.getElem?_cons_zero]; rfl)
            case qo2_7 => exact fun _ _ _ h => h
            case wo2_7 => rfl
            case yo2_7 => (intro w; go_simp <;> with_reducible rfl)
            try simp only [Act.put, List.setIfInBounds_toArray, List.set_cons_zero, List.set_cons_succ]
            refine wpAny_take (i := 8) (oi := ?oio2_8) (v := ?vo2_8) ?ho2_8 (by kernel_rfl) (by kernel_rfl) (by kernel_rfl) ?qo2_8 (Or.inl ⟨?wo2_8, ?yo2_8⟩) ?ro2_8
            case ho2_8 => (simp only [List.getElem?_toArray, List.getElem?_cons_succ, List.getElem?_cons_zero]; rfl)
            case qo2_8 => exact fun _ _ _ h => h
            case wo2_8 => rfl
            case yo2_8 => (intro w; go_simp <;> with_reducible rfl)
            try simp only [Act.put, List.setIfInBounds_toArray, List.set_cons_zero, List.set_cons_succ]
            refine wpAny_take (i := 9) (oi := ?oio2_9) (v := ?vo2_9) ?ho2_9 (by kernel_rfl) (by kernel_rfl) (by kernel_rfl) ?qo2_9 (Or.inl ⟨?wo2_9, ?yo2_9⟩) ?ro2_9
            case ho2_9 => (simp only [List.getElem?_toArray, List.getElem?_cons_succ, List.getElem?_cons_zero]; rfl)
            case qo2_9 => exact fun _ _ _ h => h
            case wo2_9 => rfl
            case yo2_9 => (intro w; go_simp <;> with_reducible rfl)
            try simp only [Act.put, List.setIfInBounds_toArray, List.set_cons_zero, List.set_cons_succ]
            refine wpAny_ready (rs := [3]) (by kernel_rfl) (by simp) ?_
            refine AllReady.cons (o := ?oio2_10) ?ho2_10 (fun K hK => ?ko2_10) ?mo2_10
            case ho2_10 => (simp only [List.getElem?_toArray, List.getElem?_cons_succ, List.getElem?_cons_zero]; rfl)
            case ko2_10 =>
              go_simp
              refine hK _ _ ?_
              clear hK K
              try simp only [Act.put, List.setIfInBounds_toArray, List.set_cons_zero, List.set_cons_succ]
              refine wpAny_take (i := 10) (oi := ?oio2_11) (v := ?vo2_11) ?ho2_11 (by kernel_rfl) (by kernel_rfl) (by kernel_rfl) ?qo2_11 (Or.inl ⟨?wo2_11, ?yo2_11⟩) ?ro2_11
              case ho2_11 => (simp only [List.getElem?_toArray, List.getElem?_cons_succ, List.getElem?_cons_zero]; rfl)
              case qo2_11 => exact fun _ _ _ h => h
              case wo2_11 => rfl
              case yo2_11 => (intro w; go_simp <;> with_reducible rfl)
              try simp only [Act.put, List.setIfInBounds_toArray, List.set_cons_zero, List.set_cons_succ]
              refine wpAny_take (i := 11) (oi := ?oio2_12) (v := ?vo2_12) ?ho2_12 (by kernel_rfl) (by kernel_rfl) (by kernel_rfl) ?qo2_12 (Or.inl ⟨?wo2_12, ?yo2_12⟩) ?ro2_12
              case ho2_12 => (simp only [List.getElem?_toArray, List.getElem?_cons_succ, List.getElem?_cons_zero]; rfl)
              case qo2_12 => exact fun _ _ _ h => h
              case wo2_12 => rfl
              case yo2_12 => (intro w; go_simp <;> with_reducible rfl)
              try simp only [Act.put, List.setIfInBounds_toArray, List.set_cons_zero, List.set_cons_succ]
              refine wpAny_ready (rs := [12]) (by kernel_rfl) (by simp) ?_
              refine AllReady.cons (o := ?oio2_13) ?ho2_13 (fun K hK => ?ko2_13) ?mo2_13
              case ho2_13 => (simp only [List.getElem?_toArray, List.getElem?_cons_succ, List.getElem?_cons_zero]; rfl)
              case ko2_13 =>
                go_simp
                refine hK _ _ ?_
                clear hK K
                try simp only [Act.put, List.setIfInBounds_toArray, List.set_cons_zero, List.set_cons_succ]
                refine wpAny_done (by kernel_rfl) ?_ _
                go_wp2_with fail
                go_roundw
                case rel => exact ⟨j + 1, by omega, by go_num, by rw [hot]; exact HSTO.out, by rw [hot]; exact Below.drew (HBj.out.setCell (p := ⟨w.heap.size, j, none⟩) (Nat.le_refl _) _)⟩
                case measure => simp [intOf]; omega
              exact AllReady.nil
            exact AllReady.nil
        · obtain rfl : j = U := by omega
          have HF : Hid (mapR j (fun u => if u < j then trTo C u (i + 1) else trTo C u i) = mapR j fun u => trTo C u (i + 1)) := Lib.hid (mapR_congr fun c hc => by rw [if_pos hc])
          clear hown hbel
          go_wp2_with fail
          go_roundw
          case rel => exact ⟨i + 1, by omega, by go_num, by rw [← HF.out]; exact HOj.out, HBj.out⟩
          case measure => simp [intOf]; omega
    · obtain rfl : i = n := by omega
      clear hown hbel
      go_wp2_with fail
      go_ret
      exact ⟨_, rfl, by rw [HFIN.out]; exact HO.out, HB.out⟩
end Go.Proofs.YtdkmdmpaflgfaaaGreatDoor

namespace Go.Proofs.YtdkmdmpaflgfaaaGreatDoor
open Go.RowKit

theorem cell_seto {w : World} {a p : Addr} {u v : Value} (h : w.cell? a = some v) (hne : p.block ≠ a.block) : (w.setCell p u).cell? a = some v :=
  (World.cell?_of_block (Below.heap_setCell w p u a.block (Ne.symm hne))).trans h
theorem zeros_nv (n : Nat) : nv (List.replicate n 0) = iv (List.replicate n 0) := by
  unfold nv iv
  apply List.ext_getElem
  · simp
  · intro i h1 h2; simp
attribute [local go_sem] i64_bit_test in
set_option maxRecDepth 100000 in
set_option maxHeartbeats 8000000 in
theorem images_any (V K A A' : Option Addr) (cV lk ck n c m c' p : Nat) (LP : List Row) (P : List (Nat × Nat)) (x : Nat) (w : World) (hn16 : n ≤ 16) (hp16 : p ≤ 16) (hP : dat LP = P.map pairI) (hU : LP.length ≤ 60) (hin : ∀ u, u < P.length → (P.getD u (0, 0)).1 < n ∧ (P.getD u (0, 0)).2 < p) (hx : Sm x) (hV : RdR w V LP) :
    Calls Tryz.prog 51 #[.agg #[.slice V LP.length cV, .slice K lk ck], .agg #[.slice A n c, .slice A' m c'], .int .i64 x] w fun e w' => ∃ v, e = .returned v ∧ w'.ownsRow w.heap.size 2 1 v n (nv (imgs P n x)) ∧ Below w.heap.size w w' := by
  have hUl : LP.length = P.length := by have := congrArg List.length hP; rwa [dat_length, List.length_map] at this
  have hmk := run_make_row' (P := Tryz.prog) 22 2 (.int .i64 0) 8 Tryz.underlying22 infoI rfl .i64 .i64 n (by omega) (by omega)
  have hk1 := blk_alloc (blk_new w (.cells #[.slice V LP.length cV, .slice K lk ck] 65)) (.cells #[.slice A n c, .slice A' m c'] 30)
  have hk2 := blk_new1 w (.cells #[.slice V LP.length cV, .slice K lk ck] 65) (.cells #[.slice A n c, .slice A' m c'] 30)
  have hb0 : Below w.heap.size w ((w.alloc (.cells #[.slice V LP.length cV, .slice K lk ck] 65)).alloc (.cells #[.slice A n c, .slice A' m c'] 30)) := ((Below.refl _ _).alloc (Nat.le_refl _) _).alloc (by simp) _
  have hz0 : ((w.alloc (.cells #[.slice V LP.length cV, .slice K lk ck] 65)).alloc (.cells #[.slice A n c, .slice A' m c'] 30)).heap.size = w.heap.size + 1 + 1 := by simp
  have HROW : Hid (∀ u, u < LP.length → (rg LP u).xs = pairI (P.getD u (0, 0))) := by
    show ∀ u, u < LP.length → _
    intro u hu
    rw [← dat_getD, hP]
    simp [List.getD, show u < P.length by omega]
  have HIN := Lib.hid hin
  have HLT : Hid (∀ u i, u ≤ P.length → Sm ((imT P n x u).getD i 0)) := Lib.hid (fun u i hu => sm_of_lt (a := p) (by omega) (imT_lt (fun u hu => (hin u hu).2) u hu i))
  have HV := Lib.hid hV
  have HUL := Lib.hid hUl
  have HX := Lib.hid hx
  obtain ⟨x0, x1, xf0, xf1, lx⟩ := blk2cells hk1
  obtain ⟨y0, y1, yf0, yf1, ly⟩ := blk2cells hk2
  clear hV hin hP hUl hx
  go_enter Tryz.func51, Tryz.ntmps51
  go_wp2_with fail
  generalize (w.alloc (.cells #[.slice V LP.length cV, .slice K lk ck] 65)).alloc (.cells #[.slice A n c, .slice A' m c'] 30) = w0 at *
  rw [← hz0]
  have HB0 := Lib.hid hb0
  have hs0 := hb0.size
  have HMO : Hid ((w0.alloc (.cells (madeCells #[.int .i64 0] n) 2)).ownsRow w0.heap.size 2 1 (.slice (some ⟨w0.heap.size, 0, none⟩) n n) n (nv (imT P n x 0))) := Lib.hid (by
    have h := made_own w0 w0.heap.size n (Nat.le_refl _) (by omega)
    show World.ownsRow _ _ _ _ _ _ (nv (List.replicate n 0))
    rw [zeros_nv]; exact h)
  clear hz0 hb0 hk1 hk2 hmk x0 x1 xf0 xf1 lx y0 y1 yf0 yf1 ly
  go_loopw [17] (fun s17 wr => ∃ u : Nat, u ≤ LP.length ∧ s17 = .int .i64 u ∧ wr.ownsRow w0.heap.size 2 1 (.slice (some ⟨w0.heap.size, 0, none⟩) n n) n (nv (imT P n x u)) ∧ Below w0.heap.size w0 wr) (fun s _ => LP.length - (intOf s).toNat)
  case atStart => exact ⟨0, by omega, rfl, HMO.out, (Below.refl _ _).alloc (Nat.le_refl _) _⟩
  case round =>
    obtain ⟨u, hu, rfl, hown, hbel⟩ := hrel
    have HO := Lib.hid hown
    have HB := Lib.hid hbel
    by_cases huL : u < LP.length
    · have hrd := HV.out.below (HB0.out.trans (hbel.mono hs0))
      have hrow := HROW.out u huL
      obtain ⟨ho1, ho2⟩ := HIN.out u (by rw [← HUL.out]; exact huL)
      obtain ⟨b, o, rfl, hcell⟩ := hrd.at_ huL
      have hin2 := hrd.inn u huL
      have hin0 := HV.out.inn u huL
      rw [hrow] at hin2 hcell hin0
      have hlen2 : (pairI (P.getD u (0, 0))).length = 2 := rfl
      rw [hlen2] at hcell
      obtain ⟨br, ob, hAr, hc0⟩ := hin2.atI (k := 0) (by rw [hlen2]; omega)
      rw [hAr] at hcell hin2 hin0
      have hc1 := hin2.cellI (k := 1) (by rw [hlen2]; omega)
      have hbr := World.block_lt_of_cell? w _ (hin0.cellI (k := 1) (by rw [hlen2]; omega))
      simp only at hbr
      rw [Nat.add_zero] at hc0
      have hp0 : (pairI (P.getD u (0, 0))).getD 0 0 = (((P.getD u (0, 0)).1 : Nat) : Int) := rfl
      have hp1 : (pairI (P.getD u (0, 0))).getD 1 0 = (((P.getD u (0, 0)).2 : Nat) : Int) := rfl
      rw [hp0] at hc0
      rw [hp1] at hc1
      have HNO := Lib.hid (fun h => imT_no (P := P) (n := n) (x := x) (u := u) h)
      have HYE := Lib.hid (fun h => imT_yes (P := P) (n := n) (x := x) (u := u) h)
      have hsm := HLT.out u (P.getD u (0, 0)).1 (by rw [← HUL.out]; omega)
      generalize (P.getD u (0, 0)).1 = o1 at *
      generalize (P.getD u (0, 0)).2 = o2 at *
      have hxs := HX.out
      have hmu : min u 64 = u := by omega
      have hmo2 : min o2 64 = o2 := by omega
      obtain ⟨pc1, pc2⟩ := pow62 (d := o2) (by omega)
      have ho1i : (o1 : Int) < (n : Int) := by omega
      clear hrd hrow hin2 hin0 hAr hp0 hp1
      cases hbm : tb x u
      · have HN := Lib.hid (HNO.out hbm)
        clear hown hbel hsm
        go_wp2_with fail
        go_roundw
        case rel => exact ⟨u + 1, by omega, by go_num, by rw [HN.out]; exact HO.out, HB.out⟩
        case measure => simp [intOf]; omega
      · have HY := Lib.hid (HYE.out hbm)
        have hcs := own_nv_getD hown ho1
        have fz := hown.frozenAt o1
        have hor := or_two (t := o2) hsm (by omega)
        have HSTO := Lib.hid ((World.ownsRow.stored hown o1 (.int .i64 ((orr ((imT P n x u).getD o1 0) (2 ^ o2) : Nat) : Int))).1)
        rw [← nv_setY, ← HY.out] at HSTO
        have hne : w0.heap.size ≠ br := by omega
        have HS0 := Lib.hid (fun (v : Value) => cell_seto (p := ⟨w0.heap.size, o1, none⟩) (u := v) (show wr.drew.cell? ⟨br, ob, none⟩ = _ from hc0) hne)
        have HS1 := Lib.hid (fun (v : Value) => cell_seto (p := ⟨w0.heap.size, o1, none⟩) (u := v) (show wr.drew.cell? ⟨br, ob + 1, none⟩ = _ from hc1) hne)
        generalize (imT P n x u).getD o1 0 = a at *
        clear hown hbel hsm
        go_wp2_with fail
        refine wp_region_held_drew (S := (fun w' => w'.cell? ⟨br, ob, none⟩ = some (.int .i64 (o1 : Nat)) ∧ w'.cell? ⟨br, ob + 1, none⟩ = some (.int .i64 (o2 : Nat)))) (by kernel_rfl) (by first | exact ⟨hc0, hc1⟩ | exact ⟨HS0.out _, HS1.out _⟩) (fun hHeld => ?_)
        refine wpAnyH_take (i := 0) (oi := ?or1_0) (v := ?vr1_0) ?hr1_0 (by kernel_rfl) (by kernel_rfl) (by kernel_rfl) ?qr1_0 (Or.inl ⟨?wr1_0, ?yr1_0⟩) (by assumption) ?rr1_0
        case hr1_0 => (simp only [List.getElem?_toArray, List.getElem?_cons_succ, List.getElem?_cons_zero]; rfl)
        case qr1_0 => exact fun _ _ _ h => h
        case wr1_0 => rfl
        case yr1_0 => (intro w hSw; (try dsimp only at hSw); go_simp <;> with_reducible rfl)
        try simp only [Act.put, List.setIfInBounds_toArray, List.set_cons_zero, List.set_cons_succ]
        refine wpAnyH_take (i := 1) (oi := ?or1_1) (v := ?vr1_1) ?hr1_1 (by kernel_rfl) (by kernel_rfl) (by kernel_rfl) ?qr1_1 (Or.inl ⟨?wr1_1, ?yr1_1⟩) (by assumption) ?rr1_1
        case hr1_1 => (simp only [List.getElem?_toArray, List.getElem?_cons_succ, List.getElem?_cons_zero]; rfl)
        case qr1_1 => exact fun _ _ _ h => h
        case wr1_1 => rfl
        case yr1_1 => (intro w hSw; (try dsimp only at hSw); go_simp <;> with_reducible rfl)
        try simp only [Act.put, List.setIfInBounds_toArray, List.set_cons_zero, List.set_cons_succ]
        refine wpAnyH_take (i := 2) (oi := ?or1_2) (v := ?vr1_2) ?hr1_2 (by kernel_rfl) (by kernel_rfl) (by kernel_rfl) ?qr1_2 (Or.inl ⟨?wr1_2, ?yr1_2⟩) (by assumption) ?rr1_2
        case hr1_2 => (simp only [List.getElem?_toArray, List.getElem?_cons_succ, List.getElem?_cons_zero]; rfl)
        case qr1_2 => exact fun _ _ _ h => h
        case wr1_2 => rfl
        case yr1_2 => (intro w hSw; (try dsimp only at hSw); go_simp <;> with_reducible rfl)
        try simp only [Act.put, List.setIfInBounds_toArray, List.set_cons_zero, List.set_cons_succ]
        refine wpAnyH_take (i := 3) (oi := ?or1_3) (v := ?vr1_3) ?hr1_3 (by kernel_rfl) (by kernel_rfl) (by kernel_rfl) ?qr1_3 (Or.inl ⟨?wr1_3, ?yr1_3⟩) (by assumption) ?rr1_3
        case hr1_3 => (simp only [List.getElem?_toArray, List.getElem?_cons_succ, List.getElem?_cons_zero]; rfl)
        case qr1_3 => exact fun _ _ _ h => h
        case wr1_3 => rfl
        case yr1_3 => (intro w hSw; (try dsimp only at hSw); go_simp <;> with_reducible rfl)
        try simp only [Act.put, List.setIfInBounds_toArray, List.set_cons_zero, List.set_cons_succ]
        refine wpAnyH_take (i := 4) (oi := ?or1_4) (v := ?vr1_4) ?hr1_4 (by kernel_rfl) (by kernel_rfl) (by kernel_rfl) ?qr1_4 (Or.inl ⟨?wr1_4, ?yr1_4⟩) (by assumption) ?rr1_4
        case hr1_4 => (simp only [List.getElem?_toArray, List.getElem?_cons_succ, List.getElem?_cons_zero]; rfl)
        case qr1_4 => exact fun _ _ _ h => h
        case wr1_4 => rfl
        case yr1_4 => (intro w hSw; (try dsimp only at hSw); go_simp <;> with_reducible rfl)
        try simp only [Act.put, List.setIfInBounds_toArray, List.set_cons_zero, List.set_cons_succ]
        refine wpAnyH_take (i := 6) (oi := ?or1_6) (v := ?vr1_6) ?hr1_6 (by kernel_rfl) (by kernel_rfl) (by kernel_rfl) ?qr1_6 (Or.inl ⟨?wr1_6, ?yr1_6⟩) (by assumption) ?rr1_6
        case hr1_6 => (simp only [List.getElem?_toArray, List.getElem?_cons_succ, List.getElem?_cons_zero]; rfl)
        case qr1_6 => exact fun _ _ _ h => h
        case wr1_6 => rfl
        case yr1_6 => (intro w hSw; (try dsimp only at hSw); go_simp <;> with_reducible rfl)
        try simp only [Act.put, List.setIfInBounds_toArray, List.set_cons_zero, List.set_cons_succ]
        refine wpAnyH_take (i := 7) (oi := ?or1_7) (v := ?vr1_7) ?hr1_7 (by kernel_rfl) (by kernel_rfl) (by kernel_rfl) ?qr1_7 (Or.inl ⟨?wr1_7, ?yr1_7⟩) (by assumption) ?rr1_7
        case hr1_7 => (simp only [List.getElem?_toArray, List.getElem?_cons_succ, List.getElem?_cons_zero]; rfl)
        case qr1_7 => exact fun _ _ _ h => h
        case wr1_7 => rfl
        case yr1_7 => (intro w hSw; (try dsimp only at hSw); go_simp <;> with_reducible rfl)
        try simp only [Act.put, List.setIfInBounds_toArray, List.set_cons_zero, List.set_cons_succ]
        refine wpAnyH_take (i := 8) (oi := ?or1_8) (v := ?vr1_8) ?hr1_8 (by kernel_rfl) (by kernel_rfl) (by kernel_rfl) ?qr1_8 (Or.inl ⟨?wr1_8, ?yr1_8⟩) (by assumption) ?rr1_8
        case hr1_8 => (simp only [List.getElem?_toArray, List.getElem?_cons_succ, List.getElem?_cons_zero]; rfl)
        case qr1_8 => exact fun _ _ _ h => h
        case wr1_8 => rfl
        case yr1_8 => (intro w hSw; (try dsimp only at hSw); go_simp <;> with_reducible rfl)
        try simp only [Act.put, List.setIfInBounds_toArray, List.set_cons_zero, List.set_cons_succ]
        refine wpAnyH_take (i := 9) (oi := ?or1_9) (v := ?vr1_9) ?hr1_9 (by kernel_rfl) (by kernel_rfl) (by kernel_rfl) ?qr1_9 (Or.inl ⟨?wr1_9, ?yr1_9⟩) (by assumption) ?rr1_9
        case hr1_9 => (simp only [List.getElem?_toArray, List.getElem?_cons_succ, List.getElem?_cons_zero]; rfl)
        case qr1_9 => exact fun _ _ _ h => h
        case wr1_9 => rfl
        case yr1_9 => (intro w hSw; (try dsimp only at hSw); go_simp <;> with_reducible rfl)
        try simp only [Act.put, List.setIfInBounds_toArray, List.set_cons_zero, List.set_cons_succ]
        refine wpAnyH_ready (rs := [5]) (by kernel_rfl) (by simp) ?_
        refine AllReadyH.cons (o := ?or1_5) ?hr1_5 (fun K hK => ?kr1_5) AllReadyH.nil
        case hr1_5 => (simp only [List.getElem?_toArray, List.getElem?_cons_succ, List.getElem?_cons_zero]; rfl)
        go_simp
        skip
        refine hK.out _ _ (by first | exact ⟨hc0, hc1⟩ | exact ⟨HS0.out _, HS1.out _⟩) (fun hHeld => ?_)
        clear hK K
        try simp only [Act.put, List.setIfInBounds_toArray, List.set_cons_zero, List.set_cons_succ]
        refine wpAnyH_take (i := 10) (oi := ?or1_10) (v := ?vr1_10) ?hr1_10 (by kernel_rfl) (by kernel_rfl) (by kernel_rfl) ?qr1_10 (Or.inl ⟨?wr1_10, ?yr1_10⟩) (by assumption) ?rr1_10
        case hr1_10 => (simp only [List.getElem?_toArray, List.getElem?_cons_succ, List.getElem?_cons_zero]; rfl)
        case qr1_10 => exact fun _ _ _ h => h
        case wr1_10 => rfl
        case yr1_10 => (intro w hSw; (try dsimp only at hSw); go_simp <;> with_reducible rfl)
        try simp only [Act.put, List.setIfInBounds_toArray, List.set_cons_zero, List.set_cons_succ]
        refine wpAnyH_take (i := 11) (oi := ?or1_11) (v := ?vr1_11) ?hr1_11 (by kernel_rfl) (by kernel_rfl) (by kernel_rfl) ?qr1_11 (Or.inl ⟨?wr1_11, ?yr1_11⟩) (by assumption) ?rr1_11
        case hr1_11 => (simp only [List.getElem?_toArray, List.getElem?_cons_succ, List.getElem?_cons_zero]; rfl)
        case qr1_11 => exact fun _ _ _ h => h
        case wr1_11 => rfl
        case yr1_11 => (intro w hSw; (try dsimp only at hSw); go_simp <;> with_reducible rfl)
        try simp only [Act.put, List.setIfInBounds_toArray, List.set_cons_zero, List.set_cons_succ]
        refine wpAnyH_ready (rs := [12]) (by kernel_rfl) (by simp) ?_
        refine AllReadyH.cons (o := ?or1_12) ?hr1_12 (fun K hK => ?kr1_12) AllReadyH.nil
        case hr1_12 => (simp only [List.getElem?_toArray, List.getElem?_cons_succ, List.getElem?_cons_zero]; rfl)
        go_simp
        skip
        refine hK.out _ _ (by first | exact ⟨hc0, hc1⟩ | exact ⟨HS0.out _, HS1.out _⟩) (fun hHeld => ?_)
        clear hK K
        try simp only [Act.put, List.setIfInBounds_toArray, List.set_cons_zero, List.set_cons_succ]
        refine wpAnyH_done (by kernel_rfl) ?_ _
        go_wp2_with fail
        go_roundw
        case rel => exact ⟨u + 1, by omega, by go_num, by rw [hor]; exact HSTO.out, by rw [hor]; exact Below.drew (HB.out.setCell (p := ⟨w0.heap.size, o1, none⟩) (Nat.le_refl _) _)⟩
        case measure => simp [intOf]; omega
    · obtain rfl : u = LP.length := by omega
      have HE : Hid (imT P n x LP.length = imgs P n x) := Lib.hid (by rw [HUL.out]; rfl)
      clear hown hbel
      go_wp2_with fail
      go_ret
      exact ⟨_, rfl, by rw [← HE.out]; exact HO.out.mono hs0, HB0.out.trans (HB.out.mono hs0)⟩
attribute [local go_sem] i64_bit_test in
set_option maxRecDepth 100000 in
set_option maxHeartbeats 8000000 in
theorem l12Told_any (V A A' B B' : Option Addr) (cV n c m c' p d q d' : Nat) (LP : List Row) (P : List (Nat × Nat)) (x : Nat) (w : World) (hn16 : n ≤ 16) (hp16 : p ≤ 16) (hP : dat LP = P.map pairI) (hU : LP.length ≤ 60) (hin : ∀ u, u < P.length → (P.getD u (0, 0)).1 < n ∧ (P.getD u (0, 0)).2 < p) (hx : Sm x) (hV : RdR w V LP) :
    Calls Tryz.prog 47 #[.agg #[.slice A n c, .slice A' m c'], .agg #[.slice B p d, .slice B' q d'], .slice V LP.length cV, .int .i64 x] w fun e w' => ∃ A1 c1 R, e = .returned (.slice A1 n c1) ∧ R.length = n ∧ dat R = (imgs P n x).map (fun v => bitsL v p) ∧ OwnR w' w.heap.size (.slice A1 n c1) R ∧ Below w.heap.size w w' := by
  have hUl : LP.length = P.length := by have := congrArg List.length hP; rwa [dat_length, List.length_map] at this
  have hmk := run_make_row' (P := Tryz.prog) 22 2 (.int .i64 0) 8 Tryz.underlying22 infoI rfl .i64 .i64 n (by omega) (by omega)
  obtain ⟨hb0, hk1, hk2⟩ := box_two w A A' B B' n c m c' p d q d'
  have hz0 : ((w.alloc (.cells #[.slice A n c, .slice A' m c'] 30)).alloc (.cells #[.slice B p d, .slice B' q d'] 30)).heap.size = w.heap.size + 1 + 1 := by simp
  have HROW : Hid (∀ u, u < LP.length → (rg LP u).xs = pairI (P.getD u (0, 0))) := by
    show ∀ u, u < LP.length → _
    intro u hu
    rw [← dat_getD, hP]
    simp [List.getD, show u < P.length by omega]
  have HIN := Lib.hid hin
  have HLT : Hid (∀ u i, u ≤ P.length → Sm ((imT P n x u).getD i 0)) := Lib.hid (fun u i hu => sm_of_lt (a := p) (by omega) (imT_lt (fun u hu => (hin u hu).2) u hu i))
  have HV := Lib.hid hV
  have HUL := Lib.hid hUl
  have HX := Lib.hid hx
  obtain ⟨x0, x1, xf0, xf1, lx⟩ := blk2cells hk1
  obtain ⟨y0, y1, yf0, yf1, ly⟩ := blk2cells hk2
  clear hV hin hP hUl hx
  go_enter Tryz.func47, Tryz.ntmps47
  go_wp2_with fail
  generalize (w.alloc (.cells #[.slice A n c, .slice A' m c'] 30)).alloc (.cells #[.slice B p d, .slice B' q d'] 30) = w0 at *
  rw [← hz0]
  have HB0 := Lib.hid hb0
  have hs0 := hb0.size
  have HMO : Hid ((w0.alloc (.cells (madeCells #[.int .i64 0] n) 2)).ownsRow w0.heap.size 2 1 (.slice (some ⟨w0.heap.size, 0, none⟩) n n) n (nv (imT P n x 0))) := Lib.hid (by
    have h := made_own w0 w0.heap.size n (Nat.le_refl _) (by omega)
    show World.ownsRow _ _ _ _ _ _ (nv (List.replicate n 0))
    rw [zeros_nv]; exact h)
  have HK2 := Lib.hid hk2
  clear hz0 hb0 hk1 hk2 hmk x0 x1 xf0 xf1 lx y0 y1 yf0 yf1 ly
  go_loopw [10] (fun s10 wr => ∃ u : Nat, u ≤ LP.length ∧ s10 = .int .i64 u ∧ wr.ownsRow w0.heap.size 2 1 (.slice (some ⟨w0.heap.size, 0, none⟩) n n) n (nv (imT P n x u)) ∧ Below w0.heap.size w0 wr) (fun s _ => LP.length - (intOf s).toNat)
  case atStart => exact ⟨0, by omega, rfl, HMO.out, (Below.refl _ _).alloc (Nat.le_refl _) _⟩
  case round =>
    obtain ⟨u, hu, rfl, hown, hbel⟩ := hrel
    have HO := Lib.hid hown
    have HB := Lib.hid hbel
    by_cases huL : u < LP.length
    · have hrd := HV.out.below (HB0.out.trans (hbel.mono hs0))
      have hrow := HROW.out u huL
      obtain ⟨ho1, ho2⟩ := HIN.out u (by rw [← HUL.out]; exact huL)
      obtain ⟨b, o, rfl, hcell⟩ := hrd.at_ huL
      have hcell0 := HV.out.cell huL
      have hin2 := hrd.inn u huL
      have hin0 := HV.out.inn u huL
      rw [hrow] at hin2 hcell hin0
      have hlen2 : (pairI (P.getD u (0, 0))).length = 2 := rfl
      rw [hlen2] at hcell
      obtain ⟨br, ob, hAr, hc0⟩ := hin2.atI (k := 0) (by rw [hlen2]; omega)
      rw [hAr] at hcell hin2 hin0
      have hc1 := hin2.cellI (k := 1) (by rw [hlen2]; omega)
      have hbr := World.block_lt_of_cell? w _ (hin0.cellI (k := 1) (by rw [hlen2]; omega))
      simp only at hbr
      have hbb := World.block_lt_of_cell? w _ hcell0
      simp only at hbb
      rw [Nat.add_zero] at hc0
      have hp0 : (pairI (P.getD u (0, 0))).getD 0 0 = (((P.getD u (0, 0)).1 : Nat) : Int) := rfl
      have hp1 : (pairI (P.getD u (0, 0))).getD 1 0 = (((P.getD u (0, 0)).2 : Nat) : Int) := rfl
      rw [hp0] at hc0
      rw [hp1] at hc1
      have HNO := Lib.hid (fun h => imT_no (P := P) (n := n) (x := x) (u := u) h)
      have HYE := Lib.hid (fun h => imT_yes (P := P) (n := n) (x := x) (u := u) h)
      have hsm := HLT.out u (P.getD u (0, 0)).1 (by rw [← HUL.out]; omega)
      generalize (P.getD u (0, 0)).1 = o1 at *
      generalize (P.getD u (0, 0)).2 = o2 at *
      have hxs := HX.out
      have hmu : min u 64 = u := by omega
      have hmo2 : min o2 64 = o2 := by omega
      obtain ⟨pc1, pc2⟩ := pow62 (d := o2) (by omega)
      have ho1i : (o1 : Int) < (n : Int) := by omega
      have HW2 : Hid (wrap64 ((2 : Int) ^ o2) = (2 : Int) ^ o2) := Lib.hid (by unfold wrap64; omega)
      clear hrd hrow hin2 hin0 hAr hp0 hp1
      cases hbm : tb x u
      · have HN := Lib.hid (HNO.out hbm)
        clear hown hbel hsm
        go_wp2_with fail
        go_roundw
        case rel => exact ⟨u + 1, by omega, by go_num, by rw [HN.out]; exact HO.out, HB.out⟩
        case measure => simp [intOf]; omega
      · have HY := Lib.hid (HYE.out hbm)
        have hcs := own_nv_getD hown ho1
        have fz := hown.frozenAt o1
        have hor := or_two (t := o2) hsm (by omega)
        have HSTO := Lib.hid ((World.ownsRow.stored hown o1 (.int .i64 ((orr ((imT P n x u).getD o1 0) (2 ^ o2) : Nat) : Int))).1)
        rw [← nv_setY, ← HY.out] at HSTO
        have hne : w0.heap.size ≠ br := by omega
        have hneb : w0.heap.size ≠ b := by omega
        have HS2 := Lib.hid (fun (v : Value) => cell_seto (p := ⟨w0.heap.size, o1, none⟩) (u := v) (show wr.drew.cell? ⟨b, o + u, none⟩ = _ from hcell) hneb)
        have HS0 := Lib.hid (fun (v : Value) => cell_seto (p := ⟨w0.heap.size, o1, none⟩) (u := v) (show wr.drew.cell? ⟨br, ob, none⟩ = _ from hc0) hne)
        have HS1 := Lib.hid (fun (v : Value) => cell_seto (p := ⟨w0.heap.size, o1, none⟩) (u := v) (show wr.drew.cell? ⟨br, ob + 1, none⟩ = _ from hc1) hne)
        generalize (imT P n x u).getD o1 0 = a at *
        clear hown hbel hsm
        go_wp2_with fail
        refine wp_region_held_drew (S := (fun w' => w'.cell? ⟨b, o + u, none⟩ = some (.slice (some ⟨br, ob, none⟩) 2 (rg LP u).c) ∧ w'.cell? ⟨br, ob, none⟩ = some (.int .i64 (o1 : Nat)) ∧ w'.cell? ⟨br, ob + 1, none⟩ = some (.int .i64 (o2 : Nat)))) (by kernel_rfl) (by first | exact ⟨hcell, hc0, hc1⟩ | exact ⟨HS2.out _, HS0.out _, HS1.out _⟩) (fun hHeld => ?_)
        refine wpAnyH_take (i := 0) (oi := ?or1_0) (v := ?vr1_0) ?hr1_0 (by kernel_rfl) (by kernel_rfl) (by kernel_rfl) ?qr1_0 (Or.inl ⟨?wr1_0, ?yr1_0⟩) (by assumption) ?rr1_0
        case hr1_0 => (simp only [List.getElem?_toArray, List.getElem?_cons_succ, List.getElem?_cons_zero]; rfl)
        case qr1_0 => exact fun _ _ _ h => h
        case wr1_0 => rfl
        case yr1_0 => (intro w hSw; (try dsimp only at hSw); go_simp <;> with_reducible rfl)
        try simp only [Act.put, List.setIfInBounds_toArray, List.set_cons_zero, List.set_cons_succ]
        refine wpAnyH_take (i := 1) (oi := ?or1_1) (v := ?vr1_1) ?hr1_1 (by kernel_rfl) (by kernel_rfl) (by kernel_rfl) ?qr1_1 (Or.inl ⟨?wr1_1, ?yr1_1⟩) (by assumption) ?rr1_1
        case hr1_1 => (simp only [List.getElem?_toArray, List.getElem?_cons_succ, List.getElem?_cons_zero]; rfl)
        case qr1_1 => exact fun _ _ _ h => h
        case wr1_1 => rfl
        case yr1_1 => (intro w hSw; (try dsimp only at hSw); go_simp <;> with_reducible rfl)
        try simp only [Act.put, List.setIfInBounds_toArray, List.set_cons_zero, List.set_cons_succ]
        refine wpAnyH_take (i := 2) (oi := ?or1_2) (v := ?vr1_2) ?hr1_2 (by kernel_rfl) (by kernel_rfl) (by kernel_rfl) ?qr1_2 (Or.inl ⟨?wr1_2, ?yr1_2⟩) (by assumption) ?rr1_2
        case hr1_2 => (simp only [List.getElem?_toArray, List.getElem?_cons_succ, List.getElem?_cons_zero]; rfl)
        case qr1_2 => exact fun _ _ _ h => h
        case wr1_2 => rfl
        case yr1_2 => (intro w hSw; (try dsimp only at hSw); go_simp <;> with_reducible rfl)
        try simp only [Act.put, List.setIfInBounds_toArray, List.set_cons_zero, List.set_cons_succ]
        refine wpAnyH_take (i := 3) (oi := ?or1_3) (v := ?vr1_3) ?hr1_3 (by kernel_rfl) (by kernel_rfl) (by kernel_rfl) ?qr1_3 (Or.inl ⟨?wr1_3, ?yr1_3⟩) (by assumption) ?rr1_3
        case hr1_3 => (simp only [List.getElem?_toArray, List.getElem?_cons_succ, List.getElem?_cons_zero]; rfl)
        case qr1_3 => exact fun _ _ _ h => h
        case wr1_3 => rfl
        case yr1_3 => (intro w hSw; (try dsimp only at hSw); go_simp <;> with_reducible rfl)
        try simp only [Act.put, List.setIfInBounds_toArray, List.set_cons_zero, List.set_cons_succ]
        refine wpAnyH_take (i := 4) (oi := ?or1_4) (v := ?vr1_4) ?hr1_4 (by kernel_rfl) (by kernel_rfl) (by kernel_rfl) ?qr1_4 (Or.inl ⟨?wr1_4, ?yr1_4⟩) (by assumption) ?rr1_4
        case hr1_4 => (simp only [List.getElem?_toArray, List.getElem?_cons_succ, List.getElem?_cons_zero]; rfl)
        case qr1_4 => exact fun _ _ _ h => h
        case wr1_4 => rfl
        case yr1_4 => (intro w hSw; (try dsimp only at hSw); go_simp <;> with_reducible rfl)
        try simp only [Act.put, List.setIfInBounds_toArray, List.set_cons_zero, List.set_cons_succ]
        refine wpAnyH_take (i := 5) (oi := ?or1_5) (v := ?vr1_5) ?hr1_5 (by kernel_rfl) (by kernel_rfl) (by kernel_rfl) ?qr1_5 (Or.inl ⟨?wr1_5, ?yr1_5⟩) (by assumption) ?rr1_5
        case hr1_5 => (simp only [List.getElem?_toArray, List.getElem?_cons_succ, List.getElem?_cons_zero]; rfl)
        case qr1_5 => exact fun _ _ _ h => h
        case wr1_5 => rfl
        case yr1_5 => (intro w hSw; (try dsimp only at hSw); go_simp <;> with_reducible rfl)
        try simp only [Act.put, List.setIfInBounds_toArray, List.set_cons_zero, List.set_cons_succ]
        refine wpAnyH_take (i := 6) (oi := ?or1_6) (v := ?vr1_6) ?hr1_6 (by kernel_rfl) (by kernel_rfl) (by kernel_rfl) ?qr1_6 (Or.inl ⟨?wr1_6, ?yr1_6⟩) (by assumption) ?rr1_6
        case hr1_6 => (simp only [List.getElem?_toArray, List.getElem?_cons_succ, List.getElem?_cons_zero]; rfl)
        case qr1_6 => exact fun _ _ _ h => h
        case wr1_6 => rfl
        case yr1_6 => (intro w hSw; (try dsimp only at hSw); go_simp <;> with_reducible rfl)
        try simp only [Act.put, List.setIfInBounds_toArray, List.set_cons_zero, List.set_cons_succ]
        refine wpAnyH_take (i := 7) (oi := ?or1_7) (v := ?vr1_7) ?hr1_7 (by kernel_rfl) (by kernel_rfl) (by kernel_rfl) ?qr1_7 (Or.inl ⟨?wr1_7, ?yr1_7⟩) (by assumption) ?rr1_7
        case hr1_7 => (simp only [List.getElem?_toArray, List.getElem?_cons_succ, List.getElem?_cons_zero]; rfl)
        case qr1_7 => exact fun _ _ _ h => h
        case wr1_7 => rfl
        case yr1_7 => (intro w hSw; (try dsimp only at hSw); go_simp <;> with_reducible rfl)
        try simp only [Act.put, List.setIfInBounds_toArray, List.set_cons_zero, List.set_cons_succ]
        refine wpAnyH_take (i := 8) (oi := ?or1_8) (v := ?vr1_8) ?hr1_8 (by kernel_rfl) (by kernel_rfl) (by kernel_rfl) ?qr1_8 (Or.inl ⟨?wr1_8, ?yr1_8⟩) (by assumption) ?rr1_8
        case hr1_8 => (simp only [List.getElem?_toArray, List.getElem?_cons_succ, List.getElem?_cons_zero]; rfl)
        case qr1_8 => exact fun _ _ _ h => h
        case wr1_8 => rfl
        case yr1_8 => (intro w hSw; (try dsimp only at hSw); go_simp <;> with_reducible rfl)
        try simp only [Act.put, List.setIfInBounds_toArray, List.set_cons_zero, List.set_cons_succ]
        refine wpAnyH_take (i := 9) (oi := ?or1_9) (v := ?vr1_9) ?hr1_9 (by kernel_rfl) (by kernel_rfl) (by kernel_rfl) ?qr1_9 (Or.inl ⟨?wr1_9, ?yr1_9⟩) (by assumption) ?rr1_9
        case hr1_9 => (simp only [List.getElem?_toArray, List.getElem?_cons_succ, List.getElem?_cons_zero]; rfl)
        case qr1_9 => exact fun _ _ _ h => h
        case wr1_9 => rfl
        case yr1_9 => (intro w hSw; (try dsimp only at hSw); go_simp <;> with_reducible rfl)
        try simp only [Act.put, List.setIfInBounds_toArray, List.set_cons_zero, List.set_cons_succ]
        refine wpAnyH_take (i := 10) (oi := ?or1_10) (v := ?vr1_10) ?hr1_10 (by kernel_rfl) (by kernel_rfl) (by kernel_rfl) ?qr1_10 (Or.inl ⟨?wr1_10, ?yr1_10⟩) (by assumption) ?rr1_10
        case hr1_10 => (simp only [List.getElem?_toArray, List.getElem?_cons_succ, List.getElem?_cons_zero]; rfl)
        case qr1_10 => exact fun _ _ _ h => h
        case wr1_10 => rfl
        case yr1_10 => (intro w hSw; (try dsimp only at hSw); go_simp <;> with_reducible rfl)
        try simp only [Act.put, List.setIfInBounds_toArray, List.set_cons_zero, List.set_cons_succ]
        refine wpAnyH_take (i := 11) (oi := ?or1_11) (v := ?vr1_11) ?hr1_11 (by kernel_rfl) (by kernel_rfl) (by kernel_rfl) ?qr1_11 (Or.inl ⟨?wr1_11, ?yr1_11⟩) (by assumption) ?rr1_11
        case hr1_11 => (simp only [List.getElem?_toArray, List.getElem?_cons_succ, List.getElem?_cons_zero]; rfl)
        case qr1_11 => exact fun _ _ _ h => h
        case wr1_11 => rfl
        case yr1_11 => (intro w hSw; (try dsimp only at hSw); go_simp <;> with_reducible rfl)
        try simp only [Act.put, List.setIfInBounds_toArray, List.set_cons_zero, List.set_cons_succ]
        refine wpAnyH_take (i := 12) (oi := ?or1_12) (v := ?vr1_12) ?hr1_12 (by kernel_rfl) (by kernel_rfl) (by kernel_rfl) ?qr1_12 (Or.inl ⟨?wr1_12, ?yr1_12⟩) (by assumption) ?rr1_12
        case hr1_12 => (simp only [List.getElem?_toArray, List.getElem?_cons_succ, List.getElem?_cons_zero]; rfl)
        case qr1_12 => exact fun _ _ _ h => h
        case wr1_12 => rfl
        case yr1_12 => (intro w hSw; (try dsimp only at hSw); go_simp <;> with_reducible rfl)
        try simp only [Act.put, List.setIfInBounds_toArray, List.set_cons_zero, List.set_cons_succ]
        refine wpAnyH_take (i := 13) (oi := ?or1_13) (v := ?vr1_13) ?hr1_13 (by kernel_rfl) (by kernel_rfl) (by kernel_rfl) ?qr1_13 (Or.inl ⟨?wr1_13, ?yr1_13⟩) (by assumption) ?rr1_13
        case hr1_13 => (simp only [List.getElem?_toArray, List.getElem?_cons_succ, List.getElem?_cons_zero]; rfl)
        case qr1_13 => exact fun _ _ _ h => h
        case wr1_13 => rfl
        case yr1_13 => (intro w hSw; (try dsimp only at hSw); go_simp <;> with_reducible rfl)
        try simp only [Act.put, List.setIfInBounds_toArray, List.set_cons_zero, List.set_cons_succ]
        refine wpAnyH_take (i := 14) (oi := ?or1_14) (v := ?vr1_14) ?hr1_14 (by kernel_rfl) (by kernel_rfl) (by kernel_rfl) ?qr1_14 (Or.inl ⟨?wr1_14, ?yr1_14⟩) (by assumption) ?rr1_14
        case hr1_14 => (simp only [List.getElem?_toArray, List.getElem?_cons_succ, List.getElem?_cons_zero]; rfl)
        case qr1_14 => exact fun _ _ _ h => h
        case wr1_14 => rfl
        case yr1_14 => (intro w hSw; (try dsimp only at hSw); go_simp <;> with_reducible rfl)
        try simp only [Act.put, List.setIfInBounds_toArray, List.set_cons_zero, List.set_cons_succ]
        refine wpAnyH_take (i := 16) (oi := ?or1_16) (v := ?vr1_16) ?hr1_16 (by kernel_rfl) (by kernel_rfl) (by kernel_rfl) ?qr1_16 (Or.inl ⟨?wr1_16, ?yr1_16⟩) (by assumption) ?rr1_16
        case hr1_16 => (simp only [List.getElem?_toArray, List.getElem?_cons_succ, List.getElem?_cons_zero]; rfl)
        case qr1_16 => exact fun _ _ _ h => h
        case wr1_16 => rfl
        case yr1_16 => (intro w hSw; (try dsimp only at hSw); go_simp <;> with_reducible rfl)
        try simp only [Act.put, List.setIfInBounds_toArray, List.set_cons_zero, List.set_cons_succ]
        refine wpAnyH_take (i := 17) (oi := ?or1_17) (v := ?vr1_17) ?hr1_17 (by kernel_rfl) (by kernel_rfl) (by kernel_rfl) ?qr1_17 (Or.inl ⟨?wr1_17, ?yr1_17⟩) (by assumption) ?rr1_17
        case hr1_17 => (simp only [List.getElem?_toArray, List.getElem?_cons_succ, List.getElem?_cons_zero]; rfl)
        case qr1_17 => exact fun _ _ _ h => h
        case wr1_17 => rfl
        case yr1_17 => (intro w hSw; (try dsimp only at hSw); go_simp <;> with_reducible rfl)
        try simp only [Act.put, List.setIfInBounds_toArray, List.set_cons_zero, List.set_cons_succ]
        refine wpAnyH_take (i := 18) (oi := ?or1_18) (v := ?vr1_18) ?hr1_18 (by kernel_rfl) (by kernel_rfl) (by kernel_rfl) ?qr1_18 (Or.inl ⟨?wr1_18, ?yr1_18⟩) (by assumption) ?rr1_18
        case hr1_18 => (simp only [List.getElem?_toArray, List.getElem?_cons_succ, List.getElem?_cons_zero]; rfl)
        case qr1_18 => exact fun _ _ _ h => h
        case wr1_18 => rfl
        case yr1_18 => (intro w hSw; (try dsimp only at hSw); go_simp <;> with_reducible rfl)
        try simp only [Act.put, List.setIfInBounds_toArray, List.set_cons_zero, List.set_cons_succ]
        refine wpAnyH_take (i := 19) (oi := ?or1_19) (v := ?vr1_19) ?hr1_19 (by kernel_rfl) (by kernel_rfl) (by kernel_rfl) ?qr1_19 (Or.inl ⟨?wr1_19, ?yr1_19⟩) (by assumption) ?rr1_19
        case hr1_19 => (simp only [List.getElem?_toArray, List.getElem?_cons_succ, List.getElem?_cons_zero]; rfl)
        case qr1_19 => exact fun _ _ _ h => h
        case wr1_19 => rfl
        case yr1_19 => (intro w hSw; (try dsimp only at hSw); go_simp <;> with_reducible rfl)
        try simp only [Act.put, List.setIfInBounds_toArray, List.set_cons_zero, List.set_cons_succ]
        refine wpAnyH_take (i := 20) (oi := ?or1_20) (v := ?vr1_20) ?hr1_20 (by kernel_rfl) (by kernel_rfl) (by kernel_rfl) ?qr1_20 (Or.inl ⟨?wr1_20, ?yr1_20⟩) (by assumption) ?rr1_20
        case hr1_20 => (simp only [List.getElem?_toArray, List.getElem?_cons_succ, List.getElem?_cons_zero]; rfl)
        case qr1_20 => exact fun _ _ _ h => h
        case wr1_20 => rfl
        case yr1_20 => (intro w hSw; (try dsimp only at hSw); go_simp <;> with_reducible rfl)
        try simp only [Act.put, List.setIfInBounds_toArray, List.set_cons_zero, List.set_cons_succ]
        refine wpAnyH_take (i := 21) (oi := ?or1_21) (v := ?vr1_21) ?hr1_21 (by kernel_rfl) (by kernel_rfl) (by kernel_rfl) ?qr1_21 (Or.inl ⟨?wr1_21, ?yr1_21⟩) (by assumption) ?rr1_21
        case hr1_21 => (simp only [List.getElem?_toArray, List.getElem?_cons_succ, List.getElem?_cons_zero]; rfl)
        case qr1_21 => exact fun _ _ _ h => h
        case wr1_21 => rfl
        case yr1_21 => (intro w hSw; (try dsimp only at hSw); go_simp <;> with_reducible rfl)
        try simp only [Act.put, List.setIfInBounds_toArray, List.set_cons_zero, List.set_cons_succ]
        refine wpAnyH_take (i := 22) (oi := ?or1_22) (v := ?vr1_22) ?hr1_22 (by kernel_rfl) (by kernel_rfl) (by kernel_rfl) ?qr1_22 (Or.inl ⟨?wr1_22, ?yr1_22⟩) (by assumption) ?rr1_22
        case hr1_22 => (simp only [List.getElem?_toArray, List.getElem?_cons_succ, List.getElem?_cons_zero]; rfl)
        case qr1_22 => exact fun _ _ _ h => h
        case wr1_22 => rfl
        case yr1_22 => (intro w hSw; (try dsimp only at hSw); go_simp <;> with_reducible rfl)
        try simp only [Act.put, List.setIfInBounds_toArray, List.set_cons_zero, List.set_cons_succ]
        refine wpAnyH_take (i := 23) (oi := ?or1_23) (v := ?vr1_23) ?hr1_23 (by kernel_rfl) (by kernel_rfl) (by kernel_rfl) ?qr1_23 (Or.inl ⟨?wr1_23, ?yr1_23⟩) (by assumption) ?rr1_23
        case hr1_23 => (simp only [List.getElem?_toArray, List.getElem?_cons_succ, List.getElem?_cons_zero]; rfl)
        case qr1_23 => exact fun _ _ _ h => h
        case wr1_23 => rfl
        case yr1_23 => (intro w hSw; (try dsimp only at hSw); go_simp <;> with_reducible rfl)
        try simp only [Act.put, List.setIfInBounds_toArray, List.set_cons_zero, List.set_cons_succ]
        refine wpAnyH_ready (rs := [15]) (by kernel_rfl) (by simp) ?_
        refine AllReadyH.cons (o := ?or1_15) ?hr1_15 (fun K hK => ?kr1_15) AllReadyH.nil
        case hr1_15 => (simp only [List.getElem?_toArray, List.getElem?_cons_succ, List.getElem?_cons_zero]; rfl)
        go_simp
        skip
        refine hK.out _ _ (by first | exact ⟨hcell, hc0, hc1⟩ | exact ⟨HS2.out _, HS0.out _, HS1.out _⟩) (fun hHeld => ?_)
        clear hK K
        try simp only [Act.put, List.setIfInBounds_toArray, List.set_cons_zero, List.set_cons_succ]
        refine wpAnyH_take (i := 24) (oi := ?or1_24) (v := ?vr1_24) ?hr1_24 (by kernel_rfl) (by kernel_rfl) (by kernel_rfl) ?qr1_24 (Or.inl ⟨?wr1_24, ?yr1_24⟩) (by assumption) ?rr1_24
        case hr1_24 => (simp only [List.getElem?_toArray, List.getElem?_cons_succ, List.getElem?_cons_zero]; rfl)
        case qr1_24 => exact fun _ _ _ h => h
        case wr1_24 => rfl
        case yr1_24 => (intro w hSw; (try dsimp only at hSw); go_simp <;> with_reducible rfl)
        try simp only [Act.put, List.setIfInBounds_toArray, List.set_cons_zero, List.set_cons_succ]
        refine wpAnyH_take (i := 25) (oi := ?or1_25) (v := ?vr1_25) ?hr1_25 (by kernel_rfl) (by kernel_rfl) (by kernel_rfl) ?qr1_25 (Or.inl ⟨?wr1_25, ?yr1_25⟩) (by assumption) ?rr1_25
        case hr1_25 => (simp only [List.getElem?_toArray, List.getElem?_cons_succ, List.getElem?_cons_zero]; rfl)
        case qr1_25 => exact fun _ _ _ h => h
        case wr1_25 => rfl
        case yr1_25 => (intro w hSw; (try dsimp only at hSw); go_simp <;> with_reducible rfl)
        try simp only [Act.put, List.setIfInBounds_toArray, List.set_cons_zero, List.set_cons_succ]
        refine wpAnyH_ready (rs := [26]) (by kernel_rfl) (by simp) ?_
        refine AllReadyH.cons (o := ?or1_26) ?hr1_26 (fun K hK => ?kr1_26) AllReadyH.nil
        case hr1_26 => (simp only [List.getElem?_toArray, List.getElem?_cons_succ, List.getElem?_cons_zero]; rfl)
        go_simp
        skip
        refine hK.out _ _ (by first | exact ⟨hcell, hc0, hc1⟩ | exact ⟨HS2.out _, HS0.out _, HS1.out _⟩) (fun hHeld => ?_)
        clear hK K
        try simp only [Act.put, List.setIfInBounds_toArray, List.set_cons_zero, List.set_cons_succ]
        refine wpAnyH_done (by kernel_rfl) ?_ _
        go_wp2_with fail
        go_roundw
        case rel => exact ⟨u + 1, by omega, by go_num, by rw [hmo2, HW2.out, hor]; exact HSTO.out, by rw [hmo2, HW2.out, hor]; exact Below.drew (HB.out.setCell (p := ⟨w0.heap.size, o1, none⟩) (Nat.le_refl _) _)⟩
        case measure => simp [intOf]; omega
    · obtain rfl : u = LP.length := by omega
      have HE : Hid (imT P n x LP.length = imgs P n x) := Lib.hid (by rw [HUL.out]; rfl)
      have hown' := hown
      rw [HE.out] at hown'
      have HVC := Lib.hid (l12Vectors_any p (some ⟨w0.heap.size, 0, none⟩) n n (imgs P n x) wr (imgs_len P n x).symm (by omega) (by omega) (fun r hr => sm_of_lt (a := p) (by omega) (imgs_lt (fun u hu => (HIN.out u hu).2) r hr)) (owns_Rd hown'))
      obtain ⟨y0, y1, yf0, yf1, ly⟩ := blk2cells (blk_kept HK2.out hbel)
      have hsz := hbel.size
      clear hown hown' hbel
      go_wp2_with fail
      refine HVC.out.mono ?_
      rintro e w5 ⟨A1, c1, R, rfl, hRl, hRd, ho, hb⟩
      have HR1 := Lib.hid hRl
      have HR2 := Lib.hid hRd
      have HR3 := Lib.hid (ho.mono (Nat.le_trans hs0 hsz))
      have HR4 := Lib.hid (HB0.out.trans ((HB.out.trans (hb.mono hsz)).mono hs0))
      clear hRl hRd ho hb
      go_wp2_with fail
      go_ret
      exact ⟨A1, c1, R, rfl, HR1.out, HR2.out, HR3.out, HR4.out⟩
end Go.Proofs.YtdkmdmpaflgfaaaGreatDoor
