/- the program's transposed -/
import Derived.Test.YtpchigdhnnkpcaaGreatDoorZar
namespace Go.Proofs.YtpchigdhnnkpcaaGreatDoor
open Go.RowKit

theorem mapR_ite {U j : Nat} (f g : Nat → Nat) (h : j < U) (v : Nat) (hv : v = g j) : (mapR U fun u => if u < j then g u else f u).set j v = mapR U fun u => if u < j + 1 then g u else f u := by
  rw [mapR_set _ _ h]
  refine mapR_congr fun u _ => ?_
  by_cases e : u = j
  · subst e; simp [hv]
  · have h2 : u < j + 1 ↔ u < j := by omega
    rw [if_neg e]; simp only [h2]
theorem or_two {a t : Nat} (ha : Sm a) (ht : t ≤ 60) : bits .or .i64 (a : Int) ((2 : Int) ^ t) = ((orr a (2 ^ t) : Nat) : Int) := by
  have h2 : Sm (2 ^ t) := sm_of_lt (a := t + 1) (by omega) (pow_lt_succ t)
  have := i64_or_nat ha h2
  rwa [show ((2 ^ t : Nat) : Int) = (2 : Int) ^ t by simp] at this
theorem or_nil {a : Nat} (ha : Sm a) : bits .or .i64 (a : Int) 0 = (a : Int) := by
  have := i64_or_nat ha (b := 0) Sm.zero
  simpa [orr] using this

set_option maxRecDepth 100000 in
set_option maxHeartbeats 8000000 in
theorem transposed_any (A : Option Addr) (n c U : Nat) (C : List Nat) (w : World) (hn : n = C.length) (hn60 : n ≤ 60) (hU : U ≤ 60) (hS : ∀ r ∈ C, Sm r) (hR : Rd w A (nv C)) :
    Calls Tryz.prog 74 #[.slice A n c, .int .i64 U] w fun e w' => ∃ v, e = .returned v ∧ w'.ownsRow w.heap.size 2 1 v U (nv (trL C U)) ∧ Below w.heap.size w w' := by
  have hmk := run_make_row' (P := Tryz.prog) 22 2 (.int .i64 0) 8 Tryz.underlying22 infoI rfl .i64 .i64 U (by omega) (by omega)
  have HR := Lib.hid hR
  have Hn := Lib.hid hn
  have HS := Lib.hid hS
  have HTS : Hid (∀ u i, i ≤ n → Sm (trTo C u i)) := Lib.hid (fun u i hi => sm_of_lt (a := i) (by omega) (lt_of_tb fun m hm => by rw [tb_trTo, decide_eq_false (by omega)]; rfl))
  have HFIN : Hid (trL C U = mapR U fun u => trTo C u n) := Lib.hid (by rw [hn]; rfl)
  have HMO : Hid ((w.alloc (.cells (madeCells #[.int .i64 0] U) 2)).ownsRow w.heap.size 2 1 (.slice (some ⟨w.heap.size, 0, none⟩) U U) U (nv (mapR U fun u => trTo C u 0))) := Lib.hid (by
    have h := made_own w w.heap.size U (Nat.le_refl _) (by omega)
    rw [← mapR_zero] at h; exact h)
  clear hn hS hR
  go_enter Tryz.func74, Tryz.ntmps74
  go_wp2_with fail
  go_loopw [13] (fun ii wr => ∃ i : Nat, i ≤ n ∧ ii = .int .i64 i ∧ wr.ownsRow w.heap.size 2 1 (.slice (some ⟨w.heap.size, 0, none⟩) U U) U (nv (mapR U fun u => trTo C u i)) ∧ Below w.heap.size w wr) (fun ii _ => n - (intOf ii).toNat)
  case atStart => exact ⟨0, by omega, rfl, HMO.out, (Below.refl _ _).alloc (Nat.le_refl _) _⟩
  case round =>
    obtain ⟨i, hi, rfl, hown, hbel⟩ := hrel
    have HO := Lib.hid hown
    have HB := Lib.hid hbel
    by_cases hin : i < n
    · have hiC : i < C.length := by rw [← Hn.out]; exact hin
      obtain ⟨b, o, rfl, hc⟩ := (HR.out.below hbel).atN hiC
      have hv := HS.out _ (getD_mem hiC)
      have HTR : Hid (∀ u, trTo C u (i + 1) = if tb (C.getD i 0) u = true then orr (trTo C u i) (2 ^ i) else trTo C u i) := Lib.hid (fun u => rfl)
      generalize C.getD i 0 = v at *
      have HV := Lib.hid hv
      clear hown hbel hv
      go_wp2_with fail
      go_loopw [20] (fun jj wr => ∃ j : Nat, j ≤ U ∧ jj = .int .i64 j ∧ wr.ownsRow w.heap.size 2 1 (.slice (some ⟨w.heap.size, 0, none⟩) U U) U (nv (mapR U fun u => if u < j then trTo C u (i + 1) else trTo C u i)) ∧ Below w.heap.size w wr) (fun jj _ => U - (intOf jj).toNat)
      case atStart => exact ⟨0, by omega, rfl, by rw [mapR_congr (g := fun u => trTo C u i) (fun c _ => by rw [if_neg (by omega)])]; exact HO.out, HB.out⟩
      case round =>
        obtain ⟨j, hj, rfl, hown, hbel⟩ := hrel
        have HOj := Lib.hid hown
        have HBj := Lib.hid hbel
        by_cases hjU : j < U
        · have hmin : min j 64 = j := by omega
          have hmini : min i 64 = i := by omega
          obtain ⟨pb1, pb2⟩ := pow62 (d := i) (by omega)
          have hji : (j : Int) < (U : Int) := by omega
          have hcs := own_nv_getD hown hjU
          rw [mapR_getD _ hjU, if_neg (by omega)] at hcs
          have fz := hown.frozenAt j
          have hbn := i64_bit_nat (n := j) HV.out
          have hs := HTS.out j i (by omega)
          have hot := or_two (t := i) hs (by omega)
          have ho0 := or_nil hs
          have HTj := Lib.hid (HTR.out j)
          cases hbj : tb v j
          · rw [hbj] at hbn
            have HSTO := Lib.hid ((World.ownsRow.stored hown j (.int .i64 ((trTo C j i : Nat) : Int))).1)
            rw [← nv_setY, mapR_ite _ _ hjU _ (by rw [HTj.out, hbj]; simp)] at HSTO
            clear hown hbel hs hot
            generalize trTo C j i = a at *
            simp only [Bool.toNat_false, Int.natCast_zero] at hbn
            go_wp2_with fail
            refine wp_region_any (by kernel_rfl) ?_
            try (change wpAny _ _ _ _ _ _ _ (World.drew _))
            refine wpAny_take (i := 0) (oi := ?oio1_1) (v := ?vo1_1) ?ho1_1 (by kernel_rfl) (by kernel_rfl) (by kernel_rfl) ?qo1_1 (Or.inl ⟨?wo1_1, ?yo1_1⟩) ?ro1_1
            case ho1_1 => (simp only [List.getElem?_toArray, List.getElem?_cons_succ, List.getElem?_cons_zero]; rfl)
            case qo1_1 => exact fun _ _ _ h => h
            case wo1_1 => rfl
            case yo1_1 => (intro w; go_simp <;> with_reducible rfl)
            try simp only [Act.put, List.setIfInBounds_toArray, List.set_cons_zero, List.set_cons_succ]
            refine wpAny_take (i := 1) (oi := ?oio1_2) (v := ?vo1_2) ?ho1_2 (by kernel_rfl) (by kernel_rfl) (by kernel_rfl) ?qo1_2 (Or.inl ⟨?wo1_2, ?yo1_2⟩) ?ro1_2
            case ho1_2 => (simp only [List.getElem?_toArray, List.getElem?_cons_succ, List.getElem?_cons_zero]; rfl)
            case qo1_2 => exact fun _ _ _ h => h
            case wo1_2 => rfl
            case yo1_2 => (intro w; go_simp <;> with_reducible rfl)
            try simp only [Act.put, List.setIfInBounds_toArray, List.set_cons_zero, List.set_cons_succ]
            refine wpAny_take (i := 2) (oi := ?oio1_3) (v := ?vo1_3) ?ho1_3 (by kernel_rfl) (by kernel_rfl) (by kernel_rfl) ?qo1_3 (Or.inl ⟨?wo1_3, ?yo1_3⟩) ?ro1_3
            case ho1_3 => (simp only [List.getElem?_toArray, List.getElem?_cons_succ, List.getElem?_cons_zero]; rfl)
            case qo1_3 => exact fun _ _ _ h => h
            case wo1_3 => rfl
            case yo1_3 => (intro w; go_simp <;> with_reducible rfl)
            try simp only [Act.put, List.setIfInBounds_toArray, List.set_cons_zero, List.set_cons_succ]
            refine wpAny_take (i := 4) (oi := ?oio1_4) (v := ?vo1_4) ?ho1_4 (by kernel_rfl) (by kernel_rfl) (by kernel_rfl) ?qo1_4 (Or.inl ⟨?wo1_4, ?yo1_4⟩) ?ro1_4
            case ho1_4 => (simp only [List.getElem?_toArray, List.getElem?_cons_succ, List.getElem?_cons_zero]; rfl)
            case qo1_4 => exact fun _ _ _ h => h
            case wo1_4 => rfl
            case yo1_4 => (intro w; go_simp <;> with_reducible rfl)
            try simp only [Act.put, List.setIfInBounds_toArray, List.set_cons_zero, List.set_cons_succ]
            refine wpAny_take (i := 5) (oi := ?oio1_5) (v := ?vo1_5) ?ho1_5 (by kernel_rfl) (by kernel_rfl) (by kernel_rfl) ?qo1_5 (Or.inl ⟨?wo1_5, ?yo1_5⟩) ?ro1_5
            case ho1_5 => (simp only [List.getElem?_toArray, List.getElem?_cons_succ, List.getElem?_cons_zero]; rfl)
            case qo1_5 => exact fun _ _ _ h => h
            case wo1_5 => rfl
            case yo1_5 => (intro w; go_simp <;> with_reducible rfl)
            try simp only [Act.put, List.setIfInBounds_toArray, List.set_cons_zero, List.set_cons_succ]
            refine wpAny_take (i := 6) (oi := ?oio1_6) (v := ?vo1_6) ?ho1_6 (by kernel_rfl) (by kernel_rfl) (by kernel_rfl) ?qo1_6 (Or.inl ⟨?wo1_6, ?yo1_6⟩) ?ro1_6
            case ho1_6 => (simp only [List.getElem?_toArray, List.getElem?_cons_succ, List.getElem?_cons_zero]; rfl)
            case qo1_6 => exact fun _ _ _ h => h
            case wo1_6 => rfl
            case yo1_6 => (intro w; go_simp <;> with_reducible rfl)
            try simp only [Act.put, List.setIfInBounds_toArray, List.set_cons_zero, List.set_cons_succ]
            refine wpAny_take (i := 7) (oi := ?oio1_7) (v := ?vo1_7) ?ho1_7 (by kernel_rfl) (by kernel_rfl) (by kernel_rfl) ?qo1_7 (Or.inl ⟨?wo1_7, ?yo1_7⟩) ?ro1_7
            case ho1_7 => (simp only [List.getElem?_toArray, List.getElem?_cons_succ, List.getElem?_cons_zero]; rfl)
            case qo1_7 => exact fun _ _ _ h => h
            case wo1_7 => rfl
            case yo1_7 => (intro w; go_simp <;> with_reducible rfl)
            try simp only [Act.put, List.setIfInBounds_toArray, List.set_cons_zero, List.set_cons_succ]
            refine wpAny_take (i := 8) (oi := ?oio1_8) (v := ?vo1_8) ?ho1_8 (by kernel_rfl) (by kernel_rfl) (by kernel_rfl) ?qo1_8 (Or.inl ⟨?wo1_8, ?yo1_8⟩) ?ro1_8
            case ho1_8 => (simp only [List.getElem?_toArray, List.getElem?_cons_succ, List.getElem?_cons_zero]; rfl)
            case qo1_8 => exact fun _ _ _ h => h
            case wo1_8 => rfl
            case yo1_8 => (intro w; go_simp <;> with_reducible rfl)
            try simp only [Act.put, List.setIfInBounds_toArray, List.set_cons_zero, List.set_cons_succ]
            refine wpAny_take (i := 9) (oi := ?oio1_9) (v := ?vo1_9) ?ho1_9 (by kernel_rfl) (by kernel_rfl) (by kernel_rfl) ?qo1_9 (Or.inl ⟨?wo1_9, ?yo1_9⟩) ?ro1_9
            case ho1_9 => (simp only [List.getElem?_toArray, List.getElem?_cons_succ, List.getElem?_cons_zero]; rfl)
            case qo1_9 => exact fun _ _ _ h => h
            case wo1_9 => rfl
            case yo1_9 => (intro w; go_simp <;> with_reducible rfl)
            try simp only [Act.put, List.setIfInBounds_toArray, List.set_cons_zero, List.set_cons_succ]
            refine wpAny_ready (rs := [3]) (by kernel_rfl) (by simp) ?_
            refine AllReady.cons (o := ?oio1_10) ?ho1_10 (fun K hK => ?ko1_10) ?mo1_10
            case ho1_10 => (simp only [List.getElem?_toArray, List.getElem?_cons_succ, List.getElem?_cons_zero]; rfl)
            case ko1_10 =>
              go_simp
              refine hK _ _ ?_
              clear hK K
              try simp only [Act.put, List.setIfInBounds_toArray, List.set_cons_zero, List.set_cons_succ]
              refine wpAny_take (i := 10) (oi := ?oio1_11) (v := ?vo1_11) ?ho1_11 (by kernel_rfl) (by kernel_rfl) (by kernel_rfl) ?qo1_11 (Or.inl ⟨?wo1_11, ?yo1_11⟩) ?ro1_11
              case ho1_11 => (simp only [List.getElem?_toArray, List.getElem?_cons_succ, List.getElem?_cons_zero]; rfl)
              case qo1_11 => exact fun _ _ _ h => h
              case wo1_11 => rfl
              case yo1_11 => (intro w; go_simp <;> with_reducible rfl)
              try simp only [Act.put, List.setIfInBounds_toArray, List.set_cons_zero, List.set_cons_succ]
              refine wpAny_take (i := 11) (oi := ?oio1_12) (v := ?vo1_12) ?ho1_12 (by kernel_rfl) (by kernel_rfl) (by kernel_rfl) ?qo1_12 (Or.inl ⟨?wo1_12, ?yo1_12⟩) ?ro1_12
              case ho1_12 => (simp only [List.getElem?_toArray, List.getElem?_cons_succ, List.getElem?_cons_zero]; rfl)
              case qo1_12 => exact fun _ _ _ h => h
              case wo1_12 => rfl
              case yo1_12 => (intro w; go_simp <;> with_reducible rfl)
              try simp only [Act.put, List.setIfInBounds_toArray, List.set_cons_zero, List.set_cons_succ]
              refine wpAny_ready (rs := [12]) (by kernel_rfl) (by simp) ?_
              refine AllReady.cons (o := ?oio1_13) ?ho1_13 (fun K hK => ?ko1_13) ?mo1_13
              case ho1_13 => (simp only [List.getElem?_toArray, List.getElem?_cons_succ, List.getElem?_cons_zero]; rfl)
              case ko1_13 =>
                go_simp
                refine hK _ _ ?_
                clear hK K
                try simp only [Act.put, List.setIfInBounds_toArray, List.set_cons_zero, List.set_cons_succ]
                refine wpAny_done (by kernel_rfl) ?_ _
                go_wp2_with fail
                go_roundw
                case rel => exact ⟨j + 1, by omega, by go_num, by rw [ho0]; exact HSTO.out, by rw [ho0]; exact Below.drew (HBj.out.setCell (p := ⟨w.heap.size, j, none⟩) (Nat.le_refl _) _)⟩
                case measure => simp [intOf]; omega
              exact AllReady.nil
            exact AllReady.nil
          · rw [hbj] at hbn
            have HSTO := Lib.hid ((World.ownsRow.stored hown j (.int .i64 ((orr (trTo C j i) (2 ^ i) : Nat) : Int))).1)
            rw [← nv_setY, mapR_ite _ _ hjU _ (by rw [HTj.out, hbj]; simp)] at HSTO
            clear hown hbel hs ho0
            generalize trTo C j i = a at *
            simp only [Bool.toNat_true, Int.natCast_one] at hbn
            go_wp2_with fail
            refine wp_region_any (by kernel_rfl) ?_
            try (change wpAny _ _ _ _ _ _ _ (World.drew _))
            refine wpAny_take (i := 0) (oi := ?oio2_1) (v := ?vo2_1) ?ho2_1 (by kernel_rfl) (by kernel_rfl) (by kernel_rfl) ?qo2_1 (Or.inl ⟨?wo2_1, ?yo2_1⟩) ?ro2_1
            case ho2_1 => (simp only [List.getElem?_toArray, List.getElem?_cons_succ, List.getElem?_cons_zero]; rfl)
            case qo2_1 => exact fun _ _ _ h => h
            case wo2_1 => rfl
            case yo2_1 => (intro w; go_simp <;> with_reducible rfl)
            try simp only [Act.put, List.setIfInBounds_toArray, List.set_cons_zero, List.set_cons_succ]
            refine wpAny_take (i := 1) (oi := ?oio2_2) (v := ?vo2_2) ?ho2_2 (by kernel_rfl) (by kernel_rfl) (by kernel_rfl) ?qo2_2 (Or.inl ⟨?wo2_2, ?yo2_2⟩) ?ro2_2
            case ho2_2 => (simp only [List.getElem?_toArray, List.getElem?_cons_succ, List.getElem?_cons_zero]; rfl)
            case qo2_2 => exact fun _ _ _ h => h
            case wo2_2 => rfl
            case yo2_2 => (intro w; go_simp <;> with_reducible rfl)
            try simp only [Act.put, List.setIfInBounds_toArray, List.set_cons_zero, List.set_cons_succ]
            refine wpAny_take (i := 2) (oi := ?oio2_3) (v := ?vo2_3) ?ho2_3 (by kernel_rfl) (by kernel_rfl) (by kernel_rfl) ?qo2_3 (Or.inl ⟨?wo2_3, ?yo2_3⟩) ?ro2_3
            case ho2_3 => (simp only [List.getElem?_toArray, List.getElem?_cons_succ, List.getElem?_cons_zero]; rfl)
            case qo2_3 => exact fun _ _ _ h => h
            case wo2_3 => rfl
            case yo2_3 => (intro w; go_simp <;> with_reducible rfl)
            try simp only [Act.put, List.setIfInBounds_toArray, List.set_cons_zero, List.set_cons_succ]
            refine wpAny_take (i := 4) (oi := ?oio2_4) (v := ?vo2_4) ?ho2_4 (by kernel_rfl) (by kernel_rfl) (by kernel_rfl) ?qo2_4 (Or.inl ⟨?wo2_4, ?yo2_4⟩) ?ro2_4
            case ho2_4 => (simp only [List.getElem?_toArray, List.getElem?_cons_succ, List.getElem?_cons_zero]; rfl)
            case qo2_4 => exact fun _ _ _ h => h
            case wo2_4 => rfl
            case yo2_4 => (intro w; go_simp <;> with_reducible rfl)
            try simp only [Act.put, List.setIfInBounds_toArray, List.set_cons_zero, List.set_cons_succ]
            refine wpAny_take (i := 5) (oi := ?oio2_5) (v := ?vo2_5) ?ho2_5 (by kernel_rfl) (by kernel_rfl) (by kernel_rfl) ?qo2_5 (Or.inl ⟨?wo2_5, ?yo2_5⟩) ?ro2_5
            case ho2_5 => (simp only [List.getElem?_toArray, List.getElem?_cons_succ, List.getElem?_cons_zero]; rfl)
            case qo2_5 => exact fun _ _ _ h => h
            case wo2_5 => rfl
            case yo2_5 => (intro w; go_simp <;> with_reducible rfl)
            try simp only [Act.put, List.setIfInBounds_toArray, List.set_cons_zero, List.set_cons_succ]
            refine wpAny_take (i := 6) (oi := ?oio2_6) (v := ?vo2_6) ?ho2_6 (by kernel_rfl) (by kernel_rfl) (by kernel_rfl) ?qo2_6 (Or.inl ⟨?wo2_6, ?yo2_6⟩) ?ro2_6
            case ho2_6 => (simp only [List.getElem?_toArray, List.getElem?_cons_succ, List.getElem?_cons_zero]; rfl)
            case qo2_6 => exact fun _ _ _ h => h
            case wo2_6 => rfl
            case yo2_6 => (intro w; go_simp <;> with_reducible rfl)
            try simp only [Act.put, List.setIfInBounds_toArray, List.set_cons_zero, List.set_cons_succ]
            refine wpAny_take (i := 7) (oi := ?oio2_7) (v := ?vo2_7) ?ho2_7 (by kernel_rfl) (by kernel_rfl) (by kernel_rfl) ?qo2_7 (Or.inl ⟨?wo2_7, ?yo2_7⟩) ?ro2_7
            case ho2_7 => (simp only [List.getElem?_toArray, List.getElem?_cons_succ, List.getElem?_cons_zero]; rfl)
            case qo2_7 => exact fun _ _ _ h => h
            case wo2_7 => rfl
            case yo2_7 => (intro w; go_simp <;> with_reducible rfl)
            try simp only [Act.put, List.setIfInBounds_toArray, List.set_cons_zero, List.set_cons_succ]
            refine wpAny_take (i := 8) (oi := ?oio2_8) (v := ?vo2_8) ?ho2_8 (by kernel_rfl) (by kernel_rfl) (by kernel_rfl) ?qo2_8 (Or.inl ⟨?wo2_8, ?yo2_8⟩) ?ro2_8
            case ho2_8 => (simp only [List.getElem?_toArray, List.getElem?_cons_succ, List.getElem?_cons_zero]; rfl)
            case qo2_8 => exact fun _ _ _ h => h
            case wo2_8 => rfl
            case yo2_8 => (intro w; go_simp <;> with_reducible rfl)
            try simp only [Act.put, List.setIfInBounds_toArray, List.set_cons_zero, List.set_cons_succ]
            refine wpAny_take (i := 9) (oi := ?oio2_9) (v := ?vo2_9) ?ho2_9 (by kernel_rfl) (by kernel_rfl) (by kernel_rfl) ?qo2_9 (Or.inl ⟨?wo2_9, ?yo2_9⟩) ?ro2_9
            case ho2_9 => (simp only [List.getElem?_toArray, List.getElem?_cons_succ, List.getElem?_cons_zero]; rfl)
            case qo2_9 => exact fun _ _ _ h => h
            case wo2_9 => rfl
            case yo2_9 => (intro w; go_simp <;> with_reducible rfl)
            try simp only [Act.put, List.setIfInBounds_toArray, List.set_cons_zero, List.set_cons_succ]
            refine wpAny_ready (rs := [3]) (by kernel_rfl) (by simp) ?_
            refine AllReady.cons (o := ?oio2_10) ?ho2_10 (fun K hK => ?ko2_10) ?mo2_10
            case ho2_10 => (simp only [List.getElem?_toArray, List.getElem?_cons_succ, List.getElem?_cons_zero]; rfl)
            case ko2_10 =>
              go_simp
              refine hK _ _ ?_
              clear hK K
              try simp only [Act.put, List.setIfInBounds_toArray, List.set_cons_zero, List.set_cons_succ]
              refine wpAny_take (i := 10) (oi := ?oio2_11) (v := ?vo2_11) ?ho2_11 (by kernel_rfl) (by kernel_rfl) (by kernel_rfl) ?qo2_11 (Or.inl ⟨?wo2_11, ?yo2_11⟩) ?ro2_11
              case ho2_11 => (simp only [List.getElem?_toArray, List.getElem?_cons_succ, List.getElem?_cons_zero]; rfl)
              case qo2_11 => exact fun _ _ _ h => h
              case wo2_11 => rfl
              case yo2_11 => (intro w; go_simp <;> with_reducible rfl)
              try simp only [Act.put, List.setIfInBounds_toArray, List.set_cons_zero, List.set_cons_succ]
              refine wpAny_take (i := 11) (oi := ?oio2_12) (v := ?vo2_12) ?ho2_12 (by kernel_rfl) (by kernel_rfl) (by kernel_rfl) ?qo2_12 (Or.inl ⟨?wo2_12, ?yo2_12⟩) ?ro2_12
              case ho2_12 => (simp only [List.getElem?_toArray, List.getElem?_cons_succ, List.getElem?_cons_zero]; rfl)
              case qo2_12 => exact fun _ _ _ h => h
              case wo2_12 => rfl
              case yo2_12 => (intro w; go_simp <;> with_reducible rfl)
              try simp only [Act.put, List.setIfInBounds_toArray, List.set_cons_zero, List.set_cons_succ]
              refine wpAny_ready (rs := [12]) (by kernel_rfl) (by simp) ?_
              refine AllReady.cons (o := ?oio2_13) ?ho2_13 (fun K hK => ?ko2_13) ?mo2_13
              case ho2_13 => (simp only [List.getElem?_toArray, List.getElem?_cons_succ, List.getElem?_cons_zero]; rfl)
              case ko2_13 =>
                go_simp
                refine hK _ _ ?_
                clear hK K
                try simp only [Act.put, List.setIfInBounds_toArray, List.set_cons_zero, List.set_cons_succ]
                refine wpAny_done (by kernel_rfl) ?_ _
                go_wp2_with fail
                go_roundw
                case rel => exact ⟨j + 1, by omega, by go_num, by rw [hot]; exact HSTO.out, by rw [hot]; exact Below.drew (HBj.out.setCell (p := ⟨w.heap.size, j, none⟩) (Nat.le_refl _) _)⟩
                case measure => simp [intOf]; omega
              exact AllReady.nil
            exact AllReady.nil
        · obtain rfl : j = U := by omega
          have HF : Hid (mapR j (fun u => if u < j then trTo C u (i + 1) else trTo C u i) = mapR j fun u => trTo C u (i + 1)) := Lib.hid (mapR_congr fun c hc => by rw [if_pos hc])
          clear hown hbel
          go_wp2_with fail
          go_roundw
          case rel => exact ⟨i + 1, by omega, by go_num, by rw [← HF.out]; exact HOj.out, HBj.out⟩
          case measure => simp [intOf]; omega
    · obtain rfl : i = n := by omega
      clear hown hbel
      go_wp2_with fail
      go_ret
      exact ⟨_, rfl, by rw [HFIN.out]; exact HO.out, HB.out⟩
end Go.Proofs.YtpchigdhnnkpcaaGreatDoor
