/- the program's transposed · the reference's l12Kept · the walks of the span · span.left · span.add -/
import Derived.Test.YtpchigdhnnkpcaaGreatDoorBxao
import Derived.Test.YtpchigdhnnkpcaaGreatDoorBxag
import Derived.Test.YtpchigdhnnkpcaaGreatDoorBxaa
import Derived.Test.YtpchigdhnnkpcaaGreatDoorBxad
set_option linter.all false
namespace Go.Proofs.YtpchigdhnnkpcaaGreatDoor
open Go.RowKit

theorem mapR_ite {U j : Nat} (f g : Nat → Nat) (h : j < U) (v : Nat) (hv : v = g j) : (mapR U fun u => if u < j then g u else f u).set j v = mapR U fun u => if u < j + 1 then g u else f u := by
  rw [mapR_set _ _ h]
  refine mapR_congr fun u _ => ?_
  by_cases e : u = j
  · subst e; simp [hv]
  · have h2 : u < j + 1 ↔ u < j := by omega
    rw [if_neg e]; simp only [h2]
theorem or_two {a t : Nat} (ha : Sm a) (ht : t ≤ 60) : bits .or .i64 (a : Int) ((2 : Int) ^ t) = ((orr a (2 ^ t) : Nat) : Int) := by
  have h2 : Sm (2 ^ t) := sm_of_lt (a := t + 1) (by omega) (pow_lt_succ t)
  have := i64_or_nat ha h2
  rwa [show ((2 ^ t : Nat) : Int) = (2 : Int) ^ t by simp] at this
theorem or_nil {a : Nat} (ha : Sm a) : bits .or .i64 (a : Int) 0 = (a : Int) := by
  have := i64_or_nat ha (b := 0) Sm.zero
  simpa [orr] using this

set_option maxRecDepth 100000 in
set_option maxHeartbeats 8000000 in
theorem transposed_any (A : Option Addr) (n c U : Nat) (C : List Nat) (w : World) (hn : n = C.length) (hn60 : n ≤ 60) (hU : U ≤ 60) (hS : ∀ r ∈ C, Sm r) (hR : Rd w A (nv C)) :
    Calls Tryz.prog 74 #[.slice A n c, .int .i64 U] w fun e w' => ∃ v, e = .returned v ∧ w'.ownsRow w.heap.size 2 1 v U (nv (trL C U)) ∧ Below w.heap.size w w' := by
  have hmk := run_make_row' (P := Tryz.prog) 22 2 (.int .i64 0) 8 Tryz.underlying22 infoI rfl .i64 .i64 U (by omega) (by omega)
  have HR := Lib.hid hR
  have Hn := Lib.hid hn
  have HS := Lib.hid hS
  have HTS : Hid (∀ u i, i ≤ n → Sm (trTo C u i)) := Lib.hid (fun u i hi => sm_of_lt (a := i) (by omega) (lt_of_tb fun m hm => by rw [tb_trTo, decide_eq_false (by omega)]; rfl))
  have HFIN : Hid (trL C U = mapR U fun u => trTo C u n) := Lib.hid (by rw [hn]; rfl)
  have HMO : Hid ((w.alloc (.cells (madeCells #[.int .i64 0] U) 2)).ownsRow w.heap.size 2 1 (.slice (some ⟨w.heap.size, 0, none⟩) U U) U (nv (mapR U fun u => trTo C u 0))) := Lib.hid (by
    have h := made_own w w.heap.size U (Nat.le_refl _) (by omega)
    rw [← mapR_zero] at h; exact h)
  clear hn hS hR
  go_enter Tryz.func74, Tryz.ntmps74
  go_wp2_with fail
  go_loopw [13] (fun ii wr => ∃ i : Nat, i ≤ n ∧ ii = .int .i64 i ∧ wr.ownsRow w.heap.size 2 1 (.slice (some ⟨w.heap.size, 0, none⟩) U U) U (nv (mapR U fun u => trTo C u i)) ∧ Below w.heap.size w wr) (fun ii _ => n - (intOf ii).toNat)
  case atStart => exact ⟨0, by omega, rfl, HMO.out, (Below.refl _ _).alloc (Nat.le_refl _) _⟩
  case round =>
    obtain ⟨i, hi, rfl, hown, hbel⟩ := hrel
    have HO := Lib.hid hown
    have HB := Lib.hid hbel
    by_cases hin : i < n
    · have hiC : i < C.length := by rw [← Hn.out]; exact hin
      obtain ⟨b, o, rfl, hc⟩ := (HR.out.below hbel).atN hiC
      have hv := HS.out _ (getD_mem hiC)
      have HTR : Hid (∀ u, trTo C u (i + 1) = if tb (C.getD i 0) u = true then orr (trTo C u i) (2 ^ i) else trTo C u i) := Lib.hid (fun u => rfl)
      generalize C.getD i 0 = v at *
      have HV := Lib.hid hv
      clear hown hbel hv
      go_wp2_with fail
      go_loopw [20] (fun jj wr => ∃ j : Nat, j ≤ U ∧ jj = .int .i64 j ∧ wr.ownsRow w.heap.size 2 1 (.slice (some ⟨w.heap.size, 0, none⟩) U U) U (nv (mapR U fun u => if u < j then trTo C u (i + 1) else trTo C u i)) ∧ Below w.heap.size w wr) (fun jj _ => U - (intOf jj).toNat)
      case atStart => exact ⟨0, by omega, rfl, by rw [mapR_congr (g := fun u => trTo C u i) (fun c _ => by rw [if_neg (by omega)])]; exact HO.out, HB.out⟩
      case round =>
        obtain ⟨j, hj, rfl, hown, hbel⟩ := hrel
        have HOj := Lib.hid hown
        have HBj := Lib.hid hbel
        by_cases hjU : j < U
        · have hmin : min j 64 = j := by omega
          have hmini : min i 64 = i := by omega
          obtain ⟨pb1, pb2⟩ := pow62 (d := i) (by omega)
          have hji : (j : Int) < (U : Int) := by omega
          have hcs := own_nv_getD hown hjU
          rw [mapR_getD _ hjU, if_neg (by omega)] at hcs
          have fz := hown.frozenAt j
          have hbn := i64_bit_nat (n := j) HV.out
          have hs := HTS.out j i (by omega)
          have hot := or_two (t := i) hs (by omega)
          have ho0 := or_nil hs
          have HTj := Lib.hid (HTR.out j)
          cases hbj : tb v j
          · rw [hbj] at hbn
            have HSTO := Lib.hid ((World.ownsRow.stored hown j (.int .i64 ((trTo C j i : Nat) : Int))).1)
            rw [← nv_setY, mapR_ite _ _ hjU _ (by rw [HTj.out, hbj]; simp)] at HSTO
            clear hown hbel hs hot
            generalize trTo C j i = a at *
            simp only [Bool.toNat_false, Int.natCast_zero] at hbn
            go_wp2_with fail
            refine wp_region_any (by kernel_rfl) ?_
            try (change wpAny _ _ _ _ _ _ _ (World.drew _))
            refine wpAny_take (i := 0) (oi := ?oio1_1) (v := ?vo1_1) ?ho1_1 (by kernel_rfl) (by kernel_rfl) (by kernel_rfl) ?qo1_1 (Or.inl ⟨?wo1_1, ?yo1_1⟩) ?ro1_1
            case ho1_1 => (simp only [List.getElem?_toArray, List.getElem?_cons_succ, List.getElem?_cons_zero]; rfl)
            case qo1_1 => exact fun _ _ _ h => h
            case wo1_1 => rfl
            case yo1_1 => (intro w; go_simp <;> with_reducible rfl)
            try simp only [Act.put, List.setIfInBounds_toArray, List.set_cons_zero, List.set_cons_succ]
            refine wpAny_take (i := 1) (oi := ?oio1_2) (v := ?vo1_2) ?ho1_2 (by kernel_rfl) (by kernel_rfl) (by kernel_rfl) ?qo1_2 (Or.inl ⟨?wo1_2, ?yo1_2⟩) ?ro1_2
            case ho1_2 => (simp only [List.getElem?_toArray, List.getElem?_cons_succ, List.getElem?_cons_zero]; rfl)
            case qo1_2 => exact fun _ _ _ h => h
            case wo1_2 => rfl
            case yo1_2 => (intro w; go_simp <;> with_reducible rfl)
            try simp only [Act.put, List.setIfInBounds_toArray, List.set_cons_zero, List.set_cons_succ]
            refine wpAny_take (i := 2) (oi := ?oio1_3) (v := ?vo1_3) ?ho1_3 (by kernel_rfl) (by kernel_rfl) (by kernel_rfl) ?qo1_3 (Or.inl ⟨?wo1_3, ?yo1_3⟩) ?ro1_3
            case ho1_3 => (simp only [List.getElem?_toArray, List.getElem?_cons_succ, List.getElem?_cons_zero]; rfl)
            case qo1_3 => exact fun _ _ _ h => h
            case wo1_3 => rfl
            case yo1_3 => (intro w; go_simp <;> with_reducible rfl)
            try simp only [Act.put, List.setIfInBounds_toArray, List.set_cons_zero, List.set_cons_succ]
            refine wpAny_take (i := 4) (oi := ?oio1_4) (v := ?vo1_4) ?ho1_4 (by kernel_rfl) (by kernel_rfl) (by kernel_rfl) ?qo1_4 (Or.inl ⟨?wo1_4, ?yo1_4⟩) ?ro1_4
            case ho1_4 => (simp only [List.getElem?_toArray, List.getElem?_cons_succ, List.getElem?_cons_zero]; rfl)
            case qo1_4 => exact fun _ _ _ h => h
            case wo1_4 => rfl
            case yo1_4 => (intro w; go_simp <;> with_reducible rfl)
            try simp only [Act.put, List.setIfInBounds_toArray, List.set_cons_zero, List.set_cons_succ]
            refine wpAny_take (i := 5) (oi := ?oio1_5) (v := ?vo1_5) ?ho1_5 (by kernel_rfl) (by kernel_rfl) (by kernel_rfl) ?qo1_5 (Or.inl ⟨?wo1_5, ?yo1_5⟩) ?ro1_5
            case ho1_5 => (simp only [List.getElem?_toArray, List.getElem?_cons_succ, List.getElem?_cons_zero]; rfl)
            case qo1_5 => exact fun _ _ _ h => h
            case wo1_5 => rfl
            case yo1_5 => (intro w; go_simp <;> with_reducible rfl)
            try simp only [Act.put, List.setIfInBounds_toArray, List.set_cons_zero, List.set_cons_succ]
            refine wpAny_take (i := 6) (oi := ?oio1_6) (v := ?vo1_6) ?ho1_6 (by kernel_rfl) (by kernel_rfl) (by kernel_rfl) ?qo1_6 (Or.inl ⟨?wo1_6, ?yo1_6⟩) ?ro1_6
            case ho1_6 => (simp only [List.getElem?_toArray, List.getElem?_cons_succ, List.getElem?_cons_zero]; rfl)
            case qo1_6 => exact fun _ _ _ h => h
            case wo1_6 => rfl
            case yo1_6 => (intro w; go_simp <;> with_reducible rfl)
            try simp only [Act.put, List.setIfInBounds_toArray, List.set_cons_zero, List.set_cons_succ]
            refine wpAny_take (i := 7) (oi := ?oio1_7) (v := ?vo1_7) ?ho1_7 (by kernel_rfl) (by kernel_rfl) (by kernel_rfl) ?qo1_7 (Or.inl ⟨?wo1_7, ?yo1_7⟩) ?ro1_7
            case ho1_7 => (simp only [List.getElem?_toArray, List.getElem?_cons_succ, List.getElem?_cons_zero]; rfl)
            case qo1_7 => exact fun _ _ _ h => h
            case wo1_7 => rfl
            case yo1_7 => (intro w; go_simp <;> with_reducible rfl)
            try simp only [Act.put, List.setIfInBounds_toArray, List.set_cons_zero, List.set_cons_succ]
            refine wpAny_take (i := 8) (oi := ?oio1_8) (v := ?vo1_8) ?ho1_8 (by kernel_rfl) (by kernel_rfl) (by kernel_rfl) ?qo1_8 (Or.inl ⟨?wo1_8, ?yo1_8⟩) ?ro1_8
            case ho1_8 => (simp only [List.getElem?_toArray, List.getElem?_cons_succ, List.getElem?_cons_zero]; rfl)
            case qo1_8 => exact fun _ _ _ h => h
            case wo1_8 => rfl
            case yo1_8 => (intro w; go_simp <;> with_reducible rfl)
            try simp only [Act.put, List.setIfInBounds_toArray, List.set_cons_zero, List.set_cons_succ]
            refine wpAny_take (i := 9) (oi := ?oio1_9) (v := ?vo1_9) ?ho1_9 (by kernel_rfl) (by kernel_rfl) (by kernel_rfl) ?qo1_9 (Or.inl ⟨?wo1_9, ?yo1_9⟩) ?ro1_9
            case ho1_9 => (simp only [List.getElem?_toArray, List.getElem?_cons_succ, List.getElem?_cons_zero]; rfl)
            case qo1_9 => exact fun _ _ _ h => h
            case wo1_9 => rfl
            case yo1_9 => (intro w; go_simp <;> with_reducible rfl)
            try simp only [Act.put, List.setIfInBounds_toArray, List.set_cons_zero, List.set_cons_succ]
            refine wpAny_ready (rs := [3]) (by kernel_rfl) (by simp) ?_
            refine AllReady.cons (o := ?oio1_10) ?ho1_10 (fun K hK => ?ko1_10) ?mo1_10
            case ho1_10 => (simp only [List.getElem?_toArray, List.getElem?_cons_succ, List.getElem?_cons_zero]; rfl)
            case ko1_10 =>
              go_simp
              refine hK _ _ ?_
              clear hK K
              try simp only [Act.put, List.setIfInBounds_toArray, List.set_cons_zero, List.set_cons_succ]
              refine wpAny_take (i := 10) (oi := ?oio1_11) (v := ?vo1_11) ?ho1_11 (by kernel_rfl) (by kernel_rfl) (by kernel_rfl) ?qo1_11 (Or.inl ⟨?wo1_11, ?yo1_11⟩) ?ro1_11
              case ho1_11 => (simp only [List.getElem?_toArray, List.getElem?_cons_succ, List.getElem?_cons_zero]; rfl)
              case qo1_11 => exact fun _ _ _ h => h
              case wo1_11 => rfl
              case yo1_11 => (intro w; go_simp <;> with_reducible rfl)
              try simp only [Act.put, List.setIfInBounds_toArray, List.set_cons_zero, List.set_cons_succ]
              refine wpAny_take (i := 11) (oi := ?oio1_12) (v := ?vo1_12) ?ho1_12 (by kernel_rfl) (by kernel_rfl) (by kernel_rfl) ?qo1_12 (Or.inl ⟨?wo1_12, ?yo1_12⟩) ?ro1_12
              case ho1_12 => (simp only [List.getElem?_toArray, List.getElem?_cons_succ, List.getElem?_cons_zero]; rfl)
              case qo1_12 => exact fun _ _ _ h => h
              case wo1_12 => rfl
              case yo1_12 => (intro w; go_simp <;> with_reducible rfl)
              try simp only [Act.put, List.setIfInBounds_toArray, List.set_cons_zero, List.set_cons_succ]
              refine wpAny_ready (rs := [12]) (by kernel_rfl) (by simp) ?_
              refine AllReady.cons (o := ?oio1_13) ?ho1_13 (fun K hK => ?ko1_13) ?mo1_13
              case ho1_13 => (simp only [List.getElem?_toArray, List.getElem?_cons_succ, List.getElem?_cons_zero]; rfl)
              case ko1_13 =>
                go_simp
                refine hK _ _ ?_
                clear hK K
                try simp only [Act.put, List.setIfInBounds_toArray, List.set_cons_zero, List.set_cons_succ]
                refine wpAny_done (by kernel_rfl) ?_ _
                go_wp2_with fail
                go_roundw
                case rel => exact ⟨j + 1, by omega, by go_num, by rw [ho0]; exact HSTO.out, by rw [ho0]; exact Below.drew (HBj.out.setCell (p := ⟨w.heap.size, j, none⟩) (Nat.le_refl _) _)⟩
                case measure => simp [intOf]; omega
              exact AllReady.nil
            exact AllReady.nil
          · rw [hbj] at hbn
            have HSTO := Lib.hid ((World.ownsRow.stored hown j (.int .i64 ((orr (trTo C j i) (2 ^ i) : Nat) : Int))).1)
            rw [← nv_setY, mapR_ite _ _ hjU _ (by rw [HTj.out, hbj]; simp)] at HSTO
            clear hown hbel hs ho0
            generalize trTo C j i = a at *
            simp only [Bool.toNat_true, Int.natCast_one] at hbn
            go_wp2_with fail
            refine wp_region_any (by kernel_rfl) ?_
            try (change wpAny _ _ _ _ _ _ _ (World.drew _))
            refine wpAny_take (i := 0) (oi := ?oio2_1) (v := ?vo2_1) ?ho2_1 (by kernel_rfl) (by kernel_rfl) (by kernel_rfl) ?qo2_1 (Or.inl ⟨?wo2_1, ?yo2_1⟩) ?ro2_1
            case ho2_1 => (simp only [List.getElem?_toArray, List.getElem?_cons_succ, List.getElem?_cons_zero]; rfl)
            case qo2_1 => exact fun _ _ _ h => h
            case wo2_1 => rfl
            case yo2_1 => (intro w; go_simp <;> with_reducible rfl)
            try simp only [Act.put, List.setIfInBounds_toArray, List.set_cons_zero, List.set_cons_succ]
            refine wpAny_take (i := 1) (oi := ?oio2_2) (v := ?vo2_2) ?ho2_2 (by kernel_rfl) (by kernel_rfl) (by kernel_rfl) ?qo2_2 (Or.inl ⟨?wo2_2, ?yo2_2⟩) ?ro2_2
            case ho2_2 => (simp only [List.getElem?_toArray, List.getElem?_cons_succ, List.getElem?_cons_zero]; rfl)
            case qo2_2 => exact fun _ _ _ h => h
            case wo2_2 => rfl
            case yo2_2 => (intro w; go_simp <;> with_reducible rfl)
            try simp only [Act.put, List.setIfInBounds_toArray, List.set_cons_zero, List.set_cons_succ]
            refine wpAny_take (i := 2) (oi := ?oio2_3) (v := ?vo2_3) ?ho2_3 (by kernel_rfl) (by kernel_rfl) (by kernel_rfl) ?qo2_3 (Or.inl ⟨?wo2_3, ?yo2_3⟩) ?ro2_3
            case ho2_3 => (simp only [List.getElem?_toArray, List.getElem?_cons_succ, List.getElem?_cons_zero]; rfl)
            case qo2_3 => exact fun _ _ _ h => h
            case wo2_3 => rfl
            case yo2_3 => (intro w; go_simp <;> with_reducible rfl)
            try simp only [Act.put, List.setIfInBounds_toArray, List.set_cons_zero, List.set_cons_succ]
            refine wpAny_take (i := 4) (oi := ?oio2_4) (v := ?vo2_4) ?ho2_4 (by kernel_rfl) (by kernel_rfl) (by kernel_rfl) ?qo2_4 (Or.inl ⟨?wo2_4, ?yo2_4⟩) ?ro2_4
            case ho2_4 => (simp only [List.getElem?_toArray, List.getElem?_cons_succ, List.getElem?_cons_zero]; rfl)
            case qo2_4 => exact fun _ _ _ h => h
            case wo2_4 => rfl
            case yo2_4 => (intro w; go_simp <;> with_reducible rfl)
            try simp only [Act.put, List.setIfInBounds_toArray, List.set_cons_zero, List.set_cons_succ]
            refine wpAny_take (i := 5) (oi := ?oio2_5) (v := ?vo2_5) ?ho2_5 (by kernel_rfl) (by kernel_rfl) (by kernel_rfl) ?qo2_5 (Or.inl ⟨?wo2_5, ?yo2_5⟩) ?ro2_5
            case ho2_5 => (simp only [List.getElem?_toArray, List.getElem?_cons_succ, List.getElem?_cons_zero]; rfl)
            case qo2_5 => exact fun _ _ _ h => h
            case wo2_5 => rfl
            case yo2_5 => (intro w; go_simp <;> with_reducible rfl)
            try simp only [Act.put, List.setIfInBounds_toArray, List.set_cons_zero, List.set_cons_succ]
            refine wpAny_take (i := 6) (oi := ?oio2_6) (v := ?vo2_6) ?ho2_6 (by kernel_rfl) (by kernel_rfl) (by kernel_rfl) ?qo2_6 (Or.inl ⟨?wo2_6, ?yo2_6⟩) ?ro2_6
            case ho2_6 => (simp only [List.getElem?_toArray, List.getElem?_cons_succ, List.getElem?_cons_zero]; rfl)
            case qo2_6 => exact fun _ _ _ h => h
            case wo2_6 => rfl
            case yo2_6 => (intro w; go_simp <;> with_reducible rfl)
            try simp only [Act.put, List.setIfInBounds_toArray, List.set_cons_zero, List.set_cons_succ]
            refine wpAny_take (i := 7) (oi := ?oio2_7) (v := ?vo2_7) ?ho2_7 (by kernel_rfl) (by kernel_rfl) (by kernel_rfl) ?qo2_7 (Or.inl ⟨?wo2_7, ?yo2_7⟩) ?ro2_7
            case ho2_7 => (simp only [List.getElem?_toArray, List.getElem?_cons_succ, List.getElem?_cons_zero]; rfl)
            case qo2_7 => exact fun _ _ _ h => h
            case wo2_7 => rfl
            case yo2_7 => (intro w; go_simp <;> with_reducible rfl)
            try simp only [Act.put, List.setIfInBounds_toArray, List.set_cons_zero, List.set_cons_succ]
            refine wpAny_take (i := 8) (oi := ?oio2_8) (v := ?vo2_8) ?ho2_8 (by kernel_rfl) (by kernel_rfl) (by kernel_rfl) ?qo2_8 (Or.inl ⟨?wo2_8, ?yo2_8⟩) ?ro2_8
            case ho2_8 => (simp only [List.getElem?_toArray, List.getElem?_cons_succ, List.getElem?_cons_zero]; rfl)
            case qo2_8 => exact fun _ _ _ h => h
            case wo2_8 => rfl
            case yo2_8 => (intro w; go_simp <;> with_reducible rfl)
            try simp only [Act.put, List.setIfInBounds_toArray, List.set_cons_zero, List.set_cons_succ]
            refine wpAny_take (i := 9) (oi := ?oio2_9) (v := ?vo2_9) ?ho2_9 (by kernel_rfl) (by kernel_rfl) (by kernel_rfl) ?qo2_9 (Or.inl ⟨?wo2_9, ?yo2_9⟩) ?ro2_9
            case ho2_9 => (simp only [List.getElem?_toArray, List.getElem?_cons_succ, List.getElem?_cons_zero]; rfl)
            case qo2_9 => exact fun _ _ _ h => h
            case wo2_9 => rfl
            case yo2_9 => (intro w; go_simp <;> with_reducible rfl)
            try simp only [Act.put, List.setIfInBounds_toArray, List.set_cons_zero, List.set_cons_succ]
            refine wpAny_ready (rs := [3]) (by kernel_rfl) (by simp) ?_
            refine AllReady.cons (o := ?oio2_10) ?ho2_10 (fun K hK => ?ko2_10) ?mo2_10
            case ho2_10 => (simp only [List.getElem?_toArray, List.getElem?_cons_succ, List.getElem?_cons_zero]; rfl)
            case ko2_10 =>
              go_simp
              refine hK _ _ ?_
              clear hK K
              try simp only [Act.put, List.setIfInBounds_toArray, List.set_cons_zero, List.set_cons_succ]
              refine wpAny_take (i := 10) (oi := ?oio2_11) (v := ?vo2_11) ?ho2_11 (by kernel_rfl) (by kernel_rfl) (by kernel_rfl) ?qo2_11 (Or.inl ⟨?wo2_11, ?yo2_11⟩) ?ro2_11
              case ho2_11 => (simp only [List.getElem?_toArray, List.getElem?_cons_succ, List.getElem?_cons_zero]; rfl)
              case qo2_11 => exact fun _ _ _ h => h
              case wo2_11 => rfl
              case yo2_11 => (intro w; go_simp <;> with_reducible rfl)
              try simp only [Act.put, List.setIfInBounds_toArray, List.set_cons_zero, List.set_cons_succ]
              refine wpAny_take (i := 11) (oi := ?oio2_12) (v := ?vo2_12) ?ho2_12 (by kernel_rfl) (by kernel_rfl) (by kernel_rfl) ?qo2_12 (Or.inl ⟨?wo2_12, ?yo2_12⟩) ?ro2_12
              case ho2_12 => (simp only [List.getElem?_toArray, List.getElem?_cons_succ, List.getElem?_cons_zero]; rfl)
              case qo2_12 => exact fun _ _ _ h => h
              case wo2_12 => rfl
              case yo2_12 => (intro w; go_simp <;> with_reducible rfl)
              try simp only [Act.put, List.setIfInBounds_toArray, List.set_cons_zero, List.set_cons_succ]
              refine wpAny_ready (rs := [12]) (by kernel_rfl) (by simp) ?_
              refine AllReady.cons (o := ?oio2_13) ?ho2_13 (fun K hK => ?ko2_13) ?mo2_13
              case ho2_13 => (simp only [List.getElem?_toArray, List.getElem?_cons_succ, List.getElem?_cons_zero]; rfl)
              case ko2_13 =>
                go_simp
                refine hK _ _ ?_
                clear hK K
                try simp only [Act.put, List.setIfInBounds_toArray, List.set_cons_zero, List.set_cons_succ]
                refine wpAny_done (by kernel_rfl) ?_ _
                go_wp2_with fail
                go_roundw
                case rel => exact ⟨j + 1, by omega, by go_num, by rw [hot]; exact HSTO.out, by rw [hot]; exact Below.drew (HBj.out.setCell (p := ⟨w.heap.size, j, none⟩) (Nat.le_refl _) _)⟩
                case measure => simp [intOf]; omega
              exact AllReady.nil
            exact AllReady.nil
        · obtain rfl : j = U := by omega
          have HF : Hid (mapR j (fun u => if u < j then trTo C u (i + 1) else trTo C u i) = mapR j fun u => trTo C u (i + 1)) := Lib.hid (mapR_congr fun c hc => by rw [if_pos hc])
          clear hown hbel
          go_wp2_with fail
          go_roundw
          case rel => exact ⟨i + 1, by omega, by go_num, by rw [← HF.out]; exact HOj.out, HBj.out⟩
          case measure => simp [intOf]; omega
    · obtain rfl : i = n := by omega
      clear hown hbel
      go_wp2_with fail
      go_ret
      exact ⟨_, rfl, by rw [HFIN.out]; exact HO.out, HB.out⟩
end Go.Proofs.YtpchigdhnnkpcaaGreatDoor

namespace Go.Proofs.YtpchigdhnnkpcaaGreatDoor
open Go.RowKit

theorem kept_lt {I : List Nat} {n x : Nat} (h : ∀ r ∈ I, r < n) (k : Nat) (hk : k ≤ I.length) : keptT I x k < 2 ^ n := lt_of_tb fun m hm => by
  cases hb : tb (keptT I x k) m with
  | false => rfl
  | true =>
    obtain ⟨i, hi, _, e⟩ := (tb_keptT I x k m).1 hb
    have := h _ (getD_mem (S := I) (k := i) (by omega)); omega
theorem keptT_no {I : List Nat} {x k : Nat} (h : tb x k = false) : keptT I x (k + 1) = keptT I x k := by
  show (if tb x k = true then _ else _) = _; rw [h, if_neg (by simp)]
theorem keptT_yes {I : List Nat} {x k : Nat} (h : tb x k = true) : keptT I x (k + 1) = orr (keptT I x k) (2 ^ (I.getD k 0)) := by
  show (if tb x k = true then _ else _) = _; rw [h, if_pos rfl]
attribute [local go_sem] i64_bit_test in
set_option maxRecDepth 100000 in
set_option maxHeartbeats 2000000 in
theorem l12Kept_any (A : Option Addr) (n c x : Nat) (I : List Nat) (w : World) (hn : n = I.length) (hn62 : n ≤ 60) (hx : Sm x) (hI : ∀ r ∈ I, r < 60) (hR : Rd w A (nv I)) :
    Calls Tryz.prog 80 #[.int .i64 x, .slice A n c] w fun e w' => e = .returned (.int .i64 (kept I x : Nat)) ∧ w = w' := by
  have HR := Lib.hid hR
  have Hn := Lib.hid hn
  have HI := Lib.hid hI
  have HSM : Hid (∀ k, k ≤ I.length → Sm (keptT I x k)) := Lib.hid (fun k hk => sm_of_lt (a := 60) (by omega) (kept_lt hI k hk))
  clear hn hR hI
  go_enter Tryz.func80, Tryz.ntmps80
  go_wp2_with fail
  go_loopw [5, 6] (fun s3 s4 wr => ∃ k : Nat, k ≤ n ∧ s4 = .int .i64 k ∧ s3 = .int .i64 (keptT I x k : Nat) ∧ w = wr) (fun _ s => fun _ => n - (intOf s).toNat)
  case atStart => exact ⟨0, by omega, rfl, rfl, rfl⟩
  case round =>
    obtain ⟨k, hk, rfl, rfl, rfl⟩ := hrel
    by_cases hkn : k < n
    · have hkI : k < I.length := by rw [← Hn.out]; exact hkn
      obtain ⟨b, o, rfl, hc⟩ := HR.out.atN hkI
      have hp := HI.out _ (getD_mem hkI)
      have hs := HSM.out k (by omega)
      have hor := or_two (t := I.getD k 0) hs (by omega)
      have hmin : min k 64 = k := by omega
      cases hb : tb x k
      · have HN := Lib.hid (keptT_no (I := I) hb)
        clear hor hs hp
        go_wp2_with fail
        go_roundw
        case rel => exact ⟨k + 1, by omega, by go_num, by rw [HN.out], trivial⟩
        case measure => simp [intOf]; omega
      · have HN := Lib.hid (keptT_yes (I := I) hb)
        generalize I.getD k 0 = p at *
        generalize keptT I x k = z at *
        have hminp : min p 64 = p := by omega
        obtain ⟨pp1, pp2⟩ := pow62 (d := p) (by omega)
        go_wp2_with fail
        go_roundw
        case rel => exact ⟨k + 1, by omega, by go_num, by rw [HN.out], trivial⟩
        case measure => simp [intOf]; omega
    · obtain rfl : k = n := by omega
      have HE : Hid (keptT I x k = kept I x) := Lib.hid (by rw [Hn.out]; rfl)
      rw [HE.out]
      go_wp2_with fail
      go_ret
      exact ⟨rfl, rfl⟩
end Go.Proofs.YtpchigdhnnkpcaaGreatDoor

namespace Go.Proofs.YtpchigdhnnkpcaaGreatDoor
open Go.RowKit

/-- the table of trailing zeros lies where the program's start lays it -/
def Tab (w : World) : Prop := ∀ j, j < 64 → w.cell? ⟨0, j, none⟩ = some (.int .u8 ((Lib.deBruijn64tab.getD j 0 : Nat) : Int))

set_option maxHeartbeats 1000000 in
theorem tz64_core (x k idx : Nat) (w : World) (hx0 : ((x : Int) == 0) = false)
    (key : IntKind.u64.wrap (bits BinOp.and IntKind.u64 (x : Int) (IntKind.u64.wrap (-(x : Int))) * 285870213051353865) / 288230376151711744 = (idx : Int))
    (hi : idx < 64) (hk : k < 64) (hcell : w.cell? ⟨0, idx, none⟩ = some (.int .u8 k)) :
    Calls Tryz.prog 112 #[.int .u64 x] w fun e w' => e = .returned (.int .i64 k) ∧ w = w' := by
  go_enter Tryz.func112, Tryz.ntmps112
  go_wp2_with (simp only [key])
  go_ret
  exact ⟨rfl, rfl⟩

theorem tz64_key (x a : Nat) (hx : x < 18446744073709551616) (hx0 : x ≠ 0) (hlow : x &&& (18446744073709551616 - x) = a) :
    IntKind.u64.wrap (bits BinOp.and IntKind.u64 (x : Int) (IntKind.u64.wrap (-(x : Int))) * 285870213051353865) / 288230376151711744 = ((a * 285870213051353865 % 18446744073709551616 / 288230376151711744 : Nat) : Int) := by
  have e1 : IntKind.u64.wrap (-(x : Int)) = ((18446744073709551616 - x : Nat) : Int) := by rw [IntKind.wrap_u64]; omega
  rw [e1, bits_and_u64_nat x _ hx (by omega), hlow, IntKind.wrap_u64]
  omega

theorem tz64 (x : Nat) (hx0 : x ≠ 0) (hx : Sm x) (w : World) (hT : Tab w) :
    Calls Tryz.prog 112 #[.int .u64 x] w fun e w' => e = .returned (.int .i64 (pv x)) ∧ w = w' := by
  unfold Sm at hx
  obtain ⟨hlow, hk⟩ := Lib.lowest_bit 64 x hx0 (by omega)
  obtain ⟨hi, htab⟩ := Lib.deBruijn64_at _ hk
  have hcell := hT _ hi
  rw [htab] at hcell
  exact tz64_core x _ _ w (by simp; omega) (tz64_key x _ (by omega) hx0 hlow) hi hk hcell

theorem u64_of_sm {x : Nat} (h : Sm x) : IntKind.u64.wrap (x : Int) = x := by unfold Sm at h; rw [IntKind.wrap_u64]; omega

set_option maxHeartbeats 400000 in
theorem pivot_any (x : Nat) (hx0 : x ≠ 0) (hx : Sm x) (w : World) (hT : Tab w) :
    Calls Tryz.prog 90 #[.int .i64 x] w fun e w' => e = .returned (.int .i64 (pv x)) ∧ w = w' := by
  have hc := u64_of_sm hx
  go_enter Tryz.func90, Tryz.ntmps90
  go_wp2_with (go_at_call 112; refine (tz64 x hx0 hx _ hT).mono ?_; rintro e w' ⟨rfl, rfl⟩)
  go_ret
  exact ⟨rfl, rfl⟩
end Go.Proofs.YtpchigdhnnkpcaaGreatDoor

namespace Go.Proofs.YtpchigdhnnkpcaaGreatDoor
open Go.RowKit

attribute [local go_sem] i64_xor_nat i64_bit_test in
set_option maxHeartbeats 1000000 in
theorem left_any (bs : Nat) (A A' : Option Addr) (n c c' : Nat) (L : List (Nat × Nat)) (x y : Nat) (w : World) (hT : Tab w) (hn : n = L.length) (hsmall : n ≤ 1000000)
    (hx : Sm x) (hy : Sm y) (hg : Good L)
    (h0 : w.cell? ⟨bs, 0, none⟩ = some (.slice A n c)) (h1 : w.cell? ⟨bs, 1, none⟩ = some (.slice A' n c'))
    (hA : Rd w A (nv (r1 L))) (hA' : Rd w A' (nv (r2 L))) :
    Calls Tryz.prog 95 #[.pointer (some ⟨bs, 0, none⟩), .int .i64 x, .int .i64 y] w fun e w' =>
      e = .returned (.tuple #[.int .i64 (leftN L (x, y)).1, .int .i64 (leftN L (x, y)).2]) ∧ ∃ m, w' = w.drewN m := by
  have Hn := Lib.hid hn; clear hn
  go_enter Tryz.func95, Tryz.ntmps95
  go_wp2_with fail
  go_loopw [1, 2, 15] (fun v u i wr => ∃ k : Nat, k ≤ n ∧ i = .int .i64 k ∧ (∃ m, wr = w.drewN m) ∧ v = .int .i64 (leftN (L.take k) (x, y)).1 ∧ u = .int .i64 (leftN (L.take k) (x, y)).2) (fun _ _ i _ => n - (intOf i).toNat)
  case atStart => exact ⟨0, by omega, rfl, ⟨0, rfl⟩, rfl, rfl⟩
  case round =>
    obtain ⟨k, hk, rfl, ⟨m, rfl⟩, rfl, rfl⟩ := hrel
    by_cases hlt : k < n
    · have hkL : k < L.length := by rw [← Hn.out]; exact hlt
      obtain ⟨b, o, rfl, hc⟩ := hA.atN (k := k) (by rw [r1_length]; exact hkL)
      obtain ⟨b', o', rfl, hc'⟩ := hA'.atN (k := k) (by rw [r2_length]; exact hkL)
      rw [r1_getD] at hc; rw [r2_getD] at hc'
      obtain ⟨g0, g1, g2⟩ := hg.at_ hkL
      have Hs := Lib.hid (fold_take_succ leftStep (x, y) L k (0, 0) hkL)
      have hp : SmP (leftN (L.take k) (x, y)) := SmP.foldl (hg.take k) ⟨hx, hy⟩
      obtain ⟨p1, p2⟩ := hp
      have hpv := pv_le g0 g1
      generalize hP : leftN (L.take k) (x, y) = p at *
      generalize hR : L.getD k (0, 0) = r at *
      have HP := Lib.hid hP; clear hP
      have HR := Lib.hid hR; clear hR hA hA' hg
      have hpiv := fun (W : World) (hT : Tab W) => pivot_any r.1 g0 g1 W hT
      have HV := Lib.hid hpiv; clear hpiv
      cases hb : tb p.1 (pv r.1)
      · go_wp2_with (go_at_call 90; refine (HV.out _ (by exact hT)).mono ?_; rintro e w' ⟨rfl, rfl⟩)
        go_roundw
        case rel => exact ⟨k + 1, by omega, by go_num, ⟨m, rfl⟩, by unfold leftN at *; rw [Hs.out, HP.out]; simp [leftStep, hb], by unfold leftN at *; rw [Hs.out, HP.out]; simp [leftStep, hb]⟩
        case measure => simp [intOf]; omega
      · go_wp2_with (go_at_call 90; refine (HV.out _ (by exact hT)).mono ?_; rintro e w' ⟨rfl, rfl⟩)
        go_quiet (fail)
        go_wp2_with fail
        go_roundw
        case rel => exact ⟨k + 1, by omega, by go_num, ⟨_, rfl⟩, by unfold leftN at *; rw [Hs.out, HP.out]; simp [leftStep, hb], by unfold leftN at *; rw [Hs.out, HP.out]; simp [leftStep, hb]⟩
        case measure => simp [intOf]; omega
    · go_wp2_with fail
      go_ret2
      have e : L.take k = L := List.take_of_length_le (by rw [← Hn.out]; omega)
      rw [e]
      exact ⟨rfl, m, rfl⟩
end Go.Proofs.YtpchigdhnnkpcaaGreatDoor

namespace Go.Proofs.YtpchigdhnnkpcaaGreatDoor
open Go.RowKit


/-- A span at block bs: its rows and their companions lie in rows of the call's own. -/
structure SpanAt (w : World) (B bs : Nat) (v1 v2 : Value) (L : List (Nat × Nat)) : Prop where
  blk : w.heap[bs]? = some (.cells #[v1, v2] 62 (0, 0))
  lo : B ≤ bs
  own1 : w.ownsRow B 2 1 v1 L.length (nv (r1 L))
  own2 : w.ownsRow B 2 1 v2 L.length (nv (r2 L))
  ne : v1.ownBlock = none ∨ v1.ownBlock ≠ v2.ownBlock

theorem own_ne {w : World} {B bs n : Nat} {e t : TypeId} {v : Value} {xs : List Value} {cs : Array Value} (h : w.ownsRow B e 1 v n xs) (hb : w.heap[bs]? = some (.cells cs t (0, 0))) (hne : e ≠ t) : v.ownBlock ≠ some bs := by
  rcases h.2 with ⟨rfl, _⟩ | ⟨g, cap, cur, rfl, _, hg, _⟩
  · simp [Value.ownBlock]
  · intro he
    have : g = bs := by simpa [Value.ownBlock] using he
    subst this
    rw [hg] at hb
    injection hb with hb
    injection hb with _ ht
    exact hne ht

section
variable {w w' : World} {B bs : Nat} {v1 v2 : Value} {L : List (Nat × Nat)}
theorem SpanAt.ne1 (h : SpanAt w B bs v1 v2 L) : v1.ownBlock ≠ some bs := own_ne h.own1 h.blk (by decide)
theorem SpanAt.ne2 (h : SpanAt w B bs v1 v2 L) : v2.ownBlock ≠ some bs := own_ne h.own2 h.blk (by decide)
theorem SpanAt.lt (h : SpanAt w B bs v1 v2 L) : bs < w.heap.size := (Array.getElem?_eq_some_iff.1 h.blk).1
theorem SpanAt.c0 (h : SpanAt w B bs v1 v2 L) : w.cell? ⟨bs, 0, none⟩ = some v1 := cell_of_row w bs 0 #[v1, v2] _ (0, 0) h.blk
theorem SpanAt.c1 (h : SpanAt w B bs v1 v2 L) : w.cell? ⟨bs, 1, none⟩ = some v2 := cell_of_row w bs 1 #[v1, v2] _ (0, 0) h.blk
theorem SpanAt.fz (h : SpanAt w B bs v1 v2 L) (i : Nat) : w.frozen? ⟨bs, i, none⟩ = false := by simp [World.frozen?, h.blk]
theorem SpanAt.keeps {S : List (Option Nat)} (h : SpanAt w B bs v1 v2 L) (hk : Keeps w w' S) (hb : some bs ∉ S) (h1 : v1.ownBlock = none ∨ v1.ownBlock ∉ S) (h2 : v2.ownBlock = none ∨ v2.ownBlock ∉ S) : SpanAt w' B bs v1 v2 L :=
  ⟨(hk.block bs h.lt hb).trans h.blk, h.lo, owns_keeps h.own1 hk h1, owns_keeps h.own2 hk h2, h.ne⟩
end

theorem add_no (B bs : Nat) (v1 v2 : Value) (L : List (Nat × Nat)) (x y : Nat) (w : World) (hT : Tab w) (hs : SpanAt w B bs v1 v2 L) (hsmall : L.length ≤ 1000000)
    (hx : Sm x) (hy : Sm y) (hg : Good L) (hq : (leftN L (x, y)).1 = 0) :
    Calls Tryz.prog 73 #[.pointer (some ⟨bs, 0, none⟩), .int .i64 x, .int .i64 y] w fun e w' =>
      e = .returned (.tuple #[.int .i64 (leftN L (x, y)).2, .bool false]) ∧ ∃ m, w.drewN m = w' := by
  obtain ⟨A1, c1, rfl, _, _, _⟩ := owns_shape hs.own1
  obtain ⟨A2, c2, rfl, _, _, _⟩ := owns_shape hs.own2
  have hl := left_any bs A1 A2 L.length c1 c2 L x y w hT rfl hsmall hx hy hg hs.c0 hs.c1 (owns_Rd hs.own1) (owns_Rd hs.own2)
  generalize leftN L (x, y) = q at *
  have HL := Lib.hid hl
  have HQ := Lib.hid hq
  clear hl hq hg
  obtain ⟨q1, q2⟩ := q
  have : q1 = 0 := HQ.out
  subst this
  go_enter Tryz.func73, Tryz.ntmps73
  go_wp2_with (go_at_call 95; refine HL.out.mono ?_; rintro e w' ⟨rfl, m, rfl⟩)
  go_ret2
  exact ⟨rfl, m, rfl⟩

theorem nv_set (xs : List Nat) (k x : Nat) : nv (xs.set k x) = (nv xs).set k (.int .i64 (x : Int)) := by simp [nv, List.map_set]
theorem r1_set (L : List (Nat × Nat)) (k : Nat) (r : Nat × Nat) : r1 (L.set k r) = (r1 L).set k r.1 := by simp [r1, List.map_set]
theorem r2_set (L : List (Nat × Nat)) (k : Nat) (r : Nat × Nat) : r2 (L.set k r) = (r2 L).set k r.2 := by simp [r2, List.map_set]

/-- A row and its companion stored anew. -/
theorem SpanAt.store {w : World} {B bs n g1 g2 c1 c2 : Nat} {M : List (Nat × Nat)} (h : SpanAt w B bs (.slice (some ⟨g1, 0, none⟩) n c1) (.slice (some ⟨g2, 0, none⟩) n c2) M) (k : Nat) (r : Nat × Nat) :
    SpanAt ((w.setCell ⟨g1, k, none⟩ (.int .i64 (r.1 : Int))).setCell ⟨g2, k, none⟩ (.int .i64 (r.2 : Int))) B bs (.slice (some ⟨g1, 0, none⟩) n c1) (.slice (some ⟨g2, 0, none⟩) n c2) (M.set k r) := by
  have n1 : g1 ≠ bs := by have := h.ne1; simpa [Value.ownBlock] using this
  have n2 : g2 ≠ bs := by have := h.ne2; simpa [Value.ownBlock] using this
  have n3 : g1 ≠ g2 := by have := h.ne; simpa [Value.ownBlock] using this
  have e1 : n = M.length := by
    rcases h.own1.2 with ⟨hv, _⟩ | ⟨g, cap, cur, hv, _⟩
    · cases hv
    · injection hv
  have k1 := Keeps.setCell (Keeps.refl w [some g1]) (p := ⟨g1, k, none⟩) (by simp) (.int .i64 (r.1 : Int))
  have k2 := Keeps.setCell (Keeps.refl (w.setCell ⟨g1, k, none⟩ (.int .i64 (r.1 : Int))) [some g2]) (p := ⟨g2, k, none⟩) (by simp) (.int .i64 (r.2 : Int))
  have o1 := h.own1
  have o2 := h.own2
  subst e1
  refine ⟨?_, h.lo, ?_, ?_, h.ne⟩
  · rw [Below.heap_setCell _ _ _ _ (by simpa using fun e => n2 e.symm), Below.heap_setCell _ _ _ _ (by simpa using fun e => n1 e.symm)]; exact h.blk
  · have := (World.ownsRow.stored o1 k (.int .i64 (r.1 : Int))).1
    have := owns_keeps this k2 (.inr (by simp [Value.ownBlock]; exact n3))
    rw [List.length_set, r1_set, nv_set]; exact this
  · have := owns_keeps o2 k1 (.inr (by simp [Value.ownBlock]; exact fun e => n3 e.symm))
    have := (World.ownsRow.stored this k (.int .i64 (r.2 : Int))).1
    rw [List.length_set, r2_set, nv_set]; exact this

/-- the rows after k rounds -/
def midL (q : Nat × Nat) (L : List (Nat × Nat)) (k : Nat) : List (Nat × Nat) := (L.take k).map (addStep q) ++ L.drop k
theorem midL_length (q : Nat × Nat) (L : List (Nat × Nat)) (k : Nat) : (midL q L k).length = L.length := by simp [midL]; omega
theorem midL_getD (q : Nat × Nat) (L : List (Nat × Nat)) (k : Nat) (hk : k < L.length) : (midL q L k).getD k (0, 0) = L.getD k (0, 0) := by
  simp [midL, List.getD, List.getElem?_append, Nat.min_eq_left (Nat.le_of_lt hk)]
theorem midL_succ (q : Nat × Nat) (L : List (Nat × Nat)) (k : Nat) (hk : k < L.length) : midL q L (k + 1) = (midL q L k).set k (addStep q (L.getD k (0, 0))) := by
  apply List.ext_getElem?
  intro i
  simp only [midL, List.getElem?_append, List.getElem?_set, List.length_append, List.length_map, List.length_take, List.getElem?_map, List.getElem?_take, List.getElem?_drop, List.length_drop, List.getD]
  by_cases h1 : i < k
  · simp [h1, show i < k + 1 by omega, show i < min (k + 1) L.length by omega, show i < min k L.length by omega, show k ≠ i by omega]
  · by_cases h2 : i = k
    · subst h2; simp [hk, show i < min (i + 1) L.length by omega, show i < min i L.length + (L.length - i) by omega]
    · simp [show ¬ i < min (k + 1) L.length by omega, show ¬ i < k + 1 by omega, h1, show k ≠ i by omega, show min (k + 1) L.length = k + 1 by omega, show min k L.length = k by omega, show k + 1 + (i - (k + 1)) = i by omega, show k + (i - k) = i by omega]
theorem midL_id (q : Nat × Nat) (L : List (Nat × Nat)) (k : Nat) (hk : k < L.length) (h : addStep q (L.getD k (0, 0)) = L.getD k (0, 0)) : midL q L (k + 1) = midL q L k := by
  rw [midL_succ q L k hk, h]
  apply List.ext_getElem?
  intro i
  rw [List.getElem?_set]
  split
  · rename_i e; subst e
    have := midL_getD q L k hk
    have hl : k < (midL q L k).length := by rw [midL_length]; exact hk
    rw [if_pos hl, ← this]
    simp only [List.getD, List.getElem?_eq_getElem hl, Option.getD_some]
  · rfl

theorem sblk {w : World} {bs : Nat} {v1 v2 : Value} (h : w.heap[bs]? = some (.cells #[v1, v2] 62 (0, 0))) :
    w.heap[bs]? = some (.cells #[v1, v2] 62 (0, 0)) ∧ w.cell? ⟨bs, 0, none⟩ = some v1 ∧ w.cell? ⟨bs, 1, none⟩ = some v2 ∧ w.frozen? ⟨bs, 0, none⟩ = false ∧ w.frozen? ⟨bs, 1, none⟩ = false :=
  ⟨h, cell_of_row w bs 0 #[v1, v2] _ (0, 0) h, cell_of_row w bs 1 #[v1, v2] _ (0, 0) h, by simp [World.frozen?, h], by simp [World.frozen?, h]⟩



theorem own_app {w : World} {B n g c : Nat} {M : List Nat} {x : Nat} (h : w.ownsRow B 2 1 (.slice (some ⟨g, 0, none⟩) (n + 1) c) (n + 1) (nv M ++ [.int .i64 (x : Int)])) (hn : n = M.length) :
    w.ownsRow B 2 1 (.slice (some ⟨g, 0, none⟩) (n + 1) c) (M ++ [x]).length (nv (M ++ [x])) := by
  subst hn
  have e : nv (M ++ [x]) = nv M ++ [.int .i64 (x : Int)] := by simp [nv]
  rw [e, List.length_append]; exact h

/-- What the two appends and the two stores leave. -/
theorem add_close {wr w1 w2 : World} {B bs n g1 g2 c1 c2 : Nat} {v1 v2 : Value} {M : List (Nat × Nat)} {q : Nat × Nat} (h : SpanAt wr B bs v1 v2 M) (hn : n = M.length)
    (k1 : Keeps wr w1 [v1.ownBlock]) (o1 : w1.ownsRow B 2 1 (.slice (some ⟨g1, 0, none⟩) (n + 1) c1) (n + 1) (nv (r1 M) ++ [.int .i64 (q.1 : Int)])) (a1 : v1.ownBlock = some g1 ∨ wr.heap.size ≤ g1) (l1 : g1 < w1.heap.size)
    (k2 : Keeps w1 w2 [v2.ownBlock]) (o2 : w2.ownsRow B 2 1 (.slice (some ⟨g2, 0, none⟩) (n + 1) c2) (n + 1) (nv (r2 M) ++ [.int .i64 (q.2 : Int)])) (a2 : v2.ownBlock = some g2 ∨ w1.heap.size ≤ g2) :
    SpanAt ((w2.setCell ⟨bs, 0, none⟩ (.slice (some ⟨g1, 0, none⟩) (n + 1) c1)).setCell ⟨bs, 1, none⟩ (.slice (some ⟨g2, 0, none⟩) (n + 1) c2)) B bs (.slice (some ⟨g1, 0, none⟩) (n + 1) c1) (.slice (some ⟨g2, 0, none⟩) (n + 1) c2) (M ++ [q]) ∧
    Keeps wr ((w2.setCell ⟨bs, 0, none⟩ (.slice (some ⟨g1, 0, none⟩) (n + 1) c1)).setCell ⟨bs, 1, none⟩ (.slice (some ⟨g2, 0, none⟩) (n + 1) c2)) [some bs, v1.ownBlock, v2.ownBlock] := by
  have n1 := h.ne1
  have n2 := h.ne2
  have lb := h.lt
  have t1 := fun k hk => (h.own1.lt k hk).2
  have t2 := fun k hk => (h.own2.lt k hk).2
  have s1 := k1.size
  have hne : g1 ≠ g2 := by
    intro e
    subst e
    rcases a1 with a1 | a1 <;> rcases a2 with a2 | a2
    · rcases h.ne with e | e
      · rw [e] at a1; cases a1
      · exact e (a1.trans a2.symm)
    · have := t1 _ a1; omega
    · have := t2 _ a2; omega
    · omega
  have b1 : g1 ≠ bs := by
    intro e; subst e
    rcases a1 with a1 | a1
    · exact n1 a1
    · omega
  have b2 : g2 ≠ bs := by
    intro e; subst e
    rcases a2 with a2 | a2
    · exact n2 a2
    · omega
  have blk2 : w2.heap[bs]? = some (.cells #[v1, v2] 62 (0, 0)) := by
    rw [k2.block bs (by omega) (by simp; exact fun e => n2 e.symm), k1.block bs lb (by simp; exact fun e => n1 e.symm)]; exact h.blk
  have o1' : w2.ownsRow B 2 1 (.slice (some ⟨g1, 0, none⟩) (n + 1) c1) (n + 1) (nv (r1 M) ++ [.int .i64 (q.1 : Int)]) := by
    refine owns_keeps o1 k2 (.inr ?_)
    show some g1 ∉ [v2.ownBlock]
    rw [List.mem_singleton]
    intro e
    rcases a2 with a2 | a2
    · rw [a2] at e; injection e with e; exact hne e
    · have := t2 _ e.symm
      rcases a1 with a1 | a1
      · rcases h.ne with e' | e'
        · rw [e'] at a1; cases a1
        · exact e' (a1.trans e)
      · omega
  have ks : Keeps w2 ((w2.setCell ⟨bs, 0, none⟩ (.slice (some ⟨g1, 0, none⟩) (n + 1) c1)).setCell ⟨bs, 1, none⟩ (.slice (some ⟨g2, 0, none⟩) (n + 1) c2)) [some bs] :=
    ((Keeps.refl w2 [some bs]).setCell (p := ⟨bs, 0, none⟩) (by simp) _).setCell (p := ⟨bs, 1, none⟩) (by simp) _
  have hb := heap_setCell_same (w2.setCell ⟨bs, 0, none⟩ (.slice (some ⟨g1, 0, none⟩) (n + 1) c1)) bs 1 _ 62 (.slice (some ⟨g2, 0, none⟩) (n + 1) c2) (heap_setCell_same w2 bs 0 _ 62 (.slice (some ⟨g1, 0, none⟩) (n + 1) c1) blk2)
  refine ⟨⟨?_, h.lo, ?_, ?_, .inr ?_⟩, ?_⟩
  · simpa using hb
  · have := own_app (owns_keeps o1' ks (.inr (by simp [Value.ownBlock]; exact b1))) (by rw [hn, r1_length])
    have e : (r1 M ++ [q.1]) = r1 (M ++ [q]) := by simp [r1]
    rw [e, r1_length] at this; exact this
  · have := own_app (owns_keeps o2 ks (.inr (by simp [Value.ownBlock]; exact b2))) (by rw [hn, r2_length])
    have e : (r2 M ++ [q.2]) = r2 (M ++ [q]) := by simp [r2]
    rw [e, r2_length] at this; exact this
  · simpa [Value.ownBlock] using hne
  · refine (k1.trans k2 (T := [v1.ownBlock, v2.ownBlock]) (by simp)).trans ks ?_
    intro j _ hj; simp only [List.mem_cons, List.not_mem_nil, or_false] at hj ⊢; rcases hj with hj | hj; exact .inr hj; exact .inl hj

/-- The whole of what 'add' leaves where the row is new. -/
def AddPost (w : World) (B bs : Nat) (v1 v2 : Value) (N : List (Nat × Nat)) (w' : World) : Prop :=
  Keeps w w' [some bs, v1.ownBlock, v2.ownBlock] ∧
      ∃ u1 u2, SpanAt w' B bs u1 u2 N ∧ (u1.ownBlock = v1.ownBlock ∨ ∃ k, u1.ownBlock = some k ∧ w.heap.size ≤ k) ∧ (u2.ownBlock = v2.ownBlock ∨ ∃ k, u2.ownBlock = some k ∧ w.heap.size ≤ k)

theorem add_post {w wr w1 w2 : World} {B bs n g1 g2 c1 c2 : Nat} {v1 v2 : Value} {M : List (Nat × Nat)} {q : Nat × Nat} (h : SpanAt wr B bs v1 v2 M) (hn : n = M.length) (k0 : Keeps w wr [v1.ownBlock, v2.ownBlock])
    (k1 : Keeps wr w1 [v1.ownBlock]) (o1 : w1.ownsRow B 2 1 (.slice (some ⟨g1, 0, none⟩) (n + 1) c1) (n + 1) (nv (r1 M) ++ [.int .i64 (q.1 : Int)])) (a1 : v1.ownBlock = some g1 ∨ wr.heap.size ≤ g1) (l1 : g1 < w1.heap.size)
    (k2 : Keeps w1 w2 [v2.ownBlock]) (o2 : w2.ownsRow B 2 1 (.slice (some ⟨g2, 0, none⟩) (n + 1) c2) (n + 1) (nv (r2 M) ++ [.int .i64 (q.2 : Int)])) (a2 : v2.ownBlock = some g2 ∨ w1.heap.size ≤ g2) :
    AddPost w B bs v1 v2 (M ++ [q]) ((w2.setCell ⟨bs, 0, none⟩ (.slice (some ⟨g1, 0, none⟩) (n + 1) c1)).setCell ⟨bs, 1, none⟩ (.slice (some ⟨g2, 0, none⟩) (n + 1) c2)) := by
  obtain ⟨hs, hk⟩ := add_close h hn k1 o1 a1 l1 k2 o2 a2
  have s0 := k0.size
  have s1 := k1.size
  refine ⟨k0.trans hk (fun j _ hj => by simp only [List.mem_cons, List.not_mem_nil, or_false] at hj ⊢; rcases hj with hj | hj; exact .inr hj; exact hj), _, _, hs, ?_, ?_⟩
  · rcases a1 with a1 | a1
    · exact .inl a1.symm
    · exact .inr ⟨g1, rfl, by omega⟩
  · rcases a2 with a2 | a2
    · exact .inl a2.symm
    · exact .inr ⟨g2, rfl, by omega⟩

theorem keeps_g {w w1 : World} {r : Option Nat} (h : w.grownBy w1 r) : Keeps w w1 [r] := Keeps.of_grown h
theorem keeps_a1 {w w1 : World} {o : Obj} {r : Option Nat} (h : (w.alloc o).grownBy w1 r) : Keeps w w1 [r] :=
  ((Keeps.refl w []).alloc o).trans (Keeps.of_grown h) (by simp)
theorem keeps_a1d {w w1 : World} {o : Obj} {r : Option Nat} (h : (w.alloc o).drew.grownBy w1 r) : Keeps w w1 [r] :=
  (((Keeps.refl w []).alloc o).drew).trans (Keeps.of_grown h) (by simp)
theorem keeps_a2d {w w1 : World} {o o' : Obj} {r : Option Nat} (h : ((w.alloc o).alloc o').drew.grownBy w1 r) : Keeps w w1 [r] :=
  ((((Keeps.refl w []).alloc o).alloc o').drew).trans (Keeps.of_grown h) (by simp)
theorem at_g {w : World} {x : Option Nat} {g : Nat} (h : x = some g ∨ g = w.heap.size) : x = some g ∨ w.heap.size ≤ g := h.imp id (by omega)
theorem at_a1 {w : World} {o : Obj} {x : Option Nat} {g : Nat} (h : x = some g ∨ g = (w.alloc o).heap.size) : x = some g ∨ w.heap.size ≤ g := h.imp id (by simp; omega)
theorem at_a1d {w : World} {o : Obj} {x : Option Nat} {g : Nat} (h : x = some g ∨ g = (w.alloc o).drew.heap.size) : x = some g ∨ w.heap.size ≤ g := h.imp id (by simp; omega)
theorem at_a2d {w : World} {o o' : Obj} {x : Option Nat} {g : Nat} (h : x = some g ∨ g = ((w.alloc o).alloc o').drew.heap.size) : x = some g ∨ w.heap.size ≤ g := h.imp id (by simp; omega)
end Go.Proofs.YtpchigdhnnkpcaaGreatDoor
