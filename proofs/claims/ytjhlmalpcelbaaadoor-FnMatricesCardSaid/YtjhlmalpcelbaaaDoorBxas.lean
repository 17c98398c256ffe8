/- FnMatrices: the walk of the law (printed by mkmats.py) -/
import Derived.Test.YtjhlmalpcelbaaaDoorBxao
import Derived.Test.YtjhlmalpcelbaaaDoorBxap
import Derived.Test.YtjhlmalpcelbaaaDoorBxaq
import Derived.Test.YtjhlmalpcelbaaaDoorBxar
import Derived.Test.YtjhlmalpcelbaaaDoorBxaj
import Derived.Test.YtjhlmalpcelbaaaDoorBxai
set_option linter.all false
namespace Go.Proofs.YtjhlmalpcelbaaaDoor
open Go.RowKit

theorem mask_bound {n : Nat} (h : n ≤ 60) : 1 ≤ IntKind.i64.wrap (2 ^ min (IntKind.u64.wrap (min (n : Int) 40)).toNat 64) ∧ IntKind.i64.wrap (2 ^ min (IntKind.u64.wrap (min (n : Int) 40)).toNat 64) ≤ 4611686018427387904 ∧
    ∀ x : Int, 0 ≤ x → x < IntKind.i64.wrap (2 ^ min (IntKind.u64.wrap (min (n : Int) 40)).toNat 64) → x.toNat < 2 ^ n := by
  have hmn : min (n : Int) 40 = ((min n 40 : Nat) : Int) := by omega
  have hw2 : IntKind.u64.wrap ((min n 40 : Nat) : Int) = ((min n 40 : Nat) : Int) := by
    rw [IntKind.wrap_u64]
    generalize hz : min n 40 = z
    have hz2 : z ≤ 40 := by omega
    clear hz
    omega
  rw [hmn, hw2, Int.toNat_natCast]
  obtain ⟨q, hq0⟩ : ∃ q, q = min (min n 40) 64 := ⟨_, rfl⟩
  rw [← hq0]
  have hq : q ≤ 40 := by omega
  have hqn : q ≤ n := by omega
  clear hq0 hmn hw2
  have h1 : (2 : Nat) ^ q ≤ 2 ^ 40 := Nat.pow_le_pow_right (by omega) hq
  have h2 : (2 : Nat) ^ 40 = 1099511627776 := by decide
  have h3 : (2 : Nat) ^ q ≤ 2 ^ n := Nat.pow_le_pow_right (by omega) hqn
  have h5 : 1 ≤ (2 : Nat) ^ q := Nat.one_le_two_pow
  have e2 : ((2 ^ q : Nat) : Int) = (2 : Int) ^ q := by simp
  rw [← e2]
  have e3 : IntKind.i64.wrap ((2 ^ q : Nat) : Int) = ((2 ^ q : Nat) : Int) := by
    rw [IntKind.wrap_i64]
    omega
  rw [e3]
  refine ⟨by omega, by omega, fun x hx hx2 => ?_⟩
  omega

set_option maxRecDepth 100000 in
set_option maxHeartbeats 16000000 in
theorem lawMatrices_any (A : Option Addr) (n c : Nat) (bs : List Nat) (w : World) (hT : Tab w) (hw : 0 < w.heap.size) (hn : n = bs.length) (hby : ∀ b ∈ bs, b < 256) (hR : Rd w A (bv bs)) (hlt : ∀ a, A = some a → a.block < w.heap.size) :
    Calls Tryd.prog 4 #[.slice A n c] w fun e w' => e = .returned (.bool true) ∧ Below w.heap.size w w' := by
  have HG := fun W => big_any A n c W
  by_cases hbig : 4096 < n
  · rw [show decide (4096 < n) = true by simpa using hbig] at HG
    clear hT hn hby hR hlt hbig
    go_enter Tryd.func4, Tryd.ntmps4
    go_wp2_with fail
    refine (HG _).mono ?_
    rintro e w1 ⟨rfl, rfl⟩
    go_wp2_with fail
    go_ret
    exact ⟨rfl, Below.refl _ _⟩
  · rw [show decide (4096 < n) = false by simpa using hbig] at HG
    have hsm : n ≤ 4096 := by omega
    have HT := Lib.hid hT
    have Hn := Lib.hid hn
    have HBY := Lib.hid hby
    have HRc := Lib.hid hR
    have HLT := Lib.hid hlt
    have I0 := Lib.hid (Inv.start w)
    clear hT hn hby hR hlt hbig
    go_enter Tryd.func4, Tryd.ntmps4
    go_wp2_with fail
    refine (HG _).mono ?_
    rintro e w0 ⟨rfl, rfl⟩
    clear HG
    as_aux_lemma =>
      have HC := Lib.hid (drawIs_any A n c bs _ Hn.out hsm HBY.out (HRc.out.below I0.out.bel) (fun a ha => Nat.lt_of_lt_of_le (HLT.out a ha) I0.out.size))
      go_wp2_with fail
      refine HC.out.mono ?_
      rintro e w2 ⟨c1, A1, k1, xs, rfl, ho, hl1, hb⟩
      have I1 := Lib.hid ((I0.out.pushOwn hb ho rfl).allocBox #[.int .i64 c1, .slice A1 xs.length k1] 26 rfl)
      skip
      clear ho hb HC
      obtain ⟨lm, HLM⟩ : ∃ lm, Hid (lomOf c1 xs = lm) := ⟨_, Lib.hid rfl⟩
      obtain ⟨tu, HTU⟩ : ∃ tu, Hid (turnOf c1 xs = tu) := ⟨_, Lib.hid rfl⟩
      obtain ⟨re, HRE⟩ : ∃ re, Hid (redOf c1 xs = re) := ⟨_, Lib.hid rfl⟩
      have hlr : re.2.1.length ≤ 1000 := by rw [← HRE.out]; exact redOf_len _ _
      have HLL : Hid (lm.1.length ≤ 200 ∧ ∀ i, i < lm.1.length → (lm.1.getD i []).length ≤ 60) := Lib.hid (by rw [← HLM.out]; exact lom_lens _ _)
      have hlt : tu.2.1.length ≤ 60 := by rw [← HTU.out]; exact turn_len60 _ _
      obtain ⟨a0, a1, -, -, -⟩ := blk2cells (I1.out.box 0 rfl)
      as_aux_lemma =>
        have HC := Lib.hid (implLom_any c1 A1 xs.length k1 xs _ rfl (by omega) (owns_Rd (I1.out.own 1 rfl)))
        rw [HLM.out] at HC
        try dsimp only at HC
        go_wp2_with fail
        refine HC.out.mono ?_
        rintro e w3 ⟨A4, k4, R1, rfl, hr, hd, hb⟩
        have HL1 : Hid (R1.length = lm.1.length) := Lib.hid (by rw [← hd, dat_length])
        have HR1 := Lib.hid (hr.rd rfl)
        have HD1 := Lib.hid hd
        have J0 := Lib.hid (Below.refl w3.heap.size w3)
        have I2 := Lib.hid (I1.out.step hb)
        clear I1
        clear hb HC hr hd
        clear a0 a1
        obtain ⟨a0, a1, -, -, -⟩ := blk2cells (I2.out.box 0 rfl)
        as_aux_lemma =>
          have HC := Lib.hid (specLom_any c1 A1 xs.length k1 xs _ rfl (by omega) (owns_Rd (I2.out.own 1 rfl)))
          rw [HLM.out] at HC
          try dsimp only at HC
          go_wp2_with fail
          refine HC.out.mono ?_
          rintro e w4 ⟨A6, k6, R2, rfl, hr, hd, hb⟩
          have HL2 : Hid (R2.length = lm.1.length) := Lib.hid (by rw [← hd, dat_length])
          have HR2 := Lib.hid (hr.rd rfl)
          have HD2 := Lib.hid hd
          have I3 := Lib.hid (I2.out.step hb)
          clear I2
          have J1 := Lib.hid (J0.out.trans (hb.mono J0.out.size))
          clear J0
          clear hb HC hr hd
          clear a0 a1
          obtain ⟨a0, a1, -, -, -⟩ := blk2cells (I3.out.box 0 rfl)
          have HC := Lib.hid (same9_same A4 A6 R1.length R2.length k4 k6 R1 R2 w4.drew rfl rfl (by have := HLL.out.1; have := HL1.out; omega) (by rw [HD1.out, HD2.out]) (fun i hi => by rw [← dat_getD, HD1.out]; exact Nat.le_trans (HLL.out.2 i (by have := HL1.out; omega)) (by omega)) (HR1.out.below J1.out.drew) (HR2.out.below ((Below.refl w4.heap.size w4).drew)))
          have HIS1 := Lib.hid (fun W (hb : Below w4.heap.size w4 W) => isMatrix_any c1 A1 xs.length k1 xs W rfl (by omega) ((owns_Rd (I3.out.own 1 rfl)).below hb))
          have HIS2 := Lib.hid (fun W (hb : Below w4.heap.size w4 W) => specIs_any c1 A1 xs.length k1 xs W rfl (by omega) ((owns_Rd (I3.out.own 1 rfl)).below hb))
          have KS : Hid (∀ w', Below w4.heap.size w4 w' → w'.cell? ⟨w2.heap.size, 0, none⟩ = some (.int .i64 c1) ∧ w'.cell? ⟨w2.heap.size, 1, none⟩ = some (.slice A1 xs.length k1)) := Lib.hid fun w' hb => ⟨(hb.cell (World.block_lt_of_cell? _ _ a0)).trans a0, (hb.cell (World.block_lt_of_cell? _ _ a1)).trans a1⟩
          generalize isMat c1 xs = im at *
          go_wp2_with fail
          refine wp_region_held_drew (S := (fun w' => w'.cell? ⟨w2.heap.size, 0, none⟩ = some (.int .i64 c1) ∧ w'.cell? ⟨w2.heap.size, 1, none⟩ = some (.slice A1 xs.length k1))) (by kernel_rfl) (by (first | exact KS.out _ HK3.out | exact KS.out _ HK2.out | exact KS.out _ HK1.out | exact KS.out _ (Below.drew (Below.refl _ _)))) (fun hHeld => ?_)
          refine wpAnyH_take (i := 0) (oi := ?or1_0) (v := ?vr1_0) ?hr1_0 (by kernel_rfl) (by kernel_rfl) (by kernel_rfl) ?qr1_0 (Or.inl ⟨?wr1_0, ?yr1_0⟩) (by assumption) ?rr1_0
          case hr1_0 => (simp only [List.getElem?_toArray, List.getElem?_cons_succ, List.getElem?_cons_zero]; rfl)
          case qr1_0 => exact fun _ _ _ h => h
          case wr1_0 => rfl
          case yr1_0 => (intro w hSw; (try dsimp only at hSw); go_simp <;> with_reducible rfl)
          try simp only [Act.put, List.setIfInBounds_toArray, List.set_cons_zero, List.set_cons_succ]
          refine wpAnyH_take (i := 1) (oi := ?or1_1) (v := ?vr1_1) ?hr1_1 (by kernel_rfl) (by kernel_rfl) (by kernel_rfl) ?qr1_1 (Or.inl ⟨?wr1_1, ?yr1_1⟩) (by assumption) ?rr1_1
          case hr1_1 => (simp only [List.getElem?_toArray, List.getElem?_cons_succ, List.getElem?_cons_zero]; rfl)
          case qr1_1 => exact fun _ _ _ h => h
          case wr1_1 => rfl
          case yr1_1 => (intro w hSw; (try dsimp only at hSw); go_simp <;> with_reducible rfl)
          try simp only [Act.put, List.setIfInBounds_toArray, List.set_cons_zero, List.set_cons_succ]
          refine wpAnyH_take (i := 2) (oi := ?or1_2) (v := ?vr1_2) ?hr1_2 (by kernel_rfl) (by kernel_rfl) (by kernel_rfl) ?qr1_2 (Or.inl ⟨?wr1_2, ?yr1_2⟩) (by assumption) ?rr1_2
          case hr1_2 => (simp only [List.getElem?_toArray, List.getElem?_cons_succ, List.getElem?_cons_zero]; rfl)
          case qr1_2 => exact fun _ _ _ h => h
          case wr1_2 => rfl
          case yr1_2 => (intro w hSw; (try dsimp only at hSw); go_simp <;> with_reducible rfl)
          try simp only [Act.put, List.setIfInBounds_toArray, List.set_cons_zero, List.set_cons_succ]
          refine wpAnyH_take (i := 3) (oi := ?or1_3) (v := ?vr1_3) ?hr1_3 (by kernel_rfl) (by kernel_rfl) (by kernel_rfl) ?qr1_3 (Or.inl ⟨?wr1_3, ?yr1_3⟩) (by assumption) ?rr1_3
          case hr1_3 => (simp only [List.getElem?_toArray, List.getElem?_cons_succ, List.getElem?_cons_zero]; rfl)
          case qr1_3 => exact fun _ _ _ h => h
          case wr1_3 => rfl
          case yr1_3 => (intro w hSw; (try dsimp only at hSw); go_simp <;> with_reducible rfl)
          try simp only [Act.put, List.setIfInBounds_toArray, List.set_cons_zero, List.set_cons_succ]
          refine wpAnyH_take (i := 4) (oi := ?or1_4) (v := ?vr1_4) ?hr1_4 (by kernel_rfl) (by kernel_rfl) (by kernel_rfl) ?qr1_4 (Or.inl ⟨?wr1_4, ?yr1_4⟩) (by assumption) ?rr1_4
          case hr1_4 => (simp only [List.getElem?_toArray, List.getElem?_cons_succ, List.getElem?_cons_zero]; rfl)
          case qr1_4 => exact fun _ _ _ h => h
          case wr1_4 => rfl
          case yr1_4 => (intro w hSw; (try dsimp only at hSw); go_simp <;> with_reducible rfl)
          try simp only [Act.put, List.setIfInBounds_toArray, List.set_cons_zero, List.set_cons_succ]
          refine wpAnyH_take (i := 5) (oi := ?or1_5) (v := ?vr1_5) ?hr1_5 (by kernel_rfl) (by kernel_rfl) (by kernel_rfl) ?qr1_5 (Or.inl ⟨?wr1_5, ?yr1_5⟩) (by assumption) ?rr1_5
          case hr1_5 => (simp only [List.getElem?_toArray, List.getElem?_cons_succ, List.getElem?_cons_zero]; rfl)
          case qr1_5 => exact fun _ _ _ h => h
          case wr1_5 => rfl
          case yr1_5 => (intro w hSw; (try dsimp only at hSw); go_simp <;> with_reducible rfl)
          try simp only [Act.put, List.setIfInBounds_toArray, List.set_cons_zero, List.set_cons_succ]
          refine wpAnyH_ready (rs := [6]) (by kernel_rfl) (by simp) ?_
          refine AllReadyH.cons (o := ?or1_6) ?hr1_6 (fun K hK => ?kr1_6) AllReadyH.nil
          case hr1_6 => (simp only [List.getElem?_toArray, List.getElem?_cons_succ, List.getElem?_cons_zero]; rfl)
          go_simp
          (go_at_call 21; refine HC.out.mono ?_; rintro e x1 ⟨rfl, mm, rfl⟩; have HK1 := Lib.hid (below_drewN (Below.drew (Below.refl w4.heap.size w4)) mm); have HKB := Lib.hid (below_drewN (Below.refl w4.heap.size w4) (1 + mm)))
          refine hK.out _ _ (by (first | exact KS.out _ HK3.out | exact KS.out _ HK2.out | exact KS.out _ HK1.out | exact KS.out _ (Below.drew (Below.refl _ _)))) (fun hHeld => ?_)
          clear hK K
          try simp only [Act.put, List.setIfInBounds_toArray, List.set_cons_zero, List.set_cons_succ]
          refine wpAnyH_take (i := 7) (oi := ?or1_7) (v := ?vr1_7) ?hr1_7 (by kernel_rfl) (by kernel_rfl) (by kernel_rfl) ?qr1_7 (Or.inl ⟨?wr1_7, ?yr1_7⟩) (by assumption) ?rr1_7
          case hr1_7 => (simp only [List.getElem?_toArray, List.getElem?_cons_succ, List.getElem?_cons_zero]; rfl)
          case qr1_7 => exact fun _ _ _ h => h
          case wr1_7 => rfl
          case yr1_7 => (intro w hSw; (try dsimp only at hSw); go_simp <;> with_reducible rfl)
          try simp only [Act.put, List.setIfInBounds_toArray, List.set_cons_zero, List.set_cons_succ]
          refine wpAnyH_take (i := 8) (oi := ?or1_8) (v := ?vr1_8) ?hr1_8 (by kernel_rfl) (by kernel_rfl) (by kernel_rfl) ?qr1_8 (Or.inl ⟨?wr1_8, ?yr1_8⟩) (by assumption) ?rr1_8
          case hr1_8 => (simp only [List.getElem?_toArray, List.getElem?_cons_succ, List.getElem?_cons_zero]; rfl)
          case qr1_8 => exact fun _ _ _ h => h
          case wr1_8 => rfl
          case yr1_8 => (intro w hSw; (try dsimp only at hSw); go_simp <;> with_reducible rfl)
          try simp only [Act.put, List.setIfInBounds_toArray, List.set_cons_zero, List.set_cons_succ]
          refine wpAnyH_take (i := 9) (oi := ?or1_9) (v := ?vr1_9) ?hr1_9 (by kernel_rfl) (by kernel_rfl) (by kernel_rfl) ?qr1_9 (Or.inl ⟨?wr1_9, ?yr1_9⟩) (by assumption) ?rr1_9
          case hr1_9 => (simp only [List.getElem?_toArray, List.getElem?_cons_succ, List.getElem?_cons_zero]; rfl)
          case qr1_9 => exact fun _ _ _ h => h
          case wr1_9 => rfl
          case yr1_9 => (intro w hSw; (try dsimp only at hSw); go_simp <;> with_reducible rfl)
          try simp only [Act.put, List.setIfInBounds_toArray, List.set_cons_zero, List.set_cons_succ]
          refine wpAnyH_take (i := 10) (oi := ?or1_10) (v := ?vr1_10) ?hr1_10 (by kernel_rfl) (by kernel_rfl) (by kernel_rfl) ?qr1_10 (Or.inl ⟨?wr1_10, ?yr1_10⟩) (by assumption) ?rr1_10
          case hr1_10 => (simp only [List.getElem?_toArray, List.getElem?_cons_succ, List.getElem?_cons_zero]; rfl)
          case qr1_10 => exact fun _ _ _ h => h
          case wr1_10 => rfl
          case yr1_10 => (intro w hSw; (try dsimp only at hSw); go_simp <;> with_reducible rfl)
          try simp only [Act.put, List.setIfInBounds_toArray, List.set_cons_zero, List.set_cons_succ]
          refine wpAnyH_take (i := 12) (oi := ?or1_12) (v := ?vr1_12) ?hr1_12 (by kernel_rfl) (by kernel_rfl) (by kernel_rfl) ?qr1_12 (Or.inl ⟨?wr1_12, ?yr1_12⟩) (by assumption) ?rr1_12
          case hr1_12 => (simp only [List.getElem?_toArray, List.getElem?_cons_succ, List.getElem?_cons_zero]; rfl)
          case qr1_12 => exact fun _ _ _ h => h
          case wr1_12 => rfl
          case yr1_12 => (intro w hSw; (try dsimp only at hSw); go_simp <;> with_reducible rfl)
          try simp only [Act.put, List.setIfInBounds_toArray, List.set_cons_zero, List.set_cons_succ]
          refine wpAnyH_ready (rs := [11]) (by kernel_rfl) (by simp) ?_
          refine AllReadyH.cons (o := ?or1_11) ?hr1_11 (fun K hK => ?kr1_11) AllReadyH.nil
          case hr1_11 => (simp only [List.getElem?_toArray, List.getElem?_cons_succ, List.getElem?_cons_zero]; rfl)
          go_simp
          (go_at_call 22; refine (HIS1.out _ HKB.out).mono ?_; rintro e x2 ⟨rfl, hb⟩; have HK2 := Lib.hid (HKB.out.trans (hb.mono HKB.out.size)); clear hb)
          refine hK.out _ _ (by (first | exact KS.out _ HK3.out | exact KS.out _ HK2.out | exact KS.out _ HK1.out | exact KS.out _ (Below.drew (Below.refl _ _)))) (fun hHeld => ?_)
          clear hK K
          try simp only [Act.put, List.setIfInBounds_toArray, List.set_cons_zero, List.set_cons_succ]
          refine wpAnyH_ready (rs := [13]) (by kernel_rfl) (by simp) ?_
          refine AllReadyH.cons (o := ?or1_13) ?hr1_13 (fun K hK => ?kr1_13) AllReadyH.nil
          case hr1_13 => (simp only [List.getElem?_toArray, List.getElem?_cons_succ, List.getElem?_cons_zero]; rfl)
          go_simp
          (go_at_call 23; refine (HIS2.out _ HK2.out).mono ?_; rintro e x3 ⟨rfl, hb⟩; have HK3 := Lib.hid (HK2.out.trans (hb.mono HK2.out.size)); clear hb)
          refine hK.out _ _ (by (first | exact KS.out _ HK3.out | exact KS.out _ HK2.out | exact KS.out _ HK1.out | exact KS.out _ (Below.drew (Below.refl _ _)))) (fun hHeld => ?_)
          clear hK K
          try simp only [Act.put, List.setIfInBounds_toArray, List.set_cons_zero, List.set_cons_succ]
          refine wpAnyH_take (i := 14) (oi := ?or1_14) (v := ?vr1_14) ?hr1_14 (by kernel_rfl) (by kernel_rfl) (by kernel_rfl) ?qr1_14 (Or.inl ⟨?wr1_14, ?yr1_14⟩) (by assumption) ?rr1_14
          case hr1_14 => (simp only [List.getElem?_toArray, List.getElem?_cons_succ, List.getElem?_cons_zero]; rfl)
          case qr1_14 => exact fun _ _ _ h => h
          case wr1_14 => rfl
          case yr1_14 => (intro w hSw; (try dsimp only at hSw); go_simp <;> with_reducible rfl)
          try simp only [Act.put, List.setIfInBounds_toArray, List.set_cons_zero, List.set_cons_succ]
          refine wpAnyH_take (i := 15) (oi := ?or1_15) (v := ?vr1_15) ?hr1_15 (by kernel_rfl) (by kernel_rfl) (by kernel_rfl) ?qr1_15 (Or.inl ⟨?wr1_15, ?yr1_15⟩) (by assumption) ?rr1_15
          case hr1_15 => (simp only [List.getElem?_toArray, List.getElem?_cons_succ, List.getElem?_cons_zero]; rfl)
          case qr1_15 => exact fun _ _ _ h => h
          case wr1_15 => rfl
          case yr1_15 => (intro w hSw; (try dsimp only at hSw); go_simp <;> with_reducible rfl)
          try simp only [Act.put, List.setIfInBounds_toArray, List.set_cons_zero, List.set_cons_succ]
          refine wpAnyH_done (by kernel_rfl) ?_ _
          have hb := HK3.out
          repeat clear hHeld
          have I4 := Lib.hid (I3.out.step hb)
          clear I3
          have J2 := Lib.hid (J1.out.trans (hb.mono J1.out.size))
          clear J1
          clear hb HC HK1 HKB HK2 HK3 KS HIS1 HIS2
          clear a0 a1
          generalize x3 = w5 at *
          as_aux_lemma =>
            have HC := Lib.hid (drawMol_any A n c bs _ Hn.out hsm HBY.out (HRc.out.below I4.out.bel) (fun a ha => Nat.lt_of_lt_of_le (HLT.out a ha) I4.out.size))
            go_wp2_with fail
            refine HC.out.mono ?_
            rintro e w6 ⟨cc, A9, k9, RR, rfl, hr, hri, hrl, hb⟩
            have I5 := Lib.hid (I4.out.step hb)
            clear I4
            have J3 := Lib.hid (J2.out.trans (hb.mono J2.out.size))
            clear J2
            have HRR := Lib.hid hr
            have HRI := Lib.hid hri
            clear hb HC hr hri
            obtain ⟨mo, HMO⟩ : ∃ mo, Hid (molOf cc (dat RR) = mo) := ⟨_, Lib.hid rfl⟩
            have hlo : mo.2.1.length ≤ 200 := by rw [← HMO.out]; exact mol_len _ _
            as_aux_lemma =>
              have HC := Lib.hid (implMol_any cc A9 RR.length k9 RR _ rfl (by omega) (fun i hi => Nat.le_trans (HRI.out i hi) (by omega)) HRR.out)
              rw [HMO.out] at HC
              try dsimp only at HC
              go_wp2_with fail
              refine HC.out.mono ?_
              have K0 := Lib.hid (Below.refl w6.heap.size w6)
              rintro e w7 ⟨v, rfl, ho, hb⟩
              obtain ⟨A10, k10, rfl, -, -, -⟩ := owns_shape ho
              have I6 := Lib.hid ((I5.out.pushOwn hb ho rfl).allocBox #[.int .i64 mo.1, .slice A10 mo.2.1.length k10] 26 rfl)
              clear I5
              have J4 := Lib.hid ((J3.out.trans (hb.mono J3.out.size)).alloc (J3.out.trans (hb.mono J3.out.size)).size (.cells #[.int .i64 mo.1, .slice A10 mo.2.1.length k10] 26))
              clear J3
              have K1 := Lib.hid (hb.alloc hb.size (.cells #[.int .i64 mo.1, .slice A10 mo.2.1.length k10] 26))
              clear ho hb HC
              as_aux_lemma =>
                have HC := Lib.hid (specMol_any cc A9 RR.length k9 RR _ rfl (by omega) (fun i hi => Nat.le_trans (HRI.out i hi) (by omega)) (HRR.out.below K1.out))
                rw [HMO.out] at HC
                try dsimp only at HC
                go_wp2_with fail
                refine HC.out.mono ?_
                rintro e w8 ⟨v, rfl, ho, hb⟩
                obtain ⟨A12, k12, rfl, -, -, -⟩ := owns_shape ho
                have I7 := Lib.hid ((I6.out.pushOwn hb ho rfl).allocBox #[.int .i64 mo.1, .slice A12 mo.2.1.length k12] 26 rfl)
                clear I6
                have J5 := Lib.hid ((J4.out.trans (hb.mono J4.out.size)).alloc (J4.out.trans (hb.mono J4.out.size)).size (.cells #[.int .i64 mo.1, .slice A12 mo.2.1.length k12] 26))
                clear J4
                clear ho hb HC
                clear K0 K1 HRR HRI
                obtain ⟨a0, a1, -, -, -⟩ := blk2cells (I7.out.box 2 rfl)
                obtain ⟨b0, b1, -, -, -⟩ := blk2cells (I7.out.box 0 rfl)
                as_aux_lemma =>
                  have HC := Lib.hid (matrix9_same mo.1 A10 A12 k10 k12 mo.2.1 _ (by omega) (owns_Rd (I7.out.own 3 rfl)) (owns_Rd (I7.out.own 1 rfl)))
                  go_wp2_with fail
                  refine HC.out.mono ?_
                  rintro e w9 ⟨rfl, hb⟩
                  have I8 := Lib.hid (I7.out.step hb)
                  clear I7
                  have J6 := Lib.hid (J5.out.trans (hb.mono J5.out.size))
                  clear J5
                  clear hb HC
                  clear a0 a1 b0 b1
                  as_aux_lemma =>
                    have HC := Lib.hid (drawTimes_any A n c bs _ Hn.out hsm HBY.out (HRc.out.below I8.out.bel) (fun a ha => Nat.lt_of_lt_of_le (HLT.out a ha) I8.out.size))
                    go_wp2_with fail
                    refine HC.out.mono ?_
                    rintro e w10 ⟨c2, A2, k2, ys, v, rfl, ho, hl2, hb⟩
                    have I9 := Lib.hid ((I8.out.pushOwn hb ho rfl).allocBox #[.int .i64 c2, .slice A2 ys.length k2] 26 rfl)
                    clear I8
                    have J7 := Lib.hid ((J6.out.trans (hb.mono J6.out.size)).alloc (J6.out.trans (hb.mono J6.out.size)).size (.cells #[.int .i64 c2, .slice A2 ys.length k2] 26))
                    clear J6
                    clear ho hb HC
                    obtain ⟨ti, HTI⟩ : ∃ ti, Hid (timesOf v c2 ys = ti) := ⟨_, Lib.hid rfl⟩
                    obtain ⟨a0, a1, -, -, -⟩ := blk2cells (I9.out.box 0 rfl)
                    as_aux_lemma =>
                      have HC := Lib.hid (implTimes_any v c2 A2 ys.length k2 ys _ rfl (by omega) (owns_Rd (I9.out.own 1 rfl)))
                      rw [HTI.out] at HC
                      try dsimp only at HC
                      go_wp2_with fail
                      refine HC.out.mono ?_
                      rintro e w11 ⟨rfl, hb⟩
                      have I10 := Lib.hid (I9.out.step hb)
                      clear I9
                      have J8 := Lib.hid (J7.out.trans (hb.mono J7.out.size))
                      clear J7
                      clear hb HC
                      clear a0 a1
                      obtain ⟨a0, a1, -, -, -⟩ := blk2cells (I10.out.box 0 rfl)
                      as_aux_lemma =>
                        have HC := Lib.hid (specTimes_any v c2 A2 ys.length k2 ys _ rfl (by omega) (owns_Rd (I10.out.own 1 rfl)))
                        rw [HTI.out] at HC
                        try dsimp only at HC
                        go_wp2_with fail
                        refine HC.out.mono ?_
                        rintro e w12 ⟨rfl, hb⟩
                        have I11 := Lib.hid (I10.out.step hb)
                        clear I10
                        have J9 := Lib.hid (J8.out.trans (hb.mono J8.out.size))
                        clear J8
                        clear hb HC
                        clear a0 a1
                        as_aux_lemma =>
                          have HC := Lib.hid (drawMul_any A n c bs _ Hn.out hsm HBY.out (HRc.out.below I11.out.bel) (fun a ha => Nat.lt_of_lt_of_le (HLT.out a ha) I11.out.size))
                          go_wp2_with fail
                          refine HC.out.mono ?_
                          rintro e w13 ⟨c3, c4, A3, A5, k3, k5, zs, us, rfl, hr3, hr5, _, _, hl3, hl5, hb⟩
                          have HRA := Lib.hid hr3
                          have HRB := Lib.hid hr5
                          have hI := (((I11.out.step hb).allocBox #[.int .i64 c3, .slice A3 zs.length k3] 26 rfl).allocBox #[.int .i64 c4, .slice A5 us.length k5] 26 rfl)
                          rw [show (w13.alloc (.cells #[.int .i64 c3, .slice A3 zs.length k3] 26)).heap.size = w13.heap.size + 1 by simp] at hI
                          have I12 := Lib.hid hI
                          clear I11
                          have J10 := Lib.hid (((J9.out.trans (hb.mono J9.out.size)).alloc (J9.out.trans (hb.mono J9.out.size)).size (.cells #[.int .i64 c3, .slice A3 zs.length k3] 26)).alloc (Nat.le_trans (J9.out.trans (hb.mono J9.out.size)).size (by simp)) (.cells #[.int .i64 c4, .slice A5 us.length k5] 26))
                          have KA := Lib.hid (((Below.refl w13.heap.size w13).alloc (Nat.le_refl _) (.cells #[.int .i64 c3, .slice A3 zs.length k3] 26)).alloc (by simp) (.cells #[.int .i64 c4, .slice A5 us.length k5] 26))
                          clear hb HC hI hr3 hr5
                          have KA0 := Lib.hid KA.out
                          clear KA
                          obtain ⟨mu, HMU⟩ : ∃ mu, Hid (mulOf c3 zs c4 us = mu) := ⟨_, Lib.hid rfl⟩
                          have hlu : mu.2.1.length ≤ 300 := by rw [← HMU.out]; exact Nat.le_trans (mul_len _ _ _ _) hl3
                          obtain ⟨a0, a1, -, -, -⟩ := blk2cells (I12.out.box 1 rfl)
                          obtain ⟨b0, b1, -, -, -⟩ := blk2cells (I12.out.box 0 rfl)
                          as_aux_lemma =>
                            have HC := Lib.hid (implMul_any c3 c4 A3 A5 zs.length us.length k3 k5 zs us _ rfl rfl (by omega) (by omega) (HRA.out.below KA0.out) (HRB.out.below KA0.out))
                            rw [HMU.out] at HC
                            try dsimp only at HC
                            go_wp2_with fail
                            refine HC.out.mono ?_
                            rintro e w14 ⟨v, rfl, ho, hb⟩
                            obtain ⟨A22, k22, rfl, -, -, -⟩ := owns_shape ho
                            have I13 := Lib.hid ((I12.out.pushOwn hb ho rfl).allocBox #[.int .i64 mu.1, .slice A22 mu.2.1.length k22] 26 rfl)
                            clear I12
                            have J11 := Lib.hid ((J10.out.trans (hb.mono J10.out.size)).alloc (J10.out.trans (hb.mono J10.out.size)).size (.cells #[.int .i64 mu.1, .slice A22 mu.2.1.length k22] 26))
                            clear J10
                            have KA1 := Lib.hid ((KA0.out.trans (hb.mono KA0.out.size)).alloc (KA0.out.trans (hb.mono KA0.out.size)).size (.cells #[.int .i64 mu.1, .slice A22 mu.2.1.length k22] 26))
                            clear ho hb HC
                            clear a0 a1 b0 b1
                            obtain ⟨a0, a1, -, -, -⟩ := blk2cells (I13.out.box 3 rfl)
                            obtain ⟨b0, b1, -, -, -⟩ := blk2cells (I13.out.box 2 rfl)
                            as_aux_lemma =>
                              have HC := Lib.hid (specMul_any c3 c4 A3 A5 zs.length us.length k3 k5 zs us _ rfl rfl (by omega) (by omega) (HRA.out.below KA1.out) (HRB.out.below KA1.out))
                              rw [HMU.out] at HC
                              try dsimp only at HC
                              go_wp2_with fail
                              refine HC.out.mono ?_
                              rintro e w15 ⟨v, rfl, ho, hb⟩
                              obtain ⟨A24, k24, rfl, -, -, -⟩ := owns_shape ho
                              have I14 := Lib.hid ((I13.out.pushOwn hb ho rfl).allocBox #[.int .i64 mu.1, .slice A24 mu.2.1.length k24] 26 rfl)
                              clear I13
                              have J12 := Lib.hid ((J11.out.trans (hb.mono J11.out.size)).alloc (J11.out.trans (hb.mono J11.out.size)).size (.cells #[.int .i64 mu.1, .slice A24 mu.2.1.length k24] 26))
                              clear J11
                              have KA2 := Lib.hid ((KA1.out.trans (hb.mono KA1.out.size)).alloc (KA1.out.trans (hb.mono KA1.out.size)).size (.cells #[.int .i64 mu.1, .slice A24 mu.2.1.length k24] 26))
                              clear ho hb HC
                              clear a0 a1 b0 b1
                              obtain ⟨a0, a1, -, -, -⟩ := blk2cells (I14.out.box 2 rfl)
                              obtain ⟨b0, b1, -, -, -⟩ := blk2cells (I14.out.box 0 rfl)
                              as_aux_lemma =>
                                have HC := Lib.hid (matrix9_same mu.1 A22 A24 k22 k24 mu.2.1 _ (by omega) (owns_Rd (I14.out.own 3 rfl)) (owns_Rd (I14.out.own 1 rfl)))
                                go_wp2_with fail
                                refine HC.out.mono ?_
                                rintro e w16 ⟨rfl, hb⟩
                                have I15 := Lib.hid (I14.out.step hb)
                                clear I14
                                have J13 := Lib.hid (J12.out.trans (hb.mono J12.out.size))
                                clear J12
                                have KA3 := Lib.hid (KA2.out.trans (hb.mono KA2.out.size))
                                clear hb HC
                                clear a0 a1 b0 b1
                                clear KA0 KA1 KA2
                                obtain ⟨a0, a1, -, -, -⟩ := blk2cells (I15.out.box 5 rfl)
                                obtain ⟨b0, b1, -, -, -⟩ := blk2cells (I15.out.box 4 rfl)
                                go_upto_region 23 with (fail)
                                go_cut [23, 25, 174] (fun _ _ o wx => Below w16.heap.size w16 wx ∧ (o = .bool false ∨ (o = .bool true ∧ mu.2.2 = 0 ∧ zs.length ≤ 60 ∧ us.length ≤ 60)))
                                case first =>
                                  clear HT Hn HBY HRc HLT I0 HLM HTU HRE HLL HL1 HR1 HD1 HL2 HR2 HD2 HMO HTI J9 HRA HRB HMU hlu
                                  clear I15 J13 KA3
                                  as_aux_lemma =>
                                  by_cases hm : mu.2.2 = 0
                                  · rw [hm]
                                    by_cases h1 : 0 < zs.length
                                    · have h1i : (0 : Int) < (zs.length : Int) := by omega
                                      by_cases h2 : zs.length ≤ 60
                                      · have h2i : (zs.length : Int) ≤ 60 := by omega
                                        by_cases h3 : us.length ≤ 60
                                        · have h3i : (us.length : Int) ≤ 60 := by omega
                                          have HM := Lib.hid hm
                                          clear hm
                                          go_wp2_with fail
                                          go_meet
                                          exact ⟨Below.refl _ _, .inr ⟨rfl, HM.out, h2, h3⟩⟩
                                        · have h3i : ¬ (us.length : Int) ≤ 60 := by omega
                                          clear hm
                                          go_wp2_with fail
                                          go_meet
                                          exact ⟨Below.refl _ _, .inl (by first | rfl | rw [decide_eq_false h3i])⟩
                                      · have h2i : ¬ (zs.length : Int) ≤ 60 := by omega
                                        clear hm
                                        go_wp2_with fail
                                        go_meet
                                        exact ⟨Below.refl _ _, .inl (by first | rfl | rw [decide_eq_false h2i])⟩
                                    · have h1i : ¬ (0 : Int) < (zs.length : Int) := by omega
                                      clear hm
                                      go_wp2_with fail
                                      go_meet
                                      exact ⟨Below.refl _ _, .inl (by first | rfl | rw [decide_eq_false h1i])⟩
                                  · have hmb : (mu.2.2 == 0) = false := by simpa using hm
                                    clear hm
                                    go_wp2_with fail
                                    go_meet
                                    exact ⟨Below.refl _ _, .inl (by first | rfl | rw [hmb])⟩
                                case rest =>
                                obtain ⟨hcb, ho174⟩ := hcut
                                have I16 := Lib.hid (I15.out.step hcb)
                                clear I15
                                have J14 := Lib.hid (J13.out.trans (hcb.mono J13.out.size))
                                have KZ := Lib.hid (KA3.out.trans (hcb.mono KA3.out.size))
                                clear hcb a0 a1 b0 b1
                                generalize wc = w17 at *
                                go_upto_if 174 with (fail)
                                go_cut [26, 27, 28, 29, 30, 31, 32] (fun _ _ _ _ _ _ _ wx => Below w17.heap.size w17 wx)
                                case first =>
                                  clear HT I0 HLM HTU HRE HLL HL1 HR1 HD1 HL2 HR2 HD2 HMO HTI J9
                                  as_aux_lemma =>
                                  rcases ho174 with rfl | ⟨rfl, hm0, hz60, hu60⟩
                                  · go_wp2_with fail
                                    go_meet
                                    exact Below.refl _ _
                                  · have HML := Lib.hid (fun (z : Nat) (hz : z < 2 ^ zs.length) => mul_law (c := c3) (c' := c4) (by rw [HMU.out]; exact hm0) hz60 hu60 hz)
                                    rw [HMU.out] at HML
                                    clear hm0
                                    obtain ⟨a0, a1, -, -, -⟩ := blk2cells (I16.out.box 5 rfl)
                                    have HRO := Lib.hid (fun W (hb : Below w.heap.size w W) => roll_any A n c bs W Hn.out hsm HBY.out (HRc.out.below hb) (fun a ha => Nat.lt_of_lt_of_le (HLT.out a ha) hb.size))
                                    have HMB := Lib.hid (mask_bound hz60)
                                    go_upto_region 24 with (fail)
                                    go_cut [26] (fun o wx => ∃ z : Nat, o = .int .i64 z ∧ z < 2 ^ zs.length ∧ Below w17.heap.size w17 wx)
                                    case first =>
                                      as_aux_lemma =>
                                      go_wp2_with fail
                                      refine wp_region_held_drew (S := (fun w' => w'.cell? ⟨w13.heap.size, 1, none⟩ = some (.slice A3 zs.length k3))) (by kernel_rfl) (by (first | exact (HKb.out.cell (World.block_lt_of_cell? _ _ a1)).trans a1 | exact (HKa.out.cell (World.block_lt_of_cell? _ _ a1)).trans a1 | exact a1)) (fun hHeld => ?_)
                                      refine wpAnyH_take (i := 0) (oi := ?oim2_1) (v := ?vm2_1) ?hm2_1 (by kernel_rfl) (by kernel_rfl) (by kernel_rfl) ?qm2_1 (Or.inl ⟨?wm2_1, ?ym2_1⟩) (by assumption) ?rm2_1
                                      case hm2_1 => (simp only [List.getElem?_toArray, List.getElem?_cons_succ, List.getElem?_cons_zero]; rfl)
                                      case qm2_1 => exact fun _ _ _ h => h
                                      case wm2_1 => rfl
                                      case ym2_1 => (intro w hSw; (try dsimp only at hSw); go_simp <;> with_reducible rfl)
                                      try simp only [Act.put, List.setIfInBounds_toArray, List.set_cons_zero, List.set_cons_succ]
                                      refine wpAnyH_take (i := 2) (oi := ?oim2_2) (v := ?vm2_2) ?hm2_2 (by kernel_rfl) (by kernel_rfl) (by kernel_rfl) ?qm2_2 (Or.inl ⟨?wm2_2, ?ym2_2⟩) (by assumption) ?rm2_2
                                      case hm2_2 => (simp only [List.getElem?_toArray, List.getElem?_cons_succ, List.getElem?_cons_zero]; rfl)
                                      case qm2_2 => exact fun _ _ _ h => h
                                      case wm2_2 => rfl
                                      case ym2_2 => (intro w hSw; (try dsimp only at hSw); go_simp <;> with_reducible rfl)
                                      try simp only [Act.put, List.setIfInBounds_toArray, List.set_cons_zero, List.set_cons_succ]
                                      refine wpAnyH_take (i := 3) (oi := ?oim2_3) (v := ?vm2_3) ?hm2_3 (by kernel_rfl) (by kernel_rfl) (by kernel_rfl) ?qm2_3 (Or.inl ⟨?wm2_3, ?ym2_3⟩) (by assumption) ?rm2_3
                                      case hm2_3 => (simp only [List.getElem?_toArray, List.getElem?_cons_succ, List.getElem?_cons_zero]; rfl)
                                      case qm2_3 => exact fun _ _ _ h => h
                                      case wm2_3 => rfl
                                      case ym2_3 => (intro w hSw; (try dsimp only at hSw); go_simp <;> with_reducible rfl)
                                      try simp only [Act.put, List.setIfInBounds_toArray, List.set_cons_zero, List.set_cons_succ]
                                      refine wpAnyH_take (i := 4) (oi := ?oim2_4) (v := ?vm2_4) ?hm2_4 (by kernel_rfl) (by kernel_rfl) (by kernel_rfl) ?qm2_4 (Or.inl ⟨?wm2_4, ?ym2_4⟩) (by assumption) ?rm2_4
                                      case hm2_4 => (simp only [List.getElem?_toArray, List.getElem?_cons_succ, List.getElem?_cons_zero]; rfl)
                                      case qm2_4 => exact fun _ _ _ h => h
                                      case wm2_4 => rfl
                                      case ym2_4 => (intro w hSw; (try dsimp only at hSw); go_simp <;> with_reducible rfl)
                                      try simp only [Act.put, List.setIfInBounds_toArray, List.set_cons_zero, List.set_cons_succ]
                                      refine wpAnyH_take (i := 5) (oi := ?oim2_5) (v := ?vm2_5) ?hm2_5 (by kernel_rfl) (by kernel_rfl) (by kernel_rfl) ?qm2_5 (Or.inl ⟨?wm2_5, ?ym2_5⟩) (by assumption) ?rm2_5
                                      case hm2_5 => (simp only [List.getElem?_toArray, List.getElem?_cons_succ, List.getElem?_cons_zero]; rfl)
                                      case qm2_5 => exact fun _ _ _ h => h
                                      case wm2_5 => rfl
                                      case ym2_5 => (intro w hSw; (try dsimp only at hSw); go_simp <;> with_reducible rfl)
                                      try simp only [Act.put, List.setIfInBounds_toArray, List.set_cons_zero, List.set_cons_succ]
                                      refine wpAnyH_take (i := 6) (oi := ?oim2_6) (v := ?vm2_6) ?hm2_6 (by kernel_rfl) (by kernel_rfl) (by kernel_rfl) ?qm2_6 (Or.inl ⟨?wm2_6, ?ym2_6⟩) (by assumption) ?rm2_6
                                      case hm2_6 => (simp only [List.getElem?_toArray, List.getElem?_cons_succ, List.getElem?_cons_zero]; rfl)
                                      case qm2_6 => exact fun _ _ _ h => h
                                      case wm2_6 => rfl
                                      case ym2_6 => (intro w hSw; (try dsimp only at hSw); go_simp <;> with_reducible rfl)
                                      try simp only [Act.put, List.setIfInBounds_toArray, List.set_cons_zero, List.set_cons_succ]
                                      refine wpAnyH_take (i := 7) (oi := ?oim2_7) (v := ?vm2_7) ?hm2_7 (by kernel_rfl) (by kernel_rfl) (by kernel_rfl) ?qm2_7 (Or.inl ⟨?wm2_7, ?ym2_7⟩) (by assumption) ?rm2_7
                                      case hm2_7 => (simp only [List.getElem?_toArray, List.getElem?_cons_succ, List.getElem?_cons_zero]; rfl)
                                      case qm2_7 => exact fun _ _ _ h => h
                                      case wm2_7 => rfl
                                      case ym2_7 => (intro w hSw; (try dsimp only at hSw); go_simp <;> with_reducible rfl)
                                      try simp only [Act.put, List.setIfInBounds_toArray, List.set_cons_zero, List.set_cons_succ]
                                      refine wpAnyH_ready (rs := [1]) (by kernel_rfl) (by simp) ?_
                                      refine AllReadyH.cons (o := ?oim2_8) ?hm2_8 (fun K hK => ?km2_8) ?mm2_8
                                      case hm2_8 => (simp only [List.getElem?_toArray, List.getElem?_cons_succ, List.getElem?_cons_zero]; rfl)
                                      case km2_8 =>
                                        go_simp
                                        (go_at_call 33; refine (HRO.out w17.drew (I16.out.drew.bel)).mono ?_; rintro e y1 ⟨rfl, hd1, hb⟩; have HKa := Lib.hid (Below.trans ((Below.refl w17.heap.size w17).drew) hb); have HD : Hid (DiceAt y1 w17.heap.size A n c bs) := Lib.hid hd1; clear hb hd1)
                                        refine hK.out _ _ (by (first | exact (HKb.out.cell (World.block_lt_of_cell? _ _ a1)).trans a1 | exact (HKa.out.cell (World.block_lt_of_cell? _ _ a1)).trans a1 | exact a1)) (fun hHeld => ?_)
                                        clear hK K
                                        try simp only [Act.put, List.setIfInBounds_toArray, List.set_cons_zero, List.set_cons_succ]
                                        refine wpAnyH_ready (rs := [8]) (by kernel_rfl) (by simp) ?_
                                        refine AllReadyH.cons (o := ?oim2_9) ?hm2_9 (fun K hK => ?km2_9) ?mm2_9
                                        case hm2_9 => (simp only [List.getElem?_toArray, List.getElem?_cons_succ, List.getElem?_cons_zero]; rfl)
                                        case km2_9 =>
                                          go_simp
                                          (go_at_call 34; refine (below_any w17.heap.size A n c bs _ (by with_reducible exact HMB.out.2.1) y1 HD.out).mono ?_; rintro e y2 ⟨xz, rfl, hx0, hx1, _, _, hk⟩; have hx2 := HMB.out.2.2 xz hx0 (hx1 HMB.out.1); have HKb := Lib.hid (HKa.out.trans (hk.to_below HKa.out.size (fun j hj => by simp only [List.mem_singleton] at hj; injection hj with hj; have : w17.drew.heap.size = w17.heap.size := rfl; omega))); (obtain ⟨z, rfl⟩ := Int.eq_ofNat_of_zero_le hx0); rw [Int.toNat_natCast] at hx2; clear hx1 hk)
                                          refine hK.out _ _ (by (first | exact (HKb.out.cell (World.block_lt_of_cell? _ _ a1)).trans a1 | exact (HKa.out.cell (World.block_lt_of_cell? _ _ a1)).trans a1 | exact a1)) (fun hHeld => ?_)
                                          clear hK K
                                          try simp only [Act.put, List.setIfInBounds_toArray, List.set_cons_zero, List.set_cons_succ]
                                          refine wpAnyH_take (i := 9) (oi := ?oim2_10) (v := ?vm2_10) ?hm2_10 (by kernel_rfl) (by kernel_rfl) (by kernel_rfl) ?qm2_10 (Or.inl ⟨?wm2_10, ?ym2_10⟩) (by assumption) ?rm2_10
                                          case hm2_10 => (simp only [List.getElem?_toArray, List.getElem?_cons_succ, List.getElem?_cons_zero]; rfl)
                                          case qm2_10 => exact fun _ _ _ h => h
                                          case wm2_10 => rfl
                                          case ym2_10 => (intro w hSw; (try dsimp only at hSw); go_simp <;> with_reducible rfl)
                                          try simp only [Act.put, List.setIfInBounds_toArray, List.set_cons_zero, List.set_cons_succ]
                                          refine wpAnyH_done (by kernel_rfl) ?_ _
                                          all_goals go_wp2_with fail
                                          all_goals go_meet
                                          all_goals exact ⟨z, rfl, hx2, HKb.out⟩
                                        exact AllReadyH.nil
                                      exact AllReadyH.nil
                                    case rest =>
                                    obtain ⟨z, rfl, hz, hcb⟩ := hcut
                                    obtain ⟨y, u, ht1, ht2, ht3⟩ := HML.out z hz
                                    have HT1 := Lib.hid ht1
                                    have HT2 := Lib.hid ht2
                                    have HT3 := Lib.hid ht3
                                    clear ht1 ht2 ht3 a0 a1 HML hz hz60 hu60 HMB HRO
                                    have I17 := Lib.hid (I16.out.step hcb)
                                    clear I16
                                    have T0 := Lib.hid hcb
                                    have KY := Lib.hid (KZ.out.trans (hcb.mono KZ.out.size))
                                    clear hcb
                                    generalize wc = w18 at *
                                    as_aux_lemma =>
                                      obtain ⟨a0, a1, -, -, -⟩ := blk2cells (I17.out.box 5 rfl)
                                      as_aux_lemma =>
                                        have HC := Lib.hid (implTimes_any z c3 A3 zs.length k3 zs _ rfl (by omega) (HRA.out.below KY.out))
                                        rw [HT1.out] at HC
                                        try dsimp only at HC
                                        go_wp2_with fail
                                        refine HC.out.mono ?_
                                        rintro e w19 ⟨rfl, hb⟩
                                        have I18 := Lib.hid (I17.out.step hb)
                                        clear I17
                                        have T1 := Lib.hid (T0.out.trans (hb.mono T0.out.size))
                                        have KY1 := Lib.hid (KY.out.trans (hb.mono KY.out.size))
                                        clear hb HC
                                        clear a0 a1
                                        obtain ⟨a0, a1, -, -, -⟩ := blk2cells (I18.out.box 4 rfl)
                                        as_aux_lemma =>
                                          have HC := Lib.hid (implTimes_any y c4 A5 us.length k5 us _ rfl (by omega) (HRB.out.below KY1.out))
                                          rw [HT2.out] at HC
                                          try dsimp only at HC
                                          go_wp2_with fail
                                          refine HC.out.mono ?_
                                          rintro e w20 ⟨rfl, hb⟩
                                          have I19 := Lib.hid (I18.out.step hb)
                                          clear I18
                                          have T2 := Lib.hid (T1.out.trans (hb.mono T1.out.size))
                                          have KY2 := Lib.hid (KY1.out.trans (hb.mono KY1.out.size))
                                          clear hb HC
                                          clear a0 a1
                                          obtain ⟨a0, a1, -, -, -⟩ := blk2cells (I19.out.box 2 rfl)
                                          as_aux_lemma =>
                                            have HC := Lib.hid (implTimes_any z mu.1 A22 mu.2.1.length k22 (nI mu.2.1) _ (nI_length _).symm (by omega) (by rw [← nv_nI]; exact owns_Rd (I19.out.own 3 rfl)))
                                            rw [HT3.out] at HC
                                            try dsimp only at HC
                                            go_wp2_with fail
                                            refine HC.out.mono ?_
                                            rintro e w21 ⟨rfl, hb⟩
                                            have I20 := Lib.hid (I19.out.step hb)
                                            clear I19
                                            have T3 := Lib.hid (T2.out.trans (hb.mono T2.out.size))
                                            have KY3 := Lib.hid (KY2.out.trans (hb.mono KY2.out.size))
                                            clear hb HC
                                            clear a0 a1
                                            as_aux_lemma =>
                                              go_wp2_with fail
                                              go_meet
                                              exact T3.out
                                case rest =>
                                have I17 := Lib.hid (I16.out.step hcut)
                                clear I16
                                have J15 := Lib.hid (J14.out.trans (hcut.mono J14.out.size))
                                clear hcut KZ HRA HRB HMU
                                generalize wc = w18 at *
                                as_aux_lemma =>
                                  obtain ⟨a0, a1, -, -, -⟩ := blk2cells (I17.out.box 12 rfl)
                                  as_aux_lemma =>
                                    have HC := Lib.hid (implTurn_any c1 A1 xs.length k1 xs _ rfl (by omega) (owns_Rd (I17.out.own 13 rfl)))
                                    rw [HTU.out] at HC
                                    try dsimp only at HC
                                    go_wp2_with fail
                                    refine HC.out.mono ?_
                                    rintro e w19 ⟨v, rfl, ho, hb⟩
                                    obtain ⟨A33, k33, rfl, -, -, -⟩ := owns_shape ho
                                    have I18 := Lib.hid ((I17.out.pushOwn hb ho rfl).allocBox #[.int .i64 tu.1, .slice A33 tu.2.1.length k33] 26 rfl)
                                    clear I17
                                    have J16 := Lib.hid ((J15.out.trans (hb.mono J15.out.size)).alloc (J15.out.trans (hb.mono J15.out.size)).size (.cells #[.int .i64 tu.1, .slice A33 tu.2.1.length k33] 26))
                                    clear J15
                                    clear ho hb HC
                                    clear a0 a1
                                    obtain ⟨a0, a1, -, -, -⟩ := blk2cells (I18.out.box 14 rfl)
                                    as_aux_lemma =>
                                      have HC := Lib.hid (specTurn_any c1 A1 xs.length k1 xs _ rfl (by omega) (owns_Rd (I18.out.own 15 rfl)))
                                      rw [HTU.out] at HC
                                      try dsimp only at HC
                                      go_wp2_with fail
                                      refine HC.out.mono ?_
                                      rintro e w20 ⟨v, rfl, ho, hb⟩
                                      obtain ⟨A35, k35, rfl, -, -, -⟩ := owns_shape ho
                                      have I19 := Lib.hid ((I18.out.pushOwn hb ho rfl).allocBox #[.int .i64 tu.1, .slice A35 tu.2.1.length k35] 26 rfl)
                                      clear I18
                                      have J17 := Lib.hid ((J16.out.trans (hb.mono J16.out.size)).alloc (J16.out.trans (hb.mono J16.out.size)).size (.cells #[.int .i64 tu.1, .slice A35 tu.2.1.length k35] 26))
                                      clear J16
                                      clear ho hb HC
                                      clear a0 a1
                                      obtain ⟨a0, a1, -, -, -⟩ := blk2cells (I19.out.box 2 rfl)
                                      obtain ⟨b0, b1, -, -, -⟩ := blk2cells (I19.out.box 0 rfl)
                                      as_aux_lemma =>
                                        have HC := Lib.hid (matrix9_same tu.1 A33 A35 k33 k35 tu.2.1 _ (by omega) (owns_Rd (I19.out.own 3 rfl)) (owns_Rd (I19.out.own 1 rfl)))
                                        go_wp2_with fail
                                        refine HC.out.mono ?_
                                        rintro e w21 ⟨rfl, hb⟩
                                        have I20 := Lib.hid (I19.out.step hb)
                                        clear I19
                                        have J18 := Lib.hid (J17.out.trans (hb.mono J17.out.size))
                                        clear J17
                                        clear hb HC
                                        clear a0 a1 b0 b1
                                        obtain ⟨a0, a1, -, -, -⟩ := blk2cells (I20.out.box 16 rfl)
                                        as_aux_lemma =>
                                          have HC := Lib.hid (implRed_any c1 A1 xs.length k1 xs _ (HT.out.below I20.out.bel hw) (Nat.lt_of_lt_of_le hw I20.out.size) rfl (by omega) (owns_Rd (I20.out.own 17 rfl)))
                                          rw [HRE.out] at HC
                                          try dsimp only at HC
                                          go_wp2_with fail
                                          refine HC.out.mono ?_
                                          rintro e w22 ⟨v, rfl, ho, hb⟩
                                          obtain ⟨A37, k37, rfl, -, -, -⟩ := owns_shape ho
                                          have I21 := Lib.hid ((I20.out.pushOwn hb ho rfl).allocBox #[.int .i64 re.1, .slice A37 re.2.1.length k37] 26 rfl)
                                          clear I20
                                          have J19 := Lib.hid ((J18.out.trans (hb.mono J18.out.size)).alloc (J18.out.trans (hb.mono J18.out.size)).size (.cells #[.int .i64 re.1, .slice A37 re.2.1.length k37] 26))
                                          clear J18
                                          clear ho hb HC
                                          clear a0 a1
                                          obtain ⟨a0, a1, -, -, -⟩ := blk2cells (I21.out.box 18 rfl)
                                          as_aux_lemma =>
                                            have HC := Lib.hid (specRed_any c1 A1 xs.length k1 xs _ rfl (by omega) (owns_Rd (I21.out.own 19 rfl)))
                                            rw [HRE.out] at HC
                                            try dsimp only at HC
                                            go_wp2_with fail
                                            refine HC.out.mono ?_
                                            rintro e w23 ⟨v, rfl, ho, hb⟩
                                            obtain ⟨A39, k39, rfl, -, -, -⟩ := owns_shape ho
                                            have I22 := Lib.hid ((I21.out.pushOwn hb ho rfl).allocBox #[.int .i64 re.1, .slice A39 re.2.1.length k39] 26 rfl)
                                            clear I21
                                            have J20 := Lib.hid ((J19.out.trans (hb.mono J19.out.size)).alloc (J19.out.trans (hb.mono J19.out.size)).size (.cells #[.int .i64 re.1, .slice A39 re.2.1.length k39] 26))
                                            clear J19
                                            clear ho hb HC
                                            clear a0 a1
                                            obtain ⟨a0, a1, -, -, -⟩ := blk2cells (I22.out.box 2 rfl)
                                            obtain ⟨b0, b1, -, -, -⟩ := blk2cells (I22.out.box 0 rfl)
                                            as_aux_lemma =>
                                              have HC := Lib.hid (matrix9_same re.1 A37 A39 k37 k39 re.2.1 _ (by omega) (owns_Rd (I22.out.own 3 rfl)) (owns_Rd (I22.out.own 1 rfl)))
                                              go_wp2_with fail
                                              refine HC.out.mono ?_
                                              rintro e w24 ⟨rfl, hb⟩
                                              have I23 := Lib.hid (I22.out.step hb)
                                              clear I22
                                              have J21 := Lib.hid (J20.out.trans (hb.mono J20.out.size))
                                              clear J20
                                              clear hb HC
                                              clear a0 a1 b0 b1
                                              as_aux_lemma =>
                                                rcases lom_code c1 xs with ⟨hi, e1, e2⟩ | ⟨_, e1, e2⟩
                                                · have hi0 := hi
                                                  rw [HLM.out] at e1
                                                  have HBK : Hid (molOf c1 (dat R1) = (c1, toN xs, 0)) := Lib.hid (by rw [HD1.out, ← HLM.out]; exact back_law hi)
                                                  have HNX := Lib.hid (nI_toN hi)
                                                  have HRH := Lib.hid (fun i (h : i < xs.length) => red_has hi h)
                                                  rw [HRE.out] at HRH
                                                  have HEM : Hid (eqMat c1 (nI (toN xs)) c1 xs = true) := Lib.hid (by rw [HNX.out]; exact eqMat_self _ _)
                                                  have HTN := Lib.hid (toN_len xs)
                                                  have HAG : Hid (tu.2.2 = 0 → turnOf tu.1 (nI tu.2.1) = (c1, toN xs, 0)) := Lib.hid (fun h => by rw [← HTU.out] at h ⊢; exact again_law2 h)
                                                  rw [e1]
                                                  clear e1 e2 hi hi0
                                                  obtain ⟨a0, a1, -, -, -⟩ := blk2cells (I23.out.box 20 rfl)
                                                  as_aux_lemma =>
                                                    have HC := Lib.hid (implMol_any c1 A4 R1.length k4 R1 _ rfl (by have := HLL.out.1; have := HL1.out; omega) (fun i hi => by rw [← dat_getD, HD1.out]; exact Nat.le_trans (HLL.out.2 i (by have := HL1.out; omega)) (by omega)) (HR1.out.below J21.out))
                                                    rw [HBK.out] at HC
                                                    try dsimp only at HC
                                                    go_wp2_with fail
                                                    refine HC.out.mono ?_
                                                    rintro e w25 ⟨v, rfl, ho, hb⟩
                                                    obtain ⟨A41, k41, rfl, -, -, -⟩ := owns_shape ho
                                                    have I24 := Lib.hid ((I23.out.pushOwn hb ho rfl).allocBox #[.int .i64 c1, .slice A41 (toN xs).length k41] 26 rfl)
                                                    clear I23
                                                    have J22 := Lib.hid ((J21.out.trans (hb.mono J21.out.size)).alloc (J21.out.trans (hb.mono J21.out.size)).size (.cells #[.int .i64 c1, .slice A41 (toN xs).length k41] 26))
                                                    clear J21
                                                    clear ho hb HC
                                                    clear a0 a1
                                                    obtain ⟨a0, a1, -, -, -⟩ := blk2cells (I24.out.box 0 rfl)
                                                    obtain ⟨b0, b1, -, -, -⟩ := blk2cells (I24.out.box 22 rfl)
                                                    as_aux_lemma =>
                                                      have HC := Lib.hid (matrix9_any c1 c1 A41 A1 (toN xs).length xs.length k41 k1 (nI (toN xs)) xs _ (nI_length _).symm rfl (by have := HTN.out; omega) (by omega) (by rw [← nv_nI]; exact owns_Rd (I24.out.own 1 rfl)) (owns_Rd (I24.out.own 23 rfl)))
                                                      rw [HEM.out] at HC
                                                      try dsimp only at HC
                                                      go_wp2_with fail
                                                      refine HC.out.mono ?_
                                                      rintro e w26 ⟨rfl, hb⟩
                                                      have I25 := Lib.hid (I24.out.step hb)
                                                      clear I24
                                                      have J23 := Lib.hid (J22.out.trans (hb.mono J22.out.size))
                                                      clear J22
                                                      clear hb HC
                                                      clear a0 a1 b0 b1
                                                      obtain ⟨a0, a1, -, -, -⟩ := blk2cells (I25.out.box 4 rfl)
                                                      obtain ⟨b0, b1, -, -, -⟩ := blk2cells (I25.out.box 22 rfl)
                                                      go_wp2_with fail
                                                      go_loopw [43] (fun i wr => ∃ k : Nat, k ≤ xs.length ∧ i = .int .i64 k ∧ Below w26.heap.size w26 wr) (fun i _ => xs.length - (intOf i).toNat)
                                                      case atStart => exact ⟨0, by omega, rfl, Below.refl _ _⟩
                                                      case round =>
                                                        obtain ⟨k, hk, rfl, hbr⟩ := hrel
                                                        have IR := Lib.hid (I25.out.step hbr)
                                                        have HBR := Lib.hid hbr
                                                        clear hbr a0 a1 b0 b1
                                                        obtain ⟨m0, m1, -, -, -⟩ := blk2cells (IR.out.box 22 rfl)
                                                        by_cases hlt : k < xs.length
                                                        · have hlti : (k : Int) < (xs.length : Int) := by omega
                                                          obtain ⟨mb, mo2, rfl, hmc⟩ := (owns_Rd (IR.out.own 23 rfl)).atI hlt
                                                          have HZK := Lib.hid (HRH.out k hlt)
                                                          generalize xs.getD k 0 = z at *
                                                          obtain ⟨a0, a1, -, -, -⟩ := blk2cells (IR.out.box 4 rfl)
                                                          have KS : Hid (∀ w', Below wr.drew.heap.size wr.drew w' → (w'.cell? ⟨w22.heap.size, 0, none⟩ = some (.int .i64 re.1) ∧ w'.cell? ⟨w22.heap.size, 1, none⟩ = some (.slice A37 re.2.1.length k37)) ∧ (w'.cell? ⟨w2.heap.size, 1, none⟩ = some (.slice (some ⟨mb, mo2, none⟩) xs.length k1) ∧ w'.cell? ⟨mb, mo2 + k, none⟩ = some (.int .i64 z))) := Lib.hid fun w' hb => ⟨⟨cell_keepD (w := wr.drew) a0 hb, cell_keepD (w := wr.drew) a1 hb⟩, ⟨cell_keepD (w := wr.drew) m1 hb, cell_keepD (w := wr.drew) hmc hb⟩⟩
                                                          have HCT := Lib.hid (implHas_any re.1 A37 re.2.1.length k37 (nI re.2.1) z wr.drew (HT.out.below IR.out.drew.bel hw) (Nat.lt_of_lt_of_le hw IR.out.drew.size) (nI_length _).symm (by omega) (by rw [← nv_nI]; exact owns_Rd (IR.out.drew.own 5 rfl)))
                                                          rw [HZK.out] at HCT
                                                          dsimp only at HCT
                                                          go_wp2_with fail
                                                          refine wp_region_held_drew (S := (fun w' => (w'.cell? ⟨w22.heap.size, 0, none⟩ = some (.int .i64 re.1) ∧ w'.cell? ⟨w22.heap.size, 1, none⟩ = some (.slice A37 re.2.1.length k37)) ∧ (w'.cell? ⟨w2.heap.size, 1, none⟩ = some (.slice (some ⟨mb, mo2, none⟩) xs.length k1) ∧ w'.cell? ⟨mb, mo2 + k, none⟩ = some (.int .i64 z)))) (by kernel_rfl) (by (first | exact KS.out _ HBH.out | exact KS.out _ (Below.refl _ _))) (fun hHeld => ?_)
                                                          refine wpAnyH_take (i := 0) (oi := ?oim3_1) (v := ?vm3_1) ?hm3_1 (by kernel_rfl) (by kernel_rfl) (by kernel_rfl) ?qm3_1 (Or.inl ⟨?wm3_1, ?ym3_1⟩) (by assumption) ?rm3_1
                                                          case hm3_1 => (simp only [List.getElem?_toArray, List.getElem?_cons_succ, List.getElem?_cons_zero]; rfl)
                                                          case qm3_1 => exact fun _ _ _ h => h
                                                          case wm3_1 => rfl
                                                          case ym3_1 => (intro w hSw; (try dsimp only at hSw); go_simp <;> with_reducible rfl)
                                                          try simp only [Act.put, List.setIfInBounds_toArray, List.set_cons_zero, List.set_cons_succ]
                                                          refine wpAnyH_take (i := 1) (oi := ?oim3_2) (v := ?vm3_2) ?hm3_2 (by kernel_rfl) (by kernel_rfl) (by kernel_rfl) ?qm3_2 (Or.inl ⟨?wm3_2, ?ym3_2⟩) (by assumption) ?rm3_2
                                                          case hm3_2 => (simp only [List.getElem?_toArray, List.getElem?_cons_succ, List.getElem?_cons_zero]; rfl)
                                                          case qm3_2 => exact fun _ _ _ h => h
                                                          case wm3_2 => rfl
                                                          case ym3_2 => (intro w hSw; (try dsimp only at hSw); go_simp <;> with_reducible rfl)
                                                          try simp only [Act.put, List.setIfInBounds_toArray, List.set_cons_zero, List.set_cons_succ]
                                                          refine wpAnyH_take (i := 2) (oi := ?oim3_3) (v := ?vm3_3) ?hm3_3 (by kernel_rfl) (by kernel_rfl) (by kernel_rfl) ?qm3_3 (Or.inl ⟨?wm3_3, ?ym3_3⟩) (by assumption) ?rm3_3
                                                          case hm3_3 => (simp only [List.getElem?_toArray, List.getElem?_cons_succ, List.getElem?_cons_zero]; rfl)
                                                          case qm3_3 => exact fun _ _ _ h => h
                                                          case wm3_3 => rfl
                                                          case ym3_3 => (intro w hSw; (try dsimp only at hSw); go_simp <;> with_reducible rfl)
                                                          try simp only [Act.put, List.setIfInBounds_toArray, List.set_cons_zero, List.set_cons_succ]
                                                          refine wpAnyH_take (i := 3) (oi := ?oim3_4) (v := ?vm3_4) ?hm3_4 (by kernel_rfl) (by kernel_rfl) (by kernel_rfl) ?qm3_4 (Or.inl ⟨?wm3_4, ?ym3_4⟩) (by assumption) ?rm3_4
                                                          case hm3_4 => (simp only [List.getElem?_toArray, List.getElem?_cons_succ, List.getElem?_cons_zero]; rfl)
                                                          case qm3_4 => exact fun _ _ _ h => h
                                                          case wm3_4 => rfl
                                                          case ym3_4 => (intro w hSw; (try dsimp only at hSw); go_simp <;> with_reducible rfl)
                                                          try simp only [Act.put, List.setIfInBounds_toArray, List.set_cons_zero, List.set_cons_succ]
                                                          refine wpAnyH_take (i := 4) (oi := ?oim3_5) (v := ?vm3_5) ?hm3_5 (by kernel_rfl) (by kernel_rfl) (by kernel_rfl) ?qm3_5 (Or.inl ⟨?wm3_5, ?ym3_5⟩) (by assumption) ?rm3_5
                                                          case hm3_5 => (simp only [List.getElem?_toArray, List.getElem?_cons_succ, List.getElem?_cons_zero]; rfl)
                                                          case qm3_5 => exact fun _ _ _ h => h
                                                          case wm3_5 => rfl
                                                          case ym3_5 => (intro w hSw; (try dsimp only at hSw); go_simp <;> with_reducible rfl)
                                                          try simp only [Act.put, List.setIfInBounds_toArray, List.set_cons_zero, List.set_cons_succ]
                                                          refine wpAnyH_take (i := 5) (oi := ?oim3_6) (v := ?vm3_6) ?hm3_6 (by kernel_rfl) (by kernel_rfl) (by kernel_rfl) ?qm3_6 (Or.inl ⟨?wm3_6, ?ym3_6⟩) (by assumption) ?rm3_6
                                                          case hm3_6 => (simp only [List.getElem?_toArray, List.getElem?_cons_succ, List.getElem?_cons_zero]; rfl)
                                                          case qm3_6 => exact fun _ _ _ h => h
                                                          case wm3_6 => rfl
                                                          case ym3_6 => (intro w hSw; (try dsimp only at hSw); go_simp <;> with_reducible rfl)
                                                          try simp only [Act.put, List.setIfInBounds_toArray, List.set_cons_zero, List.set_cons_succ]
                                                          refine wpAnyH_ready (rs := [6]) (by kernel_rfl) (by simp) ?_
                                                          refine AllReadyH.cons (o := ?oim3_7) ?hm3_7 (fun K hK => ?km3_7) ?mm3_7
                                                          case hm3_7 => (simp only [List.getElem?_toArray, List.getElem?_cons_succ, List.getElem?_cons_zero]; rfl)
                                                          case km3_7 =>
                                                            go_simp
                                                            (go_at_call 17; refine HCT.out.mono ?_; rintro e wh ⟨rfl, hbh⟩; have HBH := Lib.hid hbh; clear hbh)
                                                            refine hK.out _ _ (by (first | exact KS.out _ HBH.out | exact KS.out _ (Below.refl _ _))) (fun hHeld => ?_)
                                                            clear hK K
                                                            try simp only [Act.put, List.setIfInBounds_toArray, List.set_cons_zero, List.set_cons_succ]
                                                            refine wpAnyH_take (i := 7) (oi := ?oim3_8) (v := ?vm3_8) ?hm3_8 (by kernel_rfl) (by kernel_rfl) (by kernel_rfl) ?qm3_8 (Or.inl ⟨?wm3_8, ?ym3_8⟩) (by assumption) ?rm3_8
                                                            case hm3_8 => (simp only [List.getElem?_toArray, List.getElem?_cons_succ, List.getElem?_cons_zero]; rfl)
                                                            case qm3_8 => exact fun _ _ _ h => h
                                                            case wm3_8 => rfl
                                                            case ym3_8 => (intro w hSw; (try dsimp only at hSw); go_simp <;> with_reducible rfl)
                                                            try simp only [Act.put, List.setIfInBounds_toArray, List.set_cons_zero, List.set_cons_succ]
                                                            refine wpAnyH_take (i := 8) (oi := ?oim3_9) (v := ?vm3_9) ?hm3_9 (by kernel_rfl) (by kernel_rfl) (by kernel_rfl) ?qm3_9 (Or.inl ⟨?wm3_9, ?ym3_9⟩) (by assumption) ?rm3_9
                                                            case hm3_9 => (simp only [List.getElem?_toArray, List.getElem?_cons_succ, List.getElem?_cons_zero]; rfl)
                                                            case qm3_9 => exact fun _ _ _ h => h
                                                            case wm3_9 => rfl
                                                            case ym3_9 => (intro w hSw; (try dsimp only at hSw); go_simp <;> with_reducible rfl)
                                                            try simp only [Act.put, List.setIfInBounds_toArray, List.set_cons_zero, List.set_cons_succ]
                                                            refine wpAnyH_take (i := 9) (oi := ?oim3_10) (v := ?vm3_10) ?hm3_10 (by kernel_rfl) (by kernel_rfl) (by kernel_rfl) ?qm3_10 (Or.inl ⟨?wm3_10, ?ym3_10⟩) (by assumption) ?rm3_10
                                                            case hm3_10 => (simp only [List.getElem?_toArray, List.getElem?_cons_succ, List.getElem?_cons_zero]; rfl)
                                                            case qm3_10 => exact fun _ _ _ h => h
                                                            case wm3_10 => rfl
                                                            case ym3_10 => (intro w hSw; (try dsimp only at hSw); go_simp <;> with_reducible rfl)
                                                            try simp only [Act.put, List.setIfInBounds_toArray, List.set_cons_zero, List.set_cons_succ]
                                                            refine wpAnyH_take (i := 10) (oi := ?oim3_11) (v := ?vm3_11) ?hm3_11 (by kernel_rfl) (by kernel_rfl) (by kernel_rfl) ?qm3_11 (Or.inl ⟨?wm3_11, ?ym3_11⟩) (by assumption) ?rm3_11
                                                            case hm3_11 => (simp only [List.getElem?_toArray, List.getElem?_cons_succ, List.getElem?_cons_zero]; rfl)
                                                            case qm3_11 => exact fun _ _ _ h => h
                                                            case wm3_11 => rfl
                                                            case ym3_11 => (intro w hSw; (try dsimp only at hSw); go_simp <;> with_reducible rfl)
                                                            try simp only [Act.put, List.setIfInBounds_toArray, List.set_cons_zero, List.set_cons_succ]
                                                            refine wpAnyH_take (i := 11) (oi := ?oim3_12) (v := ?vm3_12) ?hm3_12 (by kernel_rfl) (by kernel_rfl) (by kernel_rfl) ?qm3_12 (Or.inl ⟨?wm3_12, ?ym3_12⟩) (by assumption) ?rm3_12
                                                            case hm3_12 => (simp only [List.getElem?_toArray, List.getElem?_cons_succ, List.getElem?_cons_zero]; rfl)
                                                            case qm3_12 => exact fun _ _ _ h => h
                                                            case wm3_12 => rfl
                                                            case ym3_12 => (intro w hSw; (try dsimp only at hSw); go_simp <;> with_reducible rfl)
                                                            try simp only [Act.put, List.setIfInBounds_toArray, List.set_cons_zero, List.set_cons_succ]
                                                            refine wpAnyH_done (by kernel_rfl) ?_ _
                                                            have IT := Lib.hid ((HBR.out.drew).trans (HBH.out.mono HBR.out.size))
                                                            clear HBH KS a0 a1 m0 m1 hmc
                                                            go_wp2_with fail
                                                            go_roundw
                                                            case rel => exact ⟨k + 1, by omega, by go_num, IT.out⟩
                                                            case measure => simp [intOf]; omega
                                                          exact AllReadyH.nil
                                                        · have hlti : ¬ (k : Int) < (xs.length : Int) := by omega
                                                          by_cases h8 : tu.2.2 = 0
                                                          · have HG2 := Lib.hid (HAG.out h8)
                                                            rw [h8]
                                                            clear h8 hlt hk
                                                            obtain ⟨t0, t1, -, -, -⟩ := blk2cells (IR.out.box 8 rfl)
                                                            have HC := Lib.hid (implTurn_any tu.1 A33 tu.2.1.length k33 (nI tu.2.1) wr (nI_length _).symm (by omega) (by rw [← nv_nI]; exact owns_Rd (IR.out.own 9 rfl)))
                                                            rw [HG2.out] at HC
                                                            dsimp only at HC
                                                            go_wp2_with fail
                                                            refine HC.out.mono ?_
                                                            rintro e wy ⟨v, rfl, ho, hb⟩
                                                            obtain ⟨A46, k46, rfl, -, -, -⟩ := owns_shape ho
                                                            have IY := Lib.hid ((IR.out.pushOwn hb ho rfl).allocBox #[.int .i64 c1, .slice A46 (toN xs).length k46] 26 rfl)
                                                            clear ho hb HC m0 m1 t0 t1
                                                            obtain ⟨t0, t1, -, -, -⟩ := blk2cells (IY.out.box 0 rfl)
                                                            obtain ⟨m0, m1, -, -, -⟩ := blk2cells (IY.out.box 24 rfl)
                                                            have HC := Lib.hid (matrix9_any c1 c1 A46 A1 (toN xs).length xs.length k46 k1 (nI (toN xs)) xs _ (nI_length _).symm rfl (by have := HTN.out; omega) (by omega) (by rw [← nv_nI]; exact owns_Rd (IY.out.own 1 rfl)) (owns_Rd (IY.out.own 25 rfl)))
                                                            rw [HEM.out] at HC
                                                            go_wp2_with fail
                                                            refine HC.out.mono ?_
                                                            rintro e wz ⟨rfl, hb⟩
                                                            have IZ := Lib.hid (IY.out.step hb)
                                                            clear hb HC
                                                            go_wp2_with fail
                                                            go_ret
                                                            exact ⟨rfl, IZ.out.bel⟩
                                                          · have h8b : (tu.2.2 == 0) = false := by simpa using h8
                                                            clear h8 hlt hk
                                                            go_wp2_with fail
                                                            go_ret
                                                            exact ⟨rfl, IR.out.bel⟩
                                                · have hk0 : re.2.1.length = 0 := by
                                                    rw [← HRE.out, e2]; rfl
                                                  have e3 : re.2.2 = 1 := by rw [← HRE.out, e2]
                                                  rw [HLM.out] at e1
                                                  obtain ⟨a0, a1, -, -, -⟩ := blk2cells (I23.out.box 2 rfl)
                                                  rw [hk0] at a1
                                                  rw [e1, e3]
                                                  clear hk0 e1 e2 e3
                                                  go_wp2_with fail
                                                  go_ret
                                                  exact ⟨rfl, I23.out.bel⟩
end Go.Proofs.YtjhlmalpcelbaaaDoor
