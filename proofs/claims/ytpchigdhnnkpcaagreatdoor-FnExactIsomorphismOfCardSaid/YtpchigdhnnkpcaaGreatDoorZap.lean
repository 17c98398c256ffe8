/- the reference's l11Fault, l11Is · the reference's l11Is · the reference's l12Two; modules and rows that came in -/
import Derived.Test.YtpchigdhnnkpcaaGreatDoorZao
import Derived.Test.YtpchigdhnnkpcaaGreatDoorZan
namespace Go.Proofs.YtpchigdhnnkpcaaGreatDoor
open Go.RowKit

theorem two_ints (w : World) (a b : Int) : Rd (w.alloc (.cells #[.int .i64 a, .int .i64 b] 2)) (some ⟨w.heap.size, 0, none⟩) (iv [a, b]) := by
  have h : (w.alloc (.cells #[.int .i64 a, .int .i64 b] 2)).ownsRow w.heap.size 2 1 (.slice (some ⟨w.heap.size, 0, none⟩) 2 2) 2 (iv [a, b]) :=
    ⟨by simp [iv], .inr ⟨w.heap.size, 2, _, rfl, Nat.le_refl _, blk_new w _, Nat.le_refl _, by decide, by simp, by simp [iv]⟩⟩
  exact owns_Rd h
/-- no fault: no list -/
def FaultPost (ok : Prop) (w : World) (e : Ending) (w' : World) : Prop := ∃ A k cap, e = .returned (.slice A k cap) ∧ (k = 0 ↔ ok) ∧ Below w.heap.size w w'
theorem bits_same (x y n : Nat) (hx : x < 2 ^ n) (hy : y < 2 ^ n) : (bitsL x n == bitsL y n) = decide (x = y) := by
  rw [Bool.eq_iff_iff, beq_iff_eq, decide_eq_true_eq]
  exact ⟨bitsL_inj hx hy, fun h => by rw [h]⟩
theorem wordM_lt {xs : List Int} {Q : List (List Int)} (h : Shp xs Q) {v : Nat} (hv : v < 2 ^ xs.length) : ∀ ws, wordM Q ws v < 2 ^ xs.length
  | [] => hv
  | z :: ws => act_lt h (wordM_lt h hv ws) z
theorem xsumf_lt {α : Type} {n : Nat} (f : α → Nat) : ∀ (l : List α), (∀ a ∈ l, f a < 2 ^ n) → xsumf f l < 2 ^ n
  | [], _ => Nat.two_pow_pos _
  | a :: l, h => by rw [xsumf_cons]; exact xr_lt (h a (List.mem_cons_self ..)) (xsumf_lt f l fun b hb => h b (List.mem_cons_of_mem _ hb))
theorem ademF_row (a b : Nat) : ∀ x ∈ ademF a b, x.length ≤ 2 := ademP_row a b (a / 2 + 1)
theorem ademF_len (a b : Nat) : (ademF a b).length ≤ a / 2 + 1 := ademP_len a b (a / 2 + 1)
theorem wordM2 (Q : List (List Int)) (a b v : Nat) : wordM Q [(a : Int), (b : Int)] v = act Q a (act Q b v) := rfl

set_option maxRecDepth 100000 in
set_option maxHeartbeats 4000000 in
theorem l11Fault_any (A A' : Option Addr) (n c m c' : Nat) (xs : List Int) (L : List Row) (w : World) (hn : n = xs.length) (hR : Rd w A (iv xs)) (hm : m = L.length) (hm1 : m ≤ 1048576) (hR' : RdR w A' L) (hs : Shp xs (dat L)) :
    Calls Tryz.prog 115 #[.agg #[.slice A n c, .slice A' m c']] w (FaultPost (IsMod xs (dat L)) w) := by
  have hn16 : n ≤ 16 := by rw [hn]; exact hs.len
  by_cases h0 : n = 0
  · have h0b : ((n : Int) == 0) = true := by rw [h0]; rfl
    have HOK : Hid (IsMod xs (dat L)) := Lib.hid ⟨hs, fun a b _ _ _ i hi => by omega⟩
    clear hR hm hR' hs hn h0
    go_enter Tryz.func115, Tryz.ntmps115
    go_wp2_with fail
    go_ret
    exact ⟨none, 0, 0, rfl, ⟨fun _ => HOK.out, fun _ => rfl⟩, (Below.refl _ _).alloc (Nat.le_refl _) _⟩
  · have h0b : ((n : Int) == 0) = false := by simp; omega
    obtain ⟨bA, oA, rfl, hc0⟩ := hR.atI (k := 0) (by omega)
    have hc1 := hR.cellI (k := n - 1) (by omega)
    rw [Nat.add_zero] at hc0
    obtain ⟨p1, p2⟩ := hs.deg 0 (by omega)
    obtain ⟨q1, q2⟩ := hs.deg (n - 1) (by omega)
    have hmn := hs.mono' (i := 0) (j := n - 1) (by omega) (by omega)
    obtain ⟨S, hS⟩ : ∃ S : Nat, (S : Int) = xs.getD (n - 1) 0 - xs.getD 0 0 := ⟨(xs.getD (n - 1) 0 - xs.getD 0 0).toNat, by omega⟩
    have HSP := Lib.hid hS
    have HFAR := Lib.hid (fun (a b i : Nat) (hi : i < n) (hab : a < 2 * b) (hf : S < a + b) => far_ok hs (a := a) (b := b) (i := i) (by omega) hab (fun j hj => by
      have h1 := hs.mono' (i := j) (j := n - 1) (by omega) (by omega)
      have h2 := hs.mono' (i := 0) (j := i) (by omega) (by omega)
      omega))
    have HNX := Lib.hid (show n = xs.length from hn)
    have hwi : IntKind.i64.wrap ((n : Int) - 1) = (n : Int) - 1 := by rw [IntKind.wrap_i64]; omega
    have hwi2 : ((n : Int) - 1).toNat = n - 1 := by omega
    have hwi3 : 0 ≤ (n : Int) - 1 := by omega
    have hwi4 : (n : Int) - 1 < (n : Int) := by omega
    have hwd : IntKind.i64.wrap (xs.getD (n - 1) 0 - xs.getD 0 0) = S := by rw [IntKind.wrap_i64]; omega
    have hS20 : S ≤ 20 := by omega
    have HS := Lib.hid hs
    have HWORD := Lib.hid (fun (V X : Option Addr) (cv cx : Nat) (ws : List Int) (v : Nat) W' (hb : Below w.heap.size w W') hk hV hX => l11Word_any (some ⟨bA, oA, none⟩) A' V X n c m c' cv 2 cx xs ws L v W' hn hm hs hm1 hk (by omega) (hR'.below hb) hV hX)
    have HWORDS := Lib.hid (fun (V X : Option Addr) (cv k cx : Nat) (M : List Row) (v : Nat) W' (hb : Below w.heap.size w W') hk hk1 hwl hV hX => l11Words_any (some ⟨bA, oA, none⟩) A' V X n c m c' cv k cx xs L M v W' hn hm hs hm1 hk hk1 hwl (hR'.below hb) hV hX)
    obtain ⟨x0, x1, xf0, xf1, lx⟩ := blk2cells (blk_new w (.cells #[.slice (some ⟨bA, oA, none⟩) n c, .slice A' m c'] 29))
    have hb0 : Below w.heap.size w (w.alloc (.cells #[.slice (some ⟨bA, oA, none⟩) n c, .slice A' m c'] 29)) := (Below.refl _ _).alloc (Nat.le_refl _) _
    have hcc0 := cell_keep hc0 hb0
    have hcc1 := cell_keep hc1 hb0
    generalize xs.getD 0 0 = d0 at *
    generalize xs.getD (n - 1) 0 = d1 at *
    clear hR hm hR' hs hn h0 hS hc0 hc1 hb0 hmn
    go_enter Tryz.func115, Tryz.ntmps115
    go_wp2_with fail
    go_big_quiet (fail)
    have HB0 : Hid (Below w.heap.size w ((w.alloc (.cells #[.slice (some ⟨bA, oA, none⟩) n c, .slice A' m c'] 29)).drewN nq)) := Lib.hid (below_drewN ((Below.refl _ _).alloc (Nat.le_refl _) _) _)
    have HK0 : Hid (((w.alloc (.cells #[.slice (some ⟨bA, oA, none⟩) n c, .slice A' m c'] 29)).drewN nq).heap[w.heap.size]? = some (.cells #[.slice (some ⟨bA, oA, none⟩) n c, .slice A' m c'] 29 (0, 0))) := Lib.hid (blk_new w _)
    generalize (w.alloc (.cells #[.slice (some ⟨bA, oA, none⟩) n c, .slice A' m c'] 29)).drewN nq = W0 at *
    clear hwi hwi2 hwi3 hwi4 hwd x0 x1 xf0 xf1 lx hcc0 hcc1 HSP p1 p2 q1 q2 h0b
    go_wp2_with fail
    go_loopw [5] (fun s5 wr => ∃ a : Nat, 1 ≤ a ∧ a ≤ S + 1 ∧ s5 = .int .i64 a ∧ Hid (∀ a' b i : Nat, 1 ≤ a' → a' < a → a' < 2 * b → i < n → OkAt (dat L) a' b (2 ^ i)) ∧ wr.heap[w.heap.size]? = some (.cells #[.slice (some ⟨bA, oA, none⟩) n c, .slice A' m c'] 29 (0, 0)) ∧ Below w.heap.size w wr) (fun i _ => S + 1 - (intOf i).toNat)
    case atStart => exact ⟨1, by omega, by omega, rfl, Lib.hid (fun a' b i h1 h2 => by omega), HK0.out, HB0.out⟩
    case round =>
      obtain ⟨a, ha1, haS, rfl, HOA, hblk, hbel⟩ := hrel
      have HBL := Lib.hid hbel
      have HBK := Lib.hid hblk
      by_cases hlt : a ≤ S
      · have HDV : Hid (a / 2 + a / 2 ≤ a ∧ a < 2 * (a / 2 + 1)) := Lib.hid (by omega)
        clear hblk hbel
        go_wp2_with fail
        go_loopw [6] (fun s6 wr => ∃ b : Nat, a < 2 * b ∧ b ≤ S + 1 ∧ s6 = .int .i64 b ∧ Hid (∀ b' i : Nat, a < 2 * b' → b' < b → i < n → OkAt (dat L) a b' (2 ^ i)) ∧ wr.heap[w.heap.size]? = some (.cells #[.slice (some ⟨bA, oA, none⟩) n c, .slice A' m c'] 29 (0, 0)) ∧ Below w.heap.size w wr) (fun i _ => S + 1 - (intOf i).toNat)
        case atStart => exact ⟨a / 2 + 1, by omega, by omega, congrArg (Value.int .i64) (by omega), Lib.hid (fun b' i h1 h2 => by omega), HBK.out, HBL.out⟩
        case round =>
          obtain ⟨b, hb2, hbS, rfl, HOB, hblk, hbel⟩ := hrel
          have HBL := Lib.hid hbel
          have HBK := Lib.hid hblk
          have hsz := hbel.size
          by_cases hlt2 : a + b ≤ S
          · have hlt2' : (a : Int) + b ≤ (S : Int) := by omega
            have HF := Lib.hid (form_any a b (some ⟨wr.heap.size, 0, none⟩) 2 (wr.alloc (.cells #[.int .i64 a, .int .i64 b] 2)) ha1 hb2 (by omega) (two_ints wr a b))
            obtain ⟨WR, rfl⟩ : ∃ WR, WR = wr := ⟨wr, rfl⟩
            clear hblk hbel
            go_wp2_with fail
            refine HF.out.mono ?_
            rintro e w1 ⟨v1, M1, rfl, hd1, ho1, hb1⟩
            obtain ⟨A3, c3, rfl, _, himp, heq⟩ := owns_shape ho1.out
            clear himp heq
            have HB1 := Lib.hid (HBL.out.trans ((((Below.refl WR.heap.size WR).alloc (Nat.le_refl _) (.cells #[.int .i64 a, .int .i64 b] 2)).trans (hb1.mono (by simp))).mono hsz))
            have HK1 := Lib.hid (blk_kept (blk_kept HBK.out ((Below.refl WR.heap.size WR).alloc (Nat.le_refl _) (.cells #[.int .i64 a, .int .i64 b] 2))) hb1)
            have HD1 := Lib.hid hd1
            have HRW := Lib.hid (ho1.rd rfl)
            have hMl : M1.length ≤ 100 := by have := ademF_len a b; rw [← hd1, dat_length] at this; omega
            have HWL := Lib.hid (row_getD_len hd1 (fun x hx => Nat.le_trans (ademF_row a b x hx) (show 2 ≤ 1048576 by omega)))
            clear hd1 ho1 hb1
            go_wp2_with fail
            go_loopw [8] (fun s8 wr => ∃ v : Nat, v ≤ n ∧ s8 = .int .i64 v ∧ Hid (∀ i : Nat, i < v → OkAt (dat L) a b (2 ^ i)) ∧ Below w1.heap.size w1 wr) (fun i _ => n - (intOf i).toNat)
            case atStart => exact ⟨0, by omega, rfl, Lib.hid (fun i h => by omega), Below.refl _ _⟩
            case round =>
              obtain ⟨v, hv, rfl, HOV, hbel⟩ := hrel
              by_cases hlt3 : v < n
              · have HU := Lib.hid (l11Unit_any n v wr hlt3 (by omega))
                have HBV := Lib.hid hbel
                clear hbel
                go_wp2_with fail
                refine HU.out.mono ?_
                rintro e w2 ⟨gu, cu, rfl, ho, hb⟩
                have HB2 := Lib.hid (HBV.out.trans (hb.mono HBV.out.size))
                have HUR := Lib.hid (owns_Rd ho)
                clear ho hb
                go_wp2_with fail
                have HBz := Lib.hid (HB1.out.trans (HB2.out.mono HB1.out.size))
                have HKz := Lib.hid (blk_kept HK1.out HB2.out)
                have HRz := Lib.hid (HRW.out.below HB2.out)
                have hszz := HBz.out.size
                have HXW : Hid (wordM (dat L) [(a : Int), (b : Int)] (2 ^ v) < 2 ^ n) := Lib.hid (by have := wordM_lt HS.out (v := 2 ^ v) (pow_lt_pow (by rw [← HNX.out]; exact hlt3)) [(a : Int), (b : Int)]; rw [← HNX.out] at this; exact this)
                have HXS : Hid (adem (dat L) a b (2 ^ v) < 2 ^ n) := Lib.hid (by
                  rw [← adem_form]
                  refine xsumf_lt _ _ fun u _ => ?_
                  have := wordM_lt HS.out (v := 2 ^ v) (pow_lt_pow (by rw [← HNX.out]; exact hlt3)) u
                  rw [← HNX.out] at this; exact this)
                have HOKA : Hid (OkAt (dat L) a b (2 ^ v) ↔ wordM (dat L) [(a : Int), (b : Int)] (2 ^ v) = adem (dat L) a b (2 ^ v)) := Lib.hid Iff.rfl
                have HW96 := Lib.hid (fun W' X (hb : Below w2.heap.size w2 W') hX => HWORD.out (some ⟨gu, 0, none⟩) X cu 2 [(a : Int), (b : Int)] (2 ^ v) W' (HBz.out.trans (hb.mono hszz)) rfl (HUR.out.below hb) hX)
                have HW97 := Lib.hid (fun W' (hb : Below w2.heap.size w2 W') => HWORDS.out (some ⟨gu, 0, none⟩) A3 cu M1.length c3 M1 (2 ^ v) W' (HBz.out.trans (hb.mono hszz)) rfl (by omega) HWL.out (HUR.out.below hb) (HRz.out.below hb))
                rw [HD1.out] at HW97
                simp only [adem_form] at HW97
                generalize wordM (dat L) [(a : Int), (b : Int)] (2 ^ v) = XW at *
                generalize adem (dat L) a b (2 ^ v) = XS at *
                have HW95 := Lib.hid (fun W' G G' c1 c2 hX hY => l01Same_any G G' n n c1 c2 (bitsL XW n) (bitsL XS n) W' (bitsL_length _ _).symm (bitsL_length _ _).symm (by omega) (by omega) hX hY)
                rw [bits_same XW XS n HXW.out HXS.out] at HW95
                have KS := Lib.hid (fun w' (hb : Below w2.heap.size w2 w') => show w'.cell? ⟨w.heap.size, 0, none⟩ = some (.slice (some ⟨bA, oA, none⟩) n c) ∧ w'.cell? ⟨w.heap.size, 1, none⟩ = some (.slice A' m c') from ⟨(blk2cells (blk_kept HKz.out hb)).1, (blk2cells (blk_kept HKz.out hb)).2.1⟩)
                have HBd := Lib.hid (Below.drew (Below.refl w2.heap.size w2))
                have HBa : Hid (Below w2.heap.size w2 (w2.alloc (.cells #[.int .i64 a, .int .i64 b] 2)).drew) := Lib.hid ((Below.refl _ _).alloc (Nat.le_refl _) _).drew
                have HXa : Hid (Rd (w2.alloc (.cells #[.int .i64 a, .int .i64 b] 2)).drew (some ⟨w2.heap.size, 0, none⟩) (iv [(a : Int), (b : Int)])) := Lib.hid (two_ints w2 a b)
                have HT := Lib.hid (fun (h : OkAt (dat L) a b (2 ^ v)) (i : Nat) (hi : i < v + 1) => show OkAt (dat L) a b (2 ^ i) from by
                  by_cases e : i = v
                  · subst e; exact h
                  · exact HOV.out i (by omega))
                have HNO := Lib.hid (fun (h : ¬ OkAt (dat L) a b (2 ^ v)) => show ¬ IsMod xs (dat L) from fun hm => h (hm.ok a b ha1 hb2 (by omega) v (by rw [← HNX.out]; exact hlt3)))
                have hba : a + b ≤ 20 := by omega
                clear HWORD HWORDS HF HFAR HOA HOB HOV
                cases hdec : decide (XW = XS)
                all_goals
                  rw [hdec] at HW95
                  have HDEC := Lib.hid hdec
                  clear hdec
                  go_region_held3 (fun w' => w'.cell? ⟨w.heap.size, 0, none⟩ = some (.slice (some ⟨bA, oA, none⟩) n c) ∧ w'.cell? ⟨w.heap.size, 1, none⟩ = some (.slice A' m c'))
                    (first | exact KS.out _ HBa.out | exact KS.out _ HBd.out | exact KS.out _ HB3.out | exact KS.out _ HB4.out | exact KS.out _ HB5.out | exact KS.out _ (HB5.out.alloc HB5.out.size _) | exact KS.out _ (below_drewN HB4.out _))
                    (first
                      | (go_at_call 134; (with_reducible refine (HW96.out _ _ HBa.out HXa.out).mono ?_); (rintro e w3 ⟨G, cg, rfl, ho, hb⟩; have HG := Lib.hid ho; have HB3 := Lib.hid (HBa.out.trans (hb.mono HBa.out.size)); clear ho hb))
                      | (go_at_call 135; (with_reducible refine (HW97.out _ HB3.out).mono ?_); (rintro e w4 ⟨gs, cs, rfl, ho, hb⟩; have HGS := Lib.hid (owns_Rd ho); have HG2 := Lib.hid (HG.out.below hb); have HB4 := Lib.hid (HB3.out.trans (hb.mono HB3.out.size)); clear ho hb))
                      | (go_at_call 135; (with_reducible refine (HW97.out _ HBa.out).mono ?_); (rintro e w3 ⟨gs, cs, rfl, ho, hb⟩; have HGS3 := Lib.hid (owns_Rd ho); have HX3 := Lib.hid (HXa.out.below hb); have HB3' := Lib.hid (HBa.out.trans (hb.mono HBa.out.size)); have HB3 := HB3'; clear ho hb))
                      | (go_at_call 134; (with_reducible refine (HW96.out _ _ HB3'.out HX3.out).mono ?_); (rintro e w4 ⟨G, cg, rfl, ho, hb⟩; have HG2 := Lib.hid ho; have HGS := Lib.hid (HGS3.out.below hb); have HB4 := Lib.hid (HB3'.out.trans (hb.mono HB3'.out.size)); clear ho hb))
                      | (go_at_call 135; (with_reducible refine (HW97.out _ HBd.out).mono ?_); (rintro e w3 ⟨gs, cs, rfl, ho, hb⟩; have HGS5 := Lib.hid (owns_Rd ho); have HB5 := Lib.hid (HBd.out.trans (hb.mono HBd.out.size)); clear ho hb))
                      | (go_at_call 134; (with_reducible refine (HW96.out _ _ (HB5.out.alloc HB5.out.size _) (two_ints w3 a b)).mono ?_); (rintro e w4 ⟨G, cg, rfl, ho, hb⟩; have HG2 := Lib.hid ho; have HGS := Lib.hid ((HGS5.out.alloc _).below hb); have HB4 := Lib.hid ((HB5.out.alloc HB5.out.size _).trans (hb.mono (HB5.out.alloc HB5.out.size _).size)); clear ho hb))
                      | (go_at_call 133; (with_reducible refine (HW95.out _ _ _ _ _ HG2.out HGS.out).mono ?_); (rintro e w5 ⟨rfl, mm, rfl⟩)))
                · all_goals
                    have HF := Lib.hid (HNO.out (fun h => absurd (HOKA.out.1 h) (of_decide_eq_false HDEC.out)))
                    go_wp2_with fail
                    go_ret
                    exact ⟨_, 3, 3, rfl, ⟨fun h => by omega, fun h => absurd h HF.out⟩, ((below_drewN (HBz.out.trans (HB4.out.mono hszz)) _).alloc (by have := HB4.out.size; show _ ≤ w4.heap.size; omega) _)⟩
                · all_goals
                    have HF := Lib.hid (HT.out (HOKA.out.2 (of_decide_eq_true HDEC.out)))
                    go_wp2_with fail
                    go_roundw
                    case rel => exact ⟨v + 1, by omega, by go_num, HF, below_drewN (HB2.out.trans (HB4.out.mono HB2.out.size)) _⟩
                    case measure => simp [intOf]; omega
              · obtain rfl : v = n := by omega
                have HB2 := Lib.hid (HB1.out.trans (hbel.mono HB1.out.size))
                have HK2 := Lib.hid (blk_kept HK1.out hbel)
                clear hbel
                go_wp2_with fail
                go_roundw
                case rel =>
                  refine ⟨b + 1, by omega, by omega, by go_num, Lib.hid (fun b' i h1 h2 hi => ?_), HK2.out, HB2.out⟩
                  by_cases e : b' = b
                  · subst e; exact HOV.out i hi
                  · exact HOB.out b' i h1 (by omega) hi
                case measure => simp [intOf]; omega
          · have hlt2' : ¬ (a : Int) + b ≤ (S : Int) := by omega
            clear hblk hbel
            go_wp2_with fail
            go_roundw
            case rel =>
              refine ⟨a + 1, by omega, by omega, by go_num, Lib.hid (fun a' b' i h1 h2 h3 hi => ?_), HBK.out, HBL.out⟩
              by_cases e : a' = a
              · subst e
                by_cases e2 : b' < b
                · exact HOB.out b' i h3 e2 hi
                · exact HFAR.out _ b' i hi h3 (by omega)
              · exact HOA.out a' b' i h1 (by omega) h3 hi
            case measure => simp [intOf]; omega
      · have HEND := Lib.hid (fun (a' b i : Nat) (h1 : 1 ≤ a') (h2 : a' < 2 * b) (hi : i < n) => show OkAt (dat L) a' b (2 ^ i) from by
          by_cases h : a' < a
          · exact HOA.out a' b i h1 h h2 hi
          · exact HFAR.out a' b i hi h2 (by omega))
        have HOK : Hid (IsMod xs (dat L)) := Lib.hid ⟨HS.out, fun a' b h1 h2 _ i hi => HEND.out a' b i h1 h2 (by rw [HNX.out]; exact hi)⟩
        clear hblk hbel
        go_wp2_with fail
        go_ret
        exact ⟨none, 0, 0, rfl, ⟨fun _ => HOK.out, fun _ => rfl⟩, HBL.out⟩
end Go.Proofs.YtpchigdhnnkpcaaGreatDoor

namespace Go.Proofs.YtpchigdhnnkpcaaGreatDoor
open Go.RowKit

theorem modB_yes {xs : List Int} {Q : List (List Int)} (h : IsMod xs Q) : modB xs Q = true := modB_iff.2 h
theorem modB_no {xs : List Int} {Q : List (List Int)} (h : ¬ IsMod xs Q) : modB xs Q = false := modB_false.2 h
theorem shpB_iff {xs : List Int} {Q : List (List Int)} : shpB xs Q = true ↔ Shp xs Q := by unfold shpB; simp
theorem shpB_not {xs : List Int} {Q : List (List Int)} (h : shpB xs Q = false) : ¬ Shp xs Q := fun h' => by rw [shpB_true h'] at h; cases h

set_option maxHeartbeats 1000000 in
theorem l11Is_any (A A' : Option Addr) (n c m c' : Nat) (xs : List Int) (L : List Row) (w : World) (hn : n = xs.length) (hsm : n ≤ 1048576) (hR : Rd w A (iv xs)) (hm : m = L.length) (hm1 : m ≤ 1048576) (hl : ∀ i, i < L.length → (rg L i).xs.length ≤ 1048576) (hR' : RdR w A' L) :
    Calls Tryz.prog 97 #[.agg #[.slice A n c, .slice A' m c']] w fun e w' => e = .returned (.bool (modB xs (dat L))) ∧ Below w.heap.size w w' := by
  have hb0 : Below w.heap.size w (w.alloc (.cells #[.slice A n c, .slice A' m c'] 29)) := (Below.refl _ _).alloc (Nat.le_refl _) _
  have hk0 := blk_new w (.cells #[.slice A n c, .slice A' m c'] 29)
  obtain ⟨x0, x1, xf0, xf1, lx⟩ := blk2cells hk0
  have HSH := Lib.hid (l11Shape_any A A' n c m c' xs L _ hn hsm (hR.below hb0) hm hm1 hl (hR'.below hb0))
  have HB0 := Lib.hid hb0
  have HK0 := Lib.hid hk0
  cases hs : shpB xs (dat L)
  · rw [hs] at HSH
    have HF := Lib.hid (modB_no (fun h => shpB_not hs h.shp))
    clear hb0 hk0 hn hR hm hl hR' hs
    go_enter Tryz.func97, Tryz.ntmps97
    go_wp2_with (go_at_call 114; refine HSH.out.mono ?_; rintro e w1 ⟨rfl, hb⟩; have HB1 := Lib.hid (HB0.out.trans (hb.mono HB0.out.size)); clear hb)
    go_ret
    exact ⟨by rw [HF.out]; rfl, HB1.out⟩
  · rw [hs] at HSH
    have HFA := Lib.hid (fun W (hb : Below w.heap.size w W) => l11Fault_any A A' n c m c' xs L W hn (hR.below hb) hm hm1 (hR'.below hb) (shpB_iff.1 hs))
    clear hb0 hk0 hn hR hm hl hR' hs
    go_enter Tryz.func97, Tryz.ntmps97
    go_wp2_with fail
    refine HSH.out.mono ?_
    rintro e w1 ⟨rfl, hb⟩
    have HB1 := Lib.hid (HB0.out.trans (hb.mono HB0.out.size))
    have HK1 := Lib.hid (blk_kept HK0.out hb)
    clear hb x0 x1 xf0 xf1 lx
    obtain ⟨x0, x1, xf0, xf1, lx⟩ := blk2cells HK1.out
    go_wp2_with fail
    refine (HFA.out _ HB1.out).mono ?_
    rintro e w2 ⟨F, k, cap, rfl, hiff, hb⟩
    have HB2 := Lib.hid (HB1.out.trans (hb.mono HB1.out.size))
    have HI := Lib.hid hiff
    clear hb hiff
    by_cases hk : k = 0
    · have HT := Lib.hid (modB_yes (HI.out.1 hk))
      have hkb : ((k : Int) == 0) = true := by rw [hk]; rfl
      clear hk
      go_wp2_with fail
      go_ret
      exact ⟨by rw [HT.out]; rfl, HB2.out⟩
    · have HT := Lib.hid (modB_no (fun h => hk (HI.out.2 h)))
      have hkb : ((k : Int) == 0) = false := by simp; omega
      clear hk
      go_wp2_with fail
      go_ret
      exact ⟨by rw [HT.out]; rfl, HB2.out⟩
end Go.Proofs.YtpchigdhnnkpcaaGreatDoor

namespace Go.Proofs.YtpchigdhnnkpcaaGreatDoor
open Go.RowKit

/-- a module that has come in -/
structure ModIn (w : World) (A : Option Addr) (n : Nat) (A' : Option Addr) (m : Nat) (xs : List Int) (L : List Row) : Prop where
  r : ModR w A n A' m xs L
  hsm : n ≤ 1048576
  hl : ∀ i, i < L.length → (rg L i).xs.length ≤ 1048576
theorem ModIn.below {w w' : World} {A A' : Option Addr} {n m : Nat} {xs : List Int} {L : List Row} (h : ModIn w A n A' m xs L) (hb : Below w.heap.size w w') : ModIn w' A n A' m xs L := ⟨h.r.below hb, h.hsm, h.hl⟩
theorem ModIn.is {w : World} {A A' : Option Addr} {n m : Nat} {xs : List Int} {L : List Row} (h : ModIn w A n A' m xs L) (c c' : Nat) (W : World) (hb : Below w.heap.size w W) :
    Calls Tryz.prog 97 #[.agg #[.slice A n c, .slice A' m c']] W fun e w' => e = .returned (.bool (modB xs (dat L))) ∧ Below W.heap.size W w' :=
  l11Is_any A A' n c m c' xs L W h.r.hn h.hsm (h.r.deg.below hb) h.r.hm h.r.hm1 h.hl (h.r.act.below hb)
/-- rows that have come in -/
structure RowsIn (w : World) (A : Option Addr) (k : Nat) (P : List Row) : Prop where
  hk : k = P.length
  hk1 : k ≤ 1048576
  hl : ∀ i, i < P.length → (rg P i).xs.length ≤ 1048576
  rd : RdR w A P
theorem RowsIn.below {w w' : World} {A : Option Addr} {k : Nat} {P : List Row} (h : RowsIn w A k P) (hb : Below w.heap.size w w') : RowsIn w' A k P := ⟨h.hk, h.hk1, h.hl, h.rd.below hb⟩

def twoC (a b : Bool) : Int := if a = true ∧ b = true then 0 else 1
theorem twoC_ff (b : Bool) : twoC false b = 1 := rfl
theorem twoC_tf : twoC true false = 1 := rfl
theorem twoC_tt : twoC true true = 0 := rfl
/-- two boxes of modules -/
theorem box_two (w : World) (A A' B B' : Option Addr) (n c m c' p d q d' : Nat) :
    Below w.heap.size w ((w.alloc (.cells #[.slice A n c, .slice A' m c'] 29)).alloc (.cells #[.slice B p d, .slice B' q d'] 29)) ∧
    ((w.alloc (.cells #[.slice A n c, .slice A' m c'] 29)).alloc (.cells #[.slice B p d, .slice B' q d'] 29)).heap[w.heap.size]? = some (.cells #[.slice A n c, .slice A' m c'] 29 (0, 0)) ∧
    ((w.alloc (.cells #[.slice A n c, .slice A' m c'] 29)).alloc (.cells #[.slice B p d, .slice B' q d'] 29)).heap[w.heap.size + 1]? = some (.cells #[.slice B p d, .slice B' q d'] 29 (0, 0)) :=
  ⟨((Below.refl _ _).alloc (Nat.le_refl _) _).alloc (by simp) _, blk_alloc (blk_new w _) _, blk_new1 w _ _⟩

set_option maxHeartbeats 2000000 in
theorem l12Two_any (A A' B B' : Option Addr) (n c m c' p d q d' : Nat) (xs ys : List Int) (L M : List Row) (w : World) (hM : ModIn w A n A' m xs L) (hN : ModIn w B p B' q ys M) :
    Calls Tryz.prog 65 #[.agg #[.slice A n c, .slice A' m c'], .agg #[.slice B p d, .slice B' q d']] w fun e w' => e = .returned (.int .i64 (twoC (modB xs (dat L)) (modB ys (dat M)))) ∧ Below w.heap.size w w' := by
  obtain ⟨hb0, hk1, hk2⟩ := box_two w A A' B B' n c m c' p d q d'
  have HB0 := Lib.hid hb0
  have HK1 := Lib.hid hk1
  have HK2 := Lib.hid hk2
  have HM := Lib.hid (hM.is c c')
  have HN := Lib.hid (hN.is d d')
  clear hb0 hk1 hk2 hM hN
  obtain ⟨x0, x1, xf0, xf1, lx⟩ := blk2cells HK1.out
  go_enter Tryz.func65, Tryz.ntmps65
  cases h1 : modB xs (dat L)
  · rw [h1] at HM
    clear h1
    go_wp2_with (go_at_call 97; refine (HM.out _ HB0.out).mono ?_; rintro e w1 ⟨rfl, hb⟩; have HB1 := Lib.hid (HB0.out.trans (hb.mono HB0.out.size)); clear hb)
    go_ret
    exact ⟨by rw [twoC_ff]; rfl, HB1.out⟩
  · rw [h1] at HM
    clear h1
    cases h2 : modB ys (dat M)
    all_goals
      rw [h2] at HN
      clear h2
      go_wp2_with fail
      refine (HM.out _ HB0.out).mono ?_
      rintro e w1 ⟨rfl, hb⟩
      have HB1 := Lib.hid (HB0.out.trans (hb.mono HB0.out.size))
      have HK2a := Lib.hid (blk_kept HK2.out hb)
      clear hb x0 x1 xf0 xf1 lx
      obtain ⟨y0, y1, yf0, yf1, ly⟩ := blk2cells HK2a.out
      go_wp2_with (go_at_call 97; refine (HN.out _ HB1.out).mono ?_; rintro e w2 ⟨rfl, hb⟩; have HB2 := Lib.hid (HB1.out.trans (hb.mono HB1.out.size)); clear hb)
      go_ret
    · exact ⟨by rw [twoC_tf]; rfl, HB2.out⟩
    · exact ⟨by rw [twoC_tt]; rfl, HB2.out⟩
end Go.Proofs.YtpchigdhnnkpcaaGreatDoor
