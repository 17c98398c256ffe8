/- impl's (*table).fault, IsModule -/
import Derived.Test.YtocllmhkppkfoaaPi
import Derived.Test.YtocllmhkppkfoaaPg
import Derived.Test.YtocllmhkppkfoaaLi
namespace Go.Proofs.Ytocllmhkppkfoaa
open Go.RowKit

theorem xsumf_take {f : Nat → Nat} (l : List Nat) {k : Nat} (hk : k < l.length) : xsumf f (l.take (k + 1)) = xr (xsumf f (l.take k)) (f (l.getD k 0)) := by
  rw [List.take_succ_eq_append_getElem hk, xsumf_append, xsumf_cons]
  congr 1
  simp [List.getD, hk, xsumf, xr_zero]
theorem xr_eq_zero {a b : Nat} : xr a b = 0 ↔ a = b := by
  constructor
  · intro h
    have := xr_xr a b
    rw [h, xr_zero] at this; exact this
  · rintro rfl; exact xr_self a
theorem relN_le {a b k : Nat} (hk : k < (relN a b).length) : 2 * (relN a b).getD k 0 ≤ a := (mem_relN (b := b) (by simp [List.getD, hk])).1
theorem relN_len (a b : Nat) : (relN a b).length ≤ a / 2 + 1 := relF_len a b (a / 2 + 1)

/-- no fault: nil -/
def FaultN (ok : Prop) (w : World) (e : Ending) (w' : World) : Prop := ((e = .returned (.slice none 0 0) ∧ ok) ∨ ∃ g, e = .returned (.slice (some ⟨g, 0, none⟩) 3 3) ∧ ¬ ok) ∧ Below w.heap.size w w'
attribute [local go_sem] i64_xor_nat in
set_option maxRecDepth 100000 in
set_option maxHeartbeats 4000000 in
theorem fault_any (g : Nat) (A : Option Addr) (n c : Nat) (xs : List Int) (Q : List (List Int)) (w : World) (hn : n = xs.length) (hs : Shp xs Q) (ht : TblAt w g A n c Q) :
    Calls Try.prog 78 #[.pointer (some ⟨g, 0, none⟩)] w (FaultN (IsMod xs Q) w) := by
  have hn16 : n ≤ 16 := by rw [hn]; exact hs.len
  have HSQ := Lib.hid (fun (z y : Int) (v : Nat) W (hb : Below w.heap.size w W) hz hy hv => square_any g A n c xs Q z y v W hn hs hz hy hv (ht.below hb))
  have HC := Lib.hid ht.c0
  have HALT := Lib.hid (fun (z : Int) {v : Nat} (hv : v < 2 ^ xs.length) => act_lt hs hv z)
  have HSM := Lib.hid (fun (v : Nat) (hv : v < 2 ^ xs.length) => sm_of_len hs.len hv)
  have Hn := Lib.hid hn
  have HS := Lib.hid hs
  clear hn hs ht
  go_enter Try.func78, Try.ntmps78
  go_wp2_with fail
  go_loopw [3] (fun s3 wr => ∃ a : Nat, 1 ≤ a ∧ a ≤ 21 ∧ s3 = .int .i64 a ∧ Hid (∀ a' b i : Nat, 1 ≤ a' → a' < a → a' < 2 * b → a' + b ≤ 20 → i < n → OkAt Q a' b (2 ^ i)) ∧ Below w.heap.size w wr) (fun i _ => 21 - (intOf i).toNat)
  case atStart => exact ⟨1, by omega, by omega, rfl, Lib.hid (fun a' b i h1 h2 => by omega), Below.refl _ _⟩
  case round =>
    obtain ⟨a, ha1, ha2, rfl, HOA, hbel⟩ := hrel
    have HBL := Lib.hid hbel
    by_cases hlt : a ≤ 20
    · clear hbel
      go_wp2_with fail
      go_loopw [4] (fun s4 wr => ∃ b : Nat, a < 2 * b ∧ b ≤ 21 ∧ s4 = .int .i64 b ∧ Hid (∀ b' i : Nat, a < 2 * b' → b' < b → a + b' ≤ 20 → i < n → OkAt Q a b' (2 ^ i)) ∧ Below w.heap.size w wr) (fun i _ => 21 - (intOf i).toNat)
      case atStart => exact ⟨a / 2 + 1, by omega, by omega, congrArg (Value.int .i64) (by omega), Lib.hid (fun b' i h1 h2 => by omega), HBL.out⟩
      case round =>
        obtain ⟨b, hb2, hb3, rfl, HOB, hbel⟩ := hrel
        have HBL := Lib.hid hbel
        have hsz := hbel.size
        by_cases hlt2 : a + b ≤ 20
        · have hlt2' : (a : Int) + b ≤ 20 := by omega
          have HR := Lib.hid (relation_any a b wr ha1 hb2 (by omega))
          clear hbel
          go_wp2_with fail
          refine HR.out.mono ?_
          rintro e w1 ⟨gr, k, cr, rfl, hk, ho, hb⟩
          have HB1 := Lib.hid (HBL.out.trans (hb.mono hsz))
          have HK := hk
          have HRR := Lib.hid (owns_Rd ho)
          have hk20 : k ≤ 20 := by have := relN_len a b; have := hk.out; omega
          have hc0 := cell_keep HC.out (HB1.out)
          clear hk ho hb
          go_wp2_with fail
          go_loop [31] (fun s => ∃ v : Nat, v ≤ n ∧ s = .int .i64 v ∧ Hid (∀ i : Nat, i < v → OkAt Q a b (2 ^ i))) (fun i => n - (intOf i).toNat)
          case atStart => exact ⟨0, by omega, rfl, Lib.hid (fun i h => by omega)⟩
          case round =>
            obtain ⟨v, hv, rfl, HOV⟩ := hrel
            by_cases hlt3 : v < n
            · have HE : Hid (((2 ^ v : Nat) : Int) = (2 : Int) ^ v) := Lib.hid (by simp)
              obtain ⟨hp1, hp2⟩ := pow2_bd (d := v) (by omega)
              have HV : Hid (2 ^ v < 2 ^ xs.length) := Lib.hid (pow_lt_pow (by rw [← Hn.out]; exact hlt3))
              have HQ1 := Lib.hid (HSQ.out (b : Int) ((2 : Int) ^ v) (2 ^ v) w1 HB1.out (by omega) HE.out.symm HV.out)
              have HQ2 := Lib.hid (HSQ.out (a : Int) ((act Q (b : Int) (2 ^ v) : Nat) : Int) _ w1 HB1.out (by omega) rfl (HALT.out (b : Int) HV.out))
              have HXL := Lib.hid (HALT.out (a : Int) (HALT.out (b : Int) HV.out))
              have HF := Lib.hid (fun j : Nat => HALT.out ((a + b - j : Nat) : Int) (HALT.out (j : Int) HV.out))
              have HQ3 := Lib.hid (fun (j : Nat) (hj : 2 * j ≤ a) => HSQ.out (j : Int) ((2 : Int) ^ v) (2 ^ v) w1 HB1.out (by omega) HE.out.symm HV.out)
              have HQ4 := Lib.hid (fun (j : Nat) (hj : 2 * j ≤ a) => HSQ.out ((a + b - j : Nat) : Int) ((act Q (j : Int) (2 ^ v) : Nat) : Int) _ w1 HB1.out (by omega) rfl (HALT.out (j : Int) HV.out))
              obtain ⟨F, hF⟩ : ∃ F : Nat → Nat, F = fun j : Nat => act Q ((a + b - j : Nat) : Int) (act Q (j : Int) (2 ^ v)) := ⟨_, rfl⟩
              have HOK : Hid (OkAt Q a b (2 ^ v) ↔ act Q (a : Int) (act Q (b : Int) (2 ^ v)) = xsumf F (relN a b)) := Lib.hid (by rw [hF]; exact Iff.rfl)
              have HFJ : Hid (∀ j : Nat, act Q ((a + b - j : Nat) : Int) (act Q (j : Int) (2 ^ v)) = F j) := Lib.hid (fun j => by rw [hF])
              clear hF
              go_wp2_with fail
              refine HQ1.out.mono ?_
              rintro e w' ⟨rfl, rfl⟩
              go_wp2_with fail
              refine HQ2.out.mono ?_
              rintro e w' ⟨rfl, rfl⟩
              generalize act Q (a : Int) (act Q (b : Int) (2 ^ v)) = X at *
              have hXs := HSM.out _ HXL.out
              clear HQ1 HQ2
              go_wp2_with fail
              go_loop [7, 44] (fun x i => ∃ q : Nat, q ≤ k ∧ i = .int .i64 q ∧ x = .int .i64 ((xr X (xsumf F ((relN a b).take q)) : Nat) : Int)) (fun _ i => k - (intOf i).toNat)
              case atStart => exact ⟨0, by omega, rfl, by rw [show xsumf F ((relN a b).take 0) = 0 from rfl, xr_zero]⟩
              case round =>
                obtain ⟨q, hq, rfl, rfl⟩ := hrel
                have h1 : Sm (xr X (xsumf F ((relN a b).take q))) := hXs.xr (HSM.out _ (xsumf_lt F _ fun j _ => by rw [← HFJ.out j]; exact HF.out j))
                by_cases hlt4 : q < k
                · have hqR : q < (relN a b).length := by rw [← HK.out]; exact hlt4
                  obtain ⟨b1, o1, he1, hcj⟩ := HRR.out.atN hqR
                  injection he1 with he1
                  injection he1 with he1 he2 _
                  subst he1
                  subst he2
                  rw [Nat.zero_add] at hcj
                  have hj := relN_le hqR
                  have HX := Lib.hid (xsumf_take (f := F) (relN a b) hqR)
                  generalize (relN a b).getD q 0 = j at *
                  have HP3 := Lib.hid (HQ3.out j hj)
                  have HP4 := Lib.hid (HQ4.out j hj)
                  have h2 : Sm (F j) := HSM.out _ (by rw [← HFJ.out j]; exact HF.out j)
                  have e3 : ((a + b - j : Nat) : Int) = (a : Int) + b - j := by omega
                  rw [HFJ.out j, e3] at HP4
                  have HXX : Hid (xr X (xsumf F ((relN a b).take (q + 1))) = xr (xr X (xsumf F ((relN a b).take q))) (F j)) := Lib.hid (by rw [HX.out, xr_assoc])
                  have hj20 : j ≤ 20 := by omega
                  generalize xr X (xsumf F ((relN a b).take q)) = Y at *
                  generalize F j = Z at *
                  clear e3
                  go_wp2_with fail
                  refine HP3.out.mono ?_
                  rintro e w' ⟨rfl, rfl⟩
                  go_wp2_with fail
                  refine HP4.out.mono ?_
                  rintro e w' ⟨rfl, rfl⟩
                  go_wp2_with fail
                  go_round
                  case rel => exact ⟨q + 1, by omega, by go_num, by rw [HXX.out]⟩
                  case measure => simp [intOf]; omega
                · have he : (relN a b).take q = relN a b := List.take_of_length_le (by rw [← HK.out]; omega)
                  rw [he] at h1 ⊢
                  by_cases hz : xr X (xsumf F (relN a b)) = 0
                  · have HYES := Lib.hid (HOK.out.2 (xr_eq_zero.1 hz))
                    have hzb : (((xr X (xsumf F (relN a b)) : Nat) : Int) != 0) = false := by rw [hz]; rfl
                    generalize xr X (xsumf F (relN a b)) = Y at *
                    clear hz he
                    go_wp2_with fail
                    go_round
                    case rel =>
                      refine ⟨v + 1, by omega, by go_num, Lib.hid (fun i hi => ?_)⟩
                      by_cases e : i = v
                      · subst e; exact HYES.out
                      · exact HOV.out i (by omega)
                    case measure => simp [intOf]; omega
                  · have HNO := Lib.hid (show ¬ IsMod xs Q from fun hm => hz (xr_eq_zero.2 (HOK.out.1 (hm.ok a b ha1 hb2 hlt2 v (by rw [← Hn.out]; exact hlt3)))))
                    have hzb : (((xr X (xsumf F (relN a b)) : Nat) : Int) != 0) = true := by simp; omega
                    generalize xr X (xsumf F (relN a b)) = Y at *
                    clear hz he
                    go_wp2_with fail
                    go_ret
                    exact ⟨.inr ⟨_, rfl, HNO.out⟩, HB1.out.alloc HB1.out.size _⟩
            · obtain rfl : v = n := by omega
              go_wp2_with fail
              go_roundw
              case rel =>
                refine ⟨b + 1, by omega, by omega, by go_num, Lib.hid (fun b' i h1 h2 h3 hi => ?_), HB1.out⟩
                by_cases e : b' = b
                · subst e; exact HOV.out i hi
                · exact HOB.out b' i h1 (by omega) h3 hi
              case measure => simp [intOf]; omega
        · have hlt2' : ¬ (a : Int) + b ≤ 20 := by omega
          clear hbel
          go_wp2_with fail
          go_roundw
          case rel =>
            refine ⟨a + 1, by omega, by omega, by go_num, Lib.hid (fun a' b' i h1 h2 h3 h4 hi => ?_), HBL.out⟩
            by_cases e : a' = a
            · subst e; exact HOB.out b' i h3 (by omega) h4 hi
            · exact HOA.out a' b' i h1 (by omega) h3 h4 hi
          case measure => simp [intOf]; omega
    · obtain rfl : a = 21 := by omega
      have HOK : Hid (IsMod xs Q) := Lib.hid ⟨HS.out, fun a' b h1 h2 h3 i hi => HOA.out a' b i h1 (by omega) h2 h3 (by rw [Hn.out]; exact hi)⟩
      clear hbel
      go_wp2_with fail
      go_ret
      exact ⟨.inl ⟨rfl, HOK.out⟩, HBL.out⟩

set_option maxHeartbeats 1000000 in
theorem isModule_any (A A' : Option Addr) (n c m c' : Nat) (xs : List Int) (L : List Row) (w : World) (hn : n = xs.length) (hsm : n ≤ 1048576) (hR : Rd w A (iv xs)) (hm : m = L.length) (hm1 : m ≤ 1048576) (hl : ∀ i, i < L.length → (rg L i).xs.length ≤ 1048576) (hR' : RdR w A' L) :
    Calls Try.prog 49 #[.agg #[.slice A n c, .slice A' m c']] w fun e w' => e = .returned (.bool (modB xs (dat L))) ∧ Below w.heap.size w w' := by
  have hb0 : Below w.heap.size w (w.alloc (.cells #[.slice A n c, .slice A' m c'] 45)) := (Below.refl _ _).alloc (Nat.le_refl _) _
  have hk0 := blk_new w (.cells #[.slice A n c, .slice A' m c'] 45)
  obtain ⟨x0, x1, xf0, xf1, lx⟩ := blk2cells hk0
  have HSH := Lib.hid (isTable_any A A' n c m c' xs L _ hn hsm (hR.below hb0) hm hm1 hl (hR'.below hb0))
  have HB0 := Lib.hid hb0
  have HK0 := Lib.hid hk0
  have q24 : ∀ (w : World) (a : Option Addr) (n c n' c' : Nat), (binOp .eql 24 (.slice a n c) (.slice none n' c')).run Try.prog w = .ok (.bool a.isNone) w := fun w a n c n' c' => Lib.run_eql_slice_nil w _ _ a n c n' c' Try.underlying24
  cases hs : shpB xs (dat L)
  · rw [hs] at HSH
    have HF := Lib.hid (modB_no (fun h => shpB_not hs h.shp))
    clear hb0 hk0 hn hR hm hl hR' hs
    go_enter Try.func49, Try.ntmps49
    go_wp2_with (go_at_call 76; refine HSH.out.mono ?_; rintro e w1 ⟨rfl, hb⟩; have HB1 := Lib.hid (HB0.out.trans (hb.mono HB0.out.size)); clear hb)
    go_ret
    exact ⟨by rw [HF.out]; rfl, HB1.out⟩
  · rw [hs] at HSH
    have hshp := shpB_iff.1 hs
    have HTO := Lib.hid (fun W (hb : Below w.heap.size w W) => tableOf_any A A' n c m c' xs L W hn hm hm1 hshp (hR'.below hb))
    have HFA := Lib.hid (fun g W ht => fault_any g A n c xs (dat L) W hn hshp ht)
    clear hb0 hk0 hn hR hm hl hR' hs hshp
    go_enter Try.func49, Try.ntmps49
    go_wp2_with fail
    refine HSH.out.mono ?_
    rintro e w1 ⟨rfl, hb⟩
    have HB1 := Lib.hid (HB0.out.trans (hb.mono HB0.out.size))
    have HK1 := Lib.hid (blk_kept HK0.out hb)
    clear hb x0 x1 xf0 xf1 lx
    obtain ⟨x0, x1, xf0, xf1, lx⟩ := blk2cells HK1.out
    go_wp2_with fail
    refine (HTO.out _ HB1.out).mono ?_
    rintro e w2 ⟨g, h, rfl, ht⟩
    have HB2 := Lib.hid (HB1.out.trans (ht.bel.mono HB1.out.size))
    have HFA2 := Lib.hid (HFA.out g w2 ht.rd)
    clear ht
    go_wp2_with fail
    refine HFA2.out.mono ?_
    rintro e w3 ⟨hor, hb⟩
    have HB3 := Lib.hid (HB2.out.trans (hb.mono HB2.out.size))
    clear hb
    rcases hor with ⟨rfl, hok⟩ | ⟨gf, rfl, hno⟩
    · have HT := Lib.hid (modB_yes hok)
      clear hok
      go_wp2_with fail
      go_ret
      exact ⟨by rw [HT.out]; rfl, HB3.out⟩
    · have HT := Lib.hid (modB_no hno)
      clear hno
      go_wp2_with fail
      go_ret
      exact ⟨by rw [HT.out]; rfl, HB3.out⟩
end Go.Proofs.Ytocllmhkppkfoaa
