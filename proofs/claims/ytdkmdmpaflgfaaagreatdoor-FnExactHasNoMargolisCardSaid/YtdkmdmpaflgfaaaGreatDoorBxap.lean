/- impl's isTable: the function · impl's (*table).fault, IsModule · the program's IsModule and tableOf at modules that came in · the program: words of squares upon a vector; the action of an element · the program: what an element makes of the basis · the walks of the span · span.left · span.add -/
import Derived.Test.YtdkmdmpaflgfaaaGreatDoorBxao
import Derived.Test.YtdkmdmpaflgfaaaGreatDoorBxab
import Derived.Test.YtdkmdmpaflgfaaaGreatDoorBxan
import Derived.Test.YtdkmdmpaflgfaaaGreatDoorBxak
import Derived.Test.YtdkmdmpaflgfaaaGreatDoorBxal
import Derived.Test.YtdkmdmpaflgfaaaGreatDoorBxai
import Derived.Test.YtdkmdmpaflgfaaaGreatDoorBxaa
import Derived.Test.YtdkmdmpaflgfaaaGreatDoorBxah
set_option linter.all false
namespace Go.Proofs.YtdkmdmpaflgfaaaGreatDoor
open Go.RowKit

theorem stem_closure (w : World) (x : Int) : Asks0 Tryz.prog 123 w (.int .i64 x) (inB x 0 20) := by
  intro m
  exact (isStem_any x (w.drewN m)).mono fun e w' ⟨he, hw⟩ => ⟨he, m, hw⟩

theorem all_shp {xs : List Int} {L : List Row} (h1 : xs.length ≤ 16) (h2 : ∀ i, i < xs.length → 0 ≤ xs.getD i 0 ∧ xs.getD i 0 ≤ 20) (h3 : SrtP xs) (h4 : AscP (dat L)) : (L.all fun r => entB xs r.xs) = shpB xs (dat L) := by
  rw [Bool.eq_iff_iff, List.all_eq_true, show shpB xs (dat L) = true ↔ Shp xs (dat L) by unfold shpB; simp]
  constructor
  · intro h
    refine ⟨h1, h2, h3, h4, fun k hk => ?_⟩
    rw [dat_length] at hk
    rw [dat_getD]
    exact entB_iff.1 (h _ (rg_mem hk))
  · intro h r hr
    obtain ⟨i, hi, rfl⟩ := List.getElem_of_mem hr
    have := h.ent i (by rw [dat_length]; exact hi)
    rw [dat_getD, rg_of hi] at this
    exact entB_true this

set_option maxRecDepth 100000 in
set_option maxHeartbeats 2000000 in
theorem isTable_any (A A' : Option Addr) (n c m c' : Nat) (xs : List Int) (L : List Row) (w : World) (hn : n = xs.length) (hsm : n ≤ 1048576) (hR : Rd w A (iv xs)) (hm : m = L.length) (hm1 : m ≤ 1048576) (hl : ∀ i, i < L.length → (rg L i).xs.length ≤ 1048576) (hR' : RdR w A' L) :
    Calls Tryz.prog 91 #[.agg #[.slice A n c, .slice A' m c']] w fun e w' => e = .returned (.bool (shpB xs (dat L))) ∧ Below w.heap.size w w' := by
  have hb0 : Below w.heap.size w (w.alloc (.cells #[.slice A n c, .slice A' m c'] 30)) := (Below.refl _ _).alloc (Nat.le_refl _) _
  have hk0 := blk_new w (.cells #[.slice A n c, .slice A' m c'] 30)
  obtain ⟨x0, x1, xf0, xf1, lx⟩ := blk2cells hk0
  have HB0 := Lib.hid hb0
  have HK0 := Lib.hid hk0
  by_cases h16 : n ≤ 16
  · have h16b : decide ((16 : Int) < (n : Int)) = false := by simp; omega
    have HAL := Lib.hid (all0_any A n c xs 123 (fun x => inB x 0 20) _ (fun args w => Tryz.call123 args w) hn (by omega) (hR.below hb0) (fun x _ o => stem_closure _ x))
    have HSO := Lib.hid (fun W (hb : Below w.heap.size w W) => isSorted_any A n c xs W hn (by omega) (hR.below hb))
    have HRI := Lib.hid (fun W (hb : Below w.heap.size w W) => rising_any A' m c' L W hm (by omega) (fun i hi => Nat.le_trans (hl i hi) (by omega)) (hR'.below hb))
    have HR := Lib.hid hR
    have HR' := Lib.hid hR'
    have Hn := Lib.hid hn
    have Hm := Lib.hid hm
    have HL := Lib.hid hl
    clear hb0 hk0 hn hR hm hl hR'
    cases hall : xs.all fun x => inB x 0 20
    · rw [hall] at HAL
      have HF := Lib.hid (shpB_false (xs := xs) (Q := dat L) (fun h => by
        have := (all_getD (xs := xs) (p := fun x => inB x 0 20)).2 fun t ht => inB_eq_true (h.deg t ht).1 (h.deg t ht).2
        rw [this] at hall; cases hall))
      clear hall
      go_enter Tryz.func91, Tryz.ntmps91
      go_wp2_with (go_at_call 122; refine HAL.out.mono ?_; rintro e w1 ⟨rfl, hb⟩; have HB1 := Lib.hid (HB0.out.trans (hb.mono HB0.out.size)); clear hb)
      go_ret
      exact ⟨by rw [HF.out]; rfl, HB1.out⟩
    · rw [hall] at HAL
      have HD := Lib.hid (fun t (ht : t < xs.length) => inB_true2 (all_getD.1 hall t ht))
      clear hall
      go_enter Tryz.func91, Tryz.ntmps91
      go_wp2_with fail
      refine HAL.out.mono ?_
      rintro e w1 ⟨rfl, hb⟩
      have HB1 := Lib.hid (HB0.out.trans (hb.mono HB0.out.size))
      have HK1 := Lib.hid (blk_kept HK0.out hb)
      clear hb x0 x1 xf0 xf1 lx HAL HK0 HB0
      obtain ⟨x0, x1, xf0, xf1, lx⟩ := blk2cells HK1.out
      have hsz := HB1.out.size
      have HS1 := Lib.hid (HSO.out _ HB1.out)
      cases hsrt : srtB xs
      · rw [hsrt] at HS1
        have HF := Lib.hid (shpB_false (xs := xs) (Q := dat L) (fun h => by rw [srtB_true h.srt] at hsrt; cases hsrt))
        clear hsrt
        go_wp2_with (go_at_call 124; refine HS1.out.mono ?_; rintro e w2 ⟨rfl, j, rfl⟩)
        go_ret
        exact ⟨by rw [HF.out]; rfl, below_drewN HB1.out _⟩
      · rw [hsrt] at HS1
        have HSR := Lib.hid (srtB_iff.1 hsrt)
        clear hsrt
        have HRI1 := Lib.hid (fun j => HRI.out _ (below_drewN HB1.out j))
        cases hasc : ascB (dat L)
        · rw [hasc] at HRI1
          have HF := Lib.hid (shpB_false (xs := xs) (Q := dat L) (fun h => by rw [ascB_true h.asc] at hasc; cases hasc))
          clear hasc
          go_wp2_with (first | (go_at_call 124; refine HS1.out.mono ?_; rintro e w2 ⟨rfl, j, rfl⟩) | (go_at_call 125; refine (HRI1.out _).mono ?_; rintro e w2 ⟨rfl, j2, rfl⟩))
          go_ret
          exact ⟨by rw [HF.out]; rfl, below_drewN HB1.out _⟩
        · rw [hasc] at HRI1
          have HAS := Lib.hid (ascB_iff.1 hasc)
          clear hasc
          go_wp2_with fail
          refine HS1.out.mono ?_
          rintro e w2 ⟨rfl, j, hw⟩
          have HB2 : Hid (Below w.heap.size w w2) := Lib.hid (hw ▸ below_drewN HB1.out j)
          have HK2 : Hid (w2.heap[w.heap.size]? = some (.cells #[.slice A n c, .slice A' m c'] 30 (0, 0))) := Lib.hid (hw ▸ HK1.out)
          have HRI2 := Lib.hid (hw ▸ HRI1.out j)
          clear hw x0 x1 xf0 xf1 lx
          obtain ⟨x0, x1, xf0, xf1, lx⟩ := blk2cells HK2.out
          go_wp2_with fail
          refine HRI2.out.mono ?_
          rintro e w3 ⟨rfl, j2, hw⟩
          have HB3 : Hid (Below w.heap.size w w3) := Lib.hid (hw ▸ below_drewN HB2.out j2)
          have HK3 : Hid (w3.heap[w.heap.size]? = some (.cells #[.slice A n c, .slice A' m c'] 30 (0, 0))) := Lib.hid (hw ▸ HK2.out)
          clear hw x0 x1 xf0 xf1 lx
          obtain ⟨x0, x1, xf0, xf1, lx⟩ := blk2cells HK3.out
          have hsz3 := HB3.out.size
          have HALL := Lib.hid (allR_any A' m c' L 127 #[.pointer (some ⟨w3.heap.size, 0, none⟩), .pointer (some ⟨w.heap.size, 0, none⟩)] (fun r => entB xs r.xs) (w3.alloc (.cells #[.int .i64 ((n : Int) - 1)] 2)) (fun args w => Tryz.call127 args w) Hm.out (by omega) ((HR'.out.below (HB3.out.alloc hsz3 _)).out) (fun r hr o => by
            obtain ⟨i, hi, rfl⟩ := List.getElem_of_mem hr
            have hbo : Below w.heap.size w ((w3.alloc (.cells #[.int .i64 ((n : Int) - 1)] 2)).alloc o) := (HB3.out.alloc hsz3 _).alloc (by simp; omega) o
            have hin := (HR'.out.below hbo).inn i hi
            have hle := HL.out i hi
            rw [rg_of hi] at hin hle
            refine entAsk _ w3.heap.size w.heap.size n c A xs L[i] Hn.out h16 HD.out ?_ ?_ (HR.out.below hbo) hin hle
            · exact new_cell2 _ _ _ _
            · exact cell_keep x0 (((Below.refl _ _).alloc (Nat.le_refl _) _).alloc (by simp) o)))
          have HFIN := Lib.hid (all_shp (xs := xs) (L := L) (by rw [← Hn.out]; exact h16) HD.out HSR.out HAS.out)
          clear HRI HRI1 HSO HS1 HRI2
          go_wp2_with fail
          refine HALL.out.mono ?_
          rintro e w4 ⟨rfl, hb⟩
          have HB4 := Lib.hid ((HB3.out.alloc hsz3 (.cells #[.int .i64 ((n : Int) - 1)] 2)).trans (hb.mono (by simp; omega)))
          clear hb
          rw [HFIN.out]
          go_wp2_with fail
          go_ret
          exact ⟨rfl, HB4.out⟩
  · have HF := Lib.hid (shpB_false (xs := xs) (Q := dat L) (fun h => by have := h.len; omega))
    clear hR hR' hn hm hl hb0 hk0
    go_enter Tryz.func91, Tryz.ntmps91
    go_wp2_with fail
    go_ret
    exact ⟨by rw [HF.out]; rfl, HB0.out⟩
end Go.Proofs.YtdkmdmpaflgfaaaGreatDoor

namespace Go.Proofs.YtdkmdmpaflgfaaaGreatDoor
open Go.RowKit

theorem xsumf_take {f : Nat → Nat} (l : List Nat) {k : Nat} (hk : k < l.length) : xsumf f (l.take (k + 1)) = xr (xsumf f (l.take k)) (f (l.getD k 0)) := by
  rw [List.take_succ_eq_append_getElem hk, xsumf_append, xsumf_cons]
  congr 1
  simp [List.getD, hk, xsumf, xr_zero]
theorem xr_eq_zero {a b : Nat} : xr a b = 0 ↔ a = b := by
  constructor
  · intro h
    have := xr_xr a b
    rw [h, xr_zero] at this; exact this
  · rintro rfl; exact xr_self a
theorem relN_le {a b k : Nat} (hk : k < (relN a b).length) : 2 * (relN a b).getD k 0 ≤ a := (mem_relN (b := b) (by simp [List.getD, hk])).1
theorem relN_len (a b : Nat) : (relN a b).length ≤ a / 2 + 1 := relF_len a b (a / 2 + 1)

/-- no fault: nil -/
def FaultN (ok : Prop) (w : World) (e : Ending) (w' : World) : Prop := ((e = .returned (.slice none 0 0) ∧ ok) ∨ ∃ g, e = .returned (.slice (some ⟨g, 0, none⟩) 3 3) ∧ ¬ ok) ∧ Below w.heap.size w w'
attribute [local go_sem] i64_xor_nat in
set_option maxRecDepth 100000 in
set_option maxHeartbeats 4000000 in
theorem fault_any (g : Nat) (A : Option Addr) (n c : Nat) (xs : List Int) (Q : List (List Int)) (w : World) (hn : n = xs.length) (hs : Shp xs Q) (ht : TblAt w g A n c Q) :
    Calls Tryz.prog 92 #[.pointer (some ⟨g, 0, none⟩)] w (FaultN (IsMod xs Q) w) := by
  have hn16 : n ≤ 16 := by rw [hn]; exact hs.len
  have HSQ := Lib.hid (fun (z y : Int) (v : Nat) W (hb : Below w.heap.size w W) hz hy hv => square_any g A n c xs Q z y v W hn hs hz hy hv (ht.below hb))
  have HC := Lib.hid ht.c0
  have HALT := Lib.hid (fun (z : Int) {v : Nat} (hv : v < 2 ^ xs.length) => act_lt hs hv z)
  have HSM := Lib.hid (fun (v : Nat) (hv : v < 2 ^ xs.length) => sm_of_len hs.len hv)
  have Hn := Lib.hid hn
  have HS := Lib.hid hs
  clear hn hs ht
  go_enter Tryz.func92, Tryz.ntmps92
  go_wp2_with fail
  go_loopw [3] (fun s3 wr => ∃ a : Nat, 1 ≤ a ∧ a ≤ 21 ∧ s3 = .int .i64 a ∧ Hid (∀ a' b i : Nat, 1 ≤ a' → a' < a → a' < 2 * b → a' + b ≤ 20 → i < n → OkAt Q a' b (2 ^ i)) ∧ Below w.heap.size w wr) (fun i _ => 21 - (intOf i).toNat)
  case atStart => exact ⟨1, by omega, by omega, rfl, Lib.hid (fun a' b i h1 h2 => by omega), Below.refl _ _⟩
  case round =>
    obtain ⟨a, ha1, ha2, rfl, HOA, hbel⟩ := hrel
    have HBL := Lib.hid hbel
    by_cases hlt : a ≤ 20
    · clear hbel
      go_wp2_with fail
      go_loopw [4] (fun s4 wr => ∃ b : Nat, a < 2 * b ∧ b ≤ 21 ∧ s4 = .int .i64 b ∧ Hid (∀ b' i : Nat, a < 2 * b' → b' < b → a + b' ≤ 20 → i < n → OkAt Q a b' (2 ^ i)) ∧ Below w.heap.size w wr) (fun i _ => 21 - (intOf i).toNat)
      case atStart => exact ⟨a / 2 + 1, by omega, by omega, congrArg (Value.int .i64) (by omega), Lib.hid (fun b' i h1 h2 => by omega), HBL.out⟩
      case round =>
        obtain ⟨b, hb2, hb3, rfl, HOB, hbel⟩ := hrel
        have HBL := Lib.hid hbel
        have hsz := hbel.size
        by_cases hlt2 : a + b ≤ 20
        · have hlt2' : (a : Int) + b ≤ 20 := by omega
          have HR := Lib.hid (relation_any a b wr ha1 hb2 (by omega))
          clear hbel
          go_wp2_with fail
          refine HR.out.mono ?_
          rintro e w1 ⟨gr, k, cr, rfl, hk, ho, hb⟩
          have HB1 := Lib.hid (HBL.out.trans (hb.mono hsz))
          have HK := hk
          have HRR := Lib.hid (owns_Rd ho)
          have hk20 : k ≤ 20 := by have := relN_len a b; have := hk.out; omega
          have hc0 := cell_keep HC.out (HB1.out)
          clear hk ho hb
          go_wp2_with fail
          go_loop [31] (fun s => ∃ v : Nat, v ≤ n ∧ s = .int .i64 v ∧ Hid (∀ i : Nat, i < v → OkAt Q a b (2 ^ i))) (fun i => n - (intOf i).toNat)
          case atStart => exact ⟨0, by omega, rfl, Lib.hid (fun i h => by omega)⟩
          case round =>
            obtain ⟨v, hv, rfl, HOV⟩ := hrel
            by_cases hlt3 : v < n
            · have HE : Hid (((2 ^ v : Nat) : Int) = (2 : Int) ^ v) := Lib.hid (by simp)
              obtain ⟨hp1, hp2⟩ := pow2_bd (d := v) (by omega)
              have HV : Hid (2 ^ v < 2 ^ xs.length) := Lib.hid (pow_lt_pow (by rw [← Hn.out]; exact hlt3))
              have HQ1 := Lib.hid (HSQ.out (b : Int) ((2 : Int) ^ v) (2 ^ v) w1 HB1.out (by omega) HE.out.symm HV.out)
              have HQ2 := Lib.hid (HSQ.out (a : Int) ((act Q (b : Int) (2 ^ v) : Nat) : Int) _ w1 HB1.out (by omega) rfl (HALT.out (b : Int) HV.out))
              have HXL := Lib.hid (HALT.out (a : Int) (HALT.out (b : Int) HV.out))
              have HF := Lib.hid (fun j : Nat => HALT.out ((a + b - j : Nat) : Int) (HALT.out (j : Int) HV.out))
              have HQ3 := Lib.hid (fun (j : Nat) (hj : 2 * j ≤ a) => HSQ.out (j : Int) ((2 : Int) ^ v) (2 ^ v) w1 HB1.out (by omega) HE.out.symm HV.out)
              have HQ4 := Lib.hid (fun (j : Nat) (hj : 2 * j ≤ a) => HSQ.out ((a + b - j : Nat) : Int) ((act Q (j : Int) (2 ^ v) : Nat) : Int) _ w1 HB1.out (by omega) rfl (HALT.out (j : Int) HV.out))
              obtain ⟨F, hF⟩ : ∃ F : Nat → Nat, F = fun j : Nat => act Q ((a + b - j : Nat) : Int) (act Q (j : Int) (2 ^ v)) := ⟨_, rfl⟩
              have HOK : Hid (OkAt Q a b (2 ^ v) ↔ act Q (a : Int) (act Q (b : Int) (2 ^ v)) = xsumf F (relN a b)) := Lib.hid (by rw [hF]; exact Iff.rfl)
              have HFJ : Hid (∀ j : Nat, act Q ((a + b - j : Nat) : Int) (act Q (j : Int) (2 ^ v)) = F j) := Lib.hid (fun j => by rw [hF])
              clear hF
              go_wp2_with fail
              refine HQ1.out.mono ?_
              rintro e w' ⟨rfl, rfl⟩
              go_wp2_with fail
              refine HQ2.out.mono ?_
              rintro e w' ⟨rfl, rfl⟩
              generalize act Q (a : Int) (act Q (b : Int) (2 ^ v)) = X at *
              have hXs := HSM.out _ HXL.out
              clear HQ1 HQ2
              go_wp2_with fail
              go_loop [7, 44] (fun x i => ∃ q : Nat, q ≤ k ∧ i = .int .i64 q ∧ x = .int .i64 ((xr X (xsumf F ((relN a b).take q)) : Nat) : Int)) (fun _ i => k - (intOf i).toNat)
              case atStart => exact ⟨0, by omega, rfl, by rw [show xsumf F ((relN a b).take 0) = 0 from rfl, xr_zero]⟩
              case round =>
                obtain ⟨q, hq, rfl, rfl⟩ := hrel
                have h1 : Sm (xr X (xsumf F ((relN a b).take q))) := hXs.xr (HSM.out _ (xsumf_lt F _ fun j _ => by rw [← HFJ.out j]; exact HF.out j))
                by_cases hlt4 : q < k
                · have hqR : q < (relN a b).length := by rw [← HK.out]; exact hlt4
                  obtain ⟨b1, o1, he1, hcj⟩ := HRR.out.atN hqR
                  injection he1 with he1
                  injection he1 with he1 he2 _
                  subst he1
                  subst he2
                  rw [Nat.zero_add] at hcj
                  have hj := relN_le hqR
                  have HX := Lib.hid (xsumf_take (f := F) (relN a b) hqR)
                  generalize (relN a b).getD q 0 = j at *
                  have HP3 := Lib.hid (HQ3.out j hj)
                  have HP4 := Lib.hid (HQ4.out j hj)
                  have h2 : Sm (F j) := HSM.out _ (by rw [← HFJ.out j]; exact HF.out j)
                  have e3 : ((a + b - j : Nat) : Int) = (a : Int) + b - j := by omega
                  rw [HFJ.out j, e3] at HP4
                  have HXX : Hid (xr X (xsumf F ((relN a b).take (q + 1))) = xr (xr X (xsumf F ((relN a b).take q))) (F j)) := Lib.hid (by rw [HX.out, xr_assoc])
                  have hj20 : j ≤ 20 := by omega
                  generalize xr X (xsumf F ((relN a b).take q)) = Y at *
                  generalize F j = Z at *
                  clear e3
                  go_wp2_with fail
                  refine HP3.out.mono ?_
                  rintro e w' ⟨rfl, rfl⟩
                  go_wp2_with fail
                  refine HP4.out.mono ?_
                  rintro e w' ⟨rfl, rfl⟩
                  go_wp2_with fail
                  go_round
                  case rel => exact ⟨q + 1, by omega, by go_num, by rw [HXX.out]⟩
                  case measure => simp [intOf]; omega
                · have he : (relN a b).take q = relN a b := List.take_of_length_le (by rw [← HK.out]; omega)
                  rw [he] at h1 ⊢
                  by_cases hz : xr X (xsumf F (relN a b)) = 0
                  · have HYES := Lib.hid (HOK.out.2 (xr_eq_zero.1 hz))
                    have hzb : (((xr X (xsumf F (relN a b)) : Nat) : Int) != 0) = false := by rw [hz]; rfl
                    generalize xr X (xsumf F (relN a b)) = Y at *
                    clear hz he
                    go_wp2_with fail
                    go_round
                    case rel =>
                      refine ⟨v + 1, by omega, by go_num, Lib.hid (fun i hi => ?_)⟩
                      by_cases e : i = v
                      · subst e; exact HYES.out
                      · exact HOV.out i (by omega)
                    case measure => simp [intOf]; omega
                  · have HNO := Lib.hid (show ¬ IsMod xs Q from fun hm => hz (xr_eq_zero.2 (HOK.out.1 (hm.ok a b ha1 hb2 hlt2 v (by rw [← Hn.out]; exact hlt3)))))
                    have hzb : (((xr X (xsumf F (relN a b)) : Nat) : Int) != 0) = true := by simp; omega
                    generalize xr X (xsumf F (relN a b)) = Y at *
                    clear hz he
                    go_wp2_with fail
                    go_ret
                    exact ⟨.inr ⟨_, rfl, HNO.out⟩, HB1.out.alloc HB1.out.size _⟩
            · obtain rfl : v = n := by omega
              go_wp2_with fail
              go_roundw
              case rel =>
                refine ⟨b + 1, by omega, by omega, by go_num, Lib.hid (fun b' i h1 h2 h3 hi => ?_), HB1.out⟩
                by_cases e : b' = b
                · subst e; exact HOV.out i hi
                · exact HOB.out b' i h1 (by omega) h3 hi
              case measure => simp [intOf]; omega
        · have hlt2' : ¬ (a : Int) + b ≤ 20 := by omega
          clear hbel
          go_wp2_with fail
          go_roundw
          case rel =>
            refine ⟨a + 1, by omega, by omega, by go_num, Lib.hid (fun a' b' i h1 h2 h3 h4 hi => ?_), HBL.out⟩
            by_cases e : a' = a
            · subst e; exact HOB.out b' i h3 (by omega) h4 hi
            · exact HOA.out a' b' i h1 (by omega) h3 h4 hi
          case measure => simp [intOf]; omega
    · obtain rfl : a = 21 := by omega
      have HOK : Hid (IsMod xs Q) := Lib.hid ⟨HS.out, fun a' b h1 h2 h3 i hi => HOA.out a' b i h1 (by omega) h2 h3 (by rw [Hn.out]; exact hi)⟩
      clear hbel
      go_wp2_with fail
      go_ret
      exact ⟨.inl ⟨rfl, HOK.out⟩, HBL.out⟩

set_option maxHeartbeats 1000000 in
theorem isModule_any (A A' : Option Addr) (n c m c' : Nat) (xs : List Int) (L : List Row) (w : World) (hn : n = xs.length) (hsm : n ≤ 1048576) (hR : Rd w A (iv xs)) (hm : m = L.length) (hm1 : m ≤ 1048576) (hl : ∀ i, i < L.length → (rg L i).xs.length ≤ 1048576) (hR' : RdR w A' L) :
    Calls Tryz.prog 55 #[.agg #[.slice A n c, .slice A' m c']] w fun e w' => e = .returned (.bool (modB xs (dat L))) ∧ Below w.heap.size w w' := by
  have hb0 : Below w.heap.size w (w.alloc (.cells #[.slice A n c, .slice A' m c'] 30)) := (Below.refl _ _).alloc (Nat.le_refl _) _
  have hk0 := blk_new w (.cells #[.slice A n c, .slice A' m c'] 30)
  obtain ⟨x0, x1, xf0, xf1, lx⟩ := blk2cells hk0
  have HSH := Lib.hid (isTable_any A A' n c m c' xs L _ hn hsm (hR.below hb0) hm hm1 hl (hR'.below hb0))
  have HB0 := Lib.hid hb0
  have HK0 := Lib.hid hk0
  have q24 : ∀ (w : World) (a : Option Addr) (n c n' c' : Nat), (binOp .eql 22 (.slice a n c) (.slice none n' c')).run Tryz.prog w = .ok (.bool a.isNone) w := fun w a n c n' c' => Lib.run_eql_slice_nil w _ _ a n c n' c' Tryz.underlying22
  cases hs : shpB xs (dat L)
  · rw [hs] at HSH
    have HF := Lib.hid (modB_no (fun h => shpB_not hs h.shp))
    clear hb0 hk0 hn hR hm hl hR' hs
    go_enter Tryz.func55, Tryz.ntmps55
    go_wp2_with (go_at_call 91; refine HSH.out.mono ?_; rintro e w1 ⟨rfl, hb⟩; have HB1 := Lib.hid (HB0.out.trans (hb.mono HB0.out.size)); clear hb)
    go_ret
    exact ⟨by rw [HF.out]; rfl, HB1.out⟩
  · rw [hs] at HSH
    have hshp := shpB_iff.1 hs
    have HTO := Lib.hid (fun W (hb : Below w.heap.size w W) => tableOf_any A A' n c m c' xs L W hn hm hm1 hshp (hR'.below hb))
    have HFA := Lib.hid (fun g W ht => fault_any g A n c xs (dat L) W hn hshp ht)
    clear hb0 hk0 hn hR hm hl hR' hs hshp
    go_enter Tryz.func55, Tryz.ntmps55
    go_wp2_with fail
    refine HSH.out.mono ?_
    rintro e w1 ⟨rfl, hb⟩
    have HB1 := Lib.hid (HB0.out.trans (hb.mono HB0.out.size))
    have HK1 := Lib.hid (blk_kept HK0.out hb)
    clear hb x0 x1 xf0 xf1 lx
    obtain ⟨x0, x1, xf0, xf1, lx⟩ := blk2cells HK1.out
    go_wp2_with fail
    refine (HTO.out _ HB1.out).mono ?_
    rintro e w2 ⟨g, h, rfl, ht⟩
    have HB2 := Lib.hid (HB1.out.trans (ht.bel.mono HB1.out.size))
    have HFA2 := Lib.hid (HFA.out g w2 ht.rd)
    clear ht
    go_wp2_with fail
    refine HFA2.out.mono ?_
    rintro e w3 ⟨hor, hb⟩
    have HB3 := Lib.hid (HB2.out.trans (hb.mono HB2.out.size))
    clear hb
    rcases hor with ⟨rfl, hok⟩ | ⟨gf, rfl, hno⟩
    · have HT := Lib.hid (modB_yes hok)
      clear hok
      go_wp2_with fail
      go_ret
      exact ⟨by rw [HT.out]; rfl, HB3.out⟩
    · have HT := Lib.hid (modB_no hno)
      clear hno
      go_wp2_with fail
      go_ret
      exact ⟨by rw [HT.out]; rfl, HB3.out⟩
end Go.Proofs.YtdkmdmpaflgfaaaGreatDoor

namespace Go.Proofs.YtdkmdmpaflgfaaaGreatDoor
open Go.RowKit

theorem ModIn.isM {w : World} {A A' : Option Addr} {n m : Nat} {xs : List Int} {L : List Row} (h : ModIn w A n A' m xs L) (c c' : Nat) (W : World) (hb : Below w.heap.size w W) :
    Calls Tryz.prog 55 #[.agg #[.slice A n c, .slice A' m c']] W fun e w' => e = .returned (.bool (modB xs (dat L))) ∧ Below W.heap.size W w' :=
  isModule_any A A' n c m c' xs L W h.r.hn h.hsm (h.r.deg.below hb) h.r.hm h.r.hm1 h.hl (h.r.act.below hb)
theorem ModR.table {w : World} {A A' : Option Addr} {n m : Nat} {xs : List Int} {L : List Row} (h : ModR w A n A' m xs L) (hs : Shp xs (dat L)) (c c' : Nat) (W : World) (hb : Below w.heap.size w W) :
    Calls Tryz.prog 81 #[.agg #[.slice A n c, .slice A' m c']] W fun e w' => ∃ g, e = .returned (.pointer (some ⟨g, 0, none⟩)) ∧ TblAt w' g A n c (dat L) ∧ Below W.heap.size W w' :=
  (tableOf_any A A' n c m c' xs L W h.hn h.hm h.hm1 hs (h.act.below hb)).mono fun _ _ ⟨g, _, he, ht⟩ => ⟨g, he, ht.rd, ht.bel⟩

end Go.Proofs.YtdkmdmpaflgfaaaGreatDoor

namespace Go.Proofs.YtdkmdmpaflgfaaaGreatDoor
open Go.RowKit

theorem wordM_lt' {xs : List Int} {Q : List (List Int)} (h : Shp xs Q) {v : Nat} (hv : v < 2 ^ xs.length) : ∀ ws, wordM Q ws v < 2 ^ xs.length
  | [] => hv
  | z :: ws => act_lt h (wordM_lt' h hv ws) z

set_option maxRecDepth 100000 in
set_option maxHeartbeats 2000000 in
theorem word_any (g : Nat) (A V : Option Addr) (n c k cv : Nat) (xs : List Int) (Q : List (List Int)) (ws : List Int) (v : Nat) (w : World) (hn : n = xs.length) (hs : Shp xs Q) (hk : k = ws.length) (hk1 : k ≤ 1048576) (hnn : Nn ws) (hv : v < 2 ^ xs.length) (hV : Rd w V (iv ws)) (ht : TblAt w g A n c Q) :
    Calls Tryz.prog 136 #[.pointer (some ⟨g, 0, none⟩), .slice V k cv, .int .i64 v] w fun e w' => e = .returned (.int .i64 (wordM Q ws v : Nat)) ∧ w = w' := by
  have HV := Lib.hid hV
  have Hk := Lib.hid hk
  have HSQ := Lib.hid (fun (z : Int) (v : Nat) (hz : 0 ≤ z) (hv : v < 2 ^ xs.length) => square_any g A n c xs Q z (v : Int) v w hn hs hz rfl hv ht)
  have HLT := Lib.hid (wordM_lt' hs hv)
  have HNN := Lib.hid hnn
  clear hV hk hnn ht hs hn hv
  go_enter Tryz.func136, Tryz.ntmps136
  go_wp2_with fail
  go_loopw [2, 7] (fun v2 v7 wr => ∃ j : Nat, j ≤ k ∧ v7 = .int .i64 ((j : Int) - 1) ∧ v2 = .int .i64 (wordM Q (ws.drop j) v : Nat) ∧ w = wr) (fun _ v7 _ => (intOf v7 + 1).toNat)
  case atStart =>
    refine ⟨k, Nat.le_refl _, rfl, ?_, rfl⟩
    rw [List.drop_of_length_le (by rw [← Hk.out]; exact Nat.le_refl _)]
    rfl
  case round =>
    obtain ⟨j, hj, rfl, rfl, rfl⟩ := hrel
    cases j with
    | zero =>
      rw [List.drop_zero]
      go_wp2_with fail
      go_ret
      exact ⟨rfl, rfl⟩
    | succ i =>
      have e1 : (((i + 1 : Nat) : Int) - 1) = (i : Int) := by omega
      rw [e1]
      have hi : i < ws.length := by rw [← Hk.out]; omega
      obtain ⟨b, o, rfl, hc⟩ := HV.out.atI hi
      have hik : (i : Int) < (k : Int) := by omega
      have HD := Lib.hid (wordM_drop Q ws v hi)
      have HS := Lib.hid (HSQ.out (ws.getD i 0) _ (HNN.out _ (by simp [List.getD, hi])) (HLT.out (ws.drop (i + 1))))
      generalize ws.getD i 0 = x at *
      generalize wordM Q (ws.drop (i + 1)) v = y at *
      clear hi e1
      go_wp2_with fail
      refine HS.out.mono ?_
      rintro e w' ⟨rfl, rfl⟩
      go_wp2_with fail
      go_roundw
      case rel => exact ⟨i, by omega, by go_num, by rw [HD.out], trivial⟩
      case measure => simp [intOf]

theorem xsumf_snoc {α : Type} (f : α → Nat) (l : List α) (a : α) : xsumf f (l ++ [a]) = xr (xsumf f l) (f a) := by
  simp [xsumf, List.foldl_append]
set_option maxRecDepth 100000 in
set_option maxHeartbeats 2000000 in
theorem words_any (g : Nat) (A V : Option Addr) (n c k cv : Nat) (xs : List Int) (Q : List (List Int)) (P : List Row) (v : Nat) (w : World) (hn : n = xs.length) (hs : Shp xs Q) (hk : k = P.length) (hk1 : k ≤ 1048576) (hl : ∀ i, i < P.length → (rg P i).xs.length ≤ 1048576) (hnn : ∀ x ∈ dat P, Nn x) (hv : v < 2 ^ xs.length) (hV : RdR w V P) (ht : TblAt w g A n c Q) :
    Calls Tryz.prog 94 #[.pointer (some ⟨g, 0, none⟩), .slice V k cv, .int .i64 v] w fun e w' => e = .returned (.int .i64 (xsumf (fun u => wordM Q u v) (dat P) : Nat)) ∧ w = w' := by
  have HV := Lib.hid hV
  have Hk := Lib.hid hk
  have HW := Lib.hid (fun i (hi : i < P.length) => word_any g A (rg P i).A n c (rg P i).xs.length (rg P i).c xs Q (rg P i).xs v w hn hs rfl (hl i hi) (hnn _ (List.mem_map.2 ⟨_, rg_mem hi, rfl⟩)) hv (hV.inn i hi) ht)
  have HLT := Lib.hid (wordM_lt' hs hv)
  have hn16 : xs.length ≤ 16 := hs.len
  clear hV hk hnn ht hs hn hv hl
  go_enter Tryz.func94, Tryz.ntmps94
  go_wp2_with fail
  go_loopw [7, 12] (fun v7 v12 wr => ∃ i : Nat, i ≤ k ∧ v12 = .int .i64 i ∧ v7 = .int .i64 (xsumf (fun u => wordM Q u v) ((dat P).take i) : Nat) ∧ w = wr) (fun _ v12 _ => k - (intOf v12).toNat)
  case atStart => exact ⟨0, by omega, rfl, rfl, rfl⟩
  case round =>
    obtain ⟨i, hi, rfl, rfl, rfl⟩ := hrel
    by_cases hlt : i < k
    · have hiP : i < P.length := by rw [← Hk.out]; exact hlt
      obtain ⟨b, o, rfl, hc⟩ := HV.out.at_ hiP
      have HWi := Lib.hid (HW.out i hiP)
      have HT : Hid ((dat P).take (i + 1) = (dat P).take i ++ [(rg P i).xs]) := Lib.hid (by
        rw [List.take_succ_eq_append_getElem (by rw [dat_length]; exact hiP)]; simp [dat, rg, List.getD, hiP])
      have HX := Lib.hid (xsumf_snoc (fun u => wordM Q u v) ((dat P).take i) (rg P i).xs)
      rw [← HT.out] at HX
      have h1 := xsumf_lt (n := xs.length) (fun u => wordM Q u v) ((dat P).take i) (fun a _ => HLT.out a)
      have h2 := HLT.out (rg P i).xs
      generalize rg P i = r at *
      obtain ⟨rA, rc, rx⟩ := r
      simp only at hc HWi h2 HX
      have hxr := i64_xor_nat (a := xsumf (fun u => wordM Q u v) ((dat P).take i)) (b := wordM Q rx v) (sm_of_len hn16 h1) (sm_of_len hn16 h2)
      generalize xsumf (fun u => wordM Q u v) ((dat P).take i) = p at *
      generalize wordM Q rx v = q at *
      have hik : (i : Int) < (k : Int) := by omega
      clear hiP h1 h2
      go_wp2_with fail
      refine HWi.out.mono ?_
      rintro e w' ⟨rfl, rfl⟩
      go_wp2_with fail
      go_roundw
      case rel => exact ⟨i + 1, by omega, by go_num, by rw [HX.out], trivial⟩
      case measure => simp [intOf]; omega
    · obtain rfl : i = k := by omega
      have hik : ¬ (i : Int) < (i : Int) := by omega
      rw [List.take_of_length_le (by rw [dat_length, ← Hk.out]; exact Nat.le_refl _)]
      go_wp2_with fail
      go_ret
      exact ⟨rfl, rfl⟩
end Go.Proofs.YtdkmdmpaflgfaaaGreatDoor

namespace Go.Proofs.YtdkmdmpaflgfaaaGreatDoor
open Go.RowKit

theorem pow_bd40I {k : Nat} (h : k ≤ 50) : (1 : Int) ≤ 2 ^ k ∧ (2 : Int) ^ k ≤ 1125899906842624 := by
  have h1 : 2 ^ k ≤ 2 ^ 50 := Nat.pow_le_pow_right (by omega) h
  have h2 : 1 ≤ 2 ^ k := Nat.one_le_two_pow
  have h3 : ((2 ^ k : Nat) : Int) = (2 : Int) ^ k := by rw [Int.natCast_pow]; rfl
  rw [← h3]; omega
theorem isSq_nn {d : Int} {T P : LL} (h : IsSq d T P) : ∀ x ∈ P, Nn x := fun x hx => by
  obtain ⟨r, hr, rfl⟩ := h.ws x hx
  exact lead_nn hr.nn

set_option maxRecDepth 100000 in
set_option maxHeartbeats 2000000 in
theorem actionOf_any (d : Int) (hd : d ≤ 40) (A A' W : Option Addr) (n c m c' k ck : Nat) (xs : List Int) (L T : List Row) (w : World) (hn : n = xs.length) (hm : m = L.length) (hs : Shp xs (dat L)) (hm1 : m ≤ 1048576) (hk : k = T.length) (hk0 : 0 < k) (hT : As (dat T)) (hE : ∀ t ∈ dat T, Ex d t)
    (hA : Rd w A (iv xs)) (hR : RdR w A' L) (hW : RdR w W T) :
    Calls Tryz.prog 58 #[.agg #[.slice A n c, .slice A' m c'], .slice W k ck] w fun e w' => ∃ v', e = .returned v' ∧ w'.ownsRow w.heap.size 2 1 v' n (nv (mactF (dat L) d (dat T) n)) ∧ Below w.heap.size w w' := by
  have hn16 : n ≤ 16 := by rw [hn]; exact hs.len
  have h0 := first_ex hk hk0 hE
  have HTB := Lib.hid (fun W' hb => (show ModR w A n A' m xs L from ⟨hn, hA, hm, hm1, hR⟩).table hs c c' W' hb)
  have HSQ := Lib.hid (fun W' (hb : Below w.heap.size w W') => squaresOf_any d hd W k ck T W' hk hT hE (hW.below hb))
  have HP := Lib.hid (fun P (h : IsSq d (dat T) P) => sqP_of h0 (by omega) hT hE h)
  have HWS := Lib.hid (fun (g : Nat) (V : Option Addr) (cv b : Nat) (P : List Row) W' (hb : b < n) hl2 hl hnn hV ht => by
    have h := words_any g A V n c P.length cv xs (dat L) P (2 ^ b) W' hn hs rfl hl2 hl hnn (pow_lt_len (by rw [← hn]; exact hb)) hV ht
    rw [Int.natCast_pow] at h
    exact h)
  have HFS := Lib.hid (fun b => mactF_succ (dat L) d (dat T) b)
  have HB0 := Lib.hid ((Below.refl w.heap.size w).alloc (Nat.le_refl _) (.cells #[.slice A n c, .slice A' m c'] 30))
  obtain ⟨x0, x1, xf0, xf1, lx⟩ := blk2cells (blk_new w (.cells #[.slice A n c, .slice A' m c'] 30))
  clear hn hm hs hk hT hE hA hR hW hk0
  go_enter Tryz.func58, Tryz.ntmps58
  go_wp2_with fail
  refine (HTB.out _ HB0.out).mono ?_
  rintro e w1 ⟨gt, rfl, ht1, hb1⟩
  have HT1 := Lib.hid ht1
  have HB1 := Lib.hid (HB0.out.trans (hb1.mono HB0.out.size))
  have hy0 := cell_keep x0 hb1
  have hy1 := cell_keep x1 hb1
  clear ht1 hb1 x0 x1 xf0 xf1 lx
  go_wp2_with fail
  refine (HSQ.out _ HB1.out).mono ?_
  rintro e w2 ⟨P, hP, v2, M2, rfl, hd2, ho2, hb2⟩
  obtain ⟨A2, c2, rfl, _, _, _⟩ := owns_shape ho2.out
  have HLN := Lib.hid (isSq_bd hd hP)
  have HNN := Lib.hid (isSq_nn hP)
  have HPP := Lib.hid (HP.out P hP)
  have HM2 := Lib.hid (ho2.rd rfl)
  have HD2 := Lib.hid hd2
  have HT2 := Lib.hid (HT1.out.below hb2)
  have HB2 := Lib.hid (HB1.out.trans (hb2.mono HB1.out.size))
  have hz0 := cell_keep hy0 hb2
  have hz1 := cell_keep hy1 hb2
  have hM2 : M2.length ≤ 2000 := by have := HLN.out.1; rw [← hd2, dat_length] at this; exact this
  have HL2 : Hid (∀ i, i < M2.length → (rg M2 i).xs.length ≤ 1048576) := Lib.hid (fun i hi => Nat.le_trans (len_of_dat (d := 5) (by rw [hd2]; exact HLN.out.2) i hi) (by omega))
  have hlz : w.heap.size < w2.heap.size := World.block_lt_of_cell? w2 _ hz0
  clear hd2 ho2 hb2 hP hy0 hy1
  go_wp2_with fail
  go_loopw [7, 17] (fun v7 v17 wr => ∃ i : Nat, ∃ A7 c7, i ≤ n ∧ v17 = .int .i64 i ∧ v7 = .slice A7 i c7 ∧ wr.ownsRow w2.heap.size 2 1 (.slice A7 i c7) i (nv (mactF (dat L) d (dat T) i)) ∧ Below w2.heap.size w2 wr) (fun _ v17 _ => n - (intOf v17).toNat)
  case atStart => exact ⟨0, _, _, Nat.zero_le _, rfl, rfl, World.ownsRow_made w2 #[] 0 (Nat.le_refl _) (by decide) (by simp), (Below.refl _ _).alloc (Nat.le_refl _) _⟩
  case round =>
    obtain ⟨i, A7, c7, hi, rfl, rfl, hown, hbel⟩ := hrel
    have HO := Lib.hid hown
    have HB := Lib.hid hbel
    have hsz := hbel.size
    by_cases hlt : i < n
    · have HW := HWS.out gt A2 c2 i M2 wr hlt (by omega) HL2.out (by rw [HD2.out]; exact HNN.out) (HM2.out.below hbel) (HT2.out.below hbel)
      rw [HD2.out, HPP.out, show xsumf (fun u => wordM (dat L) u (2 ^ i)) (sqP d (dat T)) = mact (dat L) d (dat T) (2 ^ i) from rfl] at HW
      have HWH := Lib.hid HW
      have HFI := Lib.hid (HFS.out i)
      have hq : i < 1099511627776 := by omega
      obtain ⟨p1, p2⟩ := pow_bd40I (k := i) (by omega)
      clear hown hbel HW
      generalize mact (dat L) d (dat T) (2 ^ i) = y at *
      go_wp2_with fail
      refine HWH.out.mono ?_
      rintro e w3 ⟨rfl, rfl⟩
      go_wp2_with (at_builtin; refine wpList_app1 _ _ _ _ _ etI (by rfl) (by rfl) w2.heap.size (.slice A7 i c7) i (nv (mactF (dat L) d (dat T) i)) (by rfl) (HO.out.alloc _) _ (.int .i64 (y : Nat)) (by rfl) (new_cell _ _ _) (by rfl) hq (Nat.le_trans hsz (by simp)) ?_; (intro g4 c4 w4 hown4 hg4 hat4 hlt4; have HO4 := Lib.hid hown4; have HB4 := Lib.hid (below_app2 HB.out hsz HO.out hg4); clear hown4 hg4 hat4 hlt4))
      go_roundw
      case rel => exact ⟨i + 1, _, c4, by omega, by go_num, rfl, by rw [HFI.out, ← nv_snocV]; exact HO4.out, HB4.out⟩
      case measure => simp [intOf]; omega
    · obtain rfl : i = n := by omega
      clear hown hbel
      go_wp2_with fail
      go_ret
      exact ⟨_, rfl, HO.out.mono HB2.out.size, HB2.out.trans (HB.out.mono HB2.out.size)⟩
end Go.Proofs.YtdkmdmpaflgfaaaGreatDoor

namespace Go.Proofs.YtdkmdmpaflgfaaaGreatDoor
open Go.RowKit

/-- the table of trailing zeros lies where the program's start lays it -/
def Tab (w : World) : Prop := ∀ j, j < 64 → w.cell? ⟨0, j, none⟩ = some (.int .u8 ((Lib.deBruijn64tab.getD j 0 : Nat) : Int))

set_option maxHeartbeats 1000000 in
theorem tz64_core (x k idx : Nat) (w : World) (hx0 : ((x : Int) == 0) = false)
    (key : IntKind.u64.wrap (bits BinOp.and IntKind.u64 (x : Int) (IntKind.u64.wrap (-(x : Int))) * 285870213051353865) / 288230376151711744 = (idx : Int))
    (hi : idx < 64) (hk : k < 64) (hcell : w.cell? ⟨0, idx, none⟩ = some (.int .u8 k)) :
    Calls Tryz.prog 137 #[.int .u64 x] w fun e w' => e = .returned (.int .i64 k) ∧ w = w' := by
  go_enter Tryz.func137, Tryz.ntmps137
  go_wp2_with (simp only [key])
  go_ret
  exact ⟨rfl, rfl⟩

theorem tz64_key (x a : Nat) (hx : x < 18446744073709551616) (hx0 : x ≠ 0) (hlow : x &&& (18446744073709551616 - x) = a) :
    IntKind.u64.wrap (bits BinOp.and IntKind.u64 (x : Int) (IntKind.u64.wrap (-(x : Int))) * 285870213051353865) / 288230376151711744 = ((a * 285870213051353865 % 18446744073709551616 / 288230376151711744 : Nat) : Int) := by
  have e1 : IntKind.u64.wrap (-(x : Int)) = ((18446744073709551616 - x : Nat) : Int) := by rw [IntKind.wrap_u64]; omega
  rw [e1, bits_and_u64_nat x _ hx (by omega), hlow, IntKind.wrap_u64]
  omega

theorem tz64 (x : Nat) (hx0 : x ≠ 0) (hx : Sm x) (w : World) (hT : Tab w) :
    Calls Tryz.prog 137 #[.int .u64 x] w fun e w' => e = .returned (.int .i64 (pv x)) ∧ w = w' := by
  unfold Sm at hx
  obtain ⟨hlow, hk⟩ := Lib.lowest_bit 64 x hx0 (by omega)
  obtain ⟨hi, htab⟩ := Lib.deBruijn64_at _ hk
  have hcell := hT _ hi
  rw [htab] at hcell
  exact tz64_core x _ _ w (by simp; omega) (tz64_key x _ (by omega) hx0 hlow) hi hk hcell

theorem u64_of_sm {x : Nat} (h : Sm x) : IntKind.u64.wrap (x : Int) = x := by unfold Sm at h; rw [IntKind.wrap_u64]; omega

set_option maxHeartbeats 400000 in
theorem pivot_any (x : Nat) (hx0 : x ≠ 0) (hx : Sm x) (w : World) (hT : Tab w) :
    Calls Tryz.prog 95 #[.int .i64 x] w fun e w' => e = .returned (.int .i64 (pv x)) ∧ w = w' := by
  have hc := u64_of_sm hx
  go_enter Tryz.func95, Tryz.ntmps95
  go_wp2_with (go_at_call 137; refine (tz64 x hx0 hx _ hT).mono ?_; rintro e w' ⟨rfl, rfl⟩)
  go_ret
  exact ⟨rfl, rfl⟩
end Go.Proofs.YtdkmdmpaflgfaaaGreatDoor

namespace Go.Proofs.YtdkmdmpaflgfaaaGreatDoor
open Go.RowKit

attribute [local go_sem] i64_xor_nat i64_bit_test in
set_option maxHeartbeats 1000000 in
theorem left_any (bs : Nat) (A A' : Option Addr) (n c c' : Nat) (L : List (Nat × Nat)) (x y : Nat) (w : World) (hT : Tab w) (hn : n = L.length) (hsmall : n ≤ 1000000)
    (hx : Sm x) (hy : Sm y) (hg : Good L)
    (h0 : w.cell? ⟨bs, 0, none⟩ = some (.slice A n c)) (h1 : w.cell? ⟨bs, 1, none⟩ = some (.slice A' n c'))
    (hA : Rd w A (nv (r1 L))) (hA' : Rd w A' (nv (r2 L))) :
    Calls Tryz.prog 111 #[.pointer (some ⟨bs, 0, none⟩), .int .i64 x, .int .i64 y] w fun e w' =>
      e = .returned (.tuple #[.int .i64 (leftN L (x, y)).1, .int .i64 (leftN L (x, y)).2]) ∧ ∃ m, w' = w.drewN m := by
  have Hn := Lib.hid hn; clear hn
  go_enter Tryz.func111, Tryz.ntmps111
  go_wp2_with fail
  go_loopw [1, 2, 15] (fun v u i wr => ∃ k : Nat, k ≤ n ∧ i = .int .i64 k ∧ (∃ m, wr = w.drewN m) ∧ v = .int .i64 (leftN (L.take k) (x, y)).1 ∧ u = .int .i64 (leftN (L.take k) (x, y)).2) (fun _ _ i _ => n - (intOf i).toNat)
  case atStart => exact ⟨0, by omega, rfl, ⟨0, rfl⟩, rfl, rfl⟩
  case round =>
    obtain ⟨k, hk, rfl, ⟨m, rfl⟩, rfl, rfl⟩ := hrel
    by_cases hlt : k < n
    · have hkL : k < L.length := by rw [← Hn.out]; exact hlt
      obtain ⟨b, o, rfl, hc⟩ := hA.atN (k := k) (by rw [r1_length]; exact hkL)
      obtain ⟨b', o', rfl, hc'⟩ := hA'.atN (k := k) (by rw [r2_length]; exact hkL)
      rw [r1_getD] at hc; rw [r2_getD] at hc'
      obtain ⟨g0, g1, g2⟩ := hg.at_ hkL
      have Hs := Lib.hid (fold_take_succ leftStep (x, y) L k (0, 0) hkL)
      have hp : SmP (leftN (L.take k) (x, y)) := SmP.foldl (hg.take k) ⟨hx, hy⟩
      obtain ⟨p1, p2⟩ := hp
      have hpv := pv_le g0 g1
      generalize hP : leftN (L.take k) (x, y) = p at *
      generalize hR : L.getD k (0, 0) = r at *
      have HP := Lib.hid hP; clear hP
      have HR := Lib.hid hR; clear hR hA hA' hg
      have hpiv := fun (W : World) (hT : Tab W) => pivot_any r.1 g0 g1 W hT
      have HV := Lib.hid hpiv; clear hpiv
      cases hb : tb p.1 (pv r.1)
      · go_wp2_with (go_at_call 95; refine (HV.out _ (by exact hT)).mono ?_; rintro e w' ⟨rfl, rfl⟩)
        go_roundw
        case rel => exact ⟨k + 1, by omega, by go_num, ⟨m, rfl⟩, by unfold leftN at *; rw [Hs.out, HP.out]; simp [leftStep, hb], by unfold leftN at *; rw [Hs.out, HP.out]; simp [leftStep, hb]⟩
        case measure => simp [intOf]; omega
      · go_wp2_with (go_at_call 95; refine (HV.out _ (by exact hT)).mono ?_; rintro e w' ⟨rfl, rfl⟩)
        go_quiet (fail)
        go_wp2_with fail
        go_roundw
        case rel => exact ⟨k + 1, by omega, by go_num, ⟨_, rfl⟩, by unfold leftN at *; rw [Hs.out, HP.out]; simp [leftStep, hb], by unfold leftN at *; rw [Hs.out, HP.out]; simp [leftStep, hb]⟩
        case measure => simp [intOf]; omega
    · go_wp2_with fail
      go_ret2
      have e : L.take k = L := List.take_of_length_le (by rw [← Hn.out]; omega)
      rw [e]
      exact ⟨rfl, m, rfl⟩
end Go.Proofs.YtdkmdmpaflgfaaaGreatDoor

namespace Go.Proofs.YtdkmdmpaflgfaaaGreatDoor
open Go.RowKit


/-- A span at block bs: its rows and their companions lie in rows of the call's own. -/
structure SpanAt (w : World) (B bs : Nat) (v1 v2 : Value) (L : List (Nat × Nat)) : Prop where
  blk : w.heap[bs]? = some (.cells #[v1, v2] 97 (0, 0))
  lo : B ≤ bs
  own1 : w.ownsRow B 2 1 v1 L.length (nv (r1 L))
  own2 : w.ownsRow B 2 1 v2 L.length (nv (r2 L))
  ne : v1.ownBlock = none ∨ v1.ownBlock ≠ v2.ownBlock

theorem own_ne {w : World} {B bs n : Nat} {e t : TypeId} {v : Value} {xs : List Value} {cs : Array Value} (h : w.ownsRow B e 1 v n xs) (hb : w.heap[bs]? = some (.cells cs t (0, 0))) (hne : e ≠ t) : v.ownBlock ≠ some bs := by
  rcases h.2 with ⟨rfl, _⟩ | ⟨g, cap, cur, rfl, _, hg, _⟩
  · simp [Value.ownBlock]
  · intro he
    have : g = bs := by simpa [Value.ownBlock] using he
    subst this
    rw [hg] at hb
    injection hb with hb
    injection hb with _ ht
    exact hne ht

section
variable {w w' : World} {B bs : Nat} {v1 v2 : Value} {L : List (Nat × Nat)}
theorem SpanAt.ne1 (h : SpanAt w B bs v1 v2 L) : v1.ownBlock ≠ some bs := own_ne h.own1 h.blk (by decide)
theorem SpanAt.ne2 (h : SpanAt w B bs v1 v2 L) : v2.ownBlock ≠ some bs := own_ne h.own2 h.blk (by decide)
theorem SpanAt.lt (h : SpanAt w B bs v1 v2 L) : bs < w.heap.size := (Array.getElem?_eq_some_iff.1 h.blk).1
theorem SpanAt.c0 (h : SpanAt w B bs v1 v2 L) : w.cell? ⟨bs, 0, none⟩ = some v1 := cell_of_row w bs 0 #[v1, v2] _ (0, 0) h.blk
theorem SpanAt.c1 (h : SpanAt w B bs v1 v2 L) : w.cell? ⟨bs, 1, none⟩ = some v2 := cell_of_row w bs 1 #[v1, v2] _ (0, 0) h.blk
theorem SpanAt.fz (h : SpanAt w B bs v1 v2 L) (i : Nat) : w.frozen? ⟨bs, i, none⟩ = false := by simp [World.frozen?, h.blk]
theorem SpanAt.keeps {S : List (Option Nat)} (h : SpanAt w B bs v1 v2 L) (hk : Keeps w w' S) (hb : some bs ∉ S) (h1 : v1.ownBlock = none ∨ v1.ownBlock ∉ S) (h2 : v2.ownBlock = none ∨ v2.ownBlock ∉ S) : SpanAt w' B bs v1 v2 L :=
  ⟨(hk.block bs h.lt hb).trans h.blk, h.lo, owns_keeps h.own1 hk h1, owns_keeps h.own2 hk h2, h.ne⟩
end

theorem add_no (B bs : Nat) (v1 v2 : Value) (L : List (Nat × Nat)) (x y : Nat) (w : World) (hT : Tab w) (hs : SpanAt w B bs v1 v2 L) (hsmall : L.length ≤ 1000000)
    (hx : Sm x) (hy : Sm y) (hg : Good L) (hq : (leftN L (x, y)).1 = 0) :
    Calls Tryz.prog 82 #[.pointer (some ⟨bs, 0, none⟩), .int .i64 x, .int .i64 y] w fun e w' =>
      e = .returned (.tuple #[.int .i64 (leftN L (x, y)).2, .bool false]) ∧ ∃ m, w.drewN m = w' := by
  obtain ⟨A1, c1, rfl, _, _, _⟩ := owns_shape hs.own1
  obtain ⟨A2, c2, rfl, _, _, _⟩ := owns_shape hs.own2
  have hl := left_any bs A1 A2 L.length c1 c2 L x y w hT rfl hsmall hx hy hg hs.c0 hs.c1 (owns_Rd hs.own1) (owns_Rd hs.own2)
  generalize leftN L (x, y) = q at *
  have HL := Lib.hid hl
  have HQ := Lib.hid hq
  clear hl hq hg
  obtain ⟨q1, q2⟩ := q
  have : q1 = 0 := HQ.out
  subst this
  go_enter Tryz.func82, Tryz.ntmps82
  go_wp2_with (go_at_call 111; refine HL.out.mono ?_; rintro e w' ⟨rfl, m, rfl⟩)
  go_ret2
  exact ⟨rfl, m, rfl⟩

theorem nv_set (xs : List Nat) (k x : Nat) : nv (xs.set k x) = (nv xs).set k (.int .i64 (x : Int)) := by simp [nv, List.map_set]
theorem r1_set (L : List (Nat × Nat)) (k : Nat) (r : Nat × Nat) : r1 (L.set k r) = (r1 L).set k r.1 := by simp [r1, List.map_set]
theorem r2_set (L : List (Nat × Nat)) (k : Nat) (r : Nat × Nat) : r2 (L.set k r) = (r2 L).set k r.2 := by simp [r2, List.map_set]

/-- A row and its companion stored anew. -/
theorem SpanAt.store {w : World} {B bs n g1 g2 c1 c2 : Nat} {M : List (Nat × Nat)} (h : SpanAt w B bs (.slice (some ⟨g1, 0, none⟩) n c1) (.slice (some ⟨g2, 0, none⟩) n c2) M) (k : Nat) (r : Nat × Nat) :
    SpanAt ((w.setCell ⟨g1, k, none⟩ (.int .i64 (r.1 : Int))).setCell ⟨g2, k, none⟩ (.int .i64 (r.2 : Int))) B bs (.slice (some ⟨g1, 0, none⟩) n c1) (.slice (some ⟨g2, 0, none⟩) n c2) (M.set k r) := by
  have n1 : g1 ≠ bs := by have := h.ne1; simpa [Value.ownBlock] using this
  have n2 : g2 ≠ bs := by have := h.ne2; simpa [Value.ownBlock] using this
  have n3 : g1 ≠ g2 := by have := h.ne; simpa [Value.ownBlock] using this
  have e1 : n = M.length := by
    rcases h.own1.2 with ⟨hv, _⟩ | ⟨g, cap, cur, hv, _⟩
    · cases hv
    · injection hv
  have k1 := Keeps.setCell (Keeps.refl w [some g1]) (p := ⟨g1, k, none⟩) (by simp) (.int .i64 (r.1 : Int))
  have k2 := Keeps.setCell (Keeps.refl (w.setCell ⟨g1, k, none⟩ (.int .i64 (r.1 : Int))) [some g2]) (p := ⟨g2, k, none⟩) (by simp) (.int .i64 (r.2 : Int))
  have o1 := h.own1
  have o2 := h.own2
  subst e1
  refine ⟨?_, h.lo, ?_, ?_, h.ne⟩
  · rw [Below.heap_setCell _ _ _ _ (by simpa using fun e => n2 e.symm), Below.heap_setCell _ _ _ _ (by simpa using fun e => n1 e.symm)]; exact h.blk
  · have := (World.ownsRow.stored o1 k (.int .i64 (r.1 : Int))).1
    have := owns_keeps this k2 (.inr (by simp [Value.ownBlock]; exact n3))
    rw [List.length_set, r1_set, nv_set]; exact this
  · have := owns_keeps o2 k1 (.inr (by simp [Value.ownBlock]; exact fun e => n3 e.symm))
    have := (World.ownsRow.stored this k (.int .i64 (r.2 : Int))).1
    rw [List.length_set, r2_set, nv_set]; exact this

/-- the rows after k rounds -/
def midL (q : Nat × Nat) (L : List (Nat × Nat)) (k : Nat) : List (Nat × Nat) := (L.take k).map (addStep q) ++ L.drop k
theorem midL_length (q : Nat × Nat) (L : List (Nat × Nat)) (k : Nat) : (midL q L k).length = L.length := by simp [midL]; omega
theorem midL_getD (q : Nat × Nat) (L : List (Nat × Nat)) (k : Nat) (hk : k < L.length) : (midL q L k).getD k (0, 0) = L.getD k (0, 0) := by
  simp [midL, List.getD, List.getElem?_append, Nat.min_eq_left (Nat.le_of_lt hk)]
theorem midL_succ (q : Nat × Nat) (L : List (Nat × Nat)) (k : Nat) (hk : k < L.length) : midL q L (k + 1) = (midL q L k).set k (addStep q (L.getD k (0, 0))) := by
  apply List.ext_getElem?
  intro i
  simp only [midL, List.getElem?_append, List.getElem?_set, List.length_append, List.length_map, List.length_take, List.getElem?_map, List.getElem?_take, List.getElem?_drop, List.length_drop, List.getD]
  by_cases h1 : i < k
  · simp [h1, show i < k + 1 by omega, show i < min (k + 1) L.length by omega, show i < min k L.length by omega, show k ≠ i by omega]
  · by_cases h2 : i = k
    · subst h2; simp [hk, show i < min (i + 1) L.length by omega, show i < min i L.length + (L.length - i) by omega]
    · simp [show ¬ i < min (k + 1) L.length by omega, show ¬ i < k + 1 by omega, h1, show k ≠ i by omega, show min (k + 1) L.length = k + 1 by omega, show min k L.length = k by omega, show k + 1 + (i - (k + 1)) = i by omega, show k + (i - k) = i by omega]
theorem midL_id (q : Nat × Nat) (L : List (Nat × Nat)) (k : Nat) (hk : k < L.length) (h : addStep q (L.getD k (0, 0)) = L.getD k (0, 0)) : midL q L (k + 1) = midL q L k := by
  rw [midL_succ q L k hk, h]
  apply List.ext_getElem?
  intro i
  rw [List.getElem?_set]
  split
  · rename_i e; subst e
    have := midL_getD q L k hk
    have hl : k < (midL q L k).length := by rw [midL_length]; exact hk
    rw [if_pos hl, ← this]
    simp only [List.getD, List.getElem?_eq_getElem hl, Option.getD_some]
  · rfl

theorem sblk {w : World} {bs : Nat} {v1 v2 : Value} (h : w.heap[bs]? = some (.cells #[v1, v2] 97 (0, 0))) :
    w.heap[bs]? = some (.cells #[v1, v2] 97 (0, 0)) ∧ w.cell? ⟨bs, 0, none⟩ = some v1 ∧ w.cell? ⟨bs, 1, none⟩ = some v2 ∧ w.frozen? ⟨bs, 0, none⟩ = false ∧ w.frozen? ⟨bs, 1, none⟩ = false :=
  ⟨h, cell_of_row w bs 0 #[v1, v2] _ (0, 0) h, cell_of_row w bs 1 #[v1, v2] _ (0, 0) h, by simp [World.frozen?, h], by simp [World.frozen?, h]⟩



theorem own_app {w : World} {B n g c : Nat} {M : List Nat} {x : Nat} (h : w.ownsRow B 2 1 (.slice (some ⟨g, 0, none⟩) (n + 1) c) (n + 1) (nv M ++ [.int .i64 (x : Int)])) (hn : n = M.length) :
    w.ownsRow B 2 1 (.slice (some ⟨g, 0, none⟩) (n + 1) c) (M ++ [x]).length (nv (M ++ [x])) := by
  subst hn
  have e : nv (M ++ [x]) = nv M ++ [.int .i64 (x : Int)] := by simp [nv]
  rw [e, List.length_append]; exact h

/-- What the two appends and the two stores leave. -/
theorem add_close {wr w1 w2 : World} {B bs n g1 g2 c1 c2 : Nat} {v1 v2 : Value} {M : List (Nat × Nat)} {q : Nat × Nat} (h : SpanAt wr B bs v1 v2 M) (hn : n = M.length)
    (k1 : Keeps wr w1 [v1.ownBlock]) (o1 : w1.ownsRow B 2 1 (.slice (some ⟨g1, 0, none⟩) (n + 1) c1) (n + 1) (nv (r1 M) ++ [.int .i64 (q.1 : Int)])) (a1 : v1.ownBlock = some g1 ∨ wr.heap.size ≤ g1) (l1 : g1 < w1.heap.size)
    (k2 : Keeps w1 w2 [v2.ownBlock]) (o2 : w2.ownsRow B 2 1 (.slice (some ⟨g2, 0, none⟩) (n + 1) c2) (n + 1) (nv (r2 M) ++ [.int .i64 (q.2 : Int)])) (a2 : v2.ownBlock = some g2 ∨ w1.heap.size ≤ g2) :
    SpanAt ((w2.setCell ⟨bs, 0, none⟩ (.slice (some ⟨g1, 0, none⟩) (n + 1) c1)).setCell ⟨bs, 1, none⟩ (.slice (some ⟨g2, 0, none⟩) (n + 1) c2)) B bs (.slice (some ⟨g1, 0, none⟩) (n + 1) c1) (.slice (some ⟨g2, 0, none⟩) (n + 1) c2) (M ++ [q]) ∧
    Keeps wr ((w2.setCell ⟨bs, 0, none⟩ (.slice (some ⟨g1, 0, none⟩) (n + 1) c1)).setCell ⟨bs, 1, none⟩ (.slice (some ⟨g2, 0, none⟩) (n + 1) c2)) [some bs, v1.ownBlock, v2.ownBlock] := by
  have n1 := h.ne1
  have n2 := h.ne2
  have lb := h.lt
  have t1 := fun k hk => (h.own1.lt k hk).2
  have t2 := fun k hk => (h.own2.lt k hk).2
  have s1 := k1.size
  have hne : g1 ≠ g2 := by
    intro e
    subst e
    rcases a1 with a1 | a1 <;> rcases a2 with a2 | a2
    · rcases h.ne with e | e
      · rw [e] at a1; cases a1
      · exact e (a1.trans a2.symm)
    · have := t1 _ a1; omega
    · have := t2 _ a2; omega
    · omega
  have b1 : g1 ≠ bs := by
    intro e; subst e
    rcases a1 with a1 | a1
    · exact n1 a1
    · omega
  have b2 : g2 ≠ bs := by
    intro e; subst e
    rcases a2 with a2 | a2
    · exact n2 a2
    · omega
  have blk2 : w2.heap[bs]? = some (.cells #[v1, v2] 97 (0, 0)) := by
    rw [k2.block bs (by omega) (by simp; exact fun e => n2 e.symm), k1.block bs lb (by simp; exact fun e => n1 e.symm)]; exact h.blk
  have o1' : w2.ownsRow B 2 1 (.slice (some ⟨g1, 0, none⟩) (n + 1) c1) (n + 1) (nv (r1 M) ++ [.int .i64 (q.1 : Int)]) := by
    refine owns_keeps o1 k2 (.inr ?_)
    show some g1 ∉ [v2.ownBlock]
    rw [List.mem_singleton]
    intro e
    rcases a2 with a2 | a2
    · rw [a2] at e; injection e with e; exact hne e
    · have := t2 _ e.symm
      rcases a1 with a1 | a1
      · rcases h.ne with e' | e'
        · rw [e'] at a1; cases a1
        · exact e' (a1.trans e)
      · omega
  have ks : Keeps w2 ((w2.setCell ⟨bs, 0, none⟩ (.slice (some ⟨g1, 0, none⟩) (n + 1) c1)).setCell ⟨bs, 1, none⟩ (.slice (some ⟨g2, 0, none⟩) (n + 1) c2)) [some bs] :=
    ((Keeps.refl w2 [some bs]).setCell (p := ⟨bs, 0, none⟩) (by simp) _).setCell (p := ⟨bs, 1, none⟩) (by simp) _
  have hb := heap_setCell_same (w2.setCell ⟨bs, 0, none⟩ (.slice (some ⟨g1, 0, none⟩) (n + 1) c1)) bs 1 _ 97 (.slice (some ⟨g2, 0, none⟩) (n + 1) c2) (heap_setCell_same w2 bs 0 _ 97 (.slice (some ⟨g1, 0, none⟩) (n + 1) c1) blk2)
  refine ⟨⟨?_, h.lo, ?_, ?_, .inr ?_⟩, ?_⟩
  · simpa using hb
  · have := own_app (owns_keeps o1' ks (.inr (by simp [Value.ownBlock]; exact b1))) (by rw [hn, r1_length])
    have e : (r1 M ++ [q.1]) = r1 (M ++ [q]) := by simp [r1]
    rw [e, r1_length] at this; exact this
  · have := own_app (owns_keeps o2 ks (.inr (by simp [Value.ownBlock]; exact b2))) (by rw [hn, r2_length])
    have e : (r2 M ++ [q.2]) = r2 (M ++ [q]) := by simp [r2]
    rw [e, r2_length] at this; exact this
  · simpa [Value.ownBlock] using hne
  · refine (k1.trans k2 (T := [v1.ownBlock, v2.ownBlock]) (by simp)).trans ks ?_
    intro j _ hj; simp only [List.mem_cons, List.not_mem_nil, or_false] at hj ⊢; rcases hj with hj | hj; exact .inr hj; exact .inl hj

/-- The whole of what 'add' leaves where the row is new. -/
def AddPost (w : World) (B bs : Nat) (v1 v2 : Value) (N : List (Nat × Nat)) (w' : World) : Prop :=
  Keeps w w' [some bs, v1.ownBlock, v2.ownBlock] ∧
      ∃ u1 u2, SpanAt w' B bs u1 u2 N ∧ (u1.ownBlock = v1.ownBlock ∨ ∃ k, u1.ownBlock = some k ∧ w.heap.size ≤ k) ∧ (u2.ownBlock = v2.ownBlock ∨ ∃ k, u2.ownBlock = some k ∧ w.heap.size ≤ k)

theorem add_post {w wr w1 w2 : World} {B bs n g1 g2 c1 c2 : Nat} {v1 v2 : Value} {M : List (Nat × Nat)} {q : Nat × Nat} (h : SpanAt wr B bs v1 v2 M) (hn : n = M.length) (k0 : Keeps w wr [v1.ownBlock, v2.ownBlock])
    (k1 : Keeps wr w1 [v1.ownBlock]) (o1 : w1.ownsRow B 2 1 (.slice (some ⟨g1, 0, none⟩) (n + 1) c1) (n + 1) (nv (r1 M) ++ [.int .i64 (q.1 : Int)])) (a1 : v1.ownBlock = some g1 ∨ wr.heap.size ≤ g1) (l1 : g1 < w1.heap.size)
    (k2 : Keeps w1 w2 [v2.ownBlock]) (o2 : w2.ownsRow B 2 1 (.slice (some ⟨g2, 0, none⟩) (n + 1) c2) (n + 1) (nv (r2 M) ++ [.int .i64 (q.2 : Int)])) (a2 : v2.ownBlock = some g2 ∨ w1.heap.size ≤ g2) :
    AddPost w B bs v1 v2 (M ++ [q]) ((w2.setCell ⟨bs, 0, none⟩ (.slice (some ⟨g1, 0, none⟩) (n + 1) c1)).setCell ⟨bs, 1, none⟩ (.slice (some ⟨g2, 0, none⟩) (n + 1) c2)) := by
  obtain ⟨hs, hk⟩ := add_close h hn k1 o1 a1 l1 k2 o2 a2
  have s0 := k0.size
  have s1 := k1.size
  refine ⟨k0.trans hk (fun j _ hj => by simp only [List.mem_cons, List.not_mem_nil, or_false] at hj ⊢; rcases hj with hj | hj; exact .inr hj; exact hj), _, _, hs, ?_, ?_⟩
  · rcases a1 with a1 | a1
    · exact .inl a1.symm
    · exact .inr ⟨g1, rfl, by omega⟩
  · rcases a2 with a2 | a2
    · exact .inl a2.symm
    · exact .inr ⟨g2, rfl, by omega⟩

theorem keeps_g {w w1 : World} {r : Option Nat} (h : w.grownBy w1 r) : Keeps w w1 [r] := Keeps.of_grown h
theorem keeps_a1 {w w1 : World} {o : Obj} {r : Option Nat} (h : (w.alloc o).grownBy w1 r) : Keeps w w1 [r] :=
  ((Keeps.refl w []).alloc o).trans (Keeps.of_grown h) (by simp)
theorem keeps_a1d {w w1 : World} {o : Obj} {r : Option Nat} (h : (w.alloc o).drew.grownBy w1 r) : Keeps w w1 [r] :=
  (((Keeps.refl w []).alloc o).drew).trans (Keeps.of_grown h) (by simp)
theorem keeps_a2d {w w1 : World} {o o' : Obj} {r : Option Nat} (h : ((w.alloc o).alloc o').drew.grownBy w1 r) : Keeps w w1 [r] :=
  ((((Keeps.refl w []).alloc o).alloc o').drew).trans (Keeps.of_grown h) (by simp)
theorem at_g {w : World} {x : Option Nat} {g : Nat} (h : x = some g ∨ g = w.heap.size) : x = some g ∨ w.heap.size ≤ g := h.imp id (by omega)
theorem at_a1 {w : World} {o : Obj} {x : Option Nat} {g : Nat} (h : x = some g ∨ g = (w.alloc o).heap.size) : x = some g ∨ w.heap.size ≤ g := h.imp id (by simp; omega)
theorem at_a1d {w : World} {o : Obj} {x : Option Nat} {g : Nat} (h : x = some g ∨ g = (w.alloc o).drew.heap.size) : x = some g ∨ w.heap.size ≤ g := h.imp id (by simp; omega)
theorem at_a2d {w : World} {o o' : Obj} {x : Option Nat} {g : Nat} (h : x = some g ∨ g = ((w.alloc o).alloc o').drew.heap.size) : x = some g ∨ w.heap.size ≤ g := h.imp id (by simp; omega)
end Go.Proofs.YtdkmdmpaflgfaaaGreatDoor
