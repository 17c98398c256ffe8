/- impl's (*table).fault, IsModule · the program's IsModule and tableOf at modules that came in · the program's partOf: the part of a module with a basis · impl's isMap, mapped, IsModuleMap, ApplyMap · the reference's ApplyMap, ComposeMaps · impl's mapped, IsModuleMap, ApplyMap, ComposeMaps · contracts of slices.SortFunc and cmp.Compare, laid at this dump (printed by lay.sh, turned into a template by mksl.py) · own rows beside a span · copies, the span's reduced rows, impl.reduced · impl.reduced -/
import Derived.Test.YtpchigdhnnkpcaaGreatDoorBxah
import Derived.Test.YtpchigdhnnkpcaaGreatDoorBxau
import Derived.Test.YtpchigdhnnkpcaaGreatDoorBxak
import Derived.Test.YtpchigdhnnkpcaaGreatDoorBxal
import Derived.Test.YtpchigdhnnkpcaaGreatDoorBxat
import Derived.Test.YtpchigdhnnkpcaaGreatDoorBxas
import Derived.Shelf.SlSortCmp.NoneTotal
import Derived.Shelf.SlicesG.Cmp
import Derived.Test.YtpchigdhnnkpcaaGreatDoorProg
import Derived.Test.YtpchigdhnnkpcaaGreatDoorBxar
import Derived.Deep.Onto
import Derived.Test.YtpchigdhnnkpcaaGreatDoorBxag
set_option linter.all false
namespace Go.Proofs.YtpchigdhnnkpcaaGreatDoor
open Go.RowKit

theorem xsumf_take {f : Nat → Nat} (l : List Nat) {k : Nat} (hk : k < l.length) : xsumf f (l.take (k + 1)) = xr (xsumf f (l.take k)) (f (l.getD k 0)) := by
  rw [List.take_succ_eq_append_getElem hk, xsumf_append, xsumf_cons]
  congr 1
  simp [List.getD, hk, xsumf, xr_zero]
theorem xr_eq_zero {a b : Nat} : xr a b = 0 ↔ a = b := by
  constructor
  · intro h
    have := xr_xr a b
    rw [h, xr_zero] at this; exact this
  · rintro rfl; exact xr_self a
theorem relN_le {a b k : Nat} (hk : k < (relN a b).length) : 2 * (relN a b).getD k 0 ≤ a := (mem_relN (b := b) (by simp [List.getD, hk])).1
theorem relN_len (a b : Nat) : (relN a b).length ≤ a / 2 + 1 := relF_len a b (a / 2 + 1)

/-- no fault: nil -/
def FaultN (ok : Prop) (w : World) (e : Ending) (w' : World) : Prop := ((e = .returned (.slice none 0 0) ∧ ok) ∨ ∃ g, e = .returned (.slice (some ⟨g, 0, none⟩) 3 3) ∧ ¬ ok) ∧ Below w.heap.size w w'
attribute [local go_sem] i64_xor_nat in
set_option maxRecDepth 100000 in
set_option maxHeartbeats 4000000 in
theorem fault_any (g : Nat) (A : Option Addr) (n c : Nat) (xs : List Int) (Q : List (List Int)) (w : World) (hn : n = xs.length) (hs : Shp xs Q) (ht : TblAt w g A n c Q) :
    Calls Tryz.prog 102 #[.pointer (some ⟨g, 0, none⟩)] w (FaultN (IsMod xs Q) w) := by
  have hn16 : n ≤ 16 := by rw [hn]; exact hs.len
  have HSQ := Lib.hid (fun (z y : Int) (v : Nat) W (hb : Below w.heap.size w W) hz hy hv => square_any g A n c xs Q z y v W hn hs hz hy hv (ht.below hb))
  have HC := Lib.hid ht.c0
  have HALT := Lib.hid (fun (z : Int) {v : Nat} (hv : v < 2 ^ xs.length) => act_lt hs hv z)
  have HSM := Lib.hid (fun (v : Nat) (hv : v < 2 ^ xs.length) => sm_of_len hs.len hv)
  have Hn := Lib.hid hn
  have HS := Lib.hid hs
  clear hn hs ht
  go_enter Tryz.func102, Tryz.ntmps102
  go_wp2_with fail
  go_loopw [3] (fun s3 wr => ∃ a : Nat, 1 ≤ a ∧ a ≤ 21 ∧ s3 = .int .i64 a ∧ Hid (∀ a' b i : Nat, 1 ≤ a' → a' < a → a' < 2 * b → a' + b ≤ 20 → i < n → OkAt Q a' b (2 ^ i)) ∧ Below w.heap.size w wr) (fun i _ => 21 - (intOf i).toNat)
  case atStart => exact ⟨1, by omega, by omega, rfl, Lib.hid (fun a' b i h1 h2 => by omega), Below.refl _ _⟩
  case round =>
    obtain ⟨a, ha1, ha2, rfl, HOA, hbel⟩ := hrel
    have HBL := Lib.hid hbel
    by_cases hlt : a ≤ 20
    · clear hbel
      go_wp2_with fail
      go_loopw [4] (fun s4 wr => ∃ b : Nat, a < 2 * b ∧ b ≤ 21 ∧ s4 = .int .i64 b ∧ Hid (∀ b' i : Nat, a < 2 * b' → b' < b → a + b' ≤ 20 → i < n → OkAt Q a b' (2 ^ i)) ∧ Below w.heap.size w wr) (fun i _ => 21 - (intOf i).toNat)
      case atStart => exact ⟨a / 2 + 1, by omega, by omega, congrArg (Value.int .i64) (by omega), Lib.hid (fun b' i h1 h2 => by omega), HBL.out⟩
      case round =>
        obtain ⟨b, hb2, hb3, rfl, HOB, hbel⟩ := hrel
        have HBL := Lib.hid hbel
        have hsz := hbel.size
        by_cases hlt2 : a + b ≤ 20
        · have hlt2' : (a : Int) + b ≤ 20 := by omega
          have HR := Lib.hid (relation_any a b wr ha1 hb2 (by omega))
          clear hbel
          go_wp2_with fail
          refine HR.out.mono ?_
          rintro e w1 ⟨gr, k, cr, rfl, hk, ho, hb⟩
          have HB1 := Lib.hid (HBL.out.trans (hb.mono hsz))
          have HK := hk
          have HRR := Lib.hid (owns_Rd ho)
          have hk20 : k ≤ 20 := by have := relN_len a b; have := hk.out; omega
          have hc0 := cell_keep HC.out (HB1.out)
          clear hk ho hb
          go_wp2_with fail
          go_loop [31] (fun s => ∃ v : Nat, v ≤ n ∧ s = .int .i64 v ∧ Hid (∀ i : Nat, i < v → OkAt Q a b (2 ^ i))) (fun i => n - (intOf i).toNat)
          case atStart => exact ⟨0, by omega, rfl, Lib.hid (fun i h => by omega)⟩
          case round =>
            obtain ⟨v, hv, rfl, HOV⟩ := hrel
            by_cases hlt3 : v < n
            · have HE : Hid (((2 ^ v : Nat) : Int) = (2 : Int) ^ v) := Lib.hid (by simp)
              obtain ⟨hp1, hp2⟩ := pow2_bd (d := v) (by omega)
              have HV : Hid (2 ^ v < 2 ^ xs.length) := Lib.hid (pow_lt_pow (by rw [← Hn.out]; exact hlt3))
              have HQ1 := Lib.hid (HSQ.out (b : Int) ((2 : Int) ^ v) (2 ^ v) w1 HB1.out (by omega) HE.out.symm HV.out)
              have HQ2 := Lib.hid (HSQ.out (a : Int) ((act Q (b : Int) (2 ^ v) : Nat) : Int) _ w1 HB1.out (by omega) rfl (HALT.out (b : Int) HV.out))
              have HXL := Lib.hid (HALT.out (a : Int) (HALT.out (b : Int) HV.out))
              have HF := Lib.hid (fun j : Nat => HALT.out ((a + b - j : Nat) : Int) (HALT.out (j : Int) HV.out))
              have HQ3 := Lib.hid (fun (j : Nat) (hj : 2 * j ≤ a) => HSQ.out (j : Int) ((2 : Int) ^ v) (2 ^ v) w1 HB1.out (by omega) HE.out.symm HV.out)
              have HQ4 := Lib.hid (fun (j : Nat) (hj : 2 * j ≤ a) => HSQ.out ((a + b - j : Nat) : Int) ((act Q (j : Int) (2 ^ v) : Nat) : Int) _ w1 HB1.out (by omega) rfl (HALT.out (j : Int) HV.out))
              obtain ⟨F, hF⟩ : ∃ F : Nat → Nat, F = fun j : Nat => act Q ((a + b - j : Nat) : Int) (act Q (j : Int) (2 ^ v)) := ⟨_, rfl⟩
              have HOK : Hid (OkAt Q a b (2 ^ v) ↔ act Q (a : Int) (act Q (b : Int) (2 ^ v)) = xsumf F (relN a b)) := Lib.hid (by rw [hF]; exact Iff.rfl)
              have HFJ : Hid (∀ j : Nat, act Q ((a + b - j : Nat) : Int) (act Q (j : Int) (2 ^ v)) = F j) := Lib.hid (fun j => by rw [hF])
              clear hF
              go_wp2_with fail
              refine HQ1.out.mono ?_
              rintro e w' ⟨rfl, rfl⟩
              go_wp2_with fail
              refine HQ2.out.mono ?_
              rintro e w' ⟨rfl, rfl⟩
              generalize act Q (a : Int) (act Q (b : Int) (2 ^ v)) = X at *
              have hXs := HSM.out _ HXL.out
              clear HQ1 HQ2
              go_wp2_with fail
              go_loop [7, 44] (fun x i => ∃ q : Nat, q ≤ k ∧ i = .int .i64 q ∧ x = .int .i64 ((xr X (xsumf F ((relN a b).take q)) : Nat) : Int)) (fun _ i => k - (intOf i).toNat)
              case atStart => exact ⟨0, by omega, rfl, by rw [show xsumf F ((relN a b).take 0) = 0 from rfl, xr_zero]⟩
              case round =>
                obtain ⟨q, hq, rfl, rfl⟩ := hrel
                have h1 : Sm (xr X (xsumf F ((relN a b).take q))) := hXs.xr (HSM.out _ (xsumf_lt F _ fun j _ => by rw [← HFJ.out j]; exact HF.out j))
                by_cases hlt4 : q < k
                · have hqR : q < (relN a b).length := by rw [← HK.out]; exact hlt4
                  obtain ⟨b1, o1, he1, hcj⟩ := HRR.out.atN hqR
                  injection he1 with he1
                  injection he1 with he1 he2 _
                  subst he1
                  subst he2
                  rw [Nat.zero_add] at hcj
                  have hj := relN_le hqR
                  have HX := Lib.hid (xsumf_take (f := F) (relN a b) hqR)
                  generalize (relN a b).getD q 0 = j at *
                  have HP3 := Lib.hid (HQ3.out j hj)
                  have HP4 := Lib.hid (HQ4.out j hj)
                  have h2 : Sm (F j) := HSM.out _ (by rw [← HFJ.out j]; exact HF.out j)
                  have e3 : ((a + b - j : Nat) : Int) = (a : Int) + b - j := by omega
                  rw [HFJ.out j, e3] at HP4
                  have HXX : Hid (xr X (xsumf F ((relN a b).take (q + 1))) = xr (xr X (xsumf F ((relN a b).take q))) (F j)) := Lib.hid (by rw [HX.out, xr_assoc])
                  have hj20 : j ≤ 20 := by omega
                  generalize xr X (xsumf F ((relN a b).take q)) = Y at *
                  generalize F j = Z at *
                  clear e3
                  go_wp2_with fail
                  refine HP3.out.mono ?_
                  rintro e w' ⟨rfl, rfl⟩
                  go_wp2_with fail
                  refine HP4.out.mono ?_
                  rintro e w' ⟨rfl, rfl⟩
                  go_wp2_with fail
                  go_round
                  case rel => exact ⟨q + 1, by omega, by go_num, by rw [HXX.out]⟩
                  case measure => simp [intOf]; omega
                · have he : (relN a b).take q = relN a b := List.take_of_length_le (by rw [← HK.out]; omega)
                  rw [he] at h1 ⊢
                  by_cases hz : xr X (xsumf F (relN a b)) = 0
                  · have HYES := Lib.hid (HOK.out.2 (xr_eq_zero.1 hz))
                    have hzb : (((xr X (xsumf F (relN a b)) : Nat) : Int) != 0) = false := by rw [hz]; rfl
                    generalize xr X (xsumf F (relN a b)) = Y at *
                    clear hz he
                    go_wp2_with fail
                    go_round
                    case rel =>
                      refine ⟨v + 1, by omega, by go_num, Lib.hid (fun i hi => ?_)⟩
                      by_cases e : i = v
                      · subst e; exact HYES.out
                      · exact HOV.out i (by omega)
                    case measure => simp [intOf]; omega
                  · have HNO := Lib.hid (show ¬ IsMod xs Q from fun hm => hz (xr_eq_zero.2 (HOK.out.1 (hm.ok a b ha1 hb2 hlt2 v (by rw [← Hn.out]; exact hlt3)))))
                    have hzb : (((xr X (xsumf F (relN a b)) : Nat) : Int) != 0) = true := by simp; omega
                    generalize xr X (xsumf F (relN a b)) = Y at *
                    clear hz he
                    go_wp2_with fail
                    go_ret
                    exact ⟨.inr ⟨_, rfl, HNO.out⟩, HB1.out.alloc HB1.out.size _⟩
            · obtain rfl : v = n := by omega
              go_wp2_with fail
              go_roundw
              case rel =>
                refine ⟨b + 1, by omega, by omega, by go_num, Lib.hid (fun b' i h1 h2 h3 hi => ?_), HB1.out⟩
                by_cases e : b' = b
                · subst e; exact HOV.out i hi
                · exact HOB.out b' i h1 (by omega) h3 hi
              case measure => simp [intOf]; omega
        · have hlt2' : ¬ (a : Int) + b ≤ 20 := by omega
          clear hbel
          go_wp2_with fail
          go_roundw
          case rel =>
            refine ⟨a + 1, by omega, by omega, by go_num, Lib.hid (fun a' b' i h1 h2 h3 h4 hi => ?_), HBL.out⟩
            by_cases e : a' = a
            · subst e; exact HOB.out b' i h3 (by omega) h4 hi
            · exact HOA.out a' b' i h1 (by omega) h3 h4 hi
          case measure => simp [intOf]; omega
    · obtain rfl : a = 21 := by omega
      have HOK : Hid (IsMod xs Q) := Lib.hid ⟨HS.out, fun a' b h1 h2 h3 i hi => HOA.out a' b i h1 (by omega) h2 h3 (by rw [Hn.out]; exact hi)⟩
      clear hbel
      go_wp2_with fail
      go_ret
      exact ⟨.inl ⟨rfl, HOK.out⟩, HBL.out⟩

set_option maxHeartbeats 1000000 in
theorem isModule_any (A A' : Option Addr) (n c m c' : Nat) (xs : List Int) (L : List Row) (w : World) (hn : n = xs.length) (hsm : n ≤ 1048576) (hR : Rd w A (iv xs)) (hm : m = L.length) (hm1 : m ≤ 1048576) (hl : ∀ i, i < L.length → (rg L i).xs.length ≤ 1048576) (hR' : RdR w A' L) :
    Calls Tryz.prog 71 #[.agg #[.slice A n c, .slice A' m c']] w fun e w' => e = .returned (.bool (modB xs (dat L))) ∧ Below w.heap.size w w' := by
  have hb0 : Below w.heap.size w (w.alloc (.cells #[.slice A n c, .slice A' m c'] 29)) := (Below.refl _ _).alloc (Nat.le_refl _) _
  have hk0 := blk_new w (.cells #[.slice A n c, .slice A' m c'] 29)
  obtain ⟨x0, x1, xf0, xf1, lx⟩ := blk2cells hk0
  have HSH := Lib.hid (isTable_any A A' n c m c' xs L _ hn hsm (hR.below hb0) hm hm1 hl (hR'.below hb0))
  have HB0 := Lib.hid hb0
  have HK0 := Lib.hid hk0
  have q24 : ∀ (w : World) (a : Option Addr) (n c n' c' : Nat), (binOp .eql 22 (.slice a n c) (.slice none n' c')).run Tryz.prog w = .ok (.bool a.isNone) w := fun w a n c n' c' => Lib.run_eql_slice_nil w _ _ a n c n' c' Tryz.underlying22
  cases hs : shpB xs (dat L)
  · rw [hs] at HSH
    have HF := Lib.hid (modB_no (fun h => shpB_not hs h.shp))
    clear hb0 hk0 hn hR hm hl hR' hs
    go_enter Tryz.func71, Tryz.ntmps71
    go_wp2_with (go_at_call 101; refine HSH.out.mono ?_; rintro e w1 ⟨rfl, hb⟩; have HB1 := Lib.hid (HB0.out.trans (hb.mono HB0.out.size)); clear hb)
    go_ret
    exact ⟨by rw [HF.out]; rfl, HB1.out⟩
  · rw [hs] at HSH
    have hshp := shpB_iff.1 hs
    have HTO := Lib.hid (fun W (hb : Below w.heap.size w W) => tableOf_any A A' n c m c' xs L W hn hm hm1 hshp (hR'.below hb))
    have HFA := Lib.hid (fun g W ht => fault_any g A n c xs (dat L) W hn hshp ht)
    clear hb0 hk0 hn hR hm hl hR' hs hshp
    go_enter Tryz.func71, Tryz.ntmps71
    go_wp2_with fail
    refine HSH.out.mono ?_
    rintro e w1 ⟨rfl, hb⟩
    have HB1 := Lib.hid (HB0.out.trans (hb.mono HB0.out.size))
    have HK1 := Lib.hid (blk_kept HK0.out hb)
    clear hb x0 x1 xf0 xf1 lx
    obtain ⟨x0, x1, xf0, xf1, lx⟩ := blk2cells HK1.out
    go_wp2_with fail
    refine (HTO.out _ HB1.out).mono ?_
    rintro e w2 ⟨g, h, rfl, ht⟩
    have HB2 := Lib.hid (HB1.out.trans (ht.bel.mono HB1.out.size))
    have HFA2 := Lib.hid (HFA.out g w2 ht.rd)
    clear ht
    go_wp2_with fail
    refine HFA2.out.mono ?_
    rintro e w3 ⟨hor, hb⟩
    have HB3 := Lib.hid (HB2.out.trans (hb.mono HB2.out.size))
    clear hb
    rcases hor with ⟨rfl, hok⟩ | ⟨gf, rfl, hno⟩
    · have HT := Lib.hid (modB_yes hok)
      clear hok
      go_wp2_with fail
      go_ret
      exact ⟨by rw [HT.out]; rfl, HB3.out⟩
    · have HT := Lib.hid (modB_no hno)
      clear hno
      go_wp2_with fail
      go_ret
      exact ⟨by rw [HT.out]; rfl, HB3.out⟩
end Go.Proofs.YtpchigdhnnkpcaaGreatDoor

namespace Go.Proofs.YtpchigdhnnkpcaaGreatDoor
open Go.RowKit

theorem ModIn.isM {w : World} {A A' : Option Addr} {n m : Nat} {xs : List Int} {L : List Row} (h : ModIn w A n A' m xs L) (c c' : Nat) (W : World) (hb : Below w.heap.size w W) :
    Calls Tryz.prog 71 #[.agg #[.slice A n c, .slice A' m c']] W fun e w' => e = .returned (.bool (modB xs (dat L))) ∧ Below W.heap.size W w' :=
  isModule_any A A' n c m c' xs L W h.r.hn h.hsm (h.r.deg.below hb) h.r.hm h.r.hm1 h.hl (h.r.act.below hb)
theorem ModR.table {w : World} {A A' : Option Addr} {n m : Nat} {xs : List Int} {L : List Row} (h : ModR w A n A' m xs L) (hs : Shp xs (dat L)) (c c' : Nat) (W : World) (hb : Below w.heap.size w W) :
    Calls Tryz.prog 72 #[.agg #[.slice A n c, .slice A' m c']] W fun e w' => ∃ g, e = .returned (.pointer (some ⟨g, 0, none⟩)) ∧ TblAt w' g A n c (dat L) ∧ Below W.heap.size W w' :=
  (tableOf_any A A' n c m c' xs L W h.hn h.hm h.hm1 hs (h.act.below hb)).mono fun _ _ ⟨g, _, he, ht⟩ => ⟨g, he, ht.rd, ht.bel⟩

end Go.Proofs.YtpchigdhnnkpcaaGreatDoor

namespace Go.Proofs.YtpchigdhnnkpcaaGreatDoor
open Go.RowKit

theorem blk1c {w : World} {g : Nat} {u : Value} {t : TypeId} (h : w.heap[g]? = some (.cells #[u] t (0, 0))) : w.cell? ⟨g, 0, none⟩ = some u ∧ w.frozen? ⟨g, 0, none⟩ = false ∧ g < w.heap.size :=
  ⟨cell_of_row w g 0 #[u] _ (0, 0) h, by simp [World.frozen?, h], (Array.getElem?_eq_some_iff.1 h).1⟩
set_option maxRecDepth 100000 in
set_option maxHeartbeats 8000000 in
theorem partOf_any (A A' C : Option Addr) (n c m c' k cc : Nat) (xs : List Int) (L : List Row) (S : List Nat) (w : World) (hT : Tab w) (hw : 0 < w.heap.size) (hM : ModIn w A n A' m xs L) (hs : Shp xs (dat L)) (hk : k = S.length) (hk1 : k ≤ 16) (hS : ∀ r ∈ S, r ≠ 0 ∧ r < 2 ^ xs.length) (hC : Rd w C (nv S)) :
    Calls Tryz.prog 57 #[.agg #[.slice A n c, .slice A' m c'], .slice C k cc] w (ResMR (partMR xs (dat L) S) w) := by
  have hb0 : Below w.heap.size w (((w.alloc (.cells #[.slice A n c, .slice A' m c'] 29)).alloc (.cells #[.slice C k cc] 22)).alloc (.cells #[.slice none 0 0, .slice none 0 0] 29)) := (((Below.refl _ _).alloc (Nat.le_refl _) _).alloc (by simp) _).alloc (by simp; omega) _
  have hkm := blk_alloc (blk_alloc (blk_new w (.cells #[.slice A n c, .slice A' m c'] 29)) (.cells #[.slice C k cc] 22)) (.cells #[.slice none 0 0, .slice none 0 0] 29)
  have hkb := blk_alloc (blk_new (w.alloc (.cells #[.slice A n c, .slice A' m c'] 29)) (.cells #[.slice C k cc] 22)) (.cells #[.slice none 0 0, .slice none 0 0] 29)
  have hkr := blk_new ((w.alloc (.cells #[.slice A n c, .slice A' m c'] 29)).alloc (.cells #[.slice C k cc] 22)) (.cells #[.slice none 0 0, .slice none 0 0] 29)
  simp only [World.size_alloc] at hkb hkr
  have hn16 : n ≤ 16 := by rw [hM.r.hn]; exact hs.len
  have HTO := Lib.hid (fun W (hb : Below w.heap.size w W) => tableOf_any A A' n c m c' xs L W hM.r.hn hM.r.hm hM.r.hm1 hs (hM.r.act.below hb))
  have HSS : Hid (∀ r ∈ S, r ≠ 0 ∧ Sm r ∧ pv r < n) := Lib.hid (fun r hr => by
    obtain ⟨h1, h2⟩ := hS r hr
    have h3 := sm_of_lt (a := xs.length) (by have := hs.len; omega) h2
    exact ⟨h1, h3, by rw [hM.r.hn]; exact pv_lt h1 h3 h2⟩)
  have HDO := Lib.hid (fun W (hb : Below w.heap.size w W) => degreesOf_any A A' C n c m c' k cc xs S W (hT.below hb hw) (Nat.lt_of_lt_of_le hw hb.size) hM.r.hn (by omega) hk (by omega) HSS.out (hM.r.deg.below hb) (hC.below hb))
  have HVO := Lib.hid (fun W (hb : Below w.heap.size w W) => vectorsOf_any A A' C n c m c' k cc S W hk (by omega) (by omega) (fun r hr => (HSS.out r hr).2.1) (hC.below hb))
  have HCL := Lib.hid (fun (gt g j i : Nat) W (hb : Below w.heap.size w W) (hi : i < k) ht hb' hA => partClo_any gt (w.heap.size + 1) g A n c xs (dat L) C k cc S j i W (hT.below hb hw) (Nat.lt_of_lt_of_le hw hb.size) hM.r.hn hs hk hk1 hi hS ht hb' (hC.below hb) hA)
  have HMA : Hid (modA (fun j i => cooT S (act (dat L) (j : Int) (S.getD i 0)) k) k = partA (dat L) S) := Lib.hid (by rw [hk]; exact modA_part (dat L) S)
  have HB0 := Lib.hid hb0
  have HKM := Lib.hid hkm
  have HKB := Lib.hid hkb
  have HKR := Lib.hid hkr
  have Hk := Lib.hid hk
  have Hnx : Hid (n = xs.length) := Lib.hid hM.r.hn
  obtain ⟨x0, x1, xf0, xf1, lx⟩ := blk2cells hkm
  obtain ⟨b0, bf0, lb⟩ := blk1c hkb
  clear hb0 hkm hkb hkr hk hM hs hS hC hT
  go_enter Tryz.func57, Tryz.ntmps57
  go_wp2_with fail
  refine (HTO.out _ HB0.out).mono ?_
  rintro e w1 ⟨g, h, rfl, ht⟩
  have HTB := Lib.hid ht.rd
  have HB1 := Lib.hid (HB0.out.trans (ht.bel.mono HB0.out.size))
  have HKM1 := Lib.hid (blk_kept HKM.out ht.bel)
  have HKB1 := Lib.hid (blk_kept HKB.out ht.bel)
  have HKR1 := Lib.hid (blk_kept HKR.out ht.bel)
  clear ht x0 x1 xf0 xf1 lx b0 bf0 lb HKM HKB HKR HB0
  have hbz : Below w1.heap.size w1 (w1.alloc (.cells #[.pointer (some ⟨g, 0, none⟩)] 85)) := (Below.refl _ _).alloc (Nat.le_refl _) _
  have HB2 := Lib.hid (HB1.out.trans (hbz.mono HB1.out.size))
  have HKM2 := Lib.hid (blk_kept HKM1.out hbz)
  have HKB2 := Lib.hid (blk_kept HKB1.out hbz)
  have HKR2 := Lib.hid (blk_kept HKR1.out hbz)
  have HKT2 := Lib.hid (blk_new w1 (.cells #[.pointer (some ⟨g, 0, none⟩)] 85))
  have HTB2 := Lib.hid (HTB.out.below hbz)
  obtain ⟨x0, x1, xf0, xf1, lx⟩ := blk2cells HKM2.out
  obtain ⟨b0, bf0, lb⟩ := blk1c HKB2.out
  clear hbz HKM1 HKB1 HKR1 HTB
  go_wp2_with fail
  generalize w1.alloc (.cells #[.pointer (some ⟨g, 0, none⟩)] 85) = w2 at *
  generalize w1.heap.size = gt at *
  refine (HDO.out _ HB2.out).mono ?_
  rintro e w3 ⟨gd, cd, rfl, ho, hb⟩
  have HB3 := Lib.hid (HB2.out.trans (hb.mono HB2.out.size))
  have HKM3 := Lib.hid (blk_kept HKM2.out hb)
  have HKB3 := Lib.hid (blk_kept HKB2.out hb)
  have HKR3 := Lib.hid (blk_kept HKR2.out hb)
  have HKT3 := Lib.hid (blk_kept HKT2.out hb)
  have HTB3 := Lib.hid (HTB2.out.below hb)
  have HMO := Lib.hid (moduleOf_any (some ⟨gd, 0, none⟩) k cd (degL xs S) 88 #[.pointer (some ⟨gt, 0, none⟩), .pointer (some ⟨w.heap.size + 1, 0, none⟩)] (fun j i => cooT S (act (dat L) (j : Int) (S.getD i 0)) k) w3 (fun args w => Tryz.call88 args w) (by rw [degL_length]; exact Hk.out) hk1 (owns_Rd ho) (fun j i _ _ _ => cooT_sm S _ (by omega)) (fun j i W _ _ hi hbW => HCL.out gt g j i W (HB3.out.trans (hbW.mono HB3.out.size)) hi (blk1c (blk_kept HKT3.out hbW)).1 (blk1c (blk_kept HKB3.out hbW)).1 (HTB3.out.below hbW)))
  clear ho hb x0 x1 xf0 xf1 lx b0 bf0 lb HKM2 HKB2 HKR2 HKT2 HTB2
  go_wp2_with fail
  refine HMO.out.mono ?_
  rintro e w4 ⟨v, rfl, hmo, hb⟩
  have hmu := hmo.up
  obtain ⟨Ad, cd', A1, c1, R, rfl, _⟩ := hmo
  rw [HMA.out] at hmu
  have HMU := Lib.hid hmu
  have HB4 := Lib.hid (HB3.out.trans (hb.mono HB3.out.size))
  have HKM4 := Lib.hid (blk_kept HKM3.out hb)
  have HKB4 := Lib.hid (blk_kept HKB3.out hb)
  have HKR4 := Lib.hid (blk_kept HKR3.out hb)
  have hs34 := hb.size
  have hdl : (degL xs S).length = k := by rw [degL_length]; exact Hk.out.symm
  rw [hdl]
  rw [hdl] at HMU
  have hbz : Below w4.heap.size w4 (w4.alloc (.cells #[.slice Ad k cd', .slice A1 R.length c1] 29)) := (Below.refl _ _).alloc (Nat.le_refl _) _
  have HB5 := Lib.hid (HB4.out.trans (hbz.mono HB4.out.size))
  have HB45 := Lib.hid hbz
  have HKM5 := Lib.hid (blk_kept HKM4.out hbz)
  have HKB5 := Lib.hid (blk_kept HKB4.out hbz)
  have HKR5 := Lib.hid (blk_kept HKR4.out hbz)
  have HKQ5 := Lib.hid (blk_new w4 (.cells #[.slice Ad k cd', .slice A1 R.length c1] 29))
  have hz5 : (w4.alloc (.cells #[.slice Ad k cd', .slice A1 R.length c1] 29)).heap.size = w4.heap.size + 1 := by simp
  have hlr := (blk2cells HKR3.out).2.2.2.2
  have HDL := Lib.hid hdl
  clear hb hmu HKM3 HKB3 HKR3 HKT3 HTB3 HMO hbz hdl
  go_wp2_with fail
  generalize w4.alloc (.cells #[.slice Ad k cd', .slice A1 R.length c1] 29) = w5 at *
  have HU5 : Hid (ModOutH w3.heap.size w4.heap.size (degL xs S) (partA (dat L) S) (.agg #[.slice Ad k cd', .slice A1 R.length c1]) w4) := HMU
  have KS := Lib.hid (fun w' (hb : Below w5.heap.size w5 w') => show w'.cell? ⟨w4.heap.size, 0, none⟩ = some (.slice Ad k cd') ∧ w'.cell? ⟨w4.heap.size, 1, none⟩ = some (.slice A1 R.length c1) ∧ w'.cell? ⟨w.heap.size, 0, none⟩ = some (.slice A n c) ∧ w'.cell? ⟨w.heap.size, 1, none⟩ = some (.slice A' m c') ∧ w'.cell? ⟨w.heap.size + 1, 0, none⟩ = some (.slice C k cc) from by
    obtain ⟨x0, x1, _⟩ := blk2cells (blk_kept HKQ5.out hb)
    obtain ⟨y0, y1, _⟩ := blk2cells (blk_kept HKM5.out hb)
    exact ⟨x0, x1, y0, y1, (blk1c (blk_kept HKB5.out hb)).1⟩)
  have HB_0 := Lib.hid (Below.drew (Below.refl w5.heap.size w5))
  have HW_0 := Lib.hid (HB5.out.trans (HB_0.out.mono HB5.out.size))
  go_region_held3 (fun w' => w'.cell? ⟨w4.heap.size, 0, none⟩ = some (.slice Ad k cd') ∧ w'.cell? ⟨w4.heap.size, 1, none⟩ = some (.slice A1 R.length c1) ∧ w'.cell? ⟨w.heap.size, 0, none⟩ = some (.slice A n c) ∧ w'.cell? ⟨w.heap.size, 1, none⟩ = some (.slice A' m c') ∧ w'.cell? ⟨w.heap.size + 1, 0, none⟩ = some (.slice C k cc))
    (first | exact KS.out _ HB_0.out | exact KS.out _ HB_2.out | exact ⟨KS0.out _ _, KS1.out _ _, KS2.out _ _, KS3.out _ _, KS4.out _ _⟩)
    ((go_at_call 48; (with_reducible refine (HVO.out _ HW_0.out).mono ?_); (rintro e w7 ⟨A7, c7, R7, rfl, hRl, hRd, ho, hb⟩; have HRL := Lib.hid hRl; have HRD := Lib.hid hRd; have HO7 := Lib.hid ho; have HK7 := Lib.hid (Keeps.of_below hb); have HB_2 := Lib.hid (HB_0.out.trans (hb.mono HB_0.out.size)); have HZ7 := Lib.hid (blk_kept HKR5.out HB_2.out); obtain ⟨z0, z1, zf0, zf1, lz⟩ := blk2cells HZ7.out; have hx7 := KS.out _ HB_2.out; have KS0 := Lib.hid (fun (a b : Value) => cell_set2 hx7.1 (g := w.heap.size + 1 + 1) (by show w.heap.size + 1 + 1 ≠ w4.heap.size; omega) a b); have KS1 := Lib.hid (fun (a b : Value) => cell_set2 hx7.2.1 (g := w.heap.size + 1 + 1) (by show w.heap.size + 1 + 1 ≠ w4.heap.size; omega) a b); have KS2 := Lib.hid (fun (a b : Value) => cell_set2 hx7.2.2.1 (g := w.heap.size + 1 + 1) (by show w.heap.size + 1 + 1 ≠ w.heap.size; omega) a b); have KS3 := Lib.hid (fun (a b : Value) => cell_set2 hx7.2.2.2.1 (g := w.heap.size + 1 + 1) (by show w.heap.size + 1 + 1 ≠ w.heap.size; omega) a b); have KS4 := Lib.hid (fun (a b : Value) => cell_set2 hx7.2.2.2.2 (g := w.heap.size + 1 + 1) (by show w.heap.size + 1 + 1 ≠ w.heap.size + 1; omega) a b); clear hRl hRd ho hb hx7)))
  go_wp2_with fail
  (try simp only [Exit.inBlock, Exit.then])
  refine ret_mr rfl rfl rfl (blk2set1' (blk2set0' HZ7.out _) _) ?_
  have hs7 := HB_2.out.size
  have hs5 := HB45.out.size
  have hkk : Keeps w7 ((w7.setCell ⟨w.heap.size + 1 + 1, 0, none⟩ (.slice Ad k cd')).setCell ⟨w.heap.size + 1 + 1, 1, none⟩ (.slice A1 R.length c1)) [some (w.heap.size + 1 + 1)] := ((Keeps.refl w7 _).setCell (p := ⟨w.heap.size + 1 + 1, 0, none⟩) (by simp) _).setCell (p := ⟨w.heap.size + 1 + 1, 1, none⟩) (by simp) _
  refine ⟨_, _, R7, w4.heap.size, HB4.out.size, by rfl, ?_, by rw [HRD.out, Hnx.out]; rfl, ?_, ?_⟩
  · exact (((HU5.out.keeps (Keeps.of_below HB45.out) (fun j hj => by cases hj)).keeps (Keeps.of_below HB_2.out) (fun j hj => by cases hj)).keeps hkk (fun j hj => by
      have : j = w.heap.size + 1 + 1 := by simpa using hj
      left; omega)).mono HB3.out.size
  · exact (HO7.out.keeps hkk (not_in (B := w5.heap.size) (H := w7.heap.size) (fun j hj => by
      have : j = w.heap.size + 1 + 1 := by simpa using hj
      left; omega) fun g hg => HO7.out.out.lt g hg) (fun i hi => not_in (B := w5.heap.size) (H := w7.heap.size) (fun j hj => by
      have : j = w.heap.size + 1 + 1 := by simpa using hj
      left; omega) fun g hg => (HO7.out.inn i hi).lt g hg)).mono (show w4.heap.size ≤ w5.heap.size by omega)
  · exact ((HB5.out.trans (HB_2.out.mono HB5.out.size)).setCell (p := ⟨w.heap.size + 1 + 1, 0, none⟩) (by show w.heap.size ≤ w.heap.size + 1 + 1; omega) _).setCell (p := ⟨w.heap.size + 1 + 1, 1, none⟩) (by show w.heap.size ≤ w.heap.size + 1 + 1; omega) _
end Go.Proofs.YtpchigdhnnkpcaaGreatDoor

namespace Go.Proofs.YtpchigdhnnkpcaaGreatDoor
open Go.RowKit

set_option maxRecDepth 100000 in
set_option maxHeartbeats 8000000 in
theorem isMap_any (A A' B B' W : Option Addr) (n c m c' p d q d' k cw : Nat) (xs ys : List Int) (L M P : List Row) (w : World)
    (hM : ModR w A n A' m xs L) (hs : Shp xs (dat L)) (hN : ModR w B p B' q ys M) (ht : Shp ys (dat M)) (hk : k = P.length) (hk1 : k ≤ 1048576) (hv : ∀ i, i < P.length → vecB p (rg P i).xs = true) (hP : Rd w W (nv ((dat P).map mk))) :
    Calls Tryz.prog 85 #[.agg #[.slice A n c, .slice A' m c'], .agg #[.slice B p d, .slice B' q d'], .slice W k cw] w fun e w' => e = .returned (.bool (mapB xs (dat L) ys (dat M) (dat P))) ∧ Below w.heap.size w w' := by
  have hn16 : n ≤ 16 := by rw [hM.hn]; exact hs.len
  have hp16 : p ≤ 16 := by rw [hN.hn]; exact ht.len
  obtain ⟨hb0, hk1', hk2'⟩ := box_two w A A' B B' n c m c' p d q d'
  have HK1 := Lib.hid hk1'
  have HK2 := Lib.hid hk2'
  have HB0 := Lib.hid hb0
  have HT1 := Lib.hid (hM.table hs c c')
  have HT2 := Lib.hid (hN.table ht d d')
  have HM := Lib.hid hM
  have HN := Lib.hid hN
  have HS := Lib.hid hs
  have HT := Lib.hid ht
  have HP := Lib.hid hP
  have Hk := Lib.hid hk
  have HV := Lib.hid hv
  have Hn := Lib.hid hM.hn
  have Hp := Lib.hid hN.hn
  have HLEN : Hid (((dat P).map mk).length = k) := Lib.hid (by rw [List.length_map, dat_length, hk])
  have HLTM : Hid (∀ r ∈ (dat P).map mk, r < 2 ^ p) := Lib.hid (mks_lt (fun t ht => by rw [dat_getD]; exact hv t (by rw [← dat_length]; exact ht)))
  clear hM hN hs ht hP hk hv hb0 hk1' hk2'
  obtain ⟨x0, x1, xf0, xf1, lx⟩ := blk2cells HK1.out
  by_cases hkn : k = n
  · subst hkn
    have KS := Lib.hid (fun w' (hb : Below ((w.alloc (.cells #[.slice A k c, .slice A' m c'] 29)).alloc (.cells #[.slice B p d, .slice B' q d'] 29)).heap.size ((w.alloc (.cells #[.slice A k c, .slice A' m c'] 29)).alloc (.cells #[.slice B p d, .slice B' q d'] 29)) w') => show w'.cell? ⟨w.heap.size, 0, none⟩ = some (.slice A k c) ∧ w'.cell? ⟨w.heap.size, 1, none⟩ = some (.slice A' m c') ∧ w'.cell? ⟨w.heap.size + 1, 0, none⟩ = some (.slice B p d) ∧ w'.cell? ⟨w.heap.size + 1, 1, none⟩ = some (.slice B' q d') from by
      obtain ⟨x0, x1, _⟩ := blk2cells (blk_kept HK1.out hb)
      obtain ⟨y0, y1, _⟩ := blk2cells (blk_kept HK2.out hb)
      exact ⟨x0, x1, y0, y1⟩)
    have HB_0 := Lib.hid (Below.drew (Below.refl ((w.alloc (.cells #[.slice A k c, .slice A' m c'] 29)).alloc (.cells #[.slice B p d, .slice B' q d'] 29)).heap.size ((w.alloc (.cells #[.slice A k c, .slice A' m c'] 29)).alloc (.cells #[.slice B p d, .slice B' q d'] 29))))
    have HW_0 := Lib.hid (HB0.out.trans (HB_0.out.mono HB0.out.size))
    go_enter Tryz.func85, Tryz.ntmps85
    go_wp2_with fail
    clear x0 x1 xf0 xf1 lx
    go_region_held3 (fun w' => w'.cell? ⟨w.heap.size, 0, none⟩ = some (.slice A k c) ∧ w'.cell? ⟨w.heap.size, 1, none⟩ = some (.slice A' m c') ∧ w'.cell? ⟨w.heap.size + 1, 0, none⟩ = some (.slice B p d) ∧ w'.cell? ⟨w.heap.size + 1, 1, none⟩ = some (.slice B' q d'))
      (first | exact KS.out _ HB_0.out | exact KS.out _ HB_1.out | exact KS.out _ HB_2.out)
      (first
        | (go_at_call 72; (with_reducible refine (HT1.out _ HW_0.out).mono ?_); (rintro e w1 ⟨g1, rfl, ht, hb⟩; have HG1 := Lib.hid ht; have HB_1 := Lib.hid (HB_0.out.trans (hb.mono HB_0.out.size)); have HW_1 := Lib.hid (HB0.out.trans (HB_1.out.mono HB0.out.size)); clear ht hb))
        | (go_at_call 72; (with_reducible refine (HT2.out _ HW_1.out).mono ?_); (rintro e w2 ⟨g2, rfl, ht, hb⟩; have HG2 := Lib.hid ht; have HG1b := Lib.hid (HG1.out.below hb); have HB_2 := Lib.hid (HB_1.out.trans (hb.mono HB_1.out.size)); have HW_2 := Lib.hid (HB0.out.trans (HB_2.out.mono HB0.out.size)); clear ht hb)))
    have HK1a := Lib.hid (blk_kept HK1.out HB_2.out)
    have HK2a := Lib.hid (blk_kept HK2.out HB_2.out)
    clear KS HB_0 HB_1 HW_0 HW_1 HG1
    go_wp2_with fail
    go_loopw [24] (fun s24 wr => ∃ i : Nat, i ≤ k ∧ s24 = .int .i64 i ∧ Hid (∀ t, t < i → Hom ys (xs.getD t 0) (mk (rg P t).xs) ∧ ∀ j : Nat, 1 ≤ j → j ≤ 20 → comb ((dat P).map mk) 0 (act (dat L) (j : Int) (2 ^ t)) = act (dat M) (j : Int) (mk ((dat P).getD t []))) ∧ Below w2.heap.size w2 wr) (fun s _ => k - (intOf s).toNat)
    case atStart => exact ⟨0, by omega, rfl, Lib.hid (fun t ht => by omega), Below.refl _ _⟩
    case round =>
      obtain ⟨i, hi, rfl, HQ, hbel⟩ := hrel
      have HBL := Lib.hid hbel
      have HB1 := Lib.hid (HW_2.out.trans (hbel.mono HW_2.out.size))
      have HK1b := Lib.hid (blk_kept HK1a.out hbel)
      have HK2b := Lib.hid (blk_kept HK2a.out hbel)
      by_cases hlt : i < k
      · have hiP : i < P.length := by rw [← Hk.out]; exact hlt
        obtain ⟨b2, o2, rfl, hc2⟩ := (HM.out.deg.below HB1.out).atI (k := i) (by rw [← Hn.out]; exact hlt)
        have hcm := (HP.out.below HB1.out).atN (k := i) (by rw [HLEN.out]; exact hlt)
        rw [mks_rg hiP] at hcm
        obtain ⟨bm, om, rfl, hcm⟩ := hcm
        have HEQ : Hid ((dat P).getD i [] = (rg P i).xs) := Lib.hid (dat_getD P i)
        have e3 := (vec_row (HV.out i hiP)).2.2
        generalize hmv : mk (rg P i).xs = v at *
        have HMV := Lib.hid hmv
        generalize hdd : xs.getD i 0 = dd at *
        have HDD := Lib.hid hdd
        clear hdd hmv
        have HDE := Lib.hid (fun W' (hb : Below wr.heap.size wr W') => inDegree_any B B' p d q d' ys dd W' Hp.out (by omega) ((HN.out.deg.below HB1.out).below hb))
        have hand := i64_andnot_nat (sm16 hp16 e3) (sm16 HT.out.len (dmask_lt ys dd))
        have HH : Hid (nt v (dmask ys dd) = 0 ↔ Hom ys dd v) := Lib.hid nt_hom
        generalize dmask ys dd = u at *
        generalize nt v u = z at *
        have HHF : Hid (z ≠ 0 → mapB xs (dat L) ys (dat M) (dat P) = false) := Lib.hid (fun hz => mapB_no (fun h => by
          have h1 := h.hom i (by rw [dat_length]; exact hiP)
          rw [dat_getD, HDD.out] at h1
          simp only [HMV.out] at h1
          exact hz (HH.out.2 h1)))
        have KS := Lib.hid (fun w' (hb : Below wr.heap.size wr w') => show w'.cell? ⟨w.heap.size + 1, 0, none⟩ = some (.slice B p d) ∧ w'.cell? ⟨w.heap.size + 1, 1, none⟩ = some (.slice B' q d') ∧ w'.cell? ⟨w.heap.size, 0, none⟩ = some (.slice (some ⟨b2, o2, none⟩) k c) ∧ w'.cell? ⟨b2, o2 + i, none⟩ = some (.int .i64 dd) from by
          obtain ⟨x0, x1, _⟩ := blk2cells (blk_kept HK1b.out hb)
          obtain ⟨y0, y1, _⟩ := blk2cells (blk_kept HK2b.out hb)
          exact ⟨y0, y1, x0, cell_keep hc2 hb⟩)
        have HB_0 := Lib.hid (Below.drew (Below.refl wr.heap.size wr))
        clear hbel hc2
        go_wp2_with fail
        clear hcm
        go_region_held3 (fun w' => w'.cell? ⟨w.heap.size + 1, 0, none⟩ = some (.slice B p d) ∧ w'.cell? ⟨w.heap.size + 1, 1, none⟩ = some (.slice B' q d') ∧ w'.cell? ⟨w.heap.size, 0, none⟩ = some (.slice (some ⟨b2, o2, none⟩) k c) ∧ w'.cell? ⟨b2, o2 + i, none⟩ = some (.int .i64 dd))
          (first | exact KS.out _ HB_0.out | exact KS.out _ HB_1.out)
          ((go_at_call 99; (with_reducible refine (HDE.out _ HB_0.out).mono ?_); (rintro e w3 ⟨rfl, hb⟩; have HB_1 := Lib.hid (HB_0.out.trans (hb.mono HB_0.out.size)); clear hb)))
        have HBI := Lib.hid (HBL.out.trans (HB_1.out.mono HBL.out.size))
        by_cases hz : z = 0
        · have HOK := Lib.hid (HH.out.1 hz)
          have hzb : ((z : Int) != 0) = false := by simp [hz]
          have HG1c := Lib.hid (HG1b.out.below HBI.out)
          have HG2c := Lib.hid (HG2.out.below HBI.out)
          have HPc := Lib.hid (HP.out.below (HW_2.out.trans (HBI.out.mono HW_2.out.size)))
          clear hz KS HB_0
          rw [hzb]
          go_wp2_with fail
          go_loop [11] (fun s11 => ∃ j : Nat, 1 ≤ j ∧ j ≤ 21 ∧ s11 = .int .i64 j ∧ Hid (∀ j' : Nat, 1 ≤ j' → j' < j → comb ((dat P).map mk) 0 (act (dat L) (j' : Int) (2 ^ i)) = act (dat M) (j' : Int) (mk ((dat P).getD i [])))) (fun s => 21 - (intOf s).toNat)
          case atStart => exact ⟨1, by omega, by omega, rfl, Lib.hid (fun j' h1 h2 => by omega)⟩
          case round =>
            obtain ⟨j, hj1, hj2, rfl, HJ⟩ := hrel
            by_cases hlt3 : j ≤ 20
            · obtain ⟨hh, hrow, hrd⟩ := HG1c.out.row j (by omega)
              have hsq := hrd.atN (k := i) (by rw [sqRow_length]; exact hlt)
              rw [sqRow_getD _ hlt, sqOr_act HS.out] at hsq
              obtain ⟨bs, os, hes, hcs⟩ := hsq
              injection hes with hes
              injection hes with hes1 hes2 _
              subst hes1
              subst hes2
              rw [Nat.zero_add] at hcs
              have hlt2t : 2 ^ i < 2 ^ xs.length := pow_lt_pow (by rw [← Hn.out]; exact hlt)
              have HSM : Hid (∀ r ∈ (dat P).map mk, Sm r) := Lib.hid (fun r hr => sm16 hp16 (HLTM.out r hr))
              have HTI := Lib.hid (times_any (some ⟨bm, om, none⟩) k cw ((dat P).map mk) (act (dat L) (j : Int) (2 ^ i)) w3 HLEN.out.symm (by omega) (sm16 HS.out.len (act_lt HS.out hlt2t _)) HSM.out HPc.out)
              have HSQ := Lib.hid (square_any g2 B p d ys (dat M) (j : Int) (v : Int) v w3 Hp.out HT.out (by omega) rfl (by rw [← Hp.out]; exact e3) HG2c.out)
              have hHJ1 : Hid (comb ((dat P).map mk) 0 (act (dat L) (j : Int) (2 ^ i)) = act (dat M) (j : Int) v → ∀ j' : Nat, 1 ≤ j' → j' < j + 1 → comb ((dat P).map mk) 0 (act (dat L) (j' : Int) (2 ^ i)) = act (dat M) (j' : Int) (mk ((dat P).getD i []))) := Lib.hid (fun he j' h1 h2 => by
                by_cases e : j' = j
                · subst e; rw [HEQ.out, HMV.out]; exact he
                · exact HJ.out j' h1 (by omega))
              have hHJ2 : Hid (comb ((dat P).map mk) 0 (act (dat L) (j : Int) (2 ^ i)) ≠ act (dat M) (j : Int) v → mapB xs (dat L) ys (dat M) (dat P) = false) := Lib.hid (fun hne => mapB_no (fun h => hne (by
                have h1 := h.eqn i (by rw [dat_length]; exact hiP) j hj1 hlt3
                rw [HEQ.out, HMV.out] at h1; exact h1)))
              generalize act (dat L) (j : Int) (2 ^ i) = u1 at *
              generalize comb ((dat P).map mk) 0 u1 = z1 at *
              generalize act (dat M) (j : Int) v = z2 at *
              have hj21 : (j : Int) < 21 := by omega
              clear hrd hlt2t
              go_wp2_with fail
              refine HTI.out.mono ?_
              rintro e w' ⟨rfl, rfl⟩
              go_wp2_with fail
              refine HSQ.out.mono ?_
              rintro e w' ⟨rfl, rfl⟩
              by_cases hz : z1 = z2
              · have HYES := Lib.hid (hHJ1.out hz)
                have hzb : ((z1 : Int) != (z2 : Int)) = false := by simp [hz]
                clear hz
                go_wp2_with fail
                go_round
                case rel => exact ⟨j + 1, by omega, by omega, by go_num, HYES⟩
                case measure => simp [intOf]; omega
              · have HF := Lib.hid (hHJ2.out hz)
                have hzb : ((z1 : Int) != (z2 : Int)) = true := by simp; omega
                clear hz
                go_wp2_with fail
                go_ret
                exact ⟨by rw [HF.out]; rfl, HW_2.out.trans (HBI.out.mono HW_2.out.size)⟩
            · obtain rfl : j = 21 := by omega
              go_wp2_with fail
              go_roundw
              case rel =>
                refine ⟨i + 1, by omega, by go_num, Lib.hid (fun t' ht' => ?_), HBI.out⟩
                by_cases e : t' = i
                · subst e; exact ⟨by rw [HDD.out, HMV.out]; exact HOK.out, fun j' h1 h2 => HJ.out j' h1 (by omega)⟩
                · exact HQ.out t' (by omega)
              case measure => simp [intOf]; omega
        · have HF := Lib.hid (HHF.out hz)
          have hzb : ((z : Int) != 0) = true := by simp [hz]
          clear hz
          go_wp2_with fail
          go_ret
          exact ⟨by rw [HF.out]; rfl, HW_2.out.trans (HBI.out.mono HW_2.out.size)⟩
      · obtain rfl : i = k := by omega
        have HYES : Hid (mapB xs (dat L) ys (dat M) (dat P) = true) := Lib.hid (mapB_yes ⟨by rw [dat_length, ← Hk.out, Hn.out], fun i hi => by rw [dat_getD, ← Hp.out]; exact HV.out i (by rw [← dat_length]; exact hi), fun i hi => by rw [dat_getD]; exact (HQ.out i (by rw [Hk.out, ← dat_length]; exact hi)).1, fun i hi j h1 h2 => (HQ.out i (by rw [Hk.out, ← dat_length]; exact hi)).2 j h1 h2⟩)
        clear hbel
        go_wp2_with fail
        go_ret
        exact ⟨by rw [HYES.out]; rfl, HB1.out⟩
  · have hkb : ((k : Int) != (n : Int)) = true := by simp; omega
    have HF : Hid (mapB xs (dat L) ys (dat M) (dat P) = false) := Lib.hid (mapB_no (fun h => hkn (by rw [Hk.out, Hn.out, ← dat_length]; exact h.len)))
    clear hkn
    go_enter Tryz.func85, Tryz.ntmps85
    go_wp2_with fail
    go_ret
    exact ⟨by rw [HF.out]; rfl, HB0.out⟩
end Go.Proofs.YtpchigdhnnkpcaaGreatDoor

namespace Go.Proofs.YtpchigdhnnkpcaaGreatDoor
open Go.RowKit

theorem sm_mks {P : List (List Int)} {n : Nat} (hn : n ≤ 16) (h : ∀ r ∈ P.map mk, r < 2 ^ n) : ∀ r ∈ P.map mk, Sm r := fun r hr => sm16 hn (h r hr)
end Go.Proofs.YtpchigdhnnkpcaaGreatDoor

namespace Go.Proofs.YtpchigdhnnkpcaaGreatDoor
open Go.RowKit

/-- the masks of a map, or the code -/
def MappedP (cd : Int) (P : List Row) (w : World) (e : Ending) (w' : World) : Prop :=
  ((cd = 0 ∧ ∃ g cap, e = .returned (.tuple #[.slice (some ⟨g, 0, none⟩) P.length cap, .int .i64 0]) ∧ w'.ownsRow w.heap.size 2 1 (.slice (some ⟨g, 0, none⟩) P.length cap) P.length (nv ((dat P).map mk))) ∨
   (cd ≠ 0 ∧ e = .returned (.tuple #[.slice none 0 0, .int .i64 cd]))) ∧ Below w.heap.size w w'
theorem mapC_novec {xs : List Int} {Q : List (List Int)} {ys : List Int} {R : List (List Int)} {P : List Row} (h1 : modB xs Q = true) (h2 : modB ys R = true) (h : (P.all fun r => vecB ys.length r.xs) = false) : mapC xs Q ys R (dat P) = 2 :=
  mapC_2 h1 h2 (mapB_no fun hm => by rw [all_rg (mapP_vec hm)] at h; cases h)
theorem all_rg_iff {P : List Row} {f : Row → Bool} (h : P.all f = true) : ∀ i, i < P.length → f (rg P i) = true := fun i hi => List.all_eq_true.1 h _ (rg_mem hi)

set_option maxHeartbeats 4000000 in
theorem mapped_any (A A' B B' W : Option Addr) (n c m c' p d q d' k cw : Nat) (xs ys : List Int) (L M P : List Row) (w : World) (hM : ModIn w A n A' m xs L) (hN : ModIn w B p B' q ys M) (hP : RowsIn w W k P) :
    Calls Tryz.prog 56 #[.agg #[.slice A n c, .slice A' m c'], .agg #[.slice B p d, .slice B' q d'], .slice W k cw] w (MappedP (mapC xs (dat L) ys (dat M) (dat P)) P w) := by
  obtain ⟨hb0, hk1, hk2⟩ := box_two w A A' B B' n c m c' p d q d'
  have HB0 := Lib.hid hb0
  have HK1 := Lib.hid hk1
  have HK2 := Lib.hid hk2
  have HIM := Lib.hid (hM.isM c c')
  have HIN := Lib.hid (hN.isM d d')
  have HM := Lib.hid hM
  have HN := Lib.hid hN
  have HP := Lib.hid hP
  clear hb0 hk1 hk2 hM hN hP
  obtain ⟨x0, x1, xf0, xf1, lx⟩ := blk2cells HK1.out
  go_enter Tryz.func56, Tryz.ntmps56
  go_wp2_with fail
  refine (HIM.out _ HB0.out).mono ?_
  rintro e w1 ⟨rfl, hb⟩
  have HB1 := Lib.hid (HB0.out.trans (hb.mono HB0.out.size))
  have HK1a := Lib.hid (blk_kept HK1.out hb)
  have HK2a := Lib.hid (blk_kept HK2.out hb)
  clear hb x0 x1 xf0 xf1 lx
  cases h1 : modB xs (dat L)
  · have HR : Hid (mapC xs (dat L) ys (dat M) (dat P) = 1) := Lib.hid (mapC_1 (by rw [h1]; rfl))
    clear h1
    go_wp2_with fail
    go_ret2
    exact ⟨.inr ⟨by rw [HR.out]; omega, by rw [HR.out]; rfl⟩, HB1.out⟩
  obtain ⟨y0, y1, yf0, yf1, ly⟩ := blk2cells HK2a.out
  go_wp2_with fail
  refine (HIN.out _ HB1.out).mono ?_
  rintro e w2 ⟨rfl, hb⟩
  have HB2 := Lib.hid (HB1.out.trans (hb.mono HB1.out.size))
  have HK1b := Lib.hid (blk_kept HK1a.out hb)
  have HK2b := Lib.hid (blk_kept HK2a.out hb)
  clear hb y0 y1 yf0 yf1 ly
  cases h2 : modB ys (dat M)
  · have HR : Hid (mapC xs (dat L) ys (dat M) (dat P) = 1) := Lib.hid (mapC_1 (by rw [h1, h2]; rfl))
    clear h2 h1
    go_wp2_with fail
    go_ret2
    exact ⟨.inr ⟨by rw [HR.out]; omega, by rw [HR.out]; rfl⟩, HB2.out⟩
  have s1 := (modB_iff.1 h1).shp
  have s2 := (modB_iff.1 h2).shp
  have hp16 : p ≤ 16 := by rw [HN.out.r.hn]; exact s2.len
  have HMK := Lib.hid (masksOf_any B B' W p d q d' k cw P w2 (by omega) HP.out.hk HP.out.hk1 HP.out.hl (HP.out.rd.below HB2.out))
  have HIS := Lib.hid (fun (X : Option Addr) (cx : Nat) W' (hb : Below w.heap.size w W') hv hX => isMap_any A A' B B' X n c m c' p d q d' P.length cx xs ys L M P W' (HM.out.r.below hb) s1 (HN.out.r.below hb) s2 rfl (by rw [← HP.out.hk]; exact HP.out.hk1) hv hX)
  have H1 := Lib.hid h1
  have H2 := Lib.hid h2
  clear h1 h2 s1 s2
  obtain ⟨y0, y1, yf0, yf1, ly⟩ := blk2cells HK2b.out
  go_wp2_with fail
  refine HMK.out.mono ?_
  rintro e w3 ⟨hor, hb⟩
  have HB3 := Lib.hid (HB2.out.trans (hb.mono HB2.out.size))
  have HK1c := Lib.hid (blk_kept HK1b.out hb)
  have HK2c := Lib.hid (blk_kept HK2b.out hb)
  have hsz2 := HB2.out.size
  clear hb y0 y1 yf0 yf1 ly
  rcases hor with ⟨hall, g, cap, rfl, ho⟩ | ⟨hall, rfl⟩
  · have HO := Lib.hid ho
    have HISP := HIS.out (some ⟨g, 0, none⟩) cap w3 HB3.out (all_rg_iff hall) (owns_Rd ho)
    clear ho hall
    obtain ⟨x0, x1, xf0, xf1, lx⟩ := blk2cells HK1c.out
    obtain ⟨y0, y1, yf0, yf1, ly⟩ := blk2cells HK2c.out
    cases hm : mapB xs (dat L) ys (dat M) (dat P)
    · have HR : Hid (mapC xs (dat L) ys (dat M) (dat P) = 2) := Lib.hid (mapC_2 H1.out H2.out hm)
      rw [hm] at HISP
      have HC := Lib.hid HISP
      clear HISP hm
      go_wp2_with (go_at_call 85; refine HC.out.mono ?_; rintro e w4 ⟨rfl, hb⟩; have HB4 := Lib.hid (HB3.out.trans (hb.mono HB3.out.size)); clear hb)
      go_ret2
      exact ⟨.inr ⟨by rw [HR.out]; omega, by rw [HR.out]; rfl⟩, HB4.out⟩
    · have HR : Hid (mapC xs (dat L) ys (dat M) (dat P) = 0) := Lib.hid (mapC_0 H1.out H2.out hm)
      rw [hm] at HISP
      have HC := Lib.hid HISP
      clear HISP hm
      go_wp2_with (go_at_call 85; refine HC.out.mono ?_; rintro e w4 ⟨rfl, hb⟩; have HB4 := Lib.hid (HB3.out.trans (hb.mono HB3.out.size)); have HO4 := Lib.hid (owns_keeps HO.out (Keeps.of_below hb) (.inr (by simp))); clear hb)
      go_ret2
      exact ⟨.inl ⟨HR.out, g, cap, rfl, HO4.out.mono hsz2⟩, HB4.out⟩
  · have HR : Hid (mapC xs (dat L) ys (dat M) (dat P) = 2) := Lib.hid (mapC_novec H1.out H2.out (by rw [← HN.out.r.hn]; exact hall))
    clear hall
    go_wp2_with fail
    go_ret2
    exact ⟨.inr ⟨by rw [HR.out]; omega, by rw [HR.out]; rfl⟩, HB3.out⟩

end Go.Proofs.YtpchigdhnnkpcaaGreatDoor

namespace Go.Proofs
open Go.Shelf
def Tryz.sortL_ren : Go.Shelf.Ren := ⟨fun | 6 => 104 | 15 => 126 | 14 => 125 | 28 => 149 | 29 => 150 | 20 => 141 | 21 => 142 | 22 => 143 | 23 => 144 | 24 => 145 | 25 => 146 | 26 => 147 | 27 => 148 | 46 => 157 | 47 => 158 | 48 => 159 | 49 => 160 | 50 => 161 | 57 => 166 | n => n, fun | 22 => 22 | 24 => 2 | 25 => 113 | 3 => 3 | 39 => 125 | 0 => 0 | 53 => 142 | 55 => 50 | 4 => 4 | 46 => 135 | 45 => 134 | 50 => 139 | 5 => 5 | 9 => 9 | 66 => 146 | 70 => 150 | 76 => 155 | 77 => 156 | n => n, fun | n => n⟩
theorem Tryz.sortL : Go.Proofs.SlLaysF.n6 Tryz.prog Tryz.sortL_ren := {
  mixed := by kernel_rfl
  f6 := ⟨Tryz.f104.name, by decide, Tryz.func104.trans (congrArg some (by kernel_rfl))⟩
  f14 := ⟨Tryz.f125.name, by decide, Tryz.func125.trans (congrArg some (by kernel_rfl))⟩
  f15 := Tryz.func126.trans (congrArg some (by kernel_rfl))
  f20 := ⟨Tryz.f141.name, by decide, Tryz.func141.trans (congrArg some (by kernel_rfl))⟩
  f21 := ⟨Tryz.f142.name, by decide, Tryz.func142.trans (congrArg some (by kernel_rfl))⟩
  f22 := ⟨Tryz.f143.name, by decide, Tryz.func143.trans (congrArg some (by kernel_rfl))⟩
  f23 := ⟨Tryz.f144.name, by decide, Tryz.func144.trans (congrArg some (by kernel_rfl))⟩
  f24 := ⟨Tryz.f145.name, by decide, Tryz.func145.trans (congrArg some (by kernel_rfl))⟩
  f25 := ⟨Tryz.f146.name, by decide, Tryz.func146.trans (congrArg some (by kernel_rfl))⟩
  f26 := ⟨Tryz.f147.name, by decide, Tryz.func147.trans (congrArg some (by kernel_rfl))⟩
  f27 := ⟨Tryz.f148.name, by decide, Tryz.func148.trans (congrArg some (by kernel_rfl))⟩
  f28 := Tryz.func149.trans (congrArg some (by kernel_rfl))
  f29 := Tryz.func150.trans (congrArg some (by kernel_rfl))
  f46 := ⟨Tryz.f157.name, by decide, Tryz.func157.trans (congrArg some (by kernel_rfl))⟩
  f47 := Tryz.func158.trans (congrArg some (by kernel_rfl))
  f48 := Tryz.func159.trans (congrArg some (by kernel_rfl))
  f49 := ⟨Tryz.f160.name, by decide, Tryz.func160.trans (congrArg some (by kernel_rfl))⟩
  f50 := ⟨Tryz.f161.name, by decide, Tryz.func161.trans (congrArg some (by kernel_rfl))⟩
  f57 := ⟨Tryz.f166.name, by decide, Tryz.func166.trans (congrArg some (by kernel_rfl))⟩
  t0 := Tryz.underlying0
  a0 := Tryz.isAgg0
  z0 := Tryz.sizeOf0
  v0 := Tryz.zeroValue0
  t3 := Tryz.underlying3
  a3 := Tryz.isAgg3
  z3 := Tryz.sizeOf3
  v3 := Tryz.zeroValue3
  t4 := Tryz.underlying4
  a4 := Tryz.isAgg4
  z4 := Tryz.sizeOf4
  v4 := Tryz.zeroValue4
  t5 := Tryz.underlying5
  a5 := Tryz.isAgg5
  z5 := Tryz.sizeOf5
  v5 := Tryz.zeroValue5
  t9 := Tryz.underlying9
  a9 := Tryz.isAgg9
  z9 := Tryz.sizeOf9
  v9 := Tryz.zeroValue9
  t22 := Tryz.underlying22
  a22 := Tryz.isAgg22
  z22 := Tryz.sizeOf22
  v22 := Tryz.zeroValue22
  a24 := Tryz.isAgg2
  z24 := Tryz.sizeOf2
  t25 := Tryz.underlying113
  a25 := Tryz.isAgg113
  z25 := Tryz.sizeOf113
  v25 := Tryz.zeroValue113
  t39 := Tryz.underlying125
  a39 := Tryz.isAgg125
  z39 := Tryz.sizeOf125
  v39 := Tryz.zeroValue125
  t45 := Tryz.underlying134
  a45 := Tryz.isAgg134
  z45 := Tryz.sizeOf134
  v45 := Tryz.zeroValue134
  t46 := Tryz.underlying135
  a46 := Tryz.isAgg135
  z46 := Tryz.sizeOf135
  v46 := Tryz.zeroValue135
  t50 := Tryz.underlying139
  a50 := Tryz.isAgg139
  z50 := Tryz.sizeOf139
  v50 := Tryz.zeroValue139
  t53 := Tryz.underlying142
  a53 := Tryz.isAgg142
  z53 := Tryz.sizeOf142
  v53 := Tryz.zeroValue142
  t55 := Tryz.underlying50
  a55 := Tryz.isAgg50
  z55 := Tryz.sizeOf50
  v55 := Tryz.zeroValue50
  t66 := Tryz.underlying146
  a66 := Tryz.isAgg146
  z66 := Tryz.sizeOf146
  v66 := Tryz.zeroValue146
  t70 := Tryz.underlying150
  a70 := Tryz.isAgg150
  z70 := Tryz.sizeOf150
  v70 := Tryz.zeroValue150
  t76 := Tryz.underlying155
  a76 := Tryz.isAgg155
  z76 := Tryz.sizeOf155
  v76 := Tryz.zeroValue155
  t77 := Tryz.underlying156
  a77 := Tryz.isAgg156
  z77 := Tryz.sizeOf156
  v77 := Tryz.zeroValue156 }
def Tryz.cmpL_ren : Go.Shelf.Ren := ⟨fun | 5 => 106 | 7 => 127 | n => n, fun | 22 => 3 | 3 => 3 | 4 => 4 | n => n, fun | n => n⟩
theorem Tryz.cmpL : Go.Proofs.SlLaysC2.n5 Tryz.prog Tryz.cmpL_ren := {
  mixed := by kernel_rfl
  f5 := ⟨Tryz.f106.name, by decide, Tryz.func106.trans (congrArg some (by kernel_rfl))⟩
  f7 := ⟨Tryz.f127.name, by decide, Tryz.func127.trans (congrArg some (by kernel_rfl))⟩
  t3 := Tryz.underlying3
  a3 := Tryz.isAgg3
  z3 := Tryz.sizeOf3
  v3 := Tryz.zeroValue3
  t4 := Tryz.underlying4
  a4 := Tryz.isAgg4
  z4 := Tryz.sizeOf4
  v4 := Tryz.zeroValue4
  t22 := Tryz.underlying3
  a22 := Tryz.isAgg3
  z22 := Tryz.sizeOf3
  v22 := Tryz.zeroValue3 }
end Go.Proofs

namespace Go.Proofs.YtpchigdhnnkpcaaGreatDoor
open Go.RowKit

theorem own_cast2 {w : World} {B : Nat} {e : TypeId} {v : Value} {n m : Nat} {xs ys : List Value} (h : w.ownsRow B e 1 v n xs) (hn : n = m) (hx : xs = ys) : w.ownsRow B e 1 v m ys := by
  subst hn; subst hx; exact h
theorem nv_snoc2 (xs : List Nat) (x : Nat) : nv xs ++ [.int .i64 (x : Int)] = nv (xs ++ [x]) := by simp [nv]
/-- a span beside an own row -/
theorem span_own_add {w w' : World} {B B' bs m : Nat} {v1 v2 o : Value} {L N : List (Nat × Nat)} {ys : List Value} (hs : SpanAt w B bs v1 v2 L) (ho : w.ownsRow B' 2 1 o m ys) (h1 : o.ownBlock ≠ v1.ownBlock) (h2 : o.ownBlock ≠ v2.ownBlock)
    (hp : AddPost w B bs v1 v2 N w') : w'.ownsRow B' 2 1 o m ys ∧ ∃ u1 u2, SpanAt w' B bs u1 u2 N ∧ o.ownBlock ≠ u1.ownBlock ∧ o.ownBlock ≠ u2.ownBlock := by
  obtain ⟨hk, u1, u2, hs', hu1, hu2⟩ := hp
  have hb := own_ne ho hs.blk (by decide)
  refine ⟨owns_keeps ho hk (.inr ?_), u1, u2, hs', ?_, ?_⟩
  · simp only [List.mem_cons, List.not_mem_nil, or_false, not_or]; exact ⟨hb, h1, h2⟩
  · rcases hu1 with e | ⟨k, e, hk'⟩
    · rw [e]; exact h1
    · intro e'; have := (ho.lt k (e'.trans e)).2; omega
  · rcases hu2 with e | ⟨k, e, hk'⟩
    · rw [e]; exact h2
    · intro e'; have := (ho.lt k (e'.trans e)).2; omega
/-- an append to the own row beside a span -/
theorem span_own_app {w w' : World} {B g bs : Nat} {v1 v2 o : Value} {L : List (Nat × Nat)} {ob : Obj} (hs : SpanAt w B bs v1 v2 L) (hb : o.ownBlock ≠ some bs) (h1 : o.ownBlock ≠ v1.ownBlock) (h2 : o.ownBlock ≠ v2.ownBlock)
    (hg : (w.alloc ob).grownBy w' o.ownBlock) (hat : o.ownBlock = some g ∨ g = (w.alloc ob).heap.size) : SpanAt w' B bs v1 v2 L ∧ some g ≠ v1.ownBlock ∧ some g ≠ v2.ownBlock := by
  refine ⟨hs.keeps (((Keeps.refl w []).alloc ob).trans (Keeps.of_grown hg) (T := [o.ownBlock]) (by simp)) (by simpa using hb.symm) (.inr (by simpa using h1.symm)) (.inr (by simpa using h2.symm)), ?_, ?_⟩
  · rcases hat with h | h
    · rw [← h]; exact h1
    · intro e; have := (hs.own1.lt g e.symm).2; simp at h; omega
  · rcases hat with h | h
    · rw [← h]; exact h2
    · intro e; have := (hs.own2.lt g e.symm).2; simp at h; omega

end Go.Proofs.YtpchigdhnnkpcaaGreatDoor

namespace Go.Proofs.YtpchigdhnnkpcaaGreatDoor
open Go.RowKit


/-- the program's comparison of two rows, in every world that holds the table -/
theorem cmp_any (x y : PM) (w : World) (hT : Tab w) : Calls Tryz.prog 105 #[encP x, encP y] w fun e w' => e = .returned (.int .i64 (cfP x y)) ∧ w' = w := by
  have h1 := pivot_any x.1 x.2.1 x.2.2 w hT
  have h2 := pivot_any y.1 y.2.1 y.2.2 w hT
  have hcon := AnyG.cmp_Compare_int Tryz.cmpL (pv x.1 : Nat) (pv y.1 : Nat) w
  change Calls Tryz.prog 106 _ _ _ at hcon
  have H1 := Lib.hid h1
  have H2 := Lib.hid h2
  have H3 := Lib.hid hcon
  clear h1 h2 hcon
  unfold encP cfP
  obtain ⟨x, hx⟩ := x
  obtain ⟨y, hy⟩ := y
  simp only at H1 H2 H3 ⊢
  generalize Lib.compareInt ((pv x : Nat) : Int) ((pv y : Nat) : Int) = r at *
  go_enter Tryz.func105, Tryz.ntmps105
  go_wp2_with (first | (go_at_call 90; (with_reducible refine H1.out.mono ?_); rintro e w' ⟨rfl, rfl⟩) | (go_at_call 90; (with_reducible refine H2.out.mono ?_); rintro e w' ⟨rfl, rfl⟩) | (go_at_call 106; refine H3.out.mono ?_; rintro e w' ⟨rfl, rfl⟩))
  go_ret
  exact ⟨rfl, rfl⟩

theorem tab_sortWorld {w : World} (hT : Tab w) {g off m : Nat} {os : Array Obj} {dk : Array PM} (hg : g ≠ 0) : Tab (sortWorld encP w g off m dk os) := by
  intro j hj
  have h := hT j hj
  have hlt := World.block_lt_of_cell? w _ h
  rw [← h]
  refine World.cell?_of_block ?_
  show ((w.heap.modify g (Sort.onCells (Sort.putCells encP off dk))) ++ os)[0]? = w.heap[0]?
  rw [Array.getElem?_append_left (by simpa using hlt), Array.getElem?_modify, if_neg hg]

set_option maxHeartbeats 1000000 in
/-- (*span).reduced: the rows in order, as a new own row -/
theorem spanReduced_any (B bs : Nat) (v1 v2 : Value) (L : List (Nat × Nat)) (T : List Nat) (w : World) (hTab : Tab w) (hw : 0 < w.heap.size) (hs : SpanAt w B bs v1 v2 L) (hsmall : L.length ≤ 1000000) (hr : Red (r1 L)) (hT : Asc T) (hp : (r1 L).Perm T) :
    Calls Tryz.prog 75 #[.pointer (some ⟨bs, 0, none⟩)] w fun e w' => ∃ v, e = .returned v ∧ w'.ownsRow w.heap.size 2 1 v T.length (nv T) ∧ Below w.heap.size w w' := by
  obtain ⟨A, c, rfl, _, _, _⟩ := owns_shape hs.own1
  have hc := copyOf_any A L.length c (nv (r1 L)) w (by rw [nv_length, r1_length]) (by omega) (nv_one _) (owns_Rd hs.own1)
  obtain ⟨x0, x1, _, _, _⟩ := blk2cells hs.blk
  have hlen : T.length = L.length := by rw [← hp.length_eq, r1_length]
  have HC := Lib.hid hc
  have HLN := Lib.hid hlen
  have HR := Lib.hid hr
  have HA := Lib.hid hT
  have HP := Lib.hid hp
  have HTB := Lib.hid hTab
  clear hc hs hr hT hp hTab hlen
  go_enter Tryz.func75, Tryz.ntmps75
  go_wp2_with fail
  refine HC.out.mono ?_
  rintro e w1 ⟨g, cap, rfl, ho, hb⟩
  have HO := Lib.hid ho
  have HB := Lib.hid hb
  have hg := (ho.lt g rfl)
  have hgw : g < w1.heap.size := hg.2
  have hg0 : g ≠ 0 := by have := hg.1; omega
  have HT1 := Lib.hid (HTB.out.below hb hw)
  clear ho hb hg
  have hne : ∀ r ∈ r1 L, r ≠ 0 ∧ Sm r := HR.out.ne
  by_cases h0 : L.length = 0
  · have hS := fun W => AnyF.slices_SortFunc_none (P := Tryz.prog) (ρ := Tryz.sortL_ren) { Tryz.sortL with } (some ⟨g, 0, none⟩) cap (.func (.func 105) #[] #[]) W
    change ∀ W, Calls Tryz.prog 104 _ _ _ at hS
    have HS := Lib.hid hS
    have hL : L = [] := List.eq_nil_of_length_eq_zero h0
    subst hL
    have hTn : T = [] := List.eq_nil_of_length_eq_zero (by rw [HLN.out]; rfl)
    subst hTn
    clear hS h0 hne
    go_wp2_with (go_at_call 104; refine (HS.out _).mono ?_; rintro e w' ⟨rfl, rfl⟩)
    go_ret
    exact ⟨_, rfl, HO.out, HB.out⟩
  · obtain ⟨hH, hsz⟩ := sort_holds hne HO.out
    have eg : ∀ args w, (callFunc 105 args).run Tryz.prog w = .ok (.enter 105 args) w := enters_of Tryz.func105 (by kernel_rfl) rfl
    have hcr : CmpReads Tryz.prog 105 #[] encP cfP g 0 (pms (r1 L) hne).toArray.size w1 := fun m os dk _ x y => (cmp_any x y _ (tab_sortWorld HT1.out hg0)).mono fun _ _ ⟨he, hw⟩ => ⟨he, 0, by rw [hw]; rfl⟩
    have hS := Any.slices_SortFunc Tryz.sortL encP (fun _ => rfl) cfP swoP 105 #[] g 0 cap (pms (r1 L) hne).toArray w1 eg hcr.lays hH hgw (by rw [hsz]; omega)
    rw [hsz] at hS
    change Calls Tryz.prog 104 _ _ _ at hS
    have HS := Lib.hid hS
    clear hS hcr eg hH
    have hsz' : (pms (r1 L) hne).length = L.length := by simpa using hsz
    clear hsz
    have HSZ := Lib.hid hsz'
    have HNE := Lib.hid hne
    clear h0 hsz'
    go_wp2_with (go_at_call 104; refine HS.out.mono ?_; rintro e w' ⟨rfl, d', q, os, hpm, hst, rfl⟩; have HPM := Lib.hid hpm; have HST := Lib.hid hst; clear hpm hst)
    go_ret
    have hsz : (pms (r1 L) HNE.out).toArray.size = L.length := by simpa using HSZ.out
    have hpm := HPM.out
    have hst := HST.out
    rw [← hsz] at hpm hst
    have hv := sorted_pm (T := T) HR.out (d := (pms (r1 L) HNE.out).toArray) (by simpa using pms_val (r1 L) HNE.out) hpm hst HA.out HP.out
    have hd : d'.size = L.length := by rw [hpm.1]; exact hsz
    obtain ⟨o1, k1⟩ := sort_own HO.out d' hd (q := q) (os := os)
    rw [enc_val, hv] at o1
    refine ⟨_, rfl, own_cast2 o1 HLN.out.symm rfl, HB.out.trans ?_⟩
    exact k1.to_below HB.out.size (fun j hj => by simp only [List.mem_singleton] at hj; injection hj with hj; rw [hj]; exact (HO.out.lt g rfl).1)
end Go.Proofs.YtpchigdhnnkpcaaGreatDoor

namespace Go.Proofs.YtpchigdhnnkpcaaGreatDoor
open Go.RowKit

set_option maxHeartbeats 1000000 in
/-- impl.reduced: the reduced rows, as a new own row -/
theorem reduced_any (A : Option Addr) (n c : Nat) (rows : List Nat) (w : World) (hT : Tab w) (hw : 0 < w.heap.size) (hn : n = rows.length) (hsmall : n ≤ 1000000) (hS : ∀ r ∈ rows, Sm r) (hR : Rd w A (nv rows)) :
    Calls Tryz.prog 60 #[.slice A n c] w fun e w' => ∃ v, e = .returned v ∧ w'.ownsRow w.heap.size 2 1 v (reduceS rows).length (nv (reduceS rows)) ∧ Below w.heap.size w w' := by
  have h1 := spanOf_any A n c rows w hT hw hn hsmall hS hR
  have H1 := Lib.hid h1
  have HT := Lib.hid hT
  have hsp := spanL_perm (zs rows) (fun p hp => by obtain ⟨r, hr, rfl⟩ := List.mem_map.1 hp; exact ⟨hS r hr, Sm.zero⟩)
  rw [r1_zs] at hsp
  have HSP := Lib.hid hsp
  have HA := Lib.hid (asc_reduce hS)
  have hl := spanL_length_le (zs rows)
  rw [zs_length, ← hn] at hl
  clear h1 hT hn hS hR hsp
  go_enter Tryz.func60, Tryz.ntmps60
  go_wp2_with fail
  refine H1.out.mono ?_
  rintro e w1 ⟨rfl, ⟨v1, v2, hs⟩, hb⟩
  have h2 := spanReduced_any w.heap.size w.heap.size v1 v2 _ (reduceS rows) w1 (HT.out.below hb hw) (by have := hb.size; omega) hs (by omega) HSP.out.2.1 HA.out HSP.out.1
  have H2 := Lib.hid h2
  have HB := Lib.hid hb
  clear h2 hs hb
  go_wp2_with fail
  refine H2.out.mono ?_
  rintro e w2 ⟨v, rfl, ho, hb⟩
  have HO := Lib.hid ho
  have HB2 := Lib.hid hb
  clear ho hb
  go_wp2_with fail
  go_ret
  exact ⟨v, rfl, HO.out.mono HB.out.size, HB.out.trans (HB2.out.mono HB.out.size)⟩

end Go.Proofs.YtpchigdhnnkpcaaGreatDoor
