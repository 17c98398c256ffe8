/- the laws' own helpers at rows of rows · the laws' own helpers at rows of rows: equality, marks · what a law holds on to from call to call: pieces of memory, pairwise apart · results as laws take them; the laws' own helpers at modules · rows of rows of rows: slices of slices of slices of ints (read; compared) · rows of rows of rows: the marks that are held -/
import Derived.Test.YtdkmdmpaflgfaaaGreatDoorBxaa
import Derived.Deep.Onto
import Derived.Deep.RegionHeld3
set_option linter.all false
namespace Go.Proofs.YtdkmdmpaflgfaaaGreatDoor
open Go.RowKit

/-- what the size of rows of rows leaves -/
def SzOk (n t : Nat) (left z : Int) : Prop := z = -1 ∨ (0 ≤ z ∧ z + n + t = left)
set_option maxHeartbeats 1000000 in
theorem szRows_any (A : Option Addr) (n c : Nat) (L : List Row) (left : Int) (w : World) (hn : n = L.length) (hsm : n ≤ 9223372036854775807) (hl : ∀ i, i < L.length → (rg L i).xs.length ≤ 9223372036854775807) (h0 : 0 ≤ left) (h1 : left ≤ 1048576) (hR : RdR w A L) :
    Calls Tryz.prog 45 #[.slice A n c, .int .i64 left] w fun e w' => ∃ z : Int, e = .returned (.int .i64 z) ∧ SzOk n (tot L) left z ∧ w = w' := by
  by_cases h : left - n < 0
  · go_enter Tryz.func45, Tryz.ntmps45
    go_wp2_with fail
    go_ret
    exact ⟨-1, rfl, .inl rfl, rfl⟩
  · have Hn := Lib.hid hn
    have HR := Lib.hid hR
    have HL := Lib.hid hl
    clear hn hR hl
    go_enter Tryz.func45, Tryz.ntmps45
    go_wp2_with fail
    go_loop [1, 5] (fun q i => ∃ k t : Nat, k ≤ n ∧ i = .int .i64 k ∧ Hid (t = tot (L.take k)) ∧ (t : Int) ≤ left - n ∧ q = .int .i64 (left - n - t)) (fun _ i => n - (intOf i).toNat)
    case atStart => exact ⟨0, 0, by omega, rfl, Lib.hid (by simp [tot]), by omega, by simp⟩
    case round =>
      obtain ⟨k, t, hk, rfl, HT, ht, rfl⟩ := hrel
      by_cases hlt : k < n
      · have hkL : k < L.length := by rw [← Hn.out]; exact hlt
        obtain ⟨b, o, rfl, hc⟩ := HR.out.at_ hkL
        have hs := HL.out k hkL
        have HS := Lib.hid (tot_succ hkL)
        have hz := fun W => szInts_any (rg L k).A (rg L k).xs.length (rg L k).c (left - n - t) W hs (by omega) (by omega)
        generalize rg L k = r at *
        by_cases h2 : left - n - t - r.xs.length < 0
        · rw [show szV r.xs.length (left - n - t) = -1 by unfold szV; rw [if_pos h2]] at hz
          have HZ := Lib.hid hz
          clear hz
          go_wp2_with (go_at_call 44; refine (HZ.out _).mono ?_; rintro e w' ⟨rfl, rfl⟩)
          go_ret
          exact ⟨-1, rfl, .inl rfl, rfl⟩
        · rw [show szV r.xs.length (left - n - t) = left - n - t - r.xs.length by unfold szV; rw [if_neg h2]] at hz
          have HZ := Lib.hid hz
          clear hz
          go_wp2_with (go_at_call 44; refine (HZ.out _).mono ?_; rintro e w' ⟨rfl, rfl⟩)
          go_round
          case rel => exact ⟨k + 1, t + r.xs.length, by omega, by go_num, Lib.hid (by rw [HS.out, HT.out]), by omega, by simp; omega⟩
          case measure => simp [intOf]; omega
      · have e : t = tot L := by rw [HT.out, tot_all (by rw [← Hn.out]; omega)]
        have HE := Lib.hid e
        clear e
        go_wp2_with fail
        go_ret
        exact ⟨left - n - t, rfl, .inr ⟨by omega, by rw [← HE.out]; omega⟩, rfl⟩

theorem hv_replicate (n : Nat) : (madeCells #[Value.slice none 0 0] n).toList = hv (List.replicate n r0) := by
  simp [hv, madeCells, Row.val, r0]
  apply List.ext_getElem?
  intro i
  by_cases h : i < n
  · simp [h, Nat.mod_one]
  · simp [h]
theorem rg_replicate (n i : Nat) : rg (List.replicate n r0) i = r0 := by
  simp only [rg, List.getD, List.getElem?_replicate]
  split <;> rfl

set_option maxRecDepth 100000 in
set_option maxHeartbeats 2000000 in
theorem toRows_any (A : Option Addr) (n c : Nat) (L : List Row) (w : World) (hn : n = L.length) (hsm : n ≤ 1048576) (hl : ∀ i, i < L.length → (rg L i).xs.length ≤ 1048576) (hR : RdR w A L) :
    Calls Tryz.prog 48 #[.slice A n c] w fun e w' => ∃ g M, e = .returned (.slice (some ⟨g, 0, none⟩) n n) ∧ dat M = dat L ∧ OwnR w' w.heap.size (.slice (some ⟨g, 0, none⟩) n n) M ∧ Below w.heap.size w w' := by
  obtain ⟨i0, hi0, hz0, hz1, hz2⟩ := info_parts infoS
  have Hn := Lib.hid hn
  have HR := Lib.hid hR
  have HL := Lib.hid hl
  clear hn hR hl
  go_enter Tryz.func48, Tryz.ntmps48
  go_wp2_with (at_make; refine wpList_make_full _ rfl _ _ 23 rfl w.heap.size 22 i0 _ 1 Tryz.underlying23 hi0 hz0 hz1 _ _ _ _ n rfl rfl rfl rfl ?b1 ?b2 ?b3 ?_)
  case b1 => rw [hz2]; omega
  case b2 => unfold maxLen; omega
  case b3 => exact Nat.le_refl _
  intro w1 hown hgrow
  have HG := Lib.hid (Below.grown (Below.refl w.heap.size w) hgrow (Nat.le_refl _) (by intro k h; cases h))
  have HO : Hid (OwnR w1 w.heap.size (.slice (some ⟨w.heap.size, 0, none⟩) n n) (List.replicate n r0)) := by
    show OwnR _ _ _ _
    rw [hv_replicate] at hown
    refine ⟨by rw [List.length_replicate]; exact hown, ?_, ?_⟩
    · intro i hi; rw [rg_replicate]; exact World.ownsRow_nil _ _ _ _
    · intro i j hi hj hne; rw [rg_replicate]; exact .inl rfl
  clear hown hgrow hi0 hz0 hz1 hz2
  go_wp2_with fail
  go_loopw [4] (fun i wr => ∃ k : Nat, k ≤ n ∧ i = .int .i64 k ∧ (∃ M : List Row, M.length = n ∧ (∀ i, i < k → (rg M i).xs = (rg L i).xs) ∧ OwnR wr w.heap.size (.slice (some ⟨w.heap.size, 0, none⟩) n n) M) ∧ Below w.heap.size w wr) (fun i _ => n - (intOf i).toNat)
  case atStart => exact ⟨0, by omega, rfl, ⟨_, by simp, (fun i hi => by omega), HO.out⟩, HG.out⟩
  case round =>
    obtain ⟨k, hk, rfl, ⟨M, hml, hmt, hown⟩, hbel⟩ := hrel
    have hsz : w.heap.size ≤ wr.heap.size := hbel.size
    by_cases hlt : k < n
    · have hkL : k < L.length := by rw [← Hn.out]; exact hlt
      obtain ⟨b, o, rfl, hc⟩ := (HR.out.below hbel).at_ hkL
      have hRi := (HR.out.below hbel).inn k hkL
      have hs := HL.out k hkL
      have HT := Lib.hid hmt
      have HO' := Lib.hid hown
      have HB := Lib.hid hbel
      have HM := Lib.hid hml
      have HX : Hid ((rg L k).xs = (rg L k).xs) := Lib.hid rfl
      have HC := Lib.hid (toInts_any (rg L k).A (rg L k).xs.length (rg L k).c (rg L k).xs wr rfl hs hRi)
      clear hmt hown hbel hml hRi
      generalize hr : rg L k = r at *
      have Hr := Lib.hid hr
      clear hr
      go_wp2_with fail
      refine HC.out.mono ?_
      rintro e w2 ⟨g, rfl, ho, hb⟩
      have hO2 := HO'.out.later hb
      obtain ⟨hcell, hfz⟩ := hO2.cell HM.out.symm (k := k) (by rw [HM.out]; exact hlt)
      have hsz2 := hb.size
      have hg := ho.lt g rfl
      have HP := Lib.hid (OwnR.put (r := ⟨some ⟨g, 0, none⟩, r.xs.length, r.xs⟩) hO2 HM.out.symm (by rw [HM.out]; exact hlt) (ho.mono hsz) (fun i hi hne => .inr (by
        intro e
        have h1 := ((HO'.out.inn i hi).lt g (by rw [← e]; rfl)).2
        omega)))
      have HB2 := Lib.hid (HB.out.trans (hb.mono hsz))
      generalize (rg M k).val = oldv at *
      clear ho hb hO2
      go_wp2_with fail
      go_roundw
      case rel =>
        refine ⟨k + 1, by omega, by go_num, ⟨_, by rw [List.length_set]; exact HM.out, ?_, HP.out⟩, HB2.out.setCell (p := ⟨w.heap.size, k, none⟩) (Nat.le_refl _) _⟩
        intro i hi
        rw [rg_set (by rw [HM.out]; exact hlt)]
        split
        · rename_i e; subst e; rw [Hr.out]
        · exact HT.out i (by omega)
      case measure => simp [intOf]; omega
    · have e : dat M = dat L := rows_ext (by rw [hml]; exact Hn.out) (fun i hi => hmt i (by rw [← Hn.out] at hi; omega))
      have HE := Lib.hid e
      have HO' := Lib.hid hown
      have HB := Lib.hid hbel
      clear hown hbel hmt hml e
      go_wp2_with fail
      go_ret
      exact ⟨w.heap.size, M, rfl, HE.out, HO'.out, HB.out⟩
end Go.Proofs.YtdkmdmpaflgfaaaGreatDoor

namespace Go.Proofs.YtdkmdmpaflgfaaaGreatDoor
open Go.RowKit

theorem eqI_refl (xs : List Int) : eqI xs xs = true := by simp [eqI]
theorem quiet_any {P : Program} {f : FuncId} {args : Array Value} {w : World} {n : Nat} {v : Value}
    (h : Calls P f args (w.drewN n) fun e w' => e = .returned v ∧ ∃ m, (w.drewN n).drewN m = w') : Calls P f args (w.drewN n) fun e w'' => e = .returned v ∧ ∃ m, w'' = w.drewN m :=
  h.mono fun _ _ ⟨he, m, hm⟩ => ⟨he, n + m, by rw [← hm, World.drewN_drewN]⟩
theorem quiet_any_add {P : Program} {f : FuncId} {args : Array Value} {w : World} {a n : Nat} {v : Value}
    (h : Calls P f args (w.drewN (a + n)) fun e w' => e = .returned v ∧ ∃ m, (w.drewN (a + n)).drewN m = w') : Calls P f args (w.drewN (a + n)) fun e w'' => e = .returned v ∧ ∃ m, w'' = w.drewN (a + m) :=
  h.mono fun _ _ ⟨he, m, hm⟩ => ⟨he, n + m, by rw [← hm, World.drewN_drewN, Nat.add_assoc]⟩

set_option maxRecDepth 100000 in
set_option maxHeartbeats 1000000 in
theorem eqRows_any (A A' : Option Addr) (n n' c c' : Nat) (L M : List Row) (w : World) (hn : n = L.length) (hn' : n' = M.length) (hsm : n ≤ 1099511627776) (hl : ∀ i, i < L.length → (rg L i).xs.length ≤ 1099511627776) (hd : dat M = dat L) (hR : RdR w A L) (hR' : RdR w A' M) :
    Calls Tryz.prog 36 #[.slice A n c, .slice A' n' c'] w fun e w' => e = .returned (.bool true) ∧ ∃ m, w.drewN m = w' := by
  obtain ⟨hml, hx⟩ := dat_xs hd
  obtain rfl : n = n' := by omega
  have Hn := Lib.hid hn
  have Hn' := Lib.hid hn'
  have HR := Lib.hid hR
  have HR' := Lib.hid hR'
  have HX := Lib.hid hx
  have HL := Lib.hid hl
  clear hn hn' hR hR' hx hl hml hd
  go_enter Tryz.func36, Tryz.ntmps36
  go_wp2_with fail
  go_loopw [5] (fun i wr => ∃ k : Nat, k ≤ n ∧ i = .int .i64 k ∧ (∃ m, wr = w.drewN m)) (fun i _ => n - (intOf i).toNat)
  case atStart => exact ⟨0, by omega, rfl, ⟨0, rfl⟩⟩
  case round =>
    obtain ⟨k, hk, rfl, ⟨m, rfl⟩⟩ := hrel
    by_cases hlt : k < n
    · have hkL : k < L.length := by rw [← Hn.out]; exact hlt
      have hkM : k < M.length := by rw [← Hn'.out]; exact hlt
      obtain ⟨b, o, rfl, hc⟩ := HR.out.at_ hkL
      obtain ⟨b', o', rfl, hc'⟩ := HR'.out.at_ hkM
      have h1 := HR.out.inn k hkL
      have h2 := HR'.out.inn k hkM
      have hs := HL.out k hkL
      have he := HX.out k
      generalize rg L k = r at *
      generalize rg M k = s at *
      rw [he] at h2 hc'
      have HE := Lib.hid (fun W hb => eqInts_any r.A s.A r.xs.length r.xs.length r.c s.c r.xs r.xs W rfl rfl hs hs (Rd.below h1 hb) (Rd.below h2 hb))
      rw [eqI_refl] at HE
      clear h1 h2 he
      go_wp2_with fail
      go_quiet ((go_at_call 22; first | exact quiet_any_add (HE.out _ (below_drewN (Below.refl _ _) _)) | exact quiet_any (HE.out _ (below_drewN (Below.refl _ _) _))))
      go_wp2_with fail
      go_roundw
      case rel => exact ⟨k + 1, by omega, by go_num, ⟨_, rfl⟩⟩
      case measure => simp [intOf]; omega
    · go_wp2_with fail
      go_ret
      exact ⟨rfl, m, rfl⟩

/-- all but the blocks lo .. hi is as it was -/
structure Within (lo hi : Nat) (w w' : World) : Prop where
  os : w'.os = w.os
  tape : w'.tape = w.tape
  output : w'.output = w.output
  size : w.heap.size ≤ w'.heap.size
  block : ∀ k, k < w.heap.size → (k < lo ∨ hi ≤ k) → w'.heap[k]? = w.heap[k]?
section
variable {w w1 w' : World} {lo hi : Nat}
theorem Within.refl (w : World) (lo hi : Nat) : Within lo hi w w := ⟨rfl, rfl, rfl, Nat.le_refl _, fun _ _ _ => rfl⟩
theorem Within.trans (h : Within lo hi w w1) (k : Within lo hi w1 w') : Within lo hi w w' :=
  ⟨k.os.trans h.os, k.tape.trans h.tape, k.output.trans h.output, Nat.le_trans h.size k.size, fun j hj hn => (k.block j (Nat.lt_of_lt_of_le hj h.size) hn).trans (h.block j hj hn)⟩
theorem Within.of_keeps {b : Option Nat} (h : Keeps w w' [b]) (hb : ∀ k, b = some k → lo ≤ k ∧ k < hi) : Within lo hi w w' :=
  ⟨h.os, h.tape, h.output, h.size, fun j hj hn => h.block j hj (by
    simp only [List.mem_singleton]
    intro e
    have := hb j e.symm
    omega)⟩
theorem Within.of_below (h : Below w.heap.size w w') : Within lo hi w w' := ⟨h.os, h.tape, h.output, h.size, fun j hj _ => h.block j hj⟩
theorem Within.to_below {B : Nat} (h : Within lo hi w w') (hB : B ≤ w.heap.size) (hlo : B ≤ lo) : Below B w w' :=
  ⟨h.os, h.tape, h.output, h.size, fun j hj => h.block j (by omega) (.inl (by omega))⟩
end

/-- all but the inner rows of L is as it was -/
structure OnlyR (L : List Row) (w w' : World) : Prop where
  os : w'.os = w.os
  tape : w'.tape = w.tape
  output : w'.output = w.output
  size : w.heap.size ≤ w'.heap.size
  block : ∀ k, k < w.heap.size → (∀ i, i < L.length → (rg L i).val.ownBlock ≠ some k) → w'.heap[k]? = w.heap[k]?
section
variable {w w1 w' : World} {L : List Row}
theorem OnlyR.refl (w : World) (L : List Row) : OnlyR L w w := ⟨rfl, rfl, rfl, Nat.le_refl _, fun _ _ _ => rfl⟩
theorem OnlyR.trans (h : OnlyR L w w1) (k : OnlyR L w1 w') : OnlyR L w w' :=
  ⟨k.os.trans h.os, k.tape.trans h.tape, k.output.trans h.output, Nat.le_trans h.size k.size, fun j hj hn => (k.block j (Nat.lt_of_lt_of_le hj h.size) hn).trans (h.block j hj hn)⟩
theorem OnlyR.of_keeps {j : Nat} (hj : j < L.length) (h : Keeps w w' [(rg L j).val.ownBlock]) : OnlyR L w w' :=
  ⟨h.os, h.tape, h.output, h.size, fun k hk hn => h.block k hk (by simp only [List.mem_singleton]; exact fun e => hn j hj e.symm)⟩
theorem OnlyR.own {B n : Nat} {e : TypeId} {v : Value} {xs : List Value} (h : OnlyR L w w') (ho : w.ownsRow B e 1 v n xs) (hd : ∀ i, i < L.length → v.ownBlock = none ∨ v.ownBlock ≠ (rg L i).val.ownBlock) : w'.ownsRow B e 1 v n xs := by
  refine ⟨ho.1, ?_⟩
  rcases ho.2 with h0 | ⟨g, cap, cur, rfl, hb, hg, rest⟩
  · exact .inl h0
  · refine .inr ⟨g, cap, cur, rfl, hb, ?_, rest⟩
    rw [h.block g (Array.getElem?_eq_some_iff.1 hg).1 (fun i hi e => by
      rcases hd i hi with h' | h'
      · cases h'
      · exact h' e.symm)]
    exact hg
theorem OnlyR.within {B hi : Nat} {v : Value} (h : OnlyR L w w') (ho : OwnR w B v L) (hh : ∀ i, i < L.length → ∀ k, (rg L i).val.ownBlock = some k → k < hi) : Within B hi w w' :=
  ⟨h.os, h.tape, h.output, h.size, fun k hk hn => h.block k hk (fun i hi' e => by
    have h1 := ((ho.inn i hi').lt k e).1
    have h2 := hh i hi' k e
    omega)⟩
end

/-- rows of rows that hold the marks from k0 on, up to place j -/
def MarkTo (k0 : Int) (L M : List Row) (j : Nat) : Prop :=
  M.length = L.length ∧ ∀ i, i < L.length → (rg M i).A = (rg L i).A ∧ (rg M i).c = (rg L i).c ∧ (rg M i).xs.length = (rg L i).xs.length ∧ (i < j → (rg M i).xs = marks (k0 + tot (L.take i)) (rg L i).xs.length)
def marksR (k0 : Int) : List Row → List Row
  | [] => []
  | r :: L => ⟨r.A, r.c, marks k0 r.xs.length⟩ :: marksR (k0 + r.xs.length) L
theorem marksR_length (k0 : Int) (L : List Row) : (marksR k0 L).length = L.length := by
  induction L generalizing k0 with
  | nil => rfl
  | cons r L ih => simp [marksR, ih]
theorem rg_cons_succ (r : Row) (L : List Row) (i : Nat) : rg (r :: L) (i + 1) = rg L i := by simp [rg, List.getD]
theorem rg_cons_zero (r : Row) (L : List Row) : rg (r :: L) 0 = r := by simp [rg, List.getD]
theorem rg_marksR (k0 : Int) (L : List Row) (i : Nat) (hi : i < L.length) : rg (marksR k0 L) i = ⟨(rg L i).A, (rg L i).c, marks (k0 + tot (L.take i)) (rg L i).xs.length⟩ := by
  induction L generalizing k0 i with
  | nil => simp at hi
  | cons r L ih =>
    cases i with
    | zero => simp [marksR, rg_cons_zero, tot]
    | succ i =>
      simp only [marksR, rg_cons_succ]
      rw [ih _ _ (by simpa using hi)]
      have : (k0 + (r.xs.length : Int) + (tot (L.take i) : Int)) = k0 + (tot ((r :: L).take (i + 1)) : Int) := by simp [tot]; omega
      rw [this]
theorem markTo_all {k0 : Int} {L M : List Row} (h : MarkTo k0 L M L.length) : M = marksR k0 L := by
  apply List.ext_getElem (by rw [h.1, marksR_length])
  intro i h1 h2
  have hi : i < L.length := by rw [← h.1]; exact h1
  obtain ⟨a, b, c, d⟩ := h.2 i hi
  have e := rg_marksR k0 L i hi
  rw [rg_of h2] at e
  rw [e]
  rw [rg_of h1] at a b c d
  rw [← a, ← b, ← d hi]
theorem marksR_tot (k0 : Int) (L : List Row) : tot (marksR k0 L) = tot L := by
  induction L generalizing k0 with
  | nil => rfl
  | cons r L ih => simp only [tot, marksR, List.map_cons, List.sum_cons, marks_length]; have := ih (k0 + r.xs.length); simp only [tot] at this; rw [this]

set_option maxRecDepth 100000 in
set_option maxHeartbeats 1000000 in
theorem markRowsO_any (B : Nat) (v : Value) (L : List Row) (k0 : Int) (w : World) (hown : OwnR w B v L) (hsm : L.length ≤ 1048576) (ht : tot L ≤ 1048576) (h0 : 0 ≤ k0) (h1 : k0 ≤ 1000000000000) :
    Calls Tryz.prog 37 #[v, .int .i64 k0] w fun e w' => e = .returned (.int .i64 (k0 + tot L)) ∧ OwnR w' B v (marksR k0 L) ∧ OnlyR L w w' := by
  obtain ⟨A, c, rfl, _, hA, _⟩ := owns_shape hown.out
  have HO := Lib.hid hown
  have HA := Lib.hid hA
  have HT0 := Lib.hid (fun k => Nat.le_trans (tot_take_le L k) ht)
  generalize hn : L.length = n at *
  have HN := Lib.hid hn
  clear hown hA hn
  go_enter Tryz.func37, Tryz.ntmps37
  go_wp2_with fail
  go_loopw [1, 5] (fun q i wr => ∃ j t : Nat, j ≤ n ∧ i = .int .i64 j ∧ Hid (t = tot (L.take j)) ∧ t ≤ 1048576 ∧ q = .int .i64 (k0 + t) ∧ (∃ M, MarkTo k0 L M j ∧ OwnR wr B (.slice A n c) M) ∧ OnlyR L w wr) (fun _ i _ => n - (intOf i).toNat)
  case atStart =>
    refine ⟨0, 0, by omega, rfl, Lib.hid (by simp [tot]), by omega, by simp, ⟨L, ⟨rfl, fun i _ => ⟨rfl, rfl, rfl, fun h => by omega⟩⟩, HO.out⟩, OnlyR.refl _ _⟩
  case round =>
    obtain ⟨j, t, hj, rfl, HT, ht', rfl, ⟨M, hM, hown⟩, hwi⟩ := hrel
    by_cases hlt : j < n
    · have hjL : j < L.length := by rw [HN.out]; exact hlt
      have hjM : j < M.length := by rw [hM.1]; exact hjL
      obtain ⟨g, rfl, _, _⟩ := HA.out (by omega)
      obtain ⟨hcell, _⟩ := hown.cell (by rw [hM.1, HN.out]) hjM
      have hS := tot_succ hjL
      have ht2 := HT0.out (j + 1)
      have hle := len_le_tot hjL
      obtain ⟨e1, e2, e3, _⟩ := hM.2 j hjL
      have hin := hown.inn j hjM
      have hev : (rg M j).val = (rg L j).val := by simp [Row.val, e1, e2, e3]
      have HS := Lib.hid hS
      have hlen : (rg L j).xs.length + t ≤ 1048576 := by have h9 := HT.out; omega
      have HC := Lib.hid (markInts_any B (rg M j).val (rg M j).xs.length (rg M j).xs (k0 + t) wr hin (by rw [e3]; omega) (by omega) (by omega))
      have HM := Lib.hid hM
      have HO' := Lib.hid hown
      have HW := Lib.hid hwi
      have HEV := Lib.hid hev
      have HE3 := Lib.hid e3
      have HE1 := Lib.hid e1
      have HE2 := Lib.hid e2
      clear hM hown hwi e1 e2 e3 hin hev hS ht2 hle
      have hcv : wr.cell? ⟨g, j, none⟩ = some (.slice (rg M j).A (rg M j).xs.length (rg M j).c) := hcell
      clear hcell
      have HC' : Hid (Calls Tryz.prog 23 #[.slice (rg M j).A (rg M j).xs.length (rg M j).c, .int .i64 (k0 + t)] wr fun e w' => e = .returned (.int .i64 (k0 + t + ((rg M j).xs.length : Nat))) ∧ w'.ownsRow B 2 1 (rg M j).val (rg M j).xs.length (iv (marks (k0 + t) (rg M j).xs.length)) ∧ Keeps wr w' [(rg M j).val.ownBlock]) := HC.out
      clear HC
      generalize hs : rg M j = s at *
      have Hs := Lib.hid hs
      clear hs
      have hsl : s.xs.length + t ≤ 1048576 := by rw [HE3.out]; exact hlen
      go_wp2_with fail
      refine HC'.out.mono ?_
      rintro e w2 ⟨rfl, ho, hk⟩
      have HO2 := Lib.hid (HO'.out.inset (ys := marks (k0 + t) s.xs.length) hjM (by rw [marks_length, Hs.out]) (by rw [Hs.out]; exact hk) (by rw [Hs.out]; exact ho))
      have HW2 := Lib.hid (HW.out.trans (OnlyR.of_keeps hjL (by rw [← HEV.out]; exact hk)))
      clear ho hk
      go_wp2_with fail
      go_roundw
      case rel =>
        refine ⟨j + 1, t + s.xs.length, by omega, by go_num, Lib.hid (by rw [HS.out, HT.out, HE3.out]), by omega, by simp; omega, ⟨_, ?_, HO2.out⟩, HW2.out⟩
        refine ⟨by rw [List.length_set]; exact HM.out.1, fun i hi => ?_⟩
        rw [rg_set hjM]
        split
        · rename_i e; subst e
          refine ⟨by rw [Hs.out]; exact HE1.out, by rw [Hs.out]; exact HE2.out, by simp only [marks_length]; exact HE3.out, fun _ => ?_⟩
          simp only
          rw [HE3.out, HT.out]
        · obtain ⟨a1, a2, a3, a4⟩ := HM.out.2 i hi
          exact ⟨a1, a2, a3, fun h => a4 (by omega)⟩
      case measure => simp [intOf]; omega
    · obtain rfl : n = j := by omega
      have e : M = marksR k0 L := markTo_all (by rw [HN.out]; exact hM)
      have e2 : t = tot L := by rw [HT.out, tot_all (by rw [HN.out]; exact Nat.le_refl _)]
      rw [e] at hown
      have HO' := Lib.hid hown
      have HW := Lib.hid hwi
      have HE := Lib.hid e2
      clear hown hwi e hM e2
      go_wp2_with fail
      go_ret
      exact ⟨by rw [← HE.out]; rfl, HO'.out, HW.out⟩

theorem markRows_any (B hi : Nat) (v : Value) (L : List Row) (k0 : Int) (w : World) (hown : OwnR w B v L) (hsm : L.length ≤ 1048576) (ht : tot L ≤ 1048576) (h0 : 0 ≤ k0) (h1 : k0 ≤ 1000000000000)
    (hhi : ∀ i, i < L.length → ∀ k, (rg L i).val.ownBlock = some k → k < hi) :
    Calls Tryz.prog 37 #[v, .int .i64 k0] w fun e w' => e = .returned (.int .i64 (k0 + tot L)) ∧ OwnR w' B v (marksR k0 L) ∧ Within B hi w w' :=
  (markRowsO_any B v L k0 w hown hsm ht h0 h1).mono fun _ _ ⟨he, ho, hk⟩ => ⟨he, ho, hk.within hown hhi⟩

set_option maxRecDepth 100000 in
set_option maxHeartbeats 1000000 in
theorem heldRows_any (A : Option Addr) (n c : Nat) (L : List Row) (k0 : Int) (w : World) (hn : n = L.length) (hR : RdR w A (marksR k0 L)) (hsm : n ≤ 1048576) (ht : tot L ≤ 1048576) (h0 : 0 ≤ k0) (h1 : k0 ≤ 1000000000000) :
    Calls Tryz.prog 38 #[.slice A n c, .int .i64 k0] w fun e w' => e = .returned (.int .i64 (k0 + tot L)) ∧ w = w' := by
  have HR := Lib.hid hR
  have Hn := Lib.hid hn
  have HT0 := Lib.hid (fun k => Nat.le_trans (tot_take_le L k) ht)
  clear hR hn
  go_enter Tryz.func38, Tryz.ntmps38
  go_wp2_with fail
  go_loop [1, 5] (fun q i => ∃ j t : Nat, j ≤ n ∧ i = .int .i64 j ∧ Hid (t = tot (L.take j)) ∧ t ≤ 1048576 ∧ q = .int .i64 (k0 + t)) (fun _ i => n - (intOf i).toNat)
  case atStart => exact ⟨0, 0, by omega, rfl, Lib.hid (by simp [tot]), by omega, by simp⟩
  case round =>
    obtain ⟨j, t, hj, rfl, HT, ht', rfl⟩ := hrel
    by_cases hlt : j < n
    · have hjL : j < L.length := by rw [← Hn.out]; exact hlt
      have hjM : j < (marksR k0 L).length := by rw [marksR_length]; exact hjL
      obtain ⟨b, o, rfl, hc⟩ := HR.out.at_ hjM
      have h2 := HR.out.inn j hjM
      rw [rg_marksR k0 L j hjL] at hc h2
      simp only [marks_length] at hc h2
      have HS := Lib.hid (tot_succ hjL)
      have ht2 := HT0.out (j + 1)
      have hlen : (rg L j).xs.length + t ≤ 1048576 := by have h9 := HT.out; have h8 := HS.out; omega
      rw [← HT.out] at h2
      generalize rg L j = r at *
      have HH := Lib.hid (fun W (hb : w = W) => heldInts_any r.A r.xs.length r.c (k0 + t) W (hb ▸ h2) (by omega) (by omega) (by omega))
      clear h2 ht2
      have hk0 : ¬ (k0 + (t : Int) + (r.xs.length : Int) < 0) := by omega
      go_wp2_with (go_at_call 24; refine (HH.out _ rfl).mono ?_; rintro e w' ⟨rfl, rfl⟩)
      go_round
      case rel => exact ⟨j + 1, t + r.xs.length, by omega, by go_num, Lib.hid (by rw [HS.out, HT.out]), by omega, by simp; omega⟩
      case measure => simp [intOf]; omega
    · have e2 : t = tot L := by rw [HT.out, tot_all (by rw [← Hn.out]; omega)]
      have HE := Lib.hid e2
      clear e2
      go_wp2_with fail
      go_ret
      exact ⟨by rw [← HE.out]; rfl, rfl⟩
end Go.Proofs.YtdkmdmpaflgfaaaGreatDoor

namespace Go.Proofs.YtdkmdmpaflgfaaaGreatDoor
open Go.RowKit

/-- the blocks lo .. hi are as they were -/
def Same (lo hi : Nat) (w w' : World) : Prop := ∀ k, lo ≤ k → k < hi → w'.heap[k]? = w.heap[k]?
/-- a fact on the blocks lo .. hi alone -/
structure Piece where
  lo : Nat
  hi : Nat
  p : World → Prop
  loc : ∀ w w', Same lo hi w w' → p w → p w'

theorem own_same {lo hi : Nat} {w w' : World} {e : TypeId} {v : Value} {n : Nat} {xs : List Value} (hs : Same lo hi w w') (h : w.ownsRow lo e 1 v n xs) (hh : ∀ k, v.ownBlock = some k → k < hi) : w'.ownsRow lo e 1 v n xs := by
  refine ⟨h.1, ?_⟩
  rcases h.2 with h0 | ⟨g, cap, cur, rfl, hb, hg, rest⟩
  · exact .inl h0
  · refine .inr ⟨g, cap, cur, rfl, hb, ?_, rest⟩
    rw [hs g hb (hh g rfl)]
    exact hg
/-- all rows lie below hi -/
def UpR (hi : Nat) (v : Value) (L : List Row) : Prop := (∀ k, v.ownBlock = some k → k < hi) ∧ ∀ i, i < L.length → ∀ k, (rg L i).val.ownBlock = some k → k < hi
theorem OwnR.up {w : World} {B : Nat} {v : Value} {L : List Row} (h : OwnR w B v L) : UpR w.heap.size v L := ⟨fun k hk => (h.out.lt k hk).2, fun i hi k hk => ((h.inn i hi).lt k hk).2⟩
theorem OwnR.same {lo hi : Nat} {w w' : World} {v : Value} {L : List Row} (hs : Same lo hi w w') (h : OwnR w lo v L) (hu : UpR hi v L) : OwnR w' lo v L :=
  ⟨own_same hs h.out hu.1, fun i hi => own_same hs (h.inn i hi) (hu.2 i hi), h.dis⟩
theorem UpR.marks {hi : Nat} {v : Value} {L : List Row} (h : UpR hi v L) (k0 : Int) : UpR hi v (marksR k0 L) :=
  ⟨h.1, fun i hi' k hk => by
    rw [marksR_length] at hi'
    rw [rg_marksR k0 L i hi'] at hk
    have e : Row.val ⟨(rg L i).A, (rg L i).c, Go.Proofs.YtdkmdmpaflgfaaaGreatDoor.marks (k0 + tot (L.take i)) (rg L i).xs.length⟩ = (rg L i).val := by simp [Row.val, marks_length]
    rw [e] at hk
    exact h.2 i hi' k hk⟩

def ownP (lo hi : Nat) (e : TypeId) (v : Value) (n : Nat) (xs : List Value) : Piece :=
  ⟨lo, hi, fun w => w.ownsRow lo e 1 v n xs ∧ ∀ k, v.ownBlock = some k → k < hi, fun _ _ hs h => ⟨own_same hs h.1 h.2, h.2⟩⟩
def rowsP (lo hi : Nat) (v : Value) (L : List Row) : Piece :=
  ⟨lo, hi, fun w => OwnR w lo v L ∧ UpR hi v L, fun _ _ hs h => ⟨h.1.same hs h.2, h.2⟩⟩
def boxP (g : Nat) (cs : Array Value) (t : TypeId) : Piece :=
  ⟨g, g + 1, fun w => w.heap[g]? = some (.cells cs t (0, 0)), fun _ _ hs h => (hs g (Nat.le_refl _) (by omega)).trans h⟩

/-- w0: the world as the law began; below its end nothing has turned. -/
structure Inw (w0 w : World) (L : List Piece) : Prop where
  bel : Below w0.heap.size w0 w
  all : ∀ c ∈ L, w0.heap.size ≤ c.lo ∧ c.hi ≤ w.heap.size ∧ c.p w
  off : L.Pairwise fun a b => b.hi ≤ a.lo ∨ a.hi ≤ b.lo

section
variable {w0 w w' : World} {L : List Piece}
theorem Inw.start (w : World) : Inw w w [] := ⟨Below.refl _ _, by simp, .nil⟩
theorem Inw.size (h : Inw w0 w L) : w0.heap.size ≤ w.heap.size := h.bel.size
theorem Inw.step (h : Inw w0 w L) (hb : Below w.heap.size w w') : Inw w0 w' L :=
  ⟨h.bel.trans (hb.mono h.bel.size), fun c hc => ⟨(h.all c hc).1, Nat.le_trans (h.all c hc).2.1 hb.size, c.loc w w' (fun k _ hk => hb.block k (Nat.lt_of_lt_of_le hk (h.all c hc).2.1)) (h.all c hc).2.2⟩, h.off⟩
theorem Inw.push (h : Inw w0 w L) (hb : Below w.heap.size w w') (c : Piece) (hlo : w.heap.size ≤ c.lo) (hhi : c.hi ≤ w'.heap.size) (hp : c.p w') : Inw w0 w' (c :: L) := by
  have h1 := h.step hb
  refine ⟨h1.bel, ?_, List.pairwise_cons.2 ⟨?_, h.off⟩⟩
  · intro d hd
    rcases List.mem_cons.1 hd with rfl | hd
    · exact ⟨Nat.le_trans h.bel.size hlo, hhi, hp⟩
    · exact h1.all d hd
  · intro d hd
    exact .inl (Nat.le_trans (h.all d hd).2.1 hlo)
theorem Inw.get (h : Inw w0 w L) (i : Nat) {c : Piece} (hi : L[i]? = some c) : c.p w := (h.all c (List.mem_of_getElem? hi)).2.2
theorem Inw.own (h : Inw w0 w L) (i : Nat) {lo hi : Nat} {e : TypeId} {v : Value} {n : Nat} {xs : List Value} (hi' : L[i]? = some (ownP lo hi e v n xs)) : w.ownsRow lo e 1 v n xs := (h.get i hi').1
theorem Inw.rows (h : Inw w0 w L) (i : Nat) {lo hi : Nat} {v : Value} {M : List Row} (hi' : L[i]? = some (rowsP lo hi v M)) : OwnR w lo v M := (h.get i hi').1
theorem Inw.rowsUp (h : Inw w0 w L) (i : Nat) {lo hi : Nat} {v : Value} {M : List Row} (hi' : L[i]? = some (rowsP lo hi v M)) : UpR hi v M := (h.get i hi').2
theorem Inw.box (h : Inw w0 w L) (i : Nat) {g : Nat} {cs : Array Value} {t : TypeId} (hi' : L[i]? = some (boxP g cs t)) : w.heap[g]? = some (.cells cs t (0, 0)) := h.get i hi'
theorem Inw.pushOwn (h : Inw w0 w L) (hb : Below w.heap.size w w') {e : TypeId} {v : Value} {n : Nat} {xs : List Value} (ho : w'.ownsRow w.heap.size e 1 v n xs) : Inw w0 w' (ownP w.heap.size w'.heap.size e v n xs :: L) :=
  h.push hb _ (Nat.le_refl _) (Nat.le_refl _) ⟨ho, fun k hk => (ho.lt k hk).2⟩
theorem Inw.pushRows (h : Inw w0 w L) (hb : Below w.heap.size w w') {v : Value} {M : List Row} (ho : OwnR w' w.heap.size v M) : Inw w0 w' (rowsP w.heap.size w'.heap.size v M :: L) :=
  h.push hb _ (Nat.le_refl _) (Nat.le_refl _) ⟨ho, ho.up⟩
theorem Inw.allocBox (h : Inw w0 w L) (cs : Array Value) (t : TypeId) : Inw w0 (w.alloc (.cells cs t)) (boxP w.heap.size cs t :: L) :=
  h.push ((Below.refl _ _).alloc (Nat.le_refl _) _) _ (Nat.le_refl _) (by simp [boxP]) (heap_alloc_new w _)
theorem Inw.drewN (h : Inw w0 w L) (m : Nat) : Inw w0 (w.drewN m) L := h.step (below_drewN (Below.refl _ _) m)
theorem Inw.drew (h : Inw w0 w L) : Inw w0 w.drew L := h.step (Below.drew (Below.refl _ _))
/-- the piece at place i has been written, and nothing else -/
theorem Inw.mark (h : Inw w0 w L) (i : Nat) {c : Piece} (c' : Piece) (hi' : L[i]? = some c) (hlo : c'.lo = c.lo) (hhi : c'.hi = c.hi) (hk : Within c.lo c.hi w w') (hp : c'.p w') : Inw w0 w' (L.set i c') := by
  obtain ⟨hil, hie⟩ := List.getElem?_eq_some_iff.1 hi'
  have hc := h.all c (List.mem_of_getElem? hi')
  refine ⟨h.bel.trans (hk.to_below h.bel.size hc.1), ?_, ?_⟩
  · intro d hd
    obtain ⟨j, hj, hje⟩ := List.getElem_of_mem hd
    rw [List.length_set] at hj
    rw [List.getElem_set] at hje
    split at hje
    · subst hje; exact ⟨by rw [hlo]; exact hc.1, by rw [hhi]; exact Nat.le_trans hc.2.1 hk.size, hp⟩
    · rename_i hne
      have hap : d.hi ≤ c.lo ∨ c.hi ≤ d.lo := by
        rw [← hie, ← hje]
        rcases Nat.lt_or_ge i j with hlt | hge
        · exact (List.pairwise_iff_getElem.1 h.off) i j hil hj hlt
        · rcases (List.pairwise_iff_getElem.1 h.off) j i hj hil (by omega) with e | e
          · exact .inr e
          · exact .inl e
      have hdw := h.all d (by rw [← hje]; exact List.getElem_mem hj)
      exact ⟨hdw.1, Nat.le_trans hdw.2.1 hk.size, d.loc w w' (fun k h1 h2 => hk.block k (by omega) (by omega)) hdw.2.2⟩
  · rw [List.pairwise_iff_getElem]
    intro a b ha hb hab
    rw [List.length_set] at ha hb
    have := (List.pairwise_iff_getElem.1 h.off) a b ha hb hab
    rw [List.getElem_set, List.getElem_set]
    split
    · rename_i e1; subst e1
      rw [if_neg (by omega), hlo, hhi, ← hie]; exact this
    · split
      · rename_i e1 e2; subst e2
        rw [hlo, hhi, ← hie]; exact this
      · exact this
theorem Inw.markOwn (h : Inw w0 w L) (i : Nat) {lo hi : Nat} {e : TypeId} {v : Value} {n : Nat} {xs ys : List Value} (hi' : L[i]? = some (ownP lo hi e v n xs)) (hk : Keeps w w' [v.ownBlock]) (ho : w'.ownsRow lo e 1 v n ys) : Inw w0 w' (L.set i (ownP lo hi e v n ys)) := by
  have h1 := h.get i hi'
  exact h.mark i _ hi' rfl rfl (Within.of_keeps hk (fun k hk => ⟨(h1.1.lt k hk).1, h1.2 k hk⟩)) ⟨ho, h1.2⟩
theorem Inw.markRows (h : Inw w0 w L) (i : Nat) {lo hi : Nat} {v : Value} {M : List Row} {k0 : Int} (hi' : L[i]? = some (rowsP lo hi v M)) (hk : Within lo hi w w') (ho : OwnR w' lo v (marksR k0 M)) : Inw w0 w' (L.set i (rowsP lo hi v (marksR k0 M))) := by
  have h1 := h.get i hi'
  exact h.mark i _ hi' rfl rfl hk ⟨ho, h1.2.marks k0⟩
end
end Go.Proofs.YtdkmdmpaflgfaaaGreatDoor

namespace Go.Proofs.YtdkmdmpaflgfaaaGreatDoor
open Go.RowKit

/-- a new slice of ints and a code -/
def ResS (r : List Int × Int) (w : World) (e : Ending) (w' : World) : Prop := ∃ v, e = .returned (.tuple #[v, .int .i64 r.2]) ∧ w'.ownsRow w.heap.size 2 1 v r.1.length (iv r.1) ∧ Below w.heap.size w w'
/-- new rows of rows and a code -/
def ResR (r : List (List Int) × Int) (w : World) (e : Ending) (w' : World) : Prop := ∃ v M, e = .returned (.tuple #[v, .int .i64 r.2]) ∧ dat M = r.1 ∧ OwnR w' w.heap.size v M ∧ Below w.heap.size w w'
def ResI (r : Int × Int) (w : World) (e : Ending) (w' : World) : Prop := e = .returned (.tuple #[.int .i64 r.1, .int .i64 r.2]) ∧ Below w.heap.size w w'
def ResB (r : Bool × Int) (w : World) (e : Ending) (w' : World) : Prop := e = .returned (.tuple #[.bool r.1, .int .i64 r.2]) ∧ Below w.heap.size w w'
theorem blk2set0' {w : World} {g : Nat} {u v : Value} {t : TypeId} (h : w.heap[g]? = some (.cells #[u, v] t (0, 0))) (x : Value) : (w.setCell ⟨g, 0, none⟩ x).heap[g]? = some (.cells #[x, v] t (0, 0)) := by
  have := heap_setCell_same w g 0 _ t x h
  simpa using this
theorem blk2set1' {w : World} {g : Nat} {u v : Value} {t : TypeId} (h : w.heap[g]? = some (.cells #[u, v] t (0, 0))) (x : Value) : (w.setCell ⟨g, 1, none⟩ x).heap[g]? = some (.cells #[u, x] t (0, 0)) := by
  have := heap_setCell_same w g 1 _ t x h
  simpa using this
theorem blk_seto {w : World} {g : Nat} {x : Obj} (h : w.heap[g]? = some x) (p : Addr) (hp : p.block ≠ g) (u : Value) : (w.setCell p u).heap[g]? = some x := (Below.heap_setCell w p u g (Ne.symm hp)).trans h
theorem blk_kept {w w' : World} {g : Nat} {x : Obj} (h : w.heap[g]? = some x) (hb : Below w.heap.size w w') : w'.heap[g]? = some x := (hb.block g (Array.getElem?_eq_some_iff.1 h).1).trans h
theorem own_ne_blk {w : World} {B bs n : Nat} {e t : TypeId} {v : Value} {xs : List Value} {cs : Array Value} (h : w.ownsRow B e 1 v n xs) (hb : w.heap[bs]? = some (.cells cs t (0, 0))) (hne : e ≠ t) : v.ownBlock ≠ some bs := by
  rcases h.2 with ⟨rfl, _⟩ | ⟨g, cap, cur, rfl, _, hg, _⟩
  · simp [Value.ownBlock]
  · intro he
    have : g = bs := by simpa [Value.ownBlock] using he
    subst this
    rw [hg] at hb
    injection hb with hb
    injection hb with _ ht
    exact hne ht
theorem eqInts_same (A A' : Option Addr) (n c c' : Nat) (xs : List Int) (w : World) (hn : n = xs.length) (hsm : n ≤ 1099511627776) (hR : Rd w A (iv xs)) (hR' : Rd w A' (iv xs)) :
    Calls Tryz.prog 22 #[.slice A n c, .slice A' n c'] w fun e w' => e = .returned (.bool true) ∧ ∃ m, w.drewN m = w' := by
  have h := eqInts_any A A' n n c c' xs xs w hn hn hsm hsm hR hR'
  rwa [eqI_refl] at h

theorem eqIntsB_any (A A' : Option Addr) (n c c' : Nat) (xs : List Int) (w : World) (hn : n = xs.length) (hsm : n ≤ 1099511627776) (hR : Rd w A (iv xs)) (hR' : Rd w A' (iv xs)) :
    Calls Tryz.prog 22 #[.slice A n c, .slice A' n c'] w fun e w' => e = .returned (.bool true) ∧ Below w.heap.size w w' :=
  (eqInts_same A A' n c c' xs w hn hsm hR hR').mono fun _ _ ⟨he, m, hm⟩ => ⟨he, hm ▸ below_drewN (Below.refl _ _) m⟩
theorem eqRowsB_any (A A' : Option Addr) (n n' c c' : Nat) (L M : List Row) (w : World) (hn : n = L.length) (hn' : n' = M.length) (hsm : n ≤ 1099511627776) (hl : ∀ i, i < L.length → (rg L i).xs.length ≤ 1099511627776) (hd : dat M = dat L) (hR : RdR w A L) (hR' : RdR w A' M) :
    Calls Tryz.prog 36 #[.slice A n c, .slice A' n' c'] w fun e w' => e = .returned (.bool true) ∧ Below w.heap.size w w' :=
  (eqRows_any A A' n n' c c' L M w hn hn' hsm hl hd hR hR').mono fun _ _ ⟨he, m, hm⟩ => ⟨he, hm ▸ below_drewN (Below.refl _ _) m⟩
theorem tot_dat {L M : List Row} (h : dat M = dat L) : tot M = tot L := by
  have e : ∀ X : List Row, tot X = ((dat X).map List.length).sum := fun X => by simp [tot, dat, List.map_map, Function.comp_def]
  rw [e, e, h]
theorem tot_le {L : List Row} {k : Nat} (h : ∀ i, i < L.length → (rg L i).xs.length ≤ k) : tot L ≤ k * L.length := by
  have key : ∀ j, j ≤ L.length → tot (L.take j) ≤ k * j := by
    intro j
    induction j with
    | zero => intro _; simp [tot]
    | succ j ih =>
      intro hj
      rw [tot_succ (by omega)]
      have := ih (by omega)
      have := h j (by omega)
      rw [Nat.mul_succ]; omega
  have := key L.length (Nat.le_refl _)
  rwa [tot_all (Nat.le_refl _)] at this
theorem kb_add1 {a c : Int} {x : Nat} (h : 0 ≤ a ∧ a ≤ c) (hx : x ≤ 1048576) : 0 ≤ a + x ∧ a + x ≤ c + 1048576 := by omega
theorem kb_add2 {a c : Int} {x y : Nat} (h : 0 ≤ a ∧ a ≤ c) (hx : x ≤ 1048576) (hy : y ≤ 1048576) : 0 ≤ a + x + y ∧ a + x + y ≤ c + 2097152 := by omega
theorem rows_small {M : List Row} {r : List (List Int)} (hd : dat M = r) (h : r.length ≤ 1000 ∧ ∀ x ∈ r, x.length ≤ 1000) : M.length ≤ 1000 ∧ tot M ≤ 1000000 ∧ ∀ i, i < M.length → (rg M i).xs.length ≤ 1000 := by
  subst hd
  have h1 : M.length ≤ 1000 := by rw [← dat_length]; exact h.1
  have h2 : ∀ i, i < M.length → (rg M i).xs.length ≤ 1000 := fun i hi => h.2 _ (List.mem_map_of_mem (rg_mem hi))
  exact ⟨h1, Nat.le_trans (tot_le h2) (by omega), h2⟩

/-- A module's memory of the call's own. -/
structure OwnM (w : World) (B : Nat) (vd : Value) (xs : List Int) (va : Value) (L : List Row) : Prop where
  deg : w.ownsRow B 2 1 vd xs.length (iv xs)
  act : OwnR w B va L
  dis : ∀ i, i < L.length → vd.ownBlock = none ∨ vd.ownBlock ≠ (rg L i).val.ownBlock
def UpM (hi : Nat) (vd va : Value) (L : List Row) : Prop := (∀ k, vd.ownBlock = some k → k < hi) ∧ UpR hi va L
theorem OwnM.up {w : World} {B : Nat} {vd va : Value} {xs : List Int} {L : List Row} (h : OwnM w B vd xs va L) : UpM w.heap.size vd va L := ⟨fun k hk => (h.deg.lt k hk).2, h.act.up⟩
def modP (lo hi : Nat) (vd : Value) (xs : List Int) (va : Value) (L : List Row) : Piece :=
  ⟨lo, hi, fun w => OwnM w lo vd xs va L ∧ UpM hi vd va L, fun _ _ hs h => ⟨⟨own_same hs h.1.deg h.2.1, h.1.act.same hs h.2.2, h.1.dis⟩, h.2⟩⟩
section
variable {w0 w w' : World} {L : List Piece}
theorem Inw.mod (h : Inw w0 w L) (i : Nat) {lo hi : Nat} {vd va : Value} {xs : List Int} {M : List Row} (hi' : L[i]? = some (modP lo hi vd xs va M)) : OwnM w lo vd xs va M := (h.get i hi').1
theorem Inw.modUp (h : Inw w0 w L) (i : Nat) {lo hi : Nat} {vd va : Value} {xs : List Int} {M : List Row} (hi' : L[i]? = some (modP lo hi vd xs va M)) : UpM hi vd va M := (h.get i hi').2
theorem Inw.pushMod (h : Inw w0 w L) (hb : Below w.heap.size w w') {vd va : Value} {xs : List Int} {M : List Row} (ho : OwnM w' w.heap.size vd xs va M) : Inw w0 w' (modP w.heap.size w'.heap.size vd xs va M :: L) :=
  h.push hb _ (Nat.le_refl _) (Nat.le_refl _) ⟨ho, ho.up⟩
theorem Inw.markMod (h : Inw w0 w L) (i : Nat) {lo hi : Nat} {vd va : Value} {xs ys : List Int} {M : List Row} {k0 : Int} (hi' : L[i]? = some (modP lo hi vd xs va M)) (hk : Within lo hi w w') (ho : OwnM w' lo vd ys va (marksR k0 M)) : Inw w0 w' (L.set i (modP lo hi vd ys va (marksR k0 M))) := by
  have h1 := h.get i hi'
  exact h.mark i _ hi' rfl rfl hk ⟨ho, h1.2.1, h1.2.2.marks k0⟩
end

def SzMOk (n n' t : Nat) (left z : Int) : Prop := z = -1 ∨ (0 ≤ z ∧ z + n + n' + t = left)
set_option maxHeartbeats 1000000 in
theorem szModule_any (A A' : Option Addr) (n c n' c' : Nat) (L : List Row) (left : Int) (w : World) (hsm : n ≤ 9223372036854775807) (hn' : n' = L.length) (hsm' : n' ≤ 9223372036854775807) (hl : ∀ i, i < L.length → (rg L i).xs.length ≤ 9223372036854775807) (h0 : 0 ≤ left) (h1 : left ≤ 1048576) (hR : RdR w A' L) :
    Calls Tryz.prog 11 #[.agg #[.slice A n c, .slice A' n' c'], .int .i64 left] w fun e w' => ∃ z : Int, e = .returned (.int .i64 z) ∧ SzMOk n n' (tot L) left z ∧ Below w.heap.size w w' := by
  have hb := box2 w (.slice A n c) (.slice A' n' c') 25
  obtain ⟨b0, b1⟩ := hb
  have hR1 := hR.alloc (.cells #[.slice A n c, .slice A' n' c'] 25)
  have hs := fun W => szInts_any A n c left W hsm h0 h1
  by_cases h : left - n < 0
  · rw [show szV n left = -1 by unfold szV; rw [if_pos h]] at hs
    have HS := Lib.hid hs
    clear hs hR hR1 hl hn'
    go_enter Tryz.func11, Tryz.ntmps11
    go_wp2_with (go_at_call 44; refine (HS.out _).mono ?_; rintro e w' ⟨rfl, rfl⟩)
    go_ret
    exact ⟨-1, rfl, .inl rfl, (Below.refl _ _).alloc (Nat.le_refl _) _⟩
  · rw [show szV n left = left - n by unfold szV; rw [if_neg h]] at hs
    have HS := Lib.hid hs
    have HZ := Lib.hid (szRows_any A' n' c' L (left - n) _ hn' hsm' hl (by omega) (by omega) hR1)
    clear hs hR hR1 hl hn'
    go_enter Tryz.func11, Tryz.ntmps11
    go_wp2_with (go_at_call 44; refine (HS.out _).mono ?_; rintro e w' ⟨rfl, rfl⟩)
    refine HZ.out.mono ?_
    rintro e w' ⟨z, rfl, hz, rfl⟩
    rcases hz with rfl | ⟨hz0, hz1⟩
    · go_wp2_with fail
      go_ret
      exact ⟨-1, rfl, .inl rfl, (Below.refl _ _).alloc (Nat.le_refl _) _⟩
    · go_wp2_with fail
      go_ret
      exact ⟨z, rfl, .inr ⟨hz0, by omega⟩, (Below.refl _ _).alloc (Nat.le_refl _) _⟩

set_option maxRecDepth 100000 in
set_option maxHeartbeats 2000000 in
theorem toModule_any (A A' : Option Addr) (n c n' c' : Nat) (xs : List Int) (L : List Row) (w : World) (hn : n = xs.length) (hsm : n ≤ 1048576) (hR : Rd w A (iv xs)) (hn' : n' = L.length) (hsm' : n' ≤ 1048576) (hl : ∀ i, i < L.length → (rg L i).xs.length ≤ 1048576) (hR' : RdR w A' L) :
    Calls Tryz.prog 13 #[.agg #[.slice A n c, .slice A' n' c']] w fun e w' => ∃ g g' M, e = .returned (.agg #[.slice (some ⟨g, 0, none⟩) n n, .slice (some ⟨g', 0, none⟩) n' n']) ∧ dat M = dat L ∧ OwnM w' w.heap.size (.slice (some ⟨g, 0, none⟩) n n) xs (.slice (some ⟨g', 0, none⟩) n' n') M ∧ Below w.heap.size w w' := by
  have hk1 := blk_alloc (blk_alloc (blk_new w (.cells #[.slice A n c, .slice A' n' c'] 25)) (.cells #[.slice none 0 0, .slice none 0 0] 30)) (.cells #[.slice none 0 0, .slice none 0 0] 30)
  have hk2 := blk_alloc (blk_new1 w (.cells #[.slice A n c, .slice A' n' c'] 25) (.cells #[.slice none 0 0, .slice none 0 0] 30)) (.cells #[.slice none 0 0, .slice none 0 0] 30)
  have hk3 := blk_new2 w (.cells #[.slice A n c, .slice A' n' c'] 25) (.cells #[.slice none 0 0, .slice none 0 0] 30) (.cells #[.slice none 0 0, .slice none 0 0] 30)
  have hbel : Below w.heap.size w (((w.alloc (.cells #[.slice A n c, .slice A' n' c'] 25)).alloc (.cells #[.slice none 0 0, .slice none 0 0] 30)).alloc (.cells #[.slice none 0 0, .slice none 0 0] 30)) := (((Below.refl _ _).alloc (Nat.le_refl _) _).alloc (by simp) _).alloc (by simp; omega) _
  have HC1 := Lib.hid (toInts_any A n c xs _ hn hsm (hR.below hbel))
  have HK1 := Lib.hid hk1
  have HK2 := Lib.hid hk2
  have HK3 := Lib.hid hk3
  have HB := Lib.hid hbel
  have HC2 := Lib.hid (fun W (hb : Below w.heap.size w W) => toRows_any A' n' c' L W hn' hsm' hl (hR'.below hb))
  have HN := Lib.hid hn
  clear hk1 hk2 hk3 hbel hR hR' hn hn' hl
  go_enter Tryz.func13, Tryz.ntmps13
  go_wp2_with fail
  refine HC1.out.mono ?_
  rintro e w1 ⟨g, rfl, ho, hb⟩
  have HK1a := Lib.hid (blk_kept HK1.out hb)
  have HK2a := Lib.hid (blk_kept HK2.out hb)
  have HK3a := Lib.hid (blk_kept HK3.out hb)
  obtain ⟨x0, x1, xf0, xf1, lx⟩ := blk2cells HK1a.out
  obtain ⟨y0, y1, yf0, yf1, ly⟩ := blk2cells HK2a.out
  obtain ⟨z0, z1, zf0, zf1, lz⟩ := blk2cells HK3a.out
  have HB1 := Lib.hid (HB.out.trans (hb.mono HB.out.size))
  have HO1 := Lib.hid (ho.mono (show w.heap.size ≤ _ by simp; omega))
  clear ho hb
  go_wp2_with fail
  have HK1b := Lib.hid (blk_seto HK1a.out ⟨w.heap.size + 1 + 1, 0, none⟩ (by simp; omega) (.slice (some ⟨g, 0, none⟩) n n))
  have HK2b := Lib.hid (blk_seto HK2a.out ⟨w.heap.size + 1 + 1, 0, none⟩ (by simp) (.slice (some ⟨g, 0, none⟩) n n))
  have HK3b := Lib.hid (blk2set0' HK3a.out (.slice (some ⟨g, 0, none⟩) n n))
  have HB2 := Lib.hid (HB1.out.setCell (p := ⟨w.heap.size + 1 + 1, 0, none⟩) (by simp; omega) (.slice (some ⟨g, 0, none⟩) n n))
  have HO2 := Lib.hid (owns_keeps HO1.out ((Keeps.refl w1 [some (w.heap.size + 1 + 1)]).setCell (p := ⟨w.heap.size + 1 + 1, 0, none⟩) (by simp) (.slice (some ⟨g, 0, none⟩) n n)) (.inr (by have := own_ne_blk HO1.out HK3a.out (by decide); simpa using this)))
  have HC3 := Lib.hid (HC2.out _ HB2.out)
  clear HC2 HC1
  refine HC3.out.mono ?_
  clear x0 x1 xf0 xf1 lx y0 y1 yf0 yf1 ly z0 z1 zf0 zf1 lz HC3
  rintro e w2 ⟨g', M, rfl, hd, ho, hb⟩
  have HK1c := Lib.hid (blk_kept HK1b.out hb)
  have HK2c := Lib.hid (blk_kept HK2b.out hb)
  have HK3c := Lib.hid (blk_kept HK3b.out hb)
  obtain ⟨x0, x1, xf0, xf1, lx⟩ := blk2cells HK1c.out
  obtain ⟨y0, y1, yf0, yf1, ly⟩ := blk2cells HK2c.out
  obtain ⟨z0, z1, zf0, zf1, lz⟩ := blk2cells HK3c.out
  have HD := Lib.hid hd
  have HB3 := Lib.hid (HB2.out.trans (hb.mono HB2.out.size))
  have hdis : ∀ i, i < M.length → (Value.slice (some ⟨g, 0, none⟩) n n).ownBlock = none ∨ (Value.slice (some ⟨g, 0, none⟩) n n).ownBlock ≠ (rg M i).val.ownBlock := fun i hi => .inr (fun e => by
    have h1 := (HO2.out.lt g rfl).2
    have h2 := ((ho.inn i hi).lt g (by rw [← e]; rfl)).1
    omega)
  have HDI := Lib.hid hdis
  have HOR := Lib.hid (ho.mono HB2.out.size)
  have HO3 := Lib.hid (owns_keeps HO2.out (Keeps.of_below hb) (.inr (by simp)))
  clear ho hb hd hdis
  go_wp2_with fail
  have k : Keeps w2 (((w2.setCell ⟨w.heap.size + 1 + 1, 1, none⟩ (.slice (some ⟨g', 0, none⟩) n' n')).setCell ⟨w.heap.size + 1, 0, none⟩ (.slice (some ⟨g, 0, none⟩) n n)).setCell ⟨w.heap.size + 1, 1, none⟩ (.slice (some ⟨g', 0, none⟩) n' n')) [some (w.heap.size + 1), some (w.heap.size + 1 + 1)] :=
    (((Keeps.refl w2 [some (w.heap.size + 1), some (w.heap.size + 1 + 1)]).setCell (p := ⟨w.heap.size + 1 + 1, 1, none⟩) (by simp) _).setCell (p := ⟨w.heap.size + 1, 0, none⟩) (by simp) _).setCell (p := ⟨w.heap.size + 1, 1, none⟩) (by simp) _
  refine bodyPost_ret (v := .agg #[.slice (some ⟨g, 0, none⟩) n n, .slice (some ⟨g', 0, none⟩) n' n']) ?_ rfl ⟨g, g', M, rfl, HD.out, ⟨?_, ?_, HDI.out⟩, ?_⟩
  · simp [results, Tryz.results13, go_sem, y0, y1]
  · rw [← HN.out]
    exact owns_keeps HO3.out k (.inr (by have h1 := own_ne_blk HO3.out HK2c.out (by decide); have h2 := own_ne_blk HO3.out HK3c.out (by decide); simp only [List.mem_cons, List.not_mem_nil, or_false, not_or]; exact ⟨h1, h2⟩))
  · refine HOR.out.keeps k (.inr ?_) (fun i hi => .inr ?_)
    · have h1 := own_ne_blk HOR.out.out HK2c.out (by decide); have h2 := own_ne_blk HOR.out.out HK3c.out (by decide)
      simp only [List.mem_cons, List.not_mem_nil, or_false, not_or]; exact ⟨h1, h2⟩
    · have h1 := own_ne_blk (HOR.out.inn i hi) HK2c.out (by decide); have h2 := own_ne_blk (HOR.out.inn i hi) HK3c.out (by decide)
      simp only [List.mem_cons, List.not_mem_nil, or_false, not_or]; exact ⟨h1, h2⟩
  · exact ((HB3.out.setCell (p := ⟨w.heap.size + 1 + 1, 1, none⟩) (by simp; omega) _).setCell (p := ⟨w.heap.size + 1, 0, none⟩) (by simp) _).setCell (p := ⟨w.heap.size + 1, 1, none⟩) (by simp) _

set_option maxHeartbeats 1000000 in
theorem eqModule_any (A B A' B' : Option Addr) (n c d n' c' d' : Nat) (xs : List Int) (L M : List Row) (w : World) (hn : n = xs.length) (hsm : n ≤ 1048576) (hn' : n' = L.length) (hsm' : n' ≤ 1048576) (hl : ∀ i, i < L.length → (rg L i).xs.length ≤ 1048576) (hd : dat M = dat L) (hR : Rd w A (iv xs)) (hRb : Rd w B (iv xs)) (hR' : RdR w A' L) (hRb' : RdR w B' M) :
    Calls Tryz.prog 16 #[.agg #[.slice A n c, .slice A' n' c'], .agg #[.slice B n d, .slice B' n' d']] w fun e w' => e = .returned (.bool true) ∧ Below w.heap.size w w' := by
  have hk1 := blk_alloc (blk_new w (.cells #[.slice A n c, .slice A' n' c'] 30)) (.cells #[.slice B n d, .slice B' n' d'] 30)
  have hk2 := blk_new1 w (.cells #[.slice A n c, .slice A' n' c'] 30) (.cells #[.slice B n d, .slice B' n' d'] 30)
  have hbel : Below w.heap.size w ((w.alloc (.cells #[.slice A n c, .slice A' n' c'] 30)).alloc (.cells #[.slice B n d, .slice B' n' d'] 30)) := ((Below.refl _ _).alloc (Nat.le_refl _) _).alloc (by simp) _
  obtain ⟨x0, x1, _, _, _⟩ := blk2cells hk1
  obtain ⟨y0, y1, _, _, _⟩ := blk2cells hk2
  have HC := Lib.hid (eqInts_same A B n c d xs _ hn (by omega) (hR.below hbel) (hRb.below hbel))
  have HC2 := Lib.hid (fun m => eqRows_any A' B' n' n' c' d' L M _ hn' (by rw [hn', (dat_xs hd).1]) (by omega) (fun i hi => Nat.le_trans (hl i hi) (by omega)) hd ((hR'.below hbel).drewN m) ((hRb'.below hbel).drewN m))
  have HB := Lib.hid hbel
  clear hk1 hk2 hbel hn hn' hl hd hR hRb hR' hRb'
  go_enter Tryz.func16, Tryz.ntmps16
  go_wp2_with fail
  refine HC.out.mono ?_
  rintro e w1 ⟨rfl, m, rfl⟩
  go_wp2_with fail
  refine (HC2.out m).mono ?_
  rintro e w1 ⟨rfl, m', rfl⟩
  go_wp2_with fail
  go_ret
  exact ⟨rfl, below_drewN HB.out _⟩

set_option maxHeartbeats 1000000 in
theorem markModule_any (B hi : Nat) (vd va : Value) (xs : List Int) (L : List Row) (k0 : Int) (w : World) (hB : B ≤ w.heap.size) (hown : OwnM w B vd xs va L) (hu : UpM hi vd va L) (hsm : xs.length ≤ 1048576) (hsm' : L.length ≤ 1048576) (ht : tot L ≤ 1048576) (h0 : 0 ≤ k0) (h1 : k0 ≤ 900000000000) :
    Calls Tryz.prog 17 #[.agg #[vd, va], .int .i64 k0] w fun e w' => e = .returned (.int .i64 (k0 + xs.length + tot L)) ∧ OwnM w' B vd (marks k0 xs.length) va (marksR (k0 + xs.length) L) ∧ Within B hi w w' := by
  obtain ⟨A, c, rfl, _, _, _⟩ := owns_shape hown.deg
  obtain ⟨A', c', rfl, _, _, _⟩ := owns_shape hown.act.out
  have hm := markInts_any B _ xs.length xs k0 (w.alloc (.cells #[.slice A xs.length c, .slice A' L.length c'] 30)) (hown.deg.alloc _) (by omega) h0 (by omega)
  have hk := blk_new w (.cells #[.slice A xs.length c, .slice A' L.length c'] 30)
  have HM := Lib.hid hm
  have HK := Lib.hid hk
  have HO := Lib.hid hown
  have HU := Lib.hid hu
  clear hm hown hk hu
  go_enter Tryz.func17, Tryz.ntmps17
  go_wp2_with fail
  refine HM.out.mono ?_
  rintro e w1 ⟨rfl, ho, hk⟩
  have hne := own_ne_blk (HO.out.deg.alloc (.cells #[.slice A xs.length c, .slice A' L.length c'] 30)) HK.out (by decide)
  have hkb := (hk.block _ (Array.getElem?_eq_some_iff.1 HK.out).1 (by simpa using hne.symm)).trans HK.out
  have hor := (HO.out.act.later ((Below.refl _ _).alloc (Nat.le_refl _) (.cells #[.slice A xs.length c, .slice A' L.length c'] 30))).keeps hk (by
    have := own_ne2 HO.out.act.out HO.out.deg (by decide)
    simpa using this) (fun i hi' => by
    have := none_or_symm (HO.out.dis i hi')
    simpa using this)
  have HW1 := Lib.hid ((Within.of_below (lo := B) (hi := hi) ((Below.refl w.heap.size w).alloc (Nat.le_refl _) (.cells #[.slice A xs.length c, .slice A' L.length c'] 30))).trans (Within.of_keeps hk (fun k hk' => ⟨(HO.out.deg.lt k hk').1, HU.out.1 k hk'⟩)))
  have HC := Lib.hid (markRowsO_any B _ L (k0 + xs.length) w1 hor hsm' ht (by omega) (by omega))
  obtain ⟨x0, x1, _, _, _⟩ := blk2cells hkb
  have HO1 := Lib.hid ho
  have HOR := Lib.hid hor
  clear ho hk hne hkb hor
  go_wp2_with fail
  refine HC.out.mono ?_
  rintro e w2 ⟨rfl, ho, hw⟩
  have HW2 := Lib.hid (HW1.out.trans (hw.within HOR.out HU.out.2.2))
  have HOF : Hid (OwnM w2 B (.slice A xs.length c) (marks k0 xs.length) (.slice A' L.length c') (marksR (k0 + xs.length) L)) := by
    refine Lib.hid ⟨?_, ho, fun i hi => ?_⟩
    · rw [marks_length]; exact hw.own HO1.out HO.out.dis
    · rw [marksR_length] at hi
      rw [rg_marksR _ _ _ hi]
      have e : Row.val ⟨(rg L i).A, (rg L i).c, Go.Proofs.YtdkmdmpaflgfaaaGreatDoor.marks (k0 + xs.length + tot (L.take i)) (rg L i).xs.length⟩ = (rg L i).val := by simp [Row.val, marks_length]
      rw [e]; exact HO.out.dis i hi
  clear ho hw x0 x1
  go_wp2_with fail
  go_ret
  exact ⟨rfl, HOF.out, HW2.out⟩
end Go.Proofs.YtdkmdmpaflgfaaaGreatDoor

namespace Go.Proofs.YtdkmdmpaflgfaaaGreatDoor
open Go.RowKit

structure Cub where
  A : Option Addr
  c : Nat
  rows : List Row
def Cub.val (x : Cub) : Value := .slice x.A x.rows.length x.c
def cu0 : Cub := ⟨none, 0, []⟩
def cvs (L : List Cub) : List Value := L.map Cub.val
def cdat (L : List Cub) : List (List (List Int)) := L.map fun x => dat x.rows
def cg (L : List Cub) (k : Nat) : Cub := L.getD k cu0
theorem cvs_length (L : List Cub) : (cvs L).length = L.length := by simp [cvs]
theorem cdat_length (L : List Cub) : (cdat L).length = L.length := by simp [cdat]
theorem cg_of {L : List Cub} {k : Nat} (h : k < L.length) : cg L k = L[k] := by simp [cg, List.getD, h]
theorem cvs_get {L : List Cub} {k : Nat} (h : k < L.length) : (cvs L)[k]? = some (cg L k).val := by
  rw [cg_of h]; simp [cvs, h]
theorem cdat_getD (L : List Cub) (k : Nat) : (cdat L).getD k [] = dat (cg L k).rows := by
  simp only [cdat, cg, List.getD, List.getElem?_map]; cases L[k]? <;> rfl
theorem cdat_rows {L M : List Cub} (h : cdat M = cdat L) : M.length = L.length ∧ ∀ i, dat (cg M i).rows = dat (cg L i).rows := by
  refine ⟨by have := congrArg List.length h; simpa [cdat] using this, fun i => ?_⟩
  rw [← cdat_getD, ← cdat_getD, h]
/-- The slice at A reads as L. -/
structure RdC (w : World) (A : Option Addr) (L : List Cub) : Prop where
  out : Rd w A (cvs L)
  inn : ∀ i, i < L.length → RdR w (cg L i).A (cg L i).rows
section
variable {w w' : World} {A : Option Addr} {L : List Cub}
theorem RdC.at_ (h : RdC w A L) {k : Nat} (hk : k < L.length) :
    ∃ b o, A = some ⟨b, o, none⟩ ∧ w.cell? ⟨b, o + k, none⟩ = some (.slice (cg L k).A (cg L k).rows.length (cg L k).c) := by
  rcases h.out with h' | ⟨b, o, rfl, h'⟩
  · have := congrArg List.length h'; simp [cvs_length] at this; subst this; simp at hk
  · exact ⟨b, o, rfl, h' k _ (cvs_get hk)⟩
theorem RdC.below {B : Nat} (h : RdC w A L) (hb : Below B w w') (hB : w.heap.size ≤ B := by exact Nat.le_refl _) : RdC w' A L :=
  ⟨h.out.below hb hB, fun i hi => (h.inn i hi).below hb hB⟩
end

set_option maxRecDepth 100000 in
set_option maxHeartbeats 2000000 in
theorem eqCubs_any (A A' : Option Addr) (n c c' : Nat) (L M : List Cub) (w : World) (hn : n = L.length) (hsm : n ≤ 1048576) (hl : ∀ i, i < L.length → (cg L i).rows.length ≤ 1048576 ∧ ∀ j, j < (cg L i).rows.length → (rg (cg L i).rows j).xs.length ≤ 1048576) (hd : cdat M = cdat L) (hR : RdC w A L) (hR' : RdC w A' M) :
    Calls Tryz.prog 15 #[.slice A n c, .slice A' n c'] w fun e w' => e = .returned (.bool true) ∧ Below w.heap.size w w' := by
  have HR := Lib.hid hR
  have HR' := Lib.hid hR'
  have Hn := Lib.hid hn
  have HL := Lib.hid hl
  have HD := Lib.hid (cdat_rows hd)
  clear hn hl hd hR hR'
  go_enter Tryz.func15, Tryz.ntmps15
  go_wp2_with fail
  go_loopw [5] (fun s5 wr => ∃ j : Nat, j ≤ n ∧ s5 = .int .i64 j ∧ Below w.heap.size w wr) (fun s => fun _ => n - (intOf s).toNat)
  case atStart => exact ⟨0, by omega, rfl, Below.refl _ _⟩
  case round =>
    obtain ⟨j, hj, rfl, hbel⟩ := hrel
    have HB := Lib.hid hbel
    have hsz := hbel.size
    by_cases hlt : j < n
    · have hjL : j < L.length := by rw [← Hn.out]; exact hlt
      have hjM : j < M.length := by rw [HD.out.1]; exact hjL
      obtain ⟨b, o, rfl, hc⟩ := (HR.out.below hbel).at_ hjL
      obtain ⟨b', o', rfl, hc'⟩ := (HR'.out.below hbel).at_ hjM
      have h1 := (HR.out.below hbel).inn j hjL
      have h2 := (HR'.out.below hbel).inn j hjM
      have h3 := HD.out.2 j
      have h4 := HL.out j hjL
      generalize cg L j = x at *
      generalize cg M j = y at *
      have HE := Lib.hid (fun (W : World) (hb : Below wr.heap.size wr W) => eqRowsB_any x.A y.A x.rows.length y.rows.length x.c y.c x.rows y.rows W rfl rfl (by omega) (fun i hi => Nat.le_trans (h4.2 i hi) (by omega)) h3 (h1.below hb) (h2.below hb))
      have KS := Lib.hid (fun w' (hb : Below wr.heap.size wr w') => show w'.cell? ⟨b, o + j, none⟩ = some (.slice x.A x.rows.length x.c) ∧ w'.cell? ⟨b', o' + j, none⟩ = some (.slice y.A y.rows.length y.c) from ⟨cell_keep hc hb, cell_keep hc' hb⟩)
      have HB_0 := Lib.hid (Below.drew (Below.refl wr.heap.size wr))
      clear hbel h1 h2 h3 h4 hc hc'
      go_wp2_with fail
      go_region_held3 (fun w' => w'.cell? ⟨b, o + j, none⟩ = some (.slice x.A x.rows.length x.c) ∧ w'.cell? ⟨b', o' + j, none⟩ = some (.slice y.A y.rows.length y.c))
        (first | exact KS.out _ HB_0.out | exact KS.out _ HB_1.out)
        ((go_at_call 36; (with_reducible refine (HE.out _ HB_0.out).mono ?_); (rintro e w3 ⟨rfl, hb⟩; have HB_1 := Lib.hid (HB_0.out.trans (hb.mono HB_0.out.size)); clear hb)))
      go_wp2_with fail
      go_roundw
      case rel => exact ⟨j + 1, by omega, by go_num, HB.out.trans (HB_1.out.mono hsz)⟩
      case measure => simp [intOf]; omega
    · clear hbel
      go_wp2_with fail
      go_ret
      exact ⟨rfl, HB.out⟩
end Go.Proofs.YtdkmdmpaflgfaaaGreatDoor

namespace Go.Proofs.YtdkmdmpaflgfaaaGreatDoor
open Go.RowKit

def totC (L : List Cub) : Nat := (L.map fun x => tot x.rows).sum
theorem totC_succ {L : List Cub} {k : Nat} (h : k < L.length) : totC (L.take (k + 1)) = totC (L.take k) + tot (cg L k).rows := by
  rw [List.take_succ_eq_append_getElem h, cg_of h]; simp only [totC, List.map_append, List.sum_append, List.map_cons, List.map_nil, List.sum_cons, List.sum_nil, Nat.add_zero]
theorem totC_take_le (L : List Cub) (k : Nat) : totC (L.take k) ≤ totC L := by
  conv => rhs; rw [← List.take_append_drop k L]
  simp only [totC, List.map_append, List.sum_append]; omega
theorem totC_all {L : List Cub} {k : Nat} (h : L.length ≤ k) : totC (L.take k) = totC L := by rw [List.take_of_length_le h]
/-- all numbers marked, k0 and on -/
def marksC (k0 : Int) : List Cub → List Cub
  | [] => []
  | x :: L => ⟨x.A, x.c, marksR k0 x.rows⟩ :: marksC (k0 + tot x.rows) L
theorem marksC_length (L : List Cub) : ∀ k0, (marksC k0 L).length = L.length := by
  induction L with
  | nil => intro k0; rfl
  | cons x L ih => intro k0; simp [marksC, ih]
theorem cg_marksC (L : List Cub) : ∀ (k0 : Int) (i : Nat), i < L.length → cg (marksC k0 L) i = ⟨(cg L i).A, (cg L i).c, marksR (k0 + totC (L.take i)) (cg L i).rows⟩ := by
  induction L with
  | nil => intro k0 i hi; cases hi
  | cons x L ih =>
    intro k0 i hi
    cases i with
    | zero => simp [marksC, cg, totC]
    | succ i =>
      have h := ih (k0 + tot x.rows) i (by simpa using hi)
      have e1 : cg (marksC k0 (x :: L)) (i + 1) = cg (marksC (k0 + tot x.rows) L) i := by simp [cg, marksC, List.getD]
      have e2 : cg (x :: L) (i + 1) = cg L i := by simp [cg, List.getD]
      have e3 : k0 + (totC ((x :: L).take (i + 1)) : Int) = k0 + tot x.rows + totC (L.take i) := by simp [totC]; omega
      rw [e1, h, e2, e3]

set_option maxRecDepth 100000 in
set_option maxHeartbeats 2000000 in
theorem heldCubs_any (A : Option Addr) (n c : Nat) (L : List Cub) (k0 : Int) (w : World) (hn : n = L.length) (hR : RdC w A (marksC k0 L)) (hsm : n ≤ 1048576) (hl : ∀ i, i < L.length → (cg L i).rows.length ≤ 1048576) (ht : totC L ≤ 1048576) (h0 : 0 ≤ k0) (h1 : k0 ≤ 100000000000) :
    Calls Tryz.prog 19 #[.slice A n c, .int .i64 k0] w fun e w' => e = .returned (.int .i64 (k0 + totC L)) ∧ w = w' := by
  have HR := Lib.hid hR
  have Hn := Lib.hid hn
  have HL := Lib.hid hl
  have HT0 := Lib.hid (fun k => Nat.le_trans (totC_take_le L k) ht)
  clear hR hn hl
  go_enter Tryz.func19, Tryz.ntmps19
  go_wp2_with fail
  go_loop [1, 5] (fun q i => ∃ j t : Nat, j ≤ n ∧ i = .int .i64 j ∧ Hid (t = totC (L.take j)) ∧ t ≤ 1048576 ∧ q = .int .i64 (k0 + t)) (fun _ i => n - (intOf i).toNat)
  case atStart => exact ⟨0, 0, by omega, rfl, Lib.hid (by simp [totC]), by omega, by simp⟩
  case round =>
    obtain ⟨j, t, hj, rfl, HT, ht', rfl⟩ := hrel
    by_cases hlt : j < n
    · have hjL : j < L.length := by rw [← Hn.out]; exact hlt
      have hjM : j < (marksC k0 L).length := by rw [marksC_length]; exact hjL
      obtain ⟨b, o, rfl, hc⟩ := HR.out.at_ hjM
      have h2 := HR.out.inn j hjM
      rw [cg_marksC L k0 j hjL] at hc h2
      simp only [marksR_length] at hc h2
      have HS := Lib.hid (totC_succ hjL)
      have ht2 := HT0.out (j + 1)
      have hlen : tot (cg L j).rows + t ≤ 1048576 := by have h9 := HT.out; have h8 := HS.out; omega
      have hrl := HL.out j hjL
      rw [← HT.out] at h2
      generalize cg L j = x at *
      have HH := Lib.hid (fun W (hb : w = W) => heldRows_any x.A x.rows.length x.c x.rows (k0 + t) W rfl (hb ▸ h2) hrl (by omega) (by omega) (by omega))
      clear h2 ht2 hrl
      generalize tot x.rows = tx at *
      have hk0 : ¬ (k0 + (t : Int) + (tx : Int) < 0) := by omega
      go_wp2_with (go_at_call 38; refine (HH.out _ rfl).mono ?_; rintro e w' ⟨rfl, rfl⟩)
      go_round
      case rel => exact ⟨j + 1, t + tx, by omega, by go_num, Lib.hid (by rw [HS.out, HT.out]), by omega, by simp; omega⟩
      case measure => simp [intOf]; omega
    · have e2 : t = totC L := by rw [HT.out, totC_all (by rw [← Hn.out]; omega)]
      have HE := Lib.hid e2
      clear e2
      go_wp2_with fail
      go_ret
      exact ⟨by rw [← HE.out]; rfl, rfl⟩
end Go.Proofs.YtdkmdmpaflgfaaaGreatDoor
