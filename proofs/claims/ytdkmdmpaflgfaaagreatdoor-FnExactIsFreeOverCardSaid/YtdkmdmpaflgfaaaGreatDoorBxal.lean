/- the program: the order from the right, the greatest term, the word that leads · the reference: fill · the program: the leading word, the element of a word, the words of an element · the program: the element of a word; the words of an element · the reference: products of basis elements, of elements; the element of a word · the reference: products of elements; the element of a word · the reference: the element of a word -/
import Derived.Test.YtdkmdmpaflgfaaaGreatDoorBxak
import Derived.Test.YtdkmdmpaflgfaaaGreatDoorBxaf
import Derived.StillTailTactics
import Derived.Test.YtdkmdmpaflgfaaaGreatDoorBxag
set_option linter.all false
namespace Go.Proofs.YtdkmdmpaflgfaaaGreatDoor
open Go.RowKit

theorem own_nonnil {w : World} {B n : Nat} {e : TypeId} {A : Option Addr} {c : Nat} {xs : List Value} (h : w.ownsRow B e 1 (.slice A n c) n xs) (hn : 0 < n) : ∃ g, A = some ⟨g, 0, none⟩ ∧ B ≤ g ∧ g < w.heap.size := by
  obtain ⟨A', c', hv, _, hA, _⟩ := owns_shape h
  injection hv with e1 _ _
  subst e1
  exact hA hn

theorem reverse_any (B g cap n : Nat) (xs : List Int) (w : World) (hn : n = xs.length) (hsm : n ≤ 1000000) (ho : w.ownsRow B 2 1 (.slice (some ⟨g, 0, none⟩) n cap) n (iv xs)) :
    Calls Tryz.prog 176 #[.slice (some ⟨g, 0, none⟩) n cap] w fun e w' => e = .returned (.tuple #[]) ∧ w'.ownsRow B 2 1 (.slice (some ⟨g, 0, none⟩) n cap) n (iv xs.reverse) ∧ Keeps w w' [some g] := by
  subst hn
  have hH : Sort.Holds (Value.int .i64) w g 0 xs.toArray := by
    intro j hj
    have hj' : j < xs.length := by simpa using hj
    refine ⟨?_, by rw [Nat.zero_add]; exact ho.frozenAt j⟩
    have := owns_getD ho hj'
    rw [Nat.zero_add, this]
    congr 2
    rw [getElem!_pos _ j hj]
    simp [List.getD, hj']
  have h := AnyE.slices_Reverse Tryz.revI (Value.int .i64) (fun _ => rfl) g 0 cap xs w hH (by omega)
  change Calls Tryz.prog 176 _ _ _ at h
  refine h.mono ?_
  rintro e w' ⟨rfl, q, rfl⟩
  have e1 : Sort.putRow (Value.int .i64) (Sort.ahead w q) g 0 xs.reverse.toArray = sortWorld (Value.int .i64) w g 0 q xs.reverse.toArray #[] := (Sort.grow_empty _).symm
  rw [e1]
  refine ⟨rfl, ?_, keeps_sort _ _ _ _ _ _ _⟩
  have := sort_ownG (Value.int .i64) (q := q) (os := #[]) ho xs.reverse.toArray (by simp)
  simpa [iv] using this

set_option maxHeartbeats 1000000 in
theorem fromRight_any (A A' : Option Addr) (n n' c c' : Nat) (x y : List Int) (w : World) (hn : n = x.length) (hn' : n' = y.length) (hsm : n ≤ 1000000) (hsm' : n' ≤ 1000000) (hA : Rd w A (iv x)) (hA' : Rd w A' (iv y)) :
    Calls Tryz.prog 132 #[.slice A n c, .slice A' n' c'] w fun e w' => e = .returned (.int .i64 (frI x y)) ∧ Below w.heap.size w w' := by
  by_cases hnn : n = n'
  · have HF : Hid (frI x y = cmpL x.reverse y.reverse) := Lib.hid (by unfold frI; rw [if_pos (by omega)])
    have HC1 := Lib.hid (copyOf_any A n c (iv x) w (by rw [iv_length]; exact hn) (by omega) (iv_one _) hA)
    have HC2 := Lib.hid (fun W (hb : Below w.heap.size w W) => copyOf_any A' n' c' (iv y) W (by rw [iv_length]; exact hn') (by omega) (iv_one _) (hA'.below hb))
    have Hn := Lib.hid hn
    have Hn' := Lib.hid hn'
    have hnb : ((n : Int) != (n' : Int)) = false := by simp [hnn]
    clear hn hn' hA hA' hnn
    go_enter Tryz.func132, Tryz.ntmps132
    go_wp2_with fail
    refine HC1.out.mono ?_
    rintro e w1 ⟨g1, k1, rfl, ho1, hb1⟩
    have HO1 := Lib.hid ho1
    have HB1 := Lib.hid hb1
    clear ho1 hb1
    go_wp2_with fail
    refine (HC2.out _ HB1.out).mono ?_
    rintro e w2 ⟨g2, k2, rfl, ho2, hb2⟩
    have HO2 := Lib.hid ho2
    have HB2 := Lib.hid hb2
    have HO1b := Lib.hid (owns_keeps HO1.out (Keeps.of_below hb2) (.inr (by simp)))
    have hs1 := HB1.out.size
    have hs2 := hb2.size
    have hg1 := (HO1.out.lt g1 rfl)
    have hg2 := (ho2.lt g2 rfl)
    have HRV1 := Lib.hid (reverse_any w.heap.size g1 k1 n x w2 Hn.out hsm HO1b.out)
    clear ho2 hb2
    go_wp2_with fail
    refine HRV1.out.mono ?_
    rintro e w3 ⟨rfl, ho3, hk3⟩
    have HO3 := Lib.hid ho3
    have HK3 := Lib.hid hk3
    have HO2b := Lib.hid (owns_keeps HO2.out hk3 (.inr (by simp [Value.ownBlock]; omega)))
    have HRV2 := Lib.hid (reverse_any w1.heap.size g2 k2 n' y w3 Hn'.out hsm' HO2b.out)
    clear ho3 hk3
    go_wp2_with fail
    refine HRV2.out.mono ?_
    rintro e w4 ⟨rfl, ho4, hk4⟩
    have HO4 := Lib.hid ho4
    have HK4 := Lib.hid hk4
    have HO3b := Lib.hid (owns_keeps HO3.out hk4 (.inr (by simp [Value.ownBlock]; omega)))
    have HCM := Lib.hid (slCompare_any (some ⟨g1, 0, none⟩) (some ⟨g2, 0, none⟩) n n' k1 k2 x.reverse y.reverse w4 (by rw [List.length_reverse]; exact Hn.out) (by rw [List.length_reverse]; exact Hn'.out) (by omega) (by omega) (owns_Rd HO3b.out) (owns_Rd HO4.out))
    clear ho4 hk4
    go_wp2_with fail
    refine HCM.out.mono ?_
    rintro e w5 ⟨rfl, rfl⟩
    go_wp2_with fail
    go_ret
    refine ⟨by rw [HF.out]; rfl, (HB1.out.trans (HB2.out.mono hs1)).trans ?_⟩
    have k34 := (HK3.out.trans HK4.out (T := [some g1, some g2]) (fun j _ h => by simpa using h))
    exact k34.to_below (Nat.le_trans hs1 hs2) (fun j hj => by simp at hj; omega)
  · have HF : Hid (frI x y = (n : Int) - n') := Lib.hid (by unfold frI; rw [if_neg (by omega), hn, hn'])
    have hnb : ((n : Int) != (n' : Int)) = true := by simp; omega
    clear hn hn' hA hA' hnn
    go_enter Tryz.func132, Tryz.ntmps132
    go_wp2_with fail
    go_ret
    exact ⟨by rw [HF.out]; rfl, Below.refl _ _⟩

set_option maxHeartbeats 1000000 in
/-- the greatest of some lists of a degree -/
theorem maxFunc_any (d : Int) (hd : d ≤ 40) (A : Option Addr) (n c : Nat) (L : List Row) (w : World) (hn : n = L.length) (h0 : 0 < n) (hsm : n ≤ 1000000) (hE : ∀ t ∈ dat L, Ex d t) (hR : RdR w A L) :
    Calls Tryz.prog 131 #[.slice A n c, .func (.func 132) #[] #[]] w fun e w' => (∃ k, k < n ∧ e = .returned (.slice (rg L k).A (rg L k).xs.length (rg L k).c) ∧ ∀ t ∈ dat L, val t ≤ val (rg L k).xs) ∧ Below w.heap.size w w' := by
  have HR := Lib.hid hR
  have Hn := Lib.hid hn
  have HE : Hid (∀ k, k < L.length → Ex d (rg L k).xs) := Lib.hid (fun k hk => hE _ (List.mem_map.2 ⟨_, rg_mem hk, rfl⟩))
  have hc0 := hR.at_ (k := 0) (by omega)
  obtain ⟨b, o, rfl, hc0⟩ := hc0
  rw [Nat.add_zero] at hc0
  have h0i : ¬ (n : Int) < 1 := by omega
  have h0i2 : (0 : Int) < (n : Int) := by omega
  clear hn hE hR
  go_enter Tryz.func131, Tryz.ntmps131
  go_wp2_with fail
  go_loopw [5, 6] (fun v5 v6 wr => ∃ i k : Nat, 1 ≤ i ∧ i ≤ n ∧ k < i ∧ v6 = .int .i64 i ∧ v5 = .slice (rg L k).A (rg L k).xs.length (rg L k).c ∧ Hid (∀ j, j < i → val (rg L j).xs ≤ val (rg L k).xs) ∧ Below w.heap.size w wr) (fun _ v6 _ => n - (intOf v6).toNat)
  case atStart => exact ⟨1, 0, by omega, by omega, by omega, rfl, rfl, Lib.hid (fun j hj => by rw [Nat.lt_one_iff.1 hj]; exact Int.le_refl _), Below.refl _ _⟩
  case round =>
    obtain ⟨i, k, hi1, hin, hki, rfl, rfl, HM, hbel⟩ := hrel
    have HB := Lib.hid hbel
    have hs := hbel.size
    by_cases hlt : i < n
    · have hiL : i < L.length := by rw [← Hn.out]; exact hlt
      have hkL : k < L.length := by omega
      have hci := (HR.out.below hbel).cell hiL
      have hei := HE.out i hiL
      have hek := HE.out k hkL
      have hli := hei.len5 hd
      have hlk := hek.len5 hd
      have HFP := Lib.hid (frI_pos (by omega) hei hek)
      have HFR := Lib.hid (fromRight_any (rg L i).A (rg L k).A (rg L i).xs.length (rg L k).xs.length (rg L i).c (rg L k).c (rg L i).xs (rg L k).xs wr rfl rfl (by omega) (by omega) ((HR.out.below hbel).inn i hiL) ((HR.out.below hbel).inn k hkL))
      have hii : (i : Int) < (n : Int) := by omega
      clear hbel hiL hkL hei hek hli hlk
      by_cases hp : 0 < frI (rg L i).xs (rg L k).xs
      · have HP := Lib.hid (HFP.out.1 hp)
        have hci' := fun (W : World) (hb : Below wr.heap.size wr W) => cell_keep hci hb
        have HCI := Lib.hid hci'
        clear hci'
        generalize frI (rg L i).xs (rg L k).xs = f at *
        go_wp2_with fail
        refine HFR.out.mono ?_
        rintro e w2 ⟨rfl, hb⟩
        have hc2 := HCI.out w2 hb
        have HB2 := Lib.hid (HB.out.trans (hb.mono hs))
        clear hb hci
        go_wp2_with fail
        go_roundw
        case rel =>
          refine ⟨i + 1, i, by omega, by omega, by omega, by go_num, rfl, Lib.hid (fun j hj => ?_), HB2.out⟩
          by_cases e : j = i
          · subst e; exact Int.le_refl _
          · have := HM.out j (by omega); have := HP.out; omega
        case measure => simp [intOf]; omega
      · have HP : Hid (¬ val (rg L k).xs < val (rg L i).xs) := Lib.hid (fun h => hp (HFP.out.2 h))
        generalize frI (rg L i).xs (rg L k).xs = f at *
        go_wp2_with fail
        refine HFR.out.mono ?_
        rintro e w2 ⟨rfl, hb⟩
        have HB2 := Lib.hid (HB.out.trans (hb.mono hs))
        clear hb hci
        go_wp2_with fail
        go_roundw
        case rel =>
          refine ⟨i + 1, k, by omega, by omega, by omega, by go_num, rfl, Lib.hid (fun j hj => ?_), HB2.out⟩
          by_cases e : j = i
          · subst e; have := HP.out; omega
          · exact HM.out j (by omega)
        case measure => simp [intOf]; omega
    · obtain rfl : i = n := by omega
      have hii : ¬ (i : Int) < (i : Int) := by omega
      clear hbel
      go_wp2_with fail
      go_ret
      refine ⟨⟨k, hki, rfl, fun t ht => ?_⟩, HB.out⟩
      obtain ⟨r, hr, rfl⟩ := List.mem_map.1 ht
      obtain ⟨j, hj, rfl⟩ := List.mem_iff_getElem.1 hr
      have hnl := Hn.out
      have := HM.out j (by omega)
      rwa [rg_of hj] at this
end Go.Proofs.YtdkmdmpaflgfaaaGreatDoor

namespace Go.Proofs.YtdkmdmpaflgfaaaGreatDoor
open Go.RowKit

theorem fold_sub (Ls : LL) : ∀ (Q : LL) {z : List Int}, z ∈ Ls.foldl putR Q → z ∈ Q ∨ z ∈ Ls := by
  induction Ls with
  | nil => intro Q z h; exact .inl h
  | cons x Ls ih =>
    intro Q z h
    rcases ih _ h with h | h
    · rcases mem_putR_sub _ _ _ h with h | h
      · exact .inl h
      · exact .inr (by rw [h]; exact List.mem_cons_self ..)
    · exact .inr (List.mem_cons_of_mem _ h)
theorem tabL_set {r s : List Int} {C : LL} (h : C.length = r.length) {i j : Nat} (hi : i < r.length) (a b v : Int) :
    ((tabL r s C).set 0 ((0 :: s).set (j + 1) a)).set (i + 1) (((r.getD i 0 :: C.getD i []).set 0 b).set (j + 1) v) = tabL (r.set i b) (s.set j a) (C.set i ((C.getD i []).set j v)) := by
  simp only [tabL, List.set_cons_zero, List.set_cons_succ]
  congr 1
  apply List.ext_getElem
  · simp
  · intro k h1 h2
    simp only [List.getElem_set, List.getElem_zipWith]
    by_cases e : i = k
    · simp [e]
    · simp [e]
theorem tab_head {r s : List Int} {C : LL} : (tabL r s C).getD 0 [] = 0 :: s := by simp [tabL]
theorem tab_row {r s : List Int} {C : LL} (h : C.length = r.length) {i : Nat} (hi : i < r.length) : (tabL r s C).getD (i + 1) [] = r.getD i 0 :: C.getD i [] := by
  simp [tabL, List.getD, List.getElem?_zipWith, hi, h]
theorem rows_len {r s : List Int} {C : LL} (hl : C.length = r.length) (hC : ∀ k, k < C.length → (C.getD k []).length = s.length) (i j : Nat) (a b v : Int) : (C.set i ((C.getD i []).set j v)).length = (r.set i b).length ∧ ∀ k, k < (C.set i ((C.getD i []).set j v)).length → ((C.set i ((C.getD i []).set j v)).getD k []).length = (s.set j a).length := by
  refine ⟨by simp [hl], fun k hk => ?_⟩
  rw [List.length_set] at hk
  rw [getD_setL, List.length_set]
  split
  · rename_i e; rw [List.length_set, hC i (by omega)]
  · exact hC k hk
theorem BdT.step {N : Int} {r s : List Int} {C : LL} (h : BdT N r s C) {i j : Nat} {a b v : Int} (ha : 0 ≤ a ∧ a ≤ N) (hb : 0 ≤ b ∧ b ≤ N) (hv : 0 ≤ v ∧ v ≤ N) : BdT N (r.set i b) (s.set j a) (C.set i ((C.getD i []).set j v)) := by
  refine ⟨fun k => ?_, fun k => ?_, fun p q => ?_⟩
  · rw [getD_setI]; split
    · exact hb
    · exact h.r k
  · rw [getD_setI]; split
    · exact ha
    · exact h.s k
  · rw [getD_setL]; split
    · rw [getD_setI]; split
      · exact hv
      · exact h.c _ _
    · exact h.c _ _

/-- what a fill from a place on gives -/
def FillR (Q : LL) (O : List Row) (w : World) (e : Ending) (w' : World) : Prop := RdRes (Q.foldl putR (dat O)) w e w'

set_option maxRecDepth 100000 in
set_option maxHeartbeats 2000000 in
theorem fill_endS (A A' : Option Addr) (n c n' c' : Nat) (L O : List Row) (r s : List Int) (C : LL) (X Y : Int) (w : World) (hn : n = L.length) (hD : dat L = tabL r s C) (hl : C.length = r.length) (hC : ∀ k, k < C.length → (C.getD k []).length = s.length) (hmb : r.length ≤ 10) (hnb : s.length ≤ 10) (hb : BdT 100000 r s C)
    (hn' : n' = O.length) (hcap : n' ≤ c') (hO : O.length ≤ 500000000000) (hOl : ∀ t ∈ dat O, t.length ≤ 1000) (hX : X = (r.length : Int) + 1) (hR : RdR w A L) (hR' : RdR w A' O) :
    Calls Tryz.prog 258 #[.slice A n c, .int .i64 X, .int .i64 Y, .slice A' n' c'] w (FillR (resT r s C) O w) := by
  have hnr : n = r.length + 1 := by rw [hn, ← dat_length, hD, tabL_length hl]
  have HRE := Lib.hid (l04Result_any A n c L r s C w hn hD hl hC (by omega) (by omega) (fun a b => by have := hb.ent (by omega) a b; omega) hR)
  have HRo := Lib.hid hR'
  have HTL : Hid ((trimL (totT r s C)).length ≤ 20) := Lib.hid (by have := trimL_len (totT r s C); rw [totT_length] at this; omega)
  have HN := Lib.hid hn'
  have HOL : Hid (∀ i, i < O.length → (rg O i).xs.length ≤ 1000000) := Lib.hid (fun i hi => by have := hOl _ (List.mem_map.2 ⟨_, rg_mem hi, rfl⟩); omega)
  have HRT : Hid (resT r s C = if okT r s C = true then [trimL (totT r s C)] else []) := Lib.hid rfl
  subst hX
  clear hn hD hl hC hb hR hR' hn' hOl
  subst hnr
  generalize r.length = R at *
  generalize totT r s C = T at *
  generalize trimL T = T1 at *
  go_enter Tryz.func258, Tryz.ntmps258
  go_wp2_with fail
  refine HRE.out.mono ?_
  rintro e w1 ⟨⟨hok, g, cg, rfl, ho⟩ | ⟨hok, rfl⟩, hb⟩
  · have HP := Lib.hid (l01Put_any A' (some ⟨g, 0, none⟩) n' c' T1.length cg O T1 w1 HN.out (by omega) (by have := HN.out; omega) HOL.out rfl (by have := HTL.out; omega) (HRo.out.below hb) (owns_Rd ho))
    have HRT2 : Hid (resT r s C = [T1]) := Lib.hid (by rw [HRT.out, if_pos hok])
    have HB := Lib.hid hb
    clear ho hb hok
    go_wp2_with fail
    refine HP.out.mono ?_
    rintro e w2 ⟨A2, c2, M, rfl, hd, hr, hc, hb⟩
    have HD2 := Lib.hid hd
    have HR2 := Lib.hid hr
    have HB2 := Lib.hid (HB.out.trans (hb.mono HB.out.size))
    have HC2 := Lib.hid hc
    clear hd hr hb hc
    go_wp2_with fail
    go_ret
    exact ⟨A2, c2, M, rfl, by rw [HD2.out, HRT2.out]; rfl, HR2.out, HC2.out, HB2.out⟩
  · have HRT2 : Hid (resT r s C = []) := Lib.hid (by rw [HRT.out, if_neg (by rw [hok]; decide)])
    have HB := Lib.hid hb
    clear hb hok
    go_wp2_with fail
    go_ret
    exact ⟨A', c', O, by rw [HN.out]; rfl, by rw [HRT2.out]; rfl, HRo.out.below HB.out, by rw [← HN.out]; exact hcap, HB.out⟩
theorem OwnR.store {w : World} {B n c k m : Nat} {A : Option Addr} {L : List Row} {j : Nat} (h : OwnR w B (.slice A n c) L) (hj : j < L.length) (hk : (rg L j).A = some ⟨k, 0, none⟩) (x : Int) : OwnR (w.setCell ⟨k, m, none⟩ (.int .i64 x)) B (.slice A n c) (L.set j ⟨(rg L j).A, (rg L j).c, (rg L j).xs.set m x⟩) := by
  have hown := h.inn j hj
  have hv : (rg L j).val = .slice (some ⟨k, 0, none⟩) (rg L j).xs.length (rg L j).c := by unfold Row.val; rw [hk]
  refine h.inset hj (by simp) ((Keeps.refl w _).setCell (by rw [hv]; simp [Value.ownBlock]) _) ?_
  rw [hv] at hown ⊢
  have := (World.ownsRow.stored hown m (.int .i64 x)).1
  rw [show (iv (rg L j).xs).set m (.int .i64 x) = iv ((rg L j).xs.set m x) from by simp [iv, List.map_set]] at this
  exact this
theorem rg_setT {L : List Row} {i j : Nat} {R : Row} (hi : i < L.length) : rg (L.set i R) j = if i = j then R else rg L j := by
  unfold rg List.getD
  rw [List.getElem?_set]
  by_cases h : i = j
  · subst h; simp [hi]
  · simp [h]
theorem OwnR.store' {w : World} {B n c k m : Nat} {A : Option Addr} {L : List Row} {j : Nat} (h : OwnR w B (.slice A n c) L) (hj : j < L.length) (hk : (rg L j).A = some ⟨k, 0, none⟩) (x : Int) :
    ∃ R, R.length = L.length ∧ dat R = (dat L).set j ((rg L j).xs.set m x) ∧ OwnR (w.setCell ⟨k, m, none⟩ (.int .i64 x)) B (.slice A n c) R ∧ (∀ i, (rg R i).A = (rg L i).A ∧ (rg R i).c = (rg L i).c) ∧ (∀ i, i ≠ j → (rg R i).xs = (rg L i).xs) ∧ (rg R j).xs = (rg L j).xs.set m x := by
  refine ⟨_, by rw [List.length_set], dat_set _ _ _, h.store (m := m) hj hk x, fun i => ?_, fun i hi => ?_, ?_⟩
  · rw [rg_setT hj]; split
    · rename_i e; subst e; exact ⟨rfl, rfl⟩
    · exact ⟨rfl, rfl⟩
  · rw [rg_setT hj, if_neg (fun e => hi e.symm)]
  · rw [rg_setT hj, if_pos rfl]
/-- the outer cell and the inner cells of an own row of rows -/
theorem OwnR.look {w : World} {B n c j m : Nat} {A : Option Addr} {L : List Row} (h : OwnR w B (.slice A n c) L) (hn : n = L.length) (hj : j < L.length) (hm : m < (rg L j).xs.length) :
    ∃ g k, A = some ⟨g, 0, none⟩ ∧ (rg L j).A = some ⟨k, 0, none⟩ ∧ w.cell? ⟨g, j, none⟩ = some (.slice (some ⟨k, 0, none⟩) (rg L j).xs.length (rg L j).c) ∧ w.cell? ⟨k, m, none⟩ = some (.int .i64 ((rg L j).xs.getD m 0)) ∧ w.frozen? ⟨k, m, none⟩ = false := by
  subst hn
  obtain ⟨k, h1, h2, h3⟩ := own_at (h.inn j hj) hm
  obtain ⟨g, rfl, _⟩ := own_nonnil h.out (by omega)
  refine ⟨g, k, rfl, h1, ?_, h2, h3⟩
  rw [h.out.cellAt j (by omega), hv_get hj]
  simp [Row.val, h1]
theorem foldl_flat_succ (f : Nat → LL) (Q : LL) (x : Nat) : ((List.range (x + 1)).flatMap f).foldl putR Q = (f x).foldl putR (((List.range x).flatMap f).foldl putR Q) := by
  rw [flat_range_succ, List.foldl_append]

set_option maxRecDepth 100000 in
set_option maxHeartbeats 8000000 in
theorem l04Fill_any : ∀ (mu : Nat) (q : Nat) (A A' : Option Addr) (n c n' c' : Nat) (L O : List Row) (r s : List Int) (C : LL) (i j : Nat) (X Y : Int) (w : World), mu = (r.length - i) * (s.length + 1) + (s.length - j) → n = L.length → dat L = tabL r s C → C.length = r.length → (∀ k, k < C.length → (C.getD k []).length = s.length) → r.length ≤ 10 → s.length ≤ 10 → BdT 100000 r s C →
    n' = O.length → n' ≤ c' → O.length + (fillE q r s C).length ≤ 500000000000 → (∀ t ∈ dat O, t.length ≤ 1000) → X = (i : Int) + 1 → Y = (j : Int) + 1 → i ≤ r.length → j ≤ s.length → i * s.length + j + q = r.length * s.length → RdR w A L → RdR w A' O →
    Calls Tryz.prog 258 #[.slice A n c, .int .i64 X, .int .i64 Y, .slice A' n' c'] w (FillR (fillE q r s C) O w) := by
  intro mu
  induction mu using Nat.strongRecOn with
  | ind mu ih =>
    intro q A A' n c n' c' L O r s C i j X Y w hmu hn hD hl hC hmb hnb hb hn' hcap hO hOl hX hY hi hj hq hR hR'
    by_cases hiR : i = r.length
    · subst hiR
      have hj0 : j = 0 ∧ q = 0 := by omega
      obtain ⟨rfl, rfl⟩ := hj0
      exact fill_endS A A' n c n' c' L O r s C X Y w hn hD hl hC hmb hnb hb hn' hcap (by omega) hOl hX hR hR'
    · have hi' : i < r.length := by omega
      have hnr : n = r.length + 1 := by rw [hn, ← dat_length, hD, tabL_length hl]
      obtain ⟨b, o, rA0, rc0, rfl, h00, hrow0⟩ := tab_at hR hD hl hC (i := 0) (by omega)
      rw [Nat.add_zero] at h00
      by_cases hjS : j = s.length
      · have HIH := Lib.hid (ih ((r.length - (i + 1)) * (s.length + 1) + (s.length - 0)) (by
            rw [hmu, hjS]
            have : (r.length - i) * (s.length + 1) = (r.length - (i + 1)) * (s.length + 1) + (s.length + 1) := by
              rw [show r.length - i = (r.length - (i + 1)) + 1 from by omega, Nat.succ_mul]
            omega) q (some ⟨b, o, none⟩) A' n c n' c' L O r s C (i + 1) 0 (X + 1) 1 w rfl hn hD hl hC hmb hnb hb hn' hcap hO hOl (by rw [hX]; omega) (by rfl) (by omega) (by omega) (by rw [Nat.succ_mul]; omega) hR hR')
        subst hX hY hjS hnr
        have hiI : (i : Int) < (r.length : Int) := by omega
        clear ih hmu hn hD hl hC hb hn' hOl hR hR' hq hrow0 hO
        generalize r.length = R at *
        generalize s.length = S at *
        have hne : ((i : Int) == (R : Int)) = false := by simp; omega
        have hiR10 : (R : Int) ≤ 10 := by omega
        go_enter Tryz.func258, Tryz.ntmps258
        go_wp2_with fail
        refine HIH.out.mono ?_
        rintro e w2 ⟨A2, c2, M, rfl, hd, hr, hc, hb⟩
        have HD2 := Lib.hid hd
        have HR2 := Lib.hid hr
        have HB2 := Lib.hid hb
        have HC2 := Lib.hid hc
        clear hd hr hb hc
        go_wp2_with fail
        go_ret
        exact ⟨A2, c2, M, rfl, HD2.out, HR2.out, HC2.out, HB2.out⟩
      · have hj' : j < s.length := by omega
        obtain ⟨q', rfl⟩ : ∃ q', q = q' + 1 := ⟨q - 1, by
          rcases Nat.eq_zero_or_pos q with h | h
          · exfalso
            rw [h] at hq
            have := Nat.mul_le_mul_right s.length (show i + 1 ≤ r.length by omega)
            rw [Nat.succ_mul] at this
            omega
          · omega⟩
        have hb1 := hb.r i
        have hb2 := hb.s j
        obtain ⟨p1, p2, _⟩ := pow_step (j := j) (by omega)
        have hdq : 0 ≤ r.getD i 0 / 2 ^ (j + 1) := Int.ediv_nonneg hb1.1 (Int.le_of_lt p1)
        obtain ⟨MM, hMM⟩ : ∃ MM : Nat, MM = mostT r s i j := ⟨_, rfl⟩
        have hMi : (MM : Int) = min (r.getD i 0 / 2 ^ (j + 1)) (s.getD j 0) := by
          rw [hMM]; unfold mostT; omega
        have hMle : (MM : Int) ≤ r.getD i 0 := by
          have := Int.ediv_le_self (2 ^ (j + 1)) hb1.1
          omega
        have HVP : Hid (∀ v : Nat, (v : Int) * 2 ^ (j + 1) ≤ r.getD i 0 ↔ (v : Int) ≤ r.getD i 0 / 2 ^ (j + 1)) := Lib.hid (fun v => (Int.le_ediv_iff_mul_le p1).symm)
        rw [fillE_succ hj' (by omega), ← hMM] at hO ⊢
        have HIH : Hid (∀ (v : Nat) (A1 A3 : Option Addr) (c1 c3 : Nat) (R3 M : List Row) (w4 : World), v ≤ MM → n = R3.length → dat R3 = tabL (r.set i (r.getD i 0 - 2 ^ (j + 1) * v)) (s.set j (s.getD j 0 - v)) (C.set i ((C.getD i []).set j (v : Int))) → M.length ≤ c3 → M.length ≤ O.length + ((List.range v).flatMap (stepF q' r s C i j)).length → (∀ t ∈ dat M, t.length ≤ 1000) → RdR w4 A1 R3 → RdR w4 A3 M →
            Calls Tryz.prog 258 #[.slice A1 n c1, .int .i64 ((i : Int) + 1), .int .i64 ((j : Int) + 1 + 1), .slice A3 M.length c3] w4 (FillR (stepF q' r s C i j v) M w4)) := Lib.hid (fun v A1 A3 c1 c3 R3 M w4 hv hn3 hd3 hc3 hM3 ht3 hr1 hr3 => by
          obtain ⟨e1, e2⟩ := rows_len hl hC i j (s.getD j 0 - v) (r.getD i 0 - 2 ^ (j + 1) * v) v
          have hvp := (HVP.out v).2 (by omega)
          have hvc : (2 : Int) ^ (j + 1) * v = v * 2 ^ (j + 1) := Int.mul_comm _ _
          have hv0 : 0 ≤ (v : Int) * 2 ^ (j + 1) := Int.mul_nonneg (by omega) (Int.le_of_lt p1)
          have h := ih ((r.length - i) * (s.length + 1) + (s.length - (j + 1))) (by rw [hmu]; omega) q' A1 A3 n c1 M.length c3 R3 M _ _ _ i (j + 1) ((i : Int) + 1) ((j : Int) + 1 + 1) w4 (by simp) hn3 hd3 e1 e2 (by simpa using hmb) (by simpa using hnb) (hb.step (by omega) (by omega) (by omega)) rfl hc3 (by
              have h1 := flat_range_le (stepF q' r s C i j) (show v + 1 ≤ MM + 1 by omega)
              rw [flat_range_succ, List.length_append] at h1
              show M.length + (stepF q' r s C i j v).length ≤ _
              omega) ht3 rfl (by omega) (by simpa using hi) (by rw [List.length_set]; exact hj') (by simp only [List.length_set]; omega) hr1 hr3
          exact h)
        have HML := Lib.hid (fun v (h : v ≤ MM + 1) => flat_range_le (stepF q' r s C i j) h)
        have HFS := Lib.hid (fun v => foldl_flat_succ (stepF q' r s C i j) (dat O) v)
        have HFL : Hid (∀ v, ∀ t ∈ ((List.range v).flatMap (stepF q' r s C i j)).foldl putR (dat O), t.length ≤ 1000) := Lib.hid (fun v t ht => by
          rcases fold_sub _ _ ht with h | h
          · exact hOl t h
          · obtain ⟨x, _, h⟩ := List.mem_flatMap.1 h
            have := fillE_len _ _ _ _ _ h
            simp only [List.length_set] at this
            omega)
        have HFN : Hid (∀ v, (((List.range v).flatMap (stepF q' r s C i j)).foldl putR (dat O)).length ≤ O.length + ((List.range v).flatMap (stepF q' r s C i j)).length) := Lib.hid (fun v => by
          have := foldl_len ((List.range v).flatMap (stepF q' r s C i j)) (dat O)
          rwa [dat_length] at this)
        have HX := Lib.hid (tab_at hR hD hl hC (i := i + 1) (by omega))
        have HR0 := Lib.hid hrow0
        have HE0 : Hid (entT r s C 0 (j + 1) = s.getD j 0) := Lib.hid (by simp [entT])
        have HE1 : Hid (entT r s C (i + 1) 0 = r.getD i 0) := Lib.hid (by simp [entT])
        have HTS := Lib.hid (tabL_set (s := s) hl (j := j) hi' )
        have HTH : Hid ((dat L).getD 0 [] = 0 :: s) := Lib.hid (by rw [hD, tab_head])
        have HTR : Hid ((dat L).getD (i + 1) [] = r.getD i 0 :: C.getD i []) := Lib.hid (by rw [hD, tab_row hl hi'])
        have HDL := Lib.hid hD
        have HLR := Lib.hid hR
        have HOR := Lib.hid hR'
        have HN' := Lib.hid hn'
        have HLL := Lib.hid hn
        have HCL : Hid ((C.getD i []).length = s.length) := Lib.hid (hC i (by omega))
        have HRL : Hid (∀ k, k < L.length → (rg L k).xs.length ≤ 1048576) := Lib.hid (fun k hk => by
          have : (rg L k).xs = (tabL r s C).getD k [] := by rw [← hD, dat_getD]
          rw [this, tabL_row hl hC (by omega)]; omega)
        generalize hri : r.getD i 0 = ri at *
        generalize hsj : s.getD j 0 = sj at *
        have HSJ := Lib.hid hsj
        subst hX hY
        have hn10 : n ≤ 11 := by omega
        have hne1 : ((i : Int) + 1 == (n : Int)) = false := by simp; omega
        have hne2 : ((j : Int) + 1 == ((s.length : Nat) : Int) + 1) = false := by simp; omega
        clear ih hmu hn hD hl hC hb hn' hOl hR hR' hq hrow0 hMM hri hsj
        generalize hS : s.length = S at *
        generalize hRl : r.length = R at *
        have HSL := Lib.hid hS
        clear hS hRl
        have hiI : (i : Int) + 1 < (n : Int) := by omega
        have hjI : (j : Int) + 1 < (S : Int) + 1 := by omega
        have HNR := Lib.hid hnr
        clear hnr
        go_enter Tryz.func258, Tryz.ntmps258
        go_wp2_with fail
        go_loopw [3, 11] (fun v3 v11 wr => ∃ v : Nat, ∃ A3 c3, ∃ M : List Row, v ≤ MM + 1 ∧ v11 = .int .i64 v ∧ v3 = .slice A3 M.length c3 ∧ RdR wr A3 M ∧ M.length ≤ c3 ∧ Hid (dat M = ((List.range v).flatMap (stepF q' r s C i j)).foldl putR (dat O)) ∧ Below w.heap.size w wr) (fun _ v11 _ => MM + 1 - (intOf v11).toNat)
        case atStart => exact ⟨0, A', c', O, by omega, rfl, by rw [HN'.out], HOR.out, by rw [← HN'.out]; exact hcap, Lib.hid rfl, Below.refl _ _⟩
        case round =>
          obtain ⟨v, A3, c3, M, hv, rfl, rfl, hrd, hcap3, HM, hbel⟩ := hrel
          have HB := Lib.hid hbel
          have HRD := Lib.hid hrd
          have hsz := hbel.size
          obtain ⟨b9, o9, rAx, rcx, e9, hcx, hrowx⟩ := HX.out
          obtain ⟨rfl, rfl⟩ : b = b9 ∧ o = o9 := by
            injection e9 with e; injection e with e1 e2; exact ⟨e1, e2⟩
          obtain ⟨b0, o0, rfl, hc0j⟩ := HR0.out wr hbel (j + 1) (by omega)
          obtain ⟨bx, ox, rfl, hcx0⟩ := hrowx wr hbel 0 (by omega)
          rw [HE0.out] at hc0j
          rw [HE1.out, Nat.add_zero] at hcx0
          have h00' := cell_keep h00 hbel
          have hcx' := cell_keep hcx hbel
          have hvp := HVP.out v
          have hv0 : 0 ≤ (v : Int) * 2 ^ (j + 1) := Int.mul_nonneg (by omega) (Int.le_of_lt p1)
          have hti : ((i : Int) + 1).toNat = i + 1 := by omega
          have htj : ((j : Int) + 1).toNat = j + 1 := by omega
          have hi0 : 0 ≤ (i : Int) + 1 := by omega
          have hj0 : 0 ≤ (j : Int) + 1 := by omega
          have hM3 := HFN.out v
          rw [← HM.out, dat_length] at hM3
          have hM4 := HFL.out v
          rw [← HM.out] at hM4
          clear e9 hrd
          by_cases hvM : v ≤ MM
          · have hv1 : (v : Int) ≤ sj := by omega
            have hv2 : (v : Int) * 2 ^ (j + 1) ≤ ri := hvp.2 (by omega)
            have HOW := Lib.hid (l01Own2_any (some ⟨b, o, none⟩) n c L wr HLL.out (by omega) HRL.out (HLR.out.below hbel))
            clear hbel hvp
            go_wp2_with fail
            refine HOW.out.mono ?_
            rintro e w1 ⟨A1, c1, R1, rfl, hl1, hd1, ho1, hb1'⟩
            have HD1 := Lib.hid hd1
            have HO1 := Lib.hid ho1
            have HB1 := Lib.hid (HB.out.trans (hb1'.mono hsz))
            have HRD1 := Lib.hid (HRD.out.below hb1')
            have HBR1 := Lib.hid hb1'
            have hnr := HNR.out
            have h0R : 0 < R1.length := by omega
            have hxR : i + 1 < R1.length := by omega
            have hx0 : (rg R1 0).xs = 0 :: s := by rw [← dat_getD, hd1, HTH.out]
            have hxx : (rg R1 (i + 1)).xs = ri :: C.getD i [] := by rw [← dat_getD, hd1, HTR.out]
            have hxl0 : (rg R1 0).xs.length = S + 1 := by rw [hx0, List.length_cons, HSL.out]
            have hxlx : (rg R1 (i + 1)).xs.length = S + 1 := by rw [hxx, List.length_cons, HCL.out]
            obtain ⟨g1, k0, rfl, hA0, d00, d0j, f0j⟩ := OwnR.look (m := j + 1) ho1 hl1.symm h0R (by rw [hxl0]; omega)
            obtain ⟨g1', kx, e9, hAx, dx0, _, _⟩ := OwnR.look (m := 0) ho1 hl1.symm hxR (by rw [hxlx]; omega)
            obtain rfl : g1 = g1' := by injection e9 with e; injection e with e1
            rw [hxl0] at d00
            rw [hxlx] at dx0
            rw [hx0, List.getD_cons_succ, HSJ.out] at d0j
            have hk0 : wr.heap.size ≤ k0 := ((ho1.inn 0 h0R).lt k0 (by unfold Row.val; rw [hA0]; rfl)).1
            have hkx : wr.heap.size ≤ kx := ((ho1.inn (i + 1) hxR).lt kx (by unfold Row.val; rw [hAx]; rfl)).1
            have hne0 : k0 ≠ g1 := by
              intro e
              have := ho1.oi h0R
              rw [show (rg R1 0).val.ownBlock = some k0 from by unfold Row.val; rw [hA0]; rfl] at this
              subst e
              rcases this with h | h
              · cases h
              · exact h rfl
            have HXL0 := Lib.hid hxl0
            have HXLX := Lib.hid hxlx
            have HA0 := Lib.hid hA0
            have HAX := Lib.hid hAx
            have HL1 := Lib.hid hl1
            have HX0 := Lib.hid hx0
            have HXX := Lib.hid hxx
            have HNE0 := Lib.hid hne0
            clear e9 hb1' ho1 hd1 hx0 hxx hxl0 hxlx hA0 hAx hl1 hne0 hnr
            go_upto_region 12 with (fail)
            go_big_quiet (fail)
            go_upto_region 14 with (fail)
            obtain ⟨R2, l2, e2, o2, a2, x2, y2⟩ := (HO1.out.drewN nq).store' (m := j + 1) h0R HA0.out (sj - v)
            have HBr := Lib.hid ((below_drewN HBR1.out nq).setCell (p := ⟨k0, j + 1, none⟩) hk0 (.int .i64 (sj - v)))
            generalize (w1.drewN nq).setCell ⟨k0, j + 1, none⟩ (.int .i64 (sj - v)) = w2 at *
            have hxx2 : (rg R2 (i + 1)).xs = ri :: C.getD i [] := by rw [x2 (i + 1) (by omega), HXX.out]
            have hA2 : (rg R2 (i + 1)).A = some ⟨kx, 0, none⟩ := by rw [(a2 (i + 1)).1, HAX.out]
            obtain ⟨_, _, e9, e8, _, cx0, fx0⟩ := OwnR.look (m := 0) (j := i + 1) o2 (by rw [l2, HL1.out]) (by omega) (by rw [hxx2]; simp)
            rw [hA2] at e8
            injection e8 with e8
            injection e8 with e8
            subst e8
            rw [hxx2, List.getD_cons_zero] at cx0
            clear d00 d0j f0j dx0 e9
            go_upto_region 15 with (fail)
            obtain ⟨R3, l3, e3, o3, a3, x3, y3⟩ := o2.store' (m := 0) (j := i + 1) (by omega) hA2 (ri - v * 2 ^ (j + 1))
            have HBr3 := Lib.hid (HBr.out.setCell (p := ⟨kx, 0, none⟩) hkx (.int .i64 (ri - v * 2 ^ (j + 1))))
            generalize w2.setCell ⟨kx, 0, none⟩ (.int .i64 (ri - v * 2 ^ (j + 1))) = w3 at *
            have hA3 : (rg R3 (i + 1)).A = some ⟨kx, 0, none⟩ := by rw [(a3 (i + 1)).1, hA2]
            rw [hxx2] at y3
            obtain ⟨_, _, e9, e8, _, cxj, fxj⟩ := OwnR.look (m := j + 1) (j := i + 1) o3 (by rw [l3, l2, HL1.out]) (by omega) (by rw [y3, List.length_set, List.length_cons, HCL.out]; omega)
            rw [hA3] at e8
            injection e8 with e8
            injection e8 with e8
            subst e8
            generalize (rg R3 (i + 1)).xs.getD (j + 1) 0 = yold at cxj
            clear cx0 fx0 e9
            go_upto_region 16 with (fail)
            obtain ⟨R4, l4, e4, o4, a4, x4, y4⟩ := o3.store' (m := j + 1) (j := i + 1) (by omega) hA3 (v : Int)
            have HBr4 := Lib.hid (HBr3.out.setCell (p := ⟨kx, j + 1, none⟩) hkx (.int .i64 (v : Int)))
            generalize w3.setCell ⟨kx, j + 1, none⟩ (.int .i64 (v : Int)) = w4 at *
            have hd4 : dat R4 = tabL (r.set i (ri - 2 ^ (j + 1) * v)) (s.set j (sj - v)) (C.set i ((C.getD i []).set j (v : Int))) := by
              rw [e4, e3, e2, y3, hxx2, HX0.out, List.set_set, HD1.out, HDL.out, Int.mul_comm, HTS.out]
            have HCALL := Lib.hid (HIH.out v (some ⟨g1, 0, none⟩) A3 c1 c3 R4 M w4 hvM (by rw [l4, l3, l2, HL1.out]) hd4 hcap3 hM3 hM4 (o4.rd (by rw [l4, l3, l2, HL1.out])) (HRD.out.below HBr4.out))
            have HBw4 := Lib.hid (HB.out.trans (HBr4.out.mono hsz))
            have HF1 := Lib.hid (HFS.out v)
            clear cxj fxj hd4 o4 o3 o2 l2 l3 l4 e2 e3 e4 a2 a3 a4 x2 x3 x4 y2 y3 y4 hxx2 hA2 hA3
            go_wp2_with fail
            refine HCALL.out.mono ?_
            rintro e w5 ⟨A5, c5, M5, rfl, hd5, hr5, hc5, hb5⟩
            have HD5 := Lib.hid hd5
            have HR5 := Lib.hid hr5
            have HB5 := Lib.hid (HBw4.out.trans (hb5.mono HBw4.out.size))
            clear hd5 hr5 hb5
            go_wp2_with fail
            go_roundw
            case rel => exact ⟨v + 1, A5, c5, M5, by omega, by go_num, rfl, HR5.out, hc5, Lib.hid (by rw [HD5.out, HF1.out, HM.out]), HB5.out⟩
            case measure => simp [intOf]; omega
          · have hor : ¬ (v : Int) ≤ sj ∨ ((v : Int) ≤ sj ∧ ¬ (v : Int) * 2 ^ (j + 1) ≤ ri) := by
              by_cases h1 : (v : Int) ≤ sj
              · exact .inr ⟨h1, fun h => by have := hvp.1 h; omega⟩
              · exact .inl h1
            have hv2048 : (v : Int) * 2 ^ (j + 1) ≤ 100001 * 2048 := Int.mul_le_mul (by omega) p2 (Int.le_of_lt p1) (by omega)
            have hvM1 : v = MM + 1 := by omega
            have HM1 : Hid (dat M = ((List.range (MM + 1)).flatMap (stepF q' r s C i j)).foldl putR (dat O)) := Lib.hid (by rw [HM.out, hvM1])
            clear hvp hbel hvM1
            rcases hor with h | ⟨h, h'⟩
            · go_wp2_with fail
              go_ret
              exact ⟨A3, c3, M, rfl, by rw [HM1.out, flat_range_succ], HRD.out, hcap3, HB.out⟩
            · go_wp2_with fail
              go_ret
              exact ⟨A3, c3, M, rfl, by rw [HM1.out, flat_range_succ], HRD.out, hcap3, HB.out⟩
end Go.Proofs.YtdkmdmpaflgfaaaGreatDoor

namespace Go.Proofs.YtdkmdmpaflgfaaaGreatDoor
open Go.RowKit

theorem drop_succ_cons {r : List Int} {j : Nat} (h : j < r.length) : r.drop j = r.getD j 0 :: r.drop (j + 1) := drop_getI h
theorem lead_drop {r : List Int} {j : Nat} (h : j < r.length) : leadW (r.drop j) = (r.getD j 0 + 2 * (leadW (r.drop (j + 1))).headD 0) :: leadW (r.drop (j + 1)) := by
  rw [drop_succ_cons h]; rfl
theorem rep_set {j : Nat} (x : Int) (L : List Int) : (List.replicate (j + 1) (0 : Int) ++ L).set j x = List.replicate j 0 ++ x :: L := by
  rw [List.replicate_succ', List.append_assoc]
  have := set_split (List.replicate j (0 : Int)) 0 x L
  rw [List.length_replicate] at this
  exact this
theorem rep_set2 {j : Nat} (x y : Int) (L : List Int) : (List.replicate j (0 : Int) ++ y :: L).set j x = List.replicate j 0 ++ x :: L := by
  have := set_split (List.replicate j (0 : Int)) y x L
  rw [List.length_replicate] at this
  exact this
theorem rep_get {j : Nat} (y : Int) (L : List Int) : (List.replicate j (0 : Int) ++ y :: L).getD j 0 = y := by
  have := getD_split (List.replicate j (0 : Int)) y 0 L
  rw [List.length_replicate] at this
  exact this
theorem rep_get1 {j : Nat} (y : Int) (L : List Int) : (List.replicate j (0 : Int) ++ y :: L).getD (j + 1) 0 = L.headD 0 := by
  have : (List.replicate j (0 : Int) ++ y :: L) = (List.replicate j 0 ++ [y]) ++ L := by simp
  rw [this]
  cases L with
  | nil => simp [List.getD]
  | cons z L =>
    have h := getD_split (List.replicate j (0 : Int) ++ [y]) z 0 L
    rw [List.length_append, List.length_replicate, List.length_singleton] at h
    rw [h]; rfl

set_option maxRecDepth 100000 in
set_option maxHeartbeats 2000000 in
theorem leadingWord_any (A : Option Addr) (n c : Nat) (r : List Int) (w : World) (hn : n = r.length) (h10 : n ≤ 10) (hb : ∀ k, 0 ≤ r.getD k 0 ∧ r.getD k 0 ≤ 100000) (hlb : ∀ k, 0 ≤ (leadW (r.drop k)).headD 0 ∧ (leadW (r.drop k)).headD 0 ≤ 100000) (hR : Rd w A (iv r)) :
    Calls Tryz.prog 130 #[.slice A n c] w fun e w' => ∃ g, e = .returned (.slice (some ⟨g, 0, none⟩) n n) ∧ w'.ownsRow w.heap.size 2 1 (.slice (some ⟨g, 0, none⟩) n n) n (iv (leadW r)) ∧ Below w.heap.size w w' := by
  have hmk := run_make_row' (P := Tryz.prog) 22 2 (.int .i64 0) 8 Tryz.underlying22 infoI rfl .i64 .i64 n (by omega) (by omega)
  have HR := Lib.hid hR
  have Hn := Lib.hid hn
  have HB := Lib.hid hb
  have HLB := Lib.hid hlb
  have HMO := Lib.hid (made_own w w.heap.size n (Nat.le_refl _) (by omega))
  clear hn hb hlb hR
  go_enter Tryz.func130, Tryz.ntmps130
  go_wp2_with fail
  go_loopw [4] (fun v4 wr => ∃ k : Nat, k ≤ n ∧ v4 = .int .i64 ((k : Int) - 1) ∧ wr.ownsRow w.heap.size 2 1 (.slice (some ⟨w.heap.size, 0, none⟩) n n) n (iv (List.replicate k 0 ++ leadW (r.drop k))) ∧ Below w.heap.size w wr) (fun v4 _ => (intOf v4 + 1).toNat)
  case atStart =>
    refine ⟨n, Nat.le_refl _, rfl, ?_, (Below.refl _ _).alloc (Nat.le_refl _) _⟩
    rw [List.drop_of_length_le (by rw [Hn.out]; exact Nat.le_refl _)]
    simpa [leadW] using HMO.out
  case round =>
    obtain ⟨k, hk, rfl, hown, hbel⟩ := hrel
    have HBL := Lib.hid hbel
    cases k with
    | zero =>
      have HO := Lib.hid hown
      rw [List.drop_zero] at HO
      clear hown hbel
      go_wp2_with fail
      go_ret
      exact ⟨_, rfl, HO.out, HBL.out⟩
    | succ j =>
      have e1 : (((j + 1 : Nat) : Int) - 1) = (j : Int) := by omega
      rw [e1]
      have hjr : j < r.length := by rw [← Hn.out]; omega
      obtain ⟨b, o, rfl, hcr⟩ := (HR.out.below hbel).atI hjr
      have hbj := HB.out j
      have HLD := Lib.hid (lead_drop hjr)
      have hfz := hown.frozenAt j
      have hco := owns_getD hown (show j < n by omega)
      generalize (List.replicate (j + 1) (0 : Int) ++ leadW (r.drop (j + 1))).getD j 0 = yo at hco
      have hst := (World.ownsRow.stored hown j (.int .i64 (r.getD j 0))).1
      rw [show (iv (List.replicate (j + 1) 0 ++ leadW (r.drop (j + 1)))).set j (.int .i64 (r.getD j 0)) = iv (List.replicate j 0 ++ r.getD j 0 :: leadW (r.drop (j + 1))) from by rw [← rep_set]; simp [iv, List.map_set]] at hst
      have HST := Lib.hid hst
      have HBS := Lib.hid (hbel.setCell (p := ⟨w.heap.size, j, none⟩) (Nat.le_refl _) (.int .i64 (r.getD j 0)))
      have hjn : (j : Int) < (n : Int) := by omega
      generalize hx : r.getD j 0 = x at *
      clear hown hbel hst hjr hx e1
      go_upto_region 6 with (fail)
      generalize wr.setCell ⟨w.heap.size, j, none⟩ (.int .i64 x) = w2 at *
      clear hcr hfz hco
      by_cases hj1 : j + 1 < n
      · have hj1i : (j : Int) + 1 < (n : Int) := by omega
        have c0 := owns_getD HST.out (k := j) (by omega)
        rw [rep_get] at c0
        have c1 := owns_getD HST.out (k := j + 1) hj1
        rw [rep_get1] at c1
        have hfz2 := HST.out.frozenAt j
        have hhb := HLB.out (j + 1)
        have hst := (World.ownsRow.stored HST.out j (.int .i64 (x + 2 * (leadW (r.drop (j + 1))).headD 0))).1
        rw [show (iv (List.replicate j 0 ++ x :: leadW (r.drop (j + 1)))).set j (.int .i64 (x + 2 * (leadW (r.drop (j + 1))).headD 0)) = iv (List.replicate j 0 ++ leadW (r.drop j)) from by rw [HLD.out, ← rep_set2 _ x]; simp [iv, List.map_set]] at hst
        have HST2 := Lib.hid hst
        clear hst
        generalize (leadW (r.drop (j + 1))).headD 0 = h at *
        have hs1 : IntKind.i64.wrap ((j : Int) + 1) = (j : Int) + 1 := by rw [IntKind.wrap_i64]; omega
        have hs0 : ((j : Int) + 1).toNat = j + 1 := by omega
        have hs00 : 0 ≤ (j : Int) + 1 := by omega
        have hs2 : IntKind.i64.wrap (2 * h) = 2 * h := by rw [IntKind.wrap_i64]; omega
        have hs3 : IntKind.i64.wrap (x + 2 * h) = x + 2 * h := by rw [IntKind.wrap_i64]; omega
        go_wp2_with fail
        go_still_tail 12, (by kernel_rfl)
        go_wp2_with fail
        go_roundw
        case rel => exact ⟨j, by omega, by go_num, owns_keeps HST2.out (Keeps.drew (S := []) (Keeps.refl _ _)) (.inr (by simp)), (HBS.out.setCell (p := ⟨w.heap.size, j, none⟩) (Nat.le_refl _) _).drew⟩
        case measure => simp [intOf]
      · have hj1i : ¬ (j : Int) + 1 < (n : Int) := by omega
        have hLe : (leadW (r.drop (j + 1))) = [] := by
          rw [List.drop_of_length_le (by rw [← Hn.out]; omega)]; rfl
        have HOL : Hid (iv (List.replicate j 0 ++ x :: leadW (r.drop (j + 1))) = iv (List.replicate j 0 ++ leadW (r.drop j))) := Lib.hid (by
          rw [HLD.out, hLe]; simp)
        clear hLe
        go_wp2_with fail
        go_roundw
        case rel => exact ⟨j, by omega, by go_num, by rw [← HOL.out]; exact HST.out, HBS.out⟩
        case measure => simp [intOf]

theorem leadW_drop : ∀ (r : List Int) (k : Nat), (leadW r).drop k = leadW (r.drop k)
  | _, 0 => by simp
  | [], k + 1 => by simp [leadW]
  | x :: r, k + 1 => by simp only [leadW, List.drop_succ_cons]; exact leadW_drop r k
theorem nn_drop {r : List Int} (h : Nn r) (k : Nat) : Nn (r.drop k) := fun x hx => h x (List.mem_of_mem_drop hx)
theorem tr_drop : ∀ {r : List Int}, Tr r → ∀ k, Tr (r.drop k)
  | _, h, 0 => by simpa using h
  | [], _, k + 1 => by simp [Tr]
  | x :: r, h, k + 1 => by simp only [List.drop_succ_cons]; exact tr_drop h.2 k
theorem deg_drop : ∀ {r : List Int}, Nn r → ∀ k, degW 0 (r.drop k) ≤ degW 0 r
  | _, _, 0 => by simp
  | [], _, k + 1 => by simp
  | x :: r, h, k + 1 => by
    simp only [List.drop_succ_cons]
    have h1 := deg_drop h.tail k
    have h2 : degW 0 (x :: r) = x + (degW 0 r + wX 0 r) := by simp only [degW]; rw [deg_succ]; simp
    have h3 : 0 ≤ wX 0 r := by rw [wX_lead]; have := headD_nn (lead_nn h.tail); omega
    have := h.head
    omega
/-- a letter of the word is at most the degree -/
theorem lead_head_le {r : List Int} (h : Nn r) : (leadW r).headD 0 ≤ degW 0 r := by
  rw [← lead_deg]
  cases e : leadW r with
  | nil => simp
  | cons y t =>
    have h2 := lead_nn h
    rw [e] at h2
    have h3 : 0 ≤ t.sum := by
      have := sum_bd (xs := t) (m := t.sum.natAbs + (t.map Int.natAbs).sum) (fun x hx => ⟨h2.tail x hx, by
        have : x.natAbs ≤ (t.map Int.natAbs).sum := by
          clear h2 e
          induction t with
          | nil => cases hx
          | cons z t ih =>
            simp only [List.map_cons, List.sum_cons]
            rcases List.mem_cons.1 hx with e | hx
            · subst e; omega
            · have := ih hx; omega
        omega⟩) t.length (Nat.le_refl _)
      rw [List.take_length] at this; exact this.1
    simp; omega
theorem lead_get {r : List Int} {k : Nat} (hk : k < r.length) : (leadW r).getD k 0 = (leadW (r.drop k)).headD 0 := by
  rw [← leadW_drop]
  have : k < (leadW r).length := by rw [leadW_len]; exact hk
  rw [List.drop_eq_getElem_cons this]; simp [List.getD, this]
theorem wordE_drop {r : List Int} {k : Nat} (hk : k < r.length) : wordE ((leadW r).drop k) = mulE [[(leadW r).getD k 0]] (wordE ((leadW r).drop (k + 1))) := by
  have : k < (leadW r).length := by rw [leadW_len]; exact hk
  rw [List.drop_eq_getElem_cons this]
  simp only [wordE, List.getD, List.getElem?_eq_getElem this, Option.getD_some]
end Go.Proofs.YtdkmdmpaflgfaaaGreatDoor

namespace Go.Proofs.YtdkmdmpaflgfaaaGreatDoor
open Go.RowKit

theorem ex_bdl {d : Int} (hd : d ≤ 40) {t : List Int} (h : Ex d t) : BdL t := ⟨by have := h.len5 hd; omega, fun x hx => ⟨h.nn x hx, by have := h.le x hx; omega⟩⟩
/-- the lists of the element of a word's tail -/
theorem word_ex {r : List Int} (hn : Nn r) (ht : Tr r) (hd : degW 0 r ≤ 40) (k : Nat) : ∀ t ∈ wordE ((leadW r).drop k), Ex (degW 0 (r.drop k)) t := fun t h => by
  rw [leadW_drop] at h
  have h1 := deg_drop hn k
  exact ((tri (nn_drop hn k) (tr_drop ht k) (by omega)).2 t h).1
theorem word_bd {r : List Int} (hn : Nn r) (ht : Tr r) (hd : degW 0 r ≤ 40) (k : Nat) : ∀ t ∈ wordE ((leadW r).drop k), BdL t := fun t h => ex_bdl (by have := deg_drop hn k; omega) (word_ex hn ht hd k t h)
theorem word_cnt {r : List Int} (hn : Nn r) (ht : Tr r) (hd : degW 0 r ≤ 40) (k : Nat) : (wordE ((leadW r).drop k)).length ≤ 2000 := ex_count (by have := deg_drop hn k; omega) (wordE_as _) (word_ex hn ht hd k)
theorem lead_bd {r : List Int} (hn : Nn r) (hd : degW 0 r ≤ 40) {k : Nat} (hk : k < r.length) : 0 ≤ (leadW r).getD k 0 ∧ (leadW r).getD k 0 ≤ 40 := by
  rw [lead_get hk]
  have h1 := lead_head_le (nn_drop hn k)
  have h2 := deg_drop hn k
  have h3 := headD_nn (lead_nn (nn_drop hn k))
  omega
/-- [[x]] in two new blocks -/
theorem own11 (w : World) (x : Int) : OwnR ((w.alloc (.cells #[.int .i64 x] 2)).alloc (.cells #[.slice (some ⟨w.heap.size, 0, none⟩) 1 1] 22)) w.heap.size (.slice (some ⟨w.heap.size + 1, 0, none⟩) 1 1) [⟨some ⟨w.heap.size, 0, none⟩, 1, [x]⟩] := by
  have h := row_cell (w.alloc (.cells #[.int .i64 x] 2)) (B := w.heap.size) (.slice (some ⟨w.heap.size, 0, none⟩) 1 1) (by simp)
  rw [show (w.alloc (.cells #[.int .i64 x] 2)).heap.size = w.heap.size + 1 from by simp] at h
  exact OwnR.one (r := ⟨some ⟨w.heap.size, 0, none⟩, 1, [x]⟩) h ((one_int w x).alloc _)
theorem own10 (w : World) : OwnR ((w.alloc (.cells #[] 2)).alloc (.cells #[.slice (some ⟨w.heap.size, 0, none⟩) 0 0] 22)) w.heap.size (.slice (some ⟨w.heap.size + 1, 0, none⟩) 1 1) [⟨some ⟨w.heap.size, 0, none⟩, 0, []⟩] := by
  have h := row_cell (w.alloc (.cells #[] 2)) (B := w.heap.size) (.slice (some ⟨w.heap.size, 0, none⟩) 0 0) (by simp)
  rw [show (w.alloc (.cells #[] 2)).heap.size = w.heap.size + 1 from by simp] at h
  exact OwnR.one (r := ⟨some ⟨w.heap.size, 0, none⟩, 0, []⟩) h ((World.ownsRow_made w #[] 0 (Nat.le_refl _) (by decide) (by simp) : World.ownsRow _ w.heap.size 2 1 _ 0 []).alloc _)

set_option maxRecDepth 100000 in
set_option maxHeartbeats 2000000 in
theorem milnorOfWord_any (A : Option Addr) (n c : Nat) (r : List Int) (w : World) (hn : n = (leadW r).length) (hnn : Nn r) (htr : Tr r) (hd : degW 0 r ≤ 40) (hR : Rd w A (iv (leadW r))) :
    Calls Tryz.prog 134 #[.slice A n c] w (ResRows (wordE (leadW r)) w) := by
  have hl5 := Ex.len5 hd ⟨hnn, htr, rfl⟩
  have HR := Lib.hid hR
  have Hn := Lib.hid hn
  have HRL := Lib.hid (show n = r.length by rw [hn, leadW_len])
  have HBD := Lib.hid (word_bd hnn htr hd)
  have HCN := Lib.hid (word_cnt hnn htr hd)
  have HDD := Lib.hid (fun k => (show degW 0 (r.drop k) ≤ 40 from Int.le_trans (deg_drop hnn k) hd))
  have HEX := Lib.hid (word_ex hnn htr hd)
  have HLB := Lib.hid (fun k (hk : k < r.length) => lead_bd hnn hd hk)
  have HWD := Lib.hid (fun k (hk : k < r.length) => wordE_drop hk)
  clear hR hn
  have hn10 : n ≤ 10 := by have := HRL.out; omega
  go_enter Tryz.func134, Tryz.ntmps134
  go_wp2_with fail
  go_loopw [3, 4] (fun v3 v4 wr => ∃ k : Nat, ∃ A3 c3, ∃ M : List Row, k ≤ n ∧ v4 = .int .i64 ((k : Int) - 1) ∧ v3 = .slice A3 M.length c3 ∧ OwnR wr w.heap.size (.slice A3 M.length c3) M ∧ Hid (dat M = wordE ((leadW r).drop k)) ∧ Below w.heap.size w wr) (fun _ v4 _ => (intOf v4 + 1).toNat)
  case atStart =>
    refine ⟨n, _, 1, [⟨some ⟨w.heap.size, 0, none⟩, 0, []⟩], Nat.le_refl _, rfl, rfl, own10 w, Lib.hid ?_, ((Below.refl _ _).alloc (Nat.le_refl _) _).alloc (by simp) _⟩
    rw [List.drop_of_length_le (by rw [← Hn.out]; exact Nat.le_refl _)]
    rfl
  case round =>
    obtain ⟨k, A3, c3, M, hk, rfl, rfl, hown, HM, hbel⟩ := hrel
    obtain ⟨wv, hwv⟩ : ∃ wv, wv = wr := ⟨_, rfl⟩
    subst hwv
    have HO := Lib.hid hown
    have HB := Lib.hid hbel
    cases k with
    | zero =>
      rw [List.drop_zero] at HM
      clear hown hbel
      go_wp2_with fail
      go_ret
      exact ⟨_, M, rfl, HM.out, HO.out, HB.out⟩
    | succ j =>
      have e1 : (((j + 1 : Nat) : Int) - 1) = (j : Int) := by omega
      rw [e1]
      have hjr : j < r.length := by rw [← HRL.out]; omega
      obtain ⟨b, o, rfl, hcr⟩ := (HR.out.below hbel).atI (show j < (leadW r).length by rw [← Hn.out]; omega)
      have hjn : (j : Int) < (n : Int) := by omega
      have hlb := HLB.out j hjr
      have HWJ := Lib.hid (HWD.out j hjr)
      generalize hx : (leadW r).getD j 0 = x at *
      have hsz := hbel.size
      have HMU : ∀ A4 c4 N (w2 : World), Below wv.heap.size wv w2 → dat N = [[x]] → N.length = 1 → RdR w2 A4 N → Calls Tryz.prog 178 #[.slice A4 (1 : Nat) c4, .slice A3 M.length c3] w2 (ResRows (wordE ((leadW r).drop j)) w2) := fun A4 c4 N w2 hb2 hN hl hR2 => by
        have h := multiplied_any A4 A3 1 M.length c4 c3 N M w2 hl.symm rfl (by rw [hN]; intro t ht; rw [List.mem_singleton] at ht; subst ht; exact ⟨by simp, fun y hy => by rw [List.mem_singleton] at hy; subst hy; omega⟩)
          (by rw [HM.out]; exact HBD.out _) (by rw [hN, HM.out]; exact mul_count (by omega) (HDD.out _) (wordE_as _) (HEX.out _)) (by omega) (by
            have h1 := HCN.out (j + 1)
            rw [← HM.out, dat_length] at h1; omega) hR2 ((HO.out.rd rfl).below hb2)
        rw [hN, HM.out, ← HWJ.out] at h
        exact h
      have HMU := Lib.hid HMU
      clear hown hbel hjr
      go_wp2_with fail
      refine (HMU.out _ _ _ _ (((Below.refl _ _).alloc (Nat.le_refl _) _).alloc (by simp) _) (by rfl) (by rfl) ((own11 wv x).rd rfl)).mono ?_
      rintro e w7 ⟨v7, O7, rfl, hd7, ho7, hb7⟩
      obtain ⟨A7, c7, rfl, _⟩ := owns_shape ho7.out
      have HO7 := Lib.hid (ho7.mono (B' := w.heap.size) (by simp; omega))
      have HB7 := Lib.hid (((HB.out.alloc hsz (.cells #[.int .i64 x] 2)).alloc (by simp; omega) (.cells #[.slice (some ⟨wv.heap.size, 0, none⟩) 1 1] 22)).trans (hb7.mono (by simp; omega)))
      have HD7 := Lib.hid hd7
      clear ho7 hb7 hd7
      go_wp2_with fail
      go_roundw
      case rel => exact ⟨j, A7, c7, O7, by omega, by go_num, rfl, HO7.out, HD7, HB7.out⟩
      case measure => simp [intOf]
theorem keepsS1 {w w1 : World} {o : Obj} {r : Option Nat} (h : (w.alloc o).grownBy w1 r) : Keeps w w1 [r] :=
  ((Keeps.refl w []).alloc o).trans (Keeps.of_grown h) (by simp)
/-- what outlasts the growth of the row of words -/
def KR (w : World) (v : Value) (A : Option Addr) (M : List Row) : Prop := ∀ w', Keeps w w' [v.ownBlock] → RdR w' A M
theorem KR.self {w : World} {v : Value} {A : Option Addr} {M : List Row} (h : KR w v A M) : RdR w A M := h w (Keeps.refl _ _)
theorem sumR_nil_iff (T : LL) : T.length = 0 ↔ T = [] := List.length_eq_zero_iff
theorem sq_end {T0 O T : LL} (hE : nf (evalW O ++ T) = T0) (h : T = []) : evalW (nf O) = T0 := by
  subst h
  rw [List.append_nil, nf_of_as (as_evalW _)] at hE
  rw [evalW_nf, hE]

set_option maxRecDepth 100000 in
set_option maxHeartbeats 4000000 in
theorem squaresOf_any (d : Int) (hd : d ≤ 40) (A : Option Addr) (n c : Nat) (L : List Row) (w : World) (hn : n = L.length) (hT : As (dat L)) (hE : ∀ t ∈ dat L, Ex d t) (hR : RdR w A L) :
    Calls Tryz.prog 93 #[.slice A n c] w fun e w' => ∃ P, IsSq d (dat L) P ∧ ResRows P w e w' := by
  have HR := Lib.hid hR
  have HT := Lib.hid hT
  have HE := Lib.hid hE
  have Hn := Lib.hid hn
  have HVB : ∀ t, Ex d t → val t < 1073741824 := fun t ht => by
    have h1 := val_lt (ht.bd (by omega))
    have h2 : (64 : Int) ^ t.length ≤ 64 ^ 5 := by
      have : (64 : Nat) ^ t.length ≤ 64 ^ 5 := Nat.pow_le_pow_right (by omega) (ht.len5 hd)
      exact_mod_cast this
    omega
  have HVB := Lib.hid HVB
  clear hR hT hE hn
  go_enter Tryz.func93, Tryz.ntmps93
  go_wp2_with fail
  go_loopg [0, 3] 1073741824 (fun gd v0 v3 wr => ∃ A0 c0, ∃ M : List Row, ∃ A3 c3, ∃ O : List Row, v0 = .slice A0 M.length c0 ∧ v3 = .slice A3 O.length c3 ∧ KR wr (.slice A3 O.length c3) A0 M ∧ OwnR wr w.heap.size (.slice A3 O.length c3) O ∧ Hid (As (dat M) ∧ (∀ t ∈ dat M, Ex d t ∧ val t < gd) ∧ (∀ x ∈ dat O, IsW d x) ∧ nf (evalW (dat O) ++ dat M) = dat L) ∧ O.length + gd ≤ 1073741824 ∧ Below w.heap.size w wr)
  case atStart =>
    refine ⟨A, c, L, _, 0, [], by rw [Hn.out], rfl, fun w' hk => ?_, OwnR.made w (Nat.le_refl _), Lib.hid ⟨HT.out, fun t ht => ⟨HE.out t ht, by have := HVB.out t (HE.out t ht); omega⟩, fun x hx => (by cases hx), ?_⟩, Nat.le_of_eq (Nat.zero_add _), (Below.refl _ _).alloc (Nat.le_refl _) _⟩
    · refine HR.out.below (Below.trans (B := w.heap.size) ((Below.refl _ _).alloc (Nat.le_refl _) (.cells #[] 22)) (hk.to_below (B := w.heap.size) (by simp) fun j hj => ?_))
      simp [Value.ownBlock] at hj
      omega
    · show nf (evalW [] ++ dat L) = dat L
      exact nf_of_as HT.out
  case round =>
    obtain ⟨A0, c0, M, A3, c3, O, rfl, rfl, hKR, hown, HI, hOl, hbel⟩ := hrel
    have HO := Lib.hid hown
    have HB := Lib.hid hbel
    have HKR := Lib.hid hKR
    have hsz := hbel.size
    have HML := Lib.hid (show M.length ≤ 2000 by
      have := ex_count hd HI.out.1 (fun t ht => (HI.out.2.1 t ht).1)
      rwa [dat_length] at this)
    by_cases h0 : 0 < M.length
    · have h0i : (0 : Int) < (M.length : Int) := by omega
      have HMX := Lib.hid (maxFunc_any d hd A0 M.length c0 M wr rfl h0 (by have := HML.out; omega) (fun t ht => (HI.out.2.1 t ht).1) hKR.self)
      clear hKR hown hbel
      go_wp2_with fail
      refine HMX.out.mono ?_
      rintro e w1 ⟨⟨k, hk, rfl, hmax⟩, hb1⟩
      have hrm : (rg M k).xs ∈ dat M := List.mem_map.2 ⟨_, rg_mem hk, rfl⟩
      have hex := (HI.out.2.1 _ hrm).1
      have hr1 := (HKR.out.self.below hb1).inn k hk
      have HMAX := Lib.hid hmax
      have HRM := Lib.hid hrm
      generalize rg M k = r at *
      obtain ⟨rA, rc, rx⟩ := r
      simp only at hr1 hex HMAX HRM
      have HLW := Lib.hid (leadingWord_any rA rx.length rc rx w1 rfl (by have := hex.len5 hd; omega) (fun k => (ex_bdl hd hex).get k) (fun k => ⟨headD_nn (lead_nn (nn_drop hex.nn k)), by
          have h1 := lead_head_le (nn_drop hex.nn k)
          have h2 := deg_drop hex.nn k
          have h3 := hex.deg
          omega⟩) hr1)
      have HB1 := Lib.hid hb1
      have HEX := Lib.hid hex
      clear hb1 hr1 hmax hrm hex
      go_wp2_with fail
      refine HLW.out.mono ?_
      rintro e w2 ⟨g, rfl, ho2, hb2⟩
      have HO2 : Hid (w2.ownsRow wr.heap.size 2 1 (.slice (some ⟨g, 0, none⟩) rx.length rx.length) rx.length (iv (leadW rx))) := Lib.hid (ho2.mono HB1.out.size)
      have HB2 := Lib.hid (HB1.out.trans (hb2.mono HB1.out.size))
      clear ho2 hb2
      go_wp2_with (at_builtin; refine wpList_app1 _ _ _ _ _ etS (by rfl) (by rfl) w.heap.size (.slice A3 O.length c3) O.length (hv O) (by rfl) ((HO.out.later HB2.out).out.alloc _) _ (.slice (some ⟨g, 0, none⟩) rx.length rx.length) (by rfl) (new_cell _ _ _) (by rfl) (by omega) (Nat.le_trans (Nat.le_trans hsz HB2.out.size) (Nat.le_of_lt (by simp))) ?_; (intro g2 c2 w3 hown3 hg3 hat3 hlt3; have HN := Lib.hid (OwnR.push HO.out HB2.out HO2.out (leadW_len rx).symm hsz hown3 hg3); have HB3 := Lib.hid (below_app2 (HB.out.trans (HB2.out.mono hsz)) (Nat.le_trans hsz HB2.out.size) (HO.out.later HB2.out).out hg3); have HG3 := Lib.hid hg3; clear hown3 hg3 hat3 hlt3))
      have hO4 : Rd w3 (some ⟨g, 0, none⟩) (iv (leadW rx)) := by
        have h := HN.out.inn O.length (by simp)
        rw [show rg (O ++ [⟨some ⟨g, 0, none⟩, rx.length, leadW rx⟩]) O.length = ⟨some ⟨g, 0, none⟩, rx.length, leadW rx⟩ from by simp [rg, List.getD]] at h
        exact owns_Rd h
      have HMW := Lib.hid (milnorOfWord_any (some ⟨g, 0, none⟩) rx.length rx.length rx w3 (leadW_len rx).symm HEX.out.nn HEX.out.tr (by rw [HEX.out.deg]; exact hd) hO4)
      have HK3 : Hid (Keeps wr w3 [(Value.slice A3 O.length c3).ownBlock]) := Lib.hid ((Keeps.of_below HB2.out).trans (keepsS1 HG3.out) (fun j _ h => by rcases h with h | h; (cases h); exact h))
      have HSTEP := Lib.hid (sq_step (by omega) HI.out.1 (fun t ht => (HI.out.2.1 t ht).1) HRM.out HMAX.out)
      have HEV := Lib.hid (sq_ev (w := leadW rx) HI.out.1 HI.out.2.2.2)
      have HVG := Lib.hid (HI.out.2.1 _ HRM.out).2
      clear hO4
      go_wp2_with fail
      refine HMW.out.mono ?_
      rintro e w4 ⟨v4, M4, rfl, hd4, ho4, hb4⟩
      obtain ⟨A4, c4, rfl, _⟩ := owns_shape ho4.out
      have HM4 := Lib.hid (show M4.length ≤ 2000 by
        have := word_cnt HEX.out.nn HEX.out.tr (by rw [HEX.out.deg]; exact hd) 0
        rw [List.drop_zero, ← hd4, dat_length] at this; exact this)
      have HS4 := Lib.hid (sumRows_any A0 A4 M.length M4.length c0 c4 M M4 w4 rfl rfl (by have := HML.out; omega) (by have := HM4.out; omega) (fun i hi => by
          have := (HI.out.2.1 _ (List.mem_map.2 ⟨_, rg_mem hi, rfl⟩)).1.len5 hd; omega) (fun i hi => by
          have h1 : (rg M4 i).xs ∈ dat M4 := List.mem_map.2 ⟨_, rg_mem hi, rfl⟩
          rw [hd4] at h1
          have h2 := word_bd HEX.out.nn HEX.out.tr (by rw [HEX.out.deg]; exact hd) 0
          rw [List.drop_zero] at h2
          have := (h2 _ h1).1; omega) ((HKR.out w3 HK3.out).below hb4) (ho4.rd rfl))
      rw [hd4, ← sumR_nf HI.out.1 (wordE_as _)] at HS4
      have HB4 := Lib.hid hb4
      clear ho4 hb4 hd4
      go_wp2_with fail
      refine HS4.out.mono ?_
      rintro e w5 ⟨v5, M5, rfl, hd5, ho5, hb5⟩
      obtain ⟨A5, c5, rfl, _⟩ := owns_shape ho5.out
      have HB35 := Lib.hid (HB4.out.trans (hb5.mono HB4.out.size))
      have HO5 := Lib.hid ho5
      have HD5 := Lib.hid hd5
      have hs4 := HB4.out.size
      clear ho5 hb5 hd5
      go_wp2_with fail
      have hvn := val_nn HEX.out.nn
      have hvg := HVG.out
      go_roundg (val rx).toNat
      case measure => omega
      case rel =>
        refine ⟨A5, c5, M5, some ⟨g2, 0, none⟩, c2, O ++ [⟨some ⟨g, 0, none⟩, rx.length, leadW rx⟩], rfl, by simp, fun w' hk => ?_, ?_, Lib.hid ⟨?_, ?_, ?_, ?_⟩, ?_, ?_⟩
        · have hg2 := (HN.out.out.lt g2 rfl).2
          refine (HO5.out.keeps hk ?_ fun i hi => ?_).rd rfl
          · refine .inr fun h => ?_
            rw [List.mem_singleton] at h
            have := (HO5.out.out.lt g2 h).1
            omega
          · refine .inr fun h => ?_
            rw [List.mem_singleton] at h
            have := ((HO5.out.inn i hi).lt g2 h).1
            omega
        · have h := HN.out.later HB35.out
          rw [List.length_append]; exact h
        · rw [HD5.out]; exact HSTEP.out.1
        · rw [HD5.out]; exact fun t ht => ⟨(HSTEP.out.2 t ht).1, by have := (HSTEP.out.2 t ht).2; omega⟩
        · rw [dat_append1]
          intro x hx
          rcases List.mem_append.1 hx with hx | hx
          · exact HI.out.2.2.1 x hx
          · rw [List.mem_singleton.1 hx]; exact ⟨rx, HEX.out, rfl⟩
        · rw [dat_append1, HD5.out]; exact HEV.out
        · simp; omega
        · exact HB3.out.trans (HB35.out.mono HB3.out.size)
    · have h0i : ¬ (0 : Int) < (M.length : Int) := by omega
      have HOD := Lib.hid (oddOnes_any A3 O.length c3 O wr rfl (by omega) (fun i hi => by
          obtain ⟨r, hr, he⟩ := HI.out.2.2.1 _ (List.mem_map.2 ⟨_, rg_mem hi, rfl⟩)
          rw [he, leadW_len]; have := hr.len5 hd; omega) (hown.rd rfl))
      have HSQ : Hid (IsSq d (dat L) (nf (dat O))) := Lib.hid ⟨as_nf _, fun x hx => HI.out.2.2.1 x (nf_sub hx), sq_end HI.out.2.2.2 (by rw [← List.length_eq_zero_iff, dat_length]; omega)⟩
      clear hKR hown hbel
      go_wp2_with fail
      refine HOD.out.mono ?_
      rintro e w2 ⟨v2, M2, rfl, hd2, ho2, hb2⟩
      have HD2 := Lib.hid hd2
      have HO2 := Lib.hid (ho2.mono hsz)
      have HB2 := Lib.hid (HB.out.trans (hb2.mono hsz))
      clear hd2 ho2 hb2
      go_wp2_with fail
      go_ret
      exact ⟨_, HSQ.out, v2, M2, rfl, HD2.out, HO2.out, HB2.out⟩
end Go.Proofs.YtdkmdmpaflgfaaaGreatDoor

namespace Go.Proofs.YtdkmdmpaflgfaaaGreatDoor
open Go.RowKit

/-- the table after i rows -/
def tabZ (r s : List Int) (i : Nat) : LL := (0 :: s) :: (r.take i).map fun x => x :: List.replicate s.length 0
theorem tabZ_all (r s : List Int) : tabZ r s r.length = tabL r s (zeroT r s) := by
  unfold tabZ tabL zeroT
  rw [List.take_length]
  congr 1
  apply List.ext_getElem
  · simp
  · intro k h1 h2
    simp
theorem tabZ_succ {r : List Int} (s : List Int) {i : Nat} (h : i < r.length) : tabZ r s (i + 1) = tabZ r s i ++ [r.getD i 0 :: List.replicate s.length 0] := by
  unfold tabZ
  rw [List.take_succ_eq_append_getElem h, List.map_append]
  simp [List.getD, h]
theorem tabZ_len (r s : List Int) {i : Nat} (h : i ≤ r.length) : (tabZ r s i).length = i + 1 := by simp [tabZ]; omega
theorem zeroT_row (r s : List Int) : ∀ k, k < (zeroT r s).length → ((zeroT r s).getD k []).length = s.length := fun k hk => by
  unfold zeroT at hk ⊢
  rw [List.length_replicate] at hk
  simp [List.getD, hk]

set_option maxRecDepth 100000 in
set_option maxHeartbeats 4000000 in
theorem l04Product_any (A A' : Option Addr) (n c n' c' : Nat) (r s : List Int) (w : World) (hn : n = r.length) (hn' : n' = s.length) (hr : BdL r) (hs : BdL s) (hlen : (prodE r s).length ≤ 500000000000) (hR : Rd w A (iv r)) (hR' : Rd w A' (iv s)) :
    Calls Tryz.prog 246 #[.slice A n c, .slice A' n' c'] w (RdRes (nf (prodE r s)) w) := by
  have hmk := run_make_row' (P := Tryz.prog) 22 2 (.int .i64 0) 8 Tryz.underlying22 infoI rfl .i64 .i64 (n' + 1) (by have := hs.1; omega) (by have := hs.1; omega)
  rw [show ((n' + 1 : Nat) : Int) = (n' : Int) + 1 from by omega] at hmk
  have HMO := Lib.hid (fun wx => made_own wx wx.heap.size (n' + 1) (Nat.le_refl _) (by have := hs.1; omega))
  have HR := Lib.hid hR
  have HS := Lib.hid hR'
  have Hn := Lib.hid hn
  have Hn' := Lib.hid hn'
  have HFILL := Lib.hid (fun (A1 A3 : Option Addr) (k c1 c3 : Nat) (M : List Row) (w4 : World) (hk : k = M.length) (hd : dat M = tabL r s (zeroT r s)) (h4 : RdR w4 A1 M) => l04Fill_any _ (r.length * s.length) A1 A3 k c1 0 c3 M [] r s (zeroT r s) 0 0 1 1 w4 rfl hk hd (by simp [zeroT]) (zeroT_row r s) hr.1 hs.1
    ⟨fun k => hr.get k, fun k => hs.get k, fun a b => by
      have : ((zeroT r s).getD a []).getD b 0 = 0 := by
        unfold zeroT
        simp only [List.getD, List.getElem?_replicate]
        by_cases h1 : a < r.length
        · simp only [h1, if_true, Option.getD_some, List.getElem?_replicate]
          split <;> rfl
        · simp [h1]
      rw [this]; omega⟩ rfl (Nat.zero_le _) (by show 0 + (prodE r s).length ≤ _; omega) (fun t ht => (by cases ht)) rfl rfl (Nat.zero_le _) (Nat.zero_le _) (by omega) h4 (by exact ⟨Rd.nil _ _, fun i hi => (by cases hi), fun i hi => (by cases hi)⟩))
  have hn10 : n ≤ 10 := by rw [hn]; exact hr.1
  have hn10' : n' ≤ 10 := by rw [hn']; exact hs.1
  clear hR hR' hn hn' hr hs hlen
  go_enter Tryz.func246, Tryz.ntmps246
  go_wp2_with (at_builtin; refine wpList_appR _ _ _ _ _ etI (by rfl) (by rfl) w.heap.size (.slice (some ⟨w.heap.size, 0, none⟩) 1 1) 1 [.int .i64 0] (by rfl) (one_int w 0) A' n' c' (iv s) (by rfl) (by rw [iv_length]; exact Hn'.out) (HS.out.alloc _) (iv_one _) ?_ (Nat.le_of_lt (by simp)) ?_; omega; (intro v1 w1 hown hg hat; obtain ⟨A1, c1, rfl, _⟩ := owns_shape hown; have HO1 := Lib.hid hown; have HB1 := Lib.hid (put_b6 hg); clear hown hg hat))
  go_loopw [5, 6] (fun v5 v6 wr => ∃ i : Nat, ∃ A5 c5, ∃ M : List Row, i ≤ n ∧ v6 = .int .i64 i ∧ v5 = .slice A5 M.length c5 ∧ OwnR wr w.heap.size (.slice A5 M.length c5) M ∧ M.length = i + 1 ∧ Hid (dat M = tabZ r s i) ∧ Below w.heap.size w wr) (fun _ v6 _ => n - (intOf v6).toNat)
  case atStart =>
    refine ⟨0, some ⟨w1.heap.size, 0, none⟩, 1, [⟨A1, c1, 0 :: s⟩], by omega, rfl, rfl, ?_, rfl, Lib.hid rfl, HB1.out.alloc HB1.out.size _⟩
    have hl : (0 :: s).length = 1 + n' := by rw [List.length_cons, ← Hn'.out]; omega
    have ho := HO1.out
    refine OwnR.one (r := ⟨A1, c1, 0 :: s⟩) ?_ ?_
    · have h := row_cell w1 (B := w.heap.size) (.slice A1 (1 + n') c1) HB1.out.size
      simp only [Row.val, hl]
      exact h
    · simp only [Row.val, hl]
      exact (ho.alloc _)
  case round =>
    obtain ⟨i, A5, c5, M, hi, rfl, rfl, hown, hMl, HM, hbel⟩ := hrel
    have HO := Lib.hid hown
    have HB := Lib.hid hbel
    have hsz := hbel.size
    have HML := Lib.hid hMl
    by_cases hlt : i < n
    · have hir : i < r.length := by rw [← Hn.out]; exact hlt
      obtain ⟨b, o, rfl, hc⟩ := (HR.out.below hbel).atI hir
      have HT := Lib.hid (tabZ_succ s hir)
      have hii : (i : Int) < (n : Int) := by omega
      have hc2 := cell_keep hc ((Below.refl wr.heap.size wr).alloc (Nat.le_refl _) (.cells (madeCells #[.int .i64 0] (n' + 1)) 2))
      have hst := (World.ownsRow.stored (HMO.out wr) 0 (.int .i64 (r.getD i 0))).1
      have hfz := (HMO.out wr).frozenAt 0
      have hcl := owns_getD (HMO.out wr) (show 0 < n' + 1 by omega)
      generalize (List.replicate (n' + 1) (0 : Int)).getD 0 0 = yo at hcl
      have HST : Hid (((wr.alloc (.cells (madeCells #[.int .i64 0] (n' + 1)) 2)).setCell ⟨wr.heap.size, 0, none⟩ (.int .i64 (r.getD i 0))).ownsRow wr.heap.size 2 1 (.slice (some ⟨wr.heap.size, 0, none⟩) (n' + 1) (n' + 1)) (n' + 1) (iv (r.getD i 0 :: List.replicate n' 0))) := Lib.hid (by
        rw [show iv (r.getD i 0 :: List.replicate n' 0) = (iv (List.replicate (n' + 1) 0)).set 0 (.int .i64 (r.getD i 0)) from by simp [iv, List.replicate_succ]]
        exact hst)
      have HBS := Lib.hid (((Below.refl wr.heap.size wr).alloc (Nat.le_refl _) (.cells (madeCells #[.int .i64 0] (n' + 1)) 2)).setCell (p := ⟨wr.heap.size, 0, none⟩) (Nat.le_refl _) (.int .i64 (r.getD i 0)))
      have hn1 : 0 < n' + 1 := by omega
      have hn1i : (0 : Int) < (n' : Int) + 1 := by omega
      generalize r.getD i 0 = x at *
      have hq : M.length < 1099511627776 := by omega
      clear hown hbel hst hir hMl
      go_upto_region 7 with (fail)
      have EQ : (wr.alloc (.cells (madeCells #[.int .i64 0] (n' + 1)) 2)).setCell ⟨wr.heap.size, 0, none⟩ (.int .i64 x) = wr.alloc (.cells ((madeCells #[.int .i64 0] (n' + 1)).setIfInBounds 0 (.int .i64 x)) 2) := World.setCell_alloc_at _ _ _ _ _ rfl
      rw [EQ] at HST HBS
      clear EQ
      generalize wr.alloc (.cells ((madeCells #[.int .i64 0] (n' + 1)).setIfInBounds 0 (.int .i64 x)) 2) = w2 at *
      clear hfz hcl hc2
      have hs2 := HBS.out.size
      go_wp2_with (at_builtin; refine wpList_app1 _ _ _ _ _ etS (by rfl) (by rfl) w.heap.size (.slice A5 M.length c5) M.length (hv M) (by rfl) ((HO.out.later HBS.out).out.alloc _) _ (.slice (some ⟨wr.heap.size, 0, none⟩) (n' + 1) (n' + 1)) (by rfl) (new_cell _ _ _) (by rfl) hq (Nat.le_trans (Nat.le_trans hsz hs2) (Nat.le_of_lt (by simp))) ?_; (intro g2 c2 w3 hown3 hg3 hat3 hlt3; have HN := Lib.hid (OwnR.push HO.out HBS.out HST.out (by simp) hsz hown3 hg3); have HB3 := Lib.hid (below_app2 (HB.out.trans (HBS.out.mono hsz)) (Nat.le_trans hsz hs2) (HO.out.later HBS.out).out hg3); clear hown3 hg3 hat3 hlt3))
      go_roundw
      case rel => exact ⟨i + 1, some ⟨g2, 0, none⟩, c2, M ++ [⟨some ⟨wr.heap.size, 0, none⟩, n' + 1, x :: List.replicate n' 0⟩], by omega, by go_num, by rw [List.length_append]; rfl, by rw [List.length_append]; exact HN.out, by rw [List.length_append, HML.out]; rfl, Lib.hid (by rw [dat_append1, HM.out, HT.out, Hn'.out]), HB3.out⟩
      case measure => simp [intOf]; omega
    · obtain rfl : i = n := by omega
      have hii : ¬ (i : Int) < (i : Int) := by omega
      have HDM : Hid (dat M = tabL r s (zeroT r s)) := Lib.hid (by rw [HM.out, ← tabZ_all, Hn.out])
      have HF := Lib.hid (fun w4 A3 c3 (hb : Below wr.heap.size wr w4) => HFILL.out A5 A3 M.length c5 c3 M w4 rfl HDM.out ((hown.later hb).rd rfl))
      clear hown hbel hMl
      go_wp2_with fail
      refine (HF.out _ _ _ ((Below.refl _ _).alloc (Nat.le_refl _) _)).mono ?_
      rintro e w2 ⟨A2, c2, M2, rfl, hd, hr, hc, hb⟩
      have HD2 := Lib.hid hd
      have HR2 := Lib.hid hr
      have HB2 := Lib.hid ((HB.out.alloc hsz (.cells #[] 22)).trans (hb.mono (by simp; omega)))
      have HC2 := Lib.hid hc
      clear hd hr hb hc
      go_wp2_with fail
      go_ret
      exact ⟨A2, c2, M2, rfl, HD2.out, HR2.out, HC2.out, HB2.out⟩
end Go.Proofs.YtdkmdmpaflgfaaaGreatDoor

namespace Go.Proofs.YtdkmdmpaflgfaaaGreatDoor
open Go.RowKit

theorem nf_exlen {d : Int} (hd : d ≤ 40) {X : LL} (h : ∀ t ∈ X, Ex d t) : (nf X).length ≤ 2000 := ex_count hd (as_nf _) fun t ht => h t (nf_sub ht)
theorem sum_nf2 (X Y : LL) : sumR (nf X) (nf Y) = nf (X ++ Y) := by
  rw [sumR_nf (as_nf _) (as_nf _), nf_app_l, nf_app_r]
theorem rdRes_len {Q : LL} (M : List Row) (h : dat M = Q) : M.length = Q.length := by rw [← h, dat_length]

set_option maxRecDepth 100000 in
set_option maxHeartbeats 4000000 in
theorem l04Times_any (d : Int) (hd : d ≤ 40) (A A' : Option Addr) (n n' c c' : Nat) (L K : List Row) (w : World) (hn : n = L.length) (hn' : n' = K.length) (hnb : n ≤ 1000000) (hnb' : n' ≤ 1000000) (hL : ∀ r ∈ dat L, BdL r) (hK : ∀ s ∈ dat K, BdL s) (hE : ∀ r ∈ dat L, ∀ s ∈ dat K, (prodE r s).length ≤ 500000000000 ∧ ∀ t ∈ prodE r s, Ex d t) (hR : RdR w A L) (hR' : RdR w A' K) :
    Calls Tryz.prog 223 #[.slice A n c, .slice A' n' c'] w (ResRows (mulE (dat L) (dat K)) w) := by
  have HR := Lib.hid hR
  have HR' := Lib.hid hR'
  have Hn := Lib.hid hn
  have Hn' := Lib.hid hn'
  have HLB := Lib.hid hL
  have HKB := Lib.hid hK
  have HEX := Lib.hid hE
  clear hR hR' hn hn' hL hK hE
  go_enter Tryz.func223, Tryz.ntmps223
  go_wp2_with fail
  go_loopw [5, 6] (fun v5 v6 wr => ∃ i : Nat, ∃ A5 c5, ∃ M : List Row, i ≤ n ∧ v6 = .int .i64 i ∧ v5 = .slice A5 M.length c5 ∧ OwnR wr w.heap.size (.slice A5 M.length c5) M ∧ Hid (dat M = nf (((dat L).take i).flatMap fun r => (dat K).flatMap fun s => prodE r s)) ∧ Below w.heap.size w wr) (fun _ v6 _ => n - (intOf v6).toNat)
  case atStart => exact ⟨0, some ⟨w.heap.size, 0, none⟩, 0, [], by omega, rfl, rfl, OwnR.made w (Nat.le_refl _), Lib.hid rfl, (Below.refl _ _).alloc (Nat.le_refl _) _⟩
  case round =>
    obtain ⟨i, A5, c5, M, hi, rfl, rfl, hrd, HM, hbel⟩ := hrel
    obtain ⟨wv, hwv⟩ : ∃ wv, wv = wr := ⟨_, rfl⟩
    subst hwv
    have HO := Lib.hid hrd
    have HB := Lib.hid hbel
    have hsv := hbel.size
    by_cases hlt : i < n
    · have hiL : i < L.length := by rw [← Hn.out]; exact hlt
      obtain ⟨b, o, rfl, hc⟩ := (HR.out.below hbel).at_ hiL
      have hri := (HR.out.below hbel).inn i hiL
      have hmr : (rg L i).xs ∈ dat L := List.mem_map.2 ⟨_, rg_mem hiL, rfl⟩
      have hbd := HLB.out _ hmr
      have HXR := Lib.hid (HEX.out _ hmr)
      have HXT : Hid (∀ t ∈ (((dat L).take i).flatMap fun r => (dat K).flatMap fun s => prodE r s), Ex d t) := Lib.hid (fun t ht => by
        obtain ⟨r, hr, ht⟩ := List.mem_flatMap.1 ht
        obtain ⟨s, hs, ht⟩ := List.mem_flatMap.1 ht
        exact (HEX.out r (List.mem_of_mem_take hr) s hs).2 t ht)
      have HFS : Hid (((dat L).take (i + 1)).flatMap (fun r => (dat K).flatMap fun s => prodE r s) = ((dat L).take i).flatMap (fun r => (dat K).flatMap fun s => prodE r s) ++ (dat K).flatMap fun s => prodE (rg L i).xs s) := Lib.hid (by
        rw [flat_take_succ (by rw [dat_length]; exact hiL), dat_getD])
      generalize ((dat L).take i).flatMap (fun r => (dat K).flatMap fun s => prodE r s) = P at *
      generalize rg L i = ri at *
      obtain ⟨riA, ric, rix⟩ := ri
      simp only at hc hri hbd HFS HXR
      have HC := Lib.hid hc
      have HRI := Lib.hid hri
      have HBD := Lib.hid hbd
      have hii : (i : Int) < (n : Int) := by omega
      clear hrd hbel hri hbd hiL hmr hc
      go_wp2_with fail
      go_loopw [5, 7] (fun v5 v7 wr => ∃ k : Nat, ∃ A5 c5, ∃ N : List Row, k ≤ n' ∧ v7 = .int .i64 k ∧ v5 = .slice A5 N.length c5 ∧ OwnR wr w.heap.size (.slice A5 N.length c5) N ∧ Hid (dat N = nf (P ++ ((dat K).take k).flatMap fun s => prodE rix s)) ∧ Below wv.heap.size wv wr) (fun _ v7 _ => n' - (intOf v7).toNat)
      case atStart => exact ⟨0, A5, c5, M, by omega, rfl, rfl, HO.out, Lib.hid (by simpa using HM.out), Below.refl _ _⟩
      case round =>
        obtain ⟨k, A6, c6, N, hk, rfl, rfl, hrd, HN, hbel⟩ := hrel
        have HB6 := Lib.hid hbel
        have HO6 := Lib.hid hrd
        have hs6 := hbel.size
        have hBw : Hid (Below w.heap.size w wr) := Lib.hid (HB.out.trans (hbel.mono hsv))
        by_cases hkl : k < n'
        · have hkK : k < K.length := by rw [← Hn'.out]; exact hkl
          obtain ⟨b2, o2, rfl, hc2⟩ := (HR'.out.below hBw.out).at_ hkK
          have hrk := (HR'.out.below hBw.out).inn k hkK
          have hms : (rg K k).xs ∈ dat K := List.mem_map.2 ⟨_, rg_mem hkK, rfl⟩
          have hbk := HKB.out _ hms
          have hpe := HXR.out _ hms
          have HKS : Hid (((dat K).take (k + 1)).flatMap (fun s => prodE rix s) = ((dat K).take k).flatMap (fun s => prodE rix s) ++ prodE rix (rg K k).xs) := Lib.hid (by
            rw [flat_take_succ (by rw [dat_length]; exact hkK), dat_getD])
          have HXN : Hid (∀ t ∈ P ++ ((dat K).take k).flatMap fun s => prodE rix s, Ex d t) := Lib.hid (fun t ht => by
            rcases List.mem_append.1 ht with h | h
            · exact HXT.out t h
            · obtain ⟨s, hs, h⟩ := List.mem_flatMap.1 h
              exact (HXR.out s (List.mem_of_mem_take hs)).2 t h)
          generalize rg K k = rk at *
          obtain ⟨rkA, rkc, rkx⟩ := rk
          simp only at hc2 hrk hbk HKS hpe
          have HPR := Lib.hid (fun W (hb : Below wr.heap.size wr W) => l04Product_any riA rkA rix.length ric rkx.length rkc rix rkx W rfl rfl HBD.out hbk hpe.1 ((HRI.out.below hbel).below hb) (hrk.below hb))
          have HPL := Lib.hid (nf_exlen hd hpe.2)
          have HNL := Lib.hid (show N.length ≤ 2000 by rw [rdRes_len N HN.out]; exact nf_exlen hd HXN.out)
          have HPX := Lib.hid hpe.2
          have hkki : (k : Int) < (n' : Int) := by omega
          have hc1 := cell_keep HC.out hbel
          have KS := Lib.hid (fun w' (hb : Below wr.heap.size wr w') => show w'.cell? ⟨b, o + i, none⟩ = some (.slice riA rix.length ric) ∧ w'.cell? ⟨b2, o2 + k, none⟩ = some (.slice rkA rkx.length rkc) from ⟨cell_keep hc1 hb, cell_keep hc2 hb⟩)
          have HB_0 := Lib.hid (Below.drew (Below.refl wr.heap.size wr))
          clear hrd hbel hrk hbk hkK hms hpe hc1 hc2
          go_wp2_with fail
          refine wp_region_held_drew (S := (fun w' => w'.cell? ⟨b, o + i, none⟩ = some (.slice riA rix.length ric) ∧ w'.cell? ⟨b2, o2 + k, none⟩ = some (.slice rkA rkx.length rkc))) (by kernel_rfl) (by first | exact KS.out _ HB_0.out | exact KS.out _ HB_1.out | exact KS.out _ HB_2.out) (fun hHeld => ?_)
          refine wpAnyH_take (i := 0) (oi := ?or1_0) (v := ?vr1_0) ?hr1_0 (by kernel_rfl) (by kernel_rfl) (by kernel_rfl) ?qr1_0 (Or.inl ⟨?wr1_0, ?yr1_0⟩) (by assumption) ?rr1_0
          case hr1_0 => (simp only [List.getElem?_toArray, List.getElem?_cons_succ, List.getElem?_cons_zero]; rfl)
          case qr1_0 => exact fun _ _ _ h => h
          case wr1_0 => rfl
          case yr1_0 => (intro w hSw; (try dsimp only at hSw); go_simp <;> with_reducible rfl)
          try simp only [Act.put, List.setIfInBounds_toArray, List.set_cons_zero, List.set_cons_succ]
          refine wpAnyH_take (i := 1) (oi := ?or1_1) (v := ?vr1_1) ?hr1_1 (by kernel_rfl) (by kernel_rfl) (by kernel_rfl) ?qr1_1 (Or.inl ⟨?wr1_1, ?yr1_1⟩) (by assumption) ?rr1_1
          case hr1_1 => (simp only [List.getElem?_toArray, List.getElem?_cons_succ, List.getElem?_cons_zero]; rfl)
          case qr1_1 => exact fun _ _ _ h => h
          case wr1_1 => rfl
          case yr1_1 => (intro w hSw; (try dsimp only at hSw); go_simp <;> with_reducible rfl)
          try simp only [Act.put, List.setIfInBounds_toArray, List.set_cons_zero, List.set_cons_succ]
          refine wpAnyH_take (i := 2) (oi := ?or1_2) (v := ?vr1_2) ?hr1_2 (by kernel_rfl) (by kernel_rfl) (by kernel_rfl) ?qr1_2 (Or.inl ⟨?wr1_2, ?yr1_2⟩) (by assumption) ?rr1_2
          case hr1_2 => (simp only [List.getElem?_toArray, List.getElem?_cons_succ, List.getElem?_cons_zero]; rfl)
          case qr1_2 => exact fun _ _ _ h => h
          case wr1_2 => rfl
          case yr1_2 => (intro w hSw; (try dsimp only at hSw); go_simp <;> with_reducible rfl)
          try simp only [Act.put, List.setIfInBounds_toArray, List.set_cons_zero, List.set_cons_succ]
          refine wpAnyH_take (i := 3) (oi := ?or1_3) (v := ?vr1_3) ?hr1_3 (by kernel_rfl) (by kernel_rfl) (by kernel_rfl) ?qr1_3 (Or.inl ⟨?wr1_3, ?yr1_3⟩) (by assumption) ?rr1_3
          case hr1_3 => (simp only [List.getElem?_toArray, List.getElem?_cons_succ, List.getElem?_cons_zero]; rfl)
          case qr1_3 => exact fun _ _ _ h => h
          case wr1_3 => rfl
          case yr1_3 => (intro w hSw; (try dsimp only at hSw); go_simp <;> with_reducible rfl)
          try simp only [Act.put, List.setIfInBounds_toArray, List.set_cons_zero, List.set_cons_succ]
          refine wpAnyH_take (i := 4) (oi := ?or1_4) (v := ?vr1_4) ?hr1_4 (by kernel_rfl) (by kernel_rfl) (by kernel_rfl) ?qr1_4 (Or.inl ⟨?wr1_4, ?yr1_4⟩) (by assumption) ?rr1_4
          case hr1_4 => (simp only [List.getElem?_toArray, List.getElem?_cons_succ, List.getElem?_cons_zero]; rfl)
          case qr1_4 => exact fun _ _ _ h => h
          case wr1_4 => rfl
          case yr1_4 => (intro w hSw; (try dsimp only at hSw); go_simp <;> with_reducible rfl)
          try simp only [Act.put, List.setIfInBounds_toArray, List.set_cons_zero, List.set_cons_succ]
          refine wpAnyH_take (i := 5) (oi := ?or1_5) (v := ?vr1_5) ?hr1_5 (by kernel_rfl) (by kernel_rfl) (by kernel_rfl) ?qr1_5 (Or.inl ⟨?wr1_5, ?yr1_5⟩) (by assumption) ?rr1_5
          case hr1_5 => (simp only [List.getElem?_toArray, List.getElem?_cons_succ, List.getElem?_cons_zero]; rfl)
          case qr1_5 => exact fun _ _ _ h => h
          case wr1_5 => rfl
          case yr1_5 => (intro w hSw; (try dsimp only at hSw); go_simp <;> with_reducible rfl)
          try simp only [Act.put, List.setIfInBounds_toArray, List.set_cons_zero, List.set_cons_succ]
          refine wpAnyH_take (i := 6) (oi := ?or1_6) (v := ?vr1_6) ?hr1_6 (by kernel_rfl) (by kernel_rfl) (by kernel_rfl) ?qr1_6 (Or.inl ⟨?wr1_6, ?yr1_6⟩) (by assumption) ?rr1_6
          case hr1_6 => (simp only [List.getElem?_toArray, List.getElem?_cons_succ, List.getElem?_cons_zero]; rfl)
          case qr1_6 => exact fun _ _ _ h => h
          case wr1_6 => rfl
          case yr1_6 => (intro w hSw; (try dsimp only at hSw); go_simp <;> with_reducible rfl)
          try simp only [Act.put, List.setIfInBounds_toArray, List.set_cons_zero, List.set_cons_succ]
          refine wpAnyH_take (i := 7) (oi := ?or1_7) (v := ?vr1_7) ?hr1_7 (by kernel_rfl) (by kernel_rfl) (by kernel_rfl) ?qr1_7 (Or.inl ⟨?wr1_7, ?yr1_7⟩) (by assumption) ?rr1_7
          case hr1_7 => (simp only [List.getElem?_toArray, List.getElem?_cons_succ, List.getElem?_cons_zero]; rfl)
          case qr1_7 => exact fun _ _ _ h => h
          case wr1_7 => rfl
          case yr1_7 => (intro w hSw; (try dsimp only at hSw); go_simp <;> with_reducible rfl)
          try simp only [Act.put, List.setIfInBounds_toArray, List.set_cons_zero, List.set_cons_succ]
          refine wpAnyH_take (i := 8) (oi := ?or1_8) (v := ?vr1_8) ?hr1_8 (by kernel_rfl) (by kernel_rfl) (by kernel_rfl) ?qr1_8 (Or.inl ⟨?wr1_8, ?yr1_8⟩) (by assumption) ?rr1_8
          case hr1_8 => (simp only [List.getElem?_toArray, List.getElem?_cons_succ, List.getElem?_cons_zero]; rfl)
          case qr1_8 => exact fun _ _ _ h => h
          case wr1_8 => rfl
          case yr1_8 => (intro w hSw; (try dsimp only at hSw); go_simp <;> with_reducible rfl)
          try simp only [Act.put, List.setIfInBounds_toArray, List.set_cons_zero, List.set_cons_succ]
          refine wpAnyH_ready (rs := [9]) (by kernel_rfl) (by simp) ?_
          refine AllReadyH.cons (o := ?or1_9) ?hr1_9 (fun K hK => ?kr1_9) AllReadyH.nil
          case hr1_9 => (simp only [List.getElem?_toArray, List.getElem?_cons_succ, List.getElem?_cons_zero]; rfl)
          go_simp
          go_at_call 246; refine (HPR.out _ HB_0.out).mono ?_; rintro e w1 ⟨A7, c7, O7, rfl, hd7, hr7, hc7, hb7⟩; have HB_1 := Lib.hid (HB_0.out.trans (hb7.mono HB_0.out.size)); have HD7 := Lib.hid hd7; have HR7 := Lib.hid hr7; clear hd7 hr7 hc7 hb7
          refine hK.out _ _ (by first | exact KS.out _ HB_0.out | exact KS.out _ HB_1.out | exact KS.out _ HB_2.out) (fun hHeld => ?_)
          clear hK K
          try simp only [Act.put, List.setIfInBounds_toArray, List.set_cons_zero, List.set_cons_succ]
          refine wpAnyH_ready (rs := [10]) (by kernel_rfl) (by simp) ?_
          refine AllReadyH.cons (o := ?or1_10) ?hr1_10 (fun K hK => ?kr1_10) AllReadyH.nil
          case hr1_10 => (simp only [List.getElem?_toArray, List.getElem?_cons_succ, List.getElem?_cons_zero]; rfl)
          go_simp
          go_at_call 215; refine (l01Sum_any A6 A7 N.length O7.length c6 c7 N O7 w1 rfl rfl (by have := HNL.out; omega) (by have := HPL.out; rw [rdRes_len O7 HD7.out]; omega) (fun q hq => by have h1 : (rg N q).xs ∈ dat N := List.mem_map.2 ⟨_, rg_mem hq, rfl⟩; rw [HN.out] at h1; have := (HXN.out _ (nf_sub h1)).len5 hd; omega) (fun q hq => by have h1 : (rg O7 q).xs ∈ dat O7 := List.mem_map.2 ⟨_, rg_mem hq, rfl⟩; rw [HD7.out] at h1; have := (HPX.out _ (nf_sub h1)).len5 hd; omega) ((HO6.out.rd rfl).below HB_1.out) HR7.out).mono ?_; rintro e w2 ⟨v8, O8, rfl, hd8, ho8, hb8⟩; obtain ⟨A8, c8, rfl, hc8, _⟩ := owns_shape ho8.out; have HB_2 := Lib.hid (HB_1.out.trans (hb8.mono HB_1.out.size)); have HD8 := Lib.hid hd8; have HO8 := Lib.hid (ho8.mono (Nat.le_trans hBw.out.size HB_1.out.size)); clear hd8 ho8 hb8
          refine hK.out _ _ (by first | exact KS.out _ HB_0.out | exact KS.out _ HB_1.out | exact KS.out _ HB_2.out) (fun hHeld => ?_)
          clear hK K
          try simp only [Act.put, List.setIfInBounds_toArray, List.set_cons_zero, List.set_cons_succ]
          refine wpAnyH_take (i := 11) (oi := ?or1_11) (v := ?vr1_11) ?hr1_11 (by kernel_rfl) (by kernel_rfl) (by kernel_rfl) ?qr1_11 (Or.inl ⟨?wr1_11, ?yr1_11⟩) (by assumption) ?rr1_11
          case hr1_11 => (simp only [List.getElem?_toArray, List.getElem?_cons_succ, List.getElem?_cons_zero]; rfl)
          case qr1_11 => exact fun _ _ _ h => h
          case wr1_11 => rfl
          case yr1_11 => (intro w hSw; (try dsimp only at hSw); go_simp <;> with_reducible rfl)
          try simp only [Act.put, List.setIfInBounds_toArray, List.set_cons_zero, List.set_cons_succ]
          refine wpAnyH_done (by kernel_rfl) ?_ _
          go_wp2_with fail
          go_roundw
          case rel => exact ⟨k + 1, A8, c8, O8, by omega, by go_num, rfl, HO8.out, Lib.hid (by rw [HD8.out, HN.out, HD7.out, sum_nf2, HKS.out, List.append_assoc]), HB6.out.trans (HB_2.out.mono hs6)⟩
          case measure => simp [intOf]; omega
        · obtain rfl : k = n' := by omega
          have hT : (dat K).take k = dat K := List.take_of_length_le (by rw [dat_length, ← Hn'.out]; exact Nat.le_refl _)
          rw [hT] at HN
          have hkki : ¬ (k : Int) < (k : Int) := by omega
          clear hrd hbel hT
          go_wp2_with fail
          go_roundw
          case rel => exact ⟨i + 1, A6, c6, N, by omega, by go_num, rfl, HO6.out, Lib.hid (by rw [HN.out, HFS.out]), hBw.out⟩
          case measure => simp [intOf]; omega
    · obtain rfl : i = n := by omega
      have hT : (dat L).take i = dat L := List.take_of_length_le (by rw [dat_length, ← Hn.out]; exact Nat.le_refl _)
      rw [hT] at HM
      have hii : ¬ (i : Int) < (i : Int) := by omega
      clear hrd hbel hT
      go_wp2_with fail
      go_ret
      exact ⟨_, M, rfl, HM.out, HO.out, HB.out⟩
end Go.Proofs.YtdkmdmpaflgfaaaGreatDoor

namespace Go.Proofs.YtdkmdmpaflgfaaaGreatDoor
open Go.RowKit

theorem deg_step (r : List Int) {j : Nat} (hj : j < r.length) : degW 0 (r.drop j) = (leadW r).getD j 0 + degW 0 (r.drop (j + 1)) := by
  rw [← lead_deg, ← lead_deg, ← leadW_drop, ← leadW_drop]
  have : j < (leadW r).length := by rw [leadW_len]; exact hj
  rw [List.drop_eq_getElem_cons this, List.sum_cons]
  simp [List.getD, this]

set_option maxRecDepth 100000 in
set_option maxHeartbeats 2000000 in
theorem l05Word_any (A : Option Addr) (n c : Nat) (r : List Int) (w : World) (hn : n = (leadW r).length) (hnn : Nn r) (htr : Tr r) (hd : degW 0 r ≤ 40) (hR : Rd w A (iv (leadW r))) :
    Calls Tryz.prog 213 #[.slice A n c] w (ResRows (wordE (leadW r)) w) := by
  have hl5 := Ex.len5 hd ⟨hnn, htr, rfl⟩
  have HR := Lib.hid hR
  have Hn := Lib.hid hn
  have HRL := Lib.hid (show n = r.length by rw [hn, leadW_len])
  have HBD := Lib.hid (word_bd hnn htr hd)
  have HCN := Lib.hid (word_cnt hnn htr hd)
  have HDD := Lib.hid (fun k => (show degW 0 (r.drop k) ≤ 40 from Int.le_trans (deg_drop hnn k) hd))
  have HEX := Lib.hid (word_ex hnn htr hd)
  have HLB := Lib.hid (fun k (hk : k < r.length) => lead_bd hnn hd hk)
  have HWD := Lib.hid (fun k (hk : k < r.length) => wordE_drop hk)
  have HDS := Lib.hid (fun k (hk : k < r.length) => deg_step r hk)
  clear hR hn
  have hn10 : n ≤ 10 := by have := HRL.out; omega
  go_enter Tryz.func213, Tryz.ntmps213
  go_wp2_with fail
  go_loopw [3, 4] (fun v3 v4 wr => ∃ k : Nat, ∃ A3 c3, ∃ M : List Row, k ≤ n ∧ v4 = .int .i64 ((k : Int) - 1) ∧ v3 = .slice A3 M.length c3 ∧ OwnR wr w.heap.size (.slice A3 M.length c3) M ∧ Hid (dat M = wordE ((leadW r).drop k)) ∧ Below w.heap.size w wr) (fun _ v4 _ => (intOf v4 + 1).toNat)
  case atStart =>
    refine ⟨n, _, 1, [⟨some ⟨w.heap.size, 0, none⟩, 0, []⟩], Nat.le_refl _, rfl, rfl, own10 w, Lib.hid ?_, ((Below.refl _ _).alloc (Nat.le_refl _) _).alloc (by simp) _⟩
    rw [List.drop_of_length_le (by rw [← Hn.out]; exact Nat.le_refl _)]
    rfl
  case round =>
    obtain ⟨k, A3, c3, M, hk, rfl, rfl, hrd, HM, hbel⟩ := hrel
    obtain ⟨wv, hwv⟩ : ∃ wv, wv = wr := ⟨_, rfl⟩
    subst hwv
    have HO := Lib.hid hrd
    have HB := Lib.hid hbel
    cases k with
    | zero =>
      rw [List.drop_zero] at HM
      clear hrd hbel
      go_wp2_with fail
      go_ret
      exact ⟨_, M, rfl, HM.out, HO.out, HB.out⟩
    | succ j =>
      have e1 : (((j + 1 : Nat) : Int) - 1) = (j : Int) := by omega
      rw [e1]
      have hjr : j < r.length := by rw [← HRL.out]; omega
      obtain ⟨b, o, rfl, hcr⟩ := (HR.out.below hbel).atI (show j < (leadW r).length by rw [← Hn.out]; omega)
      have hjn : (j : Int) < (n : Int) := by omega
      have hlb := HLB.out j hjr
      have HWJ := Lib.hid (HWD.out j hjr)
      have hds := HDS.out j hjr
      have hdd := HDD.out j
      generalize hx : (leadW r).getD j 0 = x at *
      have hsz := hbel.size
      have HMU : ∀ A4 c4 N (w2 : World), Below wv.heap.size wv w2 → dat N = [[x]] → N.length = 1 → RdR w2 A4 N → Calls Tryz.prog 223 #[.slice A4 (1 : Nat) c4, .slice A3 M.length c3] w2 (ResRows (wordE ((leadW r).drop j)) w2) := fun A4 c4 N w2 hb2 hN hl hR2 => by
        have h := l04Times_any (x + degW 0 (r.drop (j + 1))) (by omega) A4 A3 1 M.length c4 c3 N M w2 hl.symm rfl (by omega) (by
            have h1 := HCN.out (j + 1)
            rw [← HM.out, dat_length] at h1; omega) (by rw [hN]; intro t ht; rw [List.mem_singleton] at ht; subst ht; exact ⟨by simp, fun y hy => by rw [List.mem_singleton] at hy; subst hy; omega⟩)
          (by rw [HM.out]; exact HBD.out _) (by
            rw [hN, HM.out]
            intro r1 hr1 s hs
            rw [List.mem_singleton] at hr1
            subst hr1
            refine ⟨Nat.le_trans (prodE_count (by omega) (HDD.out _) (HEX.out _ s hs)) (by omega), fun t ht => (prod_one hlb.1 (HEX.out _ s hs) ht).1⟩) hR2 ((HO.out.rd rfl).below hb2)
        rw [hN, HM.out, ← HWJ.out] at h
        exact h
      have HMU := Lib.hid HMU
      clear hrd hbel hjr hds hdd
      go_wp2_with fail
      refine (HMU.out _ _ _ _ (((Below.refl _ _).alloc (Nat.le_refl _) _).alloc (by simp) _) (by rfl) (by rfl) ((own11 wv x).rd rfl)).mono ?_
      rintro e w7 ⟨v7, O7, rfl, hd7, hr7, hb7⟩
      obtain ⟨A7, c7, rfl, hc7, _⟩ := owns_shape hr7.out
      have HO7 := Lib.hid (hr7.mono (Nat.le_trans HB.out.size (by simp; omega)))
      have HB7 := Lib.hid (((HB.out.alloc hsz (.cells #[.int .i64 x] 2)).alloc (by simp; omega) (.cells #[.slice (some ⟨wv.heap.size, 0, none⟩) 1 1] 22)).trans (hb7.mono (by simp; omega)))
      have HD7 := Lib.hid hd7
      clear hr7 hb7 hd7
      go_wp2_with fail
      go_roundw
      case rel => exact ⟨j, A7, c7, O7, by omega, by go_num, rfl, HO7.out, HD7, HB7.out⟩
      case measure => simp [intOf]
end Go.Proofs.YtdkmdmpaflgfaaaGreatDoor
