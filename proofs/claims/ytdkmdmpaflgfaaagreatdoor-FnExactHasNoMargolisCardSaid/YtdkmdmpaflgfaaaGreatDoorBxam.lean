/- plain: the list of the admissible words of a degree · the reference: the list of the admissible words of a degree · the reference: all admissible words of a degree; the place of a list · rows of rows that are read in blocks of a known type: what outlasts the growth of an outer row · the degree of a list of exponents: both sides · the reference: the words of an element, by elimination · impl's times, tableOf -/
import Derived.Test.YtdkmdmpaflgfaaaGreatDoorBxak
import Derived.Test.YtdkmdmpaflgfaaaGreatDoorBxal
import Derived.Test.YtdkmdmpaflgfaaaGreatDoorBxab
import Derived.Deep.DeepCutAuto
import Derived.StillTailTactics
set_option linter.all false
namespace Go.Proofs.YtdkmdmpaflgfaaaGreatDoor

/-- the words that come behind w, of degree d, first letter at most m (f: how deep) -/
def wordsN : Nat → Int → Int → List Int → LL
  | 0, _, _, w => [w]
  | f + 1, d, m, w => if d = 0 then [w] else (List.range (min m d).toNat).flatMap fun (a : Nat) => wordsN f (d - ((a : Int) + 1)) (((a : Int) + 1) / 2) (w ++ [(a : Int) + 1])
/-- letters at least 1, each at least twice the next, the first at most m -/
def AdW : Int → List Int → Prop
  | _, [] => True
  | m, a :: t => 1 ≤ a ∧ a ≤ m ∧ AdW (a / 2) t
theorem AdW.sum_nn : ∀ {m : Int} {t : List Int}, AdW m t → 0 ≤ t.sum ∧ (t ≠ [] → 1 ≤ t.sum)
  | _, [], _ => ⟨Int.le_refl _, fun h => absurd rfl h⟩
  | m, a :: t, h => by
    have := (AdW.sum_nn h.2.2).1
    have := h.1
    simp only [List.sum_cons]
    exact ⟨by omega, fun _ => by omega⟩
theorem mem_wordsN : ∀ (f : Nat) (d m : Int) (w x : List Int), 0 ≤ d → d ≤ f → (x ∈ wordsN f d m w ↔ ∃ t, x = w ++ t ∧ AdW m t ∧ t.sum = d)
  | 0, d, m, w, x, h0, hf => by
    have hd : d = 0 := by omega
    subst hd
    simp only [wordsN, List.mem_singleton]
    constructor
    · intro e; exact ⟨[], by simpa using e, trivial, rfl⟩
    · rintro ⟨t, e, ht, hs⟩
      have : t = [] := Classical.byContradiction fun hne => by have := ht.sum_nn.2 hne; omega
      subst this; simpa using e
  | f + 1, d, m, w, x, h0, hf => by
    unfold wordsN
    split
    · rename_i hd
      subst hd
      rw [List.mem_singleton]
      constructor
      · intro e; exact ⟨[], by simpa using e, trivial, rfl⟩
      · rintro ⟨t, e, ht, hs⟩
        have : t = [] := Classical.byContradiction fun hne => by have := ht.sum_nn.2 hne; omega
        subst this; simpa using e
    · rename_i hd
      rw [List.mem_flatMap]
      constructor
      · rintro ⟨a, ha, hx⟩
        rw [List.mem_range] at ha
        have hx2 := (mem_wordsN f _ _ _ x (by omega) (by omega)).1 hx
        obtain ⟨t, e, ht, hs⟩ := hx2
        exact ⟨((a : Int) + 1) :: t, by rw [e, List.append_assoc]; rfl, ⟨by omega, by omega, ht⟩, by simp only [List.sum_cons]; omega⟩
      · rintro ⟨t, e, ht, hs⟩
        cases t with
        | nil => simp at hs; omega
        | cons a t =>
          obtain ⟨h1, h2, h3⟩ := ht
          have h4 := h3.sum_nn.1
          simp only [List.sum_cons] at hs
          refine ⟨(a - 1).toNat, List.mem_range.2 (by omega), ?_⟩
          have ea : (((a - 1).toNat : Nat) : Int) + 1 = a := by omega
          rw [ea]
          exact (mem_wordsN f _ _ _ x (by omega) (by omega)).2 ⟨t, by rw [e, List.append_assoc]; rfl, h3, by omega⟩
theorem nodup_wordsN : ∀ (f : Nat) (d m : Int) (w : List Int), 0 ≤ d → d ≤ f → (wordsN f d m w).Nodup
  | 0, _, _, w, _, _ => by simp [wordsN]
  | f + 1, d, m, w, h0, hf => by
    unfold wordsN
    split
    · simp
    · unfold List.Nodup
      rw [List.pairwise_flatMap]
      refine ⟨fun a ha => nodup_wordsN f _ _ _ (by have := List.mem_range.1 ha; omega) (by omega), ?_⟩
      refine List.Pairwise.imp_of_mem (R := fun a b : Nat => a ≠ b) ?_ List.nodup_range
      intro a b ha hb hne x hx y hy e
      rw [List.mem_range] at ha hb
      subst e
      obtain ⟨t, e1, _, _⟩ := (mem_wordsN f _ _ _ x (by omega) (by omega)).1 hx
      obtain ⟨u, e2, _, _⟩ := (mem_wordsN f _ _ _ x (by omega) (by omega)).1 hy
      rw [e1, List.append_assoc, List.append_assoc] at e2
      have := List.append_cancel_left e2
      simp at this
      omega
/-- the exponents of a word -/
def unW : List Int → List Int
  | [] => []
  | a :: t => (a - 2 * t.headD 0) :: unW t
theorem lead_unW : ∀ t : List Int, leadW (unW t) = t
  | [] => rfl
  | a :: t => by
    simp only [unW, leadW]
    rw [lead_unW t]
    congr 1; omega
theorem adw_un : ∀ {m : Int} {t : List Int}, AdW m t → Nn (unW t) ∧ Tr (unW t)
  | _, [], _ => ⟨fun x hx => (by cases hx), trivial⟩
  | m, a :: t, h => by
    obtain ⟨h1, h2, h3⟩ := h
    obtain ⟨i1, i2⟩ := adw_un h3
    have hh : 2 * t.headD 0 ≤ a := by
      cases t with
      | nil => simp; omega
      | cons b t => have := h3.2.1; simp; omega
    refine ⟨fun x hx => ?_, ⟨fun e => ?_, i2⟩⟩
    · simp only [unW] at hx
      rcases List.mem_cons.1 hx with e | hx
      · omega
      · exact i1 x hx
    · have : t = [] := by
        cases t with
        | nil => rfl
        | cons b t => simp [unW] at e
      subst this; simp; omega
theorem lead_adw : ∀ {r : List Int}, Nn r → Tr r → ∀ {m : Int}, (leadW r).headD 0 ≤ m → AdW m (leadW r)
  | [], _, _, _, _ => trivial
  | x :: r, hn, ht, m, hm => by
    have hx := hn.head
    have h0 := headD_nn (lead_nn hn.tail)
    simp only [leadW, List.headD_cons] at hm ⊢
    refine ⟨?_, hm, lead_adw hn.tail ht.2 (by omega)⟩
    cases r with
    | nil => have := ht.1 rfl; simp [leadW]; omega
    | cons y r =>
      have := lead_adw hn.tail ht.2 (Int.le_refl _)
      simp only [leadW] at this ⊢
      have := this.1
      simp only [List.headD_cons]; omega
/-- all admissible words of degree d -/
def allW (d : Int) : LL := wordsN d.toNat d d []
theorem mem_allW {d : Int} (h0 : 0 ≤ d) (w : List Int) : w ∈ allW d ↔ IsW d w := by
  unfold allW
  rw [mem_wordsN _ _ _ _ _ h0 (by omega)]
  constructor
  · rintro ⟨t, e, ht, hs⟩
    rw [List.nil_append] at e
    subst e
    obtain ⟨h1, h2⟩ := adw_un ht
    exact ⟨unW w, ⟨h1, h2, by rw [← lead_deg, lead_unW, hs]⟩, (lead_unW w).symm⟩
  · rintro ⟨r, hr, rfl⟩
    exact ⟨leadW r, by simp, lead_adw hr.nn hr.tr (by have := lead_head_le hr.nn; rw [hr.deg] at this; exact this), by rw [lead_deg, hr.deg]⟩
theorem nodup_allW {d : Int} (h0 : 0 ≤ d) : (allW d).Nodup := nodup_wordsN _ _ _ _ h0 (by omega)
end Go.Proofs.YtdkmdmpaflgfaaaGreatDoor

namespace Go.Proofs.YtdkmdmpaflgfaaaGreatDoor
open Go.RowKit

theorem Keeps.moreO {w wr w' : World} {b : Option Nat} {S : List (Option Nat)} (h : Keeps w wr [b]) (h2 : Keeps wr w' S) (hS : ∀ j, some j ∈ S → some j = b ∨ w.heap.size ≤ j) : Keeps w w' [b] :=
  h.trans h2 (fun j hj hm => by
    rcases hm with hm | hm
    · exact hm
    · rcases hS j hm with h | h
      · rw [h]; exact List.mem_singleton.2 rfl
      · omega)
/-- the list v of the rows M has grown by the lists Q -/
def WordsP (B : Nat) (v : Value) (M : List Row) (Q : LL) (w : World) (e : Ending) (w' : World) : Prop :=
  ∃ A c N, e = .returned (.slice A N.length c) ∧ OwnR w' B (.slice A N.length c) N ∧ dat N = dat M ++ Q ∧ Keeps w w' [v.ownBlock] ∧ (∀ k, (Value.slice A N.length c).ownBlock = some k → some k = v.ownBlock ∨ w.heap.size ≤ k)
theorem words_put {w w3 : World} {B n c p cp g c2 : Nat} {A S : Option Addr} {M : List Row} {s : List Int} {o : Obj} (hn : n = M.length) (hp : p = s.length) (ho : OwnR w B (.slice A n c) M) (hs : w.ownsRow B 2 1 (.slice S p cp) p (iv s))
    (hd : ∀ i, i < M.length → (Value.slice S p cp).ownBlock = none ∨ (Value.slice S p cp).ownBlock ≠ (rg M i).val.ownBlock)
    (hown : w3.ownsRow B 22 1 (.slice (some ⟨g, 0, none⟩) (n + 1) c2) (n + 1) (hv M ++ [.slice S p cp])) (hg : (w.alloc o).grownBy w3 (Value.slice A n c).ownBlock) (hat : (Value.slice A n c).ownBlock = some g ∨ g = (w.alloc o).heap.size) :
    WordsP B (.slice A n c) M [s] w (.returned (.slice (some ⟨g, 0, none⟩) (n + 1) c2)) w3 := by
  subst hn; subst hp
  refine ⟨some ⟨g, 0, none⟩, c2, M ++ [⟨S, cp, s⟩], by simp, ?_, by simp [dat], ((Keeps.refl w []).alloc o).trans (Keeps.of_grown hg) (by simp), ?_⟩
  · have := OwnR.app (r := ⟨S, cp, s⟩) ho hs hd hown hg
    rw [List.length_append]; exact this
  · intro k hk
    have : g = k := by simpa [Value.ownBlock] using hk
    subst this
    rcases hat with h | h
    · exact .inl h.symm
    · right; rw [h]; simp

set_option maxHeartbeats 1000000 in
theorem l03Words_zero (m : Int) (A S : Option Addr) (n c p cp B : Nat) (M : List Row) (s : List Int) (w : World) (hB : B ≤ w.heap.size) (hn : n = M.length) (hp : p = s.length) (hsm : n ≤ 1000000) (ho : OwnR w B (.slice A n c) M) (hs : w.ownsRow B 2 1 (.slice S p cp) p (iv s))
    (hd : ∀ i, i < M.length → (Value.slice S p cp).ownBlock = none ∨ (Value.slice S p cp).ownBlock ≠ (rg M i).val.ownBlock) :
    Calls Tryz.prog 235 #[.int .i64 0, .int .i64 m, .slice S p cp, .slice A n c] w (WordsP B (.slice A n c) M [s] w) := by
  have HO := Lib.hid ho
  have HS := Lib.hid hs
  have HD := Lib.hid hd
  have Hn := Lib.hid hn
  have Hp := Lib.hid hp
  have hq : n < 1099511627776 := by omega
  have HX := Lib.hid (show w.ownsRow B 22 1 (.slice A n c) n (hv M) by rw [hn]; rw [hn] at ho; exact ho.out)
  clear ho hs hd hn hp
  go_enter Tryz.func235, Tryz.ntmps235
  go_wp2_with (at_builtin; refine wpList_app1 _ _ _ _ _ etS (by rfl) (by rfl) B (.slice A n c) n (hv M) (by rfl) (HX.out.alloc _) _ (.slice S p cp) (by rfl) (new_cell _ _ _) (by rfl) hq (Nat.le_trans hB (by simp)) ?_; (intro g2 c2 w3 hown3 hg3 hat3 hlt3; have HN := Lib.hid (words_put Hn.out Hp.out HO.out HS.out HD.out hown3 hg3 hat3); clear hown3 hg3 hat3 hlt3))
  go_ret
  exact HN.out

theorem wordsN_count {k K : Nat} (hk : k < K) (g : Nat → LL) : ((List.range k).flatMap g).length + (g k).length ≤ ((List.range K).flatMap g).length := by
  obtain ⟨j, rfl⟩ : ∃ j, K = k + 1 + j := ⟨K - (k + 1), by omega⟩
  rw [List.range_add, List.flatMap_append, List.range_succ, List.flatMap_append]
  simp only [List.length_append, List.flatMap_cons, List.flatMap_nil, List.append_nil]
  omega
theorem flat_rng_succ (k : Nat) (g : Nat → LL) : (List.range (k + 1)).flatMap g = (List.range k).flatMap g ++ g k := by
  rw [List.range_succ, List.flatMap_append]; simp
theorem iv_snocI (s : List Int) (x : Int) : iv s ++ [.int .i64 x] = iv (s ++ [x]) := by simp [iv]
theorem words_dis {xs : List Value} {wr w3 : World} {B g p c : Nat} {v : Value} {N : List Row} (ho : OwnR wr B v N) (h : w3.ownsRow wr.heap.size 2 1 (.slice (some ⟨g, 0, none⟩) p c) p xs) :
    ∀ i, i < N.length → (Value.slice (some ⟨g, 0, none⟩) p c).ownBlock = none ∨ (Value.slice (some ⟨g, 0, none⟩) p c).ownBlock ≠ (rg N i).val.ownBlock := fun i hi => .inr fun e => by
  have h1 := (h.lt g rfl).1
  have h2 := ((ho.inn i hi).lt g e.symm).2
  omega

set_option maxRecDepth 100000 in
set_option maxHeartbeats 4000000 in
theorem l03Words_any : ∀ (f : Nat) (d m : Int) (A S : Option Addr) (n c p cp B : Nat) (M : List Row) (s : List Int) (w : World), 0 ≤ d → d ≤ f → d ≤ 1000 → m ≤ 1000 → B ≤ w.heap.size → n = M.length → p = s.length → p + d.toNat ≤ 1000 → n + (wordsN f d m s).length ≤ 1000000 → OwnR w B (.slice A n c) M → w.ownsRow B 2 1 (.slice S p cp) p (iv s) →
    (∀ i, i < M.length → (Value.slice S p cp).ownBlock = none ∨ (Value.slice S p cp).ownBlock ≠ (rg M i).val.ownBlock) →
    Calls Tryz.prog 235 #[.int .i64 d, .int .i64 m, .slice S p cp, .slice A n c] w (WordsP B (.slice A n c) M (wordsN f d m s) w)
  | 0, d, m, A, S, n, c, p, cp, B, M, s, w, h0, hf, _, _, hB, hn, hp, _, hsm, ho, hs, hd => by
    obtain rfl : d = 0 := by omega
    exact l03Words_zero m A S n c p cp B M s w hB hn hp (by omega) ho hs hd
  | f + 1, d, m, A, S, n, c, p, cp, B, M, s, w, h0, hf, hd1, hm1, hB, hn, hp, hpl, hsm, ho, hs, hd => by
    by_cases hd0 : d = 0
    · subst hd0
      have e : wordsN (f + 1) 0 m s = [s] := by simp [wordsN]
      rw [e]
      exact l03Words_zero m A S n c p cp B M s w hB hn hp (by omega) ho hs hd
    have IH := Lib.hid (l03Words_any f)
    have eW : wordsN (f + 1) d m s = (List.range (min m d).toNat).flatMap fun (a : Nat) => wordsN f (d - ((a : Int) + 1)) (((a : Int) + 1) / 2) (s ++ [(a : Int) + 1]) := by
      rw [wordsN, if_neg hd0]
    rw [eW] at hsm ⊢
    obtain ⟨g, HG⟩ : ∃ g : Nat → LL, Hid (g = fun (a : Nat) => wordsN f (d - ((a : Int) + 1)) (((a : Int) + 1) / 2) (s ++ [(a : Int) + 1])) := ⟨_, Lib.hid rfl⟩
    rw [← HG.out] at hsm ⊢
    obtain ⟨K, HK⟩ : ∃ K, Hid (K = (min m d).toNat) := ⟨_, Lib.hid rfl⟩
    rw [← HK.out] at hsm ⊢
    have hKd : (K : Int) ≤ d := by have := HK.out; omega
    have hK1 : ∀ k : Nat, k < K → (k : Int) + 1 ≤ m ∧ (k : Int) + 1 ≤ d := fun k hk => by have := HK.out; omega
    have hK2 : ∀ k : Nat, ¬ k < K → ¬ (k : Int) + 1 ≤ m ∨ ¬ (k : Int) + 1 ≤ d := fun k hk => by have := HK.out; omega
    have HK1 := Lib.hid hK1
    have HK2 := Lib.hid hK2
    have HSM := Lib.hid hsm
    have HKS := Lib.hid (fun wr (hk : Keeps w wr [(Value.slice A n c).ownBlock]) => show Rd wr S (iv s) from owns_Rd (owns_keeps hs hk (by have := own_ne2 hs ho.out (by decide); simpa using this)))
    have HP1 := Lib.hid hp
    have hpl1 : p + d.toNat ≤ 1000 := hpl
    have hf1 : d ≤ (f : Int) + 1 := by omega
    have HHF := Lib.hid hf1
    subst hn
    have hdb : (d == 0) = false := by simpa using hd0
    have HO0 := Lib.hid ho
    clear ho hs hd hp eW hsm hd0 hK1 hK2 hf hf1
    go_enter Tryz.func235, Tryz.ntmps235
    go_wp2_with fail
    go_loopw [3, 9] (fun v3 v9 wr => ∃ k : Nat, ∃ A3 c3, ∃ N : List Row, k ≤ K ∧ v9 = .int .i64 ((k : Int) + 1) ∧ v3 = .slice A3 N.length c3 ∧ OwnR wr B (.slice A3 N.length c3) N ∧ Hid (dat N = dat M ++ (List.range k).flatMap g) ∧ Keeps w wr [(Value.slice A M.length c).ownBlock] ∧ Hid (∀ b, (Value.slice A3 N.length c3).ownBlock = some b → some b = (Value.slice A M.length c).ownBlock ∨ w.heap.size ≤ b)) (fun _ v9 _ => (d - intOf v9 + 1).toNat)
    case atStart => exact ⟨0, A, c, M, Nat.zero_le _, rfl, rfl, HO0.out, Lib.hid (by simp), Keeps.refl _ _, Lib.hid (fun b hb => .inl hb.symm)⟩
    case round =>
      obtain ⟨k, A3, c3, N, hk, rfl, rfl, ho, HN, hkp, HOB⟩ := hrel
      have HO := Lib.hid ho
      have HKP := Lib.hid hkp
      have hsz := hkp.size
      have HNL : Hid (N.length = M.length + ((List.range k).flatMap g).length) := Lib.hid (by
        have := congrArg List.length HN.out
        simpa only [dat_length, List.length_append] using this)
      by_cases hlt : k < K
      · obtain ⟨hkm, hkd⟩ := HK1.out k hlt
        have hct := wordsN_count hlt g
        have hNs : N.length + (g k).length ≤ 1000000 := by have := HNL.out; have := HSM.out; omega
        have HNS : Hid (N.length + (wordsN f (d - ((k : Int) + 1)) (((k : Int) + 1) / 2) (s ++ [(k : Int) + 1])).length ≤ 1000000) := Lib.hid (by
          have : g k = wordsN f (d - ((k : Int) + 1)) (((k : Int) + 1) / 2) (s ++ [(k : Int) + 1]) := by rw [HG.out]
          rw [← this]; exact hNs)
        have hq : p < 1099511627776 := by omega
        have HCO := Lib.hid (l01Own_any S p cp (iv s) wr (by rw [iv_length]; exact HP1.out) (by omega) (iv_one _) (HKS.out wr hkp))
        clear ho hkp hct
        go_wp2_with fail
        refine HCO.out.mono ?_
        rintro e w1 ⟨g1, cap, rfl, ho1, hb1⟩
        have HO1 := Lib.hid ho1
        have HB1 := Lib.hid hb1
        clear ho1 hb1
        go_wp2_with (at_builtin; refine wpList_app1 _ _ _ _ _ etI (by rfl) (by rfl) wr.heap.size (.slice (some ⟨g1, 0, none⟩) p cap) p (iv s) (by rfl) (HO1.out.alloc _) _ (.int .i64 ((k : Int) + 1)) (by rfl) (new_cell _ _ _) (by rfl) hq (Nat.le_trans HB1.out.size (by simp)) ?_; (intro g2 c2 w3 hown3 hg3 hat3 hlt3; have HO3 := Lib.hid hown3; have HB3 := Lib.hid (below_app2 HB1.out HB1.out.size HO1.out hg3); clear hown3 hg3 hat3 hlt3))
        have HX := HO3.out
        rw [iv_snocI] at HX
        refine (IH.out (d - ((k : Int) + 1)) (((k : Int) + 1) / 2) A3 (some ⟨g2, 0, none⟩) N.length c3 (p + 1) c2 B N (s ++ [(k : Int) + 1]) w3 (by omega) (by have := HHF.out; omega) (by omega) (by omega) (Nat.le_trans hB (Nat.le_trans hsz HB3.out.size)) rfl (by rw [List.length_append, List.length_singleton, ← HP1.out]) (by omega) HNS.out (HO.out.later HB3.out) (HX.mono (Nat.le_trans hB hsz)) (words_dis HO.out HX)).mono ?_
        rintro e w4 ⟨A5, c5, N5, rfl, ho5, hd5, hk5, hb5⟩
        have HO5 := Lib.hid ho5
        have HD5 := Lib.hid hd5
        have HK5 := Lib.hid hk5
        have HB5 := Lib.hid hb5
        clear ho5 hd5 hk5 hb5 HX
        go_wp2_with fail
        go_roundw
        case rel =>
          refine ⟨k + 1, A5, c5, N5, hlt, by go_num, rfl, HO5.out, Lib.hid ?_, ?_, Lib.hid ?_⟩
          · rw [HD5.out, HN.out, flat_rng_succ, List.append_assoc]
            congr 2
            rw [HG.out]
          · refine (HKP.out.moreO (Keeps.of_below HB3.out) (by simp)).moreO HK5.out ?_
            intro j hj
            rw [List.mem_singleton] at hj
            exact HOB.out j hj.symm
          · intro b hb
            rcases HB5.out b hb with h | h
            · exact HOB.out b h.symm
            · right; have := HB3.out.size; omega
        case measure => simp [intOf]; omega
      · obtain rfl : k = K := by omega
        have hex := HK2.out k hlt
        clear ho hkp
        have HEND := Lib.hid (show WordsP B (.slice A M.length c) M ((List.range k).flatMap g) w (.returned (.slice A3 N.length c3)) wr from ⟨A3, c3, N, rfl, HO.out, HN.out, HKP.out, HOB.out⟩)
        by_cases hm2 : (k : Int) + 1 ≤ m
        · have hd2 : ¬ (k : Int) + 1 ≤ d := by omega
          clear hex
          go_wp2_with fail
          go_ret
          exact HEND.out
        · clear hex
          go_wp2_with fail
          go_ret
          exact HEND.out
end Go.Proofs.YtdkmdmpaflgfaaaGreatDoor

namespace Go.Proofs.YtdkmdmpaflgfaaaGreatDoor
open Go.RowKit

theorem nf_len_nodup {L : LL} (h : L.Nodup) : (nf L).length = L.length := by
  refine (List.perm_iff_count.2 fun z => ?_).length_eq
  rw [count_as (as_nf L), h.count]
  have hc := h.count (a := z)
  have hm : z ∈ nf L ↔ L.count z % 2 = 1 := mem_nf
  by_cases hz : z ∈ L
  · rw [if_pos hz] at hc ⊢; rw [if_pos (hm.2 (by omega))]
  · rw [if_neg hz] at hc ⊢; rw [if_neg (fun e => by have := hm.1 e; omega)]
theorem un_inj {t u : List Int} (h : unW t = unW u) : t = u := by rw [← lead_unW t, ← lead_unW u, h]
theorem un_lead (r : List Int) : unW (leadW r) = r := lead_inj (lead_unW (leadW r))
/-- there are few words of a degree -/
theorem words_count {d : Int} (hd : d ≤ 40) {Q : LL} (hn : Q.Nodup) (hW : ∀ w ∈ Q, IsW d w) : Q.length ≤ 2000 := by
  have h1 : (Q.map unW).Nodup := by
    unfold List.Nodup
    rw [List.pairwise_map]
    exact hn.imp fun hne e => hne (un_inj e)
  have h2 := ex_count hd (as_nf (Q.map unW)) (fun t ht => by
    obtain ⟨w, hw, rfl⟩ := List.mem_map.1 (nf_sub ht)
    obtain ⟨r, hr, rfl⟩ := hW w hw
    rw [un_lead]; exact hr)
  rw [nf_len_nodup h1] at h2
  simpa using h2

set_option maxRecDepth 100000 in
set_option maxHeartbeats 1000000 in
theorem l03Basis_any (d : Int) (h0 : 0 ≤ d) (hd : d ≤ 40) (w : World) : Calls Tryz.prog 212 #[.int .i64 d] w (ResRows (allW d) w) := by
  have HC := Lib.hid (show (wordsN d.toNat d d []).length ≤ 2000 from words_count hd (nodup_allW h0) (fun x hx => (mem_allW h0 x).1 hx))
  go_enter Tryz.func212, Tryz.ntmps212
  go_wp2_with fail
  refine (l03Words_any d.toNat d d none (some ⟨w.heap.size, 0, none⟩) 0 0 0 0 w.heap.size [] [] _ h0 (by omega) (by omega) (by omega) (by simp) rfl rfl (by omega) (by have := HC.out; omega) (OwnR.nil _ _) (World.ownsRow_made w #[] 0 (Nat.le_refl _) (by decide) (by simp)) (fun i hi => by cases hi)).mono ?_
  rintro e w7 ⟨A7, c7, N7, rfl, ho7, hd7, hk7, hb7⟩
  have HO7 := Lib.hid ho7
  have HD7 := Lib.hid hd7
  have HB7 := Lib.hid (((Keeps.refl w []).alloc (.cells #[] 2)).trans hk7 (T := [none]) (by simp [Value.ownBlock]))
  clear ho7 hd7 hk7 hb7
  go_wp2_with fail
  go_ret
  exact ⟨_, N7, rfl, by rw [HD7.out]; rfl, HO7.out, HB7.out.to_below (Nat.le_refl _) (by simp)⟩

theorem l01Place_in (A B : Option Addr) (n n' c c' : Nat) (L : List Row) (x : List Int) (w : World) (hn : n = L.length) (hn' : n' = x.length) (hsm : n ≤ 1099511627776) (hl : ∀ i, i < L.length → (rg L i).xs.length ≤ 1099511627776) (hsm' : n' ≤ 1099511627776) (hA : RdR w A L) (hB : Rd w B (iv x)) :
    Calls Tryz.prog 214 #[.slice A n c, .slice B n' c'] w fun e w' => (∃ r : Int, e = .returned (.int .i64 r) ∧ (0 ≤ r ↔ x ∈ dat L) ∧ -1 ≤ r ∧ r ≤ n) ∧ ∃ m, w.drewN m = w' := by
  have HA := Lib.hid hA
  have HB := Lib.hid hB
  have Hn := Lib.hid hn
  have Hn' := Lib.hid hn'
  have HL := Lib.hid hl
  clear hA hB hn hn' hl
  go_enter Tryz.func214, Tryz.ntmps214
  go_wp2_with fail
  go_loopw [5] (fun v5 wr => ∃ k q : Nat, k ≤ n ∧ v5 = .int .i64 k ∧ wr = w.drewN q ∧ Hid (∀ t, t < k → (dat L).getD t [] ≠ x)) (fun v5 _ => n - (intOf v5).toNat)
  case atStart => exact ⟨0, 0, Nat.zero_le _, rfl, rfl, Lib.hid (fun t ht => by omega)⟩
  case round =>
    obtain ⟨k, q, hk, rfl, rfl, HQ⟩ := hrel
    by_cases hlt : k < n
    · have hkL : k < L.length := by rw [← Hn.out]; exact hlt
      obtain ⟨b, o, rfl, hc⟩ := (HA.out.drewN q).at_ hkL
      have hri := (HA.out.drewN q).inn k hkL
      have hl := HL.out k hkL
      have HMEM : Hid ((rg L k).xs ∈ dat L) := Lib.hid (List.mem_map.2 ⟨_, rg_mem hkL, rfl⟩)
      have HGD := Lib.hid (dat_getD L k)
      generalize rg L k = r at *
      obtain ⟨rA, rc, rx⟩ := r
      simp only at hc hri hl HMEM HGD
      have HS := Lib.hid (l01Same_any rA B rx.length n' rc c' rx x (w.drewN q) rfl Hn'.out hl hsm' hri (HB.out.drewN q))
      clear hri hl
      go_wp2_with fail
      refine HS.out.mono ?_
      rintro e w1 ⟨rfl, m, rfl⟩
      by_cases hx : rx = x
      · have HX : Hid ((rx == x) = true) := Lib.hid (by simpa using hx)
        rw [HX.out]
        have HIN : Hid (x ∈ dat L) := Lib.hid (by rw [← hx]; exact HMEM.out)
        clear hx
        go_wp2_with fail
        go_ret
        exact ⟨⟨_, rfl, ⟨fun _ => HIN.out, fun _ => by omega⟩, by omega, by omega⟩, _, rfl⟩
      · have HX : Hid ((rx == x) = false) := Lib.hid (by simpa using hx)
        rw [HX.out]
        have HQ' : Hid (∀ t, t < k + 1 → (dat L).getD t [] ≠ x) := Lib.hid (fun t ht => by
          by_cases e : t = k
          · subst e; rw [HGD.out]; exact hx
          · exact HQ.out t (by omega))
        clear hx
        go_wp2_with fail
        go_roundw
        case rel => exact ⟨k + 1, _, by omega, by go_num, rfl, HQ'⟩
        case measure => simp [intOf]; omega
    · obtain rfl : k = n := by omega
      have HOUT : Hid (x ∉ dat L) := Lib.hid (fun hx => by
        obtain ⟨i, hi, e⟩ := List.getElem_of_mem hx
        refine HQ.out i (by rw [Hn.out, ← dat_length]; exact hi) ?_
        simp [List.getD, hi, e])
      go_wp2_with fail
      go_ret
      exact ⟨⟨_, rfl, ⟨fun h => by omega, fun h => absurd h HOUT.out⟩, by omega, by omega⟩, q, rfl⟩
end Go.Proofs.YtdkmdmpaflgfaaaGreatDoor

namespace Go.Proofs.YtdkmdmpaflgfaaaGreatDoor
open Go.RowKit

def ety (w : World) (k : Nat) : Option TypeId := match w.heap[k]? with
  | some (.cells _ t _) => some t
  | _ => none
theorem ety_eq {w w' : World} {k : Nat} (h : w'.heap[k]? = w.heap[k]?) : ety w' k = ety w k := by unfold ety; rw [h]
theorem ety_lt {w : World} {k : Nat} {t : TypeId} (h : ety w k = some t) : k < w.heap.size := by
  rcases Nat.lt_or_ge k w.heap.size with hk | hk
  · exact hk
  · unfold ety at h; rw [Array.getElem?_eq_none hk] at h; cases h
theorem owns_ety {w : World} {B n k : Nat} {e : TypeId} {v : Value} {xs : List Value} (h : w.ownsRow B e 1 v n xs) (hk : v.ownBlock = some k) : ety w k = some e := by
  rcases h.2 with ⟨rfl, _⟩ | ⟨g, cap, cur, rfl, _, hg, _⟩
  · cases hk
  · have : g = k := by simpa [Value.ownBlock] using hk
    subst this
    unfold ety; rw [hg]
theorem ety_alloc (w : World) (cs : Array Value) (t : TypeId) : ety (w.alloc (.cells cs t)) w.heap.size = some t := by
  unfold ety; rw [heap_alloc_new]
/-- rows of rows, read in blocks of their types -/
structure RdY (w : World) (A : Option Addr) (L : List Row) : Prop where
  rd : RdR w A L
  tyo : L ≠ [] → ∀ a, A = some a → ety w a.block = some 22
  tyi : ∀ i, i < L.length → (rg L i).xs ≠ [] → ∀ a, (rg L i).A = some a → ety w a.block = some 2
/-- of no type that is read -/
def OffY (w : World) (S : List (Option Nat)) : Prop := ∀ j, some j ∈ S → ety w j ≠ some 22 ∧ ety w j ≠ some 2
theorem OffY.nil (w : World) : OffY w [] := fun j hj => by cases hj
theorem OffY.own {w : World} {B n : Nat} {v : Value} {xs : List Value} (h : w.ownsRow B 23 1 v n xs) : OffY w [v.ownBlock] := fun j hj => by
  rw [List.mem_singleton] at hj
  rw [owns_ety h hj.symm]
  exact ⟨by decide, by decide⟩
theorem rdY_one {w w' : World} {S : List (Option Nat)} {A : Option Addr} {vs : List Value} {t : TypeId} (hk : Keeps w w' S) (h : Rd w A vs) (ht : vs ≠ [] → ∀ a, A = some a → ety w a.block = some t) (hS : ∀ j, some j ∈ S → ety w j ≠ some t) :
    Rd w' A vs ∧ (vs ≠ [] → ∀ a, A = some a → ety w' a.block = some t) := by
  by_cases h0 : vs = []
  · exact ⟨.inl h0, fun h => absurd h0 h⟩
  · have hno : ∀ a, A = some a → some a.block ∉ S := fun a ha hm => hS _ hm (ht h0 a ha)
    refine ⟨h.keeps hk hno, fun _ a ha => ?_⟩
    rw [ety_eq (hk.block _ (ety_lt (ht h0 a ha)) (hno a ha))]
    exact ht h0 a ha
theorem iv_nil {xs : List Int} : iv xs = [] ↔ xs = [] := by simp [iv]
theorem hv_nil {L : List Row} : hv L = [] ↔ L = [] := by simp [hv]
section
variable {w w' : World} {A : Option Addr} {L : List Row}
theorem RdY.keeps {S : List (Option Nat)} (h : RdY w A L) (hk : Keeps w w' S) (hS : OffY w S) : RdY w' A L := by
  have h1 := rdY_one (t := 22) hk h.rd.out (fun h0 => h.tyo (fun e => h0 (hv_nil.2 e))) (fun j hj => (hS j hj).1)
  have h2 := fun i hi => rdY_one (t := 2) hk (h.rd.inn i hi) (fun h0 => h.tyi i hi (fun e => h0 (iv_nil.2 e))) (fun j hj => (hS j hj).2)
  exact ⟨⟨h1.1, fun i hi => (h2 i hi).1, h.rd.cap⟩, fun h0 => h1.2 (fun e => h0 (hv_nil.1 e)), fun i hi h0 => (h2 i hi).2 (fun e => h0 (iv_nil.1 e))⟩
theorem RdY.below (h : RdY w A L) (hb : Below w.heap.size w w') : RdY w' A L := h.keeps (Keeps.of_below hb) (OffY.nil w)
theorem OwnR.rdY {B n c : Nat} (h : OwnR w B (.slice A n c) L) (hn : n = L.length) : RdY w A L := by
  refine ⟨h.rd hn, fun h0 a ha => owns_ety h.out (by rw [ha]; rfl), fun i hi h0 a ha => owns_ety (h.inn i hi) (by simp [Row.val, ha, Value.ownBlock])⟩
/-- one row in a new block -/
theorem RdY.one {rA : Option Addr} {rc : Nat} {rx : List Int} (h : Rd w rA (iv rx)) (hc : rx.length ≤ rc) (ht : rx ≠ [] → ∀ a, rA = some a → ety w a.block = some 2) :
    RdY (w.alloc (.cells #[.slice rA rx.length rc] 22)) (some ⟨w.heap.size, 0, none⟩) [⟨rA, rc, rx⟩] := by
  have hb : Below w.heap.size w (w.alloc (.cells #[.slice rA rx.length rc] 22)) := (Below.refl _ _).alloc (Nat.le_refl _) _
  have h1 := rdY_one (t := 2) (Keeps.of_below hb) h (fun h0 => ht (fun e => h0 (iv_nil.2 e))) (fun j hj => by cases hj)
  have e0 : ∀ i : Nat, i < 1 → rg [⟨rA, rc, rx⟩] i = ⟨rA, rc, rx⟩ := by
    intro i hi
    obtain rfl : i = 0 := by omega
    rfl
  refine ⟨⟨.inr ⟨_, 0, rfl, fun j v hj => ?_⟩, fun i hi => by rw [e0 i hi]; exact h1.1, fun i hi => by rw [e0 i hi]; exact hc⟩, fun _ a ha => ?_, fun i hi h0 a ha => ?_⟩
  · have : j = 0 := by have := (List.getElem?_eq_some_iff.1 hj).1; simpa [hv] using this
    subst this
    have hv' : Value.slice rA rx.length rc = v := by simpa [hv, Row.val] using hj
    rw [← hv']
    exact new_cell w _ _
  · injection ha with ha; subst ha; exact ety_alloc w _ _
  · rw [e0 i hi] at h0 ha; exact h1.2 (fun e => h0 (iv_nil.1 e)) a ha
end
/-- an outer row of the call's own, its items to be read -/
structure OwnY (w : World) (B : Nat) (v : Value) (L : List Cub) : Prop where
  out : w.ownsRow B 23 1 v L.length (cvs L)
  inn : ∀ i, i < L.length → RdY w (cg L i).A (cg L i).rows
section
variable {w w' : World} {B : Nat} {v : Value} {L : List Cub}
theorem OwnY.keeps {S : List (Option Nat)} (h : OwnY w B v L) (hk : Keeps w w' S) (hv : v.ownBlock = none ∨ v.ownBlock ∉ S) (hS : OffY w S) : OwnY w' B v L :=
  ⟨owns_keeps h.out hk hv, fun i hi => (h.inn i hi).keeps hk hS⟩
theorem OwnY.below (h : OwnY w B v L) (hb : Below w.heap.size w w') : OwnY w' B v L := h.keeps (Keeps.of_below hb) (.inr (by simp)) (OffY.nil w)
theorem OwnY.made (w : World) (hB : B ≤ w.heap.size) : OwnY (w.alloc (.cells #[] 23)) B (.slice (some ⟨w.heap.size, 0, none⟩) 0 0) [] :=
  ⟨World.ownsRow_made w #[] 0 hB (by decide) (by simp), fun i hi => by cases hi⟩
theorem OwnY.rdC {A : Option Addr} {n c : Nat} (h : OwnY w B (.slice A n c) L) (hn : n = L.length) : RdC w A L := by
  subst hn; exact ⟨owns_Rd h.out, fun i hi => (h.inn i hi).rd⟩
theorem cg_snocY (L : List Cub) (x : Cub) (i : Nat) (hi : i < (L ++ [x]).length) : (i < L.length ∧ cg (L ++ [x]) i = cg L i) ∨ (i = L.length ∧ cg (L ++ [x]) i = x) := by
  simp at hi
  by_cases h : i < L.length
  · left; exact ⟨h, by simp [cg, List.getD, List.getElem?_append_left h]⟩
  · right
    obtain rfl : i = L.length := by omega
    exact ⟨rfl, by simp [cg, List.getD]⟩
theorem OwnY.push {w1 w2 : World} {g cap : Nat} {x : Cub} {ob : Obj} (h : OwnY w B v L) (hb : Below w.heap.size w w1) (hx : RdY w1 x.A x.rows)
    (ho : w2.ownsRow B 23 1 (.slice (some ⟨g, 0, none⟩) (L.length + 1) cap) (L.length + 1) (cvs L ++ [x.val])) (hg : (w1.alloc ob).grownBy w2 v.ownBlock) :
    OwnY w2 B (.slice (some ⟨g, 0, none⟩) (L ++ [x]).length cap) (L ++ [x]) := by
  have hk : Keeps w1 w2 [v.ownBlock] := ((Keeps.refl w1 []).alloc ob).trans (Keeps.of_grown hg) (by simp)
  have h1 := h.below hb
  have hoff := OffY.own h1.out
  refine ⟨?_, fun i hi => ?_⟩
  · rw [List.length_append, show cvs (L ++ [x]) = cvs L ++ [x.val] by simp [cvs]]; exact ho
  · rcases cg_snocY L x i hi with ⟨h2, e⟩ | ⟨_, e⟩
    · rw [e]; exact (h1.inn i h2).keeps hk hoff
    · rw [e]; exact hx.keeps hk hoff
/-- the growth of another outer row -/
theorem OwnY.push_off {w1 w2 : World} {B' m : Nat} {u : Value} {ys : List Value} {ob : Obj} (h : OwnY w B v L) (hb : Below w.heap.size w w1) (hu : w.ownsRow B' 23 1 u m ys) (hne : v.ownBlock = none ∨ v.ownBlock ≠ u.ownBlock) (hg : (w1.alloc ob).grownBy w2 u.ownBlock) : OwnY w2 B v L := by
  have hk : Keeps w1 w2 [u.ownBlock] := ((Keeps.refl w1 []).alloc ob).trans (Keeps.of_grown hg) (by simp)
  exact (h.below hb).keeps hk (by simpa using hne) (OffY.own (owns_later hu hb))
theorem RdY.push_off {w1 w2 : World} {A : Option Addr} {M : List Row} {B' m : Nat} {u : Value} {ys : List Value} {ob : Obj} (h : RdY w1 A M) (hu : w1.ownsRow B' 23 1 u m ys) (hg : (w1.alloc ob).grownBy w2 u.ownBlock) : RdY w2 A M :=
  h.keeps (((Keeps.refl w1 []).alloc ob).trans (Keeps.of_grown hg) (T := [u.ownBlock]) (by simp)) (OffY.own hu)
end
end Go.Proofs.YtdkmdmpaflgfaaaGreatDoor

namespace Go.Proofs.YtdkmdmpaflgfaaaGreatDoor
open Go.RowKit

theorem degW_snoc : ∀ (j : Nat) (t : List Int) (x : Int), degW j (t ++ [x]) = degW j t + x * (2 ^ (j + t.length + 1) - 1)
  | j, [], x => by simp [degW]
  | j, y :: t, x => by
    simp only [List.cons_append, degW, List.length_cons]
    rw [degW_snoc (j + 1) t x, show j + 1 + t.length + 1 = j + (t.length + 1) + 1 by omega]
    omega
theorem degW_take (t : List Int) : ∀ k, k ≤ t.length → degW 0 (t.take k) = degK t k
  | 0, _ => by simp [degW, degK]
  | k + 1, h => by
    rw [List.take_succ_eq_append_getElem h, degW_snoc, degW_take t k (by omega), List.length_take, Nat.min_eq_left (by omega), Nat.zero_add]
    simp [degK, List.getD, show k < t.length by omega]
theorem degW_P (t : List Int) : degW 0 t = degP t := by
  have := degW_take t t.length (Nat.le_refl _)
  rwa [List.take_length] at this
def BdD (r : List Int) : Prop := r.length ≤ 15 ∧ ∀ k, 0 ≤ r.getD k 0 ∧ r.getD k 0 ≤ 1000000
theorem mul_bdD {x p : Int} (h1 : 0 ≤ x) (h2 : x ≤ 1000000) (h3 : 0 ≤ p) (h4 : p ≤ 65535) : 0 ≤ x * p ∧ x * p ≤ 65535000000 := by
  refine ⟨Int.mul_nonneg h1 h3, ?_⟩
  have := Int.mul_le_mul h2 h4 h3 (by omega)
  omega
theorem degK_bdD {r : List Int} (h : BdD r) : ∀ k, k ≤ 15 → 0 ≤ degK r k ∧ degK r k ≤ 65535000000 * k := by
  intro k
  induction k with
  | zero => intro _; simp [degK]
  | succ k ih =>
    intro hk
    have h1 := ih (by omega)
    have h2 := h.2 k
    have h3 := pow16 (d := k + 1) (by omega)
    have h4 := mul_bdD h2.1 h2.2 (p := 2 ^ (k + 1) - 1) (by omega) (by omega)
    simp only [degK]
    omega

set_option maxHeartbeats 1000000 in
theorem deg_any (A : Option Addr) (n c : Nat) (T : List Int) (w : World) (hn : n = T.length) (hp : BdD T) (hR : Rd w A (iv T)) :
    Calls Tryz.prog 57 #[.slice A n c] w fun e w' => e = .returned (.int .i64 (degP T)) ∧ w = w' := by
  have h15 : n ≤ 15 := by rw [hn]; exact hp.1
  have HTB := Lib.hid hp.2
  have HDB := Lib.hid (degK_bdD hp)
  have HDD : Hid (degP T = degK T T.length) := Lib.hid rfl
  have Hn := Lib.hid hn
  have HR := Lib.hid hR
  clear hR hn hp
  go_enter Tryz.func57, Tryz.ntmps57
  go_wp2_with fail
  go_loop [3, 8] (fun s i => ∃ k : Nat, k ≤ n ∧ i = .int .i64 k ∧ s = .int .i64 (degK T k)) (fun _ i => n - (intOf i).toNat)
  case atStart => exact ⟨0, by omega, rfl, rfl⟩
  case round =>
    obtain ⟨q, hq, rfl, rfl⟩ := hrel
    have hz := HDB.out q (by omega)
    by_cases hlt2 : q < n
    · obtain ⟨b, o, rfl, hc⟩ := HR.out.atI (k := q) (by rw [← Hn.out]; exact hlt2)
      have hy := HTB.out q
      have HDS : Hid (degK T (q + 1) = degK T q + T.getD q 0 * (2 ^ (q + 1) - 1)) := Lib.hid rfl
      generalize T.getD q 0 = y at *
      generalize degK T q = z at *
      obtain ⟨hy1, hy2⟩ := hy
      obtain ⟨hz1, hz2⟩ := hz
      obtain ⟨hp1, hp2⟩ := pow16 (d := q + 1) (by omega)
      obtain ⟨hm1, hm2⟩ := mul_bdD hy1 hy2 (p := 2 ^ (q + 1) - 1) (by omega) (by omega)
      go_wp2_with fail
      go_round
      case rel => exact ⟨q + 1, by omega, by go_num, by rw [HDS.out]⟩
      case measure => simp [intOf]; omega
    · obtain rfl : q = n := by omega
      have HQ : Hid (degK T q = degP T) := Lib.hid (by rw [HDD.out, Hn.out])
      go_wp2_with fail
      go_ret
      exact ⟨by rw [← HQ.out]; rfl, rfl⟩

set_option maxHeartbeats 1000000 in
theorem l01Degree_any (A : Option Addr) (n c : Nat) (T : List Int) (w : World) (hn : n = T.length) (hp : BdD T) (hR : Rd w A (iv T)) :
    Calls Tryz.prog 89 #[.slice A n c] w fun e w' => e = .returned (.int .i64 (degP T)) ∧ w = w' := by
  have h15 : n ≤ 15 := by rw [hn]; exact hp.1
  have HTB := Lib.hid hp.2
  have HDB := Lib.hid (degK_bdD hp)
  have HDD : Hid (degP T = degK T T.length) := Lib.hid rfl
  have Hn := Lib.hid hn
  have HR := Lib.hid hR
  clear hR hn hp
  go_enter Tryz.func89, Tryz.ntmps89
  go_wp2_with fail
  go_loop [3, 4] (fun s i => ∃ k : Nat, k ≤ n ∧ i = .int .i64 k ∧ s = .int .i64 (degK T k)) (fun _ i => n - (intOf i).toNat)
  case atStart => exact ⟨0, by omega, rfl, rfl⟩
  case round =>
    obtain ⟨q, hq, rfl, rfl⟩ := hrel
    have hz := HDB.out q (by omega)
    by_cases hlt2 : q < n
    · obtain ⟨b, o, rfl, hc⟩ := HR.out.atI (k := q) (by rw [← Hn.out]; exact hlt2)
      have hy := HTB.out q
      have HDS : Hid (degK T (q + 1) = degK T q + T.getD q 0 * (2 ^ (q + 1) - 1)) := Lib.hid rfl
      generalize T.getD q 0 = y at *
      generalize degK T q = z at *
      obtain ⟨hy1, hy2⟩ := hy
      obtain ⟨hz1, hz2⟩ := hz
      obtain ⟨hp1, hp2⟩ := pow16 (d := q + 1) (by omega)
      obtain ⟨hm1, hm2⟩ := mul_bdD hy1 hy2 (p := 2 ^ (q + 1) - 1) (by omega) (by omega)
      go_wp2_with fail
      go_round
      case rel => exact ⟨q + 1, by omega, by go_num, by rw [HDS.out]⟩
      case measure => simp [intOf]; omega
    · obtain rfl : q = n := by omega
      have HQ : Hid (degK T q = degP T) := Lib.hid (by rw [HDD.out, Hn.out])
      go_wp2_with fail
      go_ret
      exact ⟨by rw [← HQ.out]; rfl, rfl⟩
end Go.Proofs.YtdkmdmpaflgfaaaGreatDoor

namespace Go.Proofs.YtdkmdmpaflgfaaaGreatDoor
open Go.RowKit

theorem etY : ET Tryz.prog 27 23 24 := ET.mk' (z := .slice none 0 0) Tryz.underlying27 (by kernel_rfl) (by decide) (by decide)

structure SqSt (d : Int) (x : LL × LL) : Prop where
  a1 : As x.1
  a2 : As x.2
  ws : ∀ w ∈ x.2, IsW d w
  ex : ∀ t ∈ x.1, Ex d t
theorem as_nodup {Q : LL} (h : As Q) : Q.Nodup := h.imp fun hlt => lexLt_ne hlt
theorem SqSt.len {d : Int} {x : LL × LL} (hd : d ≤ 40) (h : SqSt d x) : x.1.length ≤ 2000 ∧ x.2.length ≤ 2000 := ⟨ex_count hd h.a1 h.ex, words_count hd (as_nodup h.a2) h.ws⟩
theorem word_ex0 {d : Int} (hd : d ≤ 63) {w : List Int} (h : IsW d w) : ∀ t ∈ wordE w, Ex d t := by
  obtain ⟨r, hr, rfl⟩ := h
  intro t ht
  have := ((tri hr.nn hr.tr (by rw [hr.deg]; exact hd)).2 t ht).1
  rwa [hr.deg] at this
theorem evalW_ex {d : Int} (hd : d ≤ 63) {S : LL} (h : ∀ w ∈ S, IsW d w) : ∀ t ∈ evalW S, Ex d t := fun t ht => by
  obtain ⟨w, hw, ht⟩ := List.mem_flatMap.1 (nf_sub ht)
  exact word_ex0 hd (h w hw) t ht
theorem SqSt.step {d : Int} (hd : d ≤ 63) {x R : LL × LL} (h : SqSt d x) (hR : PairOk d R) : SqSt d (sumR x.1 R.1, sumR x.2 R.2) := by
  refine ⟨as_sumR h.a1 hR.a1, as_sumR h.a2 hR.a2, fun w hw => ?_, fun t ht => ?_⟩
  · rcases ((sumR_as _ _ h.a2 hR.a2).2 w).1 hw with ⟨k, _⟩ | ⟨_, k⟩
    · exact h.ws w k
    · exact hR.ws w k
  · rcases ((sumR_as _ _ h.a1 hR.a1).2 t).1 ht with ⟨k, _⟩ | ⟨_, k⟩
    · exact h.ex t k
    · rw [hR.ev] at k; exact evalW_ex hd hR.ws t k
theorem SqSt.red {d : Int} (hd : d ≤ 63) : ∀ {RS : List (LL × LL)} {x : LL × LL}, (∀ R ∈ RS, PairOk d R) → SqSt d x → SqSt d (redP RS x)
  | [], x, _, h => h
  | R :: RS, x, hR, h => by
    simp only [redP, List.foldl_cons]
    split
    · exact SqSt.red hd (RS := RS) (fun Q hQ => hR Q (List.mem_cons_of_mem _ hQ)) (h.step hd (hR R (List.mem_cons_self ..)))
    · exact SqSt.red hd (RS := RS) (fun Q hQ => hR Q (List.mem_cons_of_mem _ hQ)) h
theorem SqSt.word {d : Int} (hd : d ≤ 63) {w : List Int} (h : IsW d w) : SqSt d (wordE w, [w]) :=
  ⟨wordE_as w, List.pairwise_singleton _ _, fun v hv => by rw [List.mem_singleton.1 hv]; exact h, word_ex0 hd h⟩
/-- one more row -/
def stepP (x R : LL × LL) : LL × LL := if R.1.headD [] ∈ x.1 then (sumR x.1 R.1, sumR x.2 R.2) else x
theorem redP_take {RS : List (LL × LL)} {k : Nat} (hk : k < RS.length) (x : LL × LL) : redP (RS.take (k + 1)) x = stepP (redP (RS.take k) x) (RS.getD k ([], [])) := by
  unfold redP
  rw [fold_take_succ _ _ _ _ ([], []) hk]; rfl
theorem map_getD1 (RS : List (LL × LL)) (k : Nat) : (RS.map (·.1)).getD k [] = (RS.getD k ([], [])).1 := by
  simp only [List.getD, List.getElem?_map]; cases RS[k]? <;> rfl
theorem map_getD2 (RS : List (LL × LL)) (k : Nat) : (RS.map (·.2)).getD k [] = (RS.getD k ([], [])).2 := by
  simp only [List.getD, List.getElem?_map]; cases RS[k]? <;> rfl
theorem getD_memP {α : Type} {RS : List α} {k : Nat} (hk : k < RS.length) (z : α) : RS.getD k z ∈ RS := by
  rw [show RS.getD k z = RS[k] by simp [List.getD, hk]]; exact List.getElem_mem hk

/-- the rows and the sums, as far as they are made -/
structure SqMem (w1 wr : World) (v5 : Value) (R : List Cub) (v6 : Value) (S : List Cub) (RS : List (LL × LL)) : Prop where
  o5 : OwnY wr w1.heap.size v5 R
  o6 : OwnY wr w1.heap.size v6 S
  ne : v5.ownBlock = none ∨ v5.ownBlock ≠ v6.ownBlock
  d5 : cdat R = RS.map (·.1)
  d6 : cdat S = RS.map (·.2)
  bel : Below w1.heap.size w1 wr
theorem SqMem.below {w1 wr w' : World} {v5 v6 : Value} {R S : List Cub} {RS : List (LL × LL)} (h : SqMem w1 wr v5 R v6 S RS) (hb : Below wr.heap.size wr w') : SqMem w1 w' v5 R v6 S RS :=
  ⟨h.o5.below hb, h.o6.below hb, h.ne, h.d5, h.d6, h.bel.trans (hb.mono h.bel.size)⟩
theorem SqMem.len {w1 wr : World} {v5 v6 : Value} {R S : List Cub} {RS : List (LL × LL)} (h : SqMem w1 wr v5 R v6 S RS) : R.length = RS.length ∧ S.length = RS.length := by
  have h1 := congrArg List.length h.d5
  have h2 := congrArg List.length h.d6
  simp only [cdat_length, List.length_map] at h1 h2
  exact ⟨h1, h2⟩
theorem SqMem.mid {w1 wz w3 : World} {v5 v6 : Value} {R S : List Cub} {RS : List (LL × LL)} {ob : Obj} (M : SqMem w1 wz v5 R v6 S RS) (hg : (wz.alloc ob).grownBy w3 v5.ownBlock) : OwnY w3 w1.heap.size v6 S :=
  M.o6.push_off (Below.refl _ _) M.o5.out (none_or_symm M.ne) hg
theorem SqMem.add {w1 wz w3 w4 : World} {v5 v6 : Value} {R S : List Cub} {RS : List (LL × LL)} {A8 A9 : Option Addr} {c8 c9 g3 g4 cap3 cap4 : Nat} {X O : List Row} {p : LL × LL} {ob3 ob4 : Obj} (M : SqMem w1 wz v5 R v6 S RS)
    (hX : RdY wz A8 X) (hO : RdY wz A9 O) (h8 : dat X = p.1) (h9 : dat O = p.2)
    (o3 : w3.ownsRow w1.heap.size 23 1 (.slice (some ⟨g3, 0, none⟩) (R.length + 1) cap3) (R.length + 1) (cvs R ++ [.slice A8 X.length c8])) (hg3 : (wz.alloc ob3).grownBy w3 v5.ownBlock) (hat3 : v5.ownBlock = some g3 ∨ g3 = (wz.alloc ob3).heap.size)
    (o4 : w4.ownsRow w1.heap.size 23 1 (.slice (some ⟨g4, 0, none⟩) (S.length + 1) cap4) (S.length + 1) (cvs S ++ [.slice A9 O.length c9])) (hg4 : (w3.alloc ob4).grownBy w4 v6.ownBlock) (hat4 : v6.ownBlock = some g4 ∨ g4 = (w3.alloc ob4).heap.size) :
    SqMem w1 w4 (.slice (some ⟨g3, 0, none⟩) (R ++ [(⟨A8, c8, X⟩ : Cub)]).length cap3) (R ++ [⟨A8, c8, X⟩]) (.slice (some ⟨g4, 0, none⟩) (S ++ [(⟨A9, c9, O⟩ : Cub)]).length cap4) (S ++ [⟨A9, c9, O⟩]) (RS ++ [p]) := by
  have h6 := M.mid hg3
  have hO3 := hO.push_off M.o5.out hg3
  have h5 := OwnY.push (x := (⟨A8, c8, X⟩ : Cub)) M.o5 (Below.refl _ _) hX o3 hg3
  have hs3 : wz.heap.size + 1 ≤ w3.heap.size := by have := hg3.size; simpa using this
  have hne36 : (some g3 : Option Nat) ≠ v6.ownBlock := by
    rcases hat3 with h | h
    · rcases M.ne with h1 | h1
      · rw [h1] at h; cases h
      · rw [← h]; exact h1
    · intro e; have := (M.o6.out.lt g3 e.symm).2; simp at h; omega
  have h56 : OwnY w4 w1.heap.size (.slice (some ⟨g3, 0, none⟩) (R ++ [(⟨A8, c8, X⟩ : Cub)]).length cap3) (R ++ [⟨A8, c8, X⟩]) := h5.push_off (Below.refl _ _) h6.out (.inr hne36) hg4
  have hb3 := below_app2 M.bel M.bel.size M.o5.out hg3
  refine ⟨h56, OwnY.push (x := (⟨A9, c9, O⟩ : Cub)) h6 (Below.refl _ _) hO3 o4 hg4, .inr ?_, ?_, ?_, below_app2 hb3 hb3.size h6.out hg4⟩
  · show (some g3 : Option Nat) ≠ some g4
    rcases hat4 with h | h
    · rw [← h]; exact hne36
    · have := (h5.out.lt g3 rfl).2
      simp at h
      intro e; injection e with e; omega
  · simp only [cdat, List.map_append, List.map_cons, List.map_nil, h8]
    congr 1
    exact M.d5
  · simp only [cdat, List.map_append, List.map_cons, List.map_nil, h9]
    congr 1
    exact M.d6

theorem rowY {w : World} {B v : _} {n : Nat} {xs : List Int} {A : Option Addr} {c : Nat} (hv : v = Value.slice A n c) (h : w.ownsRow B 2 1 v n (iv xs)) : xs ≠ [] → ∀ a, A = some a → ety w a.block = some 2 := fun _ a ha => owns_ety h (by rw [hv, ha]; rfl)

theorem PairOk.st {d : Int} (hd : d ≤ 63) {R : LL × LL} (h : PairOk d R) : SqSt d R := ⟨h.a1, h.a2, h.ws, fun t ht => by rw [h.ev] at ht; exact evalW_ex hd h.ws t ht⟩
theorem len_of_dat {d : Nat} {X : List Row} (h : ∀ t ∈ dat X, t.length ≤ d) : ∀ i, i < X.length → (rg X i).xs.length ≤ d := fun i hi => h _ (List.mem_map.2 ⟨_, rg_mem hi, rfl⟩)
theorem SqSt.bd {d : Int} (hd : d ≤ 40) {X O : List Row} (h : SqSt d (dat X, dat O)) : (X.length ≤ 2000 ∧ O.length ≤ 2000) ∧ (∀ i, i < X.length → (rg X i).xs.length ≤ 5) ∧ (∀ i, i < O.length → (rg O i).xs.length ≤ 5) := by
  have h1 := h.len hd
  simp only [dat_length] at h1
  refine ⟨h1, len_of_dat fun t ht => (h.ex t ht).len5 hd, len_of_dat fun t ht => ?_⟩
  obtain ⟨r, hr, rfl⟩ := h.ws t ht
  rw [leadW_len]; exact hr.len5 hd
theorem l01Sum_bd (A B : Option Addr) (c c' : Nat) (X K : List Row) (W : World) (h1 : X.length ≤ 2000) (h2 : K.length ≤ 2000) (h3 : ∀ i, i < X.length → (rg X i).xs.length ≤ 5) (h4 : ∀ i, i < K.length → (rg K i).xs.length ≤ 5) (hA : RdR W A X) (hB : RdR W B K) :
    Calls Tryz.prog 215 #[.slice A X.length c, .slice B K.length c'] W (ResRows (sumR (dat X) (dat K)) W) :=
  l01Sum_any A B X.length K.length c c' X K W rfl rfl (by omega) (by omega) (fun i hi => by have := h3 i hi; omega) (fun i hi => by have := h4 i hi; omega) hA hB
theorem dat_eq_fst {R : List Cub} {RS : List (LL × LL)} (h : cdat R = RS.map (·.1)) (k : Nat) : dat (cg R k).rows = (RS.getD k ([], [])).1 := by
  rw [← cdat_getD, h, map_getD1]
theorem dat_eq_snd {R : List Cub} {RS : List (LL × LL)} (h : cdat R = RS.map (·.2)) (k : Nat) : dat (cg R k).rows = (RS.getD k ([], [])).2 := by
  rw [← cdat_getD, h, map_getD2]
theorem rows_head {X : List Row} (h : dat X ≠ []) : 0 < X.length ∧ (rg X 0).xs = (dat X).headD [] := by
  cases X with
  | nil => exact absurd rfl h
  | cons x X => exact ⟨by simp, rfl⟩

set_option maxRecDepth 100000 in
set_option maxHeartbeats 8000000 in
theorem l05Squares_any (d : Int) (hd : d ≤ 40) (A : Option Addr) (n c : Nat) (L : List Row) (w : World) (hn : n = L.length) (hn0 : 0 < n) (hnb : n ≤ 1000000) (hT : As (dat L)) (hE : ∀ t ∈ dat L, Ex d t) (hR : RdR w A L) :
    Calls Tryz.prog 168 #[.slice A n c] w fun e w' => ∃ P, IsSq d (dat L) P ∧ ResRows P w e w' := by
  have HR := Lib.hid hR
  have hL0 : 0 < L.length := by rw [← hn]; exact hn0
  obtain ⟨b0, o0, rfl, hc0⟩ := hR.at_ hL0
  have hr0 := hR.inn 0 hL0
  have hex0 := hE (rg L 0).xs (List.mem_map.2 ⟨_, rg_mem hL0, rfl⟩)
  have hd0 : 0 ≤ d := by rw [← hex0.deg]; exact deg_nn 0 hex0.nn
  have hl5 := hex0.len5 hd
  have HBD : Hid (BdD (rg L 0).xs) := Lib.hid ⟨by omega, fun k => by
    by_cases hk : k < (rg L 0).xs.length
    · have hm : (rg L 0).xs.getD k 0 ∈ (rg L 0).xs := getD_memP hk 0
      have h1 := hex0.nn _ hm
      have h2 := hex0.le _ hm
      omega
    · rw [show (rg L 0).xs.getD k 0 = 0 by simp [List.getD, hk]]; omega⟩
  have HDG : Hid (degP (rg L 0).xs = d) := Lib.hid (by rw [← degW_P]; exact hex0.deg)
  have hS0 : SqSt d (dat L, []) := ⟨hT, as_nil, fun v hv => (by cases hv), hE⟩
  have HS0 := Lib.hid hS0
  have HSQ := Lib.hid (elim_sq (d := d) (by omega) (fun x => mem_allW hd0 x) (nodup_allW hd0) hT hE)
  have HWS := Lib.hid (fun x => (mem_allW hd0 x).1)
  have HROK := Lib.hid (rowsOk_take (d := d) (by omega) (fun x hx => (mem_allW hd0 x).1 hx) (nodup_allW hd0))
  have HWC := Lib.hid (words_count hd (nodup_allW hd0) (fun x hx => (mem_allW hd0 x).1 hx))
  have Hn := Lib.hid hn
  simp only [Nat.add_zero] at hc0
  generalize rg L 0 = r0' at *
  obtain ⟨r0A, r0c, r0x⟩ := r0'
  simp only at hc0 hr0 HBD HDG
  have HR0 := Lib.hid hr0
  clear hR hn hr0 hex0 hT hE hS0 hL0 hl5
  go_enter Tryz.func168, Tryz.ntmps168
  go_wp2_with fail
  refine (l01Degree_any r0A r0x.length r0c r0x _ rfl HBD.out HR0.out).mono ?_
  rintro e w9 ⟨rfl, rfl⟩
  rw [HDG.out]
  go_wp2_with fail
  refine (l03Basis_any d hd0 hd _).mono ?_
  rintro e w1 ⟨v4, N, rfl, hd4, ho4, hb4⟩
  obtain ⟨A4, c4, rfl, hc4, _⟩ := owns_shape ho4.out
  have HW := Lib.hid hd4
  have HO4 := Lib.hid ho4
  have HB4 := Lib.hid hb4
  have HNL : Hid (N.length ≤ 2000) := Lib.hid (by rw [← dat_length, hd4]; exact HWC.out)
  clear ho4 hb4 hd4
  go_wp2_with fail
  go_loopw [5, 6, 7] (fun v5 v6 v7 wr => ∃ i : Nat, ∃ A5 c5 R A6 c6 S, i ≤ N.length ∧ v7 = .int .i64 i ∧ v5 = .slice A5 R.length c5 ∧ v6 = .slice A6 S.length c6 ∧ SqMem w1 wr (.slice A5 R.length c5) R (.slice A6 S.length c6) S (buildP ((allW d).take i))) (fun _ _ v7 _ => N.length - (intOf v7).toNat)
  case atStart =>
    refine ⟨0, _, 0, [], _, 0, [], Nat.zero_le _, rfl, rfl, rfl, ?_⟩
    have h1 := OwnY.made w1 (Nat.le_refl _)
    have e2 : (w1.alloc (.cells #[] 23)).heap.size = w1.heap.size + 1 := by simp
    have h2 := OwnY.made (B := w1.heap.size) (w1.alloc (.cells #[] 23)) (by simp)
    rw [e2] at h2
    exact ⟨h1.below ((Below.refl _ _).alloc (Nat.le_refl _) _), h2, .inr (by simp [Value.ownBlock]), rfl, rfl, ((Below.refl _ _).alloc (Nat.le_refl _) _).alloc (by simp) _⟩
  case round =>
    obtain ⟨i, A5, c5, R, A6, c6, S, hi, rfl, rfl, rfl, hmem⟩ := hrel
    obtain ⟨wv, hwv⟩ : ∃ wv, wv = wr := ⟨_, rfl⟩
    subst hwv
    have HM := Lib.hid hmem
    have hiW : i ≤ (allW d).length := by rw [← HW.out, dat_length]; exact hi
    have HRK := Lib.hid (HROK.out i hiW)
    have HLN := Lib.hid hmem.len
    have hsv := hmem.bel.size
    have HRL : Hid (R.length ≤ 2000 ∧ S.length ≤ 2000) := Lib.hid (by
      have h1 := HLN.out
      have h2 := HRK.out.len
      have h3 : ((allW d).take i).length ≤ 2000 := Nat.le_trans (List.length_take_le' _ _) HWC.out
      omega)
    have hR2 : R.length ≤ 2000 := HRL.out.1
    have hS2 : S.length ≤ 2000 := HRL.out.2
    have hN2 : N.length ≤ 2000 := HNL.out
    by_cases hlt : i < N.length
    · have HRW := Lib.hid (fun w' (hb : Below w1.heap.size w1 w') => show RdY w' A4 N from (HO4.out.rdY rfl).below hb)
      obtain ⟨b4, o4, rfl, hcw⟩ := (HRW.out _ hmem.bel).rd.at_ hlt
      have HRT := Lib.hid (fun w' (hb : Below w1.heap.size w1 w') => show Rd w' (rg N i).A (iv (rg N i).xs) ∧ (rg N i).xs.length ≤ (rg N i).c ∧ ((rg N i).xs ≠ [] → ∀ a, (rg N i).A = some a → ety w' a.block = some 2) from ⟨(HRW.out w' hb).rd.inn i hlt, (HRW.out w' hb).rd.cap i hlt, (HRW.out w' hb).tyi i hlt⟩)
      have hrw : (allW d).getD i [] = (rg N i).xs := by rw [← HW.out, dat_getD]
      have hiA : i < (allW d).length := by rw [← HW.out, dat_length]; exact hlt
      have hmw : (rg N i).xs ∈ allW d := by rw [← hrw]; exact getD_memP hiA _
      have HWI := Lib.hid (HWS.out _ hmw)
      have HTK : Hid (buildP ((allW d).take (i + 1)) = buildP ((allW d).take i) ++ [redP (buildP ((allW d).take i)) (wordE (rg N i).xs, [(rg N i).xs])]) := Lib.hid (by
        rw [List.take_succ_eq_append_getElem hiA, buildP_snoc, show (allW d)[i] = (rg N i).xs by rw [← hrw]; simp [List.getD, hiA]])
      generalize rg N i = r at *
      obtain ⟨rA, rc, rx⟩ := r
      simp only at hcw HRT HWI HTK
      have HWORD : Hid (∀ W, Below wv.heap.size wv W → Calls Tryz.prog 213 #[.slice rA rx.length rc] W (ResRows (wordE rx) W)) := Lib.hid (fun W hb => by
        obtain ⟨r', hr', hrx⟩ := HWI.out
        have h := l05Word_any rA rx.length rc r' W (by rw [hrx]) hr'.nn hr'.tr (by rw [hr'.deg]; exact hd) (by rw [← hrx]; exact (HRT.out W (HM.out.bel.trans (hb.mono hsv))).1)
        rwa [← hrx] at h)
      have HSW := Lib.hid (SqSt.word (d := d) (by omega) HWI.out)
      generalize buildP ((allW d).take i) = RS at *
      have KS := Lib.hid (fun w' (hb : Below wv.heap.size wv w') => show w'.cell? ⟨b4, o4 + i, none⟩ = some (.slice rA rx.length rc) from cell_keep hcw hb)
      have HB_0 := Lib.hid (Below.drew (Below.refl wv.heap.size wv))
      clear hmem hrw hiA hmw hiW
      go_wp2_with fail
      go_cut [8, 9] (fun o8 o9 wx => ∃ A8 c8 X A9 c9 O, o8 = .slice A8 (List.length X) c8 ∧ o9 = .slice A9 (List.length O) c9 ∧ RdY wx A8 X ∧ RdY wx A9 O ∧ Hid (dat X = wordE rx) ∧ Hid (dat O = [rx]) ∧ Below wv.heap.size wv wx)
      case first =>
        refine wp_region_held_drew (S := (fun w' => w'.cell? ⟨b4, o4 + i, none⟩ = some (.slice rA rx.length rc))) (by kernel_rfl) (by (first | exact KS.out _ HB_0.out | exact KS.out _ HB_1.out | exact KS.out _ (HB_0.out.alloc (Nat.le_refl _) _) | exact KS.out _ (HB_1.out.alloc HB_1.out.size _))) (fun hHeld => ?_)
        refine wpAnyH_take (i := 0) (oi := ?oim1_1) (v := ?vm1_1) ?hm1_1 (by kernel_rfl) (by kernel_rfl) (by kernel_rfl) ?qm1_1 (Or.inl ⟨?wm1_1, ?ym1_1⟩) (by assumption) ?rm1_1
        case hm1_1 => (simp only [List.getElem?_toArray, List.getElem?_cons_succ, List.getElem?_cons_zero]; rfl)
        case qm1_1 => exact fun _ _ _ h => h
        case wm1_1 => rfl
        case ym1_1 => (intro w hSw; (try dsimp only at hSw); go_simp <;> with_reducible rfl)
        try simp only [Act.put, List.setIfInBounds_toArray, List.set_cons_zero, List.set_cons_succ]
        refine wpAnyH_take (i := 1) (oi := ?oim1_2) (v := ?vm1_2) ?hm1_2 (by kernel_rfl) (by kernel_rfl) (by kernel_rfl) ?qm1_2 (Or.inl ⟨?wm1_2, ?ym1_2⟩) (by assumption) ?rm1_2
        case hm1_2 => (simp only [List.getElem?_toArray, List.getElem?_cons_succ, List.getElem?_cons_zero]; rfl)
        case qm1_2 => exact fun _ _ _ h => h
        case wm1_2 => rfl
        case ym1_2 => (intro w hSw; (try dsimp only at hSw); go_simp <;> with_reducible rfl)
        try simp only [Act.put, List.setIfInBounds_toArray, List.set_cons_zero, List.set_cons_succ]
        refine wpAnyH_take (i := 2) (oi := ?oim1_3) (v := ?vm1_3) ?hm1_3 (by kernel_rfl) (by kernel_rfl) (by kernel_rfl) ?qm1_3 (Or.inl ⟨?wm1_3, ?ym1_3⟩) (by assumption) ?rm1_3
        case hm1_3 => (simp only [List.getElem?_toArray, List.getElem?_cons_succ, List.getElem?_cons_zero]; rfl)
        case qm1_3 => exact fun _ _ _ h => h
        case wm1_3 => rfl
        case ym1_3 => (intro w hSw; (try dsimp only at hSw); go_simp <;> with_reducible rfl)
        try simp only [Act.put, List.setIfInBounds_toArray, List.set_cons_zero, List.set_cons_succ]
        refine wpAnyH_take (i := 3) (oi := ?oim1_4) (v := ?vm1_4) ?hm1_4 (by kernel_rfl) (by kernel_rfl) (by kernel_rfl) ?qm1_4 (Or.inl ⟨?wm1_4, ?ym1_4⟩) (by assumption) ?rm1_4
        case hm1_4 => (simp only [List.getElem?_toArray, List.getElem?_cons_succ, List.getElem?_cons_zero]; rfl)
        case qm1_4 => exact fun _ _ _ h => h
        case wm1_4 => rfl
        case ym1_4 => (intro w hSw; (try dsimp only at hSw); go_simp <;> with_reducible rfl)
        try simp only [Act.put, List.setIfInBounds_toArray, List.set_cons_zero, List.set_cons_succ]
        refine wpAnyH_take (i := 5) (oi := ?oim1_5) (v := ?vm1_5) ?hm1_5 (by kernel_rfl) (by kernel_rfl) (by kernel_rfl) ?qm1_5 (Or.inl ⟨?wm1_5, ?ym1_5⟩) (by assumption) ?rm1_5
        case hm1_5 => (simp only [List.getElem?_toArray, List.getElem?_cons_succ, List.getElem?_cons_zero]; rfl)
        case qm1_5 => exact fun _ _ _ h => h
        case wm1_5 => rfl
        case ym1_5 => (intro w hSw; (try dsimp only at hSw); go_simp <;> with_reducible rfl)
        try simp only [Act.put, List.setIfInBounds_toArray, List.set_cons_zero, List.set_cons_succ]
        refine wpAnyH_take (i := 6) (oi := ?oim1_6) (v := ?vm1_6) ?hm1_6 (by kernel_rfl) (by kernel_rfl) (by kernel_rfl) ?qm1_6 (Or.inl ⟨?wm1_6, ?ym1_6⟩) (by assumption) ?rm1_6
        case hm1_6 => (simp only [List.getElem?_toArray, List.getElem?_cons_succ, List.getElem?_cons_zero]; rfl)
        case qm1_6 => exact fun _ _ _ h => h
        case wm1_6 => rfl
        case ym1_6 => (intro w hSw; (try dsimp only at hSw); go_simp <;> with_reducible rfl)
        try simp only [Act.put, List.setIfInBounds_toArray, List.set_cons_zero, List.set_cons_succ]
        refine wpAnyH_take (i := 7) (oi := ?oim1_7) (v := ?vm1_7) ?hm1_7 (by kernel_rfl) (by kernel_rfl) (by kernel_rfl) ?qm1_7 (Or.inl ⟨?wm1_7, ?ym1_7⟩) (by assumption) ?rm1_7
        case hm1_7 => (simp only [List.getElem?_toArray, List.getElem?_cons_succ, List.getElem?_cons_zero]; rfl)
        case qm1_7 => exact fun _ _ _ h => h
        case wm1_7 => rfl
        case ym1_7 => (intro w hSw; (try dsimp only at hSw); go_simp <;> with_reducible rfl)
        try simp only [Act.put, List.setIfInBounds_toArray, List.set_cons_zero, List.set_cons_succ]
        refine wpAnyH_take (i := 8) (oi := ?oim1_8) (v := ?vm1_8) ?hm1_8 (by kernel_rfl) (by kernel_rfl) (by kernel_rfl) ?qm1_8 (Or.inl ⟨?wm1_8, ?ym1_8⟩) (by assumption) ?rm1_8
        case hm1_8 => (simp only [List.getElem?_toArray, List.getElem?_cons_succ, List.getElem?_cons_zero]; rfl)
        case qm1_8 => exact fun _ _ _ h => h
        case wm1_8 => rfl
        case ym1_8 => (intro w hSw; (try dsimp only at hSw); go_simp <;> with_reducible rfl)
        try simp only [Act.put, List.setIfInBounds_toArray, List.set_cons_zero, List.set_cons_succ]
        refine wpAnyH_ready (rs := [4, 9]) (by kernel_rfl) (by simp) ?_
        refine AllReadyH.cons (o := ?oim1_9) ?hm1_9 (fun K hK => ?km1_9) ?mm1_9
        case hm1_9 => (simp only [List.getElem?_toArray, List.getElem?_cons_succ, List.getElem?_cons_zero]; rfl)
        case km1_9 =>
          go_simp
          (go_at_call 213); (first | refine (HWORD.out _ HB_0.out).mono ?_ | refine (HWORD.out _ (HB_0.out.alloc (Nat.le_refl _) _)).mono ?_); rintro e w5 ⟨v5, X, rfl, hdx, hox, hbx⟩; (obtain ⟨A8, c8, rfl, hc8, _⟩ := owns_shape hox.out); have HBX := Lib.hid hbx; have HDX := Lib.hid hdx; have HOX := Lib.hid hox; (first | have HB_1 := Lib.hid (HB_0.out.trans (hbx.mono HB_0.out.size)) | have HB_1 := Lib.hid ((HB_0.out.alloc (Nat.le_refl _) _).trans (hbx.mono (HB_0.out.alloc (Nat.le_refl _) _).size))); clear hbx hdx hox
          refine hK.out _ _ (by (first | exact KS.out _ HB_0.out | exact KS.out _ HB_1.out | exact KS.out _ (HB_0.out.alloc (Nat.le_refl _) _) | exact KS.out _ (HB_1.out.alloc HB_1.out.size _))) (fun hHeld => ?_)
          clear hK K
          try simp only [Act.put, List.setIfInBounds_toArray, List.set_cons_zero, List.set_cons_succ]
          refine wpAnyH_take (i := 10) (oi := ?oim1_10) (v := ?vm1_10) ?hm1_10 (by kernel_rfl) (by kernel_rfl) (by kernel_rfl) ?qm1_10 (Or.inl ⟨?wm1_10, ?ym1_10⟩) (by assumption) ?rm1_10
          case hm1_10 => (simp only [List.getElem?_toArray, List.getElem?_cons_succ, List.getElem?_cons_zero]; rfl)
          case qm1_10 => exact fun _ _ _ h => h
          case wm1_10 => rfl
          case ym1_10 => (intro w hSw; (try dsimp only at hSw); go_simp <;> with_reducible rfl)
          try simp only [Act.put, List.setIfInBounds_toArray, List.set_cons_zero, List.set_cons_succ]
          refine wpAnyH_ready (rs := [9]) (by kernel_rfl) (by simp) ?_
          refine AllReadyH.cons (o := ?oim1_11) ?hm1_11 (fun K hK => ?km1_11) ?mm1_11
          case hm1_11 => (simp only [List.getElem?_toArray, List.getElem?_cons_succ, List.getElem?_cons_zero]; rfl)
          case km1_11 =>
            go_simp
            refine hK.out _ _ (by (first | exact KS.out _ HB_0.out | exact KS.out _ HB_1.out | exact KS.out _ (HB_0.out.alloc (Nat.le_refl _) _) | exact KS.out _ (HB_1.out.alloc HB_1.out.size _))) (fun hHeld => ?_)
            clear hK K
            try simp only [Act.put, List.setIfInBounds_toArray, List.set_cons_zero, List.set_cons_succ]
            refine wpAnyH_take (i := 11) (oi := ?oim1_12) (v := ?vm1_12) ?hm1_12 (by kernel_rfl) (by kernel_rfl) (by kernel_rfl) ?qm1_12 (Or.inl ⟨?wm1_12, ?ym1_12⟩) (by assumption) ?rm1_12
            case hm1_12 => (simp only [List.getElem?_toArray, List.getElem?_cons_succ, List.getElem?_cons_zero]; rfl)
            case qm1_12 => exact fun _ _ _ h => h
            case wm1_12 => rfl
            case ym1_12 => (intro w hSw; (try dsimp only at hSw); go_simp <;> with_reducible rfl)
            try simp only [Act.put, List.setIfInBounds_toArray, List.set_cons_zero, List.set_cons_succ]
            refine wpAnyH_done (by kernel_rfl) ?_ _
            go_wp2_with fail
            go_meet
            first
              | exact ⟨_, _, X, _, _, [⟨rA, rc, rx⟩], rfl, rfl, (HOX.out.rdY rfl).below ((Below.refl _ _).alloc (Nat.le_refl _) _), RdY.one (HRT.out _ (HM.out.bel.trans (HB_1.out.mono hsv))).1 (HRT.out _ (HM.out.bel.trans (HB_1.out.mono hsv))).2.1 (HRT.out _ (HM.out.bel.trans (HB_1.out.mono hsv))).2.2, HDX, Lib.hid rfl, HB_1.out.alloc HB_1.out.size _⟩
              | exact ⟨_, _, X, _, _, [⟨rA, rc, rx⟩], rfl, rfl, HOX.out.rdY rfl, (RdY.one (HRT.out _ (HM.out.bel.trans (HB_0.out.mono hsv))).1 (HRT.out _ (HM.out.bel.trans (HB_0.out.mono hsv))).2.1 (HRT.out _ (HM.out.bel.trans (HB_0.out.mono hsv))).2.2).below HBX.out, HDX, Lib.hid rfl, HB_1.out⟩
          exact AllReadyH.nil
        refine AllReadyH.cons (o := ?oim1_13) ?hm1_13 (fun K hK => ?km1_13) ?mm1_13
        case hm1_13 => (simp only [List.getElem?_toArray, List.getElem?_cons_succ, List.getElem?_cons_zero]; rfl)
        case km1_13 =>
          go_simp
          refine hK.out _ _ (by (first | exact KS.out _ HB_0.out | exact KS.out _ HB_1.out | exact KS.out _ (HB_0.out.alloc (Nat.le_refl _) _) | exact KS.out _ (HB_1.out.alloc HB_1.out.size _))) (fun hHeld => ?_)
          clear hK K
          try simp only [Act.put, List.setIfInBounds_toArray, List.set_cons_zero, List.set_cons_succ]
          refine wpAnyH_ready (rs := [4]) (by kernel_rfl) (by simp) ?_
          refine AllReadyH.cons (o := ?oim1_14) ?hm1_14 (fun K hK => ?km1_14) ?mm1_14
          case hm1_14 => (simp only [List.getElem?_toArray, List.getElem?_cons_succ, List.getElem?_cons_zero]; rfl)
          case km1_14 =>
            go_simp
            (go_at_call 213); (first | refine (HWORD.out _ HB_0.out).mono ?_ | refine (HWORD.out _ (HB_0.out.alloc (Nat.le_refl _) _)).mono ?_); rintro e w5 ⟨v5, X, rfl, hdx, hox, hbx⟩; (obtain ⟨A8, c8, rfl, hc8, _⟩ := owns_shape hox.out); have HBX := Lib.hid hbx; have HDX := Lib.hid hdx; have HOX := Lib.hid hox; (first | have HB_1 := Lib.hid (HB_0.out.trans (hbx.mono HB_0.out.size)) | have HB_1 := Lib.hid ((HB_0.out.alloc (Nat.le_refl _) _).trans (hbx.mono (HB_0.out.alloc (Nat.le_refl _) _).size))); clear hbx hdx hox
            refine hK.out _ _ (by (first | exact KS.out _ HB_0.out | exact KS.out _ HB_1.out | exact KS.out _ (HB_0.out.alloc (Nat.le_refl _) _) | exact KS.out _ (HB_1.out.alloc HB_1.out.size _))) (fun hHeld => ?_)
            clear hK K
            try simp only [Act.put, List.setIfInBounds_toArray, List.set_cons_zero, List.set_cons_succ]
            refine wpAnyH_take (i := 10) (oi := ?oim1_15) (v := ?vm1_15) ?hm1_15 (by kernel_rfl) (by kernel_rfl) (by kernel_rfl) ?qm1_15 (Or.inl ⟨?wm1_15, ?ym1_15⟩) (by assumption) ?rm1_15
            case hm1_15 => (simp only [List.getElem?_toArray, List.getElem?_cons_succ, List.getElem?_cons_zero]; rfl)
            case qm1_15 => exact fun _ _ _ h => h
            case wm1_15 => rfl
            case ym1_15 => (intro w hSw; (try dsimp only at hSw); go_simp <;> with_reducible rfl)
            try simp only [Act.put, List.setIfInBounds_toArray, List.set_cons_zero, List.set_cons_succ]
            refine wpAnyH_take (i := 11) (oi := ?oim1_16) (v := ?vm1_16) ?hm1_16 (by kernel_rfl) (by kernel_rfl) (by kernel_rfl) ?qm1_16 (Or.inl ⟨?wm1_16, ?ym1_16⟩) (by assumption) ?rm1_16
            case hm1_16 => (simp only [List.getElem?_toArray, List.getElem?_cons_succ, List.getElem?_cons_zero]; rfl)
            case qm1_16 => exact fun _ _ _ h => h
            case wm1_16 => rfl
            case ym1_16 => (intro w hSw; (try dsimp only at hSw); go_simp <;> with_reducible rfl)
            try simp only [Act.put, List.setIfInBounds_toArray, List.set_cons_zero, List.set_cons_succ]
            refine wpAnyH_done (by kernel_rfl) ?_ _
            go_wp2_with fail
            go_meet
            first
              | exact ⟨_, _, X, _, _, [⟨rA, rc, rx⟩], rfl, rfl, (HOX.out.rdY rfl).below ((Below.refl _ _).alloc (Nat.le_refl _) _), RdY.one (HRT.out _ (HM.out.bel.trans (HB_1.out.mono hsv))).1 (HRT.out _ (HM.out.bel.trans (HB_1.out.mono hsv))).2.1 (HRT.out _ (HM.out.bel.trans (HB_1.out.mono hsv))).2.2, HDX, Lib.hid rfl, HB_1.out.alloc HB_1.out.size _⟩
              | exact ⟨_, _, X, _, _, [⟨rA, rc, rx⟩], rfl, rfl, HOX.out.rdY rfl, (RdY.one (HRT.out _ (HM.out.bel.trans (HB_0.out.mono hsv))).1 (HRT.out _ (HM.out.bel.trans (HB_0.out.mono hsv))).2.1 (HRT.out _ (HM.out.bel.trans (HB_0.out.mono hsv))).2.2).below HBX.out, HDX, Lib.hid rfl, HB_1.out⟩
          exact AllReadyH.nil
        exact AllReadyH.nil
      case rest =>
      obtain ⟨A8, c8, X, A9, c9, O, rfl, rfl, hX, hO, HX8, HO9, hbx⟩ := hcut
      have HX := Lib.hid hX
      have HO := Lib.hid hO
      have HBX := Lib.hid hbx
      have hsx := hbx.size
      have HP0 : Hid ((dat X, dat O) = redP (RS.take 0) (wordE rx, [rx])) := Lib.hid (by rw [HX8.out, HO9.out]; rfl)
      clear hX hO hbx hcw
      go_wp2_with fail
      go_loopw [8, 9, 10] (fun v8 v9 v10 wr => ∃ k : Nat, ∃ A8 c8 X A9 c9 O, k ≤ R.length ∧ v10 = .int .i64 k ∧ v8 = .slice A8 (List.length X) c8 ∧ v9 = .slice A9 (List.length O) c9 ∧ RdY wr A8 X ∧ RdY wr A9 O ∧ Hid ((dat X, dat O) = redP (RS.take k) (wordE rx, [rx])) ∧ Below wc.heap.size wc wr) (fun _ _ v10 _ => R.length - (intOf v10).toNat)
      case atStart => exact ⟨0, A8, c8, X, A9, c9, O, Nat.zero_le _, rfl, rfl, rfl, HX.out, HO.out, HP0, Below.refl _ _⟩
      case round =>
        obtain ⟨k, A8, c8, X, A9, c9, O, hk, rfl, rfl, rfl, hX, hO, HP, hbel⟩ := hrel
        have HBv := Lib.hid (HBX.out.trans (hbel.mono hsx))
        have hMr := HM.out.below HBv.out
        have HMr := Lib.hid hMr
        have HX := Lib.hid hX
        have HO := Lib.hid hO
        have HB := Lib.hid hbel
        have hkS : k ≤ RS.length := by rw [← HLN.out.1]; exact hk
        have HSS : Hid (SqSt d (dat X, dat O)) := Lib.hid (by
          rw [HP.out]
          exact SqSt.red (by omega) (fun Q hQ => HRK.out.ok Q (List.mem_of_mem_take hQ)) HSW.out)
        by_cases hlt2 : k < R.length
        · have hkR : k < RS.length := by rw [← HLN.out.1]; exact hlt2
          have hkS2 : k < S.length := by rw [HLN.out.2]; exact hkR
          obtain ⟨b5, o5, rfl, hc5⟩ := (hMr.o5.rdC rfl).at_ hlt2
          obtain ⟨b6, o6, rfl, hc6⟩ := (hMr.o6.rdC rfl).at_ hkS2
          have hin5 := hMr.o5.inn k hlt2
          have hin6 := hMr.o6.inn k hkS2
          have hd5 := dat_eq_fst hMr.d5 k
          have hd6 := dat_eq_snd hMr.d6 k
          have hne5 : dat (cg R k).rows ≠ [] := by rw [hd5]; exact HRK.out.ne _ (getD_memP hkR _)
          have HPK := Lib.hid (HRK.out.ok _ (getD_memP hkR ([], [])))
          have HSTEP := Lib.hid (redP_take hkR (wordE rx, [rx]))
          generalize RS.getD k ([], []) = Rk at *
          generalize cg R k = xk at *
          generalize cg S k = yk at *
          obtain ⟨kA, kc, kR⟩ := xk
          obtain ⟨sA, sc, sR⟩ := yk
          simp only at hc5 hc6 hin5 hin6 hd5 hd6 hne5
          obtain ⟨hkR0, hkh⟩ := rows_head hne5
          obtain ⟨bk, ok, rfl, hck⟩ := hin5.rd.at_ hkR0
          have hrf := hin5.rd.inn 0 hkR0
          simp only [Nat.add_zero] at hck
          have HRbd : Hid (SqSt d (dat kR, dat sR)) := Lib.hid (by rw [hd5, hd6]; exact HPK.out.st (by omega))
          have HFL := Lib.hid (HRbd.out.bd hd)
          have HXL := Lib.hid (HSS.out.bd hd)
          have hf5 := HFL.out.2.1 0 hkR0
          generalize rg kR 0 = fr at *
          obtain ⟨fA, fc, fx⟩ := fr
          simp only at hkh hck hrf hf5
          have HKH := Lib.hid hkh
          have HD5 := Lib.hid hd5
          have HD6 := Lib.hid hd6
          have HIN5 := Lib.hid hin5
          have HIN6 := Lib.hid hin6
          have hkR0i : (0 : Int) < (kR.length : Int) := by omega
          have HPL := Lib.hid (l01Place_in A8 fA X.length fx.length c8 fc X fx wr rfl rfl (by have := HXL.out.1; omega) (fun q hq => by have := HXL.out.2.1 q hq; omega) (by omega) hX.rd hrf)
          have KS6 := Lib.hid (fun w' (hb : Below wr.heap.size wr w') => show w'.cell? ⟨b6, o6 + k, none⟩ = some (.slice sA sR.length sc) from cell_keep hc6 hb)
          clear hMr hX hO hbel hkh hd5 hd6 hin5 hin6 hne5 hrf hc6
          go_wp2_with fail
          refine HPL.out.mono ?_
          rintro e w9 ⟨⟨p, rfl, hp, _, _⟩, m, rfl⟩
          have HBm := Lib.hid (below_drewN (Below.refl wr.heap.size wr) m)
          by_cases hm : fx ∈ dat X
          · have hp0 : 0 ≤ p := hp.2 hm
            have HST : Hid (stepP (dat X, dat O) Rk = (sumR (dat X) (dat kR), sumR (dat O) (dat sR))) := Lib.hid (by
              unfold stepP
              rw [if_pos (by rw [← HD5.out, ← HKH.out]; exact hm), HD5.out, HD6.out])
            clear hp hm hck hkR0i hkR0 hf5
            go_wp2_with fail
            refine (l01Sum_bd A8 _ c8 kc X kR _ HXL.out.1.1 HFL.out.1.1 HXL.out.2.1 HFL.out.2.1 (HX.out.rd.drewN m) (HIN5.out.rd.drewN m)).mono ?_
            rintro e wA ⟨vA, XA, rfl, hdA, hoA, hbA⟩
            obtain ⟨AA, cA, rfl, hcA, _⟩ := owns_shape hoA.out
            have HOA := Lib.hid hoA
            have HDA := Lib.hid hdA
            have HBA := Lib.hid (HBm.out.trans (hbA.mono HBm.out.size))
            have hc6A := KS6.out _ HBA.out
            clear hoA hdA hbA hcA hc5
            go_wp2_with fail
            refine (l01Sum_bd A9 sA c9 sc O sR _ HXL.out.1.2 HFL.out.1.2 HXL.out.2.2 HFL.out.2.2 (HO.out.rd.below HBA.out) (HIN6.out.rd.below HBA.out)).mono ?_
            rintro e wB ⟨vB, OB, rfl, hdB, hoB, hbB⟩
            obtain ⟨AB, cB, rfl, hcB, _⟩ := owns_shape hoB.out
            have HOB := Lib.hid hoB
            have HDB := Lib.hid hdB
            have HBB := Lib.hid hbB
            clear hoB hdB hbB hcB hc6A
            go_wp2_with fail
            go_roundw
            case rel => exact ⟨k + 1, AA, cA, XA, AB, cB, OB, by omega, by go_num, rfl, rfl, (HOA.out.rdY rfl).below HBB.out, HOB.out.rdY rfl, Lib.hid (by rw [HSTEP.out, ← HP.out, HST.out, HDA.out, HDB.out]), HB.out.trans ((HBA.out.trans (HBB.out.mono HBA.out.size)).mono HB.out.size)⟩
            case measure => simp [intOf]; omega
          · have hp0 : ¬ 0 ≤ p := fun h => hm (hp.1 h)
            have HST : Hid (stepP (dat X, dat O) Rk = (dat X, dat O)) := Lib.hid (by
              unfold stepP
              rw [if_neg (by rw [← HD5.out, ← HKH.out]; exact hm)])
            clear hp hm hck hkR0i hkR0 hf5 hc5
            go_wp2_with fail
            go_roundw
            case rel => exact ⟨k + 1, A8, c8, X, A9, c9, O, by omega, by go_num, rfl, rfl, HX.out.below HBm.out, HO.out.below HBm.out, Lib.hid (by rw [HSTEP.out, ← HP.out, HST.out]), HB.out.trans (HBm.out.mono HB.out.size)⟩
            case measure => simp [intOf]; omega
        · obtain rfl : k = R.length := by omega
          have hT : RS.take R.length = RS := List.take_of_length_le (by rw [HLN.out.1]; exact Nat.le_refl _)
          rw [hT] at HP
          have hx1 : dat X = (redP RS (wordE rx, [rx])).1 := by rw [← HP.out]
          have hx2 : dat O = (redP RS (wordE rx, [rx])).2 := by rw [← HP.out]
          have HX1 := Lib.hid hx1
          have HX2 := Lib.hid hx2
          have hq5 : R.length < 1099511627776 := by omega
          have hq6 : S.length < 1099511627776 := by omega
          have hs1 : w1.heap.size ≤ wr.heap.size := hMr.bel.size
          clear hMr hX hO hbel hT hx1 hx2
          go_wp2_with (at_builtin; first | (refine wpList_app1 _ _ _ _ _ etY (by rfl) (by rfl) w1.heap.size (.slice A5 R.length c5) R.length (cvs R) (by rfl) (HMr.out.o5.out.alloc _) _ (.slice A8 X.length c8) (by rfl) (new_cell _ _ _) (by rfl) hq5 (Nat.le_trans hs1 (by simp)) ?_; (intro g3 cap3 w3 hown3 hg3 hat3 hlt3; have HO3 := Lib.hid hown3; have HG3 := Lib.hid hg3; have HA3 := Lib.hid hat3; have HM3 := Lib.hid (HMr.out.mid hg3); have hs3 : w1.heap.size ≤ w3.heap.size := Nat.le_trans hs1 (Nat.le_trans (by simp) hg3.size); clear hown3 hg3 hat3 hlt3)) | (refine wpList_app1 _ _ _ _ _ etY (by rfl) (by rfl) w1.heap.size (.slice A6 S.length c6) S.length (cvs S) (by rfl) (HM3.out.out.alloc _) _ (.slice A9 O.length c9) (by rfl) (new_cell _ _ _) (by rfl) hq6 (Nat.le_trans hs3 (by simp)) ?_; (intro g4 cap4 w4 hown4 hg4 hat4 hlt4; have HEND := Lib.hid (SqMem.add HMr.out HX.out HO.out HX1.out HX2.out HO3.out HG3.out HA3.out hown4 hg4 hat4); clear hown4 hg4 hat4 hlt4)))
          go_roundw
          case rel => exact ⟨i + 1, some ⟨g3, 0, none⟩, cap3, R ++ [⟨A8, c8, X⟩], some ⟨g4, 0, none⟩, cap4, S ++ [⟨A9, c9, O⟩], by omega, by go_num, by simp, by simp, by rw [HTK.out]; exact HEND.out⟩
          case measure => simp [intOf]; omega
    · obtain rfl : i = N.length := by omega
      have hTA : (allW d).take N.length = allW d := List.take_of_length_le (by rw [← HW.out, dat_length]; exact Nat.le_refl _)
      rw [hTA] at HM HRK HLN
      have hsv0 : w.heap.size ≤ wv.heap.size := Nat.le_trans HB4.out.size hsv
      have HBW := Lib.hid (HB4.out.trans (HM.out.bel.mono HB4.out.size))
      generalize buildP (allW d) = RS at *
      clear hmem hiW hTA hc0
      go_wp2_with fail
      go_loopw [0, 11, 12] (fun v0 v11 v12 wr => ∃ k : Nat, ∃ A8 c8 X A9 c9 O, k ≤ R.length ∧ v12 = .int .i64 k ∧ v0 = .slice A8 (List.length X) c8 ∧ v11 = .slice A9 (List.length O) c9 ∧ RdR wr A8 X ∧ OwnR wr w.heap.size (.slice A9 (List.length O) c9) O ∧ Hid ((dat X, dat O) = redP (RS.take k) (dat L, [])) ∧ Below wv.heap.size wv wr) (fun _ _ v12 _ => R.length - (intOf v12).toNat)
      case atStart => exact ⟨0, _, _, L, _, _, [], Nat.zero_le _, rfl, by rw [Hn.out], rfl, (HR.out.below HBW.out).alloc _, OwnR.made wv hsv0, Lib.hid rfl, (Below.refl _ _).alloc (Nat.le_refl _) _⟩
      case round =>
        obtain ⟨k, A8, c8, X, A9, c9, O, hk, rfl, rfl, rfl, hX, hO, HP, hbel⟩ := hrel
        have HBv := Lib.hid hbel
        have hMr := HM.out.below HBv.out
        have HMr := Lib.hid hMr
        have HX := Lib.hid hX
        have HO := Lib.hid hO
        have HB := Lib.hid hbel
        have hkS : k ≤ RS.length := by rw [← HLN.out.1]; exact hk
        have HSS : Hid (SqSt d (dat X, dat O)) := Lib.hid (by
          rw [HP.out]
          exact SqSt.red (by omega) (fun Q hQ => HRK.out.ok Q (List.mem_of_mem_take hQ)) HS0.out)
        by_cases hlt2 : k < R.length
        · have hkR : k < RS.length := by rw [← HLN.out.1]; exact hlt2
          have hkS2 : k < S.length := by rw [HLN.out.2]; exact hkR
          obtain ⟨b5, o5, rfl, hc5⟩ := (hMr.o5.rdC rfl).at_ hlt2
          obtain ⟨b6, o6, rfl, hc6⟩ := (hMr.o6.rdC rfl).at_ hkS2
          have hin5 := hMr.o5.inn k hlt2
          have hin6 := hMr.o6.inn k hkS2
          have hd5 := dat_eq_fst hMr.d5 k
          have hd6 := dat_eq_snd hMr.d6 k
          have hne5 : dat (cg R k).rows ≠ [] := by rw [hd5]; exact HRK.out.ne _ (getD_memP hkR _)
          have HPK := Lib.hid (HRK.out.ok _ (getD_memP hkR ([], [])))
          have HSTEP := Lib.hid (redP_take hkR (dat L, []))
          generalize RS.getD k ([], []) = Rk at *
          generalize cg R k = xk at *
          generalize cg S k = yk at *
          obtain ⟨kA, kc, kR⟩ := xk
          obtain ⟨sA, sc, sR⟩ := yk
          simp only at hc5 hc6 hin5 hin6 hd5 hd6 hne5
          obtain ⟨hkR0, hkh⟩ := rows_head hne5
          obtain ⟨bk, ok, rfl, hck⟩ := hin5.rd.at_ hkR0
          have hrf := hin5.rd.inn 0 hkR0
          simp only [Nat.add_zero] at hck
          have HRbd : Hid (SqSt d (dat kR, dat sR)) := Lib.hid (by rw [hd5, hd6]; exact HPK.out.st (by omega))
          have HFL := Lib.hid (HRbd.out.bd hd)
          have HXL := Lib.hid (HSS.out.bd hd)
          have hf5 := HFL.out.2.1 0 hkR0
          generalize rg kR 0 = fr at *
          obtain ⟨fA, fc, fx⟩ := fr
          simp only at hkh hck hrf hf5
          have HKH := Lib.hid hkh
          have HD5 := Lib.hid hd5
          have HD6 := Lib.hid hd6
          have HIN5 := Lib.hid hin5
          have HIN6 := Lib.hid hin6
          have hkR0i : (0 : Int) < (kR.length : Int) := by omega
          have HPL := Lib.hid (l01Place_in A8 fA X.length fx.length c8 fc X fx wr rfl rfl (by have := HXL.out.1; omega) (fun q hq => by have := HXL.out.2.1 q hq; omega) (by omega) hX hrf)
          have KS6 := Lib.hid (fun w' (hb : Below wr.heap.size wr w') => show w'.cell? ⟨b6, o6 + k, none⟩ = some (.slice sA sR.length sc) from cell_keep hc6 hb)
          clear hMr hX hO hbel hkh hd5 hd6 hin5 hin6 hne5 hrf hc6
          go_wp2_with fail
          refine HPL.out.mono ?_
          rintro e w9 ⟨⟨p, rfl, hp, _, _⟩, m, rfl⟩
          have HBm := Lib.hid (below_drewN (Below.refl wr.heap.size wr) m)
          by_cases hm : fx ∈ dat X
          · have hp0 : 0 ≤ p := hp.2 hm
            have HST : Hid (stepP (dat X, dat O) Rk = (sumR (dat X) (dat kR), sumR (dat O) (dat sR))) := Lib.hid (by
              unfold stepP
              rw [if_pos (by rw [← HD5.out, ← HKH.out]; exact hm), HD5.out, HD6.out])
            clear hp hm hck hkR0i hkR0 hf5
            go_wp2_with fail
            refine (l01Sum_bd A8 _ c8 kc X kR _ HXL.out.1.1 HFL.out.1.1 HXL.out.2.1 HFL.out.2.1 (HX.out.drewN m) (HIN5.out.rd.drewN m)).mono ?_
            rintro e wA ⟨vA, XA, rfl, hdA, hoA, hbA⟩
            obtain ⟨AA, cA, rfl, hcA, _⟩ := owns_shape hoA.out
            have HOA := Lib.hid hoA
            have HDA := Lib.hid hdA
            have HBA := Lib.hid (HBm.out.trans (hbA.mono HBm.out.size))
            have hc6A := KS6.out _ HBA.out
            clear hoA hdA hbA hcA hc5
            go_wp2_with fail
            refine (l01Sum_bd A9 sA c9 sc O sR _ HXL.out.1.2 HFL.out.1.2 HXL.out.2.2 HFL.out.2.2 ((HO.out.rd rfl).below HBA.out) (HIN6.out.rd.below HBA.out)).mono ?_
            rintro e wB ⟨vB, OB, rfl, hdB, hoB, hbB⟩
            obtain ⟨AB, cB, rfl, hcB, _⟩ := owns_shape hoB.out
            have HOB := Lib.hid hoB
            have HDB := Lib.hid hdB
            have HBB := Lib.hid hbB
            have HBv0 := Lib.hid (HB.out.trans (HBA.out.mono HB.out.size))
            clear hoB hdB hbB hcB hc6A
            go_wp2_with fail
            go_roundw
            case rel => exact ⟨k + 1, AA, cA, XA, AB, cB, OB, by omega, by go_num, rfl, rfl, (HOA.out.rd rfl).below HBB.out, HOB.out.mono (Nat.le_trans hsv0 HBv0.out.size), Lib.hid (by rw [HSTEP.out, ← HP.out, HST.out, HDA.out, HDB.out]), HB.out.trans ((HBA.out.trans (HBB.out.mono HBA.out.size)).mono HB.out.size)⟩
            case measure => simp [intOf]; omega
          · have hp0 : ¬ 0 ≤ p := fun h => hm (hp.1 h)
            have HST : Hid (stepP (dat X, dat O) Rk = (dat X, dat O)) := Lib.hid (by
              unfold stepP
              rw [if_neg (by rw [← HD5.out, ← HKH.out]; exact hm)])
            clear hp hm hck hkR0i hkR0 hf5 hc5
            go_wp2_with fail
            go_roundw
            case rel => exact ⟨k + 1, A8, c8, X, A9, c9, O, by omega, by go_num, rfl, rfl, HX.out.below HBm.out, HO.out.later HBm.out, Lib.hid (by rw [HSTEP.out, ← HP.out, HST.out]), HB.out.trans (HBm.out.mono HB.out.size)⟩
            case measure => simp [intOf]; omega
        · obtain rfl : k = R.length := by omega
          have hT : RS.take R.length = RS := List.take_of_length_le (by rw [HLN.out.1]; exact Nat.le_refl _)
          rw [hT] at HP
          have HX2 : Hid (dat O = (redP RS (dat L, [])).2) := Lib.hid (by rw [← HP.out])
          clear hMr hX hO hbel hT
          go_wp2_with fail
          go_ret
          exact ⟨_, HSQ.out, _, O, rfl, HX2.out, HO.out, HBW.out.trans (HB.out.mono hsv0)⟩
end Go.Proofs.YtdkmdmpaflgfaaaGreatDoor

namespace Go.Proofs.YtdkmdmpaflgfaaaGreatDoor
open Go.RowKit

theorem comb_snoc : ∀ (S : List Nat) (r i x : Nat), comb (S ++ [r]) i x = xr (comb S i x) (if tb x (i + S.length) = true then r else 0)
  | [], r, i, x => by simp [comb, xr_zero, zero_xr]
  | s :: S, r, i, x => by
    simp only [List.cons_append, comb, comb_snoc S r (i + 1) x, List.length_cons, xr_assoc]
    rw [show i + 1 + S.length = i + (S.length + 1) by omega]
theorem comb_succ (S : List Nat) (x : Nat) {k : Nat} (h : k < S.length) : comb (S.take (k + 1)) 0 x = xr (comb (S.take k) 0 x) (if tb x k = true then S.getD k 0 else 0) := by
  rw [List.take_succ_eq_append_getElem h, comb_snoc, List.length_take, Nat.min_eq_left (Nat.le_of_lt h), Nat.zero_add]
  simp [List.getD, h]
theorem comb_sm : ∀ (S : List Nat) (i x : Nat), (∀ r ∈ S, Sm r) → Sm (comb S i x)
  | [], _, _, _ => Sm.zero
  | r :: S, i, x, h => by
    simp only [comb]
    refine Sm.xr ?_ (comb_sm S (i + 1) x fun s hs => h s (List.mem_cons_of_mem _ hs))
    split
    · exact h r (List.mem_cons_self ..)
    · exact Sm.zero
attribute [local go_sem] i64_xor_nat i64_bit_test in
set_option maxHeartbeats 1000000 in
theorem times_any (A : Option Addr) (n c : Nat) (S : List Nat) (x : Nat) (w : World) (hn : n = S.length) (hsm : n ≤ 64) (hx : Sm x) (hS : ∀ r ∈ S, Sm r) (hR : Rd w A (nv S)) :
    Calls Tryz.prog 175 #[.int .i64 x, .slice A n c] w fun e w' => e = .returned (.int .i64 (comb S 0 x : Nat)) ∧ w = w' := by
  have HR := Lib.hid hR
  have Hn := Lib.hid hn
  have HS := Lib.hid hS
  clear hR hn hS
  go_enter Tryz.func175, Tryz.ntmps175
  go_wp2_with fail
  go_loop [5, 10] (fun t i => ∃ k : Nat, k ≤ n ∧ i = .int .i64 k ∧ t = .int .i64 (comb (S.take k) 0 x : Nat)) (fun _ i => n - (intOf i).toNat)
  case atStart => exact ⟨0, by omega, rfl, rfl⟩
  case round =>
    obtain ⟨k, hk, rfl, rfl⟩ := hrel
    by_cases hlt : k < n
    · have hkL : k < S.length := by rw [← Hn.out]; exact hlt
      obtain ⟨b, o, rfl, hc⟩ := HR.out.atN hkL
      have HC := Lib.hid (comb_succ S x hkL)
      have h1 : Sm (comb (S.take k) 0 x) := comb_sm _ _ _ fun r hr => HS.out r (List.mem_of_mem_take hr)
      have h2 : Sm (S.getD k 0) := HS.out _ (by simp [List.getD, hkL])
      generalize comb (S.take k) 0 x = p at *
      generalize S.getD k 0 = q at *
      have hmin : min k 64 = k := by omega
      cases hb : tb x k
      · have HE := Lib.hid (HC.out.trans (by rw [hb]; simp [xr_zero] : _ = p))
        go_wp2_with fail
        go_round
        case rel => exact ⟨k + 1, by omega, by go_num, by rw [HE.out]⟩
        case measure => simp [intOf]; omega
      · have HE := Lib.hid (HC.out.trans (by rw [hb]; simp : _ = xr p q))
        go_wp2_with fail
        go_round
        case rel => exact ⟨k + 1, by omega, by go_num, by rw [HE.out]⟩
        case measure => simp [intOf]; omega
    · have e : S.take k = S := List.take_of_length_le (by rw [← Hn.out]; omega)
      rw [e]
      clear e
      go_wp2_with fail
      go_ret
      exact ⟨rfl, rfl⟩

/-- the table of a module under way: the block of the table, m rows made, their numbers -/
structure TbM (w0 w : World) (g : Nat) (A : Option Addr) (n c : Nat) (h : Nat → Nat) (m : Nat) (S : Nat → List Nat) : Prop where
  blk : ∃ cs : Array Value, w.heap[g]? = some (.cells cs 100 (0, 0)) ∧ cs.size = 22 ∧ cs[0]? = some (.slice A n c) ∧ ∀ k, k < m → cs[1 + k]? = some (.slice (some ⟨h k, 0, none⟩) n n)
  own : ∀ k, k < m → w.ownsRow w0.heap.size 2 1 (.slice (some ⟨h k, 0, none⟩) n n) n (nv (S k))
  inj : ∀ k j, k < m → j < m → k ≠ j → h k ≠ h j
  ge : w0.heap.size ≤ g
  bel : Below w0.heap.size w0 w
section
variable {w0 w : World} {g : Nat} {A : Option Addr} {n c : Nat} {h : Nat → Nat} {m : Nat} {S : Nat → List Nat}
theorem TbM.cell (t : TbM w0 w g A n c h m S) {k : Nat} (hk : k < m) : w.cell? ⟨g, 1 + k, none⟩ = some (.slice (some ⟨h k, 0, none⟩) n n) := by
  obtain ⟨cs, hb, _, _, hc⟩ := t.blk
  rw [cell_of_row w g (1 + k) cs _ _ hb]; exact hc k hk
theorem TbM.cell0 (t : TbM w0 w g A n c h m S) : w.cell? ⟨g, 0, none⟩ = some (.slice A n c) := by
  obtain ⟨cs, hb, _, h0, _⟩ := t.blk
  rw [cell_of_row w g 0 cs _ _ hb]; exact h0
theorem TbM.frozen (t : TbM w0 w g A n c h m S) (i : Nat) : w.frozen? ⟨g, i, none⟩ = false := by
  obtain ⟨cs, hb, _⟩ := t.blk
  simp [World.frozen?, hb]
theorem TbM.old (t : TbM w0 w g A n c h m S) {i : Nat} (hi : i < 22) : ∃ v, w.cell? ⟨g, i, none⟩ = some v := by
  obtain ⟨cs, hb, hs, _⟩ := t.blk
  rw [cell_of_row w g i cs _ _ hb]
  exact ⟨cs[i], by simp [hs, hi]⟩
theorem TbM.lt (t : TbM w0 w g A n c h m S) : g < w.heap.size := by
  obtain ⟨cs, hb, _⟩ := t.blk
  exact (Array.getElem?_eq_some_iff.1 hb).1
theorem TbM.ne (t : TbM w0 w g A n c h m S) {k : Nat} (hk : k < m) : h k ≠ g := by
  obtain ⟨cs, hb, _⟩ := t.blk
  have := own_ne_blk (t.own k hk) hb (by decide)
  simpa [Value.ownBlock] using this
theorem TbM.congr {S' : Nat → List Nat} (t : TbM w0 w g A n c h m S) (e : ∀ k, k < m → S k = S' k) : TbM w0 w g A n c h m S' :=
  ⟨t.blk, fun k hk => by rw [← e k hk]; exact t.own k hk, t.inj, t.ge, t.bel⟩
theorem TbM.below {w' : World} (t : TbM w0 w g A n c h m S) (hb : Below w.heap.size w w') : TbM w0 w' g A n c h m S := by
  obtain ⟨cs, hk, rest⟩ := t.blk
  exact ⟨⟨cs, blk_kept hk hb, rest⟩, fun k hk => owns_keeps (t.own k hk) (Keeps.of_below hb) (.inr (by simp)), t.inj, t.ge, t.bel.trans (hb.mono t.bel.size)⟩
/-- a number stored into a row -/
theorem TbM.store (t : TbM w0 w g A n c h m S) {k : Nat} (hk : k < m) (b x : Nat) : TbM w0 (w.setCell ⟨h k, b, none⟩ (.int .i64 (x : Int))) g A n c h m (fun j => if j = k then (S k).set b x else S j) := by
  have ks : Keeps w (w.setCell ⟨h k, b, none⟩ (.int .i64 (x : Int))) [some (h k)] := (Keeps.refl w [some (h k)]).setCell (p := ⟨h k, b, none⟩) (by simp) _
  obtain ⟨cs, hb, rest⟩ := t.blk
  refine ⟨⟨cs, blk_seto hb _ (t.ne hk) _, rest⟩, fun j hj => ?_, t.inj, t.ge, t.bel.setCell (p := ⟨h k, b, none⟩) ((t.own k hk).lt (h k) rfl).1 _⟩
  by_cases e : j = k
  · subst e
    rw [if_pos rfl]
    have := (World.ownsRow.stored (t.own j hk) b (.int .i64 (x : Int))).1
    have e2 : nv ((S j).set b x) = (nv (S j)).set b (.int .i64 (x : Int)) := by simp [nv, List.map_set]
    rw [e2]; exact this
  · rw [if_neg e]
    exact owns_keeps (t.own j hj) ks (.inr (by simp only [Value.ownBlock, List.mem_singleton, Option.some.injEq]; exact t.inj j k hj hk e))
/-- one more row made -/
theorem TbM.make (t : TbM w0 w g A n c h m S) (hm : m < 21) (hn : n ≤ 1099511627776) : TbM w0 ((w.alloc (.cells (madeCells #[.int .i64 0] n) 2)).setCell ⟨g, 1 + m, none⟩ (.slice (some ⟨w.heap.size, 0, none⟩) n n)) g A n c (fun k => if k = m then w.heap.size else h k) (m + 1) (fun k => if k = m then List.replicate n 0 else S k) := by
  have hlt := t.lt
  have t1 := t.below ((Below.refl _ _).alloc (Nat.le_refl _) (.cells (madeCells #[.int .i64 0] n) 2))
  have ho := made_own w w0.heap.size n t.bel.size hn
  have ks : Keeps (w.alloc (.cells (madeCells #[.int .i64 0] n) 2)) ((w.alloc (.cells (madeCells #[.int .i64 0] n) 2)).setCell ⟨g, 1 + m, none⟩ (.slice (some ⟨w.heap.size, 0, none⟩) n n)) [some g] := (Keeps.refl _ [some g]).setCell (p := ⟨g, 1 + m, none⟩) (by simp) _
  obtain ⟨cs, hb, hs, h0, hc⟩ := t1.blk
  refine ⟨⟨cs.setIfInBounds (1 + m) (.slice (some ⟨w.heap.size, 0, none⟩) n n), heap_setCell_same _ _ _ _ _ _ hb, by simp [hs], ?_, ?_⟩, ?_, ?_, t.ge, t1.bel.setCell (p := ⟨g, 1 + m, none⟩) t.ge _⟩
  · rw [Array.getElem?_setIfInBounds]; rw [if_neg (by omega)]; exact h0
  · intro k hk
    rw [Array.getElem?_setIfInBounds]
    by_cases e : k = m
    · subst e; rw [if_pos rfl, if_pos (by rw [hs]; omega)]; simp
    · rw [if_neg (by omega)]; simp only [if_neg e]; exact hc k (by omega)
  · intro k hk
    by_cases e : k = m
    · subst e
      simp only [if_true]
      have e2 : nv (List.replicate n 0) = iv (List.replicate n 0) := by simp [nv, iv]
      rw [e2]
      exact owns_keeps ho ks (.inr (by simp [Value.ownBlock]; omega))
    · simp only [if_neg e]
      exact owns_keeps (t1.own k (by omega)) ks (.inr (by simp only [Value.ownBlock, List.mem_singleton, Option.some.injEq]; exact t.ne (k := k) (by omega)))
  · intro k j hk hj hne
    have hl : ∀ i, i < m → h i < w.heap.size := fun i hi => ((t.own i hi).lt (h i) rfl).2
    by_cases e : k = m
    · by_cases e2 : j = m
      · omega
      · simp only [if_pos e, if_neg e2]; have := hl j (by omega); omega
    · by_cases e2 : j = m
      · simp only [if_neg e, if_pos e2]; have := hl k (by omega); omega
      · simp only [if_neg e, if_neg e2]; exact t.inj k j (by omega) (by omega) hne
theorem TbM.drew (t : TbM w0 w g A n c h m S) : TbM w0 w.drew g A n c h m S := t.below (Below.drew (Below.refl _ _))
end
end Go.Proofs.YtdkmdmpaflgfaaaGreatDoor
