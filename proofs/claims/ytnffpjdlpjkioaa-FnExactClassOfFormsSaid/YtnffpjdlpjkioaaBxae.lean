/- the reference: one list put into a row of lists in order (or taken out) · the reference's sums of exponents and products of terms · rows of rows of rows: slices of slices of slices of ints (read; compared) · the reference: the result of a table -/
import Derived.Test.YtnffpjdlpjkioaaBxac
import Derived.Test.YtnffpjdlpjkioaaBxad
import Derived.StillTailTactics
import Derived.Test.YtnffpjdlpjkioaaBxab
import Derived.Test.YtnffpjdlpjkioaaBxaa
import Derived.Deep.RegionHeld3
set_option linter.all false
namespace Go.Proofs.Ytnffpjdlpjkioaa
open Go.RowKit

/-- how many stand ahead of x -/
def ahead (Q : LL) (x : List Int) : Nat := (Q.takeWhile fun y => lexLt y x).length
theorem ahead_le (Q : LL) (x : List Int) : ahead Q x ≤ Q.length := (List.takeWhile_prefix _).length_le
theorem putR_ahead : ∀ (Q : LL) (x : List Int), putR Q x = if ahead Q x < Q.length ∧ Q.getD (ahead Q x) [] = x then Q.take (ahead Q x) ++ Q.drop (ahead Q x + 1) else Q.take (ahead Q x) ++ x :: Q.drop (ahead Q x)
  | [], x => by simp [putR, ahead]
  | y :: Q, x => by
    unfold putR ahead
    rw [List.takeWhile_cons]
    cases h : lexLt y x
    · simp only [if_false, Bool.false_eq_true, List.length_nil, List.length_cons, List.getD_cons_zero, List.take_zero, List.drop_zero, List.nil_append]
      by_cases e : y = x
      · simp [e]
      · simp [e]
    · have ih := putR_ahead Q x
      unfold ahead at ih
      simp only [if_true, List.length_cons, List.getD_cons_succ, List.take_succ_cons, List.drop_succ_cons, List.cons_append]
      rw [ih]
      by_cases hc : (Q.takeWhile fun y => lexLt y x).length < Q.length ∧ Q.getD (Q.takeWhile fun y => lexLt y x).length [] = x
      · rw [if_pos hc, if_pos ⟨by omega, hc.2⟩]
      · rw [if_neg hc, if_neg (fun h2 => hc ⟨by omega, h2.2⟩)]
theorem ahead_lt : ∀ (Q : LL) (x : List Int) (i : Nat), i < ahead Q x → lexLt (Q.getD i []) x = true
  | [], x, i, h => by simp [ahead] at h
  | y :: Q, x, i, h => by
    unfold ahead at h
    rw [List.takeWhile_cons] at h
    cases hy : lexLt y x
    · rw [hy] at h; simp at h
    · rw [hy] at h
      cases i with
      | zero => simpa using hy
      | succ i => rw [List.getD_cons_succ]; exact ahead_lt Q x i (by unfold ahead; simpa using h)
theorem ahead_ge : ∀ (Q : LL) (x : List Int), ahead Q x < Q.length → lexLt (Q.getD (ahead Q x) []) x = false
  | [], x, h => by simp [ahead] at h
  | y :: Q, x, h => by
    unfold ahead at h ⊢
    rw [List.takeWhile_cons] at h ⊢
    cases hy : lexLt y x
    · simpa using hy
    · rw [hy] at h
      simp only [if_true, List.length_cons, List.getD_cons_succ]
      exact ahead_ge Q x (by unfold ahead; simpa using h)

/-- new rows, to be read only -/
def RdRes (Q : LL) (w : World) (e : Ending) (w' : World) : Prop := ∃ A c M, e = .returned (.slice A M.length c) ∧ dat M = Q ∧ RdR w' A M ∧ M.length ≤ c ∧ Below w.heap.size w w'
theorem ResRows.rd {Q : LL} {w w' : World} {e : Ending} (h : ResRows Q w e w') : RdRes Q w e w' := by
  obtain ⟨v, M, rfl, hd, ho, hb⟩ := h
  obtain ⟨A, c, rfl, hc, _⟩ := owns_shape ho.out
  exact ⟨A, c, M, rfl, hd, ho.rd rfl, hc, hb⟩
theorem rd_take {w : World} {A : Option Addr} {vs : List Value} (h : Rd w A vs) (k : Nat) : Rd w A (vs.take k) := by
  rcases h with h | ⟨b, o, rfl, h⟩
  · exact .inl (by rw [h, List.take_nil])
  · refine .inr ⟨b, o, rfl, fun i v hi => h i v ?_⟩
    rw [List.getElem?_take] at hi
    split at hi
    · exact hi
    · cases hi
theorem rd_drop {w : World} {b o : Nat} {vs : List Value} (h : Rd w (some ⟨b, o, none⟩) vs) (k : Nat) : Rd w (some ⟨b, o + k, none⟩) (vs.drop k) := by
  rcases h with h | ⟨b, o, e, h⟩
  · exact .inl (by rw [h, List.drop_nil])
  · injection e with e
    injection e with e1 e2
    subst e1 e2
    refine .inr ⟨_, _, rfl, fun i v hi => ?_⟩
    rw [List.getElem?_drop] at hi
    rw [Nat.add_assoc]
    exact h _ v hi

theorem RdR.all {w : World} {A : Option Addr} {L : List Row} (h : RdR w A L) : ∀ r ∈ L, Rd w r.A (iv r.xs) ∧ r.xs.length ≤ r.c := fun r hr => by
  obtain ⟨i, hi, rfl⟩ := List.mem_iff_getElem.1 hr
  have e : rg L i = L[i] := by simp [rg, List.getD, hi]
  rw [← e]
  exact ⟨h.inn i hi, h.cap i hi⟩
theorem RdR.mk' {w : World} {A : Option Addr} {L : List Row} (h : Rd w A (hv L)) (k : ∀ r ∈ L, Rd w r.A (iv r.xs) ∧ r.xs.length ≤ r.c) : RdR w A L :=
  ⟨h, fun i hi => (k _ (rg_mem hi)).1, fun i hi => (k _ (rg_mem hi)).2⟩
theorem one_take {L : List Row} (k : Nat) : ∀ u ∈ (hv L).take k, u.oneCell' = true := fun u hu => hv_one L u (List.mem_of_mem_take hu)
theorem one_drop {L : List Row} (k : Nat) : ∀ u ∈ (hv L).drop k, u.oneCell' = true := fun u hu => hv_one L u (List.mem_of_mem_drop hu)
theorem rd_dropA {w : World} {b o n c k : Nat} {vs : List Value} (h : Rd w (some ⟨b, o, none⟩) vs) (hn : n = vs.length) (hc : n ≤ c) (hk : k ≤ n) : Rd w (if c = k then some ⟨b, o, none⟩ else some ⟨b, o + k, none⟩) (vs.drop k) := by
  split
  · exact .inl (List.drop_of_length_le (by omega))
  · exact rd_drop h k
theorem hv_take (L : List Row) (k : Nat) : (hv L).take k = hv (L.take k) := by simp [hv, List.map_take]
theorem hv_drop (L : List Row) (k : Nat) : (hv L).drop k = hv (L.drop k) := by simp [hv, List.map_drop]
theorem dat_drop (L : List Row) (k : Nat) : (dat L).drop k = dat (L.drop k) := by simp [dat, List.map_drop]
theorem dat_tk (L : List Row) (k : Nat) : (dat L).take k = dat (L.take k) := by simp [dat, List.map_take]

theorem put_b15 {w1 w5 : World} {o : Obj} {n c : Nat} (hg : (w1.alloc o).drew.grownBy w5 (Value.slice (some ⟨w1.heap.size, 0, none⟩) n c).ownBlock) : Below w1.heap.size w1 w5 :=
  (((Below.refl w1.heap.size w1).alloc (Nat.le_refl _) o).drew).grown hg (by show w1.heap.size ≤ (w1.alloc o).heap.size; simp) (fun k hk => by simp [Value.ownBlock] at hk; omega)
theorem put_b6 {w1 w5 : World} {o : Obj} {n c : Nat} (hg : (w1.alloc o).grownBy w5 (Value.slice (some ⟨w1.heap.size, 0, none⟩) n c).ownBlock) : Below w1.heap.size w1 w5 :=
  ((Below.refl w1.heap.size w1).alloc (Nat.le_refl _) o).grown hg (by simp) (fun k hk => by simp [Value.ownBlock] at hk; omega)
theorem owns_later {w w' : World} {B n : Nat} {e : TypeId} {v : Value} {xs : List Value} (h : w.ownsRow B e 1 v n xs) (hb : Below w.heap.size w w') : w'.ownsRow B e 1 v n xs := owns_keeps h (Keeps.of_below hb) (.inr (by simp))
theorem put_in {w w7 : World} {A : Option Addr} {n i p g cap B : Nat} {x : List Int} {L : List Row} {v7 : Value} {Q : LL} (hR : RdR w A L) (hb : Below w.heap.size w w7)
    (ho : w7.ownsRow B 30 1 v7 (0 + i + (1 + (n - i))) ([] ++ (hv L).take i ++ ([.slice (some ⟨g, 0, none⟩) p cap] ++ (hv L).drop i))) (hx : Rd w7 (some ⟨g, 0, none⟩) (iv x)) (hcap : p ≤ cap) (hp : p = x.length) (hQ : Q = (dat L).take i ++ x :: (dat L).drop i) (hn : n = L.length) :
    RdRes Q w (.returned v7) w7 := by
  subst hp
  have hl := ho.1
  obtain ⟨A6, c6, rfl, hc, _⟩ := owns_shape ho
  have e : [] ++ (hv L).take i ++ ([.slice (some ⟨g, 0, none⟩) x.length cap] ++ (hv L).drop i) = hv (L.take i ++ ⟨some ⟨g, 0, none⟩, cap, x⟩ :: L.drop i) := by rw [hv_take, hv_drop, hv_app]; rfl
  rw [e] at ho hl
  have hll : 0 + i + (1 + (n - i)) = (L.take i ++ ⟨some ⟨g, 0, none⟩, cap, x⟩ :: L.drop i).length := by rw [Nat.mul_one] at hl; rw [← hl, hv_length]
  rw [hll] at ho hc ⊢
  refine ⟨A6, c6, _, rfl, ?_, RdR.mk' (owns_Rd ho) fun r hr => ?_, hc, hb⟩
  · rw [hQ, dat_app, dat_tk, dat_drop]; rfl
  · rcases List.mem_append.1 hr with h | h
    · exact (hR.below hb).all r (List.mem_of_mem_take h)
    · rcases List.mem_cons.1 h with h | h
      · subst h; exact ⟨hx, hcap⟩
      · exact (hR.below hb).all r (List.mem_of_mem_drop h)
theorem put_sz {B : Nat} {w w' : World} (hb : Below B w w') (o : Obj) (hB : B ≤ w.heap.size := by exact Nat.le_refl _) : B ≤ (w'.alloc o).drew.heap.size := by
  have := hb.size
  show B ≤ (w'.alloc o).heap.size
  simp; omega
theorem put_b5 {w w' w5 : World} {o : Obj} {n c : Nat} (hb : Below w.heap.size w w') (hg : (w'.alloc o).drew.grownBy w5 (Value.slice (some ⟨w'.heap.size, 0, none⟩) n c).ownBlock) : Below w.heap.size w w5 :=
  ((hb.alloc hb.size o).drew).grown hg (put_sz hb o) (fun k hk => by
    have := hb.size
    simp [Value.ownBlock] at hk; omega)
theorem put_out {w w6 : World} {A : Option Addr} {n i : Nat} {L : List Row} {v6 : Value} {Q : LL} (hR : RdR w A L) (hb : Below w.heap.size w w6) (ho : w6.ownsRow w.heap.size 30 1 v6 (0 + i + (n - (i + 1))) ([] ++ (hv L).take i ++ (hv L).drop (i + 1))) (hQ : Q = (dat L).take i ++ (dat L).drop (i + 1)) (hn : n = L.length) :
    RdRes Q w (.returned v6) w6 := by
  have hl := ho.1
  obtain ⟨A6, c6, rfl, hc, _⟩ := owns_shape ho
  have e : [] ++ (hv L).take i ++ (hv L).drop (i + 1) = hv (L.take i ++ L.drop (i + 1)) := by rw [hv_take, hv_drop, hv_app]; rfl
  rw [e] at ho hl
  have hll : 0 + i + (n - (i + 1)) = (L.take i ++ L.drop (i + 1)).length := by rw [Nat.mul_one] at hl; rw [← hl, hv_length]
  rw [hll] at ho hc ⊢
  refine ⟨A6, c6, _, rfl, ?_, RdR.mk' (owns_Rd ho) fun r hr => ?_, hc, hb⟩
  · rw [hQ, dat_app, dat_drop, dat_tk]
  · refine (hR.below hb).all r ?_
    rcases List.mem_append.1 hr with h | h
    · exact List.mem_of_mem_take h
    · exact List.mem_of_mem_drop h

set_option maxRecDepth 100000 in
set_option maxHeartbeats 2000000 in
theorem l01Put_any (A B : Option Addr) (n c p cp : Nat) (L : List Row) (x : List Int) (w : World) (hn : n = L.length) (hcap : n ≤ c) (hsm : n ≤ 600000000000) (hl : ∀ i, i < L.length → (rg L i).xs.length ≤ 1000000) (hp : p = x.length) (hp1 : p ≤ 1000000) (hR : RdR w A L) (hX : Rd w B (iv x)) :
    Calls Try.prog 102 #[.slice A n c, .slice B p cp] w (RdRes (putR (dat L) x) w) := by
  have hk := ahead_le (dat L) x
  rw [dat_length, ← hn] at hk
  have HLT := Lib.hid (ahead_lt (dat L) x)
  have HGE := Lib.hid (ahead_ge (dat L) x)
  have HPA := Lib.hid (putR_ahead (dat L) x)
  have HR := Lib.hid hR
  have HX := Lib.hid hX
  have Hn := Lib.hid hn
  have Hp := Lib.hid hp
  have HL := Lib.hid hl
  generalize ahead (dat L) x = k at *
  clear hR hX hn hp hl
  go_enter Try.func102, Try.ntmps102
  go_wp2_with fail
  go_loopw [5] (fun v5 wr => ∃ i : Nat, i ≤ k ∧ v5 = .int .i64 i ∧ Below w.heap.size w wr) (fun v5 _ => k - (intOf v5).toNat)
  case atStart => exact ⟨0, by omega, rfl, Below.refl _ _⟩
  case round =>
    obtain ⟨i, hi, rfl, hbel⟩ := hrel
    have HB := Lib.hid hbel
    by_cases hlt : i < k
    · have hiL : i < L.length := by rw [← Hn.out]; omega
      obtain ⟨b, o, rfl, hc⟩ := (HR.out.below hbel).at_ hiL
      have hri := (HR.out.below hbel).inn i hiL
      have hli := HL.out i hiL
      have hlx := HLT.out i hlt
      rw [dat_getD] at hlx
      generalize rg L i = r at *
      obtain ⟨rA, rc, rx⟩ := r
      simp only at hc hri hli hlx
      have hx2 := HX.out.below hbel
      have HC := Lib.hid (fun W hb => l01Less_any rA B rx.length p rc cp rx x W rfl Hp.out (by omega) (by omega) (Rd.below hri hb) (Rd.below hx2 hb))
      rw [hlx] at HC
      have hin : (i : Int) < (n : Int) := by omega
      clear hbel hri hx2 hlx hiL
      go_wp2_with fail
      refine (HC.out _ (Below.refl _ _)).mono ?_
      rintro e w' ⟨rfl, m, rfl⟩
      go_wp2_with fail
      go_roundw
      case rel => exact ⟨i + 1, by omega, by go_num, below_drewN HB.out _⟩
      case measure => simp [intOf]; omega
    · obtain rfl : i = k := by omega
      by_cases hin : i < n
      · have hiL : i < L.length := by rw [← Hn.out]; omega
        obtain ⟨b, o, rfl, hc⟩ := (HR.out.below hbel).at_ hiL
        have hri := (HR.out.below hbel).inn i hiL
        have hli := HL.out i hiL
        have hlx := HGE.out (by rw [dat_length]; exact hiL)
        have HQ : Hid ((dat L).getD i [] = (rg L i).xs) := Lib.hid (dat_getD L i)
        rw [HQ.out] at hlx HPA
        have HI := Lib.hid hiL
        generalize rg L i = r at *
        obtain ⟨rA, rc, rx⟩ := r
        simp only at hc hri hli hlx HPA
        have hx2 := HX.out.below hbel
        have HC := Lib.hid (fun W hb => l01Less_any rA B rx.length p rc cp rx x W rfl Hp.out (by omega) (by omega) (Rd.below hri hb) (Rd.below hx2 hb))
        rw [hlx] at HC
        have HS := Lib.hid (fun W hb => l01Same_any rA B rx.length p rc cp rx x W rfl Hp.out (by omega) (by omega) (Rd.below hri hb) (Rd.below hx2 hb))
        have hini : (i : Int) < (n : Int) := by omega
        by_cases hs : rx = x
        · have hb : (rx == x) = true := by rw [hs]; exact beq_self_eq_true x
          rw [hb] at HS
          rw [if_pos ⟨by rw [dat_length]; exact hiL, hs⟩] at HPA
          clear hbel hri hx2 hlx hiL hs hb
          go_wp2_with fail
          refine (HC.out _ (Below.refl _ _)).mono ?_
          rintro e w' ⟨rfl, m, rfl⟩
          go_wp2_with fail
          refine (HS.out _ (below_drewN (Below.refl _ _) _)).mono ?_
          rintro e w' ⟨rfl, m2, hw⟩
          have HB2 : Hid (Below w.heap.size w w') := Lib.hid (by subst hw; exact below_drewN (below_drewN HB.out m) m2)
          clear hw
          have hs2 := HB2.out.size
          have hin1 : (i : Int) + 1 ≤ (n : Int) := by omega
          have hic : (i : Int) ≤ (c : Int) := by omega
          have hi0 : 0 ≤ (i : Int) := by omega
          have hi1 : 0 ≤ (i : Int) + 1 := by omega
          have hc0 : c ≠ 0 := by omega
          have hti : ((i : Int) + 1).toNat = i + 1 := by omega
          have hw1 : IntKind.i64.wrap ((i : Int) + 1) = (i : Int) + 1 := by rw [IntKind.wrap_i64]; omega
          have HR2 := Lib.hid (HR.out.out.below HB2.out)
          by_cases hcc : c = i + 1
          · have HD0 := Lib.hid (show (hv L).drop (i + 1) = [] from List.drop_of_length_le (by rw [hv_length, ← Hn.out]; omega))
            subst hcc
            have hic2 : (i : Int) ≤ (i : Int) + 1 := by omega
            go_wp2_with fail
            refine wp_region_held_drew (S := (fun w' => True)) (by kernel_rfl) (by trivial) (fun hHeld => ?_)
            refine wpAnyH_take (i := 1) (oi := ?oim1_1) (v := ?vm1_1) ?hm1_1 (by kernel_rfl) (by kernel_rfl) (by kernel_rfl) ?qm1_1 (Or.inl ⟨?wm1_1, ?ym1_1⟩) (by assumption) ?rm1_1
            case hm1_1 => (simp only [List.getElem?_toArray, List.getElem?_cons_succ, List.getElem?_cons_zero]; rfl)
            case qm1_1 => exact fun _ _ _ h => h
            case wm1_1 => rfl
            case ym1_1 => (intro w hSw; (try dsimp only at hSw); go_simp <;> with_reducible rfl)
            try simp only [Act.put, List.setIfInBounds_toArray, List.set_cons_zero, List.set_cons_succ]
            refine wpAnyH_take (i := 2) (oi := ?oim1_2) (v := ?vm1_2) ?hm1_2 (by kernel_rfl) (by kernel_rfl) (by kernel_rfl) ?qm1_2 (Or.inl ⟨?wm1_2, ?ym1_2⟩) (by assumption) ?rm1_2
            case hm1_2 => (simp only [List.getElem?_toArray, List.getElem?_cons_succ, List.getElem?_cons_zero]; rfl)
            case qm1_2 => exact fun _ _ _ h => h
            case wm1_2 => rfl
            case ym1_2 => (intro w hSw; (try dsimp only at hSw); go_simp <;> with_reducible rfl)
            try simp only [Act.put, List.setIfInBounds_toArray, List.set_cons_zero, List.set_cons_succ]
            refine wpAnyH_take (i := 3) (oi := ?oim1_3) (v := ?vm1_3) ?hm1_3 (by kernel_rfl) (by kernel_rfl) (by kernel_rfl) ?qm1_3 (Or.inl ⟨?wm1_3, ?ym1_3⟩) (by assumption) ?rm1_3
            case hm1_3 => (simp only [List.getElem?_toArray, List.getElem?_cons_succ, List.getElem?_cons_zero]; rfl)
            case qm1_3 => exact fun _ _ _ h => h
            case wm1_3 => rfl
            case ym1_3 => (intro w hSw; (try dsimp only at hSw); go_simp <;> with_reducible rfl)
            try simp only [Act.put, List.setIfInBounds_toArray, List.set_cons_zero, List.set_cons_succ]
            refine wpAnyH_take (i := 5) (oi := ?oim1_4) (v := ?vm1_4) ?hm1_4 (by kernel_rfl) (by kernel_rfl) (by kernel_rfl) ?qm1_4 (Or.inl ⟨?wm1_4, ?ym1_4⟩) (by assumption) ?rm1_4
            case hm1_4 => (simp only [List.getElem?_toArray, List.getElem?_cons_succ, List.getElem?_cons_zero]; rfl)
            case qm1_4 => exact fun _ _ _ h => h
            case wm1_4 => rfl
            case ym1_4 => (intro w hSw; (try dsimp only at hSw); go_simp <;> with_reducible rfl)
            try simp only [Act.put, List.setIfInBounds_toArray, List.set_cons_zero, List.set_cons_succ]
            refine wpAnyH_take (i := 6) (oi := ?oim1_5) (v := ?vm1_5) ?hm1_5 (by kernel_rfl) (by kernel_rfl) (by kernel_rfl) ?qm1_5 (Or.inl ⟨?wm1_5, ?ym1_5⟩) (by assumption) ?rm1_5
            case hm1_5 => (simp only [List.getElem?_toArray, List.getElem?_cons_succ, List.getElem?_cons_zero]; rfl)
            case qm1_5 => exact fun _ _ _ h => h
            case wm1_5 => rfl
            case ym1_5 => (intro w hSw; (try dsimp only at hSw); go_simp <;> with_reducible rfl)
            try simp only [Act.put, List.setIfInBounds_toArray, List.set_cons_zero, List.set_cons_succ]
            refine wpAnyH_take (i := 7) (oi := ?oim1_6) (v := ?vm1_6) ?hm1_6 (by kernel_rfl) (by kernel_rfl) (by kernel_rfl) ?qm1_6 (Or.inl ⟨?wm1_6, ?ym1_6⟩) (by assumption) ?rm1_6
            case hm1_6 => (simp only [List.getElem?_toArray, List.getElem?_cons_succ, List.getElem?_cons_zero]; rfl)
            case qm1_6 => exact fun _ _ _ h => h
            case wm1_6 => rfl
            case ym1_6 => (intro w hSw; (try dsimp only at hSw); go_simp <;> with_reducible rfl)
            try simp only [Act.put, List.setIfInBounds_toArray, List.set_cons_zero, List.set_cons_succ]
            refine wpAnyH_take (i := 8) (oi := ?oim1_7) (v := ?vm1_7) ?hm1_7 (by kernel_rfl) (by kernel_rfl) (by kernel_rfl) ?qm1_7 (Or.inl ⟨?wm1_7, ?ym1_7⟩) (by assumption) ?rm1_7
            case hm1_7 => (simp only [List.getElem?_toArray, List.getElem?_cons_succ, List.getElem?_cons_zero]; rfl)
            case qm1_7 => exact fun _ _ _ h => h
            case wm1_7 => rfl
            case ym1_7 => (intro w hSw; (try dsimp only at hSw); go_simp <;> with_reducible rfl)
            try simp only [Act.put, List.setIfInBounds_toArray, List.set_cons_zero, List.set_cons_succ]
            refine wpAnyH_ready (rs := [0]) (by kernel_rfl) (by simp) ?_
            refine AllReadyH.cons (o := ?oim1_8) ?hm1_8 (fun K hK => ?km1_8) ?mm1_8
            case hm1_8 => (simp only [List.getElem?_toArray, List.getElem?_cons_succ, List.getElem?_cons_zero]; rfl)
            case km1_8 =>
              go_simp
              refine hK.out _ _ (by trivial) (fun hHeld => ?_)
              clear hK K
              try simp only [Act.put, List.setIfInBounds_toArray, List.set_cons_zero, List.set_cons_succ]
              refine wpAnyH_ready (rs := [4]) (by kernel_rfl) (by simp) ?_
              refine AllReadyH.cons (o := ?oim1_9) ?hm1_9 (fun K hK => ?km1_9) ?mm1_9
              case hm1_9 => (simp only [List.getElem?_toArray, List.getElem?_cons_succ, List.getElem?_cons_zero]; rfl)
              case km1_9 =>
                (refine step_appR _ _ _ _ _ etS (by rfl) (by rfl) w.heap.size (.slice (some ⟨w'.heap.size, 0, none⟩) 0 0) 0 [] (by rfl) ?_ (some ⟨b, o, none⟩) i _ ((hv L).take i) (by rfl) ?_ ?_ (one_take _) ?_ ?_ ?_; exact World.ownsRow_made w' #[] 0 hs2 (by decide) (by simp); (rw [List.length_take, hv_length]; have := Hn.out; omega); exact rd_take (HR2.out.below ((Below.refl _ _).alloc (Nat.le_refl _) _)) i; omega; exact put_sz HB2.out _; (intro v5 w5 hown hg hat; have HO5 := Lib.hid hown; have HG5 := Lib.hid hg; have HB5 : Hid (Below w.heap.size w w5) := Lib.hid (put_b5 HB2.out hg); clear hown hg hat))
                refine hK.out _ _ (by trivial) (fun hHeld => ?_)
                clear hK K
                try simp only [Act.put, List.setIfInBounds_toArray, List.set_cons_zero, List.set_cons_succ]
                refine wpAnyH_ready (rs := [9]) (by kernel_rfl) (by simp) ?_
                refine AllReadyH.cons (o := ?oim1_10) ?hm1_10 (fun K hK => ?km1_10) ?mm1_10
                case hm1_10 => (simp only [List.getElem?_toArray, List.getElem?_cons_succ, List.getElem?_cons_zero]; rfl)
                case km1_10 =>
                  (refine step_appR _ _ _ _ _ etS (by rfl) (by rfl) w.heap.size v5 (0 + i) ([] ++ (hv L).take i) (by rfl) HO5.out _ 0 _ [] (by rfl) (by rfl) (.inl rfl) (fun u hu => (by cases hu)) ?_ HB5.out.size ?_; omega; (intro v6 w6 hown hg hat; have HO6 := Lib.hid hown; have HB6 := Lib.hid (HB5.out.grown hg HB5.out.size (fun k hk => (HO5.out.lt k hk).1)); clear hown hg hat))
                  refine hK.out _ _ (by trivial) (fun hHeld => ?_)
                  clear hK K
                  try simp only [Act.put, List.setIfInBounds_toArray, List.set_cons_zero, List.set_cons_succ]
                  refine wpAnyH_take (i := 10) (oi := ?oim1_11) (v := ?vm1_11) ?hm1_11 (by kernel_rfl) (by kernel_rfl) (by kernel_rfl) ?qm1_11 (Or.inl ⟨?wm1_11, ?ym1_11⟩) (by assumption) ?rm1_11
                  case hm1_11 => (simp only [List.getElem?_toArray, List.getElem?_cons_succ, List.getElem?_cons_zero]; rfl)
                  case qm1_11 => exact fun _ _ _ h => h
                  case wm1_11 => rfl
                  case ym1_11 => (intro w hSw; (try dsimp only at hSw); go_simp <;> with_reducible rfl)
                  try simp only [Act.put, List.setIfInBounds_toArray, List.set_cons_zero, List.set_cons_succ]
                  refine wpAnyH_done (by kernel_rfl) ?_ _
                  go_wp2_with fail
                  go_ret
                  exact put_out HR.out HB6.out (by rw [HD0.out, show n - (i + 1) = 0 from by omega]; exact HO6.out) HPA.out Hn.out
                exact AllReadyH.nil
              exact AllReadyH.nil
            exact AllReadyH.nil
          · have hcc2 : c ≠ i + 1 := hcc
            go_wp2_with fail
            refine wp_region_held_drew (S := (fun w' => True)) (by kernel_rfl) (by trivial) (fun hHeld => ?_)
            refine wpAnyH_take (i := 1) (oi := ?oim2_1) (v := ?vm2_1) ?hm2_1 (by kernel_rfl) (by kernel_rfl) (by kernel_rfl) ?qm2_1 (Or.inl ⟨?wm2_1, ?ym2_1⟩) (by assumption) ?rm2_1
            case hm2_1 => (simp only [List.getElem?_toArray, List.getElem?_cons_succ, List.getElem?_cons_zero]; rfl)
            case qm2_1 => exact fun _ _ _ h => h
            case wm2_1 => rfl
            case ym2_1 => (intro w hSw; (try dsimp only at hSw); go_simp <;> with_reducible rfl)
            try simp only [Act.put, List.setIfInBounds_toArray, List.set_cons_zero, List.set_cons_succ]
            refine wpAnyH_take (i := 2) (oi := ?oim2_2) (v := ?vm2_2) ?hm2_2 (by kernel_rfl) (by kernel_rfl) (by kernel_rfl) ?qm2_2 (Or.inl ⟨?wm2_2, ?ym2_2⟩) (by assumption) ?rm2_2
            case hm2_2 => (simp only [List.getElem?_toArray, List.getElem?_cons_succ, List.getElem?_cons_zero]; rfl)
            case qm2_2 => exact fun _ _ _ h => h
            case wm2_2 => rfl
            case ym2_2 => (intro w hSw; (try dsimp only at hSw); go_simp <;> with_reducible rfl)
            try simp only [Act.put, List.setIfInBounds_toArray, List.set_cons_zero, List.set_cons_succ]
            refine wpAnyH_take (i := 3) (oi := ?oim2_3) (v := ?vm2_3) ?hm2_3 (by kernel_rfl) (by kernel_rfl) (by kernel_rfl) ?qm2_3 (Or.inl ⟨?wm2_3, ?ym2_3⟩) (by assumption) ?rm2_3
            case hm2_3 => (simp only [List.getElem?_toArray, List.getElem?_cons_succ, List.getElem?_cons_zero]; rfl)
            case qm2_3 => exact fun _ _ _ h => h
            case wm2_3 => rfl
            case ym2_3 => (intro w hSw; (try dsimp only at hSw); go_simp <;> with_reducible rfl)
            try simp only [Act.put, List.setIfInBounds_toArray, List.set_cons_zero, List.set_cons_succ]
            refine wpAnyH_take (i := 5) (oi := ?oim2_4) (v := ?vm2_4) ?hm2_4 (by kernel_rfl) (by kernel_rfl) (by kernel_rfl) ?qm2_4 (Or.inl ⟨?wm2_4, ?ym2_4⟩) (by assumption) ?rm2_4
            case hm2_4 => (simp only [List.getElem?_toArray, List.getElem?_cons_succ, List.getElem?_cons_zero]; rfl)
            case qm2_4 => exact fun _ _ _ h => h
            case wm2_4 => rfl
            case ym2_4 => (intro w hSw; (try dsimp only at hSw); go_simp <;> with_reducible rfl)
            try simp only [Act.put, List.setIfInBounds_toArray, List.set_cons_zero, List.set_cons_succ]
            refine wpAnyH_take (i := 6) (oi := ?oim2_5) (v := ?vm2_5) ?hm2_5 (by kernel_rfl) (by kernel_rfl) (by kernel_rfl) ?qm2_5 (Or.inl ⟨?wm2_5, ?ym2_5⟩) (by assumption) ?rm2_5
            case hm2_5 => (simp only [List.getElem?_toArray, List.getElem?_cons_succ, List.getElem?_cons_zero]; rfl)
            case qm2_5 => exact fun _ _ _ h => h
            case wm2_5 => rfl
            case ym2_5 => (intro w hSw; (try dsimp only at hSw); go_simp <;> with_reducible rfl)
            try simp only [Act.put, List.setIfInBounds_toArray, List.set_cons_zero, List.set_cons_succ]
            refine wpAnyH_take (i := 7) (oi := ?oim2_6) (v := ?vm2_6) ?hm2_6 (by kernel_rfl) (by kernel_rfl) (by kernel_rfl) ?qm2_6 (Or.inl ⟨?wm2_6, ?ym2_6⟩) (by assumption) ?rm2_6
            case hm2_6 => (simp only [List.getElem?_toArray, List.getElem?_cons_succ, List.getElem?_cons_zero]; rfl)
            case qm2_6 => exact fun _ _ _ h => h
            case wm2_6 => rfl
            case ym2_6 => (intro w hSw; (try dsimp only at hSw); go_simp <;> with_reducible rfl)
            try simp only [Act.put, List.setIfInBounds_toArray, List.set_cons_zero, List.set_cons_succ]
            refine wpAnyH_take (i := 8) (oi := ?oim2_7) (v := ?vm2_7) ?hm2_7 (by kernel_rfl) (by kernel_rfl) (by kernel_rfl) ?qm2_7 (Or.inl ⟨?wm2_7, ?ym2_7⟩) (by assumption) ?rm2_7
            case hm2_7 => (simp only [List.getElem?_toArray, List.getElem?_cons_succ, List.getElem?_cons_zero]; rfl)
            case qm2_7 => exact fun _ _ _ h => h
            case wm2_7 => rfl
            case ym2_7 => (intro w hSw; (try dsimp only at hSw); go_simp <;> with_reducible rfl)
            try simp only [Act.put, List.setIfInBounds_toArray, List.set_cons_zero, List.set_cons_succ]
            refine wpAnyH_ready (rs := [0]) (by kernel_rfl) (by simp) ?_
            refine AllReadyH.cons (o := ?oim2_8) ?hm2_8 (fun K hK => ?km2_8) ?mm2_8
            case hm2_8 => (simp only [List.getElem?_toArray, List.getElem?_cons_succ, List.getElem?_cons_zero]; rfl)
            case km2_8 =>
              go_simp
              refine hK.out _ _ (by trivial) (fun hHeld => ?_)
              clear hK K
              try simp only [Act.put, List.setIfInBounds_toArray, List.set_cons_zero, List.set_cons_succ]
              refine wpAnyH_ready (rs := [4]) (by kernel_rfl) (by simp) ?_
              refine AllReadyH.cons (o := ?oim2_9) ?hm2_9 (fun K hK => ?km2_9) ?mm2_9
              case hm2_9 => (simp only [List.getElem?_toArray, List.getElem?_cons_succ, List.getElem?_cons_zero]; rfl)
              case km2_9 =>
                (refine step_appR _ _ _ _ _ etS (by rfl) (by rfl) w.heap.size (.slice (some ⟨w'.heap.size, 0, none⟩) 0 0) 0 [] (by rfl) ?_ (some ⟨b, o, none⟩) i _ ((hv L).take i) (by rfl) ?_ ?_ (one_take _) ?_ ?_ ?_; exact World.ownsRow_made w' #[] 0 hs2 (by decide) (by simp); (rw [List.length_take, hv_length]; have := Hn.out; omega); exact rd_take (HR2.out.below ((Below.refl _ _).alloc (Nat.le_refl _) _)) i; omega; exact put_sz HB2.out _; (intro v5 w5 hown hg hat; have HO5 := Lib.hid hown; have HG5 := Lib.hid hg; have HB5 : Hid (Below w.heap.size w w5) := Lib.hid (put_b5 HB2.out hg); clear hown hg hat))
                refine hK.out _ _ (by trivial) (fun hHeld => ?_)
                clear hK K
                try simp only [Act.put, List.setIfInBounds_toArray, List.set_cons_zero, List.set_cons_succ]
                refine wpAnyH_ready (rs := [9]) (by kernel_rfl) (by simp) ?_
                refine AllReadyH.cons (o := ?oim2_10) ?hm2_10 (fun K hK => ?km2_10) ?mm2_10
                case hm2_10 => (simp only [List.getElem?_toArray, List.getElem?_cons_succ, List.getElem?_cons_zero]; rfl)
                case km2_10 =>
                  (refine step_appR _ _ _ _ _ etS (by rfl) (by rfl) w.heap.size v5 (0 + i) ([] ++ (hv L).take i) (by rfl) HO5.out _ (n - (i + 1)) _ ((hv L).drop (i + 1)) (by rfl) ?_ ?_ (one_drop _) ?_ HB5.out.size ?_; (rw [List.length_drop, hv_length, Hn.out]); (have h := rd_drop (HR.out.out.below HB5.out) (i + 1); first | exact h | simpa [Addr.add] using h); omega; (intro v6 w6 hown hg hat; have HO6 := Lib.hid hown; have HB6 := Lib.hid (HB5.out.grown hg HB5.out.size (fun k hk => (HO5.out.lt k hk).1)); clear hown hg hat))
                  refine hK.out _ _ (by trivial) (fun hHeld => ?_)
                  clear hK K
                  try simp only [Act.put, List.setIfInBounds_toArray, List.set_cons_zero, List.set_cons_succ]
                  refine wpAnyH_take (i := 10) (oi := ?oim2_11) (v := ?vm2_11) ?hm2_11 (by kernel_rfl) (by kernel_rfl) (by kernel_rfl) ?qm2_11 (Or.inl ⟨?wm2_11, ?ym2_11⟩) (by assumption) ?rm2_11
                  case hm2_11 => (simp only [List.getElem?_toArray, List.getElem?_cons_succ, List.getElem?_cons_zero]; rfl)
                  case qm2_11 => exact fun _ _ _ h => h
                  case wm2_11 => rfl
                  case ym2_11 => (intro w hSw; (try dsimp only at hSw); go_simp <;> with_reducible rfl)
                  try simp only [Act.put, List.setIfInBounds_toArray, List.set_cons_zero, List.set_cons_succ]
                  refine wpAnyH_done (by kernel_rfl) ?_ _
                  go_wp2_with fail
                  go_ret
                  exact put_out HR.out HB6.out HO6.out HPA.out Hn.out
                exact AllReadyH.nil
              exact AllReadyH.nil
            exact AllReadyH.nil
        · have hb : (rx == x) = false := by simpa using hs
          rw [hb] at HS
          rw [if_neg (fun h => hs h.2)] at HPA
          clear hbel hri hx2 hlx hiL hs hb
          go_wp2_with fail
          refine (HC.out _ (Below.refl _ _)).mono ?_
          rintro e w' ⟨rfl, m, rfl⟩
          go_wp2_with fail
          refine (HS.out _ (below_drewN (Below.refl _ _) _)).mono ?_
          rintro e w' ⟨rfl, m2, hw⟩
          have HB2 : Hid (Below w.heap.size w w') := Lib.hid (by subst hw; exact below_drewN (below_drewN HB.out m) m2)
          clear hw
          have hs2 := HB2.out.size
          have hic : (i : Int) ≤ (c : Int) := by omega
          have hin2 : (i : Int) ≤ (n : Int) := by omega
          have hi0 : 0 ≤ (i : Int) := by omega
          have hc0 : c ≠ 0 := by omega
          have hci : c ≠ i := by omega
          have HCO := Lib.hid (fun W (hb : Below w.heap.size w W) => l01Own_any B p cp (iv x) W (by rw [iv_length]; exact Hp.out) (by omega) (iv_one _) (HX.out.below hb))
          go_wp2_with fail
          refine wp_region_held_drew (S := (fun w' => True)) (by kernel_rfl) (by trivial) (fun hHeld => ?_)
          refine wpAnyH_take (i := 0) (oi := ?oim3_1) (v := ?vm3_1) ?hm3_1 (by kernel_rfl) (by kernel_rfl) (by kernel_rfl) ?qm3_1 (Or.inl ⟨?wm3_1, ?ym3_1⟩) (by assumption) ?rm3_1
          case hm3_1 => (simp only [List.getElem?_toArray, List.getElem?_cons_succ, List.getElem?_cons_zero]; rfl)
          case qm3_1 => exact fun _ _ _ h => h
          case wm3_1 => rfl
          case ym3_1 => (intro w hSw; (try dsimp only at hSw); go_simp <;> with_reducible rfl)
          try simp only [Act.put, List.setIfInBounds_toArray, List.set_cons_zero, List.set_cons_succ]
          refine wpAnyH_take (i := 3) (oi := ?oim3_2) (v := ?vm3_2) ?hm3_2 (by kernel_rfl) (by kernel_rfl) (by kernel_rfl) ?qm3_2 (Or.inl ⟨?wm3_2, ?ym3_2⟩) (by assumption) ?rm3_2
          case hm3_2 => (simp only [List.getElem?_toArray, List.getElem?_cons_succ, List.getElem?_cons_zero]; rfl)
          case qm3_2 => exact fun _ _ _ h => h
          case wm3_2 => rfl
          case ym3_2 => (intro w hSw; (try dsimp only at hSw); go_simp <;> with_reducible rfl)
          try simp only [Act.put, List.setIfInBounds_toArray, List.set_cons_zero, List.set_cons_succ]
          refine wpAnyH_take (i := 4) (oi := ?oim3_3) (v := ?vm3_3) ?hm3_3 (by kernel_rfl) (by kernel_rfl) (by kernel_rfl) ?qm3_3 (Or.inl ⟨?wm3_3, ?ym3_3⟩) (by assumption) ?rm3_3
          case hm3_3 => (simp only [List.getElem?_toArray, List.getElem?_cons_succ, List.getElem?_cons_zero]; rfl)
          case qm3_3 => exact fun _ _ _ h => h
          case wm3_3 => rfl
          case ym3_3 => (intro w hSw; (try dsimp only at hSw); go_simp <;> with_reducible rfl)
          try simp only [Act.put, List.setIfInBounds_toArray, List.set_cons_zero, List.set_cons_succ]
          refine wpAnyH_take (i := 5) (oi := ?oim3_4) (v := ?vm3_4) ?hm3_4 (by kernel_rfl) (by kernel_rfl) (by kernel_rfl) ?qm3_4 (Or.inl ⟨?wm3_4, ?ym3_4⟩) (by assumption) ?rm3_4
          case hm3_4 => (simp only [List.getElem?_toArray, List.getElem?_cons_succ, List.getElem?_cons_zero]; rfl)
          case qm3_4 => exact fun _ _ _ h => h
          case wm3_4 => rfl
          case ym3_4 => (intro w hSw; (try dsimp only at hSw); go_simp <;> with_reducible rfl)
          try simp only [Act.put, List.setIfInBounds_toArray, List.set_cons_zero, List.set_cons_succ]
          refine wpAnyH_ready (rs := [1]) (by kernel_rfl) (by simp) ?_
          refine AllReadyH.cons (o := ?oim3_5) ?hm3_5 (fun K hK => ?km3_5) ?mm3_5
          case hm3_5 => (simp only [List.getElem?_toArray, List.getElem?_cons_succ, List.getElem?_cons_zero]; rfl)
          case km3_5 =>
            go_simp
            go_at_call 75; refine (HCO.out _ (below_drewN HB2.out 1)).mono ?_; rintro e w1 ⟨g, cap, rfl, ho, hb⟩; have hcg := owns_cap ho; have HXg := Lib.hid (owns_Rd ho); have HB1 := Lib.hid ((HB2.out.drew).trans (hb.mono hs2)); clear ho hb
            refine hK.out _ _ (by trivial) (fun hHeld => ?_)
            clear hK K
            try simp only [Act.put, List.setIfInBounds_toArray, List.set_cons_zero, List.set_cons_succ]
            refine wpAnyH_ready (rs := [2]) (by kernel_rfl) (by simp) ?_
            refine AllReadyH.cons (o := ?oim3_6) ?hm3_6 (fun K hK => ?km3_6) ?mm3_6
            case hm3_6 => (simp only [List.getElem?_toArray, List.getElem?_cons_succ, List.getElem?_cons_zero]; rfl)
            case km3_6 =>
              go_simp
              refine hK.out _ _ (by trivial) (fun hHeld => ?_)
              clear hK K
              try simp only [Act.put, List.setIfInBounds_toArray, List.set_cons_zero, List.set_cons_succ]
              refine wpAnyH_ready (rs := [6]) (by kernel_rfl) (by simp) ?_
              refine AllReadyH.cons (o := ?oim3_7) ?hm3_7 (fun K hK => ?km3_7) ?mm3_7
              case hm3_7 => (simp only [List.getElem?_toArray, List.getElem?_cons_succ, List.getElem?_cons_zero]; rfl)
              case km3_7 =>
                (refine step_appR _ _ _ _ _ etS (by rfl) (by rfl) w1.heap.size (.slice (some ⟨w1.heap.size, 0, none⟩) 1 1) 1 [.slice (some ⟨g, 0, none⟩) p cap] (by rfl) ?_ _ (n - i) _ ((hv L).drop i) (by rfl) ?_ ?_ (one_drop _) ?_ ?_ ?_; exact row_cell w1 _ (Nat.le_refl _); (rw [List.length_drop, hv_length, Hn.out]); (have h := rd_drop (HR.out.out.below ((HB1.out.alloc HB1.out.size (.cells #[.slice (some ⟨g, 0, none⟩) p cap] 30)).drew)) i; first | exact h | simpa [Addr.add] using h); omega; exact put_sz (Below.refl w1.heap.size w1) _ (Nat.le_refl _); (intro v5 w5 hown hg hat; have HB5 := Lib.hid (put_b6 hg); have HO5 := Lib.hid hown; clear hown hg hat))
                refine hK.out _ _ (by trivial) (fun hHeld => ?_)
                clear hK K
                try simp only [Act.put, List.setIfInBounds_toArray, List.set_cons_zero, List.set_cons_succ]
                refine wpAnyH_take (i := 7) (oi := ?oim3_8) (v := ?vm3_8) ?hm3_8 (by kernel_rfl) (by kernel_rfl) (by kernel_rfl) ?qm3_8 (Or.inl ⟨?wm3_8, ?ym3_8⟩) (by assumption) ?rm3_8
                case hm3_8 => (simp only [List.getElem?_toArray, List.getElem?_cons_succ, List.getElem?_cons_zero]; rfl)
                case qm3_8 => exact fun _ _ _ h => h
                case wm3_8 => rfl
                case ym3_8 => (intro w hSw; (try dsimp only at hSw); go_simp <;> with_reducible rfl)
                try simp only [Act.put, List.setIfInBounds_toArray, List.set_cons_zero, List.set_cons_succ]
                refine wpAnyH_done (by kernel_rfl) ?_ _
                have HX5 := Lib.hid (HXg.out.below HB5.out)
                have HB05 := Lib.hid (HB1.out.trans (HB5.out.mono HB1.out.size))
                obtain ⟨A5, c5, rfl, _⟩ := owns_shape HO5.out
                have HR5 := Lib.hid (HR.out.out.below HB05.out)
                go_wp2_with (first | (at_builtin; refine wpList_appR _ _ _ _ _ etS (by rfl) (by rfl) w5.heap.size (.slice (some ⟨w5.heap.size, 0, none⟩) 0 0) 0 [] (by rfl) (World.ownsRow_made w5 #[] 0 (Nat.le_refl _) (by decide) (by simp)) _ i _ ((hv L).take i) (by rfl) (by rw [List.length_take, hv_length]; have := Hn.out; omega) (rd_take (HR5.out.below ((Below.refl _ _).alloc (Nat.le_refl _) _)) i) (one_take _) ?_ (Nat.le_of_lt (by simp)) ?_; omega; (intro v6 w6 hown hg hat; have HO6 := Lib.hid hown; have HB6 := Lib.hid (put_b6 hg); clear hown hg hat)) | (at_builtin; refine wpList_appR _ _ _ _ _ etS (by rfl) (by rfl) w5.heap.size v6 (0 + i) ([] ++ (hv L).take i) (by rfl) HO6.out A5 _ c5 ([.slice (some ⟨g, 0, none⟩) p cap] ++ (hv L).drop i) (by rfl) (by have h := HO5.out.1; rw [Nat.mul_one] at h; exact h.symm) (owns_Rd (owns_later HO5.out HB6.out)) (fun u hu => by rcases List.mem_append.1 hu with h | h; (exact slice_one u h); (exact one_drop _ u h)) ?_ HB6.out.size ?_; omega; (intro v7 w7 hown hg hat; have HO7 := Lib.hid hown; have HB7 := Lib.hid (HB6.out.grown hg HB6.out.size (fun k hk => (HO6.out.lt k hk).1)); clear hown hg hat)))
                go_ret
                exact put_in HR.out (HB05.out.trans (HB7.out.mono HB05.out.size)) HO7.out (HX5.out.below HB7.out) hcg Hp.out HPA.out Hn.out
              exact AllReadyH.nil
            exact AllReadyH.nil
          exact AllReadyH.nil
      · have hp0 : ¬ i < (dat L).length := by rw [dat_length, ← Hn.out]; exact hin
        rw [if_neg (fun h => hp0 h.1)] at HPA
        obtain rfl : i = n := by omega
        obtain ⟨w', hw'⟩ : ∃ w', w' = wr := ⟨_, rfl⟩
        subst hw'
        have HB2 := HB
        have hs2 := hbel.size
        have HCO := Lib.hid (fun W (hb : Below w.heap.size w W) => l01Own_any B p cp (iv x) W (by rw [iv_length]; exact Hp.out) (by omega) (iv_one _) (HX.out.below hb))
        have HD0 := Lib.hid (show (hv L).drop i = [] from List.drop_of_length_le (by rw [hv_length, ← Hn.out]; omega))
        clear hbel hp0 hin hlt hi hk
        by_cases hn0 : i = 0
        · subst hn0
          have HT0 := Lib.hid (show (hv L).take 0 = [] from List.take_zero)
          by_cases hc0 : c = 0
          · subst hc0
            go_wp2_with fail
            refine wp_region_held_drew (S := (fun w' => True)) (by kernel_rfl) (by trivial) (fun hHeld => ?_)
            refine wpAnyH_take (i := 0) (oi := ?oim4_1) (v := ?vm4_1) ?hm4_1 (by kernel_rfl) (by kernel_rfl) (by kernel_rfl) ?qm4_1 (Or.inl ⟨?wm4_1, ?ym4_1⟩) (by assumption) ?rm4_1
            case hm4_1 => (simp only [List.getElem?_toArray, List.getElem?_cons_succ, List.getElem?_cons_zero]; rfl)
            case qm4_1 => exact fun _ _ _ h => h
            case wm4_1 => rfl
            case ym4_1 => (intro w hSw; (try dsimp only at hSw); go_simp <;> with_reducible rfl)
            try simp only [Act.put, List.setIfInBounds_toArray, List.set_cons_zero, List.set_cons_succ]
            refine wpAnyH_take (i := 3) (oi := ?oim4_2) (v := ?vm4_2) ?hm4_2 (by kernel_rfl) (by kernel_rfl) (by kernel_rfl) ?qm4_2 (Or.inl ⟨?wm4_2, ?ym4_2⟩) (by assumption) ?rm4_2
            case hm4_2 => (simp only [List.getElem?_toArray, List.getElem?_cons_succ, List.getElem?_cons_zero]; rfl)
            case qm4_2 => exact fun _ _ _ h => h
            case wm4_2 => rfl
            case ym4_2 => (intro w hSw; (try dsimp only at hSw); go_simp <;> with_reducible rfl)
            try simp only [Act.put, List.setIfInBounds_toArray, List.set_cons_zero, List.set_cons_succ]
            refine wpAnyH_take (i := 4) (oi := ?oim4_3) (v := ?vm4_3) ?hm4_3 (by kernel_rfl) (by kernel_rfl) (by kernel_rfl) ?qm4_3 (Or.inl ⟨?wm4_3, ?ym4_3⟩) (by assumption) ?rm4_3
            case hm4_3 => (simp only [List.getElem?_toArray, List.getElem?_cons_succ, List.getElem?_cons_zero]; rfl)
            case qm4_3 => exact fun _ _ _ h => h
            case wm4_3 => rfl
            case ym4_3 => (intro w hSw; (try dsimp only at hSw); go_simp <;> with_reducible rfl)
            try simp only [Act.put, List.setIfInBounds_toArray, List.set_cons_zero, List.set_cons_succ]
            refine wpAnyH_take (i := 5) (oi := ?oim4_4) (v := ?vm4_4) ?hm4_4 (by kernel_rfl) (by kernel_rfl) (by kernel_rfl) ?qm4_4 (Or.inl ⟨?wm4_4, ?ym4_4⟩) (by assumption) ?rm4_4
            case hm4_4 => (simp only [List.getElem?_toArray, List.getElem?_cons_succ, List.getElem?_cons_zero]; rfl)
            case qm4_4 => exact fun _ _ _ h => h
            case wm4_4 => rfl
            case ym4_4 => (intro w hSw; (try dsimp only at hSw); go_simp <;> with_reducible rfl)
            try simp only [Act.put, List.setIfInBounds_toArray, List.set_cons_zero, List.set_cons_succ]
            refine wpAnyH_ready (rs := [1]) (by kernel_rfl) (by simp) ?_
            refine AllReadyH.cons (o := ?oim4_5) ?hm4_5 (fun K hK => ?km4_5) ?mm4_5
            case hm4_5 => (simp only [List.getElem?_toArray, List.getElem?_cons_succ, List.getElem?_cons_zero]; rfl)
            case km4_5 =>
              go_simp
              go_at_call 75; refine (HCO.out _ (below_drewN HB2.out 1)).mono ?_; rintro e w1 ⟨g, cap, rfl, ho, hb⟩; have hcg := owns_cap ho; have HXg := Lib.hid (owns_Rd ho); have HB1 := Lib.hid ((HB2.out.drew).trans (hb.mono hs2)); clear ho hb
              refine hK.out _ _ (by trivial) (fun hHeld => ?_)
              clear hK K
              try simp only [Act.put, List.setIfInBounds_toArray, List.set_cons_zero, List.set_cons_succ]
              refine wpAnyH_ready (rs := [2]) (by kernel_rfl) (by simp) ?_
              refine AllReadyH.cons (o := ?oim4_6) ?hm4_6 (fun K hK => ?km4_6) ?mm4_6
              case hm4_6 => (simp only [List.getElem?_toArray, List.getElem?_cons_succ, List.getElem?_cons_zero]; rfl)
              case km4_6 =>
                go_simp
                refine hK.out _ _ (by trivial) (fun hHeld => ?_)
                clear hK K
                try simp only [Act.put, List.setIfInBounds_toArray, List.set_cons_zero, List.set_cons_succ]
                refine wpAnyH_ready (rs := [6]) (by kernel_rfl) (by simp) ?_
                refine AllReadyH.cons (o := ?oim4_7) ?hm4_7 (fun K hK => ?km4_7) ?mm4_7
                case hm4_7 => (simp only [List.getElem?_toArray, List.getElem?_cons_succ, List.getElem?_cons_zero]; rfl)
                case km4_7 =>
                  (refine step_appR _ _ _ _ _ etS (by rfl) (by rfl) w1.heap.size (.slice (some ⟨w1.heap.size, 0, none⟩) 1 1) 1 [.slice (some ⟨g, 0, none⟩) p cap] (by rfl) ?_ _ 0 _ [] (by rfl) (by rfl) (.inl rfl) (fun u hu => (by cases hu)) ?_ ?_ ?_; exact row_cell w1 _ (Nat.le_refl _); omega; exact put_sz (Below.refl w1.heap.size w1) _ (Nat.le_refl _); (intro v5 w5 hown hg hat; have HB5 := Lib.hid (put_b6 hg); have HO5 := Lib.hid hown; clear hown hg hat))
                  refine hK.out _ _ (by trivial) (fun hHeld => ?_)
                  clear hK K
                  try simp only [Act.put, List.setIfInBounds_toArray, List.set_cons_zero, List.set_cons_succ]
                  refine wpAnyH_take (i := 7) (oi := ?oim4_8) (v := ?vm4_8) ?hm4_8 (by kernel_rfl) (by kernel_rfl) (by kernel_rfl) ?qm4_8 (Or.inl ⟨?wm4_8, ?ym4_8⟩) (by assumption) ?rm4_8
                  case hm4_8 => (simp only [List.getElem?_toArray, List.getElem?_cons_succ, List.getElem?_cons_zero]; rfl)
                  case qm4_8 => exact fun _ _ _ h => h
                  case wm4_8 => rfl
                  case ym4_8 => (intro w hSw; (try dsimp only at hSw); go_simp <;> with_reducible rfl)
                  try simp only [Act.put, List.setIfInBounds_toArray, List.set_cons_zero, List.set_cons_succ]
                  refine wpAnyH_done (by kernel_rfl) ?_ _
                  have HX5 := Lib.hid (HXg.out.below HB5.out)
                  have HB05 := Lib.hid (HB1.out.trans (HB5.out.mono HB1.out.size))
                  obtain ⟨A5, c5, rfl, _⟩ := owns_shape HO5.out
                  have HR5 := Lib.hid (HR.out.out.below HB05.out)
                  go_wp2_with (first | (at_builtin; refine wpList_appR _ _ _ _ _ etS (by rfl) (by rfl) w5.heap.size (.slice (some ⟨w5.heap.size, 0, none⟩) 0 0) 0 [] (by rfl) (World.ownsRow_made w5 #[] 0 (Nat.le_refl _) (by decide) (by simp)) _ 0 _ [] (by rfl) (by rfl) (.inl rfl) (fun u hu => (by cases hu)) ?_ (Nat.le_of_lt (by simp)) ?_; omega; (intro v6 w6 hown hg hat; have HO6 := Lib.hid hown; have HB6 := Lib.hid (put_b6 hg); clear hown hg hat)) | (at_builtin; refine wpList_appR _ _ _ _ _ etS (by rfl) (by rfl) w5.heap.size v6 (0 + 0) ([] ++ []) (by rfl) HO6.out A5 _ c5 ([.slice (some ⟨g, 0, none⟩) p cap] ++ []) (by rfl) (by rfl) (owns_Rd (owns_later HO5.out HB6.out)) slice_one ?_ HB6.out.size ?_; omega; (intro v7 w7 hown hg hat; have HO7 := Lib.hid hown; have HB7 := Lib.hid (HB6.out.grown hg HB6.out.size (fun k hk => (HO6.out.lt k hk).1)); clear hown hg hat)))
                  go_ret
                  exact put_in HR.out (HB05.out.trans (HB7.out.mono HB05.out.size)) (by rw [HD0.out, HT0.out]; exact HO7.out) (HX5.out.below HB7.out) hcg Hp.out HPA.out Hn.out
                exact AllReadyH.nil
              exact AllReadyH.nil
            exact AllReadyH.nil
          · go_wp2_with fail
            refine wp_region_held_drew (S := (fun w' => True)) (by kernel_rfl) (by trivial) (fun hHeld => ?_)
            refine wpAnyH_take (i := 0) (oi := ?oim5_1) (v := ?vm5_1) ?hm5_1 (by kernel_rfl) (by kernel_rfl) (by kernel_rfl) ?qm5_1 (Or.inl ⟨?wm5_1, ?ym5_1⟩) (by assumption) ?rm5_1
            case hm5_1 => (simp only [List.getElem?_toArray, List.getElem?_cons_succ, List.getElem?_cons_zero]; rfl)
            case qm5_1 => exact fun _ _ _ h => h
            case wm5_1 => rfl
            case ym5_1 => (intro w hSw; (try dsimp only at hSw); go_simp <;> with_reducible rfl)
            try simp only [Act.put, List.setIfInBounds_toArray, List.set_cons_zero, List.set_cons_succ]
            refine wpAnyH_take (i := 3) (oi := ?oim5_2) (v := ?vm5_2) ?hm5_2 (by kernel_rfl) (by kernel_rfl) (by kernel_rfl) ?qm5_2 (Or.inl ⟨?wm5_2, ?ym5_2⟩) (by assumption) ?rm5_2
            case hm5_2 => (simp only [List.getElem?_toArray, List.getElem?_cons_succ, List.getElem?_cons_zero]; rfl)
            case qm5_2 => exact fun _ _ _ h => h
            case wm5_2 => rfl
            case ym5_2 => (intro w hSw; (try dsimp only at hSw); go_simp <;> with_reducible rfl)
            try simp only [Act.put, List.setIfInBounds_toArray, List.set_cons_zero, List.set_cons_succ]
            refine wpAnyH_take (i := 4) (oi := ?oim5_3) (v := ?vm5_3) ?hm5_3 (by kernel_rfl) (by kernel_rfl) (by kernel_rfl) ?qm5_3 (Or.inl ⟨?wm5_3, ?ym5_3⟩) (by assumption) ?rm5_3
            case hm5_3 => (simp only [List.getElem?_toArray, List.getElem?_cons_succ, List.getElem?_cons_zero]; rfl)
            case qm5_3 => exact fun _ _ _ h => h
            case wm5_3 => rfl
            case ym5_3 => (intro w hSw; (try dsimp only at hSw); go_simp <;> with_reducible rfl)
            try simp only [Act.put, List.setIfInBounds_toArray, List.set_cons_zero, List.set_cons_succ]
            refine wpAnyH_take (i := 5) (oi := ?oim5_4) (v := ?vm5_4) ?hm5_4 (by kernel_rfl) (by kernel_rfl) (by kernel_rfl) ?qm5_4 (Or.inl ⟨?wm5_4, ?ym5_4⟩) (by assumption) ?rm5_4
            case hm5_4 => (simp only [List.getElem?_toArray, List.getElem?_cons_succ, List.getElem?_cons_zero]; rfl)
            case qm5_4 => exact fun _ _ _ h => h
            case wm5_4 => rfl
            case ym5_4 => (intro w hSw; (try dsimp only at hSw); go_simp <;> with_reducible rfl)
            try simp only [Act.put, List.setIfInBounds_toArray, List.set_cons_zero, List.set_cons_succ]
            refine wpAnyH_ready (rs := [1]) (by kernel_rfl) (by simp) ?_
            refine AllReadyH.cons (o := ?oim5_5) ?hm5_5 (fun K hK => ?km5_5) ?mm5_5
            case hm5_5 => (simp only [List.getElem?_toArray, List.getElem?_cons_succ, List.getElem?_cons_zero]; rfl)
            case km5_5 =>
              go_simp
              go_at_call 75; refine (HCO.out _ (below_drewN HB2.out 1)).mono ?_; rintro e w1 ⟨g, cap, rfl, ho, hb⟩; have hcg := owns_cap ho; have HXg := Lib.hid (owns_Rd ho); have HB1 := Lib.hid ((HB2.out.drew).trans (hb.mono hs2)); clear ho hb
              refine hK.out _ _ (by trivial) (fun hHeld => ?_)
              clear hK K
              try simp only [Act.put, List.setIfInBounds_toArray, List.set_cons_zero, List.set_cons_succ]
              refine wpAnyH_ready (rs := [2]) (by kernel_rfl) (by simp) ?_
              refine AllReadyH.cons (o := ?oim5_6) ?hm5_6 (fun K hK => ?km5_6) ?mm5_6
              case hm5_6 => (simp only [List.getElem?_toArray, List.getElem?_cons_succ, List.getElem?_cons_zero]; rfl)
              case km5_6 =>
                go_simp
                refine hK.out _ _ (by trivial) (fun hHeld => ?_)
                clear hK K
                try simp only [Act.put, List.setIfInBounds_toArray, List.set_cons_zero, List.set_cons_succ]
                refine wpAnyH_ready (rs := [6]) (by kernel_rfl) (by simp) ?_
                refine AllReadyH.cons (o := ?oim5_7) ?hm5_7 (fun K hK => ?km5_7) ?mm5_7
                case hm5_7 => (simp only [List.getElem?_toArray, List.getElem?_cons_succ, List.getElem?_cons_zero]; rfl)
                case km5_7 =>
                  (refine step_appR _ _ _ _ _ etS (by rfl) (by rfl) w1.heap.size (.slice (some ⟨w1.heap.size, 0, none⟩) 1 1) 1 [.slice (some ⟨g, 0, none⟩) p cap] (by rfl) ?_ _ 0 _ [] (by rfl) (by rfl) (.inl rfl) (fun u hu => (by cases hu)) ?_ ?_ ?_; exact row_cell w1 _ (Nat.le_refl _); omega; exact put_sz (Below.refl w1.heap.size w1) _ (Nat.le_refl _); (intro v5 w5 hown hg hat; have HB5 := Lib.hid (put_b6 hg); have HO5 := Lib.hid hown; clear hown hg hat))
                  refine hK.out _ _ (by trivial) (fun hHeld => ?_)
                  clear hK K
                  try simp only [Act.put, List.setIfInBounds_toArray, List.set_cons_zero, List.set_cons_succ]
                  refine wpAnyH_take (i := 7) (oi := ?oim5_8) (v := ?vm5_8) ?hm5_8 (by kernel_rfl) (by kernel_rfl) (by kernel_rfl) ?qm5_8 (Or.inl ⟨?wm5_8, ?ym5_8⟩) (by assumption) ?rm5_8
                  case hm5_8 => (simp only [List.getElem?_toArray, List.getElem?_cons_succ, List.getElem?_cons_zero]; rfl)
                  case qm5_8 => exact fun _ _ _ h => h
                  case wm5_8 => rfl
                  case ym5_8 => (intro w hSw; (try dsimp only at hSw); go_simp <;> with_reducible rfl)
                  try simp only [Act.put, List.setIfInBounds_toArray, List.set_cons_zero, List.set_cons_succ]
                  refine wpAnyH_done (by kernel_rfl) ?_ _
                  have HX5 := Lib.hid (HXg.out.below HB5.out)
                  have HB05 := Lib.hid (HB1.out.trans (HB5.out.mono HB1.out.size))
                  obtain ⟨A5, c5, rfl, _⟩ := owns_shape HO5.out
                  have HR5 := Lib.hid (HR.out.out.below HB05.out)
                  go_wp2_with (first | (at_builtin; refine wpList_appR _ _ _ _ _ etS (by rfl) (by rfl) w5.heap.size (.slice (some ⟨w5.heap.size, 0, none⟩) 0 0) 0 [] (by rfl) (World.ownsRow_made w5 #[] 0 (Nat.le_refl _) (by decide) (by simp)) _ 0 _ [] (by rfl) (by rfl) (.inl rfl) (fun u hu => (by cases hu)) ?_ (Nat.le_of_lt (by simp)) ?_; omega; (intro v6 w6 hown hg hat; have HO6 := Lib.hid hown; have HB6 := Lib.hid (put_b6 hg); clear hown hg hat)) | (at_builtin; refine wpList_appR _ _ _ _ _ etS (by rfl) (by rfl) w5.heap.size v6 (0 + 0) ([] ++ []) (by rfl) HO6.out A5 _ c5 ([.slice (some ⟨g, 0, none⟩) p cap] ++ []) (by rfl) (by rfl) (owns_Rd (owns_later HO5.out HB6.out)) slice_one ?_ HB6.out.size ?_; omega; (intro v7 w7 hown hg hat; have HO7 := Lib.hid hown; have HB7 := Lib.hid (HB6.out.grown hg HB6.out.size (fun k hk => (HO6.out.lt k hk).1)); clear hown hg hat)))
                  go_ret
                  exact put_in HR.out (HB05.out.trans (HB7.out.mono HB05.out.size)) (by rw [HD0.out, HT0.out]; exact HO7.out) (HX5.out.below HB7.out) hcg Hp.out HPA.out Hn.out
                exact AllReadyH.nil
              exact AllReadyH.nil
            exact AllReadyH.nil
        · obtain ⟨b, o, rfl, _⟩ := HR.out.at_ (k := 0) (by rw [← Hn.out]; omega)
          have hii : (i : Int) ≤ (c : Int) := by omega
          have hi0 : 0 ≤ (i : Int) := by omega
          by_cases hc0 : c = i
          · subst hc0
            go_wp2_with fail
            refine wp_region_held_drew (S := (fun w' => True)) (by kernel_rfl) (by trivial) (fun hHeld => ?_)
            refine wpAnyH_take (i := 0) (oi := ?oim6_1) (v := ?vm6_1) ?hm6_1 (by kernel_rfl) (by kernel_rfl) (by kernel_rfl) ?qm6_1 (Or.inl ⟨?wm6_1, ?ym6_1⟩) (by assumption) ?rm6_1
            case hm6_1 => (simp only [List.getElem?_toArray, List.getElem?_cons_succ, List.getElem?_cons_zero]; rfl)
            case qm6_1 => exact fun _ _ _ h => h
            case wm6_1 => rfl
            case ym6_1 => (intro w hSw; (try dsimp only at hSw); go_simp <;> with_reducible rfl)
            try simp only [Act.put, List.setIfInBounds_toArray, List.set_cons_zero, List.set_cons_succ]
            refine wpAnyH_take (i := 3) (oi := ?oim6_2) (v := ?vm6_2) ?hm6_2 (by kernel_rfl) (by kernel_rfl) (by kernel_rfl) ?qm6_2 (Or.inl ⟨?wm6_2, ?ym6_2⟩) (by assumption) ?rm6_2
            case hm6_2 => (simp only [List.getElem?_toArray, List.getElem?_cons_succ, List.getElem?_cons_zero]; rfl)
            case qm6_2 => exact fun _ _ _ h => h
            case wm6_2 => rfl
            case ym6_2 => (intro w hSw; (try dsimp only at hSw); go_simp <;> with_reducible rfl)
            try simp only [Act.put, List.setIfInBounds_toArray, List.set_cons_zero, List.set_cons_succ]
            refine wpAnyH_take (i := 4) (oi := ?oim6_3) (v := ?vm6_3) ?hm6_3 (by kernel_rfl) (by kernel_rfl) (by kernel_rfl) ?qm6_3 (Or.inl ⟨?wm6_3, ?ym6_3⟩) (by assumption) ?rm6_3
            case hm6_3 => (simp only [List.getElem?_toArray, List.getElem?_cons_succ, List.getElem?_cons_zero]; rfl)
            case qm6_3 => exact fun _ _ _ h => h
            case wm6_3 => rfl
            case ym6_3 => (intro w hSw; (try dsimp only at hSw); go_simp <;> with_reducible rfl)
            try simp only [Act.put, List.setIfInBounds_toArray, List.set_cons_zero, List.set_cons_succ]
            refine wpAnyH_take (i := 5) (oi := ?oim6_4) (v := ?vm6_4) ?hm6_4 (by kernel_rfl) (by kernel_rfl) (by kernel_rfl) ?qm6_4 (Or.inl ⟨?wm6_4, ?ym6_4⟩) (by assumption) ?rm6_4
            case hm6_4 => (simp only [List.getElem?_toArray, List.getElem?_cons_succ, List.getElem?_cons_zero]; rfl)
            case qm6_4 => exact fun _ _ _ h => h
            case wm6_4 => rfl
            case ym6_4 => (intro w hSw; (try dsimp only at hSw); go_simp <;> with_reducible rfl)
            try simp only [Act.put, List.setIfInBounds_toArray, List.set_cons_zero, List.set_cons_succ]
            refine wpAnyH_ready (rs := [1]) (by kernel_rfl) (by simp) ?_
            refine AllReadyH.cons (o := ?oim6_5) ?hm6_5 (fun K hK => ?km6_5) ?mm6_5
            case hm6_5 => (simp only [List.getElem?_toArray, List.getElem?_cons_succ, List.getElem?_cons_zero]; rfl)
            case km6_5 =>
              go_simp
              go_at_call 75; refine (HCO.out _ (below_drewN HB2.out 1)).mono ?_; rintro e w1 ⟨g, cap, rfl, ho, hb⟩; have hcg := owns_cap ho; have HXg := Lib.hid (owns_Rd ho); have HB1 := Lib.hid ((HB2.out.drew).trans (hb.mono hs2)); clear ho hb
              refine hK.out _ _ (by trivial) (fun hHeld => ?_)
              clear hK K
              try simp only [Act.put, List.setIfInBounds_toArray, List.set_cons_zero, List.set_cons_succ]
              refine wpAnyH_ready (rs := [2]) (by kernel_rfl) (by simp) ?_
              refine AllReadyH.cons (o := ?oim6_6) ?hm6_6 (fun K hK => ?km6_6) ?mm6_6
              case hm6_6 => (simp only [List.getElem?_toArray, List.getElem?_cons_succ, List.getElem?_cons_zero]; rfl)
              case km6_6 =>
                go_simp
                refine hK.out _ _ (by trivial) (fun hHeld => ?_)
                clear hK K
                try simp only [Act.put, List.setIfInBounds_toArray, List.set_cons_zero, List.set_cons_succ]
                refine wpAnyH_ready (rs := [6]) (by kernel_rfl) (by simp) ?_
                refine AllReadyH.cons (o := ?oim6_7) ?hm6_7 (fun K hK => ?km6_7) ?mm6_7
                case hm6_7 => (simp only [List.getElem?_toArray, List.getElem?_cons_succ, List.getElem?_cons_zero]; rfl)
                case km6_7 =>
                  (refine step_appR _ _ _ _ _ etS (by rfl) (by rfl) w1.heap.size (.slice (some ⟨w1.heap.size, 0, none⟩) 1 1) 1 [.slice (some ⟨g, 0, none⟩) p cap] (by rfl) ?_ _ 0 _ [] (by rfl) (by rfl) (.inl rfl) (fun u hu => (by cases hu)) ?_ ?_ ?_; exact row_cell w1 _ (Nat.le_refl _); omega; exact put_sz (Below.refl w1.heap.size w1) _ (Nat.le_refl _); (intro v5 w5 hown hg hat; have HB5 := Lib.hid (put_b6 hg); have HO5 := Lib.hid hown; clear hown hg hat))
                  refine hK.out _ _ (by trivial) (fun hHeld => ?_)
                  clear hK K
                  try simp only [Act.put, List.setIfInBounds_toArray, List.set_cons_zero, List.set_cons_succ]
                  refine wpAnyH_take (i := 7) (oi := ?oim6_8) (v := ?vm6_8) ?hm6_8 (by kernel_rfl) (by kernel_rfl) (by kernel_rfl) ?qm6_8 (Or.inl ⟨?wm6_8, ?ym6_8⟩) (by assumption) ?rm6_8
                  case hm6_8 => (simp only [List.getElem?_toArray, List.getElem?_cons_succ, List.getElem?_cons_zero]; rfl)
                  case qm6_8 => exact fun _ _ _ h => h
                  case wm6_8 => rfl
                  case ym6_8 => (intro w hSw; (try dsimp only at hSw); go_simp <;> with_reducible rfl)
                  try simp only [Act.put, List.setIfInBounds_toArray, List.set_cons_zero, List.set_cons_succ]
                  refine wpAnyH_done (by kernel_rfl) ?_ _
                  have HX5 := Lib.hid (HXg.out.below HB5.out)
                  have HB05 := Lib.hid (HB1.out.trans (HB5.out.mono HB1.out.size))
                  obtain ⟨A5, c5, rfl, _⟩ := owns_shape HO5.out
                  have HR5 := Lib.hid (HR.out.out.below HB05.out)
                  go_wp2_with (first | (at_builtin; refine wpList_appR _ _ _ _ _ etS (by rfl) (by rfl) w5.heap.size (.slice (some ⟨w5.heap.size, 0, none⟩) 0 0) 0 [] (by rfl) (World.ownsRow_made w5 #[] 0 (Nat.le_refl _) (by decide) (by simp)) _ c _ ((hv L).take c) (by rfl) (by rw [List.length_take, hv_length]; have := Hn.out; omega) (rd_take (HR5.out.below ((Below.refl _ _).alloc (Nat.le_refl _) _)) c) (one_take _) ?_ (Nat.le_of_lt (by simp)) ?_; omega; (intro v6 w6 hown hg hat; have HO6 := Lib.hid hown; have HB6 := Lib.hid (put_b6 hg); clear hown hg hat)) | (at_builtin; refine wpList_appR _ _ _ _ _ etS (by rfl) (by rfl) w5.heap.size v6 (0 + c) ([] ++ (hv L).take c) (by rfl) HO6.out A5 _ c5 ([.slice (some ⟨g, 0, none⟩) p cap] ++ []) (by rfl) (by rfl) (owns_Rd (owns_later HO5.out HB6.out)) slice_one ?_ HB6.out.size ?_; omega; (intro v7 w7 hown hg hat; have HO7 := Lib.hid hown; have HB7 := Lib.hid (HB6.out.grown hg HB6.out.size (fun k hk => (HO6.out.lt k hk).1)); clear hown hg hat)))
                  go_ret
                  exact put_in HR.out (HB05.out.trans (HB7.out.mono HB05.out.size)) (by rw [HD0.out, Nat.sub_self]; exact HO7.out) (HX5.out.below HB7.out) hcg Hp.out HPA.out Hn.out
                exact AllReadyH.nil
              exact AllReadyH.nil
            exact AllReadyH.nil
          · have hcz : c ≠ 0 := by omega
            go_wp2_with fail
            refine wp_region_held_drew (S := (fun w' => True)) (by kernel_rfl) (by trivial) (fun hHeld => ?_)
            refine wpAnyH_take (i := 0) (oi := ?oim7_1) (v := ?vm7_1) ?hm7_1 (by kernel_rfl) (by kernel_rfl) (by kernel_rfl) ?qm7_1 (Or.inl ⟨?wm7_1, ?ym7_1⟩) (by assumption) ?rm7_1
            case hm7_1 => (simp only [List.getElem?_toArray, List.getElem?_cons_succ, List.getElem?_cons_zero]; rfl)
            case qm7_1 => exact fun _ _ _ h => h
            case wm7_1 => rfl
            case ym7_1 => (intro w hSw; (try dsimp only at hSw); go_simp <;> with_reducible rfl)
            try simp only [Act.put, List.setIfInBounds_toArray, List.set_cons_zero, List.set_cons_succ]
            refine wpAnyH_take (i := 3) (oi := ?oim7_2) (v := ?vm7_2) ?hm7_2 (by kernel_rfl) (by kernel_rfl) (by kernel_rfl) ?qm7_2 (Or.inl ⟨?wm7_2, ?ym7_2⟩) (by assumption) ?rm7_2
            case hm7_2 => (simp only [List.getElem?_toArray, List.getElem?_cons_succ, List.getElem?_cons_zero]; rfl)
            case qm7_2 => exact fun _ _ _ h => h
            case wm7_2 => rfl
            case ym7_2 => (intro w hSw; (try dsimp only at hSw); go_simp <;> with_reducible rfl)
            try simp only [Act.put, List.setIfInBounds_toArray, List.set_cons_zero, List.set_cons_succ]
            refine wpAnyH_take (i := 4) (oi := ?oim7_3) (v := ?vm7_3) ?hm7_3 (by kernel_rfl) (by kernel_rfl) (by kernel_rfl) ?qm7_3 (Or.inl ⟨?wm7_3, ?ym7_3⟩) (by assumption) ?rm7_3
            case hm7_3 => (simp only [List.getElem?_toArray, List.getElem?_cons_succ, List.getElem?_cons_zero]; rfl)
            case qm7_3 => exact fun _ _ _ h => h
            case wm7_3 => rfl
            case ym7_3 => (intro w hSw; (try dsimp only at hSw); go_simp <;> with_reducible rfl)
            try simp only [Act.put, List.setIfInBounds_toArray, List.set_cons_zero, List.set_cons_succ]
            refine wpAnyH_take (i := 5) (oi := ?oim7_4) (v := ?vm7_4) ?hm7_4 (by kernel_rfl) (by kernel_rfl) (by kernel_rfl) ?qm7_4 (Or.inl ⟨?wm7_4, ?ym7_4⟩) (by assumption) ?rm7_4
            case hm7_4 => (simp only [List.getElem?_toArray, List.getElem?_cons_succ, List.getElem?_cons_zero]; rfl)
            case qm7_4 => exact fun _ _ _ h => h
            case wm7_4 => rfl
            case ym7_4 => (intro w hSw; (try dsimp only at hSw); go_simp <;> with_reducible rfl)
            try simp only [Act.put, List.setIfInBounds_toArray, List.set_cons_zero, List.set_cons_succ]
            refine wpAnyH_ready (rs := [1]) (by kernel_rfl) (by simp) ?_
            refine AllReadyH.cons (o := ?oim7_5) ?hm7_5 (fun K hK => ?km7_5) ?mm7_5
            case hm7_5 => (simp only [List.getElem?_toArray, List.getElem?_cons_succ, List.getElem?_cons_zero]; rfl)
            case km7_5 =>
              go_simp
              go_at_call 75; refine (HCO.out _ (below_drewN HB2.out 1)).mono ?_; rintro e w1 ⟨g, cap, rfl, ho, hb⟩; have hcg := owns_cap ho; have HXg := Lib.hid (owns_Rd ho); have HB1 := Lib.hid ((HB2.out.drew).trans (hb.mono hs2)); clear ho hb
              refine hK.out _ _ (by trivial) (fun hHeld => ?_)
              clear hK K
              try simp only [Act.put, List.setIfInBounds_toArray, List.set_cons_zero, List.set_cons_succ]
              refine wpAnyH_ready (rs := [2]) (by kernel_rfl) (by simp) ?_
              refine AllReadyH.cons (o := ?oim7_6) ?hm7_6 (fun K hK => ?km7_6) ?mm7_6
              case hm7_6 => (simp only [List.getElem?_toArray, List.getElem?_cons_succ, List.getElem?_cons_zero]; rfl)
              case km7_6 =>
                go_simp
                refine hK.out _ _ (by trivial) (fun hHeld => ?_)
                clear hK K
                try simp only [Act.put, List.setIfInBounds_toArray, List.set_cons_zero, List.set_cons_succ]
                refine wpAnyH_ready (rs := [6]) (by kernel_rfl) (by simp) ?_
                refine AllReadyH.cons (o := ?oim7_7) ?hm7_7 (fun K hK => ?km7_7) ?mm7_7
                case hm7_7 => (simp only [List.getElem?_toArray, List.getElem?_cons_succ, List.getElem?_cons_zero]; rfl)
                case km7_7 =>
                  (refine step_appR _ _ _ _ _ etS (by rfl) (by rfl) w1.heap.size (.slice (some ⟨w1.heap.size, 0, none⟩) 1 1) 1 [.slice (some ⟨g, 0, none⟩) p cap] (by rfl) ?_ _ 0 _ [] (by rfl) (by rfl) (.inl rfl) (fun u hu => (by cases hu)) ?_ ?_ ?_; exact row_cell w1 _ (Nat.le_refl _); omega; exact put_sz (Below.refl w1.heap.size w1) _ (Nat.le_refl _); (intro v5 w5 hown hg hat; have HB5 := Lib.hid (put_b6 hg); have HO5 := Lib.hid hown; clear hown hg hat))
                  refine hK.out _ _ (by trivial) (fun hHeld => ?_)
                  clear hK K
                  try simp only [Act.put, List.setIfInBounds_toArray, List.set_cons_zero, List.set_cons_succ]
                  refine wpAnyH_take (i := 7) (oi := ?oim7_8) (v := ?vm7_8) ?hm7_8 (by kernel_rfl) (by kernel_rfl) (by kernel_rfl) ?qm7_8 (Or.inl ⟨?wm7_8, ?ym7_8⟩) (by assumption) ?rm7_8
                  case hm7_8 => (simp only [List.getElem?_toArray, List.getElem?_cons_succ, List.getElem?_cons_zero]; rfl)
                  case qm7_8 => exact fun _ _ _ h => h
                  case wm7_8 => rfl
                  case ym7_8 => (intro w hSw; (try dsimp only at hSw); go_simp <;> with_reducible rfl)
                  try simp only [Act.put, List.setIfInBounds_toArray, List.set_cons_zero, List.set_cons_succ]
                  refine wpAnyH_done (by kernel_rfl) ?_ _
                  have HX5 := Lib.hid (HXg.out.below HB5.out)
                  have HB05 := Lib.hid (HB1.out.trans (HB5.out.mono HB1.out.size))
                  obtain ⟨A5, c5, rfl, _⟩ := owns_shape HO5.out
                  have HR5 := Lib.hid (HR.out.out.below HB05.out)
                  go_wp2_with (first | (at_builtin; refine wpList_appR _ _ _ _ _ etS (by rfl) (by rfl) w5.heap.size (.slice (some ⟨w5.heap.size, 0, none⟩) 0 0) 0 [] (by rfl) (World.ownsRow_made w5 #[] 0 (Nat.le_refl _) (by decide) (by simp)) _ i _ ((hv L).take i) (by rfl) (by rw [List.length_take, hv_length]; have := Hn.out; omega) (rd_take (HR5.out.below ((Below.refl _ _).alloc (Nat.le_refl _) _)) i) (one_take _) ?_ (Nat.le_of_lt (by simp)) ?_; omega; (intro v6 w6 hown hg hat; have HO6 := Lib.hid hown; have HB6 := Lib.hid (put_b6 hg); clear hown hg hat)) | (at_builtin; refine wpList_appR _ _ _ _ _ etS (by rfl) (by rfl) w5.heap.size v6 (0 + i) ([] ++ (hv L).take i) (by rfl) HO6.out A5 _ c5 ([.slice (some ⟨g, 0, none⟩) p cap] ++ []) (by rfl) (by rfl) (owns_Rd (owns_later HO5.out HB6.out)) slice_one ?_ HB6.out.size ?_; omega; (intro v7 w7 hown hg hat; have HO7 := Lib.hid hown; have HB7 := Lib.hid (HB6.out.grown hg HB6.out.size (fun k hk => (HO6.out.lt k hk).1)); clear hown hg hat)))
                  go_ret
                  exact put_in HR.out (HB05.out.trans (HB7.out.mono HB05.out.size)) (by rw [HD0.out, Nat.sub_self]; exact HO7.out) (HX5.out.below HB7.out) hcg Hp.out HPA.out Hn.out
                exact AllReadyH.nil
              exact AllReadyH.nil
            exact AllReadyH.nil
end Go.Proofs.Ytnffpjdlpjkioaa

namespace Go.Proofs.Ytnffpjdlpjkioaa
open Go.RowKit

/-- sums of exponents -/
def plusM (a b : List Int) : List Int := List.zipWith (· + ·) a b
theorem plusM_length {a b : List Int} {k : Nat} (ha : a.length = k) (hb : b.length = k) : (plusM a b).length = k := by simp [plusM, ha, hb]
theorem plusM_take {a b : List Int} {i : Nat} (ha : i < a.length) (hb : i < b.length) : (plusM a b).take (i + 1) = (plusM a b).take i ++ [a.getD i 0 + b.getD i 0] := by
  rw [List.take_succ_eq_append_getElem (by simp [plusM]; omega)]
  simp [plusM, List.getD, ha, hb]

theorem grownP {w w' : World} {row : Option Nat} {p : Addr} {v : Value} (h : w.cell? p = some v) (hg : w.grownBy w' row) (hn : some p.block ≠ row) : w'.cell? p = some v := (World.cell?_of_block (hg.block _ (World.block_lt_of_cell? w p h) hn)).trans h
theorem allocP {w : World} {p : Addr} {v : Value} (h : w.cell? p = some v) (o : Obj) : (w.alloc o).cell? p = some v := (((Below.refl _ _).alloc (Nat.le_refl _) o).cell (World.block_lt_of_cell? w p h)).trans h

set_option maxRecDepth 100000 in
set_option maxHeartbeats 1000000 in
theorem l08Plus_any (A B : Option Addr) (n c c' : Nat) (a b : List Int) (w : World) (hn : n = a.length) (hn' : n = b.length) (hsm : n ≤ 1000000) (ha : ∀ i, i < n → 0 ≤ a.getD i 0 ∧ a.getD i 0 < 1152921504606846976) (hb : ∀ i, i < n → 0 ≤ b.getD i 0 ∧ b.getD i 0 < 1152921504606846976)
    (hA : Rd w A (iv a)) (hB : Rd w B (iv b)) :
    Calls Try.prog 103 #[.slice A n c, .slice B n c'] w fun e w' => ∃ g cap, e = .returned (.slice (some ⟨g, 0, none⟩) n cap) ∧ w'.ownsRow w.heap.size 2 1 (.slice (some ⟨g, 0, none⟩) n cap) n (iv (plusM a b)) ∧ Below w.heap.size w w' := by
  have HA := Lib.hid hA
  have HB := Lib.hid hB
  have Hn := Lib.hid hn
  have Hn' := Lib.hid hn'
  have Ha := Lib.hid ha
  have Hb := Lib.hid hb
  clear hA hB hn hn' ha hb
  go_enter Try.func103, Try.ntmps103
  go_wp2_with fail
  go_loopw [5, 6] (fun vv i wr => ∃ k g cap : Nat, k ≤ n ∧ i = .int .i64 k ∧ vv = .slice (some ⟨g, 0, none⟩) k cap ∧ wr.ownsRow w.heap.size 2 1 (.slice (some ⟨g, 0, none⟩) k cap) k (iv ((plusM a b).take k)) ∧ Below w.heap.size w wr) (fun _ i _ => n - (intOf i).toNat)
  case atStart => exact ⟨0, w.heap.size, 0, by omega, rfl, rfl, World.ownsRow_made w #[] 0 (Nat.le_refl _) (by decide) (by simp), (Below.refl _ _).alloc (Nat.le_refl _) _⟩
  case round =>
    obtain ⟨k, g, cap, hk, rfl, rfl, hown, hbel⟩ := hrel
    have HO := Lib.hid hown
    have HBL := Lib.hid hbel
    have hsz := hbel.size
    by_cases hlt : k < n
    · have HTS := Lib.hid (plusM_take (a := a) (b := b) (i := k) (by rw [← Hn.out]; exact hlt) (by rw [← Hn'.out]; exact hlt))
      obtain ⟨ba, oa, rfl, hca0⟩ := HA.out.atI (k := k) (by rw [← Hn.out]; exact hlt)
      obtain ⟨bb, ob, rfl, hcb0⟩ := HB.out.atI (k := k) (by rw [← Hn'.out]; exact hlt)
      have hba := World.block_lt_of_cell? _ _ hca0
      have hbb := World.block_lt_of_cell? _ _ hcb0
      have hca := (hbel.cell hba).trans hca0
      have hcb := (hbel.cell hbb).trans hcb0
      clear hca0 hcb0
      have hgb := (HO.out.lt g rfl).1
      have na : some ba ≠ (Value.slice (some ⟨g, 0, none⟩) k cap).ownBlock := fun e => by simp [Value.ownBlock] at e hba; omega
      have nb : some bb ≠ (Value.slice (some ⟨g, 0, none⟩) k cap).ownBlock := fun e => by simp [Value.ownBlock] at e hbb; omega
      have NA := Lib.hid na
      have NB := Lib.hid nb
      clear na nb hba hbb hgb
      obtain ⟨x0, x1⟩ := Ha.out k hlt
      obtain ⟨y0, y1⟩ := Hb.out k hlt
      have hw : IntKind.i64.wrap (a.getD k 0 + b.getD k 0) = a.getD k 0 + b.getD k 0 := by rw [IntKind.wrap_i64]; omega
      generalize a.getD k 0 = x at *
      generalize b.getD k 0 = y at *
      clear hown hbel x0 x1 y0 y1
      go_wp2_with fail
      refine wp_region_K (S := (fun w' => w'.cell? ⟨ba, oa + k, none⟩ = some (.int .i64 x) ∧ w'.cell? ⟨bb, ob + k, none⟩ = some (.int .i64 y))) 12 (by kernel_rfl) (by (first | exact ⟨hca, hcb⟩ | exact ⟨allocP (w := wr.drew) hca _, allocP (w := wr.drew) hcb _⟩ | exact P7.out)) (fun hHeld => ?_)
      refine wpAnyK_take (i := 0) (oi := ?oik1_1) (v := ?vk1_1) ?hk1_1 (by kernel_rfl) (by kernel_rfl) (by kernel_rfl) (by kernel_rfl) ?qk1_1 (Or.inl ⟨?wk1_1, ?yk1_1⟩) (by assumption) ?rk1_1
      case hk1_1 => (simp only [List.getElem?_toArray, List.getElem?_cons_succ, List.getElem?_cons_zero]; rfl)
      case qk1_1 => exact fun _ _ _ h => h
      case wk1_1 => rfl
      case yk1_1 => (intro w hSw; (try dsimp only at hSw); go_simp <;> with_reducible rfl)
      try simp only [Act.put, List.setIfInBounds_toArray, List.set_cons_zero, List.set_cons_succ]
      refine wpAnyK_take (i := 1) (oi := ?oik1_2) (v := ?vk1_2) ?hk1_2 (by kernel_rfl) (by kernel_rfl) (by kernel_rfl) (by kernel_rfl) ?qk1_2 (Or.inl ⟨?wk1_2, ?yk1_2⟩) (by assumption) ?rk1_2
      case hk1_2 => (simp only [List.getElem?_toArray, List.getElem?_cons_succ, List.getElem?_cons_zero]; rfl)
      case qk1_2 => exact fun _ _ _ h => h
      case wk1_2 => rfl
      case yk1_2 => (intro w hSw; (try dsimp only at hSw); go_simp <;> with_reducible rfl)
      try simp only [Act.put, List.setIfInBounds_toArray, List.set_cons_zero, List.set_cons_succ]
      refine wpAnyK_take (i := 2) (oi := ?oik1_3) (v := ?vk1_3) ?hk1_3 (by kernel_rfl) (by kernel_rfl) (by kernel_rfl) (by kernel_rfl) ?qk1_3 (Or.inl ⟨?wk1_3, ?yk1_3⟩) (by assumption) ?rk1_3
      case hk1_3 => (simp only [List.getElem?_toArray, List.getElem?_cons_succ, List.getElem?_cons_zero]; rfl)
      case qk1_3 => exact fun _ _ _ h => h
      case wk1_3 => rfl
      case yk1_3 => (intro w hSw; (try dsimp only at hSw); go_simp <;> with_reducible rfl)
      try simp only [Act.put, List.setIfInBounds_toArray, List.set_cons_zero, List.set_cons_succ]
      refine wpAnyK_take (i := 3) (oi := ?oik1_4) (v := ?vk1_4) ?hk1_4 (by kernel_rfl) (by kernel_rfl) (by kernel_rfl) (by kernel_rfl) ?qk1_4 (Or.inl ⟨?wk1_4, ?yk1_4⟩) (by assumption) ?rk1_4
      case hk1_4 => (simp only [List.getElem?_toArray, List.getElem?_cons_succ, List.getElem?_cons_zero]; rfl)
      case qk1_4 => exact fun _ _ _ h => h
      case wk1_4 => rfl
      case yk1_4 => (intro w hSw; (try dsimp only at hSw); go_simp <;> with_reducible rfl)
      try simp only [Act.put, List.setIfInBounds_toArray, List.set_cons_zero, List.set_cons_succ]
      refine wpAnyK_take (i := 4) (oi := ?oik1_5) (v := ?vk1_5) ?hk1_5 (by kernel_rfl) (by kernel_rfl) (by kernel_rfl) (by kernel_rfl) ?qk1_5 (Or.inl ⟨?wk1_5, ?yk1_5⟩) (by assumption) ?rk1_5
      case hk1_5 => (simp only [List.getElem?_toArray, List.getElem?_cons_succ, List.getElem?_cons_zero]; rfl)
      case qk1_5 => exact fun _ _ _ h => h
      case wk1_5 => rfl
      case yk1_5 => (intro w hSw; (try dsimp only at hSw); go_simp <;> with_reducible rfl)
      try simp only [Act.put, List.setIfInBounds_toArray, List.set_cons_zero, List.set_cons_succ]
      refine wpAnyK_take (i := 5) (oi := ?oik1_6) (v := ?vk1_6) ?hk1_6 (by kernel_rfl) (by kernel_rfl) (by kernel_rfl) (by kernel_rfl) ?qk1_6 (Or.inl ⟨?wk1_6, ?yk1_6⟩) (by assumption) ?rk1_6
      case hk1_6 => (simp only [List.getElem?_toArray, List.getElem?_cons_succ, List.getElem?_cons_zero]; rfl)
      case qk1_6 => exact fun _ _ _ h => h
      case wk1_6 => rfl
      case yk1_6 => (intro w hSw; (try dsimp only at hSw); go_simp <;> with_reducible rfl)
      try simp only [Act.put, List.setIfInBounds_toArray, List.set_cons_zero, List.set_cons_succ]
      refine wpAnyK_take (i := 6) (oi := ?oik1_7) (v := ?vk1_7) ?hk1_7 (by kernel_rfl) (by kernel_rfl) (by kernel_rfl) (by kernel_rfl) ?qk1_7 (Or.inl ⟨?wk1_7, ?yk1_7⟩) (by assumption) ?rk1_7
      case hk1_7 => (simp only [List.getElem?_toArray, List.getElem?_cons_succ, List.getElem?_cons_zero]; rfl)
      case qk1_7 => exact fun _ _ _ h => h
      case wk1_7 => rfl
      case yk1_7 => (intro w hSw; (try dsimp only at hSw); go_simp <;> with_reducible rfl)
      try simp only [Act.put, List.setIfInBounds_toArray, List.set_cons_zero, List.set_cons_succ]
      refine wpAnyK_take (i := 7) (oi := ?oik1_8) (v := ?vk1_8) ?hk1_8 (by kernel_rfl) (by kernel_rfl) (by kernel_rfl) (by kernel_rfl) ?qk1_8 (Or.inl ⟨?wk1_8, ?yk1_8⟩) (by assumption) ?rk1_8
      case hk1_8 => (simp only [List.getElem?_toArray, List.getElem?_cons_succ, List.getElem?_cons_zero]; rfl)
      case qk1_8 => exact fun _ _ _ h => h
      case wk1_8 => rfl
      case yk1_8 => (intro w hSw; (try dsimp only at hSw); go_simp <;> with_reducible rfl)
      try simp only [Act.put, List.setIfInBounds_toArray, List.set_cons_zero, List.set_cons_succ]
      refine wpAnyK_take (i := 8) (oi := ?oik1_9) (v := ?vk1_9) ?hk1_9 (by kernel_rfl) (by kernel_rfl) (by kernel_rfl) (by kernel_rfl) ?qk1_9 (Or.inl ⟨?wk1_9, ?yk1_9⟩) (by assumption) ?rk1_9
      case hk1_9 => (simp only [List.getElem?_toArray, List.getElem?_cons_succ, List.getElem?_cons_zero]; rfl)
      case qk1_9 => exact fun _ _ _ h => h
      case wk1_9 => rfl
      case yk1_9 => (intro w hSw; (try dsimp only at hSw); go_simp <;> with_reducible rfl)
      try simp only [Act.put, List.setIfInBounds_toArray, List.set_cons_zero, List.set_cons_succ]
      refine wpAnyK_take (i := 9) (oi := ?oik1_10) (v := ?vk1_10) ?hk1_10 (by kernel_rfl) (by kernel_rfl) (by kernel_rfl) (by kernel_rfl) ?qk1_10 (Or.inl ⟨?wk1_10, ?yk1_10⟩) (by assumption) ?rk1_10
      case hk1_10 => (simp only [List.getElem?_toArray, List.getElem?_cons_succ, List.getElem?_cons_zero]; rfl)
      case qk1_10 => exact fun _ _ _ h => h
      case wk1_10 => rfl
      case yk1_10 => (intro w hSw; (try dsimp only at hSw); go_simp <;> with_reducible rfl)
      try simp only [Act.put, List.setIfInBounds_toArray, List.set_cons_zero, List.set_cons_succ]
      refine wpAnyK_ready (rs := [10]) (by kernel_rfl) (by simp) ?_
      refine AllReadyK.cons (o := ?oik1_11) ?hk1_11 (fun K hK => ?kk1_11) ?mk1_11
      case hk1_11 => (simp only [List.getElem?_toArray, List.getElem?_cons_succ, List.getElem?_cons_zero]; rfl)
      case kk1_11 =>
        go_simp
        refine hK.out _ _ (by (first | exact ⟨hca, hcb⟩ | exact ⟨allocP (w := wr.drew) hca _, allocP (w := wr.drew) hcb _⟩ | exact P7.out)) (fun hHeld => ?_)
        clear hK K
        try simp only [Act.put, List.setIfInBounds_toArray, List.set_cons_zero, List.set_cons_succ]
        refine wpAnyK_ready (rs := [11]) (by kernel_rfl) (by simp) ?_
        refine AllReadyK.cons (o := ?oik1_12) ?hk1_12 (fun K hK => ?kk1_12) ?mk1_12
        case hk1_12 => (simp only [List.getElem?_toArray, List.getElem?_cons_succ, List.getElem?_cons_zero]; rfl)
        case kk1_12 =>
          (refine step_app1 _ _ _ _ _ etI (by rfl) (by rfl) w.heap.size (.slice (some ⟨g, 0, none⟩) k cap) k (iv ((plusM a b).take k)) (by rfl) ?_ _ (.int .i64 (x + y)) (by rfl) ?_ (by rfl) ?_ ?_ ?_; exact HO.out.drew.alloc _; exact new_cell _ _ _; omega; (simp; omega); (intro g1 cap1 w1 hown1 hgrow1 hat1 hlt1; have HO1 := Lib.hid hown1; have HB1 := Lib.hid (below_app2d HBL.out hsz HO.out hgrow1); have P7 : Hid (w1.cell? ⟨ba, oa + k, none⟩ = some (.int .i64 x) ∧ w1.cell? ⟨bb, ob + k, none⟩ = some (.int .i64 y)) := Lib.hid ⟨grownP (allocP (w := wr.drew) hca _) hgrow1 NA.out, grownP (allocP (w := wr.drew) hcb _) hgrow1 NB.out⟩; clear hown1 hgrow1 hat1 hlt1))
          refine hK.out _ _ (by (first | exact ⟨hca, hcb⟩ | exact ⟨allocP (w := wr.drew) hca _, allocP (w := wr.drew) hcb _⟩ | exact P7.out)) (fun hHeld => ?_)
          clear hK K
          try simp only [Act.put, List.setIfInBounds_toArray, List.set_cons_zero, List.set_cons_succ]
          refine wpAnyK_ready (rs := [12]) (by kernel_rfl) (by simp) ?_
          refine AllReadyK.fin (o := ?oik1_13) (by decide) ?hk1_13 (fun K hK => ?kk1_13) ?mk1_13
          case hk1_13 => (simp only [List.getElem?_toArray, List.getElem?_cons_succ, List.getElem?_cons_zero]; rfl)
          case kk1_13 =>
            go_simp
            refine hK.out _ _ ?_
            clear hK K
            try simp only [Act.put, List.setIfInBounds_toArray, List.set_cons_zero, List.set_cons_succ]
            refine wpAnyK_done (by kernel_rfl) ?_ _
            go_wp2_with fail
            go_roundw
            case rel => exact ⟨k + 1, g1, cap1, by omega, by go_num, rfl, by rw [HTS.out, iv_append]; exact HO1.out, HB1.out⟩
            case measure => simp [intOf]; omega
          exact AllReadyK.nil
        exact AllReadyK.nil
      exact AllReadyK.nil
    · obtain rfl : k = n := by omega
      have he : (plusM a b).take k = plusM a b := List.take_of_length_le (by rw [plusM_length Hn.out.symm Hn'.out.symm]; exact Nat.le_refl _)
      rw [he] at HO
      clear hown hbel he
      go_wp2_with fail
      go_ret
      exact ⟨g, cap, rfl, HO.out, HBL.out⟩
end Go.Proofs.Ytnffpjdlpjkioaa

namespace Go.Proofs.Ytnffpjdlpjkioaa
open Go.RowKit

structure Cub where
  A : Option Addr
  c : Nat
  rows : List Row
def Cub.val (x : Cub) : Value := .slice x.A x.rows.length x.c
def cu0 : Cub := ⟨none, 0, []⟩
def cvs (L : List Cub) : List Value := L.map Cub.val
def cdat (L : List Cub) : List (List (List Int)) := L.map fun x => dat x.rows
def cg (L : List Cub) (k : Nat) : Cub := L.getD k cu0
theorem cvs_length (L : List Cub) : (cvs L).length = L.length := by simp [cvs]
theorem cdat_length (L : List Cub) : (cdat L).length = L.length := by simp [cdat]
theorem cg_of {L : List Cub} {k : Nat} (h : k < L.length) : cg L k = L[k] := by simp [cg, List.getD, h]
theorem cvs_get {L : List Cub} {k : Nat} (h : k < L.length) : (cvs L)[k]? = some (cg L k).val := by
  rw [cg_of h]; simp [cvs, h]
theorem cdat_getD (L : List Cub) (k : Nat) : (cdat L).getD k [] = dat (cg L k).rows := by
  simp only [cdat, cg, List.getD, List.getElem?_map]; cases L[k]? <;> rfl
theorem cdat_rows {L M : List Cub} (h : cdat M = cdat L) : M.length = L.length ∧ ∀ i, dat (cg M i).rows = dat (cg L i).rows := by
  refine ⟨by have := congrArg List.length h; simpa [cdat] using this, fun i => ?_⟩
  rw [← cdat_getD, ← cdat_getD, h]
/-- The slice at A reads as L. -/
structure RdC (w : World) (A : Option Addr) (L : List Cub) : Prop where
  out : Rd w A (cvs L)
  inn : ∀ i, i < L.length → RdR w (cg L i).A (cg L i).rows
section
variable {w w' : World} {A : Option Addr} {L : List Cub}
theorem RdC.at_ (h : RdC w A L) {k : Nat} (hk : k < L.length) :
    ∃ b o, A = some ⟨b, o, none⟩ ∧ w.cell? ⟨b, o + k, none⟩ = some (.slice (cg L k).A (cg L k).rows.length (cg L k).c) := by
  rcases h.out with h' | ⟨b, o, rfl, h'⟩
  · have := congrArg List.length h'; simp [cvs_length] at this; subst this; simp at hk
  · exact ⟨b, o, rfl, h' k _ (cvs_get hk)⟩
theorem RdC.below {B : Nat} (h : RdC w A L) (hb : Below B w w') (hB : w.heap.size ≤ B := by exact Nat.le_refl _) : RdC w' A L :=
  ⟨h.out.below hb hB, fun i hi => (h.inn i hi).below hb hB⟩
end

end Go.Proofs.Ytnffpjdlpjkioaa

namespace Go.Proofs.Ytnffpjdlpjkioaa
open Go.RowKit

/-- the table as the reference lays it -/
def tabL (r s : List Int) (C : LL) : LL := (0 :: s) :: List.zipWith (fun x c => x :: c) r C
theorem tabL_length {r s : List Int} {C : LL} (h : C.length = r.length) : (tabL r s C).length = r.length + 1 := by simp [tabL, h]
theorem tabL_get {r s : List Int} {C : LL} (h : C.length = r.length) (i j : Nat) : ((tabL r s C).getD i []).getD j 0 = entT r s C i j := by
  unfold entT
  cases i with
  | zero => cases j with
    | zero => simp [tabL]
    | succ j => simp [tabL]
  | succ i =>
    simp only [tabL, List.getD_cons_succ, Nat.add_sub_cancel, Nat.add_eq_zero_iff, Nat.succ_ne_zero, and_false, if_false]
    by_cases hi : i < r.length
    · rw [show (List.zipWith (fun x c => x :: c) r C).getD i [] = r.getD i 0 :: C.getD i [] from by simp [List.getD, List.getElem?_zipWith, hi, h]]
      cases j with
      | zero => simp
      | succ j => simp
    · rw [show (List.zipWith (fun x c => x :: c) r C).getD i [] = [] from by simp [List.getD, List.getElem?_zipWith, hi, h]]
      have h1 : r.getD i 0 = 0 := by simp [List.getD, hi]
      have h2 : C.getD i [] = [] := by simp [List.getD, h, hi]
      rw [h1, h2]; simp
theorem tabL_row {r s : List Int} {C : LL} (h : C.length = r.length) (hC : ∀ k, k < C.length → (C.getD k []).length = s.length) {i : Nat} (hi : i < r.length + 1) : ((tabL r s C).getD i []).length = s.length + 1 := by
  cases i with
  | zero => simp [tabL]
  | succ i =>
    simp only [tabL, List.getD_cons_succ]
    rw [show (List.zipWith (fun x c => x :: c) r C).getD i [] = r.getD i 0 :: C.getD i [] from by
      have : i < r.length := by omega
      simp [List.getD, List.getElem?_zipWith, this, h]]
    rw [List.length_cons, hC i (by omega)]

/-- the k-th diagonal, the cells of the table alone -/
def diagS (r s : List Int) (C : LL) (k m : Nat) : List Int := ((List.range m).filter fun i => decide (i ≤ k ∧ k - i ≤ s.length)).map fun i => entT r s C i (k - i)
theorem diagS_yes {r s : List Int} {C : LL} {k m : Nat} (h1 : m ≤ k) (h2 : k - m ≤ s.length) : diagS r s C k (m + 1) = diagS r s C k m ++ [entT r s C m (k - m)] := by
  unfold diagS; rw [List.range_succ, List.filter_append, List.filter_cons_of_pos (by exact decide_eq_true ⟨h1, h2⟩)]; simp
theorem diagS_no {r s : List Int} {C : LL} {k m : Nat} (h : ¬ (m ≤ k ∧ k - m ≤ s.length)) : diagS r s C k (m + 1) = diagS r s C k m := by
  unfold diagS; rw [List.range_succ, List.filter_append, List.filter_cons_of_neg (by simpa using (decide_eq_false h))]; simp
theorem diagS_len (r s : List Int) (C : LL) (k m : Nat) : (diagS r s C k m).length ≤ m := by
  unfold diagS; rw [List.length_map]; exact Nat.le_trans (List.length_filter_le _ _) (by simp)
theorem filter_range_ext {p : Nat → Bool} {a : Nat} : ∀ {b : Nat}, a ≤ b → (∀ i, a ≤ i → p i = false) → (List.range b).filter p = (List.range a).filter p
  | 0, h, _ => by
    have : a = 0 := by omega
    subst this; rfl
  | b + 1, h, hp => by
    by_cases e : a = b + 1
    · rw [e]
    · rw [List.range_succ, List.filter_append, filter_range_ext (b := b) (by omega) hp]
      simp [hp b (by omega)]
theorem filter_range_eq {p : Nat → Bool} {a b : Nat} (ha : ∀ i, a ≤ i → p i = false) (hb : ∀ i, b ≤ i → p i = false) : (List.range a).filter p = (List.range b).filter p := by
  by_cases h : a ≤ b
  · exact (filter_range_ext h ha).symm
  · exact filter_range_ext (by omega) hb
theorem ent_out {r s : List Int} {C : LL} (hl : C.length = r.length) (hC : ∀ k, k < C.length → (C.getD k []).length = s.length) {i j : Nat} (h : r.length < i ∨ s.length < j) : entT r s C i j = 0 := by
  unfold entT
  by_cases h0 : i = 0
  · rw [if_pos h0]
    by_cases h1 : j = 0
    · rw [if_pos h1]
    · rw [if_neg h1]
      have : ¬ (j - 1 < s.length) := by omega
      simp [List.getD, this]
  · rw [if_neg h0]
    by_cases h1 : j = 0
    · rw [if_pos h1]
      have : ¬ (i - 1 < r.length) := by omega
      simp [List.getD, this]
    · rw [if_neg h1]
      by_cases hi : i - 1 < C.length
      · have h2 := hC _ hi
        have : ¬ (j - 1 < (C.getD (i - 1) []).length) := by omega
        simp only [List.getD] at this ⊢
        simp [this]
      · rw [show C.getD (i - 1) [] = [] from by simp [List.getD, hi]]; simp
theorem diag_nz {r s : List Int} {C : LL} (hl : C.length = r.length) (hC : ∀ k, k < C.length → (C.getD k []).length = s.length) (k : Nat) :
    (diagS r s C k (r.length + 1)).filter (fun x => decide (x ≠ 0)) = (diagT r s C k).filter (fun x => decide (x ≠ 0)) := by
  unfold diagS diagT
  rw [List.filter_map, List.filter_map, List.filter_filter]
  congr 1
  let p : Nat → Bool := fun i => decide (i ≤ k ∧ entT r s C i (k - i) ≠ 0)
  have e1 : (List.range (r.length + 1)).filter (fun a => ((fun x : Int => decide (x ≠ 0)) ∘ fun i => entT r s C i (k - i)) a && decide (a ≤ k ∧ k - a ≤ s.length)) = (List.range (r.length + 1)).filter p := by
    apply List.filter_congr
    intro i _
    show (decide (entT r s C i (k - i) ≠ 0) && decide (i ≤ k ∧ k - i ≤ s.length)) = decide (i ≤ k ∧ entT r s C i (k - i) ≠ 0)
    by_cases h1 : entT r s C i (k - i) = 0
    · simp [h1]
    · have : k - i ≤ s.length := Nat.le_of_not_lt fun h2 => h1 (ent_out hl hC (.inr h2))
      simp [h1, this]
  have e2 : (List.range (k + 1)).filter ((fun x : Int => decide (x ≠ 0)) ∘ fun i => entT r s C i (k - i)) = (List.range (k + 1)).filter p := by
    apply List.filter_congr
    intro i hi
    rw [List.mem_range] at hi
    show decide (entT r s C i (k - i) ≠ 0) = decide (i ≤ k ∧ entT r s C i (k - i) ≠ 0)
    simp [show i ≤ k by omega]
  rw [e1, e2]
  refine filter_range_eq (fun i hi => ?_) (fun i hi => ?_)
  · show decide _ = false
    simp [ent_out hl hC (.inl (show r.length < i by omega))]
  · show decide _ = false
    simp [show ¬ i ≤ k by omega]
theorem apN_nz : ∀ (l : List Int) (sn : Nat), apN sn (l.filter (fun x => decide (x ≠ 0))) = apN sn l
  | [], _ => rfl
  | x :: l, sn => by
    by_cases h : x = 0
    · subst h
      rw [List.filter_cons_of_neg (by simp), apN_nz l sn]
      conv => rhs; rw [apN]
      have h1 : an sn (0 : Int).toNat = 0 := by simp [an]
      have h2 : orr sn (0 : Int).toNat = sn := by simp [orr]
      rw [if_pos h1, h2]
    · rw [List.filter_cons_of_pos (by simpa using h)]
      rw [apN, apN]
      split
      · exact apN_nz l _
      · rfl
theorem sum_nz : ∀ (l : List Int), (l.filter (fun x => decide (x ≠ 0))).sum = l.sum
  | [] => rfl
  | x :: l => by
    by_cases h : x = 0
    · subst h
      rw [List.filter_cons_of_neg (by simp), sum_nz l]; simp
    · rw [List.filter_cons_of_pos (by simpa using h), List.sum_cons, List.sum_cons, sum_nz l]
theorem diag_ap {r s : List Int} {C : LL} (hl : C.length = r.length) (hC : ∀ k, k < C.length → (C.getD k []).length = s.length) (k : Nat) : apN 0 (diagS r s C k (r.length + 1)) = apN 0 (diagT r s C k) := by
  rw [← apN_nz, diag_nz hl hC, apN_nz]
theorem diag_sum {r s : List Int} {C : LL} (hl : C.length = r.length) (hC : ∀ k, k < C.length → (C.getD k []).length = s.length) (k : Nat) : (diagS r s C k (r.length + 1)).sum = (diagT r s C k).sum := by
  rw [← sum_nz, diag_nz hl hC, sum_nz]
theorem tab_at {w : World} {A : Option Addr} {L : List Row} {r s : List Int} {C : LL} (hR : RdR w A L) (hD : dat L = tabL r s C) (hl : C.length = r.length) (hC : ∀ k, k < C.length → (C.getD k []).length = s.length) {i : Nat} (hi : i < r.length + 1) :
    ∃ b o rA rc, A = some ⟨b, o, none⟩ ∧ w.cell? ⟨b, o + i, none⟩ = some (.slice rA (s.length + 1) rc) ∧ ∀ w', Below w.heap.size w w' → ∀ j, j < s.length + 1 → ∃ b' o', rA = some ⟨b', o', none⟩ ∧ w'.cell? ⟨b', o' + j, none⟩ = some (.int .i64 (entT r s C i j)) := by
  have hiL : i < L.length := by rw [← dat_length, hD, tabL_length hl]; exact hi
  obtain ⟨b, o, hA, hc⟩ := hR.at_ hiL
  have hx : (rg L i).xs = (tabL r s C).getD i [] := by rw [← hD, dat_getD]
  have hlen : (rg L i).xs.length = s.length + 1 := by rw [hx, tabL_row hl hC hi]
  rw [hlen] at hc
  refine ⟨b, o, _, _, hA, hc, fun w' hb j hj => ?_⟩
  obtain ⟨b', o', h1, h2⟩ := ((hR.inn i hiL).below hb).atI (k := j) (by rw [hlen]; exact hj)
  refine ⟨b', o', h1, ?_⟩
  rw [h2, hx, tabL_get hl]

end Go.Proofs.Ytnffpjdlpjkioaa
