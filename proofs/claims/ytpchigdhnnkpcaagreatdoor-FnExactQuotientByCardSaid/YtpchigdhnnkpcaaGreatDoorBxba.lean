/- quotients: the places that are kept (plain law) · the program's quotientOf: its closures · the program's quotientOf: the other closures · drawn regions whose last operation stores into a cell that they load: the loads are taken first all the same -/
import Derived.Test.YtpchigdhnnkpcaaGreatDoorBxag
import Derived.Test.YtpchigdhnnkpcaaGreatDoorBxat
import Derived.Test.YtpchigdhnnkpcaaGreatDoorBxar
import Derived.Test.YtpchigdhnnkpcaaGreatDoorBxaa
import Derived.Test.YtpchigdhnnkpcaaGreatDoorBxah
import Derived.Deep.RegionHeld3
import Derived.OrdersHeld
import Derived.StillTail
set_option linter.all false
namespace Go.Proofs.YtpchigdhnnkpcaaGreatDoor
open Go.RowKit

/-- the digits of the pivots -/
def pvs (S : List Nat) : Nat := S.foldl (fun a r => orr a (2 ^ pv r)) 0
theorem pvs_succ {S : List Nat} {k : Nat} (h : k < S.length) : pvs (S.take (k + 1)) = orr (pvs (S.take k)) (2 ^ pv (S.getD k 0)) := fold_take_succ _ _ _ _ 0 h
theorem tb_pvsF (S : List Nat) : ∀ a p, tb (S.foldl (fun a r => orr a (2 ^ pv r)) a) p = (tb a p || S.any fun r => pv r == p) := by
  induction S with
  | nil => intro a p; simp
  | cons r S ih =>
    intro a p
    rw [List.foldl_cons, ih, tb_orr, tb_pow, List.any_cons, Bool.or_assoc]
    congr 1
theorem tb_pvs (S : List Nat) (p : Nat) : tb (pvs S) p = S.any fun r => pv r == p := by
  unfold pvs; rw [tb_pvsF, tb_zero, Bool.false_or]
theorem pvs_lt {S : List Nat} {n : Nat} (h : ∀ r ∈ S, pv r < n) : pvs S < 2 ^ n := lt_of_tb fun m hm => by
  rw [tb_pvs]
  rw [List.any_eq_false]
  intro r hr
  have := h r hr
  simp; omega

/-- the places below k that are no digit of v -/
def rst (v : Nat) : Nat → List Nat
  | 0 => []
  | k + 1 => rst v k ++ if tb v k = true then [] else [k]
/-- where each place is kept -/
def plc (v n : Nat) : Nat → List Nat
  | 0 => List.replicate n 0
  | k + 1 => if tb v k = true then plc v n k else (plc v n k).set k (rst v k).length
theorem rst_yes {v k : Nat} (h : tb v k = false) : rst v (k + 1) = rst v k ++ [k] := by show rst v k ++ (if tb v k = true then [] else [k]) = _; rw [h]; rfl
theorem rst_no {v k : Nat} (h : tb v k = true) : rst v (k + 1) = rst v k := by show rst v k ++ (if tb v k = true then [] else [k]) = _; rw [h]; simp
theorem rst_len (v : Nat) : ∀ k, (rst v k).length ≤ k
  | 0 => by simp [rst]
  | k + 1 => by
    unfold rst; rw [List.length_append]
    have := rst_len v k
    split <;> simp <;> omega
theorem mem_rst {v i : Nat} : ∀ {k}, i ∈ rst v k ↔ i < k ∧ tb v i = false
  | 0 => by simp [rst]
  | k + 1 => by
    cases h : tb v k
    · rw [rst_yes h, List.mem_append, mem_rst, List.mem_singleton]
      constructor
      · rintro (⟨a, b⟩ | rfl)
        · exact ⟨by omega, b⟩
        · exact ⟨by omega, h⟩
      · rintro ⟨a, b⟩
        by_cases e : i = k
        · exact .inr e
        · exact .inl ⟨by omega, b⟩
    · rw [rst_no h, mem_rst]
      constructor
      · rintro ⟨a, b⟩; exact ⟨by omega, b⟩
      · rintro ⟨a, b⟩
        refine ⟨?_, b⟩
        by_cases e : i = k
        · subst e; rw [h] at b; cases b
        · omega
theorem rst_pre (v : Nat) {i : Nat} : ∀ {k}, i ≤ k → ∃ t, rst v k = rst v i ++ t
  | 0, h => ⟨[], by rw [show i = 0 by omega, List.append_nil]⟩
  | k + 1, h => by
    by_cases e : i = k + 1
    · subst e; exact ⟨[], by simp⟩
    · obtain ⟨t, ht⟩ := rst_pre v (show i ≤ k by omega)
      exact ⟨t ++ if tb v k = true then [] else [k], by rw [rst, ht, List.append_assoc]⟩
theorem rst_idx {v i k : Nat} (h : i < k) (hv : tb v i = false) : (rst v i).length < (rst v k).length ∧ (rst v k).getD (rst v i).length 0 = i := by
  obtain ⟨t, ht⟩ := rst_pre v (show i + 1 ≤ k from h)
  rw [rst_yes hv] at ht
  rw [ht]
  refine ⟨by simp, ?_⟩
  simp [List.getD, List.getElem?_append]
theorem rst_at {v p : Nat} : ∀ {k}, p < (rst v k).length → (rst v k).getD p 0 < k ∧ tb v ((rst v k).getD p 0) = false ∧ (rst v ((rst v k).getD p 0)).length = p
  | 0, h => by simp [rst] at h
  | k + 1, h => by
    cases hv : tb v k
    · rw [rst_yes hv] at h ⊢
      rw [List.length_append, List.length_singleton] at h
      by_cases e : p < (rst v k).length
      · have e1 : (rst v k ++ [k]).getD p 0 = (rst v k).getD p 0 := by simp [List.getD, List.getElem?_append, e]
        rw [e1]
        obtain ⟨a, b, c⟩ := rst_at e
        exact ⟨by omega, b, c⟩
      · obtain rfl : p = (rst v k).length := by omega
        have e1 : (rst v k ++ [k]).getD (rst v k).length 0 = k := by simp [List.getD]
        rw [e1]
        exact ⟨by omega, hv, rfl⟩
    · rw [rst_no hv] at h ⊢
      obtain ⟨a, b, c⟩ := rst_at h
      exact ⟨by omega, b, c⟩
theorem plc_len (v n : Nat) : ∀ k, (plc v n k).length = n
  | 0 => by simp [plc]
  | k + 1 => by unfold plc; split <;> simp [plc_len v n k]
theorem plc_yes {v n k : Nat} (h : tb v k = false) : plc v n (k + 1) = (plc v n k).set k (rst v k).length := by show (if tb v k = true then plc v n k else (plc v n k).set k (rst v k).length) = _; rw [h]; simp
theorem plc_no {v n k : Nat} (h : tb v k = true) : plc v n (k + 1) = plc v n k := by show (if tb v k = true then plc v n k else (plc v n k).set k (rst v k).length) = _; rw [h]; simp
theorem plc_getD {v n i : Nat} (hi : i < n) : ∀ k, (plc v n k).getD i 0 = if i < k ∧ tb v i = false then (rst v i).length else 0
  | 0 => by simp [plc, List.getD, hi]
  | k + 1 => by
    by_cases e : i = k
    · subst e
      cases h : tb v i
      · rw [plc_yes h, if_pos ⟨by omega, rfl⟩]
        have hl : i < (plc v n i).length := by rw [plc_len]; exact hi
        simp [List.getD, hl]
      · rw [plc_no h, plc_getD hi i, if_neg (by omega), if_neg (by simp)]
    · have e2 : (if i < k + 1 ∧ tb v i = false then (rst v i).length else 0) = if i < k ∧ tb v i = false then (rst v i).length else 0 := by
        have : (i < k + 1 ∧ tb v i = false) ↔ (i < k ∧ tb v i = false) := ⟨fun h => ⟨by omega, h.2⟩, fun h => ⟨by omega, h.2⟩⟩
        by_cases h : i < k ∧ tb v i = false
        · rw [if_pos h, if_pos (this.2 h)]
        · rw [if_neg h, if_neg (fun h2 => h (this.1 h2))]
      rw [e2, ← plc_getD hi k]
      cases h : tb v k
      · rw [plc_yes h]; simp [List.getD, List.getElem?_set, Ne.symm e]
      · rw [plc_no h]
theorem plc_mem {v n : Nat} : ∀ r ∈ plc v n n, r ≤ n := fun r hr => by
  obtain ⟨i, hi, e⟩ := List.getElem_of_mem hr
  have hin : i < n := by rw [plc_len] at hi; exact hi
  have h := plc_getD (v := v) hin n
  rw [show (plc v n n).getD i 0 = r by simp [List.getD, hi, e]] at h
  rw [h]
  split
  · have := rst_len v i; omega
  · omega
/-- both ways to tell a mask without pivots -/
theorem kept_plc {v n x : Nat} (h : ∀ i, tb x i = true → i < n ∧ tb v i = false) : kept (plc v n n) x = unT (rst v n) x (rst v n).length := eq_of_tb fun p => by
  rw [tb_unT]
  have hk := tb_kept (plc v n n) x p
  cases hb : tb (kept (plc v n n) x) p with
  | true =>
    obtain ⟨i, hi, hx, hp⟩ := hk.1 hb
    obtain ⟨hin, hv⟩ := h i hx
    rw [plc_getD hin, if_pos ⟨hin, hv⟩] at hp
    obtain ⟨h1, h2⟩ := rst_idx hin hv
    rw [hp] at h1 h2
    rw [h2, hx, decide_eq_true h1]; rfl
  | false =>
    cases hc : (decide (p < (rst v n).length) && tb x ((rst v n).getD p 0)) with
    | false => rfl
    | true =>
      rw [Bool.and_eq_true, decide_eq_true_eq] at hc
      obtain ⟨h1, h2, h3⟩ := rst_at hc.1
      have : tb (kept (plc v n n) x) p = true := hk.2 ⟨_, by rw [plc_len]; exact h1, hc.2, by rw [plc_getD h1, if_pos ⟨h1, h2⟩]; exact h3⟩
      rw [this] at hb; cases hb
theorem unT_lt (I : List Nat) (z k : Nat) : unT I z k < 2 ^ k := lt_of_tb fun m hm => by rw [tb_unT, decide_eq_false (by omega)]; rfl

theorem leftS_lt {S : List Nat} {n : Nat} (h : ∀ r ∈ S, r < 2 ^ n) : ∀ {x}, x < 2 ^ n → leftS S x < 2 ^ n := by
  induction S with
  | nil => intro x hx; exact hx
  | cons r S ih =>
    intro x hx
    rw [leftS_cons]
    refine ih (fun s hs => h s (List.mem_cons_of_mem _ hs)) ?_
    split
    · exact Nat.xor_lt_two_pow hx (h r List.mem_cons_self)
    · exact hx
/-- what a quotient tells of a mask -/
def told (S : List Nat) (n x : Nat) : Nat := unT (rst (pvs S) n) (leftS S x) (rst (pvs S) n).length
theorem told_kept {S : List Nat} {n x : Nat} (hr : Red S) (h : ∀ r ∈ S, r < 2 ^ n) (hx : x < 2 ^ n) : kept (plc (pvs S) n n) (leftS S x) = told S n x := by
  refine kept_plc fun i hi => ?_
  have h1 := leftS_lt h hx
  refine ⟨?_, ?_⟩
  · rcases Nat.lt_or_ge i n with h2 | h2
    · exact h2
    · rw [tb_of_lt h1 h2] at hi; cases hi
  · rw [tb_pvs, List.any_eq_false]
    intro r hr'
    have h2 := leftS_off hr x r hr'
    intro e
    have e : pv r = i := by simpa using e
    rw [e, hi] at h2; cases h2
theorem told_lt (S : List Nat) (n x : Nat) : told S n x < 2 ^ (rst (pvs S) n).length := unT_lt _ _ _

/-- a reduced list reduces to itself -/
theorem reduce_red {S : List Nat} (h : Red S) (hs : ∀ r ∈ S, Sm r) : (reduceS S).Perm S := by
  unfold reduceS
  have key : ∀ (T A B : List Nat), Red (B ++ T) → (∀ r ∈ B ++ T, Sm r) → A.Perm B → (T.foldl putS A).Perm (B ++ T) := by
    intro T
    induction T with
    | nil => intro A B _ _ hp; simpa using hp
    | cons x T ih =>
      intro A B hr hsm hp
      rw [List.foldl_cons]
      have hx : Sm x := hsm x (by simp)
      have hx0 : x ≠ 0 := (hr.ne x (by simp)).1
      have hoffB : ∀ r ∈ B, tb x (pv r) = false ∧ tb r (pv x) = false := fun r hrB => by
        have := hr.off
        rw [List.pairwise_append] at this
        obtain ⟨h1, h2⟩ := this.2.2 r hrB x (by simp)
        first | exact ⟨h2, h1⟩ | exact ⟨h1, h2⟩
      have hl : leftS A x = x := by
        have : ∀ (A : List Nat), (∀ r ∈ A, tb x (pv r) = false) → leftS A x = x := by
          intro A
          induction A with
          | nil => intro _; rfl
          | cons r A ih2 =>
            intro h2
            rw [leftS_cons, h2 r List.mem_cons_self]
            exact ih2 fun s hs2 => h2 s (List.mem_cons_of_mem _ hs2)
        exact this A fun r hrA => (hoffB r (hp.mem_iff.1 hrA)).1
      have h3 := putS_perm A x (by rw [hl]; exact hx0)
      rw [hl] at h3
      have h4 : A.map (stepS x) = A := by
        have : ∀ r ∈ A, stepS x r = r := fun r hrA => by unfold stepS; rw [(hoffB r (hp.mem_iff.1 hrA)).2]; rfl
        rw [List.map_congr_left this, List.map_id']
      rw [h4] at h3
      have h5 := ih (putS A x) (B ++ [x]) (by simpa using hr) (by simpa using hsm) (h3.trans (hp.append_right _))
      simpa using h5
  simpa using key S [] [] (by simpa using h) (by simpa using hs) (List.Perm.refl _)
theorem spanL_left {S : List Nat} (h : Red S) (hs : ∀ r ∈ S, Sm r) (x y : Nat) : (leftN (spanL (zs S)) (x, y)).1 = leftS S x := by
  have hp := spanL_perm (zs S) (fun q hq => by obtain ⟨r, hr, rfl⟩ := List.mem_map.1 hq; exact ⟨hs r hr, Sm.zero⟩)
  rw [r1_zs] at hp
  rw [leftN_fst]
  exact leftS_perm hp.2.1 (hp.1.trans (reduce_red h hs)) x
end Go.Proofs.YtpchigdhnnkpcaaGreatDoor

namespace Go.Proofs.YtpchigdhnnkpcaaGreatDoor
open Go.RowKit

/-- a pointer to a span in a cell, to be read -/
structure SpanR (w : World) (gs bs : Nat) (L : List (Nat × Nat)) : Prop where
  ptr : w.cell? ⟨gs, 0, none⟩ = some (.pointer (some ⟨bs, 0, none⟩))
  rd : ∃ A A' c c', w.cell? ⟨bs, 0, none⟩ = some (.slice A L.length c) ∧ w.cell? ⟨bs, 1, none⟩ = some (.slice A' L.length c') ∧ Rd w A (nv (r1 L)) ∧ Rd w A' (nv (r2 L))
theorem SpanR.below {w w' : World} {gs bs : Nat} {L : List (Nat × Nat)} (h : SpanR w gs bs L) (hb : Below w.heap.size w w') : SpanR w' gs bs L := by
  obtain ⟨h1, A, A', c, c', a, b, x, y⟩ := h
  exact ⟨cell_keep h1 hb, A, A', c, c', cell_keep a hb, cell_keep b hb, x.below hb, y.below hb⟩
attribute [local go_sem] i64_or_nat in
set_option maxRecDepth 100000 in
set_option maxHeartbeats 4000000 in
/-- told: a mask's digits in the quotient -/
theorem toldClo_any (gs bs gr : Nat) (L : List (Nat × Nat)) (R : Option Addr) (k cr : Nat) (I : List Nat) (x : Nat) (w : World) (hT : Tab w) (hw : 0 < w.heap.size) (hL : L.length ≤ 1000000) (hg : Good L) (hx : Sm x) (hS : SpanR w gs bs L) (hr : w.cell? ⟨gr, 0, none⟩ = some (.slice R k cr)) (hk : k = I.length) (hk1 : k ≤ 16) (hI : ∀ i ∈ I, i ≤ 60) (hR : Rd w R (nv I)) :
    Calls Tryz.prog 94 #[.int .i64 (x : Int), .pointer (some ⟨gs, 0, none⟩), .pointer (some ⟨gr, 0, none⟩)] w fun e w' => e = .returned (.int .i64 (unT I (leftN L (x, 0)).1 k : Nat)) ∧ Below w.heap.size w w' := by
  obtain ⟨hp, A, A', c, c', h0, h1, hA, hA'⟩ := hS
  have HLT := Lib.hid (left_any bs A A' L.length c c' L x 0 w hT rfl hL hx Sm.zero hg h0 h1 hA hA')
  have hvs : Sm (leftN L (x, 0)).1 := (SmP.foldl hg (p := (x, 0)) ⟨hx, Sm.zero⟩).1
  have HI := Lib.hid hI
  have HR := Lib.hid hR
  have Hk := Lib.hid hk
  have HG := Lib.hid hr
  have HCT : Hid (∀ c, unT I (leftN L (x, 0)).1 (c + 1) = if tb (leftN L (x, 0)).1 (I.getD c 0) = true then orr (unT I (leftN L (x, 0)).1 c) (2 ^ c) else unT I (leftN L (x, 0)).1 c) := Lib.hid (fun c => rfl)
  have HCS := Lib.hid (fun c (h : c ≤ 60) => sm_of_lt (a := c) (by omega) (unT_lt I (leftN L (x, 0)).1 c))
  have HC0 : Hid (unT I (leftN L (x, 0)).1 0 = 0) := Lib.hid rfl
  generalize leftN L (x, 0) = v at *
  clear hT hw hL hg hk hI hR h0 h1 hA hA' hr
  go_enter Tryz.func94, Tryz.ntmps94
  go_wp2_with fail
  refine HLT.out.mono ?_
  rintro e w1 ⟨rfl, m, rfl⟩
  have HBW := Lib.hid (below_drewN (Below.refl w.heap.size w) m)
  have HR1 := Lib.hid (HR.out.below HBW.out)
  have hgr := cell_keep HG.out HBW.out
  generalize w.drewN m = w1 at *
  clear HLT HR HG hp
  go_wp2_with fail
  go_loop [5, 16] (fun t i => ∃ q : Nat, q ≤ k ∧ i = .int .i64 q ∧ t = .int .i64 (unT I v.1 q : Nat)) (fun _ i => k - (intOf i).toNat)
  case atStart => exact ⟨0, by omega, rfl, by rw [HC0.out]; rfl⟩
  case round =>
    obtain ⟨q, hq, rfl, rfl⟩ := hrel
    by_cases hlt : q < k
    · obtain ⟨b, o, rfl, hcq⟩ := HR1.out.atN (k := q) (by rw [← Hk.out]; exact hlt)
      have hr62 := HI.out _ (getD_mem (k := q) (by rw [← Hk.out]; exact hlt))
      have hct := HCT.out q
      have h1 := HCS.out q (by omega)
      have h2 : Sm (2 ^ q) := sm_pow (n := q + 1) (by omega) (pow_lt_pow (by omega))
      have he : ((2 ^ q : Nat) : Int) = (2 : Int) ^ q := by simp
      have hor := i64_or_nat h1 h2
      rw [he] at hor
      have hz := i64_or_zero h1
      obtain ⟨p1, p2⟩ := pow62 (d := q) (by omega)
      have hbn := i64_bit_nat (n := I.getD q 0) hvs
      have hm1 : min (I.getD q 0) 64 = I.getD q 0 := by omega
      have hm2 : min q 64 = q := by omega
      have hqk : (q : Int) < (k : Int) := by omega
      generalize I.getD q 0 = r at *
      generalize unT I v.1 q = p at *
      cases hb : tb v.1 r
      · rw [hb] at hbn hct
        have HE : Hid (unT I v.1 (q + 1) = p) := Lib.hid (by rw [hct, if_neg (by simp)])
        simp only [Bool.toNat_false, Int.natCast_zero] at hbn
        clear hct he hor hb
        go_wp2_with fail
        go_round
        case rel => exact ⟨q + 1, by omega, by go_num, by rw [HE.out]⟩
        case measure => simp [intOf]; omega
      · rw [hb] at hbn hct
        have HE : Hid (unT I v.1 (q + 1) = orr p (2 ^ q)) := Lib.hid (by rw [hct, if_pos rfl])
        simp only [Bool.toNat_true, Int.natCast_one] at hbn
        clear hct he hz hb
        go_wp2_with fail
        go_round
        case rel => exact ⟨q + 1, by omega, by go_num, by rw [HE.out]⟩
        case measure => simp [intOf]; omega
    · obtain rfl : k = q := by omega
      go_wp2_with fail
      go_ret
      exact ⟨rfl, HBW.out⟩
end Go.Proofs.YtpchigdhnnkpcaaGreatDoor

namespace Go.Proofs.YtpchigdhnnkpcaaGreatDoor
open Go.RowKit

set_option maxHeartbeats 2000000 in
theorem pivClo' (g b r : Nat) (w : World) (hT : Tab w) (hw : 0 < w.heap.size) (h0 : r ≠ 0) (hr : Sm r) (hc : w.cell? ⟨g, 0, none⟩ = some (.int .i64 (b : Int))) :
    Calls Tryz.prog 93 #[.int .i64 (r : Int), .pointer (some ⟨g, 0, none⟩)] w fun e w' => e = .returned (.bool (decide (pv r = b))) ∧ w.drew = w' := by
  have HPV := Lib.hid (fun W hT => pivot_any r h0 hr W hT)
  have HT := Lib.hid (hT.below (Below.drew (Below.refl w.heap.size w)) hw)
  have KS := Lib.hid (fun w' (hb : Below w.heap.size w w') => cell_keep hc hb)
  have HB_0 := Lib.hid (Below.drew (Below.refl w.heap.size w))
  have hbe : (((pv r : Nat) : Int) == (b : Int)) = decide (pv r = b) := by
    rw [Bool.eq_iff_iff]; simp; omega
  have HBE := Lib.hid hbe
  clear hT hc hbe
  go_enter Tryz.func93, Tryz.ntmps93
  go_wp2_with fail
  go_region_held3 (fun w' => w'.cell? ⟨g, 0, none⟩ = some (.int .i64 (b : Int)))
    (first | exact KS.out _ HB_0.out)
    ((go_at_call 90; (with_reducible refine (HPV.out _ HT.out).mono ?_); (rintro e w4 ⟨rfl, rfl⟩)))
  go_wp2_with fail
  go_ret
  exact ⟨congrArg (fun t => Ending.returned (Value.bool t)) HBE.out, rfl⟩
/-- is this row's pivot at a place? -/
theorem pivClo_any (g b r : Nat) (w : World) (hT : Tab w) (hw : 0 < w.heap.size) (h0 : r ≠ 0) (hr : Sm r) (hc : w.cell? ⟨g, 0, none⟩ = some (.int .i64 (b : Int))) :
    Asks Tryz.prog 93 (.pointer (some ⟨g, 0, none⟩)) w (.int .i64 (r : Int)) (decide (pv r = b)) := fun m =>
  (pivClo' g b r (w.drewN m) (fun j hj => hT j hj) hw h0 hr hc).mono fun _ _ ⟨he, hw'⟩ => ⟨he, m + 1, hw'⟩

set_option maxRecDepth 100000 in
set_option maxHeartbeats 4000000 in
/-- Sq^n of a basis element, told in the quotient -/
theorem quoClo_any (gf gt gr gs bs g : Nat) (L : List (Nat × Nat)) (A : Option Addr) (n c : Nat) (xs : List Int) (Q : List (List Int)) (R : Option Addr) (k cr : Nat) (I : List Nat) (j i : Nat) (w : World) (hT : Tab w) (hw : 0 < w.heap.size) (hn : n = xs.length) (hs : Shp xs Q) (hj : j ≤ 20) (hL : L.length ≤ 1000000) (hg : Good L)
    (hf : w.cell? ⟨gf, 0, none⟩ = some (.func (.func 94) #[] #[.pointer (some ⟨gs, 0, none⟩), .pointer (some ⟨gr, 0, none⟩)])) (hgt : w.cell? ⟨gt, 0, none⟩ = some (.pointer (some ⟨g, 0, none⟩))) (hS : SpanR w gs bs L) (hr : w.cell? ⟨gr, 0, none⟩ = some (.slice R k cr)) (hk : k = I.length) (hk1 : k ≤ 16) (hi : i < k) (hI : ∀ i ∈ I, i < n) (hR : Rd w R (nv I)) (hA : TblAt w g A n c Q) :
    Calls Tryz.prog 96 #[.int .i64 (j : Int), .int .i64 (i : Int), .pointer (some ⟨gf, 0, none⟩), .pointer (some ⟨gt, 0, none⟩), .pointer (some ⟨gr, 0, none⟩)] w fun e w' => e = .returned (.int .i64 (unT I (leftN L (act Q (j : Int) (2 ^ I.getD i 0), 0)).1 k : Nat)) ∧ Below w.heap.size w w' := by
  have hiI : i < I.length := by rw [← hk]; exact hi
  have hn16 : n ≤ 16 := by rw [hn]; exact hs.len
  obtain ⟨b, o, rfl, hci⟩ := hR.atN hiI
  have hbi := hI _ (getD_mem hiI)
  obtain ⟨h, hrow, hrd⟩ := hA.row j (by omega)
  have hlt := act_lt hs (pow_lt_pow (show I.getD i 0 < xs.length by rw [← hn]; exact hbi)) (j : Int)
  have hvs := hs.sm hlt
  have hsq := hrd.atN (k := I.getD i 0) (by rw [sqRow_length]; exact hbi)
  rw [sqRow_getD _ hbi, sqOr_act hs] at hsq
  obtain ⟨b2, o2, hbe, hsq⟩ := hsq
  injection hbe with hbe
  injection hbe with e1 e2 _
  subst e1; subst e2
  rw [Nat.zero_add] at hsq
  have HTL := Lib.hid (fun W (hb : Below w.heap.size w W) => toldClo_any gs bs gr L (some ⟨b, o, none⟩) k cr I (act Q (j : Int) (2 ^ I.getD i 0)) W (hT.below hb hw) (Nat.lt_of_lt_of_le hw hb.size) hL hg hvs (hS.below hb) (cell_keep hr hb) hk hk1 (fun q hq => by have := hI q hq; omega) (hR.below hb))
  generalize act Q (j : Int) (2 ^ I.getD i 0) = v at *
  generalize I.getD i 0 = r at *
  have KS := Lib.hid (fun w' (hb : Below w.heap.size w w') => show w'.cell? ⟨gf, 0, none⟩ = some (.func (.func 94) #[] #[.pointer (some ⟨gs, 0, none⟩), .pointer (some ⟨gr, 0, none⟩)]) ∧ w'.cell? ⟨gt, 0, none⟩ = some (.pointer (some ⟨g, 0, none⟩)) ∧ w'.cell? ⟨gr, 0, none⟩ = some (.slice (some ⟨b, o, none⟩) k cr) ∧ w'.cell? ⟨b, o + i, none⟩ = some (.int .i64 (r : Nat)) ∧ w'.cell? ⟨g, 1 + j, none⟩ = some (.slice (some ⟨h, 0, none⟩) n n) ∧ w'.cell? ⟨h, r, none⟩ = some (.int .i64 (v : Nat)) from ⟨cell_keep hf hb, cell_keep hgt hb, cell_keep hr hb, cell_keep hci hb, cell_keep hrow hb, cell_keep hsq hb⟩)
  have HB_0 := Lib.hid (Below.drew (Below.refl w.heap.size w))
  have hiki : (i : Int) < (k : Int) := by omega
  have hji : (j : Int) < 21 := by omega
  have hrni : (r : Int) < (n : Int) := by omega
  clear hT hw hn hs hL hg hf hgt hS hr hk hI hR hA hci hrow hrd hsq hlt hiI
  go_enter Tryz.func96, Tryz.ntmps96
  go_wp2_with fail
  go_region_held3 (fun w' => w'.cell? ⟨gf, 0, none⟩ = some (.func (.func 94) #[] #[.pointer (some ⟨gs, 0, none⟩), .pointer (some ⟨gr, 0, none⟩)]) ∧ w'.cell? ⟨gt, 0, none⟩ = some (.pointer (some ⟨g, 0, none⟩)) ∧ w'.cell? ⟨gr, 0, none⟩ = some (.slice (some ⟨b, o, none⟩) k cr) ∧ w'.cell? ⟨b, o + i, none⟩ = some (.int .i64 (r : Nat)) ∧ w'.cell? ⟨g, 1 + j, none⟩ = some (.slice (some ⟨h, 0, none⟩) n n) ∧ w'.cell? ⟨h, r, none⟩ = some (.int .i64 (v : Nat)))
    (first | exact KS.out _ HB_0.out | exact KS.out _ HB_1.out)
    ((go_at_call 94; (with_reducible refine (HTL.out _ HB_0.out).mono ?_); (rintro e w4 ⟨rfl, hb⟩; have HB_1 := Lib.hid (HB_0.out.trans (hb.mono HB_0.out.size)); clear hb)))
  go_wp2_with fail
  go_ret
  exact ⟨rfl, HB_1.out⟩
end Go.Proofs.YtpchigdhnnkpcaaGreatDoor

namespace Go.Proofs.YtpchigdhnnkpcaaGreatDoor

section
variable {P : Program} {ops : Array Oper} {Q : Exit → Act → World → Prop} {md : Region.Mode} {S : World → Prop} {last : Nat}

/-- any order, S behind every operation ahead of number 'last' -/
def wpAnyK (P : Program) (md : Region.Mode) (ops : Array Oper) (Q : Exit → Act → World → Prop) (S : World → Prop) (last : Nat) : Nat → Array Bool → Act → World → Prop
  | 0, listed, a, w => Region.ready md ops listed = [] ∧ Q .normal a w
  | fuel + 1, listed, a, w =>
    (Region.ready md ops listed = [] → Q .normal a w) ∧
    ∀ i ∈ Region.ready md ops listed, wpOp P ops Q i (fun a' w' => (i < last → S w') ∧ wpAnyK P md ops Q S last fuel (listed.setIfInBounds i true) a' w') a w
/-- all from 'last' on wait for i -/
def waitB (md : Region.Mode) (ops : Array Oper) (last i : Nat) : Bool := (List.range ops.size).all fun j => decide (j < last) || Region.waitsFor md ops j i
theorem wpAny_of_K : ∀ (fuel : Nat) (listed : Array Bool) (a : Act) (w : World), wpAnyK P md ops Q S last fuel listed a w → wpAny P md ops Q fuel listed a w
  | 0, _, _, _, h => h
  | fuel + 1, _, _, _, h => ⟨h.1, fun i hi => wpOp_mono (fun a' w' h' => wpAny_of_K fuel _ a' w' h'.2) (h.2 i hi)⟩
theorem wpAnyK_first {i : Nat} {oi : Oper} {v : Value} (hi : ops[i]? = some oi) (hsel : ∀ (j : Nat) (o : Oper) cs b, ops[j]? = some o → o.op ≠ .select cs b)
    (hQ : ∀ c a w, Q (.panic c) (a.put oi.dst v) w → Q (.panic c) a w) (hwait : waitB md ops last i = true) :
    ∀ (fuel : Nat) (listed : Array Bool) (a : Act) (w : World),
      (∀ j oj, ops[j]? = some oj → j ≠ i → listed.getD j true = false → (∀ e ∈ oj.after, Region.binds md e = true → e.on ≠ i) → oi.apart ops oj = true) →
      i ∈ Region.ready md ops listed → YieldsIf P ops S oi v a → S w →
      wpAnyK P md ops Q S last fuel (listed.setIfInBounds i true) (a.put oi.dst v) w → wpAnyK P md ops Q S last (fuel + 1) listed a w := by
  intro fuel
  induction fuel with
  | zero =>
    intro listed a w _ hr hy hS H
    refine ⟨fun h => (by rw [h] at hr; cases hr), fun j hj => ?_⟩
    by_cases hji : j = i
    · subst hji; exact hy.wpOp hi hS ⟨fun _ => hS, H⟩
    · have := ready_mono hj hji
      rw [H.1] at this
      cases this
  | succ fuel ih =>
    intro listed a w hfree hr hy hS H
    refine ⟨fun h => (by rw [h] at hr; cases hr), fun j hj => ?_⟩
    by_cases hji : j = i
    · subst hji; exact hy.wpOp hi hS ⟨fun _ => hS, H⟩
    · have h1 := H.2 j (ready_mono hj hji)
      obtain ⟨hjun, oj, hoj, hall⟩ := mem_ready.1 hj
      have hnot : ∀ e ∈ oj.after, Region.binds md e = true → e.on ≠ i := fun e he hb heq => by
        have h1 := hall e he hb
        have h0 := (mem_ready.1 hr).1
        rw [heq] at h1
        rcases Nat.lt_or_ge i listed.size with h' | h'
        · simp [h'] at h0 h1; rw [h0] at h1; cases h1
        · simp [Array.getElem?_eq_none h'] at h1
      have hjl : j < last := by
        refine Decidable.byContradiction fun hjl => ?_
        have hw := List.all_eq_true.1 hwait j (List.mem_range.2 (Array.getElem?_eq_some_iff.1 hoj).1)
        rw [decide_eq_false hjl, Bool.false_or] at hw
        obtain ⟨ol, hol, e, he, hb, heq⟩ := Region.waitsFor_spec hw
        have : ol = oj := Option.some.inj (hol.symm.trans hoj)
        subst this
        exact hnot e he hb heq
      have h2 := wpOp_putIf hoj (hfree j oj hoj hji hjun hnot) (fun cs b => hsel i oi cs b hi) (fun cs b => hsel j oj cs b hoj) hQ hy h1
      have hfree' : ∀ k ok, ops[k]? = some ok → k ≠ i → (listed.setIfInBounds j true).getD k true = false →
          (∀ e ∈ ok.after, Region.binds md e = true → e.on ≠ i) → oi.apart ops ok = true := fun k ok hk hki hun hno => by
        refine hfree k ok hk hki ?_ hno
        by_cases hjk : j = k
        · subst hjk; exact hjun
        · rw [getD_set_ne true hjk] at hun; exact hun
      refine wpOp_mono (fun a' w' h3 => ⟨h3.2.1, ih (listed.setIfInBounds j true) a' w' hfree' (ready_mono hr (Ne.symm hji)) h3.1 (h3.2.1 hjl) ?_⟩) h2
      rw [Array.setIfInBounds_comm _ _ hji]
      exact h3.2.2
theorem wpAnyK_take {i : Nat} {oi : Oper} {v : Value} {fuel : Nat} {listed : Array Bool} {a : Act} {w : World} (hi : ops[i]? = some oi)
    (hs : Region.noSelect ops = true) (hf : Region.free md ops listed i = true) (hr : (Region.ready md ops listed).contains i = true) (hw : waitB md ops last i = true)
    (hQ : ∀ c a w, Q (.panic c) (a.put oi.dst v) w → Q (.panic c) a w) (hy : YieldsIf P ops S oi v a) (hS : S w)
    (h : wpAnyK P md ops Q S last fuel (listed.setIfInBounds i true) (a.put oi.dst v) w) : wpAnyK P md ops Q S last (fuel + 1) listed a w :=
  wpAnyK_first hi (Region.noSelect_spec hs) hQ hw fuel listed a w (Region.free_spec hi hf) (by simpa using hr) hy hS h
theorem wpAnyK_done {listed : Array Bool} {a : Act} {w : World} (hr : Region.ready md ops listed = []) (h : Q .normal a w) :
    ∀ fuel, wpAnyK P md ops Q S last fuel listed a w
  | 0 => ⟨hr, h⟩
  | _ + 1 => ⟨fun _ => h, by rw [hr]; simp⟩
def AllReadyK (P : Program) (md : Region.Mode) (ops : Array Oper) (Q : Exit → Act → World → Prop) (S : World → Prop) (last fuel : Nat) (listed : Array Bool) (a : Act) (w : World) (rs : List Nat) : Prop :=
  ∀ i ∈ rs, wpOp P ops Q i (fun a' w' => (i < last → S w') ∧ wpAnyK P md ops Q S last fuel (listed.setIfInBounds i true) a' w') a w
theorem AllReadyK.nil {fuel : Nat} {listed : Array Bool} {a : Act} {w : World} : AllReadyK P md ops Q S last fuel listed a w [] := fun _ h => by cases h
theorem AllReadyK.cons {fuel : Nat} {listed : Array Bool} {a : Act} {w : World} {i : Nat} {o : Oper} {rs : List Nat} (ho : ops[i]? = some o)
    (h : ∀ K' : Act → World → Prop, Shut (∀ a w, S w → (S w → wpAnyK P md ops Q S last fuel (listed.setIfInBounds i true) a w) → K' a w) → if Region.wanted o (yielded ops a.tmps) = true then Oper.wp P o a w K' Q else K' (a.put o.dst undef) w)
    (hs : AllReadyK P md ops Q S last fuel listed a w rs) : AllReadyK P md ops Q S last fuel listed a w (i :: rs) := fun j hj => by
  rcases List.mem_cons.1 hj with rfl | hj
  · exact wpOp_step ho (fun K' hK => h K' (fun a w hS hW => hK a w ⟨fun _ => hS, hW hS⟩))
  · exact hs j hj
/-- the last one: S is asked no more -/
theorem AllReadyK.fin {fuel : Nat} {listed : Array Bool} {a : Act} {w : World} {i : Nat} {o : Oper} {rs : List Nat} (hl : last ≤ i) (ho : ops[i]? = some o)
    (h : ∀ K' : Act → World → Prop, Shut (∀ a w, wpAnyK P md ops Q S last fuel (listed.setIfInBounds i true) a w → K' a w) → if Region.wanted o (yielded ops a.tmps) = true then Oper.wp P o a w K' Q else K' (a.put o.dst undef) w)
    (hs : AllReadyK P md ops Q S last fuel listed a w rs) : AllReadyK P md ops Q S last fuel listed a w (i :: rs) := fun j hj => by
  rcases List.mem_cons.1 hj with rfl | hj
  · exact wpOp_step ho (fun K' hK => h K' (fun a w hW => hK a w ⟨fun he => absurd hl (Nat.not_le.2 he), hW⟩))
  · exact hs j hj
theorem wpAnyK_ready {rs : List Nat} {fuel : Nat} {listed : Array Bool} {a : Act} {w : World} (hr : Region.ready md ops listed = rs) (hne : rs ≠ [])
    (h : AllReadyK P md ops Q S last fuel listed a w rs) : wpAnyK P md ops Q S last (fuel + 1) listed a w := ⟨fun h0 => absurd (hr ▸ h0) hne, hr ▸ h⟩
theorem wp_region_K {id : Nat} {a : Act} {w : World} (last : Nat) (hm : P.follows .mixedOrders = true) (hS : S w.drew)
    (h : S w.drew → wpAnyK P .any ops Q S last ops.size (Array.replicate ops.size false) a w.drew) : (Code.region id ops true).wp P Q a w :=
  wp_region_any hm (wpAny_of_K _ _ _ _ (h hS))
end
end Go.Proofs.YtpchigdhnnkpcaaGreatDoor
