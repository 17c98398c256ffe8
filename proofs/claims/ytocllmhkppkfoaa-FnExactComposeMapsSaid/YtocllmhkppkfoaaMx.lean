/- the reference's l01Parity, l03Front, l01Put (into nothing), l01Sum -/
import Derived.Test.YtocllmhkppkfoaaMv
import Derived.Test.YtocllmhkppkfoaaLw2
import Derived.Test.YtocllmhkppkfoaaAp
namespace Go.Proofs.Ytocllmhkppkfoaa
open Go.RowKit

/-- new rows of rows -/
def ResRows (Q : List (List Int)) (w : World) (e : Ending) (w' : World) : Prop := ∃ v M, e = .returned v ∧ dat M = Q ∧ OwnR w' w.heap.size v M ∧ Below w.heap.size w w'
def parV (n k : Nat) : Int := if an n k = k then 1 else 0
set_option maxHeartbeats 1000000 in
theorem l01Parity_any (n k : Nat) (w : World) (hn : n ≤ 1000) (hk : k ≤ 1000) :
    Calls Try.prog 116 #[.int .i64 n, .int .i64 k] w fun e w' => e = .returned (.int .i64 (parV n k)) ∧ w = w' := by
  have hb := i64_and_nat (a := n) (b := k) (by unfold Sm; omega) (by unfold Sm; omega)
  have h0 : ¬ (k : Int) < 0 := by omega
  by_cases hlt : n < k
  · have HF : Hid (parV n k = 0) := Lib.hid (by
      unfold parV; rw [if_neg]
      intro e
      have : an n k ≤ n := Nat.and_le_left
      omega)
    clear hb
    go_enter Try.func116, Try.ntmps116
    go_wp2_with fail
    go_ret
    exact ⟨by rw [HF.out]; rfl, rfl⟩
  · have hlt' : ¬ (n : Int) < (k : Int) := by omega
    by_cases he : an n k = k
    · have HF : Hid (parV n k = 1) := Lib.hid (by unfold parV; rw [if_pos he])
      rw [he] at hb
      go_enter Try.func116, Try.ntmps116
      go_wp2_with fail
      go_ret
      exact ⟨by rw [HF.out]; rfl, rfl⟩
    · have HF : Hid (parV n k = 0) := Lib.hid (by unfold parV; rw [if_neg he])
      have hnb : (((an n k : Nat) : Int) != (k : Int)) = true := by simp; omega
      generalize an n k = m at *
      go_enter Try.func116, Try.ntmps116
      go_wp2_with fail
      go_ret
      exact ⟨by rw [HF.out]; rfl, rfl⟩

def frontL (i : Int) (ws : List Int) : List Int := if i = 0 then ws else i :: ws
theorem one_int (w : World) (x : Int) : (w.alloc (.cells #[.int .i64 x] 2)).ownsRow w.heap.size 2 1 (.slice (some ⟨w.heap.size, 0, none⟩) 1 1) 1 [.int .i64 x] :=
  ⟨by simp, .inr ⟨w.heap.size, 1, _, rfl, Nat.le_refl _, blk_new w _, Nat.le_refl _, by decide, by simp, by simp⟩⟩
set_option maxHeartbeats 1000000 in
theorem l03Front_any (i : Int) (A : Option Addr) (n c : Nat) (ws : List Int) (w : World) (hn : n = ws.length) (hsm : n ≤ 1000000) (hR : Rd w A (iv ws)) :
    Calls Try.prog 115 #[.int .i64 i, .slice A n c] w fun e w' => ∃ g k cap, e = .returned (.slice (some ⟨g, 0, none⟩) k cap) ∧ Hid (k = (frontL i ws).length) ∧ w'.ownsRow w.heap.size 2 1 (.slice (some ⟨g, 0, none⟩) k cap) k (iv (frontL i ws)) ∧ Below w.heap.size w w' := by
  by_cases h0 : i = 0
  · subst h0
    have HE : Hid (frontL 0 ws = ws) := Lib.hid (by unfold frontL; rw [if_pos rfl])
    have HC := Lib.hid (l01Own_any A n c (iv ws) w (by rw [iv_length]; exact hn) (by omega) (iv_one _) hR)
    have Hn := Lib.hid hn
    clear hR hn
    go_enter Try.func115, Try.ntmps115
    go_wp2_with fail
    refine HC.out.mono ?_
    rintro e w1 ⟨g, cap, rfl, ho, hb⟩
    have HO := Lib.hid ho
    have HB := Lib.hid hb
    clear ho hb
    go_wp2_with fail
    go_ret
    exact ⟨g, n, cap, rfl, Lib.hid (by rw [HE.out]; exact Hn.out), by rw [HE.out]; exact HO.out, HB.out⟩
  · have h0b : (i == 0) = false := by simpa using h0
    have HE : Hid (frontL i ws = i :: ws) := Lib.hid (by unfold frontL; rw [if_neg h0])
    have HR := Lib.hid hR
    have Hn := Lib.hid hn
    have Hn' : Hid (n = (iv ws).length) := Lib.hid (by rw [iv_length]; exact hn)
    clear hR hn h0
    go_enter Try.func115, Try.ntmps115
    go_wp2_with (at_builtin; refine wpList_appR _ _ _ _ _ etI (by rfl) (by rfl) w.heap.size (.slice (some ⟨w.heap.size, 0, none⟩) 1 1) 1 [.int .i64 i] (by rfl) ?_ A n c (iv ws) (by rfl) Hn'.out ?_ (iv_one _) ?_ ?_ ?_; exact one_int w i; exact HR.out.alloc _; omega; (simp); (intro v' w' hown hg hat; have HO := Lib.hid hown; have HG := Lib.hid hg; have HA := Lib.hid hat; clear hown hg hat))
    go_ret
    have ho := HO.out
    have hb : Below w.heap.size w w' := ((Below.refl _ _).alloc (Nat.le_refl _) _).grown HG.out (by simp) (fun k hk => by simp [Value.ownBlock] at hk; omega)
    rcases ho.2 with ⟨rfl, _⟩ | ⟨g, cap, cur, rfl, _⟩
    · rcases HA.out with h | h <;> simp [Value.ownBlock] at h
    · exact ⟨g, 1 + n, cap, rfl, Lib.hid (by rw [HE.out, Hn.out]; simp; omega), by rw [HE.out]; exact ho, hb⟩

/-- one row in a new block -/
theorem row_cell (w : World) {B : Nat} (u : Value) (hB : B ≤ w.heap.size) : (w.alloc (.cells #[u] 24)).drew.ownsRow B 24 1 (.slice (some ⟨w.heap.size, 0, none⟩) 1 1) 1 [u] :=
  ⟨by simp, .inr ⟨w.heap.size, 1, _, rfl, hB, blk_new w _, Nat.le_refl _, by decide, by simp, by simp⟩⟩
theorem OwnR.one {w : World} {B : Nat} {v : Value} {r : Row} (ho : w.ownsRow B 24 1 v 1 [r.val]) (hr : w.ownsRow B 2 1 r.val r.xs.length (iv r.xs)) : OwnR w B v [r] := by
  refine ⟨ho, ?_, ?_⟩
  · intro i hi
    obtain rfl : i = 0 := by simp at hi; omega
    exact hr
  · intro i j hi hj hne
    simp at hi hj
    omega
theorem slice_one {A : Option Addr} {n c : Nat} : ∀ u ∈ [Value.slice A n c], u.oneCell' = true := by
  intro u hu
  rw [List.mem_singleton] at hu
  subst hu; rfl
theorem put_apart {w : World} {B n k : Nat} {e : TypeId} {v : Value} {xs : List Value} (h : w.ownsRow B e 1 v n xs) : v.ownBlock = none ∨ v.ownBlock ∉ [(Value.slice (some ⟨w.heap.size, 0, none⟩) k k).ownBlock] := by
  cases hv : v.ownBlock with
  | none => exact .inl rfl
  | some b =>
    have := (h.lt b hv).2
    refine .inr ?_
    simp only [Value.ownBlock, List.mem_singleton, Option.some.injEq]
    omega
set_option maxRecDepth 100000 in
set_option maxHeartbeats 2000000 in
theorem l01PutNil_any (gl : Nat) (A : Option Addr) (n c : Nat) (ws : List Int) (w : World) (hn : n = ws.length) (hsm : n ≤ 1000000) (hR : Rd w A (iv ws)) :
    Calls Try.prog 114 #[.slice (some ⟨gl, 0, none⟩) 0 0, .slice A n c] w (ResRows [ws] w) := by
  have HC := Lib.hid (fun W (hb : Below w.heap.size w W) => l01Own_any A n c (iv ws) W (by rw [iv_length]; exact hn) (by omega) (iv_one _) (hR.below hb))
  have Hn := Lib.hid hn
  clear hR hn
  go_enter Try.func114, Try.ntmps114
  go_wp2_with fail
  go_loop [5] (fun i => i = .int .i64 0) (fun _ => 0)
  case atStart => rfl
  case round =>
    subst hrel
    go_wp2_with fail
    go_region_held3 (fun w' => True)
      (first | trivial)
      (first
        | (go_at_call 88; (with_reducible refine (HC.out _ (Below.refl _ _).drew).mono ?_); (rintro e w1 ⟨g, cap, rfl, ho, hb⟩; have HO := Lib.hid ho; have HB := Lib.hid hb; clear ho hb))
        | (refine step_appR _ _ _ _ _ etS (by rfl) (by rfl) w.heap.size (.slice (some ⟨w1.heap.size, 0, none⟩) 1 1) 1 [.slice (some ⟨g, 0, none⟩) n cap] (by rfl) ?_ (some ⟨gl, 0, none⟩) 0 0 [] (by rfl) (by rfl) (.inl rfl) ?_ ?_ ?_ ?_; exact row_cell w1 _ HB.out.size; (simp); omega; (have := HB.out.size; simp at this ⊢; omega); (intro v' w2 hown hg hat; have HO2 := Lib.hid hown; have HG2 := Lib.hid hg; clear hown hg hat)))
    have hsz := HB.out.size
    have hr2 : w2.ownsRow w.heap.size 2 1 (.slice (some ⟨g, 0, none⟩) n cap) n (iv ws) := by
      refine owns_keeps (HO.out.alloc (.cells #[.slice (some ⟨g, 0, none⟩) n cap] 24)) (Keeps.of_grown HG2.out) (.inr ?_)
      have := (HO.out.lt g rfl).2
      simp only [Value.ownBlock, List.mem_singleton, Option.some.injEq]
      simp at this ⊢; omega
    have ho2 := HO2.out
    rw [Nat.add_zero, List.append_nil] at ho2
    obtain ⟨A1, c1, rfl, hc1, himp, heq⟩ := owns_shape ho2
    obtain ⟨g1, rfl, hg1, hg1'⟩ := himp (by omega)
    clear himp heq
    have HR2 := Lib.hid hr2
    have HO3 := Lib.hid ho2
    have HB2 : Hid (Below w.heap.size w w2) := Lib.hid (((((Below.refl w.heap.size w).drew).trans (HB.out.mono (by simp))).alloc (by simp at hsz ⊢; omega) _).grown HG2.out (by simp at hsz ⊢; omega) (fun k hk => by simp [Value.ownBlock] at hk; simp at hsz; omega))
    have hsz2 := HB2.out.size
    clear hr2 ho2 HO2 HG2
    go_wp2_with (first
      | (at_builtin; refine wpList_appR _ _ _ _ _ etS (by rfl) (by rfl) w.heap.size (.slice (some ⟨w2.heap.size, 0, none⟩) 0 0) 0 [] (by rfl) ?_ (some ⟨gl, 0, none⟩) 0 0 [] (by rfl) (by rfl) (.inl rfl) ?_ ?_ ?_ ?_; exact World.ownsRow_made w2 #[] 0 hsz2 (by decide) (by simp); (simp); omega; (simp; omega); (intro v3 w3 hown hg hat; have HO5 := Lib.hid hown; have HG5 := Lib.hid hg; clear hown hg hat))
      | (at_builtin; refine wpList_appR _ _ _ _ _ etS (by rfl) (by rfl) w.heap.size v3 0 [] (by rfl) HO5.out (some ⟨g1, 0, none⟩) 1 c1 [.slice (some ⟨g, 0, none⟩) n cap] (by rfl) (by rfl) (owns_Rd (owns_keeps (HO3.out.alloc (.cells #[] 24)) (Keeps.of_grown HG5.out) (put_apart HO3.out))) slice_one (by decide) (Nat.le_trans hsz2 (Nat.le_trans (Nat.le_of_lt (by simp)) HG5.out.size)) ?_; (intro v4 w4 hown hg hat; have HO6 := Lib.hid hown; have HG6 := Lib.hid hg; have HA6 := Lib.hid hat; clear hown hg hat)))
    go_ret
    have r3 := owns_keeps (HR2.out.alloc (.cells #[] 24)) (Keeps.of_grown HG5.out) (put_apart HR2.out)
    have r4 := owns_keeps r3 (Keeps.of_grown HG6.out) (by have := own_ne2 r3 HO5.out (by decide); simpa using this)
    have b3 : Below w.heap.size w w3 := (HB2.out.alloc hsz2 _).grown HG5.out (by simp; omega) (fun k hk => by simp [Value.ownBlock] at hk; omega)
    have b4 : Below w.heap.size w w4 := b3.grown HG6.out b3.size (fun k hk => (HO5.out.lt k hk).1)
    refine ⟨v4, [⟨some ⟨g, 0, none⟩, cap, ws⟩], rfl, rfl, OwnR.one ?_ ?_, b4⟩
    · simp only [Row.val]; rw [← Hn.out]; exact HO6.out
    · simp only [Row.val]; rw [← Hn.out]; exact r4

/-- the sum of two lists in order -/
def sumR : List (List Int) → List (List Int) → List (List Int)
  | [], b => b
  | x :: a, [] => x :: a
  | x :: a, y :: b => if lexLt x y = true then x :: sumR a (y :: b) else if lexLt y x = true then y :: sumR (x :: a) b else sumR a b
termination_by a b => a.length + b.length
theorem sumR_nil (a : List (List Int)) : sumR a [] = a := by cases a <;> rw [sumR]
theorem drop_cons {Q : List (List Int)} {i : Nat} (h : i < Q.length) : Q.drop i = Q.getD i [] :: Q.drop (i + 1) := by
  rw [List.drop_eq_getElem_cons h]; simp only [List.getD, List.getElem?_eq_getElem h, Option.getD_some]
/-- the sum so far, i and k of the rows being taken -/
def SumAt (P Q R : List (List Int)) (i k : Nat) : Prop := i ≤ P.length ∧ k ≤ Q.length ∧ R ++ sumR (P.drop i) (Q.drop k) = sumR P Q
theorem SumAt.start (P Q : List (List Int)) : SumAt P Q [] 0 0 := ⟨Nat.zero_le _, Nat.zero_le _, rfl⟩
theorem SumAt.left {P Q R : List (List Int)} {i k : Nat} (h : SumAt P Q R i k) (hi : i < P.length) (hc : Q.length ≤ k ∨ lexLt (P.getD i []) (Q.getD k []) = true) : SumAt P Q (R ++ [P.getD i []]) (i + 1) k := by
  refine ⟨hi, h.2.1, ?_⟩
  rw [← h.2.2, drop_cons hi, List.append_assoc]
  congr 1
  rcases Nat.lt_or_ge k Q.length with hk | hk
  · rw [drop_cons hk, sumR]
    rw [if_pos (by rcases hc with hc | hc; omega; exact hc)]
    rfl
  · rw [List.drop_of_length_le hk, sumR_nil, sumR_nil]; rfl
theorem SumAt.right {P Q R : List (List Int)} {i k : Nat} (h : SumAt P Q R i k) (hk : k < Q.length) (hc : P.length ≤ i ∨ lexLt (P.getD i []) (Q.getD k []) = false ∧ lexLt (Q.getD k []) (P.getD i []) = true) : SumAt P Q (R ++ [Q.getD k []]) i (k + 1) := by
  refine ⟨h.1, hk, ?_⟩
  rw [← h.2.2, drop_cons hk, List.append_assoc]
  congr 1
  rcases Nat.lt_or_ge i P.length with hi | hi
  · rw [drop_cons hi]
    rcases hc with hc | hc
    · omega
    · conv => rhs; rw [sumR, if_neg (by rw [hc.1]; simp), if_pos hc.2]
      rfl
  · rw [List.drop_of_length_le hi]; simp [sumR]
theorem SumAt.both {P Q R : List (List Int)} {i k : Nat} (h : SumAt P Q R i k) (hi : i < P.length) (hk : k < Q.length) (h1 : lexLt (P.getD i []) (Q.getD k []) = false) (h2 : lexLt (Q.getD k []) (P.getD i []) = false) : SumAt P Q R (i + 1) (k + 1) := by
  refine ⟨hi, hk, ?_⟩
  rw [← h.2.2, drop_cons hi, drop_cons hk]
  conv => rhs; rw [sumR, if_neg (by rw [h1]; simp), if_neg (by rw [h2]; simp)]
theorem SumAt.done {P Q R : List (List Int)} {i k : Nat} (h : SumAt P Q R i k) (hi : P.length ≤ i) (hk : Q.length ≤ k) : R = sumR P Q := by
  have := h.2.2
  rw [List.drop_of_length_le hi, List.drop_of_length_le hk] at this
  simpa [sumR] using this
end Go.Proofs.Ytocllmhkppkfoaa
