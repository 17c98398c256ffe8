/- plain: products of Milnor's basis elements, by tables; those of a square in front · apart, sum: both sides · the program's tables: what they hold; the closure that reads a place · the program's tables: their memory · the reference's TopElement · the program's TopElement -/
import Derived.Test.YtdkmdmpaflgfaaaGreatDoorBxac
import Derived.Test.YtdkmdmpaflgfaaaGreatDoorBxab
import Derived.Test.YtdkmdmpaflgfaaaGreatDoorBxaa
set_option linter.all false
namespace Go.Proofs.YtdkmdmpaflgfaaaGreatDoor

/-! ### the tables -/
def entT (r s : List Int) (C : LL) (i j : Nat) : Int :=
  if i = 0 then (if j = 0 then 0 else s.getD (j - 1) 0) else if j = 0 then r.getD (i - 1) 0 else (C.getD (i - 1) []).getD (j - 1) 0
/-- the k-th diagonal -/
def diagT (r s : List Int) (C : LL) (k : Nat) : List Int := (List.range (k + 1)).map fun i => entT r s C i (k - i)
def apN (seen : Nat) : List Int → Bool
  | [] => true
  | x :: l => if an seen x.toNat = 0 then apN (orr seen x.toNat) l else false
def okT (r s : List Int) (C : LL) : Bool := (List.range (r.length + s.length)).all fun k => apN 0 (diagT r s C (k + 1))
def totT (r s : List Int) (C : LL) : List Int := (List.range (r.length + s.length)).map fun k => (diagT r s C (k + 1)).sum
def resT (r s : List Int) (C : LL) : LL := if okT r s C = true then [trimL (totT r s C)] else []
/-- the numbers that a cell can hold -/
def mostT (r s : List Int) (i j : Nat) : Nat := (min (r.getD i 0 / 2 ^ (j + 1)) (s.getD j 0)).toNat
/-- all results of tables, q cells being left to fill -/
def fillE : Nat → List Int → List Int → LL → LL
  | 0, r, s, C => resT r s C
  | q + 1, r, s, C =>
    let p := r.length * s.length - (q + 1)
    let i := p / s.length
    let j := p % s.length
    (List.range (mostT r s i j + 1)).flatMap fun (x : Nat) => fillE q (r.set i (r.getD i 0 - 2 ^ (j + 1) * x)) (s.set j (s.getD j 0 - x)) (C.set i ((C.getD i []).set j (x : Int)))
def zeroT (r s : List Int) : LL := List.replicate r.length (List.replicate s.length 0)
def prodE (r s : List Int) : LL := fillE (r.length * s.length) r s (zeroT r s)
/-- the product of elements -/
def mulE (A B : LL) : LL := nf (A.flatMap fun r => B.flatMap fun s => prodE r s)
/-- the element of a word -/
def wordE : List Int → LL
  | [] => [[]]
  | a :: w => mulE [[a]] (wordE w)

/-! ### one square in front -/
def enumT : List Int → Int → Nat → LL
  | [], _, _ => [[]]
  | s0 :: s, a, j => (List.range ((min (a / 2 ^ (j + 1)) s0).toNat + 1)).flatMap fun (x : Nat) => (enumT s (a - 2 ^ (j + 1) * x) (j + 1)).map ((x : Int) :: ·)
def wX : Nat → List Int → Int
  | _, [] => 0
  | j, x :: X => 2 ^ (j + 1) * x + wX (j + 1) X
def subT : List Int → List Int → List Int
  | s0 :: s, x :: X => (s0 - x) :: subT s X
  | s, _ => s
def finT (a : Int) (s X : List Int) : LL := resT [a - wX 0 X] (subT s X) [X]
theorem enumT_len : ∀ (s : List Int) (a : Int) (j : Nat) (X : List Int), X ∈ enumT s a j → X.length = s.length
  | [], a, j, X, h => by simp [enumT] at h; subst h; rfl
  | s0 :: s, a, j, X, h => by
    simp only [enumT, List.mem_flatMap, List.mem_map] at h
    obtain ⟨x, _, Y, hY, rfl⟩ := h
    simp [enumT_len s _ _ Y hY]
theorem subT_len : ∀ (s X : List Int), (subT s X).length = s.length
  | [], [] => rfl
  | [], _ :: _ => rfl
  | _ :: _, [] => rfl
  | s0 :: s, x :: X => by simp [subT, subT_len s X]
theorem set_split {α : Type} (D : List α) (y z : α) (T : List α) : (D ++ y :: T).set D.length z = D ++ z :: T := by
  rw [List.set_append_right _ _ (Nat.le_refl _)]; simp
theorem getD_split {α : Type} (D : List α) (y d : α) (T : List α) : (D ++ y :: T).getD D.length d = y := by
  simp [List.getD]
theorem flatMap_congr' {α β : Type} {L : List α} {f g : α → List β} (h : ∀ x ∈ L, f x = g x) : L.flatMap f = L.flatMap g := by
  induction L with
  | nil => rfl
  | cons x L ih => rw [List.flatMap_cons, List.flatMap_cons, h x (List.mem_cons_self ..), ih fun y hy => h y (List.mem_cons_of_mem _ hy)]
theorem fill_one : ∀ (s : List Int) (a : Int) (D E : List Int), D.length = E.length →
    fillE s.length [a] (D ++ s) [E ++ List.replicate s.length 0] = (enumT s a D.length).flatMap fun X => resT [a - wX D.length X] (D ++ subT s X) [E ++ X]
  | [], a, D, E, _ => by simp [fillE, enumT, wX, subT]
  | s0 :: s, a, D, E, hl => by
    simp only [List.length_cons, fillE, List.length_append, List.length_nil, Nat.zero_add, Nat.one_mul]
    have hp : D.length + (s.length + 1) - (s.length + 1) = D.length := by omega
    have hd : D.length / (D.length + (s.length + 1)) = 0 := Nat.div_eq_of_lt (by omega)
    have hm : D.length % (D.length + (s.length + 1)) = D.length := Nat.mod_eq_of_lt (by omega)
    rw [hp, hd, hm]
    have e1 : mostT [a] (D ++ s0 :: s) 0 D.length = (min (a / 2 ^ (D.length + 1)) s0).toNat := by unfold mostT; rw [getD_split]; rfl
    rw [e1, enumT, List.flatMap_assoc]
    refine flatMap_congr' fun x _ => ?_
    rw [set_split, getD_split]
    have e2 : ([E ++ List.replicate (s.length + 1) (0 : Int)] : LL).getD 0 [] = E ++ List.replicate (s.length + 1) 0 := rfl
    rw [e2, List.replicate_succ, show ([a] : List Int).set 0 (([a] : List Int).getD 0 0 - 2 ^ (D.length + 1) * (x : Int)) = [a - 2 ^ (D.length + 1) * x] from rfl]
    rw [show (E ++ 0 :: List.replicate s.length (0 : Int)).set D.length (x : Int) = E ++ (x : Int) :: List.replicate s.length 0 from by rw [hl]; exact set_split _ _ _ _]
    rw [show ([E ++ 0 :: List.replicate s.length (0 : Int)] : LL).set 0 (E ++ (x : Int) :: List.replicate s.length 0) = [E ++ (x : Int) :: List.replicate s.length 0] from rfl]
    have ih := fill_one s (a - 2 ^ (D.length + 1) * x) (D ++ [s0 - x]) (E ++ [(x : Int)]) (by simp [hl])
    simp only [List.append_assoc, List.singleton_append, List.length_append, List.length_singleton] at ih
    rw [ih, List.flatMap_map]
    refine flatMap_congr' fun X _ => ?_
    show _ = resT [a - wX D.length ((x : Int) :: X)] (D ++ subT (s0 :: s) ((x : Int) :: X)) [E ++ (x : Int) :: X]
    simp only [wX, subT]
    rw [Int.sub_sub]
theorem prodE_one (a : Int) (s : List Int) : prodE [a] s = (enumT s a 0).flatMap fun X => finT a s X := by
  have := fill_one s a [] [] rfl
  simp only [List.nil_append, List.length_nil] at this
  unfold prodE zeroT finT
  simpa using this
theorem enumT_nodup : ∀ (s : List Int) (a : Int) (j : Nat), (enumT s a j).Nodup
  | [], _, _ => by simp [enumT]
  | s0 :: s, a, j => by
    unfold enumT List.Nodup
    rw [List.pairwise_flatMap]
    refine ⟨fun x _ => ?_, ?_⟩
    · rw [List.pairwise_map]
      exact (enumT_nodup s _ _).imp fun h e => h (by injection e)
    · refine List.nodup_range.imp fun h => ?_
      intro Y hY Z hZ e
      simp only [List.mem_map] at hY hZ
      obtain ⟨Y', _, rfl⟩ := hY
      obtain ⟨Z', _, rfl⟩ := hZ
      injection e with e _
      exact h (by omega)
/-- cell by cell at most what is there, and in all at most a -/
def LeT : List Int → List Int → Prop
  | [], [] => True
  | s0 :: s, x :: X => 0 ≤ x ∧ x ≤ s0 ∧ LeT s X
  | _, _ => False
theorem enumT_le : ∀ (s : List Int) (a : Int) (j : Nat) (X : List Int), (∀ y ∈ s, 0 ≤ y) → 0 ≤ a → X ∈ enumT s a j → LeT s X ∧ wX j X ≤ a
  | [], a, j, X, _, ha, h => by simp [enumT] at h; subst h; exact ⟨trivial, by simpa [wX] using ha⟩
  | s0 :: s, a, j, X, hs, ha, h => by
    simp only [enumT, List.mem_flatMap, List.mem_map, List.mem_range] at h
    obtain ⟨x, hx, Y, hY, rfl⟩ := h
    have hs0 := hs s0 (List.mem_cons_self ..)
    have hp : (0 : Int) < 2 ^ (j + 1) := Int.pow_pos (by omega)
    have hq : 0 ≤ a / 2 ^ (j + 1) := Int.ediv_nonneg ha (by omega)
    have hxa : (x : Int) ≤ a / 2 ^ (j + 1) := by omega
    have hmul : 2 ^ (j + 1) * (x : Int) ≤ a := by
      have h1 := Int.mul_le_mul_of_nonneg_left hxa (Int.le_of_lt hp)
      have h2 := Int.mul_ediv_self_le (x := a) (k := 2 ^ (j + 1)) (by omega)
      omega
    obtain ⟨h1, h2⟩ := enumT_le s (a - 2 ^ (j + 1) * x) (j + 1) Y (fun y hy => hs y (List.mem_cons_of_mem _ hy)) (by omega) hY
    exact ⟨⟨by omega, by omega, h1⟩, by simp only [wX]; omega⟩
theorem enumT_has : ∀ (s : List Int) (a : Int) (j : Nat), (∀ y ∈ s, 0 ≤ y) → wX j s ≤ a → s ∈ enumT s a j
  | [], _, _, _, _ => by simp [enumT]
  | s0 :: s, a, j, hs, ha => by
    have hs0 := hs s0 (List.mem_cons_self ..)
    have hp : (0 : Int) < 2 ^ (j + 1) := Int.pow_pos (by omega)
    have hw : ∀ (j : Nat) (t : List Int), (∀ y ∈ t, 0 ≤ y) → 0 ≤ wX j t := by
      intro j t
      induction t generalizing j with
      | nil => intro _; simp [wX]
      | cons y t ih =>
        intro ht
        have := ih (j + 1) fun z hz => ht z (List.mem_cons_of_mem _ hz)
        have hp2 : (0 : Int) < 2 ^ (j + 1) := Int.pow_pos (by omega)
        have h2 := Int.mul_nonneg (Int.le_of_lt hp2) (ht y (List.mem_cons_self ..))
        simp only [wX]; omega
    have hs' : ∀ y ∈ s, 0 ≤ y := fun y hy => hs y (List.mem_cons_of_mem _ hy)
    have h0 := hw (j + 1) s hs'
    simp only [wX] at ha
    have hle : s0 ≤ a / 2 ^ (j + 1) := Int.le_ediv_of_mul_le hp (by rw [Int.mul_comm]; omega)
    obtain ⟨n, rfl⟩ := Int.eq_ofNat_of_zero_le hs0
    simp only [enumT, List.mem_flatMap, List.mem_map, List.mem_range]
    exact ⟨n, by omega, s, enumT_has s _ _ hs' (by omega), rfl⟩
/-! ### what a table of one row gives -/
def tot1 : Int → List Int → List Int → List Int
  | c, s0 :: s, x :: X => (s0 - x + c) :: tot1 x s X
  | c, _, _ => [c]
theorem getD_nil' (k : Nat) : ([] : List Int).getD k 0 = 0 := by simp [List.getD]
theorem range_split {k n : Nat} (h : k ≤ n) (f : Nat → Int) : ((List.range n).map f) = (List.range k).map f ++ (List.range (n - k)).map fun i => f (k + i) := by
  obtain ⟨m, rfl⟩ : ∃ m, n = k + m := ⟨n - k, by omega⟩
  rw [Nat.add_sub_cancel_left, List.range_add, List.map_append, List.map_map]; rfl
theorem diag_one (a : Int) (s X : List Int) (k : Nat) : diagT [a] s [X] (k + 1) = s.getD k 0 :: (if k = 0 then a else X.getD (k - 1) 0) :: List.replicate k 0 := by
  unfold diagT
  rw [range_split (k := 2) (by omega) (fun i => entT [a] s [X] i (k + 1 - i))]
  have h2 : ((List.range (k + 1 + 1 - 2)).map fun i => entT [a] s [X] (2 + i) (k + 1 - (2 + i))) = List.replicate k 0 := by
    apply List.ext_getElem
    · simp
    · intro i h1 _
      simp only [List.getElem_map, List.getElem_range, List.getElem_replicate]
      unfold entT
      rw [if_neg (by omega)]
      split
      · simp [List.getD]
      · rw [show ([X] : LL).getD (2 + i - 1) [] = [] from by simp [List.getD]]; simp [List.getD]
  rw [h2]
  show [entT [a] s [X] 0 (k + 1), entT [a] s [X] 1 (k + 1 - 1)] ++ _ = _
  have h3 : entT [a] s [X] 0 (k + 1) = s.getD k 0 := by unfold entT; simp
  have h4 : entT [a] s [X] 1 (k + 1 - 1) = if k = 0 then a else X.getD (k - 1) 0 := by
    unfold entT
    rw [if_neg (by omega), Nat.add_sub_cancel]
    by_cases h : k = 0
    · subst h; simp
    · rw [if_neg h, if_neg h]; rfl
  rw [h3, h4]; rfl
theorem sum_rep (k : Nat) : (List.replicate k (0 : Int)).sum = 0 := by
  induction k with
  | zero => rfl
  | succ k ih => rw [List.replicate_succ, List.sum_cons, ih]; rfl
theorem tot1_getD : ∀ (c : Int) (s X : List Int), X.length = s.length → ∀ k, (tot1 c s X).getD k 0 = (subT s X).getD k 0 + (if k = 0 then c else X.getD (k - 1) 0)
  | c, [], [], _, k => by
    cases k with
    | zero => simp [tot1, subT]
    | succ k => simp [tot1, subT]
  | c, s0 :: s, x :: X, h, k => by
    cases k with
    | zero => simp [tot1, subT]
    | succ k =>
      have ih := tot1_getD x s X (by simpa using h) k
      simp only [tot1, subT, List.getD_cons_succ]
      rw [ih]
      cases k with
      | zero => simp
      | succ k => simp
theorem tot1_len : ∀ (c : Int) (s X : List Int), X.length = s.length → (tot1 c s X).length = s.length + 1
  | c, [], [], _ => rfl
  | c, s0 :: s, x :: X, h => by simp [tot1, tot1_len x s X (by simpa using h)]
theorem getD_eq_getElem' {L : List Int} {k : Nat} (h : k < L.length) : L.getD k 0 = L[k] := by simp [List.getD, h]
theorem tot_one (a : Int) (s X : List Int) (h : X.length = s.length) : totT [a] (subT s X) [X] = tot1 a s X := by
  apply List.ext_getElem
  · simp [totT, subT_len, tot1_len a s X h, Nat.add_comm]
  · intro k h1 h2
    rw [← getD_eq_getElem' h2, tot1_getD a s X h k]
    simp only [totT, List.getElem_map, List.getElem_range]
    rw [diag_one, List.sum_cons, List.sum_cons, sum_rep, Int.add_zero]
theorem apN_zeros (n k : Nat) : apN n (List.replicate k 0) = true := by
  induction k generalizing n with
  | zero => rfl
  | succ k ih => rw [List.replicate_succ, apN]; simp only [Int.toNat_zero]; rw [if_pos (by simp [an])]; exact ih _
theorem finT_self (a : Int) (s : List Int) : finT a s s = [trimL (tot1 (a - wX 0 s) s s)] := by
  unfold finT resT
  have hz : ∀ (t : List Int) (k : Nat), (subT t t).getD k 0 = 0 := by
    intro t
    induction t with
    | nil => intro k; simp [subT]
    | cons x t ih => intro k; cases k with
      | zero => simp [subT]
      | succ k => simp only [subT, List.getD_cons_succ]; exact ih k
  have hok : okT [a - wX 0 s] (subT s s) [s] = true := by
    unfold okT
    rw [List.all_eq_true]
    intro k _
    rw [diag_one, hz]
    simp only [apN, Int.toNat_zero]
    rw [if_pos (by simp [an]), if_pos (by simp [an, orr])]
    exact apN_zeros _ _
  rw [if_pos hok, tot_one _ _ _ rfl]
theorem finT_mem {a : Int} {s X t : List Int} (hX : X.length = s.length) (h : t ∈ finT a s X) : t = trimL (tot1 (a - wX 0 X) s X) := by
  unfold finT resT at h
  split at h
  · rw [List.mem_singleton] at h; rw [h, tot_one _ _ _ hX]
  · cases h
/-! ### the order from the right as a number -/
def val : List Int → Int
  | [] => 0
  | x :: t => x + 64 * val t
def degW : Nat → List Int → Int
  | _, [] => 0
  | j, x :: t => x * (2 ^ (j + 1) - 1) + degW (j + 1) t
theorem tot1_self_val : ∀ (c : Int) (s : List Int), val (tot1 c s s) = c + 64 * val s
  | c, [] => by simp [tot1, val]
  | c, s0 :: s => by simp only [tot1, val]; rw [tot1_self_val s0 s]; omega
theorem tot1_val : ∀ (c : Int) (s X : List Int), LeT s X → X ≠ s → val (tot1 c s X) < c + 64 * val s
  | c, [], [], _, h => absurd rfl h
  | c, [], _ :: _, h, _ => h.elim
  | c, _ :: _, [], h, _ => h.elim
  | c, s0 :: s, x :: X, hle, hne => by
    obtain ⟨h0, h1, h2⟩ := hle
    simp only [tot1, val]
    by_cases e : X = s
    · subst e
      rw [tot1_self_val]
      have : x ≠ s0 := fun e2 => hne (by rw [e2])
      omega
    · have := tot1_val x s X h2 e
      omega
theorem tot1_tail : ∀ (c : Int) (s X : List Int), LeT s X → X ≠ s → ∃ y t, tot1 c s X = y :: t ∧ val t < val s
  | c, [], [], _, h => absurd rfl h
  | c, [], _ :: _, h, _ => h.elim
  | c, _ :: _, [], h, _ => h.elim
  | c, s0 :: s, x :: X, hle, hne => by
    obtain ⟨h0, h1, h2⟩ := hle
    refine ⟨_, _, rfl, ?_⟩
    simp only [val]
    by_cases e : X = s
    · subst e
      rw [tot1_self_val]
      have : x ≠ s0 := fun e2 => hne (by rw [e2])
      omega
    · have := tot1_val x s X h2 e
      omega
theorem tot1_deg : ∀ (j : Nat) (c : Int) (s X : List Int), X.length = s.length → degW j (tot1 c s X) = c * (2 ^ (j + 1) - 1) + degW j s + wX j X
  | j, c, [], [], _ => by simp [tot1, degW, wX]
  | j, c, s0 :: s, x :: X, h => by
    simp only [tot1, degW, wX]
    rw [tot1_deg (j + 1) x s X (by simpa using h)]
    have h2 : (2 : Int) ^ (j + 1 + 1) = 2 * 2 ^ (j + 1) := by rw [Int.pow_succ]; omega
    rw [h2]
    generalize (2 : Int) ^ (j + 1) = p
    have e1 : (s0 - x + c) * (p - 1) = s0 * p - x * p + c * p - s0 + x - c := by rw [Int.mul_sub, Int.mul_one, Int.add_mul, Int.sub_mul]; omega
    have e2 : x * (2 * p - 1) = 2 * (x * p) - x := by rw [Int.mul_sub, Int.mul_one, Int.mul_left_comm]
    have e3 : c * (p - 1) = c * p - c := by rw [Int.mul_sub, Int.mul_one]
    have e4 : s0 * (p - 1) = s0 * p - s0 := by rw [Int.mul_sub, Int.mul_one]
    have e5 : p * x = x * p := Int.mul_comm _ _
    rw [e1, e2, e3, e4, e5]
    omega
end Go.Proofs.YtdkmdmpaflgfaaaGreatDoor

namespace Go.Proofs.YtdkmdmpaflgfaaaGreatDoor
open Go.RowKit

theorem apN_cons (sn x : Nat) (l : List Int) : apN sn ((x : Int) :: l) = if an sn x = 0 then apN (orr sn x) l else false := by
  conv => lhs; rw [apN]
  rw [Int.toNat_natCast]
theorem drop_getI {xs : List Int} {k : Nat} (h : k < xs.length) : xs.drop k = xs.getD k 0 :: xs.drop (k + 1) := by
  rw [List.drop_eq_getElem_cons h]; simp only [List.getD, List.getElem?_eq_getElem h, Option.getD_some]

attribute [local go_sem] i64_and_nat i64_or_nat in
set_option maxHeartbeats 1000000 in
theorem apart_any (A : Option Addr) (n c : Nat) (xs : List Int) (w : World) (hn : n = xs.length) (hsm : n ≤ 1099511627776) (hb : ∀ x ∈ xs, 0 ≤ x ∧ x < 9223372036854775808) (hR : Rd w A (iv xs)) :
    Calls Tryz.prog 261 #[.slice A n c] w fun e w' => e = .returned (.bool (apN 0 xs)) ∧ w = w' := by
  have HR := Lib.hid hR
  have Hn := Lib.hid hn
  have HB := Lib.hid hb
  clear hR hn hb
  go_enter Tryz.func261, Tryz.ntmps261
  go_wp2_with fail
  go_loop [3, 8] (fun s i => ∃ k sn : Nat, k ≤ n ∧ i = .int .i64 k ∧ s = .int .i64 sn ∧ Sm sn ∧ Hid (apN 0 xs = apN sn (xs.drop k))) (fun _ i => n - (intOf i).toNat)
  case atStart => exact ⟨0, 0, by omega, rfl, rfl, Sm.zero, Lib.hid (by rw [List.drop_zero])⟩
  case round =>
    obtain ⟨k, sn, hk, rfl, rfl, hs, HQ⟩ := hrel
    by_cases hlt : k < n
    · have hkL : k < xs.length := by rw [← Hn.out]; exact hlt
      obtain ⟨b, o, rfl, hc⟩ := HR.out.atI hkL
      have hx := HB.out _ (show xs.getD k 0 ∈ xs from by simp [List.getD, hkL])
      have HD := Lib.hid (drop_getI hkL)
      generalize xs.getD k 0 = z at *
      obtain ⟨x, rfl⟩ := Int.eq_ofNat_of_zero_le hx.1
      have hsx : Sm x := by unfold Sm; omega
      have hso := hs.orr hsx
      have HE : Hid (apN 0 xs = if an sn x = 0 then apN (orr sn x) (xs.drop (k + 1)) else false) := Lib.hid (by rw [HQ.out, HD.out]; exact apN_cons sn x _)
      clear hkL hx
      by_cases h0 : an sn x = 0
      · have h0i : ((an sn x : Nat) : Int) = 0 := by omega
        have h0b : (((an sn x : Nat) : Int) != 0) = false := by simp [h0]
        go_wp2_with fail
        go_round
        case rel => exact ⟨k + 1, orr sn x, by omega, by go_num, rfl, hso, Lib.hid (by rw [HE.out, if_pos h0])⟩
        case measure => simp [intOf]; omega
      · have h0b : (((an sn x : Nat) : Int) != 0) = true := by simp; omega
        have HF : Hid (apN 0 xs = false) := Lib.hid (by rw [HE.out, if_neg h0])
        clear h0
        go_wp2_with fail
        go_ret
        exact ⟨by rw [HF.out]; rfl, rfl⟩
    · have HF : Hid (apN 0 xs = true) := Lib.hid (by rw [HQ.out, List.drop_of_length_le (by rw [← Hn.out]; omega)]; rfl)
      go_wp2_with fail
      go_ret
      exact ⟨by rw [HF.out]; rfl, rfl⟩

attribute [local go_sem] i64_and_nat i64_or_nat in
set_option maxHeartbeats 1000000 in
theorem l01Apart_any (A : Option Addr) (n c : Nat) (xs : List Int) (w : World) (hn : n = xs.length) (hsm : n ≤ 1099511627776) (hb : ∀ x ∈ xs, 0 ≤ x ∧ x < 9223372036854775808) (hR : Rd w A (iv xs)) :
    Calls Tryz.prog 272 #[.slice A n c] w fun e w' => e = .returned (.bool (apN 0 xs)) ∧ w = w' := by
  have HR := Lib.hid hR
  have Hn := Lib.hid hn
  have HB := Lib.hid hb
  clear hR hn hb
  go_enter Tryz.func272, Tryz.ntmps272
  go_wp2_with fail
  go_loop [3, 4] (fun s i => ∃ k sn : Nat, k ≤ n ∧ i = .int .i64 k ∧ s = .int .i64 sn ∧ Sm sn ∧ Hid (apN 0 xs = apN sn (xs.drop k))) (fun _ i => n - (intOf i).toNat)
  case atStart => exact ⟨0, 0, by omega, rfl, rfl, Sm.zero, Lib.hid (by rw [List.drop_zero])⟩
  case round =>
    obtain ⟨k, sn, hk, rfl, rfl, hs, HQ⟩ := hrel
    by_cases hlt : k < n
    · have hkL : k < xs.length := by rw [← Hn.out]; exact hlt
      obtain ⟨b, o, rfl, hc⟩ := HR.out.atI hkL
      have hx := HB.out _ (show xs.getD k 0 ∈ xs from by simp [List.getD, hkL])
      have HD := Lib.hid (drop_getI hkL)
      generalize xs.getD k 0 = z at *
      obtain ⟨x, rfl⟩ := Int.eq_ofNat_of_zero_le hx.1
      have hsx : Sm x := by unfold Sm; omega
      have hso := hs.orr hsx
      have HE : Hid (apN 0 xs = if an sn x = 0 then apN (orr sn x) (xs.drop (k + 1)) else false) := Lib.hid (by rw [HQ.out, HD.out]; exact apN_cons sn x _)
      clear hkL hx
      by_cases h0 : an sn x = 0
      · have h0i : ((an sn x : Nat) : Int) = 0 := by omega
        have h0b : (((an sn x : Nat) : Int) != 0) = false := by simp [h0]
        go_wp2_with fail
        go_round
        case rel => exact ⟨k + 1, orr sn x, by omega, by go_num, rfl, hso, Lib.hid (by rw [HE.out, if_pos h0])⟩
        case measure => simp [intOf]; omega
      · have h0b : (((an sn x : Nat) : Int) != 0) = true := by simp; omega
        have HF : Hid (apN 0 xs = false) := Lib.hid (by rw [HE.out, if_neg h0])
        clear h0
        go_wp2_with fail
        go_ret
        exact ⟨by rw [HF.out]; rfl, rfl⟩
    · have HF : Hid (apN 0 xs = true) := Lib.hid (by rw [HQ.out, List.drop_of_length_le (by rw [← Hn.out]; omega)]; rfl)
      go_wp2_with fail
      go_ret
      exact ⟨by rw [HF.out]; rfl, rfl⟩

theorem sum_take_succ {xs : List Int} {k : Nat} (h : k < xs.length) : (xs.take (k + 1)).sum = (xs.take k).sum + xs.getD k 0 := by
  rw [List.take_succ_eq_append_getElem h, List.sum_append_int]; simp [List.getD, h]
theorem sum_bd {xs : List Int} {m : Int} (h : ∀ x ∈ xs, 0 ≤ x ∧ x ≤ m) : ∀ k, k ≤ xs.length → 0 ≤ (xs.take k).sum ∧ (xs.take k).sum ≤ m * k := by
  intro k
  induction k with
  | zero => intro _; simp
  | succ k ih =>
    intro hk
    obtain ⟨h1, h2⟩ := ih (by omega)
    have hx := h _ (show xs.getD k 0 ∈ xs from by simp [List.getD, (by omega : k < xs.length)])
    rw [sum_take_succ (by omega)]
    have : m * ((k + 1 : Nat) : Int) = m * k + m := by rw [Int.natCast_add, Int.mul_add]; simp
    omega
set_option maxHeartbeats 1000000 in
theorem sum_any (A : Option Addr) (n c : Nat) (xs : List Int) (w : World) (hn : n = xs.length) (hsm : n ≤ 1000000) (hb : ∀ x ∈ xs, 0 ≤ x ∧ x ≤ 1000000000) (hR : Rd w A (iv xs)) :
    Calls Tryz.prog 63 #[.slice A n c] w fun e w' => e = .returned (.int .i64 xs.sum) ∧ w = w' := by
  have HR := Lib.hid hR
  have Hn := Lib.hid hn
  have HB := Lib.hid (sum_bd hb)
  have HX := Lib.hid hb
  clear hR hn hb
  go_enter Tryz.func63, Tryz.ntmps63
  go_wp2_with fail
  go_loop [3, 8] (fun s i => ∃ k : Nat, ∃ t : Int, k ≤ n ∧ i = .int .i64 k ∧ s = .int .i64 t ∧ Hid (t = (xs.take k).sum)) (fun _ i => n - (intOf i).toNat)
  case atStart => exact ⟨0, 0, by omega, rfl, rfl, Lib.hid (by simp)⟩
  case round =>
    obtain ⟨k, t, hk, rfl, rfl, HQ⟩ := hrel
    by_cases hlt : k < n
    · have hkL : k < xs.length := by rw [← Hn.out]; exact hlt
      obtain ⟨b, o, rfl, hc⟩ := HR.out.atI hkL
      have hx := HX.out _ (show xs.getD k 0 ∈ xs from by simp [List.getD, hkL])
      have ht := HB.out k (by omega)
      have HS := Lib.hid (sum_take_succ hkL)
      rw [← HQ.out] at ht
      generalize xs.getD k 0 = z at *
      clear hkL
      go_wp2_with fail
      go_round
      case rel => exact ⟨k + 1, t + z, by omega, by go_num, by go_num, Lib.hid (by rw [HS.out, HQ.out])⟩
      case measure => simp [intOf]; omega
    · have HF : Hid (xs.sum = t) := Lib.hid (by rw [HQ.out, List.take_of_length_le (by rw [← Hn.out]; omega)])
      go_wp2_with fail
      go_ret
      exact ⟨by rw [HF.out]; rfl, rfl⟩
end Go.Proofs.YtdkmdmpaflgfaaaGreatDoor

namespace Go.Proofs.YtdkmdmpaflgfaaaGreatDoor
open Go.RowKit

theorem blk4cells {w : World} {g : Nat} {a b c d : Value} {t : TypeId} (h : w.heap[g]? = some (.cells #[a, b, c, d] t (0, 0))) :
    w.cell? ⟨g, 0, none⟩ = some a ∧ w.cell? ⟨g, 1, none⟩ = some b ∧ w.cell? ⟨g, 2, none⟩ = some c ∧ w.cell? ⟨g, 3, none⟩ = some d ∧ w.frozen? ⟨g, 3, none⟩ = false ∧ w.frozen? ⟨g, 2, none⟩ = false ∧ g < w.heap.size := by
  exact ⟨cell_of_row w g 0 #[a, b, c, d] _ (0, 0) h, cell_of_row w g 1 #[a, b, c, d] _ (0, 0) h, cell_of_row w g 2 #[a, b, c, d] _ (0, 0) h, cell_of_row w g 3 #[a, b, c, d] _ (0, 0) h, by simp [World.frozen?, h], by simp [World.frozen?, h], (Array.getElem?_eq_some_iff.1 h).1⟩
theorem ent_out_i {r s : List Int} {C : LL} {i j : Nat} (h : r.length < i) (hC : C.length = r.length) : entT r s C i j = 0 := by
  unfold entT
  rw [if_neg (by omega)]
  split
  · simp [List.getD, List.getElem?_eq_none (by omega : r.length ≤ i - 1)]
  · rw [show C.getD (i - 1) [] = [] from by simp [List.getD, List.getElem?_eq_none (by omega : C.length ≤ i - 1)]]; simp [List.getD]
theorem ent_out_j {r s : List Int} {C : LL} {i j : Nat} (h : s.length < j) (hC : ∀ k, k < C.length → (C.getD k []).length = s.length) : entT r s C i j = 0 := by
  unfold entT
  split
  · rw [if_neg (by omega)]; simp [List.getD, List.getElem?_eq_none (by omega : s.length ≤ j - 1)]
  · rw [if_neg (by omega)]
    by_cases hk : i - 1 < C.length
    · have := hC (i - 1) hk
      generalize C.getD (i - 1) [] = R at *
      simp [List.getD, List.getElem?_eq_none (by omega : R.length ≤ j - 1)]
    · rw [show C.getD (i - 1) [] = [] from by simp [List.getD, List.getElem?_eq_none (by omega : C.length ≤ i - 1)]]; simp [List.getD]

set_option maxHeartbeats 2000000 in
/-- a place of a table, 0 beyond it -/
theorem atClo_any (gm gn gt g : Nat) (r s : Row) (vc vo : Value) (C : List Row) (i j : Nat) (w : World) (hm : w.cell? ⟨gm, 0, none⟩ = some (.int .i64 (r.xs.length : Nat))) (hn : w.cell? ⟨gn, 0, none⟩ = some (.int .i64 (s.xs.length : Nat))) (ht : w.cell? ⟨gt, 0, none⟩ = some (.pointer (some ⟨g, 0, none⟩)))
    (hg : w.heap[g]? = some (.cells #[r.val, s.val, vc, vo] 212 (0, 0))) (hr : Rd w r.A (iv r.xs)) (hs : Rd w s.A (iv s.xs)) (Ac : Option Addr) (cc : Nat) (hvc : vc = .slice Ac C.length cc) (hC : RdR w Ac C) (hCl : C.length = r.xs.length) (hCr : ∀ k, k < C.length → (rg C k).xs.length = s.xs.length)
    (hmb : r.xs.length ≤ 1000) (hnb : s.xs.length ≤ 1000) (hij : 1 ≤ i + j) (hi : i ≤ 3000) (hj : j ≤ 3000) :
    Calls Tryz.prog 260 #[.int .i64 (i : Nat), .int .i64 (j : Nat), .pointer (some ⟨gm, 0, none⟩), .pointer (some ⟨gn, 0, none⟩), .pointer (some ⟨gt, 0, none⟩)] w fun e w' => e = .returned (.int .i64 (entT r.xs s.xs (dat C) i j)) ∧ w = w' := by
  subst hvc
  obtain ⟨c0, c1, c2, c3, c4, c4', c5⟩ := blk4cells hg
  obtain ⟨rA, rc, rx⟩ := r
  obtain ⟨sA, sc, sx⟩ := s
  simp only [Row.val] at c0 c1
  simp only at hm hn hr hs hCl hCr hmb hnb ⊢
  have hdl : (dat C).length = rx.length := by rw [dat_length, hCl]
  have HR := Lib.hid hr
  have HS := Lib.hid hs
  have HC := Lib.hid hC
  have HCL := Lib.hid hCl
  have HCR := Lib.hid hCr
  have HDL := Lib.hid hdl
  clear hg hr hs hC hCl hCr hdl
  by_cases h1 : rx.length < i
  · have HE := Lib.hid (ent_out_i (s := sx) (C := dat C) (j := j) h1 HDL.out)
    have h1i : (rx.length : Int) < (i : Int) := by omega
    clear h1
    go_enter Tryz.func260, Tryz.ntmps260
    go_wp2_with fail
    go_ret
    exact ⟨by rw [HE.out]; rfl, rfl⟩
  · have h1i : ¬ (rx.length : Int) < (i : Int) := by omega
    by_cases h2 : sx.length < j
    · have HE := Lib.hid (ent_out_j (r := rx) (s := sx) (C := dat C) (i := i) h2 (fun k hk => by rw [dat_getD]; exact HCR.out k (by rwa [dat_length] at hk)))
      have h2i : (sx.length : Int) < (j : Int) := by omega
      clear h1 h2
      go_enter Tryz.func260, Tryz.ntmps260
      go_wp2_with fail
      go_ret
      exact ⟨by rw [HE.out]; rfl, rfl⟩
    · have h2i : ¬ (sx.length : Int) < (j : Int) := by omega
      by_cases hi0 : i = 0
      · subst hi0
        obtain ⟨q, rfl⟩ : ∃ q, j = q + 1 := ⟨j - 1, by omega⟩
        have HE : Hid (entT rx sx (dat C) 0 (q + 1) = sx.getD q 0) := Lib.hid rfl
        obtain ⟨b, o, rfl, hc⟩ := HS.out.atI (k := q) (by omega)
        generalize sx.getD q 0 = z at *
        have hq : (((q + 1 : Nat) : Int) - 1) = (q : Int) := by omega
        have hqs : (q : Int) < (sx.length : Int) := by omega
        have hjn : ¬ ((sx.length : Int) < (((q + 1 : Nat)) : Int)) := by omega
        clear h1 h2
        go_enter Tryz.func260, Tryz.ntmps260
        go_wp2_with fail
        go_ret
        exact ⟨by rw [HE.out]; rfl, rfl⟩
      · obtain ⟨p, rfl⟩ : ∃ p, i = p + 1 := ⟨i - 1, by omega⟩
        have hp : (((p + 1 : Nat) : Int) - 1) = (p : Int) := by omega
        have hps : (p : Int) < (rx.length : Int) := by omega
        have hb0 : (((p + 1 : Nat) : Int) == 0) = false := by simp; omega
        by_cases hj0 : j = 0
        · subst hj0
          have HE : Hid (entT rx sx (dat C) (p + 1) 0 = rx.getD p 0) := Lib.hid rfl
          obtain ⟨b, o, rfl, hc⟩ := HR.out.atI (k := p) (by omega)
          generalize rx.getD p 0 = z at *
          clear h1 h2 hi0
          go_enter Tryz.func260, Tryz.ntmps260
          go_wp2_with fail
          go_ret
          exact ⟨by rw [HE.out]; rfl, rfl⟩
        · obtain ⟨q, rfl⟩ : ∃ q, j = q + 1 := ⟨j - 1, by omega⟩
          have hq : (((q + 1 : Nat) : Int) - 1) = (q : Int) := by omega
          have hqs : (q : Int) < (sx.length : Int) := by omega
          have hb1 : (((q + 1 : Nat) : Int) == 0) = false := by simp; omega
          have hpC : p < C.length := by rw [HCL.out]; omega
          have hpCi : (p : Int) < (C.length : Int) := by omega
          obtain ⟨b, o, rfl, hc⟩ := HC.out.at_ hpC
          have hin := HC.out.inn p hpC
          have hlen := HCR.out p hpC
          have HE : Hid (entT rx sx (dat C) (p + 1) (q + 1) = (rg C p).xs.getD q 0) := Lib.hid (by rw [← dat_getD]; rfl)
          generalize rg C p = R at *
          obtain ⟨RA, Rc, Rx⟩ := R
          simp only at hc hin hlen HE
          obtain ⟨b2, o2, rfl, hc2⟩ := hin.atI (k := q) (by omega)
          generalize Rx.getD q 0 = z at *
          clear h1 h2 hi0 hj0 hpC hin
          rw [hlen] at hc
          go_enter Tryz.func260, Tryz.ntmps260
          go_wp2_with fail
          go_ret
          exact ⟨by rw [HE.out]; rfl, rfl⟩
end Go.Proofs.YtdkmdmpaflgfaaaGreatDoor

namespace Go.Proofs.YtdkmdmpaflgfaaaGreatDoor
open Go.RowKit

/-- rows of ints of the call's own, no two in one block -/
structure InnR (w : World) (B : Nat) (L : List Row) : Prop where
  inn : ∀ i, i < L.length → w.ownsRow B 2 1 (rg L i).val (rg L i).xs.length (iv (rg L i).xs)
  dis : ∀ i j, i < L.length → j < L.length → i ≠ j → (rg L i).val.ownBlock = none ∨ (rg L i).val.ownBlock ≠ (rg L j).val.ownBlock
section
variable {w w' : World} {B : Nat} {L : List Row}
theorem InnR.keeps {S : List (Option Nat)} (h : InnR w B L) (hk : Keeps w w' S) (h2 : ∀ i, i < L.length → (rg L i).val.ownBlock = none ∨ (rg L i).val.ownBlock ∉ S) : InnR w' B L :=
  ⟨fun i hi => owns_keeps (h.inn i hi) hk (h2 i hi), h.dis⟩
theorem InnR.later (h : InnR w B L) (hb : Below w.heap.size w w') : InnR w' B L := h.keeps (Keeps.of_below hb) (fun _ _ => .inr (by simp))
theorem InnR.set {j : Nat} {ys : List Int} (h : InnR w B L) (hj : j < L.length) (hl : ys.length = (rg L j).xs.length) (hk : Keeps w w' [(rg L j).val.ownBlock])
    (hr : w'.ownsRow B 2 1 (rg L j).val (rg L j).xs.length (iv ys)) : InnR w' B (L.set j ⟨(rg L j).A, (rg L j).c, ys⟩) := by
  have ev : Row.val ⟨(rg L j).A, (rg L j).c, ys⟩ = (rg L j).val := by simp [Row.val, hl]
  refine ⟨?_, ?_⟩
  · intro i hi
    rw [List.length_set] at hi
    rw [rg_set hj]
    split
    · rw [ev]; simp only [hl]; exact hr
    · rename_i hne
      exact owns_keeps (h.inn i hi) hk (by have := h.dis i j hi hj hne; simpa using this)
  · intro i i' hi hi' hne
    rw [List.length_set] at hi hi'
    rw [rg_set hj, rg_set hj]
    by_cases e1 : i = j
    · by_cases e2 : i' = j
      · omega
      · rw [if_pos e1, if_neg e2, ev, ← e1]; exact h.dis i i' hi hi' hne
    · by_cases e2 : i' = j
      · rw [if_neg e1, if_pos e2, ev, ← e2]; exact h.dis i i' hi hi' hne
      · rw [if_neg e1, if_neg e2]; exact h.dis i i' hi hi' hne
theorem rg_app (L : List Row) (r : Row) (i : Nat) (hi : i < L.length) : rg (L ++ [r]) i = rg L i := by simp [rg, List.getD, List.getElem?_append, hi]
theorem rg_last (L : List Row) (r : Row) : rg (L ++ [r]) L.length = r := by simp [rg, List.getD]
theorem InnR.push {r : Row} (h : InnR w B L) (hr : w.ownsRow B 2 1 r.val r.xs.length (iv r.xs)) (hd : ∀ i, i < L.length → r.val.ownBlock = none ∨ r.val.ownBlock ≠ (rg L i).val.ownBlock) : InnR w B (L ++ [r]) := by
  refine ⟨fun i hi => ?_, fun i j hi hj hne => ?_⟩
  · simp only [List.length_append, List.length_singleton] at hi
    by_cases h1 : i < L.length
    · rw [rg_app L r i h1]; exact h.inn i h1
    · have : i = L.length := by omega
      subst this; rw [rg_last]; exact hr
  · simp only [List.length_append, List.length_singleton] at hi hj
    by_cases h1 : i < L.length
    · by_cases h2 : j < L.length
      · rw [rg_app L r i h1, rg_app L r j h2]; exact h.dis i j h1 h2 hne
      · have : j = L.length := by omega
        subst this
        rw [rg_app L r i h1, rg_last]; exact none_or_symm (hd i h1)
    · have : i = L.length := by omega
      subst this
      rw [rg_last, rg_app L r j (by omega)]; exact hd j (by omega)
/-- a row whose block is new is apart from all -/
theorem InnR.fresh {H : Nat} {r : Row} (h : InnR w B L) (hr : w'.ownsRow H 2 1 r.val r.xs.length (iv r.xs)) (hH : w.heap.size ≤ H) : ∀ i, i < L.length → r.val.ownBlock = none ∨ r.val.ownBlock ≠ (rg L i).val.ownBlock := by
  intro i hi
  by_cases hb : r.val.ownBlock = none
  · exact .inl hb
  · obtain ⟨k, hk⟩ := Option.ne_none_iff_exists'.1 hb
    refine .inr fun e => ?_
    have h1 := (hr.lt k hk).1
    have h2 := ((h.inn i hi).lt k (by rw [← e]; exact hk)).2
    omega
end

/-- what the program's tables hold: what is left of both lists, the cells, the products so far -/
structure TSt (w : World) (B g : Nat) (r s : Row) (vc : Value) (C : List Row) (vo : Value) (O : List Row) : Prop where
  blk : w.heap[g]? = some (.cells #[r.val, s.val, vc, vo] 212 (0, 0))
  low : B ≤ g
  rows : InnR w B (r :: s :: (C ++ O))
  co : w.ownsRow B 22 1 vc C.length (hv C)
  oo : w.ownsRow B 22 1 vo O.length (hv O)
  off : vc.ownBlock = none ∨ vc.ownBlock ≠ vo.ownBlock
section
variable {w w' : World} {B g : Nat} {r s : Row} {vc vo : Value} {C O : List Row}
theorem TSt.own_r (h : TSt w B g r s vc C vo O) : w.ownsRow B 2 1 r.val r.xs.length (iv r.xs) := h.rows.inn 0 (by simp)
theorem TSt.own_s (h : TSt w B g r s vc C vo O) : w.ownsRow B 2 1 s.val s.xs.length (iv s.xs) := h.rows.inn 1 (by simp)
theorem rg_CO (C O : List Row) (r s : Row) (i : Nat) (hi : i < C.length) : rg (r :: s :: (C ++ O)) (i + 2) = rg C i := by simp [rg, List.getD, List.getElem?_append, hi]
theorem TSt.own_c (h : TSt w B g r s vc C vo O) {i : Nat} (hi : i < C.length) : w.ownsRow B 2 1 (rg C i).val (rg C i).xs.length (iv (rg C i).xs) := by
  have := h.rows.inn (i + 2) (by simp; omega)
  rwa [rg_CO C O r s i hi] at this
theorem rg_O (C O : List Row) (r s : Row) (i : Nat) : rg (r :: s :: (C ++ O)) (C.length + i + 2) = rg O i := by
  simp [rg, List.getD, List.getElem?_append_right, show C.length ≤ C.length + i by omega]
theorem TSt.own_o (h : TSt w B g r s vc C vo O) {i : Nat} (hi : i < O.length) : w.ownsRow B 2 1 (rg O i).val (rg O i).xs.length (iv (rg O i).xs) := by
  have := h.rows.inn (C.length + i + 2) (by simp; omega)
  rwa [rg_O C O r s i] at this
theorem TSt.rdC (h : TSt w B g r s vc C vo O) : ∃ A c, vc = .slice A C.length c ∧ RdR w A C := by
  obtain ⟨A, c, rfl, _⟩ := owns_shape h.co
  exact ⟨A, c, rfl, owns_Rd h.co, fun i hi => owns_Rd (h.own_c hi), fun i hi => owns_cap (h.own_c hi)⟩
/-- the products as rows of the call's own -/
theorem TSt.own_out (h : TSt w B g r s vc C vo O) : OwnR w B vo O := by
  refine ⟨h.oo, fun i hi => h.own_o hi, fun i j hi hj hne => ?_⟩
  have := h.rows.dis (C.length + i + 2) (C.length + j + 2) (by simp; omega) (by simp; omega) (by omega)
  rwa [rg_O, rg_O] at this
theorem TSt.later (h : TSt w B g r s vc C vo O) (hb : Below w.heap.size w w') : TSt w' B g r s vc C vo O :=
  ⟨blk_kept h.blk hb, h.low, h.rows.later hb, owns_keeps h.co (Keeps.of_below hb) (.inr (by simp)), owns_keeps h.oo (Keeps.of_below hb) (.inr (by simp)), h.off⟩
theorem ne_int (h : TSt w B g r s vc C vo O) {i : Nat} (hi : i < (r :: s :: (C ++ O)).length) {k : Nat} (hk : (rg (r :: s :: (C ++ O)) i).val.ownBlock = some k) : k ≠ g ∧ vc.ownBlock ≠ some k ∧ vo.ownBlock ≠ some k := by
  have hr := h.rows.inn i hi
  refine ⟨fun e => ?_, fun e => ?_, fun e => ?_⟩
  · exact own_ne_blk hr h.blk (by decide) (by rw [hk, e])
  · rcases own_ne2 h.co hr (by decide) with h1 | h1
    · rw [h1] at e; cases e
    · exact h1 (e.trans hk.symm)
  · rcases own_ne2 h.oo hr (by decide) with h1 | h1
    · rw [h1] at e; cases e
    · exact h1 (e.trans hk.symm)
/-- an int row written: all else as it was -/
theorem TSt.keep_int (h : TSt w B g r s vc C vo O) {i : Nat} (hi : i < (r :: s :: (C ++ O)).length) {k j : Nat} (hk : (rg (r :: s :: (C ++ O)) i).val.ownBlock = some k) (u : Value) :
    (w.setCell ⟨k, j, none⟩ u).heap[g]? = some (.cells #[r.val, s.val, vc, vo] 212 (0, 0)) ∧ (w.setCell ⟨k, j, none⟩ u).ownsRow B 22 1 vc C.length (hv C) ∧ (w.setCell ⟨k, j, none⟩ u).ownsRow B 22 1 vo O.length (hv O) ∧ Below B w (w.setCell ⟨k, j, none⟩ u) := by
  obtain ⟨n1, n2, n3⟩ := ne_int h hi hk
  have ks : Keeps w (w.setCell ⟨k, j, none⟩ u) [some k] := (Keeps.refl w [some k]).setCell (p := ⟨k, j, none⟩) (by simp) _
  refine ⟨blk_seto h.blk ⟨k, j, none⟩ n1 u, owns_keeps h.co ks (.inr (by simpa using n2)), owns_keeps h.oo ks (.inr (by simpa using n3)), ?_⟩
  have hkl := ((h.rows.inn i hi).lt k hk)
  exact ks.to_below (Nat.le_trans hkl.1 (Nat.le_of_lt hkl.2)) (fun q hq => by simp at hq; subst hq; exact hkl.1)
theorem TSt.setR {k j : Nat} (h : TSt w B g r s vc C vo O) (hA : r.A = some ⟨k, 0, none⟩) (x : Int) :
    TSt (w.setCell ⟨k, j, none⟩ (.int .i64 x)) B g ⟨r.A, r.c, r.xs.set j x⟩ s vc C vo O ∧ Below B w (w.setCell ⟨k, j, none⟩ (.int .i64 x)) := by
  have hi : 0 < (r :: s :: (C ++ O)).length := by simp
  have hk : (rg (r :: s :: (C ++ O)) 0).val.ownBlock = some k := by show r.val.ownBlock = _; simp [Row.val, hA, Value.ownBlock]
  obtain ⟨e1, e2, e3, e4⟩ := h.keep_int hi hk (j := j) (.int .i64 x)
  have hr := h.rows.set (w' := w.setCell ⟨k, j, none⟩ (.int .i64 x)) hi (ys := r.xs.set j x) (by simp [rg]) (by rw [hk]; exact (Keeps.refl w [some k]).setCell (p := ⟨k, j, none⟩) (by simp) _) (by
    have h1 := h.own_r
    show (w.setCell ⟨k, j, none⟩ (.int .i64 x)).ownsRow B 2 1 r.val r.xs.length (iv (r.xs.set j x))
    unfold Row.val at h1 ⊢
    rw [hA] at h1 ⊢
    have h2 := (World.ownsRow.stored h1 j (.int .i64 x)).1
    rwa [show (iv r.xs).set j (.int .i64 x) = iv (r.xs.set j x) from by simp [iv, List.map_set]] at h2)
  refine ⟨⟨?_, h.low, hr, e2, e3, h.off⟩, e4⟩
  rw [e1]; simp [Row.val]
theorem TSt.setS {k j : Nat} (h : TSt w B g r s vc C vo O) (hA : s.A = some ⟨k, 0, none⟩) (x : Int) :
    TSt (w.setCell ⟨k, j, none⟩ (.int .i64 x)) B g r ⟨s.A, s.c, s.xs.set j x⟩ vc C vo O ∧ Below B w (w.setCell ⟨k, j, none⟩ (.int .i64 x)) := by
  have hi : 1 < (r :: s :: (C ++ O)).length := by simp
  have hk : (rg (r :: s :: (C ++ O)) 1).val.ownBlock = some k := by show s.val.ownBlock = _; simp [Row.val, hA, Value.ownBlock]
  obtain ⟨e1, e2, e3, e4⟩ := h.keep_int hi hk (j := j) (.int .i64 x)
  have hr := h.rows.set (w' := w.setCell ⟨k, j, none⟩ (.int .i64 x)) hi (ys := s.xs.set j x) (by simp [rg]) (by rw [hk]; exact (Keeps.refl w [some k]).setCell (p := ⟨k, j, none⟩) (by simp) _) (by
    have h1 := h.own_s
    show (w.setCell ⟨k, j, none⟩ (.int .i64 x)).ownsRow B 2 1 s.val s.xs.length (iv (s.xs.set j x))
    unfold Row.val at h1 ⊢
    rw [hA] at h1 ⊢
    have h2 := (World.ownsRow.stored h1 j (.int .i64 x)).1
    rwa [show (iv s.xs).set j (.int .i64 x) = iv (s.xs.set j x) from by simp [iv, List.map_set]] at h2)
  refine ⟨⟨?_, h.low, hr, e2, e3, h.off⟩, e4⟩
  rw [e1]; simp [Row.val]
theorem hv_set_same {C : List Row} {i : Nat} {R : Row} (hi : i < C.length) (h : R.val = (rg C i).val) : hv (C.set i R) = hv C := by
  unfold hv
  rw [List.map_set, h, rg_of hi]
  apply List.ext_getElem?
  intro j
  rw [List.getElem?_set]
  split
  · rename_i e; subst e; simp [hi]
  · rfl
theorem TSt.setC {k i j : Nat} (h : TSt w B g r s vc C vo O) (hiC : i < C.length) (hA : (rg C i).A = some ⟨k, 0, none⟩) (x : Int) :
    TSt (w.setCell ⟨k, j, none⟩ (.int .i64 x)) B g r s vc (C.set i ⟨(rg C i).A, (rg C i).c, (rg C i).xs.set j x⟩) vo O ∧ Below B w (w.setCell ⟨k, j, none⟩ (.int .i64 x)) := by
  have hi : i + 2 < (r :: s :: (C ++ O)).length := by simp; omega
  have hk : (rg (r :: s :: (C ++ O)) (i + 2)).val.ownBlock = some k := by rw [rg_CO C O r s i hiC]; simp [Row.val, hA, Value.ownBlock]
  obtain ⟨e1, e2, e3, e4⟩ := h.keep_int hi hk (j := j) (.int .i64 x)
  have hr := h.rows.set (w' := w.setCell ⟨k, j, none⟩ (.int .i64 x)) hi (ys := (rg C i).xs.set j x) (by rw [rg_CO C O r s i hiC]; simp) (by rw [hk]; exact (Keeps.refl w [some k]).setCell (p := ⟨k, j, none⟩) (by simp) _) (by
    have h1 := h.own_c hiC
    rw [rg_CO C O r s i hiC]
    unfold Row.val at h1 ⊢
    rw [hA] at h1 ⊢
    have h2 := (World.ownsRow.stored h1 j (.int .i64 x)).1
    rwa [show (iv (rg C i).xs).set j (.int .i64 x) = iv ((rg C i).xs.set j x) from by simp [iv, List.map_set]] at h2)
  rw [rg_CO C O r s i hiC] at hr
  have el : (r :: s :: (C ++ O)).set (i + 2) ⟨(rg C i).A, (rg C i).c, (rg C i).xs.set j x⟩ = r :: s :: (C.set i ⟨(rg C i).A, (rg C i).c, (rg C i).xs.set j x⟩ ++ O) := by
    simp only [List.set_cons_succ]
    rw [List.set_append_left _ _ hiC]
  rw [el] at hr
  refine ⟨⟨e1, h.low, hr, ?_, e3, h.off⟩, e4⟩
  rw [List.length_set, hv_set_same hiC (by simp [Row.val])]; exact e2
/-- one more product: the outer row grown, its slice laid into the tables -/
theorem TSt.push {w2 : World} {gn cap : Nat} {rn : Row} {ob : Obj} (h : TSt w B g r s vc C vo O) (hn : w.ownsRow B 2 1 rn.val rn.xs.length (iv rn.xs)) (hd : ∀ i, i < (r :: s :: (C ++ O)).length → rn.val.ownBlock = none ∨ rn.val.ownBlock ≠ (rg (r :: s :: (C ++ O)) i).val.ownBlock)
    (ho : w2.ownsRow B 22 1 (.slice (some ⟨gn, 0, none⟩) (O.length + 1) cap) (O.length + 1) (hv O ++ [rn.val])) (hg : (w.alloc ob).grownBy w2 vo.ownBlock) (hat : vo.ownBlock = some gn ∨ gn = (w.alloc ob).heap.size) :
    TSt (w2.setCell ⟨g, 3, none⟩ (.slice (some ⟨gn, 0, none⟩) (O.length + 1) cap)) B g r s vc C (.slice (some ⟨gn, 0, none⟩) (O.length + 1) cap) (O ++ [rn]) ∧ Below B w (w2.setCell ⟨g, 3, none⟩ (.slice (some ⟨gn, 0, none⟩) (O.length + 1) cap)) := by
  have hgl := (Array.getElem?_eq_some_iff.1 h.blk).1
  have hvog : vo.ownBlock ≠ some g := own_ne_blk h.oo h.blk (by decide)
  have k1 : Keeps w w2 [vo.ownBlock] := ((Keeps.refl w []).alloc ob).trans (Keeps.of_grown hg) (by simp)
  have k2 : Keeps w (w2.setCell ⟨g, 3, none⟩ (.slice (some ⟨gn, 0, none⟩) (O.length + 1) cap)) [vo.ownBlock, some g] := (k1.more (by simp; exact fun j hj => .inl hj)).setCell (p := ⟨g, 3, none⟩) (by simp) _
  have hb2 : w2.heap[g]? = some (.cells #[r.val, s.val, vc, vo] 212 (0, 0)) := (k1.block g hgl (by simpa using fun e => hvog e.symm)).trans h.blk
  have hrows : InnR w B (r :: s :: (C ++ O) ++ [rn]) := h.rows.push hn hd
  rw [show r :: s :: (C ++ O) ++ [rn] = r :: s :: (C ++ (O ++ [rn])) from by simp] at hrows
  have hk : ∀ i, i < (r :: s :: (C ++ (O ++ [rn]))).length → (rg (r :: s :: (C ++ (O ++ [rn]))) i).val.ownBlock = none ∨ (rg (r :: s :: (C ++ (O ++ [rn]))) i).val.ownBlock ∉ [vo.ownBlock, some g] := by
    intro i hi
    have hri := hrows.inn i hi
    rcases own_ne2 hri h.oo (by decide) with e | e
    · exact .inl e
    · refine .inr ?_
      have := own_ne_blk hri h.blk (by decide)
      simp [e, this]
  have hcg : vc.ownBlock ≠ some g := own_ne_blk h.co h.blk (by decide)
  have hco : vc.ownBlock = none ∨ vc.ownBlock ∉ [vo.ownBlock, some g] := by
    rcases h.off with e | e
    · exact .inl e
    · exact .inr (by simp [e, hcg])
  have hgn : gn ≠ g := by
    intro e
    rcases hat with e2 | e2
    · exact hvog (by rw [e2, e])
    · simp at e2; omega
  refine ⟨⟨?_, h.low, hrows.keeps k2 hk, owns_keeps h.co k2 hco, ?_, ?_⟩, ?_⟩
  · simp [World.setCell, hb2, Array.getElem?_modify]
  · rw [List.length_append, List.length_singleton, show hv (O ++ [rn]) = hv O ++ [rn.val] from by simp [hv]]
    have k3 : Keeps w2 (w2.setCell ⟨g, 3, none⟩ (.slice (some ⟨gn, 0, none⟩) (O.length + 1) cap)) [some g] := (Keeps.refl w2 [some g]).setCell (p := ⟨g, 3, none⟩) (by simp) _
    exact owns_keeps ho k3 (.inr (by simpa [Value.ownBlock] using hgn))
  · by_cases hc : vc.ownBlock = none
    · exact .inl hc
    · obtain ⟨q, hq⟩ := Option.ne_none_iff_exists'.1 hc
      refine .inr fun e => ?_
      rw [hq] at e
      simp only [Value.ownBlock, Option.map_some, Option.some.injEq] at e
      rcases hat with e2 | e2
      · rcases h.off with e3 | e3
        · exact hc e3
        · exact e3 (by rw [hq, e2, e])
      · have := (h.co.lt q hq).2
        simp at e2; omega
  · refine k2.to_below (Nat.le_trans h.low (Nat.le_of_lt hgl)) (fun q hq => ?_)
    simp only [List.mem_cons, List.not_mem_nil, or_false, Option.some.injEq] at hq
    rcases hq with e | e
    · exact (h.oo.lt q e.symm).1
    · rw [e]; exact h.low
end
end Go.Proofs.YtdkmdmpaflgfaaaGreatDoor

namespace Go.Proofs.YtdkmdmpaflgfaaaGreatDoor
open Go.RowKit

set_option maxHeartbeats 1000000 in
theorem l07Is_any (A : Option Addr) (n c : Nat) (xs : List Int) (w : World) (hn : n = xs.length) (hsm : n ≤ 1048576) (hR : Rd w A (iv xs)) :
    Calls Tryz.prog 138 #[.slice A n c] w fun e w' => e = .returned (.bool (profB xs)) ∧ w = w' := by
  have HR := Lib.hid hR
  have Hn := Lib.hid hn
  clear hR hn
  go_enter Tryz.func138, Tryz.ntmps138
  go_wp2_with fail
  go_loop [3] (fun i => ∃ k : Nat, k ≤ n ∧ i = .int .i64 k ∧ Hid (∀ j, j < k → inB (xs.getD j 0) 0 10 = true)) (fun i => n - (intOf i).toNat)
  case atStart => exact ⟨0, by omega, rfl, Lib.hid (fun i hi => by omega)⟩
  case round =>
    obtain ⟨k, hk, rfl, HP⟩ := hrel
    by_cases hlt : k < n
    · have hkL : k < xs.length := by rw [← Hn.out]; exact hlt
      obtain ⟨b, o, rfl, hc⟩ := HR.out.atI hkL
      have HI := Lib.hid (fun W => l01In_any (xs.getD k 0) 0 10 W)
      generalize hx : xs.getD k 0 = x at *
      have HX := Lib.hid hx
      clear hx
      cases hb : inB x 0 10
      · rw [hb] at HI
        have HE : Hid (profB xs = false) := Lib.hid (by
          cases h : profB xs with
          | false => rfl
          | true => have := ((profB_iff xs).1 h).2 k hkL; rw [HX.out, hb] at this; cases this)
        clear hb
        go_wp2_with (go_at_call 87; refine (HI.out _).mono ?_; rintro e w' ⟨rfl, rfl⟩)
        go_ret
        exact ⟨by rw [HE.out]; rfl, rfl⟩
      · rw [hb] at HI
        have HB := Lib.hid hb
        clear hb
        go_wp2_with (go_at_call 87; refine (HI.out _).mono ?_; rintro e w' ⟨rfl, rfl⟩)
        go_round
        case rel =>
          refine ⟨k + 1, by omega, by go_num, Lib.hid (fun j hj => ?_)⟩
          by_cases e : j = k
          · subst e; rw [HX.out]; exact HB.out
          · exact HP.out j (by omega)
        case measure => simp [intOf]; omega
    · obtain rfl : n = k := by omega
      by_cases h16 : (n : Int) ≤ 16
      · have HE : Hid (profB xs = true) := Lib.hid ((profB_iff xs).2 ⟨by rw [← Hn.out]; omega, by rw [← Hn.out]; exact HP.out⟩)
        go_wp2_with fail
        go_ret
        exact ⟨by rw [HE.out]; rfl, rfl⟩
      · have HE : Hid (profB xs = false) := Lib.hid (by
          cases h : profB xs with
          | false => rfl
          | true => have := ((profB_iff xs).1 h).1; rw [← Hn.out] at this; omega)
        go_wp2_with fail
        go_ret
        exact ⟨by rw [HE.out]; rfl, rfl⟩

set_option maxHeartbeats 1000000 in
theorem l07At_any (A : Option Addr) (n c : Nat) (xs : List Int) (z : Int) (j : Nat) (w : World) (hn : n = xs.length) (hsm : n ≤ 1048576) (hz : z = (j : Int) + 1) (hj : j ≤ 3000000) (hR : Rd w A (iv xs)) :
    Calls Tryz.prog 182 #[.slice A n c, .int .i64 z] w fun e w' => e = .returned (.int .i64 (atP xs (j + 1))) ∧ w = w' := by
  subst hz
  by_cases h : n < j + 1
  · have HE : Hid (atP xs (j + 1) = 0) := Lib.hid (by unfold atP; rw [if_pos (by omega)])
    have h' : (n : Int) < (j : Int) + 1 := by omega
    clear hR
    go_enter Tryz.func182, Tryz.ntmps182
    go_wp2_with fail
    go_ret
    exact ⟨by rw [HE.out]; rfl, rfl⟩
  · have HE : Hid (atP xs (j + 1) = xs.getD j 0) := Lib.hid (by unfold atP; rw [if_neg (by omega)]; rfl)
    have h' : ¬ (n : Int) < (j : Int) + 1 := by omega
    have hjn : j < n := by omega
    obtain ⟨b, o, rfl, hc⟩ := hR.atI (k := j) (by omega)
    clear hR
    go_enter Tryz.func182, Tryz.ntmps182
    go_wp2_with fail
    go_ret
    exact ⟨by rw [HE.out]; rfl, rfl⟩

set_option maxHeartbeats 2000000 in
theorem l07Closed_any (A : Option Addr) (n c : Nat) (xs : List Int) (w : World) (hn : n = xs.length) (hp : profB xs = true) (hR : Rd w A (iv xs)) :
    Calls Tryz.prog 139 #[.slice A n c] w fun e w' => e = .returned (.bool (closedB xs)) ∧ w = w' := by
  have h16 : n ≤ 16 := by rw [hn]; exact ((profB_iff xs).1 hp).1
  have HR := Lib.hid hR
  have Hn := Lib.hid hn
  have HB := Lib.hid (atP_bd hp)
  have HA := Lib.hid (fun (z : Int) (j : Nat) W (hz : z = (j : Int) + 1) (hj : j ≤ 100) (hw : w = W) => l07At_any A n c xs z j W hn (by omega) hz (by omega) (hw ▸ hR))
  clear hR hn hp
  go_enter Tryz.func139, Tryz.ntmps139
  go_wp2_with fail
  go_loop [3] (fun v => ∃ i : Nat, i ≤ n ∧ v = .int .i64 ((i : Int) + 1) ∧ Hid (∀ i', i' < i → ∀ j, j < n → clAt xs i' j = true)) (fun v => n + 1 - (intOf v).toNat)
  case atStart => exact ⟨0, by omega, rfl, Lib.hid (fun i hi => by omega)⟩
  case round =>
    obtain ⟨i, hi, rfl, HP⟩ := hrel
    by_cases hlt : i < n
    · have hlt' : (i : Int) + 1 ≤ (n : Int) := by omega
      go_wp2_with fail
      go_loop [4] (fun v => ∃ j : Nat, j ≤ n ∧ v = .int .i64 ((j : Int) + 1) ∧ Hid (∀ j', j' < j → clAt xs i j' = true)) (fun v => n + 1 - (intOf v).toNat)
      case atStart => exact ⟨0, by omega, rfl, Lib.hid (fun i hi => by omega)⟩
      case round =>
        obtain ⟨j, hj, rfl, HQ⟩ := hrel
        by_cases hlt2 : j < n
        · have hlt2' : (j : Int) + 1 ≤ (n : Int) := by omega
          have b1 := HB.out (i + j + 1 + 1)
          have b2 := HB.out (j + 1)
          have b3 := HB.out (i + 1)
          have HE : Hid (clAt xs i j = !decide (atP xs (i + j + 1 + 1) < min (atP xs (j + 1)) (atP xs (i + 1) - ((j : Int) + 1)))) := Lib.hid rfl
          have A1 := Lib.hid (fun z W hz hw => HA.out z (i + j + 1) W hz (by omega) hw)
          have A2 := Lib.hid (fun z W hz hw => HA.out z j W hz (by omega) hw)
          have A3 := Lib.hid (fun z W hz hw => HA.out z i W hz (by omega) hw)
          generalize atP xs (i + j + 1 + 1) = p at *
          generalize atP xs (j + 1) = q at *
          generalize atP xs (i + 1) = r at *
          obtain ⟨b11, b12⟩ := b1
          obtain ⟨b21, b22⟩ := b2
          obtain ⟨b31, b32⟩ := b3
          go_wp2_with fail
          refine (A1.out _ _ (by omega) rfl).mono ?_
          rintro e w' ⟨rfl, rfl⟩
          go_wp2_with fail
          refine (A2.out _ _ (by omega) rfl).mono ?_
          rintro e w' ⟨rfl, rfl⟩
          go_wp2_with fail
          refine (A3.out _ _ (by omega) rfl).mono ?_
          rintro e w' ⟨rfl, rfl⟩
          rcases Int.lt_or_le (r - ((j : Int) + 1)) q with hm | hm
          · have HM : Hid (min q (r - ((j : Int) + 1)) = r - ((j : Int) + 1)) := Lib.hid (by omega)
            by_cases hcm : p < r - ((j : Int) + 1)
            · have HF : Hid (closedB xs = false) := Lib.hid (by
                cases hcl : closedB xs with
                | false => rfl
                | true =>
                  have h9 := (closedB_iff xs).1 hcl i (by rw [← Hn.out]; exact hlt) j (by rw [← Hn.out]; exact hlt2)
                  rw [HE.out, HM.out, decide_eq_true hcm] at h9
                  cases h9)
              go_wp2_with fail
              go_ret
              exact ⟨by rw [HF.out]; rfl, rfl⟩
            · have HT : Hid (clAt xs i j = true) := Lib.hid (by rw [HE.out, HM.out, decide_eq_false hcm]; rfl)
              go_wp2_with fail
              go_round
              case rel =>
                refine ⟨j + 1, by omega, by go_num, Lib.hid (fun j' hj' => ?_)⟩
                by_cases e : j' = j
                · subst e; exact HT.out
                · exact HQ.out j' (by omega)
              case measure => simp [intOf]; omega
          · have hm' : ¬ (r - ((j : Int) + 1) < q) := by omega
            have HM : Hid (min q (r - ((j : Int) + 1)) = q) := Lib.hid (by omega)
            by_cases hcm : p < q
            · have HF : Hid (closedB xs = false) := Lib.hid (by
                cases hcl : closedB xs with
                | false => rfl
                | true =>
                  have h9 := (closedB_iff xs).1 hcl i (by rw [← Hn.out]; exact hlt) j (by rw [← Hn.out]; exact hlt2)
                  rw [HE.out, HM.out, decide_eq_true hcm] at h9
                  cases h9)
              go_wp2_with fail
              go_ret
              exact ⟨by rw [HF.out]; rfl, rfl⟩
            · have HT : Hid (clAt xs i j = true) := Lib.hid (by rw [HE.out, HM.out, decide_eq_false hcm]; rfl)
              go_wp2_with fail
              go_round
              case rel =>
                refine ⟨j + 1, by omega, by go_num, Lib.hid (fun j' hj' => ?_)⟩
                by_cases e : j' = j
                · subst e; exact HT.out
                · exact HQ.out j' (by omega)
              case measure => simp [intOf]; omega
        · obtain rfl : j = n := by omega
          have hlt2' : ¬ (j : Int) + 1 ≤ (j : Int) := by omega
          go_wp2_with fail
          go_round
          case rel =>
            refine ⟨i + 1, by omega, by go_num, Lib.hid (fun i' hi' => ?_)⟩
            by_cases e : i' = i
            · subst e; exact HQ.out
            · exact HP.out i' (by omega)
          case measure => simp [intOf]; omega
    · obtain rfl : i = n := by omega
      have hlt' : ¬ (i : Int) + 1 ≤ (i : Int) := by omega
      have HE : Hid (closedB xs = true) := Lib.hid ((closedB_iff xs).2 (by rw [← Hn.out]; exact HP.out))
      go_wp2_with fail
      go_ret
      exact ⟨by rw [HE.out]; rfl, rfl⟩


set_option maxHeartbeats 1000000 in
theorem l06Trim_any (g n c B : Nat) (ys : List Int) (w : World) (hn : n = ys.length) (hsm : n ≤ 1048576) (hB : B ≤ w.heap.size) (hO : w.ownsRow B 2 1 (.slice (some ⟨g, 0, none⟩) n c) n (iv ys)) :
    Calls Tryz.prog 140 #[.slice (some ⟨g, 0, none⟩) n c] w fun e w' => ∃ g' c', e = .returned (.slice (some ⟨g', 0, none⟩) (trimL ys).length c') ∧ w'.ownsRow w.heap.size 2 1 (.slice (some ⟨g', 0, none⟩) (trimL ys).length c') (trimL ys).length (iv (trimL ys)) ∧ Below w.heap.size w w' := by
  have hcap := owns_cap hO
  have hR := owns_Rd hO
  have HR := Lib.hid hR
  have Hn := Lib.hid hn
  clear hR hn hO hB
  go_enter Tryz.func140, Tryz.ntmps140
  go_wp2_with fail
  go_loop [3] (fun v => ∃ k : Nat, k ≤ n ∧ v = .int .i64 k ∧ Hid (trimN ys ys.length = trimN ys k)) (fun v => (intOf v).toNat)
  case atStart => exact ⟨n, by omega, rfl, Lib.hid (by rw [Hn.out])⟩
  case round =>
    obtain ⟨k, hk, rfl, HT⟩ := hrel
    have fin : ∀ (h : Hid (trimN ys k = k)), Hid ((trimL ys).length = k ∧ iv (trimL ys) = iv (ys.take k)) := fun h => Lib.hid (by
      have e : trimL ys = ys.take k := by unfold trimL; rw [HT.out, h.out]
      rw [e]
      refine ⟨?_, rfl⟩
      rw [List.length_take, ← Hn.out]; omega)
    have HRk := Lib.hid (show Rd w (some ⟨g, 0, none⟩) (iv (ys.take k)) from by
      rcases HR.out with h | ⟨b, o, h1, h2⟩
      · left
        have : ys = [] := by cases ys with | nil => rfl | cons y ys => cases h
        rw [this]; simp [iv]
      · refine .inr ⟨b, o, h1, fun j v hj => h2 j v ?_⟩
        simp only [iv, List.getElem?_map, List.getElem?_take] at hj ⊢
        split at hj
        · exact hj
        · cases hj)
    have HKL := Lib.hid (show k = (iv (ys.take k)).length from by rw [iv_length, List.length_take, ← Hn.out]; omega)
    have HOW := Lib.hid (fun c => l01Own_any (some ⟨g, 0, none⟩) k c (iv (ys.take k)) w HKL.out (by omega) (iv_one _) HRk.out)
    have HF := Lib.hid fin
    clear fin
    by_cases h0 : k = 0
    · subst h0
      have HF2 := Lib.hid (HF.out (Lib.hid rfl))
      go_wp2_with fail
      refine (HOW.out _).mono ?_
      rintro e w' ⟨g', c', rfl, ho, hb⟩
      have HO := Lib.hid ho
      have HB := Lib.hid hb
      clear ho hb
      go_wp2_with fail
      go_ret
      exact ⟨g', c', by rw [HF2.out.out.1]; rfl, by rw [HF2.out.out.1, HF2.out.out.2]; exact HO.out, HB.out⟩
    · obtain ⟨j, rfl⟩ : ∃ j, k = j + 1 := ⟨k - 1, by omega⟩
      obtain ⟨b', o', e', hc⟩ := HR.out.atI (k := j) (by rw [← Hn.out]; omega)
      injection e' with e'
      injection e' with e1 e2 _
      subst e1; subst e2
      rw [Nat.zero_add] at hc
      have hjn : j < n := by omega
      have hj0 : 0 < j + 1 := by omega
      have hj1 : (0 : Int) < (j : Int) + 1 := by omega
      have HTS : Hid (trimN ys (j + 1) = if ys.getD j 0 = 0 then trimN ys j else j + 1) := Lib.hid rfl
      have hjc : (j : Int) + 1 ≤ (c : Int) := by omega
      have hj2 : (0 : Int) ≤ (j : Int) + 1 := by omega
      have hj3 : ((j : Int) + 1).toNat = j + 1 := by omega
      generalize hx : ys.getD j 0 = x at *
      by_cases hx0 : x = 0
      · subst hx0
        go_wp2_with fail
        go_round
        case rel => exact ⟨j, by omega, by go_num, Lib.hid (by rw [HT.out, HTS.out, if_pos rfl])⟩
        case measure => simp [intOf]
      · have HF2 := Lib.hid (HF.out (Lib.hid (by rw [HTS.out, if_neg hx0])))
        have hxb : ((x : Int) == 0) = false := by simpa using hx0
        go_wp2_with fail
        refine (HOW.out _).mono ?_
        rintro e w' ⟨g', c', rfl, ho, hb⟩
        have HO := Lib.hid ho
        have HB := Lib.hid hb
        clear ho hb
        go_wp2_with fail
        go_ret
        exact ⟨g', c', by rw [HF2.out.out.1]; rfl, by rw [HF2.out.out.1, HF2.out.out.2]; exact HO.out, HB.out⟩

set_option maxRecDepth 100000 in
set_option maxHeartbeats 4000000 in
theorem l13Top_any (A : Option Addr) (n c : Nat) (xs : List Int) (w : World) (hn : n = xs.length) (hsm : n ≤ 1048576) (hR : Rd w A (iv xs)) :
    Calls Tryz.prog 97 #[.slice A n c] w (ResS (topR xs) w) := by
  have HI := Lib.hid (l07Is_any A n c xs w hn hsm hR)
  cases hp : profB xs with
  | false =>
    rw [hp] at HI
    have HE : Hid (topR xs = ([], 1)) := Lib.hid (by unfold topR; rw [if_neg (by rw [hp]; decide)])
    clear hp hR hn
    go_enter Tryz.func97, Tryz.ntmps97
    go_wp2_with (go_at_call 138; refine HI.out.mono ?_; rintro e w' ⟨rfl, rfl⟩)
    go_ret2
    exact ⟨_, by rw [HE.out]; rfl, by rw [HE.out]; exact World.ownsRow_nil _ _ _ _, Below.refl _ _⟩
  | true =>
    rw [hp] at HI
    have HC := Lib.hid (l07Closed_any A n c xs w hn hp hR)
    cases hcl : closedB xs with
    | false =>
      rw [hcl] at HC
      have HE : Hid (topR xs = ([], 5)) := Lib.hid (by unfold topR; rw [if_pos hp, if_neg (by rw [hcl]; decide)])
      clear hp hcl hR hn
      go_enter Tryz.func97, Tryz.ntmps97
      go_wp2_with (first | (go_at_call 138; refine HI.out.mono ?_; rintro e w' ⟨rfl, rfl⟩) | (go_at_call 139; refine HC.out.mono ?_; rintro e w' ⟨rfl, rfl⟩))
      go_ret2
      exact ⟨_, by rw [HE.out]; rfl, by rw [HE.out]; exact World.ownsRow_nil _ _ _ _, Below.refl _ _⟩
    | true =>
      rw [hcl] at HC
      have HE : Hid (topR xs = if degP (topL xs) ≤ 40 then (topL xs, 0) else ([], 3)) := Lib.hid (by unfold topR; rw [if_pos hp, if_pos hcl])
      have h16 : n ≤ 16 := by rw [hn]; exact ((profB_iff xs).1 hp).1
      have HP := Lib.hid (prof_get hp)
      have HTB := Lib.hid (topL_bd hp)
      have HDB := Lib.hid (degK_bd hp)
      have HTL := Lib.hid (topL_len xs)
      have HR := Lib.hid hR
      have Hn := Lib.hid hn
      clear hp hcl hR hn
      go_enter Tryz.func97, Tryz.ntmps97
      go_wp2_with (first | (go_at_call 138; refine HI.out.mono ?_; rintro e w' ⟨rfl, rfl⟩) | (go_at_call 139; refine HC.out.mono ?_; rintro e w' ⟨rfl, rfl⟩))
      go_loopw [4, 5] (fun v i wr => ∃ k g cap : Nat, k ≤ n ∧ i = .int .i64 k ∧ v = .slice (some ⟨g, 0, none⟩) k cap ∧ wr.ownsRow w.heap.size 2 1 (.slice (some ⟨g, 0, none⟩) k cap) k (iv ((exps xs).take k)) ∧ Below w.heap.size w wr) (fun _ i _ => n - (intOf i).toNat)
      case atStart => exact ⟨0, w.heap.size, 0, by omega, rfl, rfl, World.ownsRow_made w #[] 0 (Nat.le_refl _) (by decide) (by simp), (Below.refl _ _).alloc (Nat.le_refl _) _⟩
      case round =>
        obtain ⟨k, g, cap, hk, rfl, rfl, hown, hbel⟩ := hrel
        have HO := Lib.hid hown
        have HB := Lib.hid hbel
        have hsz := hbel.size
        by_cases hlt : k < n
        · have hkL : k < xs.length := by rw [← Hn.out]; exact hlt
          obtain ⟨b, o, rfl, hc⟩ := (HR.out.below hbel).atI hkL
          have hx := HP.out k
          have HX := Lib.hid (exps_getD xs hkL)
          generalize xs.getD k 0 = x at *
          obtain ⟨d, rfl⟩ := Int.eq_ofNat_of_zero_le hx.1
          have hd : d ≤ 10 := by omega
          obtain ⟨hp1, hp2⟩ := pow10 hd
          have HTS : Hid ((exps xs).take (k + 1) = (exps xs).take k ++ [2 ^ d - 1]) := Lib.hid (by
            rw [List.take_succ_eq_append_getElem (by rw [exps_length]; exact hkL)]
            have h9 := HX.out
            rw [Int.toNat_natCast] at h9
            simp only [List.getD, List.getElem?_eq_getElem (show k < (exps xs).length by rw [exps_length]; exact hkL), Option.getD_some] at h9
            rw [h9])
          clear hown hbel hx
          go_wp2_with (at_builtin; refine wpList_app1 _ _ _ _ _ etI (by rfl) (by rfl) w.heap.size _ k (iv ((exps xs).take k)) (by rfl) ?_ _ (.int .i64 (2 ^ d - 1)) (by rfl) ?_ (by rfl) ?_ ?_ ?_; exact HO.out.alloc _; exact new_cell _ _ _; omega; (simp; omega); (intro g1 cap1 w1 hown1 hgrow1 hat1 hlt1; have HO1 := Lib.hid hown1; have HB1 := Lib.hid (below_app2 HB.out hsz HO.out hgrow1); clear hown1 hgrow1 hat1 hlt1))
          go_roundw
          case rel => exact ⟨k + 1, g1, cap1, by omega, by go_num, rfl, by rw [HTS.out, iv_append]; exact HO1.out, HB1.out⟩
          case measure => simp [intOf]; omega
        · obtain rfl : k = n := by omega
          have he : (exps xs).take k = exps xs := List.take_of_length_le (by rw [exps_length, ← Hn.out]; exact Nat.le_refl _)
          rw [he] at hown
          have HTR := Lib.hid (l06Trim_any g k cap w.heap.size (exps xs) wr (by rw [exps_length]; exact Hn.out) hsm hsz hown)
          clear hown hbel he
          have HTR' : Hid (Calls Tryz.prog 140 #[.slice (some ⟨g, 0, none⟩) k cap] wr fun e w' => ∃ g' c', e = .returned (.slice (some ⟨g', 0, none⟩) (topL xs).length c') ∧ w'.ownsRow wr.heap.size 2 1 (.slice (some ⟨g', 0, none⟩) (topL xs).length c') (topL xs).length (iv (topL xs)) ∧ Below wr.heap.size wr w') := HTR.out
          clear HTR
          have htl := HTL.out
          rw [← Hn.out] at htl
          have HDD : Hid (degP (topL xs) = degK (topL xs) (topL xs).length) := Lib.hid rfl
          generalize hT : topL xs = T at *
          have HT := Lib.hid hT
          clear hT
          generalize hm : T.length = m at *
          have Hm := Lib.hid hm
          clear hm
          go_wp2_with fail
          refine HTR'.out.mono ?_
          rintro e w2 ⟨g', c', rfl, ho, hb⟩
          have HO2 := Lib.hid ho
          have HB2 := Lib.hid (HB.out.trans (hb.mono hsz))
          clear ho hb
          go_wp2_with fail
          go_loop [6, 7] (fun s i => ∃ k : Nat, k ≤ m ∧ i = .int .i64 k ∧ s = .int .i64 (degK T k)) (fun _ i => m - (intOf i).toNat)
          case atStart => exact ⟨0, by omega, rfl, rfl⟩
          case round =>
            obtain ⟨q, hq, rfl, rfl⟩ := hrel
            have hz := HDB.out q (by omega)
            by_cases hlt2 : q < m
            · have hc := owns_getD HO2.out hlt2
              have hy := HTB.out q
              have HDS : Hid (degK T (q + 1) = degK T q + T.getD q 0 * (2 ^ (q + 1) - 1)) := Lib.hid rfl
              generalize T.getD q 0 = y at *
              generalize degK T q = z at *
              obtain ⟨hy1, hy2⟩ := hy
              obtain ⟨hz1, hz2⟩ := hz
              obtain ⟨hp1, hp2⟩ := pow16 (d := q + 1) (by omega)
              obtain ⟨hm1, hm2⟩ := mul_bd hy1 hy2 (p := 2 ^ (q + 1) - 1) (by omega) (by omega)
              go_wp2_with fail
              go_round
              case rel => exact ⟨q + 1, by omega, by go_num, by rw [HDS.out]⟩
              case measure => simp [intOf]; omega
            · obtain rfl : q = m := by omega
              rw [← HDD.out] at hz ⊢
              generalize degP T = z at *
              by_cases h40 : z ≤ 40
              · have HE2 := Lib.hid (HE.out.trans (if_pos h40))
                go_wp2_with fail
                go_ret2
                exact ⟨_, by rw [HE2.out]; rfl, by rw [HE2.out]; simp only [Hm.out]; exact HO2.out.mono hsz, HB2.out⟩
              · have HE2 := Lib.hid (HE.out.trans (if_neg h40))
                go_wp2_with fail
                go_ret2
                exact ⟨_, by rw [HE2.out]; rfl, by rw [HE2.out]; exact World.ownsRow_nil _ _ _ _, HB2.out⟩
end Go.Proofs.YtdkmdmpaflgfaaaGreatDoor

namespace Go.Proofs.YtdkmdmpaflgfaaaGreatDoor
open Go.RowKit

/-- Milnor's element and a code, in new memory -/
def ResN (r : List (List Int) × Int) (w : World) (e : Ending) (w' : World) : Prop := ∃ v M, e = .returned (.tuple #[.agg #[v], .int .i64 r.2]) ∧ dat M = r.1 ∧ OwnR w' w.heap.size v M ∧ Below w.heap.size w w'
theorem topE_ok {xs : List Int} (h : (topR xs).2 = 0) : topElementOf xs = ([(topR xs).1], 0) := by unfold topElementOf; rw [if_pos h]
theorem topE_no {xs : List Int} (h : (topR xs).2 ≠ 0) : topElementOf xs = ([], (topR xs).2) := by unfold topElementOf; rw [if_neg h]
/-- rows of one row in a new block -/
theorem one_row {w : World} {B : Nat} {r : Row} (hB : B ≤ w.heap.size) (hr : w.ownsRow B 2 1 r.val r.xs.length (iv r.xs)) :
    OwnR (w.alloc (.cells #[r.val] 22)) B (.slice (some ⟨w.heap.size, 0, none⟩) 1 1) [r] := by
  refine ⟨⟨by simp [hv], .inr ⟨w.heap.size, 1, _, rfl, hB, blk_new w _, Nat.le_refl _, by decide, by simp, by simp [hv]⟩⟩, ?_, ?_⟩
  · intro i hi
    obtain rfl : i = 0 := by simp at hi; omega
    exact hr.alloc _
  · intro i j hi hj hne
    simp at hi hj
    omega
theorem blk1cell {w : World} {g : Nat} {u : Value} {t : TypeId} (h : w.heap[g]? = some (.cells #[u] t (0, 0))) : w.cell? ⟨g, 0, none⟩ = some u ∧ w.frozen? ⟨g, 0, none⟩ = false ∧ g < w.heap.size :=
  ⟨cell_of_row w g 0 #[u] _ (0, 0) h, by simp [World.frozen?, h], (Array.getElem?_eq_some_iff.1 h).1⟩
theorem OwnR.setO {w : World} {B : Nat} {v : Value} {L : List Row} {g : Nat} {u : Value} {t : TypeId} (h : OwnR w B v L) (hb : w.heap[g]? = some (.cells #[u] t (0, 0))) (h1 : 2 ≠ t) (h2 : 22 ≠ t) (x : Value) : OwnR (w.setCell ⟨g, 0, none⟩ x) B v L :=
  h.keeps ((Keeps.refl w [some g]).setCell (p := ⟨g, 0, none⟩) (by simp) x) (.inr (by have := own_ne_blk h.out hb h2; simpa using this)) (fun i hi => .inr (by have := own_ne_blk (h.inn i hi) hb h1; simpa using this))

theorem prof_closure (w : World) (x : Int) : Asks0 Tryz.prog 141 w (.int .i64 x) (inB x 0 10) := by
  intro m
  have HI := Lib.hid (fun W => in_any x 0 10 W)
  go_enter Tryz.func141, Tryz.ntmps141
  go_wp2_with (go_at_call 102; refine (HI.out _).mono ?_; rintro e w' ⟨rfl, rfl⟩)
  go_ret
  exact ⟨rfl, m, rfl⟩
theorem isProfile_any (A : Option Addr) (n c : Nat) (xs : List Int) (w : World) (hn : n = xs.length) (hsm : n ≤ 1048576) (hR : Rd w A (iv xs)) :
    Calls Tryz.prog 98 #[.slice A n c] w fun e w' => e = .returned (.bool (profB xs)) ∧ Below w.heap.size w w' := by
  by_cases h16 : n ≤ 16
  · have HA := Lib.hid (all0_any A n c xs 141 (fun x => inB x 0 10) w (fun args w => Tryz.call141 args w) hn (by omega) hR (fun x _ o => prof_closure _ x))
    have HE : Hid (profB xs = xs.all fun x => inB x 0 10) := Lib.hid (by unfold profB; rw [decide_eq_true (by omega)]; rfl)
    have h16' : (n : Int) ≤ 16 := by omega
    clear hR hn
    go_enter Tryz.func98, Tryz.ntmps98
    go_wp2_with (go_at_call 122; refine HA.out.mono ?_; rintro e w' ⟨rfl, hb⟩; have HB := Lib.hid hb; clear hb)
    go_ret
    exact ⟨by rw [HE.out]; rfl, HB.out⟩
  · have HE : Hid (profB xs = false) := Lib.hid (by unfold profB; rw [decide_eq_false (by omega)]; rfl)
    have h16' : ¬ (n : Int) ≤ 16 := by omega
    clear hR hn
    go_enter Tryz.func98, Tryz.ntmps98
    go_wp2_with fail
    go_ret
    exact ⟨by rw [HE.out]; rfl, Below.refl _ _⟩

set_option maxHeartbeats 1000000 in
theorem at_any (A : Option Addr) (n c : Nat) (xs : List Int) (z : Int) (j : Nat) (w : World) (hn : n = xs.length) (hsm : n ≤ 1048576) (hz : z = (j : Int) + 1) (hj : j ≤ 3000000) (hR : Rd w A (iv xs)) :
    Calls Tryz.prog 142 #[.slice A n c, .int .i64 z] w fun e w' => e = .returned (.int .i64 (atP xs (j + 1))) ∧ w = w' := by
  subst hz
  by_cases h : n < j + 1
  · have HE : Hid (atP xs (j + 1) = 0) := Lib.hid (by unfold atP; rw [if_pos (by omega)])
    have h' : (n : Int) < (j : Int) + 1 := by omega
    clear hR
    go_enter Tryz.func142, Tryz.ntmps142
    go_wp2_with fail
    go_ret
    exact ⟨by rw [HE.out]; rfl, rfl⟩
  · have HE : Hid (atP xs (j + 1) = xs.getD j 0) := Lib.hid (by unfold atP; rw [if_neg (by omega)]; rfl)
    have h' : ¬ (n : Int) < (j : Int) + 1 := by omega
    have hjn : j < n := by omega
    obtain ⟨b, o, rfl, hc⟩ := hR.atI (k := j) (by omega)
    clear hR
    go_enter Tryz.func142, Tryz.ntmps142
    go_wp2_with fail
    go_ret
    exact ⟨by rw [HE.out]; rfl, rfl⟩


def ndP (xs : List Int) (i j : Nat) : Int := min (atP xs (j + 1)) (atP xs (i + 1) - ((j : Int) + 1))
set_option maxHeartbeats 1000000 in
theorem needed_any (A : Option Addr) (n c : Nat) (xs : List Int) (y z : Int) (i j : Nat) (w : World) (hn : n = xs.length) (hsm : n ≤ 1048576) (hp : profB xs = true) (hy : y = (i : Int) + 1) (hz : z = (j : Int) + 1) (hi : i ≤ 100) (hj : j ≤ 100) (hR : Rd w A (iv xs)) :
    Calls Tryz.prog 143 #[.slice A n c, .int .i64 y, .int .i64 z] w fun e w' => e = .returned (.int .i64 (ndP xs i j)) ∧ w = w' := by
  have HA1 := Lib.hid (fun z' (hz : z' = (j : Int) + 1) => at_any A n c xs z' j w hn hsm hz (by omega) hR)
  have HA2 := Lib.hid (fun z' (hz : z' = (i : Int) + 1) => at_any A n c xs z' i w hn hsm hz (by omega) hR)
  obtain ⟨b1, b2⟩ := atP_bd hp (j + 1)
  obtain ⟨b3, b4⟩ := atP_bd hp (i + 1)
  have HE : Hid (ndP xs i j = min (atP xs (j + 1)) (atP xs (i + 1) - ((j : Int) + 1))) := Lib.hid rfl
  generalize atP xs (j + 1) = q at *
  generalize atP xs (i + 1) = r at *
  subst hy
  subst hz
  clear hR hn hp
  go_enter Tryz.func143, Tryz.ntmps143
  go_wp2_with fail
  refine (HA1.out _ rfl).mono ?_
  rintro e w' ⟨rfl, rfl⟩
  go_wp2_with fail
  refine (HA2.out _ rfl).mono ?_
  rintro e w' ⟨rfl, rfl⟩
  rcases Int.lt_or_le (r - ((j : Int) + 1)) q with hm | hm
  · have HM : Hid (min q (r - ((j : Int) + 1)) = r - ((j : Int) + 1)) := Lib.hid (by omega)
    go_wp2_with fail
    go_ret
    exact ⟨by rw [HE.out, HM.out]; rfl, rfl⟩
  · have hm' : ¬ (r - ((j : Int) + 1) < q) := by omega
    have HM : Hid (min q (r - ((j : Int) + 1)) = q) := Lib.hid (by omega)
    go_wp2_with fail
    go_ret
    exact ⟨by rw [HE.out, HM.out]; rfl, rfl⟩

set_option maxHeartbeats 2000000 in
theorem isClosed_any (A : Option Addr) (n c : Nat) (xs : List Int) (w : World) (hn : n = xs.length) (hp : profB xs = true) (hR : Rd w A (iv xs)) :
    Calls Tryz.prog 99 #[.slice A n c] w fun e w' => e = .returned (.bool (closedB xs)) ∧ w = w' := by
  have h16 : n ≤ 16 := by rw [hn]; exact ((profB_iff xs).1 hp).1
  have Hn := Lib.hid hn
  have HB := Lib.hid (atP_bd hp)
  have HA := Lib.hid (fun (z : Int) (j : Nat) W (hz : z = (j : Int) + 1) (hj : j ≤ 100) (hw : w = W) => at_any A n c xs z j W hn (by omega) hz (by omega) (hw ▸ hR))
  have HND := Lib.hid (fun (y z : Int) (i j : Nat) W (hy : y = (i : Int) + 1) (hz : z = (j : Int) + 1) (hi : i ≤ 100) (hj : j ≤ 100) (hw : w = W) => needed_any A n c xs y z i j W hn (by omega) hp hy hz hi hj (hw ▸ hR))
  clear hR hn hp
  go_enter Tryz.func99, Tryz.ntmps99
  go_wp2_with fail
  go_loop [7] (fun v => ∃ i : Nat, i ≤ n ∧ v = .int .i64 i ∧ Hid (∀ i', i' < i → ∀ j, j < n → clAt xs i' j = true)) (fun v => n - (intOf v).toNat)
  case atStart => exact ⟨0, by omega, rfl, Lib.hid (fun i hi => by omega)⟩
  case round =>
    obtain ⟨i, hi, rfl, HP⟩ := hrel
    by_cases hlt : i < n
    · go_wp2_with fail
      go_loop [12] (fun v => ∃ j : Nat, j ≤ n ∧ v = .int .i64 j ∧ Hid (∀ j', j' < j → clAt xs i j' = true)) (fun v => n - (intOf v).toNat)
      case atStart => exact ⟨0, by omega, rfl, Lib.hid (fun i hi => by omega)⟩
      case round =>
        obtain ⟨j, hj, rfl, HQ⟩ := hrel
        by_cases hlt2 : j < n
        · have b1 := HB.out (i + j + 1 + 1)
          have HE : Hid (clAt xs i j = !decide (atP xs (i + j + 1 + 1) < ndP xs i j)) := Lib.hid rfl
          have A1 := Lib.hid (fun z W hz hw => HA.out z (i + j + 1) W hz (by omega) hw)
          have A2 := Lib.hid (fun y z W hy hz hw => HND.out y z i j W hy hz (by omega) (by omega) hw)
          generalize atP xs (i + j + 1 + 1) = p at *
          generalize ndP xs i j = q at *
          obtain ⟨b11, b12⟩ := b1
          go_wp2_with fail
          refine (A1.out _ _ (by omega) rfl).mono ?_
          rintro e w' ⟨rfl, rfl⟩
          go_wp2_with fail
          refine (A2.out _ _ _ (by omega) (by omega) rfl).mono ?_
          rintro e w' ⟨rfl, rfl⟩
          by_cases hcm : p < q
          · have HF : Hid (closedB xs = false) := Lib.hid (by
              cases hcl : closedB xs with
              | false => rfl
              | true =>
                have h9 := (closedB_iff xs).1 hcl i (by rw [← Hn.out]; exact hlt) j (by rw [← Hn.out]; exact hlt2)
                rw [HE.out, decide_eq_true hcm] at h9
                cases h9)
            go_wp2_with fail
            go_ret
            exact ⟨by rw [HF.out]; rfl, rfl⟩
          · have HT : Hid (clAt xs i j = true) := Lib.hid (by rw [HE.out, decide_eq_false hcm]; rfl)
            go_wp2_with fail
            go_round
            case rel =>
              refine ⟨j + 1, by omega, by go_num, Lib.hid (fun j' hj' => ?_)⟩
              by_cases e : j' = j
              · subst e; exact HT.out
              · exact HQ.out j' (by omega)
            case measure => simp [intOf]; omega
        · obtain rfl : j = n := by omega
          go_wp2_with fail
          go_round
          case rel =>
            refine ⟨i + 1, by omega, by go_num, Lib.hid (fun i' hi' => ?_)⟩
            by_cases e : i' = i
            · subst e; exact HQ.out
            · exact HP.out i' (by omega)
          case measure => simp [intOf]; omega
    · obtain rfl : i = n := by omega
      have HE : Hid (closedB xs = true) := Lib.hid ((closedB_iff xs).2 (by rw [← Hn.out]; exact HP.out))
      go_wp2_with fail
      go_ret
      exact ⟨by rw [HE.out]; rfl, rfl⟩

set_option maxHeartbeats 1000000 in
theorem degree_any (A : Option Addr) (n c : Nat) (xs : List Int) (w : World) (hn : n = (topL xs).length) (hp : profB xs = true) (hR : Rd w A (iv (topL xs))) :
    Calls Tryz.prog 57 #[.slice A n c] w fun e w' => e = .returned (.int .i64 (degP (topL xs))) ∧ w = w' := by
  have h16 : n ≤ 16 := by rw [hn]; exact Nat.le_trans (topL_len xs) ((profB_iff xs).1 hp).1
  have HTB := Lib.hid (topL_bd hp)
  have HDB := Lib.hid (degK_bd hp)
  have HDD : Hid (degP (topL xs) = degK (topL xs) (topL xs).length) := Lib.hid rfl
  have Hn := Lib.hid hn
  have HR := Lib.hid hR
  clear hR hn hp
  generalize topL xs = T at *
  go_enter Tryz.func57, Tryz.ntmps57
  go_wp2_with fail
  go_loop [3, 8] (fun s i => ∃ k : Nat, k ≤ n ∧ i = .int .i64 k ∧ s = .int .i64 (degK T k)) (fun _ i => n - (intOf i).toNat)
  case atStart => exact ⟨0, by omega, rfl, rfl⟩
  case round =>
    obtain ⟨q, hq, rfl, rfl⟩ := hrel
    have hz := HDB.out q (by omega)
    by_cases hlt2 : q < n
    · obtain ⟨b, o, rfl, hc⟩ := HR.out.atI (k := q) (by rw [← Hn.out]; exact hlt2)
      have hy := HTB.out q
      have HDS : Hid (degK T (q + 1) = degK T q + T.getD q 0 * (2 ^ (q + 1) - 1)) := Lib.hid rfl
      generalize T.getD q 0 = y at *
      generalize degK T q = z at *
      obtain ⟨hy1, hy2⟩ := hy
      obtain ⟨hz1, hz2⟩ := hz
      obtain ⟨hp1, hp2⟩ := pow16 (d := q + 1) (by omega)
      obtain ⟨hm1, hm2⟩ := mul_bd hy1 hy2 (p := 2 ^ (q + 1) - 1) (by omega) (by omega)
      go_wp2_with fail
      go_round
      case rel => exact ⟨q + 1, by omega, by go_num, by rw [HDS.out]⟩
      case measure => simp [intOf]; omega
    · obtain rfl : q = n := by omega
      have HQ : Hid (degK T q = degP T) := Lib.hid (by rw [HDD.out, Hn.out])
      go_wp2_with fail
      go_ret
      exact ⟨by rw [← HQ.out]; rfl, rfl⟩

set_option maxHeartbeats 1000000 in
theorem trimmed_any (g n c B : Nat) (ys : List Int) (w : World) (hn : n = ys.length) (hsm : n ≤ 1048576) (hO : w.ownsRow B 2 1 (.slice (some ⟨g, 0, none⟩) n c) n (iv ys)) :
    Calls Tryz.prog 100 #[.slice (some ⟨g, 0, none⟩) n c] w fun e w' => e = .returned (.slice (some ⟨g, 0, none⟩) (trimL ys).length c) ∧ w = w' := by
  have hcap := owns_cap hO
  have HR := Lib.hid (owns_Rd hO)
  have Hn := Lib.hid hn
  clear hn hO
  go_enter Tryz.func100, Tryz.ntmps100
  go_wp2_with fail
  go_loop [0] (fun v => ∃ k : Nat, k ≤ n ∧ v = .slice (some ⟨g, 0, none⟩) k c ∧ Hid (trimN ys ys.length = trimN ys k)) (fun v => match v with | .slice _ k _ => k | _ => 0)
  case atStart => exact ⟨n, by omega, rfl, Lib.hid (by rw [Hn.out])⟩
  case round =>
    obtain ⟨k, hk, rfl, HT⟩ := hrel
    have HF := Lib.hid (show trimN ys k = k → (trimL ys).length = k from fun h => by
      unfold trimL; rw [HT.out, h, List.length_take, ← Hn.out]; omega)
    by_cases h0 : k = 0
    · subst h0
      have HF2 := Lib.hid (HF.out rfl)
      go_wp2_with fail
      go_ret
      exact ⟨by rw [HF2.out]; rfl, rfl⟩
    · obtain ⟨j, rfl⟩ : ∃ j, k = j + 1 := ⟨k - 1, by omega⟩
      obtain ⟨b', o', e', hc⟩ := HR.out.atI (k := j) (by rw [← Hn.out]; omega)
      injection e' with e'
      injection e' with e1 e2 _
      subst e1; subst e2
      rw [Nat.zero_add] at hc
      have hj0 : 0 < j + 1 := by omega
      have hj1 : (0 : Int) < (j : Int) + 1 := by omega
      have HTS : Hid (trimN ys (j + 1) = if ys.getD j 0 = 0 then trimN ys j else j + 1) := Lib.hid rfl
      have hjc : (j : Int) ≤ (c : Int) := by omega
      have hjj : j < j + 1 := by omega
      generalize hx : ys.getD j 0 = x at *
      by_cases hx0 : x = 0
      · subst hx0
        go_wp2_with fail
        go_round
        case rel => exact ⟨j, by omega, rfl, Lib.hid (by rw [HT.out, HTS.out, if_pos rfl])⟩
        case measure => simp
      · have HF2 := Lib.hid (HF.out (by rw [HTS.out, if_neg hx0]))
        have hxb : ((x : Int) == 0) = false := by simpa using hx0
        go_wp2_with fail
        go_ret
        exact ⟨by rw [HF2.out]; rfl, rfl⟩

set_option maxRecDepth 100000 in
set_option maxHeartbeats 2000000 in
theorem topExponents_any (A : Option Addr) (n c : Nat) (xs : List Int) (w : World) (hn : n = xs.length) (hp : profB xs = true) (hR : Rd w A (iv xs)) :
    Calls Tryz.prog 66 #[.slice A n c] w fun e w' => ∃ g c', e = .returned (.slice (some ⟨g, 0, none⟩) (topL xs).length c') ∧ Rd w' (some ⟨g, 0, none⟩) (iv (topL xs)) ∧ Below w.heap.size w w' ∧ (topL xs).length ≤ c' := by
  have h16 : n ≤ 16 := by rw [hn]; exact ((profB_iff xs).1 hp).1
  have HP := Lib.hid (prof_get hp)
  have HR := Lib.hid hR
  have Hn := Lib.hid hn
  clear hp hR hn
  go_enter Tryz.func66, Tryz.ntmps66
  go_wp2_with fail
  go_loopw [3, 9] (fun v i wr => ∃ k g cap : Nat, k ≤ n ∧ i = .int .i64 k ∧ v = .slice (some ⟨g, 0, none⟩) k cap ∧ wr.ownsRow w.heap.size 2 1 (.slice (some ⟨g, 0, none⟩) k cap) k (iv ((exps xs).take k)) ∧ Below w.heap.size w wr) (fun _ i _ => n - (intOf i).toNat)
  case atStart => exact ⟨0, w.heap.size, 0, by omega, rfl, rfl, World.ownsRow_made w #[] 0 (Nat.le_refl _) (by decide) (by simp), (Below.refl _ _).alloc (Nat.le_refl _) _⟩
  case round =>
    obtain ⟨k, g, cap, hk, rfl, rfl, hown, hbel⟩ := hrel
    have HO := Lib.hid hown
    have HB := Lib.hid hbel
    have hsz := hbel.size
    by_cases hlt : k < n
    · have hkL : k < xs.length := by rw [← Hn.out]; exact hlt
      obtain ⟨b, o, rfl, hc⟩ := (HR.out.below hbel).atI hkL
      have hx := HP.out k
      have HX := Lib.hid (exps_getD xs hkL)
      generalize xs.getD k 0 = x at *
      obtain ⟨d, rfl⟩ := Int.eq_ofNat_of_zero_le hx.1
      have hd : d ≤ 10 := by omega
      obtain ⟨hp1, hp2⟩ := pow10 hd
      have HTS : Hid ((exps xs).take (k + 1) = (exps xs).take k ++ [2 ^ d - 1]) := Lib.hid (by
        rw [List.take_succ_eq_append_getElem (by rw [exps_length]; exact hkL)]
        have h9 := HX.out
        rw [Int.toNat_natCast] at h9
        simp only [List.getD, List.getElem?_eq_getElem (show k < (exps xs).length by rw [exps_length]; exact hkL), Option.getD_some] at h9
        rw [h9])
      clear hown hbel hx
      go_wp2_with (at_builtin; refine wpList_app1 _ _ _ _ _ etI (by rfl) (by rfl) w.heap.size _ k (iv ((exps xs).take k)) (by rfl) ?_ _ (.int .i64 (2 ^ d - 1)) (by rfl) ?_ (by rfl) ?_ ?_ ?_; exact HO.out.alloc _; exact new_cell _ _ _; omega; (simp; omega); (intro g1 cap1 w1 hown1 hgrow1 hat1 hlt1; have HO1 := Lib.hid hown1; have HB1 := Lib.hid (below_app2 HB.out hsz HO.out hgrow1); clear hown1 hgrow1 hat1 hlt1))
      go_roundw
      case rel => exact ⟨k + 1, g1, cap1, by omega, by go_num, rfl, by rw [HTS.out, iv_append]; exact HO1.out, HB1.out⟩
      case measure => simp [intOf]; omega
    · obtain rfl : k = n := by omega
      have he : (exps xs).take k = exps xs := List.take_of_length_le (by rw [exps_length, ← Hn.out]; exact Nat.le_refl _)
      rw [he] at hown
      have HTR := Lib.hid (trimmed_any g k cap w.heap.size (exps xs) wr (by rw [exps_length]; exact Hn.out) (by omega) hown)
      have HCP := Lib.hid (show (topL xs).length ≤ cap from by have h1 := owns_cap hown; have h2 := topL_len xs; have h3 := Hn.out; omega)
      have HRT := Lib.hid (show Rd wr (some ⟨g, 0, none⟩) (iv (topL xs)) from by
        rcases owns_Rd hown with h | ⟨b, o, h1, h2⟩
        · left
          have : exps xs = [] := by cases hh : exps xs with | nil => rfl | cons y ys => rw [hh] at h; cases h
          simp [topL, trimL, this, iv]
        · refine .inr ⟨b, o, h1, fun j v hj => h2 j v ?_⟩
          simp only [topL, trimL, iv, List.getElem?_map, List.getElem?_take] at hj ⊢
          split at hj
          · exact hj
          · cases hj)
      clear hown hbel he
      have HTR' : Hid (Calls Tryz.prog 100 #[.slice (some ⟨g, 0, none⟩) k cap] wr fun e w' => e = .returned (.slice (some ⟨g, 0, none⟩) (topL xs).length cap) ∧ wr = w') := HTR.out
      clear HTR
      go_wp2_with fail
      refine HTR'.out.mono ?_
      rintro e w' ⟨rfl, rfl⟩
      go_wp2_with fail
      go_ret
      exact ⟨g, cap, rfl, HRT.out, HB.out, HCP.out⟩

set_option maxHeartbeats 2000000 in
theorem topped_any (A : Option Addr) (n c : Nat) (xs : List Int) (w : World) (hn : n = xs.length) (hsm : n ≤ 1048576) (hR : Rd w A (iv xs)) :
    Calls Tryz.prog 65 #[.slice A n c] w fun e w' => e = .returned (.int .i64 (topR xs).2) ∧ Below w.heap.size w w' := by
  have HI := Lib.hid (isProfile_any A n c xs w hn hsm hR)
  cases hp : profB xs with
  | false =>
    rw [hp] at HI
    have HE : Hid ((topR xs).2 = 1) := Lib.hid (by unfold topR; rw [if_neg (by rw [hp]; decide)])
    clear hp hR hn
    go_enter Tryz.func65, Tryz.ntmps65
    go_wp2_with fail
    refine HI.out.mono ?_
    rintro e w1 ⟨rfl, hb⟩
    have HB := Lib.hid hb
    clear hb
    go_wp2_with fail
    go_ret
    exact ⟨by rw [HE.out]; rfl, HB.out⟩
  | true =>
    rw [hp] at HI
    have HC := Lib.hid (fun W (hb : Below w.heap.size w W) => isClosed_any A n c xs W hn hp (hR.below hb))
    cases hcl : closedB xs with
    | false =>
      rw [hcl] at HC
      have HE : Hid ((topR xs).2 = 5) := Lib.hid (by unfold topR; rw [if_pos hp, if_neg (by rw [hcl]; decide)])
      clear hp hcl hR hn
      go_enter Tryz.func65, Tryz.ntmps65
      go_wp2_with fail
      refine HI.out.mono ?_
      rintro e w1 ⟨rfl, hb⟩
      have HB := Lib.hid hb
      clear hb
      go_wp2_with fail
      refine (HC.out _ HB.out).mono ?_
      rintro e w' ⟨rfl, rfl⟩
      go_wp2_with fail
      go_ret
      exact ⟨by rw [HE.out]; rfl, HB.out⟩
    | true =>
      rw [hcl] at HC
      have HE : Hid ((topR xs).2 = if degP (topL xs) ≤ 40 then 0 else 3) := Lib.hid (by unfold topR; rw [if_pos hp, if_pos hcl]; split <;> rfl)
      have HT := Lib.hid (fun W (hb : Below w.heap.size w W) => topExponents_any A n c xs W hn hp (hR.below hb))
      have HD := Lib.hid (fun A c W (hR : Rd W A (iv (topL xs))) => degree_any A (topL xs).length c xs W rfl hp hR)
      clear hp hcl hR hn
      go_enter Tryz.func65, Tryz.ntmps65
      go_wp2_with fail
      refine HI.out.mono ?_
      rintro e w1 ⟨rfl, hb⟩
      have HB := Lib.hid hb
      have hs1 := hb.size
      clear hb
      go_wp2_with fail
      refine (HC.out _ HB.out).mono ?_
      rintro e w' ⟨rfl, rfl⟩
      go_wp2_with fail
      refine (HT.out _ HB.out).mono ?_
      rintro e w2 ⟨g, c', rfl, hr, hb, _⟩
      have HB2 := Lib.hid (HB.out.trans (hb.mono hs1))
      have HR2 := Lib.hid hr
      clear hr hb
      go_wp2_with fail
      refine (HD.out _ _ _ HR2.out).mono ?_
      rintro e w' ⟨rfl, rfl⟩
      generalize degP (topL xs) = z at *
      by_cases h40 : z ≤ 40
      · go_wp2_with fail
        go_ret
        exact ⟨by rw [HE.out, if_pos h40]; rfl, HB2.out⟩
      · go_wp2_with fail
        go_ret
        exact ⟨by rw [HE.out, if_neg (by omega)]; rfl, HB2.out⟩

set_option maxHeartbeats 1000000 in
theorem eqMilnor_any (A A' : Option Addr) (n n' c c' : Nat) (L M : List Row) (w : World) (hn : n = L.length) (hn' : n' = M.length) (hsm : n ≤ 1099511627776) (hl : ∀ i, i < L.length → (rg L i).xs.length ≤ 1099511627776) (hd : dat M = dat L) (hR : RdR w A L) (hR' : RdR w A' M) :
    Calls Tryz.prog 199 #[.agg #[.slice A n c], .agg #[.slice A' n' c']] w fun e w' => e = .returned (.bool true) ∧ Below w.heap.size w w' := by
  have hk1 := blk_alloc (blk_new w (.cells #[.slice A n c] 158)) (.cells #[.slice A' n' c'] 158)
  have hk2 := blk_new1 w (.cells #[.slice A n c] 158) (.cells #[.slice A' n' c'] 158)
  have hbel : Below w.heap.size w ((w.alloc (.cells #[.slice A n c] 158)).alloc (.cells #[.slice A' n' c'] 158)) := ((Below.refl _ _).alloc (Nat.le_refl _) _).alloc (by simp) _
  obtain ⟨x0, _, _⟩ := blk1cell hk1
  obtain ⟨y0, _, _⟩ := blk1cell hk2
  have HC := Lib.hid (eqRowsB_any A A' n n' c c' L M _ hn hn' hsm hl hd (hR.below hbel) (hR'.below hbel))
  have HB := Lib.hid hbel
  clear hk1 hk2 hbel hn hn' hl hd hR hR'
  go_enter Tryz.func199, Tryz.ntmps199
  go_wp2_with fail
  refine HC.out.mono ?_
  rintro e w1 ⟨rfl, hb⟩
  have HB1 := Lib.hid (HB.out.trans (hb.mono HB.out.size))
  clear hb
  go_wp2_with fail
  go_ret
  exact ⟨rfl, HB1.out⟩
end Go.Proofs.YtdkmdmpaflgfaaaGreatDoor
