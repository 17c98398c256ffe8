/- the program's TopElement -/
import Derived.Test.YtocllmhkppkfoaaTb
namespace Go.Proofs.Ytocllmhkppkfoaa
open Go.RowKit

/-- Milnor's element and a code, in new memory -/
def ResN (r : List (List Int) × Int) (w : World) (e : Ending) (w' : World) : Prop := ∃ v M, e = .returned (.tuple #[.agg #[v], .int .i64 r.2]) ∧ dat M = r.1 ∧ OwnR w' w.heap.size v M ∧ Below w.heap.size w w'
theorem topE_ok {xs : List Int} (h : (topR xs).2 = 0) : topElementOf xs = ([(topR xs).1], 0) := by unfold topElementOf; rw [if_pos h]
theorem topE_no {xs : List Int} (h : (topR xs).2 ≠ 0) : topElementOf xs = ([], (topR xs).2) := by unfold topElementOf; rw [if_neg h]
/-- rows of one row in a new block -/
theorem one_row {w : World} {B : Nat} {r : Row} (hB : B ≤ w.heap.size) (hr : w.ownsRow B 2 1 r.val r.xs.length (iv r.xs)) :
    OwnR (w.alloc (.cells #[r.val] 24)) B (.slice (some ⟨w.heap.size, 0, none⟩) 1 1) [r] := by
  refine ⟨⟨by simp [hv], .inr ⟨w.heap.size, 1, _, rfl, hB, blk_new w _, Nat.le_refl _, by decide, by simp, by simp [hv]⟩⟩, ?_, ?_⟩
  · intro i hi
    obtain rfl : i = 0 := by simp at hi; omega
    exact hr.alloc _
  · intro i j hi hj hne
    simp at hi hj
    omega
theorem blk1cell {w : World} {g : Nat} {u : Value} {t : TypeId} (h : w.heap[g]? = some (.cells #[u] t (0, 0))) : w.cell? ⟨g, 0, none⟩ = some u ∧ w.frozen? ⟨g, 0, none⟩ = false ∧ g < w.heap.size :=
  ⟨cell_of_row w g 0 #[u] _ (0, 0) h, by simp [World.frozen?, h], (Array.getElem?_eq_some_iff.1 h).1⟩
theorem OwnR.setO {w : World} {B : Nat} {v : Value} {L : List Row} {g : Nat} {u : Value} {t : TypeId} (h : OwnR w B v L) (hb : w.heap[g]? = some (.cells #[u] t (0, 0))) (h1 : 2 ≠ t) (h2 : 24 ≠ t) (x : Value) : OwnR (w.setCell ⟨g, 0, none⟩ x) B v L :=
  h.keeps ((Keeps.refl w [some g]).setCell (p := ⟨g, 0, none⟩) (by simp) x) (.inr (by have := own_ne_blk h.out hb h2; simpa using this)) (fun i hi => .inr (by have := own_ne_blk (h.inn i hi) hb h1; simpa using this))

set_option maxHeartbeats 1000000 in
theorem specTopElement_any (A : Option Addr) (n c : Nat) (xs : List Int) (w : World) (hn : n = xs.length) (hsm : n ≤ 1048576) (hR : Rd w A (iv xs)) :
    Calls Try.prog 18 #[.slice A n c] w (ResN (topElementOf xs) w) := by
  have hk := blk_new w (.cells #[.slice none 0 0] 33)
  have HC := Lib.hid (l13Top_any A n c xs _ hn hsm (hR.alloc (.cells #[.slice none 0 0] 33)))
  have HK := Lib.hid hk
  clear hk hR hn
  go_enter Try.func18, Try.ntmps18
  go_wp2_with fail
  refine HC.out.mono ?_
  rintro e w1 ⟨v, rfl, ho, hb⟩
  have HK1 := Lib.hid (blk_kept HK.out hb)
  have HB1 := Lib.hid (((Below.refl w.heap.size w).alloc (Nat.le_refl _) (.cells #[.slice none 0 0] 33)).trans (hb.mono (by simp)))
  have hB1 := HB1.out.size
  obtain ⟨x0, xf, xl⟩ := blk1cell HK1.out
  obtain ⟨A1, c1, rfl, _, _, _⟩ := owns_shape ho
  have HO := Lib.hid (ho.mono (show w.heap.size ≤ _ by simp))
  clear ho hb
  by_cases h0 : (topR xs).2 = 0
  · have HE := Lib.hid (topE_ok h0)
    rw [h0]
    clear h0
    go_wp2_with fail
    have hne := own_ne_blk HO.out HK1.out (by decide)
    have hz : (w1.setCell ⟨w.heap.size, 0, none⟩ (.slice (some ⟨w1.heap.size, 0, none⟩) 1 1)).heap.size = w1.heap.size := by simp [World.setCell]
    have hor := one_row (w := w1.setCell ⟨w.heap.size, 0, none⟩ (.slice (some ⟨w1.heap.size, 0, none⟩) 1 1)) (r := ⟨A1, c1, (topR xs).1⟩) (by rw [hz]; exact hB1) (owns_keeps HO.out ((Keeps.refl w1 [some w.heap.size]).setCell (p := ⟨w.heap.size, 0, none⟩) (by simp) _) (.inr (by simp only [List.mem_singleton]; exact hne)))
    rw [hz] at hor
    refine bodyPost_ret (v := .tuple #[.agg #[.slice (some ⟨w1.heap.size, 0, none⟩) 1 1], .int .i64 0]) ?_ rfl ⟨_, _, by rw [HE.out], ?_, hor, ?_⟩
    · simp [results, Try.results18, go_sem, x0, xl]
    · rw [HE.out]; rfl
    · exact (HB1.out.setCell (p := ⟨w.heap.size, 0, none⟩) (Nat.le_refl _) _).alloc (by rw [hz]; exact hB1) _
  · have HE := Lib.hid (topE_no h0)
    generalize (topR xs).2 = code at *
    have hcb : (code != 0) = true := by simpa using h0
    clear h0
    go_wp2_with fail
    refine bodyPost_ret (v := .tuple #[.agg #[.slice none 0 0], .int .i64 code]) ?_ rfl ⟨_, [], by rw [HE.out], by rw [HE.out]; rfl, OwnR.nil _ _, ?_⟩
    · simp [results, Try.results18, go_sem, x0, xl]
    · exact HB1.out.setCell (p := ⟨w.heap.size, 0, none⟩) (Nat.le_refl _) _

theorem prof_closure (w : World) (x : Int) : Asks0 Try.prog 89 w (.int .i64 x) (inB x 0 10) := by
  intro m
  have HI := Lib.hid (fun W => in_any x 0 10 W)
  go_enter Try.func89, Try.ntmps89
  go_wp2_with (go_at_call 40; refine (HI.out _).mono ?_; rintro e w' ⟨rfl, rfl⟩)
  go_ret
  exact ⟨rfl, m, rfl⟩
theorem isProfile_any (A : Option Addr) (n c : Nat) (xs : List Int) (w : World) (hn : n = xs.length) (hsm : n ≤ 1048576) (hR : Rd w A (iv xs)) :
    Calls Try.prog 70 #[.slice A n c] w fun e w' => e = .returned (.bool (profB xs)) ∧ Below w.heap.size w w' := by
  by_cases h16 : n ≤ 16
  · have HA := Lib.hid (all0_any A n c xs 89 (fun x => inB x 0 10) w (fun args w => Try.call89 args w) hn (by omega) hR (fun x _ o => prof_closure _ x))
    have HE : Hid (profB xs = xs.all fun x => inB x 0 10) := Lib.hid (by unfold profB; rw [decide_eq_true (by omega)]; rfl)
    have h16' : (n : Int) ≤ 16 := by omega
    clear hR hn
    go_enter Try.func70, Try.ntmps70
    go_wp2_with (go_at_call 41; refine HA.out.mono ?_; rintro e w' ⟨rfl, hb⟩; have HB := Lib.hid hb; clear hb)
    go_ret
    exact ⟨by rw [HE.out]; rfl, HB.out⟩
  · have HE : Hid (profB xs = false) := Lib.hid (by unfold profB; rw [decide_eq_false (by omega)]; rfl)
    have h16' : ¬ (n : Int) ≤ 16 := by omega
    clear hR hn
    go_enter Try.func70, Try.ntmps70
    go_wp2_with fail
    go_ret
    exact ⟨by rw [HE.out]; rfl, Below.refl _ _⟩

set_option maxHeartbeats 1000000 in
theorem at_any (A : Option Addr) (n c : Nat) (xs : List Int) (z : Int) (j : Nat) (w : World) (hn : n = xs.length) (hsm : n ≤ 1048576) (hz : z = (j : Int) + 1) (hj : j ≤ 3000000) (hR : Rd w A (iv xs)) :
    Calls Try.prog 90 #[.slice A n c, .int .i64 z] w fun e w' => e = .returned (.int .i64 (atP xs (j + 1))) ∧ w = w' := by
  subst hz
  by_cases h : n < j + 1
  · have HE : Hid (atP xs (j + 1) = 0) := Lib.hid (by unfold atP; rw [if_pos (by omega)])
    have h' : (n : Int) < (j : Int) + 1 := by omega
    clear hR
    go_enter Try.func90, Try.ntmps90
    go_wp2_with fail
    go_ret
    exact ⟨by rw [HE.out]; rfl, rfl⟩
  · have HE : Hid (atP xs (j + 1) = xs.getD j 0) := Lib.hid (by unfold atP; rw [if_neg (by omega)]; rfl)
    have h' : ¬ (n : Int) < (j : Int) + 1 := by omega
    have hjn : j < n := by omega
    obtain ⟨b, o, rfl, hc⟩ := hR.atI (k := j) (by omega)
    clear hR
    go_enter Try.func90, Try.ntmps90
    go_wp2_with fail
    go_ret
    exact ⟨by rw [HE.out]; rfl, rfl⟩


def ndP (xs : List Int) (i j : Nat) : Int := min (atP xs (j + 1)) (atP xs (i + 1) - ((j : Int) + 1))
set_option maxHeartbeats 1000000 in
theorem needed_any (A : Option Addr) (n c : Nat) (xs : List Int) (y z : Int) (i j : Nat) (w : World) (hn : n = xs.length) (hsm : n ≤ 1048576) (hp : profB xs = true) (hy : y = (i : Int) + 1) (hz : z = (j : Int) + 1) (hi : i ≤ 100) (hj : j ≤ 100) (hR : Rd w A (iv xs)) :
    Calls Try.prog 91 #[.slice A n c, .int .i64 y, .int .i64 z] w fun e w' => e = .returned (.int .i64 (ndP xs i j)) ∧ w = w' := by
  have HA1 := Lib.hid (fun z' (hz : z' = (j : Int) + 1) => at_any A n c xs z' j w hn hsm hz (by omega) hR)
  have HA2 := Lib.hid (fun z' (hz : z' = (i : Int) + 1) => at_any A n c xs z' i w hn hsm hz (by omega) hR)
  obtain ⟨b1, b2⟩ := atP_bd hp (j + 1)
  obtain ⟨b3, b4⟩ := atP_bd hp (i + 1)
  have HE : Hid (ndP xs i j = min (atP xs (j + 1)) (atP xs (i + 1) - ((j : Int) + 1))) := Lib.hid rfl
  generalize atP xs (j + 1) = q at *
  generalize atP xs (i + 1) = r at *
  subst hy
  subst hz
  clear hR hn hp
  go_enter Try.func91, Try.ntmps91
  go_wp2_with fail
  refine (HA1.out _ rfl).mono ?_
  rintro e w' ⟨rfl, rfl⟩
  go_wp2_with fail
  refine (HA2.out _ rfl).mono ?_
  rintro e w' ⟨rfl, rfl⟩
  rcases Int.lt_or_le (r - ((j : Int) + 1)) q with hm | hm
  · have HM : Hid (min q (r - ((j : Int) + 1)) = r - ((j : Int) + 1)) := Lib.hid (by omega)
    go_wp2_with fail
    go_ret
    exact ⟨by rw [HE.out, HM.out]; rfl, rfl⟩
  · have hm' : ¬ (r - ((j : Int) + 1) < q) := by omega
    have HM : Hid (min q (r - ((j : Int) + 1)) = q) := Lib.hid (by omega)
    go_wp2_with fail
    go_ret
    exact ⟨by rw [HE.out, HM.out]; rfl, rfl⟩

set_option maxHeartbeats 2000000 in
theorem isClosed_any (A : Option Addr) (n c : Nat) (xs : List Int) (w : World) (hn : n = xs.length) (hp : profB xs = true) (hR : Rd w A (iv xs)) :
    Calls Try.prog 71 #[.slice A n c] w fun e w' => e = .returned (.bool (closedB xs)) ∧ w = w' := by
  have h16 : n ≤ 16 := by rw [hn]; exact ((profB_iff xs).1 hp).1
  have Hn := Lib.hid hn
  have HB := Lib.hid (atP_bd hp)
  have HA := Lib.hid (fun (z : Int) (j : Nat) W (hz : z = (j : Int) + 1) (hj : j ≤ 100) (hw : w = W) => at_any A n c xs z j W hn (by omega) hz (by omega) (hw ▸ hR))
  have HND := Lib.hid (fun (y z : Int) (i j : Nat) W (hy : y = (i : Int) + 1) (hz : z = (j : Int) + 1) (hi : i ≤ 100) (hj : j ≤ 100) (hw : w = W) => needed_any A n c xs y z i j W hn (by omega) hp hy hz hi hj (hw ▸ hR))
  clear hR hn hp
  go_enter Try.func71, Try.ntmps71
  go_wp2_with fail
  go_loop [7] (fun v => ∃ i : Nat, i ≤ n ∧ v = .int .i64 i ∧ Hid (∀ i', i' < i → ∀ j, j < n → clAt xs i' j = true)) (fun v => n - (intOf v).toNat)
  case atStart => exact ⟨0, by omega, rfl, Lib.hid (fun i hi => by omega)⟩
  case round =>
    obtain ⟨i, hi, rfl, HP⟩ := hrel
    by_cases hlt : i < n
    · go_wp2_with fail
      go_loop [12] (fun v => ∃ j : Nat, j ≤ n ∧ v = .int .i64 j ∧ Hid (∀ j', j' < j → clAt xs i j' = true)) (fun v => n - (intOf v).toNat)
      case atStart => exact ⟨0, by omega, rfl, Lib.hid (fun i hi => by omega)⟩
      case round =>
        obtain ⟨j, hj, rfl, HQ⟩ := hrel
        by_cases hlt2 : j < n
        · have b1 := HB.out (i + j + 1 + 1)
          have HE : Hid (clAt xs i j = !decide (atP xs (i + j + 1 + 1) < ndP xs i j)) := Lib.hid rfl
          have A1 := Lib.hid (fun z W hz hw => HA.out z (i + j + 1) W hz (by omega) hw)
          have A2 := Lib.hid (fun y z W hy hz hw => HND.out y z i j W hy hz (by omega) (by omega) hw)
          generalize atP xs (i + j + 1 + 1) = p at *
          generalize ndP xs i j = q at *
          obtain ⟨b11, b12⟩ := b1
          go_wp2_with fail
          refine (A1.out _ _ (by omega) rfl).mono ?_
          rintro e w' ⟨rfl, rfl⟩
          go_wp2_with fail
          refine (A2.out _ _ _ (by omega) (by omega) rfl).mono ?_
          rintro e w' ⟨rfl, rfl⟩
          by_cases hcm : p < q
          · have HF : Hid (closedB xs = false) := Lib.hid (by
              cases hcl : closedB xs with
              | false => rfl
              | true =>
                have h9 := (closedB_iff xs).1 hcl i (by rw [← Hn.out]; exact hlt) j (by rw [← Hn.out]; exact hlt2)
                rw [HE.out, decide_eq_true hcm] at h9
                cases h9)
            go_wp2_with fail
            go_ret
            exact ⟨by rw [HF.out]; rfl, rfl⟩
          · have HT : Hid (clAt xs i j = true) := Lib.hid (by rw [HE.out, decide_eq_false hcm]; rfl)
            go_wp2_with fail
            go_round
            case rel =>
              refine ⟨j + 1, by omega, by go_num, Lib.hid (fun j' hj' => ?_)⟩
              by_cases e : j' = j
              · subst e; exact HT.out
              · exact HQ.out j' (by omega)
            case measure => simp [intOf]; omega
        · obtain rfl : j = n := by omega
          go_wp2_with fail
          go_round
          case rel =>
            refine ⟨i + 1, by omega, by go_num, Lib.hid (fun i' hi' => ?_)⟩
            by_cases e : i' = i
            · subst e; exact HQ.out
            · exact HP.out i' (by omega)
          case measure => simp [intOf]; omega
    · obtain rfl : i = n := by omega
      have HE : Hid (closedB xs = true) := Lib.hid ((closedB_iff xs).2 (by rw [← Hn.out]; exact HP.out))
      go_wp2_with fail
      go_ret
      exact ⟨by rw [HE.out]; rfl, rfl⟩

set_option maxHeartbeats 1000000 in
theorem degree_any (A : Option Addr) (n c : Nat) (xs : List Int) (w : World) (hn : n = (topL xs).length) (hp : profB xs = true) (hR : Rd w A (iv (topL xs))) :
    Calls Try.prog 72 #[.slice A n c] w fun e w' => e = .returned (.int .i64 (degP (topL xs))) ∧ w = w' := by
  have h16 : n ≤ 16 := by rw [hn]; exact Nat.le_trans (topL_len xs) ((profB_iff xs).1 hp).1
  have HTB := Lib.hid (topL_bd hp)
  have HDB := Lib.hid (degK_bd hp)
  have HDD : Hid (degP (topL xs) = degK (topL xs) (topL xs).length) := Lib.hid rfl
  have Hn := Lib.hid hn
  have HR := Lib.hid hR
  clear hR hn hp
  generalize topL xs = T at *
  go_enter Try.func72, Try.ntmps72
  go_wp2_with fail
  go_loop [3, 8] (fun s i => ∃ k : Nat, k ≤ n ∧ i = .int .i64 k ∧ s = .int .i64 (degK T k)) (fun _ i => n - (intOf i).toNat)
  case atStart => exact ⟨0, by omega, rfl, rfl⟩
  case round =>
    obtain ⟨q, hq, rfl, rfl⟩ := hrel
    have hz := HDB.out q (by omega)
    by_cases hlt2 : q < n
    · obtain ⟨b, o, rfl, hc⟩ := HR.out.atI (k := q) (by rw [← Hn.out]; exact hlt2)
      have hy := HTB.out q
      have HDS : Hid (degK T (q + 1) = degK T q + T.getD q 0 * (2 ^ (q + 1) - 1)) := Lib.hid rfl
      generalize T.getD q 0 = y at *
      generalize degK T q = z at *
      obtain ⟨hy1, hy2⟩ := hy
      obtain ⟨hz1, hz2⟩ := hz
      obtain ⟨hp1, hp2⟩ := pow16 (d := q + 1) (by omega)
      obtain ⟨hm1, hm2⟩ := mul_bd hy1 hy2 (p := 2 ^ (q + 1) - 1) (by omega) (by omega)
      go_wp2_with fail
      go_round
      case rel => exact ⟨q + 1, by omega, by go_num, by rw [HDS.out]⟩
      case measure => simp [intOf]; omega
    · obtain rfl : q = n := by omega
      have HQ : Hid (degK T q = degP T) := Lib.hid (by rw [HDD.out, Hn.out])
      go_wp2_with fail
      go_ret
      exact ⟨by rw [← HQ.out]; rfl, rfl⟩

set_option maxHeartbeats 1000000 in
theorem trimmed_any (g n c B : Nat) (ys : List Int) (w : World) (hn : n = ys.length) (hsm : n ≤ 1048576) (hO : w.ownsRow B 2 1 (.slice (some ⟨g, 0, none⟩) n c) n (iv ys)) :
    Calls Try.prog 73 #[.slice (some ⟨g, 0, none⟩) n c] w fun e w' => e = .returned (.slice (some ⟨g, 0, none⟩) (trimL ys).length c) ∧ w = w' := by
  have hcap := owns_cap hO
  have HR := Lib.hid (owns_Rd hO)
  have Hn := Lib.hid hn
  clear hn hO
  go_enter Try.func73, Try.ntmps73
  go_wp2_with fail
  go_loop [0] (fun v => ∃ k : Nat, k ≤ n ∧ v = .slice (some ⟨g, 0, none⟩) k c ∧ Hid (trimN ys ys.length = trimN ys k)) (fun v => match v with | .slice _ k _ => k | _ => 0)
  case atStart => exact ⟨n, by omega, rfl, Lib.hid (by rw [Hn.out])⟩
  case round =>
    obtain ⟨k, hk, rfl, HT⟩ := hrel
    have HF := Lib.hid (show trimN ys k = k → (trimL ys).length = k from fun h => by
      unfold trimL; rw [HT.out, h, List.length_take, ← Hn.out]; omega)
    by_cases h0 : k = 0
    · subst h0
      have HF2 := Lib.hid (HF.out rfl)
      go_wp2_with fail
      go_ret
      exact ⟨by rw [HF2.out]; rfl, rfl⟩
    · obtain ⟨j, rfl⟩ : ∃ j, k = j + 1 := ⟨k - 1, by omega⟩
      obtain ⟨b', o', e', hc⟩ := HR.out.atI (k := j) (by rw [← Hn.out]; omega)
      injection e' with e'
      injection e' with e1 e2 _
      subst e1; subst e2
      rw [Nat.zero_add] at hc
      have hj0 : 0 < j + 1 := by omega
      have hj1 : (0 : Int) < (j : Int) + 1 := by omega
      have HTS : Hid (trimN ys (j + 1) = if ys.getD j 0 = 0 then trimN ys j else j + 1) := Lib.hid rfl
      have hjc : (j : Int) ≤ (c : Int) := by omega
      have hjj : j < j + 1 := by omega
      generalize hx : ys.getD j 0 = x at *
      by_cases hx0 : x = 0
      · subst hx0
        go_wp2_with fail
        go_round
        case rel => exact ⟨j, by omega, rfl, Lib.hid (by rw [HT.out, HTS.out, if_pos rfl])⟩
        case measure => simp
      · have HF2 := Lib.hid (HF.out (by rw [HTS.out, if_neg hx0]))
        have hxb : ((x : Int) == 0) = false := by simpa using hx0
        go_wp2_with fail
        go_ret
        exact ⟨by rw [HF2.out]; rfl, rfl⟩

set_option maxRecDepth 100000 in
set_option maxHeartbeats 2000000 in
theorem topExponents_any (A : Option Addr) (n c : Nat) (xs : List Int) (w : World) (hn : n = xs.length) (hp : profB xs = true) (hR : Rd w A (iv xs)) :
    Calls Try.prog 47 #[.slice A n c] w fun e w' => ∃ g c', e = .returned (.slice (some ⟨g, 0, none⟩) (topL xs).length c') ∧ Rd w' (some ⟨g, 0, none⟩) (iv (topL xs)) ∧ Below w.heap.size w w' := by
  have h16 : n ≤ 16 := by rw [hn]; exact ((profB_iff xs).1 hp).1
  have HP := Lib.hid (prof_get hp)
  have HR := Lib.hid hR
  have Hn := Lib.hid hn
  clear hp hR hn
  go_enter Try.func47, Try.ntmps47
  go_wp2_with fail
  go_loopw [3, 9] (fun v i wr => ∃ k g cap : Nat, k ≤ n ∧ i = .int .i64 k ∧ v = .slice (some ⟨g, 0, none⟩) k cap ∧ wr.ownsRow w.heap.size 2 1 (.slice (some ⟨g, 0, none⟩) k cap) k (iv ((exps xs).take k)) ∧ Below w.heap.size w wr) (fun _ i _ => n - (intOf i).toNat)
  case atStart => exact ⟨0, w.heap.size, 0, by omega, rfl, rfl, World.ownsRow_made w #[] 0 (Nat.le_refl _) (by decide) (by simp), (Below.refl _ _).alloc (Nat.le_refl _) _⟩
  case round =>
    obtain ⟨k, g, cap, hk, rfl, rfl, hown, hbel⟩ := hrel
    have HO := Lib.hid hown
    have HB := Lib.hid hbel
    have hsz := hbel.size
    by_cases hlt : k < n
    · have hkL : k < xs.length := by rw [← Hn.out]; exact hlt
      obtain ⟨b, o, rfl, hc⟩ := (HR.out.below hbel).atI hkL
      have hx := HP.out k
      have HX := Lib.hid (exps_getD xs hkL)
      generalize xs.getD k 0 = x at *
      obtain ⟨d, rfl⟩ := Int.eq_ofNat_of_zero_le hx.1
      have hd : d ≤ 10 := by omega
      obtain ⟨hp1, hp2⟩ := pow10 hd
      have HTS : Hid ((exps xs).take (k + 1) = (exps xs).take k ++ [2 ^ d - 1]) := Lib.hid (by
        rw [List.take_succ_eq_append_getElem (by rw [exps_length]; exact hkL)]
        have h9 := HX.out
        rw [Int.toNat_natCast] at h9
        simp only [List.getD, List.getElem?_eq_getElem (show k < (exps xs).length by rw [exps_length]; exact hkL), Option.getD_some] at h9
        rw [h9])
      clear hown hbel hx
      go_wp2_with (at_builtin; refine wpList_app1 _ _ _ _ _ etI (by rfl) (by rfl) w.heap.size _ k (iv ((exps xs).take k)) (by rfl) ?_ _ (.int .i64 (2 ^ d - 1)) (by rfl) ?_ (by rfl) ?_ ?_ ?_; exact HO.out.alloc _; exact new_cell _ _ _; omega; (simp; omega); (intro g1 cap1 w1 hown1 hgrow1 hat1 hlt1; have HO1 := Lib.hid hown1; have HB1 := Lib.hid (below_app2 HB.out hsz HO.out hgrow1); clear hown1 hgrow1 hat1 hlt1))
      go_roundw
      case rel => exact ⟨k + 1, g1, cap1, by omega, by go_num, rfl, by rw [HTS.out, iv_append]; exact HO1.out, HB1.out⟩
      case measure => simp [intOf]; omega
    · obtain rfl : k = n := by omega
      have he : (exps xs).take k = exps xs := List.take_of_length_le (by rw [exps_length, ← Hn.out]; exact Nat.le_refl _)
      rw [he] at hown
      have HTR := Lib.hid (trimmed_any g k cap w.heap.size (exps xs) wr (by rw [exps_length]; exact Hn.out) (by omega) hown)
      have HRT := Lib.hid (show Rd wr (some ⟨g, 0, none⟩) (iv (topL xs)) from by
        rcases owns_Rd hown with h | ⟨b, o, h1, h2⟩
        · left
          have : exps xs = [] := by cases hh : exps xs with | nil => rfl | cons y ys => rw [hh] at h; cases h
          simp [topL, trimL, this, iv]
        · refine .inr ⟨b, o, h1, fun j v hj => h2 j v ?_⟩
          simp only [topL, trimL, iv, List.getElem?_map, List.getElem?_take] at hj ⊢
          split at hj
          · exact hj
          · cases hj)
      clear hown hbel he
      have HTR' : Hid (Calls Try.prog 73 #[.slice (some ⟨g, 0, none⟩) k cap] wr fun e w' => e = .returned (.slice (some ⟨g, 0, none⟩) (topL xs).length cap) ∧ wr = w') := HTR.out
      clear HTR
      go_wp2_with fail
      refine HTR'.out.mono ?_
      rintro e w' ⟨rfl, rfl⟩
      go_wp2_with fail
      go_ret
      exact ⟨g, cap, rfl, HRT.out, HB.out⟩

set_option maxHeartbeats 2000000 in
theorem topped_any (A : Option Addr) (n c : Nat) (xs : List Int) (w : World) (hn : n = xs.length) (hsm : n ≤ 1048576) (hR : Rd w A (iv xs)) :
    Calls Try.prog 45 #[.slice A n c] w fun e w' => e = .returned (.int .i64 (topR xs).2) ∧ Below w.heap.size w w' := by
  have HI := Lib.hid (isProfile_any A n c xs w hn hsm hR)
  cases hp : profB xs with
  | false =>
    rw [hp] at HI
    have HE : Hid ((topR xs).2 = 1) := Lib.hid (by unfold topR; rw [if_neg (by rw [hp]; decide)])
    clear hp hR hn
    go_enter Try.func45, Try.ntmps45
    go_wp2_with fail
    refine HI.out.mono ?_
    rintro e w1 ⟨rfl, hb⟩
    have HB := Lib.hid hb
    clear hb
    go_wp2_with fail
    go_ret
    exact ⟨by rw [HE.out]; rfl, HB.out⟩
  | true =>
    rw [hp] at HI
    have HC := Lib.hid (fun W (hb : Below w.heap.size w W) => isClosed_any A n c xs W hn hp (hR.below hb))
    cases hcl : closedB xs with
    | false =>
      rw [hcl] at HC
      have HE : Hid ((topR xs).2 = 5) := Lib.hid (by unfold topR; rw [if_pos hp, if_neg (by rw [hcl]; decide)])
      clear hp hcl hR hn
      go_enter Try.func45, Try.ntmps45
      go_wp2_with fail
      refine HI.out.mono ?_
      rintro e w1 ⟨rfl, hb⟩
      have HB := Lib.hid hb
      clear hb
      go_wp2_with fail
      refine (HC.out _ HB.out).mono ?_
      rintro e w' ⟨rfl, rfl⟩
      go_wp2_with fail
      go_ret
      exact ⟨by rw [HE.out]; rfl, HB.out⟩
    | true =>
      rw [hcl] at HC
      have HE : Hid ((topR xs).2 = if degP (topL xs) ≤ 40 then 0 else 3) := Lib.hid (by unfold topR; rw [if_pos hp, if_pos hcl]; split <;> rfl)
      have HT := Lib.hid (fun W (hb : Below w.heap.size w W) => topExponents_any A n c xs W hn hp (hR.below hb))
      have HD := Lib.hid (fun A c W (hR : Rd W A (iv (topL xs))) => degree_any A (topL xs).length c xs W rfl hp hR)
      clear hp hcl hR hn
      go_enter Try.func45, Try.ntmps45
      go_wp2_with fail
      refine HI.out.mono ?_
      rintro e w1 ⟨rfl, hb⟩
      have HB := Lib.hid hb
      have hs1 := hb.size
      clear hb
      go_wp2_with fail
      refine (HC.out _ HB.out).mono ?_
      rintro e w' ⟨rfl, rfl⟩
      go_wp2_with fail
      refine (HT.out _ HB.out).mono ?_
      rintro e w2 ⟨g, c', rfl, hr, hb⟩
      have HB2 := Lib.hid (HB.out.trans (hb.mono hs1))
      have HR2 := Lib.hid hr
      clear hr hb
      go_wp2_with fail
      refine (HD.out _ _ _ HR2.out).mono ?_
      rintro e w' ⟨rfl, rfl⟩
      generalize degP (topL xs) = z at *
      by_cases h40 : z ≤ 40
      · go_wp2_with fail
        go_ret
        exact ⟨by rw [HE.out, if_pos h40]; rfl, HB2.out⟩
      · go_wp2_with fail
        go_ret
        exact ⟨by rw [HE.out, if_neg (by omega)]; rfl, HB2.out⟩

set_option maxHeartbeats 2000000 in
theorem implTopElement_any (A : Option Addr) (n c : Nat) (xs : List Int) (w : World) (hn : n = xs.length) (hsm : n ≤ 1048576) (hR : Rd w A (iv xs)) :
    Calls Try.prog 20 #[.slice A n c] w (ResN (topElementOf xs) w) := by
  have hk := blk_new w (.cells #[.slice none 0 0] 33)
  have hb0 : Below w.heap.size w (w.alloc (.cells #[.slice none 0 0] 33)) := (Below.refl w.heap.size w).alloc (Nat.le_refl _) _
  have HC := Lib.hid (topped_any A n c xs _ hn hsm (hR.below hb0))
  have HK := Lib.hid hk
  have HB0 := Lib.hid hb0
  by_cases h0 : (topR xs).2 = 0
  · have HE := Lib.hid (topE_ok h0)
    have hpc : profB xs = true ∧ (topR xs).1 = topL xs := by
      unfold topR at h0 ⊢
      split at h0
      · rename_i h
        refine ⟨h, ?_⟩
        rw [if_pos h]
        split at h0
        · rename_i h2
          rw [if_pos h2]
          split at h0
          · rename_i h3
            rw [if_pos h3]
          · cases h0
        · cases h0
      · cases h0
    have HT := Lib.hid (fun W (hb : Below w.heap.size w W) => topExponents_any A n c xs W hn hpc.1 (hR.below hb))
    have HTL := Lib.hid hpc.2
    have hlen : (topL xs).length ≤ 1000 := by rw [← hpc.2]; exact topR_len xs
    rw [h0] at HC
    clear h0 hpc hk hb0 hR hn
    go_enter Try.func20, Try.ntmps20
    go_wp2_with fail
    refine HC.out.mono ?_
    rintro e w1 ⟨rfl, hb⟩
    have HK1 := Lib.hid (blk_kept HK.out hb)
    have HB1 := Lib.hid (HB0.out.trans (hb.mono (by simp)))
    have hB1 := HB1.out.size
    clear hb
    go_wp2_with fail
    refine (HT.out _ HB1.out).mono ?_
    rintro e w2 ⟨g, c', rfl, hr, hb⟩
    have HK2 := Lib.hid (blk_kept HK1.out hb)
    have HB2 := Lib.hid (HB1.out.trans (hb.mono hB1))
    have hB2 := HB2.out.size
    have HCO := Lib.hid (copyOf_any (some ⟨g, 0, none⟩) (topL xs).length c' (iv (topL xs)) w2 (iv_length _).symm (by omega) (iv_one _) hr)
    clear hr hb
    go_wp2_with fail
    refine HCO.out.mono ?_
    rintro e w3 ⟨g3, c3, rfl, ho, hb⟩
    have HK3 := Lib.hid (blk_kept HK2.out hb)
    have HB3 := Lib.hid (HB2.out.trans (hb.mono hB2))
    have hB3 := HB3.out.size
    have HO := Lib.hid (ho.mono hB2)
    obtain ⟨x0, xf, xl⟩ := blk1cell HK3.out
    clear ho hb
    go_wp2_with fail
    have hne := own_ne_blk HO.out HK3.out (by decide)
    have hz : (w3.setCell ⟨w.heap.size, 0, none⟩ (.slice (some ⟨w3.heap.size, 0, none⟩) 1 1)).heap.size = w3.heap.size := by simp [World.setCell]
    have hor := one_row (w := w3.setCell ⟨w.heap.size, 0, none⟩ (.slice (some ⟨w3.heap.size, 0, none⟩) 1 1)) (r := ⟨some ⟨g3, 0, none⟩, c3, topL xs⟩) (by rw [hz]; exact hB3) (owns_keeps HO.out ((Keeps.refl w3 [some w.heap.size]).setCell (p := ⟨w.heap.size, 0, none⟩) (by simp) _) (.inr (by simp only [List.mem_singleton]; exact hne)))
    rw [hz] at hor
    refine bodyPost_ret (v := .tuple #[.agg #[.slice (some ⟨w3.heap.size, 0, none⟩) 1 1], .int .i64 0]) ?_ rfl ⟨_, _, by rw [HE.out], ?_, hor, ?_⟩
    · simp [results, Try.results20, go_sem, x0, xl]
    · rw [HE.out, HTL.out]; rfl
    · exact (HB3.out.setCell (p := ⟨w.heap.size, 0, none⟩) (Nat.le_refl _) _).alloc (by rw [hz]; exact hB3) _
  · have HE := Lib.hid (topE_no h0)
    generalize (topR xs).2 = code at *
    have hcb : (code != 0) = true := by simpa using h0
    clear h0 hk hb0 hR hn
    go_enter Try.func20, Try.ntmps20
    go_wp2_with fail
    refine HC.out.mono ?_
    rintro e w1 ⟨rfl, hb⟩
    have HK1 := Lib.hid (blk_kept HK.out hb)
    have HB1 := Lib.hid (HB0.out.trans (hb.mono (by simp)))
    obtain ⟨x0, xf, xl⟩ := blk1cell HK1.out
    clear hb
    go_wp2_with fail
    refine bodyPost_ret (v := .tuple #[.agg #[.slice none 0 0], .int .i64 code]) ?_ rfl ⟨_, [], by rw [HE.out], by rw [HE.out]; rfl, OwnR.nil _ _, ?_⟩
    · simp [results, Try.results20, go_sem, x0, xl]
    · exact HB1.out.setCell (p := ⟨w.heap.size, 0, none⟩) (Nat.le_refl _) _

/-! ### the laws' helpers at Milnor's elements -/
set_option maxHeartbeats 1000000 in
theorem eqMilnor_any (A A' : Option Addr) (n n' c c' : Nat) (L M : List Row) (w : World) (hn : n = L.length) (hn' : n' = M.length) (hsm : n ≤ 1099511627776) (hl : ∀ i, i < L.length → (rg L i).xs.length ≤ 1099511627776) (hd : dat M = dat L) (hR : RdR w A L) (hR' : RdR w A' M) :
    Calls Try.prog 21 #[.agg #[.slice A n c], .agg #[.slice A' n' c']] w fun e w' => e = .returned (.bool true) ∧ Below w.heap.size w w' := by
  have hk1 := blk_alloc (blk_new w (.cells #[.slice A n c] 33)) (.cells #[.slice A' n' c'] 33)
  have hk2 := blk_new1 w (.cells #[.slice A n c] 33) (.cells #[.slice A' n' c'] 33)
  have hbel : Below w.heap.size w ((w.alloc (.cells #[.slice A n c] 33)).alloc (.cells #[.slice A' n' c'] 33)) := ((Below.refl _ _).alloc (Nat.le_refl _) _).alloc (by simp) _
  obtain ⟨x0, _, _⟩ := blk1cell hk1
  obtain ⟨y0, _, _⟩ := blk1cell hk2
  have HC := Lib.hid (eqRowsB_any A A' n n' c c' L M _ hn hn' hsm hl hd (hR.below hbel) (hR'.below hbel))
  have HB := Lib.hid hbel
  clear hk1 hk2 hbel hn hn' hl hd hR hR'
  go_enter Try.func21, Try.ntmps21
  go_wp2_with fail
  refine HC.out.mono ?_
  rintro e w1 ⟨rfl, hb⟩
  have HB1 := Lib.hid (HB.out.trans (hb.mono HB.out.size))
  clear hb
  go_wp2_with fail
  go_ret
  exact ⟨rfl, HB1.out⟩
set_option maxHeartbeats 1000000 in
theorem markMilnor_any (B hi : Nat) (v : Value) (L : List Row) (k0 : Int) (w : World) (hown : OwnR w B v L) (hsm : L.length ≤ 1048576) (ht : tot L ≤ 1048576) (h0 : 0 ≤ k0) (h1 : k0 ≤ 1000000000000)
    (hhi : ∀ i, i < L.length → ∀ k, (rg L i).val.ownBlock = some k → k < hi) :
    Calls Try.prog 22 #[.agg #[v], .int .i64 k0] w fun e w' => e = .returned (.int .i64 (k0 + tot L)) ∧ OwnR w' B v (marksR k0 L) ∧ Within B hi w w' := by
  obtain ⟨A, c, rfl, _, _, _⟩ := owns_shape hown.out
  have HC := Lib.hid (markRows_any B hi _ L k0 (w.alloc (.cells #[.slice A L.length c] 33)) (hown.later ((Below.refl _ _).alloc (Nat.le_refl _) _)) hsm ht h0 h1 hhi)
  clear hown
  go_enter Try.func22, Try.ntmps22
  go_wp2_with fail
  refine HC.out.mono ?_
  rintro e w1 ⟨rfl, ho, hw⟩
  have HO := Lib.hid ho
  have HW := Lib.hid ((Within.of_below (lo := B) (hi := hi) ((Below.refl w.heap.size w).alloc (Nat.le_refl _) (.cells #[.slice A L.length c] 33))).trans hw)
  clear ho hw
  go_wp2_with fail
  go_ret
  exact ⟨rfl, HO.out, HW.out⟩
set_option maxHeartbeats 1000000 in
theorem heldMilnor_any (A : Option Addr) (n c : Nat) (L : List Row) (k0 : Int) (w : World) (hn : n = L.length) (hR : RdR w A (marksR k0 L)) (hsm : n ≤ 1048576) (ht : tot L ≤ 1048576) (h0 : 0 ≤ k0) (h1 : k0 ≤ 1000000000000) :
    Calls Try.prog 23 #[.agg #[.slice A n c], .int .i64 k0] w fun e w' => e = .returned (.int .i64 (k0 + tot L)) ∧ Below w.heap.size w w' := by
  have HC := Lib.hid (heldRows_any A n c L k0 (w.alloc (.cells #[.slice A n c] 33)) hn (hR.alloc _) hsm ht h0 h1)
  have hk : ¬ (k0 + (tot L : Int) < 0) := by omega
  clear hR hn
  go_enter Try.func23, Try.ntmps23
  go_wp2_with fail
  refine HC.out.mono ?_
  rintro e w' ⟨rfl, rfl⟩
  go_wp2_with fail
  go_ret
  exact ⟨rfl, (Below.refl _ _).alloc (Nat.le_refl _) _⟩
end Go.Proofs.Ytocllmhkppkfoaa
