/- the reference's TopElement -/
import Derived.Test.YtocllmhkppkfoaaTa
import Derived.Test.YtocllmhkppkfoaaAp
import Derived.Test.YtocllmhkppkfoaaLw2
namespace Go.Proofs.Ytocllmhkppkfoaa
open Go.RowKit

set_option maxHeartbeats 1000000 in
theorem l07Is_any (A : Option Addr) (n c : Nat) (xs : List Int) (w : World) (hn : n = xs.length) (hsm : n ≤ 1048576) (hR : Rd w A (iv xs)) :
    Calls Try.prog 67 #[.slice A n c] w fun e w' => e = .returned (.bool (profB xs)) ∧ w = w' := by
  have HR := Lib.hid hR
  have Hn := Lib.hid hn
  clear hR hn
  go_enter Try.func67, Try.ntmps67
  go_wp2_with fail
  go_loop [3] (fun i => ∃ k : Nat, k ≤ n ∧ i = .int .i64 k ∧ Hid (∀ j, j < k → inB (xs.getD j 0) 0 10 = true)) (fun i => n - (intOf i).toNat)
  case atStart => exact ⟨0, by omega, rfl, Lib.hid (fun i hi => by omega)⟩
  case round =>
    obtain ⟨k, hk, rfl, HP⟩ := hrel
    by_cases hlt : k < n
    · have hkL : k < xs.length := by rw [← Hn.out]; exact hlt
      obtain ⟨b, o, rfl, hc⟩ := HR.out.atI hkL
      have HI := Lib.hid (fun W => l01In_any (xs.getD k 0) 0 10 W)
      generalize hx : xs.getD k 0 = x at *
      have HX := Lib.hid hx
      clear hx
      cases hb : inB x 0 10
      · rw [hb] at HI
        have HE : Hid (profB xs = false) := Lib.hid (by
          cases h : profB xs with
          | false => rfl
          | true => have := ((profB_iff xs).1 h).2 k hkL; rw [HX.out, hb] at this; cases this)
        clear hb
        go_wp2_with (go_at_call 38; refine (HI.out _).mono ?_; rintro e w' ⟨rfl, rfl⟩)
        go_ret
        exact ⟨by rw [HE.out]; rfl, rfl⟩
      · rw [hb] at HI
        have HB := Lib.hid hb
        clear hb
        go_wp2_with (go_at_call 38; refine (HI.out _).mono ?_; rintro e w' ⟨rfl, rfl⟩)
        go_round
        case rel =>
          refine ⟨k + 1, by omega, by go_num, Lib.hid (fun j hj => ?_)⟩
          by_cases e : j = k
          · subst e; rw [HX.out]; exact HB.out
          · exact HP.out j (by omega)
        case measure => simp [intOf]; omega
    · obtain rfl : n = k := by omega
      by_cases h16 : (n : Int) ≤ 16
      · have HE : Hid (profB xs = true) := Lib.hid ((profB_iff xs).2 ⟨by rw [← Hn.out]; omega, by rw [← Hn.out]; exact HP.out⟩)
        go_wp2_with fail
        go_ret
        exact ⟨by rw [HE.out]; rfl, rfl⟩
      · have HE : Hid (profB xs = false) := Lib.hid (by
          cases h : profB xs with
          | false => rfl
          | true => have := ((profB_iff xs).1 h).1; rw [← Hn.out] at this; omega)
        go_wp2_with fail
        go_ret
        exact ⟨by rw [HE.out]; rfl, rfl⟩

set_option maxHeartbeats 1000000 in
theorem l07At_any (A : Option Addr) (n c : Nat) (xs : List Int) (z : Int) (j : Nat) (w : World) (hn : n = xs.length) (hsm : n ≤ 1048576) (hz : z = (j : Int) + 1) (hj : j ≤ 3000000) (hR : Rd w A (iv xs)) :
    Calls Try.prog 87 #[.slice A n c, .int .i64 z] w fun e w' => e = .returned (.int .i64 (atP xs (j + 1))) ∧ w = w' := by
  subst hz
  by_cases h : n < j + 1
  · have HE : Hid (atP xs (j + 1) = 0) := Lib.hid (by unfold atP; rw [if_pos (by omega)])
    have h' : (n : Int) < (j : Int) + 1 := by omega
    clear hR
    go_enter Try.func87, Try.ntmps87
    go_wp2_with fail
    go_ret
    exact ⟨by rw [HE.out]; rfl, rfl⟩
  · have HE : Hid (atP xs (j + 1) = xs.getD j 0) := Lib.hid (by unfold atP; rw [if_neg (by omega)]; rfl)
    have h' : ¬ (n : Int) < (j : Int) + 1 := by omega
    have hjn : j < n := by omega
    obtain ⟨b, o, rfl, hc⟩ := hR.atI (k := j) (by omega)
    clear hR
    go_enter Try.func87, Try.ntmps87
    go_wp2_with fail
    go_ret
    exact ⟨by rw [HE.out]; rfl, rfl⟩

set_option maxHeartbeats 2000000 in
theorem l07Closed_any (A : Option Addr) (n c : Nat) (xs : List Int) (w : World) (hn : n = xs.length) (hp : profB xs = true) (hR : Rd w A (iv xs)) :
    Calls Try.prog 68 #[.slice A n c] w fun e w' => e = .returned (.bool (closedB xs)) ∧ w = w' := by
  have h16 : n ≤ 16 := by rw [hn]; exact ((profB_iff xs).1 hp).1
  have HR := Lib.hid hR
  have Hn := Lib.hid hn
  have HB := Lib.hid (atP_bd hp)
  have HA := Lib.hid (fun (z : Int) (j : Nat) W (hz : z = (j : Int) + 1) (hj : j ≤ 100) (hw : w = W) => l07At_any A n c xs z j W hn (by omega) hz (by omega) (hw ▸ hR))
  clear hR hn hp
  go_enter Try.func68, Try.ntmps68
  go_wp2_with fail
  go_loop [3] (fun v => ∃ i : Nat, i ≤ n ∧ v = .int .i64 ((i : Int) + 1) ∧ Hid (∀ i', i' < i → ∀ j, j < n → clAt xs i' j = true)) (fun v => n + 1 - (intOf v).toNat)
  case atStart => exact ⟨0, by omega, rfl, Lib.hid (fun i hi => by omega)⟩
  case round =>
    obtain ⟨i, hi, rfl, HP⟩ := hrel
    by_cases hlt : i < n
    · have hlt' : (i : Int) + 1 ≤ (n : Int) := by omega
      go_wp2_with fail
      go_loop [4] (fun v => ∃ j : Nat, j ≤ n ∧ v = .int .i64 ((j : Int) + 1) ∧ Hid (∀ j', j' < j → clAt xs i j' = true)) (fun v => n + 1 - (intOf v).toNat)
      case atStart => exact ⟨0, by omega, rfl, Lib.hid (fun i hi => by omega)⟩
      case round =>
        obtain ⟨j, hj, rfl, HQ⟩ := hrel
        by_cases hlt2 : j < n
        · have hlt2' : (j : Int) + 1 ≤ (n : Int) := by omega
          have b1 := HB.out (i + j + 1 + 1)
          have b2 := HB.out (j + 1)
          have b3 := HB.out (i + 1)
          have HE : Hid (clAt xs i j = !decide (atP xs (i + j + 1 + 1) < min (atP xs (j + 1)) (atP xs (i + 1) - ((j : Int) + 1)))) := Lib.hid rfl
          have A1 := Lib.hid (fun z W hz hw => HA.out z (i + j + 1) W hz (by omega) hw)
          have A2 := Lib.hid (fun z W hz hw => HA.out z j W hz (by omega) hw)
          have A3 := Lib.hid (fun z W hz hw => HA.out z i W hz (by omega) hw)
          generalize atP xs (i + j + 1 + 1) = p at *
          generalize atP xs (j + 1) = q at *
          generalize atP xs (i + 1) = r at *
          obtain ⟨b11, b12⟩ := b1
          obtain ⟨b21, b22⟩ := b2
          obtain ⟨b31, b32⟩ := b3
          go_wp2_with fail
          refine (A1.out _ _ (by omega) rfl).mono ?_
          rintro e w' ⟨rfl, rfl⟩
          go_wp2_with fail
          refine (A2.out _ _ (by omega) rfl).mono ?_
          rintro e w' ⟨rfl, rfl⟩
          go_wp2_with fail
          refine (A3.out _ _ (by omega) rfl).mono ?_
          rintro e w' ⟨rfl, rfl⟩
          rcases Int.lt_or_le (r - ((j : Int) + 1)) q with hm | hm
          · have HM : Hid (min q (r - ((j : Int) + 1)) = r - ((j : Int) + 1)) := Lib.hid (by omega)
            by_cases hcm : p < r - ((j : Int) + 1)
            · have HF : Hid (closedB xs = false) := Lib.hid (by
                cases hcl : closedB xs with
                | false => rfl
                | true =>
                  have h9 := (closedB_iff xs).1 hcl i (by rw [← Hn.out]; exact hlt) j (by rw [← Hn.out]; exact hlt2)
                  rw [HE.out, HM.out, decide_eq_true hcm] at h9
                  cases h9)
              go_wp2_with fail
              go_ret
              exact ⟨by rw [HF.out]; rfl, rfl⟩
            · have HT : Hid (clAt xs i j = true) := Lib.hid (by rw [HE.out, HM.out, decide_eq_false hcm]; rfl)
              go_wp2_with fail
              go_round
              case rel =>
                refine ⟨j + 1, by omega, by go_num, Lib.hid (fun j' hj' => ?_)⟩
                by_cases e : j' = j
                · subst e; exact HT.out
                · exact HQ.out j' (by omega)
              case measure => simp [intOf]; omega
          · have hm' : ¬ (r - ((j : Int) + 1) < q) := by omega
            have HM : Hid (min q (r - ((j : Int) + 1)) = q) := Lib.hid (by omega)
            by_cases hcm : p < q
            · have HF : Hid (closedB xs = false) := Lib.hid (by
                cases hcl : closedB xs with
                | false => rfl
                | true =>
                  have h9 := (closedB_iff xs).1 hcl i (by rw [← Hn.out]; exact hlt) j (by rw [← Hn.out]; exact hlt2)
                  rw [HE.out, HM.out, decide_eq_true hcm] at h9
                  cases h9)
              go_wp2_with fail
              go_ret
              exact ⟨by rw [HF.out]; rfl, rfl⟩
            · have HT : Hid (clAt xs i j = true) := Lib.hid (by rw [HE.out, HM.out, decide_eq_false hcm]; rfl)
              go_wp2_with fail
              go_round
              case rel =>
                refine ⟨j + 1, by omega, by go_num, Lib.hid (fun j' hj' => ?_)⟩
                by_cases e : j' = j
                · subst e; exact HT.out
                · exact HQ.out j' (by omega)
              case measure => simp [intOf]; omega
        · obtain rfl : j = n := by omega
          have hlt2' : ¬ (j : Int) + 1 ≤ (j : Int) := by omega
          go_wp2_with fail
          go_round
          case rel =>
            refine ⟨i + 1, by omega, by go_num, Lib.hid (fun i' hi' => ?_)⟩
            by_cases e : i' = i
            · subst e; exact HQ.out
            · exact HP.out i' (by omega)
          case measure => simp [intOf]; omega
    · obtain rfl : i = n := by omega
      have hlt' : ¬ (i : Int) + 1 ≤ (i : Int) := by omega
      have HE : Hid (closedB xs = true) := Lib.hid ((closedB_iff xs).2 (by rw [← Hn.out]; exact HP.out))
      go_wp2_with fail
      go_ret
      exact ⟨by rw [HE.out]; rfl, rfl⟩


set_option maxHeartbeats 1000000 in
theorem l06Trim_any (g n c B : Nat) (ys : List Int) (w : World) (hn : n = ys.length) (hsm : n ≤ 1048576) (hB : B ≤ w.heap.size) (hO : w.ownsRow B 2 1 (.slice (some ⟨g, 0, none⟩) n c) n (iv ys)) :
    Calls Try.prog 69 #[.slice (some ⟨g, 0, none⟩) n c] w fun e w' => ∃ g' c', e = .returned (.slice (some ⟨g', 0, none⟩) (trimL ys).length c') ∧ w'.ownsRow w.heap.size 2 1 (.slice (some ⟨g', 0, none⟩) (trimL ys).length c') (trimL ys).length (iv (trimL ys)) ∧ Below w.heap.size w w' := by
  have hcap := owns_cap hO
  have hR := owns_Rd hO
  have HR := Lib.hid hR
  have Hn := Lib.hid hn
  clear hR hn hO hB
  go_enter Try.func69, Try.ntmps69
  go_wp2_with fail
  go_loop [3] (fun v => ∃ k : Nat, k ≤ n ∧ v = .int .i64 k ∧ Hid (trimN ys ys.length = trimN ys k)) (fun v => (intOf v).toNat)
  case atStart => exact ⟨n, by omega, rfl, Lib.hid (by rw [Hn.out])⟩
  case round =>
    obtain ⟨k, hk, rfl, HT⟩ := hrel
    have fin : ∀ (h : Hid (trimN ys k = k)), Hid ((trimL ys).length = k ∧ iv (trimL ys) = iv (ys.take k)) := fun h => Lib.hid (by
      have e : trimL ys = ys.take k := by unfold trimL; rw [HT.out, h.out]
      rw [e]
      refine ⟨?_, rfl⟩
      rw [List.length_take, ← Hn.out]; omega)
    have HRk := Lib.hid (show Rd w (some ⟨g, 0, none⟩) (iv (ys.take k)) from by
      rcases HR.out with h | ⟨b, o, h1, h2⟩
      · left
        have : ys = [] := by cases ys with | nil => rfl | cons y ys => cases h
        rw [this]; simp [iv]
      · refine .inr ⟨b, o, h1, fun j v hj => h2 j v ?_⟩
        simp only [iv, List.getElem?_map, List.getElem?_take] at hj ⊢
        split at hj
        · exact hj
        · cases hj)
    have HKL := Lib.hid (show k = (iv (ys.take k)).length from by rw [iv_length, List.length_take, ← Hn.out]; omega)
    have HOW := Lib.hid (fun c => l01Own_any (some ⟨g, 0, none⟩) k c (iv (ys.take k)) w HKL.out (by omega) (iv_one _) HRk.out)
    have HF := Lib.hid fin
    clear fin
    by_cases h0 : k = 0
    · subst h0
      have HF2 := Lib.hid (HF.out (Lib.hid rfl))
      go_wp2_with fail
      refine (HOW.out _).mono ?_
      rintro e w' ⟨g', c', rfl, ho, hb⟩
      have HO := Lib.hid ho
      have HB := Lib.hid hb
      clear ho hb
      go_wp2_with fail
      go_ret
      exact ⟨g', c', by rw [HF2.out.out.1]; rfl, by rw [HF2.out.out.1, HF2.out.out.2]; exact HO.out, HB.out⟩
    · obtain ⟨j, rfl⟩ : ∃ j, k = j + 1 := ⟨k - 1, by omega⟩
      obtain ⟨b', o', e', hc⟩ := HR.out.atI (k := j) (by rw [← Hn.out]; omega)
      injection e' with e'
      injection e' with e1 e2 _
      subst e1; subst e2
      rw [Nat.zero_add] at hc
      have hjn : j < n := by omega
      have hj0 : 0 < j + 1 := by omega
      have hj1 : (0 : Int) < (j : Int) + 1 := by omega
      have HTS : Hid (trimN ys (j + 1) = if ys.getD j 0 = 0 then trimN ys j else j + 1) := Lib.hid rfl
      have hjc : (j : Int) + 1 ≤ (c : Int) := by omega
      have hj2 : (0 : Int) ≤ (j : Int) + 1 := by omega
      have hj3 : ((j : Int) + 1).toNat = j + 1 := by omega
      generalize hx : ys.getD j 0 = x at *
      by_cases hx0 : x = 0
      · subst hx0
        go_wp2_with fail
        go_round
        case rel => exact ⟨j, by omega, by go_num, Lib.hid (by rw [HT.out, HTS.out, if_pos rfl])⟩
        case measure => simp [intOf]
      · have HF2 := Lib.hid (HF.out (Lib.hid (by rw [HTS.out, if_neg hx0])))
        have hxb : ((x : Int) == 0) = false := by simpa using hx0
        go_wp2_with fail
        refine (HOW.out _).mono ?_
        rintro e w' ⟨g', c', rfl, ho, hb⟩
        have HO := Lib.hid ho
        have HB := Lib.hid hb
        clear ho hb
        go_wp2_with fail
        go_ret
        exact ⟨g', c', by rw [HF2.out.out.1]; rfl, by rw [HF2.out.out.1, HF2.out.out.2]; exact HO.out, HB.out⟩

set_option maxRecDepth 100000 in
set_option maxHeartbeats 4000000 in
theorem l13Top_any (A : Option Addr) (n c : Nat) (xs : List Int) (w : World) (hn : n = xs.length) (hsm : n ≤ 1048576) (hR : Rd w A (iv xs)) :
    Calls Try.prog 44 #[.slice A n c] w (ResS (topR xs) w) := by
  have HI := Lib.hid (l07Is_any A n c xs w hn hsm hR)
  cases hp : profB xs with
  | false =>
    rw [hp] at HI
    have HE : Hid (topR xs = ([], 1)) := Lib.hid (by unfold topR; rw [if_neg (by rw [hp]; decide)])
    clear hp hR hn
    go_enter Try.func44, Try.ntmps44
    go_wp2_with (go_at_call 67; refine HI.out.mono ?_; rintro e w' ⟨rfl, rfl⟩)
    go_ret2
    exact ⟨_, by rw [HE.out]; rfl, by rw [HE.out]; exact World.ownsRow_nil _ _ _ _, Below.refl _ _⟩
  | true =>
    rw [hp] at HI
    have HC := Lib.hid (l07Closed_any A n c xs w hn hp hR)
    cases hcl : closedB xs with
    | false =>
      rw [hcl] at HC
      have HE : Hid (topR xs = ([], 5)) := Lib.hid (by unfold topR; rw [if_pos hp, if_neg (by rw [hcl]; decide)])
      clear hp hcl hR hn
      go_enter Try.func44, Try.ntmps44
      go_wp2_with (first | (go_at_call 67; refine HI.out.mono ?_; rintro e w' ⟨rfl, rfl⟩) | (go_at_call 68; refine HC.out.mono ?_; rintro e w' ⟨rfl, rfl⟩))
      go_ret2
      exact ⟨_, by rw [HE.out]; rfl, by rw [HE.out]; exact World.ownsRow_nil _ _ _ _, Below.refl _ _⟩
    | true =>
      rw [hcl] at HC
      have HE : Hid (topR xs = if degP (topL xs) ≤ 40 then (topL xs, 0) else ([], 3)) := Lib.hid (by unfold topR; rw [if_pos hp, if_pos hcl])
      have h16 : n ≤ 16 := by rw [hn]; exact ((profB_iff xs).1 hp).1
      have HP := Lib.hid (prof_get hp)
      have HTB := Lib.hid (topL_bd hp)
      have HDB := Lib.hid (degK_bd hp)
      have HTL := Lib.hid (topL_len xs)
      have HR := Lib.hid hR
      have Hn := Lib.hid hn
      clear hp hcl hR hn
      go_enter Try.func44, Try.ntmps44
      go_wp2_with (first | (go_at_call 67; refine HI.out.mono ?_; rintro e w' ⟨rfl, rfl⟩) | (go_at_call 68; refine HC.out.mono ?_; rintro e w' ⟨rfl, rfl⟩))
      go_loopw [4, 5] (fun v i wr => ∃ k g cap : Nat, k ≤ n ∧ i = .int .i64 k ∧ v = .slice (some ⟨g, 0, none⟩) k cap ∧ wr.ownsRow w.heap.size 2 1 (.slice (some ⟨g, 0, none⟩) k cap) k (iv ((exps xs).take k)) ∧ Below w.heap.size w wr) (fun _ i _ => n - (intOf i).toNat)
      case atStart => exact ⟨0, w.heap.size, 0, by omega, rfl, rfl, World.ownsRow_made w #[] 0 (Nat.le_refl _) (by decide) (by simp), (Below.refl _ _).alloc (Nat.le_refl _) _⟩
      case round =>
        obtain ⟨k, g, cap, hk, rfl, rfl, hown, hbel⟩ := hrel
        have HO := Lib.hid hown
        have HB := Lib.hid hbel
        have hsz := hbel.size
        by_cases hlt : k < n
        · have hkL : k < xs.length := by rw [← Hn.out]; exact hlt
          obtain ⟨b, o, rfl, hc⟩ := (HR.out.below hbel).atI hkL
          have hx := HP.out k
          have HX := Lib.hid (exps_getD xs hkL)
          generalize xs.getD k 0 = x at *
          obtain ⟨d, rfl⟩ := Int.eq_ofNat_of_zero_le hx.1
          have hd : d ≤ 10 := by omega
          obtain ⟨hp1, hp2⟩ := pow10 hd
          have HTS : Hid ((exps xs).take (k + 1) = (exps xs).take k ++ [2 ^ d - 1]) := Lib.hid (by
            rw [List.take_succ_eq_append_getElem (by rw [exps_length]; exact hkL)]
            have h9 := HX.out
            rw [Int.toNat_natCast] at h9
            simp only [List.getD, List.getElem?_eq_getElem (show k < (exps xs).length by rw [exps_length]; exact hkL), Option.getD_some] at h9
            rw [h9])
          clear hown hbel hx
          go_wp2_with (at_builtin; refine wpList_app1 _ _ _ _ _ etI (by rfl) (by rfl) w.heap.size _ k (iv ((exps xs).take k)) (by rfl) ?_ _ (.int .i64 (2 ^ d - 1)) (by rfl) ?_ (by rfl) ?_ ?_ ?_; exact HO.out.alloc _; exact new_cell _ _ _; omega; (simp; omega); (intro g1 cap1 w1 hown1 hgrow1 hat1 hlt1; have HO1 := Lib.hid hown1; have HB1 := Lib.hid (below_app2 HB.out hsz HO.out hgrow1); clear hown1 hgrow1 hat1 hlt1))
          go_roundw
          case rel => exact ⟨k + 1, g1, cap1, by omega, by go_num, rfl, by rw [HTS.out, iv_append]; exact HO1.out, HB1.out⟩
          case measure => simp [intOf]; omega
        · obtain rfl : k = n := by omega
          have he : (exps xs).take k = exps xs := List.take_of_length_le (by rw [exps_length, ← Hn.out]; exact Nat.le_refl _)
          rw [he] at hown
          have HTR := Lib.hid (l06Trim_any g k cap w.heap.size (exps xs) wr (by rw [exps_length]; exact Hn.out) hsm hsz hown)
          clear hown hbel he
          have HTR' : Hid (Calls Try.prog 69 #[.slice (some ⟨g, 0, none⟩) k cap] wr fun e w' => ∃ g' c', e = .returned (.slice (some ⟨g', 0, none⟩) (topL xs).length c') ∧ w'.ownsRow wr.heap.size 2 1 (.slice (some ⟨g', 0, none⟩) (topL xs).length c') (topL xs).length (iv (topL xs)) ∧ Below wr.heap.size wr w') := HTR.out
          clear HTR
          have htl := HTL.out
          rw [← Hn.out] at htl
          have HDD : Hid (degP (topL xs) = degK (topL xs) (topL xs).length) := Lib.hid rfl
          generalize hT : topL xs = T at *
          have HT := Lib.hid hT
          clear hT
          generalize hm : T.length = m at *
          have Hm := Lib.hid hm
          clear hm
          go_wp2_with fail
          refine HTR'.out.mono ?_
          rintro e w2 ⟨g', c', rfl, ho, hb⟩
          have HO2 := Lib.hid ho
          have HB2 := Lib.hid (HB.out.trans (hb.mono hsz))
          clear ho hb
          go_wp2_with fail
          go_loop [6, 7] (fun s i => ∃ k : Nat, k ≤ m ∧ i = .int .i64 k ∧ s = .int .i64 (degK T k)) (fun _ i => m - (intOf i).toNat)
          case atStart => exact ⟨0, by omega, rfl, rfl⟩
          case round =>
            obtain ⟨q, hq, rfl, rfl⟩ := hrel
            have hz := HDB.out q (by omega)
            by_cases hlt2 : q < m
            · have hc := owns_getD HO2.out hlt2
              have hy := HTB.out q
              have HDS : Hid (degK T (q + 1) = degK T q + T.getD q 0 * (2 ^ (q + 1) - 1)) := Lib.hid rfl
              generalize T.getD q 0 = y at *
              generalize degK T q = z at *
              obtain ⟨hy1, hy2⟩ := hy
              obtain ⟨hz1, hz2⟩ := hz
              obtain ⟨hp1, hp2⟩ := pow16 (d := q + 1) (by omega)
              obtain ⟨hm1, hm2⟩ := mul_bd hy1 hy2 (p := 2 ^ (q + 1) - 1) (by omega) (by omega)
              go_wp2_with fail
              go_round
              case rel => exact ⟨q + 1, by omega, by go_num, by rw [HDS.out]⟩
              case measure => simp [intOf]; omega
            · obtain rfl : q = m := by omega
              rw [← HDD.out] at hz ⊢
              generalize degP T = z at *
              by_cases h40 : z ≤ 40
              · have HE2 := Lib.hid (HE.out.trans (if_pos h40))
                go_wp2_with fail
                go_ret2
                exact ⟨_, by rw [HE2.out]; rfl, by rw [HE2.out]; simp only [Hm.out]; exact HO2.out.mono hsz, HB2.out⟩
              · have HE2 := Lib.hid (HE.out.trans (if_neg h40))
                go_wp2_with fail
                go_ret2
                exact ⟨_, by rw [HE2.out]; rfl, by rw [HE2.out]; exact World.ownsRow_nil _ _ _ _, HB2.out⟩
end Go.Proofs.Ytocllmhkppkfoaa
