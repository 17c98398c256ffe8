/- the reference's l02Least; its SolveRows -/
import Derived.Test.YtchmplpgamekjaaDoorLs
namespace Go.Proofs.YtchmplpgamekjaaDoor
open Go.RowKit

def topK (K : List Nat) (k : Nat) : List Nat := (K.take k).foldl topS []
theorem topK_succ {K : List Nat} {k : Nat} (h : k < K.length) : topK K (k + 1) = topS (topK K k) (K.getD k 0) := fold_take_succ topS [] K k 0 h
theorem topK_inv {K : List Nat} (hK : ∀ r ∈ K, Sm r) : ∀ k, k ≤ K.length → EchT (topK K k) ∧ (topK K k).length ≤ k ∧ ∀ r ∈ topK K k, Sm r := by
  intro k
  induction k with
  | zero => intro _; exact ⟨⟨by simp [topK], by simp [topK]⟩, by simp [topK], by simp [topK]⟩
  | succ k ih =>
    intro hk
    obtain ⟨h1, h2, h3⟩ := ih (by omega)
    rw [topK_succ (by omega)]
    exact ⟨topS_ech h1 _, by have := topS_len (topK K k) (K.getD k 0); omega, topS_sm h3 (hK _ (getD_mem (by omega)))⟩
theorem topK_all (K : List Nat) : topK K K.length = topsOf K := by unfold topK topsOf; rw [List.take_length]
def iterT (T : List Nat) (x : Nat) : Nat → Nat
  | 0 => x
  | k + 1 => leftT T (iterT T x k)
theorem iterT_all {T : List Nat} (h : EchT T) (x : Nat) : iterT T x T.length = leftT T x := by
  have h1 : ∀ k, iterT T x (k + 1) = leftT T x := by
    intro k
    induction k with
    | zero => rfl
    | succ k ih =>
      show leftT T (iterT T x (k + 1)) = _
      rw [ih, leftT_id (h.left x)]
  cases T with
  | nil => rfl
  | cons r T => exact h1 T.length
theorem iterT_sm {T : List Nat} (h : ∀ r ∈ T, Sm r) {x : Nat} (hx : Sm x) : ∀ k, Sm (iterT T x k)
  | 0 => hx
  | k + 1 => leftT_sm h (iterT_sm h hx k)
theorem leftT_take_sm {T : List Nat} (h : ∀ r ∈ T, Sm r) {x : Nat} (hx : Sm x) (i : Nat) : Sm (leftT (T.take i) x) := leftT_sm (fun r hr => h r (List.mem_of_mem_take hr)) hx
theorem leftT_succ {T : List Nat} {i : Nat} (h : i < T.length) (x : Nat) : leftT (T.take (i + 1)) x = stepT (leftT (T.take i) x) (T.getD i 0) := fold_take_succ stepT x T i 0 h
/-- the test of 'min' -/
theorem min_test {x r : Nat} (h0 : r ≠ 0) : (tb x (tp r) = true → stepT x r = xr x r ∧ ((xr x r : Nat) : Int) < (x : Int) ∧ xr x r < x) ∧ (tb x (tp r) = false → stepT x r = x ∧ ¬ ((xr x r : Nat) : Int) < (x : Int) ∧ ¬ xr x r < x) := by
  have h := min_stepT (x := x) h0
  constructor
  · intro hb
    have := h.2 hb
    exact ⟨by unfold stepT; rw [if_pos hb], by omega, this⟩
  · intro hb
    have : ¬ xr x r < x := fun hc => by rw [h.1 hc] at hb; cases hb
    exact ⟨by unfold stepT; rw [if_neg (by rw [hb]; simp)], by omega, this⟩

attribute [local go_sem] i64_xor_nat in
set_option maxRecDepth 100000 in
set_option maxHeartbeats 2000000 in
theorem l02Least_any (A : Option Addr) (n c : Nat) (K : List Nat) (x : Nat) (w : World) (hn : n = K.length) (hsmall : n ≤ 1000) (hK : ∀ r ∈ K, Sm r) (hx : Sm x) (hR : Rd w A (nv K)) :
    Calls Tryd.prog 83 #[.slice A n c, .int .i64 x] w fun e w' => e = .returned (.int .i64 ((leftT (topsOf K) x : Nat) : Int)) ∧ Below w.heap.size w w' := by
  have Hn := Lib.hid hn
  have HR := Lib.hid hR
  have HK := Lib.hid hK
  have HI := Lib.hid (topK_inv hK)
  clear hn hR hK
  go_enter Tryd.func83, Tryd.ntmps83
  go_wp2_with fail
  go_loopw [5, 6] (fun t i wr => ∃ k : Nat, k ≤ n ∧ i = .int .i64 k ∧ wr.ownsRow w.heap.size 2 1 t (topK K k).length (nv (topK K k)) ∧ Below w.heap.size w wr) (fun _ i _ => n - (intOf i).toNat)
  case atStart =>
    exact ⟨0, by omega, rfl, World.ownsRow_made w #[] 0 (Nat.le_refl _) (by decide) (by simp), (Below.refl _ _).alloc (Nat.le_refl _) _⟩
  case round =>
    obtain ⟨k, hk, rfl, hot, hbel⟩ := hrel
    have hsz : w.heap.size ≤ wr.heap.size := hbel.size
    obtain ⟨e1, l1, s1⟩ := HI.out k (by rw [← Hn.out]; exact hk)
    by_cases hlt : k < n
    · have hkL : k < K.length := by rw [← Hn.out]; exact hlt
      obtain ⟨b, o, rfl, hc⟩ := (HR.out.below hbel).atN hkL
      have hr := HK.out _ (getD_mem hkL)
      have Hs := Lib.hid (topK_succ hkL)
      generalize topK K k = T at *
      generalize K.getD k 0 = y at *
      obtain ⟨D, cd, rfl, _, hD, _⟩ := owns_shape hot
      have HO := Lib.hid hot
      have HB := Lib.hid hbel
      have HRD := Lib.hid (owns_Rd hot)
      have HE := Lib.hid e1
      have HSM := Lib.hid s1
      clear hot hbel hD e1 s1
      go_wp2_with fail
      go_loop [7, 8] (fun a j => ∃ i : Nat, i ≤ T.length ∧ j = .int .i64 i ∧ a = .int .i64 (leftT (T.take i) y)) (fun _ j => T.length - (intOf j).toNat)
      case atStart => exact ⟨0, by omega, rfl, rfl⟩
      case round =>
        obtain ⟨i, hi, rfl, rfl⟩ := hrel
        by_cases hlt2 : i < T.length
        · obtain ⟨b1, o1, rfl, hc1⟩ := HRD.out.atN (k := i) hlt2
          have g0 := HE.out.ne _ (getD_mem hlt2)
          have g1 := HSM.out _ (getD_mem hlt2)
          have Hi := Lib.hid (leftT_succ hlt2 y)
          have hq := leftT_take_sm HSM.out hr i
          generalize leftT (T.take i) y = p at *
          generalize T.getD i 0 = r at *
          obtain ⟨m1, m2⟩ := min_test (x := p) g0
          have hxq := hq.xr g1
          cases hb : tb p (tp r)
          · obtain ⟨m3, m4, m5⟩ := m2 hb
            have HM := Lib.hid m3
            clear m1 m2 m3 hb
            go_wp2_with fail
            go_round
            case rel => exact ⟨i + 1, by omega, by go_num, by rw [Hi.out, HM.out]; exact congrArg (Value.int .i64) (by omega)⟩
            case measure => simp [intOf]; omega
          · obtain ⟨m3, m4, m5⟩ := m1 hb
            have HM := Lib.hid m3
            clear m1 m2 m3 hb
            go_wp2_with fail
            go_round
            case rel => exact ⟨i + 1, by omega, by go_num, by rw [Hi.out, HM.out]; exact congrArg (Value.int .i64) (by omega)⟩
            case measure => simp [intOf]; omega
        · have ei : T.take i = T := List.take_of_length_le (by omega)
          rw [ei]
          have hq := leftT_sm HSM.out hr
          have hts : topS T y = if leftT T y = 0 then T else T ++ [leftT T y] := rfl
          generalize leftT T y = q at *
          by_cases h0 : q = 0
          · rw [if_pos h0] at hts
            have HTS := Lib.hid hts
            clear hts
            subst h0
            go_wp2_with fail
            go_roundw
            case rel => exact ⟨k + 1, by omega, by go_num, by rw [Hs.out, HTS.out]; exact HO.out, HB.out⟩
            case measure => simp [intOf]; omega
          · rw [if_neg h0] at hts
            have HTS := Lib.hid hts
            have hne0 : ((q : Int) != 0) = true := by simpa using h0
            clear hts h0
            go_wp2_with (at_builtin; refine wpList_app1 _ _ _ _ _ etI (by rfl) (by rfl) w.heap.size (.slice D T.length cd) T.length (nv T) (by rfl) ?_ _ (.int .i64 (q : Int)) (by rfl) ?_ (by rfl) ?_ ?_ ?_; exact HO.out.alloc _; exact new_cell _ _ _; omega; (simp; omega); (intro g1' cap1 w1 hown1 hgrow1 hat1 hlt1; have HB1 := Lib.hid (below_app HB.out hsz HO.out hgrow1); have HO1 : Hid (w1.ownsRow w.heap.size 2 1 (.slice (some ⟨g1', 0, none⟩) (T.length + 1) cap1) (T.length + 1) (nv (T ++ [q]))) := (by rw [← nv_snoc]; exact hown1); clear hown1 hgrow1 hat1 hlt1))
            go_roundw
            case rel => exact ⟨k + 1, by omega, by go_num, by rw [Hs.out, HTS.out]; exact own_cast HO1.out (by simp) rfl, HB1.out⟩
            case measure => simp [intOf]; omega
    · have ek : k = K.length := by rw [← Hn.out]; omega
      have HT := Lib.hid (topK_all K)
      have hlK : (topK K k).length ≤ 1000 := by omega
      rw [ek] at hot e1 l1 s1 hlK
      rw [topK_all] at hot e1 l1 s1 hlK
      have HE := Lib.hid (iterT_all e1 x)
      have HSM := Lib.hid s1
      have HEC := Lib.hid e1
      obtain ⟨D, cd, rfl, _, hD, _⟩ := owns_shape hot
      have HRD := Lib.hid (owns_Rd hot)
      have HB := Lib.hid hbel
      clear hot hbel hD e1 s1 ek l1
      generalize hTT : topsOf K = T at *
      have HTT := Lib.hid hTT
      clear hTT
      go_wp2_with fail
      go_loop [1, 9] (fun a j => ∃ k : Nat, k ≤ T.length ∧ j = .int .i64 k ∧ a = .int .i64 (iterT T x k)) (fun _ j => T.length - (intOf j).toNat)
      case atStart => exact ⟨0, by omega, rfl, rfl⟩
      case round =>
        obtain ⟨k2, hk2, rfl, rfl⟩ := hrel
        by_cases hlt2 : k2 < T.length
        · have hz := iterT_sm HSM.out hx k2
          have hit : iterT T x (k2 + 1) = leftT T (iterT T x k2) := rfl
          have HIT := Lib.hid hit
          clear hit
          generalize iterT T x k2 = z at *
          go_wp2_with fail
          go_loop [1, 10] (fun a j => ∃ i : Nat, i ≤ T.length ∧ j = .int .i64 i ∧ a = .int .i64 (leftT (T.take i) z)) (fun _ j => T.length - (intOf j).toNat)
          case atStart => exact ⟨0, by omega, rfl, rfl⟩
          case round =>
            obtain ⟨i, hi, rfl, rfl⟩ := hrel
            by_cases hlt3 : i < T.length
            · obtain ⟨b1, o1, rfl, hc1⟩ := HRD.out.atN (k := i) hlt3
              have g0 := HEC.out.ne _ (getD_mem hlt3)
              have g1 := HSM.out _ (getD_mem hlt3)
              have Hi := Lib.hid (leftT_succ hlt3 z)
              have hq := leftT_take_sm HSM.out hz i
              generalize leftT (T.take i) z = p at *
              generalize T.getD i 0 = r at *
              obtain ⟨m1, m2⟩ := min_test (x := p) g0
              have hxq := hq.xr g1
              cases hb : tb p (tp r)
              · obtain ⟨m3, m4, m5⟩ := m2 hb
                have HM := Lib.hid m3
                clear m1 m2 m3 hb
                go_wp2_with fail
                go_round
                case rel => exact ⟨i + 1, by omega, by go_num, by rw [Hi.out, HM.out]; exact congrArg (Value.int .i64) (by omega)⟩
                case measure => simp [intOf]; omega
              · obtain ⟨m3, m4, m5⟩ := m1 hb
                have HM := Lib.hid m3
                clear m1 m2 m3 hb
                go_wp2_with fail
                go_round
                case rel => exact ⟨i + 1, by omega, by go_num, by rw [Hi.out, HM.out]; exact congrArg (Value.int .i64) (by omega)⟩
                case measure => simp [intOf]; omega
            · have ei : T.take i = T := List.take_of_length_le (by omega)
              rw [ei]
              go_wp2_with fail
              go_round
              case rel => exact ⟨k2 + 1, by omega, by go_num, by rw [HIT.out]⟩
              case measure => simp [intOf]; omega
        · have ek2 : k2 = T.length := by omega
          subst ek2
          rw [HE.out]
          go_wp2_with fail
          go_ret
          exact ⟨by rw [HTT.out]; rfl, HB.out⟩
end Go.Proofs.YtchmplpgamekjaaDoor
