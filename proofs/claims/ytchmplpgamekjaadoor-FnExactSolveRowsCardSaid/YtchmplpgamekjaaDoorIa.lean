/- the reference's l02Solve -/
import Derived.Test.YtchmplpgamekjaaDoorMc
import Derived.Test.YtchmplpgamekjaaDoorT
namespace Go.Proofs.YtchmplpgamekjaaDoor
open Go.RowKit

theorem smp_left : ∀ (L : List (Nat × Nat)) (p : Nat × Nat), (∀ r ∈ L, SmP r) → SmP p → SmP (leftN L p)
  | [], _, _, hp => hp
  | r :: L, p, h, hp => smp_left L (leftStep p r) (fun s hs => h s (List.mem_cons_of_mem _ hs)) (hp.step (h r (List.mem_cons_self ..)))
theorem shl_one {k : Nat} (h : k ≤ 60) : wrap64 ((2 : Int) ^ k) = ((2 ^ k : Nat) : Int) := by
  have h1 := pow60 h
  have h2 := pow_pos' k
  rw [Int.natCast_pow]
  show wrap64 ((2 : Int) ^ k) = (2 : Int) ^ k
  generalize (2 : Int) ^ k = z at *
  unfold wrap64; omega
theorem apart_some {v : Value} {g c n : Nat} (h : v.ownBlock = none ∨ v.ownBlock ≠ some g) : (Value.slice (some ⟨g, 0, none⟩) n c).ownBlock = none ∨ (Value.slice (some ⟨g, 0, none⟩) n c).ownBlock ≠ v.ownBlock := by
  refine .inr fun e => ?_
  have e1 : (Value.slice (some ⟨g, 0, none⟩) n c).ownBlock = some g := rfl
  rw [e1] at e
  rcases h with h | h
  · rw [h] at e; cases e
  · exact h e.symm
theorem apart_ne {g g' c c' n n' : Nat} (h : (Value.slice (some ⟨g, 0, none⟩) n c).ownBlock = none ∨ (Value.slice (some ⟨g, 0, none⟩) n c).ownBlock ≠ some g') : (Value.slice (some ⟨g, 0, none⟩) n c).ownBlock ≠ (Value.slice (some ⟨g', 0, none⟩) n' c').ownBlock := by
  rcases h with h | h
  · cases h
  · exact h
/-- the lists done and sums after k rounds -/
def solK (S : List Nat) (k : Nat) : List (Nat × Nat) := growAll ((us 0 S).take k)
theorem solK_succ {S : List Nat} {k : Nat} (h : k < S.length) : solK S (k + 1) = growL (solK S k) (S.getD k 0, 2 ^ k) := by
  unfold solK growAll
  rw [fold_take_succ growL [] (us 0 S) k (0, 0) (by rw [us_length]; exact h), us_getD S 0 k h, Nat.zero_add]
theorem growL_length (L : List (Nat × Nat)) (p : Nat × Nat) : (growL L p).length ≤ L.length + 1 := by unfold growL; split <;> simp
theorem solK_length (S : List Nat) : ∀ k, k ≤ S.length → (solK S k).length ≤ k := by
  intro k
  induction k with
  | zero => intro _; simp [solK, growAll]
  | succ k ih => intro h; rw [solK_succ (by omega)]; have := growL_length (solK S k) (S.getD k 0, 2 ^ k); have := ih (by omega); omega
theorem solK_good {S : List Nat} (hS : ∀ r ∈ S, Sm r) (hl : S.length ≤ 62) (k : Nat) : Good (solK S k) := by
  have hu := us_sm hS hl
  have h1 : ∀ p ∈ (us 0 S).take k, SmP p := fun p hp => hu p (List.mem_of_mem_take hp)
  have he : Ech (r1 (solK S k)) := grow_ech_all _ [] ⟨by simp [r1], by simp [r1]⟩ fun p hp => (h1 p hp).1
  have hs := grow_all (P := SmP) smp_left _ [] h1 (by simp)
  intro r hr
  exact ⟨(he.ne r.1 (List.mem_map_of_mem hr)).1, hs r hr⟩
theorem solK_all (S : List Nat) : solK S S.length = growAll (us 0 S) := by
  unfold solK; rw [List.take_of_length_le (by rw [us_length]; exact Nat.le_refl _)]

attribute [local go_sem] i64_xor_nat and_pw_ne in
set_option maxRecDepth 100000 in
set_option maxHeartbeats 2000000 in
theorem solve_any (A : Option Addr) (n c : Nat) (S : List Nat) (v : Nat) (w : World) (hn : n = S.length) (hsmall : n ≤ 60) (hv : Sm v) (hS : ∀ r ∈ S, Sm r) (hR : Rd w A (nv S)) :
    Calls Tryd.prog 76 #[.slice A n c, .int .i64 v] w fun e w' => e = .returned (.tuple #[.int .i64 ((solL S v).2 : Nat), .bool (decide ((solL S v).1 = 0))]) ∧ Below w.heap.size w w' := by
  have Hn := Lib.hid hn
  have HR := Lib.hid hR
  have HS := Lib.hid hS
  have HG := Lib.hid (fun k => solK_good hS (by omega) k)
  clear hn hR hS
  go_enter Tryd.func76, Tryd.ntmps76
  go_wp2_with fail
  go_loopw [6, 7, 9] (fun d s i wr => ∃ k : Nat, k ≤ n ∧ i = .int .i64 k ∧ wr.ownsRow w.heap.size 2 1 d (solK S k).length (nv (r1 (solK S k))) ∧ wr.ownsRow w.heap.size 2 1 s (solK S k).length (nv (r2 (solK S k))) ∧ d.ownBlock ≠ s.ownBlock ∧ Below w.heap.size w wr) (fun _ _ i _ => n - (intOf i).toNat)
  case atStart =>
    refine ⟨0, by omega, rfl, ?_, ?_, by simp [Value.ownBlock], ((Below.refl _ _).alloc (Nat.le_refl _) _).alloc (by simp) _⟩
    · exact (World.ownsRow_made w #[] 0 (Nat.le_refl _) (by decide) (by simp)).alloc _
    · have := World.ownsRow_made (w.alloc (.cells #[] 2)) #[] 0 (base := w.heap.size) (e := 2) (size := 1) (by simp) (by decide) (by simp)
      rw [World.size_alloc] at this
      exact this
  case round =>
    obtain ⟨k, hk, rfl, hod, hos, hne, hbel⟩ := hrel
    have hsz : w.heap.size ≤ wr.heap.size := hbel.size
    by_cases hlt : k < n
    · have hkL : k < S.length := by rw [← Hn.out]; exact hlt
      obtain ⟨b, o, rfl, hc⟩ := (HR.out.below hbel).atN hkL
      have hx := HS.out _ (getD_mem hkL)
      have Hs := Lib.hid (solK_succ hkL)
      have hg := HG.out k
      have hl := solK_length S k (by omega)
      have hp2 : Sm (2 ^ k) := by
        have := pw_sm (p := k) (by omega); exact this
      generalize solK S k = L at *
      generalize S.getD k 0 = x at *
      obtain ⟨D, cd, rfl, _, hD, _⟩ := owns_shape hod
      obtain ⟨E, ce, rfl, _, hE, _⟩ := owns_shape hos
      have HOD := Lib.hid hod
      have HOS := Lib.hid hos
      have HNE := Lib.hid hne
      have HB := Lib.hid hbel
      have HRD := Lib.hid (owns_Rd hod)
      have HRE := Lib.hid (owns_Rd hos)
      clear hod hos hne hbel hD hE
      go_wp2_with fail
      go_loop [10, 11, 12] (fun a b j => ∃ i : Nat, i ≤ L.length ∧ j = .int .i64 i ∧ a = .int .i64 (leftN (L.take i) (x, 2 ^ k)).1 ∧ b = .int .i64 (leftN (L.take i) (x, 2 ^ k)).2) (fun _ _ j => L.length - (intOf j).toNat)
      case atStart =>
        exact ⟨0, by omega, rfl, rfl, congrArg (Value.int .i64) (shl_one (by omega))⟩
      case round =>
        obtain ⟨i, hi, rfl, rfl, rfl⟩ := hrel
        by_cases hlt2 : i < L.length
        · obtain ⟨b1, o1, rfl, hc1⟩ := HRD.out.atN (k := i) (by rw [r1_length]; exact hlt2)
          obtain ⟨b2, o2, rfl, hc2⟩ := HRE.out.atN (k := i) (by rw [r2_length]; exact hlt2)
          rw [r1_getD] at hc1; rw [r2_getD] at hc2
          obtain ⟨g0, g1, g2⟩ := hg.at_ hlt2
          have Hi := Lib.hid (fold_take_succ leftStep (x, 2 ^ k) L i (0, 0) hlt2)
          have hq : SmP (leftN (L.take i) (x, 2 ^ k)) := SmP.foldl (hg.take i) ⟨hx, hp2⟩
          obtain ⟨q1, q2⟩ := hq
          have hpv := pv_le g0 g1
          generalize hP : leftN (L.take i) (x, 2 ^ k) = p at *
          generalize hR' : L.getD i (0, 0) = r at *
          have HP := Lib.hid hP; clear hP
          have HR' := Lib.hid hR'; clear hR' hg
          have HL := Lib.hid (fun W => low_any r.1 g0 g1 W)
          cases hb : tb p.1 (pv r.1)
          all_goals
            go_wp2_with (go_at_call 111; refine (HL.out _).mono ?_; rintro e w' ⟨rfl, rfl⟩)
            go_round
            case rel => exact ⟨i + 1, by omega, by go_num, by unfold leftN at *; rw [Hi.out, HP.out]; simp [leftStep, hb], by unfold leftN at *; rw [Hi.out, HP.out]; simp [leftStep, hb]⟩
            case measure => simp [intOf]; omega
        · have ei : L.take i = L := List.take_of_length_le (by omega)
          rw [ei]
          have hq : SmP (leftN L (x, 2 ^ k)) := SmP.foldl hg ⟨hx, hp2⟩
          have hgr := grow_cases L (x, 2 ^ k)
          obtain ⟨q1, q2⟩ := hq
          generalize leftN L (x, 2 ^ k) = q at *
          rcases hgr with ⟨hgr, h0⟩ | ⟨hgr, h0⟩
          · have HGR := Lib.hid hgr
            clear hgr
            rw [h0]
            go_wp2_with fail
            go_roundw
            case rel => exact ⟨k + 1, by omega, by go_num, by rw [Hs.out, HGR.out]; exact HOD.out, by rw [Hs.out, HGR.out]; exact HOS.out, HNE.out, HB.out⟩
            case measure => simp [intOf]; omega
          · have HGR := Lib.hid hgr
            have hne0 : ((q.1 : Int) != 0) = true := by simpa using h0
            clear hgr
            go_wp2_with (first | (at_builtin; refine wpList_app1 _ _ _ _ _ etI (by rfl) (by rfl) w.heap.size _ L.length (nv (r1 L)) (by rfl) ?_ _ (.int .i64 (q.1 : Int)) (by rfl) ?_ (by rfl) ?_ ?_ ?_; exact HOD.out.alloc _; exact new_cell _ _ _; omega; (simp; omega); (intro g1' cap1 w1 hown1 hgrow1 hat1 hlt1; obtain ⟨t1, t2⟩ := own_other_app HOS.out (.inr HNE.out.symm) hgrow1 hat1; have HB1 := Lib.hid (below_app HB.out hsz HOD.out hgrow1); have hsz1 : w.heap.size ≤ w1.heap.size := HB1.out.size; have HO1 : Hid (w1.ownsRow w.heap.size 2 1 (.slice (some ⟨g1', 0, none⟩) (L.length + 1) cap1) (L.length + 1) (nv (r1 (L ++ [q])))) := (by show Go.World.ownsRow _ _ _ _ _ _ _; rw [show r1 (L ++ [q]) = r1 L ++ [q.1] by simp [r1], ← nv_snoc]; exact hown1); have HT1 := Lib.hid t1; have HT2 := Lib.hid t2; clear hown1 hgrow1 hat1 hlt1 t1 t2)) | (at_builtin; refine wpList_app1 _ _ _ _ _ etI (by rfl) (by rfl) w.heap.size _ L.length (nv (r2 L)) (by rfl) ?_ _ (.int .i64 (q.2 : Int)) (by rfl) ?_ (by rfl) ?_ ?_ ?_; exact HT1.out.alloc _; exact new_cell _ _ _; omega; (simp; omega); (intro g2' cap2 w2 hown2 hgrow2 hat2 hlt2; obtain ⟨t1, t2⟩ := own_other_app HO1.out (apart_some HT2.out) hgrow2 hat2; have HB2 := Lib.hid (below_app HB1.out hsz1 HT1.out hgrow2); have HO2 : Hid (w2.ownsRow w.heap.size 2 1 (.slice (some ⟨g2', 0, none⟩) (L.length + 1) cap2) (L.length + 1) (nv (r2 (L ++ [q])))) := (by show Go.World.ownsRow _ _ _ _ _ _ _; rw [show r2 (L ++ [q]) = r2 L ++ [q.2] by simp [r2], ← nv_snoc]; exact hown2); have HT3 := Lib.hid t1; have HT4 := Lib.hid (apart_ne (n' := L.length + 1) (c' := cap2) t2); clear hown2 hgrow2 hat2 hlt2 t1 t2)))
            go_roundw
            case rel => exact ⟨k + 1, by omega, by go_num, by rw [Hs.out, HGR.out]; exact own_cast HT3.out (by simp) rfl, by rw [Hs.out, HGR.out]; exact own_cast HO2.out (by simp) rfl, HT4.out, HB2.out⟩
            case measure => simp [intOf]; omega
    · have ek : k = S.length := by rw [← Hn.out]; omega
      have hg := HG.out k
      have HE : Hid (solL S v = leftN (solK S k) (v, 0)) := by show _ = _; rw [ek, solK_all]; rfl
      have hl := solK_length S k (by omega)
      clear ek
      generalize solK S k = L at *
      obtain ⟨D, cd, rfl, _, hD, _⟩ := owns_shape hod
      obtain ⟨E, ce, rfl, _, hE, _⟩ := owns_shape hos
      have HB := Lib.hid hbel
      have HRD := Lib.hid (owns_Rd hod)
      have HRE := Lib.hid (owns_Rd hos)
      clear hod hos hne hbel hD hE
      go_wp2_with fail
      go_loop [1, 8, 13] (fun a b j => ∃ i : Nat, i ≤ L.length ∧ j = .int .i64 i ∧ a = .int .i64 (leftN (L.take i) (v, 0)).1 ∧ b = .int .i64 (leftN (L.take i) (v, 0)).2) (fun _ _ j => L.length - (intOf j).toNat)
      case atStart => exact ⟨0, by omega, rfl, rfl, rfl⟩
      case round =>
        obtain ⟨i, hi, rfl, rfl, rfl⟩ := hrel
        by_cases hlt2 : i < L.length
        · obtain ⟨b1, o1, rfl, hc1⟩ := HRD.out.atN (k := i) (by rw [r1_length]; exact hlt2)
          obtain ⟨b2, o2, rfl, hc2⟩ := HRE.out.atN (k := i) (by rw [r2_length]; exact hlt2)
          rw [r1_getD] at hc1; rw [r2_getD] at hc2
          obtain ⟨g0, g1, g2⟩ := hg.at_ hlt2
          have Hi := Lib.hid (fold_take_succ leftStep (v, 0) L i (0, 0) hlt2)
          have hq : SmP (leftN (L.take i) (v, 0)) := SmP.foldl (hg.take i) ⟨hv, Sm.zero⟩
          obtain ⟨q1, q2⟩ := hq
          have hpv := pv_le g0 g1
          generalize hP : leftN (L.take i) (v, 0) = p at *
          generalize hR' : L.getD i (0, 0) = r at *
          have HP := Lib.hid hP; clear hP
          have HR' := Lib.hid hR'; clear hR' hg
          have HL := Lib.hid (fun W => low_any r.1 g0 g1 W)
          cases hb : tb p.1 (pv r.1)
          all_goals
            go_wp2_with (go_at_call 111; refine (HL.out _).mono ?_; rintro e w' ⟨rfl, rfl⟩)
            go_round
            case rel => exact ⟨i + 1, by omega, by go_num, by unfold leftN at *; rw [Hi.out, HP.out]; simp [leftStep, hb], by unfold leftN at *; rw [Hi.out, HP.out]; simp [leftStep, hb]⟩
            case measure => simp [intOf]; omega
        · have ei : L.take i = L := List.take_of_length_le (by omega)
          rw [ei]
          generalize leftN L (v, 0) = q at *
          go_wp2_with fail
          go_ret2
          have hbq : ((q.1 : Int) == 0) = decide (q.1 = 0) := by by_cases hz : q.1 = 0 <;> simp [hz]
          refine ⟨?_, HB.out⟩
          rw [HE.out]
          simp [hbq]
end Go.Proofs.YtchmplpgamekjaaDoor
