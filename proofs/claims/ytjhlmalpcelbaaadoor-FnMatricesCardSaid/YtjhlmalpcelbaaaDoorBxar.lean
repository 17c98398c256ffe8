/- same9, IsMatrix of the reference, roll, below · plain: what the law FnMatrices asks -/
import Derived.Test.YtjhlmalpcelbaaaDoorBxaq
import Derived.Test.YtjhlmalpcelbaaaDoorBxah
import Derived.Test.YtjhlmalpcelbaaaDoorBxan
import Derived.Test.YtjhlmalpcelbaaaDoorBxai
set_option linter.all false
namespace Go.Proofs.YtjhlmalpcelbaaaDoor
open Go.RowKit

set_option maxRecDepth 100000 in
set_option maxHeartbeats 2000000 in
theorem same9_same (A A' : Option Addr) (n n' c c' : Nat) (L M : List Row) (w : World) (hn : n = L.length) (hn' : n' = M.length) (hsm : n ≤ 1000000) (hD : dat L = dat M) (hin : ∀ i, i < L.length → (rg L i).xs.length ≤ 1000000) (hR : RdR w A L) (hR' : RdR w A' M) :
    Calls Tryd.prog 21 #[.slice A n c, .slice A' n' c'] w fun e w' => e = .returned (.bool true) ∧ ∃ m, w.drewN m = w' := by
  obtain ⟨hl, hx⟩ := dat_xs hD.symm
  have hnn : n' = n := by rw [hn', hn, hl]
  subst hnn
  have HR := Lib.hid hR
  have HR' := Lib.hid hR'
  have Hn := Lib.hid hn
  have Hn' := Lib.hid hn'
  have HX := Lib.hid hx
  have HIN := Lib.hid hin
  clear hR hR' hn hn' hx hl hD hin
  go_enter Tryd.func21, Tryd.ntmps21
  go_wp2_with fail
  go_loopw [5] (fun i wr => ∃ k : Nat, k ≤ n' ∧ i = .int .i64 k ∧ (∃ m, wr = w.drewN m)) (fun i _ => n' - (intOf i).toNat)
  case atStart => exact ⟨0, by omega, rfl, ⟨0, rfl⟩⟩
  case round =>
    obtain ⟨k, hk, rfl, ⟨m, rfl⟩⟩ := hrel
    by_cases hlt : k < n'
    · have hkL : k < L.length := by rw [← Hn.out]; exact hlt
      have hkM : k < M.length := by rw [← Hn'.out]; exact hlt
      have hlti : (k : Int) < (n' : Int) := by omega
      obtain ⟨b1, o1, rfl, hc1⟩ := HR.out.at_ hkL
      obtain ⟨b2, o2, rfl, hc2⟩ := HR'.out.at_ hkM
      have e1 := HX.out k
      have hl1 := HIN.out k hkL
      have HC := Lib.hid (likeInts_any (rg L k).A (rg M k).A (rg L k).xs.length (rg M k).xs.length (rg L k).c (rg M k).c (rg L k).xs (rg M k).xs ((w.drewN m).drew) rfl rfl (by omega) (by rw [e1]; omega) ((HR.out.inn k hkL)) ((HR'.out.inn k hkM)))
      rw [show eqI (rg L k).xs (rg M k).xs = true by rw [e1]; simp [eqI]] at HC
      clear e1 hl1
      generalize rg L k = r at *
      generalize rg M k = s at *
      go_wp2_with fail
      refine wp_region_held_drew (S := (fun w' => w'.cell? ⟨b1, o1 + k, none⟩ = some (.slice r.A r.xs.length r.c) ∧ w'.cell? ⟨b2, o2 + k, none⟩ = some (.slice s.A s.xs.length s.c))) (by kernel_rfl) (by exact ⟨hc1, hc2⟩) (fun hHeld => ?_)
      refine wpAnyH_take (i := 0) (oi := ?oim1_1) (v := ?vm1_1) ?hm1_1 (by kernel_rfl) (by kernel_rfl) (by kernel_rfl) ?qm1_1 (Or.inl ⟨?wm1_1, ?ym1_1⟩) (by assumption) ?rm1_1
      case hm1_1 => (simp only [List.getElem?_toArray, List.getElem?_cons_succ, List.getElem?_cons_zero]; rfl)
      case qm1_1 => exact fun _ _ _ h => h
      case wm1_1 => rfl
      case ym1_1 => (intro w hSw; (try dsimp only at hSw); go_simp <;> with_reducible rfl)
      try simp only [Act.put, List.setIfInBounds_toArray, List.set_cons_zero, List.set_cons_succ]
      refine wpAnyH_take (i := 1) (oi := ?oim1_2) (v := ?vm1_2) ?hm1_2 (by kernel_rfl) (by kernel_rfl) (by kernel_rfl) ?qm1_2 (Or.inl ⟨?wm1_2, ?ym1_2⟩) (by assumption) ?rm1_2
      case hm1_2 => (simp only [List.getElem?_toArray, List.getElem?_cons_succ, List.getElem?_cons_zero]; rfl)
      case qm1_2 => exact fun _ _ _ h => h
      case wm1_2 => rfl
      case ym1_2 => (intro w hSw; (try dsimp only at hSw); go_simp <;> with_reducible rfl)
      try simp only [Act.put, List.setIfInBounds_toArray, List.set_cons_zero, List.set_cons_succ]
      refine wpAnyH_take (i := 2) (oi := ?oim1_3) (v := ?vm1_3) ?hm1_3 (by kernel_rfl) (by kernel_rfl) (by kernel_rfl) ?qm1_3 (Or.inl ⟨?wm1_3, ?ym1_3⟩) (by assumption) ?rm1_3
      case hm1_3 => (simp only [List.getElem?_toArray, List.getElem?_cons_succ, List.getElem?_cons_zero]; rfl)
      case qm1_3 => exact fun _ _ _ h => h
      case wm1_3 => rfl
      case ym1_3 => (intro w hSw; (try dsimp only at hSw); go_simp <;> with_reducible rfl)
      try simp only [Act.put, List.setIfInBounds_toArray, List.set_cons_zero, List.set_cons_succ]
      refine wpAnyH_take (i := 3) (oi := ?oim1_4) (v := ?vm1_4) ?hm1_4 (by kernel_rfl) (by kernel_rfl) (by kernel_rfl) ?qm1_4 (Or.inl ⟨?wm1_4, ?ym1_4⟩) (by assumption) ?rm1_4
      case hm1_4 => (simp only [List.getElem?_toArray, List.getElem?_cons_succ, List.getElem?_cons_zero]; rfl)
      case qm1_4 => exact fun _ _ _ h => h
      case wm1_4 => rfl
      case ym1_4 => (intro w hSw; (try dsimp only at hSw); go_simp <;> with_reducible rfl)
      try simp only [Act.put, List.setIfInBounds_toArray, List.set_cons_zero, List.set_cons_succ]
      refine wpAnyH_take (i := 4) (oi := ?oim1_5) (v := ?vm1_5) ?hm1_5 (by kernel_rfl) (by kernel_rfl) (by kernel_rfl) ?qm1_5 (Or.inl ⟨?wm1_5, ?ym1_5⟩) (by assumption) ?rm1_5
      case hm1_5 => (simp only [List.getElem?_toArray, List.getElem?_cons_succ, List.getElem?_cons_zero]; rfl)
      case qm1_5 => exact fun _ _ _ h => h
      case wm1_5 => rfl
      case ym1_5 => (intro w hSw; (try dsimp only at hSw); go_simp <;> with_reducible rfl)
      try simp only [Act.put, List.setIfInBounds_toArray, List.set_cons_zero, List.set_cons_succ]
      refine wpAnyH_take (i := 5) (oi := ?oim1_6) (v := ?vm1_6) ?hm1_6 (by kernel_rfl) (by kernel_rfl) (by kernel_rfl) ?qm1_6 (Or.inl ⟨?wm1_6, ?ym1_6⟩) (by assumption) ?rm1_6
      case hm1_6 => (simp only [List.getElem?_toArray, List.getElem?_cons_succ, List.getElem?_cons_zero]; rfl)
      case qm1_6 => exact fun _ _ _ h => h
      case wm1_6 => rfl
      case ym1_6 => (intro w hSw; (try dsimp only at hSw); go_simp <;> with_reducible rfl)
      try simp only [Act.put, List.setIfInBounds_toArray, List.set_cons_zero, List.set_cons_succ]
      refine wpAnyH_take (i := 6) (oi := ?oim1_7) (v := ?vm1_7) ?hm1_7 (by kernel_rfl) (by kernel_rfl) (by kernel_rfl) ?qm1_7 (Or.inl ⟨?wm1_7, ?ym1_7⟩) (by assumption) ?rm1_7
      case hm1_7 => (simp only [List.getElem?_toArray, List.getElem?_cons_succ, List.getElem?_cons_zero]; rfl)
      case qm1_7 => exact fun _ _ _ h => h
      case wm1_7 => rfl
      case ym1_7 => (intro w hSw; (try dsimp only at hSw); go_simp <;> with_reducible rfl)
      try simp only [Act.put, List.setIfInBounds_toArray, List.set_cons_zero, List.set_cons_succ]
      refine wpAnyH_take (i := 7) (oi := ?oim1_8) (v := ?vm1_8) ?hm1_8 (by kernel_rfl) (by kernel_rfl) (by kernel_rfl) ?qm1_8 (Or.inl ⟨?wm1_8, ?ym1_8⟩) (by assumption) ?rm1_8
      case hm1_8 => (simp only [List.getElem?_toArray, List.getElem?_cons_succ, List.getElem?_cons_zero]; rfl)
      case qm1_8 => exact fun _ _ _ h => h
      case wm1_8 => rfl
      case ym1_8 => (intro w hSw; (try dsimp only at hSw); go_simp <;> with_reducible rfl)
      try simp only [Act.put, List.setIfInBounds_toArray, List.set_cons_zero, List.set_cons_succ]
      refine wpAnyH_ready (rs := [8]) (by kernel_rfl) (by simp) ?_
      refine AllReadyH.cons (o := ?oim1_9) ?hm1_9 (fun K hK => ?km1_9) ?mm1_9
      case hm1_9 => (simp only [List.getElem?_toArray, List.getElem?_cons_succ, List.getElem?_cons_zero]; rfl)
      case km1_9 =>
        go_simp
        (go_at_call 15; refine HC.out.mono ?_; rintro e w2 ⟨rfl, m2, rfl⟩)
        refine hK.out _ _ (by exact ⟨hc1, hc2⟩) (fun hHeld => ?_)
        clear hK K
        try simp only [Act.put, List.setIfInBounds_toArray, List.set_cons_zero, List.set_cons_succ]
        refine wpAnyH_take (i := 9) (oi := ?oim1_10) (v := ?vm1_10) ?hm1_10 (by kernel_rfl) (by kernel_rfl) (by kernel_rfl) ?qm1_10 (Or.inl ⟨?wm1_10, ?ym1_10⟩) (by assumption) ?rm1_10
        case hm1_10 => (simp only [List.getElem?_toArray, List.getElem?_cons_succ, List.getElem?_cons_zero]; rfl)
        case qm1_10 => exact fun _ _ _ h => h
        case wm1_10 => rfl
        case ym1_10 => (intro w hSw; (try dsimp only at hSw); go_simp <;> with_reducible rfl)
        try simp only [Act.put, List.setIfInBounds_toArray, List.set_cons_zero, List.set_cons_succ]
        refine wpAnyH_done (by kernel_rfl) ?_ _
        go_wp2_with fail
        go_roundw
        case rel => exact ⟨k + 1, by omega, by go_num, ⟨m + 1 + m2, rfl⟩⟩
        case measure => simp [intOf]; omega
      exact AllReadyH.nil
    · have hlti : ¬ (k : Int) < (n' : Int) := by omega
      go_wp2_with fail
      go_ret
      exact ⟨rfl, m, rfl⟩

/-- a dice at block g -/
structure DiceAt (w : World) (g : Nat) (A : Option Addr) (n c : Nat) (bs : List Nat) : Prop where
  src : ∃ (a : Nat) (h : Int), a ≤ n ∧ w.heap[g]? = some (.cells #[.slice A n c, .int .i64 a, .int .u64 h] 83 (0, 0))
  len : n = bs.length
  small : n ≤ 4096
  byte : ∀ b ∈ bs, b < 256
  rd : Rd w A (bv bs)
  off : ∀ a, A = some a → a.block ≠ g
def DiceOut (w : World) (g : Nat) (A : Option Addr) (n c : Nat) (bs : List Nat) (m : Int) (e : Ending) (w' : World) : Prop :=
  ∃ x : Int, e = .returned (.int .i64 x) ∧ 0 ≤ x ∧ (1 ≤ m → x < m) ∧ (¬ 1 ≤ m → x = 0) ∧ DiceAt w' g A n c bs ∧ Keeps w w' [some g]

set_option maxRecDepth 100000 in
set_option maxHeartbeats 2000000 in
theorem below_any (g : Nat) (A : Option Addr) (n c : Nat) (bs : List Nat) (m : Int) (hm : m ≤ 4611686018427387904) (w : World) (hs : DiceAt w g A n c bs) :
    Calls Tryd.prog 34 #[.pointer (some ⟨g, 0, none⟩), .int .i64 m] w (DiceOut w g A n c bs m) := by
  by_cases h1 : 1 ≤ m
  · obtain ⟨a, h, ha, hb⟩ := hs.src
    obtain ⟨c0, c1, c2, f0, f1, f2, lg⟩ := blk3cells hb
    have hn := hs.small
    have HS := Lib.hid hs
    have HB := Lib.hid hb
    clear hs hb
    by_cases hlt : a < n
    · obtain ⟨b, o, hA, hc⟩ := HS.out.rd.atB (k := a) (by rw [← HS.out.len]; exact hlt)
      subst hA
      go_enter Tryd.func34, Tryd.ntmps34
      have hne : b ≠ g := HS.out.off ⟨b, o, none⟩ rfl
      have hc' : ∀ u, (w.setCell ⟨g, 2, none⟩ u).cell? ⟨b, o + a, none⟩ = some (.int .u8 ((bs.getD a 0 : Nat) : Int)) := fun u => (World.cell?_of_block (a := ⟨b, o + a, none⟩) (Below.heap_setCell w ⟨g, 2, none⟩ u b hne)).trans hc
      go_wp2_with fail
      go_quiet (fail)
      generalize nq = nq1
      go_wp2_with fail
      go_quiet (fail)
      go_wp2_with fail
      go_ret
      have hz := HS.out.byte _ (getD_memB (show a < bs.length by rw [← HS.out.len]; exact hlt))
      have hy := and24 (IntKind.u64.wrap (IntKind.u64.wrap (h * 6364136223846793005) + 1442695040888963407) / 8589934592)
      obtain ⟨v1, v2⟩ := draw_val2 hy.1 hy.2 (z := ((bs[a]?.getD 0 : Nat) : Int)) (by omega) (by simpa [List.getD] using (by omega : ((bs.getD a 0 : Nat) : Int) < 256)) h1
      have hk := ((((Keeps.refl w [some g]).setCell (p := ⟨g, 2, none⟩) (by simp) (.int .u64 (IntKind.u64.wrap (IntKind.u64.wrap (h * 6364136223846793005) + 1442695040888963407)))).drewN (nq1 + nq)).setCell (p := ⟨g, 1, none⟩) (by simp) (.int .i64 ((a : Int) + 1)))
      refine ⟨_, rfl, v1, fun _ => v2, fun h => by omega, ⟨⟨a + 1, (IntKind.u64.wrap (IntKind.u64.wrap (h * 6364136223846793005) + 1442695040888963407)), by omega, ?_⟩, HS.out.len, HS.out.small, HS.out.byte, ?_, HS.out.off⟩, ?_⟩
      · rw [show ((a + 1 : Nat) : Int) = (a : Int) + 1 by omega]
        exact blk3set1 (w := (w.setCell ⟨g, 2, none⟩ _).drewN _) (blk3set2 HB.out _) _
      · exact HS.out.rd.keeps hk (fun x hx => by simp only [List.mem_singleton]; intro e; injection e with e; exact HS.out.off x hx e)
      · exact hk
    · have hc' : True := trivial
      go_enter Tryd.func34, Tryd.ntmps34
      go_wp2_with fail
      go_quiet (fail)
      go_wp2_with fail
      go_ret
      have hy := and24 (IntKind.u64.wrap (IntKind.u64.wrap (h * 6364136223846793005) + 1442695040888963407) / 8589934592)
      obtain ⟨v1, v2⟩ := draw_val1 hy.1 hy.2 h1
      have hk := (((Keeps.refl w [some g]).setCell (p := ⟨g, 2, none⟩) (by simp) (.int .u64 (IntKind.u64.wrap (IntKind.u64.wrap (h * 6364136223846793005) + 1442695040888963407)))).drewN nq)
      refine ⟨_, rfl, v1, fun _ => v2, fun h => by omega, ⟨⟨a, (IntKind.u64.wrap (IntKind.u64.wrap (h * 6364136223846793005) + 1442695040888963407)), ha, ?_⟩, HS.out.len, HS.out.small, HS.out.byte, ?_, HS.out.off⟩, ?_⟩
      · exact blk3set2 HB.out _
      · exact HS.out.rd.keeps hk (fun x hx => by simp only [List.mem_singleton]; intro e; injection e with e; exact HS.out.off x hx e)
      · exact hk
  · have HS := Lib.hid hs
    clear hs
    go_enter Tryd.func34, Tryd.ntmps34
    go_wp2_with fail
    go_ret
    exact ⟨0, rfl, by omega, fun h => by omega, fun _ => rfl, HS.out, Keeps.refl _ _⟩

set_option maxRecDepth 100000 in
set_option maxHeartbeats 2000000 in
theorem roll_any (A : Option Addr) (n c : Nat) (bs : List Nat) (w : World) (hn : n = bs.length) (hsm : n ≤ 4096) (hby : ∀ b ∈ bs, b < 256) (hR : Rd w A (bv bs)) (hlt : ∀ a, A = some a → a.block < w.heap.size) :
    Calls Tryd.prog 33 #[.slice A n c, .int .u64 9101] w fun e w' => e = .returned (.pointer (some ⟨w.heap.size, 0, none⟩)) ∧ DiceAt w' w.heap.size A n c bs ∧ Below w.heap.size w w' := by
  have Hn := Lib.hid hn
  have HR := Lib.hid hR
  have HB := Lib.hid hby
  have HL := Lib.hid hlt
  clear hn hR hby hlt
  go_enter Tryd.func33, Tryd.ntmps33
  go_wp2_with fail
  go_loopw [6] (fun i wr => ∃ k : Nat, k ≤ n ∧ i = .int .i64 k ∧ (∃ h : Int, wr.heap[w.heap.size]? = some (.cells #[.slice A n c, .int .i64 0, .int .u64 h] 83 (0, 0))) ∧ Below w.heap.size w wr) (fun i _ => n - (intOf i).toNat)
  case atStart => exact ⟨0, by omega, rfl, ⟨_, blk_new w _⟩, (Below.refl _ _).alloc (Nat.le_refl _) _⟩
  case round =>
    obtain ⟨k, hk, rfl, ⟨h, hb⟩, hbel⟩ := hrel
    obtain ⟨c0, c1, c2, f0, f1, f2, lg⟩ := blk3cells hb
    by_cases hlt : k < n
    · have hkL : k < bs.length := by rw [← Hn.out]; exact hlt
      obtain ⟨b, o, rfl, hc⟩ := (HR.out.below hbel).atB hkL
      have hk4 : k < 4096 := by omega
      have HBK := Lib.hid hb
      have HBL := Lib.hid hbel
      clear hb hbel
      go_wp2_with fail
      go_region_law (fail)
      all_goals
        go_wp2_with fail
        go_roundw
        case rel => exact ⟨k + 1, by omega, by go_num, ⟨_, blk3set2 HBK.out _⟩, (HBL.out.setCell (p := ⟨w.heap.size, 2, none⟩) (Nat.le_refl _) _).drew⟩
        case measure => simp [intOf]; omega
    · have HBK := Lib.hid hb
      have HBL := Lib.hid hbel
      clear hb hbel
      go_wp2_with fail
      go_ret
      exact ⟨rfl, ⟨⟨0, h, by omega, HBK.out⟩, Hn.out, hsm, HB.out, HR.out.below HBL.out, fun a ha => Nat.ne_of_lt (HL.out a ha)⟩, HBL.out⟩

set_option maxHeartbeats 1000000 in
theorem specIs_any (c : Int) (A : Option Addr) (n cap : Nat) (xs : List Int) (w : World) (hn : n = xs.length) (hsm : n ≤ 1099511627776) (hR : Rd w A (iv xs)) :
    Calls Tryd.prog 23 #[.agg #[.int .i64 c, .slice A n cap]] w fun e w' => e = .returned (.bool (isMat c xs)) ∧ Below w.heap.size w w' := by
  have HB : Hid (Below w.heap.size w (w.alloc (.cells #[.int .i64 c, .slice A n cap] 26))) := Lib.hid ((Below.refl _ _).alloc (Nat.le_refl _) _)
  have H1 := Lib.hid (l02Is_any c A n cap xs _ hn hsm (hR.below HB.out))
  clear hn hR
  go_enter Tryd.func23, Tryd.ntmps23
  go_wp2_with fail
  refine H1.out.mono ?_
  rintro e w1 ⟨rfl, hb⟩
  have HB1 := Lib.hid (HB.out.trans (hb.mono HB.out.size))
  clear hb
  go_wp2_with fail
  go_ret
  exact ⟨rfl, HB1.out⟩
end Go.Proofs.YtjhlmalpcelbaaaDoor

namespace Go.Proofs.YtjhlmalpcelbaaaDoor

theorem lom_code (c : Int) (xs : List Int) : (isMat c xs = true ∧ (lomOf c xs).2 = 0 ∧ (redOf c xs).2.2 = 0) ∨ (isMat c xs = false ∧ (lomOf c xs).2 = 1 ∧ redOf c xs = (0, [], 1)) := by
  cases hi : isMat c xs
  · exact .inr ⟨rfl, by simp [lomOf, hi], by simp [redOf, hi]⟩
  · exact .inl ⟨rfl, by simp [lomOf, hi], by simp [redOf, hi]⟩
theorem map_bits {S : List Nat} {d : Nat} (h : ∀ r ∈ S, r < 2 ^ d) : (S.map (fun r => bitsL r d)).map mk = S := by
  rw [List.map_map]
  conv => rhs; rw [← List.map_id S]
  exact List.map_congr_left fun r hr => mk_bits (h r hr)
theorem back_law {c : Int} {xs : List Int} (hi : isMat c xs = true) : molOf c (lomOf c xs).1 = (c, toN xs, 0) := by
  obtain ⟨d, rfl, hd⟩ := isMat_cols hi
  have hlt := rows_lt hi
  rw [Int.toNat_natCast] at hlt
  have hl := isMat_len hi
  have e : (lomOf (d : Int) xs).1 = (toN xs).map (fun r => bitsL r d) := by simp [lomOf, hi]
  rw [e, molOf_good hd (by simp [toN]; exact hl) (fun j hj => ?_), map_bits hlt]
  have hj2 : j < (toN xs).length := by simpa using hj
  have : ((toN xs).map (fun r => bitsL r d)).getD j [] = bitsL ((toN xs).getD j 0) d := by simp [List.getD, hj2]
  rw [this]
  exact vecB_bits
theorem red_has {c : Int} {xs : List Int} (hi : isMat c xs = true) {i : Nat} (h : i < xs.length) : hasOf (redOf c xs).1 (nI (redOf c xs).2.1) (xs.getD i 0) = (true, 0) := by
  obtain ⟨d, rfl, hd⟩ := isMat_cols hi
  have hlt := rows_lt hi
  have hS := isMat_sm hi
  rw [Int.toNat_natCast] at hlt
  have e : redOf (d : Int) xs = ((d : Int), reduceS (toN xs), 0) := by unfold redOf; rw [if_pos hi]
  rw [e]
  have hl := isMat_len hi
  have hred : ∀ r ∈ reduceS (toN xs), r < 2 ^ d := fun r hr => sp_ltD hlt ((sp_reduce hS r).1 (.mem hr))
  have hm : isMat (d : Int) (nI (reduceS (toN xs))) = true := isMat_nI hd (Nat.le_trans (reduce_le _ hS) (by rw [toN_len]; exact hl)) hred
  have hx : xs.getD i 0 = (((toN xs).getD i 0 : Nat) : Int) := by
    have h0 := (isMat_nonneg hi (xs.getD i 0) (by rw [List.getD_eq_getElem?_getD, List.getElem?_eq_getElem h]; exact List.getElem_mem h)).1
    have : (toN xs).getD i 0 = (xs.getD i 0).toNat := by simp [toN, List.getD, h]
    rw [this]; omega
  rw [hx]
  refine has_in hm ?_
  rw [toN_nI]
  exact (sp_reduce hS _).2 (.mem (getD_mem (by rw [toN_len]; exact h)))
theorem again_law {c : Int} {xs : List Int} (h : fewOf c xs = 0) : turnOf (xs.length : Int) (nI (turnS (toN xs) c.toNat)) = (c, toN xs, 0) := by
  obtain ⟨hi, hl⟩ := fewOf_zero h
  obtain ⟨d, rfl, hd⟩ := isMat_cols hi
  have hlt := rows_lt hi
  rw [Int.toNat_natCast] at hlt ⊢
  have hm : isMat (xs.length : Int) (nI (turnS (toN xs) d)) = true := isMat_nI hl (by rw [turnS_len]; omega) (fun r hr => by have := turn_lt (toN xs) d r hr; rwa [toN_len] at this)
  have hf : fewOf (xs.length : Int) (nI (turnS (toN xs) d)) = 0 := by unfold fewOf; rw [if_pos hm, if_neg (by rw [nI_length, turnS_len]; omega)]
  unfold turnOf
  rw [if_pos hf, nI_length, turnS_len, toN_nI, Int.toNat_natCast]
  have := turn_turn hlt
  rw [toN_len] at this
  rw [this]
theorem turn_code (c : Int) (xs : List Int) : (turnOf c xs).2.2 = fewOf c xs := by
  unfold turnOf
  split
  · rename_i h; exact h.symm
  · rfl
/-- products are associative with masks -/
theorem mul_law {c c' : Int} {xs ys : List Int} {z : Nat} (h : (mulOf c xs c' ys).2.2 = 0) (h1 : xs.length ≤ 60) (h2 : ys.length ≤ 60) (hz : z < 2 ^ xs.length) :
    ∃ y u : Nat, timesOf (z : Int) c xs = ((y : Int), 0) ∧ timesOf (y : Int) c' ys = ((u : Int), 0) ∧ timesOf (z : Int) (mulOf c xs c' ys).1 (nI (mulOf c xs c' ys).2.1) = ((u : Int), 0) := by
  unfold mulOf at h ⊢
  split at h
  · rename_i hm
    rw [Bool.and_eq_true] at hm
    obtain ⟨hi, hj⟩ := hm
    split at h
    · rename_i hc
      rw [if_pos (by rw [hi, hj]; rfl), if_pos hc]
      subst hc
      obtain ⟨d', rfl, hd'⟩ := isMat_cols hj
      have hltx := rows_lt hi
      have hlty := rows_lt hj
      rw [Int.toNat_natCast] at hltx hlty
      have hy : comb (toN xs) 0 z < 2 ^ ys.length := sp_ltD hltx (comb_spB _ _ _)
      refine ⟨comb (toN xs) 0 z, comb (toN ys) 0 (comb (toN xs) 0 z), ?_, ?_, ?_⟩
      · unfold timesOf
        rw [if_pos hi, if_pos (by rw [mask_natD hz]; simpa using h1), Int.toNat_natCast]
      · unfold timesOf
        rw [if_pos hj, if_pos (by rw [mask_natD hy]; simpa using h2), Int.toNat_natCast]
      · have hrow : ∀ r ∈ (toN xs).map (comb (toN ys) 0), r < 2 ^ d' := fun r hr => by
          obtain ⟨x, _, rfl⟩ := List.mem_map.1 hr
          exact sp_ltD hlty (comb_spB _ _ _)
        have hp : isMat (d' : Int) (nI ((toN xs).map (comb (toN ys) 0))) = true := isMat_nI hd' (by simp [toN]; omega) hrow
        have hpl : (nI ((toN xs).map (comb (toN ys) 0))).length = xs.length := by rw [nI_length, List.length_map, toN_len]
        unfold timesOf
        dsimp only
        rw [if_pos hp, hpl, if_pos (by rw [mask_natD hz]; simpa using h1), toN_nI, Int.toNat_natCast, comb_mapB]
    · cases h
  · cases h
theorem mul_len (c : Int) (xs : List Int) (c' : Int) (ys : List Int) : (mulOf c xs c' ys).2.1.length ≤ xs.length := by
  unfold mulOf
  split
  · split
    · show ((toN xs).map _).length ≤ _
      rw [List.length_map, toN_len]; exact Nat.le_refl _
    · simp
  · simp
theorem mol_len (c : Int) (D : List (List Int)) : (molOf c D).2.1.length ≤ 200 := by
  unfold molOf
  split
  · rename_i h
    split
    · show (D.map mk).length ≤ 200
      rw [List.length_map]
      simp only [Bool.and_eq_true, decide_eq_true_eq] at h
      exact h.2
    · simp
  · simp
theorem lom_lens (c : Int) (xs : List Int) : (lomOf c xs).1.length ≤ 200 ∧ ∀ i, i < (lomOf c xs).1.length → ((lomOf c xs).1.getD i []).length ≤ 60 := by
  cases hi : isMat c xs
  · have e : lomOf c xs = ([], 1) := by simp [lomOf, hi]
    rw [e]
    exact ⟨by simp, fun i h => by simp at h⟩
  · obtain ⟨d, rfl, hd⟩ := isMat_cols hi
    have e : lomOf (d : Int) xs = ((toN xs).map (fun r => bitsL r d), 0) := by simp [lomOf, hi]
    have hl := isMat_len hi
    rw [e]
    refine ⟨by simp [toN]; exact hl, fun i h => ?_⟩
    have hil : i < (toN xs).length := by simpa using h
    have : ((toN xs).map (fun r => bitsL r d)).getD i [] = bitsL ((toN xs).getD i 0) d := by simp [List.getD, hil]
    show (((toN xs).map (fun r => bitsL r d)).getD i []).length ≤ 60
    rw [this, bitsL_length]; exact hd
theorem turn_len60 (c : Int) (xs : List Int) : (turnOf c xs).2.1.length ≤ 60 := by
  unfold turnOf
  split
  · rename_i h
    exact (turn_val h).2
  · simp
theorem nI_toN {c : Int} {xs : List Int} (hi : isMat c xs = true) : nI (toN xs) = xs := by
  unfold nI toN
  rw [List.map_map]
  conv => rhs; rw [← List.map_id xs]
  refine List.map_congr_left fun x hx => ?_
  have := (isMat_nonneg hi x hx).1
  show ((x.toNat : Nat) : Int) = x
  omega
theorem again_law2 {c : Int} {xs : List Int} (h : (turnOf c xs).2.2 = 0) : turnOf (turnOf c xs).1 (nI (turnOf c xs).2.1) = (c, toN xs, 0) := by
  rw [turn_code] at h
  rw [(turn_val h).1]
  exact again_law h
end Go.Proofs.YtjhlmalpcelbaaaDoor
