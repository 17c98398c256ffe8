/- impl's (*table).square, relation -/
import Derived.Test.YtocllmhkppkfoaaPh
import Derived.Test.YtocllmhkppkfoaaAp
namespace Go.Proofs.Ytocllmhkppkfoaa
open Go.RowKit

/-- the table of a module, to be read -/
structure TblAt (w : World) (g : Nat) (A : Option Addr) (n c : Nat) (Q : List (List Int)) : Prop where
  c0 : w.cell? ⟨g, 0, none⟩ = some (.slice A n c)
  row : ∀ k, k < 21 → ∃ h, w.cell? ⟨g, 1 + k, none⟩ = some (.slice (some ⟨h, 0, none⟩) n n) ∧ Rd w (some ⟨h, 0, none⟩) (nv (sqRow Q n k))
theorem TbM.rd {w0 w : World} {g : Nat} {A : Option Addr} {n c : Nat} {h : Nat → Nat} {Q : List (List Int)} (t : TbM w0 w g A n c h 21 (sqRow Q n)) : TblAt w g A n c Q :=
  ⟨t.cell0, fun k hk => ⟨h k, t.cell hk, owns_Rd (t.own k hk)⟩⟩
theorem TblAt.below {w w' : World} {g : Nat} {A : Option Addr} {n c : Nat} {Q : List (List Int)} (t : TblAt w g A n c Q) (hb : Below w.heap.size w w') : TblAt w' g A n c Q :=
  ⟨cell_keep t.c0 hb, fun k hk => by obtain ⟨h, h1, h2⟩ := t.row k hk; exact ⟨h, cell_keep h1 hb, h2.below hb⟩⟩
theorem sm_of_len {xs : List Int} {v : Nat} (h : xs.length ≤ 16) (hv : v < 2 ^ xs.length) : Sm v := by
  have h2 : 2 ^ xs.length ≤ 2 ^ 16 := Nat.pow_le_pow_right (by omega) h
  unfold Sm; omega
theorem sqRow_sm {xs : List Int} {Q : List (List Int)} (h : Shp xs Q) (k : Nat) : ∀ r ∈ sqRow Q xs.length k, Sm r := by
  intro r hr
  unfold sqRow at hr
  rw [List.mem_map] at hr
  obtain ⟨i, hi, rfl⟩ := hr
  rw [List.mem_range] at hi
  rw [sqOr_act h]
  exact sm_of_len h.len (act_lt h (pow_lt_pow hi) _)

set_option maxHeartbeats 1000000 in
theorem square_any (g : Nat) (A : Option Addr) (n c : Nat) (xs : List Int) (Q : List (List Int)) (z y : Int) (v : Nat) (w : World) (hn : n = xs.length) (hs : Shp xs Q) (hz : 0 ≤ z) (hy : y = (v : Int)) (hv : v < 2 ^ xs.length) (ht : TblAt w g A n c Q) :
    Calls Try.prog 104 #[.pointer (some ⟨g, 0, none⟩), .int .i64 z, .int .i64 y] w fun e w' => e = .returned (.int .i64 (act Q z v : Nat)) ∧ w = w' := by
  subst hy
  by_cases hb : 20 < z
  · have HE := Lib.hid (act_big hs hb v)
    clear ht hn hs
    go_enter Try.func104, Try.ntmps104
    go_wp2_with fail
    go_ret
    exact ⟨by rw [HE.out]; rfl, rfl⟩
  · obtain ⟨k, rfl⟩ := Int.eq_ofNat_of_zero_le hz
    obtain ⟨h, h1, h2⟩ := ht.row k (by omega)
    have hT := times_any (some ⟨h, 0, none⟩) n n (sqRow Q n k) v w (sqRow_length _ _ _).symm (by have := hs.len; omega) (sm_of_len hs.len hv) (by rw [hn]; exact sqRow_sm hs k) h2
    have hE := sq_times hs k hv
    rw [← hn] at hE
    rw [hE] at hT
    have HT := Lib.hid hT
    have hk : (k : Int) < 21 := by omega
    clear ht h2 hT hE hn hs
    go_enter Try.func104, Try.ntmps104
    go_wp2_with fail
    refine HT.out.mono ?_
    rintro e w' ⟨rfl, rfl⟩
    go_wp2_with fail
    go_ret
    exact ⟨rfl, rfl⟩

def relF (a b j : Nat) : List Nat := (List.range j).filter (relB a b)
theorem relF_yes {a b j : Nat} (h : relB a b j = true) : relF a b (j + 1) = relF a b j ++ [j] := by unfold relF; rw [List.range_succ, List.filter_append]; simp [h]
theorem relF_no {a b j : Nat} (h : relB a b j = false) : relF a b (j + 1) = relF a b j := by unfold relF; rw [List.range_succ, List.filter_append]; simp [h]
theorem relF_len (a b j : Nat) : (relF a b j).length ≤ j := by unfold relF; exact Nat.le_trans (List.length_filter_le _ _) (by simp)
theorem nv_append (S : List Nat) (j : Nat) : nv (S ++ [j]) = nv S ++ [.int .i64 (j : Int)] := by simp [nv]

set_option maxHeartbeats 2000000 in
theorem relation_any (a b : Nat) (w : World) (ha : 1 ≤ a) (hab : a < 2 * b) (hb1 : a + b ≤ 1000) :
    Calls Try.prog 103 #[.int .i64 a, .int .i64 b] w fun e w' => ∃ g k cap, e = .returned (.slice (some ⟨g, 0, none⟩) k cap) ∧ Hid (k = (relN a b).length) ∧ w'.ownsRow w.heap.size 2 1 (.slice (some ⟨g, 0, none⟩) k cap) k (nv (relN a b)) ∧ Below w.heap.size w w' := by
  go_enter Try.func103, Try.ntmps103
  go_wp2_with fail
  go_loopw [5, 6] (fun v s6 wr => ∃ j g k cap : Nat, j ≤ a / 2 + 1 ∧ s6 = .int .i64 j ∧ v = .slice (some ⟨g, 0, none⟩) k cap ∧ k ≤ j ∧ Hid (k = (relF a b j).length) ∧ wr.ownsRow w.heap.size 2 1 (.slice (some ⟨g, 0, none⟩) k cap) k (nv (relF a b j)) ∧ Below w.heap.size w wr) (fun _ i _ => a / 2 + 1 - (intOf i).toNat)
  case atStart => exact ⟨0, w.heap.size, 0, 0, by omega, rfl, rfl, by omega, Lib.hid rfl, World.ownsRow_made w #[] 0 (Nat.le_refl _) (by decide) (by simp), (Below.refl _ _).alloc (Nat.le_refl _) _⟩
  case round =>
    obtain ⟨j, g, k, cap, hj, rfl, rfl, hkj, HK, hown, hbel⟩ := hrel
    have HO := Lib.hid hown
    have HB := Lib.hid hbel
    have hsz := hbel.size
    by_cases h2 : 2 * j ≤ a
    · have h2' : 2 * (j : Int) ≤ (a : Int) := by omega
      have hand := i64_and_nat (a := b - j - 1) (b := a - 2 * j) (by unfold Sm; omega) (by unfold Sm; omega)
      have e1 : ((b - j - 1 : Nat) : Int) = (b : Int) - j - 1 := by omega
      have e2 : ((a - 2 * j : Nat) : Int) = (a : Int) - 2 * j := by omega
      have HR : Hid (relB a b j = (an (b - j - 1) (a - 2 * j) == a - 2 * j)) := Lib.hid rfl
      rw [e1, e2] at hand
      clear hown hbel
      cases hrel : relB a b j
      · have hne : ((an (b - j - 1) (a - 2 * j) : Nat) : Int) ≠ (a : Int) - 2 * j := by
          have := HR.out.symm.trans hrel
          rw [beq_eq_false_iff_ne] at this
          omega
        have HF := Lib.hid (relF_no hrel)
        generalize an (b - j - 1) (a - 2 * j) = p at *
        have hnb : ((p : Int) == (a : Int) - 2 * j) = false := by simpa using hne
        clear hrel e1 e2 hne
        go_wp2_with fail
        go_roundw
        case rel => exact ⟨j + 1, g, k, cap, by omega, by go_num, rfl, by omega, by rw [HF.out]; exact HK, by rw [HF.out]; exact HO.out, HB.out⟩
        case measure => simp [intOf]; omega
      · have heq : ((an (b - j - 1) (a - 2 * j) : Nat) : Int) = (a : Int) - 2 * j := by
          have := HR.out.symm.trans hrel
          rw [beq_iff_eq] at this
          omega
        rw [heq] at hand
        have HF := Lib.hid (relF_yes hrel)
        have HK2 : Hid (k + 1 = (relF a b j ++ [j]).length) := Lib.hid (by rw [List.length_append, HK.out]; rfl)
        have hk12 : k < 1099511627776 := by omega
        clear hrel e1 e2 heq
        go_wp2_with (at_builtin; refine wpList_app1 _ _ _ _ _ etI (by rfl) (by rfl) w.heap.size (.slice (some ⟨g, 0, none⟩) k cap) k (nv (relF a b j)) (by rfl) (HO.out.alloc _) _ (.int .i64 (j : Int)) (by rfl) (new_cell _ _ _) (by rfl) hk12 (Nat.le_trans hsz (Nat.le_of_lt (by simp))) ?_; (intro g1 cap1 w1 hown1 hgrow1 hat1 hlt1; have HO1 := Lib.hid hown1; have HB1 := Lib.hid (below_app2 HB.out hsz HO.out hgrow1); clear hown1 hgrow1 hat1 hlt1))
        go_roundw
        case rel => exact ⟨j + 1, g1, k + 1, cap1, by omega, by go_num, rfl, by omega, by rw [HF.out]; exact HK2, by rw [HF.out, nv_append]; exact HO1.out, HB1.out⟩
        case measure => simp [intOf]; omega
    · have h2c : ¬ 2 * (j : Int) ≤ (a : Int) := by omega
      have hj9 : j ≤ 1000 := by omega
      have HE : Hid (relF a b j = relN a b) := Lib.hid (by rw [show j = a / 2 + 1 by omega]; rfl)
      rw [HE.out] at HK HO
      clear hown hbel hj h2
      go_wp2_with fail
      go_ret
      exact ⟨g, k, cap, rfl, HK, HO.out, HB.out⟩
end Go.Proofs.Ytocllmhkppkfoaa
