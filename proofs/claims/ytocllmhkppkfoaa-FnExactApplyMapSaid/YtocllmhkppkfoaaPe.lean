/- impl's times, tableOf -/
import Derived.Test.YtocllmhkppkfoaaMo
import Derived.Test.YtocllmhkppkfoaaEa
import Derived.Test.YtocllmhkppkfoaaLw2
import Derived.StillTailTactics
import Derived.Deep.DeepCutAuto
namespace Go.Proofs.Ytocllmhkppkfoaa
open Go.RowKit

theorem comb_snoc : ∀ (S : List Nat) (r i x : Nat), comb (S ++ [r]) i x = xr (comb S i x) (if tb x (i + S.length) = true then r else 0)
  | [], r, i, x => by simp [comb, xr_zero, zero_xr]
  | s :: S, r, i, x => by
    simp only [List.cons_append, comb, comb_snoc S r (i + 1) x, List.length_cons, xr_assoc]
    rw [show i + 1 + S.length = i + (S.length + 1) by omega]
theorem comb_succ (S : List Nat) (x : Nat) {k : Nat} (h : k < S.length) : comb (S.take (k + 1)) 0 x = xr (comb (S.take k) 0 x) (if tb x k = true then S.getD k 0 else 0) := by
  rw [List.take_succ_eq_append_getElem h, comb_snoc, List.length_take, Nat.min_eq_left (Nat.le_of_lt h), Nat.zero_add]
  simp [List.getD, h]
theorem comb_sm : ∀ (S : List Nat) (i x : Nat), (∀ r ∈ S, Sm r) → Sm (comb S i x)
  | [], _, _, _ => Sm.zero
  | r :: S, i, x, h => by
    simp only [comb]
    refine Sm.xr ?_ (comb_sm S (i + 1) x fun s hs => h s (List.mem_cons_of_mem _ hs))
    split
    · exact h r (List.mem_cons_self ..)
    · exact Sm.zero
attribute [local go_sem] i64_xor_nat i64_bit_test in
set_option maxHeartbeats 1000000 in
theorem times_any (A : Option Addr) (n c : Nat) (S : List Nat) (x : Nat) (w : World) (hn : n = S.length) (hsm : n ≤ 64) (hx : Sm x) (hS : ∀ r ∈ S, Sm r) (hR : Rd w A (nv S)) :
    Calls Try.prog 61 #[.int .i64 x, .slice A n c] w fun e w' => e = .returned (.int .i64 (comb S 0 x : Nat)) ∧ w = w' := by
  have HR := Lib.hid hR
  have Hn := Lib.hid hn
  have HS := Lib.hid hS
  clear hR hn hS
  go_enter Try.func61, Try.ntmps61
  go_wp2_with fail
  go_loop [5, 10] (fun t i => ∃ k : Nat, k ≤ n ∧ i = .int .i64 k ∧ t = .int .i64 (comb (S.take k) 0 x : Nat)) (fun _ i => n - (intOf i).toNat)
  case atStart => exact ⟨0, by omega, rfl, rfl⟩
  case round =>
    obtain ⟨k, hk, rfl, rfl⟩ := hrel
    by_cases hlt : k < n
    · have hkL : k < S.length := by rw [← Hn.out]; exact hlt
      obtain ⟨b, o, rfl, hc⟩ := HR.out.atN hkL
      have HC := Lib.hid (comb_succ S x hkL)
      have h1 : Sm (comb (S.take k) 0 x) := comb_sm _ _ _ fun r hr => HS.out r (List.mem_of_mem_take hr)
      have h2 : Sm (S.getD k 0) := HS.out _ (by simp [List.getD, hkL])
      generalize comb (S.take k) 0 x = p at *
      generalize S.getD k 0 = q at *
      have hmin : min k 64 = k := by omega
      cases hb : tb x k
      · have HE := Lib.hid (HC.out.trans (by rw [hb]; simp [xr_zero] : _ = p))
        go_wp2_with fail
        go_round
        case rel => exact ⟨k + 1, by omega, by go_num, by rw [HE.out]⟩
        case measure => simp [intOf]; omega
      · have HE := Lib.hid (HC.out.trans (by rw [hb]; simp : _ = xr p q))
        go_wp2_with fail
        go_round
        case rel => exact ⟨k + 1, by omega, by go_num, by rw [HE.out]⟩
        case measure => simp [intOf]; omega
    · have e : S.take k = S := List.take_of_length_le (by rw [← Hn.out]; omega)
      rw [e]
      clear e
      go_wp2_with fail
      go_ret
      exact ⟨rfl, rfl⟩

/-- the table of a module under way: the block of the table, m rows made, their numbers -/
structure TbM (w0 w : World) (g : Nat) (A : Option Addr) (n c : Nat) (h : Nat → Nat) (m : Nat) (S : Nat → List Nat) : Prop where
  blk : ∃ cs : Array Value, w.heap[g]? = some (.cells cs 97 (0, 0)) ∧ cs.size = 22 ∧ cs[0]? = some (.slice A n c) ∧ ∀ k, k < m → cs[1 + k]? = some (.slice (some ⟨h k, 0, none⟩) n n)
  own : ∀ k, k < m → w.ownsRow w0.heap.size 2 1 (.slice (some ⟨h k, 0, none⟩) n n) n (nv (S k))
  inj : ∀ k j, k < m → j < m → k ≠ j → h k ≠ h j
  ge : w0.heap.size ≤ g
  bel : Below w0.heap.size w0 w
section
variable {w0 w : World} {g : Nat} {A : Option Addr} {n c : Nat} {h : Nat → Nat} {m : Nat} {S : Nat → List Nat}
theorem TbM.cell (t : TbM w0 w g A n c h m S) {k : Nat} (hk : k < m) : w.cell? ⟨g, 1 + k, none⟩ = some (.slice (some ⟨h k, 0, none⟩) n n) := by
  obtain ⟨cs, hb, _, _, hc⟩ := t.blk
  rw [cell_of_row w g (1 + k) cs _ _ hb]; exact hc k hk
theorem TbM.cell0 (t : TbM w0 w g A n c h m S) : w.cell? ⟨g, 0, none⟩ = some (.slice A n c) := by
  obtain ⟨cs, hb, _, h0, _⟩ := t.blk
  rw [cell_of_row w g 0 cs _ _ hb]; exact h0
theorem TbM.frozen (t : TbM w0 w g A n c h m S) (i : Nat) : w.frozen? ⟨g, i, none⟩ = false := by
  obtain ⟨cs, hb, _⟩ := t.blk
  simp [World.frozen?, hb]
theorem TbM.old (t : TbM w0 w g A n c h m S) {i : Nat} (hi : i < 22) : ∃ v, w.cell? ⟨g, i, none⟩ = some v := by
  obtain ⟨cs, hb, hs, _⟩ := t.blk
  rw [cell_of_row w g i cs _ _ hb]
  exact ⟨cs[i], by simp [hs, hi]⟩
theorem TbM.lt (t : TbM w0 w g A n c h m S) : g < w.heap.size := by
  obtain ⟨cs, hb, _⟩ := t.blk
  exact (Array.getElem?_eq_some_iff.1 hb).1
theorem TbM.ne (t : TbM w0 w g A n c h m S) {k : Nat} (hk : k < m) : h k ≠ g := by
  obtain ⟨cs, hb, _⟩ := t.blk
  have := own_ne_blk (t.own k hk) hb (by decide)
  simpa [Value.ownBlock] using this
theorem TbM.congr {S' : Nat → List Nat} (t : TbM w0 w g A n c h m S) (e : ∀ k, k < m → S k = S' k) : TbM w0 w g A n c h m S' :=
  ⟨t.blk, fun k hk => by rw [← e k hk]; exact t.own k hk, t.inj, t.ge, t.bel⟩
theorem TbM.below {w' : World} (t : TbM w0 w g A n c h m S) (hb : Below w.heap.size w w') : TbM w0 w' g A n c h m S := by
  obtain ⟨cs, hk, rest⟩ := t.blk
  exact ⟨⟨cs, blk_kept hk hb, rest⟩, fun k hk => owns_keeps (t.own k hk) (Keeps.of_below hb) (.inr (by simp)), t.inj, t.ge, t.bel.trans (hb.mono t.bel.size)⟩
/-- a number stored into a row -/
theorem TbM.store (t : TbM w0 w g A n c h m S) {k : Nat} (hk : k < m) (b x : Nat) : TbM w0 (w.setCell ⟨h k, b, none⟩ (.int .i64 (x : Int))) g A n c h m (fun j => if j = k then (S k).set b x else S j) := by
  have ks : Keeps w (w.setCell ⟨h k, b, none⟩ (.int .i64 (x : Int))) [some (h k)] := (Keeps.refl w [some (h k)]).setCell (p := ⟨h k, b, none⟩) (by simp) _
  obtain ⟨cs, hb, rest⟩ := t.blk
  refine ⟨⟨cs, blk_seto hb _ (t.ne hk) _, rest⟩, fun j hj => ?_, t.inj, t.ge, t.bel.setCell (p := ⟨h k, b, none⟩) ((t.own k hk).lt (h k) rfl).1 _⟩
  by_cases e : j = k
  · subst e
    rw [if_pos rfl]
    have := (World.ownsRow.stored (t.own j hk) b (.int .i64 (x : Int))).1
    have e2 : nv ((S j).set b x) = (nv (S j)).set b (.int .i64 (x : Int)) := by simp [nv, List.map_set]
    rw [e2]; exact this
  · rw [if_neg e]
    exact owns_keeps (t.own j hj) ks (.inr (by simp only [Value.ownBlock, List.mem_singleton, Option.some.injEq]; exact t.inj j k hj hk e))
/-- one more row made -/
theorem TbM.make (t : TbM w0 w g A n c h m S) (hm : m < 21) (hn : n ≤ 1099511627776) : TbM w0 ((w.alloc (.cells (madeCells #[.int .i64 0] n) 2)).setCell ⟨g, 1 + m, none⟩ (.slice (some ⟨w.heap.size, 0, none⟩) n n)) g A n c (fun k => if k = m then w.heap.size else h k) (m + 1) (fun k => if k = m then List.replicate n 0 else S k) := by
  have hlt := t.lt
  have t1 := t.below ((Below.refl _ _).alloc (Nat.le_refl _) (.cells (madeCells #[.int .i64 0] n) 2))
  have ho := made_own w w0.heap.size n t.bel.size hn
  have ks : Keeps (w.alloc (.cells (madeCells #[.int .i64 0] n) 2)) ((w.alloc (.cells (madeCells #[.int .i64 0] n) 2)).setCell ⟨g, 1 + m, none⟩ (.slice (some ⟨w.heap.size, 0, none⟩) n n)) [some g] := (Keeps.refl _ [some g]).setCell (p := ⟨g, 1 + m, none⟩) (by simp) _
  obtain ⟨cs, hb, hs, h0, hc⟩ := t1.blk
  refine ⟨⟨cs.setIfInBounds (1 + m) (.slice (some ⟨w.heap.size, 0, none⟩) n n), heap_setCell_same _ _ _ _ _ _ hb, by simp [hs], ?_, ?_⟩, ?_, ?_, t.ge, t1.bel.setCell (p := ⟨g, 1 + m, none⟩) t.ge _⟩
  · rw [Array.getElem?_setIfInBounds]; rw [if_neg (by omega)]; exact h0
  · intro k hk
    rw [Array.getElem?_setIfInBounds]
    by_cases e : k = m
    · subst e; rw [if_pos rfl, if_pos (by rw [hs]; omega)]; simp
    · rw [if_neg (by omega)]; simp only [if_neg e]; exact hc k (by omega)
  · intro k hk
    by_cases e : k = m
    · subst e
      simp only [if_true]
      have e2 : nv (List.replicate n 0) = iv (List.replicate n 0) := by simp [nv, iv]
      rw [e2]
      exact owns_keeps ho ks (.inr (by simp [Value.ownBlock]; omega))
    · simp only [if_neg e]
      exact owns_keeps (t1.own k (by omega)) ks (.inr (by simp only [Value.ownBlock, List.mem_singleton, Option.some.injEq]; exact t.ne (k := k) (by omega)))
  · intro k j hk hj hne
    have hl : ∀ i, i < m → h i < w.heap.size := fun i hi => ((t.own i hi).lt (h i) rfl).2
    by_cases e : k = m
    · by_cases e2 : j = m
      · omega
      · simp only [if_pos e, if_neg e2]; have := hl j (by omega); omega
    · by_cases e2 : j = m
      · simp only [if_neg e, if_pos e2]; have := hl k (by omega); omega
      · simp only [if_neg e, if_neg e2]; exact t.inj k j (by omega) (by omega) hne
theorem TbM.drew (t : TbM w0 w g A n c h m S) : TbM w0 w.drew g A n c h m S := t.below (Below.drew (Below.refl _ _))
end
end Go.Proofs.Ytocllmhkppkfoaa
