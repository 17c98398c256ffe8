/- rows of rows of rows of the call's own; marked · rows of rows of rows: marked · rows of rows of rows: one more item · rows of rows of rows among the pieces of a law · plain mathematics of masks: reduced lists of rows · plain mathematics: the product of a mask and rows -/
import Derived.Test.YtdkmdmpaflgfaaaGreatDoorBxab
import Derived.Test.YtdkmdmpaflgfaaaGreatDoorBxaa
set_option linter.all false
namespace Go.Proofs.YtdkmdmpaflgfaaaGreatDoor
open Go.RowKit

/-- the outer row, and items with rows F i, each in its own stretch of blocks -/
structure OwnF (w : World) (B H : Nat) (v : Value) (L : List Cub) (F : Nat → List Row) (lo hi : Nat → Nat) : Prop where
  out : w.ownsRow B 23 1 v L.length (cvs L)
  inn : ∀ i, i < L.length → OwnR w (lo i) (cg L i).val (F i)
  up : ∀ i, i < L.length → UpR (hi i) (cg L i).val (F i)
  low : ∀ i, i < L.length → B ≤ lo i ∧ hi i ≤ H
  off : ∀ i j, i < j → j < L.length → hi i ≤ lo j
  apart : ∀ g, v.ownBlock = some g → g < H ∧ ∀ i, i < L.length → g < lo i ∨ hi i ≤ g
theorem OwnF.within {w w' : World} {B H : Nat} {v : Value} {L : List Cub} {F G : Nat → List Row} {lo hi : Nat → Nat} {j : Nat} (h : OwnF w B H v L F lo hi) (htop : H ≤ w.heap.size) (hj : j < L.length) (hw : Within (lo j) (hi j) w w') (ho : OwnR w' (lo j) (cg L j).val (G j)) (hu : UpR (hi j) (cg L j).val (G j)) (hG : ∀ i, i ≠ j → G i = F i) : OwnF w' B H v L G lo hi := by
  refine ⟨?_, fun i hi' => ?_, fun i hi' => ?_, h.low, h.off, h.apart⟩
  · refine ⟨h.out.1, ?_⟩
    rcases h.out.2 with h0 | ⟨g, cap, cur, rfl, hb, hg, rest⟩
    · exact .inl h0
    · refine .inr ⟨g, cap, cur, rfl, hb, ?_, rest⟩
      obtain ⟨h1, h2⟩ := h.apart g rfl
      rw [hw.block g (Nat.lt_of_lt_of_le h1 htop) (h2 j hj)]
      exact hg
  · by_cases e : i = j
    · subst e; exact ho
    · rw [hG i e]
      refine (h.inn i hi').same (fun k h1 h2 => ?_) (h.up i hi')
      have hl := h.low i hi'
      refine hw.block k (by omega) ?_
      rcases Nat.lt_or_gt_of_ne e with h3 | h3
      · have := h.off i j h3 hj; left; omega
      · have := h.off j i h3 hi'; right; omega
  · by_cases e : i = j
    · subst e; exact hu
    · rw [hG i e]; exact h.up i hi'
def OwnC (w : World) (B H : Nat) (v : Value) (L : List Cub) (lo hi : Nat → Nat) : Prop := OwnF w B H v L (fun i => (cg L i).rows) lo hi
theorem cvs_marks (L : List Cub) : ∀ k0, cvs (marksC k0 L) = cvs L := by
  induction L with
  | nil => intro k0; rfl
  | cons x L ih => intro k0; simp only [marksC, cvs, List.map_cons]; congr 1; simp [Cub.val, marksR_length]; exact ih _
theorem OwnF.marked {w : World} {B H : Nat} {v : Value} {L : List Cub} {F : Nat → List Row} {lo hi : Nat → Nat} {k0 : Int} (h : OwnF w B H v L F lo hi) (hF : ∀ i, i < L.length → F i = marksR (k0 + totC (L.take i)) (cg L i).rows) : OwnC w B H v (marksC k0 L) lo hi := by
  have hl := marksC_length L k0
  have hv : ∀ i, i < L.length → (cg (marksC k0 L) i).val = (cg L i).val := fun i hi' => by rw [cg_marksC L k0 i hi']; simp [Cub.val, marksR_length]
  refine ⟨by rw [hl, cvs_marks]; exact h.out, fun i hi' => ?_, fun i hi' => ?_, fun i hi' => h.low i (by rw [← hl]; exact hi'), fun i j hij hj => h.off i j hij (by rw [← hl]; exact hj), fun g hg => ⟨(h.apart g hg).1, fun i hi' => (h.apart g hg).2 i (by rw [← hl]; exact hi')⟩⟩
  · rw [hl] at hi'
    have := h.inn i hi'
    rw [hF i hi'] at this
    rw [hv i hi', cg_marksC L k0 i hi']; exact this
  · rw [hl] at hi'
    have := h.up i hi'
    rw [hF i hi'] at this
    rw [hv i hi', cg_marksC L k0 i hi']; exact this
theorem OwnC.same {lo hi : Nat} {w w' : World} {v : Value} {L : List Cub} {f g : Nat → Nat} (hs : Same lo hi w w') (h : OwnC w lo hi v L f g) : OwnC w' lo hi v L f g :=
  ⟨own_same hs h.out (fun k hk => (h.apart k hk).1), fun i hi' => (h.inn i hi').same (fun k h1 h2 => hs k (Nat.le_trans (h.low i hi').1 h1) (Nat.lt_of_lt_of_le h2 (h.low i hi').2)) (h.up i hi'), h.up, h.low, h.off, h.apart⟩
def cubP (lo hi : Nat) (v : Value) (L : List Cub) (f g : Nat → Nat) : Piece := ⟨lo, hi, fun w => OwnC w lo hi v L f g, fun _ _ hs h => OwnC.same hs h⟩
end Go.Proofs.YtdkmdmpaflgfaaaGreatDoor

namespace Go.Proofs.YtdkmdmpaflgfaaaGreatDoor
open Go.RowKit

theorem within_mono {lo hi lo' hi' : Nat} {w w' : World} (h : Within lo hi w w') (h1 : lo' ≤ lo) (h2 : hi ≤ hi') : Within lo' hi' w w' :=
  ⟨h.os, h.tape, h.output, h.size, fun k hk hh => h.block k hk (hh.imp (fun h => by omega) (fun h => by omega))⟩

set_option maxRecDepth 100000 in
set_option maxHeartbeats 2000000 in
theorem markCubs_any (B H : Nat) (A : Option Addr) (n c : Nat) (L : List Cub) (k0 : Int) (lo hi : Nat → Nat) (w : World) (hn : n = L.length) (hown : OwnC w B H (.slice A n c) L lo hi) (hH : H ≤ w.heap.size) (hsm : n ≤ 1048576) (hl : ∀ i, i < L.length → (cg L i).rows.length ≤ 1048576) (ht : totC L ≤ 1048576) (h0 : 0 ≤ k0) (h1 : k0 ≤ 100000000000) :
    Calls Tryz.prog 18 #[.slice A n c, .int .i64 k0] w fun e w' => e = .returned (.int .i64 (k0 + totC L)) ∧ OwnC w' B H (.slice A n c) (marksC k0 L) lo hi ∧ Within B H w w' := by
  subst hn
  have HL := Lib.hid hl
  have HO0 := Lib.hid hown
  have HT0 := Lib.hid (fun k => Nat.le_trans (totC_take_le L k) ht)
  clear hl hown
  go_enter Tryz.func18, Tryz.ntmps18
  go_wp2_with fail
  go_loopw [1, 5] (fun q i wr => ∃ j t : Nat, j ≤ L.length ∧ i = .int .i64 j ∧ Hid (t = totC (L.take j)) ∧ t ≤ 1048576 ∧ q = .int .i64 (k0 + t) ∧ OwnF wr B H (.slice A L.length c) L (fun i => if i < j then marksR (k0 + totC (L.take i)) (cg L i).rows else (cg L i).rows) lo hi ∧ Within B H w wr) (fun _ i => fun _ => L.length - (intOf i).toNat)
  case atStart => exact ⟨0, 0, by omega, rfl, Lib.hid (by simp [totC]), by omega, by simp, by have h := HO0.out; unfold OwnC at h; simpa using h, Within.refl _ _ _⟩
  case round =>
    obtain ⟨j, t, hj, rfl, HT, ht', rfl, hown, hwi⟩ := hrel
    have HO := Lib.hid hown
    have HW := Lib.hid hwi
    by_cases hlt : j < L.length
    · have hx := hown.inn j hlt
      have hu := hown.up j hlt
      rw [if_neg (Nat.lt_irrefl j)] at hx hu
      obtain ⟨b, o, rfl, hc⟩ := (show ∃ b o, A = some ⟨b, o, none⟩ ∧ wr.cell? ⟨b, o + j, none⟩ = some (.slice (cg L j).A (cg L j).rows.length (cg L j).c) from by
        rcases owns_Rd hown.out with h' | ⟨b, o, rfl, h'⟩
        · have := congrArg List.length h'; simp [cvs_length] at this; subst this; simp at hlt
        · exact ⟨b, o, rfl, h' j _ (cvs_get hlt)⟩)
      have HS := Lib.hid (totC_succ hlt)
      have ht2 := HT0.out (j + 1)
      have hlen : tot (cg L j).rows + t ≤ 1048576 := by have h9 := HT.out; have h8 := HS.out; omega
      have hrl := HL.out j hlt
      have HM := Lib.hid (markRows_any (lo j) (hi j) (cg L j).val (cg L j).rows (k0 + t) wr hx hrl (by omega) (by omega) (by omega) (fun i hi' => hu.2 i hi'))
      have HU := Lib.hid hu
      have HLO := Lib.hid (hown.low j hlt)
      clear hown hwi hx hu ht2 hrl
      have hji : (j : Int) < (L.length : Int) := by omega
      have HV : Hid ((cg L j).val = .slice (cg L j).A (cg L j).rows.length (cg L j).c) := Lib.hid rfl
      rw [HV.out] at HM
      go_wp2_with (go_at_call 37; refine HM.out.mono ?_; rintro e w3 ⟨rfl, ho, hw⟩; have HO3 := Lib.hid ho; have HW3 := Lib.hid hw; clear ho hw)
      go_roundw
      case rel =>
        refine ⟨j + 1, t + tot (cg L j).rows, by omega, by go_num, Lib.hid (by rw [HS.out, HT.out]), by omega, by simp; omega, ?_, HW.out.trans (within_mono HW3.out HLO.out.1 HLO.out.2)⟩
        have e : (if j < j + 1 then marksR (k0 + totC (L.take j)) (cg L j).rows else (cg L j).rows) = marksR (k0 + t) (cg L j).rows := by rw [if_pos (Nat.lt_succ_self j), HT.out]
        refine HO.out.within (Nat.le_trans hH HW.out.size) hlt HW3.out (by show OwnR w3 (lo j) _ (if j < j + 1 then _ else _); rw [e]; exact HO3.out) (by show UpR (hi j) _ (if j < j + 1 then _ else _); rw [e]; exact HU.out.marks _) (fun i hi' => ?_)
        show (if i < j + 1 then _ else _) = (if i < j then _ else _)
        by_cases h2 : i < j
        · rw [if_pos (by omega), if_pos h2]
        · rw [if_neg (by omega), if_neg h2]
      case measure => simp [intOf]; omega
    · have e2 : t = totC L := by rw [HT.out, totC_all (by omega)]
      have HE := Lib.hid e2
      obtain rfl : j = L.length := by omega
      clear e2 hown hwi
      go_wp2_with fail
      go_ret
      exact ⟨by rw [← HE.out]; rfl, HO.out.marked (fun i hi' => if_pos hi'), HW.out⟩
end Go.Proofs.YtdkmdmpaflgfaaaGreatDoor

namespace Go.Proofs.YtdkmdmpaflgfaaaGreatDoor
open Go.RowKit

theorem cg_snoc (L : List Cub) (x : Cub) (i : Nat) : cg (L ++ [x]) i = if i < L.length then cg L i else if i = L.length then x else cu0 := by
  unfold cg
  by_cases h : i < L.length
  · rw [if_pos h]; simp [List.getD, List.getElem?_append_left h]
  · rw [if_neg h]
    by_cases e : i = L.length
    · subst e; simp [List.getD]
    · rw [if_neg e]; simp [List.getD, List.getElem?_append_right (Nat.le_of_not_lt h), show i - L.length ≠ 0 by omega]
theorem OwnC.push {wr w1 w2 : World} {B H g cap : Nat} {v : Value} {L : List Cub} {lo hi : Nat → Nat} {x : Cub} {ob : Obj} (h : OwnC wr B H v L lo hi) (hH : H ≤ wr.heap.size) (hB : B ≤ wr.heap.size) (hb : Below wr.heap.size wr w1) (hx : OwnR w1 wr.heap.size x.val x.rows)
    (ho : w2.ownsRow B 23 1 (.slice (some ⟨g, 0, none⟩) (L.length + 1) cap) (L.length + 1) (cvs L ++ [x.val])) (hg : (w1.alloc ob).grownBy w2 v.ownBlock) (hat : v.ownBlock = some g ∨ g = (w1.alloc ob).heap.size) (hgl : g < w2.heap.size) :
    OwnC w2 B w2.heap.size (.slice (some ⟨g, 0, none⟩) (L ++ [x]).length cap) (L ++ [x]) (fun i => if i < L.length then lo i else wr.heap.size) (fun i => if i < L.length then hi i else w1.heap.size) := by
  have hs1 := hb.size
  have hs2 : w1.heap.size + 1 ≤ w2.heap.size := by have := hg.size; simpa using this
  have hlen : (L ++ [x]).length = L.length + 1 := by simp
  have hsame : ∀ k, k < w1.heap.size → some k ≠ v.ownBlock → w2.heap[k]? = w1.heap[k]? := fun k hk hne => (hg.block k (by simp; omega) hne).trans (heap_alloc_old w1 ob hk)
  have hnew : OwnR w2 wr.heap.size x.val x.rows := hx.same (hi := w1.heap.size) (fun k h1 h2 => hsame k h2 (fun e => by have := (h.apart k e.symm).1; omega)) hx.up
  have hold : ∀ i, i < L.length → OwnR w2 (lo i) (cg L i).val (cg L i).rows := fun i hi' => (h.inn i hi').same (fun k h1 h2 => by
    have hl := (h.low i hi').2
    have hk : k < wr.heap.size := by omega
    refine (hsame k (by omega) (fun e => ?_)).trans (hb.block k hk)
    have := (h.apart k e.symm).2 i hi'
    omega) (h.up i hi')
  refine ⟨by rw [hlen, show cvs (L ++ [x]) = cvs L ++ [x.val] by simp [cvs]]; exact ho, fun i hi' => ?_, fun i hi' => ?_, fun i hi' => ?_, fun i j hij hj => ?_, fun k hk => ⟨?_, fun i hi' => ?_⟩⟩
  · show OwnR w2 (if i < L.length then lo i else wr.heap.size) (cg (L ++ [x]) i).val (cg (L ++ [x]) i).rows
    rw [cg_snoc]
    by_cases e : i < L.length
    · rw [if_pos e, if_pos e]; exact hold i e
    · rw [if_neg e, if_neg e, if_pos (by omega)]; exact hnew
  · show UpR (if i < L.length then hi i else w1.heap.size) (cg (L ++ [x]) i).val (cg (L ++ [x]) i).rows
    rw [cg_snoc]
    by_cases e : i < L.length
    · rw [if_pos e, if_pos e]; exact h.up i e
    · rw [if_neg e, if_neg e, if_pos (by omega)]; exact hx.up
  · show B ≤ (if i < L.length then lo i else wr.heap.size) ∧ (if i < L.length then hi i else w1.heap.size) ≤ w2.heap.size
    by_cases e : i < L.length
    · rw [if_pos e, if_pos e]; have := h.low i e; omega
    · rw [if_neg e, if_neg e]; omega
  · show (if i < L.length then hi i else w1.heap.size) ≤ (if j < L.length then lo j else wr.heap.size)
    rw [if_pos (by omega : i < L.length)]
    by_cases e : j < L.length
    · rw [if_pos e]; exact h.off i j hij e
    · rw [if_neg e]; have := h.low i (by omega); omega
  · have : k = g := by simpa [Value.ownBlock] using hk.symm
    omega
  · have hkg : k = g := by simpa [Value.ownBlock] using hk.symm
    subst hkg
    show k < (if i < L.length then lo i else wr.heap.size) ∨ (if i < L.length then hi i else w1.heap.size) ≤ k
    rcases hat with e | e
    · have ha := h.apart k e
      by_cases e2 : i < L.length
      · rw [if_pos e2, if_pos e2]; exact ha.2 i e2
      · rw [if_neg e2]; left; omega
    · simp at e
      by_cases e2 : i < L.length
      · rw [if_pos e2, if_pos e2]; have := h.low i e2; right; omega
      · rw [if_neg e2, if_neg e2]; right; omega
end Go.Proofs.YtdkmdmpaflgfaaaGreatDoor

namespace Go.Proofs.YtdkmdmpaflgfaaaGreatDoor
open Go.RowKit
section
variable {w0 w w' : World} {L : List Piece} {v : Value} {M : List Cub} {f g : Nat → Nat}
theorem Inw.pushCub (h : Inw w0 w L) (hb : Below w.heap.size w w') (ho : OwnC w' w.heap.size w'.heap.size v M f g) : Inw w0 w' (cubP w.heap.size w'.heap.size v M f g :: L) :=
  h.push hb _ (Nat.le_refl _) (Nat.le_refl _) ho
theorem Inw.cub (h : Inw w0 w L) (i : Nat) {lo hi : Nat} (hi' : L[i]? = some (cubP lo hi v M f g)) : OwnC w lo hi v M f g := h.get i hi'
theorem Inw.markCub (h : Inw w0 w L) (i : Nat) {lo hi : Nat} {k0 : Int} (hi' : L[i]? = some (cubP lo hi v M f g)) (hk : Within lo hi w w') (ho : OwnC w' lo hi v (marksC k0 M) f g) : Inw w0 w' (L.set i (cubP lo hi v (marksC k0 M) f g)) :=
  h.mark i _ hi' rfl rfl hk ho
end
theorem OwnC.rd {w : World} {B H : Nat} {A : Option Addr} {n c : Nat} {L : List Cub} {lo hi : Nat → Nat} (h : OwnC w B H (.slice A n c) L lo hi) (hn : n = L.length) : RdC w A L := by
  subst hn
  exact ⟨owns_Rd h.out, fun i hi' => (h.inn i hi').rd rfl⟩
theorem OwnC.none (w : World) (B H : Nat) (lo hi : Nat → Nat) : OwnC w B H (.slice none 0 0) [] lo hi :=
  ⟨World.ownsRow_nil _ _ _ _, fun i hi => (by cases hi), fun i hi => (by cases hi), fun i hi => (by cases hi), fun i j _ hj => (by cases hj), fun g hg => (by simp [Value.ownBlock] at hg)⟩
end Go.Proofs.YtdkmdmpaflgfaaaGreatDoor

namespace Go.Proofs.YtdkmdmpaflgfaaaGreatDoor

theorem tb_xr (a b n : Nat) : tb (xr a b) n = (tb a n ^^ tb b n) := by simp [tb, xr, Nat.testBit_xor]
theorem xr_comm (a b : Nat) : xr a b = xr b a := Nat.xor_comm a b
theorem xr_assoc (a b c : Nat) : xr (xr a b) c = xr a (xr b c) := Nat.xor_assoc a b c
theorem xr_zero (a : Nat) : xr a 0 = a := Nat.xor_zero a
theorem zero_xr (a : Nat) : xr 0 a = a := Nat.zero_xor a
theorem xr_self (a : Nat) : xr a a = 0 := Nat.xor_self a
theorem eq_of_tb {a b : Nat} (h : ∀ n, tb a n = tb b n) : a = b := Nat.eq_of_testBit_eq h
theorem tb_zero (n : Nat) : tb 0 n = false := Nat.zero_testBit n

/-- the pivot of a number that is no 0 is its least digit that is 1 -/
theorem tb_pv {a : Nat} (h0 : a ≠ 0) (h : Sm a) : tb a (pv a) = true := by
  unfold Sm at h
  obtain ⟨m, hm, _⟩ := Lib.ctzFrom_spec 64 a (by omega) (by omega)
  have e : pv a = Lib.ctzFrom 64 a := by unfold pv Lib.ctz; rw [if_neg h0]
  rw [e]
  unfold tb
  conv => lhs; arg 1; rw [hm]
  rw [Nat.testBit_eq_decide_div_mod_eq, Nat.mul_div_cancel_left _ (Nat.two_pow_pos _)]
  simp only [decide_eq_true_eq]; omega
theorem tb_lt_pv {a n : Nat} (h0 : a ≠ 0) (h : Sm a) (hn : n < pv a) : tb a n = false := by
  unfold Sm at h
  obtain ⟨m, hm, _⟩ := Lib.ctzFrom_spec 64 a (by omega) (by omega)
  have e : pv a = Lib.ctzFrom 64 a := by unfold pv Lib.ctz; rw [if_neg h0]
  rw [e] at hn
  obtain ⟨d, hd⟩ : ∃ d, Lib.ctzFrom 64 a = n + 1 + d := ⟨Lib.ctzFrom 64 a - n - 1, by omega⟩
  unfold tb
  rw [hm, Nat.testBit_eq_decide_div_mod_eq, hd, Nat.pow_add, Nat.pow_add, Nat.mul_assoc, Nat.mul_assoc, Nat.mul_div_cancel_left _ (Nat.two_pow_pos _)]
  simp [Nat.mul_assoc]
theorem pv_eq {a n : Nat} (h0 : a ≠ 0) (h : Sm a) (h1 : tb a n = true) (h2 : ∀ m, m < n → tb a m = false) : pv a = n := by
  rcases Nat.lt_trichotomy (pv a) n with hlt | heq | hgt
  · have := h2 _ hlt; rw [tb_pv h0 h] at this; cases this
  · exact heq
  · have := tb_lt_pv h0 h hgt; rw [h1] at this; cases this

/-- what is left of a mask by rows -/
def leftS (S : List Nat) (x : Nat) : Nat := S.foldl (fun x r => if tb x (pv r) then xr x r else x) x
/-- Reduced: no row is 0, all are small, and no row has another one's pivot. -/
structure Red (S : List Nat) : Prop where
  ne : ∀ r ∈ S, r ≠ 0 ∧ Sm r
  off : S.Pairwise fun r s => tb r (pv s) = false ∧ tb s (pv r) = false

theorem Red.nil : Red [] := ⟨by simp, .nil⟩
theorem Red.tail {r : Nat} {S : List Nat} (h : Red (r :: S)) : Red S := ⟨fun s hs => h.ne s (List.mem_cons_of_mem _ hs), (List.pairwise_cons.1 h.off).2⟩
theorem Red.perm {S T : List Nat} (h : Red S) (hp : S.Perm T) : Red T :=
  ⟨fun r hr => h.ne r (hp.mem_iff.2 hr), (hp.pairwise_iff (fun h => ⟨h.2, h.1⟩)).1 h.off⟩

theorem leftS_cons (r : Nat) (S : List Nat) (x : Nat) : leftS (r :: S) x = leftS S (if tb x (pv r) then xr x r else x) := rfl
/-- rows that lack a digit do not turn it -/
theorem tb_leftS {S : List Nat} {n : Nat} (h : ∀ r ∈ S, tb r n = false) : ∀ x, tb (leftS S x) n = tb x n := by
  induction S with
  | nil => intro x; rfl
  | cons r S ih =>
    intro x
    rw [leftS_cons, ih (fun s hs => h s (List.mem_cons_of_mem _ hs))]
    split
    · rw [tb_xr, h r (List.mem_cons_self ..)]; simp
    · rfl
theorem leftS_sm {S : List Nat} (h : ∀ r ∈ S, r ≠ 0 ∧ Sm r) : ∀ {x}, Sm x → Sm (leftS S x) := by
  induction S with
  | nil => intro x hx; exact hx
  | cons r S ih =>
    intro x hx
    rw [leftS_cons]
    refine ih (fun s hs => h s (List.mem_cons_of_mem _ hs)) ?_
    split
    · exact hx.xr (h r (List.mem_cons_self ..)).2
    · exact hx
/-- what is left has none of the pivots -/
theorem leftS_off {S : List Nat} (h : Red S) : ∀ x, ∀ r ∈ S, tb (leftS S x) (pv r) = false := by
  induction S with
  | nil => intro x r hr; cases hr
  | cons r S ih =>
    intro x s hs
    have hp := (List.pairwise_cons.1 h.off).1
    have hr := h.ne r (List.mem_cons_self ..)
    rw [leftS_cons]
    rcases List.mem_cons.1 hs with rfl | hs
    · rw [tb_leftS (fun t ht => (hp t ht).2)]
      split
      · rename_i h1; rw [tb_xr, h1, tb_pv hr.1 hr.2]; rfl
      · rename_i h1; simpa using h1
    · exact ih h.tail _ s hs

/-- the sum of rows -/
def xsum : List Nat → Nat
  | [] => 0
  | r :: S => xr r (xsum S)
theorem xsum_perm {S T : List Nat} (h : S.Perm T) : xsum S = xsum T := by
  induction h with
  | nil => rfl
  | cons r _ ih => simp only [xsum, ih]
  | swap r s S => simp only [xsum, ← xr_assoc, xr_comm s r]
  | trans _ _ h1 h2 => exact h1.trans h2
theorem leftS_eq {S : List Nat} (h : Red S) : ∀ x, leftS S x = xr x (xsum (S.filter fun r => tb x (pv r))) := by
  induction S with
  | nil => intro x; exact (xr_zero x).symm
  | cons r S ih =>
    intro x
    have hp := (List.pairwise_cons.1 h.off).1
    rw [leftS_cons, ih h.tail]
    by_cases hb : tb x (pv r) = true
    · rw [if_pos hb, List.filter_cons_of_pos (by simpa using hb)]
      have e : (S.filter fun s => tb (xr x r) (pv s)) = S.filter fun s => tb x (pv s) := by
        apply List.filter_congr
        intro s hs
        rw [tb_xr, (hp s hs).1]; simp
      rw [e]
      simp only [xsum, xr_assoc]
    · rw [if_neg hb, List.filter_cons_of_neg (by simpa using hb)]
theorem leftS_perm {S T : List Nat} (h : Red S) (hp : S.Perm T) (x : Nat) : leftS S x = leftS T x := by
  rw [leftS_eq h, leftS_eq (h.perm hp), xsum_perm (hp.filter _)]

/-- a row as it is when the new row x comes in -/
def stepS (x r : Nat) : Nat := if tb r (pv x) then xr r x else r
/-- what the reference's loop does -/
def putStep (x : Nat) (p : List Nat × Bool) (r : Nat) : List Nat × Bool :=
  if !p.2 && decide (pv x < pv r) then (p.1 ++ [x, stepS x r], true) else (p.1 ++ [stepS x r], p.2)
def putEnd (x : Nat) (p : List Nat × Bool) : List Nat := if p.2 then p.1 else p.1 ++ [x]
def putS (S : List Nat) (x : Nat) : List Nat :=
  if leftS S x = 0 then S else putEnd (leftS S x) (S.foldl (putStep (leftS S x)) ([], false))
def reduceS (rows : List Nat) : List Nat := rows.foldl putS []

theorem putStep_perm (x : Nat) : ∀ (S : List Nat) (p : List Nat × Bool), (putEnd x (S.foldl (putStep x) p)).Perm (putEnd x p ++ S.map (stepS x))
  | [], p => by simp
  | r :: S, p => by
    refine (putStep_perm x S (putStep x p r)).trans ?_
    rw [List.map_cons]
    have : (putEnd x (putStep x p r)).Perm (putEnd x p ++ [stepS x r]) := by
      obtain ⟨out, done⟩ := p
      cases done with
      | true => simp [putStep, putEnd]
      | false =>
        by_cases hc : pv x < pv r
        · simp [putStep, putEnd, hc]
        · simp only [putStep, putEnd, hc, decide_false, Bool.and_false, Bool.false_eq_true, if_false]
          simp only [List.append_assoc]
          exact List.Perm.append_left out (List.Perm.swap ..)
    have := List.Perm.append_right (S.map (stepS x)) this
    simpa using this
theorem putS_perm (S : List Nat) (x : Nat) (h : leftS S x ≠ 0) : (putS S x).Perm (S.map (stepS (leftS S x)) ++ [leftS S x]) := by
  unfold putS
  rw [if_neg h]
  refine (putStep_perm _ S ([], false)).trans ?_
  simp only [putEnd, Bool.false_eq_true, if_false, List.nil_append]
  exact List.perm_append_comm

theorem stepS_sm {x r : Nat} (hx : Sm x) (hr : Sm r) : Sm (stepS x r) := by
  unfold stepS; split
  · exact hr.xr hx
  · exact hr
/-- the pivots stay, and the new row's pivot goes -/
theorem stepS_pv {x r : Nat} (hx : Sm x) (hx0 : x ≠ 0) (hr : Sm r) (hr0 : r ≠ 0) (h : tb x (pv r) = false) : stepS x r ≠ 0 ∧ pv (stepS x r) = pv r ∧ tb (stepS x r) (pv x) = false := by
  have hrr := tb_pv hr0 hr
  have hxx := tb_pv hx0 hx
  have ht : tb (stepS x r) (pv r) = true := by
    unfold stepS; split
    · rw [tb_xr, hrr, h]; rfl
    · exact hrr
  have h0 : stepS x r ≠ 0 := by intro e; rw [e, tb_zero] at ht; cases ht
  refine ⟨h0, ?_, ?_⟩
  · refine pv_eq h0 (stepS_sm hx hr) ht ?_
    intro m hm
    unfold stepS; split
    · rename_i hb
      have hlt : pv r < pv x := by
        rcases Nat.lt_trichotomy (pv r) (pv x) with hlt | heq | hgt
        · exact hlt
        · rw [heq, hxx] at h; cases h
        · have := tb_lt_pv hr0 hr hgt; rw [hb] at this; cases this
      rw [tb_xr, tb_lt_pv hr0 hr hm, tb_lt_pv hx0 hx (by omega)]; rfl
    · exact tb_lt_pv hr0 hr hm
  · unfold stepS; split
    · rename_i hb; rw [tb_xr, hb, hxx]; rfl
    · rename_i hb; simpa using hb

theorem red_step {S : List Nat} {x : Nat} (h : Red S) (hx : Sm x) (hx0 : x ≠ 0) (hoff : ∀ r ∈ S, tb x (pv r) = false) : Red (S.map (stepS x) ++ [x]) := by
  have key := fun r hr => stepS_pv hx hx0 (h.ne r hr).2 (h.ne r hr).1 (hoff r hr)
  refine ⟨?_, ?_⟩
  · intro r hr
    rcases List.mem_append.1 hr with hr | hr
    · obtain ⟨s, hs, rfl⟩ := List.mem_map.1 hr
      exact ⟨(key s hs).1, stepS_sm hx (h.ne s hs).2⟩
    · rw [List.mem_singleton.1 hr]; exact ⟨hx0, hx⟩
  · rw [List.pairwise_append]
    refine ⟨?_, by simp, ?_⟩
    · rw [List.pairwise_map]
      refine (List.Pairwise.and_mem.1 h.off).imp ?_
      intro r s ⟨hr, hs, h1, h2⟩
      rw [(key r hr).2.1, (key s hs).2.1]
      constructor
      · unfold stepS; split
        · rw [tb_xr, h1, hoff s hs]; rfl
        · exact h1
      · unfold stepS; split
        · rw [tb_xr, h2, hoff r hr]; rfl
        · exact h2
    · intro r hr s hs
      obtain ⟨t, ht, rfl⟩ := List.mem_map.1 hr
      rw [List.mem_singleton.1 hs]
      exact ⟨(key t ht).2.2, by rw [(key t ht).2.1]; exact hoff t ht⟩
theorem red_put {S : List Nat} {x : Nat} (h : Red S) (hx : Sm x) : Red (putS S x) := by
  by_cases h0 : leftS S x = 0
  · unfold putS; rw [if_pos h0]; exact h
  · exact (red_step h (leftS_sm h.ne hx) h0 (leftS_off h x)).perm (putS_perm S x h0).symm
theorem red_reduce {rows : List Nat} (h : ∀ r ∈ rows, Sm r) : Red (reduceS rows) := by
  unfold reduceS
  have : ∀ (rows S : List Nat), Red S → (∀ r ∈ rows, Sm r) → Red (rows.foldl putS S) := by
    intro rows
    induction rows with
    | nil => intro S hS _; exact hS
    | cons r rows ih => intro S hS h; exact ih _ (red_put hS (h r (List.mem_cons_self ..))) (fun s hs => h s (List.mem_cons_of_mem _ hs))
  exact this rows [] Red.nil h
theorem putS_length_le (S : List Nat) (x : Nat) : (putS S x).length ≤ S.length + 1 := by
  by_cases h : leftS S x = 0
  · unfold putS; rw [if_pos h]; omega
  · rw [(putS_perm S x h).length_eq]; simp
end Go.Proofs.YtdkmdmpaflgfaaaGreatDoor

namespace Go.Proofs.YtdkmdmpaflgfaaaGreatDoor

theorem xr_xr (a b : Nat) : xr a (xr a b) = b := by rw [← xr_assoc, xr_self, zero_xr]
theorem xr_left (a b c : Nat) : xr a (xr b c) = xr b (xr a c) := by rw [← xr_assoc, xr_comm a b, xr_assoc]
/-- the product of a mask and rows, the first row being the mask's digit i -/
def comb : List Nat → Nat → Nat → Nat
  | [], _, _ => 0
  | r :: S, i, x => xr (if tb x i then r else 0) (comb S (i + 1) x)
theorem comb_xr (S : List Nat) : ∀ i x y, comb S i (xr x y) = xr (comb S i x) (comb S i y) := by
  induction S with
  | nil => intro i x y; exact (xr_self 0).symm
  | cons r S ih =>
    intro i x y
    simp only [comb, ih, tb_xr]
    cases tb x i <;> cases tb y i <;> simp [zero_xr, xr_zero, xr_assoc]
    · rw [xr_left]
    · rw [xr_left _ r, xr_xr]
theorem comb_low (S : List Nat) : ∀ i x, (∀ m, i ≤ m → tb x m = false) → comb S i x = 0 := by
  induction S with
  | nil => intro i x _; rfl
  | cons r S ih => intro i x h; simp only [comb, h i (Nat.le_refl _), ih (i + 1) x fun m hm => h m (by omega)]; simp [xr_zero]
theorem tb_pow (i j : Nat) : tb (2 ^ i) j = decide (i = j) := Nat.testBit_two_pow
theorem comb_pow (S : List Nat) : ∀ i k, comb S i (2 ^ (i + k)) = S.getD k 0 := by
  induction S with
  | nil => intro i k; simp [comb]
  | cons r S ih =>
    intro i k
    simp only [comb, tb_pow]
    cases k with
    | zero =>
      rw [comb_low S (i + 1) (2 ^ (i + 0)) (fun m hm => by rw [tb_pow]; simp; omega)]
      simp [xr_zero]
    | succ k =>
      have := ih (i + 1) k
      rw [show i + 1 + k = i + (k + 1) by omega] at this
      rw [this]
      simp [zero_xr]
theorem lt_of_tb {z n : Nat} (h : ∀ m, n ≤ m → tb z m = false) : z < 2 ^ n := Nat.lt_pow_two_of_testBit z h
theorem tb_of_lt {z n m : Nat} (h : z < 2 ^ n) (hm : n ≤ m) : tb z m = false := Nat.testBit_lt_two_pow (Nat.lt_of_lt_of_le h (Nat.pow_le_pow_right (by omega) hm))
/-- two sums that agree at single digits agree -/
theorem lin_ext {f g : Nat → Nat} (hf : ∀ x y, f (xr x y) = xr (f x) (f y)) (hg : ∀ x y, g (xr x y) = xr (g x) (g y)) : ∀ n, (∀ k, k < n → f (2 ^ k) = g (2 ^ k)) → ∀ v, v < 2 ^ n → f v = g v := by
  have z : ∀ {h : Nat → Nat}, (∀ x y, h (xr x y) = xr (h x) (h y)) → h 0 = 0 := fun {h} hh => by have := hh 0 0; rw [xr_self, xr_self] at this; exact this
  intro n
  induction n with
  | zero => intro _ v hv; obtain rfl : v = 0 := by simpa using hv
            rw [z hf, z hg]
  | succ n ih =>
    intro h v hv
    have h' := ih (fun k hk => h k (by omega))
    cases hb : tb v n
    · refine h' v (lt_of_tb fun m hm => ?_)
      rcases Nat.lt_or_ge n m with h1 | h1
      · exact tb_of_lt hv (by omega)
      · rw [show m = n by omega]; exact hb
    · have e : v = xr (2 ^ n) (xr (2 ^ n) v) := (xr_xr _ _).symm
      have hl : xr (2 ^ n) v < 2 ^ n := lt_of_tb fun m hm => by
        rw [tb_xr, tb_pow]
        rcases Nat.lt_or_ge n m with h1 | h1
        · rw [tb_of_lt hv (by omega)]; simp; omega
        · rw [show m = n by omega, hb]; simp
      rw [e, hf, hg, h n (by omega), h' _ hl]
end Go.Proofs.YtdkmdmpaflgfaaaGreatDoor
