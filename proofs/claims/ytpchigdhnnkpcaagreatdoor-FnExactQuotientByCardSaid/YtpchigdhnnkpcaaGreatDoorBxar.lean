/- spanOf · plain mathematics: spaces, echelon lists, solutions · plain mathematics: the reference's solving, inverses · plain mathematics: the inverse of a matrix, by both ways · plain mathematics: reduced rows are in order; a list of rows sorted by pivots is the reduced one · plain mathematics: reduced rows are one for one space; kernels, by both ways · an append onto one of two own rows (split from S) · lists done and sums, step by step (split from Ia) · the reference's l02Reduce · the reference's l02Kernel · the reference's l12Kernel -/
import Derived.Test.YtpchigdhnnkpcaaGreatDoorBxaq
import Derived.Test.YtpchigdhnnkpcaaGreatDoorBxac
import Derived.Shelf.SlSortCmp.NoneTotal
import Derived.Test.YtpchigdhnnkpcaaGreatDoorBxap
import Derived.Test.YtpchigdhnnkpcaaGreatDoorBxan
import Derived.Test.YtpchigdhnnkpcaaGreatDoorBxag
import Derived.OwnWalk
import Derived.Test.YtpchigdhnnkpcaaGreatDoorBxad
set_option linter.all false
namespace Go.Proofs.YtpchigdhnnkpcaaGreatDoor
open Go.RowKit

/-- What the two contracts of 'add' say together. -/
def AddRes (L : List (Nat × Nat)) (p : Nat × Nat) : Value := .tuple #[.int .i64 (if (leftN L p).1 = 0 then (leftN L p).2 else 0 : Nat), .bool (decide ((leftN L p).1 ≠ 0))]
theorem add_any (B bs : Nat) (v1 v2 : Value) (L : List (Nat × Nat)) (x y : Nat) (w : World) (hT : Tab w) (hB : 0 < B) (hBw : B ≤ w.heap.size) (hs : SpanAt w B bs v1 v2 L) (hsmall : L.length ≤ 1000000)
    (hx : Sm x) (hy : Sm y) (hg : Good L) :
    Calls Tryz.prog 73 #[.pointer (some ⟨bs, 0, none⟩), .int .i64 x, .int .i64 y] w fun e w' => e = .returned (AddRes L (x, y)) ∧ AddPost w B bs v1 v2 (addL L (x, y)) w' := by
  by_cases h0 : (leftN L (x, y)).1 = 0
  · refine (add_no B bs v1 v2 L x y w hT hs hsmall hx hy hg h0).mono ?_
    rintro e w' ⟨rfl, m, rfl⟩
    refine ⟨by simp [AddRes, h0], Keeps.ofDrewN w m, v1, v2, ?_, .inl rfl, .inl rfl⟩
    unfold addL; rw [if_pos h0]
    exact hs.keeps (Keeps.ofDrewN (S := []) w m) (by simp) (.inr (by simp)) (.inr (by simp))
  · refine (add_yes B bs v1 v2 L x y w hT hB hBw hs hsmall hx hy hg h0).mono ?_
    rintro e w' ⟨rfl, h⟩
    refine ⟨by simp [AddRes, h0], ?_⟩
    unfold addL; rw [if_neg h0]; exact h

theorem AddPost.below {w w' : World} {B bs : Nat} {v1 v2 : Value} {L N : List (Nat × Nat)} (h : AddPost w B bs v1 v2 N w') (hs : SpanAt w B bs v1 v2 L) (hBw : B ≤ w.heap.size) : Below B w w' :=
  h.1.to_below hBw (fun j hj => by
    simp only [List.mem_cons, List.not_mem_nil, or_false] at hj
    rcases hj with hj | hj | hj
    · injection hj with hj; rw [hj]; exact hs.lo
    · exact (hs.own1.lt j hj.symm).1
    · exact (hs.own2.lt j hj.symm).1)

theorem Tab.below {B : Nat} {w w' : World} (h : Tab w) (hb : Below B w w') (hB : 0 < B) : Tab w' := fun j hj => (hb.cell (p := ⟨0, j, none⟩) hB).trans (h j hj)
theorem SpanAt.new (w : World) : SpanAt (w.alloc (.cells #[.slice none 0 0, .slice none 0 0] 62)) w.heap.size w.heap.size (.slice none 0 0) (.slice none 0 0) [] :=
  ⟨heap_alloc_new w _, Nat.le_refl _, World.ownsRow_nil _ _ _ _, World.ownsRow_nil _ _ _ _, .inl rfl⟩

set_option maxHeartbeats 1000000 in
theorem spanOf_any (A : Option Addr) (n c : Nat) (rows : List Nat) (w : World) (hT : Tab w) (hw : 0 < w.heap.size) (hn : n = rows.length) (hsmall : n ≤ 1000000) (hS : ∀ r ∈ rows, Sm r) (hR : Rd w A (nv rows)) :
    Calls Tryz.prog 47 #[.slice A n c] w fun e w' => e = .returned (.pointer (some ⟨w.heap.size, 0, none⟩)) ∧ (∃ v1 v2, SpanAt w' w.heap.size w.heap.size v1 v2 (spanL (zs rows))) ∧ Below w.heap.size w w' := by
  have Hn := Lib.hid hn
  have HR := Lib.hid hR
  have HS := Lib.hid hS
  have HT := Lib.hid hT
  have hsp := SpanAt.new w
  have HSP := Lib.hid hsp
  clear hn hR hS hT hsp
  go_enter Tryz.func47, Tryz.ntmps47
  go_wp2_with fail
  go_loopw [10] (fun i wr => ∃ k : Nat, k ≤ n ∧ i = .int .i64 k ∧ (∃ v1 v2, SpanAt wr w.heap.size w.heap.size v1 v2 (spanL (zs (rows.take k)))) ∧ Below w.heap.size w wr) (fun i _ => n - (intOf i).toNat)
  case atStart => exact ⟨0, by omega, rfl, ⟨_, _, HSP.out⟩, (Below.refl _ _).alloc (Nat.le_refl _) _⟩
  case round =>
    obtain ⟨k, hk, rfl, ⟨v1, v2, hsp⟩, hbel⟩ := hrel
    have hsz : w.heap.size ≤ wr.heap.size := hbel.size
    by_cases hlt : k < n
    · have hkL : k < rows.length := by rw [← Hn.out]; exact hlt
      obtain ⟨b, o, rfl, hc⟩ := (HR.out.below hbel).atN hkL
      have hm : rows.getD k 0 ∈ rows := by simp [List.getD, hkL]
      have g1 := HS.out _ hm
      have e1 : zs (rows.take (k + 1)) = (zs rows).take (k + 1) := by simp [zs, List.map_take]
      have e2 : zs (rows.take k) = (zs rows).take k := by simp [zs, List.map_take]
      have e3 : (zs rows).getD k (0, 0) = (rows.getD k 0, 0) := by simp [zs, List.getD, hkL]
      have Hs : Hid (spanL (zs (rows.take (k + 1))) = addL (spanL (zs (rows.take k))) (rows.getD k 0, 0)) := by
        show _ = _; rw [e1, e2, spanL_take_succ (zs rows) k (by rw [zs_length]; exact hkL), e3]
      have hl := spanL_length_le (zs (rows.take k))
      rw [zs_length, List.length_take] at hl
      have hgd := (spanL_perm (zs (rows.take k)) (fun p hp => by
        obtain ⟨r, hr, rfl⟩ := List.mem_map.1 hp; exact ⟨HS.out r (List.mem_of_mem_take hr), Sm.zero⟩)).2.2
      generalize spanL (zs (rows.take k)) = L at *
      generalize rows.getD k 0 = r at *
      have hp := add_any w.heap.size w.heap.size v1 v2 L r 0 wr (HT.out.below hbel hw) hw hsz hsp (by omega) g1 Sm.zero hgd
      have HP := Lib.hid hp
      have HB := Lib.hid hbel
      have HSQ := Lib.hid hsp
      clear hp hsp hbel hm hgd e1 e2 e3 hl
      go_wp2_with (go_at_call 73; refine HP.out.mono ?_; rintro e w1 ⟨rfl, hpost⟩)
      have HPO := Lib.hid hpost
      clear hpost
      go_roundw
      case rel =>
        obtain ⟨_, u1, u2, hs2, _, _⟩ := HPO.out
        exact ⟨k + 1, by omega, by go_num, ⟨u1, u2, by rw [Hs.out]; exact hs2⟩, HB.out.trans (HPO.out.below HSQ.out hsz)⟩
      case measure => simp [intOf]; omega
    · have ek : rows.take k = rows := List.take_of_length_le (by rw [← Hn.out]; omega)
      rw [ek] at hsp
      have HS' := Lib.hid hsp
      have HB := Lib.hid hbel
      clear hsp hbel
      go_wp2_with fail
      go_ret
      exact ⟨rfl, ⟨v1, v2, HS'.out⟩, HB.out⟩
end Go.Proofs.YtpchigdhnnkpcaaGreatDoor

namespace Go.Proofs.YtpchigdhnnkpcaaGreatDoor
end Go.Proofs.YtpchigdhnnkpcaaGreatDoor

namespace Go.Proofs.YtpchigdhnnkpcaaGreatDoor
end Go.Proofs.YtpchigdhnnkpcaaGreatDoor

namespace Go.Proofs.YtpchigdhnnkpcaaGreatDoor

section
variable {S : List Nat} {n : Nat}
structure Sq (S : List Nat) (n : Nat) : Prop where
  len : S.length = n
  lt : ∀ r ∈ S, r < 2 ^ n
  le : n ≤ 60
theorem Sq.sm (h : Sq S n) : ∀ r ∈ S, Sm r := fun r hr => sm_of_lt (by have := h.le; omega) (h.lt r hr)
theorem Sq.usm (h : Sq S n) : ∀ p ∈ us 0 S, SmP p := us_sm h.sm (by have := h.le; have := h.len; omega)
theorem Sq.red (h : Sq S n) : Red (r1 (spanL (us 0 S))) := (spanL_perm _ h.usm).2.1
theorem Sq.good (h : Sq S n) : Good (spanL (us 0 S)) := (spanL_perm _ h.usm).2.2
theorem Sq.lt2 (h : Sq S n) : ∀ r ∈ spanL (us 0 S), Lt2 n n r := by
  have e := h.len
  exact add_all (P := Lt2 n n) (fun _ _ hL hp => Lt2.addL hL hp) _ [] (fun p hp => by have := us_lt h.lt hp; rwa [e] at this) (by simp)
theorem Sq.dif (h : Sq S n) : ∀ r ∈ spanL (us 0 S), Dif S r = 0 := add_all (P := fun r => Dif S r = 0) (fun _ _ hL hp => Dif.addL hL hp) _ [] (fun p hp => us_dif hp) (by simp)
theorem Sq.len_iff (h : Sq S n) : (spanL (us 0 S)).length = n ↔ freeRows S := by
  have := span_len (us 0 S) S.length (by rw [us_length]; exact Nat.le_refl _)
  rw [List.take_of_length_le (by rw [us_length]; exact Nat.le_refl _), h.len] at this
  rw [this, freeRows, h.len]
theorem Sq.pivs (h : Sq S n) : ∀ x ∈ (r1 (spanL (us 0 S))).map pv, x < n := by
  intro x hx
  obtain ⟨r, hr, rfl⟩ := List.mem_map.1 hx
  have h1 := h.red.ne r hr
  obtain ⟨p, hp, rfl⟩ := List.mem_map.1 hr
  exact pv_lt h1.1 h1.2 (h.lt2 p hp).1
theorem Sq.all_piv (h : Sq S n) (hf : freeRows S) : ∀ j, j < n → j ∈ (r1 (spanL (us 0 S))).map pv :=
  pig3 h.red.nodup h.pivs (by rw [List.length_map, r1_length, h.len_iff.2 hf])
/-- where the rows are free, each row of the span has one digit -/
theorem Sq.row (h : Sq S n) (hf : freeRows S) {p : Nat × Nat} (hp : p ∈ spanL (us 0 S)) : p.1 = 2 ^ pv p.1 := by
  have hm : p.1 ∈ r1 (spanL (us 0 S)) := List.mem_map_of_mem hp
  have h1 := h.red.ne p.1 hm
  refine eq_of_tb fun j => ?_
  rw [tb_pow]
  by_cases hj : pv p.1 = j
  · subst hj; rw [tb_pv h1.1 h1.2]; simp
  · rw [decide_eq_false hj]
    rcases Nat.lt_or_ge j n with hlt | hge
    · obtain ⟨s, hs, e⟩ := List.mem_map.1 (h.all_piv hf j hlt)
      have hne : p.1 ≠ s := fun e' => hj (by rw [e']; exact e)
      have := h.red.apart p.1 hm s hs hne
      rw [e] at this; exact this
    · exact tb_of_lt (h.lt2 p hp).1 hge
/-- the reference finds all solutions just where the rows are free -/
theorem Sq.sol (h : Sq S n) : (∀ j, j < n → (solL S (2 ^ j)).1 = 0) ↔ freeRows S := by
  have hsp : ∀ v, Sp (r1 (spanL (us 0 S))) v ↔ Sp S v := fun v => by rw [sp_span, us_r1]
  constructor
  · intro hs
    rw [← h.len_iff]
    have h1 := pig1 n _ h.red.nodup h.pivs
    have h2 := pig2 n ((r1 (spanL (us 0 S))).map pv) (fun j hj => by
      refine Decidable.byContradiction fun hm => ?_
      have h3 : Sp (r1 (spanL (us 0 S))) (2 ^ j) := (hsp _).2 ((sol_iff h.sm _).1 (hs j hj))
      have h4 := h.red.ech.zero _ h3 (fun r hr => by
        rw [tb_pow]; refine decide_eq_false fun e => hm ?_
        rw [e]; exact List.mem_map_of_mem hr)
      have := Nat.two_pow_pos j
      omega)
    rw [List.length_map, r1_length] at h1 h2
    omega
  · intro hf j hj
    rw [sol_iff h.sm, ← hsp]
    obtain ⟨r, hr, e⟩ := List.mem_map.1 (h.all_piv hf j hj)
    obtain ⟨p, hp, rfl⟩ := List.mem_map.1 hr
    have := h.row hf hp
    rw [e] at this
    rw [← this]; exact .mem hr
theorem Sq.inj (h : Sq S n) (hf : freeRows S) : ∀ z, z < 2 ^ n → comb S 0 z = 0 → z = 0 := by
  intro z hz h0
  have e := h.len
  refine comb_inj (fun t ht hsp => ?_) n z (by omega) hz h0
  have h1 := hf t ht
  rw [us_take, leftN_fst, us_getD S 0 t ht] at h1
  have hsm : ∀ p ∈ us 0 (S.take t), SmP p := us_sm (fun r hr => h.sm r (List.mem_of_mem_take hr)) (by rw [List.length_take]; have := h.le; omega)
  have hr := (spanL_perm _ hsm).2.1
  refine h1 ((hr.ech.sp_iff _).1 ?_)
  rw [sp_span, us_r1]
  exact hsp
/-- the companion of the row with the digit j is the reference's solution for that digit -/
theorem Sq.comp (h : Sq S n) (hf : freeRows S) {p : Nat × Nat} (hp : p ∈ spanL (us 0 S)) : p.2 = (solL S (2 ^ pv p.1)).2 := by
  have hj : pv p.1 < n := h.pivs _ (List.mem_map_of_mem (List.mem_map_of_mem hp))
  have h1 := dif_zero.1 (h.dif p hp)
  have h2 := sol_comb (S := S) (2 ^ pv p.1) (h.sol.2 hf _ hj)
  have e := h.len
  have h3 := sol_lt h.lt (v := 2 ^ pv p.1) (Nat.pow_lt_pow_right (by omega) hj)
  rw [e] at h3
  have h4 := h.inj hf (xr p.2 (solL S (2 ^ pv p.1)).2) (Nat.xor_lt_two_pow (h.lt2 p hp).2 h3) (by rw [comb_xr, h1, h2, ← h.row hf hp, xr_self])
  have := congrArg (xr p.2) h4
  rw [xr_xr, xr_zero] at this
  exact this.symm

/-- what the program's loop over the span lays down -/
def putC (out : List Nat) (p : Nat × Nat) : List Nat := out.set (pv p.1) p.2
theorem putC_length : ∀ (L : List (Nat × Nat)) (out : List Nat), (L.foldl putC out).length = out.length
  | [], _ => rfl
  | p :: L, out => by rw [List.foldl_cons, putC_length L]; simp [putC]
theorem putC_getD {f : Nat → Nat} : ∀ (L : List (Nat × Nat)) (out : List Nat), (∀ p ∈ L, p.2 = f (pv p.1)) → ∀ j, j < out.length → (out.getD j 0 = f j ∨ j ∈ (r1 L).map pv) → (L.foldl putC out).getD j 0 = f j
  | [], out, _, j, _, h => by
    rcases h with h | h
    · exact h
    · simp [r1] at h
  | p :: L, out, hL, j, hj, h => by
    rw [List.foldl_cons]
    refine putC_getD L (putC out p) (fun q hq => hL q (List.mem_cons_of_mem _ hq)) j (by simpa [putC] using hj) ?_
    by_cases e : pv p.1 = j
    · refine .inl ?_
      subst e
      simp [putC, List.getD, hj, hL p (List.mem_cons_self ..)]
    · rcases h with h | h
      · refine .inl ?_
        simp only [putC, List.getD, List.getElem?_set, if_neg e]
        simpa [List.getD] using h
      · refine .inr ?_
        simp only [r1, List.map_cons, List.mem_cons] at h ⊢
        rcases h with h | h
        · exact absurd h.symm e
        · exact h
/-- both ways to the inverse -/
theorem Sq.inverse (h : Sq S n) (hf : freeRows S) : (spanL (us 0 S)).foldl putC (List.replicate n 0) = (List.range n).map fun j => (solL S (2 ^ j)).2 := by
  apply List.ext_getElem
  · rw [putC_length]; simp
  · intro j h1 h2
    have hj : j < n := by simpa using h2
    have := putC_getD (f := fun j => (solL S (2 ^ j)).2) (spanL (us 0 S)) (List.replicate n 0) (fun p hp => h.comp hf hp) j (by simpa using hj) (.inr (h.all_piv hf j hj))
    simp only [List.getD, List.getElem?_eq_getElem h1, Option.getD_some] at this
    rw [this]; simp
end
end Go.Proofs.YtpchigdhnnkpcaaGreatDoor

namespace Go.Proofs.YtpchigdhnnkpcaaGreatDoor
open Go.RowKit

/-! ### rows under slices.SortFunc -/
/-- a mask that has a pivot -/
def PM := { x : Nat // x ≠ 0 ∧ Sm x }
instance : Inhabited PM := ⟨⟨1, by decide, Sm.one⟩⟩
def encP (x : PM) : Value := .int .i64 (x.1 : Int)
def cfP (x y : PM) : Int := Lib.compareInt ((pv x.1 : Nat) : Int) ((pv y.1 : Nat) : Int)
theorem ltP (x y : PM) : ltOf cfP x y = decide (pv x.1 < pv y.1) := by
  unfold ltOf cfP Lib.compareInt
  by_cases h1 : pv x.1 < pv y.1
  · simp [h1]
  · by_cases h2 : pv y.1 < pv x.1 <;> simp [h1, h2]
theorem swoP : Sort.SWO (ltOf cfP) where
  irrefl x := by rw [ltP]; simp
  trans x y z h1 h2 := by rw [ltP] at *; simp at *; omega
  ntrans x y z h1 h2 := by rw [ltP] at *; simp at *; omega
def pms : (S : List Nat) → (∀ r ∈ S, r ≠ 0 ∧ Sm r) → List PM
  | [], _ => []
  | r :: S, h => ⟨r, h r (List.mem_cons_self ..)⟩ :: pms S (fun s hs => h s (List.mem_cons_of_mem _ hs))
theorem pms_val : ∀ (S : List Nat) (h : ∀ r ∈ S, r ≠ 0 ∧ Sm r), (pms S h).map (·.1) = S
  | [], _ => rfl
  | r :: S, _ => congrArg (r :: ·) (pms_val S _)
theorem enc_val (L : List PM) : L.map encP = nv (L.map (·.1)) := by simp [nv, encP, List.map_map, Function.comp_def]
/-- what the sort leaves is the reduced list -/
theorem sorted_pm {S T : List Nat} {d d' : Array PM} (hS : Red S) (hd : d.toList.map (·.1) = S) (hp : Sort.PermIn 0 d.size d d') (hs : Sort.SortedIn (ltOf cfP) 0 d.size d') (hT : Asc T) (hST : S.Perm T) : d'.toList.map (·.1) = T := by
  obtain ⟨hsz, _, hpm⟩ := hp
  have e1 : (d'.extract 0 d.size).toList = d'.toList := by rw [← hsz]; simp
  have e2 : (d.extract 0 d.size).toList = d.toList := by simp
  rw [e1, e2] at hpm
  have hp1 : (d'.toList.map (·.1)).Perm S := by rw [← hd]; exact hpm.map _
  have hr : Red (d'.toList.map (·.1)) := hS.perm hp1.symm
  refine asc_unique ?_ hT (hp1.trans hST)
  have hnd := hr.off
  rw [List.pairwise_map] at hnd
  unfold Asc
  rw [List.pairwise_map]
  rw [List.pairwise_iff_getElem] at hnd ⊢
  intro i j hi hj hij
  have hne : pv (d'.toList[i]).1 ≠ pv (d'.toList[j]).1 := fun e => by
    have h1 := (hnd i j hi hj hij).1
    have h2 := (d'.toList[i]).2
    rw [← e, tb_pv h2.1 h2.2] at h1; cases h1
  have hlt := hs i j (Nat.zero_le _) hij (by rw [← hsz]; simpa using hj)
  rw [ltP] at hlt
  simp only [Array.length_toList] at hi hj
  rw [getElem!_pos d' j hj, getElem!_pos d' i hi] at hlt
  simp only [Array.getElem_toList] at hne ⊢
  simp at hlt
  omega

/-- a row of the call's own behind the sort -/
theorem sort_own {w : World} {B n cap g q : Nat} {e : TypeId} {xs : List Value} {os : Array Obj} (h : w.ownsRow B e 1 (.slice (some ⟨g, 0, none⟩) n cap) n xs) (d : Array PM) (hd : d.size = n) :
    (sortWorld encP w g 0 q d os).ownsRow B e 1 (.slice (some ⟨g, 0, none⟩) n cap) n (d.toList.map encP) ∧ Keeps w (sortWorld encP w g 0 q d os) [some g] := by
  rcases h.2 with ⟨h0, _⟩ | ⟨g', cap', cur, hv, hb, hg, hc, hm, hs, ht⟩
  · cases h0
  · injection hv with hA _ hcap
    injection hA with hA; injection hA with hA
    subst hA; subst hcap
    have hlt := (Array.getElem?_eq_some_iff.1 hg).1
    have hmod : ∀ k, k < w.heap.size → (sortWorld encP w g 0 q d os).heap[k]? = (w.heap.modify g (Sort.onCells (Sort.putCells encP 0 d)))[k]? := by
      intro k hk
      show ((w.heap.modify g (Sort.onCells (Sort.putCells encP 0 d))) ++ os)[k]? = _
      rw [Array.getElem?_append_left (by simpa using hk)]
    constructor
    · refine ⟨by simp [hd], .inr ⟨g, cap, Sort.putCells encP 0 d cur, rfl, hb, ?_, hc, hm, by simpa [Sort.putCells] using hs, ?_⟩⟩
      · rw [hmod g hlt, Array.getElem?_modify, if_pos rfl, hg]; rfl
      · apply List.ext_getElem?
        intro i
        rw [List.getElem?_take]
        by_cases hi : i < n * 1
        · rw [if_pos hi]
          have hi' : i < d.size := by omega
          have hic : i < cur.size := by omega
          simp only [Sort.putCells, Array.getElem?_toList, Array.getElem?_mapIdx, List.getElem?_map]
          rw [Array.getElem?_eq_getElem hic, Array.getElem?_eq_getElem hi']
          simp only [Option.map_some, Nat.zero_le, true_and, Nat.zero_add, Nat.sub_zero, if_pos hi']
          rw [getElem!_pos d i hi']
        · rw [if_neg hi, List.getElem?_eq_none (by simp; omega)]
    · refine ⟨rfl, rfl, rfl, ?_, ?_⟩
      · show w.heap.size ≤ ((w.heap.modify g (Sort.onCells (Sort.putCells encP 0 d))) ++ os).size
        simp
      · intro k hk hn
        rw [hmod k hk, Array.getElem?_modify, if_neg (fun e => hn (by simp [e]))]
theorem sort_holds {w : World} {B n cap g : Nat} {e : TypeId} {S : List Nat} (hS : ∀ r ∈ S, r ≠ 0 ∧ Sm r) (h : w.ownsRow B e 1 (.slice (some ⟨g, 0, none⟩) n cap) n (nv S)) :
    Sort.Holds encP w g 0 (pms S hS).toArray ∧ (pms S hS).toArray.size = n := by
  have hl : (pms S hS).length = S.length := by have := congrArg List.length (pms_val S hS); simpa using this
  have hn := h.1
  rw [nv_length] at hn
  refine ⟨fun j hj => ?_, by simp [hl]; omega⟩
  have hj' : j < S.length := by rw [← hl]; simpa using hj
  refine ⟨?_, ?_⟩
  · have h1 := h.cells rfl j (encP (pms S hS)[j]!) (by
      have e : nv S = (pms S hS).map encP := by rw [enc_val, pms_val]
      rw [e, List.getElem?_map, List.getElem?_eq_getElem (by omega)]
      rw [getElem!_pos (pms S hS) j (by omega)]; rfl)
    rw [Addr.add_lit] at h1
    rw [h1]
    congr 1
    rw [getElem!_pos _ j (by omega), getElem!_pos _ j hj]
    simp
  · rw [Nat.zero_add]; exact h.frozenAt j
end Go.Proofs.YtpchigdhnnkpcaaGreatDoor

namespace Go.Proofs.YtpchigdhnnkpcaaGreatDoor
end Go.Proofs.YtpchigdhnnkpcaaGreatDoor

namespace Go.Proofs.YtpchigdhnnkpcaaGreatDoor
open Go.RowKit

/-- an own row that is not the one appended to stays, and stays apart -/
theorem own_other_app {w w' : World} {B n g : Nat} {e : TypeId} {a b : Value} {xs : List Value} {o : Obj} (ha : w.ownsRow B e 1 a n xs) (hne : a.ownBlock = none ∨ a.ownBlock ≠ b.ownBlock) (hg : (w.alloc o).grownBy w' b.ownBlock) (hat : b.ownBlock = some g ∨ g = (w.alloc o).heap.size) :
    w'.ownsRow B e 1 a n xs ∧ (a.ownBlock = none ∨ a.ownBlock ≠ some g) := by
  refine ⟨(ha.alloc o).kept hg hne, ?_⟩
  by_cases h0 : a.ownBlock = none
  · exact .inl h0
  · refine .inr fun h => ?_
    rcases hne with hne | hne
    · exact h0 hne
    · rcases hat with hat | hat
      · exact hne (h.trans hat.symm)
      · have := (ha.lt g h).2; simp at hat; omega
end Go.Proofs.YtpchigdhnnkpcaaGreatDoor

namespace Go.Proofs.YtpchigdhnnkpcaaGreatDoor
open Go.RowKit

theorem smp_left : ∀ (L : List (Nat × Nat)) (p : Nat × Nat), (∀ r ∈ L, SmP r) → SmP p → SmP (leftN L p)
  | [], _, _, hp => hp
  | r :: L, p, h, hp => smp_left L (leftStep p r) (fun s hs => h s (List.mem_cons_of_mem _ hs)) (hp.step (h r (List.mem_cons_self ..)))
theorem shl_one {k : Nat} (h : k ≤ 60) : wrap64 ((2 : Int) ^ k) = ((2 ^ k : Nat) : Int) := by
  have h1 : (2 : Nat) ^ k ≤ 2 ^ 60 := Nat.pow_le_pow_right (by omega) h
  have e : (2 ^ 60 : Nat) = 1152921504606846976 := by decide
  have h2 : ((2 ^ k : Nat) : Int) = (2 : Int) ^ k := by rw [Int.natCast_pow]; rfl
  rw [← h2]
  generalize (2 ^ k : Nat) = z at *
  unfold wrap64; omega
theorem apart_some {v : Value} {g c n : Nat} (h : v.ownBlock = none ∨ v.ownBlock ≠ some g) : (Value.slice (some ⟨g, 0, none⟩) n c).ownBlock = none ∨ (Value.slice (some ⟨g, 0, none⟩) n c).ownBlock ≠ v.ownBlock := by
  refine .inr fun e => ?_
  have e1 : (Value.slice (some ⟨g, 0, none⟩) n c).ownBlock = some g := rfl
  rw [e1] at e
  rcases h with h | h
  · rw [h] at e; cases e
  · exact h e.symm
theorem apart_ne {g g' c c' n n' : Nat} (h : (Value.slice (some ⟨g, 0, none⟩) n c).ownBlock = none ∨ (Value.slice (some ⟨g, 0, none⟩) n c).ownBlock ≠ some g') : (Value.slice (some ⟨g, 0, none⟩) n c).ownBlock ≠ (Value.slice (some ⟨g', 0, none⟩) n' c').ownBlock := by
  rcases h with h | h
  · cases h
  · exact h
/-- the lists done and sums after k rounds -/
def solK (S : List Nat) (k : Nat) : List (Nat × Nat) := growAll ((us 0 S).take k)
theorem solK_succ {S : List Nat} {k : Nat} (h : k < S.length) : solK S (k + 1) = growL (solK S k) (S.getD k 0, 2 ^ k) := by
  unfold solK growAll
  rw [fold_take_succ growL [] (us 0 S) k (0, 0) (by rw [us_length]; exact h), us_getD S 0 k h, Nat.zero_add]
theorem growL_length (L : List (Nat × Nat)) (p : Nat × Nat) : (growL L p).length ≤ L.length + 1 := by unfold growL; split <;> simp
theorem solK_length (S : List Nat) : ∀ k, k ≤ S.length → (solK S k).length ≤ k := by
  intro k
  induction k with
  | zero => intro _; simp [solK, growAll]
  | succ k ih => intro h; rw [solK_succ (by omega)]; have := growL_length (solK S k) (S.getD k 0, 2 ^ k); have := ih (by omega); omega
theorem solK_good {S : List Nat} (hS : ∀ r ∈ S, Sm r) (hl : S.length ≤ 62) (k : Nat) : Good (solK S k) := by
  have hu := us_sm hS hl
  have h1 : ∀ p ∈ (us 0 S).take k, SmP p := fun p hp => hu p (List.mem_of_mem_take hp)
  have he : Ech (r1 (solK S k)) := grow_ech_all _ [] ⟨by simp [r1], by simp [r1]⟩ fun p hp => (h1 p hp).1
  have hs := grow_all (P := SmP) smp_left _ [] h1 (by simp)
  intro r hr
  exact ⟨(he.ne r.1 (List.mem_map_of_mem hr)).1, hs r hr⟩
theorem solK_all (S : List Nat) : solK S S.length = growAll (us 0 S) := by
  unfold solK; rw [List.take_of_length_le (by rw [us_length]; exact Nat.le_refl _)]

end Go.Proofs.YtpchigdhnnkpcaaGreatDoor

namespace Go.Proofs.YtpchigdhnnkpcaaGreatDoor
open Go.RowKit

set_option maxHeartbeats 1000000 in
theorem reduce_any (A : Option Addr) (n c : Nat) (rows : List Nat) (w : World) (hn : n = rows.length) (hsmall : n ≤ 1000000) (hS : ∀ r ∈ rows, Sm r) (hR : Rd w A (nv rows)) :
    Calls Tryz.prog 41 #[.slice A n c] w fun e w' => ∃ v', e = .returned v' ∧ w'.ownsRow w.heap.size 2 1 v' (reduceS rows).length (nv (reduceS rows)) ∧ Below w.heap.size w w' := by
  have Hn := Lib.hid hn
  have HR := Lib.hid hR
  have HS := Lib.hid hS
  clear hn hR hS
  go_enter Tryz.func41, Tryz.ntmps41
  go_wp2_with fail
  go_loopw [3, 4] (fun o i wr => ∃ k : Nat, k ≤ n ∧ i = .int .i64 k ∧ wr.ownsRow w.heap.size 2 1 o (reduceS (rows.take k)).length (nv (reduceS (rows.take k))) ∧ Below w.heap.size w wr) (fun _ i _ => n - (intOf i).toNat)
  case atStart => exact ⟨0, by omega, rfl, World.ownsRow_made w #[] 0 (Nat.le_refl _) (by decide) (by simp), (Below.refl _ _).alloc (Nat.le_refl _) _⟩
  case round =>
    obtain ⟨k, hk, rfl, hown, hbel⟩ := hrel
    have hsz : w.heap.size ≤ wr.heap.size := hbel.size
    by_cases hlt : k < n
    · have hkL : k < rows.length := by rw [← Hn.out]; exact hlt
      obtain ⟨b, o, rfl, hc⟩ := (HR.out.below hbel).atN hkL
      have hm : rows.getD k 0 ∈ rows := by simp [List.getD, hkL]
      have g1 := HS.out _ hm
      have Hs := Lib.hid (reduceS_take_succ rows k hkL)
      have hl := reduceS_length_le (rows.take k)
      rw [List.length_take] at hl
      have hred := red_reduce (rows := rows.take k) (fun r hr => HS.out r (List.mem_of_mem_take hr))
      generalize reduceS (rows.take k) = T at *
      generalize rows.getD k 0 = r at *
      have hp := put_any w.heap.size _ T r wr hsz hown (by omega) g1 hred
      have HP := Lib.hid hp
      have HB := Lib.hid hbel
      clear hp hown hbel hred hm
      go_wp2_with (go_at_call 69; refine HP.out.mono ?_; rintro e w1 ⟨v1, rfl, hown1, hb1, _⟩)
      go_roundw
      case rel => exact ⟨k + 1, by omega, by go_num, by rw [Hs.out]; exact hown1, HB.out.trans (hb1.mono hsz)⟩
      case measure => simp [intOf]; omega
    · have ek : rows.take k = rows := List.take_of_length_le (by rw [← Hn.out]; omega)
      rw [ek] at hown
      have HO := Lib.hid hown
      have HB := Lib.hid hbel
      clear hown hbel
      go_wp2_with fail
      go_ret
      exact ⟨_, rfl, HO.out, HB.out⟩

/-- the numbers of a list of masks -/
def toN (xs : List Int) : List Nat := xs.map Int.toNat
end Go.Proofs.YtpchigdhnnkpcaaGreatDoor

namespace Go.Proofs.YtpchigdhnnkpcaaGreatDoor
open Go.RowKit

def kerK (S : List Nat) (k : Nat) : List Nat := kerOut (fun k => solK S k) S k
theorem kerK_succ (S : List Nat) (k : Nat) : kerK S (k + 1) = kerStep (solK S k) (S.getD k 0, 2 ^ k) (kerK S k) := rfl
theorem kerK_all {S : List Nat} : kerK S S.length = kerOut (fun k => growAll ((us 0 S).take k)) S S.length := rfl

theorem apart_ne2 {v : Value} {g' c' n' : Nat} (h : v.ownBlock = none ∨ v.ownBlock ≠ some g') : v.ownBlock ≠ (Value.slice (some ⟨g', 0, none⟩) n' c').ownBlock := by
  rcases h with h | h
  · rw [h]; intro e; cases e
  · exact h
attribute [local go_sem] i64_xor_nat and_pw_ne in
set_option maxRecDepth 100000 in
set_option maxHeartbeats 2000000 in
theorem l02Kernel_any (A : Option Addr) (n c : Nat) (S : List Nat) (w : World) (hn : n = S.length) (hsmall : n ≤ 60) (hS : ∀ r ∈ S, Sm r) (hR : Rd w A (nv S)) :
    Calls Tryz.prog 79 #[.slice A n c] w fun e w' => ∃ v, e = .returned v ∧ w'.ownsRow w.heap.size 2 1 v (reduceS (kerK S S.length)).length (nv (reduceS (kerK S S.length))) ∧ Below w.heap.size w w' := by
  have Hn := Lib.hid hn
  have HR := Lib.hid hR
  have HG := Lib.hid (fun k => solK_good hS (by omega) k)
  have HKS := Lib.hid ((kerG_sol hS).sm (by omega))
  have HS := Lib.hid hS
  clear hn hR hS
  go_enter Tryz.func79, Tryz.ntmps79
  go_wp2_with fail
  go_loopw [3, 4, 5, 6] (fun d s o i wr => ∃ k : Nat, k ≤ n ∧ i = .int .i64 k ∧ wr.ownsRow w.heap.size 2 1 d (solK S k).length (nv (r1 (solK S k))) ∧ wr.ownsRow w.heap.size 2 1 s (solK S k).length (nv (r2 (solK S k))) ∧ wr.ownsRow w.heap.size 2 1 o (kerK S k).length (nv (kerK S k)) ∧ (d.ownBlock ≠ s.ownBlock ∧ d.ownBlock ≠ o.ownBlock ∧ s.ownBlock ≠ o.ownBlock) ∧ Below w.heap.size w wr) (fun _ _ _ i _ => n - (intOf i).toNat)
  case atStart =>
    refine ⟨0, by omega, rfl, ?_, ?_, ?_, by simp [Value.ownBlock]; omega, (((Below.refl _ _).alloc (Nat.le_refl _) _).alloc (by simp) _).alloc (by simp; omega) _⟩
    · exact ((World.ownsRow_made w #[] 0 (Nat.le_refl _) (by decide) (by simp)).alloc _).alloc _
    · have := World.ownsRow_made (w.alloc (.cells #[] 2)) #[] 0 (base := w.heap.size) (e := 2) (size := 1) (by simp) (by decide) (by simp)
      rw [World.size_alloc] at this
      exact this.alloc _
    · have := World.ownsRow_made ((w.alloc (.cells #[] 2)).alloc (.cells #[] 2)) #[] 0 (base := w.heap.size) (e := 2) (size := 1) (by simp; omega) (by decide) (by simp)
      simp only [World.size_alloc] at this
      exact this
  case round =>
    obtain ⟨k, hk, rfl, hod, hos, hoo, ⟨hds, hdo, hso⟩, hbel⟩ := hrel
    have hsz : w.heap.size ≤ wr.heap.size := hbel.size
    have hko := kerOut_length (fun k => solK S k) S k
    change (kerK S k).length ≤ k at hko
    by_cases hlt : k < n
    · have hkL : k < S.length := by rw [← Hn.out]; exact hlt
      obtain ⟨b, o, rfl, hc⟩ := (HR.out.below hbel).atN hkL
      have hx := HS.out _ (getD_mem hkL)
      have Hs := Lib.hid (solK_succ hkL)
      have Hk := Lib.hid (kerK_succ S k)
      have hg := HG.out k
      have hl := solK_length S k (by omega)
      have hp2 : Sm (2 ^ k) := by
        have := pw_sm (p := k) (by omega); exact this
      generalize solK S k = L at *
      generalize kerK S k = O at *
      generalize S.getD k 0 = x at *
      obtain ⟨D, cd, rfl, _, hD, _⟩ := owns_shape hod
      obtain ⟨E, ce, rfl, _, hE, _⟩ := owns_shape hos
      obtain ⟨F, cf, rfl, _, hF, _⟩ := owns_shape hoo
      have HOD := Lib.hid hod
      have HOS := Lib.hid hos
      have HOO := Lib.hid hoo
      have HDS := Lib.hid hds
      have HDO := Lib.hid hdo
      have HSO := Lib.hid hso
      have HB := Lib.hid hbel
      have HRD := Lib.hid (owns_Rd hod)
      have HRE := Lib.hid (owns_Rd hos)
      clear hod hos hoo hds hdo hso hbel hD hE hF
      go_wp2_with fail
      go_loop [7, 8, 9] (fun a b j => ∃ i : Nat, i ≤ L.length ∧ j = .int .i64 i ∧ a = .int .i64 (leftN (L.take i) (x, 2 ^ k)).1 ∧ b = .int .i64 (leftN (L.take i) (x, 2 ^ k)).2) (fun _ _ j => L.length - (intOf j).toNat)
      case atStart =>
        exact ⟨0, by omega, rfl, rfl, congrArg (Value.int .i64) (shl_one (by omega))⟩
      case round =>
        obtain ⟨i, hi, rfl, rfl, rfl⟩ := hrel
        by_cases hlt2 : i < L.length
        · obtain ⟨b1, o1, rfl, hc1⟩ := HRD.out.atN (k := i) (by rw [r1_length]; exact hlt2)
          obtain ⟨b2, o2, rfl, hc2⟩ := HRE.out.atN (k := i) (by rw [r2_length]; exact hlt2)
          rw [r1_getD] at hc1; rw [r2_getD] at hc2
          obtain ⟨g0, g1, g2⟩ := hg.at_ hlt2
          have Hi := Lib.hid (fold_take_succ leftStep (x, 2 ^ k) L i (0, 0) hlt2)
          have hq : SmP (leftN (L.take i) (x, 2 ^ k)) := SmP.foldl (hg.take i) ⟨hx, hp2⟩
          obtain ⟨q1, q2⟩ := hq
          have hpv := pv_le g0 g1
          generalize hP : leftN (L.take i) (x, 2 ^ k) = p at *
          generalize hR' : L.getD i (0, 0) = r at *
          have HP := Lib.hid hP; clear hP
          have HR' := Lib.hid hR'; clear hR' hg
          have HL := Lib.hid (fun W => low_any r.1 g0 g1 W)
          cases hb : tb p.1 (pv r.1)
          all_goals
            go_wp2_with (go_at_call 82; refine (HL.out _).mono ?_; rintro e w' ⟨rfl, rfl⟩)
            go_round
            case rel => exact ⟨i + 1, by omega, by go_num, by unfold leftN at *; rw [Hi.out, HP.out]; simp [leftStep, hb], by unfold leftN at *; rw [Hi.out, HP.out]; simp [leftStep, hb]⟩
            case measure => simp [intOf]; omega
        · have ei : L.take i = L := List.take_of_length_le (by omega)
          rw [ei]
          have hq : SmP (leftN L (x, 2 ^ k)) := SmP.foldl hg ⟨hx, hp2⟩
          have hgr := grow_cases L (x, 2 ^ k)
          have hks : kerStep L (x, 2 ^ k) O = if (leftN L (x, 2 ^ k)).1 = 0 then O ++ [(leftN L (x, 2 ^ k)).2] else O := rfl
          obtain ⟨q1, q2⟩ := hq
          generalize leftN L (x, 2 ^ k) = q at *
          rcases hgr with ⟨hgr, h0⟩ | ⟨hgr, h0⟩
          · rw [if_pos h0] at hks
            have HGR := Lib.hid hgr
            have HKS' := Lib.hid hks
            clear hgr hks
            rw [h0]
            go_wp2_with (at_builtin; refine wpList_app1 _ _ _ _ _ etI (by rfl) (by rfl) w.heap.size (.slice F O.length cf) O.length (nv O) (by rfl) ?_ _ (.int .i64 (q.2 : Int)) (by rfl) ?_ (by rfl) ?_ ?_ ?_; exact HOO.out.alloc _; exact new_cell _ _ _; omega; (simp; omega); (intro g1' cap1 w1 hown1 hgrow1 hat1 hlt1; obtain ⟨t1, t2⟩ := own_other_app HOD.out (.inr HDO.out) hgrow1 hat1; obtain ⟨t3, t4⟩ := own_other_app HOS.out (.inr HSO.out) hgrow1 hat1; have HB1 := Lib.hid (below_app HB.out hsz HOO.out hgrow1); have HO1 : Hid (w1.ownsRow w.heap.size 2 1 (.slice (some ⟨g1', 0, none⟩) (O.length + 1) cap1) (O.length + 1) (nv (O ++ [q.2]))) := (by rw [← nv_snoc]; exact hown1); have HT1 := Lib.hid t1; have HT2 := Lib.hid (apart_ne2 (n' := O.length + 1) (c' := cap1) t2); have HT3 := Lib.hid t3; have HT4 := Lib.hid (apart_ne2 (n' := O.length + 1) (c' := cap1) t4); clear hown1 hgrow1 hat1 hlt1 t1 t2 t3 t4))
            go_roundw
            case rel => exact ⟨k + 1, by omega, by go_num, by rw [Hs.out, HGR.out]; exact HT1.out, by rw [Hs.out, HGR.out]; exact HT3.out, by rw [Hk.out, HKS'.out]; exact own_cast HO1.out (by simp) rfl, ⟨HDS.out, HT2.out, HT4.out⟩, HB1.out⟩
            case measure => simp [intOf]; omega
          · rw [if_neg h0] at hks
            have HGR := Lib.hid hgr
            have HKS' := Lib.hid hks
            have hne0 : ((q.1 : Int) == 0) = false := by simpa using h0
            clear hgr hks
            go_wp2_with (first | (at_builtin; refine wpList_app1 _ _ _ _ _ etI (by rfl) (by rfl) w.heap.size (.slice D L.length cd) L.length (nv (r1 L)) (by rfl) ?_ _ (.int .i64 (q.1 : Int)) (by rfl) ?_ (by rfl) ?_ ?_ ?_; exact HOD.out.alloc _; exact new_cell _ _ _; omega; (simp; omega); (intro g1' cap1 w1 hown1 hgrow1 hat1 hlt1; obtain ⟨t1, t2⟩ := own_other_app HOS.out (.inr HDS.out.symm) hgrow1 hat1; obtain ⟨t3, t4⟩ := own_other_app HOO.out (.inr HDO.out.symm) hgrow1 hat1; have HB1 := Lib.hid (below_app HB.out hsz HOD.out hgrow1); have hsz1 : w.heap.size ≤ w1.heap.size := HB1.out.size; have HO1 : Hid (w1.ownsRow w.heap.size 2 1 (.slice (some ⟨g1', 0, none⟩) (L.length + 1) cap1) (L.length + 1) (nv (r1 (L ++ [q])))) := (by show Go.World.ownsRow _ _ _ _ _ _ _; rw [show r1 (L ++ [q]) = r1 L ++ [q.1] by simp [r1], ← nv_snoc]; exact hown1); have HT1 := Lib.hid t1; have HT2 := Lib.hid t2; have HT3 := Lib.hid t3; have HT4 := Lib.hid (apart_ne2 (n' := L.length + 1) (c' := cap1) t4); clear hown1 hgrow1 hat1 hlt1 t1 t2 t3 t4)) | (at_builtin; refine wpList_app1 _ _ _ _ _ etI (by rfl) (by rfl) w.heap.size (.slice E L.length ce) L.length (nv (r2 L)) (by rfl) ?_ _ (.int .i64 (q.2 : Int)) (by rfl) ?_ (by rfl) ?_ ?_ ?_; exact HT1.out.alloc _; exact new_cell _ _ _; omega; (simp; omega); (intro g2' cap2 w2 hown2 hgrow2 hat2 hlt2; obtain ⟨t1, t2⟩ := own_other_app HO1.out (apart_some HT2.out) hgrow2 hat2; obtain ⟨t3, t4⟩ := own_other_app HT3.out (.inr HSO.out.symm) hgrow2 hat2; have HB2 := Lib.hid (below_app HB1.out hsz1 HT1.out hgrow2); have HO2 : Hid (w2.ownsRow w.heap.size 2 1 (.slice (some ⟨g2', 0, none⟩) (L.length + 1) cap2) (L.length + 1) (nv (r2 (L ++ [q])))) := (by show Go.World.ownsRow _ _ _ _ _ _ _; rw [show r2 (L ++ [q]) = r2 L ++ [q.2] by simp [r2], ← nv_snoc]; exact hown2); have HU1 := Lib.hid t1; have HU2 := Lib.hid (apart_ne (n' := L.length + 1) (c' := cap2) t2); have HU3 := Lib.hid t3; have HU4 := Lib.hid (apart_ne2 (n' := L.length + 1) (c' := cap2) t4); clear hown2 hgrow2 hat2 hlt2 t1 t2 t3 t4)))
            go_roundw
            case rel => exact ⟨k + 1, by omega, by go_num, by rw [Hs.out, HGR.out]; exact own_cast HU1.out (by simp) rfl, by rw [Hs.out, HGR.out]; exact own_cast HO2.out (by simp) rfl, by rw [Hk.out, HKS'.out]; exact HU3.out, ⟨HU2.out, HT4.out.symm, HU4.out.symm⟩, HB2.out⟩
            case measure => simp [intOf]; omega
    · have ek : k = S.length := by rw [← Hn.out]; omega
      subst ek
      obtain ⟨F, cf, rfl, _, hF, _⟩ := owns_shape hoo
      have hr := reduce_any F (kerK S S.length).length cf (kerK S S.length) wr rfl (by omega) HKS.out (owns_Rd hoo)
      have HRR := Lib.hid hr
      have HB := Lib.hid hbel
      clear hod hos hoo hds hdo hso hbel hF hr
      go_wp2_with fail
      refine HRR.out.mono ?_
      rintro e w2 ⟨v, rfl, ho, hb⟩
      have HO2 := Lib.hid ho
      have HB2 := Lib.hid hb
      clear ho hb
      go_wp2_with fail
      go_ret
      exact ⟨v, rfl, HO2.out.mono hsz, HB.out.trans (HB2.out.mono hsz)⟩
end Go.Proofs.YtpchigdhnnkpcaaGreatDoor

namespace Go.Proofs.YtpchigdhnnkpcaaGreatDoor
open Go.RowKit

theorem nv_snocZ (S : List Nat) (x : Nat) : nv (S ++ [x]) = nv S ++ [.int .i64 (x : Int)] := by simp [nv]
/-- an append onto one of two own rows leaves the other one -/
theorem app_other {w wr w1 : World} {B : Nat} {o8 o9 : Value} {n8 n9 g1 : Nat} {xs8 xs9 : List Value} {e8 e9 : TypeId} {ob : Obj} (h8 : wr.ownsRow B e8 1 o8 n8 xs8) (h9 : wr.ownsRow B e9 1 o9 n9 xs9) (hne : o8.ownBlock = none ∨ o8.ownBlock ≠ o9.ownBlock)
    (hg : (wr.alloc ob).grownBy w1 o8.ownBlock) (hat : o8.ownBlock = some g1 ∨ g1 = (wr.alloc ob).heap.size) : w1.ownsRow B e9 1 o9 n9 xs9 ∧ some g1 ≠ o9.ownBlock := by
  have hk : Keeps wr w1 [o8.ownBlock] := ((Keeps.refl wr []).alloc ob).trans (Keeps.of_grown hg) (fun j _ hS => by simpa using hS)
  refine ⟨owns_keeps h9 hk ?_, ?_⟩
  · cases h : o9.ownBlock with
    | none => exact .inl rfl
    | some k =>
      refine .inr fun e => ?_
      have e : some k = o8.ownBlock := by simpa using e
      rcases hne with h1 | h1
      · rw [h1] at e; cases e
      · exact h1 (by rw [h, e])
  · intro e
    rcases hat with h1 | h1
    · rcases hne with h2 | h2
      · rw [h2] at h1; cases h1
      · exact h2 (h1.trans e)
    · have := (h9.lt g1 e.symm).2
      rw [World.size_alloc] at h1; omega
theorem kerR_K {S : List Nat} (hS : ∀ r ∈ S, Sm r) (hl : S.length ≤ 62) : reduceS (kerK S S.length) = kerR S := kernel_both hS hl

attribute [local go_sem] i64_bit_test in
set_option maxRecDepth 100000 in
set_option maxHeartbeats 8000000 in
theorem l12Kernel_any (A A' C : Option Addr) (n c m c' cc : Nat) (xs : List Int) (F : List Nat) (w : World) (hn : n = xs.length) (hn16 : n ≤ 16) (hx : SrtL xs) (hR : Rd w A (iv xs)) (hk : n = F.length) (hF : ∀ r ∈ F, Sm r) (hC : Rd w C (nv F)) :
    Calls Tryz.prog 53 #[.agg #[.slice A n c, .slice A' m c'], .slice C n cc] w fun e w' => ∃ v, e = .returned v ∧ w'.ownsRow w.heap.size 2 1 v (byDeg xs (kerAll xs F 21) 21).length (nv (byDeg xs (kerAll xs F 21) 21)) ∧ Below w.heap.size w w' := by
  have hk0 := blk_new w (.cells #[.slice A n c, .slice A' m c'] 29)
  have hb0 : Below w.heap.size w (w.alloc (.cells #[.slice A n c, .slice A' m c'] 29)) := (Below.refl _ _).alloc (Nat.le_refl _) _
  have HDS : Hid (∀ d, Sm (dmask xs d)) := Lib.hid (fun d => sm_of_lt (a := xs.length) (by omega) (dmask_lt xs d))
  have HDG := Lib.hid (fun (d : Int) (W : World) (hb : Below w.heap.size w W) => l12Degree_any A A' n c m c' xs d W hn (by omega) (hR.below hb))
  have HKH := Lib.hid (fun k => kerAll_hom (xs := xs) (k := k) hF (by omega))
  have HBA := Lib.hid (fun (V : Option Addr) (k cv : Nat) (T : List Nat) (W : World) (hb : Below w.heap.size w W) (hkT : k = T.length) (hk1 : k ≤ 1000000) (hT : ∀ r ∈ T, r < 2 ^ n) (hV : Rd W V (nv T)) => l12Basis_any A A' V n c m c' k cv xs T W hn hn16 hx (hR.below hb) hkT hk1 hT hV)
  have HC := Lib.hid hC
  have Hk := Lib.hid hk
  have Hn := Lib.hid hn
  have HFS := Lib.hid hF
  clear hn hR hk hF hC hx
  obtain ⟨x0, x1, xf0, xf1, lx⟩ := blk2cells hk0
  have hz0 : (w.alloc (.cells #[.slice A n c, .slice A' m c'] 29)).heap.size = w.heap.size + 1 := by simp
  go_enter Tryz.func53, Tryz.ntmps53
  go_wp2_with fail
  generalize w.alloc (.cells #[.slice A n c, .slice A' m c'] 29) = w0 at *
  rw [← hz0]
  have HB0 := Lib.hid hb0
  have HK0 := Lib.hid hk0
  have hs0 := hb0.size
  clear hz0 hb0 hk0 x0 x1 xf0 xf1 lx
  go_loopw [5, 6] (fun o s6 wr => ∃ d : Nat, d ≤ 21 ∧ s6 = .int .i64 d ∧ wr.ownsRow w0.heap.size 2 1 o (kerAll xs F d).length (nv (kerAll xs F d)) ∧ (kerAll xs F d).length ≤ d * 16 ∧ Below w0.heap.size w0 wr) (fun _ s => fun _ => 21 - (intOf s).toNat)
  case atStart => exact ⟨0, by omega, rfl, World.ownsRow_made w0 #[] 0 (Nat.le_refl _) (by decide) (by simp), by simp [kerAll], (Below.refl _ _).alloc (Nat.le_refl _) _⟩
  case round =>
    obtain ⟨d, hd, rfl, hown, hkl, hbel⟩ := hrel
    have HO := Lib.hid hown
    have HB := Lib.hid hbel
    have hsz := hbel.size
    by_cases hd20 : d ≤ 20
    · have hdi : (d : Int) ≤ 20 := by omega
      have HDC := Lib.hid (HDG.out (d : Int) wr (HB0.out.trans (hbel.mono hs0)))
      obtain ⟨x0, x1, xf0, xf1, lx⟩ := blk2cells (blk_kept HK0.out hbel)
      obtain ⟨Ao, co, rfl, _⟩ := owns_shape hown
      clear hown hbel
      go_wp2_with fail
      refine HDC.out.mono ?_
      rintro e w2 ⟨rfl, hb⟩
      have HB2 := Lib.hid (HB.out.trans (hb.mono hsz))
      have HO2 := Lib.hid (owns_keeps HO.out (Keeps.of_below hb) (.inr (by simp)))
      have hs2 := HB2.out.size
      clear hb x0 x1 xf0 xf1 lx
      go_wp2_with fail
      go_loopw [8, 9, 10] (fun o8 o9 s10 wr => ∃ i : Nat, i ≤ n ∧ s10 = .int .i64 i ∧ wr.ownsRow w2.heap.size 2 1 o8 (idx xs (d : Int) i).length (nv (idx xs (d : Int) i)) ∧ wr.ownsRow w2.heap.size 2 1 o9 (idx xs (d : Int) i).length (nv ((idx xs (d : Int) i).map fun j => F.getD j 0)) ∧ (o8.ownBlock = none ∨ o8.ownBlock ≠ o9.ownBlock) ∧ (o9.ownBlock = none ∨ o9.ownBlock ≠ o8.ownBlock) ∧ Below w2.heap.size w2 wr) (fun _ _ s => fun _ => n - (intOf s).toNat)
      case atStart =>
        refine ⟨0, by omega, rfl, ?_, ?_, .inr (by simp [Value.ownBlock]), .inr (by simp [Value.ownBlock]), ((Below.refl _ _).alloc (Nat.le_refl _) _).alloc (by simp) _⟩
        · exact (World.ownsRow_made w2 #[] 0 (Nat.le_refl _) (by decide) (by simp)).alloc _
        · have := World.ownsRow_made (w2.alloc (.cells #[] 2)) #[] 0 (base := w2.heap.size) (e := 2) (size := 1) (by simp) (by decide) (by simp)
          simp only [World.size_alloc] at this
          exact this
      case round =>
        obtain ⟨i, hi, rfl, h8, h9, hn8, hn9, hbel⟩ := hrel
        have H8 := Lib.hid h8
        have H9 := Lib.hid h9
        have HN8 := Lib.hid hn8
        have HN9 := Lib.hid hn9
        have HBi := Lib.hid hbel
        have hszi := hbel.size
        have hil := idx_len xs (d : Int) i
        by_cases hin : i < n
        · have hiF : i < F.length := by rw [← Hk.out]; exact hin
          obtain ⟨b, o, rfl, hc⟩ := (HC.out.below (HB0.out.trans ((HB2.out.trans (hbel.mono hs2)).mono hs0))).atN hiF
          have HID := Lib.hid (idx_succ xs (d : Int) i)
          have htd := tb_dmask xs (d : Int) i
          rw [← Hn.out, decide_eq_true hin, Bool.true_and] at htd
          have hds := HDS.out (d : Int)
          have hmin : min i 64 = i := by omega
          obtain ⟨P8, c8, rfl, _⟩ := owns_shape h8
          obtain ⟨P9, c9, rfl, _⟩ := owns_shape h9
          generalize dmask xs (d : Int) = u at *
          clear h8 h9 hn8 hn9 hbel
          by_cases hxd : xs.getD i 0 = (d : Int)
          · rw [decide_eq_true hxd] at htd
            have HID2 : Hid (idx xs (d : Int) (i + 1) = idx xs (d : Int) i ++ [i]) := Lib.hid (by rw [HID.out, if_pos hxd])
            have HFM : Hid ((idx xs (d : Int) i ++ [i]).map (fun j => F.getD j 0) = (idx xs (d : Int) i).map (fun j => F.getD j 0) ++ [F.getD i 0]) := Lib.hid (by simp)
            have hcw : w.cell? ⟨b, o + i, none⟩ = some (.int .i64 (F.getD i 0 : Nat)) := by
              obtain ⟨b', o', e, h⟩ := HC.out.atN hiF
              injection e with e
              injection e with e1 e2 _
              subst e1; subst e2; exact h
            have HCK := Lib.hid (fun (W : World) (hb : Below w.heap.size w W) => cell_keep hcw hb)
            clear hxd hcw
            generalize idx xs (d : Int) i = J at *
            generalize F.getD i 0 = f at *
            go_wp2_with (first
              | (at_builtin; refine wpList_app1 _ _ _ _ _ etI (by rfl) (by rfl) w2.heap.size (.slice P8 J.length c8) J.length (nv J) (by rfl) (H8.out.alloc _) _ (.int .i64 (i : Int)) (by rfl) (new_cell _ _ _) (by rfl) (by omega) (Nat.le_trans hszi (Nat.le_of_lt (by simp))) ?_; (intro g8 cap8 w3 hown8 hg8 hat8 hlt8; have HO8 := Lib.hid hown8; have hoo := own_other_app H9.out HN9.out hg8 hat8; have HO9 := Lib.hid hoo.1; have HNE9 := Lib.hid hoo.2; have HB3 := Lib.hid (below_app2 HBi.out hszi H8.out hg8); clear hown8 hg8 hat8 hlt8 hoo hc; have hc := HCK.out w3 (HB0.out.trans ((HB2.out.trans (HB3.out.mono hs2)).mono hs0))))
              | (at_builtin; refine wpList_app1 _ _ _ _ _ etI (by rfl) (by rfl) w2.heap.size (.slice P9 J.length c9) J.length (nv (J.map fun j => F.getD j 0)) (by rfl) (HO9.out.alloc _) _ (.int .i64 (f : Nat)) (by rfl) (new_cell _ _ _) (by rfl) (by omega) (Nat.le_trans HB3.out.size (Nat.le_of_lt (by simp))) ?_; (intro g9 cap9 w4 hown9 hg9 hat9 hlt9; have HP9 := Lib.hid hown9; have hoo := own_other_app HO8.out (none_or_symm HNE9.out) hg9 hat9; have HP8 := Lib.hid hoo.1; have HNE8 := Lib.hid hoo.2; have HB4 := Lib.hid (below_app2 HB3.out HB3.out.size HO9.out hg9); clear hown9 hg9 hat9 hlt9 hoo hc)))
            go_roundw
            case rel => exact ⟨i + 1, by omega, by go_num, by rw [HID2.out, List.length_append, nv_snocZ]; exact HP8.out, by rw [HID2.out, HFM.out, List.length_append, nv_snocZ]; exact HP9.out, HNE8.out, none_or_symm HNE8.out, HB4.out⟩
            case measure => simp [intOf]; omega
          · rw [decide_eq_false hxd] at htd
            have HID2 : Hid (idx xs (d : Int) (i + 1) = idx xs (d : Int) i) := Lib.hid (by rw [HID.out, if_neg hxd, List.append_nil])
            clear hxd hil
            go_wp2_with fail
            go_roundw
            case rel => exact ⟨i + 1, by omega, by go_num, by rw [HID2.out]; exact H8.out, by rw [HID2.out]; exact H9.out, HN8.out, HN9.out, HBi.out⟩
            case measure => simp [intOf]; omega
        · obtain rfl : n = i := by omega
          obtain ⟨P8, c8, rfl, _⟩ := owns_shape h8
          obtain ⟨P9, c9, rfl, _⟩ := owns_shape h9
          have HJE : Hid (idx xs (d : Int) n = idx xs (d : Int) xs.length) := Lib.hid (by rw [Hn.out])
          have hJn : ∀ r ∈ idx xs (d : Int) n, r < 60 := fun r hr => by have := (mem_idx.1 hr).1; omega
          have HGS : Hid (∀ r ∈ (idx xs (d : Int) n).map fun j => F.getD j 0, Sm r) := Lib.hid (fun r hr => by
            obtain ⟨j, hj, rfl⟩ := List.mem_map.1 hr
            exact HFS.out _ (getD_mem (by rw [← Hk.out]; exact (mem_idx.1 hj).1)))
          have hGl : ((idx xs (d : Int) n).map fun j => F.getD j 0).length = (idx xs (d : Int) n).length := by simp
          have HKD : Hid (kerAll xs F (d + 1) = kerAll xs F d ++ (kerR ((idx xs (d : Int) n).map fun j => F.getD j 0)).map (kept (idx xs (d : Int) n))) := Lib.hid (by rw [HJE.out]; rfl)
          have HKN := Lib.hid (l02Kernel_any P9 (idx xs (d : Int) n).length c9 ((idx xs (d : Int) n).map fun j => F.getD j 0) wr hGl.symm (by omega) HGS.out (owns_Rd h9))
          have HKK := Lib.hid (kerR_K HGS.out (by rw [hGl]; omega))
          obtain ⟨hks, hkl2⟩ := kerR_ok HGS.out (by rw [hGl]; omega)
          rw [hGl] at hkl2
          have HB5 := Lib.hid (HB2.out.trans (hbel.mono hs2))
          have HO5 := Lib.hid (owns_keeps HO2.out (Keeps.of_below hbel) (.inr (by simp)))
          have HAB : Hid (∀ g, (Value.slice Ao (kerAll xs F d).length co).ownBlock = some g → g < w2.heap.size) := Lib.hid (fun g hg => (HO2.out.lt g hg).2)
          clear h8 h9 hn8 hn9 hbel HN8 HN9
          generalize kerR ((idx xs (d : Int) n).map fun j => F.getD j 0) = K at *
          generalize idx xs (d : Int) n = J at *
          generalize J.map (fun j => F.getD j 0) = G at *
          generalize kerAll xs F d = T at *
          have HKL := Lib.hid hkl2
          have HKSm := Lib.hid hks
          have HJN := Lib.hid hJn
          clear hGl hks hJn
          go_wp2_with fail
          refine HKN.out.mono ?_
          rintro e w7 ⟨vK, rfl, hoK, hb⟩
          rw [HKK.out] at hoK
          obtain ⟨PK, cK, rfl, _⟩ := owns_shape hoK
          have HOK := Lib.hid (hoK.mono hszi)
          have H87 := Lib.hid (owns_keeps H8.out (Keeps.of_below hb) (.inr (by simp)))
          have HO7 := Lib.hid (owns_keeps HO5.out (Keeps.of_below hb) (.inr (by simp)))
          have HB7 := Lib.hid (HB5.out.trans (hb.mono (Nat.le_trans hs2 hszi)))
          have hs7 : w2.heap.size ≤ w7.heap.size := Nat.le_trans hszi hb.size
          clear hoK hb
          go_wp2_with fail
          go_loopw [5, 12] (fun o5 s12 wr => ∃ t : Nat, t ≤ K.length ∧ s12 = .int .i64 t ∧ wr.ownsRow w0.heap.size 2 1 o5 (T ++ (K.take t).map (kept J)).length (nv (T ++ (K.take t).map (kept J))) ∧ (∀ g, o5.ownBlock = some g → (Value.slice Ao T.length co).ownBlock = some g ∨ w7.heap.size ≤ g) ∧ Keeps w7 wr [(Value.slice Ao T.length co).ownBlock]) (fun _ s => fun _ => K.length - (intOf s).toNat)
          case atStart => exact ⟨0, by omega, rfl, by simpa using HO7.out, fun g hg => .inl hg, Keeps.refl _ _⟩
          case round =>
            obtain ⟨t, ht, rfl, ho5, hg5, hkp⟩ := hrel
            have H5 := Lib.hid ho5
            have HG5 := Lib.hid hg5
            have HKP := Lib.hid hkp
            have hsk := hkp.size
            have hdis : ∀ (v : Value) (n : Nat) (xs : List Value), w7.ownsRow w2.heap.size 2 1 v n xs → wr.ownsRow w2.heap.size 2 1 v n xs := fun v n xs h => owns_keeps h hkp (by
              cases h0 : v.ownBlock with
              | none => exact .inl rfl
              | some g =>
                refine .inr fun e => ?_
                have e : some g = (Value.slice Ao T.length co).ownBlock := by simpa using e
                have h1 := (h.lt g h0).1
                have h2 := HAB.out g e.symm
                omega)
            have hRK := owns_Rd (hdis _ _ _ HOK.out)
            have hR8 := owns_Rd (hdis _ _ _ H87.out)
            obtain ⟨A5, c5, rfl, _⟩ := owns_shape ho5
            have HB8 : Hid (Below w0.heap.size w0 wr) := Lib.hid (HB7.out.trans (hkp.to_below HB7.out.size (fun j hj => by
              have hj : some j = (Value.slice Ao T.length co).ownBlock := by simpa using hj
              exact (HO7.out.lt j hj.symm).1)))
            by_cases htK : t < K.length
            · obtain ⟨bk, ok, rfl, hck⟩ := hRK.atN htK
              have hsmk := HKSm.out _ (getD_mem htK)
              have HKT := Lib.hid (l12Kept_any P8 J.length c8 (K.getD t 0) J wr rfl (by omega) hsmk HJN.out hR8)
              have HTK : Hid (T ++ (K.take (t + 1)).map (kept J) = (T ++ (K.take t).map (kept J)) ++ [kept J (K.getD t 0)]) := Lib.hid (by
                rw [List.take_succ_eq_append_getElem htK, List.map_append, ← List.append_assoc]; simp [List.getD, htK])
              have hlen : (T ++ (K.take t).map (kept J)).length ≤ 1000 := by
                rw [List.length_append, List.length_map, List.length_take]; omega
              generalize T ++ (K.take t).map (kept J) = Tt at *
              generalize K.getD t 0 = x at *
              generalize kept J x = z at *
              clear ho5 hg5 hkp hRK hR8 hsmk hdis
              go_wp2_with (first
                | (go_at_call 80; refine HKT.out.mono ?_; rintro e w' ⟨rfl, rfl⟩)
                | (at_builtin; refine wpList_app1 _ _ _ _ _ etI (by rfl) (by rfl) w0.heap.size (.slice A5 Tt.length c5) Tt.length (nv Tt) (by rfl) (H5.out.alloc _) _ (.int .i64 (z : Nat)) (by rfl) (new_cell _ _ _) (by rfl) (by omega) (Nat.le_trans HB8.out.size (Nat.le_of_lt (by simp))) ?_; (intro g9 cap9 w9 hown9 hg9 hat9 hlt9; have HP9 := Lib.hid hown9; have HG9 := Lib.hid hg9; have HA9 := Lib.hid hat9; clear hown9 hg9 hat9 hlt9)))
              go_roundw
              case rel =>
                refine ⟨t + 1, by omega, by go_num, by rw [HTK.out, List.length_append, nv_snocZ]; exact HP9.out, fun g hg => ?_, ?_⟩
                · have hgg : g9 = g := by simpa [Value.ownBlock] using hg
                  subst hgg
                  rcases HA9.out with h | h
                  · exact HG5.out _ h
                  · right; rw [h, World.size_alloc]; omega
                · have k1 : Keeps wr w9 [(Value.slice A5 Tt.length c5).ownBlock] := ((Keeps.refl wr []).alloc _).trans (Keeps.of_grown HG9.out) (fun j _ hS => by simpa using hS)
                  refine HKP.out.trans k1 (fun j hj hS => ?_)
                  simp only [List.mem_cons, List.not_mem_nil, or_false] at hS ⊢
                  rcases hS with hS | hS
                  · exact hS
                  · rcases HG5.out j hS.symm with h | h
                    · exact h.symm
                    · omega
              case measure => simp [intOf]; omega
            · obtain rfl : t = K.length := by omega
              rw [List.take_length] at H5
              have HTL : Hid ((T ++ K.map (kept J)).length ≤ (d + 1) * 16) := Lib.hid (by rw [List.length_append, List.length_map, Nat.succ_mul]; omega)
              rw [List.take_length]
              clear ho5 hg5 hkp hRK hR8 hdis
              go_wp2_with fail
              go_roundw
              case rel => exact ⟨d + 1, by omega, by go_num, by rw [HKD.out]; exact H5.out, by rw [HKD.out]; exact HTL.out, HB8.out⟩
              case measure => simp [intOf]; omega
    · obtain rfl : d = 21 := by omega
      obtain ⟨Ao, co, rfl, _⟩ := owns_shape hown
      have hTl : ∀ r ∈ kerAll xs F 21, r < 2 ^ n := fun r hr => by
        obtain ⟨_, _, h, _⟩ := HKH.out 21 r hr
        rw [Hn.out]; exact h.lt
      have HBC := Lib.hid (HBA.out Ao _ co (kerAll xs F 21) wr (HB0.out.trans (hbel.mono hs0)) rfl (by omega) hTl (owns_Rd hown))
      obtain ⟨x0, x1, xf0, xf1, lx⟩ := blk2cells (blk_kept HK0.out hbel)
      clear hown hbel hTl
      go_wp2_with fail
      refine HBC.out.mono ?_
      rintro e w9 ⟨v, rfl, ho, hb⟩
      have HO9 := Lib.hid (ho.mono (Nat.le_trans hs0 hsz))
      have HB9 := Lib.hid (HB0.out.trans ((HB.out.trans (hb.mono hsz)).mono hs0))
      clear ho hb
      go_wp2_with fail
      go_ret
      exact ⟨v, rfl, HO9.out, HB9.out⟩
end Go.Proofs.YtpchigdhnnkpcaaGreatDoor
