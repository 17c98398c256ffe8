/- spanOf, impl's RankOf -/
import Derived.Test.YtchmplpgamekjaaDoorCY
import Derived.Test.YtchmplpgamekjaaDoorI
namespace Go.Proofs.YtchmplpgamekjaaDoor
open Go.RowKit

/-- what 'add' makes of a span -/
def addL (L : List (Nat × Nat)) (p : Nat × Nat) : List (Nat × Nat) := if (leftN L p).1 = 0 then L else addN L p
theorem leftN_fst (L : List (Nat × Nat)) : ∀ p, (leftN L p).1 = leftS (r1 L) p.1 := by
  induction L with
  | nil => intro p; rfl
  | cons r L ih =>
    intro p
    show (leftN L (leftStep p r)).1 = leftS (r1 L) (if tb p.1 (pv r.1) then xr p.1 r.1 else p.1)
    rw [ih]
    unfold leftStep; split <;> rfl
theorem addStep_fst (q r : Nat × Nat) : (addStep q r).1 = stepS q.1 r.1 := by unfold addStep stepS; split <;> rfl
theorem r1_addN (L : List (Nat × Nat)) (p : Nat × Nat) : r1 (addN L p) = (r1 L).map (stepS (leftS (r1 L) p.1)) ++ [leftS (r1 L) p.1] := by
  unfold addN r1
  rw [List.map_append, List.map_map, List.map_map]
  congr 1
  · apply List.map_congr_left
    intro r _
    simp only [Function.comp, addStep_fst]
    rw [leftN_fst L p]; rfl
  · simp [leftN_fst, r1]
/-- the rows of the program's span are those of the reference's list, in another order -/
theorem addL_perm {L : List (Nat × Nat)} {S : List Nat} (h : (r1 L).Perm S) (hr : Red (r1 L)) (p : Nat × Nat) : (r1 (addL L p)).Perm (putS S p.1) := by
  have e : leftS (r1 L) p.1 = leftS S p.1 := leftS_perm hr h p.1
  unfold addL
  by_cases h0 : (leftN L p).1 = 0
  · rw [if_pos h0]
    have : leftS S p.1 = 0 := by rw [← e, ← leftN_fst]; exact h0
    unfold putS; rw [if_pos this]; exact h
  · rw [if_neg h0, r1_addN, e]
    have h1 : leftS S p.1 ≠ 0 := by rw [← e, ← leftN_fst]; exact h0
    exact ((h.map _).append_right _).trans (putS_perm S p.1 h1).symm
theorem addL_red {L : List (Nat × Nat)} (hr : Red (r1 L)) {p : Nat × Nat} (hp : Sm p.1) : Red (r1 (addL L p)) :=
  (red_put hr hp).perm (addL_perm (List.Perm.refl _) hr p).symm
theorem addL_good {L : List (Nat × Nat)} (hr : Red (r1 L)) (hg : Good L) {p : Nat × Nat} (hp : SmP p) : Good (addL L p) := by
  have hrd := addL_red hr hp.1
  intro r hm
  refine ⟨(hrd.ne r.1 (List.mem_map.2 ⟨r, hm, rfl⟩)).1, (hrd.ne r.1 (List.mem_map.2 ⟨r, hm, rfl⟩)).2, ?_⟩
  unfold addL at hm
  split at hm
  · exact (hg r hm).2.2
  · unfold addN at hm
    have hq : SmP (leftN L p) := SmP.foldl hg hp
    rcases List.mem_append.1 hm with hm | hm
    · obtain ⟨s, hs, rfl⟩ := List.mem_map.1 hm
      unfold addStep; split
      · exact (hg s hs).2.2.xr hq.2
      · exact (hg s hs).2.2
    · rw [List.mem_singleton.1 hm]; exact hq.2
theorem addL_length_le (L : List (Nat × Nat)) (p : Nat × Nat) : (addL L p).length ≤ L.length + 1 := by
  unfold addL addN; split <;> simp

/-- spans of a list of rows -/
def spanL (ps : List (Nat × Nat)) : List (Nat × Nat) := ps.foldl addL []
theorem spanL_perm (ps : List (Nat × Nat)) (h : ∀ p ∈ ps, SmP p) : (r1 (spanL ps)).Perm (reduceS (r1 ps)) ∧ Red (r1 (spanL ps)) ∧ Good (spanL ps) := by
  unfold spanL reduceS
  have : ∀ (ps L : List (Nat × Nat)) (S : List Nat), (r1 L).Perm S → Red (r1 L) → Good L → (∀ p ∈ ps, SmP p) → (r1 (ps.foldl addL L)).Perm ((r1 ps).foldl putS S) ∧ Red (r1 (ps.foldl addL L)) ∧ Good (ps.foldl addL L) := by
    intro ps
    induction ps with
    | nil => intro L S h1 h2 h3 _; exact ⟨h1, h2, h3⟩
    | cons p ps ih =>
      intro L S h1 h2 h3 h
      have hp := h p (List.mem_cons_self ..)
      exact ih _ _ (addL_perm h1 h2 p) (addL_red h2 hp.1) (addL_good h2 h3 hp) (fun q hq => h q (List.mem_cons_of_mem _ hq))
  exact this ps [] [] (List.Perm.refl _) Red.nil (by intro r hr; cases hr) h
theorem spanL_length_le (ps : List (Nat × Nat)) : (spanL ps).length ≤ ps.length := by
  unfold spanL
  have : ∀ (ps L : List (Nat × Nat)), (ps.foldl addL L).length ≤ L.length + ps.length := by
    intro ps
    induction ps with
    | nil => intro L; simp
    | cons p ps ih => intro L; have h1 := ih (addL L p); have h2 := addL_length_le L p; simp only [List.foldl_cons, List.length_cons]; omega
  simpa using this ps []
theorem spanL_take_succ (ps : List (Nat × Nat)) (k : Nat) (h : k < ps.length) : spanL (ps.take (k + 1)) = addL (spanL (ps.take k)) (ps.getD k (0, 0)) := fold_take_succ _ _ _ _ _ h

/-- What the two contracts of 'add' say together. -/
def AddRes (L : List (Nat × Nat)) (p : Nat × Nat) : Value := .tuple #[.int .i64 (if (leftN L p).1 = 0 then (leftN L p).2 else 0 : Nat), .bool (decide ((leftN L p).1 ≠ 0))]
theorem add_any (B bs : Nat) (v1 v2 : Value) (L : List (Nat × Nat)) (x y : Nat) (w : World) (hT : Tab w) (hB : 0 < B) (hBw : B ≤ w.heap.size) (hs : SpanAt w B bs v1 v2 L) (hsmall : L.length ≤ 1000000)
    (hx : Sm x) (hy : Sm y) (hg : Good L) :
    Calls Tryd.prog 77 #[.pointer (some ⟨bs, 0, none⟩), .int .i64 x, .int .i64 y] w fun e w' => e = .returned (AddRes L (x, y)) ∧ AddPost w B bs v1 v2 (addL L (x, y)) w' := by
  by_cases h0 : (leftN L (x, y)).1 = 0
  · refine (add_no B bs v1 v2 L x y w hT hs hsmall hx hy hg h0).mono ?_
    rintro e w' ⟨rfl, m, rfl⟩
    refine ⟨by simp [AddRes, h0], Keeps.ofDrewN w m, v1, v2, ?_, .inl rfl, .inl rfl⟩
    unfold addL; rw [if_pos h0]
    exact hs.keeps (Keeps.ofDrewN (S := []) w m) (by simp) (.inr (by simp)) (.inr (by simp))
  · refine (add_yes B bs v1 v2 L x y w hT hB hBw hs hsmall hx hy hg h0).mono ?_
    rintro e w' ⟨rfl, h⟩
    refine ⟨by simp [AddRes, h0], ?_⟩
    unfold addL; rw [if_neg h0]; exact h

theorem AddPost.below {w w' : World} {B bs : Nat} {v1 v2 : Value} {L N : List (Nat × Nat)} (h : AddPost w B bs v1 v2 N w') (hs : SpanAt w B bs v1 v2 L) (hBw : B ≤ w.heap.size) : Below B w w' :=
  h.1.to_below hBw (fun j hj => by
    simp only [List.mem_cons, List.not_mem_nil, or_false] at hj
    rcases hj with hj | hj | hj
    · injection hj with hj; rw [hj]; exact hs.lo
    · exact (hs.own1.lt j hj.symm).1
    · exact (hs.own2.lt j hj.symm).1)

theorem Tab.below {B : Nat} {w w' : World} (h : Tab w) (hb : Below B w w') (hB : 0 < B) : Tab w' := fun j hj => (hb.cell (p := ⟨0, j, none⟩) hB).trans (h j hj)
theorem SpanAt.new (w : World) : SpanAt (w.alloc (.cells #[.slice none 0 0, .slice none 0 0] 68)) w.heap.size w.heap.size (.slice none 0 0) (.slice none 0 0) [] :=
  ⟨heap_alloc_new w _, Nat.le_refl _, World.ownsRow_nil _ _ _ _, World.ownsRow_nil _ _ _ _, .inl rfl⟩

def zs (rows : List Nat) : List (Nat × Nat) := rows.map fun r => (r, 0)
theorem r1_zs (rows : List Nat) : r1 (zs rows) = rows := by simp [r1, zs, List.map_map, Function.comp_def]
theorem zs_length (rows : List Nat) : (zs rows).length = rows.length := by simp [zs]

set_option maxHeartbeats 1000000 in
theorem spanOf_any (A : Option Addr) (n c : Nat) (rows : List Nat) (w : World) (hT : Tab w) (hw : 0 < w.heap.size) (hn : n = rows.length) (hsmall : n ≤ 1000000) (hS : ∀ r ∈ rows, Sm r) (hR : Rd w A (nv rows)) :
    Calls Tryd.prog 71 #[.slice A n c] w fun e w' => e = .returned (.pointer (some ⟨w.heap.size, 0, none⟩)) ∧ (∃ v1 v2, SpanAt w' w.heap.size w.heap.size v1 v2 (spanL (zs rows))) ∧ Below w.heap.size w w' := by
  have Hn := Lib.hid hn
  have HR := Lib.hid hR
  have HS := Lib.hid hS
  have HT := Lib.hid hT
  have hsp := SpanAt.new w
  have HSP := Lib.hid hsp
  clear hn hR hS hT hsp
  go_enter Tryd.func71, Tryd.ntmps71
  go_wp2_with fail
  go_loopw [10] (fun i wr => ∃ k : Nat, k ≤ n ∧ i = .int .i64 k ∧ (∃ v1 v2, SpanAt wr w.heap.size w.heap.size v1 v2 (spanL (zs (rows.take k)))) ∧ Below w.heap.size w wr) (fun i _ => n - (intOf i).toNat)
  case atStart => exact ⟨0, by omega, rfl, ⟨_, _, HSP.out⟩, (Below.refl _ _).alloc (Nat.le_refl _) _⟩
  case round =>
    obtain ⟨k, hk, rfl, ⟨v1, v2, hsp⟩, hbel⟩ := hrel
    have hsz : w.heap.size ≤ wr.heap.size := hbel.size
    by_cases hlt : k < n
    · have hkL : k < rows.length := by rw [← Hn.out]; exact hlt
      obtain ⟨b, o, rfl, hc⟩ := (HR.out.below hbel).atN hkL
      have hm : rows.getD k 0 ∈ rows := by simp [List.getD, hkL]
      have g1 := HS.out _ hm
      have e1 : zs (rows.take (k + 1)) = (zs rows).take (k + 1) := by simp [zs, List.map_take]
      have e2 : zs (rows.take k) = (zs rows).take k := by simp [zs, List.map_take]
      have e3 : (zs rows).getD k (0, 0) = (rows.getD k 0, 0) := by simp [zs, List.getD, hkL]
      have Hs : Hid (spanL (zs (rows.take (k + 1))) = addL (spanL (zs (rows.take k))) (rows.getD k 0, 0)) := by
        show _ = _; rw [e1, e2, spanL_take_succ (zs rows) k (by rw [zs_length]; exact hkL), e3]
      have hl := spanL_length_le (zs (rows.take k))
      rw [zs_length, List.length_take] at hl
      have hgd := (spanL_perm (zs (rows.take k)) (fun p hp => by
        obtain ⟨r, hr, rfl⟩ := List.mem_map.1 hp; exact ⟨HS.out r (List.mem_of_mem_take hr), Sm.zero⟩)).2.2
      generalize spanL (zs (rows.take k)) = L at *
      generalize rows.getD k 0 = r at *
      have hp := add_any w.heap.size w.heap.size v1 v2 L r 0 wr (HT.out.below hbel hw) hw hsz hsp (by omega) g1 Sm.zero hgd
      have HP := Lib.hid hp
      have HB := Lib.hid hbel
      have HSQ := Lib.hid hsp
      clear hp hsp hbel hm hgd e1 e2 e3 hl
      go_wp2_with (go_at_call 77; refine HP.out.mono ?_; rintro e w1 ⟨rfl, hpost⟩)
      have HPO := Lib.hid hpost
      clear hpost
      go_roundw
      case rel =>
        obtain ⟨_, u1, u2, hs2, _, _⟩ := HPO.out
        exact ⟨k + 1, by omega, by go_num, ⟨u1, u2, by rw [Hs.out]; exact hs2⟩, HB.out.trans (HPO.out.below HSQ.out hsz)⟩
      case measure => simp [intOf]; omega
    · have ek : rows.take k = rows := List.take_of_length_le (by rw [← Hn.out]; omega)
      rw [ek] at hsp
      have HS' := Lib.hid hsp
      have HB := Lib.hid hbel
      clear hsp hbel
      go_wp2_with fail
      go_ret
      exact ⟨rfl, ⟨v1, v2, HS'.out⟩, HB.out⟩
end Go.Proofs.YtchmplpgamekjaaDoor
