/- the reference's l02Reduce, RankOf -/
import Derived.Test.YtchmplpgamekjaaDoorH
import Derived.Test.YtchmplpgamekjaaDoorF
namespace Go.Proofs.YtchmplpgamekjaaDoor
open Go.RowKit

theorem reduceS_length_le (rows : List Nat) : (reduceS rows).length ≤ rows.length := by
  unfold reduceS
  have : ∀ (rows S : List Nat), (rows.foldl putS S).length ≤ S.length + rows.length := by
    intro rows
    induction rows with
    | nil => intro S; simp
    | cons r rows ih => intro S; have h1 := ih (putS S r); have h2 := putS_length_le S r; simp only [List.foldl_cons, List.length_cons]; omega
  simpa using this rows []
theorem reduceS_take_succ (rows : List Nat) (k : Nat) (h : k < rows.length) : reduceS (rows.take (k + 1)) = putS (reduceS (rows.take k)) (rows.getD k 0) := fold_take_succ _ _ _ _ 0 h

set_option maxHeartbeats 1000000 in
theorem reduce_any (A : Option Addr) (n c : Nat) (rows : List Nat) (w : World) (hn : n = rows.length) (hsmall : n ≤ 1000000) (hS : ∀ r ∈ rows, Sm r) (hR : Rd w A (nv rows)) :
    Calls Tryd.prog 69 #[.slice A n c] w fun e w' => ∃ v', e = .returned v' ∧ w'.ownsRow w.heap.size 2 1 v' (reduceS rows).length (nv (reduceS rows)) ∧ Below w.heap.size w w' := by
  have Hn := Lib.hid hn
  have HR := Lib.hid hR
  have HS := Lib.hid hS
  clear hn hR hS
  go_enter Tryd.func69, Tryd.ntmps69
  go_wp2_with fail
  go_loopw [3, 4] (fun o i wr => ∃ k : Nat, k ≤ n ∧ i = .int .i64 k ∧ wr.ownsRow w.heap.size 2 1 o (reduceS (rows.take k)).length (nv (reduceS (rows.take k))) ∧ Below w.heap.size w wr) (fun _ i _ => n - (intOf i).toNat)
  case atStart => exact ⟨0, by omega, rfl, World.ownsRow_made w #[] 0 (Nat.le_refl _) (by decide) (by simp), (Below.refl _ _).alloc (Nat.le_refl _) _⟩
  case round =>
    obtain ⟨k, hk, rfl, hown, hbel⟩ := hrel
    have hsz : w.heap.size ≤ wr.heap.size := hbel.size
    by_cases hlt : k < n
    · have hkL : k < rows.length := by rw [← Hn.out]; exact hlt
      obtain ⟨b, o, rfl, hc⟩ := (HR.out.below hbel).atN hkL
      have hm : rows.getD k 0 ∈ rows := by simp [List.getD, hkL]
      have g1 := HS.out _ hm
      have Hs := Lib.hid (reduceS_take_succ rows k hkL)
      have hl := reduceS_length_le (rows.take k)
      rw [List.length_take] at hl
      have hred := red_reduce (rows := rows.take k) (fun r hr => HS.out r (List.mem_of_mem_take hr))
      generalize reduceS (rows.take k) = T at *
      generalize rows.getD k 0 = r at *
      have hp := put_any w.heap.size _ T r wr hsz hown (by omega) g1 hred
      have HP := Lib.hid hp
      have HB := Lib.hid hbel
      clear hp hown hbel hred hm
      go_wp2_with (go_at_call 80; refine HP.out.mono ?_; rintro e w1 ⟨v1, rfl, hown1, hb1, _⟩)
      go_roundw
      case rel => exact ⟨k + 1, by omega, by go_num, by rw [Hs.out]; exact hown1, HB.out.trans (hb1.mono hsz)⟩
      case measure => simp [intOf]; omega
    · have ek : rows.take k = rows := List.take_of_length_le (by rw [← Hn.out]; omega)
      rw [ek] at hown
      have HO := Lib.hid hown
      have HB := Lib.hid hbel
      clear hown hbel
      go_wp2_with fail
      go_ret
      exact ⟨_, rfl, HO.out, HB.out⟩

/-- the numbers of a list of masks -/
def toN (xs : List Int) : List Nat := xs.map Int.toNat
theorem iv_toN {xs : List Int} (h : ∀ x ∈ xs, 0 ≤ x) : iv xs = nv (toN xs) := by
  unfold iv nv toN
  rw [List.map_map]
  apply List.map_congr_left
  intro x hx
  simp [Int.toNat_of_nonneg (h x hx)]
theorem isMat_nonneg {c : Int} {xs : List Int} (h : isMat c xs = true) : ∀ x ∈ xs, 0 ≤ x ∧ Sm x.toNat := by
  intro x hx
  unfold isMat at h
  simp only [Bool.and_eq_true, List.all_eq_true] at h
  obtain ⟨hc0, hc1⟩ := inB_true h.1
  have hm := inB_true (h.2.2 x hx)
  have hp := pow60 (d := c.toNat) (by omega)
  unfold Sm
  omega
theorem isMat_len {c : Int} {xs : List Int} (h : isMat c xs = true) : xs.length ≤ 200 := by
  unfold isMat at h
  simp only [Bool.and_eq_true, decide_eq_true_eq] at h
  exact h.2.1

/-- What RankOf answers. -/
def rankOf (c : Int) (xs : List Int) : Int × Int := if isMat c xs then ((reduceS (toN xs)).length, 0) else (0, 1)

set_option maxHeartbeats 1000000 in
theorem specRank_any (c : Int) (A : Option Addr) (n cap : Nat) (xs : List Int) (w : World) (hn : n = xs.length) (hsm : n ≤ 1099511627776) (hR : Rd w A (iv xs)) :
    Calls Tryd.prog 16 #[.agg #[.int .i64 c, .slice A n cap]] w fun e w' => e = .returned (.tuple #[.int .i64 (rankOf c xs).1, .int .i64 (rankOf c xs).2]) ∧ Below w.heap.size w w' := by
  have hb := box2 w (.int .i64 c) (.slice A n cap) 28
  have hR1 := hR.alloc (.cells #[.int .i64 c, .slice A n cap] 28)
  have his := l02Is_any c A n cap xs _ hn hsm hR1
  cases hi : isMat c xs with
  | false =>
    rw [hi] at his
    have e : rankOf c xs = (0, 1) := by simp [rankOf, hi]
    have HI := Lib.hid his
    have HE := Lib.hid e
    clear his e hR hR1 hb hn hi
    go_enter Tryd.func16, Tryd.ntmps16
    go_wp2_with (go_at_call 68; refine HI.out.mono ?_; rintro e w1 ⟨rfl, hb1⟩)
    go_ret2
    exact ⟨by rw [HE.out]; rfl, ((Below.refl _ _).alloc (Nat.le_refl _) _).trans (hb1.mono (by simp))⟩
  | true =>
    rw [hi] at his
    have e : rankOf c xs = (((reduceS (toN xs)).length : Int), 0) := by simp [rankOf, hi]
    have hnn := isMat_nonneg hi
    have hlen := isMat_len hi
    rw [iv_toN (fun x hx => (hnn x hx).1)] at hR1
    have hS : ∀ r ∈ toN xs, Sm r := by
      intro r hr; obtain ⟨x, hx, rfl⟩ := List.mem_map.1 hr; exact (hnn x hx).2
    have HI := Lib.hid his
    have HE := Lib.hid e
    have HR := Lib.hid hR1
    have Hn := Lib.hid hn
    have HS := Lib.hid hS
    obtain ⟨b0, b1⟩ := hb
    clear his e hR hR1 hn hi hnn hS
    go_enter Tryd.func16, Tryd.ntmps16
    go_wp2_with fail
    refine HI.out.mono ?_
    rintro e w1 ⟨rfl, hb1⟩
    have d1 : w1.cell? ⟨w.heap.size, 1, none⟩ = some (.slice A n cap) := (hb1.cell (p := ⟨w.heap.size, 1, none⟩) (by simp)).trans b1
    have hr := reduce_any A n cap (toN xs) w1 (by rw [Hn.out]; simp [toN]) (by rw [Hn.out]; omega) HS.out (HR.out.below hb1)
    have HRD := Lib.hid hr
    have HB := Lib.hid hb1
    clear hr hb1
    go_wp2_with fail
    refine HRD.out.mono ?_
    rintro e w2 ⟨v2, rfl, hown2, hb2⟩
    obtain ⟨A2, c2, rfl, _, _, _⟩ := owns_shape hown2
    have HB2 := Lib.hid hb2
    clear hb2 hown2
    go_wp2_with fail
    go_ret2
    refine ⟨by rw [HE.out]; rfl, ((Below.refl _ _).alloc (Nat.le_refl _) _).trans ((HB.out.mono (by simp)).trans (HB2.out.mono ?_))⟩
    have := HB.out.size; simp at this; omega
end Go.Proofs.YtchmplpgamekjaaDoor
