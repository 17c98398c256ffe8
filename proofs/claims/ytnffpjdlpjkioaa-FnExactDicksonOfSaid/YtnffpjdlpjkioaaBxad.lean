/- poly.terms: the codes as rows, sorted · codes and monomials; told · the laws' helpers at polynomials · told: a polynomial of the call's own, if it has not too many terms · TopElement: what it answers (no program in sight) · plain: products of Milnor's basis elements, by tables; those of a square in front · apart, sum: both sides · the program's tables: what they hold; the closure that reads a place · the program's tables: their memory · the reference's TopElement · the program's TopElement · drawn regions whose last operation stores into a cell that they load: the loads are taken first all the same · the program's tables: finish · the program's tables: fill · the program's product of two basis elements · the program's lists of lists: copies, equality, oddOnes, sums, products · the program's oddOnes · the program's sums and products of elements; the element of a word -/
import Derived.Test.YtnffpjdlpjkioaaBxac
import Derived.Test.YtnffpjdlpjkioaaBxab
import Derived.Test.YtnffpjdlpjkioaaBxaa
import Derived.OrdersHeld
import Derived.StillTail
import Derived.Deep.RegionHeld3
import Derived.Deep.DeepCutAuto
import Derived.Deep.QuietTactic
import Derived.BigQuiet
import Derived.Deep.CutBlock
set_option linter.all false
namespace Go.Proofs.Ytnffpjdlpjkioaa
open Go.RowKit Go.Maps Go.ChangeMaps Go.MapKept

attribute [local go_sem] i64_and63 in
set_option maxRecDepth 100000 in
set_option maxHeartbeats 4000000 in
theorem terms_any (b1 k : Nat) (C : List Int) (w : World) (hC : PolyC w b1 C) (hCB : CB C) (hk : k ≤ 4) :
    Calls Try.prog 59 #[.map (some b1), .int .i64 k] w fun e w' => ∃ v S, e = .returned v ∧ OwnR w' w.heap.size v S ∧ (dat S).Perm (C.map (decI k)) ∧ Srt S ∧ Below w.heap.size w w' := by
  have hCl0 := cb_len hC.nodup hCB
  have hCl : C.length < 1099511627770 := by omega
  clear hCl0
  have hbl := hC.lt
  have HCB := Lib.hid hCB
  clear hCB
  have e1 : (w.alloc (.cells #[] 30)).heap.size = w.heap.size + 1 := by simp
  go_enter Try.func59, Try.ntmps59
  go_wp2_with (first | (at_range; refine wpList_range_poly _ rfl _ rfl b1 C rfl (hC.alloc _) ?_; intro w0 hr0 hb0 hs0) | go_in)
  go_frame
  rw [e1] at hr0 hs0 ⊢
  go_loopw [5] (fun v wr => ∃ done rs R g1 c1, (done ++ rs).Perm C ∧ RangeC wr b1 (w.heap.size + 1) C rs ∧ v = .slice (some ⟨g1, 0, none⟩) R.length c1 ∧ dat R = done.map (decI k) ∧ OwnR wr w.heap.size (.slice (some ⟨g1, 0, none⟩) R.length c1) R ∧ Below w.heap.size w wr) (fun _ wr => wr.rangeLeft b1 (w.heap.size + 1))
  case atStart =>
    have hB : Below w.heap.size w w0 := ((Below.refl _ _).alloc (Nat.le_refl _) _).trans (hb0.mono (by simp))
    exact ⟨[], C, [], w.heap.size, 0, List.Perm.refl _, hr0, rfl, rfl, (OwnR.made w (Nat.le_refl _)).later hb0, hB⟩
  case round =>
    obtain ⟨done, rs, R, g1, c1, hp, hr, rfl, hdat, hown, hB⟩ := hrel
    have hdl := perm_len hp
    have hBs := hB.size
    have hRl : R.length = done.length := by rw [← dat_length, hdat, List.length_map]
    have HRl := Lib.hid hRl
    have hR24 : R.length < 1099511627776 := by omega
    clear hRl
    have HO := Lib.hid hown
    have HB := Lib.hid hB
    have HD := Lib.hid hdat
    clear hown hB hdat
    obtain ⟨wv, hwv⟩ : ∃ wv, wv = wr := ⟨_, rfl⟩
    subst hwv
    go_wp2_with (first | (at_next; refine wpList_next_poly _ rfl _ rfl b1 (w.heap.size + 1) C rs rfl hr ?_ ?_) | go_in)
    · rintro rfl
      have hln : ∀ r ∈ R, r.xs.length ≤ 1099511627776 := fun r hrr => by
        have h1 : r.xs ∈ dat R := List.mem_map.2 ⟨r, hrr, rfl⟩
        rw [HD.out] at h1
        obtain ⟨c, _, e⟩ := List.mem_map.1 h1
        rw [← e, decI, decN_length]
        omega
      have HS := Lib.hid (sortRows_any w.heap.size g1 c1 R wv HO.out.out (HO.out.sortable hln) (by omega))
      clear hln
      go_wp2_with fail
      refine HS.out.mono ?_
      rintro e w2 ⟨rfl, S, hpm, hst, ho2, hk2⟩
      have HO2 := Lib.hid (OwnR.perm HO.out hpm hk2 ho2)
      have HPM := Lib.hid hpm
      have hgb := (HO.out.out.lt g1 rfl).1
      go_wp2_with fail
      go_ret
      refine ⟨_, S, rfl, HO2.out, ?_, hst, HB.out.trans (hk2.to_below hBs (by simp; omega))⟩
      have h1 : (dat S).Perm (dat R) := HPM.out.map _
      rw [HD.out] at h1
      refine h1.trans (List.Perm.map _ ?_)
      simpa using hp
    · intro c w1 hc hi hr1 hlt hk1 hs1 hen
      have hcC := hp.mem_iff.1 (List.mem_append.2 (.inr hc))
      obtain ⟨hc0, hc1⟩ := HCB.out c hcC
      obtain ⟨n, rfl⟩ := Int.eq_ofNat_of_zero_le hc0
      have hSm : Sm n := by unfold Sm; omega
      clear hc0 hc1
      have HO1 := Lib.hid (HO.out.keeps hk1 (.inr fun hm => (hr.apart HO.out.out).2 (by simpa [eq_comm] using hm)) (fun i hii => .inr fun hm => (hr.apart (HO.out.inn i hii)).2 (by simpa [eq_comm] using hm)))
      have HB1 := Lib.hid (HB.out.trans (hk1.to_below hBs (by simp)))
      have hs1g : wv.heap.size ≤ w1.heap.size := by omega
      clear hs1
      go_wp2_with fail
      go_loopw [7, 18] (fun x i wr => ∃ j g cap : Nat, j ≤ k ∧ i = .int .i64 j ∧ x = .slice (some ⟨g, 0, none⟩) j cap ∧ wr.ownsRow w1.heap.size 2 1 (.slice (some ⟨g, 0, none⟩) j cap) j (iv ((decN k n).take j)) ∧ Below w1.heap.size w1 wr) (fun _ i _ => k - (intOf i).toNat)
      case atStart => exact ⟨0, w1.heap.size, 0, by omega, rfl, rfl, World.ownsRow_made w1 #[] 0 (Nat.le_refl _) (by decide) (by simp), (Below.refl _ _).alloc (Nat.le_refl _) _⟩
      case round =>
        obtain ⟨j, g, cap, hj, rfl, rfl, hw, hb⟩ := hrel
        have HW := Lib.hid hw
        have HBB := Lib.hid hb
        have hsz := hb.size
        clear hw hb
        have hj4 : j ≤ 4 := by omega
        by_cases hlt2 : j < k
        · have HTS := Lib.hid (decN_take (n := n) hlt2)
          generalize hz : dig n (6 * j) = z at *
          go_wp2_with (at_builtin; refine wpList_app1 _ _ _ _ _ etI (by rfl) (by rfl) w1.heap.size (.slice (some ⟨g, 0, none⟩) j cap) j (iv ((decN k n).take j)) (by rfl) (HW.out.alloc _) _ (.int .i64 (z : Int)) (by first | rfl | (show Value.int .i64 _ = _; rw [hz])) (new_cell _ _ _) (by rfl) (by omega) (Nat.le_trans hsz (Nat.le_of_lt (by simp))) ?_; (intro g2 cap2 w2 hown2 hgrow2 hat2 hlt3; have HO2 := Lib.hid hown2; have HB2 := Lib.hid (below_app2 HBB.out hsz HW.out hgrow2); clear hown2 hgrow2 hat2 hlt3))
          go_roundw
          case rel => exact ⟨j + 1, g2, cap2, by omega, by go_num, rfl, by rw [HTS.out, iv_append]; exact HO2.out, HB2.out⟩
          case measure => simp [intOf]; omega
        · obtain rfl : j = k := by omega
          have he : (decN j n).take j = decN j n := List.take_of_length_le (by rw [decN_length]; exact Nat.le_refl _)
          rw [he] at HW
          clear he
          go_wp2_with (at_builtin; refine wpList_app1 _ _ _ _ _ etS (by rfl) (by rfl) w.heap.size (.slice (some ⟨g1, 0, none⟩) R.length c1) R.length (hv R) (by rfl) ((HO1.out.later HBB.out).out.alloc _) _ (.slice (some ⟨g, 0, none⟩) j cap) (by rfl) (new_cell _ _ _) (by rfl) (by omega) (by simp; omega) ?_)
          intro g2 cap2 w3 hown3 hg3 hat3 hlt3
          have HQ := Lib.hid (OwnR.push HO1.out HBB.out HW.out (decN_length _ _).symm (by omega) hown3 hg3)
          have HQ2 := Lib.hid (below_appP (HB1.out.trans (HBB.out.mono (by omega))) (by omega) (HO1.out.later HBB.out).out hg3)
          have HK3 := Lib.hid (Keeps.of_grown hg3)
          clear hown3 hg3 hat3 hlt3
          go_wp2_with fail
          have hrb := hr1.keeps (Keeps.of_below HBB.out) (by simp) (by simp)
          have hlb := hr1.left_keeps (Keeps.of_below HBB.out) (by simp) (by simp)
          have hra := hrb.keeps ((Keeps.refl wr []).alloc (.cells #[.slice (some ⟨g, 0, none⟩) j cap] 30)) (by simp) (by simp)
          have hla := hrb.left_keeps ((Keeps.refl wr []).alloc (.cells #[.slice (some ⟨g, 0, none⟩) j cap] 30)) (by simp) (by simp)
          have hap := hra.apart ((HO1.out.later HBB.out).out.alloc _)
          have hr3 := hra.keeps HK3.out hap.1 hap.2
          have hl3 := hra.left_keeps HK3.out hap.1 hap.2
          go_roundw
          case rel =>
            refine ⟨done ++ [(n : Int)], rs.erase (n : Int), R ++ [⟨some ⟨g, 0, none⟩, cap, decN j n⟩], g2, cap2, perm_step hp hc, hr3, by rw [List.length_append]; rfl, ?_, by rw [List.length_append]; exact HQ.out, HQ2.out⟩
            rw [dat_append1, HD.out, List.map_append]
            rfl
          case measure => rw [hl3, hla, hlb]; exact hlt
end Go.Proofs.Ytnffpjdlpjkioaa

namespace Go.Proofs.Ytnffpjdlpjkioaa
open Go.RowKit Go.Maps Go.ChangeMaps Go.MapKept

/-- exponents that a code can hold -/
def Mon (k : Nat) (x : List Int) : Prop := x.length = k ∧ ∀ e ∈ x, 0 ≤ e ∧ e < 64
/-- the code of exponents -/
def cod : List Int → Int
  | [] => 0
  | e :: x => e + 64 * cod x
theorem cod_nonneg : ∀ {x : List Int}, (∀ e ∈ x, 0 ≤ e ∧ e < 64) → 0 ≤ cod x
  | [], _ => Int.le_refl _
  | e :: x, h => by
    have h1 := h e (List.mem_cons_self ..)
    have h2 := cod_nonneg fun e he => h e (List.mem_cons_of_mem _ he)
    unfold cod
    omega
theorem cod_lt : ∀ {x : List Int}, (∀ e ∈ x, 0 ≤ e ∧ e < 64) → cod x < 64 ^ x.length
  | [], _ => by simp [cod]
  | e :: x, h => by
    have h1 := h e (List.mem_cons_self ..)
    have h2 := cod_lt fun e he => h e (List.mem_cons_of_mem _ he)
    unfold cod
    rw [List.length_cons, Int.pow_succ]
    omega
theorem decN_cons (k n : Nat) : decN (k + 1) n = ((n % 64 : Nat) : Int) :: decN k (n / 64) := by
  unfold decN dig
  rw [List.range_succ_eq_map, List.map_cons, List.map_map]
  refine List.cons_eq_cons.2 ⟨by simp, List.map_congr_left fun i _ => ?_⟩
  show ((n / 2 ^ (6 * (i + 1)) % 64 : Nat) : Int) = ((n / 64 / 2 ^ (6 * i) % 64 : Nat) : Int)
  rw [Nat.div_div_eq_div_mul, show 6 * (i + 1) = 6 + 6 * i by omega, Nat.pow_add]
theorem dec_cod : ∀ {x : List Int}, (∀ e ∈ x, 0 ≤ e ∧ e < 64) → decN x.length (cod x).toNat = x
  | [], _ => rfl
  | e :: x, h => by
    have h1 := h e (List.mem_cons_self ..)
    have h2 := dec_cod fun e he => h e (List.mem_cons_of_mem _ he)
    have h3 := cod_nonneg fun e he => h e (List.mem_cons_of_mem _ he)
    rw [List.length_cons, decN_cons]
    have e1 : (cod (e :: x)).toNat % 64 = e.toNat := by show (e + 64 * cod x).toNat % 64 = e.toNat; omega
    have e2 : (cod (e :: x)).toNat / 64 = (cod x).toNat := by show (e + 64 * cod x).toNat / 64 = (cod x).toNat; omega
    rw [e1, e2, h2]
    congr 1
    omega
theorem decI_cod {k : Nat} {x : List Int} (h : Mon k x) : decI k (cod x) = x := by
  obtain ⟨rfl, h⟩ := h
  exact dec_cod h
theorem cod_cb {k : Nat} (hk : k ≤ 4) {M : LL} (h : ∀ x ∈ M, Mon k x) : CB (M.map cod) := fun c hc => by
  obtain ⟨x, hx, rfl⟩ := List.mem_map.1 hc
  obtain ⟨hl, hx⟩ := h x hx
  refine ⟨cod_nonneg hx, Int.lt_of_lt_of_le (cod_lt hx) ?_⟩
  rw [hl]
  have : (64 : Int) ^ k ≤ 64 ^ 4 := by exact_mod_cast Nat.pow_le_pow_right (n := 64) (by omega) hk
  exact Int.le_trans this (by decide)
theorem cod_inj {k : Nat} {x y : List Int} (hx : Mon k x) (hy : Mon k y) (h : cod x = cod y) : x = y := by rw [← decI_cod hx, ← decI_cod hy, h]
theorem count_cod {k : Nat} {z : List Int} (hz : Mon k z) : ∀ {M : LL}, (∀ x ∈ M, Mon k x) → (M.map cod).count (cod z) = M.count z
  | [], _ => rfl
  | x :: M, h => by
    have ih := count_cod hz (M := M) fun y hy => h y (List.mem_cons_of_mem _ hy)
    rw [List.map_cons, List.count_cons, List.count_cons, ih]
    congr 1
    by_cases e : x = z
    · subst e; simp
    · have : cod x ≠ cod z := fun h2 => e (cod_inj (h x (List.mem_cons_self ..)) hz h2)
      simp [e, this]
theorem as_srt {S : List Row} (h : Srt S) (hn : (dat S).Nodup) : As (dat S) := by
  unfold As dat
  unfold Srt at h
  rw [List.pairwise_map]
  unfold dat at hn
  rw [List.Nodup, List.pairwise_map] at hn
  refine (h.and hn).imp fun {a b} hab => ?_
  rcases lexLt_total a.xs b.xs with h1 | h1 | h1
  · exact h1
  · rw [hab.1] at h1; cases h1
  · exact absurd h1 hab.2
/-- the keys C as rows are the odd ones of M -/
theorem keys_mem {k : Nat} {M : LL} {C : List Int} (hM : ∀ x ∈ M, Mon k x) (hC : C.Nodup) (e : Eqv C (M.map cod)) : (C.map (decI k)).Nodup ∧ ∀ z, z ∈ C.map (decI k) ↔ z ∈ nf M := by
  have hc : ∀ c ∈ C, ∃ x, Mon k x ∧ x ∈ M ∧ cod x = c := fun c h => by
    obtain ⟨x, hx, e⟩ := List.mem_map.1 (eqv_mem hC e h)
    exact ⟨x, hM x hx, hx, e⟩
  constructor
  · rw [List.Nodup, List.pairwise_map]
    refine List.Pairwise.imp_of_mem (fun {a b} ha hb hab h => hab ?_) hC
    obtain ⟨x, hx, _, rfl⟩ := hc a ha
    obtain ⟨y, hy, _, rfl⟩ := hc b hb
    rw [decI_cod hx, decI_cod hy] at h
    rw [h]
  · intro z
    rw [mem_nf, List.mem_map]
    constructor
    · rintro ⟨c, hcc, rfl⟩
      obtain ⟨x, hx, _, rfl⟩ := hc c hcc
      rw [decI_cod hx, ← count_cod hx hM, ← e, nodup_count hC, if_pos hcc]
    · intro hz
      have hzM : z ∈ M := List.count_pos_iff.1 (by omega)
      have hzk := hM z hzM
      refine ⟨cod z, ?_, decI_cod hzk⟩
      rw [← count_cod hzk hM, ← e, nodup_count hC] at hz
      by_cases h : cod z ∈ C
      · exact h
      · rw [if_neg h] at hz; cases hz
theorem as_nodup {Q : LL} (h : As Q) : Q.Nodup := h.imp fun {a b} hab => lexLt_ne hab
/-- the rows of the keys C, in order, are the odd ones of M -/
theorem terms_nf {k : Nat} {M : LL} {C : List Int} {S : List Row} (hM : ∀ x ∈ M, Mon k x) (hC : C.Nodup) (e : Eqv C (M.map cod)) (hp : (dat S).Perm (C.map (decI k))) (hs : Srt S) : dat S = nf M := by
  obtain ⟨h1, h2⟩ := keys_mem hM hC e
  exact as_unique (as_srt hs (hp.nodup_iff.2 h1)) (as_nf M) fun z => by rw [hp.mem_iff, h2]
theorem keys_nf {k : Nat} {M : LL} {C : List Int} (hM : ∀ x ∈ M, Mon k x) (hC : C.Nodup) (e : Eqv C (M.map cod)) : C.length = (nf M).length := by
  obtain ⟨h1, h2⟩ := keys_mem hM hC e
  have h3 := nodup_len h1 fun z hz => (h2 z).1 hz
  have h4 := nodup_len (as_nodup (as_nf M)) fun z hz => (h2 z).2 hz
  rw [List.length_map] at h3 h4
  omega

/-- what told answers for the odd ones of M: the variables, the terms, a code -/
def toldOf (k : Nat) (M : LL) : Int × LL × Int := if 2000 < (nf M).length then (0, [], 3) else (k, nf M, 0)
/-- a polynomial of the call's own and a code come back -/
def ResPoly (p : Int × LL × Int) (w : World) (e : Ending) (w' : World) : Prop :=
  ∃ v R, e = .returned (.tuple #[.agg #[.int .i64 p.1, v], .int .i64 p.2.2]) ∧ OwnR w' w.heap.size v R ∧ dat R = p.2.1 ∧ Below w.heap.size w w'
end Go.Proofs.Ytnffpjdlpjkioaa

namespace Go.Proofs.Ytnffpjdlpjkioaa
open Go.RowKit

theorem rows_smallP {M : List Row} {r : LL} (hd : dat M = r) (h : r.length ≤ 2000 ∧ ∀ x ∈ r, x.length ≤ 4) : M.length ≤ 2000 ∧ tot M ≤ 8000 ∧ ∀ i, i < M.length → (rg M i).xs.length ≤ 4 := by
  subst hd
  have h1 : M.length ≤ 2000 := by rw [← dat_length]; exact h.1
  have h2 : ∀ i, i < M.length → (rg M i).xs.length ≤ 4 := fun i hi => h.2 _ (List.mem_map_of_mem (rg_mem hi))
  exact ⟨h1, Nat.le_trans (tot_le h2) (by omega), h2⟩

set_option maxHeartbeats 1000000 in
theorem szPoly_any (a : Int) (A : Option Addr) (n c : Nat) (L : List Row) (left : Int) (w : World) (hn : n = L.length) (hsm : n ≤ 9223372036854775807) (hl : ∀ i, i < L.length → (rg L i).xs.length ≤ 9223372036854775807) (h0 : 0 ≤ left) (h1 : left ≤ 1048576) (hR : RdR w A L) :
    Calls Try.prog 20 #[.agg #[.int .i64 a, .slice A n c], .int .i64 left] w fun e w' => ∃ z : Int, e = .returned (.int .i64 z) ∧ SzOk n (tot L) left z ∧ Below w.heap.size w w' := by
  have hb := box2 w (.int .i64 a) (.slice A n c) 36
  obtain ⟨b0, b1⟩ := hb
  have HZ := Lib.hid (szRows_any A n c L left _ hn hsm hl h0 h1 (hR.alloc (.cells #[.int .i64 a, .slice A n c] 36)))
  clear hR hl hn
  go_enter Try.func20, Try.ntmps20
  go_wp2_with fail
  refine HZ.out.mono ?_
  rintro e w' ⟨z, rfl, hz, rfl⟩
  rcases hz with rfl | ⟨hz0, hz1⟩
  · go_wp2_with fail
    go_ret
    exact ⟨-1, rfl, .inl rfl, (Below.refl _ _).alloc (Nat.le_refl _) _⟩
  · go_wp2_with fail
    go_ret
    exact ⟨z, rfl, .inr ⟨hz0, by omega⟩, (Below.refl _ _).alloc (Nat.le_refl _) _⟩

set_option maxRecDepth 100000 in
set_option maxHeartbeats 2000000 in
theorem toPoly_any (a : Int) (A : Option Addr) (n c : Nat) (L : List Row) (w : World) (hn : n = L.length) (hsm : n ≤ 1048576) (hl : ∀ i, i < L.length → (rg L i).xs.length ≤ 1048576) (hR : RdR w A L) :
    Calls Try.prog 22 #[.agg #[.int .i64 a, .slice A n c]] w fun e w' => ∃ g M, e = .returned (.agg #[.int .i64 a, .slice (some ⟨g, 0, none⟩) n n]) ∧ dat M = dat L ∧ OwnR w' w.heap.size (.slice (some ⟨g, 0, none⟩) n n) M ∧ Below w.heap.size w w' := by
  have hk1 := blk_alloc (blk_alloc (blk_new w (.cells #[.int .i64 a, .slice A n c] 36)) (.cells #[.int .i64 0, .slice none 0 0] 24)) (.cells #[.int .i64 0, .slice none 0 0] 24)
  have hk2 := blk_alloc (blk_new1 w (.cells #[.int .i64 a, .slice A n c] 36) (.cells #[.int .i64 0, .slice none 0 0] 24)) (.cells #[.int .i64 0, .slice none 0 0] 24)
  have hk3 := blk_new2 w (.cells #[.int .i64 a, .slice A n c] 36) (.cells #[.int .i64 0, .slice none 0 0] 24) (.cells #[.int .i64 a, .slice none 0 0] 24)
  have hbel : Below w.heap.size w (((w.alloc (.cells #[.int .i64 a, .slice A n c] 36)).alloc (.cells #[.int .i64 0, .slice none 0 0] 24)).alloc (.cells #[.int .i64 a, .slice none 0 0] 24)) := (((Below.refl _ _).alloc (Nat.le_refl _) _).alloc (by simp) _).alloc (by simp; omega) _
  have HK1 := Lib.hid (blk_alloc (blk_alloc (blk_new w (.cells #[.int .i64 a, .slice A n c] 36)) (.cells #[.int .i64 0, .slice none 0 0] 24)) (.cells #[.int .i64 a, .slice none 0 0] 24))
  have HK2 := Lib.hid (blk_alloc (blk_new1 w (.cells #[.int .i64 a, .slice A n c] 36) (.cells #[.int .i64 0, .slice none 0 0] 24)) (.cells #[.int .i64 a, .slice none 0 0] 24))
  have HK3 := Lib.hid hk3
  have HB := Lib.hid hbel
  have HC2 := Lib.hid (fun W (hb : Below w.heap.size w W) => toRows_any A n c L W hn hsm hl (hR.below hb))
  have HN := Lib.hid hn
  obtain ⟨x0, x1, xf0, xf1, lx⟩ := blk2cells hk1
  obtain ⟨y0, y1, yf0, yf1, ly⟩ := blk2cells hk2
  clear hk1 hk2 hk3 hbel hR hn hl
  go_enter Try.func22, Try.ntmps22
  go_wp2_with fail
  refine (HC2.out _ HB.out).mono ?_
  clear x0 x1 xf0 xf1 lx y0 y1 yf0 yf1 ly HC2
  rintro e w2 ⟨g', M, rfl, hd, ho, hb⟩
  have HK1c := Lib.hid (blk_kept HK1.out hb)
  have HK2c := Lib.hid (blk_kept HK2.out hb)
  have HK3c := Lib.hid (blk_kept HK3.out hb)
  obtain ⟨x0, x1, xf0, xf1, lx⟩ := blk2cells HK1c.out
  obtain ⟨y0, y1, yf0, yf1, ly⟩ := blk2cells HK2c.out
  obtain ⟨z0, z1, zf0, zf1, lz⟩ := blk2cells HK3c.out
  have HD := Lib.hid hd
  have HB3 := Lib.hid (HB.out.trans (hb.mono HB.out.size))
  have HOR := Lib.hid (ho.mono HB.out.size)
  clear ho hb hd
  go_wp2_with fail
  have k : Keeps w2 (((w2.setCell ⟨w.heap.size + 1 + 1, 1, none⟩ (.slice (some ⟨g', 0, none⟩) n n)).setCell ⟨w.heap.size + 1, 0, none⟩ (.int .i64 a)).setCell ⟨w.heap.size + 1, 1, none⟩ (.slice (some ⟨g', 0, none⟩) n n)) [some (w.heap.size + 1), some (w.heap.size + 1 + 1)] :=
    (((Keeps.refl w2 [some (w.heap.size + 1), some (w.heap.size + 1 + 1)]).setCell (p := ⟨w.heap.size + 1 + 1, 1, none⟩) (by simp) _).setCell (p := ⟨w.heap.size + 1, 0, none⟩) (by simp) _).setCell (p := ⟨w.heap.size + 1, 1, none⟩) (by simp) _
  refine bodyPost_ret (v := .agg #[.int .i64 a, .slice (some ⟨g', 0, none⟩) n n]) ?_ rfl ⟨g', M, rfl, HD.out, ?_, ?_⟩
  · simp [results, Try.results22, go_sem, y0, y1]
  · refine HOR.out.keeps k (.inr ?_) (fun i hi => .inr ?_)
    · have h1 := own_ne_blk HOR.out.out HK2c.out (by decide); have h2 := own_ne_blk HOR.out.out HK3c.out (by decide)
      simp only [List.mem_cons, List.not_mem_nil, or_false, not_or]; exact ⟨h1, h2⟩
    · have h1 := own_ne_blk (HOR.out.inn i hi) HK2c.out (by decide); have h2 := own_ne_blk (HOR.out.inn i hi) HK3c.out (by decide)
      simp only [List.mem_cons, List.not_mem_nil, or_false, not_or]; exact ⟨h1, h2⟩
  · exact ((HB3.out.setCell (p := ⟨w.heap.size + 1 + 1, 1, none⟩) (by simp; omega) _).setCell (p := ⟨w.heap.size + 1, 0, none⟩) (by simp) _).setCell (p := ⟨w.heap.size + 1, 1, none⟩) (by simp) _

set_option maxHeartbeats 1000000 in
theorem eqPoly_any (a : Int) (A A' : Option Addr) (n n' c c' : Nat) (L M : List Row) (w : World) (hn : n = L.length) (hn' : n' = M.length) (hsm : n ≤ 1099511627776) (hl : ∀ i, i < L.length → (rg L i).xs.length ≤ 1099511627776) (hd : dat M = dat L) (hR : RdR w A L) (hR' : RdR w A' M) :
    Calls Try.prog 12 #[.agg #[.int .i64 a, .slice A n c], .agg #[.int .i64 a, .slice A' n' c']] w fun e w' => e = .returned (.bool true) ∧ Below w.heap.size w w' := by
  have hk1 := blk_alloc (blk_new w (.cells #[.int .i64 a, .slice A n c] 24)) (.cells #[.int .i64 a, .slice A' n' c'] 24)
  have hk2 := blk_new1 w (.cells #[.int .i64 a, .slice A n c] 24) (.cells #[.int .i64 a, .slice A' n' c'] 24)
  have hbel : Below w.heap.size w ((w.alloc (.cells #[.int .i64 a, .slice A n c] 24)).alloc (.cells #[.int .i64 a, .slice A' n' c'] 24)) := ((Below.refl _ _).alloc (Nat.le_refl _) _).alloc (by simp) _
  obtain ⟨x0, x1, xf0, xf1, lx⟩ := blk2cells hk1
  obtain ⟨y0, y1, yf0, yf1, ly⟩ := blk2cells hk2
  have HC := Lib.hid (eqRowsB_any A A' n n' c c' L M _ hn hn' hsm hl hd (hR.below hbel) (hR'.below hbel))
  have HB := Lib.hid hbel
  clear hk1 hk2 hbel hn hn' hl hd hR hR'
  go_enter Try.func12, Try.ntmps12
  go_wp2_with fail
  refine HC.out.mono ?_
  rintro e w1 ⟨rfl, hb⟩
  have HB1 := Lib.hid (HB.out.trans (hb.mono HB.out.size))
  clear hb
  go_wp2_with fail
  go_ret
  exact ⟨rfl, HB1.out⟩

set_option maxHeartbeats 1000000 in
theorem markPoly_any (a : Int) (B hi : Nat) (v : Value) (L : List Row) (k0 : Int) (w : World) (hown : OwnR w B v L) (hsm : L.length ≤ 1048576) (ht : tot L ≤ 1048576) (h0 : 0 ≤ k0) (h1 : k0 ≤ 1000000000000)
    (hhi : ∀ i, i < L.length → ∀ k, (rg L i).val.ownBlock = some k → k < hi) :
    Calls Try.prog 13 #[.agg #[.int .i64 a, v], .int .i64 k0] w fun e w' => e = .returned (.int .i64 (k0 + tot L)) ∧ OwnR w' B v (marksR k0 L) ∧ Within B hi w w' := by
  obtain ⟨A, c, rfl, _, _, _⟩ := owns_shape hown.out
  obtain ⟨b0, b1⟩ := box2 w (.int .i64 a) (.slice A L.length c) 24
  have HC := Lib.hid (markRows_any B hi _ L k0 (w.alloc (.cells #[.int .i64 a, .slice A L.length c] 24)) (hown.later ((Below.refl _ _).alloc (Nat.le_refl _) _)) hsm ht h0 h1 hhi)
  clear hown
  go_enter Try.func13, Try.ntmps13
  go_wp2_with fail
  refine HC.out.mono ?_
  rintro e w1 ⟨rfl, ho, hw⟩
  have HO := Lib.hid ho
  have HW := Lib.hid ((Within.of_below (lo := B) (hi := hi) ((Below.refl w.heap.size w).alloc (Nat.le_refl _) (.cells #[.int .i64 a, .slice A L.length c] 24))).trans hw)
  clear ho hw
  go_wp2_with fail
  go_ret
  exact ⟨rfl, HO.out, HW.out⟩

set_option maxHeartbeats 1000000 in
theorem heldPoly_any (a : Int) (A : Option Addr) (n c : Nat) (L : List Row) (k0 : Int) (w : World) (hn : n = L.length) (hR : RdR w A (marksR k0 L)) (hsm : n ≤ 1048576) (ht : tot L ≤ 1048576) (h0 : 0 ≤ k0) (h1 : k0 ≤ 1000000000000) :
    Calls Try.prog 14 #[.agg #[.int .i64 a, .slice A n c], .int .i64 k0] w fun e w' => e = .returned (.int .i64 (k0 + tot L)) ∧ Below w.heap.size w w' := by
  obtain ⟨b0, b1⟩ := box2 w (.int .i64 a) (.slice A n c) 24
  have HC := Lib.hid (heldRows_any A n c L k0 (w.alloc (.cells #[.int .i64 a, .slice A n c] 24)) hn (hR.alloc _) hsm ht h0 h1)
  have hk : ¬ (k0 + (tot L : Int) < 0) := by omega
  clear hR hn
  go_enter Try.func14, Try.ntmps14
  go_wp2_with fail
  refine HC.out.mono ?_
  rintro e w' ⟨rfl, rfl⟩
  go_wp2_with fail
  go_ret
  exact ⟨rfl, (Below.refl _ _).alloc (Nat.le_refl _) _⟩
end Go.Proofs.Ytnffpjdlpjkioaa

namespace Go.Proofs.Ytnffpjdlpjkioaa
open Go.RowKit Go.Maps Go.ChangeMaps Go.MapKept

theorem own_neP {w : World} {B n g : Nat} {e : TypeId} {v : Value} {xs : List Value} {cs : Array Value} {t : TypeId} {f : Nat × Nat} (h : w.ownsRow B e 1 v n xs) (hb : w.heap[g]? = some (.cells cs t f)) (hne : e ≠ t) : v.ownBlock ≠ some g := by
  rcases h.2 with ⟨rfl, _⟩ | ⟨g', cap, cur, rfl, _, hg, _⟩
  · simp [Value.ownBlock]
  · intro he
    have : g' = g := by simpa [Value.ownBlock] using he
    subst this
    rw [hb] at hg
    injection hg with hg
    injection hg with _ ht
    exact hne ht.symm
/-- cells of a box written: the rows stay -/
theorem OwnR.box2 {w : World} {B g : Nat} {v : Value} {L : List Row} {cs : Array Value} {t : TypeId} {f : Nat × Nat} (h : OwnR w B v L) (hb : w.heap[g]? = some (.cells cs t f)) (h1 : 30 ≠ t) (h2 : 2 ≠ t) (x y : Value) :
    OwnR ((w.setCell ⟨g, 0, none⟩ x).setCell ⟨g, 1, none⟩ y) B v L := by
  refine h.keeps (((Keeps.refl w [some g]).setCell (p := ⟨g, 0, none⟩) (by simp) _).setCell (p := ⟨g, 1, none⟩) (by simp) _) (.inr ?_) (fun i hi => .inr ?_)
  · simp only [List.mem_singleton]
    exact own_neP h.out hb h1
  · simp only [List.mem_singleton]
    exact own_neP (h.inn i hi) hb h2

set_option maxRecDepth 100000 in
set_option maxHeartbeats 1000000 in
theorem told_any (b1 k : Nat) (M : LL) (w : World) (h : PolyB w b1 (M.map cod)) (hM : ∀ x ∈ M, Mon k x) (hk : k ≤ 4) :
    Calls Try.prog 39 #[.int .i64 k, .map (some b1)] w (ResPoly (toldOf k M) w) := by
  obtain ⟨C, hC, hE⟩ := h
  have hlen := keys_nf hM hC.nodup hE
  have hCB : CB C := (cod_cb hk hM).sub fun c hc => eqv_mem hC.nodup hE hc
  have HTN := Lib.hid (fun S (hp : (dat S).Perm (C.map (decI k))) hs => terms_nf hM hC.nodup hE hp hs)
  have hbl := hC.lt
  have hb := blk_new w (.cells #[.int .i64 0, .slice none 0 0] 24)
  have hC1 := hC.alloc (.cells #[.int .i64 0, .slice none 0 0] 24)
  have hrun := fun ty => hC1.len ty
  have HT := Lib.hid (terms_any b1 k C _ hC1 hCB hk)
  have hB : Below w.heap.size w (w.alloc (.cells #[.int .i64 0, .slice none 0 0] 24)) := (Below.refl _ _).alloc (Nat.le_refl _) _
  have HB := Lib.hid hB
  have HK := Lib.hid hb
  clear hC hE hCB hC1 hB
  by_cases hl : 2000 < (nf M).length
  · have HE : Hid (toldOf k M = (0, [], 3)) := Lib.hid (by unfold toldOf; rw [if_pos hl])
    have hl2 : (2000 : Int) < (C.length : Int) := by omega
    obtain ⟨y0, y1, fy0, fy1, _⟩ := blk2cells hb
    clear hlen hl
    go_enter Try.func39, Try.ntmps39
    go_wp2_with fail
    refine bodyPost_ret (v := .tuple #[.agg #[.int .i64 0, .slice none 0 0], .int .i64 3]) ?_ rfl ⟨_, [], by rw [HE.out], OwnR.nil _ _, by rw [HE.out]; rfl, ?_⟩
    · simp [results, Try.results39, go_sem, y0, y1]
    · exact HB.out
  · have HE : Hid (toldOf k M = (((k : Nat) : Int), nf M, (0 : Int))) := Lib.hid (by unfold toldOf; rw [if_neg hl])
    have hl2 : ¬ (2000 : Int) < (C.length : Int) := by omega
    clear hlen hl
    go_enter Try.func39, Try.ntmps39
    go_wp2_with fail
    refine HT.out.mono ?_
    rintro e w1 ⟨v, S, rfl, ho, hp, hs, hb1⟩
    obtain ⟨A1, c1, rfl, -, -, -⟩ := owns_shape ho.out
    have HK1 := Lib.hid (blk_below HK.out hb1 (by simp))
    obtain ⟨y0, y1, fy0, fy1, _⟩ := blk2cells HK1.out
    have hdat := HTN.out S hp hs
    have HD := Lib.hid hdat
    have HO := Lib.hid (ho.mono (B' := w.heap.size) (by simp))
    have HB1 := Lib.hid (HB.out.trans (hb1.mono HB.out.size))
    clear hp hs hdat ho hb1 hb
    go_wp2_with fail
    refine bodyPost_ret (v := .tuple #[.agg #[.int .i64 k, .slice A1 S.length c1], .int .i64 0]) ?_ rfl ⟨_, S, by rw [HE.out], HO.out.box2 HK1.out (by decide) (by decide) _ _, by rw [HE.out]; exact HD.out, ?_⟩
    · simp [results, Try.results39, go_sem, y0, y1]
    · exact (HB1.out.setCell (p := ⟨w.heap.size, 0, none⟩) (by simp) _).setCell (p := ⟨w.heap.size, 1, none⟩) (by simp) _
end Go.Proofs.Ytnffpjdlpjkioaa

namespace Go.Proofs.Ytnffpjdlpjkioaa
open Go.RowKit

def profB (xs : List Int) : Bool := decide (xs.length ≤ 16) && xs.all fun x => inB x 0 10
def atP (xs : List Int) (i : Nat) : Int := if xs.length < i then 0 else xs.getD (i - 1) 0
def clAt (xs : List Int) (i j : Nat) : Bool := !decide (atP xs (i + j + 2) < min (atP xs (j + 1)) (atP xs (i + 1) - ((j : Int) + 1)))
def closedB (xs : List Int) : Bool := (List.range xs.length).all fun i => (List.range xs.length).all fun j => clAt xs i j
def exps (xs : List Int) : List Int := xs.map fun x => 2 ^ x.toNat - 1
def trimN (ys : List Int) : Nat → Nat
  | 0 => 0
  | n + 1 => if ys.getD n 0 = 0 then trimN ys n else n + 1
def trimL (ys : List Int) : List Int := ys.take (trimN ys ys.length)
def degK (ys : List Int) : Nat → Int
  | 0 => 0
  | k + 1 => degK ys k + ys.getD k 0 * (2 ^ (k + 1) - 1)
def degP (ys : List Int) : Int := degK ys ys.length
def topL (xs : List Int) : List Int := trimL (exps xs)
def topR (xs : List Int) : List Int × Int :=
  if profB xs = true then (if closedB xs = true then (if degP (topL xs) ≤ 40 then (topL xs, 0) else ([], 3)) else ([], 5)) else ([], 1)
def topElementOf (xs : List Int) : List (List Int) × Int := if (topR xs).2 = 0 then ([(topR xs).1], 0) else ([], (topR xs).2)
theorem profB_iff (xs : List Int) : profB xs = true ↔ xs.length ≤ 16 ∧ ∀ t, t < xs.length → inB (xs.getD t 0) 0 10 = true := by
  unfold profB
  rw [Bool.and_eq_true, decide_eq_true_eq, all_getD]
theorem prof_get {xs : List Int} (h : profB xs = true) (k : Nat) : 0 ≤ xs.getD k 0 ∧ xs.getD k 0 ≤ 10 := by
  by_cases hk : k < xs.length
  · exact inB_true2 (((profB_iff xs).1 h).2 k hk)
  · have : xs.getD k 0 = 0 := by simp [List.getD, show xs[k]? = none from List.getElem?_eq_none (by omega)]
    rw [this]; omega
theorem atP_bd {xs : List Int} (h : profB xs = true) (i : Nat) : 0 ≤ atP xs i ∧ atP xs i ≤ 10 := by
  unfold atP
  split
  · omega
  · exact prof_get h _
theorem closedB_iff (xs : List Int) : closedB xs = true ↔ ∀ i, i < xs.length → ∀ j, j < xs.length → clAt xs i j = true := by
  unfold closedB
  simp only [List.all_eq_true, List.mem_range]
theorem exps_length (xs : List Int) : (exps xs).length = xs.length := by simp [exps]
theorem exps_getD (xs : List Int) {k : Nat} (hk : k < xs.length) : (exps xs).getD k 0 = 2 ^ (xs.getD k 0).toNat - 1 := by simp [exps, List.getD, hk]
theorem trimN_le (ys : List Int) (n : Nat) : trimN ys n ≤ n := by
  induction n with
  | zero => exact Nat.le_refl _
  | succ n ih => unfold trimN; split <;> omega
theorem topL_len (xs : List Int) : (topL xs).length ≤ xs.length := by
  unfold topL trimL
  rw [List.length_take, exps_length]; omega
theorem pow10 {d : Nat} (h : d ≤ 10) : (1 : Int) ≤ 2 ^ d ∧ (2 : Int) ^ d ≤ 1024 := by
  have h1 : 2 ^ d ≤ 2 ^ 10 := Nat.pow_le_pow_right (by omega) h
  have h2 : 1 ≤ 2 ^ d := Nat.one_le_two_pow
  have h3 : ((2 ^ d : Nat) : Int) = (2 : Int) ^ d := by rw [Int.natCast_pow]; rfl
  rw [← h3]; omega
theorem pow16 {d : Nat} (h : d ≤ 16) : (1 : Int) ≤ 2 ^ d ∧ (2 : Int) ^ d ≤ 65536 := by
  have h1 : 2 ^ d ≤ 2 ^ 16 := Nat.pow_le_pow_right (by omega) h
  have h2 : 1 ≤ 2 ^ d := Nat.one_le_two_pow
  have h3 : ((2 ^ d : Nat) : Int) = (2 : Int) ^ d := by rw [Int.natCast_pow]; rfl
  rw [← h3]; omega
theorem topL_bd {xs : List Int} (h : profB xs = true) (k : Nat) : 0 ≤ (topL xs).getD k 0 ∧ (topL xs).getD k 0 ≤ 1023 := by
  by_cases hk : k < (topL xs).length
  · have hk' : k < xs.length := Nat.lt_of_lt_of_le hk (topL_len xs)
    have e : (topL xs).getD k 0 = (exps xs).getD k 0 := by
      unfold topL trimL at hk ⊢
      rw [List.length_take] at hk
      simp [List.getD, List.getElem?_take, show k < trimN (exps xs) (exps xs).length by omega]
    rw [e, exps_getD xs hk']
    have hb := prof_get h k
    have := pow10 (d := (xs.getD k 0).toNat) (by omega)
    omega
  · have : (topL xs).getD k 0 = 0 := by simp [List.getD, show (topL xs)[k]? = none from List.getElem?_eq_none (by omega)]
    rw [this]; omega
theorem mul_bd {x p : Int} (h1 : 0 ≤ x) (h2 : x ≤ 1023) (h3 : 0 ≤ p) (h4 : p ≤ 65535) : 0 ≤ x * p ∧ x * p ≤ 67042305 := by
  refine ⟨Int.mul_nonneg h1 h3, ?_⟩
  have := Int.mul_le_mul h2 h4 h3 (by omega)
  omega
theorem degK_bd {xs : List Int} (h : profB xs = true) : ∀ k, k ≤ 16 → 0 ≤ degK (topL xs) k ∧ degK (topL xs) k ≤ 67042305 * k := by
  intro k
  induction k with
  | zero => intro _; simp [degK]
  | succ k ih =>
    intro hk
    have h1 := ih (by omega)
    have h2 := topL_bd h k
    have h3 := pow16 (d := k + 1) hk
    have h4 := mul_bd h2.1 h2.2 (p := 2 ^ (k + 1) - 1) (by omega) (by omega)
    unfold degK
    omega
theorem topR_len (xs : List Int) : (topR xs).1.length ≤ 1000 := by
  unfold topR
  split
  · rename_i h
    split
    · split
      · have h1 := ((profB_iff xs).1 h).1
        have h2 := topL_len xs
        simp only; omega
      · simp
    · simp
  · simp
theorem topElementOf_len (xs : List Int) : (topElementOf xs).1.length ≤ 1000 ∧ ∀ x ∈ (topElementOf xs).1, x.length ≤ 1000 := by
  unfold topElementOf
  split
  · refine ⟨by simp, fun x hx => ?_⟩
    obtain rfl := List.mem_singleton.1 hx
    exact topR_len xs
  · simp
end Go.Proofs.Ytnffpjdlpjkioaa

namespace Go.Proofs.Ytnffpjdlpjkioaa

/-! ### the tables -/
def entT (r s : List Int) (C : LL) (i j : Nat) : Int :=
  if i = 0 then (if j = 0 then 0 else s.getD (j - 1) 0) else if j = 0 then r.getD (i - 1) 0 else (C.getD (i - 1) []).getD (j - 1) 0
/-- the k-th diagonal -/
def diagT (r s : List Int) (C : LL) (k : Nat) : List Int := (List.range (k + 1)).map fun i => entT r s C i (k - i)
def apN (seen : Nat) : List Int → Bool
  | [] => true
  | x :: l => if an seen x.toNat = 0 then apN (orr seen x.toNat) l else false
def okT (r s : List Int) (C : LL) : Bool := (List.range (r.length + s.length)).all fun k => apN 0 (diagT r s C (k + 1))
def totT (r s : List Int) (C : LL) : List Int := (List.range (r.length + s.length)).map fun k => (diagT r s C (k + 1)).sum
def resT (r s : List Int) (C : LL) : LL := if okT r s C = true then [trimL (totT r s C)] else []
/-- the numbers that a cell can hold -/
def mostT (r s : List Int) (i j : Nat) : Nat := (min (r.getD i 0 / 2 ^ (j + 1)) (s.getD j 0)).toNat
/-- all results of tables, q cells being left to fill -/
def fillE : Nat → List Int → List Int → LL → LL
  | 0, r, s, C => resT r s C
  | q + 1, r, s, C =>
    let p := r.length * s.length - (q + 1)
    let i := p / s.length
    let j := p % s.length
    (List.range (mostT r s i j + 1)).flatMap fun (x : Nat) => fillE q (r.set i (r.getD i 0 - 2 ^ (j + 1) * x)) (s.set j (s.getD j 0 - x)) (C.set i ((C.getD i []).set j (x : Int)))
def zeroT (r s : List Int) : LL := List.replicate r.length (List.replicate s.length 0)
def prodE (r s : List Int) : LL := fillE (r.length * s.length) r s (zeroT r s)
/-- the product of elements -/
def mulE (A B : LL) : LL := nf (A.flatMap fun r => B.flatMap fun s => prodE r s)
/-- the element of a word -/
def wordE : List Int → LL
  | [] => [[]]
  | a :: w => mulE [[a]] (wordE w)

/-! ### one square in front -/
def enumT : List Int → Int → Nat → LL
  | [], _, _ => [[]]
  | s0 :: s, a, j => (List.range ((min (a / 2 ^ (j + 1)) s0).toNat + 1)).flatMap fun (x : Nat) => (enumT s (a - 2 ^ (j + 1) * x) (j + 1)).map ((x : Int) :: ·)
def wX : Nat → List Int → Int
  | _, [] => 0
  | j, x :: X => 2 ^ (j + 1) * x + wX (j + 1) X
def subT : List Int → List Int → List Int
  | s0 :: s, x :: X => (s0 - x) :: subT s X
  | s, _ => s
def finT (a : Int) (s X : List Int) : LL := resT [a - wX 0 X] (subT s X) [X]
theorem enumT_len : ∀ (s : List Int) (a : Int) (j : Nat) (X : List Int), X ∈ enumT s a j → X.length = s.length
  | [], a, j, X, h => by simp [enumT] at h; subst h; rfl
  | s0 :: s, a, j, X, h => by
    simp only [enumT, List.mem_flatMap, List.mem_map] at h
    obtain ⟨x, _, Y, hY, rfl⟩ := h
    simp [enumT_len s _ _ Y hY]
theorem subT_len : ∀ (s X : List Int), (subT s X).length = s.length
  | [], [] => rfl
  | [], _ :: _ => rfl
  | _ :: _, [] => rfl
  | s0 :: s, x :: X => by simp [subT, subT_len s X]
theorem set_split {α : Type} (D : List α) (y z : α) (T : List α) : (D ++ y :: T).set D.length z = D ++ z :: T := by
  rw [List.set_append_right _ _ (Nat.le_refl _)]; simp
theorem getD_split {α : Type} (D : List α) (y d : α) (T : List α) : (D ++ y :: T).getD D.length d = y := by
  simp [List.getD]
theorem flatMap_congr' {α β : Type} {L : List α} {f g : α → List β} (h : ∀ x ∈ L, f x = g x) : L.flatMap f = L.flatMap g := by
  induction L with
  | nil => rfl
  | cons x L ih => rw [List.flatMap_cons, List.flatMap_cons, h x (List.mem_cons_self ..), ih fun y hy => h y (List.mem_cons_of_mem _ hy)]
theorem fill_one : ∀ (s : List Int) (a : Int) (D E : List Int), D.length = E.length →
    fillE s.length [a] (D ++ s) [E ++ List.replicate s.length 0] = (enumT s a D.length).flatMap fun X => resT [a - wX D.length X] (D ++ subT s X) [E ++ X]
  | [], a, D, E, _ => by simp [fillE, enumT, wX, subT]
  | s0 :: s, a, D, E, hl => by
    simp only [List.length_cons, fillE, List.length_append, List.length_nil, Nat.zero_add, Nat.one_mul]
    have hp : D.length + (s.length + 1) - (s.length + 1) = D.length := by omega
    have hd : D.length / (D.length + (s.length + 1)) = 0 := Nat.div_eq_of_lt (by omega)
    have hm : D.length % (D.length + (s.length + 1)) = D.length := Nat.mod_eq_of_lt (by omega)
    rw [hp, hd, hm]
    have e1 : mostT [a] (D ++ s0 :: s) 0 D.length = (min (a / 2 ^ (D.length + 1)) s0).toNat := by unfold mostT; rw [getD_split]; rfl
    rw [e1, enumT, List.flatMap_assoc]
    refine flatMap_congr' fun x _ => ?_
    rw [set_split, getD_split]
    have e2 : ([E ++ List.replicate (s.length + 1) (0 : Int)] : LL).getD 0 [] = E ++ List.replicate (s.length + 1) 0 := rfl
    rw [e2, List.replicate_succ, show ([a] : List Int).set 0 (([a] : List Int).getD 0 0 - 2 ^ (D.length + 1) * (x : Int)) = [a - 2 ^ (D.length + 1) * x] from rfl]
    rw [show (E ++ 0 :: List.replicate s.length (0 : Int)).set D.length (x : Int) = E ++ (x : Int) :: List.replicate s.length 0 from by rw [hl]; exact set_split _ _ _ _]
    rw [show ([E ++ 0 :: List.replicate s.length (0 : Int)] : LL).set 0 (E ++ (x : Int) :: List.replicate s.length 0) = [E ++ (x : Int) :: List.replicate s.length 0] from rfl]
    have ih := fill_one s (a - 2 ^ (D.length + 1) * x) (D ++ [s0 - x]) (E ++ [(x : Int)]) (by simp [hl])
    simp only [List.append_assoc, List.singleton_append, List.length_append, List.length_singleton] at ih
    rw [ih, List.flatMap_map]
    refine flatMap_congr' fun X _ => ?_
    show _ = resT [a - wX D.length ((x : Int) :: X)] (D ++ subT (s0 :: s) ((x : Int) :: X)) [E ++ (x : Int) :: X]
    simp only [wX, subT]
    rw [Int.sub_sub]
theorem prodE_one (a : Int) (s : List Int) : prodE [a] s = (enumT s a 0).flatMap fun X => finT a s X := by
  have := fill_one s a [] [] rfl
  simp only [List.nil_append, List.length_nil] at this
  unfold prodE zeroT finT
  simpa using this
theorem enumT_nodup : ∀ (s : List Int) (a : Int) (j : Nat), (enumT s a j).Nodup
  | [], _, _ => by simp [enumT]
  | s0 :: s, a, j => by
    unfold enumT List.Nodup
    rw [List.pairwise_flatMap]
    refine ⟨fun x _ => ?_, ?_⟩
    · rw [List.pairwise_map]
      exact (enumT_nodup s _ _).imp fun h e => h (by injection e)
    · refine List.nodup_range.imp fun h => ?_
      intro Y hY Z hZ e
      simp only [List.mem_map] at hY hZ
      obtain ⟨Y', _, rfl⟩ := hY
      obtain ⟨Z', _, rfl⟩ := hZ
      injection e with e _
      exact h (by omega)
/-- cell by cell at most what is there, and in all at most a -/
def LeT : List Int → List Int → Prop
  | [], [] => True
  | s0 :: s, x :: X => 0 ≤ x ∧ x ≤ s0 ∧ LeT s X
  | _, _ => False
theorem enumT_le : ∀ (s : List Int) (a : Int) (j : Nat) (X : List Int), (∀ y ∈ s, 0 ≤ y) → 0 ≤ a → X ∈ enumT s a j → LeT s X ∧ wX j X ≤ a
  | [], a, j, X, _, ha, h => by simp [enumT] at h; subst h; exact ⟨trivial, by simpa [wX] using ha⟩
  | s0 :: s, a, j, X, hs, ha, h => by
    simp only [enumT, List.mem_flatMap, List.mem_map, List.mem_range] at h
    obtain ⟨x, hx, Y, hY, rfl⟩ := h
    have hs0 := hs s0 (List.mem_cons_self ..)
    have hp : (0 : Int) < 2 ^ (j + 1) := Int.pow_pos (by omega)
    have hq : 0 ≤ a / 2 ^ (j + 1) := Int.ediv_nonneg ha (by omega)
    have hxa : (x : Int) ≤ a / 2 ^ (j + 1) := by omega
    have hmul : 2 ^ (j + 1) * (x : Int) ≤ a := by
      have h1 := Int.mul_le_mul_of_nonneg_left hxa (Int.le_of_lt hp)
      have h2 := Int.mul_ediv_self_le (x := a) (k := 2 ^ (j + 1)) (by omega)
      omega
    obtain ⟨h1, h2⟩ := enumT_le s (a - 2 ^ (j + 1) * x) (j + 1) Y (fun y hy => hs y (List.mem_cons_of_mem _ hy)) (by omega) hY
    exact ⟨⟨by omega, by omega, h1⟩, by simp only [wX]; omega⟩
theorem enumT_has : ∀ (s : List Int) (a : Int) (j : Nat), (∀ y ∈ s, 0 ≤ y) → wX j s ≤ a → s ∈ enumT s a j
  | [], _, _, _, _ => by simp [enumT]
  | s0 :: s, a, j, hs, ha => by
    have hs0 := hs s0 (List.mem_cons_self ..)
    have hp : (0 : Int) < 2 ^ (j + 1) := Int.pow_pos (by omega)
    have hw : ∀ (j : Nat) (t : List Int), (∀ y ∈ t, 0 ≤ y) → 0 ≤ wX j t := by
      intro j t
      induction t generalizing j with
      | nil => intro _; simp [wX]
      | cons y t ih =>
        intro ht
        have := ih (j + 1) fun z hz => ht z (List.mem_cons_of_mem _ hz)
        have hp2 : (0 : Int) < 2 ^ (j + 1) := Int.pow_pos (by omega)
        have h2 := Int.mul_nonneg (Int.le_of_lt hp2) (ht y (List.mem_cons_self ..))
        simp only [wX]; omega
    have hs' : ∀ y ∈ s, 0 ≤ y := fun y hy => hs y (List.mem_cons_of_mem _ hy)
    have h0 := hw (j + 1) s hs'
    simp only [wX] at ha
    have hle : s0 ≤ a / 2 ^ (j + 1) := Int.le_ediv_of_mul_le hp (by rw [Int.mul_comm]; omega)
    obtain ⟨n, rfl⟩ := Int.eq_ofNat_of_zero_le hs0
    simp only [enumT, List.mem_flatMap, List.mem_map, List.mem_range]
    exact ⟨n, by omega, s, enumT_has s _ _ hs' (by omega), rfl⟩
/-! ### what a table of one row gives -/
def tot1 : Int → List Int → List Int → List Int
  | c, s0 :: s, x :: X => (s0 - x + c) :: tot1 x s X
  | c, _, _ => [c]
theorem getD_nil' (k : Nat) : ([] : List Int).getD k 0 = 0 := by simp [List.getD]
theorem range_split {k n : Nat} (h : k ≤ n) (f : Nat → Int) : ((List.range n).map f) = (List.range k).map f ++ (List.range (n - k)).map fun i => f (k + i) := by
  obtain ⟨m, rfl⟩ : ∃ m, n = k + m := ⟨n - k, by omega⟩
  rw [Nat.add_sub_cancel_left, List.range_add, List.map_append, List.map_map]; rfl
theorem diag_one (a : Int) (s X : List Int) (k : Nat) : diagT [a] s [X] (k + 1) = s.getD k 0 :: (if k = 0 then a else X.getD (k - 1) 0) :: List.replicate k 0 := by
  unfold diagT
  rw [range_split (k := 2) (by omega) (fun i => entT [a] s [X] i (k + 1 - i))]
  have h2 : ((List.range (k + 1 + 1 - 2)).map fun i => entT [a] s [X] (2 + i) (k + 1 - (2 + i))) = List.replicate k 0 := by
    apply List.ext_getElem
    · simp
    · intro i h1 _
      simp only [List.getElem_map, List.getElem_range, List.getElem_replicate]
      unfold entT
      rw [if_neg (by omega)]
      split
      · simp [List.getD]
      · rw [show ([X] : LL).getD (2 + i - 1) [] = [] from by simp [List.getD]]; simp [List.getD]
  rw [h2]
  show [entT [a] s [X] 0 (k + 1), entT [a] s [X] 1 (k + 1 - 1)] ++ _ = _
  have h3 : entT [a] s [X] 0 (k + 1) = s.getD k 0 := by unfold entT; simp
  have h4 : entT [a] s [X] 1 (k + 1 - 1) = if k = 0 then a else X.getD (k - 1) 0 := by
    unfold entT
    rw [if_neg (by omega), Nat.add_sub_cancel]
    by_cases h : k = 0
    · subst h; simp
    · rw [if_neg h, if_neg h]; rfl
  rw [h3, h4]; rfl
theorem sum_rep (k : Nat) : (List.replicate k (0 : Int)).sum = 0 := by
  induction k with
  | zero => rfl
  | succ k ih => rw [List.replicate_succ, List.sum_cons, ih]; rfl
theorem tot1_getD : ∀ (c : Int) (s X : List Int), X.length = s.length → ∀ k, (tot1 c s X).getD k 0 = (subT s X).getD k 0 + (if k = 0 then c else X.getD (k - 1) 0)
  | c, [], [], _, k => by
    cases k with
    | zero => simp [tot1, subT]
    | succ k => simp [tot1, subT]
  | c, s0 :: s, x :: X, h, k => by
    cases k with
    | zero => simp [tot1, subT]
    | succ k =>
      have ih := tot1_getD x s X (by simpa using h) k
      simp only [tot1, subT, List.getD_cons_succ]
      rw [ih]
      cases k with
      | zero => simp
      | succ k => simp
theorem tot1_len : ∀ (c : Int) (s X : List Int), X.length = s.length → (tot1 c s X).length = s.length + 1
  | c, [], [], _ => rfl
  | c, s0 :: s, x :: X, h => by simp [tot1, tot1_len x s X (by simpa using h)]
theorem getD_eq_getElem' {L : List Int} {k : Nat} (h : k < L.length) : L.getD k 0 = L[k] := by simp [List.getD, h]
theorem tot_one (a : Int) (s X : List Int) (h : X.length = s.length) : totT [a] (subT s X) [X] = tot1 a s X := by
  apply List.ext_getElem
  · simp [totT, subT_len, tot1_len a s X h, Nat.add_comm]
  · intro k h1 h2
    rw [← getD_eq_getElem' h2, tot1_getD a s X h k]
    simp only [totT, List.getElem_map, List.getElem_range]
    rw [diag_one, List.sum_cons, List.sum_cons, sum_rep, Int.add_zero]
theorem apN_zeros (n k : Nat) : apN n (List.replicate k 0) = true := by
  induction k generalizing n with
  | zero => rfl
  | succ k ih => rw [List.replicate_succ, apN]; simp only [Int.toNat_zero]; rw [if_pos (by simp [an])]; exact ih _
theorem finT_self (a : Int) (s : List Int) : finT a s s = [trimL (tot1 (a - wX 0 s) s s)] := by
  unfold finT resT
  have hz : ∀ (t : List Int) (k : Nat), (subT t t).getD k 0 = 0 := by
    intro t
    induction t with
    | nil => intro k; simp [subT]
    | cons x t ih => intro k; cases k with
      | zero => simp [subT]
      | succ k => simp only [subT, List.getD_cons_succ]; exact ih k
  have hok : okT [a - wX 0 s] (subT s s) [s] = true := by
    unfold okT
    rw [List.all_eq_true]
    intro k _
    rw [diag_one, hz]
    simp only [apN, Int.toNat_zero]
    rw [if_pos (by simp [an]), if_pos (by simp [an, orr])]
    exact apN_zeros _ _
  rw [if_pos hok, tot_one _ _ _ rfl]
theorem finT_mem {a : Int} {s X t : List Int} (hX : X.length = s.length) (h : t ∈ finT a s X) : t = trimL (tot1 (a - wX 0 X) s X) := by
  unfold finT resT at h
  split at h
  · rw [List.mem_singleton] at h; rw [h, tot_one _ _ _ hX]
  · cases h
/-! ### the order from the right as a number -/
def val : List Int → Int
  | [] => 0
  | x :: t => x + 64 * val t
def degW : Nat → List Int → Int
  | _, [] => 0
  | j, x :: t => x * (2 ^ (j + 1) - 1) + degW (j + 1) t
theorem tot1_self_val : ∀ (c : Int) (s : List Int), val (tot1 c s s) = c + 64 * val s
  | c, [] => by simp [tot1, val]
  | c, s0 :: s => by simp only [tot1, val]; rw [tot1_self_val s0 s]; omega
theorem tot1_val : ∀ (c : Int) (s X : List Int), LeT s X → X ≠ s → val (tot1 c s X) < c + 64 * val s
  | c, [], [], _, h => absurd rfl h
  | c, [], _ :: _, h, _ => h.elim
  | c, _ :: _, [], h, _ => h.elim
  | c, s0 :: s, x :: X, hle, hne => by
    obtain ⟨h0, h1, h2⟩ := hle
    simp only [tot1, val]
    by_cases e : X = s
    · subst e
      rw [tot1_self_val]
      have : x ≠ s0 := fun e2 => hne (by rw [e2])
      omega
    · have := tot1_val x s X h2 e
      omega
theorem tot1_tail : ∀ (c : Int) (s X : List Int), LeT s X → X ≠ s → ∃ y t, tot1 c s X = y :: t ∧ val t < val s
  | c, [], [], _, h => absurd rfl h
  | c, [], _ :: _, h, _ => h.elim
  | c, _ :: _, [], h, _ => h.elim
  | c, s0 :: s, x :: X, hle, hne => by
    obtain ⟨h0, h1, h2⟩ := hle
    refine ⟨_, _, rfl, ?_⟩
    simp only [val]
    by_cases e : X = s
    · subst e
      rw [tot1_self_val]
      have : x ≠ s0 := fun e2 => hne (by rw [e2])
      omega
    · have := tot1_val x s X h2 e
      omega
theorem tot1_deg : ∀ (j : Nat) (c : Int) (s X : List Int), X.length = s.length → degW j (tot1 c s X) = c * (2 ^ (j + 1) - 1) + degW j s + wX j X
  | j, c, [], [], _ => by simp [tot1, degW, wX]
  | j, c, s0 :: s, x :: X, h => by
    simp only [tot1, degW, wX]
    rw [tot1_deg (j + 1) x s X (by simpa using h)]
    have h2 : (2 : Int) ^ (j + 1 + 1) = 2 * 2 ^ (j + 1) := by rw [Int.pow_succ]; omega
    rw [h2]
    generalize (2 : Int) ^ (j + 1) = p
    have e1 : (s0 - x + c) * (p - 1) = s0 * p - x * p + c * p - s0 + x - c := by rw [Int.mul_sub, Int.mul_one, Int.add_mul, Int.sub_mul]; omega
    have e2 : x * (2 * p - 1) = 2 * (x * p) - x := by rw [Int.mul_sub, Int.mul_one, Int.mul_left_comm]
    have e3 : c * (p - 1) = c * p - c := by rw [Int.mul_sub, Int.mul_one]
    have e4 : s0 * (p - 1) = s0 * p - s0 := by rw [Int.mul_sub, Int.mul_one]
    have e5 : p * x = x * p := Int.mul_comm _ _
    rw [e1, e2, e3, e4, e5]
    omega
end Go.Proofs.Ytnffpjdlpjkioaa

namespace Go.Proofs.Ytnffpjdlpjkioaa
open Go.RowKit

theorem apN_cons (sn x : Nat) (l : List Int) : apN sn ((x : Int) :: l) = if an sn x = 0 then apN (orr sn x) l else false := by
  conv => lhs; rw [apN]
  rw [Int.toNat_natCast]
theorem drop_getI {xs : List Int} {k : Nat} (h : k < xs.length) : xs.drop k = xs.getD k 0 :: xs.drop (k + 1) := by
  rw [List.drop_eq_getElem_cons h]; simp only [List.getD, List.getElem?_eq_getElem h, Option.getD_some]

theorem sum_take_succ {xs : List Int} {k : Nat} (h : k < xs.length) : (xs.take (k + 1)).sum = (xs.take k).sum + xs.getD k 0 := by
  rw [List.take_succ_eq_append_getElem h, List.sum_append_int]; simp [List.getD, h]
theorem sum_bd {xs : List Int} {m : Int} (h : ∀ x ∈ xs, 0 ≤ x ∧ x ≤ m) : ∀ k, k ≤ xs.length → 0 ≤ (xs.take k).sum ∧ (xs.take k).sum ≤ m * k := by
  intro k
  induction k with
  | zero => intro _; simp
  | succ k ih =>
    intro hk
    obtain ⟨h1, h2⟩ := ih (by omega)
    have hx := h _ (show xs.getD k 0 ∈ xs from by simp [List.getD, (by omega : k < xs.length)])
    rw [sum_take_succ (by omega)]
    have : m * ((k + 1 : Nat) : Int) = m * k + m := by rw [Int.natCast_add, Int.mul_add]; simp
    omega
set_option maxHeartbeats 1000000 in
theorem sum_any (A : Option Addr) (n c : Nat) (xs : List Int) (w : World) (hn : n = xs.length) (hsm : n ≤ 1000000) (hb : ∀ x ∈ xs, 0 ≤ x ∧ x ≤ 1000000000) (hR : Rd w A (iv xs)) :
    Calls Try.prog 89 #[.slice A n c] w fun e w' => e = .returned (.int .i64 xs.sum) ∧ w = w' := by
  have HR := Lib.hid hR
  have Hn := Lib.hid hn
  have HB := Lib.hid (sum_bd hb)
  have HX := Lib.hid hb
  clear hR hn hb
  go_enter Try.func89, Try.ntmps89
  go_wp2_with fail
  go_loop [3, 8] (fun s i => ∃ k : Nat, ∃ t : Int, k ≤ n ∧ i = .int .i64 k ∧ s = .int .i64 t ∧ Hid (t = (xs.take k).sum)) (fun _ i => n - (intOf i).toNat)
  case atStart => exact ⟨0, 0, by omega, rfl, rfl, Lib.hid (by simp)⟩
  case round =>
    obtain ⟨k, t, hk, rfl, rfl, HQ⟩ := hrel
    by_cases hlt : k < n
    · have hkL : k < xs.length := by rw [← Hn.out]; exact hlt
      obtain ⟨b, o, rfl, hc⟩ := HR.out.atI hkL
      have hx := HX.out _ (show xs.getD k 0 ∈ xs from by simp [List.getD, hkL])
      have ht := HB.out k (by omega)
      have HS := Lib.hid (sum_take_succ hkL)
      rw [← HQ.out] at ht
      generalize xs.getD k 0 = z at *
      clear hkL
      go_wp2_with fail
      go_round
      case rel => exact ⟨k + 1, t + z, by omega, by go_num, by go_num, Lib.hid (by rw [HS.out, HQ.out])⟩
      case measure => simp [intOf]; omega
    · have HF : Hid (xs.sum = t) := Lib.hid (by rw [HQ.out, List.take_of_length_le (by rw [← Hn.out]; omega)])
      go_wp2_with fail
      go_ret
      exact ⟨by rw [HF.out]; rfl, rfl⟩
end Go.Proofs.Ytnffpjdlpjkioaa

namespace Go.Proofs.Ytnffpjdlpjkioaa
open Go.RowKit

theorem blk4cells {w : World} {g : Nat} {a b c d : Value} {t : TypeId} (h : w.heap[g]? = some (.cells #[a, b, c, d] t (0, 0))) :
    w.cell? ⟨g, 0, none⟩ = some a ∧ w.cell? ⟨g, 1, none⟩ = some b ∧ w.cell? ⟨g, 2, none⟩ = some c ∧ w.cell? ⟨g, 3, none⟩ = some d ∧ w.frozen? ⟨g, 3, none⟩ = false ∧ w.frozen? ⟨g, 2, none⟩ = false ∧ g < w.heap.size := by
  exact ⟨cell_of_row w g 0 #[a, b, c, d] _ (0, 0) h, cell_of_row w g 1 #[a, b, c, d] _ (0, 0) h, cell_of_row w g 2 #[a, b, c, d] _ (0, 0) h, cell_of_row w g 3 #[a, b, c, d] _ (0, 0) h, by simp [World.frozen?, h], by simp [World.frozen?, h], (Array.getElem?_eq_some_iff.1 h).1⟩
theorem ent_out_i {r s : List Int} {C : LL} {i j : Nat} (h : r.length < i) (hC : C.length = r.length) : entT r s C i j = 0 := by
  unfold entT
  rw [if_neg (by omega)]
  split
  · simp [List.getD, List.getElem?_eq_none (by omega : r.length ≤ i - 1)]
  · rw [show C.getD (i - 1) [] = [] from by simp [List.getD, List.getElem?_eq_none (by omega : C.length ≤ i - 1)]]; simp [List.getD]
theorem ent_out_j {r s : List Int} {C : LL} {i j : Nat} (h : s.length < j) (hC : ∀ k, k < C.length → (C.getD k []).length = s.length) : entT r s C i j = 0 := by
  unfold entT
  split
  · rw [if_neg (by omega)]; simp [List.getD, List.getElem?_eq_none (by omega : s.length ≤ j - 1)]
  · rw [if_neg (by omega)]
    by_cases hk : i - 1 < C.length
    · have := hC (i - 1) hk
      generalize C.getD (i - 1) [] = R at *
      simp [List.getD, List.getElem?_eq_none (by omega : R.length ≤ j - 1)]
    · rw [show C.getD (i - 1) [] = [] from by simp [List.getD, List.getElem?_eq_none (by omega : C.length ≤ i - 1)]]; simp [List.getD]

end Go.Proofs.Ytnffpjdlpjkioaa

namespace Go.Proofs.Ytnffpjdlpjkioaa
open Go.RowKit

/-- rows of ints of the call's own, no two in one block -/
structure InnR (w : World) (B : Nat) (L : List Row) : Prop where
  inn : ∀ i, i < L.length → w.ownsRow B 2 1 (rg L i).val (rg L i).xs.length (iv (rg L i).xs)
  dis : ∀ i j, i < L.length → j < L.length → i ≠ j → (rg L i).val.ownBlock = none ∨ (rg L i).val.ownBlock ≠ (rg L j).val.ownBlock
section
variable {w w' : World} {B : Nat} {L : List Row}
theorem InnR.keeps {S : List (Option Nat)} (h : InnR w B L) (hk : Keeps w w' S) (h2 : ∀ i, i < L.length → (rg L i).val.ownBlock = none ∨ (rg L i).val.ownBlock ∉ S) : InnR w' B L :=
  ⟨fun i hi => owns_keeps (h.inn i hi) hk (h2 i hi), h.dis⟩
theorem InnR.later (h : InnR w B L) (hb : Below w.heap.size w w') : InnR w' B L := h.keeps (Keeps.of_below hb) (fun _ _ => .inr (by simp))
theorem InnR.set {j : Nat} {ys : List Int} (h : InnR w B L) (hj : j < L.length) (hl : ys.length = (rg L j).xs.length) (hk : Keeps w w' [(rg L j).val.ownBlock])
    (hr : w'.ownsRow B 2 1 (rg L j).val (rg L j).xs.length (iv ys)) : InnR w' B (L.set j ⟨(rg L j).A, (rg L j).c, ys⟩) := by
  have ev : Row.val ⟨(rg L j).A, (rg L j).c, ys⟩ = (rg L j).val := by simp [Row.val, hl]
  refine ⟨?_, ?_⟩
  · intro i hi
    rw [List.length_set] at hi
    rw [rg_set hj]
    split
    · rw [ev]; simp only [hl]; exact hr
    · rename_i hne
      exact owns_keeps (h.inn i hi) hk (by have := h.dis i j hi hj hne; simpa using this)
  · intro i i' hi hi' hne
    rw [List.length_set] at hi hi'
    rw [rg_set hj, rg_set hj]
    by_cases e1 : i = j
    · by_cases e2 : i' = j
      · omega
      · rw [if_pos e1, if_neg e2, ev, ← e1]; exact h.dis i i' hi hi' hne
    · by_cases e2 : i' = j
      · rw [if_neg e1, if_pos e2, ev, ← e2]; exact h.dis i i' hi hi' hne
      · rw [if_neg e1, if_neg e2]; exact h.dis i i' hi hi' hne
theorem rg_app (L : List Row) (r : Row) (i : Nat) (hi : i < L.length) : rg (L ++ [r]) i = rg L i := by simp [rg, List.getD, List.getElem?_append, hi]
theorem rg_last (L : List Row) (r : Row) : rg (L ++ [r]) L.length = r := by simp [rg, List.getD]
theorem InnR.push {r : Row} (h : InnR w B L) (hr : w.ownsRow B 2 1 r.val r.xs.length (iv r.xs)) (hd : ∀ i, i < L.length → r.val.ownBlock = none ∨ r.val.ownBlock ≠ (rg L i).val.ownBlock) : InnR w B (L ++ [r]) := by
  refine ⟨fun i hi => ?_, fun i j hi hj hne => ?_⟩
  · simp only [List.length_append, List.length_singleton] at hi
    by_cases h1 : i < L.length
    · rw [rg_app L r i h1]; exact h.inn i h1
    · have : i = L.length := by omega
      subst this; rw [rg_last]; exact hr
  · simp only [List.length_append, List.length_singleton] at hi hj
    by_cases h1 : i < L.length
    · by_cases h2 : j < L.length
      · rw [rg_app L r i h1, rg_app L r j h2]; exact h.dis i j h1 h2 hne
      · have : j = L.length := by omega
        subst this
        rw [rg_app L r i h1, rg_last]; exact none_or_symm (hd i h1)
    · have : i = L.length := by omega
      subst this
      rw [rg_last, rg_app L r j (by omega)]; exact hd j (by omega)
/-- a row whose block is new is apart from all -/
theorem InnR.fresh {H : Nat} {r : Row} (h : InnR w B L) (hr : w'.ownsRow H 2 1 r.val r.xs.length (iv r.xs)) (hH : w.heap.size ≤ H) : ∀ i, i < L.length → r.val.ownBlock = none ∨ r.val.ownBlock ≠ (rg L i).val.ownBlock := by
  intro i hi
  by_cases hb : r.val.ownBlock = none
  · exact .inl hb
  · obtain ⟨k, hk⟩ := Option.ne_none_iff_exists'.1 hb
    refine .inr fun e => ?_
    have h1 := (hr.lt k hk).1
    have h2 := ((h.inn i hi).lt k (by rw [← e]; exact hk)).2
    omega
end

section
variable {w w' : World} {B g : Nat} {r s : Row} {vc vo : Value} {C O : List Row}
theorem rg_CO (C O : List Row) (r s : Row) (i : Nat) (hi : i < C.length) : rg (r :: s :: (C ++ O)) (i + 2) = rg C i := by simp [rg, List.getD, List.getElem?_append, hi]
theorem rg_O (C O : List Row) (r s : Row) (i : Nat) : rg (r :: s :: (C ++ O)) (C.length + i + 2) = rg O i := by
  simp [rg, List.getD, List.getElem?_append_right, show C.length ≤ C.length + i by omega]
theorem hv_set_same {C : List Row} {i : Nat} {R : Row} (hi : i < C.length) (h : R.val = (rg C i).val) : hv (C.set i R) = hv C := by
  unfold hv
  rw [List.map_set, h, rg_of hi]
  apply List.ext_getElem?
  intro j
  rw [List.getElem?_set]
  split
  · rename_i e; subst e; simp [hi]
  · rfl
end
end Go.Proofs.Ytnffpjdlpjkioaa

namespace Go.Proofs.Ytnffpjdlpjkioaa
open Go.RowKit

end Go.Proofs.Ytnffpjdlpjkioaa

namespace Go.Proofs.Ytnffpjdlpjkioaa
open Go.RowKit

/-- Milnor's element and a code, in new memory -/
def ResN (r : List (List Int) × Int) (w : World) (e : Ending) (w' : World) : Prop := ∃ v M, e = .returned (.tuple #[.agg #[v], .int .i64 r.2]) ∧ dat M = r.1 ∧ OwnR w' w.heap.size v M ∧ Below w.heap.size w w'
theorem topE_ok {xs : List Int} (h : (topR xs).2 = 0) : topElementOf xs = ([(topR xs).1], 0) := by unfold topElementOf; rw [if_pos h]
theorem topE_no {xs : List Int} (h : (topR xs).2 ≠ 0) : topElementOf xs = ([], (topR xs).2) := by unfold topElementOf; rw [if_neg h]
/-- rows of one row in a new block -/
theorem one_row {w : World} {B : Nat} {r : Row} (hB : B ≤ w.heap.size) (hr : w.ownsRow B 2 1 r.val r.xs.length (iv r.xs)) :
    OwnR (w.alloc (.cells #[r.val] 30)) B (.slice (some ⟨w.heap.size, 0, none⟩) 1 1) [r] := by
  refine ⟨⟨by simp [hv], .inr ⟨w.heap.size, 1, _, rfl, hB, blk_new w _, Nat.le_refl _, by decide, by simp, by simp [hv]⟩⟩, ?_, ?_⟩
  · intro i hi
    obtain rfl : i = 0 := by simp at hi; omega
    exact hr.alloc _
  · intro i j hi hj hne
    simp at hi hj
    omega
theorem blk1cell {w : World} {g : Nat} {u : Value} {t : TypeId} (h : w.heap[g]? = some (.cells #[u] t (0, 0))) : w.cell? ⟨g, 0, none⟩ = some u ∧ w.frozen? ⟨g, 0, none⟩ = false ∧ g < w.heap.size :=
  ⟨cell_of_row w g 0 #[u] _ (0, 0) h, by simp [World.frozen?, h], (Array.getElem?_eq_some_iff.1 h).1⟩
theorem OwnR.setO {w : World} {B : Nat} {v : Value} {L : List Row} {g : Nat} {u : Value} {t : TypeId} (h : OwnR w B v L) (hb : w.heap[g]? = some (.cells #[u] t (0, 0))) (h1 : 2 ≠ t) (h2 : 30 ≠ t) (x : Value) : OwnR (w.setCell ⟨g, 0, none⟩ x) B v L :=
  h.keeps ((Keeps.refl w [some g]).setCell (p := ⟨g, 0, none⟩) (by simp) x) (.inr (by have := own_ne_blk h.out hb h2; simpa using this)) (fun i hi => .inr (by have := own_ne_blk (h.inn i hi) hb h1; simpa using this))

def ndP (xs : List Int) (i j : Nat) : Int := min (atP xs (j + 1)) (atP xs (i + 1) - ((j : Int) + 1))
end Go.Proofs.Ytnffpjdlpjkioaa

namespace Go.Proofs.Ytnffpjdlpjkioaa

section
variable {P : Program} {ops : Array Oper} {Q : Exit → Act → World → Prop} {md : Region.Mode} {S : World → Prop} {last : Nat}

/-- any order, S behind every operation ahead of number 'last' -/
def wpAnyK (P : Program) (md : Region.Mode) (ops : Array Oper) (Q : Exit → Act → World → Prop) (S : World → Prop) (last : Nat) : Nat → Array Bool → Act → World → Prop
  | 0, listed, a, w => Region.ready md ops listed = [] ∧ Q .normal a w
  | fuel + 1, listed, a, w =>
    (Region.ready md ops listed = [] → Q .normal a w) ∧
    ∀ i ∈ Region.ready md ops listed, wpOp P ops Q i (fun a' w' => (i < last → S w') ∧ wpAnyK P md ops Q S last fuel (listed.setIfInBounds i true) a' w') a w
/-- all from 'last' on wait for i -/
def waitB (md : Region.Mode) (ops : Array Oper) (last i : Nat) : Bool := (List.range ops.size).all fun j => decide (j < last) || Region.waitsFor md ops j i
theorem wpAny_of_K : ∀ (fuel : Nat) (listed : Array Bool) (a : Act) (w : World), wpAnyK P md ops Q S last fuel listed a w → wpAny P md ops Q fuel listed a w
  | 0, _, _, _, h => h
  | fuel + 1, _, _, _, h => ⟨h.1, fun i hi => wpOp_mono (fun a' w' h' => wpAny_of_K fuel _ a' w' h'.2) (h.2 i hi)⟩
theorem wpAnyK_first {i : Nat} {oi : Oper} {v : Value} (hi : ops[i]? = some oi) (hsel : ∀ (j : Nat) (o : Oper) cs b, ops[j]? = some o → o.op ≠ .select cs b)
    (hQ : ∀ c a w, Q (.panic c) (a.put oi.dst v) w → Q (.panic c) a w) (hwait : waitB md ops last i = true) :
    ∀ (fuel : Nat) (listed : Array Bool) (a : Act) (w : World),
      (∀ j oj, ops[j]? = some oj → j ≠ i → listed.getD j true = false → (∀ e ∈ oj.after, Region.binds md e = true → e.on ≠ i) → oi.apart ops oj = true) →
      i ∈ Region.ready md ops listed → YieldsIf P ops S oi v a → S w →
      wpAnyK P md ops Q S last fuel (listed.setIfInBounds i true) (a.put oi.dst v) w → wpAnyK P md ops Q S last (fuel + 1) listed a w := by
  intro fuel
  induction fuel with
  | zero =>
    intro listed a w _ hr hy hS H
    refine ⟨fun h => (by rw [h] at hr; cases hr), fun j hj => ?_⟩
    by_cases hji : j = i
    · subst hji; exact hy.wpOp hi hS ⟨fun _ => hS, H⟩
    · have := ready_mono hj hji
      rw [H.1] at this
      cases this
  | succ fuel ih =>
    intro listed a w hfree hr hy hS H
    refine ⟨fun h => (by rw [h] at hr; cases hr), fun j hj => ?_⟩
    by_cases hji : j = i
    · subst hji; exact hy.wpOp hi hS ⟨fun _ => hS, H⟩
    · have h1 := H.2 j (ready_mono hj hji)
      obtain ⟨hjun, oj, hoj, hall⟩ := mem_ready.1 hj
      have hnot : ∀ e ∈ oj.after, Region.binds md e = true → e.on ≠ i := fun e he hb heq => by
        have h1 := hall e he hb
        have h0 := (mem_ready.1 hr).1
        rw [heq] at h1
        rcases Nat.lt_or_ge i listed.size with h' | h'
        · simp [h'] at h0 h1; rw [h0] at h1; cases h1
        · simp [Array.getElem?_eq_none h'] at h1
      have hjl : j < last := by
        refine Decidable.byContradiction fun hjl => ?_
        have hw := List.all_eq_true.1 hwait j (List.mem_range.2 (Array.getElem?_eq_some_iff.1 hoj).1)
        rw [decide_eq_false hjl, Bool.false_or] at hw
        obtain ⟨ol, hol, e, he, hb, heq⟩ := Region.waitsFor_spec hw
        have : ol = oj := Option.some.inj (hol.symm.trans hoj)
        subst this
        exact hnot e he hb heq
      have h2 := wpOp_putIf hoj (hfree j oj hoj hji hjun hnot) (fun cs b => hsel i oi cs b hi) (fun cs b => hsel j oj cs b hoj) hQ hy h1
      have hfree' : ∀ k ok, ops[k]? = some ok → k ≠ i → (listed.setIfInBounds j true).getD k true = false →
          (∀ e ∈ ok.after, Region.binds md e = true → e.on ≠ i) → oi.apart ops ok = true := fun k ok hk hki hun hno => by
        refine hfree k ok hk hki ?_ hno
        by_cases hjk : j = k
        · subst hjk; exact hjun
        · rw [getD_set_ne true hjk] at hun; exact hun
      refine wpOp_mono (fun a' w' h3 => ⟨h3.2.1, ih (listed.setIfInBounds j true) a' w' hfree' (ready_mono hr (Ne.symm hji)) h3.1 (h3.2.1 hjl) ?_⟩) h2
      rw [Array.setIfInBounds_comm _ _ hji]
      exact h3.2.2
theorem wpAnyK_take {i : Nat} {oi : Oper} {v : Value} {fuel : Nat} {listed : Array Bool} {a : Act} {w : World} (hi : ops[i]? = some oi)
    (hs : Region.noSelect ops = true) (hf : Region.free md ops listed i = true) (hr : (Region.ready md ops listed).contains i = true) (hw : waitB md ops last i = true)
    (hQ : ∀ c a w, Q (.panic c) (a.put oi.dst v) w → Q (.panic c) a w) (hy : YieldsIf P ops S oi v a) (hS : S w)
    (h : wpAnyK P md ops Q S last fuel (listed.setIfInBounds i true) (a.put oi.dst v) w) : wpAnyK P md ops Q S last (fuel + 1) listed a w :=
  wpAnyK_first hi (Region.noSelect_spec hs) hQ hw fuel listed a w (Region.free_spec hi hf) (by simpa using hr) hy hS h
theorem wpAnyK_done {listed : Array Bool} {a : Act} {w : World} (hr : Region.ready md ops listed = []) (h : Q .normal a w) :
    ∀ fuel, wpAnyK P md ops Q S last fuel listed a w
  | 0 => ⟨hr, h⟩
  | _ + 1 => ⟨fun _ => h, by rw [hr]; simp⟩
def AllReadyK (P : Program) (md : Region.Mode) (ops : Array Oper) (Q : Exit → Act → World → Prop) (S : World → Prop) (last fuel : Nat) (listed : Array Bool) (a : Act) (w : World) (rs : List Nat) : Prop :=
  ∀ i ∈ rs, wpOp P ops Q i (fun a' w' => (i < last → S w') ∧ wpAnyK P md ops Q S last fuel (listed.setIfInBounds i true) a' w') a w
theorem AllReadyK.nil {fuel : Nat} {listed : Array Bool} {a : Act} {w : World} : AllReadyK P md ops Q S last fuel listed a w [] := fun _ h => by cases h
theorem AllReadyK.cons {fuel : Nat} {listed : Array Bool} {a : Act} {w : World} {i : Nat} {o : Oper} {rs : List Nat} (ho : ops[i]? = some o)
    (h : ∀ K' : Act → World → Prop, Shut (∀ a w, S w → (S w → wpAnyK P md ops Q S last fuel (listed.setIfInBounds i true) a w) → K' a w) → if Region.wanted o (yielded ops a.tmps) = true then Oper.wp P o a w K' Q else K' (a.put o.dst undef) w)
    (hs : AllReadyK P md ops Q S last fuel listed a w rs) : AllReadyK P md ops Q S last fuel listed a w (i :: rs) := fun j hj => by
  rcases List.mem_cons.1 hj with rfl | hj
  · exact wpOp_step ho (fun K' hK => h K' (fun a w hS hW => hK a w ⟨fun _ => hS, hW hS⟩))
  · exact hs j hj
/-- the last one: S is asked no more -/
theorem AllReadyK.fin {fuel : Nat} {listed : Array Bool} {a : Act} {w : World} {i : Nat} {o : Oper} {rs : List Nat} (hl : last ≤ i) (ho : ops[i]? = some o)
    (h : ∀ K' : Act → World → Prop, Shut (∀ a w, wpAnyK P md ops Q S last fuel (listed.setIfInBounds i true) a w → K' a w) → if Region.wanted o (yielded ops a.tmps) = true then Oper.wp P o a w K' Q else K' (a.put o.dst undef) w)
    (hs : AllReadyK P md ops Q S last fuel listed a w rs) : AllReadyK P md ops Q S last fuel listed a w (i :: rs) := fun j hj => by
  rcases List.mem_cons.1 hj with rfl | hj
  · exact wpOp_step ho (fun K' hK => h K' (fun a w hW => hK a w ⟨fun he => absurd hl (Nat.not_le.2 he), hW⟩))
  · exact hs j hj
theorem wpAnyK_ready {rs : List Nat} {fuel : Nat} {listed : Array Bool} {a : Act} {w : World} (hr : Region.ready md ops listed = rs) (hne : rs ≠ [])
    (h : AllReadyK P md ops Q S last fuel listed a w rs) : wpAnyK P md ops Q S last (fuel + 1) listed a w := ⟨fun h0 => absurd (hr ▸ h0) hne, hr ▸ h⟩
theorem wp_region_K {id : Nat} {a : Act} {w : World} (last : Nat) (hm : P.follows .mixedOrders = true) (hS : S w.drew)
    (h : S w.drew → wpAnyK P .any ops Q S last ops.size (Array.replicate ops.size false) a w.drew) : (Code.region id ops true).wp P Q a w :=
  wp_region_any hm (wpAny_of_K _ _ _ _ (h hS))
end
end Go.Proofs.Ytnffpjdlpjkioaa

namespace Go.Proofs.Ytnffpjdlpjkioaa
open Go.RowKit

theorem keepsJ1 {w w' : World} {b : Option Nat} {o : Obj} (hg : (w.alloc o).drew.grownBy w' b) : Keeps w w' [b] := (((Keeps.refl w []).alloc o).drew).trans (Keeps.of_grown hg) (fun j _ h => by simpa using h)
/-- a row cut at its end -/
theorem owns_cut {w : World} {B : Nat} {e : TypeId} {A : Option Addr} {n c k : Nat} {xs : List Value} (h : w.ownsRow B e 1 (.slice A n c) n xs) (hk : k ≤ n) : w.ownsRow B e 1 (.slice A k c) k (xs.take k) := by
  obtain ⟨h1, h2⟩ := h
  refine ⟨by simp; omega, ?_⟩
  rcases h2 with ⟨h0, h3⟩ | ⟨g, cap, cur, hv, hb, hg, hc, hm, hs, ht⟩
  · injection h0 with e1 e2 e3
    subst e1; subst e2; subst e3
    have : k = 0 := by omega
    subst this
    exact .inl ⟨rfl, rfl⟩
  · injection hv with e1 e2 e3
    subst e1; subst e3
    refine .inr ⟨g, c, cur, rfl, hb, hg, by omega, hm, hs, ?_⟩
    rw [← ht, List.take_take, Nat.min_eq_left (by omega), Nat.mul_one]
theorem totT_length (r s : List Int) (C : LL) : (totT r s C).length = r.length + s.length := by simp [totT]
theorem totT_take (r s : List Int) (C : LL) {q : Nat} (h : q < r.length + s.length) : (totT r s C).take (q + 1) = (totT r s C).take q ++ [(diagT r s C (q + 1)).sum] := by
  rw [List.take_succ_eq_append_getElem (by rw [totT_length]; exact h)]; simp [totT]
theorem diag_length (r s : List Int) (C : LL) (k : Nat) : (diagT r s C k).length = k + 1 := by simp [diagT]
theorem diag_take (r s : List Int) (C : LL) {k i : Nat} (h : i < k + 1) : (diagT r s C k).take (i + 1) = (diagT r s C k).take i ++ [entT r s C i (k - i)] := by
  rw [List.take_succ_eq_append_getElem (by rw [diag_length]; exact h)]; simp [diagT]
theorem diag_mem {r s : List Int} {C : LL} {k : Nat} {m : Int} (h : ∀ i j, 0 ≤ entT r s C i j ∧ entT r s C i j ≤ m) : ∀ x ∈ diagT r s C k, 0 ≤ x ∧ x ≤ m := by
  intro x hx
  obtain ⟨i, _, rfl⟩ := List.mem_map.1 hx
  exact h _ _

end Go.Proofs.Ytnffpjdlpjkioaa

namespace Go.Proofs.Ytnffpjdlpjkioaa
open Go.RowKit

section
variable {w : World} {B g : Nat} {r s : Row} {vc vo : Value} {C O : List Row}
theorem own_at {w : World} {B : Nat} {r : Row} {i : Nat} (h : w.ownsRow B 2 1 r.val r.xs.length (iv r.xs)) (hi : i < r.xs.length) : ∃ k, r.A = some ⟨k, 0, none⟩ ∧ w.cell? ⟨k, i, none⟩ = some (.int .i64 (r.xs.getD i 0)) ∧ w.frozen? ⟨k, i, none⟩ = false := by
  obtain ⟨A, c, hv, _, hA, _⟩ := owns_shape h
  unfold Row.val at hv
  injection hv with e1 _ e3
  obtain ⟨k, hk, _⟩ := hA (by omega)
  rw [hk] at e1
  refine ⟨k, e1, ?_, ?_⟩
  · unfold Row.val at h; rw [e1] at h; exact owns_getD h hi
  · unfold Row.val at h; rw [e1] at h; exact h.frozenAt i
end
/-- the bounds that a table keeps -/
structure BdT (N : Int) (r s : List Int) (C : LL) : Prop where
  r : ∀ k, 0 ≤ r.getD k 0 ∧ r.getD k 0 ≤ N
  s : ∀ k, 0 ≤ s.getD k 0 ∧ s.getD k 0 ≤ N
  c : ∀ i j, 0 ≤ (C.getD i []).getD j 0 ∧ (C.getD i []).getD j 0 ≤ N
theorem BdT.ent {N : Int} {r s : List Int} {C : LL} (h : BdT N r s C) (hN : 0 ≤ N) (i j : Nat) : 0 ≤ entT r s C i j ∧ entT r s C i j ≤ N := by
  unfold entT
  split
  · split
    · exact ⟨Int.le_refl _, hN⟩
    · exact h.s _
  · split
    · exact h.r _
    · exact h.c _ _
theorem getD_setI (l : List Int) (i k : Nat) (x : Int) : (l.set i x).getD k 0 = if i = k ∧ k < l.length then x else l.getD k 0 := by
  simp only [List.getD, List.getElem?_set]
  by_cases h : i = k
  · subst h
    by_cases h2 : i < l.length
    · simp [h2]
    · simp [h2, List.getElem?_eq_none (Nat.le_of_not_lt h2)]
  · simp [h]
theorem set_getD_self (l : List Int) (i : Nat) : l.set i (l.getD i 0) = l := by
  apply List.ext_getElem?
  intro k
  rw [List.getElem?_set]
  split
  · rename_i e; subst e
    split
    · rename_i h; simp [List.getD, h]
    · rename_i h; rw [List.getElem?_eq_none (Nat.le_of_not_lt h)]
  · rfl
theorem getD_setL (l : LL) (i k : Nat) (x : List Int) : (l.set i x).getD k [] = if i = k ∧ k < l.length then x else l.getD k [] := by
  simp only [List.getD, List.getElem?_set]
  by_cases h : i = k
  · subst h
    by_cases h2 : i < l.length
    · simp [h2]
    · simp [h2, List.getElem?_eq_none (Nat.le_of_not_lt h2)]
  · simp [h]
theorem dat_set (C : List Row) (i : Nat) (R : Row) : dat (C.set i R) = (dat C).set i R.xs := by simp [dat, List.map_set]
theorem div_mod_at {i j n : Nat} (hj : j < n) : (i * n + j) / n = i ∧ (i * n + j) % n = j := by
  constructor
  · rw [Nat.mul_comm, Nat.mul_add_div (by omega), Nat.div_eq_of_lt hj]; rfl
  · rw [Nat.mul_comm, Nat.mul_add_mod, Nat.mod_eq_of_lt hj]
/-- one cell more -/
def stepF (q : Nat) (r s : List Int) (C : LL) (i j x : Nat) : LL := fillE q (r.set i (r.getD i 0 - 2 ^ (j + 1) * x)) (s.set j (s.getD j 0 - x)) (C.set i ((C.getD i []).set j (x : Int)))
theorem fillE_succ {q i j : Nat} {r s : List Int} {C : LL} (hj : j < s.length) (h : i * s.length + j + (q + 1) = r.length * s.length) : fillE (q + 1) r s C = (List.range (mostT r s i j + 1)).flatMap (stepF q r s C i j) := by
  have hp : r.length * s.length - (q + 1) = i * s.length + j := by omega
  obtain ⟨h1, h2⟩ := div_mod_at (i := i) hj
  simp only [fillE]
  rw [hp, h1, h2]; rfl
theorem flat_range_succ (f : Nat → LL) (x : Nat) : (List.range (x + 1)).flatMap f = (List.range x).flatMap f ++ f x := by
  rw [List.range_succ, List.flatMap_append]; simp
theorem flat_range_le (f : Nat → LL) {x y : Nat} (h : x ≤ y) : ((List.range x).flatMap f).length ≤ ((List.range y).flatMap f).length := by
  obtain ⟨d, rfl⟩ : ∃ d, y = x + d := ⟨y - x, by omega⟩
  rw [List.range_add, List.flatMap_append, List.length_append]; omega
theorem dat_app (L M : List Row) : dat (L ++ M) = dat L ++ dat M := by simp [dat]

theorem pow_step {j : Nat} (h : j ≤ 10) : (0 : Int) < 2 ^ (j + 1) ∧ (2 : Int) ^ (j + 1) ≤ 2048 ∧ (2 : Int) * 2 ^ j = 2 ^ (j + 1) := by
  have h1 : (2 : Nat) ^ (j + 1) ≤ 2 ^ 11 := Nat.pow_le_pow_right (by omega) (by omega)
  have e : ((2 ^ (j + 1) : Nat) : Int) = (2 : Int) ^ (j + 1) := by simp
  have h2 : (2 : Int) ^ (j + 1) = 2 ^ j * 2 := Int.pow_succ _ _
  have h3 : (0 : Int) < 2 ^ (j + 1) := Int.pow_pos (by omega)
  refine ⟨h3, by rw [← e]; omega, by omega⟩

end Go.Proofs.Ytnffpjdlpjkioaa

namespace Go.Proofs.Ytnffpjdlpjkioaa
open Go.RowKit

/-- numbers that a basis element's list can hold -/
def BdL (r : List Int) : Prop := r.length ≤ 10 ∧ ∀ x ∈ r, 0 ≤ x ∧ x ≤ 100000
theorem BdL.get {r : List Int} (h : BdL r) (k : Nat) : 0 ≤ r.getD k 0 ∧ r.getD k 0 ≤ 100000 := by
  by_cases hk : k < r.length
  · exact h.2 _ (by simp [List.getD, hk])
  · rw [show r.getD k 0 = 0 from by simp [List.getD, List.getElem?_eq_none (Nat.le_of_not_lt hk)]]; omega

end Go.Proofs.Ytnffpjdlpjkioaa

namespace Go.Proofs.Ytnffpjdlpjkioaa
open Go.RowKit

set_option maxHeartbeats 1000000 in
theorem slEqual_any (A B : Option Addr) (n n' c c' : Nat) (x y : List Int) (w : World) (hn : n = x.length) (hn' : n' = y.length) (hsm : n ≤ 1099511627776) (hsm' : n' ≤ 1099511627776) (hA : Rd w A (iv x)) (hB : Rd w B (iv y)) :
    Calls Try.prog 93 #[.slice A n c, .slice B n' c'] w fun e w' => e = .returned (.bool (x == y)) ∧ ∃ m, w.drewN m = w' := by
  by_cases hnn : n = n'
  · subst hnn
    have HA := Lib.hid hA
    have HB := Lib.hid hB
    have Hn := Lib.hid hn
    have Hn' := Lib.hid hn'
    clear hA hB hn hn' hsm'
    go_enter Try.func93, Try.ntmps93
    go_wp2_with fail
    go_loopw [13] (fun i wr => ∃ k j : Nat, k ≤ n ∧ i = .int .i64 k ∧ wr = w.drewN j ∧ Hid (∀ t, t < k → x.getD t 0 = y.getD t 0)) (fun i _ => n - (intOf i).toNat)
    case atStart => exact ⟨0, 0, by omega, rfl, rfl, Lib.hid (fun t ht => by omega)⟩
    case round =>
      obtain ⟨k, j, hk, rfl, rfl, HQ⟩ := hrel
      by_cases hlt : k < n
      · obtain ⟨b1, o1, rfl, hc1⟩ := HA.out.atI (k := k) (by rw [← Hn.out]; exact hlt)
        obtain ⟨b2, o2, rfl, hc2⟩ := HB.out.atI (k := k) (by rw [← Hn'.out]; exact hlt)
        generalize hp : x.getD k 0 = p at *
        generalize hq : y.getD k 0 = q at *
        have HP := Lib.hid hp
        have HQ' := Lib.hid hq
        clear hp hq
        by_cases e : p = q
        · subst e
          go_wp2_with fail
          go_quiet (fail)
          go_wp2_with fail
          go_roundw
          case rel =>
            refine ⟨k + 1, _, by omega, by go_num, rfl, Lib.hid (fun t ht => ?_)⟩
            by_cases e : t = k
            · subst e; rw [HP.out, HQ'.out]
            · exact HQ.out t (by omega)
          case measure => simp [intOf]; omega
        · have heb : (p != q) = true := by simpa using e
          have HF : Hid ((x == y) = false) := Lib.hid (by
            rw [beq_eq_false_iff_ne]; intro h; subst h; exact e (HP.out.symm.trans HQ'.out))
          clear e
          go_wp2_with fail
          go_quiet (fail)
          go_wp2_with fail
          go_ret
          exact ⟨by rw [HF.out]; rfl, _, by rw [World.drewN_drewN]⟩
      · have HT : Hid ((x == y) = true) := Lib.hid (by
          rw [beq_iff_eq]
          exact list_ext_getD Hn.out.symm Hn'.out.symm (fun i hi => HQ.out i (by omega)))
        go_wp2_with fail
        go_ret
        exact ⟨by rw [HT.out]; rfl, j, rfl⟩
  · have hnb : ((n : Int) != (n' : Int)) = true := by simp; omega
    have HF : Hid ((x == y) = false) := Lib.hid (by
      rw [beq_eq_false_iff_ne]; intro h; subst h; exact hnn (hn.trans hn'.symm))
    clear hA hB hn hn' hnn
    go_enter Try.func93, Try.ntmps93
    go_wp2_with fail
    go_ret
    exact ⟨by rw [HF.out]; rfl, 0, rfl⟩


theorem hv_one (L : List Row) : ∀ u ∈ hv L, u.oneCell' = true := by
  intro u hu
  obtain ⟨x, _, rfl⟩ := List.mem_map.1 hu
  rfl
theorem putR_len : ∀ (Q : LL) (x : List Int), (putR Q x).length ≤ Q.length + 1
  | [], x => by simp [putR]
  | y :: Q, x => by
    unfold putR
    split
    · have := putR_len Q x; simp; omega
    · split
      · simp; omega
      · simp
theorem foldl_len (L : LL) : ∀ Q : LL, (L.foldl putR Q).length ≤ Q.length + L.length := by
  induction L with
  | nil => intro Q; simp
  | cons x L ih => intro Q; rw [List.foldl_cons]; have := ih (putR Q x); have := putR_len Q x; simp; omega
theorem nf_len (L : LL) : (nf L).length ≤ L.length := by have := foldl_len L []; simpa [nf] using this
end Go.Proofs.Ytnffpjdlpjkioaa

namespace Go.Proofs.Ytnffpjdlpjkioaa
open Go.RowKit

/-- what lies behind a place is greater than what lies ahead of it -/
def Bnd (S : LL) (i : Nat) : Prop := ∀ a b, a < i → i ≤ b → b < S.length → lexLt (S.getD a []) (S.getD b []) = true
theorem srt_dat {S : List Row} (h : Srt S) : ∀ a b, a < b → b < (dat S).length → lexLt ((dat S).getD b []) ((dat S).getD a []) = false := by
  intro a b hab hb
  rw [dat_length] at hb
  have := List.pairwise_iff_getElem.1 h a b (by omega) hb hab
  rw [dat_getD, dat_getD, rg_of hb, rg_of (by omega : a < S.length)]
  exact this
theorem Bnd.next {S : LL} (hs : ∀ a b, a < b → b < S.length → lexLt (S.getD b []) (S.getD a []) = false) {i k : Nat} (h : Bnd S i) (hik : i < k) (hx : ∀ j, i ≤ j → j < k → S.getD j [] = S.getD i []) (hk : k < S.length → S.getD k [] ≠ S.getD i []) : Bnd S k := by
  intro a b ha hb hbl
  have hkl : k < S.length := by omega
  have h1 : lexLt (S.getD i []) (S.getD k []) = true := by
    rcases lexLt_total (S.getD i []) (S.getD k []) with h1 | h1 | h1
    · exact h1
    · rw [hs i k hik hkl] at h1; cases h1
    · exact absurd h1.symm (hk hkl)
  have h2 : lexLt (S.getD i []) (S.getD b []) = true := by
    by_cases e : k = b
    · subst e; exact h1
    · rcases lexLt_total (S.getD i []) (S.getD b []) with h3 | h3 | h3
      · exact h3
      · rw [hs i b (by omega) hbl] at h3; cases h3
      · have := hs k b (by omega) hbl
        rw [← h3, h1] at this; cases this
  by_cases ai : a < i
  · exact h a b ai (by omega) hbl
  · rw [hx a (by omega) ha]; exact h2

end Go.Proofs.Ytnffpjdlpjkioaa

namespace Go.Proofs.Ytnffpjdlpjkioaa
open Go.RowKit

theorem hv_app (L K : List Row) : hv (L ++ K) = hv L ++ hv K := by simp [hv]
theorem rg_appL (L K : List Row) {i : Nat} (h : i < L.length) : rg (L ++ K) i = rg L i := by simp [rg, List.getD, List.getElem?_append, h]
theorem rg_appR (L K : List Row) {i : Nat} (h : L.length ≤ i) : rg (L ++ K) i = rg K (i - L.length) := by simp [rg, List.getD, List.getElem?_append_right h]
theorem RdR.app {w : World} {A A' B : Option Addr} {L K : List Row} (h : RdR w A L) (k : RdR w A' K) (ho : Rd w B (hv L ++ hv K)) : RdR w B (L ++ K) := by
  refine ⟨by rw [hv_app]; exact ho, fun i hi => ?_, fun i hi => ?_⟩
  · by_cases h1 : i < L.length
    · rw [rg_appL L K h1]; exact h.inn i h1
    · rw [rg_appR L K (by omega)]; exact k.inn _ (by simp at hi; omega)
  · by_cases h1 : i < L.length
    · rw [rg_appL L K h1]; exact h.cap i h1
    · rw [rg_appR L K (by omega)]; exact k.cap _ (by simp at hi; omega)

/-- an own row of rows behind another one -/
theorem OwnR.appO {wr w1 w2 : World} {B n : Nat} {v vO v' : Value} {M O : List Row} (h : OwnR wr B v M) (hB : B ≤ wr.heap.size) (hb : Below wr.heap.size wr w1) (hO : OwnR w1 wr.heap.size vO O) (hn : n = M.length + O.length)
    (hown : w2.ownsRow B 30 1 v' n (hv M ++ hv O)) (hg : w1.grownBy w2 v.ownBlock) : OwnR w2 B v' (M ++ O) := by
  have hk : Keeps w1 w2 [v.ownBlock] := Keeps.of_grown hg
  have h1 := h.later hb
  refine ⟨by rw [List.length_append, hv_app, ← hn]; exact hown, fun i hi => ?_, fun i j hi hj hne => ?_⟩
  · by_cases hi1 : i < M.length
    · rw [rg_appL M O hi1]; exact owns_keeps (h1.inn i hi1) hk (by have := h1.io hi1; simpa using this)
    · rw [rg_appR M O (by omega)]
      have hi2 : i - M.length < O.length := by simp at hi; omega
      exact owns_keeps ((hO.inn _ hi2).mono hB) hk (by have := own_ne2 (hO.inn _ hi2) h1.out (by decide); simpa using this)
  · have key : ∀ a b, a < M.length → b < O.length → ((rg M a).val.ownBlock = none ∨ (rg M a).val.ownBlock ≠ (rg O b).val.ownBlock) := by
      intro a b ha hb2
      by_cases hx : (rg M a).val.ownBlock = none
      · exact .inl hx
      · obtain ⟨k, hk2⟩ := Option.ne_none_iff_exists'.1 hx
        refine .inr fun e => ?_
        have l1 := ((h.inn a ha).lt k hk2).2
        have l2 := ((hO.inn b hb2).lt k (by rw [← e]; exact hk2)).1
        omega
    by_cases hi1 : i < M.length
    · by_cases hj1 : j < M.length
      · rw [rg_appL M O hi1, rg_appL M O hj1]; exact h.dis i j hi1 hj1 hne
      · rw [rg_appL M O hi1, rg_appR M O (by omega)]; exact key i _ hi1 (by simp at hj; omega)
    · by_cases hj1 : j < M.length
      · rw [rg_appR M O (by omega), rg_appL M O hj1]; exact none_or_symm (key j _ hj1 (by simp at hi; omega))
      · rw [rg_appR M O (by omega), rg_appR M O (by omega)]; exact hO.dis _ _ (by simp at hi; omega) (by simp at hj; omega) (by omega)
theorem trimL_len (t : List Int) : (trimL t).length ≤ t.length := by unfold trimL; rw [List.length_take]; omega
theorem fillE_len : ∀ (q : Nat) (r s : List Int) (C : LL) (t : List Int), t ∈ fillE q r s C → t.length ≤ r.length + s.length := by
  intro q
  induction q with
  | zero =>
    intro r s C t ht
    unfold fillE resT at ht
    split at ht
    · rw [List.mem_singleton] at ht; subst ht
      have := trimL_len (totT r s C)
      rwa [totT_length] at this
    · cases ht
  | succ q ih =>
    intro r s C t ht
    simp only [fillE, List.mem_flatMap] at ht
    obtain ⟨x, _, hx⟩ := ht
    have := ih _ _ _ t hx
    simpa using this
theorem flat_take_succ {L : LL} {f : List Int → LL} {k : Nat} (h : k < L.length) : (L.take (k + 1)).flatMap f = (L.take k).flatMap f ++ f (L.getD k []) := by
  rw [List.take_succ_eq_append_getElem h, List.flatMap_append]; simp [List.getD, h]
theorem flat_take_le {L : LL} {f : List Int → LL} (k : Nat) : ((L.take k).flatMap f).length ≤ (L.flatMap f).length := by
  conv => rhs; rw [← List.take_append_drop k L, List.flatMap_append, List.length_append]
  omega

end Go.Proofs.Ytnffpjdlpjkioaa
