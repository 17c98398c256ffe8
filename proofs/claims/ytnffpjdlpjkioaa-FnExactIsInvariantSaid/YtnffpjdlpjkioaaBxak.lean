/- the reference's linear forms as terms · plain: bags of monomials of a degree, their products, powers and forms; codes of these · rows of maps · impl.dickson: a row of maps · the reference's l06Scaled, l10Squared, l10Raised · the reference's products, sums, squares of polynomials of a degree; l10Dickson · the reference's l10Dickson (printed by mkft.py) -/
import Derived.Test.YtnffpjdlpjkioaaBxaj
import Derived.Test.YtnffpjdlpjkioaaBxac
import Derived.Test.YtnffpjdlpjkioaaBxai
set_option linter.all false
namespace Go.Proofs.Ytnffpjdlpjkioaa
open Go.RowKit

/-- the exponents of a variable -/
def unitM (k j : Nat) : List Int := (List.replicate k 0).set j 1
theorem unitM_length (k j : Nat) : (unitM k j).length = k := by simp [unitM]
/-- the variables of a mask -/
def formM (k m : Nat) : Nat → LL
  | 0 => []
  | j + 1 => if tb m j = true then formM k m j ++ [unitM k j] else formM k m j
theorem formM_mem {k m : Nat} : ∀ {j : Nat}, ∀ x ∈ formM k m j, x.length = k
  | 0, _, h => by cases h
  | j + 1, x, h => by
    unfold formM at h
    split at h
    · rcases List.mem_append.1 h with h | h
      · exact formM_mem x h
      · rw [List.mem_singleton.1 h, unitM_length]
    · exact formM_mem x h
theorem formM_len (k m : Nat) : ∀ j, (formM k m j).length ≤ j
  | 0 => Nat.le_refl _
  | j + 1 => by
    have := formM_len k m j
    unfold formM
    split <;> simp <;> omega

attribute [local go_sem] i64_bit_test in
set_option maxRecDepth 100000 in
set_option maxHeartbeats 1000000 in
theorem l08Form_any (k m : Nat) (w : World) (hk : k ≤ 60) (hm : Sm m) : Calls Try.prog 76 #[.int .i64 k, .int .i64 m] w (RdResY (nf (formM k m k)) w) := by
  have hmk := run_make_row' (P := Try.prog) 30 2 (.int .i64 0) 8 Try.underlying30 infoI rfl .i64 .i64 k (by omega) (by omega)
  go_enter Try.func76, Try.ntmps76
  go_wp2_with fail
  go_loopw [5, 6] (fun vv i wr => ∃ (j : Nat) (Ao : Option Addr) (co : Nat) (R : List Row), j ≤ k ∧ i = .int .i64 j ∧ vv = .slice Ao R.length co ∧ dat R = nf (formM k m j) ∧ RdY wr Ao R ∧ R.length ≤ co ∧ Below w.heap.size w wr) (fun _ i _ => k - (intOf i).toNat)
  case atStart => exact ⟨0, some ⟨w.heap.size, 0, none⟩, 0, [], by omega, rfl, rfl, rfl, RdY.nil _ _, Nat.le_refl _, (Below.refl _ _).alloc (Nat.le_refl _) _⟩
  case round =>
    obtain ⟨j, Ao, co, R, hj, rfl, rfl, hdat, hR, hco, hb⟩ := hrel
    have HRL := Lib.hid (row_len hdat formM_mem (by omega))
    have HSL : Hid (R.length ≤ 600000000000) := Lib.hid (by
      have h1 := nf_len (formM k m j)
      have h2 := formM_len k m j
      rw [← hdat, dat_length] at h1
      omega)
    have HD := Lib.hid hdat
    have HR := Lib.hid hR
    have HBL := Lib.hid hb
    have HST : Hid (formM k m (j + 1) = if tb m j = true then formM k m j ++ [unitM k j] else formM k m j) := Lib.hid rfl
    clear hdat hR hb
    by_cases hlt : j < k
    · have hmin : min j 64 = j := by omega
      cases htb : tb m j
      · have HT := Lib.hid htb
        go_wp2_with fail
        go_roundw
        case rel => exact ⟨j + 1, Ao, co, R, by omega, by go_num, rfl, by rw [HD.out, HST.out, if_neg (by rw [HT.out]; simp)], HR.out, hco, HBL.out⟩
        case measure => simp [intOf]; omega
      · have HT := Lib.hid htb
        have hO := made_own wr wr.heap.size k (Nat.le_refl _) (by omega)
        have hc := owns_getD hO (k := j) hlt
        have hf := hO.frozenAt j
        have h3 := (World.ownsRow.stored hO j (.int .i64 1)).1
        rw [← iv_set] at h3
        have H3 := Lib.hid h3
        have HBm : Hid (Below wr.heap.size wr ((wr.alloc (.cells (madeCells #[.int .i64 0] k) 2)).setCell ⟨wr.heap.size, j, none⟩ (.int .i64 1))) := Lib.hid (((Below.refl _ _).alloc (Nat.le_refl _) _).setCell (p := ⟨wr.heap.size, j, none⟩) (Nat.le_refl _) _)
        clear hO h3
        go_wp2_with fail
        have h4 := H3.out
        have hb4 := HBm.out
        rw [World.setCell_alloc_at _ _ _ _ _ rfl] at h4 hb4
        refine (l01PutY_any Ao (some ⟨wr.heap.size, 0, none⟩) R.length co k k R (unitM k j) _ rfl hco HSL.out HRL.out (unitM_length _ _).symm (by omega) (HR.out.below hb4) (owns_Rd h4)).mono ?_
        rintro e w2 ⟨A3, c3, T, rfl, hd3, hr3, hc3, hb3⟩
        have HB3 := Lib.hid (HBL.out.trans ((hb4.trans (hb3.mono hb4.size)).mono HBL.out.size))
        have HD3 := Lib.hid hd3
        have HR3 := Lib.hid hr3
        clear hd3 hr3 hb3 h4 hb4
        go_wp2_with fail
        go_roundw
        case rel => exact ⟨j + 1, A3, c3, T, by omega, by go_num, rfl, by rw [HD3.out, HD.out, HST.out, if_pos HT.out]; exact (nf_snoc _ _).symm, HR3.out, hc3, HB3.out⟩
        case measure => simp [intOf]; omega
    · obtain rfl : j = k := by omega
      go_wp2_with fail
      go_ret
      exact ⟨Ao, co, R, rfl, HD.out, HR.out, hco, HBL.out⟩
end Go.Proofs.Ytnffpjdlpjkioaa

namespace Go.Proofs.Ytnffpjdlpjkioaa
open Go.RowKit

theorem beq_inst : (instBEqOfDecidableEq : BEq (List Int)) = List.instBEq := by
  have h : (@BEq.beq (List Int) instBEqOfDecidableEq) = (@BEq.beq (List Int) List.instBEq) := funext fun a => funext fun b =>
    Bool.eq_iff_iff.2 ((@beq_iff_eq _ instBEqOfDecidableEq _ a b).trans (@beq_iff_eq _ List.instBEq _ a b).symm)
  exact congrArg BEq.mk h
theorem count_inst (z : List Int) (L : LL) : @List.count _ instBEqOfDecidableEq z L = L.count z := by rw [beq_inst]
theorem eqv_iff {L M : LL} : Eqv L M ↔ ∀ z, L.count z % 2 = M.count z % 2 := by
  constructor
  · intro h z
    have := h z
    rw [count_inst, count_inst] at this
    exact this
  · intro h z
    rw [count_inst, count_inst]
    exact h z
theorem nf_eqv {L M : LL} (h : Eqv L M) : nf L = nf M := nf_congr (eqv_iff.1 h)
theorem eqv_nf (M : LL) : Eqv (nf M) M := eqv_iff.2 fun z => by
  rw [count_as (as_nf M)]
  have := mem_nf (L := M) (z := z)
  by_cases h : z ∈ nf M
  · rw [if_pos h]; have := this.1 h; omega
  · rw [if_neg h]; have h2 : ¬ (M.count z % 2 = 1) := fun k => h (this.2 k); omega
theorem plusM_comm (a b : List Int) : plusM a b = plusM b a := by
  unfold plusM
  exact List.zipWith_comm_of_comm (fun x y => Int.add_comm x y)
theorem cod_plus : ∀ {x y : List Int}, x.length = y.length → cod (plusM x y) = cod x + cod y
  | [], [], _ => rfl
  | [], _ :: _, h => by simp at h
  | _ :: _, [], h => by simp at h
  | a :: x, b :: y, h => by
    have ih := cod_plus (x := x) (y := y) (by simpa using h)
    show (a + b) + 64 * cod (plusM x y) = _
    rw [ih]
    show _ = (a + 64 * cod x) + (b + 64 * cod y)
    omega
theorem sum_plusM : ∀ {x y : List Int}, x.length = y.length → (plusM x y).sum = x.sum + y.sum
  | [], [], _ => rfl
  | [], _ :: _, h => by simp at h
  | _ :: _, [], h => by simp at h
  | a :: x, b :: y, h => by
    have ih := sum_plusM (x := x) (y := y) (by simpa using h)
    show ((a + b) :: plusM x y).sum = _
    rw [List.sum_cons, ih, List.sum_cons, List.sum_cons]
    omega
theorem plusM_nonneg : ∀ {x y : List Int}, (∀ e ∈ x, 0 ≤ e) → (∀ e ∈ y, 0 ≤ e) → ∀ e ∈ plusM x y, 0 ≤ e
  | [], _, _, _, e, h => by simp [plusM] at h
  | _ :: _, [], _, _, e, h => by simp [plusM] at h
  | a :: x, b :: y, hx, hy, e, h => by
    rcases List.mem_cons.1 (show e ∈ (a + b) :: plusM x y from h) with rfl | h
    · have := hx a (List.mem_cons_self ..); have := hy b (List.mem_cons_self ..); omega
    · exact plusM_nonneg (fun e he => hx e (List.mem_cons_of_mem _ he)) (fun e he => hy e (List.mem_cons_of_mem _ he)) e h
theorem prodM_nil (P : LL) : prodM P [] = [] := by
  induction P with
  | nil => rfl
  | cons a P ih => simpa [prodM] using ih
theorem prodM_consL (a : List Int) (P Q : LL) : prodM (a :: P) Q = Q.map (plusM a) ++ prodM P Q := rfl
theorem prodM_consR (y : List Int) (P Q : LL) : (prodM P (y :: Q)).Perm (P.map (plusM y) ++ prodM P Q) := by
  induction P with
  | nil => exact List.Perm.refl _
  | cons a P ih =>
    rw [prodM_consL, prodM_consL, List.map_cons, List.map_cons, plusM_comm a y]
    refine List.Perm.cons _ ?_
    refine (List.Perm.append_left _ ih).trans ?_
    show (Q.map (plusM a) ++ (P.map (plusM y) ++ prodM P Q)).Perm (P.map (plusM y) ++ (Q.map (plusM a) ++ prodM P Q))
    rw [← List.append_assoc, ← List.append_assoc]
    exact List.Perm.append_right _ List.perm_append_comm
theorem prodM_comm (P Q : LL) : (prodM P Q).Perm (prodM Q P) := by
  induction P with
  | nil => rw [prodM_nil]; exact List.Perm.refl _
  | cons a P ih => exact (List.Perm.append_left _ ih).trans (prodM_consR a Q P).symm
theorem prodM_eqv {P P' Q Q' : LL} (h : Eqv P P') (k : Eqv Q Q') : Eqv (prodM P Q) (prodM P' Q') := (h.flat _).trans (Eqv.flatR fun a _ => k.map _)
theorem prodB_cod {k : Nat} {P Q : LL} (hP : ∀ x ∈ P, x.length = k) (hQ : ∀ x ∈ Q, x.length = k) : prodB (P.map cod) (Q.map cod) = (prodM P Q).map cod := by
  unfold prodB prodM
  rw [List.flatMap_map, List.map_flatMap]
  refine flatMap_congr' fun a ha => ?_
  rw [List.map_map, List.map_map]
  refine List.map_congr_left fun b hb => ?_
  exact (cod_plus (by rw [hP a ha, hQ b hb])).symm
theorem Eqv.cod {L M : LL} (h : Eqv L M) : Eqv (L.map cod) (M.map cod) := h.map _

/-- exponents of k variables, of degree d -/
def HomM (k d : Nat) (M : LL) : Prop := ∀ x ∈ M, x.length = k ∧ (∀ e ∈ x, 0 ≤ e) ∧ x.sum = (d : Int)
theorem HomM.nil {k d : Nat} : HomM k d [] := fun x h => by cases h
theorem HomM.app {k d : Nat} {L M : LL} (h : HomM k d L) (h' : HomM k d M) : HomM k d (L ++ M) := fun x hx => by
  rcases List.mem_append.1 hx with hx | hx
  · exact h x hx
  · exact h' x hx
theorem HomM.sub {k d : Nat} {L M : LL} (h : HomM k d M) (hs : ∀ x ∈ L, x ∈ M) : HomM k d L := fun x hx => h x (hs x hx)
theorem HomM.nf {k d : Nat} {M : LL} (h : HomM k d M) : HomM k d (nf M) := h.sub fun _ hx => nf_sub hx
theorem HomM.len {k d : Nat} {M : LL} (h : HomM k d M) : ∀ x ∈ M, x.length = k := fun x hx => (h x hx).1
theorem HomM.prod {k d d' : Nat} {P Q : LL} (h : HomM k d P) (h' : HomM k d' Q) : HomM k (d + d') (prodM P Q) := fun x hx => by
  obtain ⟨a, ha, hx⟩ := List.mem_flatMap.1 hx
  obtain ⟨b, hb, rfl⟩ := List.mem_map.1 hx
  obtain ⟨a1, a2, a3⟩ := h a ha
  obtain ⟨b1, b2, b3⟩ := h' b hb
  refine ⟨plusM_length a1 b1, plusM_nonneg a2 b2, ?_⟩
  rw [sum_plusM (by rw [a1, b1]), a3, b3]
  omega
theorem le_sum : ∀ {x : List Int}, (∀ e ∈ x, 0 ≤ e) → 0 ≤ x.sum ∧ ∀ e ∈ x, e ≤ x.sum
  | [], _ => ⟨by simp, fun e h => by cases h⟩
  | a :: x, h => by
    obtain ⟨h1, h2⟩ := le_sum fun e he => h e (List.mem_cons_of_mem _ he)
    have h3 := h a (List.mem_cons_self ..)
    rw [List.sum_cons]
    refine ⟨by omega, fun e he => ?_⟩
    rcases List.mem_cons.1 he with rfl | he
    · omega
    · have := h2 e he; omega
theorem HomM.mon {k d : Nat} {M : LL} (h : HomM k d M) (hd : d < 64) : ∀ x ∈ M, Mon k x := fun x hx => by
  obtain ⟨h1, h2, h3⟩ := h x hx
  refine ⟨h1, fun e he => ⟨h2 e he, ?_⟩⟩
  have := (le_sum h2).2 e he
  omega
theorem HomM.exps {k d : Nat} {M : LL} (h : HomM k d M) (hd : d < 64) : Exps k M := fun x hx => by
  obtain ⟨h1, h2⟩ := h.mon hd x hx
  refine ⟨h1, fun e he => ?_⟩
  have := h2 e he
  omega
theorem HomM.cb {k d : Nat} {M : LL} (h : HomM k d M) (hd : d < 64) (hk : k ≤ 4) : CB (M.map cod) := cod_cb hk (h.mon hd)
theorem sum_rep0 (k : Nat) : (List.replicate k (0 : Int)).sum = 0 := by induction k <;> simp_all [List.replicate_succ]
theorem HomM.one (k : Nat) : HomM k 0 [List.replicate k 0] := fun x hx => by
  rw [List.mem_singleton.1 hx]
  exact ⟨by simp, fun e he => by rw [(List.mem_replicate.1 he).2]; exact Int.le_refl _, by rw [sum_rep0]; rfl⟩
theorem cod_rep0 : ∀ k : Nat, cod (List.replicate k 0) = 0
  | 0 => rfl
  | k + 1 => by rw [List.replicate_succ]; show (0 : Int) + 64 * cod _ = 0; rw [cod_rep0 k]; rfl

/-- exponents times a number -/
def scaM (p : Int) (x : List Int) : List Int := x.map (· * p)
theorem scaM_length (p : Int) (x : List Int) : (scaM p x).length = x.length := by simp [scaM]
theorem cod_sca (p : Int) : ∀ x : List Int, cod (scaM p x) = cod x * p
  | [] => by simp [scaM, cod]
  | e :: x => by
    show e * p + 64 * cod (scaM p x) = (e + 64 * cod x) * p
    rw [cod_sca p x, Int.add_mul, Int.mul_assoc]
theorem sum_sca (p : Int) : ∀ x : List Int, (scaM p x).sum = x.sum * p
  | [] => by simp [scaM]
  | e :: x => by
    show (e * p :: scaM p x).sum = _
    rw [List.sum_cons, sum_sca p x, List.sum_cons, Int.add_mul]
theorem HomM.sca {k d : Nat} {M : LL} (h : HomM k d M) (p : Nat) : HomM k (d * p) (M.map (scaM p)) := fun x hx => by
  obtain ⟨y, hy, rfl⟩ := List.mem_map.1 hx
  obtain ⟨h1, h2, h3⟩ := h y hy
  refine ⟨by rw [scaM_length, h1], fun e he => ?_, by rw [sum_sca, h3]; simp⟩
  obtain ⟨f, hf, rfl⟩ := List.mem_map.1 he
  exact Int.mul_nonneg (h2 f hf) (Int.natCast_nonneg p)
theorem map_cod_sca (M : LL) (p : Int) : (M.map cod).map (· * p) = (M.map (scaM p)).map cod := by
  rw [List.map_map, List.map_map]
  exact List.map_congr_left fun x _ => (cod_sca p x).symm
theorem scaM_one (x : List Int) : scaM 1 x = x := by simp [scaM]
theorem scaM_two (p : Int) (x : List Int) : scaM p (scaM 2 x) = scaM (2 * p) x := by
  unfold scaM
  rw [List.map_map]
  exact List.map_congr_left fun e _ => by show e * 2 * p = e * (2 * p); rw [Int.mul_assoc]
theorem scaM_plus (x : List Int) : plusM x x = scaM 2 x := by
  unfold plusM scaM
  induction x with
  | nil => rfl
  | cons a x ih => rw [List.zipWith_cons_cons, ih, List.map_cons]; congr 1; omega

/-- the number of monomials of degree d -/
def cntM : Nat → Nat → Nat
  | 0, _ => 0
  | 1, _ => 1
  | k + 2, d => ((List.range (d + 1)).map fun n => cntM (k + 1) (d - n)).sum
/-- all monomials of degree d, in order -/
def allM : Nat → Nat → LL
  | 0, _ => []
  | 1, d => [[(d : Int)]]
  | k + 2, d => (List.range (d + 1)).flatMap fun n => (allM (k + 1) (d - n)).map ((n : Int) :: ·)
theorem allM_len : ∀ k d, (allM k d).length = cntM k d
  | 0, _ => rfl
  | 1, _ => rfl
  | k + 2, d => by
    show ((List.range (d + 1)).flatMap fun n => (allM (k + 1) (d - n)).map ((n : Int) :: ·)).length = ((List.range (d + 1)).map fun n => cntM (k + 1) (d - n)).sum
    rw [List.length_flatMap]
    congr 1
    refine List.map_congr_left fun n _ => ?_
    rw [List.length_map, allM_len]
theorem mem_allM : ∀ {k d : Nat} {x : List Int}, 0 < k → x.length = k → (∀ e ∈ x, 0 ≤ e) → x.sum = (d : Int) → x ∈ allM k d
  | 1, d, x, _, h1, h2, h3 => by
    match x, h1 with
    | [a], _ => 
      have : a = (d : Int) := by simpa using h3
      subst this
      exact List.mem_singleton.2 rfl
  | k + 2, d, x, _, h1, h2, h3 => by
    match x, h1 with
    | a :: x, h1 =>
      have ha := h2 a (List.mem_cons_self ..)
      have hs := (le_sum fun e he => h2 e (List.mem_cons_of_mem a he)).1
      rw [List.sum_cons] at h3
      obtain ⟨n, rfl⟩ := Int.eq_ofNat_of_zero_le ha
      refine List.mem_flatMap.2 ⟨n, List.mem_range.2 (by omega), List.mem_map.2 ⟨x, ?_, rfl⟩⟩
      exact mem_allM (by omega) (by simpa using h1) (fun e he => h2 e (List.mem_cons_of_mem _ he)) (by omega)
theorem hom_allM : ∀ k d : Nat, HomM k d (allM k d)
  | 0, _ => HomM.nil
  | 1, d => fun x hx => by
    rw [List.mem_singleton.1 hx]
    exact ⟨rfl, fun e he => by rw [List.mem_singleton.1 he]; exact Int.natCast_nonneg d, by simp⟩
  | k + 2, d => fun x hx => by
    obtain ⟨n, hn, hx⟩ := List.mem_flatMap.1 hx
    obtain ⟨y, hy, rfl⟩ := List.mem_map.1 hx
    obtain ⟨h1, h2, h3⟩ := hom_allM (k + 1) (d - n) y hy
    have := List.mem_range.1 hn
    refine ⟨by simp [h1], fun e he => ?_, by rw [List.sum_cons, h3]; omega⟩
    rcases List.mem_cons.1 he with rfl | he
    · exact Int.natCast_nonneg n
    · exact h2 e he
theorem sum_le {α : Type} {f : α → Nat} {c : Nat} : ∀ {L : List α}, (∀ x ∈ L, f x ≤ c) → (L.map f).sum ≤ L.length * c
  | [], _ => Nat.zero_le _
  | x :: L, h => by
    have h1 := h x (List.mem_cons_self ..)
    have h2 := sum_le (L := L) fun y hy => h y (List.mem_cons_of_mem _ hy)
    rw [List.map_cons, List.sum_cons, List.length_cons, Nat.succ_mul]
    omega
theorem cntM_pow : ∀ k d : Nat, cntM (k + 1) d ≤ (d + 1) ^ k
  | 0, _ => Nat.le_refl _
  | k + 1, d => by
    have h := sum_le (f := fun n => cntM (k + 1) (d - n)) (c := (d + 1) ^ k) (L := List.range (d + 1)) fun n _ =>
      Nat.le_trans (cntM_pow k (d - n)) (Nat.pow_le_pow_left (by omega) k)
    rw [List.length_range] at h
    rw [Nat.pow_succ, Nat.mul_comm]
    exact h
theorem cntM_40 (k : Nat) (hk : k < 5) (d : Nat) (hd : d < 41) : cntM k d ≤ 68921 := by
  cases k with
  | zero => exact Nat.zero_le _
  | succ k =>
    refine Nat.le_trans (cntM_pow k d) ?_
    have h1 : (d + 1) ^ k ≤ 41 ^ k := Nat.pow_le_pow_left (by omega) k
    have h2 : 41 ^ k ≤ 41 ^ 3 := Nat.pow_le_pow_right (by omega) (by omega)
    omega
theorem cntM_16 : ∀ k, k < 5 → ∀ d, d < 17 → cntM k d ≤ 2000 := by decide +kernel
theorem HomM.nf_le {k d : Nat} {M : LL} (h : HomM k d M) (hk : 0 < k) : (Proofs.Ytnffpjdlpjkioaa.nf M).length ≤ cntM k d := by
  rw [← allM_len]
  exact nodup_len (as_nodup (as_nf M)) fun x hx => by
    obtain ⟨h1, h2, h3⟩ := h.nf x hx
    exact mem_allM hk h1 h2 h3
theorem HomM.len40 {k d : Nat} {M : LL} (h : HomM k d M) (hk : 0 < k) (hk4 : k ≤ 4) (hd : d ≤ 40) : (Proofs.Ytnffpjdlpjkioaa.nf M).length ≤ 68921 := Nat.le_trans (h.nf_le hk) (cntM_40 k (by omega) d (by omega))
theorem HomM.len16 {k d : Nat} {M : LL} (h : HomM k d M) (hk : 0 < k) (hk4 : k ≤ 4) (hd : d ≤ 16) : (Proofs.Ytnffpjdlpjkioaa.nf M).length ≤ 2000 := Nat.le_trans (h.nf_le hk) (cntM_16 k (by omega) d (by omega))
theorem told_small {k d : Nat} {M : LL} (h : HomM k d M) (hk : 0 < k) (hk4 : k ≤ 4) (hd : d ≤ 16) : toldOf k M = ((k : Int), nf M, 0) := by
  unfold toldOf
  rw [if_neg]
  have := h.len16 hk hk4 hd
  omega

/-- the variables of a mask -/
theorem sum_set0 : ∀ (k j : Nat), j < k → ((List.replicate k (0 : Int)).set j 1).sum = 1 ∧ cod ((List.replicate k (0 : Int)).set j 1) = ((2 ^ (6 * j) : Nat) : Int)
  | 0, _, h => by omega
  | k + 1, 0, _ => by
    rw [List.replicate_succ, List.set_cons_zero, List.sum_cons, sum_rep0]
    refine ⟨rfl, ?_⟩
    show (1 : Int) + 64 * cod _ = _
    rw [cod_rep0]; rfl
  | k + 1, j + 1, h => by
    obtain ⟨h1, h2⟩ := sum_set0 k j (by omega)
    rw [List.replicate_succ, List.set_cons_succ, List.sum_cons, h1]
    refine ⟨rfl, ?_⟩
    show (0 : Int) + 64 * cod _ = _
    rw [h2, show 6 * (j + 1) = 6 + 6 * j by omega, Nat.pow_add]
    omega
theorem hom_unit {k j : Nat} (h : j < k) : HomM k 1 [unitM k j] := fun x hx => by
  rw [List.mem_singleton.1 hx]
  refine ⟨unitM_length k j, fun e he => ?_, (sum_set0 k j h).1⟩
  rcases List.mem_or_eq_of_mem_set he with h | h
  · rw [(List.mem_replicate.1 h).2]; exact Int.le_refl _
  · rw [h]; decide
theorem hom_form {k m : Nat} : ∀ {j : Nat}, j ≤ k → HomM k 1 (formM k m j)
  | 0, _ => HomM.nil
  | j + 1, h => by
    unfold formM
    split
    · exact (hom_form (by omega)).app (hom_unit (by omega))
    · exact hom_form (by omega)
theorem form_cod {k m : Nat} : ∀ {j : Nat}, j ≤ k → (formT m j).Perm ((formM k m j).map cod)
  | 0, _ => List.Perm.refl _
  | j + 1, h => by
    unfold formT formM
    split
    · rw [List.map_append, List.map_singleton, show cod (unitM k j) = ((2 ^ (6 * j) : Nat) : Int) from (sum_set0 k j (by omega)).2]
      exact (List.Perm.cons _ (form_cod (by omega))).trans (List.perm_append_singleton _ _).symm
    · exact form_cod (by omega)
theorem formB_cod {k m : Nat} (hk : k ≤ 4) (hm : m < 2 ^ k) : Eqv (formB m) ((formM k m k).map cod) := by
  have e := formT_end hm (4 - k)
  rw [show k + (4 - k) = 4 by omega] at e
  unfold formB
  rw [e]
  exact Eqv.of_perm (form_cod (Nat.le_refl _))

/-- the part of a power that the lowest j digits make -/
def powM (k : Nat) (P : LL) (n : Nat) : Nat → LL
  | 0 => [List.replicate k 0]
  | j + 1 => if tb n j = true then prodM (powM k P n j) (P.map (scaM ((2 ^ j : Nat) : Int))) else powM k P n j
theorem hom_pow {k d : Nat} {P : LL} (h : HomM k d P) (n : Nat) : ∀ j, HomM k (d * (n % 2 ^ j)) (powM k P n j)
  | 0 => by rw [Nat.pow_zero, Nat.mod_one, Nat.mul_zero]; exact HomM.one k
  | j + 1 => by
    have ih := hom_pow h n j
    have hb : n % 2 ^ (j + 1) = n % 2 ^ j + 2 ^ j * (tb n j).toNat := by unfold tb; rw [Nat.testBit_eq_decide_div_mod_eq, Nat.pow_succ, Nat.mod_mul]; rcases Nat.mod_two_eq_zero_or_one (n / 2 ^ j) with h | h <;> simp [h]
    unfold powM
    split
    · rename_i ht
      have := ih.prod (h.sca (2 ^ j))
      rw [ht] at hb
      rw [hb, Nat.mul_add]
      simpa using this
    · rename_i ht
      have : tb n j = false := by simpa using ht
      rw [this] at hb
      rw [hb]
      simpa using ih
theorem powT_cod {k d : Nat} {P : LL} (h : HomM k d P) (n : Nat) : ∀ j, powT (P.map cod) n j = (powM k P n j).map cod
  | 0 => by show [(0 : Int)] = [cod (List.replicate k 0)]; rw [cod_rep0]
  | j + 1 => by
    unfold powT powM
    split
    · rw [powT_cod h n j, map_cod_sca, prodB_cod (hom_pow h n j).len (h.sca (2 ^ j)).len]
    · exact powT_cod h n j
theorem powM_eqv {k : Nat} {P Q : LL} (h : Eqv P Q) (n : Nat) : ∀ j, Eqv (powM k P n j) (powM k Q n j)
  | 0 => Eqv.refl _
  | j + 1 => by
    unfold powM
    split
    · exact prodM_eqv (powM_eqv h n j) (h.map _)
    · exact powM_eqv h n j
end Go.Proofs.Ytnffpjdlpjkioaa

namespace Go.Proofs.Ytnffpjdlpjkioaa
open Go.RowKit Go.Maps Go.ChangeMaps Go.MapKept

theorem etP : ET Try.prog 57 56 8 := ET.mk' (z := .map none) Try.underlying57 (by kernel_rfl) (by decide) (by decide)
def mv (bs : List Nat) : List Value := bs.map fun b => Value.map (some b)
theorem PolyC.ne_own {w : World} {b B n : Nat} {C : List Int} {e : TypeId} {v : Value} {xs : List Value} (h : PolyC w b C) (ho : w.ownsRow B e 1 v n xs) : v.ownBlock ≠ some b := by
  obtain ⟨D, ⟨es, clock, hb, _⟩, _⟩ := h
  rcases ho.2 with ⟨rfl, _⟩ | ⟨g, cap, cur, rfl, _, hg, _⟩
  · simp [Value.ownBlock]
  · intro hm
    have : g = b := by simpa [Value.ownBlock] using hm
    subst this; rw [hb] at hg; cases hg
theorem PolyB.ne_own {w : World} {b B n : Nat} {L : List Int} {e : TypeId} {v : Value} {xs : List Value} (h : PolyB w b L) (ho : w.ownsRow B e 1 v n xs) : v.ownBlock ≠ some b := by obtain ⟨C, h, _⟩ := h; exact h.ne_own ho
/-- a row of maps, each the polynomial of a bag of monomials -/
structure OwnPB (w : World) (B : Nat) (v : Value) (bs : List Nat) (Ls : List LL) : Prop where
  out : w.ownsRow B 56 1 v bs.length (mv bs)
  inn : ∀ i, i < bs.length → PolyB w (bs.getD i 0) ((Ls.getD i []).map cod)
  len : Ls.length = bs.length
  ge : ∀ b ∈ bs, B ≤ b
section
variable {w w' : World} {B : Nat} {v : Value} {bs : List Nat} {Ls : List LL}
theorem OwnPB.lt (h : OwnPB w B v bs Ls) : ∀ b ∈ bs, b < w.heap.size := fun b hb => by
  obtain ⟨i, hi, e⟩ := List.mem_iff_getElem.1 hb
  have := (h.inn i hi).lt
  simpa [List.getD, hi, e] using this
theorem OwnPB.keeps {S : List (Option Nat)} (h : OwnPB w B v bs Ls) (hk : Keeps w w' S) (hv : v.ownBlock = none ∨ v.ownBlock ∉ S) (hb : ∀ b ∈ bs, some b ∉ S) : OwnPB w' B v bs Ls :=
  ⟨owns_keeps h.out hk hv, fun i hi => (h.inn i hi).keeps hk (hb _ (by simp [List.getD, hi])), h.len, h.ge⟩
theorem OwnPB.below (h : OwnPB w B v bs Ls) (hb : Below w.heap.size w w') : OwnPB w' B v bs Ls := h.keeps (Keeps.of_below hb) (.inr (by simp)) (fun _ _ => by simp)
theorem OwnPB.mono {B' : Nat} (h : OwnPB w B v bs Ls) (hB : B' ≤ B) : OwnPB w B' v bs Ls := ⟨h.out.mono hB, h.inn, h.len, fun b hb => Nat.le_trans hB (h.ge b hb)⟩
theorem OwnPB.made (w : World) (hB : B ≤ w.heap.size) : OwnPB (w.alloc (.cells #[] 56)) B (.slice (some ⟨w.heap.size, 0, none⟩) 0 0) [] [] :=
  ⟨World.ownsRow_made w #[] 0 hB (by decide) (by simp), fun i hi => (by cases hi), rfl, fun b hb => (by cases hb)⟩
theorem OwnPB.one {b : Nat} {M : LL} (h : PolyB w b (M.map cod)) (hb : B ≤ b) : OwnPB (w.alloc (.cells #[.map (some b)] 56)) B (.slice (some ⟨w.heap.size, 0, none⟩) 1 1) [b] [M] := by
  refine ⟨⟨rfl, .inr ⟨w.heap.size, 1, _, rfl, Nat.le_trans hb (Nat.le_of_lt h.lt), blk_new w _, Nat.le_refl _, by decide, rfl, rfl⟩⟩, fun i hi => ?_, rfl, fun b' hb' => by rw [List.mem_singleton.1 hb']; exact hb⟩
  have : i = 0 := by simpa using hi
  subst this
  exact h.alloc _
theorem OwnPB.cell {A : Option Addr} {n c i : Nat} (h : OwnPB w B (.slice A n c) bs Ls) (hi : i < bs.length) : ∃ g, A = some ⟨g, 0, none⟩ ∧ w.cell? ⟨g, i, none⟩ = some (.map (some (bs.getD i 0))) := by
  obtain ⟨A', c', e, _, h3, _⟩ := owns_shape h.out
  obtain ⟨g, rfl, _⟩ := h3 (by omega)
  injection e with e1 e2 e3
  subst e1 e2 e3
  refine ⟨g, rfl, ?_⟩
  rw [h.out.cellAt i (by omega)]
  simp [mv, List.getD, hi]
theorem OwnPB.push {w1 w2 : World} {g cap b : Nat} {M : LL} {ob : Obj} (h : OwnPB w B v bs Ls) (hb : Below w.heap.size w w1) (hx : PolyB w1 b (M.map cod)) (hB : B ≤ b)
    (ho : w2.ownsRow B 56 1 (.slice (some ⟨g, 0, none⟩) (bs.length + 1) cap) (bs.length + 1) (mv bs ++ [.map (some b)])) (hg : (w1.alloc ob).grownBy w2 v.ownBlock) :
    OwnPB w2 B (.slice (some ⟨g, 0, none⟩) (bs ++ [b]).length cap) (bs ++ [b]) (Ls ++ [M]) := by
  have hk : Keeps w1 w2 [v.ownBlock] := ((Keeps.refl w1 []).alloc ob).trans (Keeps.of_grown hg) (by simp)
  have h1 := h.below hb
  have hne := hx.ne_own h1.out
  refine ⟨by rw [List.length_append, show mv (bs ++ [b]) = mv bs ++ [.map (some b)] by simp [mv]]; exact ho, fun i hi => ?_, by simp [h.len], fun b' hb' => ?_⟩
  · simp at hi
    by_cases hlt : i < bs.length
    · have e1 : (bs ++ [b]).getD i 0 = bs.getD i 0 := by simp [List.getD, List.getElem?_append_left hlt]
      have e2 : (Ls ++ [M]).getD i [] = Ls.getD i [] := by simp [List.getD, List.getElem?_append_left (show i < Ls.length by rw [h.len]; exact hlt)]
      rw [e1, e2]
      exact (h1.inn i hlt).keeps hk (by simpa [eq_comm] using (h1.inn i hlt).ne_own h1.out)
    · have e0 : i = bs.length := by omega
      subst e0
      have e1 : (bs ++ [b]).getD bs.length 0 = b := by simp [List.getD]
      have e2 : (Ls ++ [M]).getD bs.length [] = M := by rw [← h.len]; simp [List.getD]
      rw [e1, e2]
      exact hx.keeps hk (by simpa [eq_comm] using hne)
  · rcases List.mem_append.1 hb' with hb' | hb'
    · exact h.ge b' hb'
    · rw [List.mem_singleton.1 hb']; exact hB
end
end Go.Proofs.Ytnffpjdlpjkioaa

namespace Go.Proofs.Ytnffpjdlpjkioaa
open Go.RowKit Go.Maps Go.ChangeMaps Go.MapKept

/-- an exponent at a variable -/
def monoM (k v e : Nat) : List Int := (List.replicate k 0).set v (e : Int)
theorem mono_sum (e : Nat) : ∀ (k j : Nat), j < k → ((List.replicate k (0 : Int)).set j (e : Int)).sum = (e : Int) ∧ cod ((List.replicate k (0 : Int)).set j (e : Int)) = ((2 ^ (6 * j) * e : Nat) : Int)
  | 0, _, h => by omega
  | k + 1, 0, _ => by
    rw [List.replicate_succ, List.set_cons_zero, List.sum_cons, sum_rep0]
    refine ⟨by omega, ?_⟩
    show (e : Int) + 64 * cod _ = _
    rw [cod_rep0]; simp
  | k + 1, j + 1, h => by
    obtain ⟨h1, h2⟩ := mono_sum e k j (by omega)
    rw [List.replicate_succ, List.set_cons_succ, List.sum_cons, h1]
    refine ⟨by omega, ?_⟩
    show (0 : Int) + 64 * cod _ = _
    rw [h2, show 6 * (j + 1) = 6 + 6 * j by omega, Nat.pow_add, Nat.mul_assoc]
    omega
theorem hom_mono {k v : Nat} (e : Nat) (h : v < k) : HomM k e [monoM k v e] := fun x hx => by
  rw [List.mem_singleton.1 hx]
  refine ⟨by simp [monoM], fun d hd => ?_, (mono_sum e k v h).1⟩
  rcases List.mem_or_eq_of_mem_set hd with h | h
  · rw [(List.mem_replicate.1 h).2]; exact Int.le_refl _
  · rw [h]; exact Int.natCast_nonneg e
theorem cod_mono {k v : Nat} (e : Nat) (h : v < k) : cod (monoM k v e) = ((2 ^ (6 * v) * e : Nat) : Int) := (mono_sum e k v h).2
/-- the sum of the coefficients times powers of a new variable, up to i -/
def dkV (k v : Nat) (out : List LL) : Nat → LL
  | 0 => []
  | i + 1 => dkV k v out i ++ prodM (out.getD i []) [monoM k v (2 ^ i)]
/-- the next coefficient i -/
def dkA (out : List LL) (i : Nat) : LL := if 0 < i then (out.getD (i - 1) []).map (scaM 2) else []
def dkB (k v : Nat) (out : List LL) (i : Nat) : LL := if i ≤ v then prodM (out.getD i []) (dkV k v out (v + 1)) else []
def dkN (k v : Nat) (out : List LL) (i : Nat) : LL := dkA out i ++ dkB k v out i
/-- Dickson's invariants -/
def dkL (k : Nat) : Nat → List LL
  | 0 => [[List.replicate k 0]]
  | v + 1 => (List.range (v + 2)).map (dkN k v (dkL k v))
theorem dkL_len (k : Nat) : ∀ v, (dkL k v).length = v + 1
  | 0 => rfl
  | v + 1 => by simp [dkL]
theorem dkV_hom {k v : Nat} {out : List LL} (hv : v < k) (h : ∀ i, i ≤ v → HomM k (2 ^ v - 2 ^ i) (out.getD i [])) : ∀ i, i ≤ v + 1 → HomM k (2 ^ v) (dkV k v out i)
  | 0, _ => HomM.nil
  | i + 1, hi => by
    have h1 := (h i (by omega)).prod (hom_mono (2 ^ i) hv)
    have h2 : 2 ^ i ≤ 2 ^ v := Nat.pow_le_pow_right (by omega) (by omega)
    rw [Nat.sub_add_cancel h2] at h1
    exact (dkV_hom hv h i (by omega)).app h1
theorem dkA_hom {k v : Nat} {out : List LL} (h : ∀ i, i ≤ v → HomM k (2 ^ v - 2 ^ i) (out.getD i [])) {i : Nat} (hi : i ≤ v + 1) : HomM k (2 ^ (v + 1) - 2 ^ i) (dkA out i) := by
  unfold dkA
  split
  · have h1 := (h (i - 1) (by omega)).sca 2
    have e : (2 ^ v - 2 ^ (i - 1)) * 2 = 2 ^ (v + 1) - 2 ^ i := by
      rw [Nat.sub_mul, ← Nat.pow_succ, ← Nat.pow_succ, show (i - 1).succ = i by omega]
    rw [e] at h1
    exact h1
  · exact HomM.nil
theorem dkB_hom {k v : Nat} {out : List LL} (hv : v < k) (h : ∀ i, i ≤ v → HomM k (2 ^ v - 2 ^ i) (out.getD i [])) (i : Nat) : HomM k (2 ^ (v + 1) - 2 ^ i) (dkB k v out i) := by
  unfold dkB
  split
  · rename_i hi
    have h1 := (h i hi).prod (dkV_hom hv h (v + 1) (Nat.le_refl _))
    have h2 : 2 ^ i ≤ 2 ^ v := Nat.pow_le_pow_right (by omega) (by omega)
    have e : 2 ^ v - 2 ^ i + 2 ^ v = 2 ^ (v + 1) - 2 ^ i := by rw [Nat.pow_succ]; omega
    rw [e] at h1
    exact h1
  · exact HomM.nil
theorem dkL_hom {k : Nat} : ∀ {v : Nat}, v ≤ k → ∀ i, i ≤ v → HomM k (2 ^ v - 2 ^ i) ((dkL k v).getD i [])
  | 0, _, i, hi => by
    obtain rfl : i = 0 := by omega
    exact HomM.one k
  | v + 1, hv, i, hi => by
    have e : (dkL k (v + 1)).getD i [] = dkN k v (dkL k v) i := by simp [dkL, List.getD, List.getElem?_range (show i < v + 2 by omega)]
    rw [e]
    have ih := dkL_hom (k := k) (v := v) (by omega)
    exact (dkA_hom ih hi).app (dkB_hom (by omega) ih i)

theorem key_mono {k v j : Nat} (hk : k ≤ 4) (hv : v < k) (hj : j ≤ v) : wrap64 ((2 : Int) ^ (6 * v + j)) = cod (monoM k v (2 ^ j)) ∧ 0 ≤ cod (monoM k v (2 ^ j)) ∧ cod (monoM k v (2 ^ j)) < 16777216 := by
  rw [cod_mono _ hv, ← Nat.pow_add]
  have h1 : (2 : Nat) ^ (6 * v + j) ≤ 2 ^ 21 := Nat.pow_le_pow_right (by omega) (by omega)
  have e : ((2 ^ (6 * v + j) : Nat) : Int) = (2 : Int) ^ (6 * v + j) := by simp
  rw [← e]
  generalize (2 : Nat) ^ (6 * v + j) = z at *
  unfold wrap64
  omega

set_option maxRecDepth 100000 in
set_option maxHeartbeats 4000000 in
theorem dickson_any (k : Nat) (w : World) (hk : k ≤ 4) : Calls Try.prog 40 #[.int .i64 k] w fun e w' => ∃ v bs, e = .returned v ∧ OwnPB w' w.heap.size v bs (dkL k k) ∧ Below w.heap.size w w' := by
  have hmm := @run_makeMap Try.prog
  have e1 : (w.alloc (.map #[] 0)).heap.size = w.heap.size + 1 := by simp
  go_enter Try.func40, Try.ntmps40
  go_wp2_with (first | (refine wpList_insert_poly _ rfl _ _ _ rfl w.heap.size [] 0 rfl rfl rfl (PolyC.made w) (I64.of (by omega) (by omega)) (by simp) ?_; intro w1 hq1 hk1 hs1) | go_in)
  rw [e1] at hs1
  have hB1 : Below w.heap.size w w1 := ((Below.refl _ _).alloc (Nat.le_refl _) _).trans (hk1.to_below (by simp) (by simp))
  have hP1 : PolyB w1 w.heap.size ([List.replicate k 0].map cod) := ⟨_, hq1, by rw [List.map_singleton, cod_rep0]; exact Eqv.refl _⟩
  clear hq1 hk1
  go_loopw [3, 15] (fun o i wr => ∃ (v c : Nat) (A : Option Addr) (bs : List Nat), i = .int .i64 v ∧ v ≤ k ∧ o = .slice A (v + 1) c ∧ bs.length = v + 1 ∧ OwnPB wr w.heap.size (.slice A (v + 1) c) bs (dkL k v) ∧ Below w.heap.size w wr) (fun _ i _ => k - (intOf i).toNat)
  case atStart => exact ⟨0, 1, _, [w.heap.size], rfl, by omega, rfl, rfl, by have h := OwnPB.one hP1 (Nat.le_refl _); rw [hs1] at h; exact h, hB1.alloc (by omega) _⟩
  case round =>
    obtain ⟨v, c, A, bs, rfl, hv, rfl, hbl, hO, hB⟩ := hrel
    have HO := Lib.hid hO
    have HB := Lib.hid hB
    have hsz := hB.size
    obtain ⟨wv, hwv⟩ : ∃ wv, wv = wr := ⟨_, rfl⟩
    subst hwv
    clear hO hB
    by_cases hlt : v < k
    · have hv3 : v ≤ 3 := by omega
      go_wp2_with fail
      go_loopw [21] (fun i wr => ∃ j : Nat, i = .int .i64 j ∧ j ≤ v + 1 ∧ PolyB wr wv.heap.size ((dkV k v (dkL k v) j).map cod) ∧ Below wv.heap.size wv wr) (fun i _ => v + 1 - (intOf i).toNat)
      case atStart => exact ⟨0, rfl, by omega, PolyB.made wv, (Below.refl _ _).alloc (Nat.le_refl _) _⟩
      case round =>
        obtain ⟨j, rfl, hj, hP, hb⟩ := hrel
        by_cases hjl : j < v + 1
        · obtain ⟨g, rfl, hc⟩ := (HO.out.below hb).cell (i := j) (by omega)
          obtain ⟨hky, hk0, hk1⟩ := key_mono hk hlt (show j ≤ v by omega)
          have hPj := (HO.out.below hb).inn j (by omega)
          have HBJ := Lib.hid hb
          have hbsz := hb.size
          have HP := Lib.hid hP
          have hH := dkL_hom (k := k) (v := v) (by omega)
          have hj16 : 2 ^ v ≤ 8 := by have := Nat.pow_le_pow_right (n := 2) (by omega) hv3; omega
          have HJ := Lib.hid (hH j (by omega))
          have hm := hom_mono (2 ^ j) hlt
          have hmc : (2 : Nat) ^ j ≤ 2 ^ v := Nat.pow_le_pow_right (by omega) (by omega)
          have HM := Lib.hid hm
          have HPR : Hid (CB ((prodM ((dkL k v).getD j []) [monoM k v (2 ^ j)]).map cod)) := Lib.hid (((hH j (by omega)).prod hm).cb (by omega) hk)
          have HV := Lib.hid ((dkV_hom hlt hH j (by omega)).cb (by omega) hk)
          have HST : Hid (∀ V L m, dkV k v (dkL k v) j = V → (dkL k v).getD j [] = L → monoM k v (2 ^ j) = m → dkV k v (dkL k v) (j + 1) = V ++ prodM L [m]) := Lib.hid (fun V L m h1 h2 h3 => by rw [← h1, ← h2, ← h3]; rfl)
          clear hP hb hH hm hmc hj16
          generalize bs.getD j 0 = bj at *
          have HS2 := Lib.hid (HST.out _ _ _ rfl rfl rfl)
          clear HST
          generalize (dkL k v).getD j [] = Lj at *
          generalize dkV k v (dkL k v) j = Vj at *
          generalize monoM k v (2 ^ j) = mj at *
          go_wp2_with (first | (refine wpList_insert_poly _ rfl _ _ _ rfl wr.heap.size [] (cod mj) rfl (by first | rfl | (show Value.int .i64 _ = _; rw [hky])) rfl (PolyC.made wr) (I64.of hk0 (by omega)) (by simp) ?_; intro w2 hq2 hk2 hs2; have HQ2 := Lib.hid hq2; have HK2 := Lib.hid hk2; clear hq2 hk2) | fail)
          have hs3 : w2.heap.size = wr.heap.size + 1 := by rw [hs2]; simp
          have hB2 : Below wr.heap.size wr w2 := ((Below.refl _ _).alloc (Nat.le_refl _) _).trans (HK2.out.to_below (by simp) (by simp))
          have HB2 := Lib.hid hB2
          have HT := Lib.hid (times_any bj wr.heap.size (Lj.map cod) ([mj].map cod) w2 (hPj.below hB2) ⟨_, HQ2.out, Eqv.refl _⟩ (by rw [prodB_cod HJ.out.len HM.out.len]; exact HPR.out))
          clear hB2
          go_wp2_with fail
          refine HT.out.mono ?_
          rintro e w3 ⟨g3, rfl, hg3, hP3, hB3⟩
          rw [prodB_cod HJ.out.len HM.out.len] at hP3
          have HP3 := Lib.hid hP3
          have HB3 := Lib.hid (HB2.out.trans (hB3.mono (by omega)))
          have HPL := Lib.hid (plus_any wv.heap.size g3 _ _ w3 ((HP.out.below HB2.out).below hB3) hP3 (by omega) HV.out HPR.out)
          clear hP3 hB3
          go_wp2_with fail
          refine HPL.out.mono ?_
          rintro e w4 ⟨rfl, hP4, hk4⟩
          have HB4 := Lib.hid (HBJ.out.trans ((HB3.out.mono hbsz).trans (hk4.to_below (by have := HB3.out.size; omega) (by simp))))
          have HP4 := Lib.hid hP4
          clear hP4 hk4
          go_wp2_with fail
          go_roundw
          case rel => exact ⟨j + 1, by go_num, hjl, by rw [HS2.out, List.map_append]; exact HP4.out, HB4.out⟩
          case measure => simp [intOf]; omega
        · have ej : j = v + 1 := by omega
          rw [ej] at hP
          have hjn : ¬ (j : Int) < (v : Int) + 1 := by omega
          have HP := Lib.hid hP
          have HBJ := Lib.hid hb
          have hbsz := hb.size
          clear ej hj
          clear hP hb hjl
          obtain ⟨wz, hwz⟩ : ∃ wz, wz = wr := ⟨_, rfl⟩
          subst hwz
          have hH := dkL_hom (k := k) (v := v) (by omega)
          have hj16 : 2 ^ (v + 1) < 64 := by have := Nat.pow_le_pow_right (n := 2) (by omega) (show v + 1 ≤ 4 by omega); omega
          have HDA : Hid (∀ i, i ≤ v + 1 → CB ((dkA (dkL k v) i).map cod)) := Lib.hid fun i hi => (dkA_hom hH hi).cb (Nat.lt_of_le_of_lt (Nat.sub_le _ _) hj16) hk
          have HDB : Hid (∀ i, CB ((dkB k v (dkL k v) i).map cod)) := Lib.hid fun i => (dkB_hom hlt hH i).cb (Nat.lt_of_le_of_lt (Nat.sub_le _ _) hj16) hk
          have HCL : Hid (∀ i, i ≤ v → ∀ x ∈ (dkL k v).getD i [], x.length = k) := Lib.hid fun i hi => (hH i hi).len
          have HVL : Hid (∀ x ∈ dkV k v (dkL k v) (v + 1), x.length = k) := Lib.hid (dkV_hom hlt hH (v + 1) (Nat.le_refl _)).len
          have HOz := Lib.hid (HO.out.below HBJ.out)
          have HPV := HP
          clear hH hj16
          go_wp2_with fail
          go_loopw [8, 41] (fun o i wr => ∃ (i1 cn : Nat) (An : Option Addr) (bn : List Nat), i = .int .i64 i1 ∧ i1 ≤ v + 2 ∧ o = .slice An i1 cn ∧ bn.length = i1 ∧ OwnPB wr wz.heap.size (.slice An i1 cn) bn ((dkL k (v + 1)).take i1) ∧ Below wz.heap.size wz wr) (fun _ i _ => v + 2 - (intOf i).toNat)
          case atStart => exact ⟨0, 0, some ⟨wz.heap.size, 0, none⟩, [], rfl, by omega, rfl, rfl, OwnPB.made wz (Nat.le_refl _), (Below.refl _ _).alloc (Nat.le_refl _) _⟩
          case round =>
            obtain ⟨i, cn, An, bn, rfl, hi, rfl, hbn, hON, hBZ⟩ := hrel
            have HON := Lib.hid hON
            have HBZ := Lib.hid hBZ
            have hzs := hBZ.size
            clear hON hBZ
            by_cases hil : i < v + 2
            · have HTS : Hid ((dkL k (v + 1)).take (i + 1) = (dkL k (v + 1)).take i ++ [dkN k v (dkL k v) i]) := Lib.hid (by
                rw [List.take_succ_eq_append_getElem (by rw [dkL_len]; exact hil)]
                simp [dkL])
              have HCA : Hid (0 < i → CB ((((dkL k v).getD (i - 1) []).map (scaM 2)).map cod)) := Lib.hid fun h0 => by
                have := HDA.out i (by omega)
                unfold dkA at this
                rw [if_pos h0] at this
                exact this
              have HCB : Hid (i ≤ v → CB ((prodM ((dkL k v).getD i []) (dkV k v (dkL k v) (v + 1))).map cod)) := Lib.hid fun h0 => by
                have := HDB.out i
                unfold dkB at this
                rw [if_pos h0] at this
                exact this
              have HB0 : Hid (Below wr.heap.size wr (wr.alloc (.map #[] 0))) := Lib.hid ((Below.refl _ _).alloc (Nat.le_refl _) _)
              have HP0 := Lib.hid (PolyB.made wr)
              by_cases h0 : 0 < i
              · by_cases hiv : i ≤ v
                · have h0i : (0 : Int) < (i : Int) := by omega
                  have hivi : (i : Int) ≤ (v : Int) := by omega
                  have hix : ((i : Int) - 1).toNat = i - 1 := by omega
                  have hin : (0 : Int) ≤ (i : Int) - 1 := by omega
                  obtain ⟨_, eA1, hcA1⟩ := (HOz.out.below (HBZ.out.trans (HB0.out.mono hzs))).cell (i := i - 1) (by omega)
                  cases eA1
                  have HA1 := Lib.hid (raised_any (bs.getD (i - 1) 0) (((dkL k v).getD (i - 1) []).map cod) 2 (wr.alloc (.map #[] 0)) ((HOz.out.below (HBZ.out.trans (HB0.out.mono hzs))).inn (i - 1) (by omega)) (by omega) (by rw [map_cod_sca]; exact HCA.out h0))
                  generalize bs.getD (i - 1) 0 = bA at *
                  go_wp2_with fail
                  refine HA1.out.mono ?_
                  rintro e W1 ⟨gA, rfl, hg1, hP1, hB1⟩
                  rw [map_cod_sca] at hP1
                  have HP1 := Lib.hid hP1
                  have HB1 := Lib.hid (HB0.out.trans (hB1.mono HB0.out.size))
                  have HPc1 := Lib.hid (HP0.out.below hB1)
                  have HR1 := Lib.hid (plus_any wr.heap.size gA _ _ W1 HPc1.out HP1.out (by have := HP0.out.lt; omega) CB.nil (HCA.out h0))
                  clear hP1 hB1 hg1 hcA1
                  go_wp2_with fail
                  refine HR1.out.mono ?_
                  rintro e V1 ⟨rfl, hQ1, hk1⟩
                  have HQ1 := Lib.hid hQ1
                  have HBV1 := Lib.hid (HB1.out.trans (hk1.to_below HB1.out.size (by simp)))
                  clear hQ1 hk1
                  obtain ⟨_, eA2, hcA2⟩ := (HOz.out.below (HBZ.out.trans (HBV1.out.mono hzs))).cell (i := i) (by omega)
                  cases eA2
                  have HA2 := Lib.hid (times_any (bs.getD i 0) wv.heap.size (((dkL k v).getD i []).map cod) ((dkV k v (dkL k v) (v + 1)).map cod) V1 ((HOz.out.below (HBZ.out.trans (HBV1.out.mono hzs))).inn i (by omega)) (HPV.out.below (HBZ.out.trans (HBV1.out.mono hzs))) (by rw [prodB_cod (HCL.out i hiv) HVL.out]; exact HCB.out hiv))
                  generalize bs.getD i 0 = bB at *
                  go_wp2_with fail
                  refine HA2.out.mono ?_
                  rintro e W2 ⟨gB, rfl, hg2, hP2, hB2⟩
                  rw [prodB_cod (HCL.out i hiv) HVL.out] at hP2
                  have HP2 := Lib.hid hP2
                  have HB2 := Lib.hid (HBV1.out.trans (hB2.mono HBV1.out.size))
                  have HPc2 := Lib.hid (HQ1.out.below hB2)
                  have HR2 := Lib.hid (plus_any wr.heap.size gB _ _ W2 HPc2.out HP2.out (by have := HQ1.out.lt; omega) (by rw [List.nil_append]; exact HCA.out h0) (HCB.out hiv))
                  clear hP2 hB2 hg2 hcA2
                  go_wp2_with fail
                  refine HR2.out.mono ?_
                  rintro e V2 ⟨rfl, hQ2, hk2⟩
                  have HQ2 := Lib.hid hQ2
                  have HBV2 := Lib.hid (HB2.out.trans (hk2.to_below HB2.out.size (by simp)))
                  clear hQ2 hk2
                  have HOn := Lib.hid ((HON.out.below HBV2.out).out)
                  have HQf : Hid (PolyB V2 wr.heap.size ((dkN k v (dkL k v) i).map cod)) := Lib.hid (by
                    have h := HQ2.out
                    unfold dkN dkA dkB
                    rw [if_pos h0, if_pos hiv, List.map_append]
                    exact h)
                  have hsV := HBV2.out.size
                  rw [hbn] at HOn
                  go_wp2_with (at_builtin; refine wpList_app1 _ _ _ _ _ etP (by rfl) (by rfl) wz.heap.size (.slice An i cn) i (mv bn) (by rfl) (HOn.out.alloc _) _ (.map (some wr.heap.size)) (by rfl) (new_cell _ _ _) (by rfl) (by omega) (by simp; omega) ?_; (intro g2 c2 w3 hown3 hg3 hat3 hlt3; have HG3 := Lib.hid hg3; have HO3 := Lib.hid hown3; clear hown3 hg3 hat3 hlt3))
                  have HPU := Lib.hid (HON.out.push HBV2.out HQf.out hzs (by rw [hbn]; exact HO3.out) HG3.out)
                  have HB3 := Lib.hid (below_app2 (HBZ.out.trans (HBV2.out.mono hzs)) (by omega) HOn.out HG3.out)
                  go_roundw
                  case rel => exact ⟨i + 1, c2, some ⟨g2, 0, none⟩, bn ++ [wr.heap.size], by go_num, by omega, by rfl, by simp [hbn], by rw [HTS.out]; simpa [hbn] using HPU.out, HB3.out⟩
                  case measure => simp [intOf]; omega
                · have h0i : (0 : Int) < (i : Int) := by omega
                  have hivi : ¬ (i : Int) ≤ (v : Int) := by omega
                  have hix : ((i : Int) - 1).toNat = i - 1 := by omega
                  have hin : (0 : Int) ≤ (i : Int) - 1 := by omega
                  obtain ⟨_, eA1, hcA1⟩ := (HOz.out.below (HBZ.out.trans (HB0.out.mono hzs))).cell (i := i - 1) (by omega)
                  cases eA1
                  have HA1 := Lib.hid (raised_any (bs.getD (i - 1) 0) (((dkL k v).getD (i - 1) []).map cod) 2 (wr.alloc (.map #[] 0)) ((HOz.out.below (HBZ.out.trans (HB0.out.mono hzs))).inn (i - 1) (by omega)) (by omega) (by rw [map_cod_sca]; exact HCA.out h0))
                  generalize bs.getD (i - 1) 0 = bA at *
                  go_wp2_with fail
                  refine HA1.out.mono ?_
                  rintro e W1 ⟨gA, rfl, hg1, hP1, hB1⟩
                  rw [map_cod_sca] at hP1
                  have HP1 := Lib.hid hP1
                  have HB1 := Lib.hid (HB0.out.trans (hB1.mono HB0.out.size))
                  have HPc1 := Lib.hid (HP0.out.below hB1)
                  have HR1 := Lib.hid (plus_any wr.heap.size gA _ _ W1 HPc1.out HP1.out (by have := HP0.out.lt; omega) CB.nil (HCA.out h0))
                  clear hP1 hB1 hg1 hcA1
                  go_wp2_with fail
                  refine HR1.out.mono ?_
                  rintro e V1 ⟨rfl, hQ1, hk1⟩
                  have HQ1 := Lib.hid hQ1
                  have HBV1 := Lib.hid (HB1.out.trans (hk1.to_below HB1.out.size (by simp)))
                  clear hQ1 hk1
                  have HOn := Lib.hid ((HON.out.below HBV1.out).out)
                  have HQf : Hid (PolyB V1 wr.heap.size ((dkN k v (dkL k v) i).map cod)) := Lib.hid (by
                    have h := HQ1.out
                    unfold dkN dkA dkB
                    rw [if_pos h0, if_neg hiv, List.append_nil]
                    exact h)
                  have hsV := HBV1.out.size
                  rw [hbn] at HOn
                  go_wp2_with (at_builtin; refine wpList_app1 _ _ _ _ _ etP (by rfl) (by rfl) wz.heap.size (.slice An i cn) i (mv bn) (by rfl) (HOn.out.alloc _) _ (.map (some wr.heap.size)) (by rfl) (new_cell _ _ _) (by rfl) (by omega) (by simp; omega) ?_; (intro g2 c2 w3 hown3 hg3 hat3 hlt3; have HG3 := Lib.hid hg3; have HO3 := Lib.hid hown3; clear hown3 hg3 hat3 hlt3))
                  have HPU := Lib.hid (HON.out.push HBV1.out HQf.out hzs (by rw [hbn]; exact HO3.out) HG3.out)
                  have HB3 := Lib.hid (below_app2 (HBZ.out.trans (HBV1.out.mono hzs)) (by omega) HOn.out HG3.out)
                  go_roundw
                  case rel => exact ⟨i + 1, c2, some ⟨g2, 0, none⟩, bn ++ [wr.heap.size], by go_num, by omega, by rfl, by simp [hbn], by rw [HTS.out]; simpa [hbn] using HPU.out, HB3.out⟩
                  case measure => simp [intOf]; omega
              · have hiv : i ≤ v := by omega
                have h0i : ¬ (0 : Int) < (i : Int) := by omega
                have hivi : (i : Int) ≤ (v : Int) := by omega
                obtain ⟨_, eA1, hcA1⟩ := (HOz.out.below (HBZ.out.trans (HB0.out.mono hzs))).cell (i := i) (by omega)
                cases eA1
                have HA1 := Lib.hid (times_any (bs.getD i 0) wv.heap.size (((dkL k v).getD i []).map cod) ((dkV k v (dkL k v) (v + 1)).map cod) (wr.alloc (.map #[] 0)) ((HOz.out.below (HBZ.out.trans (HB0.out.mono hzs))).inn i (by omega)) (HPV.out.below (HBZ.out.trans (HB0.out.mono hzs))) (by rw [prodB_cod (HCL.out i hiv) HVL.out]; exact HCB.out hiv))
                generalize bs.getD i 0 = bB at *
                go_wp2_with fail
                refine HA1.out.mono ?_
                rintro e W1 ⟨gB, rfl, hg1, hP1, hB1⟩
                rw [prodB_cod (HCL.out i hiv) HVL.out] at hP1
                have HP1 := Lib.hid hP1
                have HB1 := Lib.hid (HB0.out.trans (hB1.mono HB0.out.size))
                have HPc1 := Lib.hid (HP0.out.below hB1)
                have HR1 := Lib.hid (plus_any wr.heap.size gB _ _ W1 HPc1.out HP1.out (by have := HP0.out.lt; omega) CB.nil (HCB.out hiv))
                clear hP1 hB1 hg1 hcA1
                go_wp2_with fail
                refine HR1.out.mono ?_
                rintro e V1 ⟨rfl, hQ1, hk1⟩
                have HQ1 := Lib.hid hQ1
                have HBV1 := Lib.hid (HB1.out.trans (hk1.to_below HB1.out.size (by simp)))
                clear hQ1 hk1
                have HOn := Lib.hid ((HON.out.below HBV1.out).out)
                have HQf : Hid (PolyB V1 wr.heap.size ((dkN k v (dkL k v) i).map cod)) := Lib.hid (by
                  have h := HQ1.out
                  unfold dkN dkA dkB
                  rw [if_neg h0, if_pos hiv, List.nil_append]
                  exact h)
                have hsV := HBV1.out.size
                rw [hbn] at HOn
                go_wp2_with (at_builtin; refine wpList_app1 _ _ _ _ _ etP (by rfl) (by rfl) wz.heap.size (.slice An i cn) i (mv bn) (by rfl) (HOn.out.alloc _) _ (.map (some wr.heap.size)) (by rfl) (new_cell _ _ _) (by rfl) (by omega) (by simp; omega) ?_; (intro g2 c2 w3 hown3 hg3 hat3 hlt3; have HG3 := Lib.hid hg3; have HO3 := Lib.hid hown3; clear hown3 hg3 hat3 hlt3))
                have HPU := Lib.hid (HON.out.push HBV1.out HQf.out hzs (by rw [hbn]; exact HO3.out) HG3.out)
                have HB3 := Lib.hid (below_app2 (HBZ.out.trans (HBV1.out.mono hzs)) (by omega) HOn.out HG3.out)
                go_roundw
                case rel => exact ⟨i + 1, c2, some ⟨g2, 0, none⟩, bn ++ [wr.heap.size], by go_num, by omega, by rfl, by simp [hbn], by rw [HTS.out]; simpa [hbn] using HPU.out, HB3.out⟩
                case measure => simp [intOf]; omega
            · obtain rfl : i = v + 2 := by omega
              go_wp2_with fail
              go_roundw
              case rel =>
                have e : (dkL k (v + 1)).take (v + 2) = dkL k (v + 1) := List.take_of_length_le (by rw [dkL_len]; exact Nat.le_refl _)
                have h := HON.out
                rw [e] at h
                exact ⟨v + 1, cn, An, bn, by go_num, by omega, rfl, hbn, h.mono (by omega), HB.out.trans ((HBJ.out.mono hsz).trans (HBZ.out.mono (by omega)))⟩
              case measure => simp [intOf]; omega
    · obtain rfl : v = k := by omega
      go_wp2_with fail
      go_ret
      exact ⟨_, bs, rfl, HO.out, HB.out⟩
end Go.Proofs.Ytnffpjdlpjkioaa

namespace Go.Proofs.Ytnffpjdlpjkioaa
open Go.RowKit

theorem scaM_take {p : Int} {a : List Int} {i : Nat} (ha : i < a.length) : (scaM p a).take (i + 1) = (scaM p a).take i ++ [a.getD i 0 * p] := by
  rw [List.take_succ_eq_append_getElem (by rw [scaM_length]; exact ha)]
  simp [scaM, List.getD, ha]

set_option maxRecDepth 100000 in
set_option maxHeartbeats 1000000 in
theorem l06Scaled_any (A : Option Addr) (n c p : Nat) (a : List Int) (w : World) (hn : n = a.length) (hsm : n ≤ 1000000) (ha : ∀ i, i < n → 0 ≤ a.getD i 0 ∧ a.getD i 0 < 1000000000) (hp : p ≤ 1000000) (hA : Rd w A (iv a)) :
    Calls Try.prog 104 #[.slice A n c, .int .i64 p] w fun e w' => ∃ g cap, e = .returned (.slice (some ⟨g, 0, none⟩) n cap) ∧ w'.ownsRow w.heap.size 2 1 (.slice (some ⟨g, 0, none⟩) n cap) n (iv (scaM p a)) ∧ Below w.heap.size w w' := by
  have HA := Lib.hid hA
  have Hn := Lib.hid hn
  have Ha := Lib.hid ha
  clear hA hn ha
  go_enter Try.func104, Try.ntmps104
  go_wp2_with fail
  go_loopw [5, 6] (fun vv i wr => ∃ k g cap : Nat, k ≤ n ∧ i = .int .i64 k ∧ vv = .slice (some ⟨g, 0, none⟩) k cap ∧ wr.ownsRow w.heap.size 2 1 (.slice (some ⟨g, 0, none⟩) k cap) k (iv ((scaM p a).take k)) ∧ Below w.heap.size w wr) (fun _ i _ => n - (intOf i).toNat)
  case atStart => exact ⟨0, w.heap.size, 0, by omega, rfl, rfl, World.ownsRow_made w #[] 0 (Nat.le_refl _) (by decide) (by simp), (Below.refl _ _).alloc (Nat.le_refl _) _⟩
  case round =>
    obtain ⟨k, g, cap, hk, rfl, rfl, hown, hbel⟩ := hrel
    have HO := Lib.hid hown
    have HBL := Lib.hid hbel
    have hsz := hbel.size
    by_cases hlt : k < n
    · have HTS := Lib.hid (scaM_take (p := p) (a := a) (i := k) (by rw [← Hn.out]; exact hlt))
      obtain ⟨ba, oa, rfl, hca0⟩ := HA.out.atI (k := k) (by rw [← Hn.out]; exact hlt)
      have hba := World.block_lt_of_cell? _ _ hca0
      have hca := (hbel.cell hba).trans hca0
      clear hca0 hba
      obtain ⟨x0, x1⟩ := Ha.out k hlt
      have hz1 : a.getD k 0 * (p : Int) ≤ 1000000000 * 1000000 := Int.mul_le_mul (by omega) (by omega) (by omega) (by omega)
      have hz2 : 0 ≤ a.getD k 0 * (p : Int) := Int.mul_nonneg x0 (by omega)
      have hw : IntKind.i64.wrap (a.getD k 0 * p) = a.getD k 0 * p := by rw [IntKind.wrap_i64]; omega
      generalize a.getD k 0 = x at *
      clear hown hbel x0 x1
      generalize hz : x * (p : Int) = z at *
      go_wp2_with (at_builtin; refine wpList_app1 _ _ _ _ _ etI (by rfl) (by rfl) w.heap.size (.slice (some ⟨g, 0, none⟩) k cap) k (iv ((scaM p a).take k)) (by rfl) (HO.out.alloc _) _ (.int .i64 z) (by first | rfl | (show Value.int .i64 _ = _; rw [hw]) | (show Value.int .i64 (wrap64 _) = _; rw [hz]; exact congrArg _ hw)) (new_cell _ _ _) (by rfl) (by omega) (Nat.le_trans hsz (Nat.le_of_lt (by simp))) ?_; (intro g2 cap2 w2 hown2 hgrow2 hat2 hlt3; have HO2 := Lib.hid hown2; have HB2 := Lib.hid (below_app2 HBL.out hsz HO.out hgrow2); clear hown2 hgrow2 hat2 hlt3))
      go_roundw
      case rel => exact ⟨k + 1, g2, cap2, by omega, by go_num, rfl, by rw [HTS.out, iv_append]; exact HO2.out, HB2.out⟩
      case measure => simp [intOf]; omega
    · obtain rfl : k = n := by omega
      have he : (scaM p a).take k = scaM p a := List.take_of_length_le (by rw [scaM_length, ← Hn.out]; exact Nat.le_refl _)
      rw [he] at HO
      clear hown hbel he
      go_wp2_with fail
      go_ret
      exact ⟨g, cap, rfl, HO.out, HBL.out⟩

set_option maxRecDepth 100000 in
set_option maxHeartbeats 1000000 in
theorem l10Squared_any (A : Option Addr) (n c k : Nat) (L : List Row) (w : World) (hn : n = L.length) (hsm : n ≤ 1000000) (hk : k ≤ 1000000) (hl : ∀ x ∈ dat L, x.length = k ∧ ∀ e ∈ x, 0 ≤ e ∧ e < 1000000000) (hR : RdR w A L) :
    Calls Try.prog 71 #[.slice A n c] w (ResRows ((dat L).map (scaM 2)) w) := by
  have HR := Lib.hid hR
  have Hn := Lib.hid hn
  have HL := Lib.hid hl
  clear hR hn hl
  go_enter Try.func71, Try.ntmps71
  go_wp2_with fail
  go_loopw [3, 4] (fun vv i wr => ∃ R : List Row, ∃ A1 c1, R.length ≤ n ∧ i = .int .i64 (R.length : Nat) ∧ vv = .slice A1 R.length c1 ∧ Hid (dat R = ((dat L).map (scaM 2)).take R.length) ∧ OwnR wr w.heap.size (.slice A1 R.length c1) R ∧ Below w.heap.size w wr) (fun _ i _ => n - (intOf i).toNat)
  case atStart => exact ⟨[], some ⟨w.heap.size, 0, none⟩, 0, by simp, rfl, rfl, Lib.hid rfl, OwnR.made w (Nat.le_refl _), (Below.refl _ _).alloc (Nat.le_refl _) _⟩
  case round =>
    obtain ⟨R, A1, c1, hj, rfl, rfl, HD, hown, hbel⟩ := hrel
    have HO := Lib.hid hown
    have HB := Lib.hid hbel
    have hsz := hbel.size
    have hq : R.length < 1099511627776 := by omega
    by_cases hlt : R.length < n
    · have hjL : R.length < L.length := by rw [← Hn.out]; exact hlt
      have hR1 := HR.out.below hbel
      obtain ⟨b, o, rfl, hc⟩ := hR1.at_ hjL
      have hin := hR1.inn _ hjL
      have hjd : R.length < (dat L).length := by rw [dat_length]; exact hjL
      have hl2 := HL.out (rg L R.length).xs (by rw [← dat_getD]; simp [List.getD, hjd])
      clear hjd
      have HTS : Hid (((dat L).map (scaM 2)).take (R.length + 1) = ((dat L).map (scaM 2)).take R.length ++ [scaM 2 (rg L R.length).xs]) := Lib.hid (by
        rw [List.take_succ_eq_append_getElem (by rw [List.length_map, dat_length]; exact hjL), ← dat_getD]; simp [List.getD, hjL, dat_length])
      generalize rg L R.length = r at *
      obtain ⟨rA, rc, rx⟩ := r
      simp only at hc hin hl2 HTS
      have HC := Lib.hid (l06Scaled_any rA rx.length rc 2 rx wr rfl (by omega) (fun i hi => hl2.2 _ (by simp [List.getD, hi])) (by omega) hin)
      clear hown hbel hR1 hin hjL hl2
      go_wp2_with fail
      refine HC.out.mono ?_
      rintro e w1 ⟨g, cap, rfl, ho, hb⟩
      have HO1 := Lib.hid ho
      have HB1 := Lib.hid hb
      clear ho hb
      go_wp2_with (at_builtin; refine wpList_app1 _ _ _ _ _ etS (by rfl) (by rfl) w.heap.size (.slice A1 R.length c1) R.length (hv R) (by rfl) ((HO.out.later HB1.out).out.alloc _) _ (.slice (some ⟨g, 0, none⟩) rx.length cap) (by rfl) (new_cell _ _ _) (by rfl) hq (Nat.le_trans (Nat.le_trans hsz HB1.out.size) (Nat.le_of_lt (by simp))) ?_; (intro g2 c2 w3 hown3 hg3 hat3 hlt3; have HN := Lib.hid (OwnR.push HO.out HB1.out HO1.out (scaM_length _ _).symm hsz hown3 hg3); have HB3 := Lib.hid (below_app2 (HB.out.trans (HB1.out.mono hsz)) (Nat.le_trans hsz HB1.out.size) (HO.out.later HB1.out).out hg3); clear hown3 hg3 hat3 hlt3))
      go_roundw
      case rel =>
        refine ⟨R ++ [⟨some ⟨g, 0, none⟩, cap, scaM 2 rx⟩], some ⟨g2, 0, none⟩, c2, by simp; omega, by simp, by simp, Lib.hid ?_, by simpa using HN.out, HB3.out⟩
        rw [dat_append1, HD.out, List.length_append, List.length_singleton, HTS.out]
      case measure => simp [intOf]; omega
    · obtain rfl : n = R.length := by omega
      have he : ((dat L).map (scaM 2)).take R.length = (dat L).map (scaM 2) := List.take_of_length_le (by rw [List.length_map, dat_length, ← Hn.out]; exact Nat.le_refl _)
      rw [he] at HD
      clear hown hbel he
      go_wp2_with fail
      go_ret
      exact ⟨_, R, rfl, HD.out, HO.out, HB.out⟩

theorem set_plus : ∀ (k j : Nat) (e : Int) (x : List Int), x.length = k → x.set j (x.getD j 0 + e) = plusM ((List.replicate k 0).set j e) x
  | 0, j, e, x, h => by
    have : x = [] := List.length_eq_zero_iff.1 h
    subst this
    simp [plusM]
  | k + 1, 0, e, a :: x, h => by
    have hx : x.length = k := by simpa using h
    rw [List.replicate_succ, List.set_cons_zero, List.set_cons_zero]
    show (a + e) :: x = (e + a) :: plusM (List.replicate k 0) x
    have : plusM (List.replicate k 0) x = x := by
      clear h
      induction x generalizing k with
      | nil => simp [plusM]
      | cons b x ih =>
        cases k with
        | zero => simp at hx
        | succ k =>
          rw [List.replicate_succ]
          show (0 + b) :: plusM (List.replicate k 0) x = _
          rw [ih k (by simpa using hx), Int.zero_add]
    rw [this, Int.add_comm]
  | k + 1, j + 1, e, a :: x, h => by
    have hx : x.length = k := by simpa using h
    rw [List.replicate_succ, List.set_cons_succ, List.set_cons_succ]
    show a :: x.set j (x.getD j 0 + e) = (0 + a) :: plusM _ x
    rw [set_plus k j e x hx, Int.zero_add]

set_option maxRecDepth 100000 in
set_option maxHeartbeats 2000000 in
theorem l10Raised_any (A : Option Addr) (n c k j e : Nat) (L : List Row) (w : World) (hn : n = L.length) (hsm : n ≤ 1000000) (hk : k ≤ 1000000) (hj : j < k) (he : e ≤ 1000000) (hl : ∀ x ∈ dat L, x.length = k ∧ ∀ e ∈ x, 0 ≤ e ∧ e < 1000000000) (hR : RdR w A L) :
    Calls Try.prog 69 #[.slice A n c, .int .i64 j, .int .i64 e] w (RdResY (nf ((dat L).map (plusM (monoM k j e)))) w) := by
  have HR := Lib.hid hR
  have Hn := Lib.hid hn
  have HL := Lib.hid hl
  have HM : Hid (∀ i, ∀ x ∈ ((dat L).map (plusM (monoM k j e))).take i, x.length = k) := Lib.hid fun i x hx => by
    obtain ⟨y, hy, rfl⟩ := List.mem_map.1 (List.mem_of_mem_take hx)
    exact plusM_length (by simp [monoM]) (hl y hy).1
  clear hR hn hl
  go_enter Try.func69, Try.ntmps69
  go_wp2_with fail
  go_loopw [7, 8] (fun vv i wr => ∃ (i1 : Nat) (Ao : Option Addr) (co : Nat) (R : List Row), i1 ≤ n ∧ i = .int .i64 i1 ∧ vv = .slice Ao R.length co ∧ dat R = nf (((dat L).map (plusM (monoM k j e))).take i1) ∧ RdY wr Ao R ∧ R.length ≤ co ∧ Below w.heap.size w wr) (fun _ i _ => n - (intOf i).toNat)
  case atStart => exact ⟨0, some ⟨w.heap.size, 0, none⟩, 0, [], by omega, rfl, rfl, rfl, RdY.nil _ _, Nat.le_refl _, (Below.refl _ _).alloc (Nat.le_refl _) _⟩
  case round =>
    obtain ⟨i1, Ao, co, R, hi, rfl, rfl, hdat, hR, hco, hb⟩ := hrel
    have HRL := Lib.hid (row_len hdat (HM.out i1) hk)
    have HSL : Hid (R.length ≤ 600000000000) := Lib.hid (by
      have h1 := nf_len (((dat L).map (plusM (monoM k j e))).take i1)
      rw [← hdat, dat_length, List.length_take] at h1
      omega)
    have HD := Lib.hid hdat
    have HRY := Lib.hid hR
    have HBL := Lib.hid hb
    have hsz := hb.size
    by_cases hlt : i1 < n
    · have hjL : i1 < L.length := by rw [← Hn.out]; exact hlt
      have hR1 := HR.out.below hb
      obtain ⟨b, o, rfl, hc⟩ := hR1.at_ hjL
      have hin := hR1.inn _ hjL
      have hjd : i1 < (dat L).length := by rw [dat_length]; exact hjL
      have hl2 := HL.out (rg L i1).xs (by rw [← dat_getD]; simp [List.getD, hjd])
      have HTS : Hid (((dat L).map (plusM (monoM k j e))).take (i1 + 1) = ((dat L).map (plusM (monoM k j e))).take i1 ++ [plusM (monoM k j e) (rg L i1).xs]) := Lib.hid (by
        rw [List.take_succ_eq_append_getElem (by rw [List.length_map]; exact hjd), ← dat_getD]; simp [List.getD, hjd])
      generalize rg L i1 = r at *
      obtain ⟨rA, rc, rx⟩ := r
      simp only at hc hin hl2 HTS
      obtain ⟨hxl, hxb⟩ := hl2
      have HC := Lib.hid (l01Own_any rA rx.length rc (iv rx) wr (by rw [iv_length]) (by omega) (iv_one _) hin)
      have hbx := hxb (rx.getD j 0) (by rw [List.getD, List.getElem?_eq_getElem (by omega)]; exact List.getElem_mem _)
      have HSP := Lib.hid (set_plus k j e rx hxl)
      have hjx : j < rx.length := by omega
      have hxk : rx.length ≤ 1000000 := by omega
      have HXL := Lib.hid hxl
      clear hdat hR hb hR1 hin hjL hjd hxb hxl
      go_wp2_with fail
      refine HC.out.mono ?_
      rintro e1 w1 ⟨g, cap, rfl, ho, hb1⟩
      have hcg := owns_getD ho (k := j) hjx
      have hf := ho.frozenAt j
      have h3 := (World.ownsRow.stored ho j (.int .i64 (rx.getD j 0 + e))).1
      rw [← iv_set] at h3
      have H3 := Lib.hid h3
      have hgl := (ho.lt g rfl).1
      have HB1 := Lib.hid (hb1.setCell (p := ⟨g, j, none⟩) hgl (.int .i64 (rx.getD j 0 + e)))
      have hw : IntKind.i64.wrap (rx.getD j 0 + e) = rx.getD j 0 + e := by rw [IntKind.wrap_i64]; omega
      rw [HSP.out] at H3
      clear h3 ho hb1 hgl HSP
      generalize rx.getD j 0 = y at *
      obtain ⟨hy0, hy1⟩ := hbx
      go_wp2_with fail
      have HX : (plusM (monoM k j e) rx).length = k := plusM_length (by simp [monoM]) HXL.out
      have h4 := H3.out
      rw [HXL.out] at h4 ⊢
      refine (l01PutY_any Ao (some ⟨g, 0, none⟩) R.length co k cap R (plusM (monoM k j e) rx) _ rfl hco HSL.out HRL.out HX.symm hk (HRY.out.below HB1.out) (owns_Rd h4)).mono ?_
      rintro e2 w2 ⟨A3, c3, T, rfl, hd3, hr3, hc3, hb3⟩
      have HB3 := Lib.hid (HBL.out.trans ((HB1.out.trans (hb3.mono HB1.out.size)).mono HBL.out.size))
      have HD3 := Lib.hid hd3
      have HR3 := Lib.hid hr3
      clear hd3 hr3 hb3 h4
      go_wp2_with fail
      go_roundw
      case rel => exact ⟨i1 + 1, A3, c3, T, by omega, by go_num, rfl, by rw [HD3.out, HD.out, HTS.out]; exact (nf_snoc _ _).symm, HR3.out, hc3, HB3.out⟩
      case measure => simp [intOf]; omega
    · obtain rfl : i1 = n := by omega
      have he : ((dat L).map (plusM (monoM k j e))).take i1 = (dat L).map (plusM (monoM k j e)) := List.take_of_length_le (by rw [List.length_map, dat_length, ← Hn.out]; exact Nat.le_refl _)
      rw [he] at HD
      clear hdat hR hb he
      go_wp2_with fail
      go_ret
      exact ⟨Ao, co, R, rfl, HD.out, HRY.out, hco, HBL.out⟩
end Go.Proofs.Ytnffpjdlpjkioaa

namespace Go.Proofs.Ytnffpjdlpjkioaa
open Go.RowKit

theorem etY2 : ET Try.prog 51 22 24 := ET.mk' (z := .slice none 0 0) Try.underlying51 (by kernel_rfl) (by decide) (by decide)
theorem ResRows.toY {Q : LL} {w w' : World} {e : Ending} (h : ResRows Q w e w') : RdResY Q w e w' := by
  obtain ⟨v, M, rfl, hd, ho, hb⟩ := h
  obtain ⟨A, c, rfl, hc, _⟩ := owns_shape ho.out
  exact ⟨A, c, M, rfl, hd, ho.rdY rfl, hc, hb⟩
theorem RdResY.of_eq {Q Q' : LL} {w w' : World} {e : Ending} (h : RdResY Q w e w') (k : Q = Q') : RdResY Q' w e w' := k ▸ h
theorem lexLt_sca (p : Int) (hp : 0 < p) : ∀ x y : List Int, lexLt (scaM p x) (scaM p y) = lexLt x y
  | [], [] => rfl
  | [], _ :: _ => rfl
  | _ :: _, [] => rfl
  | a :: x, b :: y => by
    show lexLt (a * p :: scaM p x) (b * p :: scaM p y) = _
    simp only [lexLt]
    by_cases e : a = b
    · subst e
      simp [lexLt_sca p hp x y]
    · have e2 : a * p ≠ b * p := fun h => e (Int.eq_of_mul_eq_mul_right (by omega) h)
      rw [if_neg e, if_neg e2]
      have : (a * p < b * p) ↔ a < b := Int.mul_lt_mul_right hp
      simp [this]
theorem as_sca {P : LL} (h : As P) (p : Int) (hp : 0 < p) : As (P.map (scaM p)) := by
  unfold As at *
  rw [List.pairwise_map]
  exact h.imp fun hab => by rw [lexLt_sca p hp]; exact hab
theorem nf_sca (P : LL) (p : Int) (hp : 0 < p) : (nf P).map (scaM p) = nf (P.map (scaM p)) := by
  rw [← nf_of_as (as_sca (as_nf P) p hp)]
  exact nf_eqv ((eqv_nf P).map _)
theorem nf_prod (P Q : LL) : nf (prodM (nf P) (nf Q)) = nf (prodM P Q) := nf_eqv (prodM_eqv (eqv_nf P) (eqv_nf Q))
theorem prodM_one (P : LL) (m : List Int) : prodM P [m] = P.map (plusM m) := by
  unfold prodM
  induction P with
  | nil => rfl
  | cons a P ih => rw [List.flatMap_cons, ih, List.map_cons, List.map_cons, plusM_comm a m]; rfl
section
variable {k d d' : Nat} {P Q : LL} {L K : List Row} {A B : Option Addr} {c c' : Nat} {W : World}
theorem hom_lens (h : HomM k d P) (hL : dat L = nf P) (hk : k ≤ 1000000) : ∀ i, i < L.length → (rg L i).xs.length ≤ 1000000 := row_len hL h.len hk
theorem hom_len (h : HomM k d P) (hL : dat L = nf P) (hk0 : 0 < k) (hk : k ≤ 4) (hd : d ≤ 40) : L.length ≤ 68921 := by
  have := h.len40 hk0 hk hd
  rw [← hL, dat_length] at this
  exact this
theorem times_hom (hk0 : 0 < k) (hk : k ≤ 4) (hP : HomM k d P) (hQ : HomM k d' Q) (hd : d ≤ 40) (hd' : d' ≤ 40) (hL : dat L = nf P) (hK : dat K = nf Q) (hA : RdR W A L) (hB : RdR W B K) :
    Calls Try.prog 70 #[.slice A L.length c, .slice B K.length c'] W (RdResY (nf (prodM P Q)) W) := by
  have h1 := hom_len hP hL hk0 hk hd
  have h2 := hom_len hQ hK hk0 hk hd'
  have h3 : L.length * K.length ≤ 68921 * 68921 := Nat.mul_le_mul h1 h2
  refine (l08Times_any A B L.length K.length c c' k L K W rfl rfl (by rw [hL]; exact hP.nf.exps (by omega)) (by rw [hK]; exact hQ.nf.exps (by omega)) (by omega) (by omega) hA hB).mono fun e w' h => h.of_eq ?_
  rw [hL, hK, nf_prod]
theorem sum_hom (hk0 : 0 < k) (hk : k ≤ 4) (hP : HomM k d P) (hQ : HomM k d' Q) (hd : d ≤ 40) (hd' : d' ≤ 40) (hL : dat L = nf P) (hK : dat K = nf Q) (hA : RdR W A L) (hB : RdR W B K) :
    Calls Try.prog 68 #[.slice A L.length c, .slice B K.length c'] W (ResRows (nf (P ++ Q)) W) := by
  have h1 := hom_len hP hL hk0 hk hd
  have h2 := hom_len hQ hK hk0 hk hd'
  refine (l01Sum_any A B L.length K.length c c' L K W rfl rfl (by omega) (by omega) (hom_lens hP hL (by omega)) (hom_lens hQ hK (by omega)) hA hB).mono fun e w' h => ?_
  rw [hL, hK, nf_sum] at h
  exact h
theorem hom_bd (h : HomM k d P) (hd : d ≤ 40) : ∀ x ∈ nf P, x.length = k ∧ ∀ e ∈ x, 0 ≤ e ∧ e < 1000000000 := fun x hx => by
  obtain ⟨h1, h2⟩ := h.mon (by omega) x (nf_sub hx)
  exact ⟨h1, fun e he => by have := h2 e he; omega⟩
theorem squared_hom (hk0 : 0 < k) (hk : k ≤ 4) (hP : HomM k d P) (hd : d ≤ 40) (hL : dat L = nf P) (hA : RdR W A L) :
    Calls Try.prog 71 #[.slice A L.length c] W (RdResY (nf (P.map (scaM 2))) W) := by
  have h1 := hom_len hP hL hk0 hk hd
  refine (l10Squared_any A L.length c k L W rfl (by omega) (by omega) (by rw [hL]; exact hom_bd hP hd) hA).mono fun e w' h => h.toY.of_eq ?_
  rw [hL, nf_sca _ _ (by omega)]
theorem raised_hom {j e : Nat} (hk0 : 0 < k) (hk : k ≤ 4) (hj : j < k) (he : e ≤ 1000000) (hP : HomM k d P) (hd : d ≤ 40) (hL : dat L = nf P) (hA : RdR W A L) :
    Calls Try.prog 69 #[.slice A L.length c, .int .i64 j, .int .i64 e] W (RdResY (nf (prodM P [monoM k j e])) W) := by
  have h1 := hom_len hP hL hk0 hk hd
  refine (l10Raised_any A L.length c k j e L W rfl (by omega) (by omega) hj he (by rw [hL]; exact hom_bd hP hd) hA).mono fun e w' h => h.of_eq ?_
  rw [hL, prodM_one]
  exact nf_eqv ((eqv_nf P).map _)
end
theorem OwnY.cell {w : World} {B : Nat} {A : Option Addr} {n c i : Nat} {L : List Cub} (h : OwnY w B (.slice A n c) L) (hi : i < L.length) : ∃ g, A = some ⟨g, 0, none⟩ ∧ w.cell? ⟨g, i, none⟩ = some (cg L i).val := by
  obtain ⟨A', c', e, _, h3, _⟩ := owns_shape h.out
  obtain ⟨g, rfl, _⟩ := h3 (by omega)
  injection e with e1 e2 e3
  subst e1 e2 e3
  refine ⟨g, rfl, ?_⟩
  rw [h.out.cellAt i (by omega), cvs_get hi]
theorem OwnY.mono {w : World} {B B' : Nat} {v : Value} {L : List Cub} (h : OwnY w B v L) (hB : B' ≤ B) : OwnY w B' v L := ⟨h.out.mono hB, h.inn⟩
theorem OwnY.one {w : World} {B : Nat} {x : Cub} (h : RdY w x.A x.rows) (hB : B ≤ w.heap.size) : OwnY (w.alloc (.cells #[x.val] 22)) B (.slice (some ⟨w.heap.size, 0, none⟩) 1 1) [x] := by
  refine ⟨⟨rfl, .inr ⟨w.heap.size, 1, _, rfl, hB, blk_new w _, Nat.le_refl _, by decide, rfl, rfl⟩⟩, fun i hi => ?_⟩
  have : i = 0 := by simpa using hi
  subst this
  exact h.below ((Below.refl _ _).alloc (Nat.le_refl _) _)
theorem cub_dat {L : List Cub} {Ls : List LL} (h : cdat L = Ls.map nf) {i : Nat} (hi : i < L.length) : dat (cg L i).rows = nf (Ls.getD i []) := by
  have hl : i < Ls.length := by
    have := congrArg List.length h
    rw [cdat_length, List.length_map] at this
    omega
  rw [← cdat_getD, h]
  simp [List.getD, hl]
/-- polynomials [x^0] of one term -/
theorem RdY.unit {w w' : World} {n : Nat} (hb : Below w.heap.size w w') (h : w'.ownsRow w.heap.size 2 1 (.slice (some ⟨w.heap.size, 0, none⟩) n n) n (iv (List.replicate n 0))) :
    RdY (w'.alloc (.cells #[.slice (some ⟨w.heap.size, 0, none⟩) n n] 30)) (some ⟨w'.heap.size, 0, none⟩) [⟨some ⟨w.heap.size, 0, none⟩, n, List.replicate n 0⟩] := by
  have := RdY.one (w := w') (rA := some ⟨w.heap.size, 0, none⟩) (rc := n) (rx := List.replicate n 0) (owns_Rd h) (by simp) (fun _ a ha => owns_ety h (by rw [ha]; rfl))
  simpa using this
end Go.Proofs.Ytnffpjdlpjkioaa

namespace Go.Proofs.Ytnffpjdlpjkioaa
open Go.RowKit

theorem cdat_snoc (L : List Cub) (x : Cub) : cdat (L ++ [x]) = cdat L ++ [dat x.rows] := by simp [cdat]
theorem shl_small {i : Nat} (h : i ≤ 60) : IntKind.i64.wrap ((2 : Int) ^ i) = ((2 ^ i : Nat) : Int) := by
  have h1 : (2 : Nat) ^ i ≤ 2 ^ 60 := Nat.pow_le_pow_right (by omega) h
  have e : ((2 ^ i : Nat) : Int) = (2 : Int) ^ i := by simp
  rw [← e, IntKind.wrap_i64]
  generalize (2 : Nat) ^ i = z at *
  omega
theorem shl_small' {i : Nat} (h : i ≤ 60) : wrap64 ((2 : Int) ^ i) = ((2 ^ i : Nat) : Int) := by
  have h1 : (2 : Nat) ^ i ≤ 2 ^ 60 := Nat.pow_le_pow_right (by omega) h
  have e : ((2 ^ i : Nat) : Int) = (2 : Int) ^ i := by simp
  rw [← e]
  generalize (2 : Nat) ^ i = z at *
  unfold wrap64
  omega
theorem pow_le8 {i : Nat} (h : i ≤ 3) : (2 : Nat) ^ i ≤ 8 := Nat.pow_le_pow_right (n := 2) (by omega) h
set_option maxRecDepth 100000 in
set_option maxHeartbeats 4000000 in
theorem l10Dickson_any (k : Nat) (w : World) (hk0 : 0 < k) (hk : k ≤ 4) : Calls Try.prog 36 #[.int .i64 k] w fun e w' => ∃ v L, e = .returned v ∧ OwnY w' w.heap.size v L ∧ cdat L = (dkL k k).map nf ∧ Below w.heap.size w w' := by
  have hmk := run_make_row' (P := Try.prog) 30 2 (.int .i64 0) 8 Try.underlying30 infoI rfl .i64 .i64 k (by omega) (by omega)
  have hO := made_own w w.heap.size k (Nat.le_refl _) (by omega)
  have HU := Lib.hid (RdY.unit ((Below.refl _ _).alloc (Nat.le_refl _) _) hO)
  clear hO
  go_enter Try.func36, Try.ntmps36
  go_wp2_with fail
  go_loopw [3, 4] (fun o i wr => ∃ (v c : Nat) (A : Option Addr) (L : List Cub), i = .int .i64 v ∧ v ≤ k ∧ o = .slice A (v + 1) c ∧ L.length = v + 1 ∧ cdat L = (dkL k v).map nf ∧ OwnY wr w.heap.size (.slice A (v + 1) c) L ∧ Below w.heap.size w wr) (fun _ i _ => k - (intOf i).toNat)
  case atStart => exact ⟨0, 1, _, [⟨some ⟨w.heap.size + 1, 0, none⟩, 1, [⟨some ⟨w.heap.size, 0, none⟩, k, List.replicate k 0⟩]⟩], rfl, by omega, rfl, rfl, rfl, (by have h := OwnY.one (B := w.heap.size) (x := ⟨some ⟨w.heap.size + 1, 0, none⟩, 1, [⟨some ⟨w.heap.size, 0, none⟩, k, List.replicate k 0⟩]⟩) (by simpa using HU.out) (by simp; omega); simp only [World.size_alloc] at h; exact h), (((Below.refl _ _).alloc (Nat.le_refl _) _).alloc (by simp) _).alloc (by simp; omega) _⟩
  case round =>
    obtain ⟨v, c, A, L, rfl, hv, rfl, hbl, hcd, hO, hB⟩ := hrel
    have HO := Lib.hid hO
    have HB := Lib.hid hB
    have HCL := Lib.hid hcd
    have hsz := hB.size
    obtain ⟨wv, hwv⟩ : ∃ wv, wv = wr := ⟨_, rfl⟩
    subst hwv
    clear hO hB hcd
    by_cases hlt : v < k
    · have hv3 : v ≤ 3 := by omega
      have hH := dkL_hom (k := k) (v := v) (by omega)
      have hj8 : 2 ^ v ≤ 8 := pow_le8 hv3
      have HP2 : Hid (∀ i : Nat, 2 ^ v - 2 ^ i ≤ 16 ∧ 2 ^ (v + 1) - 2 ^ i ≤ 16 ∧ 2 ^ v ≤ 16) := Lib.hid fun i => by
        have e : 2 ^ (v + 1) = 2 ^ v * 2 := by rw [Nat.pow_succ]
        generalize (2 : Nat) ^ i = z
        generalize (2 : Nat) ^ v = y at *
        omega
      have HH := Lib.hid hH
      have HVV := Lib.hid (fun i hi => dkV_hom hlt hH i hi)
      have HLD : Hid (∀ i, i ≤ v → dat (cg L i).rows = nf ((dkL k v).getD i [])) := Lib.hid fun i hi => cub_dat HCL.out (by omega)
      clear hH hj8
      go_wp2_with fail
      go_loopw [5, 6] (fun o i wr => ∃ (j co : Nat) (Ao : Option Addr) (R : List Row), i = .int .i64 j ∧ j ≤ v + 1 ∧ o = .slice Ao R.length co ∧ dat R = nf (dkV k v (dkL k v) j) ∧ RdY wr Ao R ∧ R.length ≤ co ∧ Below wv.heap.size wv wr) (fun _ i _ => v + 1 - (intOf i).toNat)
      case atStart => exact ⟨0, 0, some ⟨wv.heap.size, 0, none⟩, [], rfl, by omega, rfl, rfl, RdY.nil _ _, Nat.le_refl _, (Below.refl _ _).alloc (Nat.le_refl _) _⟩
      case round =>
        obtain ⟨j, cv, Av, Rv, rfl, hj, rfl, hdv, hyv, hcv, hb⟩ := hrel
        have HRV := Lib.hid hdv
        have HYV := Lib.hid hyv
        have HCV := Lib.hid hcv
        have HBJ := Lib.hid hb
        have hbsz := hb.size
        clear hdv hyv hcv hb
        by_cases hjl : j < v + 1
        · have hji : (j : Int) < (v : Int) + 1 := by omega
          have hmin : min j 64 = j := by omega
          have hsh := shl_small (i := j) (by omega)
          have hsh' := shl_small' (i := j) (by omega)
          obtain ⟨_, eA, hcA⟩ := (HO.out.below HBJ.out).cell (i := j) (by omega)
          cases eA
          have HST : Hid (dkV k v (dkL k v) (j + 1) = dkV k v (dkL k v) j ++ prodM ((dkL k v).getD j []) [monoM k v (2 ^ j)]) := Lib.hid rfl
          have he6 : 2 ^ j ≤ 1000000 := Nat.le_trans (pow_le8 (by omega)) (by decide)
          have HA1 := Lib.hid (raised_hom (A := (cg L j).A) (c := (cg L j).c) (W := wr) (e := 2 ^ j) hk0 hk hlt he6 (HH.out j (by omega)) (by have := HP2.out j; omega) (HLD.out j (by omega)) ((HO.out.below HBJ.out).inn j (by omega)).rd)
          have HR1 : Hid (HomM k (2 ^ v) (prodM ((dkL k v).getD j []) [monoM k v (2 ^ j)])) := Lib.hid (by
            have h1 := (HH.out j (by omega)).prod (hom_mono (2 ^ j) hlt)
            rwa [Nat.sub_add_cancel (Nat.pow_le_pow_right (by omega) (by omega))] at h1)
          unfold Cub.val at hcA
          generalize cg L j = xj at *
          generalize (2 : Nat) ^ j = pj at *
          go_wp2_with fail
          refine HA1.out.mono ?_
          rintro e W1 ⟨AB, cB, RB, rfl, hdB, hyB, hcB, hbB⟩
          have HDB := Lib.hid hdB
          have HYB := Lib.hid hyB
          have HBB := Lib.hid (HBJ.out.trans (hbB.mono hbsz))
          have HYV1 := Lib.hid (HYV.out.below hbB)
          clear hdB hyB hbB hcA
          have HS1 := Lib.hid (sum_hom (A := Av) (c := cv) (B := AB) (c' := cB) (W := W1) hk0 hk (HVV.out j (by omega)) HR1.out (by have := HP2.out j; omega) (by have := HP2.out j; omega) HRV.out HDB.out HYV1.out.rd HYB.out.rd)
          go_wp2_with fail
          refine HS1.out.mono ?_
          rintro e V1 hres1
          obtain ⟨AT, cT, RT, rfl, hdT, hyT, hcT, hbT⟩ := hres1.toY
          have HD1 := Lib.hid hdT
          have HY1 := Lib.hid hyT
          have HC1 := Lib.hid hcT
          have HB1 := Lib.hid (HBB.out.trans (hbT.mono HBB.out.size))
          clear hdT hyT hcT hbT hres1
          go_wp2_with fail
          go_roundw
          case rel => exact ⟨j + 1, cT, AT, RT, by go_num, by omega, rfl, by rw [HST.out]; exact HD1.out, HY1.out, HC1.out, HB1.out⟩
          case measure => simp [intOf]; omega
        · have ej : j = v + 1 := by omega
          rw [ej] at HRV
          have hjn : ¬ (j : Int) < (v : Int) + 1 := by omega
          clear ej hj
          obtain ⟨wz, hwz⟩ : ∃ wz, wz = wr := ⟨_, rfl⟩
          subst hwz
          have HOz := Lib.hid (HO.out.below HBJ.out)
          have HVH := Lib.hid (HVV.out (v + 1) (Nat.le_refl _))
          go_wp2_with fail
          go_loopw [7, 8] (fun o i wr => ∃ (i1 cn : Nat) (An : Option Addr) (Ln : List Cub), i = .int .i64 i1 ∧ i1 ≤ v + 2 ∧ o = .slice An i1 cn ∧ Ln.length = i1 ∧ cdat Ln = ((dkL k (v + 1)).take i1).map nf ∧ OwnY wr wz.heap.size (.slice An i1 cn) Ln ∧ Below wz.heap.size wz wr) (fun _ i _ => v + 2 - (intOf i).toNat)
          case atStart => exact ⟨0, 0, some ⟨wz.heap.size, 0, none⟩, [], rfl, by omega, rfl, rfl, rfl, OwnY.made wz (Nat.le_refl _), (Below.refl _ _).alloc (Nat.le_refl _) _⟩
          case round =>
            obtain ⟨i, cn, An, Ln, rfl, hi, rfl, hbn, hcd, hON, hBZ⟩ := hrel
            have HON := Lib.hid hON
            have HBZ := Lib.hid hBZ
            have HCD := Lib.hid hcd
            have hzs := hBZ.size
            clear hON hBZ hcd
            by_cases hil : i < v + 2
            · have HTS : Hid (((dkL k (v + 1)).take (i + 1)).map nf = ((dkL k (v + 1)).take i).map nf ++ [nf (dkN k v (dkL k v) i)]) := Lib.hid (by
                rw [List.take_succ_eq_append_getElem (by rw [dkL_len]; exact hil), List.map_append]
                simp [dkL])
              have HAH : Hid (0 < i → HomM k (2 ^ (v + 1) - 2 ^ i) (((dkL k v).getD (i - 1) []).map (scaM 2))) := Lib.hid fun h0 => by
                have := dkA_hom HH.out (i := i) (by omega)
                unfold dkA at this
                rwa [if_pos h0] at this
              have HBH : Hid (i ≤ v → HomM k (2 ^ (v + 1) - 2 ^ i) (prodM ((dkL k v).getD i []) (dkV k v (dkL k v) (v + 1)))) := Lib.hid fun h0 => by
                have := dkB_hom hlt HH.out i
                unfold dkB at this
                rwa [if_pos h0] at this
              have HB0 : Hid (Below wr.heap.size wr (wr.alloc (.cells #[] 30))) := Lib.hid ((Below.refl _ _).alloc (Nat.le_refl _) _)
              have HY0 : Hid (RdY (wr.alloc (.cells #[] 30)) (some ⟨wr.heap.size, 0, none⟩) []) := Lib.hid (RdY.nil _ _)
              have HD0 : Hid (dat ([] : List Row) = nf []) := Lib.hid rfl
              have hii : (i : Int) ≤ (v : Int) + 1 := by omega
              by_cases h0 : 0 < i
              · have hix : ((i : Int) - 1).toNat = i - 1 := by omega
                have hin : (0 : Int) ≤ (i : Int) - 1 := by omega
                by_cases hiv : i ≤ v
                · have h0i : (0 : Int) < (i : Int) := by omega
                  have hivi : (i : Int) < (v : Int) + 1 := by omega
                  obtain ⟨_, eA1, hcA1⟩ := (HOz.out.below (HBZ.out.trans (HB0.out.mono hzs))).cell (i := i) (by omega)
                  cases eA1
                  have HA1 := Lib.hid (times_hom (A := (cg L i).A) (c := (cg L i).c) (B := Av) (c' := cv) (W := (wr.alloc (.cells #[] 30))) hk0 hk (HH.out i hiv) HVH.out (by have := HP2.out i; omega) (by have := HP2.out 0; omega) (HLD.out i hiv) HRV.out ((HOz.out.below (HBZ.out.trans (HB0.out.mono hzs))).inn i (by omega)).rd (HYV.out.below (HBZ.out.trans (HB0.out.mono hzs))).rd)
                  unfold Cub.val at hcA1
                  generalize cg L i = x1 at *
                  go_wp2_with fail
                  refine HA1.out.mono ?_
                  rintro e W1 ⟨AB, cB, RB, rfl, hdB, hyB, hcB, hbB⟩
                  have HD1 := Lib.hid hdB
                  have HY1 := Lib.hid hyB
                  have HC1 := Lib.hid hcB
                  have HB1 := Lib.hid (HB0.out.trans (hbB.mono HB0.out.size))
                  clear hdB hyB hcB hbB hcA1
                  obtain ⟨_, eA2, hcA2⟩ := (HOz.out.below (HBZ.out.trans (HB1.out.mono hzs))).cell (i := i - 1) (by omega)
                  cases eA2
                  have HA2 := Lib.hid (squared_hom (A := (cg L (i - 1)).A) (c := (cg L (i - 1)).c) (W := W1) hk0 hk (HH.out (i - 1) (by omega)) (by have := HP2.out (i - 1); omega) (HLD.out (i - 1) (by omega)) ((HOz.out.below (HBZ.out.trans (HB1.out.mono hzs))).inn (i - 1) (by omega)).rd)
                  unfold Cub.val at hcA2
                  generalize cg L (i - 1) = x2 at *
                  go_wp2_with fail
                  refine HA2.out.mono ?_
                  rintro e W2 ⟨AS, cS, RS, rfl, hdS, hyS, hcS, hbS⟩
                  have HDS2 := Lib.hid hdS
                  have HYS2 := Lib.hid hyS
                  have HBS2 := Lib.hid (HB1.out.trans (hbS.mono HB1.out.size))
                  have HYO2 := Lib.hid (HY1.out.below hbS)
                  clear hdS hyS hbS hcA2
                  have HS2 := Lib.hid (sum_hom (A := AB) (c := cB) (B := AS) (c' := cS) (W := W2) hk0 hk (HBH.out hiv) (HAH.out h0) (by have := HP2.out i; omega) (by have := HP2.out i; omega) HD1.out HDS2.out HYO2.out.rd HYS2.out.rd)
                  go_wp2_with fail
                  refine HS2.out.mono ?_
                  rintro e V2 hres2
                  obtain ⟨AT, cT, RT, rfl, hdT, hyT, hcT, hbT⟩ := hres2.toY
                  have HD2 := Lib.hid hdT
                  have HY2 := Lib.hid hyT
                  have HC2 := Lib.hid hcT
                  have HB2 := Lib.hid (HBS2.out.trans (hbT.mono HBS2.out.size))
                  clear hdT hyT hcT hbT hres2
                  have HOn := Lib.hid ((HON.out.below HB2.out).out)
                  have HQf : Hid (dat RT = nf (dkN k v (dkL k v) i)) := Lib.hid (by
                    have h := HD2.out
                    unfold dkN dkA dkB
                    rw [if_pos h0, if_pos hiv, h]
                    exact nf_perm List.perm_append_comm
                    )
                  have hsV := HB2.out.size
                  rw [hbn] at HOn
                  go_wp2_with (at_builtin; refine wpList_app1 _ _ _ _ _ etY2 (by rfl) (by rfl) wz.heap.size (.slice An i cn) i (cvs Ln) (by rfl) (HOn.out.alloc _) _ (.slice AT RT.length cT) (by rfl) (new_cell _ _ _) (by rfl) (by omega) (by simp; omega) ?_; (intro g2 c2 w3 hown3 hg3 hat3 hlt3; have HG3 := Lib.hid hg3; have HO3 := Lib.hid hown3; clear hown3 hg3 hat3 hlt3))
                  have HPU := Lib.hid (OwnY.push (x := (⟨AT, cT, RT⟩ : Cub)) HON.out HB2.out HY2.out (by rw [hbn]; exact HO3.out) HG3.out)
                  have HB3 := Lib.hid (below_app2 (HBZ.out.trans (HB2.out.mono hzs)) (by omega) HOn.out HG3.out)
                  go_roundw
                  case rel => exact ⟨i + 1, c2, some ⟨g2, 0, none⟩, Ln ++ [⟨AT, cT, RT⟩], by go_num, by omega, by rfl, by simp [hbn], by rw [HTS.out, cdat_snoc, HCD.out, HQf.out], by simpa [hbn] using HPU.out, HB3.out⟩
                  case measure => simp [intOf]; omega
                · have h0i : (0 : Int) < (i : Int) := by omega
                  have hivi : ¬ (i : Int) < (v : Int) + 1 := by omega
                  obtain ⟨_, eA1, hcA1⟩ := (HOz.out.below (HBZ.out.trans (HB0.out.mono hzs))).cell (i := i - 1) (by omega)
                  cases eA1
                  have HA1 := Lib.hid (squared_hom (A := (cg L (i - 1)).A) (c := (cg L (i - 1)).c) (W := (wr.alloc (.cells #[] 30))) hk0 hk (HH.out (i - 1) (by omega)) (by have := HP2.out (i - 1); omega) (HLD.out (i - 1) (by omega)) ((HOz.out.below (HBZ.out.trans (HB0.out.mono hzs))).inn (i - 1) (by omega)).rd)
                  unfold Cub.val at hcA1
                  generalize cg L (i - 1) = x1 at *
                  go_wp2_with fail
                  refine HA1.out.mono ?_
                  rintro e W1 ⟨AS, cS, RS, rfl, hdS, hyS, hcS, hbS⟩
                  have HDS1 := Lib.hid hdS
                  have HYS1 := Lib.hid hyS
                  have HBS1 := Lib.hid (HB0.out.trans (hbS.mono HB0.out.size))
                  have HYO1 := Lib.hid (HY0.out.below hbS)
                  clear hdS hyS hbS hcA1
                  have HS1 := Lib.hid (sum_hom (A := (some ⟨wr.heap.size, 0, none⟩)) (c := 0) (B := AS) (c' := cS) (W := W1) hk0 hk (HomM.nil (k := k) (d := 0)) (HAH.out h0) (by omega) (by have := HP2.out i; omega) HD0.out HDS1.out HYO1.out.rd HYS1.out.rd)
                  go_wp2_with fail
                  refine HS1.out.mono ?_
                  rintro e V1 hres1
                  obtain ⟨AT, cT, RT, rfl, hdT, hyT, hcT, hbT⟩ := hres1.toY
                  have HD1 := Lib.hid hdT
                  have HY1 := Lib.hid hyT
                  have HC1 := Lib.hid hcT
                  have HB1 := Lib.hid (HBS1.out.trans (hbT.mono HBS1.out.size))
                  clear hdT hyT hcT hbT hres1
                  have HOn := Lib.hid ((HON.out.below HB1.out).out)
                  have HQf : Hid (dat RT = nf (dkN k v (dkL k v) i)) := Lib.hid (by
                    have h := HD1.out
                    unfold dkN dkA dkB
                    rw [if_pos h0, if_neg hiv, List.append_nil, h, List.nil_append]
                    )
                  have hsV := HB1.out.size
                  rw [hbn] at HOn
                  go_wp2_with (at_builtin; refine wpList_app1 _ _ _ _ _ etY2 (by rfl) (by rfl) wz.heap.size (.slice An i cn) i (cvs Ln) (by rfl) (HOn.out.alloc _) _ (.slice AT RT.length cT) (by rfl) (new_cell _ _ _) (by rfl) (by omega) (by simp; omega) ?_; (intro g2 c2 w3 hown3 hg3 hat3 hlt3; have HG3 := Lib.hid hg3; have HO3 := Lib.hid hown3; clear hown3 hg3 hat3 hlt3))
                  have HPU := Lib.hid (OwnY.push (x := (⟨AT, cT, RT⟩ : Cub)) HON.out HB1.out HY1.out (by rw [hbn]; exact HO3.out) HG3.out)
                  have HB3 := Lib.hid (below_app2 (HBZ.out.trans (HB1.out.mono hzs)) (by omega) HOn.out HG3.out)
                  go_roundw
                  case rel => exact ⟨i + 1, c2, some ⟨g2, 0, none⟩, Ln ++ [⟨AT, cT, RT⟩], by go_num, by omega, by rfl, by simp [hbn], by rw [HTS.out, cdat_snoc, HCD.out, HQf.out], by simpa [hbn] using HPU.out, HB3.out⟩
                  case measure => simp [intOf]; omega
              · have hiv : i ≤ v := by omega
                have h0i : ¬ (0 : Int) < (i : Int) := by omega
                have hivi : (i : Int) < (v : Int) + 1 := by omega
                obtain ⟨_, eA1, hcA1⟩ := (HOz.out.below (HBZ.out.trans (HB0.out.mono hzs))).cell (i := i) (by omega)
                cases eA1
                have HA1 := Lib.hid (times_hom (A := (cg L i).A) (c := (cg L i).c) (B := Av) (c' := cv) (W := (wr.alloc (.cells #[] 30))) hk0 hk (HH.out i hiv) HVH.out (by have := HP2.out i; omega) (by have := HP2.out 0; omega) (HLD.out i hiv) HRV.out ((HOz.out.below (HBZ.out.trans (HB0.out.mono hzs))).inn i (by omega)).rd (HYV.out.below (HBZ.out.trans (HB0.out.mono hzs))).rd)
                unfold Cub.val at hcA1
                generalize cg L i = x1 at *
                go_wp2_with fail
                refine HA1.out.mono ?_
                rintro e W1 ⟨AB, cB, RB, rfl, hdB, hyB, hcB, hbB⟩
                have HD1 := Lib.hid hdB
                have HY1 := Lib.hid hyB
                have HC1 := Lib.hid hcB
                have HB1 := Lib.hid (HB0.out.trans (hbB.mono HB0.out.size))
                clear hdB hyB hcB hbB hcA1
                have HOn := Lib.hid ((HON.out.below HB1.out).out)
                have HQf : Hid (dat RB = nf (dkN k v (dkL k v) i)) := Lib.hid (by
                  have h := HD1.out
                  unfold dkN dkA dkB
                  rw [if_neg h0, if_pos hiv, List.nil_append, h]
                  )
                have hsV := HB1.out.size
                rw [hbn] at HOn
                go_wp2_with (at_builtin; refine wpList_app1 _ _ _ _ _ etY2 (by rfl) (by rfl) wz.heap.size (.slice An i cn) i (cvs Ln) (by rfl) (HOn.out.alloc _) _ (.slice AB RB.length cB) (by rfl) (new_cell _ _ _) (by rfl) (by omega) (by simp; omega) ?_; (intro g2 c2 w3 hown3 hg3 hat3 hlt3; have HG3 := Lib.hid hg3; have HO3 := Lib.hid hown3; clear hown3 hg3 hat3 hlt3))
                have HPU := Lib.hid (OwnY.push (x := (⟨AB, cB, RB⟩ : Cub)) HON.out HB1.out HY1.out (by rw [hbn]; exact HO3.out) HG3.out)
                have HB3 := Lib.hid (below_app2 (HBZ.out.trans (HB1.out.mono hzs)) (by omega) HOn.out HG3.out)
                go_roundw
                case rel => exact ⟨i + 1, c2, some ⟨g2, 0, none⟩, Ln ++ [⟨AB, cB, RB⟩], by go_num, by omega, by rfl, by simp [hbn], by rw [HTS.out, cdat_snoc, HCD.out, HQf.out], by simpa [hbn] using HPU.out, HB3.out⟩
                case measure => simp [intOf]; omega
            · have ei : i = v + 2 := by omega
              have hii : ¬ (i : Int) ≤ (v : Int) + 1 := by omega
              have HEI := Lib.hid ei
              have hbn2 : Ln.length = v + 1 + 1 := by omega
              have HON2 : Hid (OwnY wr wz.heap.size (.slice An (v + 1 + 1) cn) Ln) := Lib.hid (by have h := HON.out; rw [ei] at h; exact h)
              have HCD2 : Hid (cdat Ln = (dkL k (v + 1)).map nf) := Lib.hid (by have h := HCD.out; rw [ei, List.take_of_length_le (by rw [dkL_len]; exact Nat.le_refl _)] at h; exact h)
              clear ei
              go_wp2_with fail
              go_roundw
              case rel => exact ⟨v + 1, cn, An, Ln, by go_num, by omega, by rw [HEI.out], hbn2, HCD2.out, HON2.out.mono (by omega), HB.out.trans ((HBJ.out.mono hsz).trans (HBZ.out.mono (by omega)))⟩
              case measure => simp [intOf]; omega
    · obtain rfl : v = k := by omega
      go_wp2_with fail
      go_ret
      exact ⟨_, L, rfl, HO.out, HCL.out, HB.out⟩
end Go.Proofs.Ytnffpjdlpjkioaa
