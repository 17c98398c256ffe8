/- laws whose result is a module, rows, a code: the pieces of memory · the program's moduleOf · impl's vectors and masks: isBit, isVector, maskOf, digitsOf, vectorOf, masksOf, inDegree, vectorsOf · impl.degreesOf · the program's partOf -/
import Derived.Test.YtpchigdhnnkpcaaGreatDoorBxas
import Derived.Test.YtpchigdhnnkpcaaGreatDoorBxam
import Derived.Test.YtpchigdhnnkpcaaGreatDoorBxag
import Derived.Test.YtpchigdhnnkpcaaGreatDoorBxai
import Derived.Test.YtpchigdhnnkpcaaGreatDoorBxar
import Derived.Test.YtpchigdhnnkpcaaGreatDoorBxab
import Derived.Deep.RegionHeld3
set_option linter.all false
namespace Go.Proofs.YtpchigdhnnkpcaaGreatDoor
open Go.RowKit

section
variable {w0 w w' W x : World} {L L' : List Piece}
theorem Inw.lo (h : Inw w0 w L) (i : Nat) {c : Piece} (hi : L[i]? = some c) : w0.heap.size ≤ c.lo := (h.all c (List.mem_of_getElem? hi)).1
theorem Inw.sublist (h : Inw w0 w L) (hs : L'.Sublist L) : Inw w0 w L' := ⟨h.bel, fun c hc => h.all c (hs.subset hc), h.off.sublist hs⟩
theorem Inw.perm (h : Inw w0 w L) (hp : L.Perm L') : Inw w0 w L' :=
  ⟨h.bel, fun c hc => h.all c (hp.mem_iff.2 hc), (hp.pairwise_iff (fun {a b} hab => by rcases hab with h | h; exact .inr h; exact .inl h)).1 h.off⟩
theorem Inw.join (h : Inw w0 W L) (k : Inw W w' L') : Inw w0 w' (L' ++ L) := by
  refine ⟨h.bel.trans (k.bel.mono h.bel.size), fun c hc => ?_, List.pairwise_append.2 ⟨k.off, (h.step k.bel).off, fun a ha b hb => ?_⟩⟩
  · rcases List.mem_append.1 hc with hc | hc
    · exact ⟨Nat.le_trans h.bel.size (k.all c hc).1, (k.all c hc).2⟩
    · exact (h.step k.bel).all c hc
  · left; exact Nat.le_trans (h.all b hb).2.1 (k.all a ha).1
/-- a box of two cells that has been written -/
theorem Inw.set2 (h : Inw w0 w L) (i : Nat) {b : Nat} {u v : Value} {t : TypeId} (hi : L[i]? = some (boxP b #[u, v] t)) (x y : Value) : Inw w0 ((w.setCell ⟨b, 0, none⟩ x).setCell ⟨b, 1, none⟩ y) (L.set i (boxP b #[x, y] t)) := by
  have hb := h.box i hi
  have hk : Keeps w ((w.setCell ⟨b, 0, none⟩ x).setCell ⟨b, 1, none⟩ y) [some b] := ((Keeps.refl w [some b]).setCell (p := ⟨b, 0, none⟩) (by simp) x).setCell (p := ⟨b, 1, none⟩) (by simp) y
  exact h.mark i _ hi rfl rfl (Within.of_keeps hk (fun k hk => by injection hk with hk; subst hk; exact ⟨Nat.le_refl _, Nat.lt_succ_self _⟩)) (blk2set1' (blk2set0' hb x) y)

/-- what a call that returns a module, rows and a code leaves -/
theorem Inw.pushMR (h : Inw w0 w L) {H : Nat} {ds : List Int} {E : List (List Int)} {v v3 : Value} {M3 : List Row} (hH : w.heap.size ≤ H) (hm : ModOutH w.heap.size H ds E v w') (ho : OwnR w' H v3 M3) (hb : Below w.heap.size w w') :
    ∃ Ad cd A1 c1 R A3 c3 H', v = .agg #[.slice Ad ds.length cd, .slice A1 E.length c1] ∧ v3 = .slice A3 M3.length c3 ∧ dat R = E ∧ w.heap.size ≤ w'.heap.size ∧
      Inw w0 w' (rowsP H' w'.heap.size (.slice A3 M3.length c3) M3 :: modP w.heap.size H' (.slice Ad ds.length cd) ds (.slice A1 E.length c1) R :: L) := by
  obtain ⟨Ad, cd, A1, c1, R, rfl, h1, h2, h3, h4, h5, h6⟩ := hm
  obtain ⟨A3, c3, rfl, _⟩ := owns_shape ho.out
  have hRE : R.length = E.length := by rw [← dat_length, h2]
  rw [hRE] at h3 h6 ⊢
  refine ⟨Ad, cd, A1, c1, R, A3, c3, min H w'.heap.size, rfl, rfl, h2, hb.size, ?_⟩
  have hp1 : (modP w.heap.size (min H w'.heap.size) (.slice Ad ds.length cd) ds (.slice A1 E.length c1) R).p w' :=
    ⟨⟨h1, h3, h4⟩, fun g hg => Nat.lt_min.2 ⟨h5 g hg, (h1.lt g hg).2⟩, ⟨fun g hg => Nat.lt_min.2 ⟨h6.1 g hg, (h3.out.lt g hg).2⟩, fun i hi g hg => Nat.lt_min.2 ⟨h6.2 i hi g hg, ((h3.inn i hi).lt g hg).2⟩⟩⟩
  have hp2 : (rowsP (min H w'.heap.size) w'.heap.size (.slice A3 M3.length c3) M3).p w' := ⟨ho.mono (Nat.min_le_left H w'.heap.size), ho.up⟩
  have k1 := h.push hb _ (Nat.le_refl _) (Nat.min_le_right _ _) hp1
  have hlo : w.heap.size ≤ min H w'.heap.size := Nat.le_min.2 ⟨hH, hb.size⟩
  refine ⟨k1.bel, fun c hc => ?_, List.pairwise_cons.2 ⟨fun d hd => ?_, k1.off⟩⟩
  · rcases List.mem_cons.1 hc with rfl | hc
    · exact ⟨Nat.le_trans h.bel.size hlo, Nat.le_refl _, hp2⟩
    · exact k1.all c hc
  · left
    rcases List.mem_cons.1 hd with rfl | hd
    · exact Nat.le_refl _
    · exact Nat.le_trans (h.all d hd).2.1 hlo

/-- the memory of a result behind a region that draws its order -/
def MROut (W wx : World) (rr : (List Int × List (List Int)) × List (List Int) × Int) (o8 o9 o10 : Value) : Prop :=
  ∃ (b : Nat) (Ad : Option Addr) (cd : Nat) (A1 : Option Addr) (c1 : Nat) (R : List Row) (A3 : Option Addr) (c3 : Nat) (M3 : List Row) (lo1 hi1 lo2 hi2 : Nat), o8 = .pointer (some ⟨b, 0, none⟩) ∧ o9 = .slice A3 M3.length c3 ∧ o10 = .int .i64 rr.2.2 ∧ dat R = rr.1.2 ∧ dat M3 = rr.2.1 ∧ lo1 ≤ wx.heap.size ∧
    Inw W wx [boxP b #[.slice Ad rr.1.1.length cd, .slice A1 rr.1.2.length c1] 29, rowsP lo2 hi2 (.slice A3 M3.length c3) M3, modP lo1 hi1 (.slice Ad rr.1.1.length cd) rr.1.1 (.slice A1 rr.1.2.length c1) R]
theorem MROut.alloc {rr : (List Int × List (List Int)) × List (List Int) × Int} {Ad A1 A3 : Option Addr} {cd c1 c3 lo1 hi1 lo2 hi2 : Nat} {R M3 : List Row} (h : Inw W x (rowsP lo2 hi2 (.slice A3 M3.length c3) M3 :: modP lo1 hi1 (.slice Ad rr.1.1.length cd) rr.1.1 (.slice A1 rr.1.2.length c1) R :: L)) (hd : dat R = rr.1.2) (hd3 : dat M3 = rr.2.1) (hl : lo1 ≤ x.heap.size) :
    MROut W (x.alloc (.cells #[.slice Ad rr.1.1.length cd, .slice A1 rr.1.2.length c1] 29)) rr (.pointer (some ⟨x.heap.size, 0, none⟩)) (.slice A3 M3.length c3) (.int .i64 rr.2.2) :=
  ⟨_, _, _, _, _, _, _, _, _, _, _, _, _, rfl, rfl, rfl, hd, hd3, Nat.le_trans hl (by simp), (h.sublist (L' := [_, _]) (List.Sublist.cons_cons _ (List.Sublist.cons_cons _ (List.nil_sublist _)))).allocBox _ _⟩
theorem MROut.set {rr : (List Int × List (List Int)) × List (List Int) × Int} {Ad A1 A3 : Option Addr} {cd c1 c3 lo1 hi1 lo2 hi2 b : Nat} {u v : Value} {R M3 : List Row} (h : Inw W x (rowsP lo2 hi2 (.slice A3 M3.length c3) M3 :: modP lo1 hi1 (.slice Ad rr.1.1.length cd) rr.1.1 (.slice A1 rr.1.2.length c1) R :: L)) (i : Nat) (hi : L[i]? = some (boxP b #[u, v] 29)) (hd : dat R = rr.1.2) (hd3 : dat M3 = rr.2.1) (hl : lo1 ≤ x.heap.size) :
    MROut W ((x.setCell ⟨b, 0, none⟩ (.slice Ad rr.1.1.length cd)).setCell ⟨b, 1, none⟩ (.slice A1 rr.1.2.length c1)) rr (.pointer (some ⟨b, 0, none⟩)) (.slice A3 M3.length c3) (.int .i64 rr.2.2) := by
  have k := h.set2 (i + 1 + 1) (by simpa using hi) (.slice Ad rr.1.1.length cd) (.slice A1 rr.1.2.length c1)
  simp only [List.set_cons_succ] at k
  have hil := (List.getElem?_eq_some_iff.1 hi).1
  have hm : boxP b #[.slice Ad rr.1.1.length cd, .slice A1 rr.1.2.length c1] 29 ∈ L.set i (boxP b #[.slice Ad rr.1.1.length cd, .slice A1 rr.1.2.length c1] 29) := List.mem_set hil _
  have k2 := k.sublist (List.Sublist.cons_cons _ (List.Sublist.cons_cons _ (List.singleton_sublist.2 hm)))
  refine ⟨b, Ad, cd, A1, c1, R, A3, c3, M3, lo1, hi1, lo2, hi2, rfl, rfl, rfl, hd, hd3, ?_, k2.perm ?_⟩
  · exact Nat.le_trans hl (by simp [World.setCell])
  · exact (List.perm_append_comm (l₁ := [_, _]) (l₂ := [_]))
end

/-- bounds of a result -/
def PLen (rr : (List Int × List (List Int)) × List (List Int) × Int) : Prop :=
  rr.1.1.length ≤ 1000 ∧ (rr.1.2.length ≤ 10000 ∧ ∀ x ∈ rr.1.2, x.length ≤ 100) ∧ rr.2.1.length ≤ 1000 ∧ ∀ x ∈ rr.2.1, x.length ≤ 1000
theorem rows_small2 {M : List Row} {r : List (List Int)} (hd : dat M = r) (h : r.length ≤ 10000 ∧ ∀ x ∈ r, x.length ≤ 100) : M.length ≤ 10000 ∧ tot M ≤ 1000000 ∧ ∀ i, i < M.length → (rg M i).xs.length ≤ 100 := by
  subst hd
  have h1 : M.length ≤ 10000 := by rw [← dat_length]; exact h.1
  have h2 : ∀ i, i < M.length → (rg M i).xs.length ≤ 100 := fun i hi => h.2 _ (List.mem_map_of_mem (rg_mem hi))
  exact ⟨h1, Nat.le_trans (tot_le h2) (by omega), h2⟩

set_option maxHeartbeats 2000000 in
theorem markModule_free (B hi : Nat) (vd va : Value) (xs : List Int) (L : List Row) (k0 : Int) (w : World) (hown : OwnM w B vd xs va L) (hu : UpM hi vd va L) (hsm : xs.length ≤ 1048576) (hsm' : L.length ≤ 1048576) (ht : tot L ≤ 1048576) (h0 : 0 ≤ k0) (h1 : k0 ≤ 900000000000) :
    Calls Tryz.prog 16 #[.agg #[vd, va], .int .i64 k0] w fun e w' => e = .returned (.int .i64 (k0 + xs.length + tot L)) ∧ OwnM w' B vd (marks k0 xs.length) va (marksR (k0 + xs.length) L) ∧ Within B hi w w' := by
  obtain ⟨A, c, rfl, _, _, _⟩ := owns_shape hown.deg
  obtain ⟨A', c', rfl, _, _, _⟩ := owns_shape hown.act.out
  have hm := markInts_any B _ xs.length xs k0 (w.alloc (.cells #[.slice A xs.length c, .slice A' L.length c'] 29)) (hown.deg.alloc _) (by omega) h0 (by omega)
  have hk := blk_new w (.cells #[.slice A xs.length c, .slice A' L.length c'] 29)
  have HM := Lib.hid hm
  have HK := Lib.hid hk
  have HO := Lib.hid hown
  have HU := Lib.hid hu
  clear hm hown hk hu
  go_enter Tryz.func16, Tryz.ntmps16
  go_wp2_with fail
  refine HM.out.mono ?_
  rintro e w1 ⟨rfl, ho, hk⟩
  have hne := own_ne_blk (HO.out.deg.alloc (.cells #[.slice A xs.length c, .slice A' L.length c'] 29)) HK.out (by decide)
  have hkb := (hk.block _ (Array.getElem?_eq_some_iff.1 HK.out).1 (by simpa using hne.symm)).trans HK.out
  have hor := (HO.out.act.later ((Below.refl _ _).alloc (Nat.le_refl _) (.cells #[.slice A xs.length c, .slice A' L.length c'] 29))).keeps hk (by
    have := own_ne2 HO.out.act.out HO.out.deg (by decide)
    simpa using this) (fun i hi' => by
    have := none_or_symm (HO.out.dis i hi')
    simpa using this)
  have HW1 := Lib.hid ((Within.of_below (lo := B) (hi := hi) ((Below.refl w.heap.size w).alloc (Nat.le_refl _) (.cells #[.slice A xs.length c, .slice A' L.length c'] 29))).trans (Within.of_keeps hk (fun k hk' => ⟨(HO.out.deg.lt k hk').1, HU.out.1 k hk'⟩)))
  have HC := Lib.hid (markRowsO_any B _ L (k0 + xs.length) w1 hor hsm' ht (by omega) (by omega))
  obtain ⟨x0, x1, _, _, _⟩ := blk2cells hkb
  have HO1 := Lib.hid ho
  have HOR := Lib.hid hor
  clear ho hk hne hkb hor
  go_wp2_with fail
  refine HC.out.mono ?_
  rintro e w2 ⟨rfl, ho, hw⟩
  have HW2 := Lib.hid (HW1.out.trans (hw.within HOR.out HU.out.2.2))
  have HOF : Hid (OwnM w2 B (.slice A xs.length c) (marks k0 xs.length) (.slice A' L.length c') (marksR (k0 + xs.length) L)) := by
    refine Lib.hid ⟨?_, ho, fun i hi => ?_⟩
    · rw [marks_length]; exact hw.own HO1.out HO.out.dis
    · rw [marksR_length] at hi
      rw [rg_marksR _ _ _ hi]
      have e : Row.val ⟨(rg L i).A, (rg L i).c, Go.Proofs.YtpchigdhnnkpcaaGreatDoor.marks (k0 + xs.length + tot (L.take i)) (rg L i).xs.length⟩ = (rg L i).val := by simp [Row.val, marks_length]
      rw [e]; exact HO.out.dis i hi
  clear ho hw x0 x1
  go_wp2_with fail
  go_ret
  exact ⟨rfl, HOF.out, HW2.out⟩
section
variable {w : World} {ds : List Int} {E : List (List Int)} {Ad Ad' A1 A1' : Option Addr} {cd cd' c1 c1' lo lo' hi : Nat} {R R' : List Row}
theorem eqModP (h1 : OwnM w lo (.slice Ad ds.length cd) ds (.slice A1 E.length c1) R) (e1 : dat R = E) (h2 : OwnM w lo' (.slice Ad' ds.length cd') ds (.slice A1' E.length c1') R') (e2 : dat R' = E) (hl : ds.length ≤ 1000) (hE : E.length ≤ 10000 ∧ ∀ x ∈ E, x.length ≤ 100) :
    Calls Tryz.prog 15 #[.agg #[.slice Ad ds.length cd, .slice A1 E.length c1], .agg #[.slice Ad' ds.length cd', .slice A1' E.length c1']] w fun e w' => e = .returned (.bool true) ∧ Below w.heap.size w w' := by
  have s1 := rows_small2 e1 hE
  have l1 : E.length = R.length := by rw [← e1, dat_length]
  have l2 : E.length = R'.length := by rw [← e2, dat_length]
  exact eqModule_any _ _ _ _ _ _ _ _ _ _ ds R R' w rfl (by omega) l1 (by omega) (fun i hi => Nat.le_trans (s1.2.2 i hi) (by omega)) (e2.trans e1.symm) (owns_Rd h1.deg) (owns_Rd h2.deg) (h1.act.rd l1) (h2.act.rd l2)
set_option maxHeartbeats 1000000 in
theorem heldModule_any (A A' : Option Addr) (n c n' c' : Nat) (L : List Row) (k0 : Int) (w : World) (hn' : n' = L.length) (hR : Rd w A (iv (marks k0 n))) (hR' : RdR w A' (marksR (k0 + n) L)) (hsm : n ≤ 1048576) (hsm' : n' ≤ 1048576) (ht : tot L ≤ 1048576) (h0 : 0 ≤ k0) (h1 : k0 ≤ 900000000000) :
    Calls Tryz.prog 28 #[.agg #[.slice A n c, .slice A' n' c'], .int .i64 k0] w fun e w' => e = .returned (.int .i64 (k0 + n + tot L)) ∧ Below w.heap.size w w' := by
  have hk := blk_new w (.cells #[.slice A n c, .slice A' n' c'] 29)
  have HI := Lib.hid (heldInts_any A n c k0 (w.alloc (.cells #[.slice A n c, .slice A' n' c'] 29)) (hR.alloc _) (by omega) h0 (by omega))
  have HC := Lib.hid (heldRows_any A' n' c' L (k0 + n) (w.alloc (.cells #[.slice A n c, .slice A' n' c'] 29)) hn' (hR'.alloc _) hsm' ht (by omega) (by omega))
  obtain ⟨x0, x1, _, _, _⟩ := blk2cells hk
  have hk1 : ¬ (k0 + (n : Int) < 0) := by omega
  have hk2 : ¬ (k0 + (n : Int) + (tot L : Int) < 0) := by omega
  clear hR hR' hn' hk
  go_enter Tryz.func28, Tryz.ntmps28
  go_wp2_with fail
  refine HI.out.mono ?_
  rintro e w' ⟨rfl, rfl⟩
  go_wp2_with fail
  refine HC.out.mono ?_
  rintro e w' ⟨rfl, rfl⟩
  go_wp2_with fail
  go_ret
  exact ⟨rfl, (Below.refl _ _).alloc (Nat.le_refl _) _⟩
theorem heldModP (h1 : OwnM w lo (.slice Ad ds.length cd) (marks 1 ds.length) (.slice A1 E.length c1) (marksR (1 + ds.length) R)) (e1 : dat R = E) (hl : ds.length ≤ 1000) (hE : E.length ≤ 10000 ∧ ∀ x ∈ E, x.length ≤ 100) :
    Calls Tryz.prog 28 #[.agg #[.slice Ad ds.length cd, .slice A1 E.length c1], .int .i64 1] w fun e w' => e = .returned (.int .i64 (1 + ds.length + tot R)) ∧ Below w.heap.size w w' := by
  have s1 := rows_small2 e1 hE
  have l1 : E.length = R.length := by rw [← e1, dat_length]
  refine heldModule_any _ _ _ _ _ _ R 1 w l1 (owns_Rd (by have h := h1.deg; rw [marks_length] at h; exact h)) (h1.act.rd (by rw [marksR_length]; exact l1)) (by omega) (by omega) (by omega) (by omega) (by omega)
end
end Go.Proofs.YtpchigdhnnkpcaaGreatDoor

namespace Go.Proofs.YtpchigdhnnkpcaaGreatDoor
open Go.RowKit

def modC (f : Nat → Nat → Nat) (j i : Nat) : Nat → List (List Int)
  | 0 => []
  | c + 1 => modC f j i c ++ if tb (f j i) c = true then [[(j : Int), (i : Int), (c : Int)]] else []
def modI (f : Nat → Nat → Nat) (k j : Nat) : Nat → List (List Int)
  | 0 => []
  | i + 1 => modI f k j i ++ modC f j i k
def modJ (f : Nat → Nat → Nat) (k : Nat) : Nat → List (List Int)
  | 0 => []
  | j + 1 => modJ f k j ++ modI f k (j + 1) k
def modA (f : Nat → Nat → Nat) (k : Nat) : List (List Int) := modJ f k 20
theorem modC_len (f : Nat → Nat → Nat) (j i : Nat) : ∀ c, (modC f j i c).length ≤ c
  | 0 => by simp [modC]
  | c + 1 => by
    unfold modC; rw [List.length_append]
    have := modC_len f j i c
    split <;> simp <;> omega
theorem modI_len (f : Nat → Nat → Nat) (k j : Nat) : ∀ i, (modI f k j i).length ≤ i * k
  | 0 => by simp [modI]
  | i + 1 => by
    unfold modI; rw [List.length_append, Nat.succ_mul]
    have h1 := modI_len f k j i
    have h2 := modC_len f j i k
    omega
theorem modJ_len (f : Nat → Nat → Nat) (k : Nat) : ∀ j, (modJ f k j).length ≤ j * (k * k)
  | 0 => by simp [modJ]
  | j + 1 => by
    unfold modJ; rw [List.length_append, Nat.succ_mul]
    have h1 := modJ_len f k j
    have h2 := modI_len f k (j + 1) k
    omega
theorem modI_next (f : Nat → Nat → Nat) (k j i : Nat) : modI f k j (i + 1) = modI f k j i ++ modC f j i k := rfl
/-- a part's table by the digits of its basis -/
theorem modC_part (Q : List (List Int)) (S : List Nat) (j i : Nat) : ∀ c, c ≤ S.length → modC (fun j i => cooT S (act Q (j : Int) (S.getD i 0)) S.length) j i c = partC Q S j i c
  | 0, _ => rfl
  | c + 1, h => by
    unfold modC partC
    rw [modC_part Q S j i c (by omega), tb_cooT, decide_eq_true (by omega : c < S.length), Bool.true_and]
theorem modI_part (Q : List (List Int)) (S : List Nat) (j : Nat) : ∀ i, modI (fun j i => cooT S (act Q (j : Int) (S.getD i 0)) S.length) S.length j i = partI Q S j i
  | 0 => rfl
  | i + 1 => by unfold modI partI; rw [modI_part Q S j i, modC_part Q S j i _ (Nat.le_refl _)]
theorem modJ_part (Q : List (List Int)) (S : List Nat) : ∀ j, modJ (fun j i => cooT S (act Q (j : Int) (S.getD i 0)) S.length) S.length j = partJ Q S j
  | 0 => rfl
  | j + 1 => by unfold modJ partJ; rw [modJ_part Q S j, modI_part]
theorem modA_part (Q : List (List Int)) (S : List Nat) : modA (fun j i => cooT S (act Q (j : Int) (S.getD i 0)) S.length) S.length = partA Q S := modJ_part Q S 20

set_option maxRecDepth 100000 in
set_option maxHeartbeats 8000000 in
/-- moduleOf(degrees, square), 'square' a closure that makes memory of its own at most. -/
theorem moduleOf_any (D : Option Addr) (k c : Nat) (ds : List Int) (fn : FuncId) (cvs : Array Value) (f : Nat → Nat → Nat) (w : World) (hcf : Ent fn) (hk : k = ds.length) (hk1 : k ≤ 16) (hD : Rd w D (iv ds))
    (hf : ∀ j i, 1 ≤ j → j ≤ 20 → i < k → Sm (f j i))
    (hC : ∀ (j i : Nat) W, 1 ≤ j → j ≤ 20 → i < k → Below w.heap.size w W → Calls Tryz.prog fn (#[.int .i64 j, .int .i64 i] ++ cvs) W fun e w' => e = .returned (.int .i64 (f j i : Nat)) ∧ Below W.heap.size W w') :
    Calls Tryz.prog 86 #[.slice D k c, .func (.func fn) #[] cvs] w fun e w' => ∃ v, e = .returned v ∧ ModOut w.heap.size ds (modA f k) v w' ∧ Below w.heap.size w w' := by
  have hb0 : Below w.heap.size w (w.alloc (.cells #[.slice none 0 0, .slice none 0 0] 29)) := (Below.refl _ _).alloc (Nat.le_refl _) _
  have hk0 := blk_new w (.cells #[.slice none 0 0, .slice none 0 0] 29)
  have HCP := Lib.hid (copyOf_any D k c (iv ds) (w.alloc (.cells #[.slice none 0 0, .slice none 0 0] 29)) (by rw [iv_length]; exact hk) (by omega) (iv_one _) (hD.alloc _))
  have HB0 := Lib.hid hb0
  have HK0 := Lib.hid hk0
  have HF := Lib.hid hf
  have HC := Lib.hid hC
  have Hk := Lib.hid hk
  have HMI := Lib.hid (fun j i => modI_next f k j i)
  have HML := Lib.hid (fun j => modJ_len f k j)
  have HMI2 := Lib.hid (fun j i => modI_len f k j i)
  have HMC := Lib.hid (fun j i c => modC_len f j i c)
  clear hb0 hk0 hf hC hk hD
  unfold Ent at hcf
  go_enter Tryz.func86, Tryz.ntmps86
  go_wp2_with fail
  refine HCP.out.mono ?_
  rintro e w1 ⟨gd, cd, rfl, ho, hb⟩
  have HB1 := Lib.hid (HB0.out.trans (hb.mono HB0.out.size))
  have HK1 := Lib.hid (blk_kept HK0.out hb)
  have hs0 : (w.alloc (.cells #[.slice none 0 0, .slice none 0 0] 29)).heap.size = w.heap.size + 1 := by simp
  have hs1 : w.heap.size + 1 ≤ w1.heap.size := by rw [← hs0]; exact hb.size
  have HD1 := Lib.hid (ho.mono (base' := w.heap.size) (by rw [hs0]; omega))
  have hbx := blk_new (w1.alloc (.cells #[] 22)) (.cells #[.slice (some ⟨gd, 0, none⟩) k cd, .slice (some ⟨w1.heap.size, 0, none⟩) 0 0] 29)
  have hbl : Below w1.heap.size w1 ((w1.alloc (.cells #[] 22)).alloc (.cells #[.slice (some ⟨gd, 0, none⟩) k cd, .slice (some ⟨w1.heap.size, 0, none⟩) 0 0] 29)) := ((Below.refl _ _).alloc (Nat.le_refl _) _).alloc (by simp) _
  have hor : OwnR ((w1.alloc (.cells #[] 22)).alloc (.cells #[.slice (some ⟨gd, 0, none⟩) k cd, .slice (some ⟨w1.heap.size, 0, none⟩) 0 0] 29)) w1.heap.size (.slice (some ⟨w1.heap.size, 0, none⟩) 0 0) [] := (OwnR.made w1 (B := w1.heap.size) (Nat.le_refl _)).later ((Below.refl _ _).alloc (Nat.le_refl _) _)
  simp only [World.size_alloc] at hbx
  have HBX := Lib.hid hbx
  have HBL := Lib.hid hbl
  have HOR := Lib.hid hor
  clear ho hb hs0 hbx hbl hor
  go_wp2_with fail
  go_loopw [6] (fun s6 wr => ∃ (j : Nat) (R : List Row) (A1 : Option Addr) (c1 : Nat), 1 ≤ j ∧ j ≤ 21 ∧ s6 = .int .i64 j ∧ Hid (dat R = modJ f k (j - 1)) ∧ OwnR wr w1.heap.size (.slice A1 R.length c1) R ∧ wr.heap[w1.heap.size + 1]? = some (.cells #[.slice (some ⟨gd, 0, none⟩) k cd, .slice A1 R.length c1] 29 (0, 0)) ∧ Below w1.heap.size w1 wr) (fun s => fun _ => 21 - (intOf s).toNat)
  case atStart => exact ⟨1, [], _, 0, by omega, by omega, rfl, Lib.hid rfl, HOR.out, HBX.out, HBL.out⟩
  case round =>
    obtain ⟨j, R, A1, c1, hj1, hj2, rfl, HD, hor, hbx, hbel⟩ := hrel
    have HOR := Lib.hid hor
    have HBX := Lib.hid hbx
    have HBE := Lib.hid hbel
    by_cases hj20 : j ≤ 20
    · have hj20i : (j : Int) ≤ 20 := by omega
      clear hor hbx hbel
      go_wp2_with fail
      go_loopw [20] (fun s20 wr => ∃ (i : Nat) (R : List Row) (A1 : Option Addr) (c1 : Nat), i ≤ k ∧ s20 = .int .i64 i ∧ Hid (dat R = modJ f k (j - 1) ++ modI f k j i) ∧ OwnR wr w1.heap.size (.slice A1 R.length c1) R ∧ wr.heap[w1.heap.size + 1]? = some (.cells #[.slice (some ⟨gd, 0, none⟩) k cd, .slice A1 R.length c1] 29 (0, 0)) ∧ Below w1.heap.size w1 wr) (fun s => fun _ => k - (intOf s).toNat)
      case atStart => exact ⟨0, R, A1, c1, by omega, rfl, Lib.hid (by rw [HD.out]; simp [modI]), HOR.out, HBX.out, HBE.out⟩
      case round =>
        obtain ⟨i, R, A1, c1, hi, rfl, HD, hor, hbx, hbel⟩ := hrel
        have HOR := Lib.hid hor
        have HBX := Lib.hid hbx
        have HBE := Lib.hid hbel
        by_cases hik : i < k
        · have HCL := Lib.hid (HC.out j i wr hj1 hj20 hik (HB1.out.trans (hbel.mono HB1.out.size)))
          have hsm := HF.out j i hj1 hj20 hik
          have HCS : Hid (∀ c, modC f j i (c + 1) = modC f j i c ++ if tb (f j i) c = true then [[(j : Int), (i : Int), (c : Int)]] else []) := Lib.hid (fun c => rfl)
          generalize f j i = v at *
          clear hor hbx hbel
          go_wp2_with fail
          refine HCL.out.mono ?_
          rintro e w2 ⟨rfl, hb⟩
          have HOR2 := Lib.hid (HOR.out.later hb)
          have HBX2 := Lib.hid (blk_kept HBX.out hb)
          have HBE2 := Lib.hid (HBE.out.trans (hb.mono HBE.out.size))
          clear hb
          go_wp2_with fail
          go_loopw [29] (fun s29 wr => ∃ (cj : Nat) (R : List Row) (A1 : Option Addr) (c1 : Nat), cj ≤ k ∧ s29 = .int .i64 cj ∧ Hid (dat R = modJ f k (j - 1) ++ modI f k j i ++ modC f j i cj) ∧ OwnR wr w1.heap.size (.slice A1 R.length c1) R ∧ wr.heap[w1.heap.size + 1]? = some (.cells #[.slice (some ⟨gd, 0, none⟩) k cd, .slice A1 R.length c1] 29 (0, 0)) ∧ Below w1.heap.size w1 wr) (fun s => fun _ => k - (intOf s).toNat)
          case atStart => exact ⟨0, R, A1, c1, by omega, rfl, Lib.hid (by rw [HD.out]; simp [modC]), HOR2.out, HBX2.out, HBE2.out⟩
          case round =>
            obtain ⟨cj, R, A1, c1, hcj, rfl, HD, hor, hbx, hbel⟩ := hrel
            have HOR := Lib.hid hor
            have HBX := Lib.hid hbx
            have HBE := Lib.hid hbel
            by_cases hck : cj < k
            · have hmin : min cj 64 = cj := by omega
              have hbn := i64_bit_test (n := cj) hsm
              have hcs := HCS.out cj
              have hrl : R.length ≤ 6000 := by
                have h1 := congrArg List.length HD.out
                rw [dat_length, List.length_append, List.length_append] at h1
                have h2 := HML.out (j - 1)
                have h3 := HMI2.out j i
                have h4 := HMC.out j i cj
                have h5 : k * k ≤ 16 * 16 := Nat.mul_le_mul hk1 hk1
                have h6 : (j - 1) * (k * k) ≤ 20 * (16 * 16) := Nat.mul_le_mul (by omega) h5
                have h7 : i * k ≤ 16 * 16 := Nat.mul_le_mul (by omega) hk1
                omega
              have hq : R.length < 1099511627776 := by omega
              have hckb : ((cj : Int) < (k : Int)) := by omega
              cases htb : tb v cj
              · rw [htb] at hbn
                have HD' : Hid (dat R = modJ f k (j - 1) ++ modI f k j i ++ modC f j i (cj + 1)) := Lib.hid (by rw [hcs, htb, if_neg (by simp), List.append_nil]; exact HD.out)
                clear hor hbx hbel hcs hrl htb
                go_wp2_with fail
                go_roundw
                case rel => exact ⟨cj + 1, R, A1, c1, by omega, by go_num, HD', HOR.out, HBX.out, HBE.out⟩
                case measure => simp [intOf]; omega
              · rw [htb] at hbn
                have HD' := Lib.hid hcs
                rw [htb, if_pos rfl] at HD'
                have hsz := hbel.size
                have HBA := Lib.hid ((Below.refl wr.heap.size wr).alloc (Nat.le_refl _) (.cells #[.int .i64 (j : Int), .int .i64 (i : Int), .int .i64 (cj : Int)] 2))
                have HN2 := Lib.hid (own_three wr wr.heap.size (Nat.le_refl _) (j : Int) (i : Int) (cj : Int))
                have HOL := Lib.hid (hor.later HBA.out)
                obtain ⟨z0, z1, zf0, zf1, lz⟩ := blk2cells hbx
                clear hor hbx hbel hcs hrl htb
                go_wp2_with (at_builtin; refine wpList_app1 _ _ _ _ _ etS (by rfl) (by rfl) w1.heap.size (.slice A1 R.length c1) R.length (hv R) (by rfl) (HOL.out.out.alloc _) _ (.slice (some ⟨wr.heap.size, 0, none⟩) 3 3) (by rfl) (new_cell1 wr _ _ _) (by rfl) hq (Nat.le_trans (Nat.le_trans hsz HBA.out.size) (Nat.le_of_lt (by simp))) ?_; (intro g2 c2 w3 hown3 hg3 hat3 hlt3; have HNN := Lib.hid (OwnR.push HOR.out HBA.out HN2.out rfl hsz hown3 hg3); have HK3 := Lib.hid (blk_grown (blk_alloc (blk_alloc HBX.out _) _) hg3 (own_ne_blk HOR.out.out HBX.out (by decide))); have HB3 := Lib.hid (below_app2 (HBE.out.trans (HBA.out.mono hsz)) (Nat.le_trans hsz HBA.out.size) HOL.out.out hg3); clear hown3 hg3 hat3 hlt3 z0 z1 zf0 zf1 lz; obtain ⟨z0, z1, zf0, zf1, lz⟩ := blk2cells HK3.out))
                go_roundw
                case rel =>
                  refine ⟨cj + 1, R ++ [⟨some ⟨wr.heap.size, 0, none⟩, 3, [(j : Int), (i : Int), (cj : Int)]⟩], some ⟨g2, 0, none⟩, c2, by omega, by go_num, Lib.hid ?_, ?_, ?_, ?_⟩
                  · rw [dat_append1, HD.out, HD'.out, ← List.append_assoc]
                  · rw [List.length_append]; exact OwnR.setBoxZ HNN.out HK3.out (by decide) (by decide) _
                  · rw [List.length_append]; exact blk2set1' HK3.out _
                  · exact HB3.out.setCell (p := ⟨w1.heap.size + 1, 1, none⟩) (by show w1.heap.size ≤ w1.heap.size + 1; omega) _
                case measure => simp [intOf]; omega
            · obtain rfl : k = cj := by omega
              have HD' : Hid (dat R = modJ f k (j - 1) ++ modI f k j (i + 1)) := Lib.hid (by rw [HD.out, List.append_assoc, HMI.out])
              clear hor hbx hbel
              go_wp2_with fail
              go_roundw
              case rel => exact ⟨i + 1, R, A1, c1, by omega, by go_num, HD', HOR.out, HBX.out, HBE.out⟩
              case measure => simp [intOf]; omega
        · obtain rfl : k = i := by omega
          have HD' : Hid (dat R = modJ f k (j + 1 - 1)) := Lib.hid (by
            obtain ⟨j', rfl⟩ : ∃ j', j = j' + 1 := ⟨j - 1, by omega⟩
            rw [HD.out]; rfl)
          clear hor hbx hbel
          go_wp2_with fail
          go_roundw
          case rel => exact ⟨j + 1, R, A1, c1, by omega, by omega, by go_num, HD', HOR.out, HBX.out, HBE.out⟩
          case measure => simp [intOf]; omega
    · obtain rfl : j = 21 := by omega
      have hk0r := blk_kept HK1.out hbel
      have hdr := owns_keeps HD1.out (Keeps.of_below hbel) (.inr (by simp))
      have hdj : ∀ i, i < R.length → (Value.slice (some ⟨gd, 0, none⟩) k cd).ownBlock = none ∨ (Value.slice (some ⟨gd, 0, none⟩) k cd).ownBlock ≠ (rg R i).val.ownBlock := fun i hi => by
        refine .inr fun e => ?_
        have h1 := (HD1.out.lt gd rfl).2
        have h2 := ((hor.inn i hi).lt gd (by rw [← e]; rfl)).1
        omega
      have HK2 := Lib.hid (blk2set0' hk0r (.slice (some ⟨gd, 0, none⟩) k cd))
      have HFD := Lib.hid (own_setBoxZ (k := 1) (own_setBoxZ (k := 0) hdr hk0r (by decide) (.slice (some ⟨gd, 0, none⟩) k cd)) HK2.out (by decide) (.slice A1 R.length c1))
      have HFA := Lib.hid (OwnR.setBoxZ (k := 1) (OwnR.setBoxZ (k := 0) hor hk0r (by decide) (by decide) (.slice (some ⟨gd, 0, none⟩) k cd)) HK2.out (by decide) (by decide) (.slice A1 R.length c1))
      have HDJ := Lib.hid hdj
      have HBF := Lib.hid (HB1.out.trans (hbel.mono HB1.out.size))
      obtain ⟨z0, z1, zf0, zf1, lz⟩ := blk2cells hbx
      obtain ⟨y0, y1, yf0, yf1, ly⟩ := blk2cells hk0r
      clear hor hbx hbel hk0r hdr hdj
      go_wp2_with fail
      (try simp only [Exit.inBlock, Exit.then])
      refine ret_mod rfl rfl rfl (blk2set1' HK2.out _) ?_
      refine ⟨_, rfl, ⟨some ⟨gd, 0, none⟩, cd, A1, c1, R, by rw [← Hk.out], by rw [← Hk.out]; exact HFD.out, HD.out, HFA.out.mono (by omega), by rw [← Hk.out]; exact HDJ.out⟩, ?_⟩
      exact (HBF.out.setCell (p := ⟨w.heap.size, 0, none⟩) (by show w.heap.size ≤ w.heap.size; omega) _).setCell (p := ⟨w.heap.size, 1, none⟩) (by show w.heap.size ≤ w.heap.size; omega) _
end Go.Proofs.YtpchigdhnnkpcaaGreatDoor

namespace Go.Proofs.YtpchigdhnnkpcaaGreatDoor
open Go.RowKit

theorem isBit_any (x : Int) (w : World) : Calls Tryz.prog 129 #[.int .i64 x] w fun e w' => e = .returned (.bool (decide (0 ≤ x) && decide (x ≤ 1))) ∧ w = w' := by
  have HI := Lib.hid (fun W => in_any x 0 1 W)
  rw [inB01] at HI
  go_enter Tryz.func129, Tryz.ntmps129
  go_wp2_with fail
  refine (HI.out _).mono ?_
  rintro e w' ⟨rfl, rfl⟩
  go_wp2_with fail
  go_ret
  exact ⟨rfl, rfl⟩
theorem bit_closure (w : World) (x : Int) : Asks0 Tryz.prog 129 w (.int .i64 x) (decide (0 ≤ x) && decide (x ≤ 1)) := by
  intro m
  exact (isBit_any x (w.drewN m)).mono fun e w' ⟨he, hw⟩ => ⟨he, m, hw⟩

set_option maxHeartbeats 1000000 in
theorem isVector_any (A A' V : Option Addr) (n c m c' k cv : Nat) (v : List Int) (w : World) (hk : k = v.length) (hsm : k ≤ 1099511627776) (hV : Rd w V (iv v)) :
    Calls Tryz.prog 110 #[.agg #[.slice A n c, .slice A' m c'], .slice V k cv] w fun e w' => e = .returned (.bool (vecB n v)) ∧ Below w.heap.size w w' := by
  obtain ⟨x0, x1, xf0, xf1, lx⟩ := blk2cells (blk_new w (.cells #[.slice A n c, .slice A' m c'] 29))
  have hb0 : Below w.heap.size w (w.alloc (.cells #[.slice A n c, .slice A' m c'] 29)) := (Below.refl _ _).alloc (Nat.le_refl _) _
  have HB0 := Lib.hid hb0
  have HAL := Lib.hid (all0_any V k cv v 129 (fun x => decide (0 ≤ x) && decide (x ≤ 1)) _ (fun args w => Tryz.call129 args w) hk hsm (hV.below hb0) (fun x _ o => bit_closure _ x))
  by_cases hkn : k = n
  · have HE : Hid (vecB n v = v.all fun x => decide (0 ≤ x) && decide (x ≤ 1)) := Lib.hid (by unfold vecB; rw [decide_eq_true (by omega : v.length = n)]; simp)
    have hbq : ((k : Int) == (n : Int)) = true := by simp; omega
    generalize (v.all fun x => decide (0 ≤ x) && decide (x ≤ 1)) = b at *
    clear hV hk hkn hb0
    go_enter Tryz.func110, Tryz.ntmps110
    go_wp2_with fail
    refine HAL.out.mono ?_
    rintro e w1 ⟨rfl, hb⟩
    have HB1 := Lib.hid (HB0.out.trans (hb.mono HB0.out.size))
    clear hb
    go_wp2_with fail
    go_ret
    exact ⟨by rw [HE.out]; rfl, HB1.out⟩
  · have HE : Hid (vecB n v = false) := Lib.hid (by
      rw [Bool.eq_false_iff]; intro h; exact hkn (by rw [hk]; exact (vecB_iff.1 h).1))
    have hbq : ((k : Int) == (n : Int)) = false := by simp; omega
    clear hV hk hkn hb0 HAL
    go_enter Tryz.func110, Tryz.ntmps110
    go_wp2_with fail
    go_ret
    exact ⟨by rw [HE.out]; rfl, HB0.out⟩

attribute [local go_sem] i64_or_nat in
set_option maxHeartbeats 1000000 in
theorem maskOf_any (V : Option Addr) (n cv v : Nat) (w : World) (hn : n ≤ 62) (hv : v < 2 ^ n) (hV : Rd w V (iv (bitsL v n))) :
    Calls Tryz.prog 111 #[.slice V n cv] w fun e w' => e = .returned (.int .i64 (v : Nat)) ∧ w = w' := by
  have HV := Lib.hid hV
  have HM := Lib.hid (mk_bits hv)
  have HLT := Lib.hid (fun j => mk_lt ((bitsL v n).take j))
  clear hV hv
  go_enter Tryz.func111, Tryz.ntmps111
  go_wp2_with fail
  go_loop [3, 8] (fun t i => ∃ k : Nat, k ≤ n ∧ i = .int .i64 k ∧ t = .int .i64 (mk ((bitsL v n).take k) : Nat)) (fun _ i => n - (intOf i).toNat)
  case atStart => exact ⟨0, by omega, rfl, rfl⟩
  case round =>
    obtain ⟨k, hk, rfl, rfl⟩ := hrel
    by_cases hlt : k < n
    · obtain ⟨b, o, rfl, hc⟩ := HV.out.atI (k := k) (by rw [bitsL_length]; exact hlt)
      rw [bitsL_getD _ hlt] at hc
      have hms := mk_take (v := bitsL v n) (k := k) (by rw [bitsL_length]; exact hlt)
      rw [bitsL_getD _ hlt] at hms
      have h1 : Sm (mk ((bitsL v n).take k)) := sm_pow (n := 62) (by omega) (Nat.lt_of_lt_of_le (HLT.out k) (Nat.pow_le_pow_right (by omega) (by rw [List.length_take]; omega)))
      have h2 : Sm (2 ^ k) := sm_pow (n := k + 1) (by omega) (pow_lt_pow (by omega))
      have he : ((2 ^ k : Nat) : Int) = (2 : Int) ^ k := by simp
      have hor := i64_or_nat h1 h2
      rw [he] at hor
      obtain ⟨p1, p2⟩ := pow62 (d := k) (by omega)
      generalize mk ((bitsL v n).take k) = p at *
      cases hb : tb v k
      · rw [bit_none hb] at hc hms
        have HE : Hid (mk ((bitsL v n).take (k + 1)) = p) := Lib.hid (by rw [hms, if_neg (by omega)]; unfold orr; simp)
        have hz := i64_or_zero h1
        clear hms he hor
        go_wp2_with fail
        go_round
        case rel => exact ⟨k + 1, by omega, by go_num, by rw [HE.out]⟩
        case measure => simp [intOf]; omega
      · rw [bit_one hb] at hc hms
        have HE : Hid (mk ((bitsL v n).take (k + 1)) = orr p (2 ^ k)) := Lib.hid (by rw [hms, if_pos rfl])
        clear hms he
        go_wp2_with fail
        go_round
        case rel => exact ⟨k + 1, by omega, by go_num, by rw [HE.out]⟩
        case measure => simp [intOf]; omega
    · have e : (bitsL v n).take k = bitsL v n := List.take_of_length_le (by rw [bitsL_length]; omega)
      rw [e, HM.out]
      clear e
      go_wp2_with fail
      go_ret
      exact ⟨rfl, rfl⟩

attribute [local go_sem] i64_bit_int in
set_option maxHeartbeats 1000000 in
theorem digitsOf_any (n v : Nat) (w : World) (hn : n ≤ 62) (hv : Sm v) :
    Calls Tryz.prog 107 #[.int .i64 v, .int .i64 n] w fun e w' => ∃ g cap, e = .returned (.slice (some ⟨g, 0, none⟩) n cap) ∧ w'.ownsRow w.heap.size 2 1 (.slice (some ⟨g, 0, none⟩) n cap) n (iv (bitsL v n)) ∧ Below w.heap.size w w' := by
  go_enter Tryz.func107, Tryz.ntmps107
  go_wp2_with fail
  go_loopw [5, 9] (fun vv i wr => ∃ k g cap : Nat, k ≤ n ∧ i = .int .i64 k ∧ vv = .slice (some ⟨g, 0, none⟩) k cap ∧ wr.ownsRow w.heap.size 2 1 (.slice (some ⟨g, 0, none⟩) k cap) k (iv ((bitsL v n).take k)) ∧ Below w.heap.size w wr) (fun _ i _ => n - (intOf i).toNat)
  case atStart => exact ⟨0, w.heap.size, 0, by omega, rfl, rfl, World.ownsRow_made w #[] 0 (Nat.le_refl _) (by decide) (by simp), (Below.refl _ _).alloc (Nat.le_refl _) _⟩
  case round =>
    obtain ⟨k, g, cap, hk, rfl, rfl, hown, hbel⟩ := hrel
    have HO := Lib.hid hown
    have HB := Lib.hid hbel
    have hsz := hbel.size
    by_cases hlt : k < n
    · have HTS : Hid ((bitsL v n).take (k + 1) = (bitsL v n).take k ++ [bit v k]) := Lib.hid (bitsL_take _ hlt)
      have hmin : min k 64 = k := by omega
      clear hown hbel
      go_wp2_with (at_builtin; refine wpList_app1 _ _ _ _ _ etI (by rfl) (by rfl) w.heap.size (.slice (some ⟨g, 0, none⟩) k cap) k (iv ((bitsL v n).take k)) (by rfl) (HO.out.alloc _) _ (.int .i64 (bit v k)) (by rfl) (new_cell _ _ _) (by rfl) (by omega) (Nat.le_trans hsz (Nat.le_of_lt (by simp))) ?_; (intro g1 cap1 w1 hown1 hgrow1 hat1 hlt1; have HO1 := Lib.hid hown1; have HB1 := Lib.hid (below_app2 HB.out hsz HO.out hgrow1); clear hown1 hgrow1 hat1 hlt1))
      go_roundw
      case rel => exact ⟨k + 1, g1, cap1, by omega, by go_num, rfl, by rw [HTS.out, iv_append]; exact HO1.out, HB1.out⟩
      case measure => simp [intOf]; omega
    · obtain rfl : k = n := by omega
      have he : (bitsL v k).take k = bitsL v k := List.take_of_length_le (by rw [bitsL_length]; exact Nat.le_refl _)
      rw [he] at HO
      clear hown hbel he
      go_wp2_with fail
      go_ret
      exact ⟨g, cap, rfl, HO.out, HB.out⟩
theorem vectorOf_any (A A' : Option Addr) (n c m c' v : Nat) (w : World) (hn : n ≤ 62) (hv : Sm v) :
    Calls Tryz.prog 76 #[.agg #[.slice A n c, .slice A' m c'], .int .i64 v] w fun e w' => ∃ g cap, e = .returned (.slice (some ⟨g, 0, none⟩) n cap) ∧ w'.ownsRow w.heap.size 2 1 (.slice (some ⟨g, 0, none⟩) n cap) n (iv (bitsL v n)) ∧ Below w.heap.size w w' := by
  obtain ⟨x0, x1, xf0, xf1, lx⟩ := blk2cells (blk_new w (.cells #[.slice A n c, .slice A' m c'] 29))
  have HB0 : Hid (Below w.heap.size w (w.alloc (.cells #[.slice A n c, .slice A' m c'] 29))) := Lib.hid ((Below.refl _ _).alloc (Nat.le_refl _) _)
  have HD := Lib.hid (digitsOf_any n v (w.alloc (.cells #[.slice A n c, .slice A' m c'] 29)) hn hv)
  go_enter Tryz.func76, Tryz.ntmps76
  go_wp2_with fail
  refine HD.out.mono ?_
  rintro e w1 ⟨g, cap, rfl, ho, hb⟩
  have HO := Lib.hid (ho.mono HB0.out.size)
  have HB1 := Lib.hid (HB0.out.trans (hb.mono HB0.out.size))
  clear ho hb
  go_wp2_with fail
  go_ret
  exact ⟨g, cap, rfl, HO.out, HB1.out⟩

/-- masks of rows that are all vectors, and whether they are -/
def MasksP (n : Nat) (P : List Row) (w : World) (e : Ending) (w' : World) : Prop :=
  (((P.all fun r => vecB n r.xs) = true ∧ ∃ g cap, e = .returned (.tuple #[.slice (some ⟨g, 0, none⟩) P.length cap, .bool true]) ∧ w'.ownsRow w.heap.size 2 1 (.slice (some ⟨g, 0, none⟩) P.length cap) P.length (nv ((dat P).map mk))) ∨
   ((P.all fun r => vecB n r.xs) = false ∧ e = .returned (.tuple #[.slice none 0 0, .bool false]))) ∧ Below w.heap.size w w'
theorem all_rg {P : List Row} {f : Row → Bool} (h : ∀ i, i < P.length → f (rg P i) = true) : P.all f = true := by
  rw [List.all_eq_true]
  intro r hr
  obtain ⟨i, hi, rfl⟩ := List.getElem_of_mem hr
  rw [← rg_of hi]; exact h i hi
theorem all_rg_no {P : List Row} {f : Row → Bool} {i : Nat} (hi : i < P.length) (h : f (rg P i) = false) : P.all f = false := by
  rw [List.all_eq_false]
  exact ⟨_, rg_mem hi, by rw [h]; simp⟩

set_option maxHeartbeats 2000000 in
theorem masksOf_any (A A' W : Option Addr) (n c m c' k cw : Nat) (P : List Row) (w : World) (hn : n ≤ 62) (hk : k = P.length) (hk1 : k ≤ 1048576) (hl : ∀ i, i < P.length → (rg P i).xs.length ≤ 1048576) (hP : RdR w W P) :
    Calls Tryz.prog 84 #[.agg #[.slice A n c, .slice A' m c'], .slice W k cw] w (MasksP n P w) := by
  have hk0 := blk_new w (.cells #[.slice A n c, .slice A' m c'] 29)
  have HK0 := Lib.hid hk0
  have HB0 : Hid (Below w.heap.size w (w.alloc (.cells #[.slice A n c, .slice A' m c'] 29))) := Lib.hid ((Below.refl _ _).alloc (Nat.le_refl _) _)
  have HP := Lib.hid hP
  have Hk := Lib.hid hk
  have HL := Lib.hid hl
  have HLEN : Hid (((dat P).map mk).length = k) := Lib.hid (by simp [dat, hk])
  clear hk0 hP hk hl
  obtain ⟨x0, x1, xf0, xf1, lx⟩ := blk2cells HK0.out
  go_enter Tryz.func84, Tryz.ntmps84
  go_wp2_with fail
  clear x0 x1 xf0 xf1 lx
  go_loopw [6, 12] (fun vv i wr => ∃ j g cap : Nat, j ≤ k ∧ i = .int .i64 j ∧ vv = .slice (some ⟨g, 0, none⟩) j cap ∧ Hid (∀ t, t < j → vecB n (rg P t).xs = true) ∧ wr.ownsRow w.heap.size 2 1 (.slice (some ⟨g, 0, none⟩) j cap) j (nv (((dat P).map mk).take j)) ∧ wr.heap[w.heap.size]? = some (.cells #[.slice A n c, .slice A' m c'] 29 (0, 0)) ∧ Below w.heap.size w wr) (fun _ i _ => k - (intOf i).toNat)
  case atStart => exact ⟨0, w.heap.size + 1, 0, by omega, rfl, rfl, Lib.hid (fun t ht => by omega), by simpa [nv] using (World.ownsRow_made (w.alloc (.cells #[.slice A n c, .slice A' m c'] 29)) (e := 2) #[] 0 (base := w.heap.size) (by simp) (by decide) (by simp)), blk_alloc HK0.out _, HB0.out.alloc HB0.out.size _⟩
  case round =>
    obtain ⟨j, g, cap, hj, rfl, rfl, HV, hown, hblk, hbel⟩ := hrel
    have HO := Lib.hid hown
    have HB := Lib.hid hbel
    have HK := Lib.hid hblk
    have hsz := hbel.size
    by_cases hlt : j < k
    · have hjP : j < P.length := by rw [← Hk.out]; exact hlt
      obtain ⟨b, o, rfl, hc⟩ := (HP.out.below hbel).at_ hjP
      have hin := (HP.out.below hbel).inn j hjP
      have hle := HL.out j hjP
      have HTS : Hid (((dat P).map mk).take (j + 1) = ((dat P).map mk).take j ++ [mk (rg P j).xs]) := Lib.hid (by
        rw [List.take_succ_eq_append_getElem (by rw [HLEN.out]; exact hlt), List.getElem_map, ← dat_getD]; simp [List.getD, dat, hjP])
      have HRG : Hid (∃ r : Row, rg P j = r) := Lib.hid ⟨_, rfl⟩
      obtain ⟨r, hr⟩ := HRG.out
      rw [hr] at hc hin hle HTS
      have HR := Lib.hid hr
      clear hr HRG
      obtain ⟨rA, rc, rx⟩ := r
      simp only at hc hin hle HTS
      have HIV := Lib.hid (isVector_any A A' rA n c m c' rx.length rc rx wr rfl (by omega) hin)
      obtain ⟨x0, x1, xf0, xf1, lx⟩ := blk2cells hblk
      cases hv : vecB n rx
      · have HF : Hid ((P.all fun r => vecB n r.xs) = false) := Lib.hid (all_rg_no hjP (by rw [HR.out]; exact hv))
        rw [hv] at HIV
        clear hown hbel hblk hin hjP hv
        go_wp2_with (go_at_call 110; refine HIV.out.mono ?_; rintro e w1 ⟨rfl, hb⟩; have HB1 := Lib.hid (HB.out.trans (hb.mono hsz)); clear hb)
        go_ret2
        exact ⟨.inr ⟨HF.out, rfl⟩, HB1.out⟩
      · obtain ⟨e1, e2, e3⟩ := vec_row hv
        have HVJ : Hid (vecB n rx = true) := Lib.hid hv
        rw [hv] at HIV
        have HC := Lib.hid (fun W' (hb : Below wr.heap.size wr W') => maskOf_any rA n rc (mk rx) W' hn e3 (by rw [← e2]; exact hin.below hb))
        rw [e1] at hc HIV
        clear hown hbel hblk hin hjP hv e2 e3
        go_wp2_with fail
        refine HIV.out.mono ?_
        rintro e w1 ⟨rfl, hb⟩
        have HB1 := Lib.hid hb
        have HO1 := Lib.hid (owns_keeps HO.out (Keeps.of_below hb) (.inr (by simp)))
        have HK1 := Lib.hid (blk_kept HK.out hb)
        have hsz1 := Nat.le_trans hsz hb.size
        clear hb x0 x1 xf0 xf1 lx
        go_wp2_with fail
        refine (HC.out _ HB1.out).mono ?_
        rintro e w' ⟨rfl, rfl⟩
        have HBT := Lib.hid (HB.out.trans (HB1.out.mono hsz))
        have hjk : j < 1099511627776 := by omega
        go_wp2_with (at_builtin; refine wpList_app1 _ _ _ _ _ etI (by rfl) (by rfl) w.heap.size (.slice (some ⟨g, 0, none⟩) j cap) j (nv (((dat P).map mk).take j)) (by rfl) (HO1.out.alloc _) _ (.int .i64 (mk rx : Nat)) (by rfl) (new_cell _ _ _) (by rfl) hjk (Nat.le_trans hsz1 (Nat.le_of_lt (by simp))) ?_; (intro g1 cap1 w2 hown1 hgrow1 hat1 hlt1; have HO2 := Lib.hid hown1; have HB2 := Lib.hid (below_app2 HBT.out hsz1 HO1.out hgrow1); have HK2 := Lib.hid (blk_grown (blk_alloc HK1.out _) hgrow1 (own_ne_blk HO1.out HK1.out (by decide))); clear hown1 hgrow1 hat1 hlt1))
        go_roundw
        case rel =>
          refine ⟨j + 1, g1, cap1, by omega, by go_num, rfl, Lib.hid (fun t ht => ?_), by rw [HTS.out, nv_append]; exact HO2.out, HK2.out, HB2.out⟩
          by_cases e : t = j
          · subst e; rw [HR.out]; exact HVJ.out
          · exact HV.out t (by omega)
        case measure => simp [intOf]; omega
    · obtain rfl : j = k := by omega
      have he : ((dat P).map mk).take j = (dat P).map mk := List.take_of_length_le (by rw [HLEN.out]; exact Nat.le_refl _)
      rw [he] at HO
      have HT : Hid ((P.all fun r => vecB n r.xs) = true) := Lib.hid (all_rg (fun i hi => HV.out i (by rw [Hk.out]; exact hi)))
      clear hown hbel hblk he
      go_wp2_with fail
      go_ret2
      have h := HO.out
      have hk := Hk.out
      subst hk
      exact ⟨.inl ⟨HT.out, g, cap, rfl, h⟩, HB.out⟩

attribute [local go_sem] i64_or_nat in
set_option maxHeartbeats 1000000 in
theorem inDegree_any (A A' : Option Addr) (n c m c' : Nat) (xs : List Int) (d : Int) (w : World) (hn : n = xs.length) (hsm : n ≤ 62) (hR : Rd w A (iv xs)) :
    Calls Tryz.prog 99 #[.agg #[.slice A n c, .slice A' m c'], .int .i64 d] w fun e w' => e = .returned (.int .i64 (dmask xs d : Nat)) ∧ Below w.heap.size w w' := by
  obtain ⟨x0, x1, xf0, xf1, lx⟩ := blk2cells (blk_new w (.cells #[.slice A n c, .slice A' m c'] 29))
  have hb0 : Below w.heap.size w (w.alloc (.cells #[.slice A n c, .slice A' m c'] 29)) := (Below.refl _ _).alloc (Nat.le_refl _) _
  have HB0 := Lib.hid hb0
  have HR := Lib.hid (hR.below hb0)
  have Hn := Lib.hid hn
  have HLT := Lib.hid (dmTo_lt xs d)
  clear hR hn hb0
  go_enter Tryz.func99, Tryz.ntmps99
  go_wp2_with fail
  go_loop [5, 11] (fun t i => ∃ k : Nat, k ≤ n ∧ i = .int .i64 k ∧ t = .int .i64 (dmTo xs d k : Nat)) (fun _ i => n - (intOf i).toNat)
  case atStart => exact ⟨0, by omega, rfl, rfl⟩
  case round =>
    obtain ⟨k, hk, rfl, rfl⟩ := hrel
    by_cases hlt : k < n
    · obtain ⟨b, o, rfl, hc⟩ := HR.out.atI (k := k) (by rw [← Hn.out]; exact hlt)
      have HS : Hid (dmTo xs d (k + 1) = if xs.getD k 0 = d then orr (dmTo xs d k) (2 ^ k) else dmTo xs d k) := Lib.hid rfl
      have h1 : Sm (dmTo xs d k) := sm_pow (n := k) (by omega) (HLT.out k)
      have h2 : Sm (2 ^ k) := sm_pow (n := k + 1) (by omega) (pow_lt_pow (by omega))
      have hor := i64_or_nat h1 h2
      rw [show ((2 ^ k : Nat) : Int) = (2 : Int) ^ k by simp] at hor
      obtain ⟨p1, p2⟩ := pow62 (d := k) (by omega)
      generalize dmTo xs d k = p at *
      generalize xs.getD k 0 = y at *
      by_cases he : y = d
      · have HE := Lib.hid (HS.out.trans (if_pos he))
        have heb : (y == d) = true := by simpa using he
        clear HS he
        go_wp2_with fail
        go_round
        case rel => exact ⟨k + 1, by omega, by go_num, by rw [HE.out]⟩
        case measure => simp [intOf]; omega
      · have HE := Lib.hid (HS.out.trans (if_neg he))
        have heb : (y == d) = false := by simpa using he
        clear HS he hor
        go_wp2_with fail
        go_round
        case rel => exact ⟨k + 1, by omega, by go_num, by rw [HE.out]⟩
        case measure => simp [intOf]; omega
    · obtain rfl : k = n := by omega
      have e : dmTo xs d k = dmask xs d := by rw [Hn.out]; rfl
      rw [e]
      clear e
      go_wp2_with fail
      go_ret
      exact ⟨rfl, HB0.out⟩

set_option maxHeartbeats 2000000 in
theorem vectorsOf_any (A A' B : Option Addr) (n c m c' k cb : Nat) (S : List Nat) (w : World) (hk : k = S.length) (hsm : k ≤ 1048576) (hn : n ≤ 62) (hS : ∀ r ∈ S, Sm r) (hR : Rd w B (nv S)) :
    Calls Tryz.prog 48 #[.agg #[.slice A n c, .slice A' m c'], .slice B k cb] w fun e w' => ∃ A1 c1 R, e = .returned (.slice A1 k c1) ∧ R.length = k ∧ dat R = S.map (fun v => bitsL v n) ∧ OwnR w' w.heap.size (.slice A1 k c1) R ∧ Below w.heap.size w w' := by
  have hk0 := blk_new w (.cells #[.slice A n c, .slice A' m c'] 29)
  have HK0 := Lib.hid hk0
  have HB0 : Hid (Below w.heap.size w (w.alloc (.cells #[.slice A n c, .slice A' m c'] 29))) := Lib.hid ((Below.refl _ _).alloc (Nat.le_refl _) _)
  have HR := Lib.hid hR
  have Hk := Lib.hid hk
  have HS := Lib.hid hS
  clear hR hk hS hk0
  obtain ⟨x0, x1, xf0, xf1, lx⟩ := blk2cells HK0.out
  go_enter Tryz.func48, Tryz.ntmps48
  go_wp2_with fail
  clear x0 x1 xf0 xf1 lx
  go_loopw [5, 11] (fun vv i wr => ∃ R : List Row, ∃ A1 c1, R.length ≤ k ∧ i = .int .i64 (R.length : Nat) ∧ vv = .slice A1 R.length c1 ∧ Hid (dat R = (S.take R.length).map (fun v => bitsL v n)) ∧ OwnR wr w.heap.size (.slice A1 R.length c1) R ∧ wr.heap[w.heap.size]? = some (.cells #[.slice A n c, .slice A' m c'] 29 (0, 0)) ∧ Below w.heap.size w wr) (fun _ i _ => k - (intOf i).toNat)
  case atStart => exact ⟨[], some ⟨w.heap.size + 1, 0, none⟩, 0, by simp, rfl, rfl, Lib.hid rfl, by simpa using (OwnR.made (w.alloc (.cells #[.slice A n c, .slice A' m c'] 29)) (B := w.heap.size) (by simp)), blk_alloc HK0.out _, HB0.out.alloc HB0.out.size _⟩
  case round =>
    obtain ⟨R, A1, c1, hj, rfl, rfl, HD, hown, hblk, hbel⟩ := hrel
    have HO := Lib.hid hown
    have HB := Lib.hid hbel
    have HK := Lib.hid hblk
    have hsz := hbel.size
    have hq : R.length < 1099511627776 := by omega
    by_cases hlt : R.length < k
    · have hjS : R.length < S.length := by rw [← Hk.out]; exact hlt
      obtain ⟨b, o, rfl, hc⟩ := (HR.out.below hbel).atN hjS
      have hs : Sm (S.getD R.length 0) := HS.out _ (by simp [List.getD, hjS])
      have HTS : Hid ((S.take (R.length + 1)).map (fun v => bitsL v n) = (S.take R.length).map (fun v => bitsL v n) ++ [bitsL (S.getD R.length 0) n]) := Lib.hid (by
        rw [List.take_succ_eq_append_getElem hjS, List.map_append]; simp [List.getD, hjS])
      generalize S.getD R.length 0 = q at *
      have HC := Lib.hid (vectorOf_any A A' n c m c' q wr hn hs)
      obtain ⟨x0, x1, xf0, xf1, lx⟩ := blk2cells hblk
      clear hown hbel hs hjS hblk
      go_wp2_with fail
      refine HC.out.mono ?_
      rintro e w1 ⟨g, cap, rfl, ho, hb⟩
      have HO1 := Lib.hid ho
      have HB1 := Lib.hid hb
      have HK1 := Lib.hid (blk_kept HK.out hb)
      clear ho hb x0 x1 xf0 xf1 lx
      go_wp2_with (at_builtin; refine wpList_app1 _ _ _ _ _ etS (by rfl) (by rfl) w.heap.size (.slice A1 R.length c1) R.length (hv R) (by rfl) ((HO.out.later HB1.out).out.alloc _) _ (.slice (some ⟨g, 0, none⟩) n cap) (by rfl) (new_cell _ _ _) (by rfl) hq (Nat.le_trans (Nat.le_trans hsz HB1.out.size) (Nat.le_of_lt (by simp))) ?_; (intro g2 c2 w3 hown3 hg3 hat3 hlt3; have HN := Lib.hid (OwnR.push HO.out HB1.out HO1.out (bitsL_length _ _).symm hsz hown3 hg3); have HB3 := Lib.hid (below_app2 (HB.out.trans (HB1.out.mono hsz)) (Nat.le_trans hsz HB1.out.size) (HO.out.later HB1.out).out hg3); have HK3 := Lib.hid (blk_grown (blk_alloc HK1.out _) hg3 (own_ne_blk (HO.out.later HB1.out).out HK1.out (by decide))); clear hown3 hg3 hat3 hlt3))
      go_roundw
      case rel =>
        refine ⟨R ++ [⟨some ⟨g, 0, none⟩, cap, bitsL q n⟩], some ⟨g2, 0, none⟩, c2, by simp; omega, by simp, by simp, Lib.hid ?_, by simpa using HN.out, HK3.out, HB3.out⟩
        rw [dat_append1, HD.out, List.length_append, List.length_singleton, HTS.out]
      case measure => simp [intOf]; omega
    · obtain rfl : k = R.length := by omega
      have he : S.take R.length = S := List.take_of_length_le (by rw [← Hk.out]; exact Nat.le_refl _)
      rw [he] at HD
      clear hown hbel he hblk
      go_wp2_with fail
      go_ret
      exact ⟨A1, c1, R, rfl, rfl, HD.out, HO.out, HB.out⟩
end Go.Proofs.YtpchigdhnnkpcaaGreatDoor

namespace Go.Proofs.YtpchigdhnnkpcaaGreatDoor
open Go.RowKit

def degL (xs : List Int) (S : List Nat) : List Int := S.map fun r => xs.getD (pv r) 0
theorem degL_length (xs : List Int) (S : List Nat) : (degL xs S).length = S.length := by simp [degL]
theorem degL_getD (xs : List Int) {S : List Nat} {k : Nat} (h : k < S.length) : (degL xs S).getD k 0 = xs.getD (pv (S.getD k 0)) 0 := by simp [degL, List.getD, h]
set_option maxRecDepth 100000 in
set_option maxHeartbeats 2000000 in
theorem degreesOf_any (A A' V : Option Addr) (n c m c' k cv : Nat) (xs : List Int) (S : List Nat) (w : World) (hT : Tab w) (hw : 0 < w.heap.size) (hn : n = xs.length) (hsm : n ≤ 1048576) (hk : k = S.length) (hk1 : k ≤ 1048576) (hS : ∀ r ∈ S, r ≠ 0 ∧ Sm r ∧ pv r < n) (hR : Rd w A (iv xs)) (hV : Rd w V (nv S)) :
    Calls Tryz.prog 87 #[.agg #[.slice A n c, .slice A' m c'], .slice V k cv] w fun e w' => ∃ g cap, e = .returned (.slice (some ⟨g, 0, none⟩) k cap) ∧ w'.ownsRow w.heap.size 2 1 (.slice (some ⟨g, 0, none⟩) k cap) k (iv (degL xs S)) ∧ Below w.heap.size w w' := by
  have HR := Lib.hid hR
  have HV := Lib.hid hV
  have Hn := Lib.hid hn
  have Hk := Lib.hid hk
  have HS := Lib.hid hS
  have HT := Lib.hid hT
  have hk0 := blk_new w (.cells #[.slice A n c, .slice A' m c'] 29)
  have hb0 : Below w.heap.size w (w.alloc (.cells #[.slice A n c, .slice A' m c'] 29)) := (Below.refl _ _).alloc (Nat.le_refl _) _
  have hz0 : (w.alloc (.cells #[.slice A n c, .slice A' m c'] 29)).heap.size = w.heap.size + 1 := by simp
  clear hR hV hn hk hS hT
  go_enter Tryz.func87, Tryz.ntmps87
  go_wp2_with fail
  generalize w.alloc (.cells #[.slice A n c, .slice A' m c'] 29) = w0 at *
  have HK0 := Lib.hid hk0
  have HB0 := Lib.hid hb0
  have hs0 : w.heap.size ≤ w0.heap.size := hb0.size
  rw [← hz0]
  clear hk0 hb0 hz0
  go_loopw [5, 11] (fun q i wr => ∃ j g cap : Nat, j ≤ k ∧ i = .int .i64 j ∧ q = .slice (some ⟨g, 0, none⟩) j cap ∧ wr.ownsRow w0.heap.size 2 1 (.slice (some ⟨g, 0, none⟩) j cap) j (iv ((degL xs S).take j)) ∧ Below w0.heap.size w0 wr) (fun _ i _ => k - (intOf i).toNat)
  case atStart => exact ⟨0, w0.heap.size, 0, by omega, rfl, rfl, World.ownsRow_made w0 #[] 0 (Nat.le_refl _) (by decide) (by simp), (Below.refl _ _).alloc (Nat.le_refl _) _⟩
  case round =>
    obtain ⟨j, g, cap, hj, rfl, rfl, hown, hbel⟩ := hrel
    have HO := Lib.hid hown
    have HB := Lib.hid hbel
    have hsz := hbel.size
    by_cases hlt : j < k
    · have hjS : j < S.length := by rw [← Hk.out]; exact hlt
      obtain ⟨b, o, rfl, hc⟩ := (HV.out.below (HB0.out.trans (hbel.mono hs0))).atN hjS
      obtain ⟨p1, p2, p3⟩ := HS.out _ (getD_mem hjS)
      have HTS : Hid ((degL xs S).take (j + 1) = (degL xs S).take j ++ [xs.getD (pv (S.getD j 0)) 0]) := Lib.hid (by
        rw [take_succ_getD (by rw [degL_length]; exact hjS), degL_getD xs hjS])
      generalize S.getD j 0 = r at *
      have hpl : pv r < xs.length := by rw [← Hn.out]; exact p3
      obtain ⟨bx, ox, rfl, hcx⟩ := (HR.out.below HB0.out).atI (k := pv r) hpl
      have HPI := Lib.hid (fun W hT => pivot_any r p1 p2 W hT)
      have KS := Lib.hid (fun w' (hb : Below w0.heap.size w0 w') => show w'.cell? ⟨w.heap.size, 0, none⟩ = some (.slice (some ⟨bx, ox, none⟩) n c) ∧ w'.cell? ⟨bx, ox + pv r, none⟩ = some (.int .i64 (xs.getD (pv r) 0)) from ⟨(blk2cells (blk_kept HK0.out hb)).1, cell_keep hcx hb⟩)
      have HTW := Lib.hid (fun w' (hb : Below w0.heap.size w0 w') => HT.out.below (HB0.out.trans (hb.mono hs0)) hw)
      have HX_0 := Lib.hid (Below.drew HB.out)
      have hpn : ((pv r : Nat) : Int) < (n : Int) := by omega
      generalize xs.getD (pv r) 0 = y at *
      clear hown hbel hjS p1 p2 hpl hcx
      go_wp2_with fail
      go_region_held3 (fun w' => w'.cell? ⟨w.heap.size, 0, none⟩ = some (.slice (some ⟨bx, ox, none⟩) n c) ∧ w'.cell? ⟨bx, ox + pv r, none⟩ = some (.int .i64 y))
        (first | exact KS.out _ HX_0.out | exact KS.out _ (HB.out.alloc hsz _).drew | exact KS.out _ HX_1.out)
        (first
          | (go_at_call 90; (with_reducible refine (HPI.out _ (HTW.out _ HX_0.out)).mono ?_); (rintro e w' ⟨rfl, rfl⟩))
          | (refine step_app1 _ _ _ _ _ etI (by rfl) (by rfl) w0.heap.size (.slice (some ⟨g, 0, none⟩) j cap) j (iv ((degL xs S).take j)) (by rfl) ?_ _ (.int .i64 y) (by rfl) ?_ (by rfl) ?_ ?_ ?_; exact (HO.out.alloc _).drew; exact drew_cell (new_cell _ _ _); omega; (simp; omega); (intro g1 cap1 w1 hown1 hgrow1 hat1 hlt1; have HO1 := Lib.hid hown1; have HX_1 := Lib.hid (below_app2d HB.out hsz HO.out hgrow1); clear hown1 hgrow1 hat1 hlt1)))
      go_wp2_with fail
      go_roundw
      case rel =>
        exact ⟨j + 1, g1, cap1, by omega, by go_num, rfl, by rw [HTS.out, iv_append]; exact HO1.out, HX_1.out⟩
      case measure => simp [intOf]; omega
    · obtain rfl : j = k := by omega
      have he : (degL xs S).take j = degL xs S := List.take_of_length_le (by rw [degL_length, ← Hk.out]; exact Nat.le_refl _)
      rw [he] at HO
      clear hown hbel he
      go_wp2_with fail
      go_ret
      exact ⟨g, cap, rfl, HO.out.mono hs0, HB0.out.trans (HB.out.mono hs0)⟩

end Go.Proofs.YtpchigdhnnkpcaaGreatDoor

namespace Go.Proofs.YtpchigdhnnkpcaaGreatDoor
open Go.RowKit

theorem cooT_lt (S : List Nat) (v : Nat) (k : Nat) : cooT S v k < 2 ^ k := lt_of_tb fun m hm => by rw [tb_cooT, decide_eq_false (by omega)]; rfl
theorem cooT_sm (S : List Nat) (v : Nat) {k : Nat} (h : k ≤ 60) : Sm (cooT S v k) := sm_of_lt (a := k) (by omega) (cooT_lt S v k)
attribute [local go_sem] i64_or_nat in
set_option maxRecDepth 100000 in
set_option maxHeartbeats 4000000 in
theorem partClo_any (gt gb g : Nat) (A : Option Addr) (n c : Nat) (xs : List Int) (Q : List (List Int)) (C : Option Addr) (k cc : Nat) (S : List Nat) (j i : Nat) (w : World) (hT : Tab w) (hw : 0 < w.heap.size) (hn : n = xs.length) (hs : Shp xs Q) (hk : k = S.length) (hk1 : k ≤ 16) (hi : i < k)
    (hS : ∀ r ∈ S, r ≠ 0 ∧ r < 2 ^ xs.length) (ht : w.cell? ⟨gt, 0, none⟩ = some (.pointer (some ⟨g, 0, none⟩))) (hb : w.cell? ⟨gb, 0, none⟩ = some (.slice C k cc)) (hC : Rd w C (nv S)) (hA : TblAt w g A n c Q) :
    Calls Tryz.prog 88 #[.int .i64 (j : Int), .int .i64 (i : Int), .pointer (some ⟨gt, 0, none⟩), .pointer (some ⟨gb, 0, none⟩)] w fun e w' => e = .returned (.int .i64 (cooT S (act Q (j : Int) (S.getD i 0)) k : Nat)) ∧ Below w.heap.size w w' := by
  have hiS : i < S.length := by rw [← hk]; exact hi
  obtain ⟨b, o, rfl, hci⟩ := hC.atN hiS
  have hri := (hS _ (getD_mem hiS)).2
  have HSQ := Lib.hid (fun W (hb : Below w.heap.size w W) => square_any g A n c xs Q (j : Int) (S.getD i 0 : Nat) (S.getD i 0) W hn hs (by omega) rfl hri (hA.below hb))
  have hvs := hs.sm (act_lt hs hri (j : Int))
  have HSS : Hid (∀ r ∈ S, r ≠ 0 ∧ Sm r ∧ pv r ≤ 62) := Lib.hid (fun r hr => by
    obtain ⟨h1, h2⟩ := hS r hr
    have h3 := sm_of_lt (a := xs.length) (by have := hs.len; omega) h2
    exact ⟨h1, h3, pv_le h1 h3⟩)
  have KS := Lib.hid (fun w' (hb' : Below w.heap.size w w') => show w'.cell? ⟨gt, 0, none⟩ = some (.pointer (some ⟨g, 0, none⟩)) ∧ w'.cell? ⟨gb, 0, none⟩ = some (.slice (some ⟨b, o, none⟩) k cc) ∧ w'.cell? ⟨b, o + i, none⟩ = some (.int .i64 (S.getD i 0 : Nat)) from ⟨cell_keep ht hb', cell_keep hb hb', cell_keep hci hb'⟩)
  have HC := Lib.hid hC
  have HT := Lib.hid hT
  have Hk := Lib.hid hk
  have HG := Lib.hid hb
  have HB_0 := Lib.hid (Below.drew (Below.refl w.heap.size w))
  have hiki : (i : Int) < (k : Int) := by omega
  have HCT : Hid (∀ c, cooT S (act Q (j : Int) (S.getD i 0)) (c + 1) = if tb (act Q (j : Int) (S.getD i 0)) (pv (S.getD c 0)) = true then orr (cooT S (act Q (j : Int) (S.getD i 0)) c) (2 ^ c) else cooT S (act Q (j : Int) (S.getD i 0)) c) := Lib.hid (fun c => rfl)
  have HCS := Lib.hid (fun c (h : c ≤ 60) => cooT_sm S (act Q (j : Int) (S.getD i 0)) h)
  have HC0 : Hid (cooT S (act Q (j : Int) (S.getD i 0)) 0 = 0) := Lib.hid rfl
  generalize act Q (j : Int) (S.getD i 0) = v at *
  generalize S.getD i 0 = ri at *
  clear hC hT hk hb hci hri ht hA hS hs hn hiS
  go_enter Tryz.func88, Tryz.ntmps88
  go_wp2_with fail
  go_region_held3 (fun w' => w'.cell? ⟨gt, 0, none⟩ = some (.pointer (some ⟨g, 0, none⟩)) ∧ w'.cell? ⟨gb, 0, none⟩ = some (.slice (some ⟨b, o, none⟩) k cc) ∧ w'.cell? ⟨b, o + i, none⟩ = some (.int .i64 (ri : Nat)))
    (first | exact KS.out _ HB_0.out)
    ((go_at_call 89; (with_reducible refine (HSQ.out _ HB_0.out).mono ?_); (rintro e w4 ⟨rfl, rfl⟩)))
  have HT1 := Lib.hid (HT.out.below HB_0.out hw)
  have HC1 := Lib.hid (HC.out.below HB_0.out)
  have hgb := cell_keep HG.out HB_0.out
  clear HSQ KS HT HC HG
  generalize w.drew = w1 at *
  go_wp2_with fail
  go_loop [8, 20] (fun t i => ∃ q : Nat, q ≤ k ∧ i = .int .i64 q ∧ t = .int .i64 (cooT S v q : Nat)) (fun _ i => k - (intOf i).toNat)
  case atStart => exact ⟨0, by omega, rfl, by rw [HC0.out]; rfl⟩
  case round =>
    obtain ⟨q, hq, rfl, rfl⟩ := hrel
    by_cases hlt : q < k
    · obtain ⟨b', o', hbe, hcq⟩ := HC1.out.atN (k := q) (by rw [← Hk.out]; exact hlt)
      injection hbe with hbe
      injection hbe with e1 e2 _
      subst e1; subst e2
      obtain ⟨r0, rsm, rpv⟩ := HSS.out _ (getD_mem (k := q) (by rw [← Hk.out]; exact hlt))
      have HPV := Lib.hid (pivot_any (S.getD q 0) r0 rsm w1 HT1.out)
      have hct := HCT.out q
      have h1 := HCS.out q (by omega)
      have h2 : Sm (2 ^ q) := sm_pow (n := q + 1) (by omega) (pow_lt_pow (by omega))
      have he : ((2 ^ q : Nat) : Int) = (2 : Int) ^ q := by simp
      have hor := i64_or_nat h1 h2
      rw [he] at hor
      have hz := i64_or_zero h1
      obtain ⟨p1, p2⟩ := pow62 (d := q) (by omega)
      have hbn := i64_bit_nat (n := pv (S.getD q 0)) hvs
      have hm1 : min (pv (S.getD q 0)) 64 = pv (S.getD q 0) := by omega
      have hm2 : min q 64 = q := by omega
      have hqk : (q : Int) < (k : Int) := by omega
      generalize S.getD q 0 = r at *
      generalize cooT S v q = p at *
      cases hb : tb v (pv r)
      · rw [hb] at hbn hct
        have HE : Hid (cooT S v (q + 1) = p) := Lib.hid (by rw [hct, if_neg (by simp)])
        simp only [Bool.toNat_false, Int.natCast_zero] at hbn
        clear hct he hor hb
        go_wp2_with fail
        refine HPV.out.mono ?_
        rintro e w' ⟨rfl, rfl⟩
        go_wp2_with fail
        go_round
        case rel => exact ⟨q + 1, by omega, by go_num, by rw [HE.out]⟩
        case measure => simp [intOf]; omega
      · rw [hb] at hbn hct
        have HE : Hid (cooT S v (q + 1) = orr p (2 ^ q)) := Lib.hid (by rw [hct, if_pos rfl])
        simp only [Bool.toNat_true, Int.natCast_one] at hbn
        clear hct he hz hb
        go_wp2_with fail
        refine HPV.out.mono ?_
        rintro e w' ⟨rfl, rfl⟩
        go_wp2_with fail
        go_round
        case rel => exact ⟨q + 1, by omega, by go_num, by rw [HE.out]⟩
        case measure => simp [intOf]; omega
    · obtain rfl : k = q := by omega
      go_wp2_with fail
      go_ret
      exact ⟨rfl, HB_0.out⟩
end Go.Proofs.YtpchigdhnnkpcaaGreatDoor
