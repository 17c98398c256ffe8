/- the reference's l12Quotient -/
import Derived.Test.YtpchigdhnnkpcaaGreatDoorBxbb
import Derived.Test.YtpchigdhnnkpcaaGreatDoorBxap
import Derived.Test.YtpchigdhnnkpcaaGreatDoorBxal
import Derived.Test.YtpchigdhnnkpcaaGreatDoorBxag
set_option linter.all false
namespace Go.Proofs.YtpchigdhnnkpcaaGreatDoor
open Go.RowKit

/-- three own rows, pairwise apart -/
structure Own3 (w : World) (B : Nat) (a b c : Value) (na nb nc : Nat) (xa xb xc : List Value) : Prop where
  o1 : w.ownsRow B 2 1 a na xa
  o2 : w.ownsRow B 2 1 b nb xb
  o3 : w.ownsRow B 2 1 c nc xc
  d12 : a.ownBlock = none ∨ a.ownBlock ≠ b.ownBlock
  d13 : a.ownBlock = none ∨ a.ownBlock ≠ c.ownBlock
  d23 : b.ownBlock = none ∨ b.ownBlock ≠ c.ownBlock
section
variable {w w' : World} {B : Nat} {a b c : Value} {na nb nc : Nat} {xa xb xc : List Value}
theorem Own3.later (h : Own3 w B a b c na nb nc xa xb xc) (hb : Below w.heap.size w w') : Own3 w' B a b c na nb nc xa xb xc :=
  ⟨owns_keeps h.o1 (Keeps.of_below hb) (.inr (by simp)), owns_keeps h.o2 (Keeps.of_below hb) (.inr (by simp)), owns_keeps h.o3 (Keeps.of_below hb) (.inr (by simp)), h.d12, h.d13, h.d23⟩
theorem Own3.rot (h : Own3 w B a b c na nb nc xa xb xc) : Own3 w B c a b nc na nb xc xa xb := ⟨h.o3, h.o1, h.o2, none_or_symm h.d13, none_or_symm h.d23, h.d12⟩
theorem Own3.app (h : Own3 w B a b c na nb nc xa xb xc) {o : Obj} {g cap m : Nat} {ys : List Value} (hown : w'.ownsRow B 2 1 (.slice (some ⟨g, 0, none⟩) m cap) m ys) (hg : (w.alloc o).grownBy w' a.ownBlock) (hat : a.ownBlock = some g ∨ g = (w.alloc o).heap.size) :
    Own3 w' B (.slice (some ⟨g, 0, none⟩) m cap) b c m nb nc ys xb xc := by
  obtain ⟨h2, e2⟩ := own_other_app h.o2 (none_or_symm h.d12) hg hat
  obtain ⟨h3, e3⟩ := own_other_app h.o3 (none_or_symm h.d13) hg hat
  exact ⟨hown, h2, h3, none_or_symm e2, none_or_symm e3, h.d23⟩
theorem Own3.set {g cb : Nat} (h : Own3 w B a (.slice (some ⟨g, 0, none⟩) nb cb) c na nb nc xa xb xc) (i : Nat) (u : Value) :
    Own3 (w.setCell ⟨g, i, none⟩ u) B a (.slice (some ⟨g, 0, none⟩) nb cb) c na nb nc xa (xb.set i u) xc := by
  have hk : Keeps w (w.setCell ⟨g, i, none⟩ u) [some g] := (Keeps.refl w _).setCell (p := ⟨g, i, none⟩) (by simp) u
  refine ⟨owns_keeps h.o1 hk ?_, (World.ownsRow.stored h.o2 i u).1, owns_keeps h.o3 hk ?_, h.d12, h.d13, h.d23⟩
  · have := h.d12; simpa [Value.ownBlock] using this
  · have := none_or_symm h.d23; simpa [Value.ownBlock] using this
theorem Own3.setBox {g k : Nat} {cs : Array Value} {t : TypeId} (h : Own3 w B a b c na nb nc xa xb xc) (hb : w.heap[g]? = some (.cells cs t (0, 0))) (h1 : 2 ≠ t) (x : Value) : Own3 (w.setCell ⟨g, k, none⟩ x) B a b c na nb nc xa xb xc :=
  ⟨own_setBoxZ h.o1 hb h1 x, own_setBoxZ h.o2 hb h1 x, own_setBoxZ h.o3 hb h1 x, h.d12, h.d13, h.d23⟩
theorem Own3.drew (h : Own3 w B a b c na nb nc xa xb xc) : Own3 w.drew B a b c na nb nc xa xb xc := ⟨h.o1.drew, h.o2.drew, h.o3.drew, h.d12, h.d13, h.d23⟩
end
theorem nv_repl (n : Nat) : nv (List.replicate n 0) = iv (List.replicate n 0) := by simp [nv, iv]

theorem keeps_app4 {w w' : World} {b : Option Nat} {o o' : Obj} (hg : ((w.alloc o).alloc o').grownBy w' b) : Keeps w w' [b] := (((Keeps.refl w []).alloc o).alloc o').trans (Keeps.of_grown hg) (fun j _ h => by simpa using h)
theorem ret_m2 {fn : Func} {pt ut : Tmp} (h : fn.results = #[.cell pt 29, .tmp ut]) {a : Act} {w : World} {g : Nat} {v1 v2 : Value} {R : Ending → World → Prop} (hp : a.tmps.getD pt undef = .pointer (some ⟨g, 0, none⟩)) (hd : a.defers = [])
    (hg : w.heap[g]? = some (.cells #[v1, v2] 29 (0, 0))) (hR : R (.returned (.tuple #[.agg #[v1, v2], a.tmps.getD ut undef])) w) : bodyPost Tryz.prog fn R .ret a w := by
  refine bodyPost_ret ?_ hd hR
  have hl := run_loadVar_row w g _ 29 _ _ _ hg Tryz.underlying29 rfl (by kernel_rfl)
  have hp' : a.tmps[pt]?.getD undef = .pointer (some ⟨g, 0, none⟩) := by simpa using hp
  simp [results, h, Sem.run_bind, Result.andThen, asAddr, hp', hl]
/-- what a call leaves that returns a module and rows, to be read -/
def ResQ (ds : List Int) (E F : List (List Int)) (w : World) (e : Ending) (w' : World) : Prop :=
  ∃ Ad cd A1 c1 R A3 c3 M3, e = .returned (.tuple #[.agg #[.slice Ad ds.length cd, .slice A1 E.length c1], .slice A3 F.length c3]) ∧ w'.ownsRow w.heap.size 2 1 (.slice Ad ds.length cd) ds.length (iv ds) ∧ dat R = E ∧ OwnR w' w.heap.size (.slice A1 E.length c1) R ∧ dat M3 = F ∧ OwnR w' w.heap.size (.slice A3 F.length c3) M3 ∧ Below w.heap.size w w'

attribute [local go_sem] i64_or_nat in
set_option maxRecDepth 100000 in
set_option maxHeartbeats 16000000 in
theorem l12Quotient_any (A A' C : Option Addr) (n c m c' k cc : Nat) (xs : List Int) (L : List Row) (S : List Nat) (w : World) (hM : ModR w A n A' m xs L) (hs : Shp xs (dat L)) (hk : k = S.length) (hk1 : k ≤ 16) (hS : ∀ r ∈ S, r ≠ 0 ∧ r < 2 ^ xs.length) (hRd : Red S) (hC : Rd w C (nv S)) :
    Calls Tryz.prog 61 #[.agg #[.slice A n c, .slice A' m c'], .slice C k cc] w (ResQ (quoD xs S) (quoA xs (dat L) S) (quotMR xs (dat L) S).2.1 w) := by
  have hb0 : Below w.heap.size w ((w.alloc (.cells #[.slice A n c, .slice A' m c'] 29)).alloc (.cells #[.slice none 0 0, .slice none 0 0] 29)) := ((Below.refl _ _).alloc (Nat.le_refl _) _).alloc (by simp) _
  have hkm := blk_alloc (blk_new w (.cells #[.slice A n c, .slice A' m c'] 29)) (.cells #[.slice none 0 0, .slice none 0 0] 29)
  have hkr := blk_new (w.alloc (.cells #[.slice A n c, .slice A' m c'] 29)) (.cells #[.slice none 0 0, .slice none 0 0] 29)
  simp only [World.size_alloc] at hkr
  have hn16 : n ≤ 16 := by rw [hM.hn]; exact hs.len
  have hS2 : ∀ r ∈ S, r ≠ 0 ∧ Sm r ∧ pv r < n := fun r hr => by
    obtain ⟨h1, h2⟩ := hS r hr
    have h3 := sm_of_lt (a := xs.length) (by have := hs.len; omega) h2
    exact ⟨h1, h3, by rw [hM.hn]; exact pv_lt h1 h3 h2⟩
  have HSS := Lib.hid hS2
  have HWO := Lib.hid (fun (x : Nat) W (hx : Sm x) (hb : Below w.heap.size w W) => without_any C k cc S x W hk (by omega) hx (fun r hr => ⟨(hS2 r hr).1, (hS2 r hr).2.1⟩) (hC.below hb))
  have HAM := Lib.hid (fun (z : Int) (v : Nat) (W : World) (hb : Below w.heap.size w W) (hv : v < 2 ^ xs.length) => l12Act_any A A' n c m c' xs L z (v : Int) v W (hM.below hb) hs rfl hv)
  have HTK : Hid (∀ x, x < 2 ^ n → kept (plc (pvs S) n n) (leftS S x) = told S n x) := Lib.hid (fun x hx => told_kept hRd (fun r hr => by rw [hM.hn]; exact (hS r hr).2) hx)
  have HLS : Hid (∀ x, x < 2 ^ n → Sm (leftS S x)) := Lib.hid (fun x hx => sm_of_lt (a := n) (by omega) (leftS_lt (fun r hr => by rw [hM.hn]; exact (hS r hr).2) hx))
  have HAL : Hid (∀ (z : Int) (v : Nat), v < 2 ^ n → act (dat L) z v < 2 ^ n) := Lib.hid (fun z v hv => by rw [hM.hn] at hv ⊢; exact act_lt hs hv z)
  have hpvl : pvs S < 2 ^ n := pvs_lt (fun r hr => (hS2 r hr).2.2)
  have HDG := Lib.hid hM.deg
  have HCR := Lib.hid hC
  have HB0 := Lib.hid hb0
  have HKM := Lib.hid hkm
  have HKR := Lib.hid hkr
  have Hk := Lib.hid hk
  have Hnx : Hid (n = xs.length) := Lib.hid hM.hn
  have hrl := rst_len (pvs S) n
  have hz0 : ((w.alloc (.cells #[.slice A n c, .slice A' m c'] 29)).alloc (.cells #[.slice none 0 0, .slice none 0 0] 29)).heap.size = w.heap.size + 2 := by simp
  have HZ0 := Lib.hid hz0
  have hzz : w.heap.size + 1 < ((w.alloc (.cells #[.slice A n c, .slice A' m c'] 29)).alloc (.cells #[.slice none 0 0, .slice none 0 0] 29)).heap.size := by omega
  have hmk := run_make_row' (P := Tryz.prog) 22 2 (.int .i64 0) 8 Tryz.underlying22 infoI rfl .i64 .i64 n (by omega) (by omega)
  clear hb0 hkm hkr hk hM hs hS hS2 hC hz0
  go_enter Tryz.func61, Tryz.ntmps61
  go_wp2_with fail
  generalize (w.alloc (.cells #[.slice A n c, .slice A' m c'] 29)).alloc (.cells #[.slice none 0 0, .slice none 0 0] 29) = w0 at *
  go_cut [6, 7, 8] (fun o6 o7 o8 wx => ∃ ga gb : Nat, o6 = .int .i64 0 ∧ o7 = .slice (some ⟨ga, 0, none⟩) 0 0 ∧ o8 = .slice (some ⟨gb, 0, none⟩) n n ∧ wx.ownsRow w0.heap.size 2 1 (.slice (some ⟨ga, 0, none⟩) 0 0) 0 [] ∧ wx.ownsRow w0.heap.size 2 1 (.slice (some ⟨gb, 0, none⟩) n n) n (nv (List.replicate n 0)) ∧ ga ≠ gb ∧ Below w0.heap.size w0 wx)
  case first =>
    have KS := Lib.hid (fun w' (hb : Below w0.heap.size w0 w') => show w'.cell? ⟨w.heap.size, 0, none⟩ = some (.slice A n c) from (blk2cells (blk_kept HKM.out hb)).1)
    have HB_0 := Lib.hid (Below.drew (Below.refl w0.heap.size w0))
    go_region_held3 (fun w' => w'.cell? ⟨w.heap.size, 0, none⟩ = some (.slice A n c))
      (first | exact KS.out _ HB_0.out | exact KS.out _ (HB_0.out.alloc HB_0.out.size _) | exact KS.out _ ((HB_0.out.alloc HB_0.out.size _).alloc (HB_0.out.alloc HB_0.out.size _).size _) | exact KS.out _ ((Below.refl _ _).alloc (Nat.le_refl _) _).drew | exact KS.out _ (((Below.refl _ _).alloc (Nat.le_refl _) _).alloc (by simp) _).drew)
      (fail)
    all_goals go_wp2_with fail
    all_goals go_meet
    · have h := made_own (w0.alloc (.cells #[] 2)) w0.heap.size n (by simp) (by omega)
      simp only [World.size_alloc] at h
      rw [← nv_repl] at h
      exact ⟨_, _, rfl, rfl, rfl, ((World.ownsRow_made w0 #[] 0 (Nat.le_refl _) (by decide) (by simp)).alloc _).drew, h.drew, by omega, (((Below.refl _ _).alloc (Nat.le_refl _) _).alloc (by simp) _).drew⟩
    · have h := World.ownsRow_made (w0.alloc (.cells (madeCells #[.int .i64 0] n) 2)) #[] 0 (base := w0.heap.size) (e := 2) (size := 1) (by simp) (by decide) (by simp)
      simp only [World.size_alloc] at h
      exact ⟨_, _, rfl, rfl, rfl, h.drew, by rw [nv_repl]; exact ((made_own w0 w0.heap.size n (Nat.le_refl _) (by omega)).alloc _).drew, by omega, (((Below.refl _ _).alloc (Nat.le_refl _) _).alloc (by simp) _).drew⟩
  case rest =>
  obtain ⟨ga, gb, rfl, rfl, rfl, hoa, hob, hab, hb⟩ := hcut
  have HOA := Lib.hid hoa
  have HOB := Lib.hid hob
  have HBB := Lib.hid hb
  have HAB := Lib.hid hab
  have HPS : Hid (∀ i, Sm (pvs (S.take i))) := Lib.hid (fun i => sm_of_lt (a := n) (by omega) (pvs_lt fun r hr => (HSS.out r (List.mem_of_mem_take hr)).2.2))
  have HBW := Lib.hid (HB0.out.trans (hb.mono HB0.out.size))
  clear hoa hob hb hab hmk
  go_wp2_with fail
  go_loop [6, 9] (fun s6 s9 => ∃ i : Nat, i ≤ k ∧ s9 = .int .i64 i ∧ s6 = .int .i64 (pvs (S.take i) : Nat)) (fun _ s => k - (intOf s).toNat)
  case atStart => exact ⟨0, by omega, rfl, rfl⟩
  case round =>
    obtain ⟨i, hi, rfl, rfl⟩ := hrel
    by_cases hik : i < k
    · have hiS : i < S.length := by rw [← Hk.out]; exact hik
      obtain ⟨b, o, rfl, hc⟩ := (HCR.out.below HBW.out).atN hiS
      obtain ⟨r0, rsm, rpn⟩ := HSS.out _ (getD_mem hiS)
      have HPV := Lib.hid (pvs_succ hiS)
      have h1 := HPS.out i
      have HLO := Lib.hid (fun W => low_any (S.getD i 0) r0 rsm W)
      have h2 : Sm (pw (pv (S.getD i 0))) := by
        show Sm (2 ^ pv (S.getD i 0)); exact sm_pow (n := pv (S.getD i 0) + 1) (by omega) (pow_lt_pow (by omega))
      have HPE : Hid (orr (pvs (S.take i)) (pw (pv (S.getD i 0))) = pvs (S.take (i + 1))) := Lib.hid HPV.out.symm
      generalize S.getD i 0 = r at *
      generalize pvs (S.take i) = p at *
      clear HPV
      go_wp2_with fail
      refine (HLO.out _).mono ?_
      rintro e w' ⟨rfl, rfl⟩
      go_wp2_with fail
      go_round
      case rel => exact ⟨i + 1, by omega, by go_num, by rw [← HPE.out]⟩
      case measure => simp [intOf]; omega
    · obtain rfl : k = i := by omega
      have htk : S.take k = S := List.take_of_length_le (by rw [Hk.out]; exact Nat.le_refl _)
      rw [htk]
      clear htk HPS
      have hbz : Below wc.heap.size wc (wc.alloc (.cells #[.slice none 0 0, .slice none 0 0] 29)) := (Below.refl _ _).alloc (Nat.le_refl _) _
      have HO3 : Hid (Own3 (wc.alloc (.cells #[.slice none 0 0, .slice none 0 0] 29)) w0.heap.size (.slice (some ⟨ga, 0, none⟩) 0 0) (.slice (some ⟨gb, 0, none⟩) n n) (.slice none 0 0) 0 n 0 [] (nv (List.replicate n 0)) []) := Lib.hid ⟨HOA.out.alloc _, HOB.out.alloc _, World.ownsRow_nil _ _ _ _, .inr (by simp only [Value.ownBlock, Option.map_some]; intro e; injection e with e; exact HAB.out e), .inr (by simp [Value.ownBlock]), .inr (by simp [Value.ownBlock])⟩
      have HKO := Lib.hid (blk_new wc (.cells #[.slice none 0 0, .slice none 0 0] 29))
      have HBA := Lib.hid (HBB.out.trans (hbz.mono HBB.out.size))
      have hwc := HBB.out.size
      have hv : Sm (pvs S) := sm_of_lt (a := n) (by omega) hpvl
      obtain ⟨x0, x1, xf0, xf1, lx⟩ := blk2cells (blk_kept HKM.out (HBB.out.trans (hbz.mono HBB.out.size)))
      clear hbz HOA HOB
      go_wp2_with fail
      generalize wc.alloc (.cells #[.slice none 0 0, .slice none 0 0] 29) = w1 at *
      generalize wc.heap.size = bo at *
      clear x0 x1 xf0 xf1 lx
      go_loopw [7, 11] (fun s7 s11 wr => ∃ (i : Nat) (Aa : Option Addr) (ca : Nat) (Ad : Option Addr) (cd : Nat), i ≤ n ∧ s11 = .int .i64 i ∧ s7 = .slice Aa (rst (pvs S) i).length ca ∧ Own3 wr w0.heap.size (.slice Aa (rst (pvs S) i).length ca) (.slice (some ⟨gb, 0, none⟩) n n) (.slice Ad (rst (pvs S) i).length cd) (rst (pvs S) i).length n (rst (pvs S) i).length (nv (rst (pvs S) i)) (nv (plc (pvs S) n i)) (iv ((rst (pvs S) i).map fun t => xs.getD t 0)) ∧ wr.heap[bo]? = some (.cells #[.slice Ad (rst (pvs S) i).length cd, .slice none 0 0] 29 (0, 0)) ∧ Below w0.heap.size w0 wr) (fun _ s => fun _ => n - (intOf s).toNat)
      case atStart => exact ⟨0, _, 0, none, 0, by omega, rfl, rfl, HO3.out, HKO.out, HBA.out⟩
      case round =>
        obtain ⟨i, Aa, ca, Ad, cd, hi, rfl, rfl, ho3, hbo, hbel⟩ := hrel
        have HO3 := Lib.hid ho3
        have HBO := Lib.hid hbo
        have HBE := Lib.hid hbel
        clear ho3 hbo hbel
        have hTl := rst_len (pvs S) i
        have HB1 := Lib.hid (HB0.out.trans (HBE.out.mono HB0.out.size))
        obtain ⟨x0, x1, xf0, xf1, lx⟩ := blk2cells (blk_kept HKM.out HBE.out)
        by_cases hin : i < n
        · have hmn : min i 64 = i := by omega
          have hbn := i64_bit_nat (n := i) hv
          have HTM : Hid (((rst (pvs S) i).map fun t => xs.getD t 0) ++ [xs.getD i 0] = (rst (pvs S) i ++ [i]).map fun t => xs.getD t 0) := Lib.hid (by simp)
          cases hpb : tb (pvs S) i
          · rw [hpb] at hbn
            simp only [Bool.toNat_false, Int.natCast_zero] at hbn
            have HRS := Lib.hid (rst_yes hpb)
            have HPL := Lib.hid (plc_yes (n := n) hpb)
            obtain ⟨b, o, rfl, hcx⟩ := HDG.out.atI (k := i) (by rw [← Hnx.out]; exact hin)
            have hpc := HO3.out.o2.cellAt i (by omega)
            have hpf := HO3.out.o2.frozenAt i
            have hlp : i < (nv (plc (pvs S) n i)).length := by rw [nv_length, plc_len]; exact hin
            rw [show (nv (plc (pvs S) n i))[i]? = some (.int .i64 ((plc (pvs S) n i).getD i 0 : Nat)) by simp only [nv, List.getElem?_map]; rw [nv_length, plc_len] at *; simp [List.getD, plc_len, hin]] at hpc
            generalize (plc (pvs S) n i).getD i 0 = pz at *
            have HS3 := Lib.hid (HO3.out.set i (.int .i64 ((rst (pvs S) i).length : Nat)))
            have HSE : Hid ((nv (plc (pvs S) n i)).set i (.int .i64 ((rst (pvs S) i).length : Nat)) = nv (plc (pvs S) n (i + 1))) := Lib.hid (by rw [HPL.out]; simp [nv, List.map_set])
            rw [HSE.out] at HS3
            have hne : gb ≠ bo := by have := own_ne_blk HO3.out.o2 HBO.out (by decide); simpa [Value.ownBlock] using this
            have HBS := Lib.hid (blk_seto HBO.out ⟨gb, i, none⟩ (by show gb ≠ bo; exact hne) (.int .i64 ((rst (pvs S) i).length : Nat)))
            have HES := Lib.hid (HBE.out.setCell (p := ⟨gb, i, none⟩) (by show w0.heap.size ≤ gb; exact (HO3.out.o2.lt gb rfl).1) (.int .i64 ((rst (pvs S) i).length : Nat)))
            have hini : (i : Int) < (n : Int) := by omega
            have HCX := Lib.hid hcx
            clear hpb hlp HPL HSE
            generalize xs.getD i 0 = y at *
            generalize hT : rst (pvs S) i = T at *
            generalize hD : (T.map fun t => xs.getD t 0) = D at *
            clear hT hD hcx
            have hb0w : w.heap.size < w0.heap.size := by have := HZ0.out; omega
            go_upto_region 12 with (fail)
            generalize wr.setCell ⟨gb, i, none⟩ (.int .i64 (T.length : Nat)) = ws at *
            go_wp2_with (at_builtin; refine wpList_app1 _ _ _ _ _ etI (by rfl) (by rfl) w0.heap.size (.slice Aa T.length ca) T.length (nv T) (by rfl) (HS3.out.o1.alloc _) _ (.int .i64 (i : Int)) (by rfl) (new_cell _ _ _) (by rfl) (by omega) (Nat.le_trans HES.out.size (Nat.le_of_lt (by simp))) ?_; (intro g2 c2 w2 hown2 hg2 hat2 hlt2; have HA3 := Lib.hid (HS3.out.app hown2 hg2 hat2); have HBO2 := Lib.hid (blk_grown (blk_alloc HBS.out _) hg2 (own_ne_blk HS3.out.o1 HBS.out (by decide))); have HBE2 := Lib.hid (below_app2 HES.out HES.out.size HS3.out.o1 hg2); clear hown2 hg2 hat2 hlt2))
            have hsz2 := HBE2.out.size
            have hkm2 := (blk2cells (blk_kept HKM.out HBE2.out)).1
            have hcx2 := cell_keep HCX.out (HB0.out.trans (HBE2.out.mono HB0.out.size))
            have hbo2 := (blk2cells HBO2.out).1
            have hbb : b < w.heap.size := World.block_lt_of_cell? w _ HCX.out
            have hlo : ∀ g, (Value.slice Ad T.length cd).ownBlock = some g → w0.heap.size ≤ g := fun g hg => (HA3.out.o3.lt g hg).1
            have KS := Lib.hid (fun w' (hk : Keeps w2 w' [(Value.slice Ad T.length cd).ownBlock]) => show w'.cell? ⟨bo, 0, none⟩ = some (.slice Ad T.length cd) ∧ w'.cell? ⟨w.heap.size, 0, none⟩ = some (.slice (some ⟨b, o, none⟩) n c) ∧ w'.cell? ⟨b, o + i, none⟩ = some (.int .i64 y) from by
              have n1 := own_ne_blk HA3.out.o3 HBO2.out (by decide)
              refine ⟨hk.cellSome hbo2 (by simpa using n1.symm), hk.cellSome hkm2 ?_, hk.cellSome hcx2 ?_⟩
              · simp only [List.mem_cons, List.not_mem_nil, or_false]
                intro e; have := hlo _ e.symm; omega
              · simp only [List.mem_cons, List.not_mem_nil, or_false]
                intro e; have := hlo _ e.symm; omega)
            have HLO := Lib.hid hlo
            clear hkm2 hcx2 hbo2 hlo x0 x1 xf0 xf1 lx hpc hpf
            refine wp_region_K (S := (fun w' => w'.cell? ⟨bo, 0, none⟩ = some (.slice Ad T.length cd) ∧ w'.cell? ⟨w.heap.size, 0, none⟩ = some (.slice (some ⟨b, o, none⟩) n c) ∧ w'.cell? ⟨b, o + i, none⟩ = some (.int .i64 y))) 10 (by kernel_rfl) (by (first | exact KS.out _ ((Keeps.refl _ _).drew) | exact KS.out _ (((Keeps.refl _ _).alloc _).drew) | exact KS.out _ HK3.out)) (fun hHeld => ?_)
            refine wpAnyK_take (i := 0) (oi := ?oik1_1) (v := ?vk1_1) ?hk1_1 (by kernel_rfl) (by kernel_rfl) (by kernel_rfl) (by kernel_rfl) ?qk1_1 (Or.inl ⟨?wk1_1, ?yk1_1⟩) (by assumption) ?rk1_1
            case hk1_1 => (simp only [List.getElem?_toArray, List.getElem?_cons_succ, List.getElem?_cons_zero]; rfl)
            case qk1_1 => exact fun _ _ _ h => h
            case wk1_1 => rfl
            case yk1_1 => (intro w hSw; (try dsimp only at hSw); go_simp <;> with_reducible rfl)
            try simp only [Act.put, List.setIfInBounds_toArray, List.set_cons_zero, List.set_cons_succ]
            refine wpAnyK_take (i := 1) (oi := ?oik1_2) (v := ?vk1_2) ?hk1_2 (by kernel_rfl) (by kernel_rfl) (by kernel_rfl) (by kernel_rfl) ?qk1_2 (Or.inl ⟨?wk1_2, ?yk1_2⟩) (by assumption) ?rk1_2
            case hk1_2 => (simp only [List.getElem?_toArray, List.getElem?_cons_succ, List.getElem?_cons_zero]; rfl)
            case qk1_2 => exact fun _ _ _ h => h
            case wk1_2 => rfl
            case yk1_2 => (intro w hSw; (try dsimp only at hSw); go_simp <;> with_reducible rfl)
            try simp only [Act.put, List.setIfInBounds_toArray, List.set_cons_zero, List.set_cons_succ]
            refine wpAnyK_take (i := 2) (oi := ?oik1_3) (v := ?vk1_3) ?hk1_3 (by kernel_rfl) (by kernel_rfl) (by kernel_rfl) (by kernel_rfl) ?qk1_3 (Or.inl ⟨?wk1_3, ?yk1_3⟩) (by assumption) ?rk1_3
            case hk1_3 => (simp only [List.getElem?_toArray, List.getElem?_cons_succ, List.getElem?_cons_zero]; rfl)
            case qk1_3 => exact fun _ _ _ h => h
            case wk1_3 => rfl
            case yk1_3 => (intro w hSw; (try dsimp only at hSw); go_simp <;> with_reducible rfl)
            try simp only [Act.put, List.setIfInBounds_toArray, List.set_cons_zero, List.set_cons_succ]
            refine wpAnyK_take (i := 3) (oi := ?oik1_4) (v := ?vk1_4) ?hk1_4 (by kernel_rfl) (by kernel_rfl) (by kernel_rfl) (by kernel_rfl) ?qk1_4 (Or.inl ⟨?wk1_4, ?yk1_4⟩) (by assumption) ?rk1_4
            case hk1_4 => (simp only [List.getElem?_toArray, List.getElem?_cons_succ, List.getElem?_cons_zero]; rfl)
            case qk1_4 => exact fun _ _ _ h => h
            case wk1_4 => rfl
            case yk1_4 => (intro w hSw; (try dsimp only at hSw); go_simp <;> with_reducible rfl)
            try simp only [Act.put, List.setIfInBounds_toArray, List.set_cons_zero, List.set_cons_succ]
            refine wpAnyK_take (i := 4) (oi := ?oik1_5) (v := ?vk1_5) ?hk1_5 (by kernel_rfl) (by kernel_rfl) (by kernel_rfl) (by kernel_rfl) ?qk1_5 (Or.inl ⟨?wk1_5, ?yk1_5⟩) (by assumption) ?rk1_5
            case hk1_5 => (simp only [List.getElem?_toArray, List.getElem?_cons_succ, List.getElem?_cons_zero]; rfl)
            case qk1_5 => exact fun _ _ _ h => h
            case wk1_5 => rfl
            case yk1_5 => (intro w hSw; (try dsimp only at hSw); go_simp <;> with_reducible rfl)
            try simp only [Act.put, List.setIfInBounds_toArray, List.set_cons_zero, List.set_cons_succ]
            refine wpAnyK_take (i := 5) (oi := ?oik1_6) (v := ?vk1_6) ?hk1_6 (by kernel_rfl) (by kernel_rfl) (by kernel_rfl) (by kernel_rfl) ?qk1_6 (Or.inl ⟨?wk1_6, ?yk1_6⟩) (by assumption) ?rk1_6
            case hk1_6 => (simp only [List.getElem?_toArray, List.getElem?_cons_succ, List.getElem?_cons_zero]; rfl)
            case qk1_6 => exact fun _ _ _ h => h
            case wk1_6 => rfl
            case yk1_6 => (intro w hSw; (try dsimp only at hSw); go_simp <;> with_reducible rfl)
            try simp only [Act.put, List.setIfInBounds_toArray, List.set_cons_zero, List.set_cons_succ]
            refine wpAnyK_take (i := 6) (oi := ?oik1_7) (v := ?vk1_7) ?hk1_7 (by kernel_rfl) (by kernel_rfl) (by kernel_rfl) (by kernel_rfl) ?qk1_7 (Or.inl ⟨?wk1_7, ?yk1_7⟩) (by assumption) ?rk1_7
            case hk1_7 => (simp only [List.getElem?_toArray, List.getElem?_cons_succ, List.getElem?_cons_zero]; rfl)
            case qk1_7 => exact fun _ _ _ h => h
            case wk1_7 => rfl
            case yk1_7 => (intro w hSw; (try dsimp only at hSw); go_simp <;> with_reducible rfl)
            try simp only [Act.put, List.setIfInBounds_toArray, List.set_cons_zero, List.set_cons_succ]
            refine wpAnyK_ready (rs := [7]) (by kernel_rfl) (by simp) ?_
            refine AllReadyK.cons (o := ?oik1_8) ?hk1_8 (fun K hK => ?kk1_8) ?mk1_8
            case hk1_8 => (simp only [List.getElem?_toArray, List.getElem?_cons_succ, List.getElem?_cons_zero]; rfl)
            case kk1_8 =>
              go_simp
              refine hK.out _ _ (by (first | exact KS.out _ ((Keeps.refl _ _).drew) | exact KS.out _ (((Keeps.refl _ _).alloc _).drew) | exact KS.out _ HK3.out)) (fun hHeld => ?_)
              clear hK K
              try simp only [Act.put, List.setIfInBounds_toArray, List.set_cons_zero, List.set_cons_succ]
              refine wpAnyK_ready (rs := [8]) (by kernel_rfl) (by simp) ?_
              refine AllReadyK.cons (o := ?oik1_9) ?hk1_9 (fun K hK => ?kk1_9) ?mk1_9
              case hk1_9 => (simp only [List.getElem?_toArray, List.getElem?_cons_succ, List.getElem?_cons_zero]; rfl)
              case kk1_9 =>
                (refine step_app1 _ _ _ _ _ etI (by rfl) (by rfl) w0.heap.size (.slice Ad T.length cd) T.length (iv D) (by rfl) ?_ _ (.int .i64 y) (by rfl) ?_ (by rfl) ?_ ?_ ?_; exact (HA3.out.o3.alloc _).drew; exact drew_cell (new_cell _ _ _); omega; (simp; omega); (intro g3 c3 w3 hown3 hg3 hat3 hlt3; have HK3 : Hid (Keeps w2 w3 [(Value.slice Ad T.length cd).ownBlock]) := Lib.hid (keeps_app1 hg3); have HA4 := Lib.hid (((HA3.out.drew.rot).app hown3 hg3 hat3).rot.rot); have HBO3 : Hid (w3.heap[bo]? = some (.cells #[.slice Ad T.length cd, .slice none 0 0] 29 (0, 0))) := Lib.hid ((HK3.out.block _ (blk2cells HBO2.out).2.2.2.2 (by have n1 := own_ne_blk HA3.out.o3 HBO2.out (by decide); simpa using n1.symm)).trans HBO2.out); obtain ⟨z0, z1, zf0, zf1, lz⟩ := blk2cells HBO3.out; clear hown3 hg3 hat3 hlt3))
                refine hK.out _ _ (by (first | exact KS.out _ ((Keeps.refl _ _).drew) | exact KS.out _ (((Keeps.refl _ _).alloc _).drew) | exact KS.out _ HK3.out)) (fun hHeld => ?_)
                clear hK K
                try simp only [Act.put, List.setIfInBounds_toArray, List.set_cons_zero, List.set_cons_succ]
                refine wpAnyK_take (i := 9) (oi := ?oik1_10) (v := ?vk1_10) ?hk1_10 (by kernel_rfl) (by kernel_rfl) (by kernel_rfl) (by kernel_rfl) ?qk1_10 (Or.inl ⟨?wk1_10, ?yk1_10⟩) (by assumption) ?rk1_10
                case hk1_10 => (simp only [List.getElem?_toArray, List.getElem?_cons_succ, List.getElem?_cons_zero]; rfl)
                case qk1_10 => exact fun _ _ _ h => h
                case wk1_10 => rfl
                case yk1_10 => (intro w hSw; (try dsimp only at hSw); go_simp <;> with_reducible rfl)
                try simp only [Act.put, List.setIfInBounds_toArray, List.set_cons_zero, List.set_cons_succ]
                refine wpAnyK_ready (rs := [10]) (by kernel_rfl) (by simp) ?_
                refine AllReadyK.fin (o := ?oik1_11) (by decide) ?hk1_11 (fun K hK => ?kk1_11) ?mk1_11
                case hk1_11 => (simp only [List.getElem?_toArray, List.getElem?_cons_succ, List.getElem?_cons_zero]; rfl)
                case kk1_11 =>
                  go_simp
                  refine hK.out _ _ ?_
                  clear hK K
                  try simp only [Act.put, List.setIfInBounds_toArray, List.set_cons_zero, List.set_cons_succ]
                  refine wpAnyK_done (by kernel_rfl) ?_ _
                  go_wp2_with fail
                  go_roundw
                  case rel => exact ⟨i + 1, some ⟨g2, 0, none⟩, c2, some ⟨g3, 0, none⟩, c3, by omega, by go_num, by rw [HRS.out, List.length_append]; rfl, by rw [HRS.out, ← HTM.out, List.length_append, iv_append, nv_snocZ]; exact HA4.out.setBox HBO3.out (by decide) _, by rw [HRS.out, List.length_append]; exact blk2set0' HBO3.out _, (HBE2.out.trans (HK3.out.to_below hsz2 (fun j hj => HLO.out j (show _ = some j from (by simpa using hj : some j = (Value.slice Ad T.length cd).ownBlock).symm)))).setCell (p := ⟨bo, 0, none⟩) (by show w0.heap.size ≤ bo; omega) _⟩
                  case measure => simp [intOf]; omega
                exact AllReadyK.nil
              exact AllReadyK.nil
            exact AllReadyK.nil
          · rw [hpb] at hbn
            simp only [Bool.toNat_true, Int.natCast_one] at hbn
            have HRS := Lib.hid (rst_no hpb)
            have HPL := Lib.hid (plc_no (n := n) hpb)
            clear hpb HTM
            go_wp2_with fail
            go_roundw
            case rel => exact ⟨i + 1, Aa, ca, Ad, cd, by omega, by go_num, by rw [HRS.out], by rw [HRS.out, HPL.out]; exact HO3.out, by rw [HRS.out]; exact HBO.out, HBE.out⟩
            case measure => simp [intOf]; omega
        · obtain rfl : n = i := by omega
          obtain ⟨wo, hwo⟩ : ∃ wo, wo = wr := ⟨_, rfl⟩
          subst hwo
          have HQL : Hid ((quoD xs S).length = (rst (pvs S) n).length) := Lib.hid (by rw [quoD_len, Hnx.out])
          have HQD : Hid (((rst (pvs S) n).map fun t => xs.getD t 0) = quoD xs S) := Lib.hid (by rw [Hnx.out]; rfl)
          have HQA : Hid (modA (fun j b => told S n (act (dat L) (j : Int) (2 ^ (rst (pvs S) n).getD b 0))) (rst (pvs S) n).length = quoA xs (dat L) S) := Lib.hid (by rw [Hnx.out]; rfl)
          have HQP : Hid (∀ t, t < n → (quoP xs S).getD t 0 = told S n (2 ^ t)) := Lib.hid (fun t ht => by rw [Hnx.out] at ht ⊢; exact quoP_getD ht)
          have HQN : Hid ((quoP xs S).length = n) := Lib.hid (by rw [quoP_len, Hnx.out])
          have HQB : Hid ((quoP xs S).map (fun v => bitsL v (rst (pvs S) n).length) = (quotMR xs (dat L) S).2.1) := Lib.hid (by rw [Hnx.out]; rfl)
          have HIn : Hid (∀ t ∈ rst (pvs S) n, t < n) := Lib.hid (fun t ht => (mem_rst.1 ht).1)
          have HTS : Hid (∀ x, Sm (told S n x)) := Lib.hid (fun x => sm_of_lt (a := (rst (pvs S) n).length) (by omega) (told_lt S n x))
          have HPI : Hid (∀ r ∈ plc (pvs S) n n, r < 60) := Lib.hid (fun r hr => by have := plc_mem r hr; omega)
          have HPN : Hid (n = (plc (pvs S) n n).length) := Lib.hid (plc_len _ _ _).symm
          rw [HQD.out] at HO3
          have HPR := Lib.hid (owns_Rd HO3.out.o2)
          have HTR := Lib.hid (owns_Rd HO3.out.o1)
          have HKP := Lib.hid (fun (x : Nat) (W : World) (hb : Below wo.heap.size wo W) (hx : x < 2 ^ n) => show Calls Tryz.prog 80 #[.int .i64 (leftS S x : Nat), .slice (some ⟨gb, 0, none⟩) n n] W (fun e w' => e = .returned (.int .i64 (told S n x : Nat)) ∧ W = w') from by
            have h := l12Kept_any (some ⟨gb, 0, none⟩) n n (leftS S x) (plc (pvs S) n n) W HPN.out (by omega) (HLS.out x hx) HPI.out (HPR.out.below hb)
            rw [HTK.out x hx] at h
            exact h)
          generalize rst (pvs S) n = T at *
          have HK2 := Lib.hid (blk_kept HKM.out HBE.out)
          go_wp2_with fail
          clear x0 x1 xf0 xf1 lx
          go_loopw [12, 13] (fun s12 s13 wr => ∃ (i : Nat) (R : List Row) (A1 : Option Addr) (c1 : Nat), i ≤ n ∧ R.length = i ∧ s13 = .int .i64 i ∧ s12 = .slice A1 R.length c1 ∧ Hid (dat R = ((quoP xs S).take i).map fun v => bitsL v T.length) ∧ OwnR wr wo.heap.size (.slice A1 R.length c1) R ∧ Below wo.heap.size wo wr) (fun _ s => fun _ => n - (intOf s).toNat)
          case atStart => exact ⟨0, [], some ⟨wo.heap.size, 0, none⟩, 0, by omega, rfl, rfl, rfl, Lib.hid rfl, OwnR.made wo (Nat.le_refl _), (Below.refl _ _).alloc (Nat.le_refl _) _⟩
          case round =>
            obtain ⟨i, R, A1, c1, hi, hRi, rfl, rfl, HD, hown, hbel⟩ := hrel
            have HO := Lib.hid hown
            have HBL := Lib.hid hbel
            have HRi := Lib.hid hRi
            have hsz := hbel.size
            have hRn : R.length ≤ n := by omega
            have hq : R.length < 1099511627776 := by omega
            obtain ⟨x0, x1, xf0, xf1, lx⟩ := blk2cells (blk_kept HK2.out hbel)
            clear hown hbel hRi
            by_cases hin : i < n
            · have hp2 : Sm (2 ^ i) := sm_pow (n := i + 1) (by omega) (pow_lt_pow (by omega))
              have hl2 : 2 ^ i < 2 ^ n := pow_lt_pow hin
              have he : ((2 ^ i : Nat) : Int) = (2 : Int) ^ i := by simp
              obtain ⟨p1, p2⟩ := pow62 (d := i) (by omega)
              have HW1 := HWO.out (2 ^ i) wr hp2 (HB1.out.trans (HBL.out.mono HB1.out.size))
              rw [he] at HW1
              have HW1 := Lib.hid HW1
              have HW2 := Lib.hid (HKP.out (2 ^ i) wr HBL.out hl2)
              have HVC := Lib.hid (l12Vector_any T.length (told S n (2 ^ i)) wr (by omega) (HTS.out _))
              have HTK2 : Hid (((quoP xs S).take (i + 1)).map (fun v => bitsL v T.length) = ((quoP xs S).take i).map (fun v => bitsL v T.length) ++ [bitsL (told S n (2 ^ i)) T.length]) := Lib.hid (by rw [take_succ_getDN (by rw [HQN.out]; exact hin), HQP.out i hin, List.map_append]; rfl)
              have hmn : min i 64 = i := by omega
              generalize told S n (2 ^ i) = z at *
              clear hp2 hl2 he
              go_wp2_with fail
              with_reducible refine HW1.out.mono ?_
              rintro e w' ⟨rfl, rfl⟩
              go_wp2_with fail
              with_reducible refine HW2.out.mono ?_
              rintro e w' ⟨rfl, rfl⟩
              go_wp2_with fail
              with_reducible refine HVC.out.mono ?_
              rintro e w5 ⟨g5, c5, rfl, ho, hb⟩
              have HO5 := Lib.hid ho
              have HB5 := Lib.hid hb
              clear ho hb x0 x1 xf0 xf1 lx p1 p2 hmn hpvl hv
              go_wp2_with (at_builtin; refine wpList_app1 _ _ _ _ _ etS (by rfl) (by rfl) wo.heap.size (.slice A1 R.length c1) R.length (hv R) (by rfl) ((HO.out.later HB5.out).out.alloc _) _ (.slice (some ⟨g5, 0, none⟩) T.length c5) (by rfl) (new_cell _ _ _) (by rfl) hq (Nat.le_trans (Nat.le_trans hsz HB5.out.size) (Nat.le_of_lt (by simp))) ?_; (intro g6 c6 w6 hown6 hg6 hat6 hlt6; have HNN := Lib.hid (OwnR.push HO.out HB5.out HO5.out (bitsL_length z T.length).symm hsz hown6 hg6); have HB6 := Lib.hid (below_app2 (HBL.out.trans (HB5.out.mono hsz)) (Nat.le_trans hsz HB5.out.size) (HO.out.later HB5.out).out hg6); clear hown6 hg6 hat6 hlt6))
              go_roundw
              case rel => exact ⟨i + 1, R ++ [⟨some ⟨g5, 0, none⟩, c5, bitsL z T.length⟩], some ⟨g6, 0, none⟩, c6, by omega, by rw [List.length_append, HRi.out]; rfl, by go_num, by simp, Lib.hid (by rw [dat_append1, HD.out, HTK2.out]), by rw [List.length_append]; exact HNN.out, HB6.out⟩
              case measure => simp [intOf]; omega
            · obtain rfl : n = i := by omega
              obtain ⟨wp, hwp⟩ : ∃ wp, wp = wr := ⟨_, rfl⟩
              subst hwp
              have htk : (quoP xs S).take n = quoP xs S := List.take_of_length_le (by rw [HQN.out]; exact Nat.le_refl _)
              rw [htk] at HD
              have HBOp := Lib.hid (blk_kept HBO.out HBL.out)
              have HBp := Lib.hid (HB1.out.trans (HBL.out.mono HB1.out.size))
              have HTRp := Lib.hid (HTR.out.below HBL.out)
              have HKPp := Lib.hid (fun (x : Nat) (W W' : World) (hk : Keeps wp W [some bo]) (hb : Below W.heap.size W W') (hx : x < 2 ^ n) => show Calls Tryz.prog 80 #[.int .i64 (leftS S x : Nat), .slice (some ⟨gb, 0, none⟩) n n] W' (fun e w' => e = .returned (.int .i64 (told S n x : Nat)) ∧ W' = w') from by
                have hne : gb ≠ bo := by have := own_ne_blk HO3.out.o2 HBO.out (by decide); simpa [Value.ownBlock] using this
                have h := l12Kept_any (some ⟨gb, 0, none⟩) n n (leftS S x) (plc (pvs S) n n) W' HPN.out (by omega) (HLS.out x hx) HPI.out (((HPR.out.below HBL.out).keeps hk (fun a ha => by injection ha with ha; subst ha; simpa using hne)).below hb)
                rw [HTK.out x hx] at h
                exact h)
              have HMI := Lib.hid (fun j i => modI_next (fun j b => told S n (act (dat L) (j : Int) (2 ^ T.getD b 0))) T.length j i)
              have HML := Lib.hid (fun j => modJ_len (fun j b => told S n (act (dat L) (j : Int) (2 ^ T.getD b 0))) T.length j)
              have HMI2 := Lib.hid (fun j i => modI_len (fun j b => told S n (act (dat L) (j : Int) (2 ^ T.getD b 0))) T.length j i)
              have HMC := Lib.hid (fun j i c => modC_len (fun j b => told S n (act (dat L) (j : Int) (2 ^ T.getD b 0))) j i c)
              have HMK : Hid (∀ (g : Nat) (x : Obj), g ≠ bo → wp.heap[g]? = some x → ∀ wr, Keeps wp wr [some bo] → wr.heap[g]? = some x) := Lib.hid (fun g x hg hx wr hkp => (hkp.block g (Array.getElem?_eq_some_iff.1 hx).1 (by simpa using hg)).trans hx)
              have hmb : w.heap.size ≠ bo := by omega
              have hTl2 : T.length ≤ 16 := by omega
              have hTT : T.length * T.length ≤ 16 * 16 := Nat.mul_le_mul hTl2 hTl2
              have HKMp := Lib.hid (blk_kept HK2.out HBL.out)
              have HBK : Hid (∀ wr, Keeps wp wr [some bo] → Below w.heap.size w wr) := Lib.hid (fun wr hkp => HBp.out.trans (hkp.to_below HBp.out.size (fun j hj => by
                have : j = bo := by simpa using hj
                omega)))
              have HMF : Hid (∀ (j i c : Nat), modC (fun j b => told S n (act (dat L) (j : Int) (2 ^ T.getD b 0))) j i (c + 1) = modC (fun j b => told S n (act (dat L) (j : Int) (2 ^ T.getD b 0))) j i c ++ if tb (told S n (act (dat L) (j : Int) (2 ^ T.getD i 0))) c = true then [[(j : Int), (i : Int), (c : Int)]] else []) := Lib.hid (fun j i c => rfl)
              have HMA : Hid (modJ (fun j b => told S n (act (dat L) (j : Int) (2 ^ T.getD b 0))) T.length 20 = quoA xs (dat L) S) := HQA
              have HMJ : Hid (∀ j, modJ (fun j b => told S n (act (dat L) (j : Int) (2 ^ T.getD b 0))) T.length (j + 1) = modJ (fun j b => told S n (act (dat L) (j : Int) (2 ^ T.getD b 0))) T.length j ++ modI (fun j b => told S n (act (dat L) (j : Int) (2 ^ T.getD b 0))) T.length (j + 1) T.length) := Lib.hid (fun j => rfl)
              have HMI0 : Hid (∀ j, modI (fun j b => told S n (act (dat L) (j : Int) (2 ^ T.getD b 0))) T.length j 0 = []) := Lib.hid (fun j => rfl)
              have HMC0 : Hid (∀ j i, modC (fun j b => told S n (act (dat L) (j : Int) (2 ^ T.getD b 0))) j i 0 = []) := Lib.hid (fun j i => rfl)
              have HMJ0 : Hid (modJ (fun j b => told S n (act (dat L) (j : Int) (2 ^ T.getD b 0))) T.length 0 = []) := Lib.hid rfl
              generalize modJ (fun j b => told S n (act (dat L) (j : Int) (2 ^ T.getD b 0))) T.length = MJ at *
              generalize modI (fun j b => told S n (act (dat L) (j : Int) (2 ^ T.getD b 0))) T.length = MI at *
              generalize modC (fun j b => told S n (act (dat L) (j : Int) (2 ^ T.getD b 0))) = MC at *
              clear htk hpvl hv HQA
              go_wp2_with fail
              clear x0 x1 xf0 xf1 lx
              go_loopw [14] (fun s14 wr => ∃ (j : Nat) (R2 : List Row) (A2 : Option Addr) (c2 : Nat), 1 ≤ j ∧ j ≤ 21 ∧ s14 = .int .i64 j ∧ Hid (dat R2 = MJ (j - 1)) ∧ OwnR wr wp.heap.size (.slice A2 R2.length c2) R2 ∧ wr.heap[bo]? = some (.cells #[.slice Ad T.length cd, .slice A2 R2.length c2] 29 (0, 0)) ∧ Keeps wp wr [some bo]) (fun s => fun _ => 21 - (intOf s).toNat)
              case atStart => exact ⟨1, [], none, 0, by omega, by omega, rfl, Lib.hid HMJ0.out.symm, OwnR.nil _ _, HBOp.out, Keeps.refl _ _⟩
              case round =>
                obtain ⟨j, R2, A2, c2, hj1, hj2, rfl, HD2, hor, hbx, hkp⟩ := hrel
                have HOR := Lib.hid hor
                have HBX := Lib.hid hbx
                have HKE := Lib.hid hkp
                by_cases hj20 : j ≤ 20
                · have hj20i : (j : Int) ≤ 20 := by omega
                  clear hor hbx hkp
                  go_wp2_with fail
                  go_loopw [15] (fun s15 wr => ∃ (i : Nat) (R2 : List Row) (A2 : Option Addr) (c2 : Nat), i ≤ T.length ∧ s15 = .int .i64 i ∧ Hid (dat R2 = MJ (j - 1) ++ MI j i) ∧ OwnR wr wp.heap.size (.slice A2 R2.length c2) R2 ∧ wr.heap[bo]? = some (.cells #[.slice Ad T.length cd, .slice A2 R2.length c2] 29 (0, 0)) ∧ Keeps wp wr [some bo]) (fun s => fun _ => T.length - (intOf s).toNat)
                  case atStart => exact ⟨0, R2, A2, c2, by omega, rfl, Lib.hid (by rw [HD2.out, HMI0.out, List.append_nil]), HOR.out, HBX.out, HKE.out⟩
                  case round =>
                    obtain ⟨i, R2, A2, c2, hi, rfl, HD2, hor, hbx, hkp⟩ := hrel
                    have HOR := Lib.hid hor
                    have HBX := Lib.hid hbx
                    have HKE := Lib.hid hkp
                    by_cases hik : i < T.length
                    · have htn := HIn.out _ (getD_mem hik)
                      obtain ⟨b, o, rfl, hct⟩ := HTRp.out.atN hik
                      have hg : (some ⟨b, o, none⟩ : Option Addr) = some ⟨b, o, none⟩ := rfl
                      have hbo' : b ≠ bo := by
                        have h := own_ne_blk (owns_keeps HO3.out.o1 (Keeps.of_below HBL.out) (.inr (by simp))) HBOp.out (by decide)
                        simpa [Value.ownBlock] using h
                      have hcr := hkp.cellSome hct (by simpa using hbo')
                      have he : ((2 ^ T.getD i 0 : Nat) : Int) = (2 : Int) ^ T.getD i 0 := by simp
                      have h2n : 2 ^ T.getD i 0 < 2 ^ n := pow_lt_pow htn
                      have HA1 := Lib.hid (fun (W : World) (hb : Below wr.heap.size wr W) => (by
                        have h := HAM.out (j : Int) (2 ^ T.getD i 0) W ((HBK.out wr HKE.out).trans (hb.mono (HBK.out wr HKE.out).size)) (by rw [← Hnx.out]; exact h2n)
                        rw [he] at h
                        exact h : Calls Tryz.prog 81 #[.agg #[.slice A n c, .slice A' m c'], .int .i64 (j : Int), .int .i64 ((2 : Int) ^ T.getD i 0)] W fun e w' => e = .returned (.int .i64 (act (dat L) (j : Int) (2 ^ T.getD i 0) : Nat)) ∧ Below W.heap.size W w'))
                      have hun := HAL.out (j : Int) _ h2n
                      have HMFi := Lib.hid (fun c => HMF.out j i c)
                      generalize act (dat L) (j : Int) (2 ^ T.getD i 0) = u at *
                      generalize T.getD i 0 = t at *
                      have hsu : Sm u := sm_of_lt (a := n) (by omega) hun
                      have HW1 := Lib.hid (fun (W : World) (hb : Below wr.heap.size wr W) => HWO.out u W hsu ((HBK.out wr HKE.out).trans (hb.mono (HBK.out wr HKE.out).size)))
                      have HW2 := Lib.hid (fun (W : World) (hb : Below wr.heap.size wr W) => HKPp.out u wr W HKE.out hb hun)
                      have hmv := HTS.out u
                      generalize told S n u = v at *
                      have hshl := shl_wrap (t := t) (by omega)
                      have hkmr := HMK.out _ _ hmb HKMp.out wr HKE.out
                      have KS := Lib.hid (fun w' (hb : Below wr.heap.size wr w') => show w'.cell? ⟨w.heap.size, 0, none⟩ = some (.slice A n c) ∧ w'.cell? ⟨w.heap.size, 1, none⟩ = some (.slice A' m c') ∧ w'.cell? ⟨b, o + i, none⟩ = some (.int .i64 (t : Nat)) from by
                        obtain ⟨x0, x1, _⟩ := blk2cells (blk_kept hkmr hb)
                        exact ⟨x0, x1, cell_keep hcr hb⟩)
                      have HB_0 := Lib.hid (Below.drew (Below.refl wr.heap.size wr))
                      have hiki : (i : Int) < (T.length : Int) := by omega
                      clear hor hbx hkp hct hcr hkmr he h2n hg hbo' hun htn
                      go_wp2_with fail
                      go_region_held3 (fun w' => w'.cell? ⟨w.heap.size, 0, none⟩ = some (.slice A n c) ∧ w'.cell? ⟨w.heap.size, 1, none⟩ = some (.slice A' m c') ∧ w'.cell? ⟨b, o + i, none⟩ = some (.int .i64 (t : Nat)))
                        (first | exact KS.out _ HB_0.out | exact KS.out _ HB_1.out)
                        (first
                          | (go_at_call 81; (with_reducible refine (HA1.out _ HB_0.out).mono ?_); (rintro e w7 ⟨rfl, hb⟩; have HB_1 := Lib.hid (HB_0.out.trans (hb.mono HB_0.out.size)); clear hb))
                          | (go_at_call 91; (with_reducible refine (HW1.out _ HB_1.out).mono ?_); (rintro e w8 ⟨rfl, rfl⟩))
                          | (go_at_call 80; (with_reducible refine (HW2.out _ HB_1.out).mono ?_); (rintro e w9 ⟨rfl, rfl⟩)))
                      have HOR7 := Lib.hid (HOR.out.later HB_1.out)
                      have HBX7 := Lib.hid (blk_kept HBX.out HB_1.out)
                      have HKE7 : Hid (Keeps wp w7 [some bo]) := Lib.hid (HKE.out.trans (Keeps.of_below HB_1.out) (fun j _ hS => by simpa using hS))
                      clear KS HB_0 HB_1 HA1 HW1 HW2 hshl hsu
                      go_wp2_with fail
                      go_loopw [17] (fun s17 wr => ∃ (cj : Nat) (R2 : List Row) (A2 : Option Addr) (c2 : Nat), cj ≤ T.length ∧ s17 = .int .i64 cj ∧ Hid (dat R2 = MJ (j - 1) ++ MI j i ++ MC j i cj) ∧ OwnR wr wp.heap.size (.slice A2 R2.length c2) R2 ∧ wr.heap[bo]? = some (.cells #[.slice Ad T.length cd, .slice A2 R2.length c2] 29 (0, 0)) ∧ Keeps wp wr [some bo]) (fun s => fun _ => T.length - (intOf s).toNat)
                      case atStart => exact ⟨0, R2, A2, c2, by omega, rfl, Lib.hid (by rw [HD2.out, HMC0.out, List.append_nil]), HOR7.out, HBX7.out, HKE7.out⟩
                      case round =>
                        obtain ⟨cj, R2, A2, c2, hcj, rfl, HD2, hor, hbx, hkp⟩ := hrel
                        have HOR := Lib.hid hor
                        have HBX := Lib.hid hbx
                        have HKE := Lib.hid hkp
                        by_cases hck : cj < T.length
                        · have hmin : min cj 64 = cj := by omega
                          have hbn := i64_bit_test (n := cj) hmv
                          have hcs := HMFi.out cj
                          have hrl : R2.length ≤ 6000 := by
                            have h1 := congrArg List.length HD2.out
                            rw [dat_length, List.length_append, List.length_append] at h1
                            have h2 := HML.out (j - 1)
                            have h3 := HMI2.out j i
                            have h4 := HMC.out j i cj
                            have h6 : (j - 1) * (T.length * T.length) ≤ 20 * (16 * 16) := Nat.mul_le_mul (by omega) hTT
                            have h7 : i * T.length ≤ 16 * 16 := Nat.mul_le_mul (by omega) hTl2
                            omega
                          have hq : R2.length < 1099511627776 := by omega
                          have hckb : ((cj : Int) < (T.length : Int)) := by omega
                          cases htb : tb v cj
                          · rw [htb] at hbn
                            have HD' : Hid (dat R2 = MJ (j - 1) ++ MI j i ++ MC j i (cj + 1)) := Lib.hid (by rw [hcs, htb, if_neg (by simp), List.append_nil]; exact HD2.out)
                            clear hor hbx hkp hcs hrl htb hTT
                            go_wp2_with fail
                            go_roundw
                            case rel => exact ⟨cj + 1, R2, A2, c2, by omega, by go_num, HD', HOR.out, HBX.out, HKE.out⟩
                            case measure => simp [intOf]; omega
                          · rw [htb] at hbn
                            have HD' := Lib.hid hcs
                            rw [htb, if_pos rfl] at HD'
                            have hsz := hkp.size
                            have HBA := Lib.hid ((Below.refl wr.heap.size wr).alloc (Nat.le_refl _) (.cells #[.int .i64 (j : Int), .int .i64 (i : Int), .int .i64 (cj : Int)] 2))
                            have HN2 := Lib.hid (own_three wr wr.heap.size (Nat.le_refl _) (j : Int) (i : Int) (cj : Int))
                            have HOL := Lib.hid (hor.later HBA.out)
                            obtain ⟨z0, z1, zf0, zf1, lz⟩ := blk2cells hbx
                            clear hor hbx hkp hcs hrl htb hTT
                            go_wp2_with (at_builtin; refine wpList_app1 _ _ _ _ _ etS (by rfl) (by rfl) wp.heap.size (.slice A2 R2.length c2) R2.length (hv R2) (by rfl) (HOL.out.out.alloc _) _ (.slice (some ⟨wr.heap.size, 0, none⟩) 3 3) (by rfl) (new_cell1 wr _ _ _) (by rfl) hq (Nat.le_trans (Nat.le_trans hsz HBA.out.size) (Nat.le_of_lt (by simp))) ?_; (intro g3 c3 w3 hown3 hg3 hat3 hlt3; have HNN := Lib.hid (OwnR.push HOR.out HBA.out HN2.out rfl hsz hown3 hg3); have HK3 := Lib.hid (blk_grown (blk_alloc (blk_alloc HBX.out _) _) hg3 (own_ne_blk HOR.out.out HBX.out (by decide))); have HKK := Lib.hid (keeps_app4 hg3); clear hown3 hg3 hat3 hlt3 z0 z1 zf0 zf1 lz; obtain ⟨z0, z1, zf0, zf1, lz⟩ := blk2cells HK3.out))
                            go_roundw
                            case rel =>
                              refine ⟨cj + 1, R2 ++ [⟨some ⟨wr.heap.size, 0, none⟩, 3, [(j : Int), (i : Int), (cj : Int)]⟩], some ⟨g3, 0, none⟩, c3, by omega, by go_num, Lib.hid ?_, ?_, ?_, ?_⟩
                              · rw [dat_append1, HD2.out, HD'.out, ← List.append_assoc]
                              · rw [List.length_append]; exact OwnR.setBoxZ HNN.out HK3.out (by decide) (by decide) _
                              · rw [List.length_append]; exact blk2set1' HK3.out _
                              · have hk5 : Keeps wp w3 [some bo] := HKE.out.trans HKK.out (fun j hj hS => by
                                  rcases hS with hS | hS
                                  · exact hS
                                  · have e : some j = (Value.slice A2 R2.length c2).ownBlock := by simpa using hS
                                    have := (HOR.out.out.lt j e.symm).1
                                    omega)
                                exact hk5.setCell (p := ⟨bo, 1, none⟩) (by simp) _
                            case measure => simp [intOf]; omega
                        · obtain rfl : T.length = cj := by omega
                          have HD' : Hid (dat R2 = MJ (j - 1) ++ MI j (i + 1)) := Lib.hid (by rw [HD2.out, List.append_assoc, HMI.out])
                          clear hor hbx hkp
                          go_wp2_with fail
                          go_roundw
                          case rel => exact ⟨i + 1, R2, A2, c2, by omega, by go_num, HD', HOR.out, HBX.out, HKE.out⟩
                          case measure => simp [intOf]; omega
                    · obtain rfl : T.length = i := by omega
                      have HD' : Hid (dat R2 = MJ (j + 1 - 1)) := Lib.hid (by
                        obtain ⟨j', rfl⟩ : ∃ j', j = j' + 1 := ⟨j - 1, by omega⟩
                        rw [HD2.out]; exact (HMJ.out j').symm)
                      clear hor hbx hkp
                      go_wp2_with fail
                      go_roundw
                      case rel => exact ⟨j + 1, R2, A2, c2, by omega, by omega, by go_num, HD', HOR.out, HBX.out, HKE.out⟩
                      case measure => simp [intOf]; omega
                · obtain rfl : j = 21 := by omega
                  have hkrr := HMK.out _ _ (show w.heap.size + 1 ≠ bo by omega) (blk_kept (blk_kept HKR.out HBE.out) HBL.out) wr hkp
                  have hE : (quoA xs (dat L) S).length = R2.length := by rw [← HMA.out]; show (MJ (21 - 1)).length = _; rw [← HD2.out, dat_length]
                  have hF : (quotMR xs (dat L) S).2.1.length = R.length := by rw [← HQB.out, ← HD.out, dat_length]
                  have hnd : (Value.slice Ad T.length cd).ownBlock ≠ some bo := own_ne_blk HO3.out.o3 HBO.out (by decide)
                  have hd1 := owns_keeps (owns_keeps HO3.out.o3 (Keeps.of_below HBL.out) (.inr (by simp))) hkp (.inr (by simpa using hnd))
                  have hp1 := HO.out.keeps hkp (.inr (by have := own_ne_blk HO.out.out HBOp.out (by decide); simpa using this)) (fun i hi => .inr (by have := own_ne_blk (HO.out.inn i hi) HBOp.out (by decide); simpa using this))
                  have HK3 := Lib.hid (blk2set0' hkrr (.slice Ad T.length cd))
                  have HFD := Lib.hid (own_setBoxZ (k := 1) (own_setBoxZ (k := 0) hd1 hkrr (by decide) (.slice Ad T.length cd)) HK3.out (by decide) (.slice A2 R2.length c2))
                  have HFA := Lib.hid (OwnR.setBoxZ (k := 1) (OwnR.setBoxZ (k := 0) hor hkrr (by decide) (by decide) (.slice Ad T.length cd)) HK3.out (by decide) (by decide) (.slice A2 R2.length c2))
                  have HFP := Lib.hid (OwnR.setBoxZ (k := 1) (OwnR.setBoxZ (k := 0) hp1 hkrr (by decide) (by decide) (.slice Ad T.length cd)) HK3.out (by decide) (by decide) (.slice A2 R2.length c2))
                  have HBF := Lib.hid (HBK.out wr hkp)
                  have HE := Lib.hid hE
                  have HF := Lib.hid hF
                  have hw01 := HB1.out.size
                  obtain ⟨z0, z1, zf0, zf1, lz⟩ := blk2cells hbx
                  obtain ⟨y0, y1, yf0, yf1, ly⟩ := blk2cells hkrr
                  have hne1 : w.heap.size + 1 ≠ bo := by omega
                  clear hor hbx hkp hkrr hE hF hnd hd1 hp1 hTT
                  go_wp2_with fail
                  (try simp only [Exit.inBlock, Exit.then])
                  refine ret_m2 rfl rfl rfl (blk2set1' HK3.out _) ?_
                  refine ⟨Ad, cd, A2, c2, R2, A1, c1, R, by rw [HQL.out, HE.out, HF.out]; rfl, by rw [HQL.out]; exact HFD.out.mono (by omega), by rw [HD2.out]; exact HMA.out, by rw [HE.out]; exact HFA.out.mono (by have := HBp.out.size; omega), by rw [HD.out]; exact HQB.out, by rw [HF.out]; exact HFP.out.mono hw01, ?_⟩
                  exact (HBF.out.setCell (p := ⟨w.heap.size + 1, 0, none⟩) (by show w.heap.size ≤ w.heap.size + 1; omega) _).setCell (p := ⟨w.heap.size + 1, 1, none⟩) (by show w.heap.size ≤ w.heap.size + 1; omega) _
end Go.Proofs.YtpchigdhnnkpcaaGreatDoor
