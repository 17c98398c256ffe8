/- the program's lists of lists: copies, equality, oddOnes, sums, products · the program's oddOnes · the program's sums and products of elements; the element of a word -/
import Derived.Test.YtdkmdmpaflgfaaaGreatDoorBxac
import Derived.Test.YtdkmdmpaflgfaaaGreatDoorBxae
import Derived.BigQuiet
import Derived.Deep.DeepCutAuto
import Derived.Deep.CutBlock
set_option linter.all false
namespace Go.Proofs.YtdkmdmpaflgfaaaGreatDoor
open Go.RowKit

set_option maxHeartbeats 1000000 in
theorem slEqual_any (A B : Option Addr) (n n' c c' : Nat) (x y : List Int) (w : World) (hn : n = x.length) (hn' : n' = y.length) (hsm : n ≤ 1099511627776) (hsm' : n' ≤ 1099511627776) (hA : Rd w A (iv x)) (hB : Rd w B (iv y)) :
    Calls Tryz.prog 181 #[.slice A n c, .slice B n' c'] w fun e w' => e = .returned (.bool (x == y)) ∧ ∃ m, w.drewN m = w' := by
  by_cases hnn : n = n'
  · subst hnn
    have HA := Lib.hid hA
    have HB := Lib.hid hB
    have Hn := Lib.hid hn
    have Hn' := Lib.hid hn'
    clear hA hB hn hn' hsm'
    go_enter Tryz.func181, Tryz.ntmps181
    go_wp2_with fail
    go_loopw [13] (fun i wr => ∃ k j : Nat, k ≤ n ∧ i = .int .i64 k ∧ wr = w.drewN j ∧ Hid (∀ t, t < k → x.getD t 0 = y.getD t 0)) (fun i _ => n - (intOf i).toNat)
    case atStart => exact ⟨0, 0, by omega, rfl, rfl, Lib.hid (fun t ht => by omega)⟩
    case round =>
      obtain ⟨k, j, hk, rfl, rfl, HQ⟩ := hrel
      by_cases hlt : k < n
      · obtain ⟨b1, o1, rfl, hc1⟩ := HA.out.atI (k := k) (by rw [← Hn.out]; exact hlt)
        obtain ⟨b2, o2, rfl, hc2⟩ := HB.out.atI (k := k) (by rw [← Hn'.out]; exact hlt)
        generalize hp : x.getD k 0 = p at *
        generalize hq : y.getD k 0 = q at *
        have HP := Lib.hid hp
        have HQ' := Lib.hid hq
        clear hp hq
        by_cases e : p = q
        · subst e
          go_wp2_with fail
          go_quiet (fail)
          go_wp2_with fail
          go_roundw
          case rel =>
            refine ⟨k + 1, _, by omega, by go_num, rfl, Lib.hid (fun t ht => ?_)⟩
            by_cases e : t = k
            · subst e; rw [HP.out, HQ'.out]
            · exact HQ.out t (by omega)
          case measure => simp [intOf]; omega
        · have heb : (p != q) = true := by simpa using e
          have HF : Hid ((x == y) = false) := Lib.hid (by
            rw [beq_eq_false_iff_ne]; intro h; subst h; exact e (HP.out.symm.trans HQ'.out))
          clear e
          go_wp2_with fail
          go_quiet (fail)
          go_wp2_with fail
          go_ret
          exact ⟨by rw [HF.out]; rfl, _, by rw [World.drewN_drewN]⟩
      · have HT : Hid ((x == y) = true) := Lib.hid (by
          rw [beq_iff_eq]
          exact list_ext_getD Hn.out.symm Hn'.out.symm (fun i hi => HQ.out i (by omega)))
        go_wp2_with fail
        go_ret
        exact ⟨by rw [HT.out]; rfl, j, rfl⟩
  · have hnb : ((n : Int) != (n' : Int)) = true := by simp; omega
    have HF : Hid ((x == y) = false) := Lib.hid (by
      rw [beq_eq_false_iff_ne]; intro h; subst h; exact hnn (hn.trans hn'.symm))
    clear hA hB hn hn' hnn
    go_enter Tryz.func181, Tryz.ntmps181
    go_wp2_with fail
    go_ret
    exact ⟨by rw [HF.out]; rfl, 0, rfl⟩


theorem hv_one (L : List Row) : ∀ u ∈ hv L, u.oneCell' = true := by
  intro u hu
  obtain ⟨x, _, rfl⟩ := List.mem_map.1 hu
  rfl
set_option maxHeartbeats 1000000 in
theorem copyRows_any (A : Option Addr) (n c : Nat) (L : List Row) (w : World) (hn : n = L.length) (hsm : n ≤ 1000000000000) (hR : Rd w A (hv L)) :
    Calls Tryz.prog 179 #[.slice A n c] w fun e w' => ∃ g cap, e = .returned (.slice (some ⟨g, 0, none⟩) n cap) ∧ w'.ownsRow w.heap.size 22 1 (.slice (some ⟨g, 0, none⟩) n cap) n (hv L) ∧ Below w.heap.size w w' := by
  have HR := Lib.hid hR
  have Hn := Lib.hid (show n = (hv L).length by rw [hv_length]; exact hn)
  clear hR hn
  go_enter Tryz.func179, Tryz.ntmps179
  go_wp2_with (at_builtin; refine wpList_appR _ _ _ _ _ etS (by rfl) (by rfl) w.heap.size (.slice (some ⟨w.heap.size, 0, none⟩) 0 0) 0 [] (by rfl) ?_ A n c (hv L) (by rfl) Hn.out ?_ (hv_one L) ?_ ?_ ?_; exact World.ownsRow_made w #[] 0 (Nat.le_refl _) (by decide) (by simp); exact HR.out.alloc _; omega; (simp); (intro v' w' hown hg hat; have HO := Lib.hid hown; have HG := Lib.hid hg; have HA := Lib.hid hat; clear hown hg hat))
  go_ret
  have ho := HO.out
  rw [Nat.zero_add, List.nil_append] at ho
  have hb : Below w.heap.size w w' := ((Below.refl _ _).alloc (Nat.le_refl _) _).grown HG.out (by simp) (fun k hk => by simp [Value.ownBlock] at hk; omega)
  rcases ho.2 with ⟨rfl, _⟩ | ⟨g, cap, cur, rfl, _⟩
  · rcases HA.out with h | h <;> simp [Value.ownBlock] at h
  · exact ⟨g, cap, rfl, ho, hb⟩
theorem putR_len : ∀ (Q : LL) (x : List Int), (putR Q x).length ≤ Q.length + 1
  | [], x => by simp [putR]
  | y :: Q, x => by
    unfold putR
    split
    · have := putR_len Q x; simp; omega
    · split
      · simp; omega
      · simp
theorem foldl_len (L : LL) : ∀ Q : LL, (L.foldl putR Q).length ≤ Q.length + L.length := by
  induction L with
  | nil => intro Q; simp
  | cons x L ih => intro Q; rw [List.foldl_cons]; have := ih (putR Q x); have := putR_len Q x; simp; omega
theorem nf_len (L : LL) : (nf L).length ≤ L.length := by have := foldl_len L []; simpa [nf] using this
end Go.Proofs.YtdkmdmpaflgfaaaGreatDoor

namespace Go.Proofs.YtdkmdmpaflgfaaaGreatDoor
open Go.RowKit

/-- what lies behind a place is greater than what lies ahead of it -/
def Bnd (S : LL) (i : Nat) : Prop := ∀ a b, a < i → i ≤ b → b < S.length → lexLt (S.getD a []) (S.getD b []) = true
theorem srt_dat {S : List Row} (h : Srt S) : ∀ a b, a < b → b < (dat S).length → lexLt ((dat S).getD b []) ((dat S).getD a []) = false := by
  intro a b hab hb
  rw [dat_length] at hb
  have := List.pairwise_iff_getElem.1 h a b (by omega) hb hab
  rw [dat_getD, dat_getD, rg_of hb, rg_of (by omega : a < S.length)]
  exact this
theorem Bnd.next {S : LL} (hs : ∀ a b, a < b → b < S.length → lexLt (S.getD b []) (S.getD a []) = false) {i k : Nat} (h : Bnd S i) (hik : i < k) (hx : ∀ j, i ≤ j → j < k → S.getD j [] = S.getD i []) (hk : k < S.length → S.getD k [] ≠ S.getD i []) : Bnd S k := by
  intro a b ha hb hbl
  have hkl : k < S.length := by omega
  have h1 : lexLt (S.getD i []) (S.getD k []) = true := by
    rcases lexLt_total (S.getD i []) (S.getD k []) with h1 | h1 | h1
    · exact h1
    · rw [hs i k hik hkl] at h1; cases h1
    · exact absurd h1.symm (hk hkl)
  have h2 : lexLt (S.getD i []) (S.getD b []) = true := by
    by_cases e : k = b
    · subst e; exact h1
    · rcases lexLt_total (S.getD i []) (S.getD b []) with h3 | h3 | h3
      · exact h3
      · rw [hs i b (by omega) hbl] at h3; cases h3
      · have := hs k b (by omega) hbl
        rw [← h3, h1] at this; cases this
  by_cases ai : a < i
  · exact h a b ai (by omega) hbl
  · rw [hx a (by omega) ha]; exact h2

set_option maxRecDepth 100000 in
set_option maxHeartbeats 4000000 in
theorem oddOnes_any (A : Option Addr) (n c : Nat) (L : List Row) (w : World) (hn : n = L.length) (hsm : n ≤ 1000000000000) (hl : ∀ i, i < L.length → (rg L i).xs.length ≤ 1000000) (hR : RdR w A L) :
    Calls Tryz.prog 135 #[.slice A n c] w (ResRows (nf (dat L)) w) := by
  have HC := Lib.hid (copyRows_any A n c L w hn hsm hR.out)
  have HR := Lib.hid hR
  have Hn := Lib.hid hn
  have HL := Lib.hid hl
  clear hn hl hR
  go_enter Tryz.func135, Tryz.ntmps135
  go_wp2_with fail
  refine HC.out.mono ?_
  rintro e w1 ⟨g, cap, rfl, ho, hb⟩
  have hgl := ho.lt g rfl
  have ho' := ho
  rw [Hn.out] at ho'
  have hin : ∀ r ∈ L, Rd w1 r.A (iv r.xs) ∧ (∀ a, r.A = some a → r.xs ≠ [] → a.block ≠ g) ∧ r.xs.length ≤ 1099511627776 := by
    intro r hr
    obtain ⟨i, hi, rfl⟩ := List.mem_iff_getElem.1 hr
    have h1 := HR.out.inn i hi
    have h2 := HL.out i hi
    rw [rg_of hi] at h1 h2
    exact ⟨h1.below hb, fun a ha hne => by have := h1.blk_lt a ha hne; omega, by omega⟩
  have HS := Lib.hid (sortRows_any w.heap.size g cap L w1 ho' hin (by rw [← Hn.out]; omega))
  rw [← Hn.out] at HS
  have HI := Lib.hid hin
  have HB1 := Lib.hid hb
  clear ho ho' hb hin
  go_wp2_with fail
  refine HS.out.mono ?_
  rintro e w2 ⟨rfl, S, hp, hsrt, ho, hk⟩
  have HO := Lib.hid (owns_Rd ho)
  have HB2 := Lib.hid (HB1.out.trans (hk.to_below HB1.out.size (fun j hj => by simp at hj; omega)))
  have HSR := Lib.hid (srt_dat hsrt)
  have HNF : Hid (nf (dat L) = nf (dat S)) := Lib.hid (nf_perm (hp.symm.map _))
  have HSn : Hid (n = S.length) := Lib.hid (by rw [Hn.out]; exact hp.length_eq.symm)
  have HSI : Hid (∀ i, i < S.length → Rd w2 (rg S i).A (iv (rg S i).xs) ∧ (rg S i).xs.length ≤ 1000000) := Lib.hid (fun i hi => by
    have hm := hp.mem_iff.1 (rg_mem hi)
    have h1 := HI.out _ hm
    refine ⟨h1.1.keepsS hk h1.2.1, ?_⟩
    obtain ⟨j, hj, e⟩ := List.mem_iff_getElem.1 hm
    have := HL.out j hj
    rw [rg_of hj, e] at this; exact this)
  clear ho hk hsrt hp hgl
  have hs2 := HB2.out.size
  go_wp2_with fail
  go_loopw [4, 5] (fun v4 v5 wr => ∃ i : Nat, ∃ A4 c4, ∃ M : List Row, i ≤ n ∧ v5 = .int .i64 i ∧ v4 = .slice A4 M.length c4 ∧ OwnR wr w2.heap.size (.slice A4 M.length c4) M ∧ Hid (dat M = nf ((dat S).take i)) ∧ Hid (Bnd (dat S) i) ∧ Below w2.heap.size w2 wr) (fun _ v5 _ => n - (intOf v5).toNat)
  case atStart => exact ⟨0, some ⟨w2.heap.size, 0, none⟩, 0, [], by omega, rfl, rfl, OwnR.made w2 (Nat.le_refl _), Lib.hid rfl, Lib.hid (fun a b ha => by omega), (Below.refl _ _).alloc (Nat.le_refl _) _⟩
  case round =>
    obtain ⟨i, A4, c4, M, hi, rfl, rfl, hown, HM, HBN, hbel⟩ := hrel
    obtain ⟨wv, hwv⟩ : ∃ wv, wv = wr := ⟨_, rfl⟩
    subst hwv
    have HOM := Lib.hid hown
    have HBV := Lib.hid hbel
    have hs3 := hbel.size
    have hMl : M.length ≤ n := by
      rw [← dat_length, HM.out]
      exact Nat.le_trans (nf_len _) (by simp; omega)
    by_cases hlt : i < n
    · have hiS : i < S.length := by rw [← HSn.out]; exact hlt
      obtain ⟨b, o, hgbo, hci⟩ : ∃ b o, (some ⟨g, 0, none⟩ : Option Addr) = some ⟨b, o, none⟩ ∧ wv.cell? ⟨b, o + i, none⟩ = some (rg S i).val := by
        rcases HO.out.below hbel with h' | ⟨b, o, e, h'⟩
        · have h9 := congrArg List.length h'; rw [hv_length, List.length_nil] at h9; have := HSn.out; omega
        · exact ⟨b, o, e, h' i _ (hv_get hiS)⟩
      injection hgbo with hgbo
      injection hgbo with e1 e2 _
      subst e1; subst e2
      rw [Nat.zero_add] at hci
      have hcell : ∀ k, k < n → ∀ W, Below wv.heap.size wv W → W.cell? ⟨g, k, none⟩ = some (rg S k).val := fun k hk W hb => by
        rcases (HO.out.below hbel).below hb with h' | ⟨b, o, e, h'⟩
        · have h9 := congrArg List.length h'; rw [hv_length, List.length_nil] at h9; have := HSn.out; omega
        · injection e with e; injection e with e1 e2 _; subst e1; subst e2
          have := h' k _ (hv_get (show k < S.length by rw [← HSn.out]; exact hk))
          rwa [Nat.zero_add] at this
      have HCELL := Lib.hid hcell
      have HSI2 := Lib.hid (fun k (hk : k < n) (W : World) (hb : Below wv.heap.size wv W) => show Rd W (rg S k).A (iv (rg S k).xs) ∧ (rg S k).xs.length ≤ 1000000 from ⟨(((HSI.out k (by rw [← HSn.out]; exact hk)).1.below hbel).below hb), (HSI.out k (by rw [← HSn.out]; exact hk)).2⟩)
      have hii : (i : Int) < (n : Int) := by omega
      clear hown hbel hcell hiS
      have hxi := hci
      generalize hri : rg S i = ri at *
      have HRI := Lib.hid hri
      obtain ⟨riA, ric, rix⟩ := ri
      simp only [Row.val] at hci hxi
      have hsii := HSI2.out i hlt
      rw [hri] at hsii
      have HII : Hid (∀ (W : World), Below wv.heap.size wv W → Rd W riA (iv rix) ∧ rix.length ≤ 1000000) := Lib.hid hsii
      clear hri hsii
      go_upto_block 2 with (fail)
      go_cut [6] (fun v6 wx => ∃ k m : Nat, i < k ∧ k ≤ n ∧ v6 = .int .i64 k ∧ wx = wv.drewN m ∧ (∀ j, i ≤ j → j < k → (dat S).getD j [] = rix) ∧ (k < n → (dat S).getD k [] ≠ rix))
      case first =>
        go_wp2_with fail
        go_loopw [6] (fun v6 wr => ∃ k m : Nat, i ≤ k ∧ k ≤ n ∧ v6 = .int .i64 k ∧ wr = wv.drewN m ∧ Hid (∀ j, i ≤ j → j < k → (dat S).getD j [] = rix)) (fun v6 _ => n - (intOf v6).toNat)
        case atStart => exact ⟨i, 0, by omega, by omega, rfl, rfl, Lib.hid (fun j h1 h2 => by omega)⟩
        case round =>
          obtain ⟨k, m, hik, hkn, rfl, rfl, HEQ⟩ := hrel
          by_cases hkl : k < n
          · have hck := HCELL.out k hkl wv (Below.refl _ _)
            have hkk := HSI2.out k hkl
            have HDK : Hid ((dat S).getD k [] = (rg S k).xs) := Lib.hid (dat_getD S k)
            have HII2 : Hid (k = i → (rg S k).xs = rix) := Lib.hid (fun e => by rw [e, HRI.out])
            generalize rg S k = rk at *
            obtain ⟨rkA, rkc, rkx⟩ := rk
            simp only [Row.val] at hck hkk
            simp only at HDK HII2
            have HQ := Lib.hid (fun W (hb : Below wv.heap.size wv W) => slEqual_any rkA riA rkx.length rix.length rkc ric rkx rix W rfl rfl (by have := hkk wv (Below.refl _ _); omega) (by have := HII.out wv (Below.refl _ _); omega) (hkk W hb).1 (HII.out W hb).1)
            have hki : (k : Int) < (n : Int) := by omega
            have hkib : decide ((k : Int) < (n : Int)) = true := decide_eq_true hki
            clear hkk
            cases hb : rkx == rix
            · rw [hb] at HQ
              have hne : rkx ≠ rix := by simpa using hb
              have HNE := Lib.hid hne
              clear hb hne
              go_wp2_with fail
              go_quiet ((go_at_call 181; first | exact quiet_any_add (HQ.out _ (below_drewN (Below.refl _ _) _)) | exact quiet_any (HQ.out _ (below_drewN (Below.refl _ _) _))))
              go_wp2_with fail
              go_meet
              refine ⟨k, _, ?_, hkn, rfl, by rw [World.drewN_drewN], HEQ.out, fun _ => by rw [HDK.out]; exact HNE.out⟩
              rcases Nat.lt_or_eq_of_le hik with h | h
              · exact h
              · exact absurd (HII2.out h.symm) HNE.out
            · rw [hb] at HQ
              have heq : rkx = rix := by simpa using hb
              have HE := Lib.hid heq
              clear hb heq
              go_wp2_with fail
              go_quiet ((go_at_call 181; first | exact quiet_any_add (HQ.out _ (below_drewN (Below.refl _ _) _)) | exact quiet_any (HQ.out _ (below_drewN (Below.refl _ _) _))))
              go_wp2_with fail
              go_roundw
              case rel =>
                refine ⟨k + 1, _, by omega, by omega, by go_num, rfl, Lib.hid (fun j h1 h2 => ?_)⟩
                by_cases e : j = k
                · subst e; rw [HDK.out, HE.out]
                · exact HEQ.out j h1 (by omega)
              case measure => simp [intOf]; omega
          · obtain rfl : k = n := by omega
            have hki : ¬ (k : Int) < (k : Int) := by omega
            have hkib : decide ((k : Int) < (k : Int)) = false := decide_eq_false hki
            go_wp2_with fail
            go_quiet (fail)
            go_wp2_with fail
            go_meet
            exact ⟨k, _, hlt, Nat.le_refl _, rfl, by rw [World.drewN_drewN], HEQ.out, fun h => by omega⟩
      case rest =>
      obtain ⟨k, m, hik, hkn, rfl, rfl, heq, hne⟩ := hcut
      have hdi : (dat S).getD i [] = rix := heq i (Nat.le_refl _) hik
      have HBN2 : Hid (Bnd (dat S) k) := Lib.hid (HBN.out.next HSR.out hik (fun j h1 h2 => (heq j h1 h2).trans hdi.symm) (fun h => by rw [hdi]; exact hne (by rw [HSn.out]; rwa [dat_length] at h)))
      have HRUN := Lib.hid (nf_run (S := dat S) (i := i) (k := k) (x := rix) (by rw [dat_length, ← HSn.out]; exact hkn) (Nat.le_of_lt hik) (fun y hy => by
        obtain ⟨a, ha, e⟩ := List.mem_iff_getElem.1 hy
        simp only [List.length_take, dat_length] at ha
        rw [List.getElem_take] at e
        have h2 := HBN.out a i (by omega) (Nat.le_refl _) (by rw [dat_length, ← HSn.out]; exact hlt)
        rw [hdi] at h2
        rw [← e]
        simpa [List.getD, show a < (dat S).length by rw [dat_length]; omega] using h2) heq)
      have hsub : (k : Int) - (i : Int) = ((k - i : Nat) : Int) := by omega
      have htm : (((k - i : Nat) : Int)).tmod 2 = (((k - i) % 2 : Nat) : Int) := by rw [Int.natCast_emod]; exact Int.tmod_eq_emod_of_nonneg (by omega)
      clear heq hne hdi
      generalize hd : k - i = d at *
      have HDD := Lib.hid hd
      clear hd
      by_cases hodd : d % 2 = 1
      · have hob : ((((d % 2 : Nat)) : Int) == 1) = true := by rw [hodd]; rfl
        rw [if_pos hodd] at HRUN
        have HCI := Lib.hid (fun W (hb : Below wv.heap.size wv W) => copyOf_any riA rix.length ric (iv rix) W (by rw [iv_length]) (by have := HII.out wv (Below.refl _ _); omega) (iv_one _) (HII.out W hb).1)
        have hMq : M.length < 1099511627776 := by omega
        clear hodd
        have HB0 : Hid (Below wv.heap.size wv (wv.drewN m)) := Lib.hid (below_drewN (Below.refl _ _) m)
        have HOMm := Lib.hid (HOM.out.drewN m)
        have hcm : (wv.drewN m).cell? ⟨g, i, none⟩ = some (.slice riA rix.length ric) := hci
        have hsm2 : wv.heap.size ≤ (wv.drewN m).heap.size := Nat.le_refl _
        have HBW := Lib.hid (below_drewN HBV.out m)
        have hsz2 : w2.heap.size ≤ (wv.drewN m).heap.size := hs3
        generalize wv.drewN m = wm at *
        go_wp2_with fail
        refine (HCI.out _ HB0.out).mono ?_
        rintro e w5 ⟨g5, c5, rfl, ho5, hb5⟩
        have HO5 := Lib.hid ho5
        have HB5 := Lib.hid hb5
        clear ho5 hb5
        go_wp2_with (at_builtin; refine wpList_app1 _ _ _ _ _ etS (by rfl) (by rfl) w2.heap.size (.slice A4 M.length c4) M.length (hv M) (by rfl) ((HOMm.out.later HB5.out).out.alloc _) _ (.slice (some ⟨g5, 0, none⟩) rix.length c5) (by rfl) (new_cell _ _ _) (by rfl) hMq (Nat.le_trans (Nat.le_trans hsz2 HB5.out.size) (Nat.le_of_lt (by simp))) ?_; (intro g6 c6 w6 hown6 hg6 hat6 hlt6; have HN := Lib.hid (OwnR.push HOMm.out HB5.out HO5.out rfl hsz2 hown6 hg6); have HB6 := Lib.hid (below_app2 (HBW.out.trans (HB5.out.mono hsz2)) (Nat.le_trans hsz2 HB5.out.size) (HOMm.out.later HB5.out).out hg6); clear hown6 hg6 hat6 hlt6))
        go_roundw
        case rel =>
          refine ⟨k, some ⟨g6, 0, none⟩, c6, M ++ [⟨some ⟨g5, 0, none⟩, c5, rix⟩], by omega, by go_num, by simp, by simpa using HN.out, Lib.hid ?_, HBN2.out, HB6.out⟩
          rw [dat_append1, HM.out, HRUN.out]
        case measure => simp [intOf]; omega
      · have hd0 : d % 2 = 0 := by omega
        have hob : ((((d % 2 : Nat)) : Int) == 1) = false := by rw [hd0]; rfl
        rw [if_neg hodd] at HRUN
        have HOMm := Lib.hid (HOM.out.drewN m)
        have HBW := Lib.hid (below_drewN HBV.out m)
        generalize wv.drewN m = wm at *
        clear hodd hd0
        go_wp2_with fail
        go_roundw
        case rel => exact ⟨k, A4, c4, M, by omega, rfl, rfl, HOMm.out, Lib.hid (by rw [HM.out, HRUN.out]), HBN2.out, HBW.out⟩
        case measure => simp [intOf]; omega
    · obtain rfl : i = n := by omega
      have hT : (dat S).take i = dat S := List.take_of_length_le (by rw [dat_length, ← HSn.out]; exact Nat.le_refl _)
      rw [hT] at HM
      have hii : ¬ (i : Int) < (i : Int) := by omega
      clear hown hbel hT
      go_wp2_with fail
      go_ret
      exact ⟨_, M, rfl, by rw [HM.out, HNF.out], HOM.out.mono hs2, HB2.out.trans (HBV.out.mono hs2)⟩
end Go.Proofs.YtdkmdmpaflgfaaaGreatDoor

namespace Go.Proofs.YtdkmdmpaflgfaaaGreatDoor
open Go.RowKit

set_option maxHeartbeats 1000000 in
theorem joinRows_any (A A' : Option Addr) (n n' c c' : Nat) (L K : List Row) (w : World) (hn : n = L.length) (hn' : n' = K.length) (hsm : n ≤ 400000000000) (hsm' : n' ≤ 400000000000) (hR : Rd w A (hv L)) (hR' : Rd w A' (hv K)) :
    Calls Tryz.prog 177 #[.slice A n c, .slice A' n' c'] w fun e w' => ∃ v, e = .returned v ∧ w'.ownsRow w.heap.size 22 1 v (n + n') (hv L ++ hv K) ∧ Below w.heap.size w w' := by
  have HC := Lib.hid (copyRows_any A n c L w hn (by omega) hR)
  have HR' := Lib.hid hR'
  have Hn' := Lib.hid (show n' = (hv K).length by rw [hv_length]; exact hn')
  clear hR hR' hn hn'
  go_enter Tryz.func177, Tryz.ntmps177
  go_wp2_with fail
  refine HC.out.mono ?_
  rintro e w1 ⟨g, cap, rfl, ho, hb⟩
  have HO := Lib.hid ho
  have HB := Lib.hid hb
  clear ho hb
  go_wp2_with (at_builtin; refine wpList_appR _ _ _ _ _ etS (by rfl) (by rfl) w.heap.size (.slice (some ⟨g, 0, none⟩) n cap) n (hv L) (by rfl) HO.out A' n' c' (hv K) (by rfl) Hn'.out (HR'.out.below HB.out) (hv_one K) ?_ ?_ ?_; omega; exact HB.out.size; (intro v' w' hown hg hat; have HO2 := Lib.hid hown; have HG := Lib.hid hg; clear hown hg hat))
  go_ret
  exact ⟨v', rfl, HO2.out, HB.out.trans ((Below.refl w.heap.size w1).grown HG.out HB.out.size (fun k hk => by simp [Value.ownBlock] at hk; rw [← hk]; exact (HO.out.lt g rfl).1))⟩
theorem hv_app (L K : List Row) : hv (L ++ K) = hv L ++ hv K := by simp [hv]
theorem rg_appL (L K : List Row) {i : Nat} (h : i < L.length) : rg (L ++ K) i = rg L i := by simp [rg, List.getD, List.getElem?_append, h]
theorem rg_appR (L K : List Row) {i : Nat} (h : L.length ≤ i) : rg (L ++ K) i = rg K (i - L.length) := by simp [rg, List.getD, List.getElem?_append_right h]
theorem RdR.app {w : World} {A A' B : Option Addr} {L K : List Row} (h : RdR w A L) (k : RdR w A' K) (ho : Rd w B (hv L ++ hv K)) : RdR w B (L ++ K) := by
  refine ⟨by rw [hv_app]; exact ho, fun i hi => ?_, fun i hi => ?_⟩
  · by_cases h1 : i < L.length
    · rw [rg_appL L K h1]; exact h.inn i h1
    · rw [rg_appR L K (by omega)]; exact k.inn _ (by simp at hi; omega)
  · by_cases h1 : i < L.length
    · rw [rg_appL L K h1]; exact h.cap i h1
    · rw [rg_appR L K (by omega)]; exact k.cap _ (by simp at hi; omega)

set_option maxHeartbeats 1000000 in
theorem sumRows_any (A A' : Option Addr) (n n' c c' : Nat) (L K : List Row) (w : World) (hn : n = L.length) (hn' : n' = K.length) (hsm : n ≤ 400000000000) (hsm' : n' ≤ 400000000000) (hl : ∀ i, i < L.length → (rg L i).xs.length ≤ 1000000) (hl' : ∀ i, i < K.length → (rg K i).xs.length ≤ 1000000) (hR : RdR w A L) (hR' : RdR w A' K) :
    Calls Tryz.prog 133 #[.slice A n c, .slice A' n' c'] w (ResRows (nf (dat L ++ dat K)) w) := by
  have HJ := Lib.hid (joinRows_any A A' n n' c c' L K w hn hn' hsm hsm' hR.out hR'.out)
  have HR := Lib.hid hR
  have HR' := Lib.hid hR'
  have HLN : Hid (n + n' = (L ++ K).length) := Lib.hid (by rw [hn, hn', List.length_append])
  have HL : Hid (∀ i, i < (L ++ K).length → (rg (L ++ K) i).xs.length ≤ 1000000) := Lib.hid (fun i hi => by
    by_cases h1 : i < L.length
    · rw [rg_appL L K h1]; exact hl i h1
    · rw [rg_appR L K (by omega)]; exact hl' _ (by simp at hi; omega))
  clear hn hn' hl hl' hR hR'
  go_enter Tryz.func133, Tryz.ntmps133
  go_wp2_with fail
  refine HJ.out.mono ?_
  rintro e w1 ⟨v, rfl, ho, hb⟩
  obtain ⟨A1, c1, rfl, _⟩ := owns_shape ho
  have HO := Lib.hid (oddOnes_any A1 (n + n') c1 (L ++ K) w1 HLN.out (by omega) HL.out ((HR.out.below hb).app (HR'.out.below hb) (owns_Rd ho)))
  have HB := Lib.hid hb
  clear ho hb
  go_wp2_with fail
  refine HO.out.mono ?_
  rintro e w2 ⟨v2, M, rfl, hd, ho, hb⟩
  have HD := Lib.hid hd
  have HO2 := Lib.hid (ho.mono HB.out.size)
  have HB2 := Lib.hid (HB.out.trans (hb.mono HB.out.size))
  clear hd ho hb
  go_wp2_with fail
  go_ret
  exact ⟨v2, M, rfl, by rw [HD.out, dat_app], HO2.out, HB2.out⟩
/-- an own row of rows behind another one -/
theorem OwnR.appO {wr w1 w2 : World} {B n : Nat} {v vO v' : Value} {M O : List Row} (h : OwnR wr B v M) (hB : B ≤ wr.heap.size) (hb : Below wr.heap.size wr w1) (hO : OwnR w1 wr.heap.size vO O) (hn : n = M.length + O.length)
    (hown : w2.ownsRow B 22 1 v' n (hv M ++ hv O)) (hg : w1.grownBy w2 v.ownBlock) : OwnR w2 B v' (M ++ O) := by
  have hk : Keeps w1 w2 [v.ownBlock] := Keeps.of_grown hg
  have h1 := h.later hb
  refine ⟨by rw [List.length_append, hv_app, ← hn]; exact hown, fun i hi => ?_, fun i j hi hj hne => ?_⟩
  · by_cases hi1 : i < M.length
    · rw [rg_appL M O hi1]; exact owns_keeps (h1.inn i hi1) hk (by have := h1.io hi1; simpa using this)
    · rw [rg_appR M O (by omega)]
      have hi2 : i - M.length < O.length := by simp at hi; omega
      exact owns_keeps ((hO.inn _ hi2).mono hB) hk (by have := own_ne2 (hO.inn _ hi2) h1.out (by decide); simpa using this)
  · have key : ∀ a b, a < M.length → b < O.length → ((rg M a).val.ownBlock = none ∨ (rg M a).val.ownBlock ≠ (rg O b).val.ownBlock) := by
      intro a b ha hb2
      by_cases hx : (rg M a).val.ownBlock = none
      · exact .inl hx
      · obtain ⟨k, hk2⟩ := Option.ne_none_iff_exists'.1 hx
        refine .inr fun e => ?_
        have l1 := ((h.inn a ha).lt k hk2).2
        have l2 := ((hO.inn b hb2).lt k (by rw [← e]; exact hk2)).1
        omega
    by_cases hi1 : i < M.length
    · by_cases hj1 : j < M.length
      · rw [rg_appL M O hi1, rg_appL M O hj1]; exact h.dis i j hi1 hj1 hne
      · rw [rg_appL M O hi1, rg_appR M O (by omega)]; exact key i _ hi1 (by simp at hj; omega)
    · by_cases hj1 : j < M.length
      · rw [rg_appR M O (by omega), rg_appL M O hj1]; exact none_or_symm (key j _ hj1 (by simp at hi; omega))
      · rw [rg_appR M O (by omega), rg_appR M O (by omega)]; exact hO.dis _ _ (by simp at hi; omega) (by simp at hj; omega) (by omega)
theorem trimL_len (t : List Int) : (trimL t).length ≤ t.length := by unfold trimL; rw [List.length_take]; omega
theorem fillE_len : ∀ (q : Nat) (r s : List Int) (C : LL) (t : List Int), t ∈ fillE q r s C → t.length ≤ r.length + s.length := by
  intro q
  induction q with
  | zero =>
    intro r s C t ht
    unfold fillE resT at ht
    split at ht
    · rw [List.mem_singleton] at ht; subst ht
      have := trimL_len (totT r s C)
      rwa [totT_length] at this
    · cases ht
  | succ q ih =>
    intro r s C t ht
    simp only [fillE, List.mem_flatMap] at ht
    obtain ⟨x, _, hx⟩ := ht
    have := ih _ _ _ t hx
    simpa using this
theorem flat_take_succ {L : LL} {f : List Int → LL} {k : Nat} (h : k < L.length) : (L.take (k + 1)).flatMap f = (L.take k).flatMap f ++ f (L.getD k []) := by
  rw [List.take_succ_eq_append_getElem h, List.flatMap_append]; simp [List.getD, h]
theorem flat_take_le {L : LL} {f : List Int → LL} (k : Nat) : ((L.take k).flatMap f).length ≤ (L.flatMap f).length := by
  conv => rhs; rw [← List.take_append_drop k L, List.flatMap_append, List.length_append]
  omega

set_option maxRecDepth 100000 in
set_option maxHeartbeats 4000000 in
theorem multiplied_any (A A' : Option Addr) (n n' c c' : Nat) (L K : List Row) (w : World) (hn : n = L.length) (hn' : n' = K.length) (hL : ∀ r ∈ dat L, BdL r) (hK : ∀ s ∈ dat K, BdL s) (hlen : ((dat L).flatMap fun r => (dat K).flatMap fun s => prodE r s).length ≤ 500000000000) (hnb : n ≤ 400000000000) (hnb' : n' ≤ 400000000000) (hR : RdR w A L) (hR' : RdR w A' K) :
    Calls Tryz.prog 178 #[.slice A n c, .slice A' n' c'] w (ResRows (mulE (dat L) (dat K)) w) := by
  have HR := Lib.hid hR
  have HR' := Lib.hid hR'
  have Hn := Lib.hid hn
  have Hn' := Lib.hid hn'
  have HLB := Lib.hid hL
  have HKB := Lib.hid hK
  have HLEN := Lib.hid hlen
  clear hR hR' hn hn' hL hK hlen
  go_enter Tryz.func178, Tryz.ntmps178
  go_wp2_with fail
  go_loopw [5, 13] (fun v5 v13 wr => ∃ i : Nat, ∃ A5 c5, ∃ M : List Row, i ≤ n ∧ v13 = .int .i64 i ∧ v5 = .slice A5 M.length c5 ∧ OwnR wr w.heap.size (.slice A5 M.length c5) M ∧ Hid (dat M = ((dat L).take i).flatMap fun r => (dat K).flatMap fun s => prodE r s) ∧ Below w.heap.size w wr) (fun _ v13 _ => n - (intOf v13).toNat)
  case atStart => exact ⟨0, some ⟨w.heap.size, 0, none⟩, 0, [], by omega, rfl, rfl, OwnR.made w (Nat.le_refl _), Lib.hid rfl, (Below.refl _ _).alloc (Nat.le_refl _) _⟩
  case round =>
    obtain ⟨i, A5, c5, M, hi, rfl, rfl, hown, HM, hbel⟩ := hrel
    obtain ⟨wv, hwv⟩ : ∃ wv, wv = wr := ⟨_, rfl⟩
    subst hwv
    have HO := Lib.hid hown
    have HB := Lib.hid hbel
    have hsv := hbel.size
    by_cases hlt : i < n
    · have hiL : i < L.length := by rw [← Hn.out]; exact hlt
      obtain ⟨b, o, rfl, hc⟩ := (HR.out.below hbel).at_ hiL
      have hri := HR.out.inn i hiL
      have hbd := HLB.out _ (show (rg L i).xs ∈ dat L from List.mem_map.2 ⟨_, rg_mem hiL, rfl⟩)
      have HFS : Hid (((dat L).take (i + 1)).flatMap (fun r => (dat K).flatMap fun s => prodE r s) = ((dat L).take i).flatMap (fun r => (dat K).flatMap fun s => prodE r s) ++ (dat K).flatMap fun s => prodE (rg L i).xs s) := Lib.hid (by
        rw [flat_take_succ (by rw [dat_length]; exact hiL), dat_getD])
      have HFL : Hid ((((dat L).take i).flatMap (fun r => (dat K).flatMap fun s => prodE r s)).length + ((dat K).flatMap fun s => prodE (rg L i).xs s).length ≤ 500000000000) := Lib.hid (by
        have h1 := flat_take_le (L := dat L) (f := fun r => (dat K).flatMap fun s => prodE r s) (i + 1)
        have h2 := congrArg List.length HFS.out
        rw [List.length_append] at h2
        have := HLEN.out
        omega)
      generalize rg L i = ri at *
      obtain ⟨riA, ric, rix⟩ := ri
      simp only at hc hri hbd HFS HFL
      have HRI := Lib.hid hri
      have HBD := Lib.hid hbd
      have hii : (i : Int) < (n : Int) := by omega
      clear hown hbel hri hbd hiL
      go_wp2_with fail
      go_loopw [5, 19] (fun v5 v19 wr => ∃ k : Nat, ∃ A5 c5, ∃ N : List Row, k ≤ n' ∧ v19 = .int .i64 k ∧ v5 = .slice A5 N.length c5 ∧ OwnR wr w.heap.size (.slice A5 N.length c5) N ∧ Hid (dat N = dat M ++ ((dat K).take k).flatMap fun s => prodE rix s) ∧ Below w.heap.size w wr) (fun _ v19 _ => n' - (intOf v19).toNat)
      case atStart => exact ⟨0, A5, c5, M, by omega, rfl, rfl, HO.out, Lib.hid (by simp), HB.out⟩
      case round =>
        obtain ⟨k, A6, c6, N, hk, rfl, rfl, hown, HN, hbel⟩ := hrel
        have HO6 := Lib.hid hown
        have HB6 := Lib.hid hbel
        have hs6 := hbel.size
        by_cases hkl : k < n'
        · have hkK : k < K.length := by rw [← Hn'.out]; exact hkl
          obtain ⟨b2, o2, rfl, hc2⟩ := (HR'.out.below hbel).at_ hkK
          have hrk := (HR'.out.inn k hkK).below hbel
          have hbk := HKB.out _ (show (rg K k).xs ∈ dat K from List.mem_map.2 ⟨_, rg_mem hkK, rfl⟩)
          have HKS : Hid (((dat K).take (k + 1)).flatMap (fun s => prodE rix s) = ((dat K).take k).flatMap (fun s => prodE rix s) ++ prodE rix (rg K k).xs) := Lib.hid (by
            rw [flat_take_succ (by rw [dat_length]; exact hkK), dat_getD])
          have hNl : N.length + (prodE rix (rg K k).xs).length ≤ 500000000000 := by
            have h1 := flat_take_le (L := dat K) (f := fun s => prodE rix s) (k + 1)
            have h2 := congrArg List.length HKS.out
            rw [List.length_append] at h2
            have h3 := HFL.out
            have h4 := congrArg List.length HN.out
            rw [dat_length, List.length_append] at h4
            have h5 := congrArg List.length HM.out
            rw [dat_length] at h5
            rw [dat_length] at h4
            omega
          generalize rg K k = rk at *
          obtain ⟨rkA, rkc, rkx⟩ := rk
          simp only at hc2 hrk hbk HKS hNl
          have HBP := Lib.hid (basisProduct_any riA rkA rix.length rkx.length ric rkc rix rkx wr rfl rfl HBD.out hbk (by omega) (HRI.out.below hbel) hrk)
          have hkki : (k : Int) < (n' : Int) := by omega
          clear hown hbel hrk hbk hkK
          go_wp2_with fail
          refine HBP.out.mono ?_
          rintro e w7 ⟨v7, O7, rfl, hd7, ho7, hb7⟩
          obtain ⟨A7, c7, rfl, _⟩ := owns_shape ho7.out
          have hO7 : O7.length = (prodE rix rkx).length := by rw [← hd7, dat_length]
          have HO7 := Lib.hid ho7
          have HB7 := Lib.hid hb7
          have HD7 := Lib.hid hd7
          have hNO : N.length + O7.length < 1099511627776 := by omega
          clear ho7 hb7 hd7 hO7 hNl
          go_wp2_with (at_builtin; refine wpList_appR _ _ _ _ _ etS (by rfl) (by rfl) w.heap.size (.slice A6 N.length c6) N.length (hv N) (by rfl) (HO6.out.later HB7.out).out A7 O7.length c7 (hv O7) (by rfl) (hv_length O7).symm (owns_Rd HO7.out.out) (hv_one O7) ?_ ?_ ?_; exact hNO; exact Nat.le_trans hs6 HB7.out.size; (intro v8 w8 hown8 hg8 hat8; have HO8 := Lib.hid (OwnR.appO HO6.out hs6 HB7.out HO7.out rfl hown8 hg8); have HB8 := Lib.hid ((HB6.out.trans (HB7.out.mono hs6)).grown hg8 (Nat.le_trans hs6 HB7.out.size) (fun q hq => (HO6.out.out.lt q hq).1)); clear hown8 hg8 hat8))
          obtain ⟨A8, c8, rfl, _⟩ := owns_shape HO8.out.out
          go_roundw
          case rel => exact ⟨k + 1, A8, c8, N ++ O7, by omega, by go_num, rfl, HO8.out, Lib.hid (by rw [dat_app, HN.out, HD7.out, HKS.out, List.append_assoc]), HB8.out⟩
          case measure => simp [intOf]; omega
        · obtain rfl : k = n' := by omega
          have hT : (dat K).take k = dat K := List.take_of_length_le (by rw [dat_length, ← Hn'.out]; exact Nat.le_refl _)
          rw [hT] at HN
          have hkki : ¬ (k : Int) < (k : Int) := by omega
          clear hown hbel hT
          go_wp2_with fail
          go_roundw
          case rel => exact ⟨i + 1, A6, c6, N, by omega, by go_num, rfl, HO6.out, Lib.hid (by rw [HN.out, HM.out, HFS.out]), HB6.out⟩
          case measure => simp [intOf]; omega
    · obtain rfl : i = n := by omega
      have hT : (dat L).take i = dat L := List.take_of_length_le (by rw [dat_length, ← Hn.out]; exact Nat.le_refl _)
      rw [hT] at HM
      have hMl : M.length ≤ 500000000000 := by
        have := HLEN.out
        rw [← HM.out, dat_length] at this; exact this
      have hrow : ∀ q, q < M.length → (rg M q).xs.length ≤ 1000000 := fun q hq => by
        have hm : (rg M q).xs ∈ dat M := List.mem_map.2 ⟨_, rg_mem hq, rfl⟩
        rw [HM.out] at hm
        obtain ⟨r, hr, hm⟩ := List.mem_flatMap.1 hm
        obtain ⟨s, hs, hm⟩ := List.mem_flatMap.1 hm
        have := fillE_len _ _ _ _ _ hm
        have h1 := (HLB.out r hr).1
        have h2 := (HKB.out s hs).1
        omega
      have HOD := Lib.hid (oddOnes_any A5 M.length c5 M wv rfl (by omega) hrow (hown.rd rfl))
      have hii : ¬ (i : Int) < (i : Int) := by omega
      clear hown hbel hT hrow
      go_wp2_with fail
      refine HOD.out.mono ?_
      rintro e w2 ⟨v2, M2, rfl, hd, ho, hb⟩
      have HD := Lib.hid hd
      have HO2 := Lib.hid (ho.mono hsv)
      have HB2 := Lib.hid (HB.out.trans (hb.mono hsv))
      clear hd ho hb
      go_wp2_with fail
      go_ret
      exact ⟨v2, M2, rfl, by rw [HD.out, HM.out]; rfl, HO2.out, HB2.out⟩
end Go.Proofs.YtdkmdmpaflgfaaaGreatDoor
