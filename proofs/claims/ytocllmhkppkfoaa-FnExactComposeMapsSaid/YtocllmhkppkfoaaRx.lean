/- the laws' own helpers at rows of rows -/
import Derived.Test.YtocllmhkppkfoaaRw
namespace Go.Proofs.Ytocllmhkppkfoaa
open Go.RowKit

/-- what the size of rows of rows leaves -/
def SzOk (n t : Nat) (left z : Int) : Prop := z = -1 ∨ (0 ≤ z ∧ z + n + t = left)
set_option maxHeartbeats 1000000 in
theorem szRows_any (A : Option Addr) (n c : Nat) (L : List Row) (left : Int) (w : World) (hn : n = L.length) (hsm : n ≤ 9223372036854775807) (hl : ∀ i, i < L.length → (rg L i).xs.length ≤ 9223372036854775807) (h0 : 0 ≤ left) (h1 : left ≤ 1048576) (hR : RdR w A L) :
    Calls Try.prog 9 #[.slice A n c, .int .i64 left] w fun e w' => ∃ z : Int, e = .returned (.int .i64 z) ∧ SzOk n (tot L) left z ∧ w = w' := by
  by_cases h : left - n < 0
  · go_enter Try.func9, Try.ntmps9
    go_wp2_with fail
    go_ret
    exact ⟨-1, rfl, .inl rfl, rfl⟩
  · have Hn := Lib.hid hn
    have HR := Lib.hid hR
    have HL := Lib.hid hl
    clear hn hR hl
    go_enter Try.func9, Try.ntmps9
    go_wp2_with fail
    go_loop [1, 5] (fun q i => ∃ k t : Nat, k ≤ n ∧ i = .int .i64 k ∧ Hid (t = tot (L.take k)) ∧ (t : Int) ≤ left - n ∧ q = .int .i64 (left - n - t)) (fun _ i => n - (intOf i).toNat)
    case atStart => exact ⟨0, 0, by omega, rfl, Lib.hid (by simp [tot]), by omega, by simp⟩
    case round =>
      obtain ⟨k, t, hk, rfl, HT, ht, rfl⟩ := hrel
      by_cases hlt : k < n
      · have hkL : k < L.length := by rw [← Hn.out]; exact hlt
        obtain ⟨b, o, rfl, hc⟩ := HR.out.at_ hkL
        have hs := HL.out k hkL
        have HS := Lib.hid (tot_succ hkL)
        have hz := fun W => szInts_any (rg L k).A (rg L k).xs.length (rg L k).c (left - n - t) W hs (by omega) (by omega)
        generalize rg L k = r at *
        by_cases h2 : left - n - t - r.xs.length < 0
        · rw [show szV r.xs.length (left - n - t) = -1 by unfold szV; rw [if_pos h2]] at hz
          have HZ := Lib.hid hz
          clear hz
          go_wp2_with (go_at_call 37; refine (HZ.out _).mono ?_; rintro e w' ⟨rfl, rfl⟩)
          go_ret
          exact ⟨-1, rfl, .inl rfl, rfl⟩
        · rw [show szV r.xs.length (left - n - t) = left - n - t - r.xs.length by unfold szV; rw [if_neg h2]] at hz
          have HZ := Lib.hid hz
          clear hz
          go_wp2_with (go_at_call 37; refine (HZ.out _).mono ?_; rintro e w' ⟨rfl, rfl⟩)
          go_round
          case rel => exact ⟨k + 1, t + r.xs.length, by omega, by go_num, Lib.hid (by rw [HS.out, HT.out]), by omega, by simp; omega⟩
          case measure => simp [intOf]; omega
      · have e : t = tot L := by rw [HT.out, tot_all (by rw [← Hn.out]; omega)]
        have HE := Lib.hid e
        clear e
        go_wp2_with fail
        go_ret
        exact ⟨left - n - t, rfl, .inr ⟨by omega, by rw [← HE.out]; omega⟩, rfl⟩

theorem hv_replicate (n : Nat) : (madeCells #[Value.slice none 0 0] n).toList = hv (List.replicate n r0) := by
  simp [hv, madeCells, Row.val, r0]
  apply List.ext_getElem?
  intro i
  by_cases h : i < n
  · simp [h, Nat.mod_one]
  · simp [h]
theorem rg_replicate (n i : Nat) : rg (List.replicate n r0) i = r0 := by
  simp only [rg, List.getD, List.getElem?_replicate]
  split <;> rfl

set_option maxRecDepth 100000 in
set_option maxHeartbeats 2000000 in
theorem toRows_any (A : Option Addr) (n c : Nat) (L : List Row) (w : World) (hn : n = L.length) (hsm : n ≤ 1048576) (hl : ∀ i, i < L.length → (rg L i).xs.length ≤ 1048576) (hR : RdR w A L) :
    Calls Try.prog 11 #[.slice A n c] w fun e w' => ∃ g M, e = .returned (.slice (some ⟨g, 0, none⟩) n n) ∧ dat M = dat L ∧ OwnR w' w.heap.size (.slice (some ⟨g, 0, none⟩) n n) M ∧ Below w.heap.size w w' := by
  obtain ⟨i0, hi0, hz0, hz1, hz2⟩ := info_parts infoS
  have Hn := Lib.hid hn
  have HR := Lib.hid hR
  have HL := Lib.hid hl
  clear hn hR hl
  go_enter Try.func11, Try.ntmps11
  go_wp2_with (at_make; refine wpList_make_full _ rfl _ _ 22 rfl w.heap.size 24 i0 _ 1 Try.underlying22 hi0 hz0 hz1 _ _ _ _ n rfl rfl rfl rfl ?b1 ?b2 ?b3 ?_)
  case b1 => rw [hz2]; omega
  case b2 => unfold maxLen; omega
  case b3 => exact Nat.le_refl _
  intro w1 hown hgrow
  have HG := Lib.hid (Below.grown (Below.refl w.heap.size w) hgrow (Nat.le_refl _) (by intro k h; cases h))
  have HO : Hid (OwnR w1 w.heap.size (.slice (some ⟨w.heap.size, 0, none⟩) n n) (List.replicate n r0)) := by
    show OwnR _ _ _ _
    rw [hv_replicate] at hown
    refine ⟨by rw [List.length_replicate]; exact hown, ?_, ?_⟩
    · intro i hi; rw [rg_replicate]; exact World.ownsRow_nil _ _ _ _
    · intro i j hi hj hne; rw [rg_replicate]; exact .inl rfl
  clear hown hgrow hi0 hz0 hz1 hz2
  go_wp2_with fail
  go_loopw [4] (fun i wr => ∃ k : Nat, k ≤ n ∧ i = .int .i64 k ∧ (∃ M : List Row, M.length = n ∧ (∀ i, i < k → (rg M i).xs = (rg L i).xs) ∧ OwnR wr w.heap.size (.slice (some ⟨w.heap.size, 0, none⟩) n n) M) ∧ Below w.heap.size w wr) (fun i _ => n - (intOf i).toNat)
  case atStart => exact ⟨0, by omega, rfl, ⟨_, by simp, (fun i hi => by omega), HO.out⟩, HG.out⟩
  case round =>
    obtain ⟨k, hk, rfl, ⟨M, hml, hmt, hown⟩, hbel⟩ := hrel
    have hsz : w.heap.size ≤ wr.heap.size := hbel.size
    by_cases hlt : k < n
    · have hkL : k < L.length := by rw [← Hn.out]; exact hlt
      obtain ⟨b, o, rfl, hc⟩ := (HR.out.below hbel).at_ hkL
      have hRi := (HR.out.below hbel).inn k hkL
      have hs := HL.out k hkL
      have HT := Lib.hid hmt
      have HO' := Lib.hid hown
      have HB := Lib.hid hbel
      have HM := Lib.hid hml
      have HX : Hid ((rg L k).xs = (rg L k).xs) := Lib.hid rfl
      have HC := Lib.hid (toInts_any (rg L k).A (rg L k).xs.length (rg L k).c (rg L k).xs wr rfl hs hRi)
      clear hmt hown hbel hml hRi
      generalize hr : rg L k = r at *
      have Hr := Lib.hid hr
      clear hr
      go_wp2_with fail
      refine HC.out.mono ?_
      rintro e w2 ⟨g, rfl, ho, hb⟩
      have hO2 := HO'.out.later hb
      obtain ⟨hcell, hfz⟩ := hO2.cell HM.out.symm (k := k) (by rw [HM.out]; exact hlt)
      have hsz2 := hb.size
      have hg := ho.lt g rfl
      have HP := Lib.hid (OwnR.put (r := ⟨some ⟨g, 0, none⟩, r.xs.length, r.xs⟩) hO2 HM.out.symm (by rw [HM.out]; exact hlt) (ho.mono hsz) (fun i hi hne => .inr (by
        intro e
        have h1 := ((HO'.out.inn i hi).lt g (by rw [← e]; rfl)).2
        omega)))
      have HB2 := Lib.hid (HB.out.trans (hb.mono hsz))
      generalize (rg M k).val = oldv at *
      clear ho hb hO2
      go_wp2_with fail
      go_roundw
      case rel =>
        refine ⟨k + 1, by omega, by go_num, ⟨_, by rw [List.length_set]; exact HM.out, ?_, HP.out⟩, HB2.out.setCell (p := ⟨w.heap.size, k, none⟩) (Nat.le_refl _) _⟩
        intro i hi
        rw [rg_set (by rw [HM.out]; exact hlt)]
        split
        · rename_i e; subst e; rw [Hr.out]
        · exact HT.out i (by omega)
      case measure => simp [intOf]; omega
    · have e : dat M = dat L := rows_ext (by rw [hml]; exact Hn.out) (fun i hi => hmt i (by rw [← Hn.out] at hi; omega))
      have HE := Lib.hid e
      have HO' := Lib.hid hown
      have HB := Lib.hid hbel
      clear hown hbel hmt hml e
      go_wp2_with fail
      go_ret
      exact ⟨w.heap.size, M, rfl, HE.out, HO'.out, HB.out⟩
end Go.Proofs.Ytocllmhkppkfoaa
