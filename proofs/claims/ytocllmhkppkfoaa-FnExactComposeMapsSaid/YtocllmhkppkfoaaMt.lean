/- the reference's vectors: l11Plus, l01Same -/
import Derived.Test.YtocllmhkppkfoaaMs
namespace Go.Proofs.Ytocllmhkppkfoaa
open Go.RowKit

theorem below_app2d {H : Nat} {w wr w1 : World} {v : Value} {n : Nat} {xs : List Value} {e : TypeId} (hb : Below H w wr) (hH : H ≤ wr.heap.size) (hown : wr.ownsRow H e 1 v n xs) {o : Obj} (hg : (wr.alloc o).drew.grownBy w1 v.ownBlock) : Below H w w1 :=
  ((hb.alloc hH o).drew).grown hg (by simp; omega) (fun k hk => (hown.lt k hk).1)
set_option maxHeartbeats 2000000 in
theorem l11Plus_any (A B : Option Addr) (n ca cb a b : Nat) (w : World) (hn : n ≤ 1000) (hA : Rd w A (iv (bitsL a n))) (hB : Rd w B (iv (bitsL b n))) :
    Calls Try.prog 109 #[.slice A n ca, .slice B n cb] w fun e w' => ∃ g cap, e = .returned (.slice (some ⟨g, 0, none⟩) n cap) ∧ w'.ownsRow w.heap.size 2 1 (.slice (some ⟨g, 0, none⟩) n cap) n (iv (bitsL (xr a b) n)) ∧ Below w.heap.size w w' := by
  have HA := Lib.hid hA
  have HB := Lib.hid hB
  clear hA hB
  go_enter Try.func109, Try.ntmps109
  go_wp2_with fail
  go_loopw [5, 6] (fun v i wr => ∃ k g cap : Nat, k ≤ n ∧ i = .int .i64 k ∧ v = .slice (some ⟨g, 0, none⟩) k cap ∧ wr.ownsRow w.heap.size 2 1 (.slice (some ⟨g, 0, none⟩) k cap) k (iv ((bitsL (xr a b) n).take k)) ∧ Below w.heap.size w wr) (fun _ i _ => n - (intOf i).toNat)
  case atStart => exact ⟨0, w.heap.size, 0, by omega, rfl, rfl, World.ownsRow_made w #[] 0 (Nat.le_refl _) (by decide) (by simp), (Below.refl _ _).alloc (Nat.le_refl _) _⟩
  case round =>
    obtain ⟨k, g, cap, hk, rfl, rfl, hown, hbel⟩ := hrel
    have HO := Lib.hid hown
    have HBL := Lib.hid hbel
    have hsz := hbel.size
    by_cases hlt : k < n
    · obtain ⟨b1, o1, rfl, hc1⟩ := (HA.out.below hbel).atI (k := k) (by rw [bitsL_length]; exact hlt)
      obtain ⟨b2, o2, rfl, hc2⟩ := (HB.out.below hbel).atI (k := k) (by rw [bitsL_length]; exact hlt)
      rw [bitsL_getD _ hlt] at hc1 hc2
      have HTS : Hid ((bitsL (xr a b) n).take (k + 1) = (bitsL (xr a b) n).take k ++ [(bit a k + bit b k) % 2]) := Lib.hid (by rw [bitsL_take _ hlt, bit_xr])
      obtain ⟨p1, p2⟩ := bit_bd a k
      obtain ⟨q1, q2⟩ := bit_bd b k
      have HKP : Hid (∀ w', Below w.heap.size w w' → w'.cell? ⟨b1, o1 + k, none⟩ = some (.int .i64 (bit a k)) ∧ w'.cell? ⟨b2, o2 + k, none⟩ = some (.int .i64 (bit b k))) := Lib.hid (fun w' hb => by
        have h1 := (HA.out.below hb).cellI (k := k) (by rw [bitsL_length]; exact hlt)
        have h2 := (HB.out.below hb).cellI (k := k) (by rw [bitsL_length]; exact hlt)
        rw [bitsL_getD _ hlt] at h1 h2
        exact ⟨h1, h2⟩)
      generalize bit a k = x at *
      generalize bit b k = y at *
      have hw1 : IntKind.i64.wrap (x + y) = x + y := by rw [IntKind.wrap_i64]; omega
      have hw2 : (x + y).tmod 2 = (x + y) % 2 := Int.tmod_eq_emod_of_nonneg (by omega)
      clear hown hbel
      go_wp2_with fail
      go_region_held3 (fun w' => w'.cell? ⟨b1, o1 + k, none⟩ = some (.int .i64 x) ∧ w'.cell? ⟨b2, o2 + k, none⟩ = some (.int .i64 y))
        (first | exact HKP.out _ (HBL.out.alloc hsz _) | exact HKP.out _ (HBL.out.alloc hsz _).drew | exact HKP.out _ HBL.out.drew | exact HKP.out _ HBL.out | exact HKP.out _ HB1.out)
        ((refine step_app1 _ _ _ _ _ etI (by rfl) (by rfl) w.heap.size (.slice (some ⟨g, 0, none⟩) k cap) k (iv ((bitsL (xr a b) n).take k)) (by rfl) ?_ _ (.int .i64 ((x + y) % 2)) (by rfl) ?_ (by rfl) ?_ ?_ ?_; exact (HO.out.alloc _).drew; exact drew_cell (new_cell _ _ _); omega; (simp; omega); (intro g1 cap1 w1 hown1 hgrow1 hat1 hlt1; have HO1 := Lib.hid hown1; have HB1 := Lib.hid (below_app2d HBL.out hsz HO.out hgrow1); clear hown1 hgrow1 hat1 hlt1)))
      go_wp2_with fail
      go_roundw
      case rel => exact ⟨k + 1, g1, cap1, by omega, by go_num, rfl, by rw [HTS.out, iv_append]; exact HO1.out, HB1.out⟩
      case measure => simp [intOf]; omega
    · obtain rfl : k = n := by omega
      have he : (bitsL (xr a b) k).take k = bitsL (xr a b) k := List.take_of_length_le (by rw [bitsL_length]; exact Nat.le_refl _)
      rw [he] at HO
      clear hown hbel he
      go_wp2_with fail
      go_ret
      exact ⟨g, cap, rfl, HO.out, HBL.out⟩

set_option maxHeartbeats 1000000 in
theorem l01Same_any (A B : Option Addr) (n n' c c' : Nat) (x y : List Int) (w : World) (hn : n = x.length) (hn' : n' = y.length) (hsm : n ≤ 1099511627776) (hsm' : n' ≤ 1099511627776) (hA : Rd w A (iv x)) (hB : Rd w B (iv y)) :
    Calls Try.prog 95 #[.slice A n c, .slice B n' c'] w fun e w' => e = .returned (.bool (x == y)) ∧ ∃ m, w.drewN m = w' := by
  by_cases hnn : n = n'
  · subst hnn
    have HA := Lib.hid hA
    have HB := Lib.hid hB
    have Hn := Lib.hid hn
    have Hn' := Lib.hid hn'
    clear hA hB hn hn' hsm'
    go_enter Try.func95, Try.ntmps95
    go_wp2_with fail
    go_loopw [5] (fun i wr => ∃ k j : Nat, k ≤ n ∧ i = .int .i64 k ∧ wr = w.drewN j ∧ Hid (∀ t, t < k → x.getD t 0 = y.getD t 0)) (fun i _ => n - (intOf i).toNat)
    case atStart => exact ⟨0, 0, by omega, rfl, rfl, Lib.hid (fun t ht => by omega)⟩
    case round =>
      obtain ⟨k, j, hk, rfl, rfl, HQ⟩ := hrel
      by_cases hlt : k < n
      · obtain ⟨b1, o1, rfl, hc1⟩ := HA.out.atI (k := k) (by rw [← Hn.out]; exact hlt)
        obtain ⟨b2, o2, rfl, hc2⟩ := HB.out.atI (k := k) (by rw [← Hn'.out]; exact hlt)
        generalize hp : x.getD k 0 = p at *
        generalize hq : y.getD k 0 = q at *
        have HP := Lib.hid hp
        have HQ' := Lib.hid hq
        clear hp hq
        by_cases e : p = q
        · subst e
          go_wp2_with fail
          go_quiet (fail)
          go_wp2_with fail
          go_roundw
          case rel =>
            refine ⟨k + 1, _, by omega, by go_num, rfl, Lib.hid (fun t ht => ?_)⟩
            by_cases e : t = k
            · subst e; rw [HP.out, HQ'.out]
            · exact HQ.out t (by omega)
          case measure => simp [intOf]; omega
        · have heb : (p != q) = true := by simpa using e
          have HF : Hid ((x == y) = false) := Lib.hid (by
            rw [beq_eq_false_iff_ne]; intro h; subst h; exact e (HP.out.symm.trans HQ'.out))
          clear e
          go_wp2_with fail
          go_quiet (fail)
          go_wp2_with fail
          go_ret
          exact ⟨by rw [HF.out]; rfl, _, by rw [World.drewN_drewN]⟩
      · have HT : Hid ((x == y) = true) := Lib.hid (by
          rw [beq_iff_eq]
          exact list_ext_getD Hn.out.symm Hn'.out.symm (fun i hi => HQ.out i (by omega)))
        go_wp2_with fail
        go_ret
        exact ⟨by rw [HT.out]; rfl, j, rfl⟩
  · have hnb : ((n : Int) != (n' : Int)) = true := by simp; omega
    have HF : Hid ((x == y) = false) := Lib.hid (by
      rw [beq_eq_false_iff_ne]; intro h; subst h; exact hnn (hn.trans hn'.symm))
    clear hA hB hn hn' hnn
    go_enter Try.func95, Try.ntmps95
    go_wp2_with fail
    go_ret
    exact ⟨by rw [HF.out]; rfl, 0, rfl⟩
end Go.Proofs.Ytocllmhkppkfoaa
