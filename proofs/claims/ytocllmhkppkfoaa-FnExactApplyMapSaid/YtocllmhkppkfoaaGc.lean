/- the reference's l12Act, l12Is -/
import Derived.Test.YtocllmhkppkfoaaGb
import Derived.Test.YtocllmhkppkfoaaMw
namespace Go.Proofs.Ytocllmhkppkfoaa
open Go.RowKit

theorem i64_andnot_nat {a b : Nat} (ha : Sm a) (hb : Sm b) : bits .andNot .i64 (a : Int) (b : Int) = ((nt a b : Nat) : Int) := by
  have hx : Sm (nt a b) := ha.xr ha.an
  have e : ∀ x y : BitVec 64, x &&& ~~~y = x ^^^ (x &&& y) := by
    intro x y; ext i; simp; cases x[i] <;> cases y[i] <;> rfl
  unfold Sm at *
  show IntKind.i64.wrap ((BitVec.ofInt 64 (a : Int) &&& ~~~BitVec.ofInt 64 (b : Int)).toNat : Int) = _
  rw [e, BitVec.toNat_xor, BitVec.toNat_and, ofInt64_nat a (by omega), ofInt64_nat b (by omega), IntKind.wrap_i64]
  unfold nt at *
  omega

/-- a module to be read -/
structure ModR (w : World) (A : Option Addr) (n : Nat) (A' : Option Addr) (m : Nat) (xs : List Int) (L : List Row) : Prop where
  hn : n = xs.length
  deg : Rd w A (iv xs)
  hm : m = L.length
  hm1 : m ≤ 1048576
  act : RdR w A' L
theorem ModR.below {w w' : World} {A A' : Option Addr} {n m : Nat} {xs : List Int} {L : List Row} (h : ModR w A n A' m xs L) (hb : Below w.heap.size w w') : ModR w' A n A' m xs L :=
  ⟨h.hn, h.deg.below hb, h.hm, h.hm1, h.act.below hb⟩

set_option maxRecDepth 100000 in
set_option maxHeartbeats 2000000 in
theorem l12Act_any (A A' : Option Addr) (n c m c' : Nat) (xs : List Int) (L : List Row) (z y : Int) (v : Nat) (w : World) (hM : ModR w A n A' m xs L) (hs : Shp xs (dat L)) (hy : y = (v : Int)) (hv : v < 2 ^ xs.length) :
    Calls Try.prog 80 #[.agg #[.slice A n c, .slice A' m c'], .int .i64 z, .int .i64 y] w fun e w' => e = .returned (.int .i64 (act (dat L) z v : Nat)) ∧ Below w.heap.size w w' := by
  subst hy
  have hn16 : n ≤ 16 := by rw [hM.hn]; exact hs.len
  have hb0 : Below w.heap.size w (w.alloc (.cells #[.slice A n c, .slice A' m c'] 45)) := (Below.refl _ _).alloc (Nat.le_refl _) _
  have hk0 := blk_new w (.cells #[.slice A n c, .slice A' m c'] 45)
  have HSM : Hid (Sm v) := Lib.hid (sm_pow (n := 16) (by omega) (Nat.lt_of_lt_of_le hv (Nat.pow_le_pow_right (by omega) hs.len)))
  have HLT : Hid (act (dat L) z v < 2 ^ n) := Lib.hid (by rw [hM.hn]; exact act_lt hs hv z)
  have HA := Lib.hid (fun (V : Option Addr) (cv : Nat) W (hb : Below w.heap.size w W) hV => l11Act_any A A' V n c m c' cv xs L z v W hM.hn hM.hm hs hM.hm1 (hM.act.below hb) hV)
  have HB0 := Lib.hid hb0
  have KS := Lib.hid (fun w' (hb : Below (w.alloc (.cells #[.slice A n c, .slice A' m c'] 45)).heap.size (w.alloc (.cells #[.slice A n c, .slice A' m c'] 45)) w') => show w'.cell? ⟨w.heap.size, 0, none⟩ = some (.slice A n c) ∧ w'.cell? ⟨w.heap.size, 1, none⟩ = some (.slice A' m c') from by
    obtain ⟨x0, x1, _⟩ := blk2cells (blk_kept hk0 hb)
    exact ⟨x0, x1⟩)
  have HB_0 := Lib.hid (Below.drew (Below.refl (w.alloc (.cells #[.slice A n c, .slice A' m c'] 45)).heap.size (w.alloc (.cells #[.slice A n c, .slice A' m c'] 45))))
  clear hM hs hv hb0 hk0
  go_enter Try.func80, Try.ntmps80
  go_wp2_with fail
  go_region_held3 (fun w' => w'.cell? ⟨w.heap.size, 0, none⟩ = some (.slice A n c) ∧ w'.cell? ⟨w.heap.size, 1, none⟩ = some (.slice A' m c'))
    (first | exact KS.out _ HB_0.out | exact KS.out _ HB_1.out | exact KS.out _ HB_2.out)
    (first
      | (go_at_call 55; (with_reducible refine (l12Vector_any n v _ (by omega) HSM.out).mono ?_); (rintro e w1 ⟨g1, c1, rfl, ho, hb⟩; have HO1 := Lib.hid ho; have HB_1 := Lib.hid (HB_0.out.trans (hb.mono HB_0.out.size)); clear ho hb))
      | (go_at_call 105; (with_reducible refine (HA.out _ _ _ (HB0.out.trans (HB_1.out.mono HB0.out.size)) (owns_Rd HO1.out)).mono ?_); (rintro e w2 ⟨g2, c2, rfl, ho, hb⟩; have HO2 := Lib.hid ho; have HB_2 := Lib.hid (HB_1.out.trans (hb.mono HB_1.out.size)); clear ho hb))
      | (go_at_call 58; (with_reducible refine (l12Mask_any _ n _ _ _ (by omega) HLT.out (owns_Rd HO2.out)).mono ?_); (rintro e w3 ⟨rfl, rfl⟩)))
  go_wp2_with fail
  go_ret
  exact ⟨rfl, HB0.out.trans (HB_2.out.mono HB0.out.size)⟩
end Go.Proofs.Ytocllmhkppkfoaa
