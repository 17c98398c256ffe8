/- more words for the walks of laws: matrices as results -/
import Derived.Test.YtchmplpgamekjaaDoorV
import Derived.Test.YtchmplpgamekjaaDoorO
import Derived.Test.YtchmplpgamekjaaDoorIb
namespace Go.Proofs.YtchmplpgamekjaaDoor
open Go.RowKit

def nI (S : List Nat) : List Int := S.map fun (x : Nat) => (x : Int)
theorem nv_nI (S : List Nat) : nv S = iv (nI S) := by simp [nv, iv, nI, List.map_map, Function.comp_def]
theorem nI_length (S : List Nat) : (nI S).length = S.length := by simp [nI]
theorem eqMatrix_same (c : Int) (A A' : Option Addr) (cap cap' : Nat) (S : List Nat) (w : World) (hsm : S.length ≤ 1099511627776) (hR : Rd w A (nv S)) (hR' : Rd w A' (nv S)) :
    Calls Tryd.prog 19 #[.agg #[.int .i64 c, .slice A S.length cap], .agg #[.int .i64 c, .slice A' S.length cap']] w fun e w' => e = .returned (.bool true) ∧ Below w.heap.size w w' := by
  have h := eqMatrix_any c c A A' S.length S.length cap cap' (nI S) (nI S) w (nI_length S).symm (nI_length S).symm hsm hsm (by rw [← nv_nI]; exact hR) (by rw [← nv_nI]; exact hR')
  rwa [eqMat_self] at h

/-- what the program's or the reference's function hands back: a new matrix in a new box -/
def MatOut (w w' : World) (o code : Value) (r : Int × List Nat × Int) : Prop :=
  ∃ (g : Nat) (v : Value), o = .pointer (some ⟨g, 0, none⟩) ∧ code = .int .i64 r.2.2 ∧ w'.heap[g]? = some (.cells #[.int .i64 r.1, v] 28 (0, 0)) ∧ w'.ownsRow w.heap.size 2 1 v r.2.1.length (nv r.2.1) ∧ Below w.heap.size w w'
theorem MatOut.alloc {w w' : World} {v : Value} {r : Int × List Nat × Int} (ho : w'.ownsRow w.heap.size 2 1 v r.2.1.length (nv r.2.1)) (hb : Below w.heap.size w w') :
    MatOut w (w'.alloc (.cells #[.int .i64 r.1, v] 28)) (.pointer (some ⟨w'.heap.size, 0, none⟩)) (.int .i64 r.2.2) r :=
  ⟨_, v, rfl, rfl, blk_new w' _, ho.alloc _, hb.alloc hb.size _⟩
theorem MatOut.set {w w' : World} {g : Nat} {u u' v : Value} {r : Int × List Nat × Int} (hz : w'.heap[g]? = some (.cells #[u, u'] 28 (0, 0))) (hg : w.heap.size ≤ g) (ho : w'.ownsRow w.heap.size 2 1 v r.2.1.length (nv r.2.1)) (hb : Below w.heap.size w w') :
    MatOut w ((w'.setCell ⟨g, 0, none⟩ (.int .i64 r.1)).setCell ⟨g, 1, none⟩ v) (.pointer (some ⟨g, 0, none⟩)) (.int .i64 r.2.2) r := by
  refine ⟨_, v, rfl, rfl, ?_, ?_, ?_⟩
  · exact blk2set1 (blk2set0 hz _) _
  · have h0 := own_ne ho hz (by decide)
    exact owns_keeps ho (((Keeps.refl w' [some g]).setCell (p := ⟨g, 0, none⟩) (by simp) _).setCell (p := ⟨g, 1, none⟩) (by simp) _) (.inr (by simp only [List.mem_singleton]; exact h0))
  · exact (hb.setCell (p := ⟨g, 0, none⟩) hg _).setCell (p := ⟨g, 1, none⟩) hg _
/-- .. taken up into what a law holds -/
theorem Inv.out {w0 w w' : World} {L : List Chunk} {g : Nat} {v : Value} {r : Int × List Nat × Int} (h : Inv w0 w L) (hg : w'.heap[g]? = some (.cells #[.int .i64 r.1, v] 28 (0, 0))) (ho : w'.ownsRow w.heap.size 2 1 v r.2.1.length (nv r.2.1)) (hb : Below w.heap.size w w')
    (h1 : noBox 2 L = true) (h2 : noType 28 L = true) :
    Inv w0 w' (.box g #[.int .i64 r.1, v] 28 :: .own w.heap.size w'.heap.size 2 v r.2.1.length (nv r.2.1) :: L) :=
  (h.pushOwn hb ho h1).pushBox hg (by simp only [noType, List.all_cons, Bool.and_eq_true] at h2 ⊢; exact ⟨by decide, h2⟩)
theorem two_keep {w : World} {g g' : Nat} {x x' : Obj} (h : w.heap[g]? = some x) (h' : w.heap[g']? = some x') : ∀ w', Below w.heap.size w w' → w'.heap[g]? = some x ∧ w'.heap[g']? = some x' :=
  fun _ hb => ⟨blk_keep h hb, blk_keep h' hb⟩
theorem markMat_any (B : Nat) (c : Int) (v : Value) (n : Nat) (xs : List Int) (k : Int) (w : World) (hown : w.ownsRow B 2 1 v n (iv xs)) (hsm : n ≤ 1099511627776) (h0 : 0 ≤ k) (h1 : k ≤ 1099511627776) :
    Calls Tryd.prog 24 #[.agg #[.int .i64 c, v], .int .i64 k] w fun e w' => e = .returned (.int .i64 (k + n)) ∧ w'.ownsRow B 2 1 v n (iv (marks k n)) ∧ Keeps w w' [v.ownBlock] := by
  obtain ⟨A, cap, rfl, _, _, _⟩ := owns_shape hown
  have hm := markInts_any B _ n xs k (w.alloc (.cells #[.int .i64 c, .slice A n cap] 28)) (hown.alloc _) hsm h0 h1
  have HM := Lib.hid hm
  clear hm hown
  go_enter Tryd.func24, Tryd.ntmps24
  go_wp2_with fail
  refine HM.out.mono ?_
  rintro e w1 ⟨rfl, ho, hk⟩
  have HO := Lib.hid ho
  have HK := Lib.hid hk
  clear ho hk
  go_wp2_with fail
  go_ret
  exact ⟨rfl, HO.out, ((Keeps.refl w []).alloc _).trans HK.out (by simp)⟩
end Go.Proofs.YtchmplpgamekjaaDoor
