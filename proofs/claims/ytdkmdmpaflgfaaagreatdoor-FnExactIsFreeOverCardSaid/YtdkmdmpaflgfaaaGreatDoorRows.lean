/-
  NARROWER THAN 'FOR EVERY INPUT', by the rows' own cells (each row's printed sentence says how): FnExactMapBasis: laid · FnExactMargolisCounts: laid · FnExactHasNoMargolis: laid · FnExactFreeRankOver: laid · FnExactIsFreeOver: laid · FnExactCountExt: laid · FnExactExtTable: laid · FnExactResolveModule: laid.
  DERIVED. THE GIVEN ROWS OF THIS SEAT. 8 by the template 'for every input the law returns true; each argument reads behind the call as it read before'; 0 by the template 'total and deterministic' (their statements: YtdkmdmpaflgfaaaGreatDoorTotals.lean).
  GIVEN WITH THE SEED: the statements are not yours to turn. If you find one false, say at which input.
  Laid BY PROGRAM, IN A SANDBOX (cutbox-rows.mjs): the forced cells as the released guide's own fill.sh prints them over the translation e5863acb11ee6104… (all of the seat's roots in one cut). By AI agents, Wed Nov 11 2026. No macro, syntax, notation, axiom, sorry.
-/
import Derived.Test.YtdkmdmpaflgfaaaGreatDoorChecked
import GoSem.Claim
import GoSem.ClaimJoined
import GoSem.ClaimMapViews
import Derived.JoinedTies
import Derived.KernelRfl
namespace Go.Proofs.YtdkmdmpaflgfaaaGreatDoor
/- THE CELL 'sum', in the pinned program and in every row, IS THE sha256 OF THE DUMP (.gsa) THAT YtdkmdmpaflgfaaaGreatDoorProg.lean LOADS. Nothing in Lean hashes anything: it is a label: what it is worth is what the hold of that sum in a sandbox is worth. -/
noncomputable def Tryz.pinned : Pinned := { name := "ytdkmdmpaflgfaaagreatdoor", sum := "e5863acb11ee610436514c40c9fcefd3251ae69e773e13f3391d657546a49a99", checked := Tryz.checked }
namespace Rows
def none {H : Type} : Left H := { results := [], args := [] }

/- WHAT THE LISTED PACKAGE-LEVEL VARIABLES READ AS WHEN THE CALL BEGINS. Each datum BY PROGRAM (the guide's laid-datum.mjs) off the statement by which the dump's own 'gosem.cut.vars' lays the variable. In a bare row this is a premise. The card (YtdkmdmpaflgfaaaGreatDoorCards.lean) ties it to the program's text. -/
def laid_math_bits_deBruijn64tab {H : Type} : DataW H := .agg [.lit (.int .u8 0), .lit (.int .u8 1), .lit (.int .u8 56), .lit (.int .u8 2), .lit (.int .u8 57), .lit (.int .u8 49), .lit (.int .u8 28), .lit (.int .u8 3), .lit (.int .u8 61), .lit (.int .u8 58), .lit (.int .u8 42), .lit (.int .u8 50), .lit (.int .u8 38), .lit (.int .u8 29), .lit (.int .u8 17), .lit (.int .u8 4), .lit (.int .u8 62), .lit (.int .u8 47), .lit (.int .u8 59), .lit (.int .u8 36), .lit (.int .u8 45), .lit (.int .u8 43), .lit (.int .u8 51), .lit (.int .u8 22), .lit (.int .u8 53), .lit (.int .u8 39), .lit (.int .u8 33), .lit (.int .u8 30), .lit (.int .u8 24), .lit (.int .u8 18), .lit (.int .u8 12), .lit (.int .u8 5), .lit (.int .u8 63), .lit (.int .u8 55), .lit (.int .u8 48), .lit (.int .u8 27), .lit (.int .u8 60), .lit (.int .u8 41), .lit (.int .u8 37), .lit (.int .u8 16), .lit (.int .u8 46), .lit (.int .u8 35), .lit (.int .u8 44), .lit (.int .u8 21), .lit (.int .u8 52), .lit (.int .u8 32), .lit (.int .u8 23), .lit (.int .u8 11), .lit (.int .u8 54), .lit (.int .u8 26), .lit (.int .u8 40), .lit (.int .u8 15), .lit (.int .u8 34), .lit (.int .u8 20), .lit (.int .u8 31), .lit (.int .u8 10), .lit (.int .u8 25), .lit (.int .u8 14), .lit (.int .u8 19), .lit (.int .u8 9), .lit (.int .u8 13), .lit (.int .u8 8), .lit (.int .u8 7), .lit (.int .u8 6)]

/-- 'laws.FnExactMapBasis': WHATEVER THE INPUT: true; the input reads as it did. -/
def fnExactMapBasisSpec : ChangeSpec := { name := "fnExactMapBasis", fn := fun _ => fun
  | [d1, d2] => { results := [.lit (.bool true)], args := [d1, d2] }
  | _ => none }
def fnExactMapBasisRow : OpenClaim := { program := "ytdkmdmpaflgfaaagreatdoor", sum := "e5863acb11ee610436514c40c9fcefd3251ae69e773e13f3391d657546a49a99", func := "loop.example/g01154/laws.FnExactMapBasis", spec := "fnExactMapBasis", unfollowed := true, recurses := true, named := ["math/bits.deBruijn64tab"], apart := false, laid := [("math/bits.deBruijn64tab", laid_math_bits_deBruijn64tab)] }
def FnExactMapBasisSaid : Prop := fnExactMapBasisRow.holds Tryz.pinned (OpenSpec.ofChange fnExactMapBasisSpec)

/-- ITS FALSE NEIGHBOUR: 'it returns false'. Refute it at one input. -/
def fnExactMapBasisWrong : ChangeSpec := { name := "fnExactMapBasis", fn := fun _ => fun
  | [d1, d2] => { results := [.lit (.bool false)], args := [d1, d2] }
  | _ => none }
def FnExactMapBasisWrongFalsely : Prop := fnExactMapBasisRow.holds Tryz.pinned (OpenSpec.ofChange fnExactMapBasisWrong)

/-- 'laws.FnExactMargolisCounts': WHATEVER THE INPUT: true; the input reads as it did. -/
def fnExactMargolisCountsSpec : ChangeSpec := { name := "fnExactMargolisCounts", fn := fun _ => fun
  | [d1, d2, d3] => { results := [.lit (.bool true)], args := [d1, d2, d3] }
  | _ => none }
def fnExactMargolisCountsRow : OpenClaim := { program := "ytdkmdmpaflgfaaagreatdoor", sum := "e5863acb11ee610436514c40c9fcefd3251ae69e773e13f3391d657546a49a99", func := "loop.example/g01154/laws.FnExactMargolisCounts", spec := "fnExactMargolisCounts", unfollowed := true, recurses := true, named := ["math/bits.deBruijn64tab"], apart := false, laid := [("math/bits.deBruijn64tab", laid_math_bits_deBruijn64tab)] }
def FnExactMargolisCountsSaid : Prop := fnExactMargolisCountsRow.holds Tryz.pinned (OpenSpec.ofChange fnExactMargolisCountsSpec)

/-- ITS FALSE NEIGHBOUR: 'it returns false'. Refute it at one input. -/
def fnExactMargolisCountsWrong : ChangeSpec := { name := "fnExactMargolisCounts", fn := fun _ => fun
  | [d1, d2, d3] => { results := [.lit (.bool false)], args := [d1, d2, d3] }
  | _ => none }
def FnExactMargolisCountsWrongFalsely : Prop := fnExactMargolisCountsRow.holds Tryz.pinned (OpenSpec.ofChange fnExactMargolisCountsWrong)

/-- 'laws.FnExactHasNoMargolis': WHATEVER THE INPUT: true; the input reads as it did. -/
def fnExactHasNoMargolisSpec : ChangeSpec := { name := "fnExactHasNoMargolis", fn := fun _ => fun
  | [d1, d2, d3] => { results := [.lit (.bool true)], args := [d1, d2, d3] }
  | _ => none }
def fnExactHasNoMargolisRow : OpenClaim := { program := "ytdkmdmpaflgfaaagreatdoor", sum := "e5863acb11ee610436514c40c9fcefd3251ae69e773e13f3391d657546a49a99", func := "loop.example/g01154/laws.FnExactHasNoMargolis", spec := "fnExactHasNoMargolis", unfollowed := true, recurses := true, named := ["math/bits.deBruijn64tab"], apart := false, laid := [("math/bits.deBruijn64tab", laid_math_bits_deBruijn64tab)] }
def FnExactHasNoMargolisSaid : Prop := fnExactHasNoMargolisRow.holds Tryz.pinned (OpenSpec.ofChange fnExactHasNoMargolisSpec)

/-- ITS FALSE NEIGHBOUR: 'it returns false'. Refute it at one input. -/
def fnExactHasNoMargolisWrong : ChangeSpec := { name := "fnExactHasNoMargolis", fn := fun _ => fun
  | [d1, d2, d3] => { results := [.lit (.bool false)], args := [d1, d2, d3] }
  | _ => none }
def FnExactHasNoMargolisWrongFalsely : Prop := fnExactHasNoMargolisRow.holds Tryz.pinned (OpenSpec.ofChange fnExactHasNoMargolisWrong)

/-- 'laws.FnExactFreeRankOver': WHATEVER THE INPUT: true; the input reads as it did. -/
def fnExactFreeRankOverSpec : ChangeSpec := { name := "fnExactFreeRankOver", fn := fun _ => fun
  | [d1, d2] => { results := [.lit (.bool true)], args := [d1, d2] }
  | _ => none }
def fnExactFreeRankOverRow : OpenClaim := { program := "ytdkmdmpaflgfaaagreatdoor", sum := "e5863acb11ee610436514c40c9fcefd3251ae69e773e13f3391d657546a49a99", func := "loop.example/g01154/laws.FnExactFreeRankOver", spec := "fnExactFreeRankOver", unfollowed := true, recurses := true, named := ["math/bits.deBruijn64tab"], apart := false, laid := [("math/bits.deBruijn64tab", laid_math_bits_deBruijn64tab)] }
def FnExactFreeRankOverSaid : Prop := fnExactFreeRankOverRow.holds Tryz.pinned (OpenSpec.ofChange fnExactFreeRankOverSpec)

/-- ITS FALSE NEIGHBOUR: 'it returns false'. Refute it at one input. -/
def fnExactFreeRankOverWrong : ChangeSpec := { name := "fnExactFreeRankOver", fn := fun _ => fun
  | [d1, d2] => { results := [.lit (.bool false)], args := [d1, d2] }
  | _ => none }
def FnExactFreeRankOverWrongFalsely : Prop := fnExactFreeRankOverRow.holds Tryz.pinned (OpenSpec.ofChange fnExactFreeRankOverWrong)

/-- 'laws.FnExactIsFreeOver': WHATEVER THE INPUT: true; the input reads as it did. -/
def fnExactIsFreeOverSpec : ChangeSpec := { name := "fnExactIsFreeOver", fn := fun _ => fun
  | [d1, d2] => { results := [.lit (.bool true)], args := [d1, d2] }
  | _ => none }
def fnExactIsFreeOverRow : OpenClaim := { program := "ytdkmdmpaflgfaaagreatdoor", sum := "e5863acb11ee610436514c40c9fcefd3251ae69e773e13f3391d657546a49a99", func := "loop.example/g01154/laws.FnExactIsFreeOver", spec := "fnExactIsFreeOver", unfollowed := true, recurses := true, named := ["math/bits.deBruijn64tab"], apart := false, laid := [("math/bits.deBruijn64tab", laid_math_bits_deBruijn64tab)] }
def FnExactIsFreeOverSaid : Prop := fnExactIsFreeOverRow.holds Tryz.pinned (OpenSpec.ofChange fnExactIsFreeOverSpec)

/-- ITS FALSE NEIGHBOUR: 'it returns false'. Refute it at one input. -/
def fnExactIsFreeOverWrong : ChangeSpec := { name := "fnExactIsFreeOver", fn := fun _ => fun
  | [d1, d2] => { results := [.lit (.bool false)], args := [d1, d2] }
  | _ => none }
def FnExactIsFreeOverWrongFalsely : Prop := fnExactIsFreeOverRow.holds Tryz.pinned (OpenSpec.ofChange fnExactIsFreeOverWrong)

/-- 'laws.FnExactCountExt': WHATEVER THE INPUT: true; the input reads as it did. -/
def fnExactCountExtSpec : ChangeSpec := { name := "fnExactCountExt", fn := fun _ => fun
  | [d1, d2, d3] => { results := [.lit (.bool true)], args := [d1, d2, d3] }
  | _ => none }
def fnExactCountExtRow : OpenClaim := { program := "ytdkmdmpaflgfaaagreatdoor", sum := "e5863acb11ee610436514c40c9fcefd3251ae69e773e13f3391d657546a49a99", func := "loop.example/g01154/laws.FnExactCountExt", spec := "fnExactCountExt", unfollowed := true, recurses := true, named := ["math/bits.deBruijn64tab"], apart := false, laid := [("math/bits.deBruijn64tab", laid_math_bits_deBruijn64tab)] }
def FnExactCountExtSaid : Prop := fnExactCountExtRow.holds Tryz.pinned (OpenSpec.ofChange fnExactCountExtSpec)

/-- ITS FALSE NEIGHBOUR: 'it returns false'. Refute it at one input. -/
def fnExactCountExtWrong : ChangeSpec := { name := "fnExactCountExt", fn := fun _ => fun
  | [d1, d2, d3] => { results := [.lit (.bool false)], args := [d1, d2, d3] }
  | _ => none }
def FnExactCountExtWrongFalsely : Prop := fnExactCountExtRow.holds Tryz.pinned (OpenSpec.ofChange fnExactCountExtWrong)

/-- 'laws.FnExactExtTable': WHATEVER THE INPUT: true; the input reads as it did. -/
def fnExactExtTableSpec : ChangeSpec := { name := "fnExactExtTable", fn := fun _ => fun
  | [d1, d2, d3] => { results := [.lit (.bool true)], args := [d1, d2, d3] }
  | _ => none }
def fnExactExtTableRow : OpenClaim := { program := "ytdkmdmpaflgfaaagreatdoor", sum := "e5863acb11ee610436514c40c9fcefd3251ae69e773e13f3391d657546a49a99", func := "loop.example/g01154/laws.FnExactExtTable", spec := "fnExactExtTable", unfollowed := true, recurses := true, named := ["math/bits.deBruijn64tab"], apart := false, laid := [("math/bits.deBruijn64tab", laid_math_bits_deBruijn64tab)] }
def FnExactExtTableSaid : Prop := fnExactExtTableRow.holds Tryz.pinned (OpenSpec.ofChange fnExactExtTableSpec)

/-- ITS FALSE NEIGHBOUR: 'it returns false'. Refute it at one input. -/
def fnExactExtTableWrong : ChangeSpec := { name := "fnExactExtTable", fn := fun _ => fun
  | [d1, d2, d3] => { results := [.lit (.bool false)], args := [d1, d2, d3] }
  | _ => none }
def FnExactExtTableWrongFalsely : Prop := fnExactExtTableRow.holds Tryz.pinned (OpenSpec.ofChange fnExactExtTableWrong)

/-- 'laws.FnExactResolveModule': WHATEVER THE INPUT: true; the input reads as it did. -/
def fnExactResolveModuleSpec : ChangeSpec := { name := "fnExactResolveModule", fn := fun _ => fun
  | [d1, d2, d3] => { results := [.lit (.bool true)], args := [d1, d2, d3] }
  | _ => none }
def fnExactResolveModuleRow : OpenClaim := { program := "ytdkmdmpaflgfaaagreatdoor", sum := "e5863acb11ee610436514c40c9fcefd3251ae69e773e13f3391d657546a49a99", func := "loop.example/g01154/laws.FnExactResolveModule", spec := "fnExactResolveModule", unfollowed := true, recurses := true, named := ["math/bits.deBruijn64tab"], apart := false, laid := [("math/bits.deBruijn64tab", laid_math_bits_deBruijn64tab)] }
def FnExactResolveModuleSaid : Prop := fnExactResolveModuleRow.holds Tryz.pinned (OpenSpec.ofChange fnExactResolveModuleSpec)

/-- ITS FALSE NEIGHBOUR: 'it returns false'. Refute it at one input. -/
def fnExactResolveModuleWrong : ChangeSpec := { name := "fnExactResolveModule", fn := fun _ => fun
  | [d1, d2, d3] => { results := [.lit (.bool false)], args := [d1, d2, d3] }
  | _ => none }
def FnExactResolveModuleWrongFalsely : Prop := fnExactResolveModuleRow.holds Tryz.pinned (OpenSpec.ofChange fnExactResolveModuleWrong)

/- THE SECOND FORM. 'bulk': how many values and letters a reading holds, each counted each time it is reached (what is shared counts as often as it is met; a slice's spare places count too). A statement '..UptoSaid' is the law's where the arguments, and the package variables that the reading takes, are together of bulk at most 1048576: NARROWER than '..Said'. Prove '..Said' where nothing that the law and all that it calls make is longer than what came in: it says more and counts as full. Else prove '..UptoSaid'. A law counts once. -/
mutual
def uptoBulk {H : Type} : DataW H → Nat
  | .lit (.string bytes) => bytes.length + 1
  | .lit _ => 1
  | .nil => 1
  | .ptr d => uptoBulk d + 1
  | .slice elems spare => uptoBulkAll elems + uptoBulkAll spare + 1
  | .agg parts => uptoBulkAll parts + 1
  | .iface _ d => uptoBulk d + 1
  | .map entries => uptoBulkEntries entries + 1
  | .held _ => 1
def uptoBulkAll {H : Type} : List (DataW H) → Nat
  | [] => 0
  | d :: r => uptoBulk d + uptoBulkAll r
def uptoBulkEntries {H : Type} : List (Lit × DataW H) → Nat
  | [] => 0
  | x :: r => uptoBulkEntry x + uptoBulkEntries r
def uptoBulkEntry {H : Type} : Lit × DataW H → Nat
  | (.string bytes, d) => bytes.length + uptoBulk d + 1
  | (_, d) => uptoBulk d + 1
 end
def uptoSmall : (H : Type) → List (DataW H) → Bool := fun _ ds => decide (uptoBulkAll ds ≤ 1048576)
def OpenSpec.upto (s : _root_.Go.ChangeSpec) : _root_.Go.OpenSpec := { _root_.Go.OpenSpec.ofChange s with cond := some uptoSmall }

/-- 'laws.FnExactMapBasis', WHERE WHAT IT READS IS OF BULK AT MOST 1048576: true; the input reads as it did. -/
def fnExactMapBasisUptoRow : OpenClaim := { program := "ytdkmdmpaflgfaaagreatdoor", sum := "e5863acb11ee610436514c40c9fcefd3251ae69e773e13f3391d657546a49a99", func := "loop.example/g01154/laws.FnExactMapBasis", spec := "fnExactMapBasis", unfollowed := true, recurses := true, named := ["math/bits.deBruijn64tab"], apart := false, laid := [("math/bits.deBruijn64tab", laid_math_bits_deBruijn64tab)], narrowed := true }
def FnExactMapBasisUptoSaid : Prop := fnExactMapBasisUptoRow.holds Tryz.pinned (OpenSpec.upto fnExactMapBasisSpec)

/-- 'laws.FnExactMargolisCounts', WHERE WHAT IT READS IS OF BULK AT MOST 1048576: true; the input reads as it did. -/
def fnExactMargolisCountsUptoRow : OpenClaim := { program := "ytdkmdmpaflgfaaagreatdoor", sum := "e5863acb11ee610436514c40c9fcefd3251ae69e773e13f3391d657546a49a99", func := "loop.example/g01154/laws.FnExactMargolisCounts", spec := "fnExactMargolisCounts", unfollowed := true, recurses := true, named := ["math/bits.deBruijn64tab"], apart := false, laid := [("math/bits.deBruijn64tab", laid_math_bits_deBruijn64tab)], narrowed := true }
def FnExactMargolisCountsUptoSaid : Prop := fnExactMargolisCountsUptoRow.holds Tryz.pinned (OpenSpec.upto fnExactMargolisCountsSpec)

/-- 'laws.FnExactHasNoMargolis', WHERE WHAT IT READS IS OF BULK AT MOST 1048576: true; the input reads as it did. -/
def fnExactHasNoMargolisUptoRow : OpenClaim := { program := "ytdkmdmpaflgfaaagreatdoor", sum := "e5863acb11ee610436514c40c9fcefd3251ae69e773e13f3391d657546a49a99", func := "loop.example/g01154/laws.FnExactHasNoMargolis", spec := "fnExactHasNoMargolis", unfollowed := true, recurses := true, named := ["math/bits.deBruijn64tab"], apart := false, laid := [("math/bits.deBruijn64tab", laid_math_bits_deBruijn64tab)], narrowed := true }
def FnExactHasNoMargolisUptoSaid : Prop := fnExactHasNoMargolisUptoRow.holds Tryz.pinned (OpenSpec.upto fnExactHasNoMargolisSpec)

/-- 'laws.FnExactFreeRankOver', WHERE WHAT IT READS IS OF BULK AT MOST 1048576: true; the input reads as it did. -/
def fnExactFreeRankOverUptoRow : OpenClaim := { program := "ytdkmdmpaflgfaaagreatdoor", sum := "e5863acb11ee610436514c40c9fcefd3251ae69e773e13f3391d657546a49a99", func := "loop.example/g01154/laws.FnExactFreeRankOver", spec := "fnExactFreeRankOver", unfollowed := true, recurses := true, named := ["math/bits.deBruijn64tab"], apart := false, laid := [("math/bits.deBruijn64tab", laid_math_bits_deBruijn64tab)], narrowed := true }
def FnExactFreeRankOverUptoSaid : Prop := fnExactFreeRankOverUptoRow.holds Tryz.pinned (OpenSpec.upto fnExactFreeRankOverSpec)

/-- 'laws.FnExactIsFreeOver', WHERE WHAT IT READS IS OF BULK AT MOST 1048576: true; the input reads as it did. -/
def fnExactIsFreeOverUptoRow : OpenClaim := { program := "ytdkmdmpaflgfaaagreatdoor", sum := "e5863acb11ee610436514c40c9fcefd3251ae69e773e13f3391d657546a49a99", func := "loop.example/g01154/laws.FnExactIsFreeOver", spec := "fnExactIsFreeOver", unfollowed := true, recurses := true, named := ["math/bits.deBruijn64tab"], apart := false, laid := [("math/bits.deBruijn64tab", laid_math_bits_deBruijn64tab)], narrowed := true }
def FnExactIsFreeOverUptoSaid : Prop := fnExactIsFreeOverUptoRow.holds Tryz.pinned (OpenSpec.upto fnExactIsFreeOverSpec)

/-- 'laws.FnExactCountExt', WHERE WHAT IT READS IS OF BULK AT MOST 1048576: true; the input reads as it did. -/
def fnExactCountExtUptoRow : OpenClaim := { program := "ytdkmdmpaflgfaaagreatdoor", sum := "e5863acb11ee610436514c40c9fcefd3251ae69e773e13f3391d657546a49a99", func := "loop.example/g01154/laws.FnExactCountExt", spec := "fnExactCountExt", unfollowed := true, recurses := true, named := ["math/bits.deBruijn64tab"], apart := false, laid := [("math/bits.deBruijn64tab", laid_math_bits_deBruijn64tab)], narrowed := true }
def FnExactCountExtUptoSaid : Prop := fnExactCountExtUptoRow.holds Tryz.pinned (OpenSpec.upto fnExactCountExtSpec)

/-- 'laws.FnExactExtTable', WHERE WHAT IT READS IS OF BULK AT MOST 1048576: true; the input reads as it did. -/
def fnExactExtTableUptoRow : OpenClaim := { program := "ytdkmdmpaflgfaaagreatdoor", sum := "e5863acb11ee610436514c40c9fcefd3251ae69e773e13f3391d657546a49a99", func := "loop.example/g01154/laws.FnExactExtTable", spec := "fnExactExtTable", unfollowed := true, recurses := true, named := ["math/bits.deBruijn64tab"], apart := false, laid := [("math/bits.deBruijn64tab", laid_math_bits_deBruijn64tab)], narrowed := true }
def FnExactExtTableUptoSaid : Prop := fnExactExtTableUptoRow.holds Tryz.pinned (OpenSpec.upto fnExactExtTableSpec)

/-- 'laws.FnExactResolveModule', WHERE WHAT IT READS IS OF BULK AT MOST 1048576: true; the input reads as it did. -/
def fnExactResolveModuleUptoRow : OpenClaim := { program := "ytdkmdmpaflgfaaagreatdoor", sum := "e5863acb11ee610436514c40c9fcefd3251ae69e773e13f3391d657546a49a99", func := "loop.example/g01154/laws.FnExactResolveModule", spec := "fnExactResolveModule", unfollowed := true, recurses := true, named := ["math/bits.deBruijn64tab"], apart := false, laid := [("math/bits.deBruijn64tab", laid_math_bits_deBruijn64tab)], narrowed := true }
def FnExactResolveModuleUptoSaid : Prop := fnExactResolveModuleUptoRow.holds Tryz.pinned (OpenSpec.upto fnExactResolveModuleSpec)

end Rows
end Go.Proofs.YtdkmdmpaflgfaaaGreatDoor
