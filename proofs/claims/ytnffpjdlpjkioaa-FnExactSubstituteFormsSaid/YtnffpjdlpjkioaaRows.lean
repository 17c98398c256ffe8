/-
  No cell of these rows narrows 'for every input' (looked for: loops, veiled, ifaces, maps, wideKeys, modest, calm, conditions, laid).
  DERIVED. THE GIVEN ROWS OF THIS SEAT. 7 by the template 'for every input the law returns true; each argument reads behind the call as it read before'; 0 by the template 'total and deterministic' (their statements: YtnffpjdlpjkioaaTotals.lean).
  GIVEN WITH THE SEED: the statements are not yours to turn. If you find one false, say at which input.
  Laid BY PROGRAM, IN A SANDBOX (cutbox-rows.mjs): the forced cells as the released guide's own fill.sh prints them over the translation bce30b2344598ae1… (all of the seat's roots in one cut). By AI agents, Wed Nov 11 2026. No macro, syntax, notation, axiom, sorry.
-/
import Derived.Test.YtnffpjdlpjkioaaChecked
import GoSem.Claim
import GoSem.ClaimJoined
import GoSem.ClaimMapViews
import Derived.JoinedTies
import Derived.KernelRfl
namespace Go.Proofs.Ytnffpjdlpjkioaa
/- THE CELL 'sum', in the pinned program and in every row, IS THE sha256 OF THE DUMP (.gsa) THAT YtnffpjdlpjkioaaProg.lean LOADS. Nothing in Lean hashes anything: it is a label: what it is worth is what the hold of that sum in a sandbox is worth. -/
noncomputable def Try.pinned : Pinned := { name := "ytnffpjdlpjkioaa", sum := "bce30b2344598ae108cd16fc1cc5e9ce9b270fdee300a2cb9c6893f9d02e5bad", checked := Try.checked }
namespace Rows
def none {H : Type} : Left H := { results := [], args := [] }

/-- 'laws.FnExactDicksonOf': WHATEVER THE INPUT: true; the input reads as it did. -/
def fnExactDicksonOfSpec : ChangeSpec := { name := "fnExactDicksonOf", fn := fun _ => fun
  | [d1, d2] => { results := [.lit (.bool true)], args := [d1, d2] }
  | _ => none }
def fnExactDicksonOfRow : OpenClaim := { program := "ytnffpjdlpjkioaa", sum := "bce30b2344598ae108cd16fc1cc5e9ce9b270fdee300a2cb9c6893f9d02e5bad", func := "loop.example/g01154/laws.FnExactDicksonOf", spec := "fnExactDicksonOf", unfollowed := true, recurses := true, apart := false }
def FnExactDicksonOfSaid : Prop := fnExactDicksonOfRow.holds Try.pinned (OpenSpec.ofChange fnExactDicksonOfSpec)

/-- ITS FALSE NEIGHBOUR: 'it returns false'. Refute it at one input. -/
def fnExactDicksonOfWrong : ChangeSpec := { name := "fnExactDicksonOf", fn := fun _ => fun
  | [d1, d2] => { results := [.lit (.bool false)], args := [d1, d2] }
  | _ => none }
def FnExactDicksonOfWrongFalsely : Prop := fnExactDicksonOfRow.holds Try.pinned (OpenSpec.ofChange fnExactDicksonOfWrong)

/-- 'laws.FnExactClassOfForms': WHATEVER THE INPUT: true; the input reads as it did. -/
def fnExactClassOfFormsSpec : ChangeSpec := { name := "fnExactClassOfForms", fn := fun _ => fun
  | [d1, d2, d3] => { results := [.lit (.bool true)], args := [d1, d2, d3] }
  | _ => none }
def fnExactClassOfFormsRow : OpenClaim := { program := "ytnffpjdlpjkioaa", sum := "bce30b2344598ae108cd16fc1cc5e9ce9b270fdee300a2cb9c6893f9d02e5bad", func := "loop.example/g01154/laws.FnExactClassOfForms", spec := "fnExactClassOfForms", unfollowed := true, recurses := true, apart := false }
def FnExactClassOfFormsSaid : Prop := fnExactClassOfFormsRow.holds Try.pinned (OpenSpec.ofChange fnExactClassOfFormsSpec)

/-- ITS FALSE NEIGHBOUR: 'it returns false'. Refute it at one input. -/
def fnExactClassOfFormsWrong : ChangeSpec := { name := "fnExactClassOfForms", fn := fun _ => fun
  | [d1, d2, d3] => { results := [.lit (.bool false)], args := [d1, d2, d3] }
  | _ => none }
def FnExactClassOfFormsWrongFalsely : Prop := fnExactClassOfFormsRow.holds Try.pinned (OpenSpec.ofChange fnExactClassOfFormsWrong)

/-- 'laws.FnExactSubstituteForms': WHATEVER THE INPUT: true; the input reads as it did. -/
def fnExactSubstituteFormsSpec : ChangeSpec := { name := "fnExactSubstituteForms", fn := fun _ => fun
  | [d1, d2] => { results := [.lit (.bool true)], args := [d1, d2] }
  | _ => none }
def fnExactSubstituteFormsRow : OpenClaim := { program := "ytnffpjdlpjkioaa", sum := "bce30b2344598ae108cd16fc1cc5e9ce9b270fdee300a2cb9c6893f9d02e5bad", func := "loop.example/g01154/laws.FnExactSubstituteForms", spec := "fnExactSubstituteForms", unfollowed := true, recurses := true, apart := false }
def FnExactSubstituteFormsSaid : Prop := fnExactSubstituteFormsRow.holds Try.pinned (OpenSpec.ofChange fnExactSubstituteFormsSpec)

/-- ITS FALSE NEIGHBOUR: 'it returns false'. Refute it at one input. -/
def fnExactSubstituteFormsWrong : ChangeSpec := { name := "fnExactSubstituteForms", fn := fun _ => fun
  | [d1, d2] => { results := [.lit (.bool false)], args := [d1, d2] }
  | _ => none }
def FnExactSubstituteFormsWrongFalsely : Prop := fnExactSubstituteFormsRow.holds Try.pinned (OpenSpec.ofChange fnExactSubstituteFormsWrong)

/-- 'laws.FnExactIsInvariant': WHATEVER THE INPUT: true; the input reads as it did. -/
def fnExactIsInvariantSpec : ChangeSpec := { name := "fnExactIsInvariant", fn := fun _ => fun
  | [d] => { results := [.lit (.bool true)], args := [d] }
  | _ => none }
def fnExactIsInvariantRow : OpenClaim := { program := "ytnffpjdlpjkioaa", sum := "bce30b2344598ae108cd16fc1cc5e9ce9b270fdee300a2cb9c6893f9d02e5bad", func := "loop.example/g01154/laws.FnExactIsInvariant", spec := "fnExactIsInvariant", unfollowed := true, recurses := true, apart := false }
def FnExactIsInvariantSaid : Prop := fnExactIsInvariantRow.holds Try.pinned (OpenSpec.ofChange fnExactIsInvariantSpec)

/-- ITS FALSE NEIGHBOUR: 'it returns false'. Refute it at one input. -/
def fnExactIsInvariantWrong : ChangeSpec := { name := "fnExactIsInvariant", fn := fun _ => fun
  | [d] => { results := [.lit (.bool false)], args := [d] }
  | _ => none }
def FnExactIsInvariantWrongFalsely : Prop := fnExactIsInvariantRow.holds Try.pinned (OpenSpec.ofChange fnExactIsInvariantWrong)

/-- 'laws.FnExactHitDimension': WHATEVER THE INPUT: true; the input reads as it did. -/
def fnExactHitDimensionSpec : ChangeSpec := { name := "fnExactHitDimension", fn := fun _ => fun
  | [d1, d2] => { results := [.lit (.bool true)], args := [d1, d2] }
  | _ => none }
def fnExactHitDimensionRow : OpenClaim := { program := "ytnffpjdlpjkioaa", sum := "bce30b2344598ae108cd16fc1cc5e9ce9b270fdee300a2cb9c6893f9d02e5bad", func := "loop.example/g01154/laws.FnExactHitDimension", spec := "fnExactHitDimension", unfollowed := true, recurses := true, apart := false }
def FnExactHitDimensionSaid : Prop := fnExactHitDimensionRow.holds Try.pinned (OpenSpec.ofChange fnExactHitDimensionSpec)

/-- ITS FALSE NEIGHBOUR: 'it returns false'. Refute it at one input. -/
def fnExactHitDimensionWrong : ChangeSpec := { name := "fnExactHitDimension", fn := fun _ => fun
  | [d1, d2] => { results := [.lit (.bool false)], args := [d1, d2] }
  | _ => none }
def FnExactHitDimensionWrongFalsely : Prop := fnExactHitDimensionRow.holds Try.pinned (OpenSpec.ofChange fnExactHitDimensionWrong)

/-- 'laws.FnExactCohitDimension': WHATEVER THE INPUT: true; the input reads as it did. -/
def fnExactCohitDimensionSpec : ChangeSpec := { name := "fnExactCohitDimension", fn := fun _ => fun
  | [d1, d2] => { results := [.lit (.bool true)], args := [d1, d2] }
  | _ => none }
def fnExactCohitDimensionRow : OpenClaim := { program := "ytnffpjdlpjkioaa", sum := "bce30b2344598ae108cd16fc1cc5e9ce9b270fdee300a2cb9c6893f9d02e5bad", func := "loop.example/g01154/laws.FnExactCohitDimension", spec := "fnExactCohitDimension", unfollowed := true, recurses := true, apart := false }
def FnExactCohitDimensionSaid : Prop := fnExactCohitDimensionRow.holds Try.pinned (OpenSpec.ofChange fnExactCohitDimensionSpec)

/-- ITS FALSE NEIGHBOUR: 'it returns false'. Refute it at one input. -/
def fnExactCohitDimensionWrong : ChangeSpec := { name := "fnExactCohitDimension", fn := fun _ => fun
  | [d1, d2] => { results := [.lit (.bool false)], args := [d1, d2] }
  | _ => none }
def FnExactCohitDimensionWrongFalsely : Prop := fnExactCohitDimensionRow.holds Try.pinned (OpenSpec.ofChange fnExactCohitDimensionWrong)

/-- 'laws.FnExactAdmissibleMonomials': WHATEVER THE INPUT: true; the input reads as it did. -/
def fnExactAdmissibleMonomialsSpec : ChangeSpec := { name := "fnExactAdmissibleMonomials", fn := fun _ => fun
  | [d1, d2] => { results := [.lit (.bool true)], args := [d1, d2] }
  | _ => none }
def fnExactAdmissibleMonomialsRow : OpenClaim := { program := "ytnffpjdlpjkioaa", sum := "bce30b2344598ae108cd16fc1cc5e9ce9b270fdee300a2cb9c6893f9d02e5bad", func := "loop.example/g01154/laws.FnExactAdmissibleMonomials", spec := "fnExactAdmissibleMonomials", unfollowed := true, recurses := true, apart := false }
def FnExactAdmissibleMonomialsSaid : Prop := fnExactAdmissibleMonomialsRow.holds Try.pinned (OpenSpec.ofChange fnExactAdmissibleMonomialsSpec)

/-- ITS FALSE NEIGHBOUR: 'it returns false'. Refute it at one input. -/
def fnExactAdmissibleMonomialsWrong : ChangeSpec := { name := "fnExactAdmissibleMonomials", fn := fun _ => fun
  | [d1, d2] => { results := [.lit (.bool false)], args := [d1, d2] }
  | _ => none }
def FnExactAdmissibleMonomialsWrongFalsely : Prop := fnExactAdmissibleMonomialsRow.holds Try.pinned (OpenSpec.ofChange fnExactAdmissibleMonomialsWrong)

/- THE SECOND FORM. 'bulk': how many values and letters a reading holds, each counted each time it is reached (what is shared counts as often as it is met; a slice's spare places count too). A statement '..UptoSaid' is the law's where the arguments, and the package variables that the reading takes, are together of bulk at most 1048576: NARROWER than '..Said'. Prove '..Said' where nothing that the law and all that it calls make is longer than what came in: it says more and counts as full. Else prove '..UptoSaid'. A law counts once. -/
mutual
def uptoBulk {H : Type} : DataW H → Nat
  | .lit (.string bytes) => bytes.length + 1
  | .lit _ => 1
  | .nil => 1
  | .ptr d => uptoBulk d + 1
  | .slice elems spare => uptoBulkAll elems + uptoBulkAll spare + 1
  | .agg parts => uptoBulkAll parts + 1
  | .iface _ d => uptoBulk d + 1
  | .map entries => uptoBulkEntries entries + 1
  | .held _ => 1
def uptoBulkAll {H : Type} : List (DataW H) → Nat
  | [] => 0
  | d :: r => uptoBulk d + uptoBulkAll r
def uptoBulkEntries {H : Type} : List (Lit × DataW H) → Nat
  | [] => 0
  | x :: r => uptoBulkEntry x + uptoBulkEntries r
def uptoBulkEntry {H : Type} : Lit × DataW H → Nat
  | (.string bytes, d) => bytes.length + uptoBulk d + 1
  | (_, d) => uptoBulk d + 1
 end
def uptoSmall : (H : Type) → List (DataW H) → Bool := fun _ ds => decide (uptoBulkAll ds ≤ 1048576)
def OpenSpec.upto (s : _root_.Go.ChangeSpec) : _root_.Go.OpenSpec := { _root_.Go.OpenSpec.ofChange s with cond := some uptoSmall }

/-- 'laws.FnExactDicksonOf', WHERE WHAT IT READS IS OF BULK AT MOST 1048576: true; the input reads as it did. -/
def fnExactDicksonOfUptoRow : OpenClaim := { program := "ytnffpjdlpjkioaa", sum := "bce30b2344598ae108cd16fc1cc5e9ce9b270fdee300a2cb9c6893f9d02e5bad", func := "loop.example/g01154/laws.FnExactDicksonOf", spec := "fnExactDicksonOf", unfollowed := true, recurses := true, apart := false, narrowed := true }
def FnExactDicksonOfUptoSaid : Prop := fnExactDicksonOfUptoRow.holds Try.pinned (OpenSpec.upto fnExactDicksonOfSpec)

/-- 'laws.FnExactClassOfForms', WHERE WHAT IT READS IS OF BULK AT MOST 1048576: true; the input reads as it did. -/
def fnExactClassOfFormsUptoRow : OpenClaim := { program := "ytnffpjdlpjkioaa", sum := "bce30b2344598ae108cd16fc1cc5e9ce9b270fdee300a2cb9c6893f9d02e5bad", func := "loop.example/g01154/laws.FnExactClassOfForms", spec := "fnExactClassOfForms", unfollowed := true, recurses := true, apart := false, narrowed := true }
def FnExactClassOfFormsUptoSaid : Prop := fnExactClassOfFormsUptoRow.holds Try.pinned (OpenSpec.upto fnExactClassOfFormsSpec)

/-- 'laws.FnExactSubstituteForms', WHERE WHAT IT READS IS OF BULK AT MOST 1048576: true; the input reads as it did. -/
def fnExactSubstituteFormsUptoRow : OpenClaim := { program := "ytnffpjdlpjkioaa", sum := "bce30b2344598ae108cd16fc1cc5e9ce9b270fdee300a2cb9c6893f9d02e5bad", func := "loop.example/g01154/laws.FnExactSubstituteForms", spec := "fnExactSubstituteForms", unfollowed := true, recurses := true, apart := false, narrowed := true }
def FnExactSubstituteFormsUptoSaid : Prop := fnExactSubstituteFormsUptoRow.holds Try.pinned (OpenSpec.upto fnExactSubstituteFormsSpec)

/-- 'laws.FnExactIsInvariant', WHERE WHAT IT READS IS OF BULK AT MOST 1048576: true; the input reads as it did. -/
def fnExactIsInvariantUptoRow : OpenClaim := { program := "ytnffpjdlpjkioaa", sum := "bce30b2344598ae108cd16fc1cc5e9ce9b270fdee300a2cb9c6893f9d02e5bad", func := "loop.example/g01154/laws.FnExactIsInvariant", spec := "fnExactIsInvariant", unfollowed := true, recurses := true, apart := false, narrowed := true }
def FnExactIsInvariantUptoSaid : Prop := fnExactIsInvariantUptoRow.holds Try.pinned (OpenSpec.upto fnExactIsInvariantSpec)

/-- 'laws.FnExactHitDimension', WHERE WHAT IT READS IS OF BULK AT MOST 1048576: true; the input reads as it did. -/
def fnExactHitDimensionUptoRow : OpenClaim := { program := "ytnffpjdlpjkioaa", sum := "bce30b2344598ae108cd16fc1cc5e9ce9b270fdee300a2cb9c6893f9d02e5bad", func := "loop.example/g01154/laws.FnExactHitDimension", spec := "fnExactHitDimension", unfollowed := true, recurses := true, apart := false, narrowed := true }
def FnExactHitDimensionUptoSaid : Prop := fnExactHitDimensionUptoRow.holds Try.pinned (OpenSpec.upto fnExactHitDimensionSpec)

/-- 'laws.FnExactCohitDimension', WHERE WHAT IT READS IS OF BULK AT MOST 1048576: true; the input reads as it did. -/
def fnExactCohitDimensionUptoRow : OpenClaim := { program := "ytnffpjdlpjkioaa", sum := "bce30b2344598ae108cd16fc1cc5e9ce9b270fdee300a2cb9c6893f9d02e5bad", func := "loop.example/g01154/laws.FnExactCohitDimension", spec := "fnExactCohitDimension", unfollowed := true, recurses := true, apart := false, narrowed := true }
def FnExactCohitDimensionUptoSaid : Prop := fnExactCohitDimensionUptoRow.holds Try.pinned (OpenSpec.upto fnExactCohitDimensionSpec)

/-- 'laws.FnExactAdmissibleMonomials', WHERE WHAT IT READS IS OF BULK AT MOST 1048576: true; the input reads as it did. -/
def fnExactAdmissibleMonomialsUptoRow : OpenClaim := { program := "ytnffpjdlpjkioaa", sum := "bce30b2344598ae108cd16fc1cc5e9ce9b270fdee300a2cb9c6893f9d02e5bad", func := "loop.example/g01154/laws.FnExactAdmissibleMonomials", spec := "fnExactAdmissibleMonomials", unfollowed := true, recurses := true, apart := false, narrowed := true }
def FnExactAdmissibleMonomialsUptoSaid : Prop := fnExactAdmissibleMonomialsUptoRow.holds Try.pinned (OpenSpec.upto fnExactAdmissibleMonomialsSpec)

end Rows
end Go.Proofs.Ytnffpjdlpjkioaa
