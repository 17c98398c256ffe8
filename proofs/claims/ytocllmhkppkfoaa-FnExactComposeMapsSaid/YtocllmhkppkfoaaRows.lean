/-
  No cell of these rows narrows 'for every input' (looked for: loops, veiled, ifaces, maps, wideKeys, modest, calm, conditions, laid).
  DERIVED. THE GIVEN ROWS OF THIS SEAT. 6 by the template 'for every input the law returns true; each argument reads behind the call as it read before'; 0 by the template 'total and deterministic' (their statements: YtocllmhkppkfoaaTotals.lean).
  GIVEN WITH THE SEED: the statements are not yours to turn. If you find one false, say at which input.
  Laid BY PROGRAM, IN A SANDBOX (cutbox-rows.mjs): the forced cells as the released guide's own fill.sh prints them over the translation e0c45dddff1314ff… (all of the seat's roots in one cut). By AI agents, Wed Nov 11 2026. No macro, syntax, notation, axiom, sorry.
-/
import Derived.Test.YtocllmhkppkfoaaChecked
import GoSem.Claim
import GoSem.ClaimJoined
import GoSem.ClaimMapViews
import Derived.JoinedTies
import Derived.KernelRfl
namespace Go.Proofs.Ytocllmhkppkfoaa
/- THE CELL 'sum', in the pinned program and in every row, IS THE sha256 OF THE DUMP (.gsa) THAT YtocllmhkppkfoaaProg.lean LOADS. Nothing in Lean hashes anything: it is a label: what it is worth is what the hold of that sum in a sandbox is worth. -/
noncomputable def Try.pinned : Pinned := { name := "ytocllmhkppkfoaa", sum := "e0c45dddff1314ff742ebcff8c5a0f2f720a30499b3a25e1c5b2b5d2c219a0e0", checked := Try.checked }
namespace Rows
def none {H : Type} : Left H := { results := [], args := [] }

/-- 'laws.FnExactEulerCounts': WHATEVER THE INPUT: true; the input reads as it did. -/
def fnExactEulerCountsSpec : ChangeSpec := { name := "fnExactEulerCounts", fn := fun _ => fun
  | [d] => { results := [.lit (.bool true)], args := [d] }
  | _ => none }
def fnExactEulerCountsRow : OpenClaim := { program := "ytocllmhkppkfoaa", sum := "e0c45dddff1314ff742ebcff8c5a0f2f720a30499b3a25e1c5b2b5d2c219a0e0", func := "loop.example/g01154/laws.FnExactEulerCounts", spec := "fnExactEulerCounts", unfollowed := true, recurses := true, apart := false }
def FnExactEulerCountsSaid : Prop := fnExactEulerCountsRow.holds Try.pinned (OpenSpec.ofChange fnExactEulerCountsSpec)

/-- ITS FALSE NEIGHBOUR: 'it returns false'. Refute it at one input. -/
def fnExactEulerCountsWrong : ChangeSpec := { name := "fnExactEulerCounts", fn := fun _ => fun
  | [d] => { results := [.lit (.bool false)], args := [d] }
  | _ => none }
def FnExactEulerCountsWrongFalsely : Prop := fnExactEulerCountsRow.holds Try.pinned (OpenSpec.ofChange fnExactEulerCountsWrong)

/-- 'laws.FnExactTopElement': WHATEVER THE INPUT: true; the input reads as it did. -/
def fnExactTopElementSpec : ChangeSpec := { name := "fnExactTopElement", fn := fun _ => fun
  | [d] => { results := [.lit (.bool true)], args := [d] }
  | _ => none }
def fnExactTopElementRow : OpenClaim := { program := "ytocllmhkppkfoaa", sum := "e0c45dddff1314ff742ebcff8c5a0f2f720a30499b3a25e1c5b2b5d2c219a0e0", func := "loop.example/g01154/laws.FnExactTopElement", spec := "fnExactTopElement", unfollowed := true, recurses := true, apart := false }
def FnExactTopElementSaid : Prop := fnExactTopElementRow.holds Try.pinned (OpenSpec.ofChange fnExactTopElementSpec)

/-- ITS FALSE NEIGHBOUR: 'it returns false'. Refute it at one input. -/
def fnExactTopElementWrong : ChangeSpec := { name := "fnExactTopElement", fn := fun _ => fun
  | [d] => { results := [.lit (.bool false)], args := [d] }
  | _ => none }
def FnExactTopElementWrongFalsely : Prop := fnExactTopElementRow.holds Try.pinned (OpenSpec.ofChange fnExactTopElementWrong)

/-- 'laws.FnExactEulerNumber': WHATEVER THE INPUT: true; the input reads as it did. -/
def fnExactEulerNumberSpec : ChangeSpec := { name := "fnExactEulerNumber", fn := fun _ => fun
  | [d] => { results := [.lit (.bool true)], args := [d] }
  | _ => none }
def fnExactEulerNumberRow : OpenClaim := { program := "ytocllmhkppkfoaa", sum := "e0c45dddff1314ff742ebcff8c5a0f2f720a30499b3a25e1c5b2b5d2c219a0e0", func := "loop.example/g01154/laws.FnExactEulerNumber", spec := "fnExactEulerNumber", unfollowed := true, recurses := true, apart := false }
def FnExactEulerNumberSaid : Prop := fnExactEulerNumberRow.holds Try.pinned (OpenSpec.ofChange fnExactEulerNumberSpec)

/-- ITS FALSE NEIGHBOUR: 'it returns false'. Refute it at one input. -/
def fnExactEulerNumberWrong : ChangeSpec := { name := "fnExactEulerNumber", fn := fun _ => fun
  | [d] => { results := [.lit (.bool false)], args := [d] }
  | _ => none }
def FnExactEulerNumberWrongFalsely : Prop := fnExactEulerNumberRow.holds Try.pinned (OpenSpec.ofChange fnExactEulerNumberWrong)

/-- 'laws.FnExactIsModuleMap': WHATEVER THE INPUT: true; the input reads as it did. -/
def fnExactIsModuleMapSpec : ChangeSpec := { name := "fnExactIsModuleMap", fn := fun _ => fun
  | [d1, d2, d3] => { results := [.lit (.bool true)], args := [d1, d2, d3] }
  | _ => none }
def fnExactIsModuleMapRow : OpenClaim := { program := "ytocllmhkppkfoaa", sum := "e0c45dddff1314ff742ebcff8c5a0f2f720a30499b3a25e1c5b2b5d2c219a0e0", func := "loop.example/g01154/laws.FnExactIsModuleMap", spec := "fnExactIsModuleMap", unfollowed := true, recurses := true, apart := false }
def FnExactIsModuleMapSaid : Prop := fnExactIsModuleMapRow.holds Try.pinned (OpenSpec.ofChange fnExactIsModuleMapSpec)

/-- ITS FALSE NEIGHBOUR: 'it returns false'. Refute it at one input. -/
def fnExactIsModuleMapWrong : ChangeSpec := { name := "fnExactIsModuleMap", fn := fun _ => fun
  | [d1, d2, d3] => { results := [.lit (.bool false)], args := [d1, d2, d3] }
  | _ => none }
def FnExactIsModuleMapWrongFalsely : Prop := fnExactIsModuleMapRow.holds Try.pinned (OpenSpec.ofChange fnExactIsModuleMapWrong)

/-- 'laws.FnExactApplyMap': WHATEVER THE INPUT: true; the input reads as it did. -/
def fnExactApplyMapSpec : ChangeSpec := { name := "fnExactApplyMap", fn := fun _ => fun
  | [d1, d2, d3, d4] => { results := [.lit (.bool true)], args := [d1, d2, d3, d4] }
  | _ => none }
def fnExactApplyMapRow : OpenClaim := { program := "ytocllmhkppkfoaa", sum := "e0c45dddff1314ff742ebcff8c5a0f2f720a30499b3a25e1c5b2b5d2c219a0e0", func := "loop.example/g01154/laws.FnExactApplyMap", spec := "fnExactApplyMap", unfollowed := true, recurses := true, apart := false }
def FnExactApplyMapSaid : Prop := fnExactApplyMapRow.holds Try.pinned (OpenSpec.ofChange fnExactApplyMapSpec)

/-- ITS FALSE NEIGHBOUR: 'it returns false'. Refute it at one input. -/
def fnExactApplyMapWrong : ChangeSpec := { name := "fnExactApplyMap", fn := fun _ => fun
  | [d1, d2, d3, d4] => { results := [.lit (.bool false)], args := [d1, d2, d3, d4] }
  | _ => none }
def FnExactApplyMapWrongFalsely : Prop := fnExactApplyMapRow.holds Try.pinned (OpenSpec.ofChange fnExactApplyMapWrong)

/-- 'laws.FnExactComposeMaps': WHATEVER THE INPUT: true; the input reads as it did. -/
def fnExactComposeMapsSpec : ChangeSpec := { name := "fnExactComposeMaps", fn := fun _ => fun
  | [d1, d2, d3, d4, d5] => { results := [.lit (.bool true)], args := [d1, d2, d3, d4, d5] }
  | _ => none }
def fnExactComposeMapsRow : OpenClaim := { program := "ytocllmhkppkfoaa", sum := "e0c45dddff1314ff742ebcff8c5a0f2f720a30499b3a25e1c5b2b5d2c219a0e0", func := "loop.example/g01154/laws.FnExactComposeMaps", spec := "fnExactComposeMaps", unfollowed := true, recurses := true, apart := false }
def FnExactComposeMapsSaid : Prop := fnExactComposeMapsRow.holds Try.pinned (OpenSpec.ofChange fnExactComposeMapsSpec)

/-- ITS FALSE NEIGHBOUR: 'it returns false'. Refute it at one input. -/
def fnExactComposeMapsWrong : ChangeSpec := { name := "fnExactComposeMaps", fn := fun _ => fun
  | [d1, d2, d3, d4, d5] => { results := [.lit (.bool false)], args := [d1, d2, d3, d4, d5] }
  | _ => none }
def FnExactComposeMapsWrongFalsely : Prop := fnExactComposeMapsRow.holds Try.pinned (OpenSpec.ofChange fnExactComposeMapsWrong)

/- THE SECOND FORM. 'bulk': how many values and letters a reading holds, each counted each time it is reached (what is shared counts as often as it is met; a slice's spare places count too). A statement '..UptoSaid' is the law's where the arguments, and the package variables that the reading takes, are together of bulk at most 1048576: NARROWER than '..Said'. Prove '..Said' where nothing that the law and all that it calls make is longer than what came in: it says more and counts as full. Else prove '..UptoSaid'. A law counts once. -/
mutual
def uptoBulk {H : Type} : DataW H → Nat
  | .lit (.string bytes) => bytes.length + 1
  | .lit _ => 1
  | .nil => 1
  | .ptr d => uptoBulk d + 1
  | .slice elems spare => uptoBulkAll elems + uptoBulkAll spare + 1
  | .agg parts => uptoBulkAll parts + 1
  | .iface _ d => uptoBulk d + 1
  | .map entries => uptoBulkEntries entries + 1
  | .held _ => 1
def uptoBulkAll {H : Type} : List (DataW H) → Nat
  | [] => 0
  | d :: r => uptoBulk d + uptoBulkAll r
def uptoBulkEntries {H : Type} : List (Lit × DataW H) → Nat
  | [] => 0
  | x :: r => uptoBulkEntry x + uptoBulkEntries r
def uptoBulkEntry {H : Type} : Lit × DataW H → Nat
  | (.string bytes, d) => bytes.length + uptoBulk d + 1
  | (_, d) => uptoBulk d + 1
 end
def uptoSmall : (H : Type) → List (DataW H) → Bool := fun _ ds => decide (uptoBulkAll ds ≤ 1048576)
def OpenSpec.upto (s : _root_.Go.ChangeSpec) : _root_.Go.OpenSpec := { _root_.Go.OpenSpec.ofChange s with cond := some uptoSmall }

/-- 'laws.FnExactEulerCounts', WHERE WHAT IT READS IS OF BULK AT MOST 1048576: true; the input reads as it did. -/
def fnExactEulerCountsUptoRow : OpenClaim := { program := "ytocllmhkppkfoaa", sum := "e0c45dddff1314ff742ebcff8c5a0f2f720a30499b3a25e1c5b2b5d2c219a0e0", func := "loop.example/g01154/laws.FnExactEulerCounts", spec := "fnExactEulerCounts", unfollowed := true, recurses := true, apart := false, narrowed := true }
def FnExactEulerCountsUptoSaid : Prop := fnExactEulerCountsUptoRow.holds Try.pinned (OpenSpec.upto fnExactEulerCountsSpec)

/-- 'laws.FnExactTopElement', WHERE WHAT IT READS IS OF BULK AT MOST 1048576: true; the input reads as it did. -/
def fnExactTopElementUptoRow : OpenClaim := { program := "ytocllmhkppkfoaa", sum := "e0c45dddff1314ff742ebcff8c5a0f2f720a30499b3a25e1c5b2b5d2c219a0e0", func := "loop.example/g01154/laws.FnExactTopElement", spec := "fnExactTopElement", unfollowed := true, recurses := true, apart := false, narrowed := true }
def FnExactTopElementUptoSaid : Prop := fnExactTopElementUptoRow.holds Try.pinned (OpenSpec.upto fnExactTopElementSpec)

/-- 'laws.FnExactEulerNumber', WHERE WHAT IT READS IS OF BULK AT MOST 1048576: true; the input reads as it did. -/
def fnExactEulerNumberUptoRow : OpenClaim := { program := "ytocllmhkppkfoaa", sum := "e0c45dddff1314ff742ebcff8c5a0f2f720a30499b3a25e1c5b2b5d2c219a0e0", func := "loop.example/g01154/laws.FnExactEulerNumber", spec := "fnExactEulerNumber", unfollowed := true, recurses := true, apart := false, narrowed := true }
def FnExactEulerNumberUptoSaid : Prop := fnExactEulerNumberUptoRow.holds Try.pinned (OpenSpec.upto fnExactEulerNumberSpec)

/-- 'laws.FnExactIsModuleMap', WHERE WHAT IT READS IS OF BULK AT MOST 1048576: true; the input reads as it did. -/
def fnExactIsModuleMapUptoRow : OpenClaim := { program := "ytocllmhkppkfoaa", sum := "e0c45dddff1314ff742ebcff8c5a0f2f720a30499b3a25e1c5b2b5d2c219a0e0", func := "loop.example/g01154/laws.FnExactIsModuleMap", spec := "fnExactIsModuleMap", unfollowed := true, recurses := true, apart := false, narrowed := true }
def FnExactIsModuleMapUptoSaid : Prop := fnExactIsModuleMapUptoRow.holds Try.pinned (OpenSpec.upto fnExactIsModuleMapSpec)

/-- 'laws.FnExactApplyMap', WHERE WHAT IT READS IS OF BULK AT MOST 1048576: true; the input reads as it did. -/
def fnExactApplyMapUptoRow : OpenClaim := { program := "ytocllmhkppkfoaa", sum := "e0c45dddff1314ff742ebcff8c5a0f2f720a30499b3a25e1c5b2b5d2c219a0e0", func := "loop.example/g01154/laws.FnExactApplyMap", spec := "fnExactApplyMap", unfollowed := true, recurses := true, apart := false, narrowed := true }
def FnExactApplyMapUptoSaid : Prop := fnExactApplyMapUptoRow.holds Try.pinned (OpenSpec.upto fnExactApplyMapSpec)

/-- 'laws.FnExactComposeMaps', WHERE WHAT IT READS IS OF BULK AT MOST 1048576: true; the input reads as it did. -/
def fnExactComposeMapsUptoRow : OpenClaim := { program := "ytocllmhkppkfoaa", sum := "e0c45dddff1314ff742ebcff8c5a0f2f720a30499b3a25e1c5b2b5d2c219a0e0", func := "loop.example/g01154/laws.FnExactComposeMaps", spec := "fnExactComposeMaps", unfollowed := true, recurses := true, apart := false, narrowed := true }
def FnExactComposeMapsUptoSaid : Prop := fnExactComposeMapsUptoRow.holds Try.pinned (OpenSpec.upto fnExactComposeMapsSpec)

end Rows
end Go.Proofs.Ytocllmhkppkfoaa
