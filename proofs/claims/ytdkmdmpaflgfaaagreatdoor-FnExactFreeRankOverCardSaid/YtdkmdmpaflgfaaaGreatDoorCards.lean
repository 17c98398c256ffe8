/-
  DERIVED. GIVEN WITH THE SEED: THE CARDS: each row of YtdkmdmpaflgfaaaGreatDoorRows.lean that lists a variable, with what it lists TIED to the program's text (the seventh form; the later family's looks); each row that meets fmt, with fmt's text TOLD by the authors' own Lean function (tested against real Go, not proved from fmt's source: count such statements apart). THE CARD IS WHAT COUNTS. Prove the row's statement (the work); the ties are given (YtdkmdmpaflgfaaaGreatDoorTie.lean); close each card by the builder's one call (the guide's Derived/Test/ToyasCard.lean, 'card_holds'). Laid BY PROGRAM, IN A SANDBOX (cutbox-door.mjs). By AI agents, Wed Nov 11 2026. No macro, syntax, notation, axiom, sorry.
-/
import Derived.Test.YtdkmdmpaflgfaaaGreatDoorRows
import GoSem.ClaimSeven
namespace Go.Proofs.YtdkmdmpaflgfaaaGreatDoor
namespace Rows

/-- THE TIED CARD OF 'laws.FnExactMapBasis'. -/
def fnExactMapBasisCard : Claim7 := { stood := { row := fnExactMapBasisRow, standIns := [], harness := (true, "49ce1dd999089501081827d3ee95b2752a1345fa71e223395578f05db80d978c"), looks := false }, kinds := [], alts := [], laidByText := true, laidKinds := [.data], laidTests := true, laidLooks := .later }
def FnExactMapBasisCardSaid : Prop := Claim7.holds Tryz.pinned (.plain (OpenSpec.ofChange fnExactMapBasisSpec)) fnExactMapBasisCard

/-- THE TIED CARD OF 'laws.FnExactMargolisCounts'. -/
def fnExactMargolisCountsCard : Claim7 := { stood := { row := fnExactMargolisCountsRow, standIns := [], harness := (true, "49ce1dd999089501081827d3ee95b2752a1345fa71e223395578f05db80d978c"), looks := false }, kinds := [], alts := [], laidByText := true, laidKinds := [.data], laidTests := true, laidLooks := .later }
def FnExactMargolisCountsCardSaid : Prop := Claim7.holds Tryz.pinned (.plain (OpenSpec.ofChange fnExactMargolisCountsSpec)) fnExactMargolisCountsCard

/-- THE TIED CARD OF 'laws.FnExactHasNoMargolis'. -/
def fnExactHasNoMargolisCard : Claim7 := { stood := { row := fnExactHasNoMargolisRow, standIns := [], harness := (true, "49ce1dd999089501081827d3ee95b2752a1345fa71e223395578f05db80d978c"), looks := false }, kinds := [], alts := [], laidByText := true, laidKinds := [.data], laidTests := true, laidLooks := .later }
def FnExactHasNoMargolisCardSaid : Prop := Claim7.holds Tryz.pinned (.plain (OpenSpec.ofChange fnExactHasNoMargolisSpec)) fnExactHasNoMargolisCard

/-- THE TIED CARD OF 'laws.FnExactFreeRankOver'. -/
def fnExactFreeRankOverCard : Claim7 := { stood := { row := fnExactFreeRankOverRow, standIns := [], harness := (true, "49ce1dd999089501081827d3ee95b2752a1345fa71e223395578f05db80d978c"), looks := false }, kinds := [], alts := [], laidByText := true, laidKinds := [.data], laidTests := true, laidLooks := .later }
def FnExactFreeRankOverCardSaid : Prop := Claim7.holds Tryz.pinned (.plain (OpenSpec.ofChange fnExactFreeRankOverSpec)) fnExactFreeRankOverCard

/-- THE TIED CARD OF 'laws.FnExactIsFreeOver'. -/
def fnExactIsFreeOverCard : Claim7 := { stood := { row := fnExactIsFreeOverRow, standIns := [], harness := (true, "49ce1dd999089501081827d3ee95b2752a1345fa71e223395578f05db80d978c"), looks := false }, kinds := [], alts := [], laidByText := true, laidKinds := [.data], laidTests := true, laidLooks := .later }
def FnExactIsFreeOverCardSaid : Prop := Claim7.holds Tryz.pinned (.plain (OpenSpec.ofChange fnExactIsFreeOverSpec)) fnExactIsFreeOverCard

/-- THE TIED CARD OF 'laws.FnExactCountExt'. -/
def fnExactCountExtCard : Claim7 := { stood := { row := fnExactCountExtRow, standIns := [], harness := (true, "49ce1dd999089501081827d3ee95b2752a1345fa71e223395578f05db80d978c"), looks := false }, kinds := [], alts := [], laidByText := true, laidKinds := [.data], laidTests := true, laidLooks := .later }
def FnExactCountExtCardSaid : Prop := Claim7.holds Tryz.pinned (.plain (OpenSpec.ofChange fnExactCountExtSpec)) fnExactCountExtCard

/-- THE TIED CARD OF 'laws.FnExactExtTable'. -/
def fnExactExtTableCard : Claim7 := { stood := { row := fnExactExtTableRow, standIns := [], harness := (true, "49ce1dd999089501081827d3ee95b2752a1345fa71e223395578f05db80d978c"), looks := false }, kinds := [], alts := [], laidByText := true, laidKinds := [.data], laidTests := true, laidLooks := .later }
def FnExactExtTableCardSaid : Prop := Claim7.holds Tryz.pinned (.plain (OpenSpec.ofChange fnExactExtTableSpec)) fnExactExtTableCard

/-- THE TIED CARD OF 'laws.FnExactResolveModule'. -/
def fnExactResolveModuleCard : Claim7 := { stood := { row := fnExactResolveModuleRow, standIns := [], harness := (true, "49ce1dd999089501081827d3ee95b2752a1345fa71e223395578f05db80d978c"), looks := false }, kinds := [], alts := [], laidByText := true, laidKinds := [.data], laidTests := true, laidLooks := .later }
def FnExactResolveModuleCardSaid : Prop := Claim7.holds Tryz.pinned (.plain (OpenSpec.ofChange fnExactResolveModuleSpec)) fnExactResolveModuleCard

/-- THE SECOND FORM's CARD OF 'laws.FnExactMapBasis'. -/
def fnExactMapBasisUptoCard : Claim7 := { stood := { row := fnExactMapBasisUptoRow, standIns := [], harness := (true, "49ce1dd999089501081827d3ee95b2752a1345fa71e223395578f05db80d978c"), looks := false }, kinds := [], alts := [], laidByText := true, laidKinds := [.data], laidTests := true, laidLooks := .later }
def FnExactMapBasisUptoCardSaid : Prop := Claim7.holds Tryz.pinned (.plain (OpenSpec.upto fnExactMapBasisSpec)) fnExactMapBasisUptoCard

/-- THE SECOND FORM's CARD OF 'laws.FnExactMargolisCounts'. -/
def fnExactMargolisCountsUptoCard : Claim7 := { stood := { row := fnExactMargolisCountsUptoRow, standIns := [], harness := (true, "49ce1dd999089501081827d3ee95b2752a1345fa71e223395578f05db80d978c"), looks := false }, kinds := [], alts := [], laidByText := true, laidKinds := [.data], laidTests := true, laidLooks := .later }
def FnExactMargolisCountsUptoCardSaid : Prop := Claim7.holds Tryz.pinned (.plain (OpenSpec.upto fnExactMargolisCountsSpec)) fnExactMargolisCountsUptoCard

/-- THE SECOND FORM's CARD OF 'laws.FnExactHasNoMargolis'. -/
def fnExactHasNoMargolisUptoCard : Claim7 := { stood := { row := fnExactHasNoMargolisUptoRow, standIns := [], harness := (true, "49ce1dd999089501081827d3ee95b2752a1345fa71e223395578f05db80d978c"), looks := false }, kinds := [], alts := [], laidByText := true, laidKinds := [.data], laidTests := true, laidLooks := .later }
def FnExactHasNoMargolisUptoCardSaid : Prop := Claim7.holds Tryz.pinned (.plain (OpenSpec.upto fnExactHasNoMargolisSpec)) fnExactHasNoMargolisUptoCard

/-- THE SECOND FORM's CARD OF 'laws.FnExactFreeRankOver'. -/
def fnExactFreeRankOverUptoCard : Claim7 := { stood := { row := fnExactFreeRankOverUptoRow, standIns := [], harness := (true, "49ce1dd999089501081827d3ee95b2752a1345fa71e223395578f05db80d978c"), looks := false }, kinds := [], alts := [], laidByText := true, laidKinds := [.data], laidTests := true, laidLooks := .later }
def FnExactFreeRankOverUptoCardSaid : Prop := Claim7.holds Tryz.pinned (.plain (OpenSpec.upto fnExactFreeRankOverSpec)) fnExactFreeRankOverUptoCard

/-- THE SECOND FORM's CARD OF 'laws.FnExactIsFreeOver'. -/
def fnExactIsFreeOverUptoCard : Claim7 := { stood := { row := fnExactIsFreeOverUptoRow, standIns := [], harness := (true, "49ce1dd999089501081827d3ee95b2752a1345fa71e223395578f05db80d978c"), looks := false }, kinds := [], alts := [], laidByText := true, laidKinds := [.data], laidTests := true, laidLooks := .later }
def FnExactIsFreeOverUptoCardSaid : Prop := Claim7.holds Tryz.pinned (.plain (OpenSpec.upto fnExactIsFreeOverSpec)) fnExactIsFreeOverUptoCard

/-- THE SECOND FORM's CARD OF 'laws.FnExactCountExt'. -/
def fnExactCountExtUptoCard : Claim7 := { stood := { row := fnExactCountExtUptoRow, standIns := [], harness := (true, "49ce1dd999089501081827d3ee95b2752a1345fa71e223395578f05db80d978c"), looks := false }, kinds := [], alts := [], laidByText := true, laidKinds := [.data], laidTests := true, laidLooks := .later }
def FnExactCountExtUptoCardSaid : Prop := Claim7.holds Tryz.pinned (.plain (OpenSpec.upto fnExactCountExtSpec)) fnExactCountExtUptoCard

/-- THE SECOND FORM's CARD OF 'laws.FnExactExtTable'. -/
def fnExactExtTableUptoCard : Claim7 := { stood := { row := fnExactExtTableUptoRow, standIns := [], harness := (true, "49ce1dd999089501081827d3ee95b2752a1345fa71e223395578f05db80d978c"), looks := false }, kinds := [], alts := [], laidByText := true, laidKinds := [.data], laidTests := true, laidLooks := .later }
def FnExactExtTableUptoCardSaid : Prop := Claim7.holds Tryz.pinned (.plain (OpenSpec.upto fnExactExtTableSpec)) fnExactExtTableUptoCard

/-- THE SECOND FORM's CARD OF 'laws.FnExactResolveModule'. -/
def fnExactResolveModuleUptoCard : Claim7 := { stood := { row := fnExactResolveModuleUptoRow, standIns := [], harness := (true, "49ce1dd999089501081827d3ee95b2752a1345fa71e223395578f05db80d978c"), looks := false }, kinds := [], alts := [], laidByText := true, laidKinds := [.data], laidTests := true, laidLooks := .later }
def FnExactResolveModuleUptoCardSaid : Prop := Claim7.holds Tryz.pinned (.plain (OpenSpec.upto fnExactResolveModuleSpec)) fnExactResolveModuleUptoCard
end Rows
end Go.Proofs.YtdkmdmpaflgfaaaGreatDoor
