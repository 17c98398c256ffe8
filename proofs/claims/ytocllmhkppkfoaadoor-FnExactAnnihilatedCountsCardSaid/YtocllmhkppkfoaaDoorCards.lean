/-
  DERIVED. GIVEN WITH THE SEED: THE CARDS: each row of YtocllmhkppkfoaaDoorRows.lean that lists a variable, with what it lists TIED to the program's text (the seventh form; the later family's looks); each row that meets fmt, with fmt's text TOLD by the authors' own Lean function (tested against real Go, not proved from fmt's source: count such statements apart). THE CARD IS WHAT COUNTS. Prove the row's statement (the work); the ties are given (YtocllmhkppkfoaaDoorTie.lean); close each card by the builder's one call (the guide's Derived/Test/ToyasCard.lean, 'card_holds'). Laid BY PROGRAM, IN A SANDBOX (cutbox-door.mjs). By AI agents, Wed Nov 11 2026. No macro, syntax, notation, axiom, sorry.
-/
import Derived.Test.YtocllmhkppkfoaaDoorRows
import GoSem.ClaimSeven
namespace Go.Proofs.YtocllmhkppkfoaaDoor
namespace Rows

/-- THE TIED CARD OF 'laws.FnExactGeneratorCounts'. -/
def fnExactGeneratorCountsCard : Claim7 := { stood := { row := fnExactGeneratorCountsRow, standIns := [], harness := (true, "d6b8df766877a5271a90bcdbcc57150b87720249c3d9b60485b3d0d75e3ae0c8"), looks := false }, kinds := [], alts := [], laidByText := true, laidKinds := [.data], laidTests := true, laidLooks := .later }
def FnExactGeneratorCountsCardSaid : Prop := Claim7.holds Tryd.pinned (.plain (OpenSpec.ofChange fnExactGeneratorCountsSpec)) fnExactGeneratorCountsCard

/-- THE TIED CARD OF 'laws.FnExactAnnihilatedCounts'. -/
def fnExactAnnihilatedCountsCard : Claim7 := { stood := { row := fnExactAnnihilatedCountsRow, standIns := [], harness := (true, "d6b8df766877a5271a90bcdbcc57150b87720249c3d9b60485b3d0d75e3ae0c8"), looks := false }, kinds := [], alts := [], laidByText := true, laidKinds := [.data], laidTests := true, laidLooks := .later }
def FnExactAnnihilatedCountsCardSaid : Prop := Claim7.holds Tryd.pinned (.plain (OpenSpec.ofChange fnExactAnnihilatedCountsSpec)) fnExactAnnihilatedCountsCard

/-- THE TIED CARD OF 'laws.FnSpaces'. -/
def fnSpacesCard : Claim7 := { stood := { row := fnSpacesRow, standIns := [], harness := (true, "d6b8df766877a5271a90bcdbcc57150b87720249c3d9b60485b3d0d75e3ae0c8"), looks := false }, kinds := [], alts := [], laidByText := true, laidKinds := [.data], laidTests := true, laidLooks := .later }
def FnSpacesCardSaid : Prop := Claim7.holds Tryd.pinned (.plain (OpenSpec.ofChange fnSpacesSpec)) fnSpacesCard

/-- THE TIED CARD OF 'laws.FnMatrices'. -/
def fnMatricesCard : Claim7 := { stood := { row := fnMatricesRow, standIns := [], harness := (true, "d6b8df766877a5271a90bcdbcc57150b87720249c3d9b60485b3d0d75e3ae0c8"), looks := false }, kinds := [], alts := [], laidByText := true, laidKinds := [.data], laidTests := true, laidLooks := .later }
def FnMatricesCardSaid : Prop := Claim7.holds Tryd.pinned (.plain (OpenSpec.ofChange fnMatricesSpec)) fnMatricesCard

/-- THE TIED CARD OF 'laws.FnRanks'. -/
def fnRanksCard : Claim7 := { stood := { row := fnRanksRow, standIns := [], harness := (true, "d6b8df766877a5271a90bcdbcc57150b87720249c3d9b60485b3d0d75e3ae0c8"), looks := false }, kinds := [], alts := [], laidByText := true, laidKinds := [.data], laidTests := true, laidLooks := .later }
def FnRanksCardSaid : Prop := Claim7.holds Tryd.pinned (.plain (OpenSpec.ofChange fnRanksSpec)) fnRanksCard

/-- THE SECOND FORM's CARD OF 'laws.FnExactGeneratorCounts'. -/
def fnExactGeneratorCountsUptoCard : Claim7 := { stood := { row := fnExactGeneratorCountsUptoRow, standIns := [], harness := (true, "d6b8df766877a5271a90bcdbcc57150b87720249c3d9b60485b3d0d75e3ae0c8"), looks := false }, kinds := [], alts := [], laidByText := true, laidKinds := [.data], laidTests := true, laidLooks := .later }
def FnExactGeneratorCountsUptoCardSaid : Prop := Claim7.holds Tryd.pinned (.plain (OpenSpec.upto fnExactGeneratorCountsSpec)) fnExactGeneratorCountsUptoCard

/-- THE SECOND FORM's CARD OF 'laws.FnExactAnnihilatedCounts'. -/
def fnExactAnnihilatedCountsUptoCard : Claim7 := { stood := { row := fnExactAnnihilatedCountsUptoRow, standIns := [], harness := (true, "d6b8df766877a5271a90bcdbcc57150b87720249c3d9b60485b3d0d75e3ae0c8"), looks := false }, kinds := [], alts := [], laidByText := true, laidKinds := [.data], laidTests := true, laidLooks := .later }
def FnExactAnnihilatedCountsUptoCardSaid : Prop := Claim7.holds Tryd.pinned (.plain (OpenSpec.upto fnExactAnnihilatedCountsSpec)) fnExactAnnihilatedCountsUptoCard

/-- THE SECOND FORM's CARD OF 'laws.FnSpaces'. -/
def fnSpacesUptoCard : Claim7 := { stood := { row := fnSpacesUptoRow, standIns := [], harness := (true, "d6b8df766877a5271a90bcdbcc57150b87720249c3d9b60485b3d0d75e3ae0c8"), looks := false }, kinds := [], alts := [], laidByText := true, laidKinds := [.data], laidTests := true, laidLooks := .later }
def FnSpacesUptoCardSaid : Prop := Claim7.holds Tryd.pinned (.plain (OpenSpec.upto fnSpacesSpec)) fnSpacesUptoCard

/-- THE SECOND FORM's CARD OF 'laws.FnMatrices'. -/
def fnMatricesUptoCard : Claim7 := { stood := { row := fnMatricesUptoRow, standIns := [], harness := (true, "d6b8df766877a5271a90bcdbcc57150b87720249c3d9b60485b3d0d75e3ae0c8"), looks := false }, kinds := [], alts := [], laidByText := true, laidKinds := [.data], laidTests := true, laidLooks := .later }
def FnMatricesUptoCardSaid : Prop := Claim7.holds Tryd.pinned (.plain (OpenSpec.upto fnMatricesSpec)) fnMatricesUptoCard

/-- THE SECOND FORM's CARD OF 'laws.FnRanks'. -/
def fnRanksUptoCard : Claim7 := { stood := { row := fnRanksUptoRow, standIns := [], harness := (true, "d6b8df766877a5271a90bcdbcc57150b87720249c3d9b60485b3d0d75e3ae0c8"), looks := false }, kinds := [], alts := [], laidByText := true, laidKinds := [.data], laidTests := true, laidLooks := .later }
def FnRanksUptoCardSaid : Prop := Claim7.holds Tryd.pinned (.plain (OpenSpec.upto fnRanksSpec)) fnRanksUptoCard
end Rows
end Go.Proofs.YtocllmhkppkfoaaDoor
