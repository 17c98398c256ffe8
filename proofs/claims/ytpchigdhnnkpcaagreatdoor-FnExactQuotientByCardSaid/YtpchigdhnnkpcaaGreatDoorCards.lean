/-
  DERIVED. GIVEN WITH THE SEED: THE CARDS: each row of YtpchigdhnnkpcaaGreatDoorRows.lean that lists a variable, with what it lists TIED to the program's text (the seventh form; the later family's looks); each row that meets fmt, with fmt's text TOLD by the authors' own Lean function (tested against real Go, not proved from fmt's source: count such statements apart). THE CARD IS WHAT COUNTS. Prove the row's statement (the work); the ties are given (YtpchigdhnnkpcaaGreatDoorTie.lean); close each card by the builder's one call (the guide's Derived/Test/ToyasCard.lean, 'card_holds'). Laid BY PROGRAM, IN A SANDBOX (cutbox-door.mjs). By AI agents, Wed Nov 11 2026. No macro, syntax, notation, axiom, sorry.
-/
import Derived.Test.YtpchigdhnnkpcaaGreatDoorRows
import GoSem.ClaimSeven
namespace Go.Proofs.YtpchigdhnnkpcaaGreatDoor
namespace Rows

/-- THE TIED CARD OF 'laws.FnExactIsomorphismOf'. -/
def fnExactIsomorphismOfCard : Claim7 := { stood := { row := fnExactIsomorphismOfRow, standIns := [], harness := (true, "4c6fecdfe7b3ce884500d12ceda3c5d1c231f4ca23e4372df30f916004a18b2c"), looks := false }, kinds := [], alts := [], laidByText := true, laidKinds := [.data], laidTests := true, laidLooks := .later }
def FnExactIsomorphismOfCardSaid : Prop := Claim7.holds Tryz.pinned (.plain (OpenSpec.ofChange fnExactIsomorphismOfSpec)) fnExactIsomorphismOfCard

/-- THE TIED CARD OF 'laws.FnExactMapBasis'. -/
def fnExactMapBasisCard : Claim7 := { stood := { row := fnExactMapBasisRow, standIns := [], harness := (true, "4c6fecdfe7b3ce884500d12ceda3c5d1c231f4ca23e4372df30f916004a18b2c"), looks := false }, kinds := [], alts := [], laidByText := true, laidKinds := [.data], laidTests := true, laidLooks := .later }
def FnExactMapBasisCardSaid : Prop := Claim7.holds Tryz.pinned (.plain (OpenSpec.ofChange fnExactMapBasisSpec)) fnExactMapBasisCard

/-- THE TIED CARD OF 'laws.FnExactKernelOfMap'. -/
def fnExactKernelOfMapCard : Claim7 := { stood := { row := fnExactKernelOfMapRow, standIns := [], harness := (true, "4c6fecdfe7b3ce884500d12ceda3c5d1c231f4ca23e4372df30f916004a18b2c"), looks := false }, kinds := [], alts := [], laidByText := true, laidKinds := [.data], laidTests := true, laidLooks := .later }
def FnExactKernelOfMapCardSaid : Prop := Claim7.holds Tryz.pinned (.plain (OpenSpec.ofChange fnExactKernelOfMapSpec)) fnExactKernelOfMapCard

/-- THE TIED CARD OF 'laws.FnExactImageOfMap'. -/
def fnExactImageOfMapCard : Claim7 := { stood := { row := fnExactImageOfMapRow, standIns := [], harness := (true, "4c6fecdfe7b3ce884500d12ceda3c5d1c231f4ca23e4372df30f916004a18b2c"), looks := false }, kinds := [], alts := [], laidByText := true, laidKinds := [.data], laidTests := true, laidLooks := .later }
def FnExactImageOfMapCardSaid : Prop := Claim7.holds Tryz.pinned (.plain (OpenSpec.ofChange fnExactImageOfMapSpec)) fnExactImageOfMapCard

/-- THE TIED CARD OF 'laws.FnExactCokernelOfMap'. -/
def fnExactCokernelOfMapCard : Claim7 := { stood := { row := fnExactCokernelOfMapRow, standIns := [], harness := (true, "4c6fecdfe7b3ce884500d12ceda3c5d1c231f4ca23e4372df30f916004a18b2c"), looks := false }, kinds := [], alts := [], laidByText := true, laidKinds := [.data], laidTests := true, laidLooks := .later }
def FnExactCokernelOfMapCardSaid : Prop := Claim7.holds Tryz.pinned (.plain (OpenSpec.ofChange fnExactCokernelOfMapSpec)) fnExactCokernelOfMapCard

/-- THE TIED CARD OF 'laws.FnExactSubmoduleOf'. -/
def fnExactSubmoduleOfCard : Claim7 := { stood := { row := fnExactSubmoduleOfRow, standIns := [], harness := (true, "4c6fecdfe7b3ce884500d12ceda3c5d1c231f4ca23e4372df30f916004a18b2c"), looks := false }, kinds := [], alts := [], laidByText := true, laidKinds := [.data], laidTests := true, laidLooks := .later }
def FnExactSubmoduleOfCardSaid : Prop := Claim7.holds Tryz.pinned (.plain (OpenSpec.ofChange fnExactSubmoduleOfSpec)) fnExactSubmoduleOfCard

/-- THE TIED CARD OF 'laws.FnExactQuotientBy'. -/
def fnExactQuotientByCard : Claim7 := { stood := { row := fnExactQuotientByRow, standIns := [], harness := (true, "4c6fecdfe7b3ce884500d12ceda3c5d1c231f4ca23e4372df30f916004a18b2c"), looks := false }, kinds := [], alts := [], laidByText := true, laidKinds := [.data], laidTests := true, laidLooks := .later }
def FnExactQuotientByCardSaid : Prop := Claim7.holds Tryz.pinned (.plain (OpenSpec.ofChange fnExactQuotientBySpec)) fnExactQuotientByCard

/-- THE SECOND FORM's CARD OF 'laws.FnExactIsomorphismOf'. -/
def fnExactIsomorphismOfUptoCard : Claim7 := { stood := { row := fnExactIsomorphismOfUptoRow, standIns := [], harness := (true, "4c6fecdfe7b3ce884500d12ceda3c5d1c231f4ca23e4372df30f916004a18b2c"), looks := false }, kinds := [], alts := [], laidByText := true, laidKinds := [.data], laidTests := true, laidLooks := .later }
def FnExactIsomorphismOfUptoCardSaid : Prop := Claim7.holds Tryz.pinned (.plain (OpenSpec.upto fnExactIsomorphismOfSpec)) fnExactIsomorphismOfUptoCard

/-- THE SECOND FORM's CARD OF 'laws.FnExactMapBasis'. -/
def fnExactMapBasisUptoCard : Claim7 := { stood := { row := fnExactMapBasisUptoRow, standIns := [], harness := (true, "4c6fecdfe7b3ce884500d12ceda3c5d1c231f4ca23e4372df30f916004a18b2c"), looks := false }, kinds := [], alts := [], laidByText := true, laidKinds := [.data], laidTests := true, laidLooks := .later }
def FnExactMapBasisUptoCardSaid : Prop := Claim7.holds Tryz.pinned (.plain (OpenSpec.upto fnExactMapBasisSpec)) fnExactMapBasisUptoCard

/-- THE SECOND FORM's CARD OF 'laws.FnExactKernelOfMap'. -/
def fnExactKernelOfMapUptoCard : Claim7 := { stood := { row := fnExactKernelOfMapUptoRow, standIns := [], harness := (true, "4c6fecdfe7b3ce884500d12ceda3c5d1c231f4ca23e4372df30f916004a18b2c"), looks := false }, kinds := [], alts := [], laidByText := true, laidKinds := [.data], laidTests := true, laidLooks := .later }
def FnExactKernelOfMapUptoCardSaid : Prop := Claim7.holds Tryz.pinned (.plain (OpenSpec.upto fnExactKernelOfMapSpec)) fnExactKernelOfMapUptoCard

/-- THE SECOND FORM's CARD OF 'laws.FnExactImageOfMap'. -/
def fnExactImageOfMapUptoCard : Claim7 := { stood := { row := fnExactImageOfMapUptoRow, standIns := [], harness := (true, "4c6fecdfe7b3ce884500d12ceda3c5d1c231f4ca23e4372df30f916004a18b2c"), looks := false }, kinds := [], alts := [], laidByText := true, laidKinds := [.data], laidTests := true, laidLooks := .later }
def FnExactImageOfMapUptoCardSaid : Prop := Claim7.holds Tryz.pinned (.plain (OpenSpec.upto fnExactImageOfMapSpec)) fnExactImageOfMapUptoCard

/-- THE SECOND FORM's CARD OF 'laws.FnExactCokernelOfMap'. -/
def fnExactCokernelOfMapUptoCard : Claim7 := { stood := { row := fnExactCokernelOfMapUptoRow, standIns := [], harness := (true, "4c6fecdfe7b3ce884500d12ceda3c5d1c231f4ca23e4372df30f916004a18b2c"), looks := false }, kinds := [], alts := [], laidByText := true, laidKinds := [.data], laidTests := true, laidLooks := .later }
def FnExactCokernelOfMapUptoCardSaid : Prop := Claim7.holds Tryz.pinned (.plain (OpenSpec.upto fnExactCokernelOfMapSpec)) fnExactCokernelOfMapUptoCard

/-- THE SECOND FORM's CARD OF 'laws.FnExactSubmoduleOf'. -/
def fnExactSubmoduleOfUptoCard : Claim7 := { stood := { row := fnExactSubmoduleOfUptoRow, standIns := [], harness := (true, "4c6fecdfe7b3ce884500d12ceda3c5d1c231f4ca23e4372df30f916004a18b2c"), looks := false }, kinds := [], alts := [], laidByText := true, laidKinds := [.data], laidTests := true, laidLooks := .later }
def FnExactSubmoduleOfUptoCardSaid : Prop := Claim7.holds Tryz.pinned (.plain (OpenSpec.upto fnExactSubmoduleOfSpec)) fnExactSubmoduleOfUptoCard

/-- THE SECOND FORM's CARD OF 'laws.FnExactQuotientBy'. -/
def fnExactQuotientByUptoCard : Claim7 := { stood := { row := fnExactQuotientByUptoRow, standIns := [], harness := (true, "4c6fecdfe7b3ce884500d12ceda3c5d1c231f4ca23e4372df30f916004a18b2c"), looks := false }, kinds := [], alts := [], laidByText := true, laidKinds := [.data], laidTests := true, laidLooks := .later }
def FnExactQuotientByUptoCardSaid : Prop := Claim7.holds Tryz.pinned (.plain (OpenSpec.upto fnExactQuotientBySpec)) fnExactQuotientByUptoCard
end Rows
end Go.Proofs.YtpchigdhnnkpcaaGreatDoor
