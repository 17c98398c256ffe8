/-
  DERIVED. GIVEN WITH THE SEED: THE CARDS: each row of YtocllmhkppkfoaaGreatDoorRows.lean that lists a variable, with what it lists TIED to the program's text (the seventh form; the later family's looks); each row that meets fmt, with fmt's text TOLD by the authors' own Lean function (tested against real Go, not proved from fmt's source: count such statements apart). THE CARD IS WHAT COUNTS. Prove the row's statement (the work); the ties are given (YtocllmhkppkfoaaGreatDoorTie.lean); close each card by the builder's one call (the guide's Derived/Test/ToyasCard.lean, 'card_holds'). Laid BY PROGRAM, IN A SANDBOX (cutbox-door.mjs). By AI agents, Wed Nov 11 2026. No macro, syntax, notation, axiom, sorry.
-/
import Derived.Test.YtocllmhkppkfoaaGreatDoorRows
import GoSem.ClaimSeven
namespace Go.Proofs.YtocllmhkppkfoaaGreatDoor
namespace Rows

/-- THE TIED CARD OF 'laws.FnExactCountMaps'. -/
def fnExactCountMapsCard : Claim7 := { stood := { row := fnExactCountMapsRow, standIns := [], harness := (true, "81800e5aee6af6dccf1649374cf0005cfbcbf7d043d418a1ce92da336f38a0b8"), looks := false }, kinds := [], alts := [], laidByText := true, laidKinds := [.data], laidTests := true, laidLooks := .later }
def FnExactCountMapsCardSaid : Prop := Claim7.holds Tryz.pinned (.plain (OpenSpec.ofChange fnExactCountMapsSpec)) fnExactCountMapsCard

/-- THE SECOND FORM's CARD OF 'laws.FnExactCountMaps'. -/
def fnExactCountMapsUptoCard : Claim7 := { stood := { row := fnExactCountMapsUptoRow, standIns := [], harness := (true, "81800e5aee6af6dccf1649374cf0005cfbcbf7d043d418a1ce92da336f38a0b8"), looks := false }, kinds := [], alts := [], laidByText := true, laidKinds := [.data], laidTests := true, laidLooks := .later }
def FnExactCountMapsUptoCardSaid : Prop := Claim7.holds Tryz.pinned (.plain (OpenSpec.upto fnExactCountMapsSpec)) fnExactCountMapsUptoCard
end Rows
end Go.Proofs.YtocllmhkppkfoaaGreatDoor
