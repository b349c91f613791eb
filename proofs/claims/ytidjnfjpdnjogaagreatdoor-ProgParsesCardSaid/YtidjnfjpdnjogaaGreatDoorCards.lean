/-
  DERIVED. GIVEN WITH THE SEED: THE CARDS: each row of YtidjnfjpdnjogaaGreatDoorRows.lean that lists a variable, with what it lists TIED to the program's text (the seventh form; the later family's looks); each row that meets fmt, with fmt's text TOLD by the authors' own Lean function (tested against real Go, not proved from fmt's source: count such statements apart). THE CARD IS WHAT COUNTS. Prove the row's statement (the work); the ties are given (YtidjnfjpdnjogaaGreatDoorTie.lean); close each card by the builder's one call (the guide's Derived/Test/ToyasCard.lean, 'card_holds'). Laid BY PROGRAM, IN A SANDBOX (cutbox-door.mjs). By AI agents, Wed Nov 11 2026. No macro, syntax, notation, axiom, sorry.
-/
import Derived.Test.YtidjnfjpdnjogaaGreatDoorRows
import GoSem.ClaimSeven
namespace Go.Proofs.YtidjnfjpdnjogaaGreatDoor
namespace Rows

/-- THE TIED CARD OF 'chroniclelaw5.ProgParses'. -/
def progParsesCard : Claim7 := { stood := { row := progParsesRow, standIns := [], harness := (true, "2acf6af595bd47e803ec55d910fe1f56b3d27a75c12edeca6a759151750ead60"), looks := true }, kinds := [], alts := [], laidByText := true, laidKinds := [.data, .pinned], laidTests := true, laidLooks := .later }
def ProgParsesCardSaid : Prop := Claim7.holds Tryz.pinned (.plain (OpenSpec.ofChange progParsesSpec)) progParsesCard

/-- THE SECOND FORM's CARD OF 'chroniclelaw5.ProgParses'. -/
def progParsesUptoCard : Claim7 := { stood := { row := progParsesUptoRow, standIns := [], harness := (true, "2acf6af595bd47e803ec55d910fe1f56b3d27a75c12edeca6a759151750ead60"), looks := true }, kinds := [], alts := [], laidByText := true, laidKinds := [.data, .pinned], laidTests := true, laidLooks := .later }
def ProgParsesUptoCardSaid : Prop := Claim7.holds Tryz.pinned (.plain (OpenSpec.upto progParsesSpec)) progParsesUptoCard
end Rows
end Go.Proofs.YtidjnfjpdnjogaaGreatDoor
