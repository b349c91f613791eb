/-
  DERIVED. GIVEN WITH THE SEED: THE CARDS: each row of YtidjnfjpdnjogaaDoorRows.lean that lists a variable, with what it lists TIED to the program's text (the seventh form; the later family's looks); each row that meets fmt, with fmt's text TOLD by the authors' own Lean function (tested against real Go, not proved from fmt's source: count such statements apart). THE CARD IS WHAT COUNTS. Prove the row's statement (the work); the ties are given (YtidjnfjpdnjogaaDoorTie.lean); close each card by the builder's one call (the guide's Derived/Test/ToyasCard.lean, 'card_holds'). Laid BY PROGRAM, IN A SANDBOX (cutbox-door.mjs). By AI agents, Wed Nov 11 2026. No macro, syntax, notation, axiom, sorry.
-/
import Derived.Test.YtidjnfjpdnjogaaDoorRows
import GoSem.ClaimSeven
namespace Go.Proofs.YtidjnfjpdnjogaaDoor
namespace Rows

/-- THE TIED CARD OF 'chroniclelaw5.ProgEdges'. -/
def progEdgesCard : Claim7 := { stood := { row := progEdgesRow, standIns := [], harness := (true, "fb0beb3242f9e1ee115638e181e82389cfbd66a0f20fe5ffa87eb74ab8a2d057"), looks := true }, kinds := [], alts := [], laidByText := true, laidKinds := [.data, .pinned], laidTests := true, laidLooks := .later }
def ProgEdgesCardSaid : Prop := Claim7.holds Tryd.pinned (.plain (OpenSpec.ofChange progEdgesSpec)) progEdgesCard

/-- THE TIED CARD OF 'chroniclelaw5.ProgStack'. -/
def progStackCard : Claim7 := { stood := { row := progStackRow, standIns := [], harness := (true, "fb0beb3242f9e1ee115638e181e82389cfbd66a0f20fe5ffa87eb74ab8a2d057"), looks := true }, kinds := [], alts := [], laidByText := true, laidKinds := [.data, .pinned], laidTests := true, laidLooks := .later }
def ProgStackCardSaid : Prop := Claim7.holds Tryd.pinned (.plain (OpenSpec.ofChange progStackSpec)) progStackCard

/-- THE TIED CARD OF 'chroniclelaw5.ProgPicks'. -/
def progPicksCard : Claim7 := { stood := { row := progPicksRow, standIns := [], harness := (true, "fb0beb3242f9e1ee115638e181e82389cfbd66a0f20fe5ffa87eb74ab8a2d057"), looks := true }, kinds := [], alts := [], laidByText := true, laidKinds := [.data, .pinned], laidTests := true, laidLooks := .later }
def ProgPicksCardSaid : Prop := Claim7.holds Tryd.pinned (.plain (OpenSpec.ofChange progPicksSpec)) progPicksCard

/-- THE TIED CARD OF 'chroniclelaw5.ProgFails'. -/
def progFailsCard : Claim7 := { stood := { row := progFailsRow, standIns := [], harness := (true, "fb0beb3242f9e1ee115638e181e82389cfbd66a0f20fe5ffa87eb74ab8a2d057"), looks := true }, kinds := [], alts := [], laidByText := true, laidKinds := [.data, .pinned], laidTests := true, laidLooks := .later }
def ProgFailsCardSaid : Prop := Claim7.holds Tryd.pinned (.plain (OpenSpec.ofChange progFailsSpec)) progFailsCard

/-- THE TIED CARD OF 'chroniclelaw5.ProgFolds'. -/
def progFoldsCard : Claim7 := { stood := { row := progFoldsRow, standIns := [], harness := (true, "fb0beb3242f9e1ee115638e181e82389cfbd66a0f20fe5ffa87eb74ab8a2d057"), looks := true }, kinds := [], alts := [], laidByText := true, laidKinds := [.data, .pinned], laidTests := true, laidLooks := .later }
def ProgFoldsCardSaid : Prop := Claim7.holds Tryd.pinned (.plain (OpenSpec.ofChange progFoldsSpec)) progFoldsCard

/-- THE SECOND FORM's CARD OF 'chroniclelaw5.ProgEdges'. -/
def progEdgesUptoCard : Claim7 := { stood := { row := progEdgesUptoRow, standIns := [], harness := (true, "fb0beb3242f9e1ee115638e181e82389cfbd66a0f20fe5ffa87eb74ab8a2d057"), looks := true }, kinds := [], alts := [], laidByText := true, laidKinds := [.data, .pinned], laidTests := true, laidLooks := .later }
def ProgEdgesUptoCardSaid : Prop := Claim7.holds Tryd.pinned (.plain (OpenSpec.upto progEdgesSpec)) progEdgesUptoCard

/-- THE SECOND FORM's CARD OF 'chroniclelaw5.ProgStack'. -/
def progStackUptoCard : Claim7 := { stood := { row := progStackUptoRow, standIns := [], harness := (true, "fb0beb3242f9e1ee115638e181e82389cfbd66a0f20fe5ffa87eb74ab8a2d057"), looks := true }, kinds := [], alts := [], laidByText := true, laidKinds := [.data, .pinned], laidTests := true, laidLooks := .later }
def ProgStackUptoCardSaid : Prop := Claim7.holds Tryd.pinned (.plain (OpenSpec.upto progStackSpec)) progStackUptoCard

/-- THE SECOND FORM's CARD OF 'chroniclelaw5.ProgPicks'. -/
def progPicksUptoCard : Claim7 := { stood := { row := progPicksUptoRow, standIns := [], harness := (true, "fb0beb3242f9e1ee115638e181e82389cfbd66a0f20fe5ffa87eb74ab8a2d057"), looks := true }, kinds := [], alts := [], laidByText := true, laidKinds := [.data, .pinned], laidTests := true, laidLooks := .later }
def ProgPicksUptoCardSaid : Prop := Claim7.holds Tryd.pinned (.plain (OpenSpec.upto progPicksSpec)) progPicksUptoCard

/-- THE SECOND FORM's CARD OF 'chroniclelaw5.ProgFails'. -/
def progFailsUptoCard : Claim7 := { stood := { row := progFailsUptoRow, standIns := [], harness := (true, "fb0beb3242f9e1ee115638e181e82389cfbd66a0f20fe5ffa87eb74ab8a2d057"), looks := true }, kinds := [], alts := [], laidByText := true, laidKinds := [.data, .pinned], laidTests := true, laidLooks := .later }
def ProgFailsUptoCardSaid : Prop := Claim7.holds Tryd.pinned (.plain (OpenSpec.upto progFailsSpec)) progFailsUptoCard

/-- THE SECOND FORM's CARD OF 'chroniclelaw5.ProgFolds'. -/
def progFoldsUptoCard : Claim7 := { stood := { row := progFoldsUptoRow, standIns := [], harness := (true, "fb0beb3242f9e1ee115638e181e82389cfbd66a0f20fe5ffa87eb74ab8a2d057"), looks := true }, kinds := [], alts := [], laidByText := true, laidKinds := [.data, .pinned], laidTests := true, laidLooks := .later }
def ProgFoldsUptoCardSaid : Prop := Claim7.holds Tryd.pinned (.plain (OpenSpec.upto progFoldsSpec)) progFoldsUptoCard
end Rows
end Go.Proofs.YtidjnfjpdnjogaaDoor
