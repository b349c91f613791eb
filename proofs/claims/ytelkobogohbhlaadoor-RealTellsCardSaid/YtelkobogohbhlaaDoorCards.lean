/-
  DERIVED. GIVEN WITH THE SEED: THE CARDS: each row of YtelkobogohbhlaaDoorRows.lean that lists a variable, with what it lists TIED to the program's text (the seventh form; the later family's looks); each row that meets fmt, with fmt's text TOLD by the authors' own Lean function (tested against real Go, not proved from fmt's source: count such statements apart). THE CARD IS WHAT COUNTS. Prove the row's statement (the work); the ties are given (YtelkobogohbhlaaDoorTie.lean); close each card by the builder's one call (the guide's Derived/Test/ToyasCard.lean, 'card_holds'). Laid BY PROGRAM, IN A SANDBOX (cutbox-door.mjs). By AI agents, Wed Nov 11 2026. No macro, syntax, notation, axiom, sorry.
-/
import Derived.Test.YtelkobogohbhlaaDoorRows
import GoSem.ClaimSeven
namespace Go.Proofs.YtelkobogohbhlaaDoor
namespace Rows

/-- THE TIED CARD OF 'chroniclelaw3.RealTells'. -/
def realTellsCard : Claim7 := { stood := { row := realTellsRow, standIns := [], harness := (true, "a3ed88a52fa89c14bb7c247c68f2945d071920fccff40407a27b84d2d0d33559"), looks := false }, kinds := [], alts := [], laidByText := true, laidKinds := [.data, .data, .data], laidTests := true, laidLooks := .later }
def RealTellsCardSaid : Prop := Claim7.holds Tryd.pinned (.plain (OpenSpec.ofChange realTellsSpec)) realTellsCard

/-- THE TIED CARD OF 'chroniclelaw3.RealTotal'. -/
def realTotalCard : Claim7 := { stood := { row := realTotalRow, standIns := [], harness := (true, "a3ed88a52fa89c14bb7c247c68f2945d071920fccff40407a27b84d2d0d33559"), looks := false }, kinds := [], alts := [], laidByText := true, laidKinds := [.data, .data, .data], laidTests := true, laidLooks := .later }
def RealTotalCardSaid : Prop := Claim7.holds Tryd.pinned (.plain (OpenSpec.ofChange realTotalSpec)) realTotalCard

/-- THE TIED CARD OF 'chroniclelaw3.RealBack'. -/
def realBackCard : Claim7 := { stood := { row := realBackRow, standIns := [], harness := (true, "a3ed88a52fa89c14bb7c247c68f2945d071920fccff40407a27b84d2d0d33559"), looks := false }, kinds := [], alts := [], laidByText := true, laidKinds := [.data, .data, .data], laidTests := true, laidLooks := .later }
def RealBackCardSaid : Prop := Claim7.holds Tryd.pinned (.plain (OpenSpec.ofChange realBackSpec)) realBackCard

/-- THE TIED CARD OF 'chroniclelaw3.RealPlain'. -/
def realPlainCard : Claim7 := { stood := { row := realPlainRow, standIns := [], harness := (true, "a3ed88a52fa89c14bb7c247c68f2945d071920fccff40407a27b84d2d0d33559"), looks := false }, kinds := [], alts := [], laidByText := true, laidKinds := [.data, .data, .data], laidTests := true, laidLooks := .later }
def RealPlainCardSaid : Prop := Claim7.holds Tryd.pinned (.plain (OpenSpec.ofChange realPlainSpec)) realPlainCard

/-- THE TIED CARD OF 'chroniclelaw3.RealBits'. -/
def realBitsCard : Claim7 := { stood := { row := realBitsRow, standIns := [], harness := (true, "a3ed88a52fa89c14bb7c247c68f2945d071920fccff40407a27b84d2d0d33559"), looks := false }, kinds := [], alts := [], laidByText := true, laidKinds := [.data, .data, .data], laidTests := true, laidLooks := .later }
def RealBitsCardSaid : Prop := Claim7.holds Tryd.pinned (.plain (OpenSpec.ofChange realBitsSpec)) realBitsCard

/-- THE TIED CARD OF 'chroniclelaw3.RealSums'. -/
def realSumsCard : Claim7 := { stood := { row := realSumsRow, standIns := [], harness := (true, "a3ed88a52fa89c14bb7c247c68f2945d071920fccff40407a27b84d2d0d33559"), looks := false }, kinds := [], alts := [], laidByText := true, laidKinds := [.data, .data, .data], laidTests := true, laidLooks := .later }
def RealSumsCardSaid : Prop := Claim7.holds Tryd.pinned (.plain (OpenSpec.ofChange realSumsSpec)) realSumsCard

/-- THE TIED CARD OF 'chroniclelaw3.RealSigns'. -/
def realSignsCard : Claim7 := { stood := { row := realSignsRow, standIns := [], harness := (true, "a3ed88a52fa89c14bb7c247c68f2945d071920fccff40407a27b84d2d0d33559"), looks := false }, kinds := [], alts := [], laidByText := true, laidKinds := [.data, .data, .data], laidTests := true, laidLooks := .later }
def RealSignsCardSaid : Prop := Claim7.holds Tryd.pinned (.plain (OpenSpec.ofChange realSignsSpec)) realSignsCard

/-- THE TIED CARD OF 'chroniclelaw3.RealEdges'. -/
def realEdgesCard : Claim7 := { stood := { row := realEdgesRow, standIns := [], harness := (true, "a3ed88a52fa89c14bb7c247c68f2945d071920fccff40407a27b84d2d0d33559"), looks := false }, kinds := [], alts := [], laidByText := true, laidKinds := [.data, .data, .data], laidTests := true, laidLooks := .later }
def RealEdgesCardSaid : Prop := Claim7.holds Tryd.pinned (.plain (OpenSpec.ofChange realEdgesSpec)) realEdgesCard

/-- THE TIED CARD OF 'chroniclelaw3.RealParts'. -/
def realPartsCard : Claim7 := { stood := { row := realPartsRow, standIns := [], harness := (true, "a3ed88a52fa89c14bb7c247c68f2945d071920fccff40407a27b84d2d0d33559"), looks := false }, kinds := [], alts := [], laidByText := true, laidKinds := [.data, .data, .data], laidTests := true, laidLooks := .later }
def RealPartsCardSaid : Prop := Claim7.holds Tryd.pinned (.plain (OpenSpec.ofChange realPartsSpec)) realPartsCard

/-- THE SECOND FORM's CARD OF 'chroniclelaw3.RealTells'. -/
def realTellsUptoCard : Claim7 := { stood := { row := realTellsUptoRow, standIns := [], harness := (true, "a3ed88a52fa89c14bb7c247c68f2945d071920fccff40407a27b84d2d0d33559"), looks := false }, kinds := [], alts := [], laidByText := true, laidKinds := [.data, .data, .data], laidTests := true, laidLooks := .later }
def RealTellsUptoCardSaid : Prop := Claim7.holds Tryd.pinned (.plain (OpenSpec.upto realTellsSpec)) realTellsUptoCard

/-- THE SECOND FORM's CARD OF 'chroniclelaw3.RealTotal'. -/
def realTotalUptoCard : Claim7 := { stood := { row := realTotalUptoRow, standIns := [], harness := (true, "a3ed88a52fa89c14bb7c247c68f2945d071920fccff40407a27b84d2d0d33559"), looks := false }, kinds := [], alts := [], laidByText := true, laidKinds := [.data, .data, .data], laidTests := true, laidLooks := .later }
def RealTotalUptoCardSaid : Prop := Claim7.holds Tryd.pinned (.plain (OpenSpec.upto realTotalSpec)) realTotalUptoCard

/-- THE SECOND FORM's CARD OF 'chroniclelaw3.RealBack'. -/
def realBackUptoCard : Claim7 := { stood := { row := realBackUptoRow, standIns := [], harness := (true, "a3ed88a52fa89c14bb7c247c68f2945d071920fccff40407a27b84d2d0d33559"), looks := false }, kinds := [], alts := [], laidByText := true, laidKinds := [.data, .data, .data], laidTests := true, laidLooks := .later }
def RealBackUptoCardSaid : Prop := Claim7.holds Tryd.pinned (.plain (OpenSpec.upto realBackSpec)) realBackUptoCard

/-- THE SECOND FORM's CARD OF 'chroniclelaw3.RealPlain'. -/
def realPlainUptoCard : Claim7 := { stood := { row := realPlainUptoRow, standIns := [], harness := (true, "a3ed88a52fa89c14bb7c247c68f2945d071920fccff40407a27b84d2d0d33559"), looks := false }, kinds := [], alts := [], laidByText := true, laidKinds := [.data, .data, .data], laidTests := true, laidLooks := .later }
def RealPlainUptoCardSaid : Prop := Claim7.holds Tryd.pinned (.plain (OpenSpec.upto realPlainSpec)) realPlainUptoCard

/-- THE SECOND FORM's CARD OF 'chroniclelaw3.RealBits'. -/
def realBitsUptoCard : Claim7 := { stood := { row := realBitsUptoRow, standIns := [], harness := (true, "a3ed88a52fa89c14bb7c247c68f2945d071920fccff40407a27b84d2d0d33559"), looks := false }, kinds := [], alts := [], laidByText := true, laidKinds := [.data, .data, .data], laidTests := true, laidLooks := .later }
def RealBitsUptoCardSaid : Prop := Claim7.holds Tryd.pinned (.plain (OpenSpec.upto realBitsSpec)) realBitsUptoCard

/-- THE SECOND FORM's CARD OF 'chroniclelaw3.RealSums'. -/
def realSumsUptoCard : Claim7 := { stood := { row := realSumsUptoRow, standIns := [], harness := (true, "a3ed88a52fa89c14bb7c247c68f2945d071920fccff40407a27b84d2d0d33559"), looks := false }, kinds := [], alts := [], laidByText := true, laidKinds := [.data, .data, .data], laidTests := true, laidLooks := .later }
def RealSumsUptoCardSaid : Prop := Claim7.holds Tryd.pinned (.plain (OpenSpec.upto realSumsSpec)) realSumsUptoCard

/-- THE SECOND FORM's CARD OF 'chroniclelaw3.RealSigns'. -/
def realSignsUptoCard : Claim7 := { stood := { row := realSignsUptoRow, standIns := [], harness := (true, "a3ed88a52fa89c14bb7c247c68f2945d071920fccff40407a27b84d2d0d33559"), looks := false }, kinds := [], alts := [], laidByText := true, laidKinds := [.data, .data, .data], laidTests := true, laidLooks := .later }
def RealSignsUptoCardSaid : Prop := Claim7.holds Tryd.pinned (.plain (OpenSpec.upto realSignsSpec)) realSignsUptoCard

/-- THE SECOND FORM's CARD OF 'chroniclelaw3.RealEdges'. -/
def realEdgesUptoCard : Claim7 := { stood := { row := realEdgesUptoRow, standIns := [], harness := (true, "a3ed88a52fa89c14bb7c247c68f2945d071920fccff40407a27b84d2d0d33559"), looks := false }, kinds := [], alts := [], laidByText := true, laidKinds := [.data, .data, .data], laidTests := true, laidLooks := .later }
def RealEdgesUptoCardSaid : Prop := Claim7.holds Tryd.pinned (.plain (OpenSpec.upto realEdgesSpec)) realEdgesUptoCard

/-- THE SECOND FORM's CARD OF 'chroniclelaw3.RealParts'. -/
def realPartsUptoCard : Claim7 := { stood := { row := realPartsUptoRow, standIns := [], harness := (true, "a3ed88a52fa89c14bb7c247c68f2945d071920fccff40407a27b84d2d0d33559"), looks := false }, kinds := [], alts := [], laidByText := true, laidKinds := [.data, .data, .data], laidTests := true, laidLooks := .later }
def RealPartsUptoCardSaid : Prop := Claim7.holds Tryd.pinned (.plain (OpenSpec.upto realPartsSpec)) realPartsUptoCard
end Rows
end Go.Proofs.YtelkobogohbhlaaDoor
