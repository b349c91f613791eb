/-
  DERIVED. GIVEN WITH THE SEED: THE CARDS: each row of YtganeocegdkddaaDoorRows.lean that lists a variable, with what it lists TIED to the program's text (the seventh form; the later family's looks); each row that meets fmt, with fmt's text TOLD by the authors' own Lean function (tested against real Go, not proved from fmt's source: count such statements apart). THE CARD IS WHAT COUNTS. Prove the row's statement (the work); the ties are given (YtganeocegdkddaaDoorTie.lean); close each card by the builder's one call (the guide's Derived/Test/ToyasCard.lean, 'card_holds'). Laid BY PROGRAM, IN A SANDBOX (cutbox-door.mjs). By AI agents, Wed Nov 11 2026. No macro, syntax, notation, axiom, sorry.
-/
import Derived.Test.YtganeocegdkddaaDoorRows
import GoSem.ClaimSeven
namespace Go.Proofs.YtganeocegdkddaaDoor
namespace Rows

/-- THE TIED CARD OF 'chroniclelaw1.CodecSizes'. -/
def codecSizesCard : Claim7 := { stood := { row := codecSizesRow, standIns := [], harness := (true, "1be40983df7f0377f84fcf9b40c24d979916549b14961ec19b66d9a748aaaacd"), looks := false }, kinds := [], alts := [], laidByText := true, laidKinds := [.data, .data, .data], laidTests := true, laidLooks := .later }
def CodecSizesCardSaid : Prop := Claim7.holds Tryd.pinned (.plain (OpenSpec.ofChange codecSizesSpec)) codecSizesCard

/-- THE TIED CARD OF 'chroniclelaw1.CodecEnds'. -/
def codecEndsCard : Claim7 := { stood := { row := codecEndsRow, standIns := [], harness := (true, "1be40983df7f0377f84fcf9b40c24d979916549b14961ec19b66d9a748aaaacd"), looks := false }, kinds := [], alts := [], laidByText := true, laidKinds := [.data, .data, .data], laidTests := true, laidLooks := .later }
def CodecEndsCardSaid : Prop := Claim7.holds Tryd.pinned (.plain (OpenSpec.ofChange codecEndsSpec)) codecEndsCard

/-- THE TIED CARD OF 'chroniclelaw1.CodecCuts'. -/
def codecCutsCard : Claim7 := { stood := { row := codecCutsRow, standIns := [], harness := (true, "1be40983df7f0377f84fcf9b40c24d979916549b14961ec19b66d9a748aaaacd"), looks := false }, kinds := [], alts := [], laidByText := true, laidKinds := [.data, .data, .data], laidTests := true, laidLooks := .later }
def CodecCutsCardSaid : Prop := Claim7.holds Tryd.pinned (.plain (OpenSpec.ofChange codecCutsSpec)) codecCutsCard

/-- THE TIED CARD OF 'chroniclelaw1.CodecFirst'. -/
def codecFirstCard : Claim7 := { stood := { row := codecFirstRow, standIns := [], harness := (true, "1be40983df7f0377f84fcf9b40c24d979916549b14961ec19b66d9a748aaaacd"), looks := false }, kinds := [], alts := [], laidByText := true, laidKinds := [.data, .data, .data], laidTests := true, laidLooks := .later }
def CodecFirstCardSaid : Prop := Claim7.holds Tryd.pinned (.plain (OpenSpec.ofChange codecFirstSpec)) codecFirstCard

/-- THE TIED CARD OF 'chroniclelaw1.CodecWrites'. -/
def codecWritesCard : Claim7 := { stood := { row := codecWritesRow, standIns := [], harness := (true, "1be40983df7f0377f84fcf9b40c24d979916549b14961ec19b66d9a748aaaacd"), looks := false }, kinds := [], alts := [], laidByText := true, laidKinds := [.data, .data, .data], laidTests := true, laidLooks := .later }
def CodecWritesCardSaid : Prop := Claim7.holds Tryd.pinned (.plain (OpenSpec.ofChange codecWritesSpec)) codecWritesCard

/-- THE TIED CARD OF 'chroniclelaw1.CodecReads'. -/
def codecReadsCard : Claim7 := { stood := { row := codecReadsRow, standIns := [], harness := (true, "1be40983df7f0377f84fcf9b40c24d979916549b14961ec19b66d9a748aaaacd"), looks := false }, kinds := [], alts := [], laidByText := true, laidKinds := [.data, .data, .data], laidTests := true, laidLooks := .later }
def CodecReadsCardSaid : Prop := Claim7.holds Tryd.pinned (.plain (OpenSpec.ofChange codecReadsSpec)) codecReadsCard

/-- THE TIED CARD OF 'chroniclelaw1.CodecDigits'. -/
def codecDigitsCard : Claim7 := { stood := { row := codecDigitsRow, standIns := [], harness := (true, "1be40983df7f0377f84fcf9b40c24d979916549b14961ec19b66d9a748aaaacd"), looks := false }, kinds := [], alts := [], laidByText := true, laidKinds := [.data, .data, .data], laidTests := true, laidLooks := .later }
def CodecDigitsCardSaid : Prop := Claim7.holds Tryd.pinned (.plain (OpenSpec.ofChange codecDigitsSpec)) codecDigitsCard

/-- THE TIED CARD OF 'chroniclelaw1.CodecNumbers'. -/
def codecNumbersCard : Claim7 := { stood := { row := codecNumbersRow, standIns := [], harness := (true, "1be40983df7f0377f84fcf9b40c24d979916549b14961ec19b66d9a748aaaacd"), looks := false }, kinds := [], alts := [], laidByText := true, laidKinds := [.data, .data, .data], laidTests := true, laidLooks := .later }
def CodecNumbersCardSaid : Prop := Claim7.holds Tryd.pinned (.plain (OpenSpec.ofChange codecNumbersSpec)) codecNumbersCard

/-- THE TIED CARD OF 'chroniclelaw1.CodecBack'. -/
def codecBackCard : Claim7 := { stood := { row := codecBackRow, standIns := [], harness := (true, "1be40983df7f0377f84fcf9b40c24d979916549b14961ec19b66d9a748aaaacd"), looks := false }, kinds := [], alts := [], laidByText := true, laidKinds := [.data, .data, .data], laidTests := true, laidLooks := .later }
def CodecBackCardSaid : Prop := Claim7.holds Tryd.pinned (.plain (OpenSpec.ofChange codecBackSpec)) codecBackCard

/-- THE TIED CARD OF 'chroniclelaw1.CodecNone'. -/
def codecNoneCard : Claim7 := { stood := { row := codecNoneRow, standIns := [], harness := (true, "1be40983df7f0377f84fcf9b40c24d979916549b14961ec19b66d9a748aaaacd"), looks := false }, kinds := [], alts := [], laidByText := true, laidKinds := [.data, .data, .data], laidTests := true, laidLooks := .later }
def CodecNoneCardSaid : Prop := Claim7.holds Tryd.pinned (.plain (OpenSpec.ofChange codecNoneSpec)) codecNoneCard

/-- THE SECOND FORM's CARD OF 'chroniclelaw1.CodecSizes'. -/
def codecSizesUptoCard : Claim7 := { stood := { row := codecSizesUptoRow, standIns := [], harness := (true, "1be40983df7f0377f84fcf9b40c24d979916549b14961ec19b66d9a748aaaacd"), looks := false }, kinds := [], alts := [], laidByText := true, laidKinds := [.data, .data, .data], laidTests := true, laidLooks := .later }
def CodecSizesUptoCardSaid : Prop := Claim7.holds Tryd.pinned (.plain (OpenSpec.upto codecSizesSpec)) codecSizesUptoCard

/-- THE SECOND FORM's CARD OF 'chroniclelaw1.CodecEnds'. -/
def codecEndsUptoCard : Claim7 := { stood := { row := codecEndsUptoRow, standIns := [], harness := (true, "1be40983df7f0377f84fcf9b40c24d979916549b14961ec19b66d9a748aaaacd"), looks := false }, kinds := [], alts := [], laidByText := true, laidKinds := [.data, .data, .data], laidTests := true, laidLooks := .later }
def CodecEndsUptoCardSaid : Prop := Claim7.holds Tryd.pinned (.plain (OpenSpec.upto codecEndsSpec)) codecEndsUptoCard

/-- THE SECOND FORM's CARD OF 'chroniclelaw1.CodecCuts'. -/
def codecCutsUptoCard : Claim7 := { stood := { row := codecCutsUptoRow, standIns := [], harness := (true, "1be40983df7f0377f84fcf9b40c24d979916549b14961ec19b66d9a748aaaacd"), looks := false }, kinds := [], alts := [], laidByText := true, laidKinds := [.data, .data, .data], laidTests := true, laidLooks := .later }
def CodecCutsUptoCardSaid : Prop := Claim7.holds Tryd.pinned (.plain (OpenSpec.upto codecCutsSpec)) codecCutsUptoCard

/-- THE SECOND FORM's CARD OF 'chroniclelaw1.CodecFirst'. -/
def codecFirstUptoCard : Claim7 := { stood := { row := codecFirstUptoRow, standIns := [], harness := (true, "1be40983df7f0377f84fcf9b40c24d979916549b14961ec19b66d9a748aaaacd"), looks := false }, kinds := [], alts := [], laidByText := true, laidKinds := [.data, .data, .data], laidTests := true, laidLooks := .later }
def CodecFirstUptoCardSaid : Prop := Claim7.holds Tryd.pinned (.plain (OpenSpec.upto codecFirstSpec)) codecFirstUptoCard

/-- THE SECOND FORM's CARD OF 'chroniclelaw1.CodecWrites'. -/
def codecWritesUptoCard : Claim7 := { stood := { row := codecWritesUptoRow, standIns := [], harness := (true, "1be40983df7f0377f84fcf9b40c24d979916549b14961ec19b66d9a748aaaacd"), looks := false }, kinds := [], alts := [], laidByText := true, laidKinds := [.data, .data, .data], laidTests := true, laidLooks := .later }
def CodecWritesUptoCardSaid : Prop := Claim7.holds Tryd.pinned (.plain (OpenSpec.upto codecWritesSpec)) codecWritesUptoCard

/-- THE SECOND FORM's CARD OF 'chroniclelaw1.CodecReads'. -/
def codecReadsUptoCard : Claim7 := { stood := { row := codecReadsUptoRow, standIns := [], harness := (true, "1be40983df7f0377f84fcf9b40c24d979916549b14961ec19b66d9a748aaaacd"), looks := false }, kinds := [], alts := [], laidByText := true, laidKinds := [.data, .data, .data], laidTests := true, laidLooks := .later }
def CodecReadsUptoCardSaid : Prop := Claim7.holds Tryd.pinned (.plain (OpenSpec.upto codecReadsSpec)) codecReadsUptoCard

/-- THE SECOND FORM's CARD OF 'chroniclelaw1.CodecDigits'. -/
def codecDigitsUptoCard : Claim7 := { stood := { row := codecDigitsUptoRow, standIns := [], harness := (true, "1be40983df7f0377f84fcf9b40c24d979916549b14961ec19b66d9a748aaaacd"), looks := false }, kinds := [], alts := [], laidByText := true, laidKinds := [.data, .data, .data], laidTests := true, laidLooks := .later }
def CodecDigitsUptoCardSaid : Prop := Claim7.holds Tryd.pinned (.plain (OpenSpec.upto codecDigitsSpec)) codecDigitsUptoCard

/-- THE SECOND FORM's CARD OF 'chroniclelaw1.CodecNumbers'. -/
def codecNumbersUptoCard : Claim7 := { stood := { row := codecNumbersUptoRow, standIns := [], harness := (true, "1be40983df7f0377f84fcf9b40c24d979916549b14961ec19b66d9a748aaaacd"), looks := false }, kinds := [], alts := [], laidByText := true, laidKinds := [.data, .data, .data], laidTests := true, laidLooks := .later }
def CodecNumbersUptoCardSaid : Prop := Claim7.holds Tryd.pinned (.plain (OpenSpec.upto codecNumbersSpec)) codecNumbersUptoCard

/-- THE SECOND FORM's CARD OF 'chroniclelaw1.CodecBack'. -/
def codecBackUptoCard : Claim7 := { stood := { row := codecBackUptoRow, standIns := [], harness := (true, "1be40983df7f0377f84fcf9b40c24d979916549b14961ec19b66d9a748aaaacd"), looks := false }, kinds := [], alts := [], laidByText := true, laidKinds := [.data, .data, .data], laidTests := true, laidLooks := .later }
def CodecBackUptoCardSaid : Prop := Claim7.holds Tryd.pinned (.plain (OpenSpec.upto codecBackSpec)) codecBackUptoCard

/-- THE SECOND FORM's CARD OF 'chroniclelaw1.CodecNone'. -/
def codecNoneUptoCard : Claim7 := { stood := { row := codecNoneUptoRow, standIns := [], harness := (true, "1be40983df7f0377f84fcf9b40c24d979916549b14961ec19b66d9a748aaaacd"), looks := false }, kinds := [], alts := [], laidByText := true, laidKinds := [.data, .data, .data], laidTests := true, laidLooks := .later }
def CodecNoneUptoCardSaid : Prop := Claim7.holds Tryd.pinned (.plain (OpenSpec.upto codecNoneSpec)) codecNoneUptoCard
end Rows
end Go.Proofs.YtganeocegdkddaaDoor
