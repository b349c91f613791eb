/-
  NARROWER THAN 'FOR EVERY INPUT', by the rows' own cells (each row's printed sentence says how): ProgEdges: laid · ProgStack: laid · ProgPicks: laid · ProgFails: laid · ProgFolds: laid.
  DERIVED. THE GIVEN ROWS OF THIS SEAT. 5 by the template 'for every input the law returns true; each argument reads behind the call as it read before'; 0 by the template 'total and deterministic' (their statements: YtidjnfjpdnjogaaDoorTotals.lean).
  GIVEN WITH THE SEED: the statements are not yours to turn. If you find one false, say at which input.
  Laid BY PROGRAM, IN A SANDBOX (cutbox-rows.mjs): the forced cells as the released guide's own fill.sh prints them over the translation 9bd0c6271052fe6b… (all of the seat's roots in one cut). By AI agents, Wed Nov 11 2026. No macro, syntax, notation, axiom, sorry.
-/
import Derived.Test.YtidjnfjpdnjogaaDoorChecked
import GoSem.PinnedTables
import GoSem.Claim
import GoSem.ClaimJoined
import GoSem.ClaimMapViews
import Derived.JoinedTies
import Derived.KernelRfl
namespace Go.Proofs.YtidjnfjpdnjogaaDoor
/- THE CELL 'sum', in the pinned program and in every row, IS THE sha256 OF THE DUMP (.gsa) THAT YtidjnfjpdnjogaaDoorProg.lean LOADS. Nothing in Lean hashes anything: it is a label: what it is worth is what the hold of that sum in a sandbox is worth. -/
noncomputable def Tryd.pinned : Pinned := { name := "ytidjnfjpdnjogaadoor", sum := "9bd0c6271052fe6b865c27b4ba7aa6853cf77839846c34898b63b1a34d6d592f", checked := Tryd.checked }
namespace Rows
def none {H : Type} : Left H := { results := [], args := [] }

/- WHAT THE LISTED PACKAGE-LEVEL VARIABLES READ AS WHEN THE CALL BEGINS. Each datum BY PROGRAM (the guide's laid-datum.mjs) off the statement by which the dump's own 'gosem.cut.vars' lays the variable. In a bare row this is a premise. The card (YtidjnfjpdnjogaaDoorCards.lean) ties it to the program's text. -/
def laid_unicode_utf8_acceptRanges {H : Type} : DataW H := .agg [.agg [.lit (.int .u8 128), .lit (.int .u8 191)], .agg [.lit (.int .u8 160), .lit (.int .u8 191)], .agg [.lit (.int .u8 128), .lit (.int .u8 159)], .agg [.lit (.int .u8 144), .lit (.int .u8 191)], .agg [.lit (.int .u8 128), .lit (.int .u8 143)], .agg [.lit (.int .u8 0), .lit (.int .u8 0)], .agg [.lit (.int .u8 0), .lit (.int .u8 0)], .agg [.lit (.int .u8 0), .lit (.int .u8 0)], .agg [.lit (.int .u8 0), .lit (.int .u8 0)], .agg [.lit (.int .u8 0), .lit (.int .u8 0)], .agg [.lit (.int .u8 0), .lit (.int .u8 0)], .agg [.lit (.int .u8 0), .lit (.int .u8 0)], .agg [.lit (.int .u8 0), .lit (.int .u8 0)], .agg [.lit (.int .u8 0), .lit (.int .u8 0)], .agg [.lit (.int .u8 0), .lit (.int .u8 0)], .agg [.lit (.int .u8 0), .lit (.int .u8 0)]]
/-- One of Go's own tables, pinned by name: the form's constant. -/
def laid_unicode_utf8_first : DataW Unit := Go.Pinned.utf8First

/-- 'chroniclelaw5.ProgEdges': WHATEVER THE INPUT: true; the input reads as it did. -/
def progEdgesSpec : ChangeSpec := { name := "progEdges", fn := fun _ => fun
  | [d1, d2] => { results := [.lit (.bool true)], args := [d1, d2] }
  | _ => none }
def progEdgesRow : OpenClaim := { program := "ytidjnfjpdnjogaadoor", sum := "9bd0c6271052fe6b865c27b4ba7aa6853cf77839846c34898b63b1a34d6d592f", func := "chronicle/chroniclelaw5.ProgEdges", spec := "progEdges", inPlace := ["math.Float64frombits", "math.Float64bits", "internal/bytealg.IndexByteString", "math.archTrunc", "internal/bytealg.IndexString"], unfollowed := true, recurses := true, named := ["unicode/utf8.first", "unicode/utf8.acceptRanges", "internal/bytealg.MaxLen"], apart := false, laid := [("unicode/utf8.acceptRanges", laid_unicode_utf8_acceptRanges), ("unicode/utf8.first", laid_unicode_utf8_first)] }
def ProgEdgesSaid : Prop := progEdgesRow.holds Tryd.pinned (OpenSpec.ofChange progEdgesSpec)

/-- ITS FALSE NEIGHBOUR: 'it returns false'. Refute it at one input. -/
def progEdgesWrong : ChangeSpec := { name := "progEdges", fn := fun _ => fun
  | [d1, d2] => { results := [.lit (.bool false)], args := [d1, d2] }
  | _ => none }
def ProgEdgesWrongFalsely : Prop := progEdgesRow.holds Tryd.pinned (OpenSpec.ofChange progEdgesWrong)

/-- 'chroniclelaw5.ProgStack': WHATEVER THE INPUT: true; the input reads as it did. -/
def progStackSpec : ChangeSpec := { name := "progStack", fn := fun _ => fun
  | [d1, d2] => { results := [.lit (.bool true)], args := [d1, d2] }
  | _ => none }
def progStackRow : OpenClaim := { program := "ytidjnfjpdnjogaadoor", sum := "9bd0c6271052fe6b865c27b4ba7aa6853cf77839846c34898b63b1a34d6d592f", func := "chronicle/chroniclelaw5.ProgStack", spec := "progStack", inPlace := ["math.Float64frombits", "math.Float64bits", "internal/bytealg.IndexByteString", "math.archTrunc", "internal/bytealg.IndexString"], unfollowed := true, recurses := true, named := ["unicode/utf8.first", "unicode/utf8.acceptRanges", "internal/bytealg.MaxLen"], apart := false, laid := [("unicode/utf8.acceptRanges", laid_unicode_utf8_acceptRanges), ("unicode/utf8.first", laid_unicode_utf8_first)] }
def ProgStackSaid : Prop := progStackRow.holds Tryd.pinned (OpenSpec.ofChange progStackSpec)

/-- ITS FALSE NEIGHBOUR: 'it returns false'. Refute it at one input. -/
def progStackWrong : ChangeSpec := { name := "progStack", fn := fun _ => fun
  | [d1, d2] => { results := [.lit (.bool false)], args := [d1, d2] }
  | _ => none }
def ProgStackWrongFalsely : Prop := progStackRow.holds Tryd.pinned (OpenSpec.ofChange progStackWrong)

/-- 'chroniclelaw5.ProgPicks': WHATEVER THE INPUT: true; the input reads as it did. -/
def progPicksSpec : ChangeSpec := { name := "progPicks", fn := fun _ => fun
  | [d1, d2, d3] => { results := [.lit (.bool true)], args := [d1, d2, d3] }
  | _ => none }
def progPicksRow : OpenClaim := { program := "ytidjnfjpdnjogaadoor", sum := "9bd0c6271052fe6b865c27b4ba7aa6853cf77839846c34898b63b1a34d6d592f", func := "chronicle/chroniclelaw5.ProgPicks", spec := "progPicks", inPlace := ["math.Float64frombits", "math.Float64bits", "internal/bytealg.IndexByteString", "math.archTrunc", "internal/bytealg.IndexString"], unfollowed := true, recurses := true, named := ["unicode/utf8.first", "unicode/utf8.acceptRanges", "internal/bytealg.MaxLen"], apart := false, laid := [("unicode/utf8.acceptRanges", laid_unicode_utf8_acceptRanges), ("unicode/utf8.first", laid_unicode_utf8_first)] }
def ProgPicksSaid : Prop := progPicksRow.holds Tryd.pinned (OpenSpec.ofChange progPicksSpec)

/-- ITS FALSE NEIGHBOUR: 'it returns false'. Refute it at one input. -/
def progPicksWrong : ChangeSpec := { name := "progPicks", fn := fun _ => fun
  | [d1, d2, d3] => { results := [.lit (.bool false)], args := [d1, d2, d3] }
  | _ => none }
def ProgPicksWrongFalsely : Prop := progPicksRow.holds Tryd.pinned (OpenSpec.ofChange progPicksWrong)

/-- 'chroniclelaw5.ProgFails': WHATEVER THE INPUT: true; the input reads as it did. -/
def progFailsSpec : ChangeSpec := { name := "progFails", fn := fun _ => fun
  | [d1, d2] => { results := [.lit (.bool true)], args := [d1, d2] }
  | _ => none }
def progFailsRow : OpenClaim := { program := "ytidjnfjpdnjogaadoor", sum := "9bd0c6271052fe6b865c27b4ba7aa6853cf77839846c34898b63b1a34d6d592f", func := "chronicle/chroniclelaw5.ProgFails", spec := "progFails", inPlace := ["internal/bytealg.IndexByteString", "internal/bytealg.IndexString", "math.Float64frombits", "math.Float64bits", "math.archTrunc"], unfollowed := true, recurses := true, named := ["unicode/utf8.first", "unicode/utf8.acceptRanges", "internal/bytealg.MaxLen"], apart := false, laid := [("unicode/utf8.acceptRanges", laid_unicode_utf8_acceptRanges), ("unicode/utf8.first", laid_unicode_utf8_first)] }
def ProgFailsSaid : Prop := progFailsRow.holds Tryd.pinned (OpenSpec.ofChange progFailsSpec)

/-- ITS FALSE NEIGHBOUR: 'it returns false'. Refute it at one input. -/
def progFailsWrong : ChangeSpec := { name := "progFails", fn := fun _ => fun
  | [d1, d2] => { results := [.lit (.bool false)], args := [d1, d2] }
  | _ => none }
def ProgFailsWrongFalsely : Prop := progFailsRow.holds Tryd.pinned (OpenSpec.ofChange progFailsWrong)

/-- 'chroniclelaw5.ProgFolds': WHATEVER THE INPUT: true; the input reads as it did. -/
def progFoldsSpec : ChangeSpec := { name := "progFolds", fn := fun _ => fun
  | [d1, d2, d3, d4] => { results := [.lit (.bool true)], args := [d1, d2, d3, d4] }
  | _ => none }
def progFoldsRow : OpenClaim := { program := "ytidjnfjpdnjogaadoor", sum := "9bd0c6271052fe6b865c27b4ba7aa6853cf77839846c34898b63b1a34d6d592f", func := "chronicle/chroniclelaw5.ProgFolds", spec := "progFolds", inPlace := ["internal/bytealg.IndexByteString", "internal/bytealg.IndexString", "math.Float64frombits", "math.Float64bits", "math.archTrunc"], unfollowed := true, recurses := true, named := ["unicode/utf8.first", "unicode/utf8.acceptRanges", "internal/bytealg.MaxLen"], apart := false, laid := [("unicode/utf8.acceptRanges", laid_unicode_utf8_acceptRanges), ("unicode/utf8.first", laid_unicode_utf8_first)] }
def ProgFoldsSaid : Prop := progFoldsRow.holds Tryd.pinned (OpenSpec.ofChange progFoldsSpec)

/-- ITS FALSE NEIGHBOUR: 'it returns false'. Refute it at one input. -/
def progFoldsWrong : ChangeSpec := { name := "progFolds", fn := fun _ => fun
  | [d1, d2, d3, d4] => { results := [.lit (.bool false)], args := [d1, d2, d3, d4] }
  | _ => none }
def ProgFoldsWrongFalsely : Prop := progFoldsRow.holds Tryd.pinned (OpenSpec.ofChange progFoldsWrong)

/- THE SECOND FORM. 'bulk': how many values and letters a reading holds, each counted each time it is reached (what is shared counts as often as it is met; a slice's spare places count too). A statement '..UptoSaid' is the law's where the arguments, and the package variables that the reading takes, are together of bulk at most 1048576: NARROWER than '..Said'. Prove '..Said' where nothing that the law and all that it calls make is longer than what came in: it says more and counts as full. Else prove '..UptoSaid'. A law counts once. -/
mutual
def uptoBulk {H : Type} : DataW H → Nat
  | .lit (.string bytes) => bytes.length + 1
  | .lit _ => 1
  | .nil => 1
  | .ptr d => uptoBulk d + 1
  | .slice elems spare => uptoBulkAll elems + uptoBulkAll spare + 1
  | .agg parts => uptoBulkAll parts + 1
  | .iface _ d => uptoBulk d + 1
  | .map entries => uptoBulkEntries entries + 1
  | .held _ => 1
def uptoBulkAll {H : Type} : List (DataW H) → Nat
  | [] => 0
  | d :: r => uptoBulk d + uptoBulkAll r
def uptoBulkEntries {H : Type} : List (Lit × DataW H) → Nat
  | [] => 0
  | x :: r => uptoBulkEntry x + uptoBulkEntries r
def uptoBulkEntry {H : Type} : Lit × DataW H → Nat
  | (.string bytes, d) => bytes.length + uptoBulk d + 1
  | (_, d) => uptoBulk d + 1
 end
def uptoSmall : (H : Type) → List (DataW H) → Bool := fun _ ds => decide (uptoBulkAll ds ≤ 1048576)
def OpenSpec.upto (s : _root_.Go.ChangeSpec) : _root_.Go.OpenSpec := { _root_.Go.OpenSpec.ofChange s with cond := some uptoSmall }

/-- 'chroniclelaw5.ProgEdges', WHERE WHAT IT READS IS OF BULK AT MOST 1048576: true; the input reads as it did. -/
def progEdgesUptoRow : OpenClaim := { program := "ytidjnfjpdnjogaadoor", sum := "9bd0c6271052fe6b865c27b4ba7aa6853cf77839846c34898b63b1a34d6d592f", func := "chronicle/chroniclelaw5.ProgEdges", spec := "progEdges", inPlace := ["math.Float64frombits", "math.Float64bits", "internal/bytealg.IndexByteString", "math.archTrunc", "internal/bytealg.IndexString"], unfollowed := true, recurses := true, named := ["unicode/utf8.first", "unicode/utf8.acceptRanges", "internal/bytealg.MaxLen"], apart := false, laid := [("unicode/utf8.acceptRanges", laid_unicode_utf8_acceptRanges), ("unicode/utf8.first", laid_unicode_utf8_first)], narrowed := true }
def ProgEdgesUptoSaid : Prop := progEdgesUptoRow.holds Tryd.pinned (OpenSpec.upto progEdgesSpec)

/-- 'chroniclelaw5.ProgStack', WHERE WHAT IT READS IS OF BULK AT MOST 1048576: true; the input reads as it did. -/
def progStackUptoRow : OpenClaim := { program := "ytidjnfjpdnjogaadoor", sum := "9bd0c6271052fe6b865c27b4ba7aa6853cf77839846c34898b63b1a34d6d592f", func := "chronicle/chroniclelaw5.ProgStack", spec := "progStack", inPlace := ["math.Float64frombits", "math.Float64bits", "internal/bytealg.IndexByteString", "math.archTrunc", "internal/bytealg.IndexString"], unfollowed := true, recurses := true, named := ["unicode/utf8.first", "unicode/utf8.acceptRanges", "internal/bytealg.MaxLen"], apart := false, laid := [("unicode/utf8.acceptRanges", laid_unicode_utf8_acceptRanges), ("unicode/utf8.first", laid_unicode_utf8_first)], narrowed := true }
def ProgStackUptoSaid : Prop := progStackUptoRow.holds Tryd.pinned (OpenSpec.upto progStackSpec)

/-- 'chroniclelaw5.ProgPicks', WHERE WHAT IT READS IS OF BULK AT MOST 1048576: true; the input reads as it did. -/
def progPicksUptoRow : OpenClaim := { program := "ytidjnfjpdnjogaadoor", sum := "9bd0c6271052fe6b865c27b4ba7aa6853cf77839846c34898b63b1a34d6d592f", func := "chronicle/chroniclelaw5.ProgPicks", spec := "progPicks", inPlace := ["math.Float64frombits", "math.Float64bits", "internal/bytealg.IndexByteString", "math.archTrunc", "internal/bytealg.IndexString"], unfollowed := true, recurses := true, named := ["unicode/utf8.first", "unicode/utf8.acceptRanges", "internal/bytealg.MaxLen"], apart := false, laid := [("unicode/utf8.acceptRanges", laid_unicode_utf8_acceptRanges), ("unicode/utf8.first", laid_unicode_utf8_first)], narrowed := true }
def ProgPicksUptoSaid : Prop := progPicksUptoRow.holds Tryd.pinned (OpenSpec.upto progPicksSpec)

/-- 'chroniclelaw5.ProgFails', WHERE WHAT IT READS IS OF BULK AT MOST 1048576: true; the input reads as it did. -/
def progFailsUptoRow : OpenClaim := { program := "ytidjnfjpdnjogaadoor", sum := "9bd0c6271052fe6b865c27b4ba7aa6853cf77839846c34898b63b1a34d6d592f", func := "chronicle/chroniclelaw5.ProgFails", spec := "progFails", inPlace := ["internal/bytealg.IndexByteString", "internal/bytealg.IndexString", "math.Float64frombits", "math.Float64bits", "math.archTrunc"], unfollowed := true, recurses := true, named := ["unicode/utf8.first", "unicode/utf8.acceptRanges", "internal/bytealg.MaxLen"], apart := false, laid := [("unicode/utf8.acceptRanges", laid_unicode_utf8_acceptRanges), ("unicode/utf8.first", laid_unicode_utf8_first)], narrowed := true }
def ProgFailsUptoSaid : Prop := progFailsUptoRow.holds Tryd.pinned (OpenSpec.upto progFailsSpec)

/-- 'chroniclelaw5.ProgFolds', WHERE WHAT IT READS IS OF BULK AT MOST 1048576: true; the input reads as it did. -/
def progFoldsUptoRow : OpenClaim := { program := "ytidjnfjpdnjogaadoor", sum := "9bd0c6271052fe6b865c27b4ba7aa6853cf77839846c34898b63b1a34d6d592f", func := "chronicle/chroniclelaw5.ProgFolds", spec := "progFolds", inPlace := ["internal/bytealg.IndexByteString", "internal/bytealg.IndexString", "math.Float64frombits", "math.Float64bits", "math.archTrunc"], unfollowed := true, recurses := true, named := ["unicode/utf8.first", "unicode/utf8.acceptRanges", "internal/bytealg.MaxLen"], apart := false, laid := [("unicode/utf8.acceptRanges", laid_unicode_utf8_acceptRanges), ("unicode/utf8.first", laid_unicode_utf8_first)], narrowed := true }
def ProgFoldsUptoSaid : Prop := progFoldsUptoRow.holds Tryd.pinned (OpenSpec.upto progFoldsSpec)

end Rows
end Go.Proofs.YtidjnfjpdnjogaaDoor
