/-
  NARROWER THAN 'FOR EVERY INPUT', by the rows' own cells (each row's printed sentence says how): RealTells: laid · RealTotal: laid · RealBack: laid · RealPlain: laid · RealBits: laid · RealSums: laid · RealSigns: laid · RealEdges: laid · RealParts: laid.
  DERIVED. THE GIVEN ROWS OF THIS SEAT. 9 by the template 'for every input the law returns true; each argument reads behind the call as it read before'; 0 by the template 'total and deterministic' (their statements: YtelkobogohbhlaaDoorTotals.lean).
  GIVEN WITH THE SEED: the statements are not yours to turn. If you find one false, say at which input.
  Laid BY PROGRAM, IN A SANDBOX (cutbox-rows.mjs): the forced cells as the released guide's own fill.sh prints them over the translation e3e3209640856bf2… (all of the seat's roots in one cut). By AI agents, Wed Nov 11 2026. No macro, syntax, notation, axiom, sorry.
-/
import Derived.Test.YtelkobogohbhlaaDoorChecked
import GoSem.Claim
import GoSem.ClaimJoined
import GoSem.ClaimMapViews
import Derived.JoinedTies
import Derived.KernelRfl
namespace Go.Proofs.YtelkobogohbhlaaDoor
/- THE CELL 'sum', in the pinned program and in every row, IS THE sha256 OF THE DUMP (.gsa) THAT YtelkobogohbhlaaDoorProg.lean LOADS. Nothing in Lean hashes anything: it is a label: what it is worth is what the hold of that sum in a sandbox is worth. -/
noncomputable def Tryd.pinned : Pinned := { name := "ytelkobogohbhlaadoor", sum := "e3e3209640856bf292bc0aae7661ed95c1888407e9c175c95e1809f32e5cadad", checked := Tryd.checked }
namespace Rows
def none {H : Type} : Left H := { results := [], args := [] }

/- WHAT THE LISTED PACKAGE-LEVEL VARIABLES READ AS WHEN THE CALL BEGINS. Each datum BY PROGRAM (the guide's laid-datum.mjs) off the statement by which the dump's own 'gosem.cut.vars' lays the variable. In a bare row this is a premise. The card (YtelkobogohbhlaaDoorCards.lean) ties it to the program's text. -/
def laid_math_bits_deBruijn32tab {H : Type} : DataW H := .agg [.lit (.int .u8 0), .lit (.int .u8 1), .lit (.int .u8 28), .lit (.int .u8 2), .lit (.int .u8 29), .lit (.int .u8 14), .lit (.int .u8 24), .lit (.int .u8 3), .lit (.int .u8 30), .lit (.int .u8 22), .lit (.int .u8 20), .lit (.int .u8 15), .lit (.int .u8 25), .lit (.int .u8 17), .lit (.int .u8 4), .lit (.int .u8 8), .lit (.int .u8 31), .lit (.int .u8 27), .lit (.int .u8 13), .lit (.int .u8 23), .lit (.int .u8 21), .lit (.int .u8 19), .lit (.int .u8 16), .lit (.int .u8 7), .lit (.int .u8 26), .lit (.int .u8 12), .lit (.int .u8 18), .lit (.int .u8 6), .lit (.int .u8 11), .lit (.int .u8 5), .lit (.int .u8 10), .lit (.int .u8 9)]
def laid_math_bits_deBruijn64tab {H : Type} : DataW H := .agg [.lit (.int .u8 0), .lit (.int .u8 1), .lit (.int .u8 56), .lit (.int .u8 2), .lit (.int .u8 57), .lit (.int .u8 49), .lit (.int .u8 28), .lit (.int .u8 3), .lit (.int .u8 61), .lit (.int .u8 58), .lit (.int .u8 42), .lit (.int .u8 50), .lit (.int .u8 38), .lit (.int .u8 29), .lit (.int .u8 17), .lit (.int .u8 4), .lit (.int .u8 62), .lit (.int .u8 47), .lit (.int .u8 59), .lit (.int .u8 36), .lit (.int .u8 45), .lit (.int .u8 43), .lit (.int .u8 51), .lit (.int .u8 22), .lit (.int .u8 53), .lit (.int .u8 39), .lit (.int .u8 33), .lit (.int .u8 30), .lit (.int .u8 24), .lit (.int .u8 18), .lit (.int .u8 12), .lit (.int .u8 5), .lit (.int .u8 63), .lit (.int .u8 55), .lit (.int .u8 48), .lit (.int .u8 27), .lit (.int .u8 60), .lit (.int .u8 41), .lit (.int .u8 37), .lit (.int .u8 16), .lit (.int .u8 46), .lit (.int .u8 35), .lit (.int .u8 44), .lit (.int .u8 21), .lit (.int .u8 52), .lit (.int .u8 32), .lit (.int .u8 23), .lit (.int .u8 11), .lit (.int .u8 54), .lit (.int .u8 26), .lit (.int .u8 40), .lit (.int .u8 15), .lit (.int .u8 34), .lit (.int .u8 20), .lit (.int .u8 31), .lit (.int .u8 10), .lit (.int .u8 25), .lit (.int .u8 14), .lit (.int .u8 19), .lit (.int .u8 9), .lit (.int .u8 13), .lit (.int .u8 8), .lit (.int .u8 7), .lit (.int .u8 6)]
def laid_internal_strconv_uint64pow10 {H : Type} : DataW H := .agg [.lit (.int .u64 1), .lit (.int .u64 10), .lit (.int .u64 100), .lit (.int .u64 1000), .lit (.int .u64 10000), .lit (.int .u64 100000), .lit (.int .u64 1000000), .lit (.int .u64 10000000), .lit (.int .u64 100000000), .lit (.int .u64 1000000000), .lit (.int .u64 10000000000), .lit (.int .u64 100000000000), .lit (.int .u64 1000000000000), .lit (.int .u64 10000000000000), .lit (.int .u64 100000000000000), .lit (.int .u64 1000000000000000), .lit (.int .u64 10000000000000000), .lit (.int .u64 100000000000000000), .lit (.int .u64 1000000000000000000), .lit (.int .u64 10000000000000000000)]

/-- 'chroniclelaw3.RealTells': WHATEVER THE INPUT: true; the input reads as it did. -/
def realTellsSpec : ChangeSpec := { name := "realTells", fn := fun _ => fun
  | [d1, d2] => { results := [.lit (.bool true)], args := [d1, d2] }
  | _ => none }
def realTellsRow : OpenClaim := { program := "ytelkobogohbhlaadoor", sum := "e3e3209640856bf292bc0aae7661ed95c1888407e9c175c95e1809f32e5cadad", func := "chronicle/chroniclelaw3.RealTells", spec := "realTells", inPlace := ["math.Float64bits", "math.Float64frombits", "internal/bytealg.IndexByteString", "math.archTrunc", "internal/abi.NoEscape"], named := ["internal/strconv.uint64pow10", "math/bits.deBruijn32tab", "math/bits.deBruijn64tab"], apart := false, laid := [("math/bits.deBruijn32tab", laid_math_bits_deBruijn32tab), ("math/bits.deBruijn64tab", laid_math_bits_deBruijn64tab), ("internal/strconv.uint64pow10", laid_internal_strconv_uint64pow10)] }
def RealTellsSaid : Prop := realTellsRow.holds Tryd.pinned (OpenSpec.ofChange realTellsSpec)

/-- ITS FALSE NEIGHBOUR: 'it returns false'. Refute it at one input. -/
def realTellsWrong : ChangeSpec := { name := "realTells", fn := fun _ => fun
  | [d1, d2] => { results := [.lit (.bool false)], args := [d1, d2] }
  | _ => none }
def RealTellsWrongFalsely : Prop := realTellsRow.holds Tryd.pinned (OpenSpec.ofChange realTellsWrong)

/-- 'chroniclelaw3.RealTotal': WHATEVER THE INPUT: true; the input reads as it did. -/
def realTotalSpec : ChangeSpec := { name := "realTotal", fn := fun _ => fun
  | [d1, d2, d3] => { results := [.lit (.bool true)], args := [d1, d2, d3] }
  | _ => none }
def realTotalRow : OpenClaim := { program := "ytelkobogohbhlaadoor", sum := "e3e3209640856bf292bc0aae7661ed95c1888407e9c175c95e1809f32e5cadad", func := "chronicle/chroniclelaw3.RealTotal", spec := "realTotal", inPlace := ["math.Float64frombits", "math.Float64bits", "internal/bytealg.IndexByteString", "math.archTrunc", "internal/abi.NoEscape"], named := ["internal/strconv.uint64pow10", "math/bits.deBruijn32tab", "math/bits.deBruijn64tab"], apart := false, laid := [("math/bits.deBruijn32tab", laid_math_bits_deBruijn32tab), ("math/bits.deBruijn64tab", laid_math_bits_deBruijn64tab), ("internal/strconv.uint64pow10", laid_internal_strconv_uint64pow10)] }
def RealTotalSaid : Prop := realTotalRow.holds Tryd.pinned (OpenSpec.ofChange realTotalSpec)

/-- ITS FALSE NEIGHBOUR: 'it returns false'. Refute it at one input. -/
def realTotalWrong : ChangeSpec := { name := "realTotal", fn := fun _ => fun
  | [d1, d2, d3] => { results := [.lit (.bool false)], args := [d1, d2, d3] }
  | _ => none }
def RealTotalWrongFalsely : Prop := realTotalRow.holds Tryd.pinned (OpenSpec.ofChange realTotalWrong)

/-- 'chroniclelaw3.RealBack': WHATEVER THE INPUT: true; the input reads as it did. -/
def realBackSpec : ChangeSpec := { name := "realBack", fn := fun _ => fun
  | [d1, d2] => { results := [.lit (.bool true)], args := [d1, d2] }
  | _ => none }
def realBackRow : OpenClaim := { program := "ytelkobogohbhlaadoor", sum := "e3e3209640856bf292bc0aae7661ed95c1888407e9c175c95e1809f32e5cadad", func := "chronicle/chroniclelaw3.RealBack", spec := "realBack", inPlace := ["math.Float64frombits", "math.Float64bits", "math.archTrunc", "internal/abi.NoEscape", "internal/bytealg.IndexByteString"], named := ["internal/strconv.uint64pow10", "math/bits.deBruijn32tab", "math/bits.deBruijn64tab"], apart := false, laid := [("math/bits.deBruijn32tab", laid_math_bits_deBruijn32tab), ("math/bits.deBruijn64tab", laid_math_bits_deBruijn64tab), ("internal/strconv.uint64pow10", laid_internal_strconv_uint64pow10)] }
def RealBackSaid : Prop := realBackRow.holds Tryd.pinned (OpenSpec.ofChange realBackSpec)

/-- ITS FALSE NEIGHBOUR: 'it returns false'. Refute it at one input. -/
def realBackWrong : ChangeSpec := { name := "realBack", fn := fun _ => fun
  | [d1, d2] => { results := [.lit (.bool false)], args := [d1, d2] }
  | _ => none }
def RealBackWrongFalsely : Prop := realBackRow.holds Tryd.pinned (OpenSpec.ofChange realBackWrong)

/-- 'chroniclelaw3.RealPlain': WHATEVER THE INPUT: true; the input reads as it did. -/
def realPlainSpec : ChangeSpec := { name := "realPlain", fn := fun _ => fun
  | [d1, d2] => { results := [.lit (.bool true)], args := [d1, d2] }
  | _ => none }
def realPlainRow : OpenClaim := { program := "ytelkobogohbhlaadoor", sum := "e3e3209640856bf292bc0aae7661ed95c1888407e9c175c95e1809f32e5cadad", func := "chronicle/chroniclelaw3.RealPlain", spec := "realPlain", inPlace := ["math.Float64bits", "math.Float64frombits", "internal/bytealg.IndexByteString", "math.archTrunc", "internal/abi.NoEscape"], named := ["internal/strconv.uint64pow10", "math/bits.deBruijn32tab", "math/bits.deBruijn64tab"], apart := false, laid := [("math/bits.deBruijn32tab", laid_math_bits_deBruijn32tab), ("math/bits.deBruijn64tab", laid_math_bits_deBruijn64tab), ("internal/strconv.uint64pow10", laid_internal_strconv_uint64pow10)] }
def RealPlainSaid : Prop := realPlainRow.holds Tryd.pinned (OpenSpec.ofChange realPlainSpec)

/-- ITS FALSE NEIGHBOUR: 'it returns false'. Refute it at one input. -/
def realPlainWrong : ChangeSpec := { name := "realPlain", fn := fun _ => fun
  | [d1, d2] => { results := [.lit (.bool false)], args := [d1, d2] }
  | _ => none }
def RealPlainWrongFalsely : Prop := realPlainRow.holds Tryd.pinned (OpenSpec.ofChange realPlainWrong)

/-- 'chroniclelaw3.RealBits': WHATEVER THE INPUT: true; the input reads as it did. -/
def realBitsSpec : ChangeSpec := { name := "realBits", fn := fun _ => fun
  | [d] => { results := [.lit (.bool true)], args := [d] }
  | _ => none }
def realBitsRow : OpenClaim := { program := "ytelkobogohbhlaadoor", sum := "e3e3209640856bf292bc0aae7661ed95c1888407e9c175c95e1809f32e5cadad", func := "chronicle/chroniclelaw3.RealBits", spec := "realBits", inPlace := ["math.Float64frombits", "math.Float64bits", "internal/bytealg.IndexByteString", "math.archTrunc", "internal/abi.NoEscape"], named := ["internal/strconv.uint64pow10", "math/bits.deBruijn32tab", "math/bits.deBruijn64tab"], apart := false, laid := [("math/bits.deBruijn32tab", laid_math_bits_deBruijn32tab), ("math/bits.deBruijn64tab", laid_math_bits_deBruijn64tab), ("internal/strconv.uint64pow10", laid_internal_strconv_uint64pow10)] }
def RealBitsSaid : Prop := realBitsRow.holds Tryd.pinned (OpenSpec.ofChange realBitsSpec)

/-- ITS FALSE NEIGHBOUR: 'it returns false'. Refute it at one input. -/
def realBitsWrong : ChangeSpec := { name := "realBits", fn := fun _ => fun
  | [d] => { results := [.lit (.bool false)], args := [d] }
  | _ => none }
def RealBitsWrongFalsely : Prop := realBitsRow.holds Tryd.pinned (OpenSpec.ofChange realBitsWrong)

/-- 'chroniclelaw3.RealSums': WHATEVER THE INPUT: true; the input reads as it did. -/
def realSumsSpec : ChangeSpec := { name := "realSums", fn := fun _ => fun
  | [d1, d2] => { results := [.lit (.bool true)], args := [d1, d2] }
  | _ => none }
def realSumsRow : OpenClaim := { program := "ytelkobogohbhlaadoor", sum := "e3e3209640856bf292bc0aae7661ed95c1888407e9c175c95e1809f32e5cadad", func := "chronicle/chroniclelaw3.RealSums", spec := "realSums", inPlace := ["math.Float64bits", "math.Float64frombits", "internal/bytealg.IndexByteString", "math.archTrunc", "internal/abi.NoEscape"], named := ["internal/strconv.uint64pow10", "math/bits.deBruijn32tab", "math/bits.deBruijn64tab"], apart := false, laid := [("math/bits.deBruijn32tab", laid_math_bits_deBruijn32tab), ("math/bits.deBruijn64tab", laid_math_bits_deBruijn64tab), ("internal/strconv.uint64pow10", laid_internal_strconv_uint64pow10)] }
def RealSumsSaid : Prop := realSumsRow.holds Tryd.pinned (OpenSpec.ofChange realSumsSpec)

/-- ITS FALSE NEIGHBOUR: 'it returns false'. Refute it at one input. -/
def realSumsWrong : ChangeSpec := { name := "realSums", fn := fun _ => fun
  | [d1, d2] => { results := [.lit (.bool false)], args := [d1, d2] }
  | _ => none }
def RealSumsWrongFalsely : Prop := realSumsRow.holds Tryd.pinned (OpenSpec.ofChange realSumsWrong)

/-- 'chroniclelaw3.RealSigns': WHATEVER THE INPUT: true; the input reads as it did. -/
def realSignsSpec : ChangeSpec := { name := "realSigns", fn := fun _ => fun
  | [d1, d2] => { results := [.lit (.bool true)], args := [d1, d2] }
  | _ => none }
def realSignsRow : OpenClaim := { program := "ytelkobogohbhlaadoor", sum := "e3e3209640856bf292bc0aae7661ed95c1888407e9c175c95e1809f32e5cadad", func := "chronicle/chroniclelaw3.RealSigns", spec := "realSigns", inPlace := ["math.Float64frombits", "math.Float64bits", "internal/bytealg.IndexByteString", "math.archTrunc", "internal/abi.NoEscape"], named := ["internal/strconv.uint64pow10", "math/bits.deBruijn32tab", "math/bits.deBruijn64tab"], apart := false, laid := [("math/bits.deBruijn32tab", laid_math_bits_deBruijn32tab), ("math/bits.deBruijn64tab", laid_math_bits_deBruijn64tab), ("internal/strconv.uint64pow10", laid_internal_strconv_uint64pow10)] }
def RealSignsSaid : Prop := realSignsRow.holds Tryd.pinned (OpenSpec.ofChange realSignsSpec)

/-- ITS FALSE NEIGHBOUR: 'it returns false'. Refute it at one input. -/
def realSignsWrong : ChangeSpec := { name := "realSigns", fn := fun _ => fun
  | [d1, d2] => { results := [.lit (.bool false)], args := [d1, d2] }
  | _ => none }
def RealSignsWrongFalsely : Prop := realSignsRow.holds Tryd.pinned (OpenSpec.ofChange realSignsWrong)

/-- 'chroniclelaw3.RealEdges': WHATEVER THE INPUT: true; the input reads as it did. -/
def realEdgesSpec : ChangeSpec := { name := "realEdges", fn := fun _ => fun
  | [d] => { results := [.lit (.bool true)], args := [d] }
  | _ => none }
def realEdgesRow : OpenClaim := { program := "ytelkobogohbhlaadoor", sum := "e3e3209640856bf292bc0aae7661ed95c1888407e9c175c95e1809f32e5cadad", func := "chronicle/chroniclelaw3.RealEdges", spec := "realEdges", inPlace := ["math.Float64frombits", "math.Float64bits", "internal/bytealg.IndexByteString", "math.archTrunc", "internal/abi.NoEscape"], named := ["internal/strconv.uint64pow10", "math/bits.deBruijn32tab", "math/bits.deBruijn64tab"], apart := false, laid := [("math/bits.deBruijn32tab", laid_math_bits_deBruijn32tab), ("math/bits.deBruijn64tab", laid_math_bits_deBruijn64tab), ("internal/strconv.uint64pow10", laid_internal_strconv_uint64pow10)] }
def RealEdgesSaid : Prop := realEdgesRow.holds Tryd.pinned (OpenSpec.ofChange realEdgesSpec)

/-- ITS FALSE NEIGHBOUR: 'it returns false'. Refute it at one input. -/
def realEdgesWrong : ChangeSpec := { name := "realEdges", fn := fun _ => fun
  | [d] => { results := [.lit (.bool false)], args := [d] }
  | _ => none }
def RealEdgesWrongFalsely : Prop := realEdgesRow.holds Tryd.pinned (OpenSpec.ofChange realEdgesWrong)

/-- 'chroniclelaw3.RealParts': WHATEVER THE INPUT: true; the input reads as it did. -/
def realPartsSpec : ChangeSpec := { name := "realParts", fn := fun _ => fun
  | [d1, d2] => { results := [.lit (.bool true)], args := [d1, d2] }
  | _ => none }
def realPartsRow : OpenClaim := { program := "ytelkobogohbhlaadoor", sum := "e3e3209640856bf292bc0aae7661ed95c1888407e9c175c95e1809f32e5cadad", func := "chronicle/chroniclelaw3.RealParts", spec := "realParts", inPlace := ["math.Float64bits", "math.Float64frombits", "internal/bytealg.IndexByteString", "math.archTrunc", "internal/abi.NoEscape"], named := ["internal/strconv.uint64pow10", "math/bits.deBruijn32tab", "math/bits.deBruijn64tab"], apart := false, laid := [("math/bits.deBruijn32tab", laid_math_bits_deBruijn32tab), ("math/bits.deBruijn64tab", laid_math_bits_deBruijn64tab), ("internal/strconv.uint64pow10", laid_internal_strconv_uint64pow10)] }
def RealPartsSaid : Prop := realPartsRow.holds Tryd.pinned (OpenSpec.ofChange realPartsSpec)

/-- ITS FALSE NEIGHBOUR: 'it returns false'. Refute it at one input. -/
def realPartsWrong : ChangeSpec := { name := "realParts", fn := fun _ => fun
  | [d1, d2] => { results := [.lit (.bool false)], args := [d1, d2] }
  | _ => none }
def RealPartsWrongFalsely : Prop := realPartsRow.holds Tryd.pinned (OpenSpec.ofChange realPartsWrong)

/- THE SECOND FORM. 'bulk': how many values and letters a reading holds, each counted each time it is reached (what is shared counts as often as it is met; a slice's spare places count too). A statement '..UptoSaid' is the law's where the arguments, and the package variables that the reading takes, are together of bulk at most 1048576: NARROWER than '..Said'. Prove '..Said' where nothing that the law and all that it calls make is longer than what came in: it says more and counts as full. Else prove '..UptoSaid'. A law counts once. -/
mutual
def uptoBulk {H : Type} : DataW H → Nat
  | .lit (.string bytes) => bytes.length + 1
  | .lit _ => 1
  | .nil => 1
  | .ptr d => uptoBulk d + 1
  | .slice elems spare => uptoBulkAll elems + uptoBulkAll spare + 1
  | .agg parts => uptoBulkAll parts + 1
  | .iface _ d => uptoBulk d + 1
  | .map entries => uptoBulkEntries entries + 1
  | .held _ => 1
def uptoBulkAll {H : Type} : List (DataW H) → Nat
  | [] => 0
  | d :: r => uptoBulk d + uptoBulkAll r
def uptoBulkEntries {H : Type} : List (Lit × DataW H) → Nat
  | [] => 0
  | x :: r => uptoBulkEntry x + uptoBulkEntries r
def uptoBulkEntry {H : Type} : Lit × DataW H → Nat
  | (.string bytes, d) => bytes.length + uptoBulk d + 1
  | (_, d) => uptoBulk d + 1
 end
def uptoSmall : (H : Type) → List (DataW H) → Bool := fun _ ds => decide (uptoBulkAll ds ≤ 1048576)
def OpenSpec.upto (s : _root_.Go.ChangeSpec) : _root_.Go.OpenSpec := { _root_.Go.OpenSpec.ofChange s with cond := some uptoSmall }

/-- 'chroniclelaw3.RealTells', WHERE WHAT IT READS IS OF BULK AT MOST 1048576: true; the input reads as it did. -/
def realTellsUptoRow : OpenClaim := { program := "ytelkobogohbhlaadoor", sum := "e3e3209640856bf292bc0aae7661ed95c1888407e9c175c95e1809f32e5cadad", func := "chronicle/chroniclelaw3.RealTells", spec := "realTells", inPlace := ["math.Float64bits", "math.Float64frombits", "internal/bytealg.IndexByteString", "math.archTrunc", "internal/abi.NoEscape"], named := ["internal/strconv.uint64pow10", "math/bits.deBruijn32tab", "math/bits.deBruijn64tab"], apart := false, laid := [("math/bits.deBruijn32tab", laid_math_bits_deBruijn32tab), ("math/bits.deBruijn64tab", laid_math_bits_deBruijn64tab), ("internal/strconv.uint64pow10", laid_internal_strconv_uint64pow10)], narrowed := true }
def RealTellsUptoSaid : Prop := realTellsUptoRow.holds Tryd.pinned (OpenSpec.upto realTellsSpec)

/-- 'chroniclelaw3.RealTotal', WHERE WHAT IT READS IS OF BULK AT MOST 1048576: true; the input reads as it did. -/
def realTotalUptoRow : OpenClaim := { program := "ytelkobogohbhlaadoor", sum := "e3e3209640856bf292bc0aae7661ed95c1888407e9c175c95e1809f32e5cadad", func := "chronicle/chroniclelaw3.RealTotal", spec := "realTotal", inPlace := ["math.Float64frombits", "math.Float64bits", "internal/bytealg.IndexByteString", "math.archTrunc", "internal/abi.NoEscape"], named := ["internal/strconv.uint64pow10", "math/bits.deBruijn32tab", "math/bits.deBruijn64tab"], apart := false, laid := [("math/bits.deBruijn32tab", laid_math_bits_deBruijn32tab), ("math/bits.deBruijn64tab", laid_math_bits_deBruijn64tab), ("internal/strconv.uint64pow10", laid_internal_strconv_uint64pow10)], narrowed := true }
def RealTotalUptoSaid : Prop := realTotalUptoRow.holds Tryd.pinned (OpenSpec.upto realTotalSpec)

/-- 'chroniclelaw3.RealBack', WHERE WHAT IT READS IS OF BULK AT MOST 1048576: true; the input reads as it did. -/
def realBackUptoRow : OpenClaim := { program := "ytelkobogohbhlaadoor", sum := "e3e3209640856bf292bc0aae7661ed95c1888407e9c175c95e1809f32e5cadad", func := "chronicle/chroniclelaw3.RealBack", spec := "realBack", inPlace := ["math.Float64frombits", "math.Float64bits", "math.archTrunc", "internal/abi.NoEscape", "internal/bytealg.IndexByteString"], named := ["internal/strconv.uint64pow10", "math/bits.deBruijn32tab", "math/bits.deBruijn64tab"], apart := false, laid := [("math/bits.deBruijn32tab", laid_math_bits_deBruijn32tab), ("math/bits.deBruijn64tab", laid_math_bits_deBruijn64tab), ("internal/strconv.uint64pow10", laid_internal_strconv_uint64pow10)], narrowed := true }
def RealBackUptoSaid : Prop := realBackUptoRow.holds Tryd.pinned (OpenSpec.upto realBackSpec)

/-- 'chroniclelaw3.RealPlain', WHERE WHAT IT READS IS OF BULK AT MOST 1048576: true; the input reads as it did. -/
def realPlainUptoRow : OpenClaim := { program := "ytelkobogohbhlaadoor", sum := "e3e3209640856bf292bc0aae7661ed95c1888407e9c175c95e1809f32e5cadad", func := "chronicle/chroniclelaw3.RealPlain", spec := "realPlain", inPlace := ["math.Float64bits", "math.Float64frombits", "internal/bytealg.IndexByteString", "math.archTrunc", "internal/abi.NoEscape"], named := ["internal/strconv.uint64pow10", "math/bits.deBruijn32tab", "math/bits.deBruijn64tab"], apart := false, laid := [("math/bits.deBruijn32tab", laid_math_bits_deBruijn32tab), ("math/bits.deBruijn64tab", laid_math_bits_deBruijn64tab), ("internal/strconv.uint64pow10", laid_internal_strconv_uint64pow10)], narrowed := true }
def RealPlainUptoSaid : Prop := realPlainUptoRow.holds Tryd.pinned (OpenSpec.upto realPlainSpec)

/-- 'chroniclelaw3.RealBits', WHERE WHAT IT READS IS OF BULK AT MOST 1048576: true; the input reads as it did. -/
def realBitsUptoRow : OpenClaim := { program := "ytelkobogohbhlaadoor", sum := "e3e3209640856bf292bc0aae7661ed95c1888407e9c175c95e1809f32e5cadad", func := "chronicle/chroniclelaw3.RealBits", spec := "realBits", inPlace := ["math.Float64frombits", "math.Float64bits", "internal/bytealg.IndexByteString", "math.archTrunc", "internal/abi.NoEscape"], named := ["internal/strconv.uint64pow10", "math/bits.deBruijn32tab", "math/bits.deBruijn64tab"], apart := false, laid := [("math/bits.deBruijn32tab", laid_math_bits_deBruijn32tab), ("math/bits.deBruijn64tab", laid_math_bits_deBruijn64tab), ("internal/strconv.uint64pow10", laid_internal_strconv_uint64pow10)], narrowed := true }
def RealBitsUptoSaid : Prop := realBitsUptoRow.holds Tryd.pinned (OpenSpec.upto realBitsSpec)

/-- 'chroniclelaw3.RealSums', WHERE WHAT IT READS IS OF BULK AT MOST 1048576: true; the input reads as it did. -/
def realSumsUptoRow : OpenClaim := { program := "ytelkobogohbhlaadoor", sum := "e3e3209640856bf292bc0aae7661ed95c1888407e9c175c95e1809f32e5cadad", func := "chronicle/chroniclelaw3.RealSums", spec := "realSums", inPlace := ["math.Float64bits", "math.Float64frombits", "internal/bytealg.IndexByteString", "math.archTrunc", "internal/abi.NoEscape"], named := ["internal/strconv.uint64pow10", "math/bits.deBruijn32tab", "math/bits.deBruijn64tab"], apart := false, laid := [("math/bits.deBruijn32tab", laid_math_bits_deBruijn32tab), ("math/bits.deBruijn64tab", laid_math_bits_deBruijn64tab), ("internal/strconv.uint64pow10", laid_internal_strconv_uint64pow10)], narrowed := true }
def RealSumsUptoSaid : Prop := realSumsUptoRow.holds Tryd.pinned (OpenSpec.upto realSumsSpec)

/-- 'chroniclelaw3.RealSigns', WHERE WHAT IT READS IS OF BULK AT MOST 1048576: true; the input reads as it did. -/
def realSignsUptoRow : OpenClaim := { program := "ytelkobogohbhlaadoor", sum := "e3e3209640856bf292bc0aae7661ed95c1888407e9c175c95e1809f32e5cadad", func := "chronicle/chroniclelaw3.RealSigns", spec := "realSigns", inPlace := ["math.Float64frombits", "math.Float64bits", "internal/bytealg.IndexByteString", "math.archTrunc", "internal/abi.NoEscape"], named := ["internal/strconv.uint64pow10", "math/bits.deBruijn32tab", "math/bits.deBruijn64tab"], apart := false, laid := [("math/bits.deBruijn32tab", laid_math_bits_deBruijn32tab), ("math/bits.deBruijn64tab", laid_math_bits_deBruijn64tab), ("internal/strconv.uint64pow10", laid_internal_strconv_uint64pow10)], narrowed := true }
def RealSignsUptoSaid : Prop := realSignsUptoRow.holds Tryd.pinned (OpenSpec.upto realSignsSpec)

/-- 'chroniclelaw3.RealEdges', WHERE WHAT IT READS IS OF BULK AT MOST 1048576: true; the input reads as it did. -/
def realEdgesUptoRow : OpenClaim := { program := "ytelkobogohbhlaadoor", sum := "e3e3209640856bf292bc0aae7661ed95c1888407e9c175c95e1809f32e5cadad", func := "chronicle/chroniclelaw3.RealEdges", spec := "realEdges", inPlace := ["math.Float64frombits", "math.Float64bits", "internal/bytealg.IndexByteString", "math.archTrunc", "internal/abi.NoEscape"], named := ["internal/strconv.uint64pow10", "math/bits.deBruijn32tab", "math/bits.deBruijn64tab"], apart := false, laid := [("math/bits.deBruijn32tab", laid_math_bits_deBruijn32tab), ("math/bits.deBruijn64tab", laid_math_bits_deBruijn64tab), ("internal/strconv.uint64pow10", laid_internal_strconv_uint64pow10)], narrowed := true }
def RealEdgesUptoSaid : Prop := realEdgesUptoRow.holds Tryd.pinned (OpenSpec.upto realEdgesSpec)

/-- 'chroniclelaw3.RealParts', WHERE WHAT IT READS IS OF BULK AT MOST 1048576: true; the input reads as it did. -/
def realPartsUptoRow : OpenClaim := { program := "ytelkobogohbhlaadoor", sum := "e3e3209640856bf292bc0aae7661ed95c1888407e9c175c95e1809f32e5cadad", func := "chronicle/chroniclelaw3.RealParts", spec := "realParts", inPlace := ["math.Float64bits", "math.Float64frombits", "internal/bytealg.IndexByteString", "math.archTrunc", "internal/abi.NoEscape"], named := ["internal/strconv.uint64pow10", "math/bits.deBruijn32tab", "math/bits.deBruijn64tab"], apart := false, laid := [("math/bits.deBruijn32tab", laid_math_bits_deBruijn32tab), ("math/bits.deBruijn64tab", laid_math_bits_deBruijn64tab), ("internal/strconv.uint64pow10", laid_internal_strconv_uint64pow10)], narrowed := true }
def RealPartsUptoSaid : Prop := realPartsUptoRow.holds Tryd.pinned (OpenSpec.upto realPartsSpec)

end Rows
end Go.Proofs.YtelkobogohbhlaaDoor
