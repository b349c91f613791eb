/-
  What a row's list of tables gives a walk. Conditions: none.
-/
import Derived.Test.YtiblkfhcpepnfaaDoorG
import Derived.Test.YtiblkfhcpepnfaaDoorK
import Derived.Test.YtiblkfhcpepnfaaDoorTie
import Derived.Test.YtiblkfhcpepnfaaDoorCards
import Derived.Stop.LaidErr
import Derived.Lay
import Derived.LaidOnce
import Derived.SevenTiedAt
import Derived.OpenShut
namespace Go.Proofs.YtiblkfhcpepnfaaDoor
open Go.ChangeShapes Go.WideShapes Go.ChangeAt Go.RowKit

theorem tabs_of_laid {W : World} (h : laidMet Tryd.prog Rows.metaTellsRow.laid W) : Tab W :=
  Lib.tabIs_of_head (g := 3) (t := 96) (n := 20) (e := 90) (by kernel_rfl) (by kernel_rfl) (by kernel_rfl) Tryd.underlying90 (by kernel_rfl) (by kernel_rfl) (Go.laidMet.tail (Go.laidMet.tail h))

theorem int_range {x : Int} (wx : (Lit.int .i64 x).wf = true) : -9223372036854775808 ≤ x ∧ x ≤ 9223372036854775807 := by simpa [Lit.wf, IntKind.min, IntKind.max, IntKind.signed, IntKind.bits] using wx
end Go.Proofs.YtiblkfhcpepnfaaDoor
