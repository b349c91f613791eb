/-
  What a row's list of tables gives a walk here: nothing is wanted of it; numbers' ranges. Conditions: none.
-/
import Derived.Test.YtidjnfjpdnjogaaGreatDoorG
import Derived.Test.YtidjnfjpdnjogaaGreatDoorK
import Derived.Test.YtidjnfjpdnjogaaGreatDoorTie
import Derived.Test.YtidjnfjpdnjogaaGreatDoorCards
import Derived.Stop.LaidErr
import Derived.Lay
import Derived.LaidOnce
import Derived.SevenTiedAt
import Derived.OpenShut
namespace Go.Proofs.YtidjnfjpdnjogaaGreatDoor
open Go.ChangeShapes Go.WideShapes Go.ChangeAt Go.RowKit

abbrev Tab (_w : World) : Prop := True
theorem tabs_of_laid {L} {W : World} (_h : laidMet Tryz.prog L W) : Tab W := trivial
theorem u64_nat {x : Int} (wx : (Lit.int .u64 x).wf = true) : ∃ a : Nat, x = (a : Int) ∧ a < 18446744073709551616 := by
  have h : 0 ≤ x ∧ x ≤ 18446744073709551615 := by simpa [Lit.wf, IntKind.min, IntKind.max, IntKind.signed, IntKind.bits] using wx
  exact ⟨x.toNat, by omega, by omega⟩
theorem int_range {x : Int} (wx : (Lit.int .i64 x).wf = true) : -9223372036854775808 ≤ x ∧ x ≤ 9223372036854775807 := by simpa [Lit.wf, IntKind.min, IntKind.max, IntKind.signed, IntKind.bits] using wx
end Go.Proofs.YtidjnfjpdnjogaaGreatDoor
