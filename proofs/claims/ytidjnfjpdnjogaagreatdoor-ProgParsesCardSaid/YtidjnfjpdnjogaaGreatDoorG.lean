/-
  What the names' functions call of the library. Conditions: none.
-/
import Derived.Test.YtidjnfjpdnjogaaGreatDoorA
import Derived.Test.YtidjnfjpdnjogaaGreatDoorShelf
import Derived.Lib.Hide
import Derived.Deep.LoopGhost
import Derived.Deep.QuietTactic
import Derived.BigQuiet
namespace Go.Proofs.YtidjnfjpdnjogaaGreatDoor
open Go.RowKit Go.Lib

theorem clone_any (s : ByteArray) (w : World) (hs : s.size ≤ 281474976710656) : Calls Tryz.prog 15 #[.string s] w fun en w' => en = .returned (.string s) ∧ Below w.heap.size w w' := by
  have H := Lib.hid (Tryz.stringslite_Clone s w hs)
  go_enter Tryz.func15, Tryz.ntmps15
  go_wp2_with fail
  refine H.out.mono ?_
  rintro en w1 ⟨rfl, hb⟩
  go_wp2
  go_ret
  exact ⟨rfl, hb⟩
end Go.Proofs.YtidjnfjpdnjogaaGreatDoor
