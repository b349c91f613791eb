/-
  Contracts of package guard's function told. Conditions: none.
-/
import Derived.Test.YtidjnfjpdnjogaaDoorA
import Derived.WalkKit
import Derived.WalkSpells
import Derived.WalkLawsBesides
import Derived.Stop.Asserts
namespace Go.Proofs.YtidjnfjpdnjogaaDoor
open Go.RowKit

theorem asE_F (v : Value) (xT : TypeId) (w : World) : (Instr.typeAssert (.iface 29 v) xT 107 true).run Tryd.prog w = .ok (.tuple #[.nilIface, .bool false]) w :=
  run_typeAssert_lacksB Tryd.underlying107 (by kernel_rfl) (by kernel_rfl) v xT w
theorem as9_F (v : Value) (xT : TypeId) (w : World) : (Instr.typeAssert (.iface 9 v) xT 107 true).run Tryd.prog w = .ok (.tuple #[.nilIface, .bool false]) w :=
  run_typeAssert_lacksB Tryd.underlying107 (by kernel_rfl) (by kernel_rfl) v xT w
theorem asE_E (v : Value) (w : World) : (Instr.typeAssert (.iface 29 v) 20 29 true).run Tryd.prog w = .ok (.tuple #[v, .bool true]) w := by kernel_rfl
theorem as9_E (v : Value) (w : World) : (Instr.typeAssert (.iface 9 v) 20 29 true).run Tryd.prog w = .ok (.tuple #[.int .i64 0, .bool false]) w := by kernel_rfl
theorem as9_9 (v : Value) (w : World) : (Instr.typeAssert (.iface 9 v) 20 9 true).run Tryd.prog w = .ok (.tuple #[v, .bool true]) w := by kernel_rfl

/-- The dynamic types that have the method RuntimeError. -/
def rtT (t : TypeId) : Prop := t = 8 ∨ t = 10 ∨ t = 11 ∨ t = 15
theorem asrt_F (t : TypeId) (h : rtT t) (v : Value) (xT : TypeId) (w : World) : (Instr.typeAssert (.iface t v) xT 107 true).run Tryd.prog w = .ok (.tuple #[.iface t v, .bool true]) w := by
  rcases h with rfl | rfl | rfl | rfl
  · exact run_typeAssert_hasB Tryd.underlying107 (by kernel_rfl) v xT w
  · exact run_typeAssert_hasB Tryd.underlying107 (by kernel_rfl) v xT w
  · exact run_typeAssert_hasB Tryd.underlying107 (by kernel_rfl) v xT w
  · exact run_typeAssert_hasB Tryd.underlying107 (by kernel_rfl) v xT w

def fault (e k : Int) (s : ByteArray) : Value := .agg #[.int .i64 e, .int .i64 k, .string s]

set_option maxHeartbeats 400000 in
theorem told_num (x : Int) (h : (x != 0) = true) (w : World) :
    Calls Tryd.prog 61 #[.iface 29 (.int .i64 x)] w fun e w' => e = .returned (fault x 2 ⟨#[]⟩) ∧ Below w.heap.size w w' := by
  have f1 := asE_F
  have f2 := asE_E
  go_enter Tryd.func61, Tryd.ntmps61
  go_wp2
  exact bodyPost_ret (v := fault x 2 ⟨#[]⟩) (by simp [results, Tryd.results61, go_sem, fault]) rfl ⟨rfl, ((Below.refl _ _).alloc (Nat.le_refl _) _)⟩

set_option maxHeartbeats 400000 in
theorem told_text (s : ByteArray) (w : World) :
    Calls Tryd.prog 61 #[.iface 9 (.string s)] w fun e w' => e = .returned (fault 21 3 s) ∧ Below w.heap.size w w' := by
  have f1 := as9_F
  have f2 := as9_E
  have f3 := as9_9
  go_enter Tryd.func61, Tryd.ntmps61
  go_wp2
  exact bodyPost_ret (v := fault 21 3 s) (by simp [results, Tryd.results61, go_sem, fault]) rfl ⟨rfl, ((Below.refl _ _).alloc (Nat.le_refl _) _)⟩

set_option maxHeartbeats 400000 in
theorem told_rt (t : TypeId) (h : rtT t) (v : Value) (w : World) :
    Calls Tryd.prog 61 #[.iface t v] w fun e w' => e = .returned (fault 21 1 ⟨#[]⟩) ∧ Below w.heap.size w w' := by
  have f1 := asrt_F t h
  clear h
  go_enter Tryd.func61, Tryd.ntmps61
  go_wp2
  exact bodyPost_ret (v := fault 21 1 ⟨#[]⟩) (by simp [results, Tryd.results61, go_sem, fault]) rfl ⟨rfl, ((Below.refl _ _).alloc (Nat.le_refl _) _)⟩

end Go.Proofs.YtidjnfjpdnjogaaDoor
