/-
  Contracts of package guard's function told. Conditions: none.
-/
import Derived.Test.YtdllgebccjmljaaRows
import Derived.WalkKit
import Derived.WalkSpells
import Derived.WalkLawsBesides
import Derived.Stop.Asserts
namespace Go.Proofs.Ytdllgebccjmljaa
open Go.RowKit

theorem as24_53 (v : Value) (xT : TypeId) (w : World) : (Instr.typeAssert (.iface 24 v) xT 53 true).run Try.prog w = .ok (.tuple #[.nilIface, .bool false]) w :=
  run_typeAssert_lacksB Try.underlying53 (by kernel_rfl) (by kernel_rfl) v xT w
theorem as9_53 (v : Value) (xT : TypeId) (w : World) : (Instr.typeAssert (.iface 9 v) xT 53 true).run Try.prog w = .ok (.tuple #[.nilIface, .bool false]) w :=
  run_typeAssert_lacksB Try.underlying53 (by kernel_rfl) (by kernel_rfl) v xT w
theorem as24_24 (v : Value) (w : World) : (Instr.typeAssert (.iface 24 v) 20 24 true).run Try.prog w = .ok (.tuple #[v, .bool true]) w := by kernel_rfl
theorem as9_24 (v : Value) (w : World) : (Instr.typeAssert (.iface 9 v) 20 24 true).run Try.prog w = .ok (.tuple #[.int .i64 0, .bool false]) w := by kernel_rfl
theorem as9_9 (v : Value) (w : World) : (Instr.typeAssert (.iface 9 v) 20 9 true).run Try.prog w = .ok (.tuple #[v, .bool true]) w := by kernel_rfl

/-- The dynamic types that have the method RuntimeError. -/
def rtT (t : TypeId) : Prop := t = 8 ∨ t = 10 ∨ t = 11 ∨ t = 15
theorem asrt_53 (t : TypeId) (h : rtT t) (v : Value) (xT : TypeId) (w : World) : (Instr.typeAssert (.iface t v) xT 53 true).run Try.prog w = .ok (.tuple #[.iface t v, .bool true]) w := by
  rcases h with rfl | rfl | rfl | rfl
  · exact run_typeAssert_hasB Try.underlying53 (by kernel_rfl) v xT w
  · exact run_typeAssert_hasB Try.underlying53 (by kernel_rfl) v xT w
  · exact run_typeAssert_hasB Try.underlying53 (by kernel_rfl) v xT w
  · exact run_typeAssert_hasB Try.underlying53 (by kernel_rfl) v xT w

def fault (e k : Int) (s : ByteArray) : Value := .agg #[.int .i64 e, .int .i64 k, .string s]

set_option maxHeartbeats 400000 in
theorem told_num (x : Int) (h : (x != 0) = true) (w : World) :
    Calls Try.prog 27 #[.iface 24 (.int .i64 x)] w fun e w' => e = .returned (fault x 2 ⟨#[]⟩) ∧ Below w.heap.size w w' := by
  have f1 := as24_53
  have f2 := as24_24
  go_enter Try.func27, Try.ntmps27
  go_wp2
  exact bodyPost_ret (v := fault x 2 ⟨#[]⟩) (by simp [results, Try.results27, go_sem, fault]) rfl ⟨rfl, ((Below.refl _ _).alloc (Nat.le_refl _) _)⟩

set_option maxHeartbeats 400000 in
theorem told_text (s : ByteArray) (w : World) :
    Calls Try.prog 27 #[.iface 9 (.string s)] w fun e w' => e = .returned (fault 21 3 s) ∧ Below w.heap.size w w' := by
  have f1 := as9_53
  have f2 := as9_24
  have f3 := as9_9
  go_enter Try.func27, Try.ntmps27
  go_wp2
  exact bodyPost_ret (v := fault 21 3 s) (by simp [results, Try.results27, go_sem, fault]) rfl ⟨rfl, ((Below.refl _ _).alloc (Nat.le_refl _) _)⟩

set_option maxHeartbeats 400000 in
theorem told_rt (t : TypeId) (h : rtT t) (v : Value) (w : World) :
    Calls Try.prog 27 #[.iface t v] w fun e w' => e = .returned (fault 21 1 ⟨#[]⟩) ∧ Below w.heap.size w w' := by
  have f1 := asrt_53 t h
  clear h
  go_enter Try.func27, Try.ntmps27
  go_wp2
  exact bodyPost_ret (v := fault 21 1 ⟨#[]⟩) (by simp [results, Try.results27, go_sem, fault]) rfl ⟨rfl, ((Below.refl _ _).alloc (Nat.le_refl _) _)⟩

end Go.Proofs.Ytdllgebccjmljaa
