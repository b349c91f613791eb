/-
  Events as they lie in memory; what package view asks of one; the library's iterator backward over a list. Conditions: none.
-/
import Derived.Test.YtimmdcajadddmaaA
import Derived.Lib.Hide
import Derived.Deep.LoopGhost
import Derived.Deep.QuietTactic
import Derived.BigQuiet
namespace Go.Proofs.Ytimmdcajadddmaa
open Go.RowKit Go.Lib

/-- An event, by its cells. -/
structure Ev where
  id : Int
  ty : ByteArray
  data : ByteArray
  value : Nat
  stream : ByteArray
  version : Int
  position : Int
  time : Int
/-- Its cells. -/
def Ev.cells (e : Ev) : Array Value := #[.int .i64 e.id, .string e.ty, .string e.data, .float .f64 e.value, .string e.stream, .int .i64 e.version, .int .i64 e.position, .int .i64 e.time]
/-- As a value. -/
abbrev Ev.val (e : Ev) : Value := .agg #[.int .i64 e.id, .string e.ty, .string e.data, .float .f64 e.value, .string e.stream, .int .i64 e.version, .int .i64 e.position, .int .i64 e.time]

theorem position_any (e : Ev) (w : World) : Calls Try.prog 20 #[e.val] w fun en w' => en = .returned (.int .i64 e.position) ∧ w' = w.alloc (.cells e.cells 29) := by
  go_enter Try.func20, Try.ntmps20
  go_wp2
  go_ret
  exact ⟨rfl, rfl⟩

theorem wrong_no (from_ n : Int) (h0 : 0 ≤ from_) (h1 : 1 ≤ n) (h2 : n ≤ 100) (w : World) : Calls Try.prog 27 #[.int .i64 from_, .int .i64 n] w fun en w' => en = .returned (.bool false) ∧ w' = w := by
  have k0 : ¬ from_ < 0 := by omega
  have k1 : ¬ n < 1 := by omega
  have k2 : ¬ 100 < n := by omega
  go_enter Try.func27, Try.ntmps27
  go_wp2
  go_ret
  exact ⟨rfl, rfl⟩

theorem next_any (n : Int) (h : n < 9223372036854775807) (h0 : -9223372036854775808 ≤ n) (w : World) : Calls Try.prog 28 #[.int .i64 n] w fun en w' => en = .returned (.int .i64 (n + 1)) ∧ w' = w := by
  have k0 : (n == 9223372036854775807) = false := beq_eq_false_iff_ne.2 (by omega)
  have hw : IntKind.i64.wrap (n + 1) = n + 1 := IntWalk.i64_in _ (by omega)
  clear h h0
  go_enter Try.func28, Try.ntmps28
  go_wp2
  go_ret
  exact ⟨rfl, rfl⟩
end Go.Proofs.Ytimmdcajadddmaa
