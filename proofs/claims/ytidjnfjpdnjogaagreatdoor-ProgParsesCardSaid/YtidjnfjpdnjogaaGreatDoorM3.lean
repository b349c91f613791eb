/-
  M3: the texts GuA, GuB, Round, PgP, Pg1, Pg2, one behind the other. Conditions: none.
-/
import Derived.Test.YtidjnfjpdnjogaaGreatDoorA
import Derived.WalkKit
import Derived.WalkSpells
import Derived.WalkLawsBesides
import Derived.Stop.Asserts
import Derived.Defers
import Derived.Recover
import Derived.Lib.Hide
import Derived.OrdersIn
import Derived.OrdersHeld
import Derived.RangeFuncCalls
import Derived.TacticsIn
import Derived.Test.YtidjnfjpdnjogaaGreatDoorM2
import Derived.Laws.FloatBits
import Derived.Laws.AppendOwnNone
import Derived.Deep.RegionHeld
import Derived.Deep.CutBlock
import Derived.Deep.DeepCutAuto
import Derived.RegionDies
import Derived.Deep.AppendLies
import Derived.StillTailTactics
/-
  Contracts of package guard's function told. Conditions: none.
-/
namespace Go.Proofs.YtidjnfjpdnjogaaGreatDoor
open Go.RowKit

theorem asE_F (v : Value) (xT : TypeId) (w : World) : (Instr.typeAssert (.iface 34 v) xT 153 true).run Tryz.prog w = .ok (.tuple #[.nilIface, .bool false]) w :=
  run_typeAssert_lacksB Tryz.underlying153 (by kernel_rfl) (by kernel_rfl) v xT w
theorem as9_F (v : Value) (xT : TypeId) (w : World) : (Instr.typeAssert (.iface 9 v) xT 153 true).run Tryz.prog w = .ok (.tuple #[.nilIface, .bool false]) w :=
  run_typeAssert_lacksB Tryz.underlying153 (by kernel_rfl) (by kernel_rfl) v xT w
theorem asE_E (v : Value) (w : World) : (Instr.typeAssert (.iface 34 v) 20 34 true).run Tryz.prog w = .ok (.tuple #[v, .bool true]) w := by kernel_rfl
theorem as9_E (v : Value) (w : World) : (Instr.typeAssert (.iface 9 v) 20 34 true).run Tryz.prog w = .ok (.tuple #[.int .i64 0, .bool false]) w := by kernel_rfl
theorem as9_9 (v : Value) (w : World) : (Instr.typeAssert (.iface 9 v) 20 9 true).run Tryz.prog w = .ok (.tuple #[v, .bool true]) w := by kernel_rfl

/-- The dynamic types that have the method RuntimeError. -/
def rtT (t : TypeId) : Prop := t = 8 ∨ t = 10 ∨ t = 11 ∨ t = 15
theorem asrt_F (t : TypeId) (h : rtT t) (v : Value) (xT : TypeId) (w : World) : (Instr.typeAssert (.iface t v) xT 153 true).run Tryz.prog w = .ok (.tuple #[.iface t v, .bool true]) w := by
  rcases h with rfl | rfl | rfl | rfl
  · exact run_typeAssert_hasB Tryz.underlying153 (by kernel_rfl) v xT w
  · exact run_typeAssert_hasB Tryz.underlying153 (by kernel_rfl) v xT w
  · exact run_typeAssert_hasB Tryz.underlying153 (by kernel_rfl) v xT w
  · exact run_typeAssert_hasB Tryz.underlying153 (by kernel_rfl) v xT w

def fault (e k : Int) (s : ByteArray) : Value := .agg #[.int .i64 e, .int .i64 k, .string s]

set_option maxHeartbeats 400000 in
theorem told_num (x : Int) (h : (x != 0) = true) (w : World) :
    Calls Tryz.prog 90 #[.iface 34 (.int .i64 x)] w fun e w' => e = .returned (fault x 2 ⟨#[]⟩) ∧ Below w.heap.size w w' := by
  have f1 := asE_F
  have f2 := asE_E
  go_enter Tryz.func90, Tryz.ntmps90
  go_wp2
  exact bodyPost_ret (v := fault x 2 ⟨#[]⟩) (by simp [results, Tryz.results90, go_sem, fault]) rfl ⟨rfl, ((Below.refl _ _).alloc (Nat.le_refl _) _)⟩

set_option maxHeartbeats 400000 in
theorem told_text (s : ByteArray) (w : World) :
    Calls Tryz.prog 90 #[.iface 9 (.string s)] w fun e w' => e = .returned (fault 21 3 s) ∧ Below w.heap.size w w' := by
  have f1 := as9_F
  have f2 := as9_E
  have f3 := as9_9
  go_enter Tryz.func90, Tryz.ntmps90
  go_wp2
  exact bodyPost_ret (v := fault 21 3 s) (by simp [results, Tryz.results90, go_sem, fault]) rfl ⟨rfl, ((Below.refl _ _).alloc (Nat.le_refl _) _)⟩

set_option maxHeartbeats 400000 in
theorem told_rt (t : TypeId) (h : rtT t) (v : Value) (w : World) :
    Calls Tryz.prog 90 #[.iface t v] w fun e w' => e = .returned (fault 21 1 ⟨#[]⟩) ∧ Below w.heap.size w w' := by
  have f1 := asrt_F t h
  clear h
  go_enter Tryz.func90, Tryz.ntmps90
  go_wp2
  exact bodyPost_ret (v := fault 21 1 ⟨#[]⟩) (by simp [results, Tryz.results90, go_sem, fault]) rfl ⟨rfl, ((Below.refl _ _).alloc (Nat.le_refl _) _)⟩

end Go.Proofs.YtidjnfjpdnjogaaGreatDoor

/-
  Contracts of package guard's Try and Do. Conditions: none.
-/
namespace Go.Proofs.YtidjnfjpdnjogaaGreatDoor
open Go.RowKit

/-- Of the blocks that there were nothing turns, but of the n from B on. -/
structure Off (B n : Nat) (w w' : World) : Prop where
  os : w'.os = w.os
  tape : w'.tape = w.tape
  output : w'.output = w.output
  size : w.heap.size ≤ w'.heap.size
  block : ∀ k, k < w.heap.size → (k < B ∨ B + n ≤ k) → w'.heap[k]? = w.heap[k]?

theorem Off.refl (B n : Nat) (w : World) : Off B n w w := ⟨rfl, rfl, rfl, Nat.le_refl _, fun _ _ _ => rfl⟩
theorem Off.trans {B n : Nat} {a b c : World} (h : Off B n a b) (k : Off B n b c) : Off B n a c :=
  ⟨k.os.trans h.os, k.tape.trans h.tape, k.output.trans h.output, Nat.le_trans h.size k.size, fun i hi hj => (k.block i (Nat.lt_of_lt_of_le hi h.size) hj).trans (h.block i hi hj)⟩
theorem Off.of_below {B n : Nat} {w w' : World} (h : Below w.heap.size w w') : Off B n w w' :=
  ⟨h.os, h.tape, h.output, h.size, fun i hi _ => h.block i hi⟩
theorem Off.setCell {B n : Nat} {a w : World} (h : Off B n a w) {p : Addr} (h1 : B ≤ p.block) (h2 : p.block < B + n) (u : Value) : Off B n a (w.setCell p u) :=
  h.trans ⟨rfl, rfl, rfl, by simp [World.setCell], fun k _ hj => Below.heap_setCell _ _ _ _ (by omega)⟩

theorem catch_idle (p q r : Addr) (w : World) (hc : w.cell? p = some (.bool true)) :
    CallsD Tryz.prog 89 #[.pointer (some p), .pointer (some q), .pointer (some r)] .returning w fun e u' w' => e = .returned (.tuple #[]) ∧ u' = .returning ∧ w' = w := by
  refine callsD_of_wpS Tryz.func89 rfl fun c₀ cs hu => ?_
  simp only [Tryz.ntmps89, List.size_toArray, List.length_cons, List.length_nil, Nat.reduceAdd, Nat.reduceSub, Array.replicate_succ, Array.replicate_zero, List.push_toArray, List.append_toArray, List.nil_append, List.cons_append]
  apply wpS_seq
  apply wpS_region
  simp [wpOpsS, go_sem, recoverD, hu, Exit.thenS]
  refine wpS_of_wp ?_
  go_wp2
  simp [bodyPostS, results, Tryz.results89]
  cases c₀
  simp_all

/-- A world's three blocks from B on: Try's result, its fault, whether it came to its end. -/
structure Three (B : Nat) (n e k : Int) (s : ByteArray) (fine : Bool) (w : World) : Prop where
  b0 : w.heap[B]? = some (.cells #[.int .i64 n] 3)
  b1 : w.heap[B + 1]? = some (.cells #[.int .i64 e, .int .i64 k, .string s] 47)
  b2 : w.heap[B + 1 + 1]? = some (.cells #[.bool fine] 4)

theorem Three.sz {B : Nat} {n e k : Int} {s : ByteArray} {fine : Bool} {w : World} (h : Three B n e k s fine w) : B + 1 + 1 < w.heap.size := by
  have := h.b2
  rw [Array.getElem?_eq_some_iff] at this
  exact this.1

theorem Three.keep {B : Nat} {n e k : Int} {s : ByteArray} {fine : Bool} {w w' : World} (h : Three B n e k s fine w) (hb : Below w.heap.size w w') : Three B n e k s fine w' := by
  have := h.sz
  exact ⟨by rw [hb.block _ (by omega)]; exact h.b0, by rw [hb.block _ (by omega)]; exact h.b1, by rw [hb.block _ (by omega)]; exact h.b2⟩

theorem Three.cells {B : Nat} {n e k : Int} {s : ByteArray} {fine : Bool} {w : World} (h : Three B n e k s fine w) :
    w.cell? ⟨B, 0, none⟩ = some (.int .i64 n) ∧ w.cell? ⟨B + 1, 0, none⟩ = some (.int .i64 e) ∧ w.cell? ⟨B + 1, 1, none⟩ = some (.int .i64 k) ∧ w.cell? ⟨B + 1, 2, none⟩ = some (.string s) ∧ w.cell? ⟨B + 1 + 1, 0, none⟩ = some (.bool fine) ∧
    w.frozen? ⟨B, 0, none⟩ = false ∧ w.frozen? ⟨B + 1, 0, none⟩ = false ∧ w.frozen? ⟨B + 1, 1, none⟩ = false ∧ w.frozen? ⟨B + 1, 2, none⟩ = false ∧ w.frozen? ⟨B + 1 + 1, 0, none⟩ = false := by
  simp [World.cell?, World.frozen?, h.b0, h.b1, h.b2]

section
variable {B : Nat} {n e k : Int} {s : ByteArray} {fine : Bool} {w : World}
theorem Three.set0 (h : Three B n e k s fine w) (n' : Int) : Three B n' e k s fine (w.setCell ⟨B, 0, none⟩ (.int .i64 n')) :=
  ⟨heap_setCell_same h.b0 _, (Below.heap_setCell _ _ _ _ (by simp)).trans h.b1, (Below.heap_setCell _ _ _ _ (by simp; omega)).trans h.b2⟩
theorem Three.set1 (h : Three B n e k s fine w) (e' : Int) : Three B n e' k s fine (w.setCell ⟨B + 1, 0, none⟩ (.int .i64 e')) :=
  ⟨(Below.heap_setCell _ _ _ _ (by simp)).trans h.b0, heap_setCell_same h.b1 _, (Below.heap_setCell _ _ _ _ (by simp)).trans h.b2⟩
theorem Three.set2 (h : Three B n e k s fine w) (k' : Int) : Three B n e k' s fine (w.setCell ⟨B + 1, 1, none⟩ (.int .i64 k')) :=
  ⟨(Below.heap_setCell _ _ _ _ (by simp)).trans h.b0, heap_setCell_same h.b1 _, (Below.heap_setCell _ _ _ _ (by simp)).trans h.b2⟩
theorem Three.set3 (h : Three B n e k s fine w) (s' : ByteArray) : Three B n e k s' fine (w.setCell ⟨B + 1, 2, none⟩ (.string s')) :=
  ⟨(Below.heap_setCell _ _ _ _ (by simp)).trans h.b0, heap_setCell_same h.b1 _, (Below.heap_setCell _ _ _ _ (by simp)).trans h.b2⟩
theorem Three.set4 (h : Three B n e k s fine w) (b : Bool) : Three B n e k s b (w.setCell ⟨B + 1 + 1, 0, none⟩ (.bool b)) :=
  ⟨(Below.heap_setCell _ _ _ _ (by simp; omega)).trans h.b0, (Below.heap_setCell _ _ _ _ (by simp)).trans h.b1, heap_setCell_same h.b2 _⟩
end

set_option maxHeartbeats 400000 in
theorem catch_told (B : Nat) (t : TypeId) (pv : Value) (older : List PanicEntry) (n e0 k0 e k : Int) (s0 s : ByteArray) (w : World) (h3 : Three B n e0 k0 s0 false w)
    (ht : ∀ w, Calls Tryz.prog 90 #[.iface t pv] w fun e' w' => e' = .returned (fault e k s) ∧ Below w.heap.size w w') :
    CallsD Tryz.prog 89 #[.pointer (some ⟨B + 1 + 1, 0, none⟩), .pointer (some ⟨B, 0, none⟩), .pointer (some ⟨B + 1, 0, none⟩)] (.panicking ({ v := .iface t pv, recovered := false } :: older)) w fun e' u' w' =>
       e' = .returned (.tuple #[]) ∧ u' = .panicking ({ v := .iface t pv, recovered := true } :: older) ∧ Off B 3 w w' ∧ Three B 0 e k s false w' := by
  have hc := h3.cells.2.2.2.2.1
  refine callsD_of_wpS Tryz.func89 rfl fun c₀ cs hu => ?_
  simp only [Tryz.ntmps89, List.size_toArray, List.length_cons, List.length_nil, Nat.reduceAdd, Nat.reduceSub, Array.replicate_succ, Array.replicate_zero, List.push_toArray, List.append_toArray, List.nil_append, List.cons_append]
  have HT := Lib.hid ht; clear ht
  apply wpS_seq
  apply wpS_region
  simp [wpOpsS, go_sem, recoverD, hu, Exit.thenS]
  refine wpS_of_wp ?_
  go_wp2_with fail
  refine (HT.out _).mono ?_
  rintro e' w1 ⟨rfl, hb⟩
  have H1 := h3.keep hb
  clear HT hc
  obtain ⟨f1, f2, f3, f4, f5, f6, f7, f8, f9, f10⟩ := H1.cells
  unfold fault
  go_wp2
  simp [bodyPostS, results, Tryz.results89]
  refine ⟨?_, (((H1.set0 0).set1 e).set2 k).set3 s⟩
  exact ((((Off.of_below hb).setCell (p := ⟨B, 0, none⟩) (Nat.le_refl _) (by simp) _).setCell (p := ⟨B + 1, 0, none⟩) (by simp) (by simp) _).setCell (p := ⟨B + 1, 1, none⟩) (by simp) (by simp) _).setCell (p := ⟨B + 1, 2, none⟩) (by simp) (by simp) _

theorem funcNeNil (fn : Fn) (first cap : Array Value) (w : World) : (binOp .eql 120 (.func fn first cap) .nilFunc).run Tryz.prog w = .ok (.bool false) w := by kernel_rfl

theorem funcNeNil1 (fn : Fn) (first cap : Array Value) (w : World) : (binOp .eql 1 (.func fn first cap) .nilFunc).run Tryz.prog w = .ok (.bool false) w := by kernel_rfl

/-- The world in which Try calls its function. -/
def tryW (w : World) : World := ((w.alloc (.cells #[.int .i64 0] 3)).alloc (.cells #[.int .i64 0, .int .i64 0, .string ⟨#[]⟩] 47)).alloc (.cells #[.bool false] 4)

theorem tryW_three (w : World) : Three w.heap.size 0 0 0 ⟨#[]⟩ false (tryW w) := by
  refine ⟨?_, ?_, ?_⟩
  all_goals
    show (((w.heap.push _).push _).push _)[_]? = _
    simp only [Array.getElem?_push, Array.size_push]
  · rw [if_neg (by omega), if_neg (by omega), if_pos trivial]
  · rw [if_neg (by omega), if_pos trivial]
  · rw [if_pos trivial]
  
theorem tryW_size (w : World) : (tryW w).heap.size = w.heap.size + 3 := by simp [tryW]

set_option maxHeartbeats 400000 in
theorem try_ok (G : Nat) (caps : Array Value) (w : World) (n : Int) (R : World → Prop)
    (hcf : ∀ w, (callFunc G caps).run Tryz.prog w = .ok (.enter G caps) w)
    (hG : Calls Tryz.prog G caps (tryW w) fun e w' => e = .returned (.int .i64 n) ∧ Three w.heap.size 0 0 0 ⟨#[]⟩ false w' ∧ R w') :
    Calls Tryz.prog 66 #[.func (.func G) #[] caps] w fun e w' => e = .returned (.tuple #[.int .i64 n, fault 0 0 ⟨#[]⟩]) ∧ ∃ w1, R w1 ∧ Off w.heap.size 3 w1 w' := by
  have hmf : ∀ (fn : Fn) (first cap : Array Value) (w : World), (Instr.makeFunc fn first cap).run Tryz.prog w = .ok (.func fn first cap) w := fun _ _ _ _ => rfl
  have hne := funcNeNil
  have HG := Lib.hid hG; clear hG
  go_enter_defers Tryz.func66, Tryz.ntmps66
  go_wp2_with fail
  refine HG.out.mono ?_
  rintro e w1 ⟨rfl, h3, hR⟩
  clear HG
  obtain ⟨f1, f2, f3, f4, f5, f6, f7, f8, f9, f10⟩ := h3.cells
  go_wp2
  have H := ((((((h3.set0 n).set4 true).set0 n).set1 0).set2 0).set3 ⟨#[]⟩)
  have O : Off w.heap.size 3 w1 _ := ((((((Off.refl w.heap.size 3 w1).setCell (p := ⟨w.heap.size, 0, none⟩) (Nat.le_refl _) (by simp) (.int .i64 n)).setCell (p := ⟨w.heap.size + 1 + 1, 0, none⟩) (by simp <;> omega) (by simp <;> omega) (.bool true)).setCell (p := ⟨w.heap.size, 0, none⟩) (Nat.le_refl _) (by simp) (.int .i64 n)).setCell (p := ⟨w.heap.size + 1, 0, none⟩) (by simp) (by simp) (.int .i64 0)).setCell (p := ⟨w.heap.size + 1, 1, none⟩) (by simp) (by simp) (.int .i64 0)).setCell (p := ⟨w.heap.size + 1, 2, none⟩) (by simp) (by simp) (.string ⟨#[]⟩)
  clear f1 f2 f3 f4 f5 f6 f7 f8 f9 f10 h3
  revert H O
  generalize (World.setCell _ _ _ : World) = W2
  intro H O
  obtain ⟨f1, f2, f3, f4, f5, f6, f7, f8, f9, f10⟩ := H.cells
  refine leaves_cons (f := 89) (args := #[.pointer (some ⟨w.heap.size + 1 + 1, 0, none⟩), .pointer (some ⟨w.heap.size, 0, none⟩), .pointer (some ⟨w.heap.size + 1, 0, none⟩)]) (by simp) (by simp [go_sem]) ?_
  refine (catch_idle _ _ _ _ f5).mono ?_
  rintro e u' w'' ⟨rfl, rfl, rfl⟩
  simp [Leaves, settle, results, Tryz.results66, go_sem, fault, f1, f2, f3, f4]
  exact ⟨_, hR, O⟩

/-- What told tells of what was thrown. -/
def ToldBy (t : TypeId) (pv : Value) (e k : Int) (s : ByteArray) : Prop :=
  ∀ w, Calls Tryz.prog 90 #[.iface t pv] w fun e' w' => e' = .returned (fault e k s) ∧ Below w.heap.size w w'

set_option maxHeartbeats 400000 in
theorem try_bad (G : Nat) (caps : Array Value) (w : World) (e k : Int) (s : ByteArray) (R : World → Prop)
    (hcf : ∀ w, (callFunc G caps).run Tryz.prog w = .ok (.enter G caps) w)
    (hG : Calls Tryz.prog G caps (tryW w) fun e' w' => (∃ t pv, e' = .panicked [{ v := .iface t pv, recovered := false }] ∧ ToldBy t pv e k s) ∧ Three w.heap.size 0 0 0 ⟨#[]⟩ false w' ∧ R w') :
    Calls Tryz.prog 66 #[.func (.func G) #[] caps] w fun e' w' => e' = .returned (.tuple #[.int .i64 0, fault e k s]) ∧ ∃ w1, R w1 ∧ Off w.heap.size 3 w1 w' := by
  have hmf : ∀ (fn : Fn) (first cap : Array Value) (w : World), (Instr.makeFunc fn first cap).run Tryz.prog w = .ok (.func fn first cap) w := fun _ _ _ _ => rfl
  have hne := funcNeNil
  have HG := Lib.hid hG; clear hG
  go_enter_defers Tryz.func66, Tryz.ntmps66
  go_wp2_with fail
  refine HG.out.mono ?_
  rintro e' w1 ⟨⟨t, pv, rfl, ht⟩, h3, hR⟩
  have HT := Lib.hid ht; clear ht
  clear HG
  go_wp2
  refine leaves_cons (f := 89) (args := #[.pointer (some ⟨w.heap.size + 1 + 1, 0, none⟩), .pointer (some ⟨w.heap.size, 0, none⟩), .pointer (some ⟨w.heap.size + 1, 0, none⟩)]) (by simp) (by simp [go_sem]) ?_
  refine (catch_told w.heap.size t pv [] 0 0 0 e k ⟨#[]⟩ s w1 h3 HT.out).mono ?_
  rintro e' u' w'' ⟨rfl, rfl, O, H⟩
  obtain ⟨f1, f2, f3, f4, f5, f6, f7, f8, f9, f10⟩ := H.cells
  simp [Leaves, settle, results, Tryz.results66, go_sem, fault, f1, f2, f3, f4]
  exact ⟨_, hR, O⟩

/-- The closure that Do hands to Try: it calls the function that lies in block C. -/
theorem do1_ok (C : Nat) (G : Nat) (caps : Array Value) (w : World) (R : World → Prop)
    (hc : w.cell? ⟨C, 0, none⟩ = some (.func (.func G) #[] caps))
    (hcf : ∀ w, (callFunc G caps).run Tryz.prog w = .ok (.enter G caps) w)
    (hG : Calls Tryz.prog G caps w fun e w' => e = .returned (.tuple #[]) ∧ R w') :
    Calls Tryz.prog 67 #[.pointer (some ⟨C, 0, none⟩)] w fun e w' => e = .returned (.int .i64 0) ∧ R w' := by
  have HG := Lib.hid hG; clear hG
  go_enter Tryz.func67, Tryz.ntmps67
  go_wp2_with fail
  refine HG.out.mono ?_
  rintro e w1 ⟨rfl, hR⟩
  clear HG
  go_wp2
  go_ret
  exact ⟨rfl, hR⟩

theorem do1_bad (C : Nat) (G : Nat) (caps : Array Value) (w : World) (K : List PanicEntry → Prop) (R : World → Prop)
    (hc : w.cell? ⟨C, 0, none⟩ = some (.func (.func G) #[] caps))
    (hcf : ∀ w, (callFunc G caps).run Tryz.prog w = .ok (.enter G caps) w)
    (hG : Calls Tryz.prog G caps w fun e w' => (∃ chain, e = .panicked chain ∧ K chain) ∧ R w') :
    Calls Tryz.prog 67 #[.pointer (some ⟨C, 0, none⟩)] w fun e w' => (∃ chain, e = .panicked chain ∧ K chain) ∧ R w' := by
  have HG := Lib.hid hG; clear hG
  go_enter Tryz.func67, Tryz.ntmps67
  go_wp2_with fail
  refine HG.out.mono ?_
  rintro e w1 ⟨⟨chain, rfl, hK⟩, hR⟩
  clear HG
  go_wp2
  exact ⟨rfl, ⟨chain, rfl, hK⟩, hR⟩

/-- Of the blocks from B on nothing turns. -/
structure Keeps (B : Nat) (w w' : World) : Prop where
  size : w.heap.size ≤ w'.heap.size
  block : ∀ k, B ≤ k → k < w.heap.size → w'.heap[k]? = w.heap[k]?

theorem Keeps.three {w w' : World} (h : Keeps w.heap.size (tryW w) w') : Three w.heap.size 0 0 0 ⟨#[]⟩ false w' := by
  have H := tryW_three w
  have hs := tryW_size w
  exact ⟨by rw [h.block _ (by omega) (by omega)]; exact H.b0, by rw [h.block _ (by omega) (by omega)]; exact H.b1, by rw [h.block _ (by omega) (by omega)]; exact H.b2⟩

/-- The world in which Do calls Tryz. -/
def doW (f : Value) (w : World) : World := (w.alloc (.cells #[f] 1)).alloc (.cells #[.int .i64 0, .int .i64 0, .string ⟨#[]⟩] 47)

theorem doW_size (f : Value) (w : World) : (doW f w).heap.size = w.heap.size + 2 := by simp [doW]

theorem doW_b0 (f : Value) (w : World) : (doW f w).heap[w.heap.size]? = some (.cells #[f] 1) := by
  show ((w.heap.push _).push _)[_]? = _
  simp only [Array.getElem?_push, Array.size_push]
  rw [if_neg (by omega), if_pos trivial]
theorem doW_b1 (f : Value) (w : World) : (doW f w).heap[w.heap.size + 1]? = some (.cells #[.int .i64 0, .int .i64 0, .string ⟨#[]⟩] 47) := by
  show ((w.heap.push _).push _)[_]? = _
  simp only [Array.getElem?_push, Array.size_push]
  rw [if_pos trivial]
theorem tryW_old (w : World) (k : Nat) (h : k < w.heap.size) : (tryW w).heap[k]? = w.heap[k]? := by
  show (((w.heap.push _).push _).push _)[_]? = _
  simp only [Array.getElem?_push, Array.size_push]
  rw [if_neg (by omega), if_neg (by omega), if_neg (by omega)]
theorem doW_old (f : Value) (w : World) (k : Nat) (h : k < w.heap.size) : (doW f w).heap[k]? = w.heap[k]? := by
  show ((w.heap.push _).push _)[_]? = _
  simp only [Array.getElem?_push, Array.size_push]
  rw [if_neg (by omega), if_neg (by omega)]

/-- What do's function is called in: five blocks more. -/
def inW (f : Value) (w : World) : World := tryW (doW f w)
theorem inW_size (f : Value) (w : World) : (inW f w).heap.size = w.heap.size + 5 := by rw [inW, tryW_size, doW_size]
theorem inW_b0 (f : Value) (w : World) : (inW f w).heap[w.heap.size]? = some (.cells #[f] 1) := by rw [inW, tryW_old _ _ (by rw [doW_size]; omega), doW_b0]
theorem inW_b1 (f : Value) (w : World) : (inW f w).heap[w.heap.size + 1]? = some (.cells #[.int .i64 0, .int .i64 0, .string ⟨#[]⟩] 47) := by rw [inW, tryW_old _ _ (by rw [doW_size]; omega), doW_b1]
theorem inW_old (f : Value) (w : World) (k : Nat) (h : k < w.heap.size) : (inW f w).heap[k]? = w.heap[k]? := by rw [inW, tryW_old _ _ (by rw [doW_size]; omega), doW_old _ _ _ h]

theorem cell_of_block1 {w : World} {b : Nat} {v : Value} {T : TypeId} (h : w.heap[b]? = some (.cells #[v] T)) : w.cell? ⟨b, 0, none⟩ = some v ∧ w.frozen? ⟨b, 0, none⟩ = false := by
  simp [World.cell?, World.frozen?, h]
theorem cells_of_fault {w : World} {b : Nat} {x y z : Value} {T : TypeId} (h : w.heap[b]? = some (.cells #[x, y, z] T)) :
    w.cell? ⟨b, 0, none⟩ = some x ∧ w.cell? ⟨b, 1, none⟩ = some y ∧ w.cell? ⟨b, 2, none⟩ = some z ∧ w.frozen? ⟨b, 0, none⟩ = false ∧ w.frozen? ⟨b, 1, none⟩ = false ∧ w.frozen? ⟨b, 2, none⟩ = false := by
  simp [World.cell?, World.frozen?, h]

theorem Off.wider {B n B' n' : Nat} {w w' : World} (h : Off B n w w') (h1 : B' ≤ B) (h2 : B + n ≤ B' + n') : Off B' n' w w' :=
  ⟨h.os, h.tape, h.output, h.size, fun k hk hj => h.block k hk (by omega)⟩
theorem Off.alloc {B n : Nat} {a w : World} (h : Off B n a w) (o : Obj) : Off B n a (w.alloc o) :=
  h.trans ⟨rfl, rfl, rfl, by simp, fun k hk _ => Below.heap_alloc _ _ _ hk⟩

set_option maxHeartbeats 400000 in
theorem do_ok (G : Nat) (caps : Array Value) (w : World) (R : World → Prop)
    (hcf : ∀ w, (callFunc G caps).run Tryz.prog w = .ok (.enter G caps) w)
    (hG : Calls Tryz.prog G caps (inW (.func (.func G) #[] caps) w) fun e w' => e = .returned (.tuple #[]) ∧ Keeps w.heap.size (inW (.func (.func G) #[] caps) w) w' ∧ R w') :
    Calls Tryz.prog 43 #[.func (.func G) #[] caps] w fun e w' => e = .returned (fault 0 0 ⟨#[]⟩) ∧ ∃ w1, R w1 ∧ Off w.heap.size 5 w1 w' := by
  have hmf : ∀ (fn : Fn) (first cap : Array Value) (w : World), (Instr.makeFunc fn first cap).run Tryz.prog w = .ok (.func fn first cap) w := fun _ _ _ _ => rfl
  have hne := funcNeNil1
  have HG := Lib.hid hG; clear hG
  have HC := Lib.hid hcf; clear hcf
  go_enter Tryz.func43, Tryz.ntmps43
  go_wp2_with fail
  refine (try_ok 67 _ (doW (.func (.func G) #[] caps) w) 0 (fun w' => Keeps w.heap.size (inW (.func (.func G) #[] caps) w) w' ∧ R w') (fun _ => by kernel_rfl) ((do1_ok w.heap.size G caps (inW (.func (.func G) #[] caps) w) _ ?_ HC.out HG.out).mono ?_)).mono ?_
  · exact (cell_of_block1 (inW_b0 _ _)).1
  · rintro e' w1 ⟨rfl, hk, hR⟩
    refine ⟨rfl, Keeps.three ⟨hk.size, fun k h1 h2 => hk.block k (by rw [doW_size] at h1; omega) h2⟩, hk, hR⟩
  rintro e' w2 ⟨rfl, w1, ⟨hk, hR⟩, O⟩
  clear HG HC
  rw [doW_size] at O
  have hz1 := hk.size
  rw [inW_size] at hz1
  have hb1 : w2.heap[w.heap.size + 1]? = some (.cells #[.int .i64 0, .int .i64 0, .string ⟨#[]⟩] 47) := by
    rw [O.block _ (by omega) (by omega), hk.block _ (by omega) (by rw [inW_size]; omega), inW_b1]
  have hs2 := O.size
  obtain ⟨f1, f2, f3, f4, f5, f6⟩ := cells_of_fault hb1
  unfold fault
  have hlt : w.heap.size + 1 < w2.heap.size := by omega
  clear hk hz1 hb1 hs2
  have O5 : Off w.heap.size 5 w1 w2 := O.wider (by omega) (by omega)
  clear O
  go_wp2
  refine bodyPost_ret (v := fault 0 0 ⟨#[]⟩) (by simp [results, Tryz.results43, go_sem, fault, f1, f2, f3, hlt]) rfl ⟨rfl, w1, hR, ?_⟩
  exact (((O5.setCell (p := ⟨w.heap.size + 1, 0, none⟩) (by simp) (by simp) _).setCell (p := ⟨w.heap.size + 1, 1, none⟩) (by simp) (by simp) _).setCell (p := ⟨w.heap.size + 1, 2, none⟩) (by simp) (by simp) _).alloc _

set_option maxHeartbeats 400000 in
theorem do_bad (G : Nat) (caps : Array Value) (w : World) (e k : Int) (s : ByteArray) (R : World → Prop)
    (hcf : ∀ w, (callFunc G caps).run Tryz.prog w = .ok (.enter G caps) w)
    (hG : Calls Tryz.prog G caps (inW (.func (.func G) #[] caps) w) fun e' w' => (∃ t pv, e' = .panicked [{ v := .iface t pv, recovered := false }] ∧ ToldBy t pv e k s) ∧ Keeps w.heap.size (inW (.func (.func G) #[] caps) w) w' ∧ R w') :
    Calls Tryz.prog 43 #[.func (.func G) #[] caps] w fun e' w' => e' = .returned (fault e k s) ∧ ∃ w1, R w1 ∧ Off w.heap.size 5 w1 w' := by
  have hmf : ∀ (fn : Fn) (first cap : Array Value) (w : World), (Instr.makeFunc fn first cap).run Tryz.prog w = .ok (.func fn first cap) w := fun _ _ _ _ => rfl
  have hne := funcNeNil1
  have HG := Lib.hid hG; clear hG
  have HC := Lib.hid hcf; clear hcf
  go_enter Tryz.func43, Tryz.ntmps43
  go_wp2_with fail
  refine (try_bad 67 _ (doW (.func (.func G) #[] caps) w) e k s (fun w' => Keeps w.heap.size (inW (.func (.func G) #[] caps) w) w' ∧ R w') (fun _ => by kernel_rfl) ((do1_bad w.heap.size G caps (inW (.func (.func G) #[] caps) w) (fun c => ∃ t pv, c = [{ v := .iface t pv, recovered := false }] ∧ ToldBy t pv e k s) (fun w' => Keeps w.heap.size (inW (.func (.func G) #[] caps) w) w' ∧ R w') ?_ HC.out (HG.out.mono ?_)).mono ?_)).mono ?_
  · exact (cell_of_block1 (inW_b0 _ _)).1
  · rintro e' w1 ⟨⟨t, pv, rfl, ht⟩, hk, hR⟩
    exact ⟨⟨_, rfl, t, pv, rfl, ht⟩, hk, hR⟩
  · rintro e' w1 ⟨⟨c, rfl, t, pv, rfl, ht⟩, hk, hR⟩
    refine ⟨⟨t, pv, rfl, ht⟩, Keeps.three ⟨hk.size, fun k h1 h2 => hk.block k (by rw [doW_size] at h1; omega) h2⟩, hk, hR⟩
  rintro e' w2 ⟨rfl, w1, ⟨hk, hR⟩, O⟩
  clear HG HC
  rw [doW_size] at O
  have hz1 := hk.size
  rw [inW_size] at hz1
  have hb1 : w2.heap[w.heap.size + 1]? = some (.cells #[.int .i64 0, .int .i64 0, .string ⟨#[]⟩] 47) := by
    rw [O.block _ (by omega) (by omega), hk.block _ (by omega) (by rw [inW_size]; omega), inW_b1]
  have hs2 := O.size
  obtain ⟨f1, f2, f3, f4, f5, f6⟩ := cells_of_fault hb1
  unfold fault
  have hlt : w.heap.size + 1 < w2.heap.size := by omega
  clear hk hz1 hb1 hs2
  have O5 : Off w.heap.size 5 w1 w2 := O.wider (by omega) (by omega)
  clear O
  go_wp2
  refine bodyPost_ret (v := fault e k s) (by simp [results, Tryz.results43, go_sem, fault, f1, f2, f3, hlt]) rfl ⟨rfl, w1, hR, ?_⟩
  exact (((O5.setCell (p := ⟨w.heap.size + 1, 0, none⟩) (by simp) (by simp) _).setCell (p := ⟨w.heap.size + 1, 1, none⟩) (by simp) (by simp) _).setCell (p := ⟨w.heap.size + 1, 2, none⟩) (by simp) (by simp) _).alloc _

set_option maxHeartbeats 400000 in
theorem do_nil (w : World) : Calls Tryz.prog 43 #[.nilFunc] w fun e w' => e = .returned (fault 1 0 ⟨#[]⟩) ∧ Below w.heap.size w w' := by
  have hne : ∀ w, (binOp .eql 1 .nilFunc .nilFunc).run Tryz.prog w = .ok (.bool true) w := fun w => by kernel_rfl
  go_enter Tryz.func43, Tryz.ntmps43
  go_wp2
  exact bodyPost_ret (v := fault 1 0 ⟨#[]⟩) (by simp [results, Tryz.results43, go_sem, fault]) rfl ⟨rfl, ((Below.refl _ _).alloc (Nat.le_refl _) _).alloc (by simp) _⟩

set_option maxHeartbeats 400000 in
theorem try_nil (w : World) : Calls Tryz.prog 66 #[.nilFunc] w fun e w' => e = .returned (.tuple #[.int .i64 0, fault 1 0 ⟨#[]⟩]) ∧ Below w.heap.size w w' := by
  have hne : ∀ w, (binOp .eql 120 .nilFunc .nilFunc).run Tryz.prog w = .ok (.bool true) w := fun w => by kernel_rfl
  go_enter Tryz.func66, Tryz.ntmps66
  go_wp2
  exact bodyPost_ret (v := .tuple #[.int .i64 0, fault 1 0 ⟨#[]⟩]) (by simp [results, Tryz.results66, go_sem, fault]) rfl ⟨rfl, ((Below.refl _ _).alloc (Nat.le_refl _) _).alloc (by simp) _⟩

theorem Keeps.refl (B : Nat) (w : World) : Keeps B w w := ⟨Nat.le_refl _, fun _ _ _ => rfl⟩
theorem Keeps.setLow {B : Nat} {a w : World} (h : Keeps B a w) {p : Addr} (hp : p.block < B) (v : Value) : Keeps B a (w.setCell p v) :=
  ⟨by simpa [World.setCell] using h.size, fun k h1 h2 => (Below.heap_setCell _ _ _ _ (by omega)).trans (h.block k h1 h2)⟩
theorem eqlFault (w : World) (e k e' k' : Int) (s s' : ByteArray) : (binOp .eql 47 (.agg #[.int .i64 e, .int .i64 k, .string s]) (.agg #[.int .i64 e', .int .i64 k', .string s'])).run Tryz.prog w = .ok (.bool ((e == e') && ((k == k') && (s.toList == s'.toList)))) w := by
  simp [go_sem]
  by_cases h1 : e = e' <;> by_cases h2 : k = k' <;> by_cases h3 : s.toList = s'.toList <;> simp [h1, h2, h3]
theorem inW_below (f : Value) (w : World) : Below w.heap.size w (inW f w) :=
  ⟨rfl, rfl, rfl, by rw [inW_size]; omega, fun k hk => inW_old f w k hk⟩
theorem Off.below {B n : Nat} {w w' : World} (h : Off B n w w') (hB : B ≤ w.heap.size) : Below B w w' :=
  ⟨h.os, h.tape, h.output, h.size, fun k hk => h.block k (by omega) (Or.inl hk)⟩
theorem Below.alloc1 (w : World) (o : Obj) : Below w.heap.size w (w.alloc o) := (Below.refl _ _).alloc (Nat.le_refl _) o
theorem must_no (w : World) : Calls Tryz.prog 46 #[.int .i64 0] w fun e w' => e = .returned (.tuple #[]) ∧ w' = w := by
  go_enter Tryz.func46, Tryz.ntmps46
  go_wp2
  go_end0
  exact ⟨rfl, rfl⟩
theorem must_yes (x : Int) (h : (x != 0) = true) (w : World) : Calls Tryz.prog 46 #[.int .i64 x] w fun e w' => e = .panicked [{ v := .iface 34 (.int .i64 x), recovered := false }] ∧ w' = w := by
  go_enter Tryz.func46, Tryz.ntmps46
  go_wp2
  exact ⟨rfl, rfl, rfl⟩
theorem fail_any (s : ByteArray) (w : World) : Calls Tryz.prog 73 #[.string s] w fun e w' => e = .panicked [{ v := .iface 9 (.string s), recovered := false }] ∧ w' = w := by
  go_enter Tryz.func73, Tryz.ntmps73
  go_wp2
  exact ⟨rfl, rfl, rfl⟩
end Go.Proofs.YtidjnfjpdnjogaaGreatDoor

/-
  A region that draws its order, in a round of a range over a function: what holds of it in a plain frame holds in a round's frame, at the wide fence. No program. Conditions: none.
-/
namespace Go.Proofs.YtidjnfjpdnjogaaGreatDoor
open Go

theorem rowsIn_round {n l : Nat} {P : Program} {row : String} {args : Array Value} {w : World} {R : Value → World → Prop} (h : Rows P row args w R) : RowsIn (Fence.wide.inRound l) n P row args w R :=
  fun c cs _ => let ⟨v, w', r, s⟩ := h c cs; ⟨v, w', r, stepsIn_wide.2 s⟩

theorem operIn_round {n l : Nat} {P : Program} {o : Oper} {a : Act} {w : World} {K : Act → World → Prop} {Q : Exit → Act → World → Prop} (hd : ∀ c, o.op ≠ .defer c) (h : o.wp P a w K Q) : o.wpIn (Fence.wide.inRound l) n P a w K Q := by
  refine ⟨fun _ _ => trivial, ?_⟩
  rw [show (Fence.wide.inRound l).round = some l from rfl, Oper.semAt_some l _ _ hd]
  unfold Oper.wp at h
  generalize (execOp a.eval o).run P w = r at *
  cases r with
  | ok x w' =>
    cases x with
    | value v => exact h
    | skip => exact h
    | defer d => exact h
    | enter f args => exact ⟨fun hh => (by cases hh), CallsIn.inRound l (callsIn_wide.2 h)⟩
    | row row args => exact ⟨fun hh => (by cases hh), rowsIn_round h⟩
    | round => exact False.elim h
    | _ => exact False.elim h
  | halt x w' =>
    cases x <;> first | exact h | exact False.elim h

/-- None of the operations is a defer statement. -/
def noDefer (ops : Array Oper) : Bool := ops.toList.all fun o => match o.op with | .defer _ => false | _ => true
theorem noDefer_at {ops : Array Oper} (h : noDefer ops = true) {i : Nat} {o : Oper} (ho : ops[i]? = some o) : ∀ c, o.op ≠ .defer c := by
  intro c hc
  have hm : o ∈ ops.toList := by
    have := Array.mem_of_getElem? ho
    simpa using this
  have := List.all_eq_true.1 h o hm
  rw [hc] at this
  cases this

theorem wpOpIn_round {n l : Nat} {P : Program} {ops : Array Oper} {Q : Exit → Act → World → Prop} (hd : noDefer ops = true) (hQ : ¬ LetsOut Q) {i : Nat} {K : Act → World → Prop} {a : Act} {w : World} (h : wpOp P ops Q i K a w) :
    wpOpIn (Fence.wide.inRound l) n P ops Q i K a w := by
  unfold wpOp at h
  unfold wpOpIn
  cases ho : ops[i]? with
  | none => simp only [ho] at h ⊢; exact h
  | some o =>
    simp only [ho] at h ⊢
    by_cases hw : Region.wanted o (yielded ops a.tmps) = true
    · rw [if_pos hw] at h ⊢
      rcases h with h | ⟨_, h⟩
      · exact operIn_round (noDefer_at hd ho) h
      · exact absurd h hQ
    · rw [if_neg hw] at h ⊢
      exact ⟨fun _ _ => trivial, h⟩

theorem wpAnyIn_round {n l : Nat} {P : Program} {md : Region.Mode} {ops : Array Oper} {Q : Exit → Act → World → Prop} (hd : noDefer ops = true) (hQ : ¬ LetsOut Q) :
    ∀ (fuel : Nat) (listed : Array Bool) (a : Act) (w : World), wpAny P md ops Q fuel listed a w → wpAnyIn (Fence.wide.inRound l) n P md ops Q fuel listed a w
  | 0, _, _, _, h => h
  | fuel + 1, _, _, _, h => ⟨h.1, fun i hi => wpOpIn_mono (fun a' w' h' => wpAnyIn_round hd hQ fuel _ a' w' h') (wpOpIn_round hd hQ (h.2 i hi))⟩

/-- What follows a region that ends normally. -/
def onlyK (K : Act → World → Prop) : Exit → Act → World → Prop
  | .normal, a, w => K a w
  | _, _, _ => False
theorem onlyK_lets (K : Act → World → Prop) : ¬ LetsOut (onlyK K) := fun ⟨_, _, h⟩ => h

/-- A region that draws, in a round. -/
theorem round_region {n l id : Nat} {P : Program} {ops : Array Oper} {Q : Exit → Act → World → Prop} {a : Act} {w : World} (hm : P.follows .mixedOrders = true) (hd : noDefer ops = true)
    (h : wpAny P .any ops (onlyK (Q .normal)) ops.size (Array.replicate ops.size false) a w.drew) : (Code.region id ops true).wpIn (Fence.wide.inRound l) n P Q a w :=
  wpIn_mono (wpIn_region_any hm (wpAnyIn_round hd (onlyK_lets _) _ _ _ _ h)) fun e a w he => by
    cases e <;> first | exact he | exact False.elim he
end Go.Proofs.YtidjnfjpdnjogaaGreatDoor

/-
  Package prog: the machine on its own: what a word does to the numbers that lie there. Plain. Conditions: none.
-/
namespace Go.Proofs.YtidjnfjpdnjogaaGreatDoor
open Go.RowKit Go.Lib

/-- What a program works on. -/
structure En where
  s : Nat
  id : Int
  ty : ByteArray
  d : ByteArray
  v : Nat
  ver : Int

/-- The event's part and the rest, as cells. -/
abbrev En.val (e : En) : Value := .agg #[.float .f64 e.s, .int .i64 e.id, .string e.ty, .string e.d, .float .f64 e.v, .int .i64 e.ver]
def En.cells (e : En) (l : Value) : Array Value := #[.float .f64 e.s, .int .i64 e.id, .string e.ty, .string e.d, .float .f64 e.v, .int .i64 e.ver, l]
structure En.Ok (e : En) : Prop where
  s : e.s < 18446744073709551616
  v : e.v < 18446744073709551616
  d : e.d.size ≤ 281474976710656

/-- A number of two, by its bits; of each NaN the one. -/
def arC (f : Nat → Nat → Option Nat) (a b : Nat) : Nat := match f a b with
  | some r => oneW r
  | none => 9221120237041090560
theorem oneW_lt {a : Nat} (h : a < 18446744073709551616) : oneW a < 18446744073709551616 := by
  unfold oneW; split
  · decide
  · exact h
theorem oneW_one (b : Nat) : oneW (oneW b) = oneW b := by
  rcases fine_dec b with ⟨h, _⟩ | ⟨h, _⟩
  · rw [oneW_not h, oneW_not h]
  · rw [oneW_nan h]; decide +kernel

/-- The two, as a list. -/
def pairL (a b : Nat) : Nat → Nat := fun i => if i = 0 then a else b

def wAdd : List UInt8 := [97, 100, 100]
def wSub : List UInt8 := [115, 117, 98]
def wMul : List UInt8 := [109, 117, 108]
def wDiv : List UInt8 := [100, 105, 118]
def wMin : List UInt8 := [109, 105, 110]
def wMax : List UInt8 := [109, 97, 120]
def wLess : List UInt8 := [108, 101, 115, 115]
def wDup : List UInt8 := [100, 117, 112]
def wDrop : List UInt8 := [100, 114, 111, 112]
def wSwap : List UInt8 := [115, 119, 97, 112]
def wPick : List UInt8 := [112, 105, 99, 107]
def wState : List UInt8 := [115, 116, 97, 116, 101]
def wValue : List UInt8 := [118, 97, 108, 117, 101]
def wVersion : List UInt8 := [118, 101, 114, 115, 105, 111, 110]
def wLen : List UInt8 := [108, 101, 110]
def wByte : List UInt8 := [98, 121, 116, 101]
def wNeg : List UInt8 := [110, 101, 103]
def wFail : List UInt8 := [102, 97, 105, 108]
def arithWords : List (List UInt8) := [wAdd, wSub, wMul, wDiv, wMin, wMax, wLess]
def moveWords : List (List UInt8) := [wDup, wDrop, wSwap, wPick]
def otherWords : List (List UInt8) := [wState, wValue, wVersion, wLen, wByte, wNeg, wFail]
def knownB (w : List UInt8) : Bool := (arithWords ++ moveWords ++ otherWords).contains w

/-- What a word of two makes of them. -/
def arithB (w : List UInt8) (a b : Nat) : Nat :=
  if w = wAdd then arC Ieee.double.add a b else if w = wSub then arC Ieee.double.sub a b else if w = wMul then arC Ieee.double.mul a b else if w = wDiv then arC Ieee.double.div a b
  else if w = wMin then oneW (leastC (pairL a b) 2) else if w = wMax then oneW (oneW (mostC (pairL a b) 1)) else if lessB a b then 4607182418800017408 else 0

/-- The numbers that lie there, the last one first; or a fault. -/
inductive Out where
  | ok (st : List Nat)
  | rt
  | fail

/-- Is it a nought or no number? -/
def nilB (c : Nat) : Bool := (Ieee.double.order c 0 == some .eq) || nanW c
def moveB (w : List UInt8) (st : List Nat) : Out :=
  if w = wDup then match st with | f :: t => .ok (oneW f :: oneW f :: t) | _ => .rt
  else if w = wDrop then match st with | _ :: t => .ok t | _ => .rt
  else if w = wSwap then match st with | b :: a :: t => .ok (oneW a :: oneW b :: t) | _ => .rt
  else match st with | c :: b :: a :: t => .ok (oneW (if nilB c then b else a) :: t) | _ => .rt

/-- The byte's place that a number tells. -/
def placeB (k : Nat) (n : Nat) : Option Nat := if (Ieee.double.order k 0 == some .gt || Ieee.double.order k 0 == some .eq) && Ieee.double.order k (intF n) == some .lt && evenB k then some (qOf k) else none
def otherB (e : En) (w : List UInt8) (st : List Nat) : Out :=
  if w = wState then .ok (oneW e.s :: st)
  else if w = wValue then .ok (oneW e.v :: st)
  else if w = wVersion then .ok (oneW (intF e.ver) :: st)
  else if w = wLen then .ok (oneW (intF e.d.size) :: st)
  else if w = wByte then match st with | k :: t => (match placeB k e.d.size with | some i => .ok (oneW (intF ((e.d.data.toList.getD i 0).toNat)) :: t) | none => .rt) | _ => .rt
  else if w = wNeg then match st with | f :: t => .ok (oneW (negB f) :: t) | _ => .rt
  else if w = wFail then .fail
  else .ok (oneW (parseB w).1 :: st)
def stepB (e : En) (w : List UInt8) (st : List Nat) : Out :=
  if arithWords.contains w then match st with | b :: a :: t => .ok (arithB w a b :: t) | _ => .rt
  else if moveWords.contains w then moveB w st
  else otherB e w st
def wordsGo (e : En) : List (List UInt8) → List Nat → Out
  | [], st => .ok st
  | w :: l, st => match stepB e w st with
    | .ok st' => wordsGo e l st'
    | x => x
/-- Is it a word? -/
def isWord (w : List UInt8) : Bool := (parseB w).2 == 0 || knownB w
def checkB : List (List UInt8) → Nat → Int × Nat
  | [], _ => (0, 0)
  | w :: l, i => if isWord w then checkB l (i + 1) else (6, i)
def checkL (l : List (List UInt8)) : Int × Nat := if 64 < l.length then (2, 64) else checkB l 0
/-- What a run tells: the number, the error, its kind, its text. -/
structure Tell where
  v : Nat
  err : Int
  kind : Int
  text : List UInt8
def runB (e : En) (l : List (List UInt8)) : Tell :=
  if (checkL l).1 ≠ 0 then ⟨0, 6, 0, []⟩
  else match wordsGo e l [] with
    | .ok [f] => ⟨f, 0, 0, []⟩
    | .ok _ => ⟨0, 6, 2, []⟩
    | .rt => ⟨0, 21, 1, []⟩
    | .fail => ⟨0, 21, 3, wFail⟩
end Go.Proofs.YtidjnfjpdnjogaaGreatDoor

/-
  Package prog: the machine in memory; push. Conditions: none.
-/
namespace Go.Proofs.YtidjnfjpdnjogaaGreatDoor
open Go.RowKit Go.Lib

/-- A region that draws, in a plain frame. -/
theorem plain_region {id : Nat} {P : Program} {ops : Array Oper} {Q : Exit → Act → World → Prop} {a : Act} {w : World} (hm : P.follows .mixedOrders = true)
    (h : wpAny P .any ops (onlyK (Q .normal)) ops.size (Array.replicate ops.size false) a w.drew) : (Code.region id ops true).wp P Q a w :=
  wp_mono (wp_region_any hm h) fun e a w he => by
    cases e <;> first | exact he | exact False.elim he

/-- Of what lies below B nothing turns but the block M. -/
structure Wk (B M : Nat) (w w' : World) : Prop where
  os : w'.os = w.os
  tape : w'.tape = w.tape
  output : w'.output = w.output
  size : w.heap.size ≤ w'.heap.size
  block : ∀ k, k < B → k ≠ M → w'.heap[k]? = w.heap[k]?
theorem Wk.refl (B M : Nat) (w : World) : Wk B M w w := ⟨rfl, rfl, rfl, Nat.le_refl _, fun _ _ _ => rfl⟩
theorem Wk.trans {B M : Nat} {a b c : World} (h : Wk B M a b) (k : Wk B M b c) : Wk B M a c :=
  ⟨k.os.trans h.os, k.tape.trans h.tape, k.output.trans h.output, Nat.le_trans h.size k.size, fun i hi hj => (k.block i hi hj).trans (h.block i hi hj)⟩
theorem Wk.of_below {B M : Nat} {w w' : World} (h : Below w.heap.size w w') (hB : B ≤ w.heap.size) : Wk B M w w' := ⟨h.os, h.tape, h.output, h.size, fun k hk _ => h.block k (Nat.lt_of_lt_of_le hk hB)⟩
theorem Wk.drewN (B M : Nat) (w : World) (d : Nat) : Wk B M w (w.drewN d) := ⟨rfl, rfl, rfl, Nat.le_refl _, fun _ _ _ => rfl⟩
theorem Wk.set {B M : Nat} {a w : World} (h : Wk B M a w) (i : Nat) (v : Value) : Wk B M a (w.setCell ⟨M, i, none⟩ v) :=
  h.trans ⟨rfl, rfl, rfl, by simp [World.setCell], fun _ _ hj => Below.heap_setCell _ _ _ _ hj⟩

def flts (st : List Nat) : List Value := st.reverse.map (Value.float .f64)
theorem flts_cons (f : Nat) (st : List Nat) : flts (f :: st) = flts st ++ [.float .f64 f] := by simp [flts]
theorem flts_length (st : List Nat) : (flts st).length = st.length := by simp [flts]

/-- The machine lies at M; its numbers lie in a row of its own, at B or above. -/
structure Mach (B M : Nat) (e : En) (st : List Nat) (v : Value) (w : World) : Prop where
  at_ : w.heap[M]? = some (.cells (e.cells v) 78)
  own : w.ownsRow B 45 1 v st.length (flts st)
  mb : M < B
  bw : B ≤ w.heap.size
  fit : ∀ f ∈ st, f < 18446744073709551616
section
variable {B M : Nat} {e : En} {st : List Nat} {v : Value} {w w' : World}
theorem Mach.drewN (h : Mach B M e st v w) (d : Nat) : Mach B M e st v (w.drewN d) := ⟨h.at_, h.own, h.mb, h.bw, h.fit⟩
theorem Mach.drew (h : Mach B M e st v w) : Mach B M e st v w.drew := ⟨h.at_, h.own, h.mb, h.bw, h.fit⟩
theorem Mach.below (h : Mach B M e st v w) (hb : Below w.heap.size w w') : Mach B M e st v w' :=
  ⟨(hb.block _ (Nat.lt_of_lt_of_le h.mb h.bw)).trans h.at_, own_same h.own (fun g hg => hb.block g (h.own.lt g hg).2), h.mb, Nat.le_trans h.bw hb.size, h.fit⟩
theorem Mach.lt (h : Mach B M e st v w) : M < w.heap.size := Nat.lt_of_lt_of_le h.mb h.bw
theorem Mach.cells (h : Mach B M e st v w) : w.cell? ⟨M, 0, none⟩ = some (.float .f64 e.s) ∧ w.cell? ⟨M, 1, none⟩ = some (.int .i64 e.id) ∧ w.cell? ⟨M, 2, none⟩ = some (.string e.ty) ∧ w.cell? ⟨M, 3, none⟩ = some (.string e.d) ∧
    w.cell? ⟨M, 4, none⟩ = some (.float .f64 e.v) ∧ w.cell? ⟨M, 5, none⟩ = some (.int .i64 e.ver) ∧ w.cell? ⟨M, 6, none⟩ = some v ∧ w.frozen? ⟨M, 6, none⟩ = false := by
  simp [World.cell?, World.frozen?, h.at_, En.cells]
theorem Mach.slice (h : Mach B M e st v w) : ∃ po pc, v = .slice po st.length pc := by
  rcases h.own.2 with ⟨hv, h0⟩ | ⟨g, cap, cur, hv, _⟩
  · exact ⟨none, 0, by rw [hv, h0]⟩
  · exact ⟨_, _, hv⟩
/-- Another row, in the machine's cell. -/
theorem Mach.put {st' : List Nat} {v' : Value} (hat : w.heap[M]? = some (.cells (e.cells v) 78)) (hown : w.ownsRow B 45 1 v' st'.length (flts st')) (mb : M < B) (bw : B ≤ w.heap.size) (fit : ∀ f ∈ st', f < 18446744073709551616) :
    Mach B M e st' v' (w.setCell ⟨M, 6, none⟩ v') := by
  refine ⟨by rw [heap_setCell_same hat]; simp [En.cells], own_same hown (fun g hg => Below.heap_setCell _ _ _ _ (by have := (hown.lt g hg).1; show g ≠ M; omega)), mb, by simpa [World.setCell] using bw, fit⟩
end

theorem pushed {B M : Nat} {e : En} {st : List Nat} {v : Value} {w w' : World} (h : Mach B M e st v w) (hg : w.grownBy w' v.ownBlock) : w'.heap[M]? = some (.cells (e.cells v) 78) ∧ w'.cell? ⟨M, 6, none⟩ = some v ∧ w'.frozen? ⟨M, 6, none⟩ = false ∧ M < w'.heap.size := by
  have hne : some M ≠ v.ownBlock := fun e => by have := (h.own.lt M e.symm).1; have := h.mb; omega
  have h2 : w'.heap[M]? = some (.cells (e.cells v) 78) := (hg.block M h.lt hne).trans h.at_
  exact ⟨h2, by simp [World.cell?, h2, En.cells], by simp [World.frozen?, h2], Nat.lt_of_lt_of_le h.lt hg.size⟩

theorem info_f : (Tryz.prog.info? 45).map (fun i => (i.zero, i.size, i.bytes)) = some (some (.float .f64 0), 1, 8) := by kernel_rfl

def PushPost (B M : Nat) (en : En) (st : List Nat) (w : World) (e : Ending) (w' : World) : Prop := e = .returned (.tuple #[]) ∧ (∃ v', Mach B M en st v' w') ∧ Wk B M w w'

set_option maxRecDepth 100000 in
theorem push_any (B M : Nat) (en : En) (st : List Nat) (v : Value) (f : Nat) (hf : f < 18446744073709551616) (hn : st.length ≤ 100000) (w : World) (h : Mach B M en st v w) :
    Calls Tryz.prog 70 #[.pointer (some ⟨M, 0, none⟩), .float .f64 f] w (PushPost B M en (oneW f :: st) w) := by
  have hm : Tryz.prog.follows .mixedOrders = true := by kernel_rfl
  obtain ⟨i0, hi0, hz0, hs0, hb0⟩ := info_parts info_f
  have HI := Lib.hid hi0; clear hi0
  have HF := Lib.hid hf; clear hf
  go_enter Tryz.func70, Tryz.ntmps70
  have hM := h.drew
  obtain ⟨-, -, -, -, -, -, c6, c7⟩ := h.cells
  have hz := h.lt
  have hMb := hM.below (below_alloc w.drew (.cells #[.float .f64 (oneW f)] 45))
  have hl1 : st.length + 1 ≤ maxLen := by unfold maxLen; omega
  have hl2 : (st.length + 1) * 8 ≤ 140737488355328 := by omega
  have hbs := hMb.bw
  go_region_law (first | (go_simp; go_at_call 96; refine (canon_any f _).mono ?_; rintro en1 x1 ⟨rfl, rfl⟩) | ((refine step_append_lies _ (by rfl) _ _ _ (by rfl) B 45 i0 (.float .f64 0) 1 8 Tryz.underlying76 HI.out hz0 hs0 hb0 rfl (by decide) v _ _ (by rfl) hMb.own ⟨w.heap.size, 0, none⟩ 1 1 [.float .f64 (oneW f)] (by rfl) (by rfl) (World.news_of_block (cs := #[.float .f64 (oneW f)]) (t := 45) (fr := (0, 0)) (heap_alloc_new w.drew _)) (by simp [Value.oneCell']) (by decide) hl1 hl2 hMb.bw (w.heap.size + 1) (by simp) ?_; intro g cap w1 hown hgr hat hlt; obtain ⟨d1, d0, d2, d3⟩ := pushed hMb hgr)))
  all_goals
    refine bodyPost_end (results_none rfl _ _ _) rfl ⟨rfl, ⟨_, Mach.put (st' := oneW f :: st) d1 (by rw [flts_cons]; exact hown) hMb.mb (Nat.le_trans hMb.bw hgr.size) ?_⟩, ?_⟩
    · intro k hk
      rcases List.mem_cons.1 hk with rfl | hk
      · exact oneW_lt HF.out
      · exact h.fit k hk
    · have h1 : Wk B M w w.drew := Wk.drewN B M w 1
      have h2 : Wk B M w.drew (w.drew.alloc (.cells #[.float .f64 (oneW f)] 45)) := Wk.of_below (below_alloc w.drew _) hM.bw
      exact ((h1.trans h2).trans ⟨hgr.os, hgr.tape, hgr.output, hgr.size, fun k hk _ => hgr.block k (Nat.lt_of_lt_of_le hk hMb.bw) (fun e => by have := (hMb.own.lt k e.symm).1; omega)⟩).set 6 _
end Go.Proofs.YtidjnfjpdnjogaaGreatDoor

/-
  Package prog: pop and two. Conditions: none.
-/
namespace Go.Proofs.YtidjnfjpdnjogaaGreatDoor
open Go.RowKit Go.Lib

theorem bounds_run1 (x y : Int) (w : World) : ∃ s w', (boundsPanic .i64 x y .index : Sem Value).run Tryz.prog w = .halt (.panic (boundsValue Tryz.prog (IntKind.i64.wrap x) y s BoundsCode.index.toNat)) w' ∧ (w' = w ∨ w' = w.drew) := by
  unfold boundsPanic boundsValue
  split
  · simp [runtimePanic, goPanic, go_sem]
    by_cases hq : (Question.extern "runtime.boundsError.signed" 2).cut (w.tape w.drawn (Question.extern "runtime.boundsError.signed" 2)) = 1
    · exact Or.inr ⟨_, ⟨hq, rfl⟩, Or.inr rfl⟩
    · exact Or.inl ⟨_, ⟨hq, rfl⟩, Or.inr rfl⟩
  · simp [runtimePanic, goPanic, go_sem]
theorem bounds_run (x y : Int) : ∃ (S : World → Bool) (N : World → Nat), ∀ w, (boundsPanic .i64 x y .index : Sem Value).run Tryz.prog w = .halt (.panic (.iface 8 (.agg #[.int .i64 (IntKind.i64.wrap x), .int .i64 y, .bool (S w), .int .u8 0]))) (w.drewN (N w)) := by
  have h : ∀ w : World, ∃ q : Bool × Nat, (boundsPanic .i64 x y .index : Sem Value).run Tryz.prog w = .halt (.panic (.iface 8 (.agg #[.int .i64 (IntKind.i64.wrap x), .int .i64 y, .bool q.1, .int .u8 0]))) (w.drewN q.2) := by
    intro w
    have hrt : Tryz.prog.rt.boundsError = 8 := by kernel_rfl
    obtain ⟨s, w', h, rfl | rfl⟩ := bounds_run1 x y w
    · refine ⟨(s, 0), ?_⟩
      rw [h, boundsValue, hrt]; rfl
    · refine ⟨(s, 1), ?_⟩
      rw [h, boundsValue, hrt]; rfl
  exact ⟨fun w => (Classical.choose (h w)).1, fun w => (Classical.choose (h w)).2, fun w => Classical.choose_spec (h w)⟩

theorem Mach.top {B M : Nat} {e : En} {f : Nat} {st : List Nat} {v : Value} {w : World} (h : Mach B M e (f :: st) v w) : ∃ g cap, v = .slice (some ⟨g, 0, none⟩) (st.length + 1) cap ∧ st.length + 1 ≤ cap ∧ w.cell? ⟨g, st.length, none⟩ = some (.float .f64 f) ∧
    ∀ (x : World), x.heap = w.heap → Mach B M e st (.slice (some ⟨g, 0, none⟩) st.length cap) (x.setCell ⟨M, 6, none⟩ (.slice (some ⟨g, 0, none⟩) st.length cap)) := by
  have hf := h.own
  rcases hf.2 with ⟨_, h0⟩ | ⟨g, cap, cur, rfl, hg, hb, hn, hm, hs, ht⟩
  · simp at h0
  have hcur : cur.toList.take (st.length + 1) = flts st ++ [.float .f64 f] := by rw [← flts_cons, ← ht]; simp
  refine ⟨g, cap, by simp, by simpa using hn, ?_, ?_⟩
  · have : cur[st.length]? = some (.float .f64 f) := by
      have h2 : (cur.toList.take (st.length + 1))[st.length]? = some (.float .f64 f) := by
        rw [hcur, List.getElem?_append_right (by rw [flts_length]; omega), flts_length]; simp
      rw [List.getElem?_take, if_pos (by omega)] at h2
      simpa using h2
    simp [World.cell?, hb, this]
  · intro x hx
    refine Mach.put (w := x) (st' := st) (v := .slice (some ⟨g, 0, none⟩) (f :: st).length cap) (by rw [hx]; exact h.at_) ?_ h.mb (by rw [hx]; exact h.bw) (fun k hk => h.fit k (by simp [hk]))
    refine ⟨by rw [flts_length]; simp, Or.inr ⟨g, cap, cur, rfl, hg, by rw [hx]; exact hb, by simp at hn; omega, hm, hs, ?_⟩⟩
    have h3 : (cur.toList.take (st.length + 1)).take st.length = flts st := by
      rw [hcur, List.take_append_of_le_length (by rw [flts_length]; omega), List.take_of_length_le (by rw [flts_length]; omega)]
    rw [List.take_take] at h3
    simpa using h3

def PopPost (B M : Nat) (en : En) (f : Nat) (st : List Nat) (w : World) (e : Ending) (w' : World) : Prop := e = .returned (.float .f64 f) ∧ (∃ v', Mach B M en st v' w') ∧ Wk B M w w'
/-- A run-time panic, and the machine lies there still. -/
def RtPost (B M : Nat) (w : World) (e : Ending) (w' : World) : Prop := (∃ t pv, e = .panicked [{ v := .iface t pv, recovered := false }] ∧ rtT t) ∧ Wk B M w w'

theorem slice_top (g cap n : Nat) (h : n + 1 ≤ cap) (w : World) : (Instr.slice 76 (.slice (some ⟨g, 0, none⟩) (n + 1) cap) none (some (.int .i64 n)) none).run Tryz.prog w = .ok (.slice (some ⟨g, 0, none⟩) n cap) w := by
  have ht : Tryz.prog.underlying 76 = some (.slice (Tryz.prog.elem 76)) := by kernel_rfl
  have hz : ∀ w, (Go.sizeOf (Tryz.prog.elem 76)).run Tryz.prog w = .ok 1 w := fun w => by kernel_rfl
  rw [run_slice_h w 76 _ _ _ ht .i64 _ (by omega) (by omega), hz]
  simp [Result.andThen, sliced, Addr.add]

set_option maxRecDepth 100000 in
theorem pop_some (B M : Nat) (en : En) (f : Nat) (st : List Nat) (v : Value) (hn : st.length ≤ 100000) (w : World) (h : Mach B M en (f :: st) v w) :
    Calls Tryz.prog 72 #[.pointer (some ⟨M, 0, none⟩)] w (PopPost B M en f st w) := by
  obtain ⟨g, cap, rfl, hcap, hc, hput⟩ := h.top
  obtain ⟨-, -, -, -, -, -, c6, c7⟩ := h.cells
  have hz := h.lt
  have HP := Lib.hid hput; clear hput
  have HM := Lib.hid h; clear h
  have hsl := slice_top g cap st.length hcap
  obtain ⟨N, hN⟩ : ∃ N, st.length = N := ⟨_, rfl⟩
  rw [hN] at hc hsl hn c6 hcap
  have HN := Lib.hid hN; clear hN
  have hw : IntKind.i64.wrap (N : Int) = (N : Int) := IntWalk.i64_in _ (by omega)
  have hl : (N : Int) < (N : Int) + 1 := by omega
  go_enter Tryz.func72, Tryz.ntmps72
  go_wp2_with fail
  go_quiet (fail)
  have hx : (w.drewN nq).heap = w.heap := rfl
  have k6 : (w.drewN nq).cell? ⟨M, 6, none⟩ = some (.slice (some ⟨g, 0, none⟩) (N + 1) cap) := c6
  have k7 : (w.drewN nq).frozen? ⟨M, 6, none⟩ = false := c7
  have kz : M < (w.drewN nq).heap.size := hz
  have hW : Wk B M w (w.drewN nq) := ⟨rfl, rfl, rfl, Nat.le_refl _, fun _ _ _ => rfl⟩
  clear c6 c7 hz hc
  revert hx k6 k7 kz hW
  generalize (w.drewN nq) = w2
  intro hx c6 c7 hz hW
  have HX := Lib.hid hx; clear hx
  go_wp2_with fail
  go_still_tail 14, (by kernel_rfl)
  change wpList _ _ _ _ _ w2.drew
  have k6 : w2.drew.cell? ⟨M, 6, none⟩ = some (.slice (some ⟨g, 0, none⟩) (N + 1) cap) := c6
  have k7 : w2.drew.frozen? ⟨M, 6, none⟩ = false := c7
  have kz : M < w2.drew.heap.size := hz
  have hW2 : Wk B M w w2.drew := hW.trans (Wk.drewN B M w2 1)
  have hx : w2.drew.heap = w.heap := HX.out
  clear c6 c7 hz hW HX
  revert hx k6 k7 kz hW2
  generalize w2.drew = w3
  intro k6 k7 kz hW hx
  have HX := Lib.hid hx; clear hx
  go_wp2_with fail
  go_ret
  have hN := HN.out
  subst hN
  exact ⟨rfl, ⟨_, HP.out w3 HX.out⟩, hW.set 6 _⟩

set_option maxRecDepth 100000 in
theorem pop_none (B M : Nat) (en : En) (v : Value) (w : World) (h : Mach B M en [] v w) :
    Calls Tryz.prog 72 #[.pointer (some ⟨M, 0, none⟩)] w (RtPost B M w) := by
  obtain ⟨po, pc, rfl⟩ := h.slice
  obtain ⟨-, -, -, -, -, -, c6, c7⟩ := h.cells
  have hz := h.lt
  clear h
  have c6' : w.cell? ⟨M, 6, none⟩ = some (.slice po 0 pc) := c6
  clear c6
  obtain ⟨S, Nn, hrun⟩ := bounds_run (-1) 0
  have hix : ∀ w, (Instr.indexAt 76 (.slice po 0 pc) (.int .i64 (-1))).run Tryz.prog w = .halt (.panic (.iface 8 (.agg #[.int .i64 (IntKind.i64.wrap (-1)), .int .i64 0, .bool (S w), .int .u8 0]))) (w.drewN (Nn w)) := fun w => by
    have ht : Tryz.prog.underlying 76 = some (.slice (Tryz.prog.elem 76)) := by kernel_rfl
    cases po with
    | some a => rw [run_indexAt_slice (h := ht), if_neg (by omega)]; exact hrun w
    | none =>
      rw [show (Instr.indexAt 76 (.slice none 0 pc) (.int .i64 (-1))).run Tryz.prog w = (boundsPanic .i64 (-1) 0 .index : Sem Value).run Tryz.prog w by simp [Instr.indexAt, run_underlying ht, asIntOf]]
      exact hrun w
  have hw1 : IntKind.i64.wrap (-1) = -1 := by decide
  clear hrun
  go_enter Tryz.func72, Tryz.ntmps72
  go_wp2_with fail
  go_region_dies
  all_goals
    refine ⟨rfl, ⟨_, _, rfl, Or.inl rfl⟩, ?_⟩
    exact ⟨rfl, rfl, rfl, Nat.le_refl _, fun _ _ _ => rfl⟩

/-- Two, or a panic. -/
def TwoPost (B M : Nat) (en : En) (st : List Nat) (w : World) (e : Ending) (w' : World) : Prop := match st with
  | b :: a :: t => e = .returned (.tuple #[.float .f64 a, .float .f64 b]) ∧ (∃ v', Mach B M en t v' w') ∧ Wk B M w w'
  | _ => RtPost B M w e w'
theorem RtPost.from {B M : Nat} {w w1 : World} (h : Wk B M w w1) {e : Ending} {w' : World} (h2 : RtPost B M w1 e w') : RtPost B M w e w' := ⟨h2.1, h.trans h2.2⟩

theorem two_any (B M : Nat) (en : En) (st : List Nat) (v : Value) (hn : st.length ≤ 100000) (w : World) (h : Mach B M en st v w) :
    Calls Tryz.prog 92 #[.pointer (some ⟨M, 0, none⟩)] w (TwoPost B M en st w) := by
  match st, h, hn with
  | [], h, hn =>
    have H := Lib.hid (pop_none B M en v w h)
    clear h
    unfold TwoPost
    go_enter Tryz.func92, Tryz.ntmps92
    go_wp2_with fail
    refine H.out.mono ?_
    rintro e w1 ⟨⟨t, pv, rfl, ht⟩, hW⟩
    exact ⟨rfl, ⟨t, pv, rfl, ht⟩, hW⟩
  | [b], h, hn =>
    have H := Lib.hid (pop_some B M en b [] v (by simp) w h)
    clear h
    unfold TwoPost
    go_enter Tryz.func92, Tryz.ntmps92
    go_wp2_with fail
    refine H.out.mono ?_
    rintro e w1 ⟨rfl, ⟨v1, h1⟩, hW1⟩
    go_wp2_with fail
    refine (pop_none B M en v1 w1 h1).mono ?_
    rintro e w2 ⟨⟨t, pv, rfl, ht⟩, hW⟩
    exact ⟨rfl, ⟨t, pv, rfl, ht⟩, hW1.trans hW⟩
  | b :: a :: t, h, hn =>
    have H := Lib.hid (pop_some B M en b (a :: t) v (by simp at hn ⊢; omega) w h)
    clear h
    unfold TwoPost
    go_enter Tryz.func92, Tryz.ntmps92
    go_wp2_with fail
    refine H.out.mono ?_
    rintro e w1 ⟨rfl, ⟨v1, h1⟩, hW1⟩
    go_wp2_with fail
    refine (pop_some B M en a t v1 (by simp at hn; omega) w1 h1).mono ?_
    rintro e w2 ⟨rfl, h2, hW⟩
    go_wp2
    exact bodyPost_ret (v := .tuple #[.float .f64 a, .float .f64 b]) (by simp [results, Tryz.results92, go_sem]) rfl ⟨rfl, h2, hW1.trans hW⟩
end Go.Proofs.YtidjnfjpdnjogaaGreatDoor
