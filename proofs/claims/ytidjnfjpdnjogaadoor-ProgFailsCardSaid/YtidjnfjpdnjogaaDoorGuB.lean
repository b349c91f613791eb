/-
  Contracts of package guard's Try and Do. Conditions: none.
-/
import Derived.Test.YtidjnfjpdnjogaaDoorGuA
import Derived.Defers
import Derived.Recover
import Derived.Lib.Hide
namespace Go.Proofs.YtidjnfjpdnjogaaDoor
open Go.RowKit

/-- Of the blocks that there were nothing turns, but of the n from B on. -/
structure Off (B n : Nat) (w w' : World) : Prop where
  os : w'.os = w.os
  tape : w'.tape = w.tape
  output : w'.output = w.output
  size : w.heap.size ≤ w'.heap.size
  block : ∀ k, k < w.heap.size → (k < B ∨ B + n ≤ k) → w'.heap[k]? = w.heap[k]?

theorem Off.refl (B n : Nat) (w : World) : Off B n w w := ⟨rfl, rfl, rfl, Nat.le_refl _, fun _ _ _ => rfl⟩
theorem Off.trans {B n : Nat} {a b c : World} (h : Off B n a b) (k : Off B n b c) : Off B n a c :=
  ⟨k.os.trans h.os, k.tape.trans h.tape, k.output.trans h.output, Nat.le_trans h.size k.size, fun i hi hj => (k.block i (Nat.lt_of_lt_of_le hi h.size) hj).trans (h.block i hi hj)⟩
theorem Off.of_below {B n : Nat} {w w' : World} (h : Below w.heap.size w w') : Off B n w w' :=
  ⟨h.os, h.tape, h.output, h.size, fun i hi _ => h.block i hi⟩
theorem Off.setCell {B n : Nat} {a w : World} (h : Off B n a w) {p : Addr} (h1 : B ≤ p.block) (h2 : p.block < B + n) (u : Value) : Off B n a (w.setCell p u) :=
  h.trans ⟨rfl, rfl, rfl, by simp [World.setCell], fun k _ hj => Below.heap_setCell _ _ _ _ (by omega)⟩

theorem catch_idle (p q r : Addr) (w : World) (hc : w.cell? p = some (.bool true)) :
    CallsD Tryd.prog 60 #[.pointer (some p), .pointer (some q), .pointer (some r)] .returning w fun e u' w' => e = .returned (.tuple #[]) ∧ u' = .returning ∧ w' = w := by
  refine callsD_of_wpS Tryd.func60 rfl fun c₀ cs hu => ?_
  simp only [Tryd.ntmps60, List.size_toArray, List.length_cons, List.length_nil, Nat.reduceAdd, Nat.reduceSub, Array.replicate_succ, Array.replicate_zero, List.push_toArray, List.append_toArray, List.nil_append, List.cons_append]
  apply wpS_seq
  apply wpS_region
  simp [wpOpsS, go_sem, recoverD, hu, Exit.thenS]
  refine wpS_of_wp ?_
  go_wp2
  simp [bodyPostS, results, Tryd.results60]
  cases c₀
  simp_all

/-- A world's three blocks from B on: Try's result, its fault, whether it came to its end. -/
structure Three (B : Nat) (n e k : Int) (s : ByteArray) (fine : Bool) (w : World) : Prop where
  b0 : w.heap[B]? = some (.cells #[.int .i64 n] 3)
  b1 : w.heap[B + 1]? = some (.cells #[.int .i64 e, .int .i64 k, .string s] 31)
  b2 : w.heap[B + 1 + 1]? = some (.cells #[.bool fine] 4)

theorem Three.sz {B : Nat} {n e k : Int} {s : ByteArray} {fine : Bool} {w : World} (h : Three B n e k s fine w) : B + 1 + 1 < w.heap.size := by
  have := h.b2
  rw [Array.getElem?_eq_some_iff] at this
  exact this.1

theorem Three.keep {B : Nat} {n e k : Int} {s : ByteArray} {fine : Bool} {w w' : World} (h : Three B n e k s fine w) (hb : Below w.heap.size w w') : Three B n e k s fine w' := by
  have := h.sz
  exact ⟨by rw [hb.block _ (by omega)]; exact h.b0, by rw [hb.block _ (by omega)]; exact h.b1, by rw [hb.block _ (by omega)]; exact h.b2⟩

theorem Three.cells {B : Nat} {n e k : Int} {s : ByteArray} {fine : Bool} {w : World} (h : Three B n e k s fine w) :
    w.cell? ⟨B, 0, none⟩ = some (.int .i64 n) ∧ w.cell? ⟨B + 1, 0, none⟩ = some (.int .i64 e) ∧ w.cell? ⟨B + 1, 1, none⟩ = some (.int .i64 k) ∧ w.cell? ⟨B + 1, 2, none⟩ = some (.string s) ∧ w.cell? ⟨B + 1 + 1, 0, none⟩ = some (.bool fine) ∧
    w.frozen? ⟨B, 0, none⟩ = false ∧ w.frozen? ⟨B + 1, 0, none⟩ = false ∧ w.frozen? ⟨B + 1, 1, none⟩ = false ∧ w.frozen? ⟨B + 1, 2, none⟩ = false ∧ w.frozen? ⟨B + 1 + 1, 0, none⟩ = false := by
  simp [World.cell?, World.frozen?, h.b0, h.b1, h.b2]

section
variable {B : Nat} {n e k : Int} {s : ByteArray} {fine : Bool} {w : World}
theorem Three.set0 (h : Three B n e k s fine w) (n' : Int) : Three B n' e k s fine (w.setCell ⟨B, 0, none⟩ (.int .i64 n')) :=
  ⟨heap_setCell_same h.b0 _, (Below.heap_setCell _ _ _ _ (by simp)).trans h.b1, (Below.heap_setCell _ _ _ _ (by simp; omega)).trans h.b2⟩
theorem Three.set1 (h : Three B n e k s fine w) (e' : Int) : Three B n e' k s fine (w.setCell ⟨B + 1, 0, none⟩ (.int .i64 e')) :=
  ⟨(Below.heap_setCell _ _ _ _ (by simp)).trans h.b0, heap_setCell_same h.b1 _, (Below.heap_setCell _ _ _ _ (by simp)).trans h.b2⟩
theorem Three.set2 (h : Three B n e k s fine w) (k' : Int) : Three B n e k' s fine (w.setCell ⟨B + 1, 1, none⟩ (.int .i64 k')) :=
  ⟨(Below.heap_setCell _ _ _ _ (by simp)).trans h.b0, heap_setCell_same h.b1 _, (Below.heap_setCell _ _ _ _ (by simp)).trans h.b2⟩
theorem Three.set3 (h : Three B n e k s fine w) (s' : ByteArray) : Three B n e k s' fine (w.setCell ⟨B + 1, 2, none⟩ (.string s')) :=
  ⟨(Below.heap_setCell _ _ _ _ (by simp)).trans h.b0, heap_setCell_same h.b1 _, (Below.heap_setCell _ _ _ _ (by simp)).trans h.b2⟩
theorem Three.set4 (h : Three B n e k s fine w) (b : Bool) : Three B n e k s b (w.setCell ⟨B + 1 + 1, 0, none⟩ (.bool b)) :=
  ⟨(Below.heap_setCell _ _ _ _ (by simp; omega)).trans h.b0, (Below.heap_setCell _ _ _ _ (by simp)).trans h.b1, heap_setCell_same h.b2 _⟩
end

set_option maxHeartbeats 400000 in
theorem catch_told (B : Nat) (t : TypeId) (pv : Value) (older : List PanicEntry) (n e0 k0 e k : Int) (s0 s : ByteArray) (w : World) (h3 : Three B n e0 k0 s0 false w)
    (ht : ∀ w, Calls Tryd.prog 61 #[.iface t pv] w fun e' w' => e' = .returned (fault e k s) ∧ Below w.heap.size w w') :
    CallsD Tryd.prog 60 #[.pointer (some ⟨B + 1 + 1, 0, none⟩), .pointer (some ⟨B, 0, none⟩), .pointer (some ⟨B + 1, 0, none⟩)] (.panicking ({ v := .iface t pv, recovered := false } :: older)) w fun e' u' w' =>
       e' = .returned (.tuple #[]) ∧ u' = .panicking ({ v := .iface t pv, recovered := true } :: older) ∧ Off B 3 w w' ∧ Three B 0 e k s false w' := by
  have hc := h3.cells.2.2.2.2.1
  refine callsD_of_wpS Tryd.func60 rfl fun c₀ cs hu => ?_
  simp only [Tryd.ntmps60, List.size_toArray, List.length_cons, List.length_nil, Nat.reduceAdd, Nat.reduceSub, Array.replicate_succ, Array.replicate_zero, List.push_toArray, List.append_toArray, List.nil_append, List.cons_append]
  have HT := Lib.hid ht; clear ht
  apply wpS_seq
  apply wpS_region
  simp [wpOpsS, go_sem, recoverD, hu, Exit.thenS]
  refine wpS_of_wp ?_
  go_wp2_with fail
  refine (HT.out _).mono ?_
  rintro e' w1 ⟨rfl, hb⟩
  have H1 := h3.keep hb
  clear HT hc
  obtain ⟨f1, f2, f3, f4, f5, f6, f7, f8, f9, f10⟩ := H1.cells
  unfold fault
  go_wp2
  simp [bodyPostS, results, Tryd.results60]
  refine ⟨?_, (((H1.set0 0).set1 e).set2 k).set3 s⟩
  exact ((((Off.of_below hb).setCell (p := ⟨B, 0, none⟩) (Nat.le_refl _) (by simp) _).setCell (p := ⟨B + 1, 0, none⟩) (by simp) (by simp) _).setCell (p := ⟨B + 1, 1, none⟩) (by simp) (by simp) _).setCell (p := ⟨B + 1, 2, none⟩) (by simp) (by simp) _

theorem funcNeNil (fn : Fn) (first cap : Array Value) (w : World) : (binOp .eql 82 (.func fn first cap) .nilFunc).run Tryd.prog w = .ok (.bool false) w := by kernel_rfl

theorem funcNeNil1 (fn : Fn) (first cap : Array Value) (w : World) : (binOp .eql 1 (.func fn first cap) .nilFunc).run Tryd.prog w = .ok (.bool false) w := by kernel_rfl

/-- The world in which Try calls its function. -/
def tryW (w : World) : World := ((w.alloc (.cells #[.int .i64 0] 3)).alloc (.cells #[.int .i64 0, .int .i64 0, .string ⟨#[]⟩] 31)).alloc (.cells #[.bool false] 4)

theorem tryW_three (w : World) : Three w.heap.size 0 0 0 ⟨#[]⟩ false (tryW w) := by
  refine ⟨?_, ?_, ?_⟩
  all_goals
    show (((w.heap.push _).push _).push _)[_]? = _
    simp only [Array.getElem?_push, Array.size_push]
  · rw [if_neg (by omega), if_neg (by omega), if_pos trivial]
  · rw [if_neg (by omega), if_pos trivial]
  · rw [if_pos trivial]
  
theorem tryW_size (w : World) : (tryW w).heap.size = w.heap.size + 3 := by simp [tryW]

set_option maxHeartbeats 400000 in
theorem try_ok (G : Nat) (caps : Array Value) (w : World) (n : Int) (R : World → Prop)
    (hcf : ∀ w, (callFunc G caps).run Tryd.prog w = .ok (.enter G caps) w)
    (hG : Calls Tryd.prog G caps (tryW w) fun e w' => e = .returned (.int .i64 n) ∧ Three w.heap.size 0 0 0 ⟨#[]⟩ false w' ∧ R w') :
    Calls Tryd.prog 42 #[.func (.func G) #[] caps] w fun e w' => e = .returned (.tuple #[.int .i64 n, fault 0 0 ⟨#[]⟩]) ∧ ∃ w1, R w1 ∧ Off w.heap.size 3 w1 w' := by
  have hmf : ∀ (fn : Fn) (first cap : Array Value) (w : World), (Instr.makeFunc fn first cap).run Tryd.prog w = .ok (.func fn first cap) w := fun _ _ _ _ => rfl
  have hne := funcNeNil
  have HG := Lib.hid hG; clear hG
  go_enter_defers Tryd.func42, Tryd.ntmps42
  go_wp2_with fail
  refine HG.out.mono ?_
  rintro e w1 ⟨rfl, h3, hR⟩
  clear HG
  obtain ⟨f1, f2, f3, f4, f5, f6, f7, f8, f9, f10⟩ := h3.cells
  go_wp2
  have H := ((((((h3.set0 n).set4 true).set0 n).set1 0).set2 0).set3 ⟨#[]⟩)
  have O : Off w.heap.size 3 w1 _ := ((((((Off.refl w.heap.size 3 w1).setCell (p := ⟨w.heap.size, 0, none⟩) (Nat.le_refl _) (by simp) (.int .i64 n)).setCell (p := ⟨w.heap.size + 1 + 1, 0, none⟩) (by simp <;> omega) (by simp <;> omega) (.bool true)).setCell (p := ⟨w.heap.size, 0, none⟩) (Nat.le_refl _) (by simp) (.int .i64 n)).setCell (p := ⟨w.heap.size + 1, 0, none⟩) (by simp) (by simp) (.int .i64 0)).setCell (p := ⟨w.heap.size + 1, 1, none⟩) (by simp) (by simp) (.int .i64 0)).setCell (p := ⟨w.heap.size + 1, 2, none⟩) (by simp) (by simp) (.string ⟨#[]⟩)
  clear f1 f2 f3 f4 f5 f6 f7 f8 f9 f10 h3
  revert H O
  generalize (World.setCell _ _ _ : World) = W2
  intro H O
  obtain ⟨f1, f2, f3, f4, f5, f6, f7, f8, f9, f10⟩ := H.cells
  refine leaves_cons (f := 60) (args := #[.pointer (some ⟨w.heap.size + 1 + 1, 0, none⟩), .pointer (some ⟨w.heap.size, 0, none⟩), .pointer (some ⟨w.heap.size + 1, 0, none⟩)]) (by simp) (by simp [go_sem]) ?_
  refine (catch_idle _ _ _ _ f5).mono ?_
  rintro e u' w'' ⟨rfl, rfl, rfl⟩
  simp [Leaves, settle, results, Tryd.results42, go_sem, fault, f1, f2, f3, f4]
  exact ⟨_, hR, O⟩

/-- What told tells of what was thrown. -/
def ToldBy (t : TypeId) (pv : Value) (e k : Int) (s : ByteArray) : Prop :=
  ∀ w, Calls Tryd.prog 61 #[.iface t pv] w fun e' w' => e' = .returned (fault e k s) ∧ Below w.heap.size w w'

set_option maxHeartbeats 400000 in
theorem try_bad (G : Nat) (caps : Array Value) (w : World) (e k : Int) (s : ByteArray) (R : World → Prop)
    (hcf : ∀ w, (callFunc G caps).run Tryd.prog w = .ok (.enter G caps) w)
    (hG : Calls Tryd.prog G caps (tryW w) fun e' w' => (∃ t pv, e' = .panicked [{ v := .iface t pv, recovered := false }] ∧ ToldBy t pv e k s) ∧ Three w.heap.size 0 0 0 ⟨#[]⟩ false w' ∧ R w') :
    Calls Tryd.prog 42 #[.func (.func G) #[] caps] w fun e' w' => e' = .returned (.tuple #[.int .i64 0, fault e k s]) ∧ ∃ w1, R w1 ∧ Off w.heap.size 3 w1 w' := by
  have hmf : ∀ (fn : Fn) (first cap : Array Value) (w : World), (Instr.makeFunc fn first cap).run Tryd.prog w = .ok (.func fn first cap) w := fun _ _ _ _ => rfl
  have hne := funcNeNil
  have HG := Lib.hid hG; clear hG
  go_enter_defers Tryd.func42, Tryd.ntmps42
  go_wp2_with fail
  refine HG.out.mono ?_
  rintro e' w1 ⟨⟨t, pv, rfl, ht⟩, h3, hR⟩
  have HT := Lib.hid ht; clear ht
  clear HG
  go_wp2
  refine leaves_cons (f := 60) (args := #[.pointer (some ⟨w.heap.size + 1 + 1, 0, none⟩), .pointer (some ⟨w.heap.size, 0, none⟩), .pointer (some ⟨w.heap.size + 1, 0, none⟩)]) (by simp) (by simp [go_sem]) ?_
  refine (catch_told w.heap.size t pv [] 0 0 0 e k ⟨#[]⟩ s w1 h3 HT.out).mono ?_
  rintro e' u' w'' ⟨rfl, rfl, O, H⟩
  obtain ⟨f1, f2, f3, f4, f5, f6, f7, f8, f9, f10⟩ := H.cells
  simp [Leaves, settle, results, Tryd.results42, go_sem, fault, f1, f2, f3, f4]
  exact ⟨_, hR, O⟩

/-- The closure that Do hands to Try: it calls the function that lies in block C. -/
theorem do1_ok (C : Nat) (G : Nat) (caps : Array Value) (w : World) (R : World → Prop)
    (hc : w.cell? ⟨C, 0, none⟩ = some (.func (.func G) #[] caps))
    (hcf : ∀ w, (callFunc G caps).run Tryd.prog w = .ok (.enter G caps) w)
    (hG : Calls Tryd.prog G caps w fun e w' => e = .returned (.tuple #[]) ∧ R w') :
    Calls Tryd.prog 43 #[.pointer (some ⟨C, 0, none⟩)] w fun e w' => e = .returned (.int .i64 0) ∧ R w' := by
  have HG := Lib.hid hG; clear hG
  go_enter Tryd.func43, Tryd.ntmps43
  go_wp2_with fail
  refine HG.out.mono ?_
  rintro e w1 ⟨rfl, hR⟩
  clear HG
  go_wp2
  go_ret
  exact ⟨rfl, hR⟩

theorem do1_bad (C : Nat) (G : Nat) (caps : Array Value) (w : World) (K : List PanicEntry → Prop) (R : World → Prop)
    (hc : w.cell? ⟨C, 0, none⟩ = some (.func (.func G) #[] caps))
    (hcf : ∀ w, (callFunc G caps).run Tryd.prog w = .ok (.enter G caps) w)
    (hG : Calls Tryd.prog G caps w fun e w' => (∃ chain, e = .panicked chain ∧ K chain) ∧ R w') :
    Calls Tryd.prog 43 #[.pointer (some ⟨C, 0, none⟩)] w fun e w' => (∃ chain, e = .panicked chain ∧ K chain) ∧ R w' := by
  have HG := Lib.hid hG; clear hG
  go_enter Tryd.func43, Tryd.ntmps43
  go_wp2_with fail
  refine HG.out.mono ?_
  rintro e w1 ⟨⟨chain, rfl, hK⟩, hR⟩
  clear HG
  go_wp2
  exact ⟨rfl, ⟨chain, rfl, hK⟩, hR⟩

/-- Of the blocks from B on nothing turns. -/
structure Keeps (B : Nat) (w w' : World) : Prop where
  size : w.heap.size ≤ w'.heap.size
  block : ∀ k, B ≤ k → k < w.heap.size → w'.heap[k]? = w.heap[k]?

theorem Keeps.three {w w' : World} (h : Keeps w.heap.size (tryW w) w') : Three w.heap.size 0 0 0 ⟨#[]⟩ false w' := by
  have H := tryW_three w
  have hs := tryW_size w
  exact ⟨by rw [h.block _ (by omega) (by omega)]; exact H.b0, by rw [h.block _ (by omega) (by omega)]; exact H.b1, by rw [h.block _ (by omega) (by omega)]; exact H.b2⟩

/-- The world in which Do calls Tryd. -/
def doW (f : Value) (w : World) : World := (w.alloc (.cells #[f] 1)).alloc (.cells #[.int .i64 0, .int .i64 0, .string ⟨#[]⟩] 31)

theorem doW_size (f : Value) (w : World) : (doW f w).heap.size = w.heap.size + 2 := by simp [doW]

theorem doW_b0 (f : Value) (w : World) : (doW f w).heap[w.heap.size]? = some (.cells #[f] 1) := by
  show ((w.heap.push _).push _)[_]? = _
  simp only [Array.getElem?_push, Array.size_push]
  rw [if_neg (by omega), if_pos trivial]
theorem doW_b1 (f : Value) (w : World) : (doW f w).heap[w.heap.size + 1]? = some (.cells #[.int .i64 0, .int .i64 0, .string ⟨#[]⟩] 31) := by
  show ((w.heap.push _).push _)[_]? = _
  simp only [Array.getElem?_push, Array.size_push]
  rw [if_pos trivial]
theorem tryW_old (w : World) (k : Nat) (h : k < w.heap.size) : (tryW w).heap[k]? = w.heap[k]? := by
  show (((w.heap.push _).push _).push _)[_]? = _
  simp only [Array.getElem?_push, Array.size_push]
  rw [if_neg (by omega), if_neg (by omega), if_neg (by omega)]
theorem doW_old (f : Value) (w : World) (k : Nat) (h : k < w.heap.size) : (doW f w).heap[k]? = w.heap[k]? := by
  show ((w.heap.push _).push _)[_]? = _
  simp only [Array.getElem?_push, Array.size_push]
  rw [if_neg (by omega), if_neg (by omega)]

/-- What do's function is called in: five blocks more. -/
def inW (f : Value) (w : World) : World := tryW (doW f w)
theorem inW_size (f : Value) (w : World) : (inW f w).heap.size = w.heap.size + 5 := by rw [inW, tryW_size, doW_size]
theorem inW_b0 (f : Value) (w : World) : (inW f w).heap[w.heap.size]? = some (.cells #[f] 1) := by rw [inW, tryW_old _ _ (by rw [doW_size]; omega), doW_b0]
theorem inW_b1 (f : Value) (w : World) : (inW f w).heap[w.heap.size + 1]? = some (.cells #[.int .i64 0, .int .i64 0, .string ⟨#[]⟩] 31) := by rw [inW, tryW_old _ _ (by rw [doW_size]; omega), doW_b1]
theorem inW_old (f : Value) (w : World) (k : Nat) (h : k < w.heap.size) : (inW f w).heap[k]? = w.heap[k]? := by rw [inW, tryW_old _ _ (by rw [doW_size]; omega), doW_old _ _ _ h]

theorem cell_of_block1 {w : World} {b : Nat} {v : Value} {T : TypeId} (h : w.heap[b]? = some (.cells #[v] T)) : w.cell? ⟨b, 0, none⟩ = some v ∧ w.frozen? ⟨b, 0, none⟩ = false := by
  simp [World.cell?, World.frozen?, h]
theorem cells_of_fault {w : World} {b : Nat} {x y z : Value} {T : TypeId} (h : w.heap[b]? = some (.cells #[x, y, z] T)) :
    w.cell? ⟨b, 0, none⟩ = some x ∧ w.cell? ⟨b, 1, none⟩ = some y ∧ w.cell? ⟨b, 2, none⟩ = some z ∧ w.frozen? ⟨b, 0, none⟩ = false ∧ w.frozen? ⟨b, 1, none⟩ = false ∧ w.frozen? ⟨b, 2, none⟩ = false := by
  simp [World.cell?, World.frozen?, h]

theorem Off.wider {B n B' n' : Nat} {w w' : World} (h : Off B n w w') (h1 : B' ≤ B) (h2 : B + n ≤ B' + n') : Off B' n' w w' :=
  ⟨h.os, h.tape, h.output, h.size, fun k hk hj => h.block k hk (by omega)⟩
theorem Off.alloc {B n : Nat} {a w : World} (h : Off B n a w) (o : Obj) : Off B n a (w.alloc o) :=
  h.trans ⟨rfl, rfl, rfl, by simp, fun k hk _ => Below.heap_alloc _ _ _ hk⟩

set_option maxHeartbeats 400000 in
theorem do_ok (G : Nat) (caps : Array Value) (w : World) (R : World → Prop)
    (hcf : ∀ w, (callFunc G caps).run Tryd.prog w = .ok (.enter G caps) w)
    (hG : Calls Tryd.prog G caps (inW (.func (.func G) #[] caps) w) fun e w' => e = .returned (.tuple #[]) ∧ Keeps w.heap.size (inW (.func (.func G) #[] caps) w) w' ∧ R w') :
    Calls Tryd.prog 27 #[.func (.func G) #[] caps] w fun e w' => e = .returned (fault 0 0 ⟨#[]⟩) ∧ ∃ w1, R w1 ∧ Off w.heap.size 5 w1 w' := by
  have hmf : ∀ (fn : Fn) (first cap : Array Value) (w : World), (Instr.makeFunc fn first cap).run Tryd.prog w = .ok (.func fn first cap) w := fun _ _ _ _ => rfl
  have hne := funcNeNil1
  have HG := Lib.hid hG; clear hG
  have HC := Lib.hid hcf; clear hcf
  go_enter Tryd.func27, Tryd.ntmps27
  go_wp2_with fail
  refine (try_ok 43 _ (doW (.func (.func G) #[] caps) w) 0 (fun w' => Keeps w.heap.size (inW (.func (.func G) #[] caps) w) w' ∧ R w') (fun _ => by kernel_rfl) ((do1_ok w.heap.size G caps (inW (.func (.func G) #[] caps) w) _ ?_ HC.out HG.out).mono ?_)).mono ?_
  · exact (cell_of_block1 (inW_b0 _ _)).1
  · rintro e' w1 ⟨rfl, hk, hR⟩
    refine ⟨rfl, Keeps.three ⟨hk.size, fun k h1 h2 => hk.block k (by rw [doW_size] at h1; omega) h2⟩, hk, hR⟩
  rintro e' w2 ⟨rfl, w1, ⟨hk, hR⟩, O⟩
  clear HG HC
  rw [doW_size] at O
  have hz1 := hk.size
  rw [inW_size] at hz1
  have hb1 : w2.heap[w.heap.size + 1]? = some (.cells #[.int .i64 0, .int .i64 0, .string ⟨#[]⟩] 31) := by
    rw [O.block _ (by omega) (by omega), hk.block _ (by omega) (by rw [inW_size]; omega), inW_b1]
  have hs2 := O.size
  obtain ⟨f1, f2, f3, f4, f5, f6⟩ := cells_of_fault hb1
  unfold fault
  have hlt : w.heap.size + 1 < w2.heap.size := by omega
  clear hk hz1 hb1 hs2
  have O5 : Off w.heap.size 5 w1 w2 := O.wider (by omega) (by omega)
  clear O
  go_wp2
  refine bodyPost_ret (v := fault 0 0 ⟨#[]⟩) (by simp [results, Tryd.results27, go_sem, fault, f1, f2, f3, hlt]) rfl ⟨rfl, w1, hR, ?_⟩
  exact (((O5.setCell (p := ⟨w.heap.size + 1, 0, none⟩) (by simp) (by simp) _).setCell (p := ⟨w.heap.size + 1, 1, none⟩) (by simp) (by simp) _).setCell (p := ⟨w.heap.size + 1, 2, none⟩) (by simp) (by simp) _).alloc _

set_option maxHeartbeats 400000 in
theorem do_bad (G : Nat) (caps : Array Value) (w : World) (e k : Int) (s : ByteArray) (R : World → Prop)
    (hcf : ∀ w, (callFunc G caps).run Tryd.prog w = .ok (.enter G caps) w)
    (hG : Calls Tryd.prog G caps (inW (.func (.func G) #[] caps) w) fun e' w' => (∃ t pv, e' = .panicked [{ v := .iface t pv, recovered := false }] ∧ ToldBy t pv e k s) ∧ Keeps w.heap.size (inW (.func (.func G) #[] caps) w) w' ∧ R w') :
    Calls Tryd.prog 27 #[.func (.func G) #[] caps] w fun e' w' => e' = .returned (fault e k s) ∧ ∃ w1, R w1 ∧ Off w.heap.size 5 w1 w' := by
  have hmf : ∀ (fn : Fn) (first cap : Array Value) (w : World), (Instr.makeFunc fn first cap).run Tryd.prog w = .ok (.func fn first cap) w := fun _ _ _ _ => rfl
  have hne := funcNeNil1
  have HG := Lib.hid hG; clear hG
  have HC := Lib.hid hcf; clear hcf
  go_enter Tryd.func27, Tryd.ntmps27
  go_wp2_with fail
  refine (try_bad 43 _ (doW (.func (.func G) #[] caps) w) e k s (fun w' => Keeps w.heap.size (inW (.func (.func G) #[] caps) w) w' ∧ R w') (fun _ => by kernel_rfl) ((do1_bad w.heap.size G caps (inW (.func (.func G) #[] caps) w) (fun c => ∃ t pv, c = [{ v := .iface t pv, recovered := false }] ∧ ToldBy t pv e k s) (fun w' => Keeps w.heap.size (inW (.func (.func G) #[] caps) w) w' ∧ R w') ?_ HC.out (HG.out.mono ?_)).mono ?_)).mono ?_
  · exact (cell_of_block1 (inW_b0 _ _)).1
  · rintro e' w1 ⟨⟨t, pv, rfl, ht⟩, hk, hR⟩
    exact ⟨⟨_, rfl, t, pv, rfl, ht⟩, hk, hR⟩
  · rintro e' w1 ⟨⟨c, rfl, t, pv, rfl, ht⟩, hk, hR⟩
    refine ⟨⟨t, pv, rfl, ht⟩, Keeps.three ⟨hk.size, fun k h1 h2 => hk.block k (by rw [doW_size] at h1; omega) h2⟩, hk, hR⟩
  rintro e' w2 ⟨rfl, w1, ⟨hk, hR⟩, O⟩
  clear HG HC
  rw [doW_size] at O
  have hz1 := hk.size
  rw [inW_size] at hz1
  have hb1 : w2.heap[w.heap.size + 1]? = some (.cells #[.int .i64 0, .int .i64 0, .string ⟨#[]⟩] 31) := by
    rw [O.block _ (by omega) (by omega), hk.block _ (by omega) (by rw [inW_size]; omega), inW_b1]
  have hs2 := O.size
  obtain ⟨f1, f2, f3, f4, f5, f6⟩ := cells_of_fault hb1
  unfold fault
  have hlt : w.heap.size + 1 < w2.heap.size := by omega
  clear hk hz1 hb1 hs2
  have O5 : Off w.heap.size 5 w1 w2 := O.wider (by omega) (by omega)
  clear O
  go_wp2
  refine bodyPost_ret (v := fault e k s) (by simp [results, Tryd.results27, go_sem, fault, f1, f2, f3, hlt]) rfl ⟨rfl, w1, hR, ?_⟩
  exact (((O5.setCell (p := ⟨w.heap.size + 1, 0, none⟩) (by simp) (by simp) _).setCell (p := ⟨w.heap.size + 1, 1, none⟩) (by simp) (by simp) _).setCell (p := ⟨w.heap.size + 1, 2, none⟩) (by simp) (by simp) _).alloc _

set_option maxHeartbeats 400000 in
theorem do_nil (w : World) : Calls Tryd.prog 27 #[.nilFunc] w fun e w' => e = .returned (fault 1 0 ⟨#[]⟩) ∧ Below w.heap.size w w' := by
  have hne : ∀ w, (binOp .eql 1 .nilFunc .nilFunc).run Tryd.prog w = .ok (.bool true) w := fun w => by kernel_rfl
  go_enter Tryd.func27, Tryd.ntmps27
  go_wp2
  exact bodyPost_ret (v := fault 1 0 ⟨#[]⟩) (by simp [results, Tryd.results27, go_sem, fault]) rfl ⟨rfl, ((Below.refl _ _).alloc (Nat.le_refl _) _).alloc (by simp) _⟩

set_option maxHeartbeats 400000 in
theorem try_nil (w : World) : Calls Tryd.prog 42 #[.nilFunc] w fun e w' => e = .returned (.tuple #[.int .i64 0, fault 1 0 ⟨#[]⟩]) ∧ Below w.heap.size w w' := by
  have hne : ∀ w, (binOp .eql 82 .nilFunc .nilFunc).run Tryd.prog w = .ok (.bool true) w := fun w => by kernel_rfl
  go_enter Tryd.func42, Tryd.ntmps42
  go_wp2
  exact bodyPost_ret (v := .tuple #[.int .i64 0, fault 1 0 ⟨#[]⟩]) (by simp [results, Tryd.results42, go_sem, fault]) rfl ⟨rfl, ((Below.refl _ _).alloc (Nat.le_refl _) _).alloc (by simp) _⟩

theorem Keeps.refl (B : Nat) (w : World) : Keeps B w w := ⟨Nat.le_refl _, fun _ _ _ => rfl⟩
theorem Keeps.setLow {B : Nat} {a w : World} (h : Keeps B a w) {p : Addr} (hp : p.block < B) (v : Value) : Keeps B a (w.setCell p v) :=
  ⟨by simpa [World.setCell] using h.size, fun k h1 h2 => (Below.heap_setCell _ _ _ _ (by omega)).trans (h.block k h1 h2)⟩
theorem eqlFault (w : World) (e k e' k' : Int) (s s' : ByteArray) : (binOp .eql 31 (.agg #[.int .i64 e, .int .i64 k, .string s]) (.agg #[.int .i64 e', .int .i64 k', .string s'])).run Tryd.prog w = .ok (.bool ((e == e') && ((k == k') && (s.toList == s'.toList)))) w := by
  simp [go_sem]
  by_cases h1 : e = e' <;> by_cases h2 : k = k' <;> by_cases h3 : s.toList = s'.toList <;> simp [h1, h2, h3]
theorem inW_below (f : Value) (w : World) : Below w.heap.size w (inW f w) :=
  ⟨rfl, rfl, rfl, by rw [inW_size]; omega, fun k hk => inW_old f w k hk⟩
theorem Off.below {B n : Nat} {w w' : World} (h : Off B n w w') (hB : B ≤ w.heap.size) : Below B w w' :=
  ⟨h.os, h.tape, h.output, h.size, fun k hk => h.block k (by omega) (Or.inl hk)⟩
theorem Below.alloc1 (w : World) (o : Obj) : Below w.heap.size w (w.alloc o) := (Below.refl _ _).alloc (Nat.le_refl _) o
theorem must_no (w : World) : Calls Tryd.prog 30 #[.int .i64 0] w fun e w' => e = .returned (.tuple #[]) ∧ w' = w := by
  go_enter Tryd.func30, Tryd.ntmps30
  go_wp2
  go_end0
  exact ⟨rfl, rfl⟩
theorem must_yes (x : Int) (h : (x != 0) = true) (w : World) : Calls Tryd.prog 30 #[.int .i64 x] w fun e w' => e = .panicked [{ v := .iface 29 (.int .i64 x), recovered := false }] ∧ w' = w := by
  go_enter Tryd.func30, Tryd.ntmps30
  go_wp2
  exact ⟨rfl, rfl, rfl⟩
theorem fail_any (s : ByteArray) (w : World) : Calls Tryd.prog 49 #[.string s] w fun e w' => e = .panicked [{ v := .iface 9 (.string s), recovered := false }] ∧ w' = w := by
  go_enter Tryd.func49, Tryd.ntmps49
  go_wp2
  exact ⟨rfl, rfl, rfl⟩
end Go.Proofs.YtidjnfjpdnjogaaDoor
