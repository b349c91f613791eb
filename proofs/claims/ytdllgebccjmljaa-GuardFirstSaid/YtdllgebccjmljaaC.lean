/-
  Contracts of the laws' own function alive, and of guard.Must. Conditions: none.
-/
import Derived.Test.YtdllgebccjmljaaB
namespace Go.Proofs.Ytdllgebccjmljaa
open Go.RowKit

theorem Keeps.refl (B : Nat) (w : World) : Keeps B w w := ⟨Nat.le_refl _, fun _ _ _ => rfl⟩
theorem Keeps.setLow {B : Nat} {a w : World} (h : Keeps B a w) {p : Addr} (hp : p.block < B) (v : Value) : Keeps B a (w.setCell p v) :=
  ⟨by simpa [World.setCell] using h.size, fun k h1 h2 => (Below.heap_setCell _ _ _ _ (by omega)).trans (h.block k h1 h2)⟩

theorem alive1 (C : Nat) (x : Int) (w : World) (h : w.cell? ⟨C, 0, none⟩ = some (.int .i64 x)) (hf : w.frozen? ⟨C, 0, none⟩ = false) :
    Calls Try.prog 25 #[.pointer (some ⟨C, 0, none⟩)] w fun e w' => e = .returned (.tuple #[]) ∧ w' = w.setCell ⟨C, 0, none⟩ (.int .i64 5) := by
  go_enter Try.func25, Try.ntmps25
  go_wp2
  go_end0
  exact ⟨rfl, rfl⟩

theorem eqlFault (w : World) (e k e' k' : Int) (s s' : ByteArray) : (binOp .eql 26 (.agg #[.int .i64 e, .int .i64 k, .string s]) (.agg #[.int .i64 e', .int .i64 k', .string s'])).run Try.prog w = .ok (.bool ((e == e') && ((k == k') && (s.toList == s'.toList)))) w := by
  simp [go_sem]
  by_cases h1 : e = e' <;> by_cases h2 : k = k' <;> by_cases h3 : s.toList = s'.toList <;> simp [h1, h2, h3]

theorem new_block (w : World) (o : Obj) : (w.alloc o).heap[w.heap.size]? = some o := by
  show (w.heap.push o)[w.heap.size]? = _
  simp
theorem new_block2 (w : World) (o p : Obj) : ((w.alloc o).alloc p).heap[w.heap.size + 1]? = some p := by
  have := new_block (w.alloc o) p
  simpa using this
theorem inW_below (f : Value) (w : World) : Below w.heap.size w (inW f w) :=
  ⟨rfl, rfl, rfl, by rw [inW_size]; omega, fun k hk => inW_old f w k hk⟩
theorem Off.below {B n : Nat} {w w' : World} (h : Off B n w w') (hB : B ≤ w.heap.size) : Below B w w' :=
  ⟨h.os, h.tape, h.output, h.size, fun k hk => h.block k (by omega) (Or.inl hk)⟩
theorem Below.alloc1 (w : World) (o : Obj) : Below w.heap.size w (w.alloc o) := (Below.refl _ _).alloc (Nat.le_refl _) o

set_option maxHeartbeats 400000 in
theorem alive_any (w : World) : Calls Try.prog 9 #[] w fun e w' => e = .returned (.bool true) ∧ Below w.heap.size w w' := by
  have hmf : ∀ (fn : Fn) (first cap : Array Value) (w : World), (Instr.makeFunc fn first cap).run Try.prog w = .ok (.func fn first cap) w := fun _ _ _ _ => rfl
  have heq := eqlFault
  go_enter Try.func9, Try.ntmps9
  go_wp2_with fail
  have hcell : (inW (.func (.func 25) #[] #[.pointer (some ⟨w.heap.size, 0, none⟩)]) (w.alloc (.cells #[.int .i64 0] 3))).heap[w.heap.size]? = some (.cells #[.int .i64 0] 3) := by
    rw [inW_old _ _ _ (by simp)]; exact new_block _ _
  refine (do_ok 25 _ _ (fun w' => w'.heap[w.heap.size]? = some (.cells #[.int .i64 5] 3) ∧ Below w.heap.size w w' ∧ w.heap.size < w'.heap.size) (fun _ => by kernel_rfl) ((alive1 w.heap.size 0 _ (cell_of_block1 hcell).1 (cell_of_block1 hcell).2).mono ?_)).mono ?_
  · rintro e w' ⟨rfl, rfl⟩
    refine ⟨rfl, (Keeps.refl _ _).setLow (by simp) _, heap_setCell_same hcell _, ?_, ?_⟩
    · exact ((Below.alloc1 w _).trans ((inW_below _ _).mono (by simp))).setCell (Nat.le_refl _) _
    · simp [World.setCell, inW_size]; omega
  rintro e w2 ⟨rfl, w1, ⟨hc, hb, hz⟩, O⟩
  simp only [World.size_alloc] at O
  have hc2 : w2.heap[w.heap.size]? = some (.cells #[.int .i64 5] 3) := by rw [O.block _ hz (by omega)]; exact hc
  have hb2 : Below w.heap.size w w2 := hb.trans ((O.below (by omega)).mono (by omega))
  have hlt : w.heap.size < w2.heap.size := by have := O.size; omega
  obtain ⟨f1, f2⟩ := cell_of_block1 hc2
  clear hc hb hz O hc2 hcell
  unfold fault
  go_wp2_with fail
  refine (do_nil _).mono ?_
  rintro e w3 ⟨rfl, hb3⟩
  unfold fault
  go_wp2
  go_ret
  exact ⟨rfl, hb2.trans (((Below.alloc1 w2 _).mono (by omega)).trans (hb3.mono (by simp; omega)))⟩

theorem must_no (w : World) : Calls Try.prog 12 #[.int .i64 0] w fun e w' => e = .returned (.tuple #[]) ∧ w' = w := by
  go_enter Try.func12, Try.ntmps12
  go_wp2
  go_end0
  exact ⟨rfl, rfl⟩

theorem must_yes (x : Int) (h : (x != 0) = true) (w : World) : Calls Try.prog 12 #[.int .i64 x] w fun e w' => e = .panicked [{ v := .iface 24 (.int .i64 x), recovered := false }] ∧ w' = w := by
  go_enter Try.func12, Try.ntmps12
  go_wp2
  exact ⟨rfl, rfl, rfl⟩

theorem fail_any (s : ByteArray) (w : World) : Calls Try.prog 21 #[.string s] w fun e w' => e = .panicked [{ v := .iface 9 (.string s), recovered := false }] ∧ w' = w := by
  go_enter Try.func21, Try.ntmps21
  go_wp2
  exact ⟨rfl, rfl, rfl⟩

end Go.Proofs.Ytdllgebccjmljaa
