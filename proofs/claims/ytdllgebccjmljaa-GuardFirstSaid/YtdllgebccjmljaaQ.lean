/-
  A region that draws its order, whose operations read and whose callees read or make memory of their own: one walk of the text's order serves every order. Conditions: none.
-/
import Derived.Test.YtdllgebccjmljaaRows
import Derived.WalkKit
import Derived.Deep.QuietTactic
import Derived.BigQuiet
namespace Go.Proofs.Ytdllgebccjmljaa
open Go.RowKit

/-- New blocks, and a count of draws. -/
structure GrowBy where
  objs : Array Obj
  drawn : Nat

instance : Nonempty GrowBy := ⟨⟨#[], 0⟩⟩

/-- w with new blocks, and another count of draws. -/
def growQ (w : World) (q : GrowBy) : World := { w with heap := w.heap ++ q.objs, drawn := q.drawn }

section
variable (w : World) (q : GrowBy) (a : Addr)
theorem heap_growQ (k : Nat) (h : k < w.heap.size) : (growQ w q).heap[k]? = w.heap[k]? := by
  show (w.heap ++ q.objs)[k]? = _
  rw [Array.getElem?_append, if_pos h]
@[simp, go_sem] theorem cell_growQ (h : a.block < w.heap.size) : (growQ w q).cell? a = w.cell? a := World.cell?_of_block (w := w) (heap_growQ w q a.block h)
@[simp, go_sem] theorem frozen_growQ (h : a.block < w.heap.size) : (growQ w q).frozen? a = w.frozen? a := World.frozen?_of_block (w := w) (heap_growQ w q a.block h)
@[simp, go_sem] theorem tape_growQ : (growQ w q).tape = w.tape := rfl
theorem growQ_below : Below w.heap.size w (growQ w q) := ⟨rfl, rfl, rfl, by simp [growQ], fun k hk => heap_growQ w q k hk⟩

end

theorem below_growQ {w w' : World} (h : Below w.heap.size w w') : ∃ q, w' = growQ w q := by
  refine ⟨⟨w'.heap.extract w.heap.size w'.heap.size, w'.drawn⟩, ?_⟩
  have e : w'.heap = w.heap ++ w'.heap.extract w.heap.size w'.heap.size := by
    apply Array.ext_getElem?
    intro i
    rw [Array.getElem?_append]
    split
    · rename_i hi
      exact h.block i hi
    · rename_i hi
      have hs := h.size
      rw [Array.getElem?_extract]
      split
      · congr 1; omega
      · simp; omega
  obtain ⟨wh, wt, wd, wo, wu⟩ := w
  obtain ⟨wh', wt', wd', wo', wu'⟩ := w'
  have h1 := h.os
  have h2 := h.tape
  have h3 := h.output
  simp only at h1 h2 h3 e
  subst h1 h2 h3
  simp only [growQ]
  congr

/-- A callee's contract, met in a world that has grown. -/
theorem Calls.grow_of {P : Program} {f : FuncId} {args : Array Value} {w : World} {q : GrowBy} {v : Value}
    (h : Calls P f args (growQ w q) fun e w' => e = .returned v ∧ Below (growQ w q).heap.size (growQ w q) w') : Calls P f args (growQ w q) fun e w'' => e = .returned v ∧ ∃ m, w'' = growQ w m :=
  h.mono fun _ _ ⟨he, hb⟩ => ⟨he, below_growQ ((growQ_below w q).trans (hb.mono (growQ_below w q).size))⟩

theorem Calls.grow_of_same {P : Program} {f : FuncId} {args : Array Value} {w : World} {q : GrowBy} {v : Value}
    (h : Calls P f args (growQ w q) fun e w' => e = .returned v ∧ w' = growQ w q) : Calls P f args (growQ w q) fun e w'' => e = .returned v ∧ ∃ m, w'' = growQ w m :=
  h.mono fun _ _ ⟨he, hb⟩ => ⟨he, q, hb⟩

theorem wp_region_grow_lit {P : Program} {id : Nat} {Q : Exit → Act → World → Prop} {a : Act} {w : World} {l : List Oper} (hm : P.follows .mixedOrders = true) (hB : Region.lexB .any l.toArray = true)
    (h : wpQuiet P l.toArray (fun w' => ∃ q, w' = growQ w q) (fun a' => ∀ w', (∃ q, w' = growQ w q) → Q .normal a' w') l a) : (Code.region id l.toArray true).wp P Q a w :=
  wp_region_quiet (C := fun w' => ∃ q, w' = growQ w q) hm hB (below_growQ ((Below.refl w.heap.size w).drew)) (by simpa using h)

end Go.Proofs.Ytdllgebccjmljaa
