/-
  A range over a function whose iterator keeps a variable of its own between two rounds (a box that it stores into), and whose rounds all go on. No program. Conditions: none.
-/
import Derived.RangeFuncNested
import Derived.RangeFuncBound
import Derived.RangeFuncCalls
import Derived.RangeFuncLeaves
import Derived.Shelf.Abstract
import Derived.Shelf.RegionOpen
import Derived.WalkKit
import Derived.OwnWalkIn
import Derived.TacticsInMore
import Derived.LoopNIn
import Derived.LoopIn
namespace Go.Proofs.YtidjnfjpdnjogaaDoor
open Go Go.RowKit

/-- The three boxes of an iterator lie as they lay. -/
def Boxes (B : Nat) (A A' : World) : Prop := ∀ b, B ≤ b → b < B + 3 → A'.heap[b]? = A.heap[b]?
theorem Boxes.refl (B : Nat) (A : World) : Boxes B A A := fun _ _ _ => rfl
theorem Boxes.trans {B : Nat} {A1 A2 A3 : World} (h : Boxes B A1 A2) (k : Boxes B A2 A3) : Boxes B A1 A3 := fun b h1 h2 => (k b h1 h2).trans (h b h1 h2)
theorem Boxes.put {B l : Nat} (A : World) (o : Obj) (h : B + 3 ≤ l) : Boxes B A (A.putObj l o) := fun _ _ h2 => World.putObj_heap_other (by omega)
/-- How a round ends: it goes on; the loop's two blocks and the iterator's boxes are as they were. -/
def roundEnd (B D : Nat) (I : World → Prop) (W : World) : Exit → Act → World → Prop
  | .normal, _, W' => W'.heap[D]? = W.heap[D]? ∧ W'.heap[D + 1]? = W.heap[D + 1]? ∧ Boxes B W W' ∧ I W'
  | _, _, _ => False
/-- What an iterator owes that yields a list, keeping a box of its own at B. -/
def Yields {α : Type} (n : Nat) (P : Program) (gf : Nat) (lb : Array Value) (encs : α → Array Value) (B : Nat) (L : List α) (w : World) : Prop :=
  ∀ (l : Nat) (J : List α → World → Prop) (W : World), Below w.heap.size w W → (∀ pre A v, J pre A → J pre (A.setCell ⟨B, 0, none⟩ v)) →
    (∀ pre x W1, J pre W1 → (pre ++ [x]) <+: L → YieldAt Fence.wide (n - 1) P l (encs x) W1 fun e W' => e = .returned (.bool true) ∧ J (pre ++ [x]) W' ∧ Boxes B W1 W') →
    J [] W → CallsIn Fence.wide n P gf (#[.func (.yield l) #[] #[]] ++ lb) W fun e W' => (∃ v, e = .returned v) ∧ J L W'

theorem range_over {α : Type} {n : Nat} {P : Program} {g : Operand} {ps : Array Tmp} {assign body : Code} {Q : Exit → Act → World → Prop} {a : Act} {w : World} {gf : Nat} {lb : Array Value}
    (hg : a.eval g = .func (.func gf) #[] lb) (eg : ∀ args w, (callFunc gf args).run P w = .ok (.enter gf args) w) (encs : α → Array Value) (hps : ∀ x, (encs x).size = ps.size) (B : Nat) (hB : B + 3 ≤ w.heap.size) (L : List α)
    (hseq : Yields (n - 1) P gf lb encs B L w) (I : List α → World → Prop) (hIn : ∀ pre W o, I pre W → I pre (W.alloc o)) (hIp : ∀ pre W l o, I pre W → w.heap.size ≤ l → l < w.heap.size + 2 → I pre (W.putObj l o))
    (hIs : ∀ pre W v, I pre W → I pre (W.setCell ⟨B, 0, none⟩ v)) (h0 : I [] w) (a₁ : α → Act)
    (hassign : ∀ (l : Nat) (x : α) (W : World) (K : Act → World → Prop), K (a₁ x) W →
      assign.wpIn (Fence.wide.inRound l) (n - 1 - 1) P (Exit.then K (fun _ _ _ => False)) { tmps := (ps.zip (encs x)).foldl (fun t (p, v) => t.setIfInBounds p v) a.tmps, defers := [] } W)
    (hbody : ∀ (l : Nat) (pre : List α) (x : α) (W : World), I pre W → (pre ++ [x]) <+: L → w.heap.size + 2 ≤ W.heap.size → body.wpIn (Fence.wide.inRound l) (n - 1 - 1) P (roundEnd B w.heap.size (I (pre ++ [x])) W) (a₁ x) W)
    (hdone : ∀ (W : World), I L W → W.heap[w.heap.size]? = some (.deferred (some [])) → Q .normal { a with defers := { target := .collected w.heap.size, args := #[] } :: a.defers } W) :
    (Code.rangeFunc g ps assign body).wpIn Fence.wide n P Q a w := by
  refine wpIn_rangeFunc fun fn hfn => ?_
  obtain ⟨rec, hrec⟩ : ∃ rec : LoopState → Loop, rec = fun st => { state := st, pending := none, fn, tmps := a.tmps, params := ps, assign, body, defers := w.heap.size } := ⟨_, rfl⟩
  have e1 : ∀ st, (rec st).state = st := fun st => by rw [hrec]
  have e2 : ∀ st, (rec st).pending = none := fun st => by rw [hrec]
  obtain ⟨W1, hW1⟩ : ∃ W1, (w.alloc (.deferred (some []))).alloc (.loop (rec .ready)) = W1 := ⟨_, rfl⟩
  have hL1 : W1.heap[w.heap.size + 1]? = some (.loop (rec .ready)) := by
    rw [← hW1]
    have := World.alloc_heap_new (w.alloc (.deferred (some []))) (.loop (rec .ready))
    rwa [World.size_alloc] at this
  have hK1 : W1.heap[w.heap.size]? = some (.deferred (some [])) := by
    rw [← hW1]
    exact (Below.heap_alloc _ _ _ (by simp)).trans (World.alloc_heap_new w _)
  have hI1 : I [] W1 := by rw [← hW1]; exact hIn _ _ _ (hIn _ _ _ h0)
  have hb1 : Below w.heap.size w W1 := by rw [← hW1]; exact ((Below.refl _ w).alloc (Nat.le_refl _) _).alloc (by simp) _
  refine ⟨w.heap.size + 1, [{ target := .collected w.heap.size, args := #[] }], W1, { target := .fn (.func gf) lb, args := #[.func (.yield (w.heap.size + 1)) #[] #[]] }, W1, gf,
    #[.func (.yield (w.heap.size + 1)) #[] #[]] ++ lb, W1, ?_, ?_, ?_, ?_, ?_, ?_⟩
  · rw [← hW1, hrec]; exact run_enterLoop_outer _ _ _ _ _
  · simp only [resolve, hg]
    simp [go_sem]
  · intro f' _; trivial
  · simp [invoke, go_sem, eg]
  · intro h; cases h
  · refine (hseq (w.heap.size + 1) (fun pre W => I pre W ∧ W.heap[w.heap.size + 1]? = some (.loop (rec .ready)) ∧ W.heap[w.heap.size]? = some (.deferred (some []))) W1 hb1 ?_ ?_ ⟨hI1, hL1, hK1⟩).mono ?_
    · rintro pre A v ⟨hi, hl, hk⟩
      exact ⟨hIs pre A v hi, (Below.heap_setCell A _ _ _ (show w.heap.size + 1 ≠ B by omega)).trans hl, (Below.heap_setCell A _ _ _ (show w.heap.size ≠ B by omega)).trans hk⟩
    · rintro pre x W ⟨hi, hl, hk⟩ hx
      have hlt : w.heap.size + 1 < W.heap.size := (Array.getElem?_eq_some_iff.1 hl).1
      have hy := run_yield (P := P) (args := encs x) hl (by rw [hrec]; exact hps x)
      rw [hrec] at hy
      refine ⟨fn, _, assign, body, hy, roundIn_of_wpIn hfn (hassign _ x W _ ⟨_, run_beginRound hl (e1 _), ?_⟩)⟩
      obtain ⟨W2, hW2⟩ : ∃ W2, W.putObj (w.heap.size + 1) (.loop { rec .ready with state := .busy }) = W2 := ⟨_, rfl⟩
      have hl2 : W2.heap[w.heap.size + 1]? = some (.loop { rec .ready with state := .busy }) := by rw [← hW2]; exact World.putObj_heap_same hlt
      have hk2 : W2.heap[w.heap.size]? = some (.deferred (some [])) := by rw [← hW2]; exact (World.putObj_heap_other (by omega)).trans hk
      have hi2 : I pre W2 := by rw [← hW2]; exact hIp _ _ _ _ hi (by omega) (by omega)
      have hx2 : Boxes B W W2 := by rw [← hW2]; exact Boxes.put _ _ (by omega)
      have hz2 : w.heap.size + 2 ≤ W2.heap.size := (Array.getElem?_eq_some_iff.1 hl2).1
      rw [hW2]
      refine wpIn_mono (hbody _ pre x W2 hi2 hx hz2) ?_
      rintro e a3 W3 hp
      cases e with
      | normal =>
        obtain ⟨q1, q2, q3, q4⟩ := hp
        have hl3 := q2.trans hl2
        refine ⟨_, _, run_endRound none hl3, rfl, ⟨hIp _ _ _ _ q4 (by omega) (by omega), ?_, (World.putObj_heap_other (by omega)).trans (q1.trans hk2)⟩, (hx2.trans q3).trans (Boxes.put _ _ (by omega))⟩
        rw [World.putObj_heap_same (Array.getElem?_eq_some_iff.1 hl3).1, hrec]
        rfl
      | _ => exact hp.elim
    · rintro e W2 ⟨⟨v, rfl⟩, hi, hl, hk⟩
      refine ⟨none, W2.putObj (w.heap.size + 1) (.loop (rec .exhausted)), ?_, hdone _ (hIp _ _ _ _ hi (by omega) (by omega)) ((World.putObj_heap_other (by omega)).trans hk)⟩
      have := run_endLoop (P := P) hl (by rw [e1]; decide)
      rw [hrec] at this ⊢
      exact this
end Go.Proofs.YtidjnfjpdnjogaaDoor
