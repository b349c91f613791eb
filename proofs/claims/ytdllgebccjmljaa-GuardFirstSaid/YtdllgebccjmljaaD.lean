/-
  Contracts of Do and Try where their function turns one block alone. Conditions: none.
-/
import Derived.Test.YtdllgebccjmljaaC
namespace Go.Proofs.Ytdllgebccjmljaa
open Go.RowKit

theorem lt_of_block {w : World} {b : Nat} {o : Obj} (h : w.heap[b]? = some o) : b < w.heap.size := (Array.getElem?_eq_some_iff.1 h).1

theorem Off.same {B n : Nat} {w w' : World} (h : Off B n w w') {k : Nat} {o : Obj} (hk : w.heap[k]? = some o) (hj : k < B ∨ B + n ≤ k) : w'.heap[k]? = some o :=
  (h.block k (lt_of_block hk) hj).trans hk
theorem Off.cell {B n : Nat} {w w' : World} (h : Off B n w w') {a : Addr} (ha : a.block < w.heap.size) (hj : a.block < B ∨ B + n ≤ a.block) : w'.cell? a = w.cell? a :=
  World.cell?_of_block (w := w) (h.block a.block ha hj)
theorem Off.keeps {C B : Nat} {w w' : World} (h : Off C 1 w w') (hB : C < B) : Keeps B w w' := ⟨h.size, fun k h1 h2 => h.block k h2 (Or.inr (by omega))⟩

theorem inW_off (f : Value) (w w1 w2 : World) (C : Nat) (h1 : Off C 1 (inW f w) w1) (h2 : Off w.heap.size 5 w1 w2) : Off C 1 w w2 := by
  have hs := inW_size f w
  have a1 := h1.size
  refine ⟨h2.os.trans (h1.os.trans (inW_below f w).os), h2.tape.trans (h1.tape.trans (inW_below f w).tape), h2.output.trans (h1.output.trans (inW_below f w).output), by have := h2.size; omega, fun k hk hj => ?_⟩
  rw [h2.block k (by omega) (by omega), h1.block k (by omega) hj, inW_old _ _ _ hk]

theorem do_off_ok (G : Nat) (caps : Array Value) (w : World) (C : Nat) (X : Obj → Prop) (hC : C < w.heap.size)
    (hcf : ∀ w, (callFunc G caps).run Try.prog w = .ok (.enter G caps) w)
    (hG : Calls Try.prog G caps (inW (.func (.func G) #[] caps) w) fun e w' => e = .returned (.tuple #[]) ∧ Off C 1 (inW (.func (.func G) #[] caps) w) w' ∧ ∃ o, w'.heap[C]? = some o ∧ X o) :
    Calls Try.prog 14 #[.func (.func G) #[] caps] w fun e w' => e = .returned (fault 0 0 ⟨#[]⟩) ∧ Off C 1 w w' ∧ ∃ o, w'.heap[C]? = some o ∧ X o := by
  refine (do_ok G caps w (fun w1 => Off C 1 (inW (.func (.func G) #[] caps) w) w1 ∧ ∃ o, w1.heap[C]? = some o ∧ X o) hcf (hG.mono ?_)).mono ?_
  · rintro e w' ⟨rfl, ho, hx⟩
    exact ⟨rfl, ho.keeps hC, ho, hx⟩
  · rintro e w2 ⟨rfl, w1, ⟨ho, o, hx, hX⟩, O⟩
    exact ⟨rfl, inW_off _ _ _ _ _ ho O, o, O.same hx (Or.inl hC), hX⟩

theorem do_off_bad (G : Nat) (caps : Array Value) (w : World) (C : Nat) (X : Obj → Prop) (e k : Int) (s : ByteArray) (hC : C < w.heap.size)
    (hcf : ∀ w, (callFunc G caps).run Try.prog w = .ok (.enter G caps) w)
    (hG : Calls Try.prog G caps (inW (.func (.func G) #[] caps) w) fun e' w' => (∃ t pv, e' = .panicked [{ v := .iface t pv, recovered := false }] ∧ ToldBy t pv e k s) ∧ Off C 1 (inW (.func (.func G) #[] caps) w) w' ∧ ∃ o, w'.heap[C]? = some o ∧ X o) :
    Calls Try.prog 14 #[.func (.func G) #[] caps] w fun e' w' => e' = .returned (fault e k s) ∧ Off C 1 w w' ∧ ∃ o, w'.heap[C]? = some o ∧ X o := by
  refine (do_bad G caps w e k s (fun w1 => Off C 1 (inW (.func (.func G) #[] caps) w) w1 ∧ ∃ o, w1.heap[C]? = some o ∧ X o) hcf (hG.mono ?_)).mono ?_
  · rintro e' w' ⟨h, ho, hx⟩
    exact ⟨h, ho.keeps hC, ho, hx⟩
  · rintro e' w2 ⟨rfl, w1, ⟨ho, o, hx, hX⟩, O⟩
    exact ⟨rfl, inW_off _ _ _ _ _ ho O, o, O.same hx (Or.inl hC), hX⟩

end Go.Proofs.Ytdllgebccjmljaa
