/-
  strings.Cut at one byte; package name: Stream, Type, System, Hash, and the document's own. Conditions: none.
-/
import Derived.Test.YtidjnfjpdnjogaaDoorG
import Derived.Test.YtidjnfjpdnjogaaDoorNameP
namespace Go.Proofs.YtidjnfjpdnjogaaDoor
open Go.RowKit Go.Lib

theorem cut_index (b : UInt8) : ∀ l, (indexByte l b = -1 ∧ cutB b l = (l, [], false)) ∨ ∃ i : Nat, i < l.length ∧ indexByte l b = i ∧ cutB b l = (l.take i, l.drop (i + 1), true)
  | [] => Or.inl ⟨rfl, rfl⟩
  | c :: t => by
    by_cases h : c = b
    · refine Or.inr ⟨0, by simp, ?_, ?_⟩
      · rw [indexByte, if_pos (by simp [h])]; rfl
      · rw [cutB, if_pos h]; rfl
    · have h1 : ¬ (c == b) = true := by simpa using h
      rcases cut_index b t with ⟨e1, e2⟩ | ⟨i, hi, e1, e2⟩
      · refine Or.inl ⟨?_, ?_⟩
        · rw [indexByte, if_neg h1, e1]; rfl
        · rw [cutB, if_neg h, e2]
      · refine Or.inr ⟨i + 1, by simpa using hi, ?_, ?_⟩
        · have h2 : ¬ ((i : Int) == -1) = true := by rw [beq_iff_eq]; omega
          rw [indexByte, if_neg h1, e1, if_neg h2]; rfl
        · rw [cutB, if_neg h, e2]; rfl

/-- What Cut tells. -/
def cutTells (r : List UInt8 × List UInt8 × Bool) : Value := .tuple #[.string ⟨r.1.toArray⟩, .string ⟨r.2.1.toArray⟩, .bool r.2.2]

end Go.Proofs.YtidjnfjpdnjogaaDoor
