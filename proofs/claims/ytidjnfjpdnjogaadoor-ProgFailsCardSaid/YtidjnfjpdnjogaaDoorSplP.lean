/-
  Metadata as plain texts: words between blanks, what is told of metadata, what is read of a text. Conditions: none.
-/
import Derived.Test.YtidjnfjpdnjogaaDoorNameP
namespace Go.Proofs.YtidjnfjpdnjogaaDoor
open Go.Lib

/-- The words between one byte and the next. -/
def splitB (b : UInt8) : List UInt8 → List (List UInt8)
  | [] => [[]]
  | c :: t => if c = b then [] :: splitB b t else match splitB b t with
    | [] => [[c]]
    | w :: r => (c :: w) :: r
theorem splitB_ne (b : UInt8) : ∀ l, splitB b l ≠ []
  | [] => by simp [splitB]
  | c :: t => by
    rw [splitB]
    split
    · simp
    · split <;> simp
theorem splitB_not (b : UInt8) : ∀ l, b ∉ l → splitB b l = [l]
  | [], _ => rfl
  | c :: t, h => by
    have h1 : ¬ c = b := fun e => h (by rw [e]; simp)
    have h2 : b ∉ t := fun e => h (by simp [e])
    rw [splitB, if_neg h1, splitB_not b t h2]
theorem splitB_at (b : UInt8) : ∀ l r, b ∉ l → splitB b (l ++ b :: r) = l :: splitB b r
  | [], r, _ => by simp [splitB]
  | c :: t, r, h => by
    have h1 : ¬ c = b := fun e => h (by rw [e]; simp)
    have h2 : b ∉ t := fun e => h (by simp [e])
    rw [List.cons_append, splitB, if_neg h1, splitB_at b t r h2]
/-- What stands between blanks, if anything does. -/
def wordsB (l : List UInt8) : List (List UInt8) := (splitB 32 l).filter fun w => !w.isEmpty
end Go.Proofs.YtidjnfjpdnjogaaDoor
