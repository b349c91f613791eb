/-
  Sums of floats: what is added, and the one NaN. Plain, and the operation's run. Conditions: none.
-/
import Derived.Test.YtidjnfjpdnjogaaDoorPrC1
import Derived.Laws.FloatArith
import Derived.Laws.NewFold
namespace Go.Proofs.YtidjnfjpdnjogaaDoor
open Go.RowKit Go.Lib

/-- The sum of two, by its bits; of each NaN the one. -/
def addC (a b : Nat) : Nat := match Ieee.double.add a b with
  | some r => oneW r
  | none => 9221120237041090560

theorem add_nan (a b : Nat) (h : ¬ fine a ∨ ¬ fine b) : Ieee.double.add a b = none := by
  have key : ∀ r, ¬ r ≤ 9218868437227405312 → ∀ s, (if r < 4503599627370496 then Ieee.Datum.number s r (-1074) else if r < 9218868437227405312 then .number s (4503599627370496 + r % 4503599627370496) (-1074 + (r / 4503599627370496 - 1 : Nat)) else if r = 9218868437227405312 then .infinity s else .nan s (r - 9218868437227405312)) = Ieee.Datum.nan s (r - 9218868437227405312) := fun r hr s => by
    rw [if_neg (by omega), if_neg (by omega), if_neg (by omega)]
  rw [Ieee.Format.add, read_double, read_double]
  unfold fine at h
  rcases h with h | h
  · rw [key _ h]; rfl
  · rw [key _ h]
    generalize (if rungOf a < 4503599627370496 then Ieee.Datum.number (negOf a) (rungOf a) (-1074) else _) = d
    cases d <;> rfl

theorem fine_dec (b : Nat) : (nanW b = false ∧ fine b) ∨ (nanW b = true ∧ ¬ fine b) := by
  by_cases h : fine b
  · exact Or.inl ⟨nanW_fine h, h⟩
  · exact Or.inr ⟨nanW_not h, h⟩

theorem addC_one (a b : Nat) : addC (oneW a) b = addC a b := by
  rcases fine_dec a with ⟨h, _⟩ | ⟨h, hf⟩
  · rw [oneW_not h]
  · rw [oneW_nan h, addC, addC, add_nan _ b (Or.inl hf), add_nan _ b (Or.inl not_fine_one)]

theorem nan_rung {x : Nat} (h : ¬ fine x) : oneW x = 9221120237041090560 := oneW_nan (nanW_not h)

def nanDraw (w : World) (a b : Nat) : Nat := (Question.nanBits .f64 a b).cut (w.tape w.drawn (.nanBits .f64 a b))
theorem nanDraw_not (w : World) (a b : Nat) : ¬ fine (nanDraw w a b) ∧ nanDraw w a b < 18446744073709551616 := by
  unfold fine rungOf nanDraw Question.cut
  simp only
  generalize w.tape w.drawn (.nanBits .f64 a b) = t
  have h1 : t % 2 < 2 := Nat.mod_lt _ (by decide)
  have h2 : t / 2 % 4503599627370495 < 4503599627370495 := Nat.mod_lt _ (by decide)
  show ¬ (t % 2 * 9223372036854775808 + 9218868437227405312 + 1 + t / 2 % 4503599627370495) % 9223372036854775808 ≤ 9218868437227405312 ∧ t % 2 * 9223372036854775808 + 9218868437227405312 + 1 + t / 2 % 4503599627370495 < 18446744073709551616
  revert h1 h2
  generalize t % 2 = x
  generalize t / 2 % 4503599627370495 = y
  intro h1 h2
  omega

theorem run_add (a b r : Nat) (h : Ieee.double.add a b = some r) (t : TypeId) (w : World) : (binOp .add t (.float .f64 a) (.float .f64 b)).run Tryd.prog w = .ok (.float .f64 r) w :=
  run_float_arith w .add t .f64 a b r h
theorem run_add_nan (a b : Nat) (h : Ieee.double.add a b = none) (t : TypeId) (w : World) : (binOp .add t (.float .f64 a) (.float .f64 b)).run Tryd.prog w = .ok (.float .f64 (nanDraw w a b)) w.drew := by
  have h2 : FloatKind.f64.format.add a b = none := h
  simp [binOp, Op.floatArith, h2, Question.forced, nanDraw]

theorem addC_some {a b r : Nat} (h : Ieee.double.add a b = some r) : oneW r = addC a b := by rw [addC, h]
theorem addC_none {a b x : Nat} (h : Ieee.double.add a b = none) (hx : ¬ fine x) : oneW x = addC a b := by rw [addC, h, nan_rung hx]
theorem add_bits {a b r : Nat} (h : Ieee.double.add a b = some r) : r < 18446744073709551616 := by
  have := Ieee.Format.add_lt Ieee.double h
  have e : (2 : Nat) ^ Ieee.double.width = 18446744073709551616 := by decide
  rw [e] at this; exact this

/-- The sum of a list, from the left to the right. -/
def sumC (L : Nat → Nat) : Nat → Nat
  | 0 => oneW (L 0)
  | k + 1 => addC (sumC L k) (L (k + 1))
theorem sumC_one (L : Nat → Nat) (k : Nat) : oneW (sumC L k) = sumC L k := by
  have h1 : ∀ b, oneW (oneW b) = oneW b := fun b => by
    rcases fine_dec b with ⟨h, _⟩ | ⟨h, _⟩
    · rw [oneW_not h, oneW_not h]
    · rw [oneW_nan h]; decide +kernel
  cases k with
  | zero => exact h1 _
  | succ k =>
    show oneW (addC _ _) = addC _ _
    unfold addC
    split
    · exact h1 _
    · decide +kernel
/-- The first one, or the last one, of a list. -/
def leastC (L : Nat → Nat) : Nat → Nat
  | 0 => 9221120237041090560
  | k + 1 => if lessB (L k) (leastC L k) then L k else leastC L k
def mostC (L : Nat → Nat) : Nat → Nat
  | 0 => L 0
  | k + 1 => if lessB (mostC L k) (L (k + 1)) then L (k + 1) else mostC L k
end Go.Proofs.YtidjnfjpdnjogaaDoor
