/-
  A float with the other sign, by its bits: the plain law. Conditions: none.
-/
import Derived.Test.YtidjnfjpdnjogaaDoorRealQ
import GoSem.Op.Unary
namespace Go.Proofs.YtidjnfjpdnjogaaDoor

def negB (b : Nat) : Nat := Op.negFloat .f64 b
theorem negB_xor (b : Nat) : negB b = b ^^^ 2 ^ 63 := rfl
theorem xor_top (b : Nat) (h : b < 2 ^ 63) : b ^^^ 2 ^ 63 = 2 ^ 63 + b := by
  apply Nat.eq_of_testBit_eq
  intro j
  rw [Nat.testBit_xor, Nat.testBit_two_pow]
  rcases Nat.lt_trichotomy j 63 with hj | hj | hj
  · rw [Nat.testBit_two_pow_add_gt hj]
    have : (63 = j) = False := by simp; omega
    simp [this]
  · subst hj
    rw [Nat.testBit_two_pow_add_eq]; simp
  · have h2 : (2 : Nat) ^ 64 ≤ 2 ^ j := Nat.pow_le_pow_right (by decide) hj
    rw [Nat.testBit_lt_two_pow (show 2 ^ 63 + b < 2 ^ j by omega), Nat.testBit_lt_two_pow (show b < 2 ^ j by omega)]
    have : (63 = j) = False := by simp; omega
    simp [this]

theorem negB_cases (b : Nat) (hb : b < 18446744073709551616) :
    (negOf b = true ∧ 9223372036854775808 ≤ b ∧ negB b = b - 9223372036854775808) ∨ (negOf b = false ∧ b < 9223372036854775808 ∧ negB b = b + 9223372036854775808) := by
  rw [negB_xor]
  by_cases h : b < 9223372036854775808
  · refine Or.inr ⟨?_, h, ?_⟩
    · unfold negOf; rw [show b / 9223372036854775808 = 0 by omega]; rfl
    · rw [xor_top b h, Nat.add_comm]
  · refine Or.inl ⟨?_, by omega, ?_⟩
    · unfold negOf; rw [show b / 9223372036854775808 = 1 by omega]; rfl
    · obtain ⟨c, rfl⟩ : ∃ c, b = 2 ^ 63 + c := ⟨b - 2 ^ 63, by omega⟩
      rw [← xor_top c (by omega), Nat.xor_assoc, Nat.xor_self, Nat.xor_zero, xor_top c (by omega)]
      omega

theorem negB_lt (b : Nat) (hb : b < 18446744073709551616) : negB b < 18446744073709551616 := by
  rcases negB_cases b hb with ⟨_, _, h⟩ | ⟨_, _, h⟩ <;> omega
theorem negB_rung (b : Nat) (hb : b < 18446744073709551616) : rungOf (negB b) = rungOf b := by
  unfold rungOf
  rcases negB_cases b hb with ⟨_, _, h⟩ | ⟨_, _, h⟩ <;> omega
theorem negB_neg (b : Nat) (hb : b < 18446744073709551616) : negOf (negB b) = !negOf b := by
  rcases negB_cases b hb with ⟨h1, _, h⟩ | ⟨h1, _, h⟩
  · rw [h1, h, negOf, show (b - 9223372036854775808) / 9223372036854775808 = 0 by omega]; rfl
  · rw [h1, h, negOf, show (b + 9223372036854775808) / 9223372036854775808 = 1 by omega]; rfl
theorem negB_fine {b : Nat} (hb : b < 18446744073709551616) (h : fine b) : fine (negB b) := by
  unfold fine; rw [negB_rung b hb]; exact h
theorem negB_sv (b : Nat) (hb : b < 18446744073709551616) : svB (negB b) = -svB b := by
  unfold svB
  rw [negB_rung b hb, negB_neg b hb]
  cases negOf b <;> simp [sgn]
theorem negB_back (b : Nat) : negB (negB b) = b := by
  rw [negB_xor, negB_xor, Nat.xor_assoc, Nat.xor_self, Nat.xor_zero]

/-- The greatest number's test at the other sign. -/
theorem inf_neg (b : Nat) (hb : b < 18446744073709551616) (h : fine b) : gtB (negB b) 9218868437227405311 = ltB b 18442240474082181119 := by
  obtain ⟨f1, v1, f2, v2, _, _⟩ := max_facts
  rw [gt_fine _ _ (negB_fine hb h) f1, lt_fine _ _ h f2, v1, v2, negB_sv b hb, decide_eq_decide]
  omega

/-- The order is turned. -/
theorem ordK_neg (b : Nat) (hb : b < 18446744073709551616) (h : fine b) : ordK (negB b) = -ordK b - 1 := by
  have h1 : ¬ 9218868437227405312 < rungOf b := by unfold fine at h; omega
  rw [ordK, ordK, negB_rung b hb, if_neg h1, if_neg h1, negB_neg b hb]
  cases negOf b <;> simp <;> omega
end Go.Proofs.YtidjnfjpdnjogaaDoor
