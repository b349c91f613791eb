/-
  The same, the tests that classes are told by: the plain law. Conditions: none.
-/
import Derived.Test.YtidjnfjpdnjogaaDoorRealP
namespace Go.Proofs.YtidjnfjpdnjogaaDoor

/-- No number (as the walk has it). -/
def nanW (b : Nat) : Bool := Ieee.double.order b b != some .eq
theorem nanW_fine {b : Nat} (h : fine b) : nanW b = false := by
  rw [nanW, order_fine b b h h, cmp_eq]; rfl
theorem nanW_not {b : Nat} (h : ¬ fine b) : nanW b = true := by
  rw [nanW, order_nan b b (Or.inl h)]; rfl
def oneW (b : Nat) : Nat := if nanW b then 9221120237041090560 else b
theorem not_fine_one : ¬ fine 9221120237041090560 := by unfold fine rungOf; decide

theorem ordK_top {b : Nat} (h : ¬ fine b) : ordK b = 100000000000000000000 := by
  unfold fine at h
  rw [ordK, if_pos (by omega)]
theorem ordK_low {b : Nat} (h : fine b) : ordK b < 100000000000000000000 := by
  have := rungOf_lt b
  unfold fine at h
  rw [ordK, if_neg (by omega)]
  split <;> omega

theorem same_ord (a b : Nat) (ha : a < 18446744073709551616) (hb : b < 18446744073709551616) : (oneW a == oneW b) = decide (ordK a = ordK b) := by
  by_cases h1 : fine a
  · rw [show oneW a = a by rw [oneW, nanW_fine h1]; rfl]
    by_cases h2 : fine b
    · rw [show oneW b = b by rw [oneW, nanW_fine h2]; rfl]
      rw [Bool.eq_iff_iff]
      simp only [beq_iff_eq, decide_eq_true_eq]
      exact ⟨fun h => by rw [h], ordK_inj a b ha hb h1 h2⟩
    · rw [show oneW b = 9221120237041090560 by rw [oneW, nanW_not h2]; rfl]
      have h3 : a ≠ 9221120237041090560 := fun h => not_fine_one (h ▸ h1)
      have h4 := ordK_low h1
      have h5 := ordK_top h2
      rw [decide_eq_false (by omega)]
      simpa using h3
  · rw [show oneW a = 9221120237041090560 by rw [oneW, nanW_not h1]; rfl]
    by_cases h2 : fine b
    · rw [show oneW b = b by rw [oneW, nanW_fine h2]; rfl]
      have h3 : 9221120237041090560 ≠ b := fun h => not_fine_one (h ▸ h2)
      have h4 := ordK_low h2
      have h5 := ordK_top h1
      rw [decide_eq_false (by omega)]
      simpa using h3
    · rw [show oneW b = 9221120237041090560 by rw [oneW, nanW_not h2]; rfl, ordK_top h1, ordK_top h2]
      rfl

def gtB (a b : Nat) : Bool := Ieee.double.order a b == some .gt
theorem gt_fine (a b : Nat) (ha : fine a) (hb : fine b) : gtB a b = decide (svB b < svB a) := by
  rw [gtB, order_fine a b ha hb]
  rcases Int.lt_trichotomy (valF a) (valF b) with h | h | h
  · rw [cmp_lt h, decide_eq_false (fun hc => by have := (val_lt b a).2 hc; omega)]; rfl
  · rw [h, cmp_eq, decide_eq_false (fun hc => by have := (val_lt b a).2 hc; omega)]; rfl
  · rw [cmp_gt h, decide_eq_true ((val_lt b a).1 h)]; rfl
theorem gt_nan (a b : Nat) (h : ¬ fine a ∨ ¬ fine b) : gtB a b = false := by rw [gtB, order_nan a b h]; rfl

theorem max_facts : fine 9218868437227405311 ∧ svB 9218868437227405311 = 9218868437227405311 ∧ fine 18442240474082181119 ∧ svB 18442240474082181119 = -9218868437227405311 ∧ fine 0 ∧ svB 0 = 0 := by
  unfold fine svB rungOf negOf sgn
  decide

/-- The five tests of a class. -/
theorem class_tests (b : Nat) (h : fine b) :
    ltB b 18442240474082181119 = (negOf b && decide (rungOf b = 9218868437227405312)) ∧ ltB b 0 = (negOf b && decide (rungOf b ≠ 0)) ∧
    gtB b 9218868437227405311 = (!negOf b && decide (rungOf b = 9218868437227405312)) ∧ gtB b 0 = (!negOf b && decide (rungOf b ≠ 0)) := by
  obtain ⟨f1, v1, f2, v2, f3, v3⟩ := max_facts
  rw [lt_fine b _ h f2, lt_fine b _ h f3, gt_fine b _ h f1, gt_fine b _ h f3, v1, v2, v3]
  unfold svB
  unfold fine at h
  revert h
  generalize rungOf b = r
  cases negOf b <;> intro h <;> simp only [sgn, if_true, Bool.false_eq_true, if_false, Bool.true_and, Bool.false_and, Bool.not_true, Bool.not_false] <;> refine ⟨?_, ?_, ?_, ?_⟩ <;> first | (rw [decide_eq_decide]; omega) | (rw [decide_eq_false_iff_not]; omega)
end Go.Proofs.YtidjnfjpdnjogaaDoor
