/-
  Whole numbers among the floats: what is cut towards nought, and what is whole. The plain law. Conditions: none.
-/
import Derived.Test.YtidjnfjpdnjogaaDoorRealN
import Derived.Test.YtidjnfjpdnjogaaDoorRealF
import Derived.Laws.FloatArith
namespace Go.Proofs.YtidjnfjpdnjogaaDoor

theorem word_neg (s : Bool) (r : Nat) (h : r < 9223372036854775808) : negOf (Ieee.double.word s r) = s ∧ rungOf (Ieee.double.word s r) = r ∧ Ieee.double.word s r < 18446744073709551616 := by
  have e : Ieee.double.signWeight = 9223372036854775808 := by decide
  unfold Ieee.Format.word negOf rungOf
  rw [e]
  cases s
  · rw [if_neg (by decide)]
    refine ⟨?_, by omega, by omega⟩
    rw [show r / 9223372036854775808 = 0 by omega]; rfl
  · rw [if_pos rfl]
    refine ⟨?_, by omega, by omega⟩
    rw [show (9223372036854775808 + r) / 9223372036854775808 = 1 by omega]; rfl

def pw (n : Nat) : Nat := 2 ^ n
theorem pw_pos (n : Nat) : 0 < pw n := Nat.two_pow_pos n
theorem mag_top (k : Nat) : magM ((k + 2) * 4503599627370496) = 9007199254740992 * pw k := by
  rw [magM, if_neg (by omega), Nat.mul_mod_left, Nat.mul_div_cancel _ (by decide), show k + 2 - 1 = k + 1 by omega, Nat.pow_succ]
  unfold pw
  omega
/-- How many least parts are in one. -/
def UU : Nat := pw 1074
theorem UU_pos : 0 < UU := pw_pos 1074
/-- A whole number's word. -/
def intW (s : Bool) (m : Nat) : Nat := Ieee.double.nearest s m 0

theorem intW_is (s : Bool) (m : Nat) (h : m ≤ 9007199254740992) :
    ∃ r, intW s m = Ieee.double.word s r ∧ r < 9218868437227405312 ∧ magM r = m * UU := by
  by_cases h0 : m = 0
  · subst h0
    exact ⟨0, by rw [intW, Ieee.Format.nearest, if_pos rfl], by decide, by rw [Nat.zero_mul]; rfl⟩
  · by_cases h1 : m < 9007199254740992
    · have h2 := nearest_small s m (by omega) h1
      unfold UU pw
      exact h2
    · obtain rfl : m = 9007199254740992 := by omega
      refine ⟨(1074 + 2) * 4503599627370496, ?_, by decide, ?_⟩
      · cases s <;> decide +kernel
      · rw [mag_top, UU]

theorem intW_facts (s : Bool) (m : Nat) (h : m ≤ 9007199254740992) :
    negOf (intW s m) = s ∧ rungOf (intW s m) < 9218868437227405312 ∧ magM (rungOf (intW s m)) = m * UU ∧ intW s m < 18446744073709551616 := by
  obtain ⟨r, e, hr, hm⟩ := intW_is s m h
  obtain ⟨h1, h2, h3⟩ := word_neg s r (by omega)
  rw [e, h1, h2]
  exact ⟨rfl, hr, hm, h3⟩

theorem intW_fine (s : Bool) (m : Nat) (h : m ≤ 9007199254740992) : fine (intW s m) := by
  have := (intW_facts s m h).2.1
  unfold fine; omega

theorem intW_val (s : Bool) (m : Nat) (h : m ≤ 9007199254740992) : valF (intW s m) = sgn s m * (UU : Int) := by
  obtain ⟨h1, _, h3, _⟩ := intW_facts s m h
  rw [valF, h1, h3, sgn_mul]

/-- The number that is nearest to an int is it. -/
def intF (n : Int) : Nat := FloatKind.f64.nearest n
theorem intF_eq (n : Int) : intF n = intW (decide (n < 0)) n.natAbs := rfl
theorem intF_val (n : Int) (h0 : -9007199254740992 ≤ n) (h1 : n ≤ 9007199254740992) : valF (intF n) = n * (UU : Int) := by
  rw [intF_eq, intW_val _ _ (by omega)]
  congr 1
  unfold sgn
  by_cases h : n < 0
  · rw [decide_eq_true h, if_pos rfl]; omega
  · rw [decide_eq_false h, if_neg (by decide)]; omega

theorem two_pos : (0 : Int) < (UU : Int) := by
  have := UU_pos
  omega

/-- Cut towards nought. -/
theorem cut_low (s : Bool) (n d : Nat) : Ieee.Toward.zero.cut s n d = n / 2 ^ d := by
  simp only [Ieee.Toward.cut, Bool.toNat_false, Nat.add_zero, Nat.shiftLeft_eq, Nat.one_mul]
  by_cases h : d ≤ n.log2 + 2
  · rw [Nat.min_eq_left h]
  · rw [Nat.min_eq_right (by omega)]
    have h1 : n < 2 ^ (n.log2 + 1) := Nat.lt_log2_self
    have h2 : 2 ^ (n.log2 + 1) ≤ 2 ^ (n.log2 + 2) := Nat.pow_le_pow_right (by decide) (by omega)
    have h3 : 2 ^ (n.log2 + 1) ≤ 2 ^ d := Nat.pow_le_pow_right (by decide) (by omega)
    rw [Nat.div_eq_of_lt (by omega), Nat.div_eq_of_lt (by omega)]

theorem decode_num (b : Nat) (h : rungOf b < 9218868437227405312) :
    ∃ m : Nat, ∃ p : Nat, FloatKind.f64.decode b = Ieee.Datum.number (negOf b) m (-1074 + (p : Int)) ∧ magM (rungOf b) = m * 2 ^ p := by
  show ∃ m : Nat, ∃ p : Nat, Ieee.double.read b = _ ∧ _
  rw [read_double]
  by_cases h1 : rungOf b < 4503599627370496
  · exact ⟨_, 0, by rw [if_pos h1]; rfl, by rw [magM, if_pos h1]; simp⟩
  · exact ⟨_, _, by rw [if_neg h1, if_pos h], by rw [magM, if_neg h1]⟩

theorem cut_gen (m p N : Nat) : m * 2 ^ ((-(N : Int) + (p : Int)).toNat) / 2 ^ ((-(-(N : Int) + (p : Int))).toNat) = m * 2 ^ p / 2 ^ N := by
  by_cases h : p ≤ N
  · obtain ⟨q, rfl⟩ : ∃ q, N = q + p := ⟨N - p, by omega⟩
    rw [show (-((q + p : Nat) : Int) + (p : Int)).toNat = 0 by omega, show (-(-((q + p : Nat) : Int) + (p : Int))).toNat = q by omega, Nat.pow_zero, Nat.mul_one, Nat.pow_add]
    exact (Nat.mul_div_mul_right m (2 ^ q) (Nat.two_pow_pos p)).symm
  · obtain ⟨q, rfl⟩ : ∃ q, p = N + q := ⟨p - N, by omega⟩
    rw [show (-(N : Int) + ((N + q : Nat) : Int)).toNat = q by omega, show (-(-(N : Int) + ((N + q : Nat) : Int))).toNat = 0 by omega, Nat.pow_zero, Nat.div_one, Nat.pow_add, Nat.mul_comm (2 ^ N), ← Nat.mul_assoc]
    exact (Nat.mul_div_cancel _ (Nat.two_pow_pos N)).symm

/-- How many wholes are in it. -/
def qOf (b : Nat) : Nat := magM (rungOf b) / UU

theorem integral_is (b : Nat) (h : rungOf b < 9218868437227405312) : (FloatKind.f64.decode b).integral .zero = Ieee.Datum.number (negOf b) (qOf b) 0 := by
  obtain ⟨m, p, e, hm⟩ := decode_num b h
  rw [e]
  simp only [Ieee.Datum.integral]
  rw [cut_low, Nat.shiftLeft_eq, qOf, hm]
  have := cut_gen m p 1074
  unfold UU pw
  congr 1

theorem trunc_is (b : Nat) (h : rungOf b < 9218868437227405312) : FloatKind.f64.encode ((FloatKind.f64.decode b).integral .zero) = intW (negOf b) (qOf b) := by
  rw [integral_is b h]; rfl

theorem toInt_is (b : Nat) (h : rungOf b < 9218868437227405312) (hq : qOf b ≤ 9007199254740992) : floatToIntVal .f64 b .i64 = some (sgn (negOf b) (qOf b)) := by
  unfold floatToIntVal Ieee.Datum.toInt
  rw [integral_is b h]
  simp only
  have e : Ieee.signed (negOf b) (qOf b) 0 = sgn (negOf b) (qOf b) := by
    rw [Ieee.signed, sgn, Nat.shiftLeft_zero]
  rw [e]
  have h1 : IntKind.i64.min = -9223372036854775808 := by decide
  have h2 : IntKind.i64.max = 9223372036854775807 := by decide
  rw [h1, h2, if_pos]
  unfold sgn
  split <;> omega

theorem sgn_inj (s : Bool) (m n : Nat) : sgn s m = sgn s n ↔ m = n := by
  cases s <;> simp only [sgn, if_true, Bool.false_eq_true, if_false] <;> omega

theorem eq_fine (a b : Nat) (ha : fine a) (hb : fine b) : (Ieee.double.order a b == some .eq) = decide (valF a = valF b) := by
  rw [order_fine a b ha hb]
  rcases Int.lt_trichotomy (valF a) (valF b) with h | h | h
  · rw [cmp_lt h, decide_eq_false (by omega)]; rfl
  · rw [h, cmp_eq, decide_eq_true rfl]; rfl
  · rw [cmp_gt h, decide_eq_false (by omega)]; rfl
theorem ge_fine (a b : Nat) (ha : fine a) (hb : fine b) : (Ieee.double.order a b == some .gt || Ieee.double.order a b == some .eq) = decide (valF b ≤ valF a) := by
  rw [order_fine a b ha hb]
  rcases Int.lt_trichotomy (valF a) (valF b) with h | h | h
  · rw [cmp_lt h, decide_eq_false (by omega)]; rfl
  · rw [h, cmp_eq, decide_eq_true (Int.le_refl _)]; rfl
  · rw [cmp_gt h, decide_eq_true (by omega)]; rfl
theorem le_fine (a b : Nat) (ha : fine a) (hb : fine b) : (Ieee.double.order a b == some .lt || Ieee.double.order a b == some .eq) = decide (valF a ≤ valF b) := by
  rw [order_fine a b ha hb]
  rcases Int.lt_trichotomy (valF a) (valF b) with h | h | h
  · rw [cmp_lt h, decide_eq_true (by omega)]; rfl
  · rw [h, cmp_eq, decide_eq_true (Int.le_refl _)]; rfl
  · rw [cmp_gt h, decide_eq_false (by omega)]; rfl

/-- Is it whole? -/
def evenB (b : Nat) : Bool := magM (rungOf b) % UU == 0
/-- Is it written by its digits? -/
def wholeB (b : Nat) : Bool := decide (qOf b ≤ 999999999999999) && evenB b

theorem whole_test (b : Nat) (h : rungOf b < 9218868437227405312) (hq : qOf b ≤ 9007199254740992) : (Ieee.double.order b (intW (negOf b) (qOf b)) == some .eq) = evenB b := by
  rw [eq_fine _ _ (by unfold fine; omega) (intW_fine _ _ hq), intW_val _ _ hq, sgn_mul, valF, evenB, qOf]
  rw [Bool.eq_iff_iff, decide_eq_true_eq, beq_iff_eq, sgn_inj]
  have h1 := Nat.div_add_mod (magM (rungOf b)) (UU)
  have h2 := UU_pos
  rw [Nat.mul_comm] at h1
  revert h1 h2
  generalize magM (rungOf b) / UU * UU = x
  generalize magM (rungOf b) % UU = y
  intro h1 h2
  omega

theorem most_facts : intW true 999999999999999 = 14054727237768577016 ∧ intW false 999999999999999 = 4831355200913801208 := by decide +kernel

theorem qOf_lt {b n : Nat} (h : magM (rungOf b) ≤ n * UU) : qOf b ≤ n := by
  have := Nat.div_le_div_right (c := UU) h
  rw [Nat.mul_div_cancel _ (UU_pos)] at this
  exact this
theorem qOf_back {b : Nat} (h : evenB b = true) : magM (rungOf b) = qOf b * UU := by
  have h1 := Nat.div_add_mod (magM (rungOf b)) (UU)
  have h2 : magM (rungOf b) % UU = 0 := by simpa [evenB] using h
  rw [h2, Nat.add_zero, Nat.mul_comm] at h1
  exact h1.symm

/-- The three tests of 'whole'. -/
theorem whole_cases (b : Nat) (h : rungOf b < 9218868437227405312) :
    (Ieee.double.order b 14054727237768577016 == some .gt || Ieee.double.order b 14054727237768577016 == some .eq) = false ∧ wholeB b = false
    ∨ (Ieee.double.order b 14054727237768577016 == some .gt || Ieee.double.order b 14054727237768577016 == some .eq) = true ∧ (Ieee.double.order b 4831355200913801208 == some .lt || Ieee.double.order b 4831355200913801208 == some .eq) = false ∧ wholeB b = false
    ∨ (Ieee.double.order b 14054727237768577016 == some .gt || Ieee.double.order b 14054727237768577016 == some .eq) = true ∧ (Ieee.double.order b 4831355200913801208 == some .lt || Ieee.double.order b 4831355200913801208 == some .eq) = true ∧ qOf b ≤ 999999999999999 ∧ wholeB b = evenB b := by
  obtain ⟨m1, m2⟩ := most_facts
  have hf : fine b := by unfold fine; omega
  rw [← m1, ← m2, ge_fine _ _ hf (intW_fine _ _ (by decide)), le_fine _ _ hf (intW_fine _ _ (by decide)), intW_val _ _ (by decide), intW_val _ _ (by decide)]
  have hb := qOf_back (b := b)
  have hl := qOf_lt (b := b) (n := 999999999999999)
  have hp := two_pos
  unfold wholeB
  revert hb hl hp
  rw [valF]
  generalize evenB b = e
  generalize qOf b = q
  generalize magM (rungOf b) = M
  generalize UU = U
  generalize negOf b = s
  intro hb hl hp
  by_cases hM : M ≤ 999999999999999 * U
  · have h3 := hl hM
    refine Or.inr (Or.inr ⟨?_, ?_, h3, by rw [decide_eq_true h3, Bool.true_and]⟩)
    · rw [decide_eq_true_eq]; cases s <;> simp only [sgn, if_true, Bool.false_eq_true, if_false] <;> omega
    · rw [decide_eq_true_eq]; cases s <;> simp only [sgn, if_true, Bool.false_eq_true, if_false] <;> omega
  · have hw : (decide (q ≤ 999999999999999) && e) = false := by
      cases e
      · rw [Bool.and_false]
      · have h4 := hb rfl
        rw [Bool.and_true, decide_eq_false_iff_not]
        intro h5
        apply hM
        rw [h4]
        exact Nat.mul_le_mul_right _ h5
    cases s
    · refine Or.inr (Or.inl ⟨?_, ?_, hw⟩)
      · rw [decide_eq_true_eq]; simp [sgn]; omega
      · rw [decide_eq_false_iff_not]; simp [sgn]; omega
    · refine Or.inl ⟨?_, hw⟩
      rw [decide_eq_false_iff_not]; simp [sgn]; omega

/-- The whole number that a word stands for. -/
def nOf (b : Nat) : Int := sgn (negOf b) (qOf b)

/-- What is whole is the float of its number, but for the sign of nought. -/
theorem intF_back (b : Nat) (hb : b < 18446744073709551616) (hq : qOf b ≤ 9007199254740992) (he : evenB b = true) (h0 : rungOf b ≠ 0) : intF (nOf b) = b := by
  have hm := qOf_back he
  have hq0 : qOf b ≠ 0 := by
    intro hc
    rw [hc, Nat.zero_mul] at hm
    exact h0 (magM_zero.1 hm)
  have e1 : decide (nOf b < 0) = negOf b := by
    unfold nOf
    cases negOf b
    · rw [decide_eq_false_iff_not]; simp [sgn]
    · rw [decide_eq_true_eq]; simp only [sgn, if_true]; omega
  have e2 : (nOf b).natAbs = qOf b := by
    unfold nOf
    cases negOf b <;> simp [sgn]
  rw [intF_eq, e1, e2]
  obtain ⟨f1, f2, f3, f4⟩ := intW_facts (negOf b) (qOf b) hq
  rw [← hm] at f3
  have hr := magM_inj f3
  have key : ∀ x, x < 18446744073709551616 → x = (if negOf x then 9223372036854775808 else 0) + rungOf x := fun x hx => by
    unfold negOf rungOf
    by_cases hc : x / 9223372036854775808 % 2 = 1
    · rw [if_pos (by simpa using hc)]; omega
    · rw [if_neg (by simpa using hc)]; omega
  have k1 := key _ f4
  rw [f1, hr] at k1
  exact k1.trans (key b hb).symm

theorem ordK_of {x : Nat} (h : rungOf x < 9218868437227405312) : ordK x = if negOf x then -(rungOf x : Int) - 1 else rungOf x := by
  rw [ordK, if_neg (by omega)]
/-- The order of two whole numbers. -/
theorem ordK_int (a b : Int) (ha : -9007199254740992 ≤ a ∧ a ≤ 9007199254740992) (hb : -9007199254740992 ≤ b ∧ b ≤ 9007199254740992) : ordK (intF a) < ordK (intF b) ↔ a < b := by
  rw [intF_eq, intF_eq]
  obtain ⟨f1, f2, f3, _⟩ := intW_facts (decide (a < 0)) a.natAbs (by omega)
  obtain ⟨g1, g2, g3, _⟩ := intW_facts (decide (b < 0)) b.natAbs (by omega)
  rw [ordK_of f2, ordK_of g2, f1, g1]
  have k1 := @magM_le (rungOf (intW (decide (a < 0)) a.natAbs)) (rungOf (intW (decide (b < 0)) b.natAbs))
  have k2 := @magM_le (rungOf (intW (decide (b < 0)) b.natAbs)) (rungOf (intW (decide (a < 0)) a.natAbs))
  have k3 := @magM_zero (rungOf (intW (decide (a < 0)) a.natAbs))
  have k4 := @magM_zero (rungOf (intW (decide (b < 0)) b.natAbs))
  rw [f3, g3] at k1
  rw [f3, g3] at k2
  rw [f3] at k3
  rw [g3] at k4
  have hp := UU_pos
  have c1 : a.natAbs * UU ≤ b.natAbs * UU ↔ a.natAbs ≤ b.natAbs := Nat.mul_le_mul_right_iff hp
  have c2 : b.natAbs * UU ≤ a.natAbs * UU ↔ b.natAbs ≤ a.natAbs := Nat.mul_le_mul_right_iff hp
  have c3 : a.natAbs * UU = 0 ↔ a.natAbs = 0 := by rw [Nat.mul_eq_zero]; omega
  have c4 : b.natAbs * UU = 0 ↔ b.natAbs = 0 := by rw [Nat.mul_eq_zero]; omega
  rw [c1] at k1
  rw [c2] at k2
  rw [c3] at k3
  rw [c4] at k4
  clear c1 c2 c3 c4 f1 f3 g1 g3 hp
  revert f2 g2 k1 k2 k3 k4
  generalize rungOf (intW (decide (a < 0)) a.natAbs) = r
  generalize rungOf (intW (decide (b < 0)) b.natAbs) = q
  intro f2 g2 k1 k2 k3 k4
  by_cases h1 : a < 0
  · by_cases h2 : b < 0
    · rw [decide_eq_true h1, decide_eq_true h2, if_pos rfl, if_pos rfl]; omega
    · rw [decide_eq_true h1, decide_eq_false h2, if_pos rfl, if_neg (by decide)]; omega
  · by_cases h2 : b < 0
    · rw [decide_eq_false h1, decide_eq_true h2, if_neg (by decide), if_pos rfl]; omega
    · rw [decide_eq_false h1, decide_eq_false h2, if_neg (by decide), if_neg (by decide)]; omega

theorem intF_lt (a : Int) : intF a < 18446744073709551616 := by
  have h := Ieee.Format.nearest_lt Ieee.double (decide (a < 0)) a.natAbs 0
  have e : (2 : Nat) ^ Ieee.double.width = 18446744073709551616 := by decide
  rw [e] at h
  exact h
theorem intF_fine (a : Int) (ha : -9007199254740992 ≤ a ∧ a ≤ 9007199254740992) : fine (intF a) := by rw [intF_eq]; exact intW_fine _ _ (by omega)
end Go.Proofs.YtidjnfjpdnjogaaDoor
