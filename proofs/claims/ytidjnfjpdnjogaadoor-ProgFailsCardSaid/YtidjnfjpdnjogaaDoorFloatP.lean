/-
  The order of floats by their bits, the plain law: what is no NaN is ordered by sign and rung. Conditions: none.
-/
import Ieee.Arith
import GoSem.Core.Float
namespace Go.Proofs.YtidjnfjpdnjogaaDoor

/-- A word's lower 63 bits. -/
def rungOf (b : Nat) : Nat := b % 9223372036854775808
/-- Its sign. -/
def negOf (b : Nat) : Bool := b / 9223372036854775808 % 2 == 1
/-- A rung's magnitude, counted in units of the least one. -/
def magM (r : Nat) : Nat := if r < 4503599627370496 then r else (4503599627370496 + r % 4503599627370496) * 2 ^ (r / 4503599627370496 - 1)
def sgn (s : Bool) (m : Nat) : Int := if s then -(m : Int) else m
/-- The number that a word stands for (an infinity: the next one up). -/
def valF (b : Nat) : Int := sgn (negOf b) (magM (rungOf b))
/-- No NaN. -/
def fine (b : Nat) : Prop := rungOf b ≤ 9218868437227405312

theorem magM_hi {r : Nat} (h : ¬ r < 4503599627370496) : 4503599627370496 * 2 ^ (r / 4503599627370496 - 1) ≤ magM r ∧ magM r < 4503599627370496 * 2 ^ (r / 4503599627370496) := by
  have he : 1 ≤ r / 4503599627370496 := by omega
  obtain ⟨e, hE⟩ : ∃ e, r / 4503599627370496 = e + 1 := ⟨r / 4503599627370496 - 1, by omega⟩
  rw [magM, if_neg h, hE, Nat.add_sub_cancel, Nat.pow_succ]
  have hf : r % 4503599627370496 < 4503599627370496 := Nat.mod_lt _ (by decide)
  have hp : 0 < 2 ^ e := Nat.two_pow_pos e
  generalize r % 4503599627370496 = f at hf
  generalize 2 ^ e = p at hp
  constructor
  · exact Nat.mul_le_mul_right _ (by omega)
  · have : (4503599627370496 + f) * p < (4503599627370496 * 2) * p := Nat.mul_lt_mul_of_pos_right (by omega) hp
    rw [Nat.mul_comm p 2, ← Nat.mul_assoc]
    exact this

theorem magM_lt {r q : Nat} (h : r < q) : magM r < magM q := by
  by_cases hq : q < 4503599627370496
  · rw [magM, magM, if_pos hq, if_pos (by omega)]; exact h
  · have b1 := (magM_hi hq).1
    have hp : 0 < 2 ^ (q / 4503599627370496 - 1) := Nat.two_pow_pos _
    by_cases hr : r < 4503599627370496
    · refine Nat.lt_of_lt_of_le ?_ b1
      rw [magM, if_pos hr]
      have : 4503599627370496 * 1 ≤ 4503599627370496 * 2 ^ (q / 4503599627370496 - 1) := Nat.mul_le_mul_left _ hp
      omega
    · have b2 := (magM_hi hr).2
      by_cases he : r / 4503599627370496 = q / 4503599627370496
      · rw [magM, magM, if_neg hr, if_neg hq, he]
        exact Nat.mul_lt_mul_of_pos_right (by omega) hp
      · have hlt : r / 4503599627370496 ≤ q / 4503599627370496 - 1 := by omega
        have : 2 ^ (r / 4503599627370496) ≤ 2 ^ (q / 4503599627370496 - 1) := Nat.pow_le_pow_right (by decide) hlt
        have := Nat.mul_le_mul_left 4503599627370496 this
        omega

theorem magM_inj {r q : Nat} (h : magM r = magM q) : r = q := by
  rcases Nat.lt_trichotomy r q with h1 | h1 | h1
  · have := magM_lt h1; omega
  · exact h1
  · have := magM_lt h1; omega
theorem magM_le {r q : Nat} : magM r ≤ magM q ↔ r ≤ q := by
  constructor
  · intro h
    refine Classical.byContradiction fun hc => ?_
    have := magM_lt (Nat.lt_of_not_le hc)
    omega
  · intro h
    rcases Nat.lt_or_eq_of_le h with h1 | h1
    · exact Nat.le_of_lt (magM_lt h1)
    · rw [h1]; exact Nat.le_refl _
theorem magM_zero {r : Nat} : magM r = 0 ↔ r = 0 := by
  constructor
  · intro h; exact magM_inj (by rw [h]; rfl)
  · rintro rfl; rfl

theorem read_double (b : Nat) : Ieee.double.read b =
    if rungOf b < 4503599627370496 then .number (negOf b) (rungOf b) (-1074)
    else if rungOf b < 9218868437227405312 then .number (negOf b) (4503599627370496 + rungOf b % 4503599627370496) (-1074 + (rungOf b / 4503599627370496 - 1 : Nat))
    else if rungOf b = 9218868437227405312 then .infinity (negOf b)
    else .nan (negOf b) (rungOf b - 9218868437227405312) := rfl

theorem cmp_lt {x y : Int} (h : x < y) : compare x y = .lt := by
  show compareOfLessAndEq x y = _
  unfold compareOfLessAndEq
  rw [if_pos h]
theorem cmp_gt {x y : Int} (h : y < x) : compare x y = .gt := by
  show compareOfLessAndEq x y = _
  unfold compareOfLessAndEq
  rw [if_neg (by omega), if_neg (by omega)]
theorem cmp_eq (x : Int) : compare x x = .eq := by
  show compareOfLessAndEq x x = _
  unfold compareOfLessAndEq
  rw [if_neg (by omega), if_pos rfl]
theorem cmp_scale (x y : Int) (c : Nat) (hc : 0 < c) : compare (x * c) (y * c) = compare x y := by
  have hc' : (0 : Int) < (c : Int) := by omega
  rcases Int.lt_trichotomy x y with h | h | h
  · rw [cmp_lt h, cmp_lt (Int.mul_lt_mul_of_pos_right h hc')]
  · subst h; rw [cmp_eq, cmp_eq]
  · rw [cmp_gt h, cmp_gt (Int.mul_lt_mul_of_pos_right h hc')]

theorem sgn_mul (s : Bool) (m c : Nat) : sgn s m * (c : Int) = sgn s (m * c) := by
  cases s
  · simp [sgn]
  · simp [sgn, Int.neg_mul]

/-- Two finite numbers, their places counted from the least one. -/
theorem order_num (s t : Bool) (m n p q : Nat) : (Ieee.Datum.number s m (-1074 + (p : Int))).order (.number t n (-1074 + (q : Int))) = some (compare (sgn s (m * 2 ^ p)) (sgn t (n * 2 ^ q))) := by
  have h1 : (-1074 + (p : Int) - min (-1074 + (p : Int)) (-1074 + (q : Int))).toNat = p - min p q := by omega
  have h2 : (-1074 + (q : Int) - min (-1074 + (p : Int)) (-1074 + (q : Int))).toNat = q - min p q := by omega
  have e1 : m * 2 ^ p = m * 2 ^ (p - min p q) * 2 ^ min p q := by rw [Nat.mul_assoc, ← Nat.pow_add]; congr 2; omega
  have e2 : n * 2 ^ q = n * 2 ^ (q - min p q) * 2 ^ min p q := by rw [Nat.mul_assoc, ← Nat.pow_add]; congr 2; omega
  have e3 : ∀ (s : Bool) (m up : Nat), Ieee.signed s m up = sgn s (m * 2 ^ up) := fun s m up => by
    rw [Ieee.signed, sgn, Nat.shiftLeft_eq]
  simp only [Ieee.Datum.order]
  rw [h1, h2, e3, e3, e1, e2, ← sgn_mul s (m * 2 ^ (p - min p q)) (2 ^ min p q), ← sgn_mul t (n * 2 ^ (q - min p q)) (2 ^ min p q), cmp_scale _ _ _ (Nat.two_pow_pos _)]

/-- What is no NaN is ordered by sign and rung. -/
theorem order_fine (a b : Nat) (ha : fine a) (hb : fine b) : Ieee.double.order a b = some (compare (valF a) (valF b)) := by
  have key : ∀ r, r < 9218868437227405312 → ∃ m p : Nat, magM r = m * 2 ^ p ∧ ∀ s, (if r < 4503599627370496 then Ieee.Datum.number s r (-1074) else if r < 9218868437227405312 then .number s (4503599627370496 + r % 4503599627370496) (-1074 + (r / 4503599627370496 - 1 : Nat)) else if r = 9218868437227405312 then .infinity s else .nan s (r - 9218868437227405312)) = Ieee.Datum.number s m (-1074 + (p : Int)) := by
    intro r hr
    by_cases h : r < 4503599627370496
    · exact ⟨r, 0, by rw [magM, if_pos h]; simp, fun s => by rw [if_pos h]; simp⟩
    · exact ⟨_, _, by rw [magM, if_neg h], fun s => by rw [if_neg h, if_pos hr]⟩
  have hinf : ∀ s, (if 9218868437227405312 < 4503599627370496 then Ieee.Datum.number s 9218868437227405312 (-1074) else if 9218868437227405312 < 9218868437227405312 then .number s (4503599627370496 + 9218868437227405312 % 4503599627370496) (-1074 + (9218868437227405312 / 4503599627370496 - 1 : Nat)) else if 9218868437227405312 = 9218868437227405312 then .infinity s else .nan s (9218868437227405312 - 9218868437227405312)) = Ieee.Datum.infinity s := fun s => by
    rw [if_neg (by decide), if_neg (by decide), if_pos rfl]
  unfold fine at ha hb
  rw [Ieee.Format.order, read_double, read_double, valF, valF]
  generalize negOf a = s
  generalize negOf b = t
  generalize rungOf a = r at ha
  generalize rungOf b = q at hb
  by_cases h1 : r = 9218868437227405312
  · subst h1
    rw [hinf]
    by_cases h2 : q = 9218868437227405312
    · subst h2
      rw [hinf]
      have h0 := magM_lt (show 0 < 9218868437227405312 by decide)
      revert h0
      generalize magM 9218868437227405312 = M
      intro h0
      cases s <;> cases t
      · exact congrArg some (cmp_eq _).symm
      · exact congrArg some (cmp_gt (by simp only [sgn, if_true, Bool.false_eq_true, if_false]; omega)).symm
      · exact congrArg some (cmp_lt (by simp only [sgn, if_true, Bool.false_eq_true, if_false]; omega)).symm
      · exact congrArg some (cmp_eq _).symm
    · obtain ⟨n, j, hn, hd⟩ := key q (by omega)
      rw [hd t]
      have hlt := magM_lt (show q < 9218868437227405312 by omega)
      cases s
      · have h3 : sgn t (magM q) < sgn false (magM 9218868437227405312) := by cases t <;> simp only [sgn, if_true, Bool.false_eq_true, if_false] <;> omega
        simp only [Ieee.Datum.order, Bool.false_eq_true, if_false]
        rw [cmp_gt h3]
      · have h3 : sgn true (magM 9218868437227405312) < sgn t (magM q) := by cases t <;> simp only [sgn, if_true, Bool.false_eq_true, if_false] <;> omega
        simp only [Ieee.Datum.order, if_true]
        rw [cmp_lt h3]
  · obtain ⟨m, i, hm, hc⟩ := key r (by omega)
    rw [hc s]
    by_cases h2 : q = 9218868437227405312
    · subst h2
      rw [hinf]
      have hlt := magM_lt (show r < 9218868437227405312 by omega)
      cases t
      · have h3 : sgn s (magM r) < sgn false (magM 9218868437227405312) := by cases s <;> simp only [sgn, if_true, Bool.false_eq_true, if_false] <;> omega
        simp only [Ieee.Datum.order, Bool.false_eq_true, if_false]
        rw [cmp_lt h3]
      · have h3 : sgn true (magM 9218868437227405312) < sgn s (magM r) := by cases s <;> simp only [sgn, if_true, Bool.false_eq_true, if_false] <;> omega
        simp only [Ieee.Datum.order, if_true]
        rw [cmp_gt h3]
    · obtain ⟨n, j, hn, hd⟩ := key q (by omega)
      rw [hd t, order_num, hm, hn]

theorem order_nan (a b : Nat) (h : ¬ fine a ∨ ¬ fine b) : Ieee.double.order a b = none := by
  have key : ∀ r, ¬ r ≤ 9218868437227405312 → ∀ s, (if r < 4503599627370496 then Ieee.Datum.number s r (-1074) else if r < 9218868437227405312 then .number s (4503599627370496 + r % 4503599627370496) (-1074 + (r / 4503599627370496 - 1 : Nat)) else if r = 9218868437227405312 then .infinity s else .nan s (r - 9218868437227405312)) = Ieee.Datum.nan s (r - 9218868437227405312) := fun r hr s => by
    rw [if_neg (by omega), if_neg (by omega), if_neg (by omega)]
  rw [Ieee.Format.order, read_double, read_double]
  unfold fine at h
  rcases h with h | h
  · rw [key _ h]; rfl
  · rw [key _ h]
    generalize (if rungOf a < 4503599627370496 then Ieee.Datum.number (negOf a) (rungOf a) (-1074) else _) = d
    cases d <;> rfl
end Go.Proofs.YtidjnfjpdnjogaaDoor
