/-
  Digits as numbers: what codec.Number tells, and that it reads what codec.Digits tells. Conditions: none.
-/
import Derived.Lib.ItoaNum
import Derived.Lib.Strings
namespace Go.Proofs.YtidjnfjpdnjogaaDoor
open Go.Lib

/-- A decimal digit. -/
def isDig (c : UInt8) : Bool := decide (48 ≤ c.toNat) && decide (c.toNat ≤ 57)
/-- The number that digits make. -/
def numVal (l : List UInt8) : Nat := l.foldl (fun n c => 10 * n + (c.toNat - 48)) 0
/-- Is a sign ahead? -/
def minusOf (s : List UInt8) : Bool := hasPrefix s [45]
/-- What is behind the sign. -/
def bodyOf (s : List UInt8) : List UInt8 := trimPrefix s [45]
def numBad (d : List UInt8) (b : Bool) : Bool := d.length == 0 || decide (18 < d.length) || (d.getD 0 0 == 48 && (decide (1 < d.length) || b))
/-- What Number tells. -/
def numberOf (s : List UInt8) : Int × Int :=
  if numBad (bodyOf s) (minusOf s) then (0, 1) else if (bodyOf s).all isDig then ((if minusOf s then -(numVal (bodyOf s) : Int) else numVal (bodyOf s)), 0) else (0, 1)

theorem numVal_snoc (l : List UInt8) (c : UInt8) : numVal (l ++ [c]) = 10 * numVal l + (c.toNat - 48) := by simp [numVal]

theorem numFold_lt : ∀ (l : List UInt8) (a : Nat), l.all isDig = true → l.foldl (fun n c => 10 * n + (c.toNat - 48)) a < (a + 1) * 10 ^ l.length
  | [], a, _ => by simp
  | c :: l, a, h => by
    simp only [List.all_cons, Bool.and_eq_true] at h
    have h2 := h.1
    simp only [isDig, Bool.and_eq_true, decide_eq_true_eq] at h2
    rw [List.foldl_cons, List.length_cons, Nat.pow_succ, Nat.mul_comm (10 ^ l.length), ← Nat.mul_assoc]
    refine Nat.lt_of_lt_of_le (numFold_lt l _ h.2) (Nat.mul_le_mul_right _ ?_)
    omega
theorem numVal_lt (l : List UInt8) (h : l.all isDig = true) : numVal l < 10 ^ l.length := by
  have := numFold_lt l 0 h
  simpa [numVal] using this

theorem digit_of (k : Nat) (h : k < 10) : (UInt8.ofNat (48 + k)).toNat = 48 + k := by
  rw [UInt8.toNat_ofNat']; omega

theorem dec_all (u : Nat) : (decDigits u).all isDig = true := by
  induction u using Nat.strongRecOn with
  | _ u ih =>
    by_cases h : u < 10
    · rw [decDigits, dif_pos h]
      simp only [List.all_cons, List.all_nil, Bool.and_true, isDig, digit_of u h, Bool.and_eq_true, decide_eq_true_eq]; omega
    · rw [decDigits, dif_neg h, List.all_append, ih (u / 10) (by omega)]
      simp only [List.all_cons, List.all_nil, Bool.and_true, isDig, digit_of (u % 10) (by omega), Bool.true_and, Bool.and_eq_true, decide_eq_true_eq]; omega

theorem dec_val (u : Nat) : numVal (decDigits u) = u := by
  induction u using Nat.strongRecOn with
  | _ u ih =>
    by_cases h : u < 10
    · rw [decDigits, dif_pos h]
      simp only [numVal, List.foldl_cons, List.foldl_nil, digit_of u h]; omega
    · rw [decDigits, dif_neg h, numVal_snoc, ih (u / 10) (by omega), digit_of (u % 10) (by omega)]; omega

theorem dec_ne_nil (u : Nat) : decDigits u ≠ [] := by
  intro h
  have := decDigits_length u
  rw [h] at this
  have h1 := nDigits_pos u
  simp at this
  omega

theorem dec_head (u : Nat) (h0 : u ≠ 0) : ((decDigits u).getD 0 0).toNat ≠ 48 := by
  induction u using Nat.strongRecOn with
  | _ u ih =>
    by_cases h : u < 10
    · rw [decDigits, dif_pos h]
      simp only [List.getD_cons_zero, digit_of u h]; omega
    · rw [decDigits, dif_neg h]
      have := ih (u / 10) (by omega) (by omega)
      have hne := dec_ne_nil (u / 10)
      cases hd : decDigits (u / 10) with
      | nil => exact absurd hd hne
      | cons a t => rw [hd] at this; simpa using this

theorem nDigits_le (k u : Nat) (h : u < 10 ^ (k + 1)) : nDigits u ≤ k + 1 := by
  induction k generalizing u with
  | zero => rw [nDigits_small (by simpa using h)]; omega
  | succ k ih =>
    by_cases h9 : u < 10
    · rw [nDigits_small h9]; omega
    · rw [nDigits_big h9]
      have := ih (u / 10) (by rw [Nat.pow_succ] at h; omega)
      omega
theorem nDigits_gt (k u : Nat) (h : 10 ^ k ≤ u) : k + 1 ≤ nDigits u := by
  have := lt_pow_nDigits u
  have h2 : k < nDigits u := by
    refine Classical.byContradiction fun hc => ?_
    have : 10 ^ nDigits u ≤ 10 ^ k := Nat.pow_le_pow_right (by decide) (by omega)
    omega
  omega

theorem itoa_pos {n : Int} (h : ¬ n < 0) : itoa n = decDigits n.toNat := by rw [itoa, if_neg h]
theorem itoa_minus {n : Int} (h : n < 0) : itoa n = 45 :: decDigits n.natAbs := by rw [itoa, if_pos h]

theorem pre_cons (c : UInt8) (l : List UInt8) : hasPrefix (c :: l) [45] = (c == 45) := by
  show ((45 : UInt8) == c && List.isPrefixOf [] l) = _
  rw [List.isPrefixOf, Bool.and_true, Bool.beq_comm]
theorem pre_not (c : UInt8) (l : List UInt8) (h : c.toNat ≠ 45) : minusOf (c :: l) = false ∧ bodyOf (c :: l) = c :: l := by
  have h1 : hasPrefix (c :: l) [45] = false := by
    rw [pre_cons]; simp only [beq_eq_false_iff_ne, ne_eq]; rintro rfl; exact h rfl
  exact ⟨h1, by rw [bodyOf, trimPrefix, h1]; rfl⟩
theorem pre_is (l : List UInt8) : minusOf (45 :: l) = true ∧ bodyOf (45 :: l) = l := by
  have h1 : hasPrefix (45 :: l) [45] = true := by rw [pre_cons]; rfl
  exact ⟨h1, by rw [bodyOf, trimPrefix, h1]; rfl⟩

theorem dec_cons (u : Nat) : ∃ c l, decDigits u = c :: l ∧ isDig c = true := by
  have h := dec_all u
  cases hd : decDigits u with
  | nil => exact absurd hd (dec_ne_nil u)
  | cons c l => rw [hd] at h; simp at h; exact ⟨c, l, rfl, h.1⟩
theorem dec_pre (u : Nat) : minusOf (decDigits u) = false ∧ bodyOf (decDigits u) = decDigits u := by
  obtain ⟨c, l, h, hc⟩ := dec_cons u
  rw [h]
  exact pre_not c l (by simp [isDig] at hc; omega)

theorem numBad_dec (u : Nat) (b : Bool) (hu : u < 10 ^ 18) (hb : b = true → u ≠ 0) : numBad (decDigits u) b = false := by
  have h1 : 1 ≤ (decDigits u).length := by rw [decDigits_length]; exact nDigits_pos u
  have h2 : (decDigits u).length ≤ 18 := by rw [decDigits_length]; exact nDigits_le 17 u hu
  have h3 : ((decDigits u).length == 0) = false := by simp; exact dec_ne_nil u
  have h4 : decide (18 < (decDigits u).length) = false := by simp; omega
  rw [numBad, h3, h4, Bool.false_or, Bool.false_or]
  by_cases h0 : u = 0
  · subst h0
    have : b = false := by cases b <;> simp_all
    subst this
    have e : decDigits 0 = [48] := by rw [decDigits]; rfl
    rw [e]; rfl
  · have h5 : ((decDigits u).getD 0 0 == 48) = false := by
      simp only [beq_eq_false_iff_ne, ne_eq]
      intro h
      exact dec_head u h0 (by rw [h]; rfl)
    rw [h5, Bool.false_and]

/-- What is told is read. -/
theorem number_itoa (v : Int) (h0 : -999999999999999999 ≤ v) (h1 : v ≤ 999999999999999999) : numberOf (itoa v) = (v, 0) := by
  by_cases h : v < 0
  · rw [itoa_minus h, numberOf, (pre_is _).1, (pre_is _).2, numBad_dec _ true (by omega) (by omega), dec_all]
    simp only [if_true, dec_val]
    simp
    omega
  · rw [itoa_pos h, numberOf, (dec_pre _).1, (dec_pre _).2, numBad_dec _ false (by omega) (by simp), dec_all]
    simp only [if_true, dec_val]
    simp
    omega

theorem number_bad {s : List UInt8} (h : numBad (bodyOf s) (minusOf s) = true) : numberOf s = (0, 1) := by rw [numberOf, if_pos h]

theorem numBad_long {d : List UInt8} {b : Bool} (h : 18 < d.length) : numBad d b = true := by
  rw [numBad, decide_eq_true h]; simp

/-- What is too great is none, and has nineteen bytes at least. -/
theorem number_great (v : Int) (h : v < -999999999999999999 ∨ 999999999999999999 < v) : numberOf (itoa v) = (0, 1) ∧ 19 ≤ (itoa v).length := by
  by_cases hn : v < 0
  · have hl : 19 ≤ (decDigits v.natAbs).length := by rw [decDigits_length]; exact nDigits_gt 18 _ (by omega)
    rw [itoa_minus hn]
    refine ⟨number_bad ?_, by simp; omega⟩
    rw [(pre_is _).2]
    exact numBad_long (by omega)
  · have hl : 19 ≤ (decDigits v.toNat).length := by rw [decDigits_length]; exact nDigits_gt 18 _ (by omega)
    rw [itoa_pos hn]
    refine ⟨number_bad ?_, hl⟩
    rw [(dec_pre _).2]
    exact numBad_long (by omega)

theorem itoa_ne_nil (v : Int) : itoa v ≠ [] := by
  unfold itoa
  split
  · simp
  · exact dec_ne_nil _

/-- A nought ahead. -/
theorem number_nought (l : List UInt8) (h : l ≠ []) : numberOf (48 :: l) = (0, 1) := by
  refine number_bad ?_
  obtain ⟨h1, h2⟩ := pre_not 48 l (by decide)
  rw [h1, h2, numBad]
  have : 1 < (48 :: l).length := by
    cases l with
    | nil => exact absurd rfl h
    | cons _ _ => simp
  rw [decide_eq_true this]
  simp

theorem number_notdig {s : List UInt8} (h : (bodyOf s).all isDig = false) : numberOf s = (0, 1) := by
  rw [numberOf, h]
  split <;> simp

/-- Another sign ahead. -/
theorem number_plus (l : List UInt8) : numberOf (43 :: l) = (0, 1) := by
  refine number_notdig ?_
  rw [(pre_not 43 l (by decide)).2]
  rfl

theorem body_snoc (s : List UInt8) (c : UInt8) (h : s ≠ []) : bodyOf (s ++ [c]) = bodyOf s ++ [c] := by
  cases s with
  | nil => exact absurd rfl h
  | cons a t =>
    by_cases ha : a = 45
    · subst ha; rw [List.cons_append, (pre_is _).2, (pre_is _).2]
    · have : a.toNat ≠ 45 := fun hc => ha (UInt8.toNat_inj.1 hc)
      rw [List.cons_append, (pre_not a _ this).2, (pre_not a _ this).2]; rfl

/-- A blank behind. -/
theorem number_blank (s : List UInt8) (h : s ≠ []) : numberOf (s ++ [32]) = (0, 1) := by
  refine number_notdig ?_
  rw [body_snoc s 32 h, List.all_append]
  simp [isDig]
end Go.Proofs.YtidjnfjpdnjogaaDoor
