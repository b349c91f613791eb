/-
  M1: the texts NumP, NameP, FloatP, RealP, RealQ, RealF, RealH, RealN, RealW, SplP, one behind the other. Conditions: none.
-/
import Derived.Lib.ItoaNum
import Derived.Lib.Strings
import Derived.Lib.Bytealg
import Ieee.Arith
import GoSem.Core.Float
import GoSem.Op.Unary
import Derived.WalkKit
import Derived.Laws.Bits64b
import Derived.Laws.FloatArith
/-
  Digits as numbers: what codec.Number tells, and that it reads what codec.Digits tells. Conditions: none.
-/
namespace Go.Proofs.YtidjnfjpdnjogaaGreatDoor
open Go.Lib

/-- A decimal digit. -/
def isDig (c : UInt8) : Bool := decide (48 ≤ c.toNat) && decide (c.toNat ≤ 57)
/-- The number that digits make. -/
def numVal (l : List UInt8) : Nat := l.foldl (fun n c => 10 * n + (c.toNat - 48)) 0
/-- Is a sign ahead? -/
def minusOf (s : List UInt8) : Bool := hasPrefix s [45]
/-- What is behind the sign. -/
def bodyOf (s : List UInt8) : List UInt8 := trimPrefix s [45]
def numBad (d : List UInt8) (b : Bool) : Bool := d.length == 0 || decide (18 < d.length) || (d.getD 0 0 == 48 && (decide (1 < d.length) || b))
/-- What Number tells. -/
def numberOf (s : List UInt8) : Int × Int :=
  if numBad (bodyOf s) (minusOf s) then (0, 1) else if (bodyOf s).all isDig then ((if minusOf s then -(numVal (bodyOf s) : Int) else numVal (bodyOf s)), 0) else (0, 1)

theorem numVal_snoc (l : List UInt8) (c : UInt8) : numVal (l ++ [c]) = 10 * numVal l + (c.toNat - 48) := by simp [numVal]

theorem numFold_lt : ∀ (l : List UInt8) (a : Nat), l.all isDig = true → l.foldl (fun n c => 10 * n + (c.toNat - 48)) a < (a + 1) * 10 ^ l.length
  | [], a, _ => by simp
  | c :: l, a, h => by
    simp only [List.all_cons, Bool.and_eq_true] at h
    have h2 := h.1
    simp only [isDig, Bool.and_eq_true, decide_eq_true_eq] at h2
    rw [List.foldl_cons, List.length_cons, Nat.pow_succ, Nat.mul_comm (10 ^ l.length), ← Nat.mul_assoc]
    refine Nat.lt_of_lt_of_le (numFold_lt l _ h.2) (Nat.mul_le_mul_right _ ?_)
    omega
theorem numVal_lt (l : List UInt8) (h : l.all isDig = true) : numVal l < 10 ^ l.length := by
  have := numFold_lt l 0 h
  simpa [numVal] using this

theorem digit_of (k : Nat) (h : k < 10) : (UInt8.ofNat (48 + k)).toNat = 48 + k := by
  rw [UInt8.toNat_ofNat']; omega

theorem dec_all (u : Nat) : (decDigits u).all isDig = true := by
  induction u using Nat.strongRecOn with
  | _ u ih =>
    by_cases h : u < 10
    · rw [decDigits, dif_pos h]
      simp only [List.all_cons, List.all_nil, Bool.and_true, isDig, digit_of u h, Bool.and_eq_true, decide_eq_true_eq]; omega
    · rw [decDigits, dif_neg h, List.all_append, ih (u / 10) (by omega)]
      simp only [List.all_cons, List.all_nil, Bool.and_true, isDig, digit_of (u % 10) (by omega), Bool.true_and, Bool.and_eq_true, decide_eq_true_eq]; omega

theorem dec_val (u : Nat) : numVal (decDigits u) = u := by
  induction u using Nat.strongRecOn with
  | _ u ih =>
    by_cases h : u < 10
    · rw [decDigits, dif_pos h]
      simp only [numVal, List.foldl_cons, List.foldl_nil, digit_of u h]; omega
    · rw [decDigits, dif_neg h, numVal_snoc, ih (u / 10) (by omega), digit_of (u % 10) (by omega)]; omega

theorem dec_ne_nil (u : Nat) : decDigits u ≠ [] := by
  intro h
  have := decDigits_length u
  rw [h] at this
  have h1 := nDigits_pos u
  simp at this
  omega

theorem dec_head (u : Nat) (h0 : u ≠ 0) : ((decDigits u).getD 0 0).toNat ≠ 48 := by
  induction u using Nat.strongRecOn with
  | _ u ih =>
    by_cases h : u < 10
    · rw [decDigits, dif_pos h]
      simp only [List.getD_cons_zero, digit_of u h]; omega
    · rw [decDigits, dif_neg h]
      have := ih (u / 10) (by omega) (by omega)
      have hne := dec_ne_nil (u / 10)
      cases hd : decDigits (u / 10) with
      | nil => exact absurd hd hne
      | cons a t => rw [hd] at this; simpa using this

theorem nDigits_le (k u : Nat) (h : u < 10 ^ (k + 1)) : nDigits u ≤ k + 1 := by
  induction k generalizing u with
  | zero => rw [nDigits_small (by simpa using h)]; omega
  | succ k ih =>
    by_cases h9 : u < 10
    · rw [nDigits_small h9]; omega
    · rw [nDigits_big h9]
      have := ih (u / 10) (by rw [Nat.pow_succ] at h; omega)
      omega
theorem nDigits_gt (k u : Nat) (h : 10 ^ k ≤ u) : k + 1 ≤ nDigits u := by
  have := lt_pow_nDigits u
  have h2 : k < nDigits u := by
    refine Classical.byContradiction fun hc => ?_
    have : 10 ^ nDigits u ≤ 10 ^ k := Nat.pow_le_pow_right (by decide) (by omega)
    omega
  omega

theorem itoa_pos {n : Int} (h : ¬ n < 0) : itoa n = decDigits n.toNat := by rw [itoa, if_neg h]
theorem itoa_minus {n : Int} (h : n < 0) : itoa n = 45 :: decDigits n.natAbs := by rw [itoa, if_pos h]

theorem pre_cons (c : UInt8) (l : List UInt8) : hasPrefix (c :: l) [45] = (c == 45) := by
  show ((45 : UInt8) == c && List.isPrefixOf [] l) = _
  rw [List.isPrefixOf, Bool.and_true, Bool.beq_comm]
theorem pre_not (c : UInt8) (l : List UInt8) (h : c.toNat ≠ 45) : minusOf (c :: l) = false ∧ bodyOf (c :: l) = c :: l := by
  have h1 : hasPrefix (c :: l) [45] = false := by
    rw [pre_cons]; simp only [beq_eq_false_iff_ne, ne_eq]; rintro rfl; exact h rfl
  exact ⟨h1, by rw [bodyOf, trimPrefix, h1]; rfl⟩
theorem pre_is (l : List UInt8) : minusOf (45 :: l) = true ∧ bodyOf (45 :: l) = l := by
  have h1 : hasPrefix (45 :: l) [45] = true := by rw [pre_cons]; rfl
  exact ⟨h1, by rw [bodyOf, trimPrefix, h1]; rfl⟩

theorem dec_cons (u : Nat) : ∃ c l, decDigits u = c :: l ∧ isDig c = true := by
  have h := dec_all u
  cases hd : decDigits u with
  | nil => exact absurd hd (dec_ne_nil u)
  | cons c l => rw [hd] at h; simp at h; exact ⟨c, l, rfl, h.1⟩
theorem dec_pre (u : Nat) : minusOf (decDigits u) = false ∧ bodyOf (decDigits u) = decDigits u := by
  obtain ⟨c, l, h, hc⟩ := dec_cons u
  rw [h]
  exact pre_not c l (by simp [isDig] at hc; omega)

theorem numBad_dec (u : Nat) (b : Bool) (hu : u < 10 ^ 18) (hb : b = true → u ≠ 0) : numBad (decDigits u) b = false := by
  have h1 : 1 ≤ (decDigits u).length := by rw [decDigits_length]; exact nDigits_pos u
  have h2 : (decDigits u).length ≤ 18 := by rw [decDigits_length]; exact nDigits_le 17 u hu
  have h3 : ((decDigits u).length == 0) = false := by simp; exact dec_ne_nil u
  have h4 : decide (18 < (decDigits u).length) = false := by simp; omega
  rw [numBad, h3, h4, Bool.false_or, Bool.false_or]
  by_cases h0 : u = 0
  · subst h0
    have : b = false := by cases b <;> simp_all
    subst this
    have e : decDigits 0 = [48] := by rw [decDigits]; rfl
    rw [e]; rfl
  · have h5 : ((decDigits u).getD 0 0 == 48) = false := by
      simp only [beq_eq_false_iff_ne, ne_eq]
      intro h
      exact dec_head u h0 (by rw [h]; rfl)
    rw [h5, Bool.false_and]

/-- What is told is read. -/
theorem number_itoa (v : Int) (h0 : -999999999999999999 ≤ v) (h1 : v ≤ 999999999999999999) : numberOf (itoa v) = (v, 0) := by
  by_cases h : v < 0
  · rw [itoa_minus h, numberOf, (pre_is _).1, (pre_is _).2, numBad_dec _ true (by omega) (by omega), dec_all]
    simp only [if_true, dec_val]
    simp
    omega
  · rw [itoa_pos h, numberOf, (dec_pre _).1, (dec_pre _).2, numBad_dec _ false (by omega) (by simp), dec_all]
    simp only [if_true, dec_val]
    simp
    omega

theorem number_bad {s : List UInt8} (h : numBad (bodyOf s) (minusOf s) = true) : numberOf s = (0, 1) := by rw [numberOf, if_pos h]

theorem numBad_long {d : List UInt8} {b : Bool} (h : 18 < d.length) : numBad d b = true := by
  rw [numBad, decide_eq_true h]; simp

/-- What is too great is none, and has nineteen bytes at least. -/
theorem number_great (v : Int) (h : v < -999999999999999999 ∨ 999999999999999999 < v) : numberOf (itoa v) = (0, 1) ∧ 19 ≤ (itoa v).length := by
  by_cases hn : v < 0
  · have hl : 19 ≤ (decDigits v.natAbs).length := by rw [decDigits_length]; exact nDigits_gt 18 _ (by omega)
    rw [itoa_minus hn]
    refine ⟨number_bad ?_, by simp; omega⟩
    rw [(pre_is _).2]
    exact numBad_long (by omega)
  · have hl : 19 ≤ (decDigits v.toNat).length := by rw [decDigits_length]; exact nDigits_gt 18 _ (by omega)
    rw [itoa_pos hn]
    refine ⟨number_bad ?_, hl⟩
    rw [(dec_pre _).2]
    exact numBad_long (by omega)

theorem itoa_ne_nil (v : Int) : itoa v ≠ [] := by
  unfold itoa
  split
  · simp
  · exact dec_ne_nil _

/-- A nought ahead. -/
theorem number_nought (l : List UInt8) (h : l ≠ []) : numberOf (48 :: l) = (0, 1) := by
  refine number_bad ?_
  obtain ⟨h1, h2⟩ := pre_not 48 l (by decide)
  rw [h1, h2, numBad]
  have : 1 < (48 :: l).length := by
    cases l with
    | nil => exact absurd rfl h
    | cons _ _ => simp
  rw [decide_eq_true this]
  simp

theorem number_notdig {s : List UInt8} (h : (bodyOf s).all isDig = false) : numberOf s = (0, 1) := by
  rw [numberOf, h]
  split <;> simp

/-- Another sign ahead. -/
theorem number_plus (l : List UInt8) : numberOf (43 :: l) = (0, 1) := by
  refine number_notdig ?_
  rw [(pre_not 43 l (by decide)).2]
  rfl

theorem body_snoc (s : List UInt8) (c : UInt8) (h : s ≠ []) : bodyOf (s ++ [c]) = bodyOf s ++ [c] := by
  cases s with
  | nil => exact absurd rfl h
  | cons a t =>
    by_cases ha : a = 45
    · subst ha; rw [List.cons_append, (pre_is _).2, (pre_is _).2]
    · have : a.toNat ≠ 45 := fun hc => ha (UInt8.toNat_inj.1 hc)
      rw [List.cons_append, (pre_not a _ this).2, (pre_not a _ this).2]; rfl

/-- A blank behind. -/
theorem number_blank (s : List UInt8) (h : s ≠ []) : numberOf (s ++ [32]) = (0, 1) := by
  refine number_notdig ?_
  rw [body_snoc s 32 h, List.all_append]
  simp [isDig]
end Go.Proofs.YtidjnfjpdnjogaaGreatDoor

/-
  Names as plain texts: what package name tells, and the laws' plain sides. Conditions: none.
-/
namespace Go.Proofs.YtidjnfjpdnjogaaGreatDoor
open Go.Lib

/-- A byte that may stand in a name. -/
def nameByte (c : UInt8) : Bool := decide (33 ≤ c.toNat) && decide (c.toNat ≤ 126) && !(c.toNat == 64)
/-- Is it a stream's name? -/
def streamB (l : List UInt8) : Bool := decide (1 ≤ l.length) && decide (l.length ≤ 60) && l.all nameByte
def systemB (l : List UInt8) : Bool := hasPrefix l [36]
/-- What stands ahead of the first byte b, what behind it, and whether it is there. -/
def cutB (b : UInt8) : List UInt8 → List UInt8 × List UInt8 × Bool
  | [] => ([], [], false)
  | c :: t => if c = b then ([], t, true) else (c :: (cutB b t).1, (cutB b t).2.1, (cutB b t).2.2)
def categoryOf (l : List UInt8) : List UInt8 × Bool :=
  if (cutB 45 l).2.2 && !(cutB 45 l).1.isEmpty && streamB l && !systemB l then ((cutB 45 l).1, true) else ([], false)
def hashStep (x : Nat) (c : UInt8) : Nat := ((x ^^^ c.toNat) * 16777619) % 4294967296
def hashX (l : List UInt8) : Nat := l.foldl hashStep 2166136261
def linkOf (v : Int) (l : List UInt8) : List UInt8 := itoa v ++ 64 :: l
def unlinkOf (l : List UInt8) : Int × List UInt8 × Int :=
  if (cutB 64 l).2.2 && (numberOf (cutB 64 l).1).2 == 0 && decide (0 ≤ (numberOf (cutB 64 l).1).1) && streamB (cutB 64 l).2.1 then ((numberOf (cutB 64 l).1).1, (cutB 64 l).2.1, 0) else (0, [], 6)

theorem cutB_not (b : UInt8) : ∀ l, b ∉ l → cutB b l = (l, [], false)
  | [], _ => rfl
  | c :: t, h => by
    have h1 : ¬ c = b := fun e => h (by rw [e]; simp)
    have h2 : b ∉ t := fun e => h (by simp [e])
    rw [cutB, if_neg h1, cutB_not b t h2]
theorem cutB_at (b : UInt8) : ∀ l r, b ∉ l → cutB b (l ++ b :: r) = (l, r, true)
  | [], r, _ => by simp [cutB]
  | c :: t, r, h => by
    have h1 : ¬ c = b := fun e => h (by rw [e]; simp)
    have h2 : b ∉ t := fun e => h (by simp [e])
    rw [List.cons_append, cutB, if_neg h1, cutB_at b t r h2]

theorem isDig_not {c b : UInt8} (h : isDig c = true) (hb : ¬ (48 ≤ b.toNat ∧ b.toNat ≤ 57)) : c ≠ b := by
  rintro rfl
  simp [isDig] at h
  exact hb h
theorem dec_no (u : Nat) (b : UInt8) (hb : ¬ (48 ≤ b.toNat ∧ b.toNat ≤ 57)) : b ∉ decDigits u := by
  intro h
  have := List.all_eq_true.1 (dec_all u) b h
  exact isDig_not this hb rfl
theorem itoa_no (v : Int) : (64 : UInt8) ∉ itoa v := by
  by_cases h : v < 0
  · rw [itoa_minus h]
    intro hc
    rcases List.mem_cons.1 hc with h1 | h1
    · exact absurd h1 (by decide)
    · exact dec_no _ 64 (by decide) h1
  · rw [itoa_pos h]; exact dec_no _ 64 (by decide)

theorem link_cut (v : Int) (l : List UInt8) : cutB 64 (linkOf v l) = (itoa v, l, true) := cutB_at 64 _ _ (itoa_no v)

/-- A link leads to where it was made for. -/
theorem unlink_link (v : Int) (l : List UInt8) (h0 : 0 ≤ v) (h1 : v ≤ 999999999999999999) (hs : streamB l = true) : unlinkOf (linkOf v l) = (v, l, 0) := by
  rw [unlinkOf, link_cut]
  simp only []
  rw [number_itoa v (by omega) h1, hs]
  simp [h0]

theorem itoa_inj {a b : Int} (ha : 0 ≤ a) (hb : 0 ≤ b) (h : itoa a = itoa b) : a = b := by
  rw [itoa_pos (by omega), itoa_pos (by omega)] at h
  have := congrArg numVal h
  rw [dec_val, dec_val] at this
  omega
theorem link_inj {a b : Int} {s t : List UInt8} (ha : 0 ≤ a) (hb : 0 ≤ b) : linkOf a s = linkOf b t ↔ a = b ∧ s = t := by
  constructor
  · intro h
    have h2 := congrArg (cutB 64) h
    rw [link_cut, link_cut] at h2
    simp only [Prod.mk.injEq, and_true] at h2
    exact ⟨itoa_inj ha hb h2.1, h2.2⟩
  · rintro ⟨rfl, rfl⟩; rfl
theorem link_no_stream (v : Int) (l : List UInt8) : streamB (linkOf v l) = false := by
  have : (linkOf v l).all nameByte = false := by
    rw [List.all_eq_false]
    exact ⟨64, by simp [linkOf], by decide⟩
  rw [streamB, this, Bool.and_false]

/-- Names of one category have that category. -/
theorem category_of (c r : List UInt8) (h1 : c ≠ []) (h2 : (45 : UInt8) ∉ c) (h3 : systemB c = false) : categoryOf (c ++ 45 :: r) = if streamB (c ++ 45 :: r) then (c, true) else ([], false) := by
  have h4 : systemB (c ++ 45 :: r) = false := by
    cases c with
    | nil => exact absurd rfl h1
    | cons a t =>
      simp only [systemB, hasPrefix, List.isPrefixOf, Bool.and_true, List.cons_append] at h3 ⊢
      exact h3
  have h5 : c.isEmpty = false := by cases c <;> simp_all
  rw [categoryOf, cutB_at 45 c r h2]
  simp only [h5, h4]
  cases streamB (c ++ 45 :: r) <;> simp

theorem hashX_snoc (l : List UInt8) (c : UInt8) : hashX (l ++ [c]) = hashStep (hashX l) c := by
  unfold hashX
  rw [List.foldl_append, List.foldl_cons, List.foldl_nil]
theorem hashStep_lt (x : Nat) (c : UInt8) : hashStep x c < 4294967296 := Nat.mod_lt _ (by decide)
theorem hashFold_lt : ∀ (l : List UInt8) (x : Nat), x < 4294967296 → l.foldl hashStep x < 4294967296
  | [], _, h => h
  | c :: t, x, _ => by rw [List.foldl_cons]; exact hashFold_lt t _ (hashStep_lt x c)
theorem hashX_lt (l : List UInt8) : hashX l < 4294967296 := hashFold_lt l _ (by decide)

theorem stream_put (s : List UInt8) (c : UInt8) (k : Nat) :
    streamB (s.take k ++ c :: s.drop k) = ((s.isEmpty || streamB s) && nameByte c && decide (s.length + 1 ≤ 60)) := by
  have hall : (s.take k ++ c :: s.drop k).all nameByte = (s.all nameByte && nameByte c) := by
    have : s.all nameByte = ((s.take k).all nameByte && (s.drop k).all nameByte) := by
      rw [← List.all_append, List.take_append_drop]
    rw [List.all_append, List.all_cons, this]
    cases (s.take k).all nameByte <;> cases nameByte c <;> cases (s.drop k).all nameByte <;> rfl
  have hlen : (s.take k ++ c :: s.drop k).length = s.length + 1 := by
    have : (s.take k).length + (s.drop k).length = s.length := by rw [← List.length_append, List.take_append_drop]
    rw [List.length_append, List.length_cons]; omega
  rw [streamB, hall, hlen, streamB]
  cases s with
  | nil => cases nameByte c <;> simp
  | cons a t =>
    cases nameByte c <;> cases (a :: t).all nameByte <;> simp
    intro h
    omega

theorem stream_dollar (s : List UInt8) (h : s ≠ []) : streamB (36 :: s) = (streamB s && decide (s.length < 60)) := by
  have h1 : nameByte 36 = true := by decide
  cases s with
  | nil => exact absurd rfl h
  | cons a t =>
    rw [streamB, streamB, List.all_cons, h1, Bool.true_and]
    cases (a :: t).all nameByte
    · simp
    · rw [Bool.eq_iff_iff]
      simp
      omega
theorem system_dollar (s : List UInt8) : systemB (36 :: s) = true := by simp [systemB, hasPrefix, List.isPrefixOf]
theorem stream_nil : streamB [] = false := rfl
end Go.Proofs.YtidjnfjpdnjogaaGreatDoor

/-
  The order of floats by their bits, the plain law: what is no NaN is ordered by sign and rung. Conditions: none.
-/
namespace Go.Proofs.YtidjnfjpdnjogaaGreatDoor

/-- A word's lower 63 bits. -/
def rungOf (b : Nat) : Nat := b % 9223372036854775808
/-- Its sign. -/
def negOf (b : Nat) : Bool := b / 9223372036854775808 % 2 == 1
/-- A rung's magnitude, counted in units of the least one. -/
def magM (r : Nat) : Nat := if r < 4503599627370496 then r else (4503599627370496 + r % 4503599627370496) * 2 ^ (r / 4503599627370496 - 1)
def sgn (s : Bool) (m : Nat) : Int := if s then -(m : Int) else m
/-- The number that a word stands for (an infinity: the next one up). -/
def valF (b : Nat) : Int := sgn (negOf b) (magM (rungOf b))
/-- No NaN. -/
def fine (b : Nat) : Prop := rungOf b ≤ 9218868437227405312

theorem magM_hi {r : Nat} (h : ¬ r < 4503599627370496) : 4503599627370496 * 2 ^ (r / 4503599627370496 - 1) ≤ magM r ∧ magM r < 4503599627370496 * 2 ^ (r / 4503599627370496) := by
  have he : 1 ≤ r / 4503599627370496 := by omega
  obtain ⟨e, hE⟩ : ∃ e, r / 4503599627370496 = e + 1 := ⟨r / 4503599627370496 - 1, by omega⟩
  rw [magM, if_neg h, hE, Nat.add_sub_cancel, Nat.pow_succ]
  have hf : r % 4503599627370496 < 4503599627370496 := Nat.mod_lt _ (by decide)
  have hp : 0 < 2 ^ e := Nat.two_pow_pos e
  generalize r % 4503599627370496 = f at hf
  generalize 2 ^ e = p at hp
  constructor
  · exact Nat.mul_le_mul_right _ (by omega)
  · have : (4503599627370496 + f) * p < (4503599627370496 * 2) * p := Nat.mul_lt_mul_of_pos_right (by omega) hp
    rw [Nat.mul_comm p 2, ← Nat.mul_assoc]
    exact this

theorem magM_lt {r q : Nat} (h : r < q) : magM r < magM q := by
  by_cases hq : q < 4503599627370496
  · rw [magM, magM, if_pos hq, if_pos (by omega)]; exact h
  · have b1 := (magM_hi hq).1
    have hp : 0 < 2 ^ (q / 4503599627370496 - 1) := Nat.two_pow_pos _
    by_cases hr : r < 4503599627370496
    · refine Nat.lt_of_lt_of_le ?_ b1
      rw [magM, if_pos hr]
      have : 4503599627370496 * 1 ≤ 4503599627370496 * 2 ^ (q / 4503599627370496 - 1) := Nat.mul_le_mul_left _ hp
      omega
    · have b2 := (magM_hi hr).2
      by_cases he : r / 4503599627370496 = q / 4503599627370496
      · rw [magM, magM, if_neg hr, if_neg hq, he]
        exact Nat.mul_lt_mul_of_pos_right (by omega) hp
      · have hlt : r / 4503599627370496 ≤ q / 4503599627370496 - 1 := by omega
        have : 2 ^ (r / 4503599627370496) ≤ 2 ^ (q / 4503599627370496 - 1) := Nat.pow_le_pow_right (by decide) hlt
        have := Nat.mul_le_mul_left 4503599627370496 this
        omega

theorem magM_inj {r q : Nat} (h : magM r = magM q) : r = q := by
  rcases Nat.lt_trichotomy r q with h1 | h1 | h1
  · have := magM_lt h1; omega
  · exact h1
  · have := magM_lt h1; omega
theorem magM_le {r q : Nat} : magM r ≤ magM q ↔ r ≤ q := by
  constructor
  · intro h
    refine Classical.byContradiction fun hc => ?_
    have := magM_lt (Nat.lt_of_not_le hc)
    omega
  · intro h
    rcases Nat.lt_or_eq_of_le h with h1 | h1
    · exact Nat.le_of_lt (magM_lt h1)
    · rw [h1]; exact Nat.le_refl _
theorem magM_zero {r : Nat} : magM r = 0 ↔ r = 0 := by
  constructor
  · intro h; exact magM_inj (by rw [h]; rfl)
  · rintro rfl; rfl

theorem read_double (b : Nat) : Ieee.double.read b =
    if rungOf b < 4503599627370496 then .number (negOf b) (rungOf b) (-1074)
    else if rungOf b < 9218868437227405312 then .number (negOf b) (4503599627370496 + rungOf b % 4503599627370496) (-1074 + (rungOf b / 4503599627370496 - 1 : Nat))
    else if rungOf b = 9218868437227405312 then .infinity (negOf b)
    else .nan (negOf b) (rungOf b - 9218868437227405312) := rfl

theorem cmp_lt {x y : Int} (h : x < y) : compare x y = .lt := by
  show compareOfLessAndEq x y = _
  unfold compareOfLessAndEq
  rw [if_pos h]
theorem cmp_gt {x y : Int} (h : y < x) : compare x y = .gt := by
  show compareOfLessAndEq x y = _
  unfold compareOfLessAndEq
  rw [if_neg (by omega), if_neg (by omega)]
theorem cmp_eq (x : Int) : compare x x = .eq := by
  show compareOfLessAndEq x x = _
  unfold compareOfLessAndEq
  rw [if_neg (by omega), if_pos rfl]
theorem cmp_scale (x y : Int) (c : Nat) (hc : 0 < c) : compare (x * c) (y * c) = compare x y := by
  have hc' : (0 : Int) < (c : Int) := by omega
  rcases Int.lt_trichotomy x y with h | h | h
  · rw [cmp_lt h, cmp_lt (Int.mul_lt_mul_of_pos_right h hc')]
  · subst h; rw [cmp_eq, cmp_eq]
  · rw [cmp_gt h, cmp_gt (Int.mul_lt_mul_of_pos_right h hc')]

theorem sgn_mul (s : Bool) (m c : Nat) : sgn s m * (c : Int) = sgn s (m * c) := by
  cases s
  · simp [sgn]
  · simp [sgn, Int.neg_mul]

/-- Two finite numbers, their places counted from the least one. -/
theorem order_num (s t : Bool) (m n p q : Nat) : (Ieee.Datum.number s m (-1074 + (p : Int))).order (.number t n (-1074 + (q : Int))) = some (compare (sgn s (m * 2 ^ p)) (sgn t (n * 2 ^ q))) := by
  have h1 : (-1074 + (p : Int) - min (-1074 + (p : Int)) (-1074 + (q : Int))).toNat = p - min p q := by omega
  have h2 : (-1074 + (q : Int) - min (-1074 + (p : Int)) (-1074 + (q : Int))).toNat = q - min p q := by omega
  have e1 : m * 2 ^ p = m * 2 ^ (p - min p q) * 2 ^ min p q := by rw [Nat.mul_assoc, ← Nat.pow_add]; congr 2; omega
  have e2 : n * 2 ^ q = n * 2 ^ (q - min p q) * 2 ^ min p q := by rw [Nat.mul_assoc, ← Nat.pow_add]; congr 2; omega
  have e3 : ∀ (s : Bool) (m up : Nat), Ieee.signed s m up = sgn s (m * 2 ^ up) := fun s m up => by
    rw [Ieee.signed, sgn, Nat.shiftLeft_eq]
  simp only [Ieee.Datum.order]
  rw [h1, h2, e3, e3, e1, e2, ← sgn_mul s (m * 2 ^ (p - min p q)) (2 ^ min p q), ← sgn_mul t (n * 2 ^ (q - min p q)) (2 ^ min p q), cmp_scale _ _ _ (Nat.two_pow_pos _)]

/-- What is no NaN is ordered by sign and rung. -/
theorem order_fine (a b : Nat) (ha : fine a) (hb : fine b) : Ieee.double.order a b = some (compare (valF a) (valF b)) := by
  have key : ∀ r, r < 9218868437227405312 → ∃ m p : Nat, magM r = m * 2 ^ p ∧ ∀ s, (if r < 4503599627370496 then Ieee.Datum.number s r (-1074) else if r < 9218868437227405312 then .number s (4503599627370496 + r % 4503599627370496) (-1074 + (r / 4503599627370496 - 1 : Nat)) else if r = 9218868437227405312 then .infinity s else .nan s (r - 9218868437227405312)) = Ieee.Datum.number s m (-1074 + (p : Int)) := by
    intro r hr
    by_cases h : r < 4503599627370496
    · exact ⟨r, 0, by rw [magM, if_pos h]; simp, fun s => by rw [if_pos h]; simp⟩
    · exact ⟨_, _, by rw [magM, if_neg h], fun s => by rw [if_neg h, if_pos hr]⟩
  have hinf : ∀ s, (if 9218868437227405312 < 4503599627370496 then Ieee.Datum.number s 9218868437227405312 (-1074) else if 9218868437227405312 < 9218868437227405312 then .number s (4503599627370496 + 9218868437227405312 % 4503599627370496) (-1074 + (9218868437227405312 / 4503599627370496 - 1 : Nat)) else if 9218868437227405312 = 9218868437227405312 then .infinity s else .nan s (9218868437227405312 - 9218868437227405312)) = Ieee.Datum.infinity s := fun s => by
    rw [if_neg (by decide), if_neg (by decide), if_pos rfl]
  unfold fine at ha hb
  rw [Ieee.Format.order, read_double, read_double, valF, valF]
  generalize negOf a = s
  generalize negOf b = t
  generalize rungOf a = r at ha
  generalize rungOf b = q at hb
  by_cases h1 : r = 9218868437227405312
  · subst h1
    rw [hinf]
    by_cases h2 : q = 9218868437227405312
    · subst h2
      rw [hinf]
      have h0 := magM_lt (show 0 < 9218868437227405312 by decide)
      revert h0
      generalize magM 9218868437227405312 = M
      intro h0
      cases s <;> cases t
      · exact congrArg some (cmp_eq _).symm
      · exact congrArg some (cmp_gt (by simp only [sgn, if_true, Bool.false_eq_true, if_false]; omega)).symm
      · exact congrArg some (cmp_lt (by simp only [sgn, if_true, Bool.false_eq_true, if_false]; omega)).symm
      · exact congrArg some (cmp_eq _).symm
    · obtain ⟨n, j, hn, hd⟩ := key q (by omega)
      rw [hd t]
      have hlt := magM_lt (show q < 9218868437227405312 by omega)
      cases s
      · have h3 : sgn t (magM q) < sgn false (magM 9218868437227405312) := by cases t <;> simp only [sgn, if_true, Bool.false_eq_true, if_false] <;> omega
        simp only [Ieee.Datum.order, Bool.false_eq_true, if_false]
        rw [cmp_gt h3]
      · have h3 : sgn true (magM 9218868437227405312) < sgn t (magM q) := by cases t <;> simp only [sgn, if_true, Bool.false_eq_true, if_false] <;> omega
        simp only [Ieee.Datum.order, if_true]
        rw [cmp_lt h3]
  · obtain ⟨m, i, hm, hc⟩ := key r (by omega)
    rw [hc s]
    by_cases h2 : q = 9218868437227405312
    · subst h2
      rw [hinf]
      have hlt := magM_lt (show r < 9218868437227405312 by omega)
      cases t
      · have h3 : sgn s (magM r) < sgn false (magM 9218868437227405312) := by cases s <;> simp only [sgn, if_true, Bool.false_eq_true, if_false] <;> omega
        simp only [Ieee.Datum.order, Bool.false_eq_true, if_false]
        rw [cmp_lt h3]
      · have h3 : sgn true (magM 9218868437227405312) < sgn s (magM r) := by cases s <;> simp only [sgn, if_true, Bool.false_eq_true, if_false] <;> omega
        simp only [Ieee.Datum.order, if_true]
        rw [cmp_gt h3]
    · obtain ⟨n, j, hn, hd⟩ := key q (by omega)
      rw [hd t, order_num, hm, hn]

theorem order_nan (a b : Nat) (h : ¬ fine a ∨ ¬ fine b) : Ieee.double.order a b = none := by
  have key : ∀ r, ¬ r ≤ 9218868437227405312 → ∀ s, (if r < 4503599627370496 then Ieee.Datum.number s r (-1074) else if r < 9218868437227405312 then .number s (4503599627370496 + r % 4503599627370496) (-1074 + (r / 4503599627370496 - 1 : Nat)) else if r = 9218868437227405312 then .infinity s else .nan s (r - 9218868437227405312)) = Ieee.Datum.nan s (r - 9218868437227405312) := fun r hr s => by
    rw [if_neg (by omega), if_neg (by omega), if_neg (by omega)]
  rw [Ieee.Format.order, read_double, read_double]
  unfold fine at h
  rcases h with h | h
  · rw [key _ h]; rfl
  · rw [key _ h]
    generalize (if rungOf a < 4503599627370496 then Ieee.Datum.number (negOf a) (rungOf a) (-1074) else _) = d
    cases d <;> rfl
end Go.Proofs.YtidjnfjpdnjogaaGreatDoor

/-
  The one order of all floats, the plain law: classes, ranks, and the key that orders them. Conditions: none.
-/
namespace Go.Proofs.YtidjnfjpdnjogaaGreatDoor

theorem rungOf_lt (b : Nat) : rungOf b < 9223372036854775808 := Nat.mod_lt _ (by decide)

/-- The class of a word's number. -/
def classB (b : Nat) : Nat :=
  if 9218868437227405312 < rungOf b then 0 else if rungOf b = 9218868437227405312 then (if negOf b then 1 else 6) else if rungOf b = 0 then (if negOf b then 3 else 4) else if negOf b then 2 else 5
def rankB (b : Nat) : Nat := if classB b = 0 then 7 else classB b
def ltB (a b : Nat) : Bool := Ieee.double.order a b == some .lt
def lessB (a b : Nat) : Bool := decide (rankB a < rankB b) || (rankB a == rankB b && ltB a b)
/-- The key: the noughts stand beside each other, no number behind all. -/
def ordK (b : Nat) : Int := if 9218868437227405312 < rungOf b then 100000000000000000000 else if negOf b then -(rungOf b : Int) - 1 else rungOf b
/-- Sign and rung. -/
def svB (b : Nat) : Int := sgn (negOf b) (rungOf b)

theorem val_lt (a b : Nat) : valF a < valF b ↔ svB a < svB b := by
  unfold valF svB
  generalize negOf a = s
  generalize negOf b = t
  generalize rungOf a = r
  generalize rungOf b = q
  have h1 := @magM_le r q
  have h2 := @magM_le q r
  have h3 := @magM_zero r
  have h4 := @magM_zero q
  revert h1 h2 h3 h4
  generalize magM r = m
  generalize magM q = n
  intro h1 h2 h3 h4
  cases s <;> cases t <;> simp only [sgn, if_true, Bool.false_eq_true, if_false] <;> omega

theorem lt_fine (a b : Nat) (ha : fine a) (hb : fine b) : ltB a b = decide (svB a < svB b) := by
  rw [ltB, order_fine a b ha hb]
  rcases Int.lt_trichotomy (valF a) (valF b) with h | h | h
  · rw [cmp_lt h, decide_eq_true ((val_lt a b).1 h)]; rfl
  · rw [h, cmp_eq, decide_eq_false (fun hc => by have := (val_lt a b).2 hc; omega)]; rfl
  · rw [cmp_gt h, decide_eq_false (fun hc => by have := (val_lt a b).2 hc; omega)]; rfl
theorem lt_nan (a b : Nat) (h : ¬ fine a ∨ ¬ fine b) : ltB a b = false := by rw [ltB, order_nan a b h]; rfl

theorem less_ord (a b : Nat) : lessB a b = decide (ordK a < ordK b) := by
  have hf := lt_fine a b
  have hn := lt_nan a b
  have hra := rungOf_lt a
  have hrb := rungOf_lt b
  unfold lessB rankB classB ordK
  unfold fine at hf hn
  unfold svB at hf
  revert hf hn hra hrb
  generalize ltB a b = l
  generalize rungOf a = r
  generalize rungOf b = q
  generalize negOf a = s
  generalize negOf b = t
  intro hf hn hra hrb
  by_cases a1 : 9218868437227405312 < r
  · have hl := hn (Or.inl (by omega))
    subst hl
    by_cases b1 : 9218868437227405312 < q
    · simp [a1, b1]
    · by_cases b2 : q = 9218868437227405312
      · cases t <;> simp [a1, b2] <;> omega
      · by_cases b3 : q = 0
        · cases t <;> simp [a1, b3] <;> omega
        · cases t <;> simp [a1, b1, b2, b3] <;> omega
  · by_cases b1 : 9218868437227405312 < q
    · have hl := hn (Or.inr (by omega))
      subst hl
      by_cases a2 : r = 9218868437227405312
      · cases s <;> simp [b1, a2] <;> omega
      · by_cases a3 : r = 0
        · cases s <;> simp [b1, a3] <;> omega
        · cases s <;> simp [b1, a1, a2, a3] <;> omega
    · have hl := hf (by omega) (by omega)
      subst hl
      by_cases a2 : r = 9218868437227405312
      · by_cases b2 : q = 9218868437227405312
        · cases s <;> cases t <;> simp [a2, b2, sgn]
        · by_cases b3 : q = 0
          · cases s <;> cases t <;> simp [a2, b3, sgn]
          · cases s <;> cases t <;> simp [a2, b1, b2, b3, sgn] <;> omega
      · by_cases a3 : r = 0
        · by_cases b2 : q = 9218868437227405312
          · cases s <;> cases t <;> simp [a3, b2, sgn]
          · by_cases b3 : q = 0
            · cases s <;> cases t <;> simp [a3, b3, sgn]
            · cases s <;> cases t <;> simp [a3, b1, b2, b3, sgn] <;> omega
        · by_cases b2 : q = 9218868437227405312
          · cases s <;> cases t <;> simp [a1, a2, a3, b2, sgn] <;> omega
          · by_cases b3 : q = 0
            · cases s <;> cases t <;> simp [a1, a2, a3, b3, sgn] <;> omega
            · cases s <;> cases t <;> simp [a1, a2, a3, b1, b2, b3, sgn] <;> omega

/-- Words in the one form have unlike keys. -/
theorem ordK_inj (a b : Nat) (ha : a < 18446744073709551616) (hb : b < 18446744073709551616) (na : fine a) (nb : fine b) (h : ordK a = ordK b) : a = b := by
  unfold fine at na nb
  rw [ordK, ordK, if_neg (show ¬ 9218868437227405312 < rungOf a by omega), if_neg (show ¬ 9218868437227405312 < rungOf b by omega)] at h
  have e : ∀ x, x < 18446744073709551616 → x = (if negOf x then 9223372036854775808 else 0) + rungOf x := fun x hx => by
    unfold negOf rungOf
    by_cases hc : x / 9223372036854775808 % 2 = 1
    · rw [if_pos (by simpa using hc)]; omega
    · rw [if_neg (by simpa using hc)]; omega
  have ea := e a ha
  have eb := e b hb
  have hra := rungOf_lt a
  have hrb := rungOf_lt b
  revert h ea eb hra hrb
  generalize rungOf a = r
  generalize rungOf b = q
  cases negOf a <;> cases negOf b <;> simp only [if_true, Bool.false_eq_true, if_false] <;> intro h ea eb hra hrb <;> omega
end Go.Proofs.YtidjnfjpdnjogaaGreatDoor

/-
  The same, the tests that classes are told by: the plain law. Conditions: none.
-/
namespace Go.Proofs.YtidjnfjpdnjogaaGreatDoor

/-- No number (as the walk has it). -/
def nanW (b : Nat) : Bool := Ieee.double.order b b != some .eq
theorem nanW_fine {b : Nat} (h : fine b) : nanW b = false := by
  rw [nanW, order_fine b b h h, cmp_eq]; rfl
theorem nanW_not {b : Nat} (h : ¬ fine b) : nanW b = true := by
  rw [nanW, order_nan b b (Or.inl h)]; rfl
def oneW (b : Nat) : Nat := if nanW b then 9221120237041090560 else b
theorem not_fine_one : ¬ fine 9221120237041090560 := by unfold fine rungOf; decide

theorem ordK_top {b : Nat} (h : ¬ fine b) : ordK b = 100000000000000000000 := by
  unfold fine at h
  rw [ordK, if_pos (by omega)]
theorem ordK_low {b : Nat} (h : fine b) : ordK b < 100000000000000000000 := by
  have := rungOf_lt b
  unfold fine at h
  rw [ordK, if_neg (by omega)]
  split <;> omega

theorem same_ord (a b : Nat) (ha : a < 18446744073709551616) (hb : b < 18446744073709551616) : (oneW a == oneW b) = decide (ordK a = ordK b) := by
  by_cases h1 : fine a
  · rw [show oneW a = a by rw [oneW, nanW_fine h1]; rfl]
    by_cases h2 : fine b
    · rw [show oneW b = b by rw [oneW, nanW_fine h2]; rfl]
      rw [Bool.eq_iff_iff]
      simp only [beq_iff_eq, decide_eq_true_eq]
      exact ⟨fun h => by rw [h], ordK_inj a b ha hb h1 h2⟩
    · rw [show oneW b = 9221120237041090560 by rw [oneW, nanW_not h2]; rfl]
      have h3 : a ≠ 9221120237041090560 := fun h => not_fine_one (h ▸ h1)
      have h4 := ordK_low h1
      have h5 := ordK_top h2
      rw [decide_eq_false (by omega)]
      simpa using h3
  · rw [show oneW a = 9221120237041090560 by rw [oneW, nanW_not h1]; rfl]
    by_cases h2 : fine b
    · rw [show oneW b = b by rw [oneW, nanW_fine h2]; rfl]
      have h3 : 9221120237041090560 ≠ b := fun h => not_fine_one (h ▸ h2)
      have h4 := ordK_low h2
      have h5 := ordK_top h1
      rw [decide_eq_false (by omega)]
      simpa using h3
    · rw [show oneW b = 9221120237041090560 by rw [oneW, nanW_not h2]; rfl, ordK_top h1, ordK_top h2]
      rfl

def gtB (a b : Nat) : Bool := Ieee.double.order a b == some .gt
theorem gt_fine (a b : Nat) (ha : fine a) (hb : fine b) : gtB a b = decide (svB b < svB a) := by
  rw [gtB, order_fine a b ha hb]
  rcases Int.lt_trichotomy (valF a) (valF b) with h | h | h
  · rw [cmp_lt h, decide_eq_false (fun hc => by have := (val_lt b a).2 hc; omega)]; rfl
  · rw [h, cmp_eq, decide_eq_false (fun hc => by have := (val_lt b a).2 hc; omega)]; rfl
  · rw [cmp_gt h, decide_eq_true ((val_lt b a).1 h)]; rfl
theorem gt_nan (a b : Nat) (h : ¬ fine a ∨ ¬ fine b) : gtB a b = false := by rw [gtB, order_nan a b h]; rfl

theorem max_facts : fine 9218868437227405311 ∧ svB 9218868437227405311 = 9218868437227405311 ∧ fine 18442240474082181119 ∧ svB 18442240474082181119 = -9218868437227405311 ∧ fine 0 ∧ svB 0 = 0 := by
  unfold fine svB rungOf negOf sgn
  decide

/-- The five tests of a class. -/
theorem class_tests (b : Nat) (h : fine b) :
    ltB b 18442240474082181119 = (negOf b && decide (rungOf b = 9218868437227405312)) ∧ ltB b 0 = (negOf b && decide (rungOf b ≠ 0)) ∧
    gtB b 9218868437227405311 = (!negOf b && decide (rungOf b = 9218868437227405312)) ∧ gtB b 0 = (!negOf b && decide (rungOf b ≠ 0)) := by
  obtain ⟨f1, v1, f2, v2, f3, v3⟩ := max_facts
  rw [lt_fine b _ h f2, lt_fine b _ h f3, gt_fine b _ h f1, gt_fine b _ h f3, v1, v2, v3]
  unfold svB
  unfold fine at h
  revert h
  generalize rungOf b = r
  cases negOf b <;> intro h <;> simp only [sgn, if_true, Bool.false_eq_true, if_false, Bool.true_and, Bool.false_and, Bool.not_true, Bool.not_false] <;> refine ⟨?_, ?_, ?_, ?_⟩ <;> first | (rw [decide_eq_decide]; omega) | (rw [decide_eq_false_iff_not]; omega)
end Go.Proofs.YtidjnfjpdnjogaaGreatDoor

/-
  A float with the other sign, by its bits: the plain law. Conditions: none.
-/
namespace Go.Proofs.YtidjnfjpdnjogaaGreatDoor

def negB (b : Nat) : Nat := Op.negFloat .f64 b
theorem negB_xor (b : Nat) : negB b = b ^^^ 2 ^ 63 := rfl
theorem xor_top (b : Nat) (h : b < 2 ^ 63) : b ^^^ 2 ^ 63 = 2 ^ 63 + b := by
  apply Nat.eq_of_testBit_eq
  intro j
  rw [Nat.testBit_xor, Nat.testBit_two_pow]
  rcases Nat.lt_trichotomy j 63 with hj | hj | hj
  · rw [Nat.testBit_two_pow_add_gt hj]
    have : (63 = j) = False := by simp; omega
    simp [this]
  · subst hj
    rw [Nat.testBit_two_pow_add_eq]; simp
  · have h2 : (2 : Nat) ^ 64 ≤ 2 ^ j := Nat.pow_le_pow_right (by decide) hj
    rw [Nat.testBit_lt_two_pow (show 2 ^ 63 + b < 2 ^ j by omega), Nat.testBit_lt_two_pow (show b < 2 ^ j by omega)]
    have : (63 = j) = False := by simp; omega
    simp [this]

theorem negB_cases (b : Nat) (hb : b < 18446744073709551616) :
    (negOf b = true ∧ 9223372036854775808 ≤ b ∧ negB b = b - 9223372036854775808) ∨ (negOf b = false ∧ b < 9223372036854775808 ∧ negB b = b + 9223372036854775808) := by
  rw [negB_xor]
  by_cases h : b < 9223372036854775808
  · refine Or.inr ⟨?_, h, ?_⟩
    · unfold negOf; rw [show b / 9223372036854775808 = 0 by omega]; rfl
    · rw [xor_top b h, Nat.add_comm]
  · refine Or.inl ⟨?_, by omega, ?_⟩
    · unfold negOf; rw [show b / 9223372036854775808 = 1 by omega]; rfl
    · obtain ⟨c, rfl⟩ : ∃ c, b = 2 ^ 63 + c := ⟨b - 2 ^ 63, by omega⟩
      rw [← xor_top c (by omega), Nat.xor_assoc, Nat.xor_self, Nat.xor_zero, xor_top c (by omega)]
      omega

theorem negB_lt (b : Nat) (hb : b < 18446744073709551616) : negB b < 18446744073709551616 := by
  rcases negB_cases b hb with ⟨_, _, h⟩ | ⟨_, _, h⟩ <;> omega
theorem negB_rung (b : Nat) (hb : b < 18446744073709551616) : rungOf (negB b) = rungOf b := by
  unfold rungOf
  rcases negB_cases b hb with ⟨_, _, h⟩ | ⟨_, _, h⟩ <;> omega
theorem negB_neg (b : Nat) (hb : b < 18446744073709551616) : negOf (negB b) = !negOf b := by
  rcases negB_cases b hb with ⟨h1, _, h⟩ | ⟨h1, _, h⟩
  · rw [h1, h, negOf, show (b - 9223372036854775808) / 9223372036854775808 = 0 by omega]; rfl
  · rw [h1, h, negOf, show (b + 9223372036854775808) / 9223372036854775808 = 1 by omega]; rfl
theorem negB_fine {b : Nat} (hb : b < 18446744073709551616) (h : fine b) : fine (negB b) := by
  unfold fine; rw [negB_rung b hb]; exact h
theorem negB_sv (b : Nat) (hb : b < 18446744073709551616) : svB (negB b) = -svB b := by
  unfold svB
  rw [negB_rung b hb, negB_neg b hb]
  cases negOf b <;> simp [sgn]
theorem negB_back (b : Nat) : negB (negB b) = b := by
  rw [negB_xor, negB_xor, Nat.xor_assoc, Nat.xor_self, Nat.xor_zero]

/-- The greatest number's test at the other sign. -/
theorem inf_neg (b : Nat) (hb : b < 18446744073709551616) (h : fine b) : gtB (negB b) 9218868437227405311 = ltB b 18442240474082181119 := by
  obtain ⟨f1, v1, f2, v2, _, _⟩ := max_facts
  rw [gt_fine _ _ (negB_fine hb h) f1, lt_fine _ _ h f2, v1, v2, negB_sv b hb, decide_eq_decide]
  omega

/-- The order is turned. -/
theorem ordK_neg (b : Nat) (hb : b < 18446744073709551616) (h : fine b) : ordK (negB b) = -ordK b - 1 := by
  have h1 : ¬ 9218868437227405312 < rungOf b := by unfold fine at h; omega
  rw [ordK, ordK, negB_rung b hb, if_neg h1, if_neg h1, negB_neg b hb]
  cases negOf b <;> simp <;> omega
end Go.Proofs.YtidjnfjpdnjogaaGreatDoor

/-
  Sixteen signs: a number's bits written and read back. No program. Conditions: none.
-/
namespace Go.Proofs.YtidjnfjpdnjogaaGreatDoor
open Go.RowKit Go.Lib

def hexSigns : List UInt8 := [48, 49, 50, 51, 52, 53, 54, 55, 56, 57, 97, 98, 99, 100, 101, 102]
def hexAt (c : UInt8) : Int := indexByte hexSigns c
def hexVal (c : UInt8) : Nat := (hexAt c).toNat
def hexSign (k : Nat) : UInt8 := hexSigns.getD k 0
def hexOk (c : UInt8) : Bool := decide (0 ≤ hexAt c)
def hexFold (l : List UInt8) : Nat := l.foldl (fun n c => 16 * n + hexVal c) 0
def hexDig (b : Nat) : List UInt8 := (List.range 16).map fun j => hexSign (b / 16 ^ (15 - j) % 16)

theorem all_u8 {p : UInt8 → Prop} [DecidablePred p] (h : ∀ i : Fin 256, p (UInt8.ofNat i.val)) (c : UInt8) : p c := by
  have := h ⟨c.toNat, c.toNat_lt⟩
  simpa using this

theorem hexAt_lt (c : UInt8) : hexAt c < 16 := by
  revert c; exact all_u8 (p := fun c => hexAt c < 16) (by decide +kernel)
theorem hexVal_lt (c : UInt8) : hexVal c < 16 := by
  have := hexAt_lt c
  unfold hexVal; omega
theorem hexAt_sign (k : Nat) (h : k < 16) : hexAt (hexSign k) = k := by
  have : ∀ i : Fin 16, hexAt (hexSign i.val) = (i.val : Int) := by decide +kernel
  exact this ⟨k, h⟩
theorem hexVal_sign (k : Nat) (h : k < 16) : hexVal (hexSign k) = k := by rw [hexVal, hexAt_sign k h]; rfl
theorem hexOk_sign (k : Nat) (h : k < 16) : hexOk (hexSign k) = true := by rw [hexOk, hexAt_sign k h]; simp

theorem hexFold_snoc (l : List UInt8) (c : UInt8) : hexFold (l ++ [c]) = 16 * hexFold l + hexVal c := by simp [hexFold]

theorem hexFold_lt (l : List UInt8) : hexFold l < 16 ^ l.length := by
  have h : ∀ (l : List UInt8) (a : Nat), l.foldl (fun n c => 16 * n + hexVal c) a < (a + 1) * 16 ^ l.length := by
    intro l
    induction l with
    | nil => intro a; simp
    | cons c l ih =>
      intro a
      have hc := hexVal_lt c
      have h1 := ih (16 * a + hexVal c)
      simp only [List.foldl_cons, List.length_cons, Nat.pow_succ]
      refine Nat.lt_of_lt_of_le h1 ?_
      calc (16 * a + hexVal c + 1) * 16 ^ l.length ≤ (16 * (a + 1)) * 16 ^ l.length := Nat.mul_le_mul_right _ (by omega)
        _ = (a + 1) * (16 ^ l.length * 16) := by rw [Nat.mul_comm 16 (a + 1), Nat.mul_assoc, Nat.mul_comm 16]
  have := h l 0
  simpa [hexFold] using this

theorem hexDig_length (b : Nat) : (hexDig b).length = 16 := by simp [hexDig]
theorem hexDig_ok (b : Nat) : (hexDig b).all hexOk = true := by
  rw [List.all_eq_true]
  intro c hc
  simp only [hexDig, List.mem_map] at hc
  obtain ⟨j, _, rfl⟩ := hc
  exact hexOk_sign _ (Nat.mod_lt _ (by decide))
theorem hexDig_take (b k : Nat) (h : k ≤ 16) (hb : b < 18446744073709551616) : hexFold ((hexDig b).take k) = b / 16 ^ (16 - k) := by
  induction k with
  | zero =>
    rw [show (16 : Nat) ^ (16 - 0) = 18446744073709551616 from by decide, Nat.div_eq_of_lt hb]; rfl
  | succ k ih =>
    have hk : k < (hexDig b).length := by rw [hexDig_length]; omega
    rw [List.take_succ_eq_append_getElem hk, hexFold_snoc, ih (by omega)]
    have he : (hexDig b)[k] = hexSign (b / 16 ^ (15 - k) % 16) := by simp [hexDig]
    rw [he, hexVal_sign _ (Nat.mod_lt _ (by decide))]
    have h1 : 16 - k = (15 - k) + 1 := by omega
    have h2 : 16 - (k + 1) = 15 - k := by omega
    rw [h1, h2, Nat.pow_succ, ← Nat.div_div_eq_div_mul]
    exact Nat.div_add_mod _ 16
theorem hexDig_back (b : Nat) (hb : b < 18446744073709551616) : hexFold (hexDig b) = b := by
  have := hexDig_take b 16 (Nat.le_refl _) hb
  rw [List.take_of_length_le (by rw [hexDig_length]; exact Nat.le_refl _)] at this
  simpa using this

/-- what hex tells: the bits, and the error's number -/
def hexTell (l : List UInt8) : Nat × Int := if l.all hexOk && l.length == 16 then (oneW (hexFold l), 0) else (0, 6)

theorem hexTell_dig (b : Nat) (hb : b < 18446744073709551616) : hexTell (hexDig b) = (oneW b, 0) := by
  unfold hexTell
  rw [hexDig_ok, hexDig_length, hexDig_back b hb]; rfl

/-- v<<4 | k -/
theorem or_sign (a b : Nat) (hb : b < 16) : bits .or .u64 (IntKind.u64.wrap ((a : Int) * 16)) (IntKind.u64.wrap (b : Int)) = (((a * 16 + b) % 18446744073709551616 : Nat) : Int) := by
  have e1 : IntKind.u64.wrap ((a : Int) * 16) = ((a * 16 % 18446744073709551616 : Nat) : Int) := by rw [IntKind.wrap_u64]; omega
  have e2 : IntKind.u64.wrap (b : Int) = ((b : Nat) : Int) := by rw [IntKind.wrap_u64]; omega
  have e3 : a * 16 % 18446744073709551616 = 2 ^ 4 * (a % 1152921504606846976) := by omega
  rw [e1, e2, bits_or_u64_nat _ _ (by omega) (by omega), e3, ← Nat.two_pow_add_eq_or_of_lt (by omega)]
  congr 1; omega
end Go.Proofs.YtidjnfjpdnjogaaGreatDoor

/-
  Whole numbers as floats, the plain law: up to 2^53 they are what they are. Conditions: none.
-/
namespace Go.Proofs.YtidjnfjpdnjogaaGreatDoor

theorem cut_zero (neg : Bool) (n : Nat) : Ieee.Toward.even.cut neg n 0 = n := by
  have h : (1 : Nat) <<< min 0 (n.log2 + 2) = 1 := by rw [Nat.zero_min]; rfl
  simp only [Ieee.Toward.cut]
  rw [h, Nat.div_one, Nat.mod_one]
  simp

/-- The rung of a whole number. -/
theorem nearest_small (neg : Bool) (m : Nat) (h0 : 0 < m) (h1 : m < 9007199254740992) :
    ∃ r, Ieee.double.nearest neg m 0 = Ieee.double.word neg r ∧ r < 9218868437227405312 ∧ magM r = m * 2 ^ 1074 := by
  have hne : m ≠ 0 := by omega
  have hL : m.log2 < 53 := (Nat.log2_lt hne).2 (by simpa using h1)
  have hlo : 2 ^ m.log2 ≤ m := Nat.log2_self_le hne
  have hhi : m < 2 ^ (m.log2 + 1) := Nat.lt_log2_self
  obtain ⟨L, hLe⟩ : ∃ L, m.log2 = L := ⟨_, rfl⟩
  rw [hLe] at hL hlo hhi
  have hlast : max ((0 : Int) + (L : Int) - (Ieee.double.fractionBits : Int)) Ieee.double.leastPlace = (L : Int) - 52 := by
    have e1 : Ieee.double.leastPlace = -1074 := by decide
    have e2 : (Ieee.double.fractionBits : Int) = 52 := rfl
    rw [e1, e2]; omega
  have e1 : Ieee.double.leastPlace = -1074 := by decide
  have hk1 : 4503599627370496 ≤ m * 2 ^ (52 - L) := by
    have : 2 ^ L * 2 ^ (52 - L) ≤ m * 2 ^ (52 - L) := Nat.mul_le_mul_right _ hlo
    rw [← Nat.pow_add, show L + (52 - L) = 52 by omega] at this
    exact this
  have hk2 : m * 2 ^ (52 - L) < 9007199254740992 := by
    have : m * 2 ^ (52 - L) < 2 ^ (L + 1) * 2 ^ (52 - L) := Nat.mul_lt_mul_of_pos_right hhi (Nat.two_pow_pos _)
    rw [← Nat.pow_add, show L + 1 + (52 - L) = 53 by omega] at this
    exact this
  have hkept : Ieee.Toward.even.cut neg (m <<< ((0 : Int) - ((L : Int) - 52)).toNat) (((L : Int) - 52) - 0).toNat = m * 2 ^ (52 - L) := by
    rw [show (((L : Int) - 52) - 0).toNat = 0 by omega, cut_zero, Nat.shiftLeft_eq, show ((0 : Int) - ((L : Int) - 52)).toNat = 52 - L by omega]
  refine ⟨(L + 1022) * 4503599627370496 + m * 2 ^ (52 - L), ?_, by omega, ?_⟩
  · rw [Ieee.Format.nearest, if_neg hne]
    simp only [hLe]
    rw [hlast, hkept, e1]
    have e3 : (((L : Int) - 52) - -1074).toNat = L + 1022 := by omega
    rw [e3]
    have e4 : Ieee.double.binade = 4503599627370496 := by decide
    have e5 : Ieee.double.infRung = 9218868437227405312 := by decide
    rw [e4, e5, Nat.min_eq_left (by omega)]
  · have hq : ((L + 1022) * 4503599627370496 + m * 2 ^ (52 - L)) / 4503599627370496 = L + 1023 := by omega
    have hm : ((L + 1022) * 4503599627370496 + m * 2 ^ (52 - L)) % 4503599627370496 = m * 2 ^ (52 - L) - 4503599627370496 := by omega
    rw [magM, if_neg (by omega), hq, hm]
    rw [show 4503599627370496 + (m * 2 ^ (52 - L) - 4503599627370496) = m * 2 ^ (52 - L) by omega, Nat.mul_assoc, ← Nat.pow_add]
    rw [show 52 - L + (L + 1023 - 1) = 1074 by omega]
end Go.Proofs.YtidjnfjpdnjogaaGreatDoor

/-
  Whole numbers among the floats: what is cut towards nought, and what is whole. The plain law. Conditions: none.
-/
namespace Go.Proofs.YtidjnfjpdnjogaaGreatDoor

theorem word_neg (s : Bool) (r : Nat) (h : r < 9223372036854775808) : negOf (Ieee.double.word s r) = s ∧ rungOf (Ieee.double.word s r) = r ∧ Ieee.double.word s r < 18446744073709551616 := by
  have e : Ieee.double.signWeight = 9223372036854775808 := by decide
  unfold Ieee.Format.word negOf rungOf
  rw [e]
  cases s
  · rw [if_neg (by decide)]
    refine ⟨?_, by omega, by omega⟩
    rw [show r / 9223372036854775808 = 0 by omega]; rfl
  · rw [if_pos rfl]
    refine ⟨?_, by omega, by omega⟩
    rw [show (9223372036854775808 + r) / 9223372036854775808 = 1 by omega]; rfl

def pw (n : Nat) : Nat := 2 ^ n
theorem pw_pos (n : Nat) : 0 < pw n := Nat.two_pow_pos n
theorem mag_top (k : Nat) : magM ((k + 2) * 4503599627370496) = 9007199254740992 * pw k := by
  rw [magM, if_neg (by omega), Nat.mul_mod_left, Nat.mul_div_cancel _ (by decide), show k + 2 - 1 = k + 1 by omega, Nat.pow_succ]
  unfold pw
  omega
/-- How many least parts are in one. -/
def UU : Nat := pw 1074
theorem UU_pos : 0 < UU := pw_pos 1074
/-- A whole number's word. -/
def intW (s : Bool) (m : Nat) : Nat := Ieee.double.nearest s m 0

theorem intW_is (s : Bool) (m : Nat) (h : m ≤ 9007199254740992) :
    ∃ r, intW s m = Ieee.double.word s r ∧ r < 9218868437227405312 ∧ magM r = m * UU := by
  by_cases h0 : m = 0
  · subst h0
    exact ⟨0, by rw [intW, Ieee.Format.nearest, if_pos rfl], by decide, by rw [Nat.zero_mul]; rfl⟩
  · by_cases h1 : m < 9007199254740992
    · have h2 := nearest_small s m (by omega) h1
      unfold UU pw
      exact h2
    · obtain rfl : m = 9007199254740992 := by omega
      refine ⟨(1074 + 2) * 4503599627370496, ?_, by decide, ?_⟩
      · cases s <;> decide +kernel
      · rw [mag_top, UU]

theorem intW_facts (s : Bool) (m : Nat) (h : m ≤ 9007199254740992) :
    negOf (intW s m) = s ∧ rungOf (intW s m) < 9218868437227405312 ∧ magM (rungOf (intW s m)) = m * UU ∧ intW s m < 18446744073709551616 := by
  obtain ⟨r, e, hr, hm⟩ := intW_is s m h
  obtain ⟨h1, h2, h3⟩ := word_neg s r (by omega)
  rw [e, h1, h2]
  exact ⟨rfl, hr, hm, h3⟩

theorem intW_fine (s : Bool) (m : Nat) (h : m ≤ 9007199254740992) : fine (intW s m) := by
  have := (intW_facts s m h).2.1
  unfold fine; omega

theorem intW_val (s : Bool) (m : Nat) (h : m ≤ 9007199254740992) : valF (intW s m) = sgn s m * (UU : Int) := by
  obtain ⟨h1, _, h3, _⟩ := intW_facts s m h
  rw [valF, h1, h3, sgn_mul]

/-- The number that is nearest to an int is it. -/
def intF (n : Int) : Nat := FloatKind.f64.nearest n
theorem intF_eq (n : Int) : intF n = intW (decide (n < 0)) n.natAbs := rfl
theorem intF_val (n : Int) (h0 : -9007199254740992 ≤ n) (h1 : n ≤ 9007199254740992) : valF (intF n) = n * (UU : Int) := by
  rw [intF_eq, intW_val _ _ (by omega)]
  congr 1
  unfold sgn
  by_cases h : n < 0
  · rw [decide_eq_true h, if_pos rfl]; omega
  · rw [decide_eq_false h, if_neg (by decide)]; omega

theorem two_pos : (0 : Int) < (UU : Int) := by
  have := UU_pos
  omega

/-- Cut towards nought. -/
theorem cut_low (s : Bool) (n d : Nat) : Ieee.Toward.zero.cut s n d = n / 2 ^ d := by
  simp only [Ieee.Toward.cut, Bool.toNat_false, Nat.add_zero, Nat.shiftLeft_eq, Nat.one_mul]
  by_cases h : d ≤ n.log2 + 2
  · rw [Nat.min_eq_left h]
  · rw [Nat.min_eq_right (by omega)]
    have h1 : n < 2 ^ (n.log2 + 1) := Nat.lt_log2_self
    have h2 : 2 ^ (n.log2 + 1) ≤ 2 ^ (n.log2 + 2) := Nat.pow_le_pow_right (by decide) (by omega)
    have h3 : 2 ^ (n.log2 + 1) ≤ 2 ^ d := Nat.pow_le_pow_right (by decide) (by omega)
    rw [Nat.div_eq_of_lt (by omega), Nat.div_eq_of_lt (by omega)]

theorem decode_num (b : Nat) (h : rungOf b < 9218868437227405312) :
    ∃ m : Nat, ∃ p : Nat, FloatKind.f64.decode b = Ieee.Datum.number (negOf b) m (-1074 + (p : Int)) ∧ magM (rungOf b) = m * 2 ^ p := by
  show ∃ m : Nat, ∃ p : Nat, Ieee.double.read b = _ ∧ _
  rw [read_double]
  by_cases h1 : rungOf b < 4503599627370496
  · exact ⟨_, 0, by rw [if_pos h1]; rfl, by rw [magM, if_pos h1]; simp⟩
  · exact ⟨_, _, by rw [if_neg h1, if_pos h], by rw [magM, if_neg h1]⟩

theorem cut_gen (m p N : Nat) : m * 2 ^ ((-(N : Int) + (p : Int)).toNat) / 2 ^ ((-(-(N : Int) + (p : Int))).toNat) = m * 2 ^ p / 2 ^ N := by
  by_cases h : p ≤ N
  · obtain ⟨q, rfl⟩ : ∃ q, N = q + p := ⟨N - p, by omega⟩
    rw [show (-((q + p : Nat) : Int) + (p : Int)).toNat = 0 by omega, show (-(-((q + p : Nat) : Int) + (p : Int))).toNat = q by omega, Nat.pow_zero, Nat.mul_one, Nat.pow_add]
    exact (Nat.mul_div_mul_right m (2 ^ q) (Nat.two_pow_pos p)).symm
  · obtain ⟨q, rfl⟩ : ∃ q, p = N + q := ⟨p - N, by omega⟩
    rw [show (-(N : Int) + ((N + q : Nat) : Int)).toNat = q by omega, show (-(-(N : Int) + ((N + q : Nat) : Int))).toNat = 0 by omega, Nat.pow_zero, Nat.div_one, Nat.pow_add, Nat.mul_comm (2 ^ N), ← Nat.mul_assoc]
    exact (Nat.mul_div_cancel _ (Nat.two_pow_pos N)).symm

/-- How many wholes are in it. -/
def qOf (b : Nat) : Nat := magM (rungOf b) / UU

theorem integral_is (b : Nat) (h : rungOf b < 9218868437227405312) : (FloatKind.f64.decode b).integral .zero = Ieee.Datum.number (negOf b) (qOf b) 0 := by
  obtain ⟨m, p, e, hm⟩ := decode_num b h
  rw [e]
  simp only [Ieee.Datum.integral]
  rw [cut_low, Nat.shiftLeft_eq, qOf, hm]
  have := cut_gen m p 1074
  unfold UU pw
  congr 1

theorem trunc_is (b : Nat) (h : rungOf b < 9218868437227405312) : FloatKind.f64.encode ((FloatKind.f64.decode b).integral .zero) = intW (negOf b) (qOf b) := by
  rw [integral_is b h]; rfl

theorem toInt_is (b : Nat) (h : rungOf b < 9218868437227405312) (hq : qOf b ≤ 9007199254740992) : floatToIntVal .f64 b .i64 = some (sgn (negOf b) (qOf b)) := by
  unfold floatToIntVal Ieee.Datum.toInt
  rw [integral_is b h]
  simp only
  have e : Ieee.signed (negOf b) (qOf b) 0 = sgn (negOf b) (qOf b) := by
    rw [Ieee.signed, sgn, Nat.shiftLeft_zero]
  rw [e]
  have h1 : IntKind.i64.min = -9223372036854775808 := by decide
  have h2 : IntKind.i64.max = 9223372036854775807 := by decide
  rw [h1, h2, if_pos]
  unfold sgn
  split <;> omega

theorem sgn_inj (s : Bool) (m n : Nat) : sgn s m = sgn s n ↔ m = n := by
  cases s <;> simp only [sgn, if_true, Bool.false_eq_true, if_false] <;> omega

theorem eq_fine (a b : Nat) (ha : fine a) (hb : fine b) : (Ieee.double.order a b == some .eq) = decide (valF a = valF b) := by
  rw [order_fine a b ha hb]
  rcases Int.lt_trichotomy (valF a) (valF b) with h | h | h
  · rw [cmp_lt h, decide_eq_false (by omega)]; rfl
  · rw [h, cmp_eq, decide_eq_true rfl]; rfl
  · rw [cmp_gt h, decide_eq_false (by omega)]; rfl
theorem ge_fine (a b : Nat) (ha : fine a) (hb : fine b) : (Ieee.double.order a b == some .gt || Ieee.double.order a b == some .eq) = decide (valF b ≤ valF a) := by
  rw [order_fine a b ha hb]
  rcases Int.lt_trichotomy (valF a) (valF b) with h | h | h
  · rw [cmp_lt h, decide_eq_false (by omega)]; rfl
  · rw [h, cmp_eq, decide_eq_true (Int.le_refl _)]; rfl
  · rw [cmp_gt h, decide_eq_true (by omega)]; rfl
theorem le_fine (a b : Nat) (ha : fine a) (hb : fine b) : (Ieee.double.order a b == some .lt || Ieee.double.order a b == some .eq) = decide (valF a ≤ valF b) := by
  rw [order_fine a b ha hb]
  rcases Int.lt_trichotomy (valF a) (valF b) with h | h | h
  · rw [cmp_lt h, decide_eq_true (by omega)]; rfl
  · rw [h, cmp_eq, decide_eq_true (Int.le_refl _)]; rfl
  · rw [cmp_gt h, decide_eq_false (by omega)]; rfl

/-- Is it whole? -/
def evenB (b : Nat) : Bool := magM (rungOf b) % UU == 0
/-- Is it written by its digits? -/
def wholeB (b : Nat) : Bool := decide (qOf b ≤ 999999999999999) && evenB b

theorem whole_test (b : Nat) (h : rungOf b < 9218868437227405312) (hq : qOf b ≤ 9007199254740992) : (Ieee.double.order b (intW (negOf b) (qOf b)) == some .eq) = evenB b := by
  rw [eq_fine _ _ (by unfold fine; omega) (intW_fine _ _ hq), intW_val _ _ hq, sgn_mul, valF, evenB, qOf]
  rw [Bool.eq_iff_iff, decide_eq_true_eq, beq_iff_eq, sgn_inj]
  have h1 := Nat.div_add_mod (magM (rungOf b)) (UU)
  have h2 := UU_pos
  rw [Nat.mul_comm] at h1
  revert h1 h2
  generalize magM (rungOf b) / UU * UU = x
  generalize magM (rungOf b) % UU = y
  intro h1 h2
  omega

theorem most_facts : intW true 999999999999999 = 14054727237768577016 ∧ intW false 999999999999999 = 4831355200913801208 := by decide +kernel

theorem qOf_lt {b n : Nat} (h : magM (rungOf b) ≤ n * UU) : qOf b ≤ n := by
  have := Nat.div_le_div_right (c := UU) h
  rw [Nat.mul_div_cancel _ (UU_pos)] at this
  exact this
theorem qOf_back {b : Nat} (h : evenB b = true) : magM (rungOf b) = qOf b * UU := by
  have h1 := Nat.div_add_mod (magM (rungOf b)) (UU)
  have h2 : magM (rungOf b) % UU = 0 := by simpa [evenB] using h
  rw [h2, Nat.add_zero, Nat.mul_comm] at h1
  exact h1.symm

/-- The three tests of 'whole'. -/
theorem whole_cases (b : Nat) (h : rungOf b < 9218868437227405312) :
    (Ieee.double.order b 14054727237768577016 == some .gt || Ieee.double.order b 14054727237768577016 == some .eq) = false ∧ wholeB b = false
    ∨ (Ieee.double.order b 14054727237768577016 == some .gt || Ieee.double.order b 14054727237768577016 == some .eq) = true ∧ (Ieee.double.order b 4831355200913801208 == some .lt || Ieee.double.order b 4831355200913801208 == some .eq) = false ∧ wholeB b = false
    ∨ (Ieee.double.order b 14054727237768577016 == some .gt || Ieee.double.order b 14054727237768577016 == some .eq) = true ∧ (Ieee.double.order b 4831355200913801208 == some .lt || Ieee.double.order b 4831355200913801208 == some .eq) = true ∧ qOf b ≤ 999999999999999 ∧ wholeB b = evenB b := by
  obtain ⟨m1, m2⟩ := most_facts
  have hf : fine b := by unfold fine; omega
  rw [← m1, ← m2, ge_fine _ _ hf (intW_fine _ _ (by decide)), le_fine _ _ hf (intW_fine _ _ (by decide)), intW_val _ _ (by decide), intW_val _ _ (by decide)]
  have hb := qOf_back (b := b)
  have hl := qOf_lt (b := b) (n := 999999999999999)
  have hp := two_pos
  unfold wholeB
  revert hb hl hp
  rw [valF]
  generalize evenB b = e
  generalize qOf b = q
  generalize magM (rungOf b) = M
  generalize UU = U
  generalize negOf b = s
  intro hb hl hp
  by_cases hM : M ≤ 999999999999999 * U
  · have h3 := hl hM
    refine Or.inr (Or.inr ⟨?_, ?_, h3, by rw [decide_eq_true h3, Bool.true_and]⟩)
    · rw [decide_eq_true_eq]; cases s <;> simp only [sgn, if_true, Bool.false_eq_true, if_false] <;> omega
    · rw [decide_eq_true_eq]; cases s <;> simp only [sgn, if_true, Bool.false_eq_true, if_false] <;> omega
  · have hw : (decide (q ≤ 999999999999999) && e) = false := by
      cases e
      · rw [Bool.and_false]
      · have h4 := hb rfl
        rw [Bool.and_true, decide_eq_false_iff_not]
        intro h5
        apply hM
        rw [h4]
        exact Nat.mul_le_mul_right _ h5
    cases s
    · refine Or.inr (Or.inl ⟨?_, ?_, hw⟩)
      · rw [decide_eq_true_eq]; simp [sgn]; omega
      · rw [decide_eq_false_iff_not]; simp [sgn]; omega
    · refine Or.inl ⟨?_, hw⟩
      rw [decide_eq_false_iff_not]; simp [sgn]; omega

/-- The whole number that a word stands for. -/
def nOf (b : Nat) : Int := sgn (negOf b) (qOf b)

/-- What is whole is the float of its number, but for the sign of nought. -/
theorem intF_back (b : Nat) (hb : b < 18446744073709551616) (hq : qOf b ≤ 9007199254740992) (he : evenB b = true) (h0 : rungOf b ≠ 0) : intF (nOf b) = b := by
  have hm := qOf_back he
  have hq0 : qOf b ≠ 0 := by
    intro hc
    rw [hc, Nat.zero_mul] at hm
    exact h0 (magM_zero.1 hm)
  have e1 : decide (nOf b < 0) = negOf b := by
    unfold nOf
    cases negOf b
    · rw [decide_eq_false_iff_not]; simp [sgn]
    · rw [decide_eq_true_eq]; simp only [sgn, if_true]; omega
  have e2 : (nOf b).natAbs = qOf b := by
    unfold nOf
    cases negOf b <;> simp [sgn]
  rw [intF_eq, e1, e2]
  obtain ⟨f1, f2, f3, f4⟩ := intW_facts (negOf b) (qOf b) hq
  rw [← hm] at f3
  have hr := magM_inj f3
  have key : ∀ x, x < 18446744073709551616 → x = (if negOf x then 9223372036854775808 else 0) + rungOf x := fun x hx => by
    unfold negOf rungOf
    by_cases hc : x / 9223372036854775808 % 2 = 1
    · rw [if_pos (by simpa using hc)]; omega
    · rw [if_neg (by simpa using hc)]; omega
  have k1 := key _ f4
  rw [f1, hr] at k1
  exact k1.trans (key b hb).symm

theorem ordK_of {x : Nat} (h : rungOf x < 9218868437227405312) : ordK x = if negOf x then -(rungOf x : Int) - 1 else rungOf x := by
  rw [ordK, if_neg (by omega)]
/-- The order of two whole numbers. -/
theorem ordK_int (a b : Int) (ha : -9007199254740992 ≤ a ∧ a ≤ 9007199254740992) (hb : -9007199254740992 ≤ b ∧ b ≤ 9007199254740992) : ordK (intF a) < ordK (intF b) ↔ a < b := by
  rw [intF_eq, intF_eq]
  obtain ⟨f1, f2, f3, _⟩ := intW_facts (decide (a < 0)) a.natAbs (by omega)
  obtain ⟨g1, g2, g3, _⟩ := intW_facts (decide (b < 0)) b.natAbs (by omega)
  rw [ordK_of f2, ordK_of g2, f1, g1]
  have k1 := @magM_le (rungOf (intW (decide (a < 0)) a.natAbs)) (rungOf (intW (decide (b < 0)) b.natAbs))
  have k2 := @magM_le (rungOf (intW (decide (b < 0)) b.natAbs)) (rungOf (intW (decide (a < 0)) a.natAbs))
  have k3 := @magM_zero (rungOf (intW (decide (a < 0)) a.natAbs))
  have k4 := @magM_zero (rungOf (intW (decide (b < 0)) b.natAbs))
  rw [f3, g3] at k1
  rw [f3, g3] at k2
  rw [f3] at k3
  rw [g3] at k4
  have hp := UU_pos
  have c1 : a.natAbs * UU ≤ b.natAbs * UU ↔ a.natAbs ≤ b.natAbs := Nat.mul_le_mul_right_iff hp
  have c2 : b.natAbs * UU ≤ a.natAbs * UU ↔ b.natAbs ≤ a.natAbs := Nat.mul_le_mul_right_iff hp
  have c3 : a.natAbs * UU = 0 ↔ a.natAbs = 0 := by rw [Nat.mul_eq_zero]; omega
  have c4 : b.natAbs * UU = 0 ↔ b.natAbs = 0 := by rw [Nat.mul_eq_zero]; omega
  rw [c1] at k1
  rw [c2] at k2
  rw [c3] at k3
  rw [c4] at k4
  clear c1 c2 c3 c4 f1 f3 g1 g3 hp
  revert f2 g2 k1 k2 k3 k4
  generalize rungOf (intW (decide (a < 0)) a.natAbs) = r
  generalize rungOf (intW (decide (b < 0)) b.natAbs) = q
  intro f2 g2 k1 k2 k3 k4
  by_cases h1 : a < 0
  · by_cases h2 : b < 0
    · rw [decide_eq_true h1, decide_eq_true h2, if_pos rfl, if_pos rfl]; omega
    · rw [decide_eq_true h1, decide_eq_false h2, if_pos rfl, if_neg (by decide)]; omega
  · by_cases h2 : b < 0
    · rw [decide_eq_false h1, decide_eq_true h2, if_neg (by decide), if_pos rfl]; omega
    · rw [decide_eq_false h1, decide_eq_false h2, if_neg (by decide), if_neg (by decide)]; omega

theorem intF_lt (a : Int) : intF a < 18446744073709551616 := by
  have h := Ieee.Format.nearest_lt Ieee.double (decide (a < 0)) a.natAbs 0
  have e : (2 : Nat) ^ Ieee.double.width = 18446744073709551616 := by decide
  rw [e] at h
  exact h
theorem intF_fine (a : Int) (ha : -9007199254740992 ≤ a ∧ a ≤ 9007199254740992) : fine (intF a) := by rw [intF_eq]; exact intW_fine _ _ (by omega)
end Go.Proofs.YtidjnfjpdnjogaaGreatDoor

/-
  Metadata as plain texts: words between blanks, what is told of metadata, what is read of a text. Conditions: none.
-/
namespace Go.Proofs.YtidjnfjpdnjogaaGreatDoor
open Go.Lib

/-- The words between one byte and the next. -/
def splitB (b : UInt8) : List UInt8 → List (List UInt8)
  | [] => [[]]
  | c :: t => if c = b then [] :: splitB b t else match splitB b t with
    | [] => [[c]]
    | w :: r => (c :: w) :: r
theorem splitB_ne (b : UInt8) : ∀ l, splitB b l ≠ []
  | [] => by simp [splitB]
  | c :: t => by
    rw [splitB]
    split
    · simp
    · split <;> simp
theorem splitB_not (b : UInt8) : ∀ l, b ∉ l → splitB b l = [l]
  | [], _ => rfl
  | c :: t, h => by
    have h1 : ¬ c = b := fun e => h (by rw [e]; simp)
    have h2 : b ∉ t := fun e => h (by simp [e])
    rw [splitB, if_neg h1, splitB_not b t h2]
theorem splitB_at (b : UInt8) : ∀ l r, b ∉ l → splitB b (l ++ b :: r) = l :: splitB b r
  | [], r, _ => by simp [splitB]
  | c :: t, r, h => by
    have h1 : ¬ c = b := fun e => h (by rw [e]; simp)
    have h2 : b ∉ t := fun e => h (by simp [e])
    rw [List.cons_append, splitB, if_neg h1, splitB_at b t r h2]
/-- What stands between blanks, if anything does. -/
def wordsB (l : List UInt8) : List (List UInt8) := (splitB 32 l).filter fun w => !w.isEmpty
end Go.Proofs.YtidjnfjpdnjogaaGreatDoor
