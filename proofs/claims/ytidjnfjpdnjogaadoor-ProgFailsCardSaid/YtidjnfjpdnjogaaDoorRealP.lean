/-
  The one order of all floats, the plain law: classes, ranks, and the key that orders them. Conditions: none.
-/
import Derived.Test.YtidjnfjpdnjogaaDoorFloatP
namespace Go.Proofs.YtidjnfjpdnjogaaDoor

theorem rungOf_lt (b : Nat) : rungOf b < 9223372036854775808 := Nat.mod_lt _ (by decide)

/-- The class of a word's number. -/
def classB (b : Nat) : Nat :=
  if 9218868437227405312 < rungOf b then 0 else if rungOf b = 9218868437227405312 then (if negOf b then 1 else 6) else if rungOf b = 0 then (if negOf b then 3 else 4) else if negOf b then 2 else 5
def rankB (b : Nat) : Nat := if classB b = 0 then 7 else classB b
def ltB (a b : Nat) : Bool := Ieee.double.order a b == some .lt
def lessB (a b : Nat) : Bool := decide (rankB a < rankB b) || (rankB a == rankB b && ltB a b)
/-- The key: the noughts stand beside each other, no number behind all. -/
def ordK (b : Nat) : Int := if 9218868437227405312 < rungOf b then 100000000000000000000 else if negOf b then -(rungOf b : Int) - 1 else rungOf b
/-- Sign and rung. -/
def svB (b : Nat) : Int := sgn (negOf b) (rungOf b)

theorem val_lt (a b : Nat) : valF a < valF b ↔ svB a < svB b := by
  unfold valF svB
  generalize negOf a = s
  generalize negOf b = t
  generalize rungOf a = r
  generalize rungOf b = q
  have h1 := @magM_le r q
  have h2 := @magM_le q r
  have h3 := @magM_zero r
  have h4 := @magM_zero q
  revert h1 h2 h3 h4
  generalize magM r = m
  generalize magM q = n
  intro h1 h2 h3 h4
  cases s <;> cases t <;> simp only [sgn, if_true, Bool.false_eq_true, if_false] <;> omega

theorem lt_fine (a b : Nat) (ha : fine a) (hb : fine b) : ltB a b = decide (svB a < svB b) := by
  rw [ltB, order_fine a b ha hb]
  rcases Int.lt_trichotomy (valF a) (valF b) with h | h | h
  · rw [cmp_lt h, decide_eq_true ((val_lt a b).1 h)]; rfl
  · rw [h, cmp_eq, decide_eq_false (fun hc => by have := (val_lt a b).2 hc; omega)]; rfl
  · rw [cmp_gt h, decide_eq_false (fun hc => by have := (val_lt a b).2 hc; omega)]; rfl
theorem lt_nan (a b : Nat) (h : ¬ fine a ∨ ¬ fine b) : ltB a b = false := by rw [ltB, order_nan a b h]; rfl

theorem less_ord (a b : Nat) : lessB a b = decide (ordK a < ordK b) := by
  have hf := lt_fine a b
  have hn := lt_nan a b
  have hra := rungOf_lt a
  have hrb := rungOf_lt b
  unfold lessB rankB classB ordK
  unfold fine at hf hn
  unfold svB at hf
  revert hf hn hra hrb
  generalize ltB a b = l
  generalize rungOf a = r
  generalize rungOf b = q
  generalize negOf a = s
  generalize negOf b = t
  intro hf hn hra hrb
  by_cases a1 : 9218868437227405312 < r
  · have hl := hn (Or.inl (by omega))
    subst hl
    by_cases b1 : 9218868437227405312 < q
    · simp [a1, b1]
    · by_cases b2 : q = 9218868437227405312
      · cases t <;> simp [a1, b2] <;> omega
      · by_cases b3 : q = 0
        · cases t <;> simp [a1, b3] <;> omega
        · cases t <;> simp [a1, b1, b2, b3] <;> omega
  · by_cases b1 : 9218868437227405312 < q
    · have hl := hn (Or.inr (by omega))
      subst hl
      by_cases a2 : r = 9218868437227405312
      · cases s <;> simp [b1, a2] <;> omega
      · by_cases a3 : r = 0
        · cases s <;> simp [b1, a3] <;> omega
        · cases s <;> simp [b1, a1, a2, a3] <;> omega
    · have hl := hf (by omega) (by omega)
      subst hl
      by_cases a2 : r = 9218868437227405312
      · by_cases b2 : q = 9218868437227405312
        · cases s <;> cases t <;> simp [a2, b2, sgn]
        · by_cases b3 : q = 0
          · cases s <;> cases t <;> simp [a2, b3, sgn]
          · cases s <;> cases t <;> simp [a2, b1, b2, b3, sgn] <;> omega
      · by_cases a3 : r = 0
        · by_cases b2 : q = 9218868437227405312
          · cases s <;> cases t <;> simp [a3, b2, sgn]
          · by_cases b3 : q = 0
            · cases s <;> cases t <;> simp [a3, b3, sgn]
            · cases s <;> cases t <;> simp [a3, b1, b2, b3, sgn] <;> omega
        · by_cases b2 : q = 9218868437227405312
          · cases s <;> cases t <;> simp [a1, a2, a3, b2, sgn] <;> omega
          · by_cases b3 : q = 0
            · cases s <;> cases t <;> simp [a1, a2, a3, b3, sgn] <;> omega
            · cases s <;> cases t <;> simp [a1, a2, a3, b1, b2, b3, sgn] <;> omega

/-- Words in the one form have unlike keys. -/
theorem ordK_inj (a b : Nat) (ha : a < 18446744073709551616) (hb : b < 18446744073709551616) (na : fine a) (nb : fine b) (h : ordK a = ordK b) : a = b := by
  unfold fine at na nb
  rw [ordK, ordK, if_neg (show ¬ 9218868437227405312 < rungOf a by omega), if_neg (show ¬ 9218868437227405312 < rungOf b by omega)] at h
  have e : ∀ x, x < 18446744073709551616 → x = (if negOf x then 9223372036854775808 else 0) + rungOf x := fun x hx => by
    unfold negOf rungOf
    by_cases hc : x / 9223372036854775808 % 2 = 1
    · rw [if_pos (by simpa using hc)]; omega
    · rw [if_neg (by simpa using hc)]; omega
  have ea := e a ha
  have eb := e b hb
  have hra := rungOf_lt a
  have hrb := rungOf_lt b
  revert h ea eb hra hrb
  generalize rungOf a = r
  generalize rungOf b = q
  cases negOf a <;> cases negOf b <;> simp only [if_true, Bool.false_eq_true, if_false] <;> intro h ea eb hra hrb <;> omega
end Go.Proofs.YtidjnfjpdnjogaaDoor
