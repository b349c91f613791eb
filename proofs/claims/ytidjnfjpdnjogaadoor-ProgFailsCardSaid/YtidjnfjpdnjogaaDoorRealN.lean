/-
  Whole numbers as floats, the plain law: up to 2^53 they are what they are. Conditions: none.
-/
import Derived.Test.YtidjnfjpdnjogaaDoorRealP
namespace Go.Proofs.YtidjnfjpdnjogaaDoor

theorem cut_zero (neg : Bool) (n : Nat) : Ieee.Toward.even.cut neg n 0 = n := by
  have h : (1 : Nat) <<< min 0 (n.log2 + 2) = 1 := by rw [Nat.zero_min]; rfl
  simp only [Ieee.Toward.cut]
  rw [h, Nat.div_one, Nat.mod_one]
  simp

/-- The rung of a whole number. -/
theorem nearest_small (neg : Bool) (m : Nat) (h0 : 0 < m) (h1 : m < 9007199254740992) :
    ∃ r, Ieee.double.nearest neg m 0 = Ieee.double.word neg r ∧ r < 9218868437227405312 ∧ magM r = m * 2 ^ 1074 := by
  have hne : m ≠ 0 := by omega
  have hL : m.log2 < 53 := (Nat.log2_lt hne).2 (by simpa using h1)
  have hlo : 2 ^ m.log2 ≤ m := Nat.log2_self_le hne
  have hhi : m < 2 ^ (m.log2 + 1) := Nat.lt_log2_self
  obtain ⟨L, hLe⟩ : ∃ L, m.log2 = L := ⟨_, rfl⟩
  rw [hLe] at hL hlo hhi
  have hlast : max ((0 : Int) + (L : Int) - (Ieee.double.fractionBits : Int)) Ieee.double.leastPlace = (L : Int) - 52 := by
    have e1 : Ieee.double.leastPlace = -1074 := by decide
    have e2 : (Ieee.double.fractionBits : Int) = 52 := rfl
    rw [e1, e2]; omega
  have e1 : Ieee.double.leastPlace = -1074 := by decide
  have hk1 : 4503599627370496 ≤ m * 2 ^ (52 - L) := by
    have : 2 ^ L * 2 ^ (52 - L) ≤ m * 2 ^ (52 - L) := Nat.mul_le_mul_right _ hlo
    rw [← Nat.pow_add, show L + (52 - L) = 52 by omega] at this
    exact this
  have hk2 : m * 2 ^ (52 - L) < 9007199254740992 := by
    have : m * 2 ^ (52 - L) < 2 ^ (L + 1) * 2 ^ (52 - L) := Nat.mul_lt_mul_of_pos_right hhi (Nat.two_pow_pos _)
    rw [← Nat.pow_add, show L + 1 + (52 - L) = 53 by omega] at this
    exact this
  have hkept : Ieee.Toward.even.cut neg (m <<< ((0 : Int) - ((L : Int) - 52)).toNat) (((L : Int) - 52) - 0).toNat = m * 2 ^ (52 - L) := by
    rw [show (((L : Int) - 52) - 0).toNat = 0 by omega, cut_zero, Nat.shiftLeft_eq, show ((0 : Int) - ((L : Int) - 52)).toNat = 52 - L by omega]
  refine ⟨(L + 1022) * 4503599627370496 + m * 2 ^ (52 - L), ?_, by omega, ?_⟩
  · rw [Ieee.Format.nearest, if_neg hne]
    simp only [hLe]
    rw [hlast, hkept, e1]
    have e3 : (((L : Int) - 52) - -1074).toNat = L + 1022 := by omega
    rw [e3]
    have e4 : Ieee.double.binade = 4503599627370496 := by decide
    have e5 : Ieee.double.infRung = 9218868437227405312 := by decide
    rw [e4, e5, Nat.min_eq_left (by omega)]
  · have hq : ((L + 1022) * 4503599627370496 + m * 2 ^ (52 - L)) / 4503599627370496 = L + 1023 := by omega
    have hm : ((L + 1022) * 4503599627370496 + m * 2 ^ (52 - L)) % 4503599627370496 = m * 2 ^ (52 - L) - 4503599627370496 := by omega
    rw [magM, if_neg (by omega), hq, hm]
    rw [show 4503599627370496 + (m * 2 ^ (52 - L) - 4503599627370496) = m * 2 ^ (52 - L) by omega, Nat.mul_assoc, ← Nat.pow_add]
    rw [show 52 - L + (L + 1023 - 1) = 1074 by omega]
end Go.Proofs.YtidjnfjpdnjogaaDoor
