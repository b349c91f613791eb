/-
  Package real: the text of every number, every text as a number. Conditions: none.
-/
import Derived.Test.YtidjnfjpdnjogaaDoorPrC3
import Derived.Test.YtidjnfjpdnjogaaDoorRealW
import Derived.Laws.Cover2
namespace Go.Proofs.YtidjnfjpdnjogaaDoor
open Go.RowKit Go.Lib

/-- A number's text. -/
def textB (b : Nat) : List UInt8 :=
  if classB b = 0 then [110, 97, 110] else if classB b = 1 then [45, 105, 110, 102] else if classB b = 6 then [105, 110, 102] else if classB b = 3 then [45, 48]
  else if wholeB b then itoa (nOf b) else 120 :: hexDig b

/-- What a text that is written by digits tells. -/
def digTell (l : List UInt8) : Nat × Int :=
  if (numberOf l).2 ≠ 0 ∨ 999999999999999 < (numberOf l).1 ∨ (numberOf l).1 < -999999999999999 then (0, 6) else (intF (numberOf l).1, 0)
/-- What a text tells: a number's bits, and the error's number. -/
def parseB (l : List UInt8) : Nat × Int :=
  if l = [110, 97, 110] then (9221120237041090560, 0) else if l = [105, 110, 102] then (9218868437227405312, 0) else if l = [45, 105, 110, 102] then (18442240474082181120, 0)
  else if l = [45, 48] then (9223372036854775808, 0) else if hasPrefix l [120] then hexTell (trimPrefix l [120]) else digTell l

theorem trunc_key (b : Nat) (s : Bool) (m : Nat) (p : Int) (e : FloatKind.f64.decode b = Ieee.Datum.number s m p) :
    Extern.MathFloor.toIntegral "math.archTrunc" .zero #[.float .f64 b] = pure (.float .f64 (FloatKind.f64.encode ((Ieee.Datum.number s m p).integral .zero))) := by
  have h : Extern.MathFloor.toIntegral "math.archTrunc" .zero #[.float .f64 b] = Extern.MathFloor.toIntegral "math.archTrunc" .zero #[.float .f64 b] := rfl
  conv at h => rhs; whnf
  rw [h, e]

theorem runTruncA (b : Nat) (h : rungOf b < 9218868437227405312) (w : World) : (callFunc 76 #[.float .f64 b]).run Tryd.prog w = .ok (.value (.float .f64 (intW (negOf b) (qOf b)))) w := by
  rw [run_callFunc_extern (e := Extern.MathFloor.toIntegral "math.archTrunc" .zero) Tryd.func76 (by kernel_rfl) (by kernel_rfl) (by kernel_rfl) (by kernel_rfl)]
  have t := trunc_is b h
  obtain ⟨m, p, e, hm⟩ := decode_num b h
  rw [e] at t
  rw [trunc_key b _ _ _ e, t]
  rfl

theorem trunc_any (b : Nat) (h : rungOf b < 9218868437227405312) (w : World) : Calls Tryd.prog 68 #[.float .f64 b] w fun en w' => en = .returned (.float .f64 (intW (negOf b) (qOf b))) ∧ w = w' := by
  have h2 := runTruncA b h
  clear h
  revert h2
  generalize intW (negOf b) (qOf b) = t
  intro h2
  go_enter Tryd.func68, Tryd.ntmps68
  go_wp2
  go_ret
  exact ⟨rfl, rfl⟩

theorem class_fin {b : Nat} (hc : classB b = 2 ∨ classB b = 4 ∨ classB b = 5) : rungOf b < 9218868437227405312 := by
  unfold classB at hc
  have := rungOf_lt b
  by_cases h1 : 9218868437227405312 < rungOf b
  · rw [if_pos h1] at hc; omega
  · rw [if_neg h1] at hc
    by_cases h2 : rungOf b = 9218868437227405312
    · rw [if_pos h2] at hc
      split at hc <;> omega
    · omega
theorem nOf_range {b : Nat} (h : wholeB b = true) : -999999999999999 ≤ nOf b ∧ nOf b ≤ 999999999999999 ∧ qOf b ≤ 999999999999999 ∧ evenB b = true := by
  unfold wholeB at h
  rw [Bool.and_eq_true, decide_eq_true_eq] at h
  refine ⟨?_, ?_, h.1, h.2⟩ <;> unfold nOf sgn <;> split <;> omega

theorem run_conv_int (b : Nat) (h : rungOf b < 9218868437227405312) (hq : qOf b ≤ 999999999999999) (w : World) : (convert 23 3 (.float .f64 b)).run Tryd.prog w = .ok (.int .i64 (nOf b)) w :=
  run_convert_float_int w 23 3 .f64 .i64 b (nOf b) (by kernel_rfl) Tryd.underlying3 (toInt_is b h (Nat.le_trans hq (by decide)))

theorem class_vals (b : Nat) : classB b = 0 ∨ classB b = 1 ∨ classB b = 6 ∨ classB b = 3 ∨ classB b = 2 ∨ classB b = 4 ∨ classB b = 5 := by
  unfold classB
  split
  · omega
  split
  · split <;> omega
  split
  · split <;> omega
  split <;> omega
theorem whole_zero {b : Nat} (h : classB b = 4) : wholeB b = true ∧ rungOf b = 0 ∧ negOf b = false := by
  have hr : rungOf b = 0 ∧ negOf b = false := by
    unfold classB at h
    split at h
    · omega
    split at h
    · split at h <;> omega
    split at h
    · rename_i h0
      split at h
      · omega
      · rename_i h1
        exact ⟨h0, by simpa using h1⟩
    · split at h <;> omega
  refine ⟨?_, hr⟩
  have hm : magM (rungOf b) = 0 := by rw [hr.1]; rfl
  unfold wholeB evenB qOf
  rw [hm, Nat.zero_div, Nat.zero_mod]
  rfl
theorem class_nz {b : Nat} (h : classB b = 2 ∨ classB b = 5) : rungOf b ≠ 0 := by
  intro h0
  unfold classB at h
  rw [if_neg (by omega), if_neg (by omega), if_pos h0] at h
  split at h <;> omega

end Go.Proofs.YtidjnfjpdnjogaaDoor
