/-
  Package real: the text of every number, every text as a number. Conditions: none.
-/
import Derived.Test.YtelkobogohbhlaaDoorRealC5
import Derived.Test.YtelkobogohbhlaaDoorRealW
import Derived.Laws.Cover2
namespace Go.Proofs.YtelkobogohbhlaaDoor
open Go.RowKit Go.Lib

/-- A number's text. -/
def textB (b : Nat) : List UInt8 :=
  if classB b = 0 then [110, 97, 110] else if classB b = 1 then [45, 105, 110, 102] else if classB b = 6 then [105, 110, 102] else if classB b = 3 then [45, 48]
  else if wholeB b then itoa (nOf b) else 120 :: hexDig b

/-- What a text that is written by digits tells. -/
def digTell (l : List UInt8) : Nat × Int :=
  if (numberOf l).2 ≠ 0 ∨ 999999999999999 < (numberOf l).1 ∨ (numberOf l).1 < -999999999999999 then (0, 6) else (intF (numberOf l).1, 0)
/-- What a text tells: a number's bits, and the error's number. -/
def parseB (l : List UInt8) : Nat × Int :=
  if l = [110, 97, 110] then (9221120237041090560, 0) else if l = [105, 110, 102] then (9218868437227405312, 0) else if l = [45, 105, 110, 102] then (18442240474082181120, 0)
  else if l = [45, 48] then (9223372036854775808, 0) else if hasPrefix l [120] then hexTell (trimPrefix l [120]) else digTell l

theorem trunc_key (b : Nat) (s : Bool) (m : Nat) (p : Int) (e : FloatKind.f64.decode b = Ieee.Datum.number s m p) :
    Extern.MathFloor.toIntegral "math.archTrunc" .zero #[.float .f64 b] = pure (.float .f64 (FloatKind.f64.encode ((Ieee.Datum.number s m p).integral .zero))) := by
  have h : Extern.MathFloor.toIntegral "math.archTrunc" .zero #[.float .f64 b] = Extern.MathFloor.toIntegral "math.archTrunc" .zero #[.float .f64 b] := rfl
  conv at h => rhs; whnf
  rw [h, e]

theorem runTruncA (b : Nat) (h : rungOf b < 9218868437227405312) (w : World) : (callFunc 57 #[.float .f64 b]).run Tryd.prog w = .ok (.value (.float .f64 (intW (negOf b) (qOf b)))) w := by
  rw [run_callFunc_extern (e := Extern.MathFloor.toIntegral "math.archTrunc" .zero) Tryd.func57 (by kernel_rfl) (by kernel_rfl) (by kernel_rfl) (by kernel_rfl)]
  have t := trunc_is b h
  obtain ⟨m, p, e, hm⟩ := decode_num b h
  rw [e] at t
  rw [trunc_key b _ _ _ e, t]
  rfl

theorem trunc_any (b : Nat) (h : rungOf b < 9218868437227405312) (w : World) : Calls Tryd.prog 52 #[.float .f64 b] w fun en w' => en = .returned (.float .f64 (intW (negOf b) (qOf b))) ∧ w = w' := by
  have h2 := runTruncA b h
  clear h
  revert h2
  generalize intW (negOf b) (qOf b) = t
  intro h2
  go_enter Tryd.func52, Tryd.ntmps52
  go_wp2
  go_ret
  exact ⟨rfl, rfl⟩

theorem whole_any (b : Nat) (h : rungOf b < 9218868437227405312) (w : World) : Calls Tryd.prog 43 #[.float .f64 b] w fun en w' => en = .returned (.bool (wholeB b)) ∧ w = w' := by
  have HT := Lib.hid (trunc_any b h)
  have hw := fun hq => whole_test b h (Nat.le_trans hq (by decide : 999999999999999 ≤ 9007199254740992))
  rcases whole_cases b h with ⟨h1, h2⟩ | ⟨h1, h2, h3⟩ | ⟨h1, h2, h3, h4⟩
  · rw [h2]
    have h1' : (FloatKind.f64.format.order b 14054727237768577016 == some .gt || FloatKind.f64.format.order b 14054727237768577016 == some .eq) = false := h1
    clear hw h h1 h2
    go_enter Tryd.func43, Tryd.ntmps43
    go_wp2
    go_ret
    exact ⟨rfl, rfl⟩
  · rw [h3]
    have h1' : (FloatKind.f64.format.order b 14054727237768577016 == some .gt || FloatKind.f64.format.order b 14054727237768577016 == some .eq) = true := h1
    have h2' : (FloatKind.f64.format.order b 4831355200913801208 == some .lt || FloatKind.f64.format.order b 4831355200913801208 == some .eq) = false := h2
    clear hw h h1 h2 h3
    go_enter Tryd.func43, Tryd.ntmps43
    go_wp2
    go_ret
    exact ⟨rfl, rfl⟩
  · rw [h4]
    have h1' : (FloatKind.f64.format.order b 14054727237768577016 == some .gt || FloatKind.f64.format.order b 14054727237768577016 == some .eq) = true := h1
    have h2' : (FloatKind.f64.format.order b 4831355200913801208 == some .lt || FloatKind.f64.format.order b 4831355200913801208 == some .eq) = true := h2
    have h5 : (FloatKind.f64.format.order b (intW (negOf b) (qOf b)) == some .eq) = evenB b := hw h3
    clear hw h h1 h2 h3 h4
    revert HT h5
    generalize intW (negOf b) (qOf b) = t
    generalize evenB b = e
    intro HT h5
    go_enter Tryd.func43, Tryd.ntmps43
    go_wp2_with fail
    refine (HT.out _).mono ?_
    rintro en w1 ⟨rfl, rfl⟩
    go_wp2
    go_ret
    exact ⟨rfl, rfl⟩

/-! The text. -/
theorem text_c (b : Nat) (hb : b < 18446744073709551616) (c : Nat) (l : ByteArray) (hc : classB b = c) (hl : (c = 0 ∧ l = ⟨#[110, 97, 110]⟩) ∨ (c = 1 ∧ l = ⟨#[45, 105, 110, 102]⟩) ∨ (c = 6 ∧ l = ⟨#[105, 110, 102]⟩) ∨ (c = 3 ∧ l = ⟨#[45, 48]⟩)) (w : World) :
    Calls Tryd.prog 24 #[.float .f64 b] w fun en w' => en = .returned (.string l) ∧ w = w' := by
  have HK := Lib.hid (class_any b hb)
  rw [hc] at HK
  clear hc hb
  rcases hl with ⟨rfl, rfl⟩ | ⟨rfl, rfl⟩ | ⟨rfl, rfl⟩ | ⟨rfl, rfl⟩
  all_goals
    go_enter Tryd.func24, Tryd.ntmps24
    go_wp2_with fail
    refine (HK.out _).mono ?_
    rintro en w1 ⟨rfl, rfl⟩
    go_wp2
    go_ret
    exact ⟨rfl, rfl⟩

theorem class_fin {b : Nat} (hc : classB b = 2 ∨ classB b = 4 ∨ classB b = 5) : rungOf b < 9218868437227405312 := by
  unfold classB at hc
  have := rungOf_lt b
  by_cases h1 : 9218868437227405312 < rungOf b
  · rw [if_pos h1] at hc; omega
  · rw [if_neg h1] at hc
    by_cases h2 : rungOf b = 9218868437227405312
    · rw [if_pos h2] at hc
      split at hc <;> omega
    · omega
theorem nOf_range {b : Nat} (h : wholeB b = true) : -999999999999999 ≤ nOf b ∧ nOf b ≤ 999999999999999 ∧ qOf b ≤ 999999999999999 ∧ evenB b = true := by
  unfold wholeB at h
  rw [Bool.and_eq_true, decide_eq_true_eq] at h
  refine ⟨?_, ?_, h.1, h.2⟩ <;> unfold nOf sgn <;> split <;> omega

theorem run_conv_int (b : Nat) (h : rungOf b < 9218868437227405312) (hq : qOf b ≤ 999999999999999) (w : World) : (convert 24 3 (.float .f64 b)).run Tryd.prog w = .ok (.int .i64 (nOf b)) w :=
  run_convert_float_int w 24 3 .f64 .i64 b (nOf b) (by kernel_rfl) Tryd.underlying3 (toInt_is b h (Nat.le_trans hq (by decide)))

theorem text_whole (b : Nat) (hb : b < 18446744073709551616) (hc : classB b = 2 ∨ classB b = 4 ∨ classB b = 5) (hw : wholeB b = true) (w : World) (ht : Tab w) :
    Calls Tryd.prog 24 #[.float .f64 b] w fun en w' => en = .returned (.string ⟨(itoa (nOf b)).toArray⟩) ∧ Below w.heap.size w w' := by
  have HK := Lib.hid (class_any b hb)
  have hfin := class_fin hc
  have HW := Lib.hid (whole_any b hfin)
  rw [hw] at HW
  obtain ⟨n0, n1, n2, _⟩ := nOf_range hw
  have hcv := run_conv_int b hfin n2
  have HD := Lib.hid (digits_any (nOf b) (by omega) (by omega) w ht)
  have k0 : (((classB b : Nat) : Int) == 0) = false := by rcases hc with h | h | h <;> rw [h] <;> rfl
  have k1 : (((classB b : Nat) : Int) == 1) = false := by rcases hc with h | h | h <;> rw [h] <;> rfl
  have k3 : (((classB b : Nat) : Int) == 3) = false := by rcases hc with h | h | h <;> rw [h] <;> rfl
  have k6 : (((classB b : Nat) : Int) == 6) = false := by rcases hc with h | h | h <;> rw [h] <;> rfl
  clear hc hw hfin n0 n1 n2 ht hb
  revert HK hcv HD k0 k1 k3 k6
  generalize nOf b = n
  generalize ((classB b : Nat) : Int) = c
  intro HK hcv HD k0 k1 k3 k6
  go_enter Tryd.func24, Tryd.ntmps24
  go_wp2_with fail
  refine (HK.out _).mono ?_
  rintro en w1 ⟨rfl, rfl⟩
  go_wp2_with fail
  refine (HW.out _).mono ?_
  rintro en w1 ⟨rfl, rfl⟩
  go_wp2_with fail
  refine HD.out.mono ?_
  rintro en w1 ⟨rfl, hbl⟩
  go_wp2
  go_ret
  exact ⟨rfl, hbl⟩

theorem class_vals (b : Nat) : classB b = 0 ∨ classB b = 1 ∨ classB b = 6 ∨ classB b = 3 ∨ classB b = 2 ∨ classB b = 4 ∨ classB b = 5 := by
  unfold classB
  split
  · omega
  split
  · split <;> omega
  split
  · split <;> omega
  split <;> omega
theorem whole_zero {b : Nat} (h : classB b = 4) : wholeB b = true ∧ rungOf b = 0 ∧ negOf b = false := by
  have hr : rungOf b = 0 ∧ negOf b = false := by
    unfold classB at h
    split at h
    · omega
    split at h
    · split at h <;> omega
    split at h
    · rename_i h0
      split at h
      · omega
      · rename_i h1
        exact ⟨h0, by simpa using h1⟩
    · split at h <;> omega
  refine ⟨?_, hr⟩
  have hm : magM (rungOf b) = 0 := by rw [hr.1]; rfl
  unfold wholeB evenB qOf
  rw [hm, Nat.zero_div, Nat.zero_mod]
  rfl
theorem class_nz {b : Nat} (h : classB b = 2 ∨ classB b = 5) : rungOf b ≠ 0 := by
  intro h0
  unfold classB at h
  rw [if_neg (by omega), if_neg (by omega), if_pos h0] at h
  split at h <;> omega

theorem text_any (b : Nat) (hb : b < 18446744073709551616) (w : World) (ht : Tab w) :
    Calls Tryd.prog 24 #[.float .f64 b] w fun en w' => en = .returned (.string ⟨(textB b).toArray⟩) ∧ Below w.heap.size w w' := by
  have low : ∀ (c : Nat) (l : ByteArray), classB b = c → ((c = 0 ∧ l = ⟨#[110, 97, 110]⟩) ∨ (c = 1 ∧ l = ⟨#[45, 105, 110, 102]⟩) ∨ (c = 6 ∧ l = ⟨#[105, 110, 102]⟩) ∨ (c = 3 ∧ l = ⟨#[45, 48]⟩)) → l = ⟨(textB b).toArray⟩ →
      Calls Tryd.prog 24 #[.float .f64 b] w fun en w' => en = .returned (.string ⟨(textB b).toArray⟩) ∧ Below w.heap.size w w' := fun c l hc hl he => by
    refine (text_c b hb c l hc hl w).mono ?_
    rintro en w' ⟨rfl, rfl⟩
    exact ⟨by rw [he], Below.refl _ _⟩
  rcases class_vals b with h | h | h | h | h
  · exact low 0 _ h (Or.inl ⟨rfl, rfl⟩) (by rw [textB, if_pos h])
  · exact low 1 _ h (Or.inr (Or.inl ⟨rfl, rfl⟩)) (by rw [textB, if_neg (by omega), if_pos h])
  · exact low 6 _ h (Or.inr (Or.inr (Or.inl ⟨rfl, rfl⟩))) (by rw [textB, if_neg (by omega), if_neg (by omega), if_pos h])
  · exact low 3 _ h (Or.inr (Or.inr (Or.inr ⟨rfl, rfl⟩))) (by rw [textB, if_neg (by omega), if_neg (by omega), if_neg (by omega), if_pos h])
  · have e1 : textB b = if wholeB b then itoa (nOf b) else 120 :: hexDig b := by
      rw [textB, if_neg (by omega), if_neg (by omega), if_neg (by omega), if_neg (by omega)]
    rw [e1]
    cases hw : wholeB b
    · have h2 : classB b = 2 ∨ classB b = 5 := by
        rcases h with h | h | h
        · exact Or.inl h
        · rw [(whole_zero h).1] at hw; cases hw
        · exact Or.inr h
      have hfin := class_fin h
      exact text_hex b hb (oneW_not (nanW_fine (by unfold fine; omega))) h2 w (fun w => hw ▸ whole_any b hfin w)
    · exact text_whole b hb h hw w ht
end Go.Proofs.YtelkobogohbhlaaDoor
