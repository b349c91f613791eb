/-
  Package real: every text as a number; and that what is told is read. Conditions: none.
-/
import Derived.Test.YtidjnfjpdnjogaaDoorPrC8
import Derived.Test.YtidjnfjpdnjogaaDoorPrC4
namespace Go.Proofs.YtidjnfjpdnjogaaDoor
open Go.RowKit Go.Lib

theorem parse_num (s : ByteArray) (hp : Plainly s) (hx : hasPrefix s.data.toList [120] = false) (w : World) : Calls Tryd.prog 34 #[.string s] w fun en w' => en = .returned (tellsF (digTell s.data.toList)) ∧ w = w' := by
  obtain ⟨f1, f2, f3, f4⟩ := hp
  have HC : Hid (∀ w, Calls Tryd.prog 55 #[.string s, .string ⟨#[120]⟩] w (fun e w' => e = .returned (.tuple #[.string s, .bool false]) ∧ w' = w)) := Lib.hid fun w => by
    have h := Tryd.strings_CutPrefix s ⟨#[120]⟩ w
    have e1 : trimPrefix s.data.toList (ByteArray.mk #[120]).data.toList = s.data.toList := by
      unfold trimPrefix
      rw [show hasPrefix s.data.toList (ByteArray.mk #[120]).data.toList = false from hx]
      rfl
    have e2 : hasPrefix s.data.toList (ByteArray.mk #[120]).data.toList = false := hx
    rw [e1, e2] at h
    exact h
  have HN := Lib.hid (number_any s)
  have hd : digTell s.data.toList = if (numberOf s.data.toList).2 ≠ 0 ∨ 999999999999999 < (numberOf s.data.toList).1 ∨ (numberOf s.data.toList).1 < -999999999999999 then (0, 6) else (intF (numberOf s.data.toList).1, 0) := rfl
  rw [hd]
  clear hd hx
  revert HN
  generalize numberOf s.data.toList = r
  intro HN
  obtain ⟨n, e⟩ := r
  have hcv : ∀ w : World, (convert 3 23 (.int .i64 n)).run Tryd.prog w = .ok (.float .f64 (intF n)) w := fun w => run_convert_int_float w 3 23 .i64 .f64 n (by kernel_rfl) Tryd.underlying23
  unfold tells at HN
  by_cases he : e = 0
  · subst he
    by_cases h1 : 999999999999999 < n
    · rw [if_pos (Or.inr (Or.inl h1))]
      go_enter Tryd.func34, Tryd.ntmps34
      go_wp2_with fail
      refine (HC.out _).mono ?_
      rintro en w1 ⟨rfl, rfl⟩
      go_wp2_with fail
      refine (HN.out _).mono ?_
      rintro en w1 ⟨rfl, rfl⟩
      go_wp2
      exact bodyPost_ret (v := tellsF (0, 6)) (by simp [results, Tryd.results34, go_sem, tellsF]) rfl ⟨rfl, rfl⟩
    · by_cases h2 : n < -999999999999999
      · rw [if_pos (Or.inr (Or.inr h2))]
        go_enter Tryd.func34, Tryd.ntmps34
        go_wp2_with fail
        refine (HC.out _).mono ?_
        rintro en w1 ⟨rfl, rfl⟩
        go_wp2_with fail
        refine (HN.out _).mono ?_
        rintro en w1 ⟨rfl, rfl⟩
        go_wp2
        exact bodyPost_ret (v := tellsF (0, 6)) (by simp [results, Tryd.results34, go_sem, tellsF]) rfl ⟨rfl, rfl⟩
      · rw [if_neg (by rintro (h | h | h) <;> first | exact h rfl | exact h1 h | exact h2 h)]
        revert hcv
        generalize intF n = x
        intro hcv
        go_enter Tryd.func34, Tryd.ntmps34
        go_wp2_with fail
        refine (HC.out _).mono ?_
        rintro en w1 ⟨rfl, rfl⟩
        go_wp2_with fail
        refine (HN.out _).mono ?_
        rintro en w1 ⟨rfl, rfl⟩
        go_wp2
        exact bodyPost_ret (v := tellsF (x, 0)) (by simp [results, Tryd.results34, go_sem, tellsF]) rfl ⟨rfl, rfl⟩
  · rw [if_pos (Or.inl he)]
    have he2 : (e != 0) = true := by simpa using he
    clear he hcv
    go_enter Tryd.func34, Tryd.ntmps34
    go_wp2_with fail
    refine (HC.out _).mono ?_
    rintro en w1 ⟨rfl, rfl⟩
    go_wp2_with fail
    refine (HN.out _).mono ?_
    rintro en w1 ⟨rfl, rfl⟩
    go_wp2
    exact bodyPost_ret (v := tellsF (0, 6)) (by simp [results, Tryd.results34, go_sem, tellsF]) rfl ⟨rfl, rfl⟩

theorem of_list {s : ByteArray} {l : List UInt8} (h : s.data.toList = l) : s = ⟨l.toArray⟩ := by
  subst h
  apply ByteArray.ext
  simp

theorem parse_any (s : ByteArray) (hs : s.size ≤ 281474976710656) (w : World) : Calls Tryd.prog 34 #[.string s] w fun en w' => en = .returned (tellsF (parseB s.data.toList)) ∧ w = w' := by
  by_cases h1 : s.data.toList = [110, 97, 110]
  · rw [parseB, if_pos h1, of_list h1]; exact parse_nan w
  by_cases h2 : s.data.toList = [105, 110, 102]
  · rw [parseB, if_neg h1, if_pos h2, of_list h2]; exact parse_inf w
  by_cases h3 : s.data.toList = [45, 105, 110, 102]
  · rw [parseB, if_neg h1, if_neg h2, if_pos h3, of_list h3]; exact parse_minf w
  by_cases h4 : s.data.toList = [45, 48]
  · rw [parseB, if_neg h1, if_neg h2, if_neg h3, if_pos h4, of_list h4]; exact parse_mzero w
  rw [parseB, if_neg h1, if_neg h2, if_neg h3, if_neg h4]
  have hp : Plainly s := by
    refine ⟨?_, ?_, ?_, ?_⟩ <;> rw [Lib.toList_data] <;> simpa using by assumption
  cases hx : hasPrefix s.data.toList [120]
  · exact parse_num s hp hx w
  · exact parse_x s hs hp hx w

/-! The plain law: what is told is read. -/
theorem parseB_low {l : List UInt8} (h : l.length ≠ 2 ∧ l.length ≠ 3 ∧ l.length ≠ 4) : parseB l = if hasPrefix l [120] then hexTell (trimPrefix l [120]) else digTell l := by
  rw [parseB, if_neg (by rintro rfl; exact h.2.1 rfl), if_neg (by rintro rfl; exact h.2.1 rfl), if_neg (by rintro rfl; exact h.2.2 rfl), if_neg (by rintro rfl; exact h.1 rfl)]

theorem pre_x (c : UInt8) (l : List UInt8) : hasPrefix (c :: l) [120] = (c == 120) := by
  show ((120 : UInt8) == c && List.isPrefixOf [] l) = _
  rw [List.isPrefixOf, Bool.and_true, Bool.beq_comm]
theorem parse_hexDig (b : Nat) (hb : b < 18446744073709551616) : parseB (120 :: hexDig b) = (oneW b, 0) := by
  rw [parseB_low (by rw [List.length_cons, hexDig_length]; decide), pre_x]
  have e : trimPrefix (120 :: hexDig b) [120] = hexDig b := by
    unfold trimPrefix
    rw [pre_x]; rfl
  rw [e, hexTell_dig b hb]; rfl

/-- The text of a whole number is none of the words. -/
theorem itoa_plain (n : Int) : itoa n ≠ [110, 97, 110] ∧ itoa n ≠ [105, 110, 102] ∧ itoa n ≠ [45, 105, 110, 102] ∧ itoa n ≠ [45, 48] ∧ hasPrefix (itoa n) [120] = false := by
  by_cases h : n < 0
  · rw [itoa_minus h]
    obtain ⟨c, l, e, hc⟩ := dec_cons n.natAbs
    have h0 := dec_head n.natAbs (by omega)
    rw [e] at h0 ⊢
    simp only [List.getD_cons_zero] at h0
    refine ⟨by simp, by simp, ?_, ?_, by rw [pre_x]; decide⟩
    · intro h1
      simp only [List.cons.injEq, true_and] at h1
      obtain ⟨rfl, _⟩ := h1
      exact absurd hc (by decide)
    · intro h1
      simp only [List.cons.injEq, true_and] at h1
      obtain ⟨rfl, _⟩ := h1
      exact h0 rfl
  · rw [itoa_pos h]
    obtain ⟨c, l, e, hc⟩ := dec_cons n.toNat
    rw [e]
    refine ⟨?_, ?_, ?_, ?_, ?_⟩
    · intro h1; simp only [List.cons.injEq] at h1; rw [h1.1] at hc; exact absurd hc (by decide)
    · intro h1; simp only [List.cons.injEq] at h1; rw [h1.1] at hc; exact absurd hc (by decide)
    · intro h1; simp only [List.cons.injEq] at h1; rw [h1.1] at hc; exact absurd hc (by decide)
    · intro h1; simp only [List.cons.injEq] at h1; rw [h1.1] at hc; exact absurd hc (by decide)
    · rw [pre_x, beq_eq_false_iff_ne]
      rintro rfl
      exact absurd hc (by decide)

theorem parse_itoa (n : Int) (h0 : -999999999999999 ≤ n) (h1 : n ≤ 999999999999999) : parseB (itoa n) = (intF n, 0) := by
  obtain ⟨a1, a2, a3, a4, a5⟩ := itoa_plain n
  rw [parseB, if_neg a1, if_neg a2, if_neg a3, if_neg a4, a5]
  simp only [Bool.false_eq_true, if_false]
  rw [digTell, number_itoa n (by omega) (by omega)]
  rw [if_neg]
  simp only
  omega

theorem word_of {b : Nat} (hb : b < 18446744073709551616) : b = (if negOf b then 9223372036854775808 else 0) + rungOf b := by
  unfold negOf rungOf
  by_cases hc : b / 9223372036854775808 % 2 = 1
  · rw [if_pos (by simpa using hc)]; omega
  · rw [if_neg (by simpa using hc)]; omega
theorem class_word {b : Nat} (hb : b < 18446744073709551616) : (classB b = 0 → ¬ fine b) ∧ (classB b = 1 → b = 18442240474082181120) ∧ (classB b = 6 → b = 9218868437227405312) ∧ (classB b = 3 → b = 9223372036854775808) ∧ (classB b = 4 → b = 0) ∧ (classB b ≠ 0 → fine b) := by
  have hw := word_of hb
  have hr := rungOf_lt b
  unfold classB fine
  revert hw hr
  generalize rungOf b = r
  generalize negOf b = s
  intro hw hr
  by_cases h1 : 9218868437227405312 < r
  · rw [if_pos h1]
    exact ⟨fun _ => by omega, fun h => by omega, fun h => by omega, fun h => by omega, fun h => by omega, fun h => absurd rfl h⟩
  · rw [if_neg h1]
    by_cases h2 : r = 9218868437227405312
    · subst h2
      cases s <;> simp at hw ⊢ <;> exact hw
    · rw [if_neg h2]
      by_cases h3 : r = 0
      · subst h3
        cases s <;> simp at hw ⊢ <;> exact hw
      · rw [if_neg h3]
        cases s <;> simp <;> omega

theorem nan_word {b : Nat} (h : ¬ fine b) : oneW b = 9221120237041090560 := oneW_nan (nanW_not h)
theorem intF_zero : intF 0 = 0 := by decide +kernel

theorem parse_text (b : Nat) (hb : b < 18446744073709551616) : parseB (textB b) = (oneW b, 0) := by
  obtain ⟨c0, c1, c6, c3, c4, cf⟩ := class_word hb
  rcases class_vals b with h | h | h | h | h
  · rw [textB, if_pos h, nan_word (c0 h)]; decide +kernel
  · rw [textB, if_neg (by omega), if_pos h, c1 h]; decide +kernel
  · rw [textB, if_neg (by omega), if_neg (by omega), if_pos h, c6 h]; decide +kernel
  · rw [textB, if_neg (by omega), if_neg (by omega), if_neg (by omega), if_pos h, c3 h]; decide +kernel
  · rw [textB, if_neg (by omega), if_neg (by omega), if_neg (by omega), if_neg (by omega)]
    have hone : oneW b = b := oneW_not (nanW_fine (cf (by omega)))
    cases hw : wholeB b
    · rw [if_neg (by decide), parse_hexDig b hb]
    · obtain ⟨n0, n1, n2, n3⟩ := nOf_range hw
      rw [if_pos rfl, parse_itoa _ n0 n1, hone]
      rcases h with h | h | h
      · rw [intF_back b hb (Nat.le_trans n2 (by decide)) n3 (class_nz (Or.inl h))]
      · have : nOf b = 0 := by
          obtain ⟨_, r0, s0⟩ := whole_zero h
          unfold nOf qOf
          rw [r0, s0]
          show ((magM 0 / UU : Nat) : Int) = 0
          rw [show magM 0 = 0 from rfl, Nat.zero_div]; rfl
        rw [this, intF_zero, c4 h]
      · rw [intF_back b hb (Nat.le_trans n2 (by decide)) n3 (class_nz (Or.inr h))]

theorem textB_one (b : Nat) : textB (oneW b) = textB b := by
  rcases (Classical.em (fine b)) with h | h
  · rw [oneW_not (nanW_fine h)]
  · rw [nan_word h]
    have : classB b = 0 := by
      unfold fine at h
      rw [classB, if_pos (by omega)]
    rw [textB, textB, if_pos this]
    decide +kernel
theorem text_same (a b : Nat) (ha : a < 18446744073709551616) (hb : b < 18446744073709551616) : textB a = textB b ↔ oneW a = oneW b := by
  constructor
  · intro h
    have h1 := parse_text a ha
    rw [h, parse_text b hb] at h1
    exact (Prod.mk.inj h1).1.symm
  · intro h
    rw [← textB_one a, ← textB_one b, h]

theorem text_len (b : Nat) : 1 ≤ (textB b).length ∧ (textB b).length ≤ 17 := by
  unfold textB
  split
  · decide
  split
  · decide
  split
  · decide
  split
  · decide
  split
  · rename_i hw
    obtain ⟨n0, n1, _, _⟩ := nOf_range hw
    by_cases h : nOf b < 0
    · rw [itoa_minus h, List.length_cons, decDigits_length]
      have := nDigits_le 14 (nOf b).natAbs (by omega)
      omega
    · rw [itoa_pos h, decDigits_length]
      have := nDigits_le 14 (nOf b).toNat (by omega)
      have := nDigits_pos (nOf b).toNat
      omega
  · rw [List.length_cons, hexDig_length]; decide
end Go.Proofs.YtidjnfjpdnjogaaDoor
