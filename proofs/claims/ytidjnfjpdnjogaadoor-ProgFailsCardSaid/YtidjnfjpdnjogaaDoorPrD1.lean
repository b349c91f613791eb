/-
  The document's floats: bits, classes, texts. Conditions: none.
-/
import Derived.Test.YtidjnfjpdnjogaaDoorPrC9
import Derived.Test.YtidjnfjpdnjogaaDoorRDig
namespace Go.Proofs.YtidjnfjpdnjogaaDoor
open Go.RowKit Go.Lib

theorem dbits_any (b : Nat) (w : World) : Calls Tryd.prog 26 #[.float .f64 b] w fun en w' => en = .returned (.int .u64 (oneW b : Nat)) ∧ w = w' := by
  have h56 := runBits
  cases h : nanW b
  · rw [oneW_not h]
    have hn : (FloatKind.f64.format.order b b != some .eq) = false := h
    clear h
    go_enter Tryd.func26, Tryd.ntmps26
    go_wp2
    go_ret
    exact ⟨rfl, rfl⟩
  · rw [oneW_nan h]
    have hn : (FloatKind.f64.format.order b b != some .eq) = true := h
    clear h
    go_enter Tryd.func26, Tryd.ntmps26
    go_wp2
    go_ret
    exact ⟨rfl, rfl⟩

theorem dof_any (n : Nat) (w : World) : Calls Tryd.prog 8 #[.int .u64 n] w fun en w' => en = .returned (.float .f64 (oneW n)) ∧ w = w' := by
  have h57 := runFrom
  cases h : nanW n
  · rw [oneW_not h]
    have hn : (FloatKind.f64.format.order n n != some .eq) = false := h
    clear h
    go_enter Tryd.func8, Tryd.ntmps8
    go_wp2
    go_ret
    exact ⟨rfl, rfl⟩
  · rw [oneW_nan h]
    have hn : (FloatKind.f64.format.order n n != some .eq) = true := h
    clear h
    go_enter Tryd.func8, Tryd.ntmps8
    go_wp2
    go_ret
    exact ⟨rfl, rfl⟩

theorem dsame_any (a b : Nat) (w : World) : Calls Tryd.prog 14 #[.float .f64 a, .float .f64 b] w fun en w' => en = .returned (.bool (sameW a b)) ∧ w = w' := by
  have hs : (((oneW a : Nat) : Int) == ((oneW b : Nat) : Int)) = sameW a b := by
    unfold sameW; rw [Bool.eq_iff_iff]; simp; omega
  have HS := Lib.hid hs; clear hs
  go_enter Tryd.func14, Tryd.ntmps14
  go_wp2_with fail
  refine (dbits_any a _).mono ?_
  rintro en w1 ⟨rfl, rfl⟩
  go_wp2_with fail
  refine (dbits_any b _).mono ?_
  rintro en w1 ⟨rfl, rfl⟩
  go_wp2
  go_ret
  exact ⟨by rw [← HS.out]; simp, rfl⟩

theorem nan_mask (b : Nat) (hb : b < 18446744073709551616) : bits .and .u64 (b : Int) 9223372036854775807 = ((rungOf b : Nat) : Int) := by
  rw [show (9223372036854775807 : Int) = ((9223372036854775807 : Nat) : Int) from rfl, bits_and_u64_nat b _ hb (by decide)]
  rw [show (9223372036854775807 : Nat) = 2 ^ 63 - 1 from rfl, Nat.and_two_pow_sub_one_eq_mod]; rfl

theorem neg_shift (b : Nat) (hb : b < 18446744073709551616) : ((b : Int) / 9223372036854775808 == 1) = negOf b := by
  unfold negOf
  rw [Bool.eq_iff_iff, beq_iff_eq, beq_iff_eq]
  omega

theorem dclass_any (b : Nat) (hb : b < 18446744073709551616) (w : World) : Calls Tryd.prog 17 #[.float .f64 b] w fun en w' => en = .returned (.int .i64 (classB b : Nat)) ∧ w = w' := by
  have HB := Lib.hid (dbits_any b)
  rcases Classical.em (fine b) with hf | hf
  · have hn : (FloatKind.f64.format.order b b != some .eq) = false := nanW_fine hf
    have h1 := neg_shift b hb
    have h2 := nan_mask b hb
    rw [oneW_not (nanW_fine hf)] at HB
    have hc : classB b = if rungOf b = 9218868437227405312 then (if negOf b then 1 else 6) else if rungOf b = 0 then (if negOf b then 3 else 4) else if negOf b then 2 else 5 := by
      unfold fine at hf
      rw [classB, if_neg (by omega)]
    rw [hc]
    clear hc hf hb
    revert h1 h2
    generalize negOf b = s
    generalize rungOf b = r
    intro h1 h2
    by_cases hi : r = 9218868437227405312
    · subst hi
      cases s
      all_goals
        go_enter Tryd.func17, Tryd.ntmps17
        go_wp2_with fail
        refine (HB.out _).mono ?_
        rintro en w1 ⟨rfl, rfl⟩
        go_wp2
        go_ret
        exact ⟨rfl, rfl⟩
    · have k1 : ((r : Int) == 9218868437227405312) = false := beq_eq_false_iff_ne.2 (by omega)
      rw [if_neg hi]
      clear hi
      by_cases h0 : r = 0
      · subst h0
        cases s
        all_goals
          go_enter Tryd.func17, Tryd.ntmps17
          go_wp2_with fail
          refine (HB.out _).mono ?_
          rintro en w1 ⟨rfl, rfl⟩
          go_wp2
          go_ret
          exact ⟨rfl, rfl⟩
      · have k2 : ((r : Int) == 0) = false := beq_eq_false_iff_ne.2 (by omega)
        rw [if_neg h0]
        clear h0
        cases s
        all_goals
          go_enter Tryd.func17, Tryd.ntmps17
          go_wp2_with fail
          refine (HB.out _).mono ?_
          rintro en w1 ⟨rfl, rfl⟩
          go_wp2
          go_ret
          exact ⟨rfl, rfl⟩
  · have hn : (FloatKind.f64.format.order b b != some .eq) = true := nanW_not hf
    have hc : classB b = 0 := by
      unfold fine at hf
      rw [classB, if_pos (by omega)]
    rw [hc]
    rw [nan_word hf] at HB
    clear hc hf hb
    go_enter Tryd.func17, Tryd.ntmps17
    go_wp2_with fail
    refine (HB.out _).mono ?_
    rintro en w1 ⟨rfl, rfl⟩
    go_wp2
    go_ret
    exact ⟨rfl, rfl⟩

/-! Texts. -/
theorem dtext_c (b : Nat) (hb : b < 18446744073709551616) (c : Nat) (l : ByteArray) (hc : classB b = c) (hl : (c = 0 ∧ l = ⟨#[110, 97, 110]⟩) ∨ (c = 1 ∧ l = ⟨#[45, 105, 110, 102]⟩) ∨ (c = 6 ∧ l = ⟨#[105, 110, 102]⟩) ∨ (c = 3 ∧ l = ⟨#[45, 48]⟩) ∨ (c = 4 ∧ l = ⟨#[48]⟩)) (w : World) :
    Calls Tryd.prog 9 #[.float .f64 b] w fun en w' => en = .returned (.string l) ∧ w = w' := by
  have HK := Lib.hid (dclass_any b hb)
  rw [hc] at HK
  clear hc hb
  rcases hl with ⟨rfl, rfl⟩ | ⟨rfl, rfl⟩ | ⟨rfl, rfl⟩ | ⟨rfl, rfl⟩ | ⟨rfl, rfl⟩
  all_goals
    go_enter Tryd.func9, Tryd.ntmps9
    go_wp2_with fail
    refine (HK.out _).mono ?_
    rintro en w1 ⟨rfl, rfl⟩
    go_wp2
    go_ret
    exact ⟨rfl, rfl⟩

/-- The test of the document: the int of a float, as a float, is it again. -/
theorem dwhole_test (b : Nat) (h : rungOf b < 9218868437227405312) (hq : qOf b ≤ 999999999999999) : (Ieee.double.order (intF (nOf b)) b == some .eq) = evenB b := by
  have hn : -9007199254740992 ≤ nOf b ∧ nOf b ≤ 9007199254740992 := by
    unfold nOf sgn
    split <;> omega
  rw [eq_fine _ _ (intF_fine _ hn) (by unfold fine; omega), intF_val _ hn.1 hn.2, nOf, sgn_mul, valF, evenB, qOf]
  rw [Bool.eq_iff_iff, decide_eq_true_eq, beq_iff_eq, sgn_inj]
  have h1 := Nat.div_add_mod (magM (rungOf b)) UU
  have h2 := UU_pos
  rw [Nat.mul_comm] at h1
  revert h1 h2
  generalize magM (rungOf b) / UU * UU = x
  generalize magM (rungOf b) % UU = y
  intro h1 h2
  omega

theorem dtext_whole (b : Nat) (hb : b < 18446744073709551616) (hc : classB b = 2 ∨ classB b = 5) (hw : wholeB b = true) (w : World) :
    Calls Tryd.prog 9 #[.float .f64 b] w fun en w' => en = .returned (.string ⟨(itoa (nOf b)).toArray⟩) ∧ Below w.heap.size w w' := by
  have HK := Lib.hid (dclass_any b hb)
  have hfin := class_fin (show classB b = 2 ∨ classB b = 4 ∨ classB b = 5 by omega)
  obtain ⟨n0, n1, n2, n3⟩ := nOf_range hw
  have hcv := run_conv_int b hfin n2
  have hcw : ∀ w : World, (convert 3 23 (.int .i64 (nOf b))).run Tryd.prog w = .ok (.float .f64 (intF (nOf b))) w := fun w => run_convert_int_float w 3 23 .i64 .f64 _ (by kernel_rfl) Tryd.underlying23
  have ht : (FloatKind.f64.format.order (intF (nOf b)) b == some .eq) = true := (dwhole_test b hfin n2).trans n3
  have HD := Lib.hid (fun w => rdigits_any (nOf b) (by omega) (by omega) w)
  have k0 : (((classB b : Nat) : Int) == 0) = false := by rcases hc with h | h <;> rw [h] <;> rfl
  have k1 : (((classB b : Nat) : Int) == 1) = false := by rcases hc with h | h <;> rw [h] <;> rfl
  have k3 : (((classB b : Nat) : Int) == 3) = false := by rcases hc with h | h <;> rw [h] <;> rfl
  have k4 : (((classB b : Nat) : Int) == 4) = false := by rcases hc with h | h <;> rw [h] <;> rfl
  have k6 : (((classB b : Nat) : Int) == 6) = false := by rcases hc with h | h <;> rw [h] <;> rfl
  have g : (FloatKind.f64.format.order b 14054727237768577016 == some .gt || FloatKind.f64.format.order b 14054727237768577016 == some .eq) = true ∧ (FloatKind.f64.format.order b 4831355200913801208 == some .lt || FloatKind.f64.format.order b 4831355200913801208 == some .eq) = true := by
    rcases whole_cases b hfin with ⟨_, h⟩ | ⟨_, _, h⟩ | ⟨h1, h2, _, _⟩
    · rw [hw] at h; cases h
    · rw [hw] at h; cases h
    · exact ⟨h1, h2⟩
  obtain ⟨g1, g2⟩ := g
  clear hc hw hfin n0 n1 n2 n3 hb
  revert HK hcv hcw ht HD k0 k1 k3 k4 k6
  generalize intF (nOf b) = x
  generalize nOf b = n
  generalize ((classB b : Nat) : Int) = c
  intro HK hcv hcw ht HD k0 k1 k3 k4 k6
  go_enter Tryd.func9, Tryd.ntmps9
  go_wp2_with fail
  refine (HK.out _).mono ?_
  rintro en w1 ⟨rfl, rfl⟩
  go_wp2_with fail
  refine (HD.out _).mono ?_
  rintro en w1 ⟨rfl, hbl⟩
  go_wp2
  go_ret
  exact ⟨rfl, hbl⟩
end Go.Proofs.YtidjnfjpdnjogaaDoor
