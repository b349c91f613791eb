/-
  Package real: bits, the one NaN, classes, the order. Conditions: none.
-/
import Derived.Test.YtidjnfjpdnjogaaDoorG
import Derived.Test.YtidjnfjpdnjogaaDoorRealF
import Derived.WalkLawsBesides
import Derived.Laws.Bits64b
namespace Go.Proofs.YtidjnfjpdnjogaaDoor
open Go.RowKit Go.Lib

theorem runBits (b : Nat) (w : World) : (callFunc 41 #[.float .f64 b]).run Tryd.prog w = .ok (.value (.int .u64 b)) w := by
  rw [run_callFunc_extern (e := Extern.MathFloatBits.float64bits) Tryd.func41 (by kernel_rfl) (by kernel_rfl) (by kernel_rfl) (by kernel_rfl)]; rfl
theorem runFrom (n : Int) (w : World) : (callFunc 16 #[.int .u64 n]).run Tryd.prog w = .ok (.value (.float .f64 n.toNat)) w := by
  rw [run_callFunc_extern (e := Extern.MathFloatBits.float64frombits) Tryd.func16 (by kernel_rfl) (by kernel_rfl) (by kernel_rfl) (by kernel_rfl)]; rfl

theorem oneW_nan {b : Nat} (h : nanW b = true) : oneW b = 9221120237041090560 := if_pos h
theorem oneW_not {b : Nat} (h : nanW b = false) : oneW b = b := if_neg (by rw [h]; decide)

theorem canon_any (b : Nat) (w : World) : Calls Tryd.prog 67 #[.float .f64 b] w fun en w' => en = .returned (.float .f64 (oneW b)) ∧ w = w' := by
  have h57 := runFrom
  cases h : nanW b
  · rw [oneW_not h]
    have hn : (FloatKind.f64.format.order b b != some .eq) = false := h
    clear h
    go_enter Tryd.func67, Tryd.ntmps67
    go_wp2
    go_ret
    exact ⟨rfl, rfl⟩
  · rw [oneW_nan h]
    have hn : (FloatKind.f64.format.order b b != some .eq) = true := h
    clear h
    go_enter Tryd.func67, Tryd.ntmps67
    go_wp2
    go_ret
    exact ⟨rfl, rfl⟩

theorem rof_any (n : Nat) (w : World) : Calls Tryd.prog 52 #[.int .u64 n] w fun en w' => en = .returned (.float .f64 (oneW n)) ∧ w = w' := by
  have h57 := runFrom
  go_enter Tryd.func52, Tryd.ntmps52
  go_wp2_with fail
  refine (canon_any n w).mono ?_
  rintro en w' ⟨rfl, rfl⟩
  go_wp2
  go_ret
  exact ⟨rfl, rfl⟩

def sameW (a b : Nat) : Bool := oneW a == oneW b
theorem runNeg (b : Nat) (w : World) : (Op.unary .neg (.float .f64 b)).run Tryd.prog w = .ok (.float .f64 (Op.negFloat .f64 b)) w := rfl
theorem isInf_neg (b : Nat) (hb : b < 18446744073709551616) (hf : fine b) (w : World) : Calls Tryd.prog 88 #[.float .f64 b, .int .i64 (-1)] w fun en w' => en = .returned (.bool (ltB b 18442240474082181119)) ∧ w = w' := by
  have hl : (FloatKind.f64.format.order (Op.negFloat .f64 b) 9218868437227405311 == some .gt) = ltB b 18442240474082181119 := inf_neg b hb hf
  have hng := runNeg
  clear hf hb
  cases h : ltB b 18442240474082181119
  all_goals
    rw [h] at hl
    clear h
    go_enter Tryd.func88, Tryd.ntmps88
    go_wp2
    go_ret
    exact ⟨rfl, rfl⟩
theorem isInf_pos (b : Nat) (w : World) : Calls Tryd.prog 88 #[.float .f64 b, .int .i64 1] w fun en w' => en = .returned (.bool (gtB b 9218868437227405311)) ∧ w = w' := by
  have hl : (FloatKind.f64.format.order b 9218868437227405311 == some .gt) = gtB b 9218868437227405311 := rfl
  cases h : gtB b 9218868437227405311
  all_goals
    rw [h] at hl
    clear h
    go_enter Tryd.func88, Tryd.ntmps88
    go_wp2
    go_ret
    exact ⟨rfl, rfl⟩

theorem signbit_any (b : Nat) (hb : b < 18446744073709551616) (w : World) : Calls Tryd.prog 89 #[.float .f64 b] w fun en w' => en = .returned (.bool (negOf b)) ∧ w = w' := by
  have h56 := runBits
  have hs : decide (wrap64 (b : Int) < 0) = negOf b := by
    rcases negB_cases b hb with ⟨h, h1, _⟩ | ⟨h, h1, _⟩
    · rw [h, decide_eq_true_eq]
      unfold wrap64; omega
    · rw [h, decide_eq_false_iff_not]
      unfold wrap64; omega
  clear hb
  go_enter Tryd.func89, Tryd.ntmps89
  go_wp2
  go_ret
  exact ⟨by rw [← hs]; rfl, rfl⟩

theorem class_any (b : Nat) (hb : b < 18446744073709551616) (w : World) : Calls Tryd.prog 83 #[.float .f64 b] w fun en w' => en = .returned (.int .i64 (classB b : Nat)) ∧ w = w' := by
  have H2 := Lib.hid (isInf_pos b w)
  have H3 := Lib.hid (signbit_any b hb w)
  by_cases hf : fine b
  · have H1 := Lib.hid (isInf_neg b hb hf w)
    clear hb
    have hn : (FloatKind.f64.format.order b b != some .eq) = false := nanW_fine hf
    obtain ⟨t1, t2, t3, t4⟩ := class_tests b hf
    have g2 : (FloatKind.f64.format.order b 0 == some .lt) = ltB b 0 := rfl
    have g4 : (FloatKind.f64.format.order b 0 == some .gt) = gtB b 0 := rfl
    rw [t1] at H1
    rw [t3] at H2
    rw [t2] at g2
    rw [t4] at g4
    have hc : classB b = if rungOf b = 9218868437227405312 then (if negOf b then 1 else 6) else if rungOf b = 0 then (if negOf b then 3 else 4) else if negOf b then 2 else 5 := by
      unfold fine at hf
      rw [classB, if_neg (by omega)]
    rw [hc]
    clear t1 t2 t3 t4 hc hf
    revert H1 H2 H3 g2 g4
    generalize negOf b = s
    generalize rungOf b = r
    intro H2 H3 H1 g2 g4
    by_cases hi : r = 9218868437227405312
    · subst hi
      cases s
      · have H1' : Hid (Calls Tryd.prog 88 #[.float .f64 b, .int .i64 (-1)] w fun en w' => en = .returned (.bool false) ∧ w = w') := H1.out
        have H2' : Hid (Calls Tryd.prog 88 #[.float .f64 b, .int .i64 1] w fun en w' => en = .returned (.bool true) ∧ w = w') := H2.out
        simp only [Bool.false_and] at g2
        clear H1 H2
        go_enter Tryd.func83, Tryd.ntmps83
        go_wp2_with fail
        refine H1'.out.mono ?_
        rintro en w' ⟨rfl, rfl⟩
        go_wp2_with fail
        refine H2'.out.mono ?_
        rintro en w' ⟨rfl, rfl⟩
        go_wp2
        go_ret
        exact ⟨rfl, rfl⟩
      · have H1' : Hid (Calls Tryd.prog 88 #[.float .f64 b, .int .i64 (-1)] w fun en w' => en = .returned (.bool true) ∧ w = w') := H1.out
        clear H1 H2 g2 g4
        go_enter Tryd.func83, Tryd.ntmps83
        go_wp2_with fail
        refine H1'.out.mono ?_
        rintro en w' ⟨rfl, rfl⟩
        go_wp2
        go_ret
        exact ⟨rfl, rfl⟩
    · have hd : decide (r = 9218868437227405312) = false := decide_eq_false hi
      rw [hd, Bool.and_false] at H1 H2
      rw [if_neg hi]
      clear hd hi
      by_cases h0 : r = 0
      · have hd : decide (r ≠ 0) = false := decide_eq_false (by simpa using h0)
        rw [hd, Bool.and_false] at g2 g4
        rw [if_pos h0]
        clear hd h0
        cases s
        all_goals
          go_enter Tryd.func83, Tryd.ntmps83
          go_wp2_with fail
          refine H1.out.mono ?_
          rintro en w' ⟨rfl, rfl⟩
          go_wp2_with fail
          refine H2.out.mono ?_
          rintro en w' ⟨rfl, rfl⟩
          go_wp2_with fail
          refine H3.out.mono ?_
          rintro en w' ⟨rfl, rfl⟩
          go_wp2
          go_ret
          exact ⟨rfl, rfl⟩
      · have hd : decide (r ≠ 0) = true := decide_eq_true h0
        rw [hd, Bool.and_true] at g2 g4
        rw [if_neg h0]
        clear hd h0
        cases s
        · simp only [Bool.not_false] at g4
          go_enter Tryd.func83, Tryd.ntmps83
          go_wp2_with fail
          refine H1.out.mono ?_
          rintro en w' ⟨rfl, rfl⟩
          go_wp2_with fail
          refine H2.out.mono ?_
          rintro en w' ⟨rfl, rfl⟩
          go_wp2
          go_ret
          exact ⟨rfl, rfl⟩
        · go_enter Tryd.func83, Tryd.ntmps83
          go_wp2_with fail
          refine H1.out.mono ?_
          rintro en w' ⟨rfl, rfl⟩
          go_wp2
          go_ret
          exact ⟨rfl, rfl⟩
  · have hn : (FloatKind.f64.format.order b b != some .eq) = true := nanW_not hf
    have hc : classB b = 0 := by
      unfold fine at hf
      rw [classB, if_pos (by omega)]
    rw [hc]
    clear hc hf H2 H3
    go_enter Tryd.func83, Tryd.ntmps83
    go_wp2
    go_ret
    exact ⟨rfl, rfl⟩

theorem rankf_any (b : Nat) (hb : b < 18446744073709551616) (w : World) : Calls Tryd.prog 75 #[.float .f64 b] w fun en w' => en = .returned (.int .i64 (rankB b : Nat)) ∧ w = w' := by
  have H := Lib.hid (class_any b hb w)
  have hr : rankB b = if classB b = 0 then 7 else classB b := rfl
  rw [hr]
  clear hr
  revert H
  generalize classB b = c
  intro H
  by_cases h : c = 0
  · subst h
    rw [if_pos rfl]
    go_enter Tryd.func75, Tryd.ntmps75
    go_wp2_with fail
    refine H.out.mono ?_
    rintro en w' ⟨rfl, rfl⟩
    go_wp2
    go_ret
    exact ⟨rfl, rfl⟩
  · rw [if_neg h]
    have h2 : ((c : Int) == 0) = false := beq_eq_false_iff_ne.2 (by omega)
    have h3 : ((c : Int) != 0) = true := by rw [bne, h2]; rfl
    clear h
    go_enter Tryd.func75, Tryd.ntmps75
    go_wp2_with fail
    refine H.out.mono ?_
    rintro en w' ⟨rfl, rfl⟩
    go_wp2
    go_ret
    exact ⟨rfl, rfl⟩

theorem less_any (a b : Nat) (ha : a < 18446744073709551616) (hb : b < 18446744073709551616) (w : World) : Calls Tryd.prog 66 #[.float .f64 a, .float .f64 b] w fun en w' => en = .returned (.bool (lessB a b)) ∧ w = w' := by
  have H1 := Lib.hid (rankf_any a ha w)
  have H2 := Lib.hid (rankf_any b hb w)
  have g : (FloatKind.f64.format.order a b == some .lt) = ltB a b := rfl
  have hl : lessB a b = (decide (rankB a < rankB b) || (rankB a == rankB b && ltB a b)) := rfl
  rw [hl]
  clear hl
  revert H1 H2 g
  generalize rankB a = x
  generalize rankB b = y
  generalize ltB a b = l
  intro H1 H2 g
  rcases Nat.lt_trichotomy x y with h | h | h
  · have h1 : (x : Int) < (y : Int) := by omega
    rw [decide_eq_true h]
    clear h
    go_enter Tryd.func66, Tryd.ntmps66
    go_wp2_with fail
    refine H1.out.mono ?_
    rintro en w' ⟨rfl, rfl⟩
    go_wp2_with fail
    refine H2.out.mono ?_
    rintro en w' ⟨rfl, rfl⟩
    go_wp2
    go_ret
    exact ⟨rfl, rfl⟩
  · subst h
    have hs : (decide (x < x) || (x == x && l)) = l := by simp
    rw [hs]
    clear hs
    cases l
    all_goals
      go_enter Tryd.func66, Tryd.ntmps66
      go_wp2_with fail
      refine H1.out.mono ?_
      rintro en w' ⟨rfl, rfl⟩
      go_wp2_with fail
      refine H2.out.mono ?_
      rintro en w' ⟨rfl, rfl⟩
      go_wp2
      go_ret
      exact ⟨rfl, rfl⟩
  · have h1 : ¬ (x : Int) < (y : Int) := by omega
    have h2 : ((x : Int) == (y : Int)) = false := beq_eq_false_iff_ne.2 (by omega)
    have hs : (decide (x < y) || (x == y && l)) = false := by
      rw [decide_eq_false (by omega), beq_eq_false_iff_ne.2 (show x ≠ y by omega)]; rfl
    have hx : decide (x < y) = false := decide_eq_false (by omega)
    rw [hs]
    clear hs h
    go_enter Tryd.func66, Tryd.ntmps66
    go_wp2_with fail
    refine H1.out.mono ?_
    rintro en w' ⟨rfl, rfl⟩
    go_wp2_with fail
    refine H2.out.mono ?_
    rintro en w' ⟨rfl, rfl⟩
    go_wp2
    go_ret
    exact ⟨rfl, rfl⟩
end Go.Proofs.YtidjnfjpdnjogaaDoor
