/-
  RealBits, the walk: bits and numbers go back and forth. Conditions: none.
-/
import Derived.Test.YtelkobogohbhlaaDoorRealC5
namespace Go.Proofs.YtelkobogohbhlaaDoor
open Go.RowKit Go.Lib

theorem oneW_one (b : Nat) : oneW (oneW b) = oneW b := by
  by_cases h : nanW b = true
  · rw [oneW_nan h]; decide +kernel
  · have h2 : nanW b = false := by simpa using h
    rw [oneW_not h2, oneW_not h2]
theorem oneW_lt {b : Nat} (hb : b < 18446744073709551616) : oneW b < 18446744073709551616 := by
  by_cases h : nanW b = true
  · rw [oneW_nan h]; decide
  · have h2 : nanW b = false := by simpa using h
    rw [oneW_not h2]; exact hb
theorem classB_fine {b : Nat} (h : fine b) : classB b ≠ 0 := by
  unfold fine at h
  unfold classB
  rw [if_neg (by omega)]
  repeat (first | split | decide)
theorem nan_mask (b : Nat) (hb : b < 18446744073709551616) : bits .and .u64 (b : Int) 9223372036854775807 = ((rungOf b : Nat) : Int) := by
  rw [show (9223372036854775807 : Int) = ((9223372036854775807 : Nat) : Int) from rfl, bits_and_u64_nat b _ hb (by decide)]
  rw [show (9223372036854775807 : Nat) = 2 ^ 63 - 1 from rfl, Nat.and_two_pow_sub_one_eq_mod]; rfl

theorem bits_any (b : Nat) (hb : b < 18446744073709551616) (W : World) :
    Calls Tryd.prog 7 #[.int .u64 (b : Int)] W fun en w' => en = .returned (.bool true) ∧ Below W.heap.size W w' := by
  have HO := Lib.hid (rof_any b)
  have HB := Lib.hid (rbits_any (oneW b))
  have HC := Lib.hid (class_any (oneW b) (oneW_lt hb))
  have HD := Lib.hid (canon_any (oneW b))
  have HS := Lib.hid (rsame_any (oneW b) (oneW b))
  have HP := Lib.hid (rof_any (oneW b))
  rw [oneW_one] at HB HD HP
  rw [show sameW (oneW b) (oneW b) = true by unfold sameW; simp] at HS
  by_cases hf : fine b
  · have h1 : oneW b = b := oneW_not (nanW_fine hf)
    rw [h1] at HO HB HC HD HS HP
    have k0 : (((classB b : Nat) : Int) == 0) = false := beq_eq_false_iff_ne.2 (by have := classB_fine hf; omega)
    clear hf h1
    revert HC k0
    generalize ((classB b : Nat) : Int) = c
    intro HC k0
    go_enter Tryd.func7, Tryd.ntmps7
    go_wp2_with fail
    refine (HO.out _).mono ?_
    rintro en w1 ⟨rfl, rfl⟩
    go_wp2_with fail
    refine (HB.out _).mono ?_
    rintro en w1 ⟨rfl, rfl⟩
    go_wp2_with fail
    refine (alive_any _).mono ?_
    rintro en w1 ⟨rfl, hbl⟩
    go_wp2_with fail
    refine (HC.out _).mono ?_
    rintro en w2 ⟨rfl, rfl⟩
    go_wp2_with fail
    refine (HD.out _).mono ?_
    rintro en w2 ⟨rfl, rfl⟩
    go_wp2_with fail
    refine (HS.out _).mono ?_
    rintro en w2 ⟨rfl, rfl⟩
    go_wp2_with fail
    refine (HP.out _).mono ?_
    rintro en w2 ⟨rfl, rfl⟩
    go_wp2_with fail
    refine (HS.out _).mono ?_
    rintro en w2 ⟨rfl, rfl⟩
    go_wp2
    go_ret
    exact ⟨rfl, hbl⟩
  · have h1 : oneW b = 9221120237041090560 := oneW_nan (nanW_not hf)
    rw [h1] at HO HB HC
    rw [show classB 9221120237041090560 = 0 by decide +kernel] at HC
    have hm := nan_mask b hb
    have hr : (9218868437227405312 : Int) < ((rungOf b : Nat) : Int) := by unfold fine at hf; omega
    clear hf h1 HD HS HP
    revert hm hr
    generalize ((rungOf b : Nat) : Int) = r
    intro hm hr
    go_enter Tryd.func7, Tryd.ntmps7
    go_wp2_with fail
    refine (HO.out _).mono ?_
    rintro en w1 ⟨rfl, rfl⟩
    go_wp2_with fail
    refine (HB.out _).mono ?_
    rintro en w1 ⟨rfl, rfl⟩
    go_wp2_with fail
    refine (alive_any _).mono ?_
    rintro en w1 ⟨rfl, hbl⟩
    go_wp2_with fail
    refine (HC.out _).mono ?_
    rintro en w2 ⟨rfl, rfl⟩
    go_wp2
    go_ret
    exact ⟨rfl, hbl⟩
end Go.Proofs.YtelkobogohbhlaaDoor
