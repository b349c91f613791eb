/-
  RealTotal, RealBits, RealSigns: the walks. Conditions: none.
-/
import Derived.Test.YtelkobogohbhlaaDoorRealC5
namespace Go.Proofs.YtelkobogohbhlaaDoor
open Go.RowKit Go.Lib

theorem total_any (a b c : Nat) (ha : a < 18446744073709551616) (hb : b < 18446744073709551616) (hc : c < 18446744073709551616) (W : World) :
    Calls Tryd.prog 4 #[.int .u64 (a : Int), .int .u64 (b : Int), .int .u64 (c : Int)] W fun en w' => en = .returned (.bool true) ∧ Below W.heap.size W w' := by
  have h57 := runFrom
  have HL := Lib.hid (less_any a b ha hb)
  have HM := Lib.hid (less_any b a hb ha)
  have HS := Lib.hid (rsame_any a b)
  have HX := Lib.hid (less_any a a ha ha)
  have HY := Lib.hid (rsame_any a a)
  have HN := Lib.hid (less_any b c hb hc)
  have HO := Lib.hid (less_any a c ha hc)
  have l1 : lessB a a = false := by rw [less_ord, decide_eq_false_iff_not]; omega
  have l2 : sameW a a = true := by unfold sameW; simp
  have l3 : (lessB a b = true ∧ lessB b a = false ∧ sameW a b = false) ∨ (lessB a b = false ∧ lessB b a = true ∧ sameW a b = false) ∨ (lessB a b = false ∧ lessB b a = false ∧ sameW a b = true) := by
    unfold sameW
    rw [less_ord, less_ord, same_ord a b ha hb]
    rcases Int.lt_trichotomy (ordK a) (ordK b) with h | h | h
    · exact Or.inl ⟨decide_eq_true h, decide_eq_false (by omega), decide_eq_false (by omega)⟩
    · exact Or.inr (Or.inr ⟨decide_eq_false (by omega), decide_eq_false (by omega), decide_eq_true h⟩)
    · exact Or.inr (Or.inl ⟨decide_eq_false (by omega), decide_eq_true h, decide_eq_false (by omega)⟩)
  have l4 : lessB a b = true → lessB b c = true → lessB a c = true := by
    rw [less_ord, less_ord, less_ord]; simp only [decide_eq_true_eq]; omega
  have l5 : (lessB a b = false) ∨ (lessB a b = true ∧ lessB b c = false) ∨ (lessB a b = true ∧ lessB b c = true ∧ lessB a c = true) := by
    cases h1 : lessB a b
    · exact Or.inl rfl
    · cases h2 : lessB b c
      · exact Or.inr (Or.inl ⟨rfl, rfl⟩)
      · exact Or.inr (Or.inr ⟨rfl, rfl, l4 h1 h2⟩)
  rw [l1] at HX
  rw [l2] at HY
  clear l1 l2 l4 ha hb hc
  revert HL HM HS HN HO l3 l5
  generalize lessB a b = x
  generalize lessB b a = y
  generalize sameW a b = z
  generalize lessB b c = u
  generalize lessB a c = v
  intro HL HM HS HN HO l3 l5
  rcases l3 with ⟨rfl, rfl, rfl⟩ | ⟨rfl, rfl, rfl⟩ | ⟨rfl, rfl, rfl⟩
  · have l6 : u = false ∨ (u = true ∧ v = true) := by
      rcases l5 with h | ⟨_, h⟩ | ⟨_, h, h2⟩
      · cases h
      · exact Or.inl h
      · exact Or.inr ⟨h, h2⟩
    clear l5
    rcases l6 with rfl | ⟨rfl, rfl⟩
    · go_enter Tryd.func4, Tryd.ntmps4
      go_wp2_with fail
      refine (HL.out _).mono ?_
      rintro en w1 ⟨rfl, rfl⟩
      go_wp2_with fail
      refine (HM.out _).mono ?_
      rintro en w1 ⟨rfl, rfl⟩
      go_wp2_with fail
      refine (HS.out _).mono ?_
      rintro en w1 ⟨rfl, rfl⟩
      go_wp2_with fail
      refine (alive_any _).mono ?_
      rintro en w1 ⟨rfl, hbl⟩
      go_wp2_with fail
      refine (HX.out _).mono ?_
      rintro en w2 ⟨rfl, rfl⟩
      go_wp2_with fail
      refine (HY.out _).mono ?_
      rintro en w2 ⟨rfl, rfl⟩
      go_wp2_with fail
      refine (HL.out _).mono ?_
      rintro en w2 ⟨rfl, rfl⟩
      go_wp2_with fail
      refine (HN.out _).mono ?_
      rintro en w2 ⟨rfl, rfl⟩
      go_wp2
      go_ret
      exact ⟨rfl, hbl⟩
    · go_enter Tryd.func4, Tryd.ntmps4
      go_wp2_with fail
      refine (HL.out _).mono ?_
      rintro en w1 ⟨rfl, rfl⟩
      go_wp2_with fail
      refine (HM.out _).mono ?_
      rintro en w1 ⟨rfl, rfl⟩
      go_wp2_with fail
      refine (HS.out _).mono ?_
      rintro en w1 ⟨rfl, rfl⟩
      go_wp2_with fail
      refine (alive_any _).mono ?_
      rintro en w1 ⟨rfl, hbl⟩
      go_wp2_with fail
      refine (HX.out _).mono ?_
      rintro en w2 ⟨rfl, rfl⟩
      go_wp2_with fail
      refine (HY.out _).mono ?_
      rintro en w2 ⟨rfl, rfl⟩
      go_wp2_with fail
      refine (HL.out _).mono ?_
      rintro en w2 ⟨rfl, rfl⟩
      go_wp2_with fail
      refine (HN.out _).mono ?_
      rintro en w2 ⟨rfl, rfl⟩
      go_wp2_with fail
      refine (HO.out _).mono ?_
      rintro en w2 ⟨rfl, rfl⟩
      go_wp2
      go_ret
      exact ⟨rfl, hbl⟩
  all_goals
    clear l5
    go_enter Tryd.func4, Tryd.ntmps4
    go_wp2_with fail
    refine (HL.out _).mono ?_
    rintro en w1 ⟨rfl, rfl⟩
    go_wp2_with fail
    refine (HM.out _).mono ?_
    rintro en w1 ⟨rfl, rfl⟩
    go_wp2_with fail
    refine (HS.out _).mono ?_
    rintro en w1 ⟨rfl, rfl⟩
    go_wp2_with fail
    refine (alive_any _).mono ?_
    rintro en w1 ⟨rfl, hbl⟩
    go_wp2_with fail
    refine (HX.out _).mono ?_
    rintro en w2 ⟨rfl, rfl⟩
    go_wp2_with fail
    refine (HY.out _).mono ?_
    rintro en w2 ⟨rfl, rfl⟩
    go_wp2_with fail
    refine (HL.out _).mono ?_
    rintro en w2 ⟨rfl, rfl⟩
    go_wp2
    go_ret
    exact ⟨rfl, hbl⟩
end Go.Proofs.YtelkobogohbhlaaDoor
