/-
  RealSigns, the walk: with the other sign the order is turned. Conditions: none.
-/
import Derived.Test.YtelkobogohbhlaaDoorRealC5
namespace Go.Proofs.YtelkobogohbhlaaDoor
open Go.RowKit Go.Lib

theorem fine_of {b : Nat} (h : nanW b = false) : fine b := by
  by_cases hf : fine b
  · exact hf
  · rw [nanW_not hf] at h; cases h

theorem signs_nan (a b : Nat) (hn : nanW a = true ∨ (nanW a = false ∧ nanW b = true)) (W : World) :
    Calls Tryd.prog 9 #[.int .u64 (a : Int), .int .u64 (b : Int)] W fun en w' => en = .returned (.bool true) ∧ Below W.heap.size W w' := by
  have h57 := runFrom
  have HA := Lib.hid (misnan a)
  have HB := Lib.hid (misnan b)
  rcases hn with h | ⟨h, h2⟩
  · rw [h] at HA
    clear h
    go_enter Tryd.func9, Tryd.ntmps9
    go_wp2_with fail
    refine (HA.out _).mono ?_
    rintro en w1 ⟨rfl, rfl⟩
    go_wp2_with fail
    refine (alive_any _).mono ?_
    rintro en w1 ⟨rfl, hbl⟩
    go_wp2
    go_ret
    exact ⟨rfl, hbl⟩
  · rw [h] at HA
    rw [h2] at HB
    clear h h2
    go_enter Tryd.func9, Tryd.ntmps9
    go_wp2_with fail
    refine (HA.out _).mono ?_
    rintro en w1 ⟨rfl, rfl⟩
    go_wp2_with fail
    refine (HB.out _).mono ?_
    rintro en w1 ⟨rfl, rfl⟩
    go_wp2_with fail
    refine (alive_any _).mono ?_
    rintro en w1 ⟨rfl, hbl⟩
    go_wp2
    go_ret
    exact ⟨rfl, hbl⟩

theorem signs_num (a b : Nat) (ha : a < 18446744073709551616) (hb : b < 18446744073709551616) (na : nanW a = false) (nb : nanW b = false) (W : World) :
    Calls Tryd.prog 9 #[.int .u64 (a : Int), .int .u64 (b : Int)] W fun en w' => en = .returned (.bool true) ∧ Below W.heap.size W w' := by
  have h57 := runFrom
  have hng := runNeg
  have HA := Lib.hid (misnan a)
  have HB := Lib.hid (misnan b)
  rw [na] at HA
  rw [nb] at HB
  have HL := Lib.hid (less_any a b ha hb)
  have HM := Lib.hid (less_any (negB b) (negB a) (negB_lt b hb) (negB_lt a ha))
  have HS := Lib.hid (rsame_any (negB (negB a)) a)
  have l1 : lessB (negB b) (negB a) = lessB a b := by
    rw [less_ord, less_ord, ordK_neg a ha (fine_of na), ordK_neg b hb (fine_of nb), decide_eq_decide]; omega
  have l2 : sameW (negB (negB a)) a = true := by rw [negB_back]; unfold sameW; simp
  rw [l1] at HM
  rw [l2] at HS
  clear l1 l2 na nb ha hb
  unfold negB at HM HS
  revert HL HM
  generalize lessB a b = x
  intro HL HM
  cases x
  all_goals
    go_enter Tryd.func9, Tryd.ntmps9
    go_wp2_with fail
    refine (HA.out _).mono ?_
    rintro en w1 ⟨rfl, rfl⟩
    go_wp2_with fail
    refine (HB.out _).mono ?_
    rintro en w1 ⟨rfl, rfl⟩
    go_wp2_with fail
    refine (alive_any _).mono ?_
    rintro en w1 ⟨rfl, hbl⟩
    go_wp2_with fail
    refine (HL.out _).mono ?_
    rintro en w2 ⟨rfl, rfl⟩
    go_wp2_with fail
    refine (HM.out _).mono ?_
    rintro en w2 ⟨rfl, rfl⟩
    go_wp2_with fail
    refine (HS.out _).mono ?_
    rintro en w2 ⟨rfl, rfl⟩
    go_wp2
    go_ret
    exact ⟨rfl, hbl⟩
end Go.Proofs.YtelkobogohbhlaaDoor
