/-
  RealBack, the walk: a number that is told is read as the same. Conditions: none.
-/
import Derived.Test.YtelkobogohbhlaaDoorRealC9
namespace Go.Proofs.YtelkobogohbhlaaDoor
open Go.RowKit Go.Lib

theorem oneW_one (b : Nat) : oneW (oneW b) = oneW b := by
  rcases Classical.em (fine b) with h | h
  · rw [oneW_not (nanW_fine h), oneW_not (nanW_fine h)]
  · rw [nan_word h]; decide +kernel

theorem back_any (a b : Nat) (ha : a < 18446744073709551616) (hb : b < 18446744073709551616) (W : World) (ht : Tab W) :
    Calls Tryd.prog 5 #[.int .u64 (a : Int), .int .u64 (b : Int)] W fun en w' => en = .returned (.bool true) ∧ Below W.heap.size W w' := by
  have h57 := runFrom
  have HTB := Lib.hid ht
  have T1 := Lib.hid (text_any a ha W ht)
  have T2 := Lib.hid (fun w hw => text_any b hb w hw)
  have hlen := text_len a
  have hpar := parse_text a ha
  have hsame := text_same a b ha hb
  obtain ⟨S, hS⟩ : ∃ S : ByteArray, S = ⟨(textB a).toArray⟩ := ⟨_, rfl⟩
  obtain ⟨T, hT⟩ : ∃ T : ByteArray, T = ⟨(textB b).toArray⟩ := ⟨_, rfl⟩
  have hSl : S.data.toList = textB a := by rw [hS]
  have hTl : T.data.toList = textB b := by rw [hT]
  have hz : S.size = (textB a).length := by rw [hS]; simp [ByteArray.size]
  rw [← hS] at T1
  rw [← hT] at T2
  have P := Lib.hid (parse_any S (by omega))
  rw [hSl, hpar] at P
  have Q1 := Lib.hid (rsame_any (oneW a) a)
  rw [show sameW (oneW a) a = true by unfold sameW; rw [oneW_one]; simp] at Q1
  have Q2 := Lib.hid (rsame_any a b)
  have hst : (S.toList == T.toList) = sameW a b := by
    rw [Lib.toList_data, Lib.toList_data, hSl, hTl]
    unfold sameW
    rw [Bool.eq_iff_iff, beq_iff_eq, beq_iff_eq]
    exact hsame
  have l1 : (1 : Int) ≤ (S.size : Int) := by omega
  have l2 : (S.size : Int) ≤ 17 := by omega
  unfold tellsF at P
  clear hlen hpar hsame hS hT hSl hTl hz ha hb ht
  revert Q2 hst
  generalize sameW a b = x
  intro Q2 hst
  go_enter Tryd.func5, Tryd.ntmps5
  go_wp2_with fail
  refine T1.out.mono ?_
  rintro en w1 ⟨rfl, hb1⟩
  go_wp2_with fail
  refine (T2.out _ (HTB.out.below hb1)).mono ?_
  rintro en w2 ⟨rfl, hb2⟩
  have hb3 := hb1.trans (hb2.mono hb1.size)
  clear hb1 hb2
  go_wp2_with fail
  refine (P.out _).mono ?_
  rintro en w3 ⟨rfl, rfl⟩
  go_wp2_with fail
  refine (alive_any _).mono ?_
  rintro en w3 ⟨rfl, hb4⟩
  have hb5 := hb3.trans (hb4.mono hb3.size)
  clear hb3 hb4
  go_wp2_with fail
  refine (Q1.out _).mono ?_
  rintro en w4 ⟨rfl, rfl⟩
  go_wp2_with fail
  refine (Q2.out _).mono ?_
  rintro en w4 ⟨rfl, rfl⟩
  go_wp2
  go_ret
  exact ⟨rfl, hb5⟩
end Go.Proofs.YtelkobogohbhlaaDoor
