/-
  CodecNumbers, the walk: each int of at most 18 digits is read as it was told. Conditions: none.
-/
import Derived.Test.YtganeocegdkddaaDoorNum
import Derived.Lib.ItoaLen
namespace Go.Proofs.YtganeocegdkddaaDoor
open Go.RowKit Go.Lib

theorem nums_great (v : Int) (h0 : -9223372036854775808 ≤ v) (h1 : v ≤ 9223372036854775807) (W : World) (ht : Tab W) (hg : v < -999999999999999999 ∨ 999999999999999999 < v) :
    Calls Tryd.prog 10 #[.int .i64 v] W fun en w' => en = .returned (.bool true) ∧ Below W.heap.size W w' := by
  obtain ⟨n1, n2⟩ := number_great v hg
  have hl := itoa_length_le v h0 h1
  have HD := Lib.hid (digits_any v h0 h1 W ht)
  obtain ⟨s, hs⟩ : ∃ s : ByteArray, (⟨(itoa v).toArray⟩ : ByteArray) = s := ⟨_, rfl⟩
  have hsl : s.data.toList = itoa v := by rw [← hs]
  have hz : (19 : Int) ≤ (s.size : Int) := by
    have : s.size = (itoa v).length := by rw [← hsl]; simp
    omega
  rw [← hsl] at n1
  rw [hs] at HD
  have HN := Lib.hid n1; clear n1 n2 hl hs hsl
  have HT := Lib.hid ht; clear ht
  have hw : 999999999999999999 < v ∨ (¬ 999999999999999999 < v ∧ v < -999999999999999999) := by omega
  clear hg
  rcases hw with h2 | ⟨h2, h3⟩
  all_goals
    go_enter Tryd.func10, Tryd.ntmps10
    go_wp2_with fail
    refine HD.out.mono ?_
    rintro en w1 ⟨rfl, b1⟩
    go_wp2_with fail
    refine (number_any s w1).mono ?_
    rintro en w' ⟨rfl, rfl⟩
    rw [HN.out]
    unfold tells
    go_wp2_with fail
    refine (alive_any w1 (HT.out.below b1)).mono ?_
    rintro en w2 ⟨rfl, b2⟩
    go_wp2
    go_ret
    exact ⟨rfl, b1.trans (b2.mono b1.size)⟩

theorem nums_good (v : Int) (W : World) (ht : Tab W) (h2 : -999999999999999999 ≤ v) (h3 : v ≤ 999999999999999999) :
    Calls Tryd.prog 10 #[.int .i64 v] W fun en w' => en = .returned (.bool true) ∧ Below W.heap.size W w' := by
  have n1 := number_itoa v h2 h3
  have n2 := number_nought (itoa v) (itoa_ne_nil v)
  have n3 := number_plus (itoa v)
  have n4 := number_blank (itoa v) (itoa_ne_nil v)
  have hl := itoa_length_le v (by omega) (by omega)
  have HD := Lib.hid (digits_any v (by omega) (by omega) W ht)
  obtain ⟨s, hs⟩ : ∃ s : ByteArray, (⟨(itoa v).toArray⟩ : ByteArray) = s := ⟨_, rfl⟩
  have hsl : s.data.toList = itoa v := by rw [← hs]
  have hz : s.size ≤ 21 := by
    have : s.size = (itoa v).length := by rw [← hsl]; simp
    omega
  rw [← hsl] at n1 n2 n3 n4
  rw [hs] at HD
  have e1 : (⟨#[48]⟩ ++ s : ByteArray).data.toList = 48 :: s.data.toList := by simp [ByteArray.data_append]
  have e2 : (⟨#[43]⟩ ++ s : ByteArray).data.toList = 43 :: s.data.toList := by simp [ByteArray.data_append]
  have e3 : (s ++ ⟨#[32]⟩ : ByteArray).data.toList = s.data.toList ++ [32] := by simp [ByteArray.data_append]
  rw [← e1] at n2
  rw [← e2] at n3
  rw [← e3] at n4
  have HN := Lib.hid (And.intro n1 (And.intro n2 (And.intro n3 n4))); clear n1 n2 n3 n4 hl hs hsl e1 e2 e3
  have HT := Lib.hid ht; clear ht
  have h4 : ¬ 999999999999999999 < v := by omega
  have h5 : ¬ v < -999999999999999999 := by omega
  go_enter Tryd.func10, Tryd.ntmps10
  go_wp2_with fail
  refine HD.out.mono ?_
  rintro en w1 ⟨rfl, b1⟩
  go_wp2_with fail
  refine (number_any s w1).mono ?_
  rintro en w' ⟨rfl, rfl⟩
  rw [HN.out.1]
  unfold tells
  go_wp2_with fail
  refine (number_any _ w1).mono ?_
  rintro en w' ⟨rfl, rfl⟩
  rw [HN.out.2.1]
  unfold tells
  go_wp2_with fail
  refine (number_any _ w1).mono ?_
  rintro en w' ⟨rfl, rfl⟩
  rw [HN.out.2.2.1]
  unfold tells
  go_wp2_with fail
  refine (number_any _ w1).mono ?_
  rintro en w' ⟨rfl, rfl⟩
  rw [HN.out.2.2.2]
  unfold tells
  go_wp2_with fail
  refine (alive_any w1 (HT.out.below b1)).mono ?_
  rintro en w2 ⟨rfl, b2⟩
  go_wp2
  go_ret
  exact ⟨rfl, b1.trans (b2.mono b1.size)⟩
end Go.Proofs.YtganeocegdkddaaDoor
