/-
  CodecFirst, the walk: the first error stays. Conditions: none.
-/
import Derived.Test.YtganeocegdkddaaDoorBackP
namespace Go.Proofs.YtganeocegdkddaaDoor
open Go.RowKit Go.Lib

theorem first_long (b : ByteArray) : textOf (⟨#[0, 0, 0, 9]⟩ ++ b) 0 8 = (⟨#[]⟩, b, 2) := by
  have h9 : (⟨#[0, 0, 0, 9]⟩ : ByteArray) = highs ((9 : Nat) : Int) 4 4 := by decide +kernel
  rw [h9]
  obtain ⟨h1, h2⟩ := read_num 9 4 (by decide) (by decide) b
  rw [textOf, h1, h2]
  simp only []
  rw [if_pos (by decide), takeOf, if_pos (by decide)]
theorem take_bad (b : ByteArray) (n : Nat) : takeOf b 2 n = (⟨#[]⟩, b, 2) := by rw [takeOf, if_pos (by decide)]
theorem num_bad (b : ByteArray) (n : Nat) : numOf b 2 n = 0 := by rw [numOf, take_bad]; rfl
theorem text_bad (b : ByteArray) (m : Int) : textOf b 2 m = (⟨#[]⟩, b, 2) := by
  rw [textOf, num_bad, take_bad]
  simp only []
  rw [if_neg (by simp), take_bad]

theorem first_walk (n : Int) (hn1 : n ≤ 9223372036854775807) (s b : ByteArray) (hs : s.size ≤ maxLen) (hb : b.size ≤ maxLen) (W : World) (ht : Tab W) : Calls Tryd.prog 6 #[.int .i64 n, .string s, .string b] W fun en w' => en = .returned (.bool true) ∧ Below W.heap.size W w' := by
  unfold maxLen at hs hb
  have HT := Lib.hid ht; clear ht
  by_cases hbad : (0 ≤ n ∧ n ≤ 255) ∨ 300 < s.size ∨ b.size < 5 ∨ 300 < b.size
  · by_cases h0 : 0 ≤ n ∧ n ≤ 255
    · clear hbad
      obtain ⟨h1, h2⟩ := h0
      go_enter Tryd.func6, Tryd.ntmps6
      go_wp2_with fail
      refine (alive_any W HT.out).mono ?_
      rintro en w1 ⟨rfl, b1⟩
      go_wp2
      go_ret
      exact ⟨rfl, b1⟩
    · have hr : n < 0 ∨ (¬ n < 0 ∧ ¬ n ≤ 255) := by omega
      by_cases h1 : 300 < s.size
      · have h2 : (300 : Int) < (s.size : Int) := by omega
        clear hbad h0 h1
        rcases hr with h3 | ⟨h3, h4⟩
        · have h5 : ¬ 0 ≤ n := by omega
          go_enter Tryd.func6, Tryd.ntmps6
          go_wp2_with fail
          refine (alive_any W HT.out).mono ?_
          rintro en w1 ⟨rfl, b1⟩
          go_wp2
          go_ret
          exact ⟨rfl, b1⟩
        · have h5 : 0 ≤ n := by omega
          go_enter Tryd.func6, Tryd.ntmps6
          go_wp2_with fail
          refine (alive_any W HT.out).mono ?_
          rintro en w1 ⟨rfl, b1⟩
          go_wp2
          go_ret
          exact ⟨rfl, b1⟩
      · have h2 : ¬ (300 : Int) < (s.size : Int) := by omega
        by_cases h6 : b.size < 5
        · have h7 : (b.size : Int) < 5 := by omega
          clear hbad h0 h1 h6
          rcases hr with h3 | ⟨h3, h4⟩
          · have h5 : ¬ 0 ≤ n := by omega
            go_enter Tryd.func6, Tryd.ntmps6
            go_wp2_with fail
            refine (alive_any W HT.out).mono ?_
            rintro en w1 ⟨rfl, b1⟩
            go_wp2
            go_ret
            exact ⟨rfl, b1⟩
          · have h5 : 0 ≤ n := by omega
            go_enter Tryd.func6, Tryd.ntmps6
            go_wp2_with fail
            refine (alive_any W HT.out).mono ?_
            rintro en w1 ⟨rfl, b1⟩
            go_wp2
            go_ret
            exact ⟨rfl, b1⟩
        · have h7 : ¬ (b.size : Int) < 5 := by omega
          have h8 : (300 : Int) < (b.size : Int) := by omega
          clear hbad h0 h1 h6
          rcases hr with h3 | ⟨h3, h4⟩
          · have h5 : ¬ 0 ≤ n := by omega
            go_enter Tryd.func6, Tryd.ntmps6
            go_wp2_with fail
            refine (alive_any W HT.out).mono ?_
            rintro en w1 ⟨rfl, b1⟩
            go_wp2
            go_ret
            exact ⟨rfl, b1⟩
          · have h5 : 0 ≤ n := by omega
            go_enter Tryd.func6, Tryd.ntmps6
            go_wp2_with fail
            refine (alive_any W HT.out).mono ?_
            rintro en w1 ⟨rfl, b1⟩
            go_wp2
            go_ret
            exact ⟨rfl, b1⟩
  · have hr : (n < 0 ∧ ¬ 0 ≤ n) ∨ (0 ≤ n ∧ ¬ n ≤ 255) := by omega
    have h2 : ¬ (300 : Int) < (s.size : Int) := by omega
    have h7 : ¬ (b.size : Int) < 5 := by omega
    have h8 : ¬ (300 : Int) < (b.size : Int) := by omega
    have hp : putSmall ⟨#[]⟩ 0 n 1 = (⟨#[]⟩, 1) := by rw [putSmall, if_neg (by simp), if_pos (by omega)]
    have hp2 : putText ⟨#[]⟩ 1 s = (⟨#[]⟩, 1) := by rw [putText, if_pos (by decide)]
    have hp3 : put64 ⟨#[]⟩ 1 7 = (⟨#[]⟩, 1) := by rw [put64, if_pos (by decide)]
    have hsz : (⟨#[0, 0, 0, 9]⟩ ++ b : ByteArray).size ≤ 281474976710656 := by
      rw [ByteArray.size_append, show (⟨#[0, 0, 0, 9]⟩ : ByteArray).size = 4 from rfl]; omega
    have HP := Lib.hid (And.intro hp (And.intro hp2 (And.intro hp3 hsz))); clear hp hp2 hp3 hsz
    clear hbad
    have hs9 : s.size ≤ maxLen := by unfold maxLen; omega
    have HS := Lib.hid hs9; clear hs9
    rcases hr with ⟨h3, h5⟩ | ⟨h3, h5⟩
    all_goals
      go_enter Tryd.func6, Tryd.ntmps6
      go_wp2_with fail
      refine (alive_any W HT.out).mono ?_
      rintro en w1 ⟨rfl, b1⟩
      go_wp2_with fail
      have g0 := outNew (B := W.heap.size) w1 b1.size
      have b2 := b1.trans ((below_alloc w1 (.cells #[.slice none 0 0, .int .i64 0] 27)).mono b1.size)
      refine (outU8 W.heap.size w1.heap.size _ _ 0 _ g0 (by decide) n hn1).mono ?_
      rintro en w2 ⟨rfl, v2, g2, t2, -⟩
      rw [HP.out.1] at g2
      have b3 := b2.trans (g0.turn t2)
      clear t2 g0 b1 b2
      go_wp2_with fail
      refine (outText W.heap.size w1.heap.size v2 _ _ w2 g2 (by decide) s HS.out).mono ?_
      rintro en w3 ⟨rfl, v3, g3, t3, -⟩
      rw [HP.out.2.1] at g3
      have b4 := b3.trans (g2.turn t3)
      clear t3 g2 b3
      go_wp2_with fail
      refine (outU64 W.heap.size w1.heap.size v3 _ _ w3 g3 (by decide) 7 (by decide)).mono ?_
      rintro en w4 ⟨rfl, v4, g4, t4, -⟩
      rw [HP.out.2.2.1] at g4
      have b5 := b4.trans (g3.turn t4)
      clear t4 g3 b4
      go_wp2_with fail
      refine (outDone W.heap.size w1.heap.size v4 _ _ w4 g4).mono ?_
      rintro en w5 ⟨rfl, d5⟩
      have b6 := b5.trans (d5.mono b5.size)
      clear d5 g4 b5
      unfold doneOf
      rw [if_neg (by decide)]
      go_wp2_with fail
      refine (newIn _ _ HP.out.2.2.2).mono ?_
      rintro en w6 ⟨I, rfl, i6, hI, b7⟩
      have b8 := b6.trans (b7.mono b6.size)
      have hB : W.heap.size ≤ I := Nat.le_trans b6.size hI
      clear b6 b7 hI
      go_wp2_with fail
      refine (inText I _ 0 w6 i6 HP.out.2.2.2 8).mono ?_
      rintro en w7 ⟨rfl, i7, o7⟩
      rw [first_long] at i7 ⊢
      have b9 := b8.trans (o7.below hB b8.size)
      clear o7 b8 i6
      go_wp2_with fail
      refine (inErr I _ 2 w7 i7).mono ?_
      rintro en w8 ⟨rfl, rfl⟩
      go_wp2_with fail
      refine (inU8 I _ 2 w8 i7).mono ?_
      rintro en w9 ⟨rfl, i9, o9⟩
      rw [num_bad]
      rw [take_bad] at i9
      have b10 := b9.trans (o9.below hB b9.size)
      clear o9 b9 i7
      go_wp2_with fail
      refine (inText I _ 2 w9 i9 (by omega) 900).mono ?_
      rintro en w10 ⟨rfl, i10, o10⟩
      rw [text_bad] at i10 ⊢
      have b11 := b10.trans (o10.below hB b10.size)
      clear o10 b10 i9
      go_wp2_with fail
      refine (inEnd I _ 2 w10 i10).mono ?_
      rintro en w11 ⟨rfl, i11, o11⟩
      rw [show endOf b 2 = 2 from rfl] at i11 ⊢
      have b12 := b11.trans (o11.below hB b11.size)
      clear o11 b11 i10
      go_wp2_with fail
      refine (inLeft I _ 2 w11 i11).mono ?_
      rintro en w12 ⟨rfl, rfl⟩
      rw [if_neg (by decide)]
      go_wp2
      go_ret
      exact ⟨rfl, b12⟩
end Go.Proofs.YtganeocegdkddaaDoor
