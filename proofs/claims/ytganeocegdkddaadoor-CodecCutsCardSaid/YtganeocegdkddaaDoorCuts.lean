/-
  CodecCuts, the walk: bytes that are cut within a text are too few for it. Conditions: none.
-/
import Derived.Test.YtganeocegdkddaaDoorCutsP
namespace Go.Proofs.YtganeocegdkddaaDoor
open Go.RowKit Go.Lib

theorem cuts_walk (s : ByteArray) (hs : s.size ≤ maxLen) (c : Int) (W : World) (ht : Tab W) : Calls Tryd.prog 5 #[.string s, .int .i64 c] W fun en w' => en = .returned (.bool true) ∧ Below W.heap.size W w' := by
  unfold maxLen at hs
  by_cases hbad : 1000 < s.size ∨ c < 0 ∨ (s.size : Int) + 4 ≤ c
  · have HT := Lib.hid ht; clear ht
    by_cases h0 : 1000 < s.size
    · have h2 : (1000 : Int) < (s.size : Int) := by omega
      clear hbad h0
      go_enter Tryd.func5, Tryd.ntmps5
      go_wp2_with fail
      refine (alive_any W HT.out).mono ?_
      rintro en w1 ⟨rfl, b1⟩
      go_wp2
      go_ret
      exact ⟨rfl, b1⟩
    · have h2 : ¬ (1000 : Int) < (s.size : Int) := by omega
      have hw : IntKind.i64.wrap ((s.size : Int) + 4) = (s.size : Int) + 4 := IntWalk.i64_in _ (by omega)
      by_cases h1 : c < 0
      · clear hbad h0
        go_enter Tryd.func5, Tryd.ntmps5
        go_wp2_with fail
        refine (alive_any W HT.out).mono ?_
        rintro en w1 ⟨rfl, b1⟩
        go_wp2
        go_ret
        exact ⟨rfl, b1⟩
      · have h3 : (s.size : Int) + 4 ≤ c := by omega
        have h4 : ¬ c < (s.size : Int) + 4 := by omega
        clear hbad h0
        go_enter Tryd.func5, Tryd.ntmps5
        go_wp2_with fail
        refine (alive_any W HT.out).mono ?_
        rintro en w1 ⟨rfl, b1⟩
        go_wp2
        go_ret
        exact ⟨rfl, b1⟩
  · have h0 : s.size ≤ 1000 := by omega
    have h1 : ¬ c < 0 := fun h => hbad (Or.inr (Or.inl h))
    have h3 : ¬ (s.size : Int) + 4 ≤ c := fun h => hbad (Or.inr (Or.inr h))
    clear hbad hs
    obtain ⟨k, rfl⟩ := Int.eq_ofNat_of_zero_le (Int.not_lt.1 h1)
    have hp : putText ⟨#[]⟩ 0 s = (highs (s.size : Int) 4 4 ++ s, 0) := by
      rw [putText, if_neg (by simp), if_neg (by omega)]
      congr 2
    obtain ⟨r, hcut⟩ := cut_text s h0 k (by omega)
    have hsz : (highs (s.size : Int) 4 4 ++ s).size = 4 + s.size := by rw [ByteArray.size_append, highs_size]
    have h2 : ¬ (1000 : Int) < (s.size : Int) := by omega
    have h4 : (k : Int) < (s.size : Int) + 4 := by omega
    have hw : IntKind.i64.wrap ((s.size : Int) + 4) = (s.size : Int) + 4 := IntWalk.i64_in _ (by omega)
    obtain ⟨t, htx⟩ : ∃ t, highs (s.size : Int) 4 4 ++ s = t := ⟨_, rfl⟩
    rw [htx] at hp hcut hsz
    clear htx
    have HP := Lib.hid hp; have HC := Lib.hid hcut; have HZ := Lib.hid hsz; clear hp hcut hsz
    have HT := Lib.hid ht; clear ht
    go_enter Tryd.func5, Tryd.ntmps5
    go_wp2_with fail
    refine (alive_any W HT.out).mono ?_
    rintro en w1 ⟨rfl, b1⟩
    go_wp2_with fail
    have g0 := outNew (B := W.heap.size) w1 b1.size
    have b2 := b1.trans ((below_alloc w1 (.cells #[.slice none 0 0, .int .i64 0] 27)).mono b1.size)
    refine (outText W.heap.size w1.heap.size _ _ 0 _ g0 (by decide) s (by unfold maxLen; omega)).mono ?_
    rintro en w2 ⟨rfl, v2, g2, t2, -⟩
    rw [HP.out] at g2
    have b3 := b2.trans (g0.turn t2)
    clear t2 g0 b1 b2
    go_wp2_with fail
    refine (outDone W.heap.size w1.heap.size v2 _ _ w2 g2).mono ?_
    rintro en w3 ⟨rfl, d3⟩
    have b4 := b3.trans (d3.mono b3.size)
    clear d3 g2 b3
    unfold doneOf
    rw [if_pos rfl]
    have hz2 : (t.size : Int) = (s.size : Int) + 4 := by rw [HZ.out]; omega
    clear HP
    have HZ2 := Lib.hid hz2
    have hkt : k ≤ t.size := by omega
    have hcl : (t.extract 0 k).size ≤ 281474976710656 := by rw [ByteArray.size_extract]; omega
    have HCL := Lib.hid hcl; clear hcl
    go_wp2_with fail
    refine (newIn _ _ HCL.out).mono ?_
    rintro en w4 ⟨I, rfl, i4, hI, b5⟩
    have b6 := b4.trans (b5.mono b4.size)
    have hB : W.heap.size ≤ I := Nat.le_trans b4.size hI
    clear b5 b4 hI
    go_wp2_with fail
    refine (inText I _ 0 w4 i4 HCL.out 5000).mono ?_
    rintro en w5 ⟨rfl, i5, o5⟩
    rw [HC.out] at i5 ⊢
    have b7 := b6.trans (o5.below hB b6.size)
    clear o5 b6 i4
    go_wp2_with fail
    refine (inErr I _ 5 w5 i5).mono ?_
    rintro en w6 ⟨rfl, rfl⟩
    go_wp2_with fail
    refine (inLeft I _ 5 w6 i5).mono ?_
    rintro en w7 ⟨rfl, rfl⟩
    rw [if_neg (by decide)]
    go_wp2_with fail
    refine (inEnd I _ 5 w7 i5).mono ?_
    rintro en w8 ⟨rfl, i8, o8⟩
    have he : endOf r 5 = 5 := rfl
    rw [he]
    go_wp2
    go_ret
    exact ⟨rfl, b7.trans (o8.below hB b7.size)⟩
end Go.Proofs.YtganeocegdkddaaDoor
