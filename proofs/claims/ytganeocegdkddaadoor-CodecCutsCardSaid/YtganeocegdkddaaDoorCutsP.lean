/-
  CodecCuts, the plain law: bytes that are cut within a text are too few for it. Conditions: none.
-/
import Derived.Test.YtganeocegdkddaaDoorBackP
namespace Go.Proofs.YtganeocegdkddaaDoor
open Go.RowKit Go.Lib

theorem cut_front (a s : ByteArray) (k : Nat) (h : a.size ≤ k) : (a ++ s).extract 0 k = a ++ s.extract 0 (k - a.size) := by
  apply ByteArray.ext
  apply Array.ext'
  have h' : a.data.toList.length ≤ k := h
  simp only [ByteArray.data_extract, ByteArray.data_append, Array.toList_extract, Array.toList_append, List.extract_eq_take_drop, List.drop_zero, Nat.sub_zero]
  rw [List.take_append, List.take_of_length_le h']
  rfl

theorem cut_text (s : ByteArray) (hs : s.size ≤ 1000) (cut : Nat) (hc : cut < s.size + 4) : ∃ r, textOf ((highs (s.size : Int) 4 4 ++ s).extract 0 cut) 0 5000 = (⟨#[]⟩, r, 5) := by
  have hsz : (highs (s.size : Int) 4 4 ++ s).size = 4 + s.size := by rw [ByteArray.size_append, highs_size]
  by_cases h4 : cut < 4
  · have hcs : ((highs (s.size : Int) 4 4 ++ s).extract 0 cut).size = cut := by rw [ByteArray.size_extract]; omega
    revert hcs
    generalize (highs (s.size : Int) 4 4 ++ s).extract 0 cut = t
    intro hcs
    have h1 : takeOf t 0 4 = (⟨#[]⟩, t, 5) := by
      rw [takeOf, if_neg (by simp), if_pos (by omega)]
    refine ⟨t, ?_⟩
    rw [textOf, h1]
    simp only [show ¬ ((5 : Int) = 0 ∧ (5000 : Int) < numOf t 0 4) from fun h => absurd h.1 (by decide), if_false]
    rw [takeOf, if_pos (by decide)]
  · rw [cut_front _ _ _ (by rw [highs_size]; omega), highs_size]
    have hz : (s.extract 0 (cut - 4)).size < s.size := by rw [ByteArray.size_extract]; omega
    revert hz
    generalize s.extract 0 (cut - 4) = t
    intro hz
    obtain ⟨h1, h2⟩ := read_num s.size 4 (by decide) (by omega) t
    refine ⟨t, ?_⟩
    rw [textOf, h1, h2]
    simp only []
    rw [if_neg (by omega), takeOf, if_neg (by simp), if_pos hz]
end Go.Proofs.YtganeocegdkddaaDoor
