/-
  What was put is read as it was: numbers and texts, the plain law. Conditions: none.
-/
import Derived.Test.YtganeocegdkddaaDoorH
namespace Go.Proofs.YtganeocegdkddaaDoor
open Go.RowKit Go.Lib

theorem byteAt_nat (x j : Nat) : (byteAt (x : Int) j).toNat = x / 256 ^ j % 256 := by
  rw [byteAt, UInt8.toNat_ofNat', Int.toNat_natCast, Nat.shiftRight_eq_div_pow, Nat.pow_mul]

theorem highs_get (x : Int) (n k : Nat) (r : ByteArray) (h : k < n) : (highs x n n ++ r).data.toList.getD k 0 = byteAt x (n - 1 - k) := by
  simp [highs, ByteArray.data_append, h, List.getElem?_append]

theorem low_highs (x n : Nat) (hn : n ≤ 8) (hx : x < 256 ^ n) (r : ByteArray) : ∀ k, k ≤ n → lowUp (highs (x : Int) n n ++ r) k = x / 256 ^ (n - k)
  | 0, _ => by rw [lowUp, Nat.sub_zero, Nat.div_eq_of_lt hx]
  | k + 1, h => by
    rw [lowUp, low_highs x n hn hx r k (by omega), highs_get _ _ _ _ (by omega), byteAt_nat]
    have e1 : n - k = (n - (k + 1)) + 1 := by omega
    have e2 : n - 1 - k = n - (k + 1) := by omega
    rw [e1, e2, Nat.pow_succ, ← Nat.div_div_eq_div_mul]
    have hlt : x / 256 ^ (n - (k + 1)) < 18446744073709551616 := by
      refine Nat.lt_of_le_of_lt (Nat.div_le_self _ _) (Nat.lt_of_lt_of_le hx ?_)
      exact Nat.pow_le_pow_right (by decide) hn
    generalize x / 256 ^ (n - (k + 1)) = y at hlt
    omega

theorem take_front (a r : ByteArray) (n : Nat) (h : a.size = n) : takeOf (a ++ r) 0 n = (a, r, 0) := by
  subst h
  have h1 : (a ++ r).size = a.size + r.size := ByteArray.size_append
  rw [takeOf, if_neg (by simp), if_neg (by omega)]
  have h3 : (a ++ r).extract 0 a.size = a := by
    apply ByteArray.ext
    apply Array.ext'
    simp
    exact List.take_of_length_le (Nat.le_refl _)
  have h4 : (a ++ r).extract a.size (a ++ r).size = r := by
    apply ByteArray.ext
    apply Array.ext'
    rw [h1]
    simp only [ByteArray.data_extract, ByteArray.data_append, Array.toList_extract, Array.toList_append, List.extract_eq_take_drop]
    have e : a.size = a.data.toList.length := rfl
    rw [e, List.drop_left]
    exact List.take_of_length_le (by rw [Nat.add_sub_cancel_left]; exact Nat.le_refl _)
  rw [h3, h4]

/-- A number that was put is read. -/
theorem read_num (x n : Nat) (hn : n ≤ 8) (hx : x < 256 ^ n) (r : ByteArray) : numOf (highs (x : Int) n n ++ r) 0 n = x ∧ takeOf (highs (x : Int) n n ++ r) 0 n = (highs (x : Int) n n, r, 0) := by
  have h1 := take_front (highs (x : Int) n n) r n (highs_size _ _ _)
  refine ⟨?_, h1⟩
  rw [numOf, h1]
  have h2 := low_highs x n hn hx ⟨#[]⟩ n (Nat.le_refl _)
  have h3 : highs (x : Int) n n ++ (⟨#[]⟩ : ByteArray) = highs (x : Int) n n := by
    apply ByteArray.ext; simp
  rw [h3, Nat.sub_self, Nat.pow_zero, Nat.div_one] at h2
  simp only [highs_size]
  exact h2

/-- A text that was put is read. -/
theorem read_text (s r : ByteArray) (hs : s.size ≤ 1000000) (most : Int) (hm : (s.size : Int) ≤ most) : textOf (highs (s.size : Int) 4 4 ++ (s ++ r)) 0 most = (s, r, 0) := by
  obtain ⟨h1, h2⟩ := read_num s.size 4 (by decide) (by omega) (s ++ r)
  rw [textOf, h1, h2]
  simp only []
  rw [if_neg (by omega), take_front s r _ rfl]
end Go.Proofs.YtganeocegdkddaaDoor
