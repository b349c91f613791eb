/-
  Package real: the text of bits. Conditions: none.
-/
import Derived.Test.YtidjnfjpdnjogaaDoorPrC3
namespace Go.Proofs.YtidjnfjpdnjogaaDoor
open Go.RowKit Go.Lib

theorem sign_at : ∀ i : Fin 16, ((⟨#[48, 49, 50, 51, 52, 53, 54, 55, 56, 57, 97, 98, 99, 100, 101, 102]⟩ : ByteArray)[i.val]'i.isLt).toNat = (hexSign i.val).toNat := by decide +kernel
theorem sign_mask (b k : Nat) (hb : b < 18446744073709551616) : bits .and .u64 ((b : Int) / 2 ^ (4 * (15 - k))) 15 = ((b / 16 ^ (15 - k) % 16 : Nat) : Int) := by
  have h1 : (2 : Nat) ^ (4 * (15 - k)) = 16 ^ (15 - k) := by rw [Nat.pow_mul]
  have h2 : (b : Int) / 2 ^ (4 * (15 - k)) = ((b / 16 ^ (15 - k) : Nat) : Int) := by rw [← h1]; simp
  have h3 : b / 16 ^ (15 - k) ≤ b := Nat.div_le_self _ _
  rw [h2, show (15 : Int) = ((15 : Nat) : Int) from rfl, bits_and_u64_nat _ _ (by omega) (by decide)]
  rw [show (15 : Nat) = 2 ^ 4 - 1 from rfl, Nat.and_two_pow_sub_one_eq_mod]
theorem hexDig_next (b k : Nat) (h : k < 16) : (hexDig b).take (k + 1) = (hexDig b).take k ++ [hexSign (b / 16 ^ (15 - k) % 16)] := by
  have hk : k < (hexDig b).length := by rw [hexDig_length]; omega
  rw [List.take_succ_eq_append_getElem hk]
  simp [hexDig]

end Go.Proofs.YtidjnfjpdnjogaaDoor
