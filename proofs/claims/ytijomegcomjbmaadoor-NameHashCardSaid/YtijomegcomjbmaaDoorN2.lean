/-
  Hashes. Conditions: none.
-/
import Derived.Test.YtijomegcomjbmaaDoorN1
namespace Go.Proofs.YtijomegcomjbmaaDoor
open Go.RowKit Go.Lib

theorem ofInt_u32 (a : Nat) (ha : a < 4294967296) : (BitVec.ofInt 32 (a : Int)).toNat = a := by
  rw [BitVec.ofInt_natCast, BitVec.toNat_ofNat]; exact Nat.mod_eq_of_lt (by omega)
theorem xor_u32 (a b : Nat) (ha : a < 4294967296) (hb : b < 4294967296) : bits .xor .u32 (a : Int) (b : Int) = ((a ^^^ b : Nat) : Int) := by
  have hx : a ^^^ b < 2 ^ 32 := Nat.xor_lt_two_pow (by omega) (by omega)
  show IntKind.u32.wrap ((BitVec.ofInt 32 (a : Int) ^^^ BitVec.ofInt 32 (b : Int)).toNat : Int) = _
  rw [BitVec.toNat_xor, ofInt_u32 a ha, ofInt_u32 b hb, IntKind.wrap_u32]
  omega

theorem hash_wrap (x : Nat) (c : UInt8) (hx : x < 4294967296) : bits .xor .u32 (x : Int) (c.toNat : Int) * 16777619 % 4294967296 = ((hashStep x c : Nat) : Int) := by
  have hc := c.toNat_lt
  rw [xor_u32 x c.toNat hx (by omega), hashStep]
  generalize x ^^^ c.toNat = y
  omega

theorem hash_any (s : ByteArray) (hs : s.size ≤ 1000000) (w : World) : Calls Tryd.prog 14 #[.string s] w fun en w' => en = .returned (.int .i64 ((hashX s.data.toList : Int) % 61)) ∧ w = w' := by
  obtain ⟨X, hX⟩ : ∃ X, hashX s.data.toList = X := ⟨_, rfl⟩
  rw [hX]
  have HX := Lib.hid hX; clear hX
  go_enter Tryd.func14, Tryd.ntmps14
  go_wp2_with fail
  go_loopg [3, 7] s.size (fun g x i wr => ∃ k : Nat, g = s.size - k ∧ k ≤ s.size ∧ x = .int .u32 (hashX (s.data.toList.take k)) ∧ i = .int .i64 k ∧ w = wr)
  case atStart => exact ⟨0, by omega, Nat.zero_le _, rfl, rfl, rfl⟩
  case round =>
    obtain ⟨k, hg, hk, rfl, rfl, rfl⟩ := hrel
    have HG := Lib.hid hg; clear hg
    have hlt2 := hashX_lt (s.data.toList.take k)
    by_cases hlt : k < s.size
    · have HS := Lib.hid (show hashX (s.data.toList.take (k + 1)) = hashStep (hashX (s.data.toList.take k)) s[k] by rw [name_take s k hlt, hashX_snoc])
      have hb := s[k].toNat_lt
      go_wp2
      go_roundg (s.size - (k + 1))
      case measure => rw [HG.out]; omega
      case rel => exact ⟨k + 1, rfl, hlt, by rw [HS.out, hash_wrap _ _ hlt2], rfl, rfl⟩
    · obtain rfl : k = s.size := by omega
      rw [show s.data.toList.take s.size = s.data.toList from List.take_of_length_le (by simp), HX.out] at hlt2 ⊢
      have hx0 : (0 : Int) ≤ (X : Int) := by omega
      go_wp2
      go_ret
      exact ⟨rfl, rfl⟩

theorem rhash_any (s : ByteArray) (hs : s.size ≤ 1000000) (w : World) : Calls Tryd.prog 20 #[.string s] w fun en w' => en = .returned (.int .i64 ((hashX s.data.toList : Int) % 61)) ∧ w = w' := by
  obtain ⟨X, hX⟩ : ∃ X, hashX s.data.toList = X := ⟨_, rfl⟩
  rw [hX]
  have HX := Lib.hid hX; clear hX
  go_enter Tryd.func20, Tryd.ntmps20
  go_wp2_with fail
  go_loopg [3, 4] s.size (fun g x i wr => ∃ k : Nat, g = s.size - k ∧ k ≤ s.size ∧ x = .int .u32 (hashX (s.data.toList.take k)) ∧ i = .int .i64 k ∧ w = wr)
  case atStart => exact ⟨0, by omega, Nat.zero_le _, rfl, rfl, rfl⟩
  case round =>
    obtain ⟨k, hg, hk, rfl, rfl, rfl⟩ := hrel
    have HG := Lib.hid hg; clear hg
    have hlt2 := hashX_lt (s.data.toList.take k)
    by_cases hlt : k < s.size
    · have HS := Lib.hid (show hashX (s.data.toList.take (k + 1)) = hashStep (hashX (s.data.toList.take k)) s[k] by rw [name_take s k hlt, hashX_snoc])
      have hb := s[k].toNat_lt
      go_wp2
      go_roundg (s.size - (k + 1))
      case measure => rw [HG.out]; omega
      case rel => exact ⟨k + 1, rfl, hlt, by rw [HS.out, hash_wrap _ _ hlt2], rfl, rfl⟩
    · obtain rfl : k = s.size := by omega
      rw [show s.data.toList.take s.size = s.data.toList from List.take_of_length_le (by simp), HX.out] at hlt2 ⊢
      have hx0 : (0 : Int) ≤ (X : Int) := by omega
      go_wp2
      go_ret
      exact ⟨rfl, rfl⟩
end Go.Proofs.YtijomegcomjbmaaDoor
