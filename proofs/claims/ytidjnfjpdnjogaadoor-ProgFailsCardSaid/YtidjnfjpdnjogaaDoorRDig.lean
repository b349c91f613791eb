/-
  chronicleref1.Digits: what it tells. Conditions: none.
-/
import Derived.Test.YtidjnfjpdnjogaaDoorRNum
namespace Go.Proofs.YtidjnfjpdnjogaaDoor
open Go.RowKit Go.Lib

theorem byte_text (c : UInt8) (x : Int) (hx : x = c.toNat) (w : World) : (convert 79 9 (.slice (some ⟨w.heap.size, 0, none⟩) 1 1)).run Tryd.prog (w.alloc (.cells #[.int .u8 x] 5)) = .ok (.string ⟨#[c]⟩) (w.alloc (.cells #[.int .u8 x] 5)) := by
  subst hx
  exact run_convert_whole _ 79 5 9 Tryd.underlying79 Tryd.underlying5 Tryd.underlying9 w.heap.size 0 ⟨#[c]⟩ (fun i hi => by
        have hi0 : i = 0 := by have : i < 1 := hi; omega
        subst hi0
        have hb := new_block w (.cells #[.int .u8 (c.toNat)] 5)
        simp only [World.cell?, hb]
        rfl) 1

theorem dec_last (k : Nat) (sr : ByteArray) (l : List UInt8) (h : l = decDigits k ++ sr.data.toList) (h9 : k < 10) : l = (⟨#[UInt8.ofNat (48 + k % 10)]⟩ ++ sr : ByteArray).data.toList := by
  rw [h, decDigits, dif_pos h9, Nat.mod_eq_of_lt h9]
  simp [ByteArray.data_append]
theorem dec_more (k : Nat) (sr : ByteArray) (l : List UInt8) (h : l = decDigits k ++ sr.data.toList) (h9 : ¬ k < 10) : l = decDigits (k / 10) ++ (⟨#[UInt8.ofNat (48 + k % 10)]⟩ ++ sr : ByteArray).data.toList := by
  rw [h, decDigits, dif_neg h9]
  simp [ByteArray.data_append]

theorem dec_part (v k : Nat) (sr : ByteArray) (hv : v ≤ 9223372036854775808) (h : decDigits v = decDigits k ++ sr.data.toList) : sr.size ≤ 20 := by
  have h1 := congrArg List.length h
  rw [decDigits_length, List.length_append] at h1
  have h2 := nDigits_le 19 v (by omega)
  have h3 : sr.data.toList.length = sr.size := by simp
  omega

theorem rdig_pos (v : Nat) (hv : v ≤ 9223372036854775807) (w : World) : Calls Tryd.prog 25 #[.int .i64 v] w fun en w' => en = .returned (.string ⟨(decDigits v).toArray⟩) ∧ Below w.heap.size w w' := by
  have h0 : ¬ (v : Int) < 0 := by omega
  go_enter Tryd.func25, Tryd.ntmps25
  go_wp2_with fail
  go_loopg [0, 3] v (fun g x r wr => ∃ (k : Nat) (sr : ByteArray), g = k ∧ x = .int .i64 k ∧ r = .string sr ∧ k ≤ 9223372036854775807 ∧ decDigits v = decDigits k ++ sr.data.toList ∧ Below w.heap.size w wr)
  case atStart => exact ⟨v, ⟨#[]⟩, rfl, rfl, rfl, hv, by simp, Below.refl _ _⟩
  case round =>
    obtain ⟨k, sr, hg, rfl, rfl, hk, hd, hb⟩ := hrel
    have hsz := dec_part v k sr (by omega) hd
    have HG := Lib.hid (And.intro hg hd); clear hg hd
    have hc1 : ¬ ((k : Int) % 10 < 0) := by omega
    have hcv : ∀ w : World, _ := byte_text (UInt8.ofNat (48 + k % 10)) (48 + (k : Int) % 10) (by rw [digit_of _ (by omega)]; omega)
    by_cases h9 : k < 10
    · have hz : (((k : Int) / 10) == 0) = true := beq_iff_eq.2 (by omega)
      have hlast := dec_last k sr (decDigits v) HG.out.2 h9
      revert hcv hlast
      generalize UInt8.ofNat (48 + k % 10) = c
      intro hcv hlast
      have HL := Lib.hid hlast; clear hlast
      go_wp2_with fail
      go_ret
      exact ⟨by rw [HL.out]; rfl, hb.trans ((below_alloc _ _).mono hb.size)⟩
    · have hz : (((k : Int) / 10) == 0) = false := beq_eq_false_iff_ne.2 (by omega)
      have hmore := dec_more k sr (decDigits v) HG.out.2 h9
      revert hcv hmore
      generalize UInt8.ofNat (48 + k % 10) = c
      intro hcv hmore
      have HL := Lib.hid hmore; clear hmore
      go_wp2_with fail
      go_roundg (k / 10)
      case measure => rw [HG.out.1]; omega
      case rel => exact ⟨k / 10, _, rfl, rfl, rfl, by omega, HL.out, hb.trans ((below_alloc _ _).mono hb.size)⟩

theorem rdig_neg (v : Nat) (hv : v ≤ 9223372036854775808) (hv1 : 1 ≤ v) (w : World) : Calls Tryd.prog 25 #[.int .i64 (-(v : Int))] w fun en w' => en = .returned (.string ⟨(45 :: decDigits v).toArray⟩) ∧ Below w.heap.size w w' := by
  have h0 : -(v : Int) < 0 := by omega
  have h00 : decide (0 < v) = true := by simp; omega
  go_enter Tryd.func25, Tryd.ntmps25
  go_wp2_with fail
  go_loopg [0, 3] v (fun g x r wr => ∃ (k : Nat) (sr : ByteArray), g = k ∧ x = .int .i64 (-(k : Int)) ∧ r = .string sr ∧ k ≤ 9223372036854775808 ∧ decDigits v = decDigits k ++ sr.data.toList ∧ Below w.heap.size w wr)
  case atStart => exact ⟨v, ⟨#[]⟩, rfl, rfl, rfl, hv, by simp, Below.refl _ _⟩
  case round =>
    obtain ⟨k, sr, hg, rfl, rfl, hk, hd, hb⟩ := hrel
    have hsz := dec_part v k sr hv hd
    have HG := Lib.hid (And.intro hg hd); clear hg hd
    have hwz : (0 < (k : Int) % 10 ∧ ∀ w : World, (convert 79 9 (.slice (some ⟨w.heap.size, 0, none⟩) 1 1)).run Tryd.prog (w.alloc (.cells #[.int .u8 (48 + (k : Int) % 10)] 5)) = .ok (.string ⟨#[UInt8.ofNat (48 + k % 10)]⟩) (w.alloc (.cells #[.int .u8 (48 + (k : Int) % 10)] 5))) ∨
        ((k : Int) % 10 ≤ 0 ∧ ∀ w : World, (convert 79 9 (.slice (some ⟨w.heap.size, 0, none⟩) 1 1)).run Tryd.prog (w.alloc (.cells #[.int .u8 (48 + -((k : Int) % 10))] 5)) = .ok (.string ⟨#[UInt8.ofNat (48 + k % 10)]⟩) (w.alloc (.cells #[.int .u8 (48 + -((k : Int) % 10))] 5))) := by
      by_cases hm : 0 < (k : Int) % 10
      · exact Or.inl ⟨hm, byte_text _ _ (by rw [digit_of _ (by omega)]; omega)⟩
      · exact Or.inr ⟨by omega, byte_text _ _ (by rw [digit_of _ (by omega)]; omega)⟩
    rcases hwz with ⟨hc1, hcv⟩ | ⟨hc1, hcv⟩
    all_goals
      by_cases h9 : k < 10
      · have hz : (((k : Int) / 10) == 0) = true := beq_iff_eq.2 (by omega)
        have hz2 : (-((k : Int) / 10) == 0) = true := beq_iff_eq.2 (by omega)
        have hlast := dec_last k sr (decDigits v) HG.out.2 h9
        revert hcv hlast
        generalize UInt8.ofNat (48 + k % 10) = c
        intro hcv hlast
        have HL := Lib.hid hlast; clear hlast
        go_wp2_with fail
        go_ret
        refine ⟨?_, hb.trans ((below_alloc _ _).mono hb.size)⟩
        rw [HL.out]
        congr 2
      · have hz : (((k : Int) / 10) == 0) = false := beq_eq_false_iff_ne.2 (by omega)
        have hz2 : (-((k : Int) / 10) == 0) = false := beq_eq_false_iff_ne.2 (by omega)
        have hmore := dec_more k sr (decDigits v) HG.out.2 h9
        revert hcv hmore
        generalize UInt8.ofNat (48 + k % 10) = c
        intro hcv hmore
        have HL := Lib.hid hmore; clear hmore
        go_wp2_with fail
        go_roundg (k / 10)
        case measure => rw [HG.out.1]; omega
        case rel => exact ⟨k / 10, _, rfl, rfl, rfl, by omega, HL.out, hb.trans ((below_alloc _ _).mono hb.size)⟩

theorem rdigits_any (v : Int) (h0 : -9223372036854775808 ≤ v) (h1 : v ≤ 9223372036854775807) (w : World) : Calls Tryd.prog 25 #[.int .i64 v] w fun en w' => en = .returned (.string ⟨(itoa v).toArray⟩) ∧ Below w.heap.size w w' := by
  by_cases h : v < 0
  · obtain ⟨n, hn⟩ : ∃ n : Nat, v = -(n : Int) := ⟨v.natAbs, by omega⟩
    subst hn
    rw [itoa_minus h, show (-(n : Int)).natAbs = n by omega]
    exact rdig_neg n (by omega) (by omega) w
  · obtain ⟨n, rfl⟩ := Int.eq_ofNat_of_zero_le (Int.not_lt.1 h)
    rw [itoa_pos h, Int.toNat_natCast]
    exact rdig_pos n (by omega) w
end Go.Proofs.YtidjnfjpdnjogaaDoor
