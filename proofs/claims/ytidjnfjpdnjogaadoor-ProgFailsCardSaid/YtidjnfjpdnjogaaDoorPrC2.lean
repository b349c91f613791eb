/-
  Package real: what Go's math tells; a text of bits; a number read. Conditions: none.
-/
import Derived.Test.YtidjnfjpdnjogaaDoorPrC1
import Derived.Test.YtidjnfjpdnjogaaDoorRealH
import Derived.Test.YtidjnfjpdnjogaaDoorNum
namespace Go.Proofs.YtidjnfjpdnjogaaDoor
open Go.RowKit Go.Lib

theorem minf_pos (w : World) : Calls Tryd.prog 53 #[.int .i64 1] w fun en w' => en = .returned (.float .f64 9218868437227405312) ∧ w = w' := by
  have h57 := runFrom
  go_enter Tryd.func53, Tryd.ntmps53
  go_wp2
  go_ret
  exact ⟨rfl, rfl⟩
theorem minf_neg (w : World) : Calls Tryd.prog 53 #[.int .i64 (-1)] w fun en w' => en = .returned (.float .f64 18442240474082181120) ∧ w = w' := by
  have h57 := runFrom
  go_enter Tryd.func53, Tryd.ntmps53
  go_wp2
  go_ret
  exact ⟨rfl, rfl⟩
theorem mcopy_any (w : World) : Calls Tryd.prog 54 #[.float .f64 0, .float .f64 13830554455654793216] w fun en w' => en = .returned (.float .f64 9223372036854775808) ∧ w = w' := by
  have h57 := runFrom
  have h56 := runBits
  go_enter Tryd.func54, Tryd.ntmps54
  go_wp2
  go_ret
  exact ⟨rfl, rfl⟩
/-- what Parse and hex tell -/
def tellsF (r : Nat × Int) : Value := .tuple #[.float .f64 r.1, .int .i64 r.2]

theorem mem_of_index (d : ByteArray) (k : Nat) (h : k < d.size) : d[k] ∈ d.data.toList := by
  have h2 : k < d.data.toList.length := by simpa using h
  have h3 : d[k] = d.data.toList[k] := by simp [ByteArray.getElem_eq_getElem_data]
  rw [h3]; exact List.getElem_mem h2
theorem hexstep_bad (d : ByteArray) (k : Nat) (h : k < d.size) (hn : hexAt d[k] < 0) : d.data.toList.all hexOk = false := by
  rw [List.all_eq_false]
  exact ⟨d[k], mem_of_index d k h, by unfold hexOk; simp; omega⟩
theorem hexstep_good (d : ByteArray) (k : Nat) (h : k < d.size) (hn : ¬ hexAt d[k] < 0) (ha : (d.data.toList.take k).all hexOk = true) :
    (d.data.toList.take (k + 1)).all hexOk = true ∧
    bits .or .u64 (IntKind.u64.wrap (((hexFold (d.data.toList.take k) : Nat) : Int) % 18446744073709551616 * 16)) (IntKind.u64.wrap (hexAt d[k])) = ((hexFold (d.data.toList.take (k + 1)) : Nat) : Int) % 18446744073709551616 := by
  rw [take_snoc d k h]
  refine ⟨?_, ?_⟩
  · rw [List.all_append, ha]
    simp only [List.all_cons, List.all_nil, Bool.and_true, Bool.true_and]
    unfold hexOk; simp; omega
  · have h1 := hexVal_lt d[k]
    have h2 : hexAt d[k] = ((hexVal d[k] : Nat) : Int) := by unfold hexVal; omega
    have h3 := or_sign (hexFold (d.data.toList.take k) % 18446744073709551616) (hexVal d[k]) h1
    rw [h2, hexFold_snoc]
    rw [show ((hexFold (d.data.toList.take k) : Nat) : Int) % 18446744073709551616 = ((hexFold (d.data.toList.take k) % 18446744073709551616 : Nat) : Int) by omega, h3]
    omega

theorem hex_any (s : ByteArray) (hs : s.size ≤ 281474976710656) (w : World) : Calls Tryd.prog 56 #[.string s] w fun en w' => en = .returned (tellsF (hexTell s.data.toList)) ∧ w = w' := by
  have HI : Hid (∀ (c : UInt8) (w : World), Calls Tryd.prog 72 #[.string ⟨#[48, 49, 50, 51, 52, 53, 54, 55, 56, 57, 97, 98, 99, 100, 101, 102]⟩, .int .u8 (c.toNat : Int)] w fun e w' => e = .returned (.int .i64 (hexAt c)) ∧ w' = w) := Lib.hid fun c w => by
    have h := Tryd.strings_IndexByte ⟨#[48, 49, 50, 51, 52, 53, 54, 55, 56, 57, 97, 98, 99, 100, 101, 102]⟩ (c.toNat : Int) w
    have h2 : ((c.toNat : Int)).toNat.toUInt8 = c := by simp
    rw [h2] at h
    exact h
  go_enter Tryd.func56, Tryd.ntmps56
  go_wp2_with fail
  go_loopg [4, 9] s.size (fun g v i wr => ∃ k : Nat, g = s.size - k ∧ k ≤ s.size ∧ v = .int .u64 (((hexFold (s.data.toList.take k) : Nat) : Int) % 18446744073709551616) ∧ i = .int .i64 k ∧ (s.data.toList.take k).all hexOk = true ∧ wr = w)
  case atStart => exact ⟨0, by omega, Nat.zero_le _, rfl, rfl, rfl, rfl⟩
  case round =>
    obtain ⟨k, hg, hk, rfl, rfl, ha, rfl⟩ := hrel
    have HG := Lib.hid hg; clear hg
    by_cases hlt : k < s.size
    · go_wp2_with fail
      refine (HI.out s[k] _).mono ?_
      rintro en w1 ⟨rfl, rfl⟩
      by_cases hn : hexAt s[k] < 0
      · have hall := hexstep_bad s k hlt hn
        have HA := Lib.hid hall; clear hall ha
        go_wp2
        refine bodyPost_ret (v := tellsF (0, 6)) (by simp [results, Tryd.results56, go_sem, tellsF]) rfl ⟨?_, rfl⟩
        rw [hexTell, HA.out]; rfl
      · have HS := Lib.hid (hexstep_good s k hlt hn ha)
        clear ha
        go_wp2
        go_roundg (s.size - (k + 1))
        case measure => rw [HG.out]; omega
        case rel => exact ⟨k + 1, rfl, hlt, by rw [HS.out.2], rfl, HS.out.1, rfl⟩
    · obtain rfl : k = s.size := by omega
      rw [show s.data.toList.take s.size = s.data.toList from List.take_of_length_le (by simp)] at ha ⊢
      by_cases h16 : s.size = 16
      · have hb : ((s.size : Int) != 16) = false := by rw [h16]; rfl
        have hf := hexFold_lt s.data.toList
        have ht : hexTell s.data.toList = (oneW (hexFold s.data.toList), 0) := by
          rw [hexTell, ha, show s.data.toList.length = 16 by simpa using h16]; rfl
        rw [show s.data.toList.length = 16 by simpa using h16] at hf
        have hm : ((hexFold s.data.toList : Nat) : Int) % 18446744073709551616 = ((hexFold s.data.toList : Nat) : Int) := by omega
        have HT := Lib.hid ht; clear ht
        rw [hm]
        clear hm hf ha h16
        go_wp2_with fail
        refine (rof_any _ _).mono ?_
        rintro en w1 ⟨rfl, rfl⟩
        go_wp2
        exact bodyPost_ret (v := tellsF (oneW (hexFold s.data.toList), 0)) (by simp [results, Tryd.results56, go_sem, tellsF]) rfl ⟨by rw [HT.out], rfl⟩
      · have hb : ((s.size : Int) != 16) = true := by simp; omega
        have ht : hexTell s.data.toList = (0, 6) := by
          rw [hexTell, if_neg (by simp; intro _; exact h16)]
        have HT := Lib.hid ht; clear ht
        clear ha h16
        go_wp2
        exact bodyPost_ret (v := tellsF (0, 6)) (by simp [results, Tryd.results56, go_sem, tellsF]) rfl ⟨by rw [HT.out], rfl⟩
end Go.Proofs.YtidjnfjpdnjogaaDoor
