/-
  The document's Category and Unlink. Conditions: none.
-/
import Derived.Test.YtijomegcomjbmaaDoorN3
namespace Go.Proofs.YtijomegcomjbmaaDoor
open Go.RowKit Go.Lib

theorem cutB_hit (b : UInt8) (s : ByteArray) (k : Nat) (h : k < s.size) (hn : b ∉ s.data.toList.take k) (hb : s[k] = b) : cutB b s.data.toList = (s.data.toList.take k, s.data.toList.drop (k + 1), true) := by
  have e : s.data.toList = s.data.toList.take k ++ b :: s.data.toList.drop (k + 1) := by
    have h1 := List.take_append_drop k s.data.toList
    rw [List.drop_eq_getElem_cons (by simpa using h)] at h1
    have h2 : s.data.toList[k]'(by simpa using h) = b := hb
    rw [h2] at h1
    exact h1.symm
  have h2 := cutB_at b (s.data.toList.take k) (s.data.toList.drop (k + 1)) hn
  rw [← e] at h2
  exact h2
theorem not_next (b : UInt8) (s : ByteArray) (k : Nat) (h : k < s.size) (hn : b ∉ s.data.toList.take k) (hb : ((s[k].toNat : Int) == b.toNat) = false) : b ∉ s.data.toList.take (k + 1) := by
  rw [name_take s k h]
  intro hc
  rcases List.mem_append.1 hc with h1 | h1
  · exact hn h1
  · simp only [List.mem_singleton] at h1
    rw [← h1] at hb
    simp at hb
theorem byte_eq {c b : UInt8} (h : ((c.toNat : Int) == b.toNat) = true) : c = b := by
  apply UInt8.toNat_inj.1
  have := beq_iff_eq.1 h
  omega
theorem ext_take (s : ByteArray) (k : Nat) : (⟨(s.data.toList.take k).toArray⟩ : ByteArray) = s.extract 0 k := by
  apply ByteArray.ext; apply Array.ext'
  simp
theorem ext_drop (s : ByteArray) (k : Nat) : (⟨(s.data.toList.drop k).toArray⟩ : ByteArray) = s.extract k s.size := by
  apply ByteArray.ext; apply Array.ext'
  simp only [ByteArray.data_extract, Array.toList_extract, List.extract_eq_take_drop]
  rw [List.take_of_length_le (by simp)]

theorem rcategory_any (s : ByteArray) (hs : s.size ≤ 1000000) (w : World) : Calls Tryd.prog 15 #[.string s] w fun en w' => en = .returned (catTells (categoryOf s.data.toList)) ∧ w = w' := by
  have HS := Lib.hid (fun w => rstream_any s w)
  have HY := Lib.hid (fun w => rsystem_any s w)
  have hcat : categoryOf s.data.toList = if (cutB 45 s.data.toList).2.2 && !(cutB 45 s.data.toList).1.isEmpty && streamB s.data.toList && !systemB s.data.toList then ((cutB 45 s.data.toList).1, true) else ([], false) := rfl
  obtain ⟨v, hv⟩ : ∃ v, catTells (categoryOf s.data.toList) = v := ⟨_, rfl⟩
  rw [hcat] at hv
  rw [show catTells (categoryOf s.data.toList) = v by rw [hcat]; exact hv]
  clear hcat
  revert HS HY hv
  generalize streamB s.data.toList = st
  generalize systemB s.data.toList = sy
  intro HS HY hv
  cases st
  · have HV := Lib.hid (show v = .tuple #[.string ⟨#[]⟩, .bool false] by rw [← hv, Bool.and_false, Bool.false_and]; rfl); clear hv
    go_enter Tryd.func15, Tryd.ntmps15
    go_wp2_with fail
    refine (HS.out w).mono ?_
    rintro en w' ⟨rfl, rfl⟩
    go_wp2
    exact bodyPost_ret (v := .tuple #[.string ⟨#[]⟩, .bool false]) (by simp [results, Tryd.results15, go_sem]) rfl ⟨by rw [HV.out], rfl⟩
  · cases sy
    · have HV := Lib.hid hv; clear hv
      go_enter Tryd.func15, Tryd.ntmps15
      go_wp2_with fail
      refine (HS.out w).mono ?_
      rintro en w' ⟨rfl, rfl⟩
      go_wp2_with fail
      refine (HY.out w).mono ?_
      rintro en w' ⟨rfl, rfl⟩
      go_wp2_with fail
      go_loopg [4] s.size (fun g i wr => ∃ k : Nat, g = s.size - k ∧ k ≤ s.size ∧ i = .int .i64 k ∧ (45 : UInt8) ∉ s.data.toList.take k ∧ w = wr)
      case atStart => exact ⟨0, by omega, Nat.zero_le _, rfl, by simp, rfl⟩
      case round =>
        obtain ⟨k, hg, hk, rfl, hn, rfl⟩ := hrel
        have HG := Lib.hid (And.intro hg hn); clear hg hn
        by_cases hlt : k < s.size
        · cases h3 : ((s[k].toNat : Int) == 45)
          · have HN := Lib.hid (not_next 45 s k hlt HG.out.2 h3)
            go_wp2
            go_roundg (s.size - (k + 1))
            case measure => rw [HG.out.1]; omega
            case rel => exact ⟨k + 1, rfl, hlt, by go_num, HN.out, rfl⟩
          · have hc := cutB_hit 45 s k hlt HG.out.2 (byte_eq h3)
            have hval : v = .tuple #[.string (s.extract 0 k), .bool (decide ((0 : Int) < (k : Int)))] := by
              rw [← HV.out, hc]
              by_cases h0 : k = 0
              · subst h0
                simp [catTells]
                apply ByteArray.ext; simp
              · have h1 : (s.data.toList.take k).isEmpty = false := by
                  cases hx : s.data.toList.take k with
                  | nil =>
                    have hlen : (s.data.toList.take k).length = k := by rw [List.length_take]; simp; omega
                    rw [hx] at hlen
                    exact absurd hlen.symm h0
                  | cons _ _ => rfl
                have h2 : decide ((0 : Int) < (k : Int)) = true := by simp; omega
                simp only [h1, h2]
                show Value.tuple #[.string ⟨(s.data.toList.take k).toArray⟩, .bool true] = _
                rw [ext_take]
            have HW := Lib.hid hval; clear hval hc
            go_wp2
            exact bodyPost_ret (v := .tuple #[.string (s.extract 0 k), .bool (decide ((0 : Int) < (k : Int)))]) (by simp [results, Tryd.results15, go_sem]) rfl ⟨by rw [HW.out], rfl⟩
        · obtain rfl : k = s.size := by omega
          have hn := HG.out.2
          rw [List.take_of_length_le (by simp)] at hn
          have HW := Lib.hid (show v = .tuple #[.string ⟨#[]⟩, .bool false] by rw [← HV.out, cutB_not 45 _ hn]; rfl); clear hn
          go_wp2
          exact bodyPost_ret (v := .tuple #[.string ⟨#[]⟩, .bool false]) (by simp [results, Tryd.results15, go_sem]) rfl ⟨by rw [HW.out], rfl⟩
    · have HV := Lib.hid (show v = .tuple #[.string ⟨#[]⟩, .bool false] by rw [← hv, Bool.not_true, Bool.and_false]; rfl); clear hv
      go_enter Tryd.func15, Tryd.ntmps15
      go_wp2_with fail
      refine (HS.out w).mono ?_
      rintro en w' ⟨rfl, rfl⟩
      go_wp2_with fail
      refine (HY.out w).mono ?_
      rintro en w' ⟨rfl, rfl⟩
      go_wp2
      exact bodyPost_ret (v := .tuple #[.string ⟨#[]⟩, .bool false]) (by simp [results, Tryd.results15, go_sem]) rfl ⟨by rw [HV.out], rfl⟩

theorem runlink_any (s : ByteArray) (hs : s.size ≤ 1000000) (w : World) : Calls Tryd.prog 16 #[.string s] w fun en w' => en = .returned (linkTells (unlinkOf s.data.toList)) ∧ Below w.heap.size w w' := by
  have HS := Lib.hid (fun x w => rstream_any x w)
  have HN := Lib.hid (fun x w => rnumber_any x w)
  have hcat : unlinkOf s.data.toList = if (cutB 64 s.data.toList).2.2 && (numberOf (cutB 64 s.data.toList).1).2 == 0 && decide (0 ≤ (numberOf (cutB 64 s.data.toList).1).1) && streamB (cutB 64 s.data.toList).2.1 then ((numberOf (cutB 64 s.data.toList).1).1, (cutB 64 s.data.toList).2.1, 0) else (0, [], 6) := rfl
  obtain ⟨v, hv⟩ : ∃ v, linkTells (unlinkOf s.data.toList) = v := ⟨_, rfl⟩
  rw [hv]
  rw [hcat] at hv
  have HV := Lib.hid hv; clear hv hcat
  go_enter Tryd.func16, Tryd.ntmps16
  go_wp2_with fail
  go_loopg [5] s.size (fun g i wr => ∃ k : Nat, g = s.size - k ∧ k ≤ s.size ∧ i = .int .i64 k ∧ (64 : UInt8) ∉ s.data.toList.take k ∧ w = wr)
  case atStart => exact ⟨0, by omega, Nat.zero_le _, rfl, by simp, rfl⟩
  case round =>
    obtain ⟨k, hg, hk, rfl, hn, rfl⟩ := hrel
    have HG := Lib.hid (And.intro hg hn); clear hg hn
    by_cases hlt : k < s.size
    · cases h3 : ((s[k].toNat : Int) == 64)
      · have HN := Lib.hid (not_next 64 s k hlt HG.out.2 h3)
        go_wp2
        go_roundg (s.size - (k + 1))
        case measure => rw [HG.out.1]; omega
        case rel => exact ⟨k + 1, rfl, hlt, by go_num, HN.out, rfl⟩
      · have hc := cutB_hit 64 s k hlt HG.out.2 (byte_eq h3)
        have e1 : (s.extract 0 k).data.toList = s.data.toList.take k := by rw [← ext_take]
        have e2 : (s.extract (k + 1) s.size).data.toList = s.data.toList.drop (k + 1) := by rw [← ext_drop]
        have hval : v = if (numberOf (s.extract 0 k).data.toList).2 == 0 && decide (0 ≤ (numberOf (s.extract 0 k).data.toList).1) && streamB (s.extract (k + 1) s.size).data.toList then .tuple #[.int .i64 (numberOf (s.extract 0 k).data.toList).1, .string (s.extract (k + 1) s.size), .int .i64 0] else .tuple #[.int .i64 0, .string ⟨#[]⟩, .int .i64 6] := by
          rw [← HV.out, hc, e1, e2]
          simp only [Bool.true_and]
          split
          · rw [linkTells, ext_drop]
          · rfl
        clear hc e1 e2
        obtain ⟨⟨a, e⟩, hae⟩ : ∃ r, numberOf (s.extract 0 k).data.toList = r := ⟨_, rfl⟩
        obtain ⟨st, hst⟩ : ∃ r, streamB (s.extract (k + 1) s.size).data.toList = r := ⟨_, rfl⟩
        rw [hae, hst] at hval
        have HA := Lib.hid hae; have HT := Lib.hid hst; clear hae hst
        simp only [] at hval
        have hw : IntKind.i64.wrap ((k : Int) + 1) = (k : Int) + 1 := IntWalk.i64_in _ (by omega)
        have hk1 : k + 1 ≤ s.size := hlt
        have hways : ((e == 0) = false) ∨ ((e == 0) = true ∧ a < 0) ∨ ((e == 0) = true ∧ ¬ a < 0 ∧ st = false) ∨ ((e == 0) = true ∧ ¬ a < 0 ∧ st = true) := by
          cases (e == 0) <;> cases st <;> simp <;> omega
        rcases hways with h1 | ⟨h1, h2⟩ | ⟨h1, h2, rfl⟩ | ⟨h1, h2, rfl⟩
        · have HP := Lib.hid (show v = .tuple #[.int .i64 0, .string ⟨#[]⟩, .int .i64 6] by rw [hval, h1]; rfl); clear hval
          have h1' : (e != 0) = true := by rw [bne, h1]; rfl
          go_wp2_with fail
          refine (HN.out (s.extract 0 k) w).mono ?_
          rintro en w' ⟨rfl, rfl⟩
          rw [HA.out]
          unfold tells
          go_wp2
          exact bodyPost_ret (v := .tuple #[.int .i64 0, .string ⟨#[]⟩, .int .i64 6]) (by simp [results, Tryd.results16, go_sem]) rfl ⟨by rw [HP.out], Below.refl _ _⟩
        · have HP := Lib.hid (show v = .tuple #[.int .i64 0, .string ⟨#[]⟩, .int .i64 6] by rw [hval, h1, decide_eq_false (by omega)]; rfl); clear hval
          obtain rfl : e = 0 := by simpa using h1
          clear h1
          go_wp2_with fail
          refine (HN.out (s.extract 0 k) w).mono ?_
          rintro en w' ⟨rfl, rfl⟩
          rw [HA.out]
          unfold tells
          go_wp2
          exact bodyPost_ret (v := .tuple #[.int .i64 0, .string ⟨#[]⟩, .int .i64 6]) (by simp [results, Tryd.results16, go_sem]) rfl ⟨by rw [HP.out], Below.refl _ _⟩
        · have HP := Lib.hid (show v = .tuple #[.int .i64 0, .string ⟨#[]⟩, .int .i64 6] by rw [hval, h1]; simp); clear hval
          obtain rfl : e = 0 := by simpa using h1
          clear h1
          go_wp2_with fail
          refine (HN.out (s.extract 0 k) w).mono ?_
          rintro en w' ⟨rfl, rfl⟩
          rw [HA.out]
          unfold tells
          go_wp2_with fail
          refine (HS.out (s.extract (k + 1) s.size) w).mono ?_
          rintro en w' ⟨rfl, rfl⟩
          rw [HT.out]
          go_wp2
          exact bodyPost_ret (v := .tuple #[.int .i64 0, .string ⟨#[]⟩, .int .i64 6]) (by simp [results, Tryd.results16, go_sem]) rfl ⟨by rw [HP.out], Below.refl _ _⟩
        · have HP := Lib.hid (show v = .tuple #[.int .i64 a, .string (s.extract (k + 1) s.size), .int .i64 0] by rw [hval, h1, decide_eq_true (by omega)]; rfl); clear hval
          obtain rfl : e = 0 := by simpa using h1
          clear h1
          have hk2 : (k : Int) + 1 ≤ (s.size : Int) := by omega
          go_wp2_with fail
          refine (HN.out (s.extract 0 k) w).mono ?_
          rintro en w' ⟨rfl, rfl⟩
          rw [HA.out]
          unfold tells
          go_wp2_with fail
          refine (HS.out (s.extract (k + 1) s.size) w).mono ?_
          rintro en w' ⟨rfl, rfl⟩
          rw [HT.out]
          go_wp2_with fail
          go_quiet (fail)
          go_wp2
          exact bodyPost_ret (v := .tuple #[.int .i64 a, .string (s.extract (k + 1) s.size), .int .i64 0]) (by simp [results, Tryd.results16, go_sem]) rfl ⟨by rw [HP.out], below_draws (Below.refl _ _) _⟩
    · obtain rfl : k = s.size := by omega
      have hn := HG.out.2
      rw [List.take_of_length_le (by simp)] at hn
      have HW := Lib.hid (show v = .tuple #[.int .i64 0, .string ⟨#[]⟩, .int .i64 6] by rw [← HV.out, cutB_not 64 _ hn]; rfl); clear hn
      go_wp2
      exact bodyPost_ret (v := .tuple #[.int .i64 0, .string ⟨#[]⟩, .int .i64 6]) (by simp [results, Tryd.results16, go_sem]) rfl ⟨by rw [HW.out], Below.refl _ _⟩
end Go.Proofs.YtijomegcomjbmaaDoor
