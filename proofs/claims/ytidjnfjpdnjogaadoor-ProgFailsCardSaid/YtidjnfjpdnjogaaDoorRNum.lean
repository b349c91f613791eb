/-
  chronicleref1.Number: what it tells. Conditions: none.
-/
import Derived.Test.YtidjnfjpdnjogaaDoorNum
import Derived.Deep.DeepCutAuto
namespace Go.Proofs.YtidjnfjpdnjogaaDoor
open Go.RowKit Go.Lib

/-- How the sign is taken off. -/
def Signed (s d : ByteArray) (b : Bool) : Prop :=
  (∃ h : 0 < s.size, ((s[0].toNat : Int) == 45) = true ∧ s.extract 1 s.size = d ∧ b = true) ∨ (∃ h : 0 < s.size, ((s[0].toNat : Int) == 45) = false ∧ d = s ∧ b = false)

set_option maxHeartbeats 800000 in
theorem rnum_good (s d : ByteArray) (b : Bool) (w : World) (hcase : Signed s d b) (h : numBad d.data.toList b = false) :
    Calls Tryd.prog 58 #[.string s] w fun en w' => en = .returned (tells (numRest d.data.toList b)) ∧ w = w' := by
  obtain ⟨hz1, hz2, hz3⟩ := numBad_false d b h
  have h0 := hz3 hz1
  have HB := Lib.hid h; clear h
  have k1 : ¬ (d.size : Int) < 1 := by omega
  have k2 : ¬ (18 : Int) < (d.size : Int) := by omega
  clear hz3
  have k3 : (0 : Int) < (d.size : Int) := by omega
  have h0' : ((d[0].toNat : Int) == 48) = false ∨ (((d[0].toNat : Int) == 48) = true ∧ ¬ (1 : Int) < (d.size : Int) ∧ b = false) := by
    rcases h0 with h0 | ⟨h0, h1⟩
    · exact Or.inl h0
    · cases hc : ((d[0].toNat : Int) == 48)
      · exact Or.inl rfl
      · exact Or.inr ⟨rfl, by omega, h1⟩
  clear h0
  have hne : numRest d.data.toList b = if d.data.toList.all isDig then ((if b then -(numVal d.data.toList : Int) else numVal d.data.toList), 0) else (0, 1) := by
    rw [numRest, if_neg (by rw [HB.out]; decide)]
  have HN := Lib.hid hne; clear hne
  have hways : (∃ h : 0 < s.size, ((s[0].toNat : Int) == 45) = true ∧ Hid (s.extract 1 s.size = d) ∧ b = true ∧ ((d[0].toNat : Int) == 48) = false) ∨
      (∃ h : 0 < s.size, ((s[0].toNat : Int) == 45) = false ∧ d = s ∧ b = false ∧ (((d[0].toNat : Int) == 48) = false ∨ (((d[0].toNat : Int) == 48) = true ∧ ¬ (1 : Int) < (d.size : Int)))) := by
    rcases hcase with ⟨h, h1, h2, h3⟩ | ⟨h, h1, h2, h3⟩
    · refine Or.inl ⟨h, h1, Lib.hid h2, h3, ?_⟩
      rcases h0' with h4 | ⟨h4, h5, h6⟩
      · exact h4
      · rw [h3] at h6; cases h6
    · refine Or.inr ⟨h, h1, h2, h3, ?_⟩
      rcases h0' with h4 | ⟨h4, h5, h6⟩
      · exact Or.inl h4
      · exact Or.inr ⟨h4, h5⟩
  clear h0' hcase
  rcases hways with ⟨g0, g1, HD, rfl, h0⟩ | ⟨g0, g1, rfl, rfl, h0 | ⟨h0, h01⟩⟩
  · have g2 : (0 : Int) < (s.size : Int) := by omega
    go_enter Tryd.func58, Tryd.ntmps58
    go_upto_region 4 with (fail)
    rw [HD.out]
    go_wp2_with fail
    go_loopg [5, 6] d.size (fun g n i wr => ∃ k : Nat, g = d.size - k ∧ k ≤ d.size ∧ n = .int .i64 (numVal (d.data.toList.take k)) ∧ i = .int .i64 k ∧ (d.data.toList.take k).all isDig = true ∧ wr = w)
    case atStart => exact ⟨0, by omega, Nat.zero_le _, rfl, rfl, rfl, rfl⟩
    case round =>
      obtain ⟨k, hg, hk, rfl, rfl, ha, rfl⟩ := hrel
      have HG := Lib.hid hg; clear hg
      by_cases hlt : k < d.size
      · by_cases h1 : (d[k].toNat : Int) < 48
        · have hall := all_split d k hlt (dig_low h1)
          have HA := Lib.hid hall; clear hall ha
          go_wp2
          refine bodyPost_ret (v := tells (0, 1)) (by simp [results, Tryd.results58, go_sem, tells]) rfl ⟨?_, rfl⟩
          rw [HN.out, HA.out]; rfl
        · by_cases h2 : 57 < (d[k].toNat : Int)
          · have hall := all_split d k hlt (dig_high h2)
            have HA := Lib.hid hall; clear hall ha
            go_wp2
            refine bodyPost_ret (v := tells (0, 1)) (by simp [results, Tryd.results58, go_sem, tells]) rfl ⟨?_, rfl⟩
            rw [HN.out, HA.out]; rfl
          · obtain ⟨s1, s2, s3⟩ := num_step d k hlt hz2 ha h1 h2
            have hb := d[k].toNat_lt
            have HS := Lib.hid (And.intro s1 s2); clear s1 s2 ha
            have hw1 : IntKind.i64.wrap ((numVal (d.data.toList.take k) : Int) * 10) = 10 * (numVal (d.data.toList.take k) : Int) := by rw [Int.mul_comm]; exact IntWalk.i64_in _ (by omega)
            have hw2 : IntKind.u8.wrap ((d[k].toNat : Int) - 48) = (d[k].toNat : Int) - 48 := IntWalk.u8_in _ (by omega)
            have hw3 : IntKind.i64.wrap ((d[k].toNat : Int) - 48) = (d[k].toNat : Int) - 48 := IntWalk.i64_in _ (by omega)
            have hw4 : IntKind.i64.wrap (10 * (numVal (d.data.toList.take k) : Int) + ((d[k].toNat : Int) - 48)) = 10 * (numVal (d.data.toList.take k) : Int) + ((d[k].toNat : Int) - 48) := IntWalk.i64_in _ (by omega)
            go_wp2
            go_roundg (d.size - (k + 1))
            case measure => rw [HG.out]; omega
            case rel => exact ⟨k + 1, rfl, hlt, by rw [HS.out.2]; (try rw [Int.mul_comm]), rfl, HS.out.1, rfl⟩
      · obtain rfl : k = d.size := by omega
        rw [show d.data.toList.take d.size = d.data.toList from List.take_of_length_le (by simp)] at ha ⊢
        have hv := numVal_lt _ ha
        have hl : d.data.toList.length = d.size := by simp
        rw [hl] at hv
        have h18 : (10 : Nat) ^ d.size ≤ 10 ^ 18 := Nat.pow_le_pow_right (by decide) (by omega)
        have hw1 : IntKind.i64.wrap (-(numVal d.data.toList : Int)) = -(numVal d.data.toList : Int) := IntWalk.i64_in _ (by omega)
        have HA := Lib.hid ha; clear ha hl hv h18
        go_wp2
        refine bodyPost_ret (v := tells (numRest d.data.toList _)) (by rw [HN.out, HA.out]; simp [results, Tryd.results58, go_sem, tells]) rfl ⟨rfl, rfl⟩
  all_goals
    go_enter Tryd.func58, Tryd.ntmps58
    go_wp2_with fail
    go_loopg [5, 6] d.size (fun g n i wr => ∃ k : Nat, g = d.size - k ∧ k ≤ d.size ∧ n = .int .i64 (numVal (d.data.toList.take k)) ∧ i = .int .i64 k ∧ (d.data.toList.take k).all isDig = true ∧ wr = w)
    case atStart => exact ⟨0, by omega, Nat.zero_le _, rfl, rfl, rfl, rfl⟩
    case round =>
      obtain ⟨k, hg, hk, rfl, rfl, ha, rfl⟩ := hrel
      have HG := Lib.hid hg; clear hg
      by_cases hlt : k < d.size
      · by_cases h1 : (d[k].toNat : Int) < 48
        · have hall := all_split d k hlt (dig_low h1)
          have HA := Lib.hid hall; clear hall ha
          go_wp2
          refine bodyPost_ret (v := tells (0, 1)) (by simp [results, Tryd.results58, go_sem, tells]) rfl ⟨?_, rfl⟩
          rw [HN.out, HA.out]; rfl
        · by_cases h2 : 57 < (d[k].toNat : Int)
          · have hall := all_split d k hlt (dig_high h2)
            have HA := Lib.hid hall; clear hall ha
            go_wp2
            refine bodyPost_ret (v := tells (0, 1)) (by simp [results, Tryd.results58, go_sem, tells]) rfl ⟨?_, rfl⟩
            rw [HN.out, HA.out]; rfl
          · obtain ⟨s1, s2, s3⟩ := num_step d k hlt hz2 ha h1 h2
            have hb := d[k].toNat_lt
            have HS := Lib.hid (And.intro s1 s2); clear s1 s2 ha
            have hw1 : IntKind.i64.wrap ((numVal (d.data.toList.take k) : Int) * 10) = 10 * (numVal (d.data.toList.take k) : Int) := by rw [Int.mul_comm]; exact IntWalk.i64_in _ (by omega)
            have hw2 : IntKind.u8.wrap ((d[k].toNat : Int) - 48) = (d[k].toNat : Int) - 48 := IntWalk.u8_in _ (by omega)
            have hw3 : IntKind.i64.wrap ((d[k].toNat : Int) - 48) = (d[k].toNat : Int) - 48 := IntWalk.i64_in _ (by omega)
            have hw4 : IntKind.i64.wrap (10 * (numVal (d.data.toList.take k) : Int) + ((d[k].toNat : Int) - 48)) = 10 * (numVal (d.data.toList.take k) : Int) + ((d[k].toNat : Int) - 48) := IntWalk.i64_in _ (by omega)
            go_wp2
            go_roundg (d.size - (k + 1))
            case measure => rw [HG.out]; omega
            case rel => exact ⟨k + 1, rfl, hlt, by rw [HS.out.2]; (try rw [Int.mul_comm]), rfl, HS.out.1, rfl⟩
      · obtain rfl : k = d.size := by omega
        rw [show d.data.toList.take d.size = d.data.toList from List.take_of_length_le (by simp)] at ha ⊢
        have hv := numVal_lt _ ha
        have hl : d.data.toList.length = d.size := by simp
        rw [hl] at hv
        have h18 : (10 : Nat) ^ d.size ≤ 10 ^ 18 := Nat.pow_le_pow_right (by decide) (by omega)
        have hw1 : IntKind.i64.wrap (-(numVal d.data.toList : Int)) = -(numVal d.data.toList : Int) := IntWalk.i64_in _ (by omega)
        have HA := Lib.hid ha; clear ha hl hv h18
        go_wp2
        refine bodyPost_ret (v := tells (numRest d.data.toList _)) (by rw [HN.out, HA.out]; simp [results, Tryd.results58, go_sem, tells]) rfl ⟨rfl, rfl⟩

theorem rnum_bad (s d : ByteArray) (b : Bool) (w : World) (hcase : Signed s d b) (h : numBad d.data.toList b = true) :
    Calls Tryd.prog 58 #[.string s] w fun en w' => en = .returned (tells (numRest d.data.toList b)) ∧ w = w' := by
  have hne : numRest d.data.toList b = (0, 1) := by rw [numRest, if_pos h]
  have HN := Lib.hid hne; clear hne
  have hw : (d.size : Int) < 1 ∨ (¬ (d.size : Int) < 1 ∧ (18 : Int) < (d.size : Int)) ∨ (¬ (d.size : Int) < 1 ∧ ¬ (18 : Int) < (d.size : Int) ∧ 0 < d.size ∧ ∀ h0 : 0 < d.size, ((d[0].toNat : Int) == 48) = true ∧ ((1 : Int) < (d.size : Int) ∨ (¬ (1 : Int) < (d.size : Int) ∧ b = true))) := by
    rcases numBad_true d b h with h1 | h1 | ⟨h1, h2, h3⟩
    · exact Or.inl (by omega)
    · exact Or.inr (Or.inl ⟨by omega, by omega⟩)
    · refine Or.inr (Or.inr ⟨by omega, by omega, h1, fun h0 => ⟨(h3 h0).1, ?_⟩⟩)
      by_cases h5 : 1 < d.size
      · exact Or.inl (by omega)
      · exact Or.inr ⟨by omega, (h3 h0).2.resolve_left h5⟩
  clear h
  rcases hcase with ⟨g0, g1, hd, rfl⟩ | ⟨g0, g1, rfl, rfl⟩
  · have g2 : (0 : Int) < (s.size : Int) := by omega
    have HD := Lib.hid hd; clear hd
    rcases hw with h1 | ⟨h1, h2⟩ | ⟨h1, h2, h3, h4⟩
    · go_enter Tryd.func58, Tryd.ntmps58
      go_upto_region 4 with (fail)
      rw [HD.out]
      go_wp2
      exact bodyPost_ret (v := tells (0, 1)) (by simp [results, Tryd.results58, go_sem, tells]) rfl ⟨by rw [HN.out], rfl⟩
    · go_enter Tryd.func58, Tryd.ntmps58
      go_upto_region 4 with (fail)
      rw [HD.out]
      go_wp2
      exact bodyPost_ret (v := tells (0, 1)) (by simp [results, Tryd.results58, go_sem, tells]) rfl ⟨by rw [HN.out], rfl⟩
    · obtain ⟨h5, h6⟩ := h4 h3
      clear h4
      have h7 : (0 : Int) < (d.size : Int) := by omega
      rcases h6 with h6 | ⟨h6, -⟩
      all_goals
        go_enter Tryd.func58, Tryd.ntmps58
        go_upto_region 4 with (fail)
        rw [HD.out]
        go_wp2
        exact bodyPost_ret (v := tells (0, 1)) (by simp [results, Tryd.results58, go_sem, tells]) rfl ⟨by rw [HN.out], rfl⟩
  · rcases hw with h1 | ⟨h1, h2⟩ | ⟨h1, h2, h3, h4⟩
    · omega
    · have g2 : (0 : Int) < (d.size : Int) := by omega
      go_enter Tryd.func58, Tryd.ntmps58
      go_wp2
      exact bodyPost_ret (v := tells (0, 1)) (by simp [results, Tryd.results58, go_sem, tells]) rfl ⟨by rw [HN.out], rfl⟩
    · obtain ⟨h5, h6⟩ := h4 h3
      clear h4
      have h7 : (0 : Int) < (d.size : Int) := by omega
      rcases h6 with h6 | ⟨h6, h8⟩
      · go_enter Tryd.func58, Tryd.ntmps58
        go_wp2
        exact bodyPost_ret (v := tells (0, 1)) (by simp [results, Tryd.results58, go_sem, tells]) rfl ⟨by rw [HN.out], rfl⟩
      · cases h8

theorem rnum_empty (s : ByteArray) (w : World) (h : s.size = 0) : Calls Tryd.prog 58 #[.string s] w fun en w' => en = .returned (tells (0, 1)) ∧ w = w' := by
  obtain rfl : s = ⟨#[]⟩ := ByteArray.ext (Array.eq_empty_of_size_eq_zero h)
  clear h
  go_enter Tryd.func58, Tryd.ntmps58
  go_wp2
  exact bodyPost_ret (v := tells (0, 1)) (by simp [results, Tryd.results58, go_sem, tells]) rfl ⟨rfl, rfl⟩

theorem rnumber_any (s : ByteArray) (w : World) : Calls Tryd.prog 58 #[.string s] w fun en w' => en = .returned (tells (numberOf s.data.toList)) ∧ w = w' := by
  by_cases hz : s.size = 0
  · have h1 : numberOf s.data.toList = (0, 1) := by
      obtain rfl : s = ⟨#[]⟩ := ByteArray.ext (Array.eq_empty_of_size_eq_zero hz)
      rfl
    rw [h1]
    exact rnum_empty s w hz
  · have h0 : 0 < s.size := by omega
    have hcons : s.data.toList = s[0] :: s.data.toList.drop 1 := by
      have := List.drop_eq_getElem_cons (l := s.data.toList) (i := 0) (by simpa using h0)
      rw [List.drop_zero] at this
      exact this
    have hex : ∃ d : ByteArray, d.data.toList = bodyOf s.data.toList ∧ Signed s d (minusOf s.data.toList) := by
      by_cases hm : s[0] = 45
      · refine ⟨s.extract 1 s.size, ?_, Or.inl ⟨h0, by rw [hm]; rfl, rfl, ?_⟩⟩
        · rw [hcons, hm, (pre_is _).2]
          simp only [ByteArray.data_extract, Array.toList_extract, List.extract_eq_take_drop]
          exact List.take_of_length_le (by simp)
        · rw [hcons, hm]; exact (pre_is _).1
      · have hm2 : s[0].toNat ≠ 45 := fun hc => hm (UInt8.toNat_inj.1 hc)
        refine ⟨s, ?_, Or.inr ⟨h0, beq_eq_false_iff_ne.2 (by omega), rfl, ?_⟩⟩
        · rw [hcons]; exact (pre_not _ _ hm2).2.symm
        · rw [hcons]; exact (pre_not _ _ hm2).1
    obtain ⟨d, hd1, hd2⟩ := hex
    rw [numberOf_rest, ← hd1]
    cases hb : numBad d.data.toList (minusOf s.data.toList)
    · exact rnum_good s d _ w hd2 hb
    · exact rnum_bad s d _ w hd2 hb
end Go.Proofs.YtidjnfjpdnjogaaDoor
