/-
  M7: the texts RNum, PrD1, PrD3, one behind the other. Conditions: none.
-/
import Derived.Test.YtidjnfjpdnjogaaGreatDoorM2
import Derived.Deep.DeepCutAuto
/-
  chronicleref1.Number: what it tells. Conditions: none.
-/
namespace Go.Proofs.YtidjnfjpdnjogaaGreatDoor
open Go.RowKit Go.Lib

/-- How the sign is taken off. -/
def Signed (s d : ByteArray) (b : Bool) : Prop :=
  (∃ h : 0 < s.size, ((s[0].toNat : Int) == 45) = true ∧ s.extract 1 s.size = d ∧ b = true) ∨ (∃ h : 0 < s.size, ((s[0].toNat : Int) == 45) = false ∧ d = s ∧ b = false)

set_option maxHeartbeats 800000 in
theorem rnum_good (s d : ByteArray) (b : Bool) (w : World) (hcase : Signed s d b) (h : numBad d.data.toList b = false) :
    Calls Tryz.prog 75 #[.string s] w fun en w' => en = .returned (tells (numRest d.data.toList b)) ∧ w = w' := by
  obtain ⟨hz1, hz2, hz3⟩ := numBad_false d b h
  have h0 := hz3 hz1
  have HB := Lib.hid h; clear h
  have k1 : ¬ (d.size : Int) < 1 := by omega
  have k2 : ¬ (18 : Int) < (d.size : Int) := by omega
  clear hz3
  have k3 : (0 : Int) < (d.size : Int) := by omega
  have h0' : ((d[0].toNat : Int) == 48) = false ∨ (((d[0].toNat : Int) == 48) = true ∧ ¬ (1 : Int) < (d.size : Int) ∧ b = false) := by
    rcases h0 with h0 | ⟨h0, h1⟩
    · exact Or.inl h0
    · cases hc : ((d[0].toNat : Int) == 48)
      · exact Or.inl rfl
      · exact Or.inr ⟨rfl, by omega, h1⟩
  clear h0
  have hne : numRest d.data.toList b = if d.data.toList.all isDig then ((if b then -(numVal d.data.toList : Int) else numVal d.data.toList), 0) else (0, 1) := by
    rw [numRest, if_neg (by rw [HB.out]; decide)]
  have HN := Lib.hid hne; clear hne
  have hways : (∃ h : 0 < s.size, ((s[0].toNat : Int) == 45) = true ∧ Hid (s.extract 1 s.size = d) ∧ b = true ∧ ((d[0].toNat : Int) == 48) = false) ∨
      (∃ h : 0 < s.size, ((s[0].toNat : Int) == 45) = false ∧ d = s ∧ b = false ∧ (((d[0].toNat : Int) == 48) = false ∨ (((d[0].toNat : Int) == 48) = true ∧ ¬ (1 : Int) < (d.size : Int)))) := by
    rcases hcase with ⟨h, h1, h2, h3⟩ | ⟨h, h1, h2, h3⟩
    · refine Or.inl ⟨h, h1, Lib.hid h2, h3, ?_⟩
      rcases h0' with h4 | ⟨h4, h5, h6⟩
      · exact h4
      · rw [h3] at h6; cases h6
    · refine Or.inr ⟨h, h1, h2, h3, ?_⟩
      rcases h0' with h4 | ⟨h4, h5, h6⟩
      · exact Or.inl h4
      · exact Or.inr ⟨h4, h5⟩
  clear h0' hcase
  rcases hways with ⟨g0, g1, HD, rfl, h0⟩ | ⟨g0, g1, rfl, rfl, h0 | ⟨h0, h01⟩⟩
  · have g2 : (0 : Int) < (s.size : Int) := by omega
    go_enter Tryz.func75, Tryz.ntmps75
    go_upto_region 4 with (fail)
    rw [HD.out]
    go_wp2_with fail
    go_loopg [5, 6] d.size (fun g n i wr => ∃ k : Nat, g = d.size - k ∧ k ≤ d.size ∧ n = .int .i64 (numVal (d.data.toList.take k)) ∧ i = .int .i64 k ∧ (d.data.toList.take k).all isDig = true ∧ wr = w)
    case atStart => exact ⟨0, by omega, Nat.zero_le _, rfl, rfl, rfl, rfl⟩
    case round =>
      obtain ⟨k, hg, hk, rfl, rfl, ha, rfl⟩ := hrel
      have HG := Lib.hid hg; clear hg
      by_cases hlt : k < d.size
      · by_cases h1 : (d[k].toNat : Int) < 48
        · have hall := all_split d k hlt (dig_low h1)
          have HA := Lib.hid hall; clear hall ha
          go_wp2
          refine bodyPost_ret (v := tells (0, 1)) (by simp [results, Tryz.results75, go_sem, tells]) rfl ⟨?_, rfl⟩
          rw [HN.out, HA.out]; rfl
        · by_cases h2 : 57 < (d[k].toNat : Int)
          · have hall := all_split d k hlt (dig_high h2)
            have HA := Lib.hid hall; clear hall ha
            go_wp2
            refine bodyPost_ret (v := tells (0, 1)) (by simp [results, Tryz.results75, go_sem, tells]) rfl ⟨?_, rfl⟩
            rw [HN.out, HA.out]; rfl
          · obtain ⟨s1, s2, s3⟩ := num_step d k hlt hz2 ha h1 h2
            have hb := d[k].toNat_lt
            have HS := Lib.hid (And.intro s1 s2); clear s1 s2 ha
            have hw1 : IntKind.i64.wrap ((numVal (d.data.toList.take k) : Int) * 10) = 10 * (numVal (d.data.toList.take k) : Int) := by rw [Int.mul_comm]; exact IntWalk.i64_in _ (by omega)
            have hw2 : IntKind.u8.wrap ((d[k].toNat : Int) - 48) = (d[k].toNat : Int) - 48 := IntWalk.u8_in _ (by omega)
            have hw3 : IntKind.i64.wrap ((d[k].toNat : Int) - 48) = (d[k].toNat : Int) - 48 := IntWalk.i64_in _ (by omega)
            have hw4 : IntKind.i64.wrap (10 * (numVal (d.data.toList.take k) : Int) + ((d[k].toNat : Int) - 48)) = 10 * (numVal (d.data.toList.take k) : Int) + ((d[k].toNat : Int) - 48) := IntWalk.i64_in _ (by omega)
            go_wp2
            go_roundg (d.size - (k + 1))
            case measure => rw [HG.out]; omega
            case rel => exact ⟨k + 1, rfl, hlt, by rw [HS.out.2]; (try rw [Int.mul_comm]), rfl, HS.out.1, rfl⟩
      · obtain rfl : k = d.size := by omega
        rw [show d.data.toList.take d.size = d.data.toList from List.take_of_length_le (by simp)] at ha ⊢
        have hv := numVal_lt _ ha
        have hl : d.data.toList.length = d.size := by simp
        rw [hl] at hv
        have h18 : (10 : Nat) ^ d.size ≤ 10 ^ 18 := Nat.pow_le_pow_right (by decide) (by omega)
        have hw1 : IntKind.i64.wrap (-(numVal d.data.toList : Int)) = -(numVal d.data.toList : Int) := IntWalk.i64_in _ (by omega)
        have HA := Lib.hid ha; clear ha hl hv h18
        go_wp2
        refine bodyPost_ret (v := tells (numRest d.data.toList _)) (by rw [HN.out, HA.out]; simp [results, Tryz.results75, go_sem, tells]) rfl ⟨rfl, rfl⟩
  all_goals
    go_enter Tryz.func75, Tryz.ntmps75
    go_wp2_with fail
    go_loopg [5, 6] d.size (fun g n i wr => ∃ k : Nat, g = d.size - k ∧ k ≤ d.size ∧ n = .int .i64 (numVal (d.data.toList.take k)) ∧ i = .int .i64 k ∧ (d.data.toList.take k).all isDig = true ∧ wr = w)
    case atStart => exact ⟨0, by omega, Nat.zero_le _, rfl, rfl, rfl, rfl⟩
    case round =>
      obtain ⟨k, hg, hk, rfl, rfl, ha, rfl⟩ := hrel
      have HG := Lib.hid hg; clear hg
      by_cases hlt : k < d.size
      · by_cases h1 : (d[k].toNat : Int) < 48
        · have hall := all_split d k hlt (dig_low h1)
          have HA := Lib.hid hall; clear hall ha
          go_wp2
          refine bodyPost_ret (v := tells (0, 1)) (by simp [results, Tryz.results75, go_sem, tells]) rfl ⟨?_, rfl⟩
          rw [HN.out, HA.out]; rfl
        · by_cases h2 : 57 < (d[k].toNat : Int)
          · have hall := all_split d k hlt (dig_high h2)
            have HA := Lib.hid hall; clear hall ha
            go_wp2
            refine bodyPost_ret (v := tells (0, 1)) (by simp [results, Tryz.results75, go_sem, tells]) rfl ⟨?_, rfl⟩
            rw [HN.out, HA.out]; rfl
          · obtain ⟨s1, s2, s3⟩ := num_step d k hlt hz2 ha h1 h2
            have hb := d[k].toNat_lt
            have HS := Lib.hid (And.intro s1 s2); clear s1 s2 ha
            have hw1 : IntKind.i64.wrap ((numVal (d.data.toList.take k) : Int) * 10) = 10 * (numVal (d.data.toList.take k) : Int) := by rw [Int.mul_comm]; exact IntWalk.i64_in _ (by omega)
            have hw2 : IntKind.u8.wrap ((d[k].toNat : Int) - 48) = (d[k].toNat : Int) - 48 := IntWalk.u8_in _ (by omega)
            have hw3 : IntKind.i64.wrap ((d[k].toNat : Int) - 48) = (d[k].toNat : Int) - 48 := IntWalk.i64_in _ (by omega)
            have hw4 : IntKind.i64.wrap (10 * (numVal (d.data.toList.take k) : Int) + ((d[k].toNat : Int) - 48)) = 10 * (numVal (d.data.toList.take k) : Int) + ((d[k].toNat : Int) - 48) := IntWalk.i64_in _ (by omega)
            go_wp2
            go_roundg (d.size - (k + 1))
            case measure => rw [HG.out]; omega
            case rel => exact ⟨k + 1, rfl, hlt, by rw [HS.out.2]; (try rw [Int.mul_comm]), rfl, HS.out.1, rfl⟩
      · obtain rfl : k = d.size := by omega
        rw [show d.data.toList.take d.size = d.data.toList from List.take_of_length_le (by simp)] at ha ⊢
        have hv := numVal_lt _ ha
        have hl : d.data.toList.length = d.size := by simp
        rw [hl] at hv
        have h18 : (10 : Nat) ^ d.size ≤ 10 ^ 18 := Nat.pow_le_pow_right (by decide) (by omega)
        have hw1 : IntKind.i64.wrap (-(numVal d.data.toList : Int)) = -(numVal d.data.toList : Int) := IntWalk.i64_in _ (by omega)
        have HA := Lib.hid ha; clear ha hl hv h18
        go_wp2
        refine bodyPost_ret (v := tells (numRest d.data.toList _)) (by rw [HN.out, HA.out]; simp [results, Tryz.results75, go_sem, tells]) rfl ⟨rfl, rfl⟩

theorem rnum_bad (s d : ByteArray) (b : Bool) (w : World) (hcase : Signed s d b) (h : numBad d.data.toList b = true) :
    Calls Tryz.prog 75 #[.string s] w fun en w' => en = .returned (tells (numRest d.data.toList b)) ∧ w = w' := by
  have hne : numRest d.data.toList b = (0, 1) := by rw [numRest, if_pos h]
  have HN := Lib.hid hne; clear hne
  have hw : (d.size : Int) < 1 ∨ (¬ (d.size : Int) < 1 ∧ (18 : Int) < (d.size : Int)) ∨ (¬ (d.size : Int) < 1 ∧ ¬ (18 : Int) < (d.size : Int) ∧ 0 < d.size ∧ ∀ h0 : 0 < d.size, ((d[0].toNat : Int) == 48) = true ∧ ((1 : Int) < (d.size : Int) ∨ (¬ (1 : Int) < (d.size : Int) ∧ b = true))) := by
    rcases numBad_true d b h with h1 | h1 | ⟨h1, h2, h3⟩
    · exact Or.inl (by omega)
    · exact Or.inr (Or.inl ⟨by omega, by omega⟩)
    · refine Or.inr (Or.inr ⟨by omega, by omega, h1, fun h0 => ⟨(h3 h0).1, ?_⟩⟩)
      by_cases h5 : 1 < d.size
      · exact Or.inl (by omega)
      · exact Or.inr ⟨by omega, (h3 h0).2.resolve_left h5⟩
  clear h
  rcases hcase with ⟨g0, g1, hd, rfl⟩ | ⟨g0, g1, rfl, rfl⟩
  · have g2 : (0 : Int) < (s.size : Int) := by omega
    have HD := Lib.hid hd; clear hd
    rcases hw with h1 | ⟨h1, h2⟩ | ⟨h1, h2, h3, h4⟩
    · go_enter Tryz.func75, Tryz.ntmps75
      go_upto_region 4 with (fail)
      rw [HD.out]
      go_wp2
      exact bodyPost_ret (v := tells (0, 1)) (by simp [results, Tryz.results75, go_sem, tells]) rfl ⟨by rw [HN.out], rfl⟩
    · go_enter Tryz.func75, Tryz.ntmps75
      go_upto_region 4 with (fail)
      rw [HD.out]
      go_wp2
      exact bodyPost_ret (v := tells (0, 1)) (by simp [results, Tryz.results75, go_sem, tells]) rfl ⟨by rw [HN.out], rfl⟩
    · obtain ⟨h5, h6⟩ := h4 h3
      clear h4
      have h7 : (0 : Int) < (d.size : Int) := by omega
      rcases h6 with h6 | ⟨h6, -⟩
      all_goals
        go_enter Tryz.func75, Tryz.ntmps75
        go_upto_region 4 with (fail)
        rw [HD.out]
        go_wp2
        exact bodyPost_ret (v := tells (0, 1)) (by simp [results, Tryz.results75, go_sem, tells]) rfl ⟨by rw [HN.out], rfl⟩
  · rcases hw with h1 | ⟨h1, h2⟩ | ⟨h1, h2, h3, h4⟩
    · omega
    · have g2 : (0 : Int) < (d.size : Int) := by omega
      go_enter Tryz.func75, Tryz.ntmps75
      go_wp2
      exact bodyPost_ret (v := tells (0, 1)) (by simp [results, Tryz.results75, go_sem, tells]) rfl ⟨by rw [HN.out], rfl⟩
    · obtain ⟨h5, h6⟩ := h4 h3
      clear h4
      have h7 : (0 : Int) < (d.size : Int) := by omega
      rcases h6 with h6 | ⟨h6, h8⟩
      · go_enter Tryz.func75, Tryz.ntmps75
        go_wp2
        exact bodyPost_ret (v := tells (0, 1)) (by simp [results, Tryz.results75, go_sem, tells]) rfl ⟨by rw [HN.out], rfl⟩
      · cases h8

theorem rnum_empty (s : ByteArray) (w : World) (h : s.size = 0) : Calls Tryz.prog 75 #[.string s] w fun en w' => en = .returned (tells (0, 1)) ∧ w = w' := by
  obtain rfl : s = ⟨#[]⟩ := ByteArray.ext (Array.eq_empty_of_size_eq_zero h)
  clear h
  go_enter Tryz.func75, Tryz.ntmps75
  go_wp2
  exact bodyPost_ret (v := tells (0, 1)) (by simp [results, Tryz.results75, go_sem, tells]) rfl ⟨rfl, rfl⟩

theorem rnumber_any (s : ByteArray) (w : World) : Calls Tryz.prog 75 #[.string s] w fun en w' => en = .returned (tells (numberOf s.data.toList)) ∧ w = w' := by
  by_cases hz : s.size = 0
  · have h1 : numberOf s.data.toList = (0, 1) := by
      obtain rfl : s = ⟨#[]⟩ := ByteArray.ext (Array.eq_empty_of_size_eq_zero hz)
      rfl
    rw [h1]
    exact rnum_empty s w hz
  · have h0 : 0 < s.size := by omega
    have hcons : s.data.toList = s[0] :: s.data.toList.drop 1 := by
      have := List.drop_eq_getElem_cons (l := s.data.toList) (i := 0) (by simpa using h0)
      rw [List.drop_zero] at this
      exact this
    have hex : ∃ d : ByteArray, d.data.toList = bodyOf s.data.toList ∧ Signed s d (minusOf s.data.toList) := by
      by_cases hm : s[0] = 45
      · refine ⟨s.extract 1 s.size, ?_, Or.inl ⟨h0, by rw [hm]; rfl, rfl, ?_⟩⟩
        · rw [hcons, hm, (pre_is _).2]
          simp only [ByteArray.data_extract, Array.toList_extract, List.extract_eq_take_drop]
          exact List.take_of_length_le (by simp)
        · rw [hcons, hm]; exact (pre_is _).1
      · have hm2 : s[0].toNat ≠ 45 := fun hc => hm (UInt8.toNat_inj.1 hc)
        refine ⟨s, ?_, Or.inr ⟨h0, beq_eq_false_iff_ne.2 (by omega), rfl, ?_⟩⟩
        · rw [hcons]; exact (pre_not _ _ hm2).2.symm
        · rw [hcons]; exact (pre_not _ _ hm2).1
    obtain ⟨d, hd1, hd2⟩ := hex
    rw [numberOf_rest, ← hd1]
    cases hb : numBad d.data.toList (minusOf s.data.toList)
    · exact rnum_good s d _ w hd2 hb
    · exact rnum_bad s d _ w hd2 hb
end Go.Proofs.YtidjnfjpdnjogaaGreatDoor

/-
  The document's floats: bits, classes, texts. Conditions: none.
-/
namespace Go.Proofs.YtidjnfjpdnjogaaGreatDoor
open Go.RowKit Go.Lib

theorem dbits_any (b : Nat) (w : World) : Calls Tryz.prog 121 #[.float .f64 b] w fun en w' => en = .returned (.int .u64 (oneW b : Nat)) ∧ w = w' := by
  have h56 := runBits
  cases h : nanW b
  · rw [oneW_not h]
    have hn : (FloatKind.f64.format.order b b != some .eq) = false := h
    clear h
    go_enter Tryz.func121, Tryz.ntmps121
    go_wp2
    go_ret
    exact ⟨rfl, rfl⟩
  · rw [oneW_nan h]
    have hn : (FloatKind.f64.format.order b b != some .eq) = true := h
    clear h
    go_enter Tryz.func121, Tryz.ntmps121
    go_wp2
    go_ret
    exact ⟨rfl, rfl⟩

theorem dof_any (n : Nat) (w : World) : Calls Tryz.prog 74 #[.int .u64 n] w fun en w' => en = .returned (.float .f64 (oneW n)) ∧ w = w' := by
  have h57 := runFrom
  cases h : nanW n
  · rw [oneW_not h]
    have hn : (FloatKind.f64.format.order n n != some .eq) = false := h
    clear h
    go_enter Tryz.func74, Tryz.ntmps74
    go_wp2
    go_ret
    exact ⟨rfl, rfl⟩
  · rw [oneW_nan h]
    have hn : (FloatKind.f64.format.order n n != some .eq) = true := h
    clear h
    go_enter Tryz.func74, Tryz.ntmps74
    go_wp2
    go_ret
    exact ⟨rfl, rfl⟩

theorem dsame_any (a b : Nat) (w : World) : Calls Tryz.prog 116 #[.float .f64 a, .float .f64 b] w fun en w' => en = .returned (.bool (sameW a b)) ∧ w = w' := by
  have hs : (((oneW a : Nat) : Int) == ((oneW b : Nat) : Int)) = sameW a b := by
    unfold sameW; rw [Bool.eq_iff_iff]; simp; omega
  have HS := Lib.hid hs; clear hs
  go_enter Tryz.func116, Tryz.ntmps116
  go_wp2_with fail
  refine (dbits_any a _).mono ?_
  rintro en w1 ⟨rfl, rfl⟩
  go_wp2_with fail
  refine (dbits_any b _).mono ?_
  rintro en w1 ⟨rfl, rfl⟩
  go_wp2
  go_ret
  exact ⟨by rw [← HS.out]; simp, rfl⟩

theorem nan_mask (b : Nat) (hb : b < 18446744073709551616) : bits .and .u64 (b : Int) 9223372036854775807 = ((rungOf b : Nat) : Int) := by
  rw [show (9223372036854775807 : Int) = ((9223372036854775807 : Nat) : Int) from rfl, bits_and_u64_nat b _ hb (by decide)]
  rw [show (9223372036854775807 : Nat) = 2 ^ 63 - 1 from rfl, Nat.and_two_pow_sub_one_eq_mod]; rfl

theorem neg_shift (b : Nat) (hb : b < 18446744073709551616) : ((b : Int) / 9223372036854775808 == 1) = negOf b := by
  unfold negOf
  rw [Bool.eq_iff_iff, beq_iff_eq, beq_iff_eq]
  omega

/-- The test of the document: the int of a float, as a float, is it again. -/
theorem dwhole_test (b : Nat) (h : rungOf b < 9218868437227405312) (hq : qOf b ≤ 999999999999999) : (Ieee.double.order (intF (nOf b)) b == some .eq) = evenB b := by
  have hn : -9007199254740992 ≤ nOf b ∧ nOf b ≤ 9007199254740992 := by
    unfold nOf sgn
    split <;> omega
  rw [eq_fine _ _ (intF_fine _ hn) (by unfold fine; omega), intF_val _ hn.1 hn.2, nOf, sgn_mul, valF, evenB, qOf]
  rw [Bool.eq_iff_iff, decide_eq_true_eq, beq_iff_eq, sgn_inj]
  have h1 := Nat.div_add_mod (magM (rungOf b)) UU
  have h2 := UU_pos
  rw [Nat.mul_comm] at h1
  revert h1 h2
  generalize magM (rungOf b) / UU * UU = x
  generalize magM (rungOf b) % UU = y
  intro h1 h2
  omega

end Go.Proofs.YtidjnfjpdnjogaaGreatDoor

/-
  The document's Parse: every text as a number. Conditions: none.
-/
namespace Go.Proofs.YtidjnfjpdnjogaaGreatDoor
open Go.RowKit Go.Lib

/-- A sign of the sixteen, by its byte. -/
theorem hex_dig (c : UInt8) : (48 ≤ c.toNat ∧ c.toNat ≤ 57 → hexAt c = (c.toNat : Int) - 48) ∧ (97 ≤ c.toNat ∧ c.toNat ≤ 102 → hexAt c = (c.toNat : Int) - 87) ∧ (¬ (48 ≤ c.toNat ∧ c.toNat ≤ 57) ∧ ¬ (97 ≤ c.toNat ∧ c.toNat ≤ 102) → hexAt c < 0) := by
  revert c
  exact all_u8 (p := fun c => (48 ≤ c.toNat ∧ c.toNat ≤ 57 → hexAt c = (c.toNat : Int) - 48) ∧ (97 ≤ c.toNat ∧ c.toNat ≤ 102 → hexAt c = (c.toNat : Int) - 87) ∧ (¬ (48 ≤ c.toNat ∧ c.toNat ≤ 57) ∧ ¬ (97 ≤ c.toNat ∧ c.toNat ≤ 102) → hexAt c < 0)) (by decide +kernel)

/-- Digits behind a sign: how many bytes. -/
def numLen (l : List UInt8) : Nat := (bodyOf l).length
def docDig (l : List UInt8) : Nat × Int := if (numberOf l).2 ≠ 0 ∨ 15 < numLen l then (0, 6) else (intF (numberOf l).1, 0)

theorem dparse_c (s : ByteArray) (r : Nat) (h : (s = ⟨#[110, 97, 110]⟩ ∧ r = 9221120237041090560) ∨ (s = ⟨#[105, 110, 102]⟩ ∧ r = 9218868437227405312) ∨ (s = ⟨#[45, 105, 110, 102]⟩ ∧ r = 18442240474082181120) ∨ (s = ⟨#[45, 48]⟩ ∧ r = 9223372036854775808)) (w : World) :
    Calls Tryz.prog 47 #[.string s] w fun en w' => en = .returned (tellsF (r, 0)) ∧ w = w' := by
  have H := Lib.hid (dof_any r)
  have hr : oneW r = r := by
    rcases h with ⟨_, rfl⟩ | ⟨_, rfl⟩ | ⟨_, rfl⟩ | ⟨_, rfl⟩ <;> decide +kernel
  rw [hr] at H
  clear hr
  rcases h with ⟨rfl, rfl⟩ | ⟨rfl, rfl⟩ | ⟨rfl, rfl⟩ | ⟨rfl, rfl⟩
  all_goals
    go_enter Tryz.func47, Tryz.ntmps47
    go_wp2_with fail
    refine (H.out _).mono ?_
    rintro en w1 ⟨rfl, rfl⟩
    go_wp2
    exact bodyPost_ret (v := tellsF (_, 0)) (by simp [results, Tryz.results47, go_sem, tellsF]) rfl ⟨rfl, rfl⟩

theorem dparse_zero (w : World) : Calls Tryz.prog 47 #[.string ⟨#[48]⟩] w fun en w' => en = .returned (tellsF (0, 0)) ∧ w = w' := by
  go_enter Tryz.func47, Tryz.ntmps47
  go_wp2
  exact bodyPost_ret (v := tellsF (0, 0)) (by simp [results, Tryz.results47, go_sem, tellsF]) rfl ⟨rfl, rfl⟩

structure PlainD (s : ByteArray) : Prop where
  f1 : (s.toList == [110, 97, 110]) = false
  f2 : (s.toList == [105, 110, 102]) = false
  f3 : (s.toList == [45, 105, 110, 102]) = false
  f4 : (s.toList == [48]) = false
  f5 : (s.toList == [45, 48]) = false

theorem dparse_num (s : ByteArray) (hp : PlainD s) (hx : ((s.size : Int) == 17) = false ∨ (((s.size : Int) == 17) = true ∧ ∃ h : 0 < s.size, ((s[0].toNat : Int) == 120) = false)) (hs : s.size ≤ 1000000)
    (n : Int) (hm : (¬ (0 : Int) < (s.size : Int) ∧ n = s.size) ∨ (∃ h : 0 < s.size, ((s[0].toNat : Int) == 45) = true ∧ n = (s.size : Int) - 1) ∨ (∃ h : 0 < s.size, ((s[0].toNat : Int) == 45) = false ∧ n = s.size)) (w : World) :
    Calls Tryz.prog 47 #[.string s] w fun en w' => en = .returned (tellsF (if (numberOf s.data.toList).2 ≠ 0 ∨ 15 < n then (0, 6) else (intF (numberOf s.data.toList).1, 0))) ∧ w = w' := by
  obtain ⟨f1, f2, f3, f4, f5⟩ := hp
  have HN := Lib.hid (rnumber_any s)
  revert HN
  generalize numberOf s.data.toList = r
  intro HN
  obtain ⟨v, e⟩ := r
  have hcv : ∀ w : World, (convert 3 45 (.int .i64 v)).run Tryz.prog w = .ok (.float .f64 (intF v)) w := fun w => run_convert_int_float w 3 45 .i64 .f64 v (by kernel_rfl) Tryz.underlying45
  revert hcv
  generalize intF v = x
  intro hcv
  unfold tells at HN
  have hne : (if e ≠ 0 ∨ 15 < n then (0, 6) else (x, 0)) = (if (e != 0) = true ∨ 15 < n then ((0 : Nat), (6 : Int)) else (x, 0)) := by simp
  simp only
  rw [hne]
  clear hne
  have hE : (e != 0) = true ∨ ((e != 0) = false ∧ (15 : Int) < n) ∨ ((e != 0) = false ∧ ¬ (15 : Int) < n) := by
    cases h : (e != 0)
    · by_cases h2 : 15 < n
      · exact Or.inr (Or.inl ⟨rfl, h2⟩)
      · exact Or.inr (Or.inr ⟨rfl, h2⟩)
    · exact Or.inl rfl
  have hw1 : IntKind.i64.wrap ((s.size : Int) - 1) = (s.size : Int) - 1 := IntWalk.i64_in _ (by omega)
  have hpos : ∀ h : 0 < s.size, (0 : Int) < (s.size : Int) := fun h => by omega
  clear hs
  have hcase : (((s.size : Int) == 17) = false ∧ ¬ (0 : Int) < (s.size : Int) ∧ n = s.size) ∨ (((s.size : Int) == 17) = false ∧ ∃ h : 0 < s.size, (0 : Int) < (s.size : Int) ∧ ((s[0].toNat : Int) == 45) = true ∧ n = (s.size : Int) - 1) ∨
      (((s.size : Int) == 17) = false ∧ ∃ h : 0 < s.size, (0 : Int) < (s.size : Int) ∧ ((s[0].toNat : Int) == 45) = false ∧ n = s.size) ∨
      (((s.size : Int) == 17) = true ∧ ∃ h : 0 < s.size, (0 : Int) < (s.size : Int) ∧ ((s[0].toNat : Int) == 120) = false ∧ ((s[0].toNat : Int) == 45) = true ∧ n = (s.size : Int) - 1) ∨
      (((s.size : Int) == 17) = true ∧ ∃ h : 0 < s.size, (0 : Int) < (s.size : Int) ∧ ((s[0].toNat : Int) == 120) = false ∧ ((s[0].toNat : Int) == 45) = false ∧ n = s.size) := by
    rcases hx with hx | ⟨hx, hz, hx2⟩
    · rcases hm with ⟨h1, h2⟩ | ⟨h0, h1, h2⟩ | ⟨h0, h1, h2⟩
      · exact Or.inl ⟨hx, h1, h2⟩
      · exact Or.inr (Or.inl ⟨hx, h0, hpos h0, h1, h2⟩)
      · exact Or.inr (Or.inr (Or.inl ⟨hx, h0, hpos h0, h1, h2⟩))
    · rcases hm with ⟨h1, h2⟩ | ⟨h0, h1, h2⟩ | ⟨h0, h1, h2⟩
      · exact absurd (hpos hz) h1
      · exact Or.inr (Or.inr (Or.inr (Or.inl ⟨hx, h0, hpos h0, hx2, h1, h2⟩)))
      · exact Or.inr (Or.inr (Or.inr (Or.inr ⟨hx, h0, hpos h0, hx2, h1, h2⟩)))
  clear hx hm hpos
  rcases hcase with ⟨hx, hm, rfl⟩ | ⟨hx, h0, hp, hm, rfl⟩ | ⟨hx, h0, hp, hm, rfl⟩ | ⟨hx, h0, hp, hx2, hm, rfl⟩ | ⟨hx, h0, hp, hx2, hm, rfl⟩
  all_goals
    rcases hE with hE | ⟨hE, h15⟩ | ⟨hE, h15⟩
  all_goals
    first
      | rw [if_pos (Or.inl hE)]
      | rw [if_pos (Or.inr h15)]
      | rw [if_neg (by rintro (h | h); · rw [hE] at h; cases h
                       · exact h15 h)]
  all_goals
    first
      | (exfalso; omega)
      | (go_enter Tryz.func47, Tryz.ntmps47
         go_wp2_with fail
         refine (HN.out _).mono ?_
         rintro en w1 ⟨rfl, rfl⟩
         go_wp2
         exact bodyPost_ret (v := tellsF _) (by simp [results, Tryz.results47, go_sem, tellsF]) rfl ⟨rfl, rfl⟩)

/-- A round of the loop over sixteen signs. -/
theorem hex_in (c : UInt8) (h : 0 ≤ hexAt c) : ((48 : Int) ≤ (c.toNat : Int) ∧ (c.toNat : Int) ≤ 57 ∧ (hexVal c : Int) = (c.toNat : Int) - 48) ∨ ((48 : Int) ≤ (c.toNat : Int) ∧ ¬ (c.toNat : Int) ≤ 57 ∧ (97 : Int) ≤ (c.toNat : Int) ∧ (c.toNat : Int) ≤ 102 ∧ (hexVal c : Int) = (c.toNat : Int) - 87) := by
  obtain ⟨h1, h2, h3⟩ := hex_dig c
  unfold hexVal
  by_cases a : 48 ≤ c.toNat ∧ c.toNat ≤ 57
  · have := h1 a
    exact Or.inl ⟨by omega, by omega, by omega⟩
  · by_cases b : 97 ≤ c.toNat ∧ c.toNat ≤ 102
    · have := h2 b
      exact Or.inr ⟨by omega, by omega, by omega, by omega, by omega⟩
    · have := h3 ⟨a, b⟩
      omega
theorem hex_out (c : UInt8) (h : ¬ 0 ≤ hexAt c) : (¬ (48 : Int) ≤ (c.toNat : Int) ∧ ¬ (97 : Int) ≤ (c.toNat : Int)) ∨ ((48 : Int) ≤ (c.toNat : Int) ∧ ¬ (c.toNat : Int) ≤ 57 ∧ ¬ (97 : Int) ≤ (c.toNat : Int)) ∨ ((48 : Int) ≤ (c.toNat : Int) ∧ ¬ (c.toNat : Int) ≤ 57 ∧ (97 : Int) ≤ (c.toNat : Int) ∧ ¬ (c.toNat : Int) ≤ 102) := by
  obtain ⟨h1, h2, h3⟩ := hex_dig c
  by_cases a : 48 ≤ c.toNat ∧ c.toNat ≤ 57
  · have := h1 a
    omega
  · by_cases b : 97 ≤ c.toNat ∧ c.toNat ≤ 102
    · have := h2 b
      omega
    · omega

theorem drop_step (s : ByteArray) (j : Nat) (h1 : 1 ≤ j) (h : j < s.size) : (s.data.toList.drop 1).take j = (s.data.toList.drop 1).take (j - 1) ++ [s[j]] := by
  obtain ⟨k, rfl⟩ : ∃ k, j = k + 1 := ⟨j - 1, by omega⟩
  have hk : k < (s.data.toList.drop 1).length := by simp; omega
  rw [List.take_succ_eq_append_getElem hk]
  simp [ByteArray.getElem_eq_getElem_data]
theorem hexStep {l : List UInt8} (hl : l.length ≤ 15) : (hexFold l : Int) * 16 < 18446744073709551616 - 15 := by
  have h1 := hexFold_lt l
  have h2 : 16 ^ l.length ≤ 16 ^ 15 := Nat.pow_le_pow_right (by decide) hl
  have h3 : (16 : Nat) ^ 15 = 1152921504606846976 := by decide
  omega

theorem dparse_hex (s : ByteArray) (hp : PlainD s) (h17 : s.size = 17) (hx : ∃ h : 0 < s.size, ((s[0].toNat : Int) == 120) = true) (w : World) :
    Calls Tryz.prog 47 #[.string s] w fun en w' => en = .returned (tellsF (hexTell (s.data.toList.drop 1))) ∧ w = w' := by
  obtain ⟨f1, f2, f3, f4, f5⟩ := hp
  obtain ⟨h0, hx⟩ := hx
  have hz : ((s.size : Int) == 17) = true := by rw [h17]; rfl
  have hz0 : (0 : Int) < (s.size : Int) := by omega
  have hlen : (s.data.toList.drop 1).length = 16 := by
    rw [List.length_drop, show s.data.toList.length = s.size by simp, h17]
  have hst := drop_step s
  revert hlen hst
  generalize s.data.toList.drop 1 = D
  intro hlen hst
  have HL := Lib.hid (And.intro hlen (And.intro h17 hst)); clear hlen h17 hst
  go_enter Tryz.func47, Tryz.ntmps47
  go_wp2_with fail
  go_loopg [4, 5] 17 (fun g v i wr => ∃ j : Nat, g = 18 - j ∧ 1 ≤ j ∧ j ≤ 17 ∧ v = .int .u64 (hexFold (D.take (j - 1)) : Nat) ∧ i = .int .i64 j ∧ (D.take (j - 1)).all hexOk = true ∧ wr = w)
  case atStart => exact ⟨1, by omega, by omega, by omega, rfl, rfl, rfl, rfl⟩
  case round =>
    obtain ⟨j, hg, hj1, hj, rfl, rfl, ha, rfl⟩ := hrel
    have HG := Lib.hid hg; clear hg
    have hj0 : (0 : Int) ≤ (j : Int) := by omega
    by_cases hlt : j < 17
    · have hjs : j < s.size := by have := HL.out.2.1; omega
      have hstep := HL.out.2.2 j hj1 hjs
      have hlow := hexStep (l := D.take (j - 1)) (by rw [List.length_take, HL.out.1]; omega)
      have hbyte := s[j].toNat_lt
      have hwj : IntKind.i64.wrap ((j : Int) + 1) = (j : Int) + 1 := IntWalk.i64_in _ (by omega)
      have hj17 : (j : Int) < 17 := by omega
      by_cases hok : 0 ≤ hexAt s[j]
      · have hall : (D.take j).all hexOk = true := by
          rw [hstep, List.all_append, ha]
          simp [hexOk, hok]
        have hfold : (hexFold (D.take j) : Int) = (hexFold (D.take (j - 1)) : Int) * 16 + (hexVal s[j] : Int) := by
          rw [hstep, hexFold_snoc]; omega
        have HS := Lib.hid (And.intro hall hfold)
        have hcase := hex_in s[j] hok
        clear hstep hall hfold ha hok
        revert hlow HS
        generalize hexFold (D.take (j - 1)) = F
        intro hlow HS
        have hw1 : IntKind.u64.wrap ((F : Int) * 16) = (F : Int) * 16 := by rw [IntKind.wrap_u64]; omega
        rcases hcase with ⟨c1, c2, c3⟩ | ⟨c1, c2, c3, c4, c5⟩
        · have hw2 : IntKind.u8.wrap ((s[j].toNat : Int) - 48) = (s[j].toNat : Int) - 48 := IntWalk.u8_in _ (by omega)
          have hw3 : IntKind.u64.wrap ((s[j].toNat : Int) - 48) = (s[j].toNat : Int) - 48 := by rw [IntKind.wrap_u64]; omega
          have hw4 : IntKind.u64.wrap ((F : Int) * 16 + ((s[j].toNat : Int) - 48)) = (F : Int) * 16 + ((s[j].toNat : Int) - 48) := by rw [IntKind.wrap_u64]; omega
          have C3 := Lib.hid c3; clear c3
          go_wp2
          go_roundg (18 - (j + 1))
          case measure => rw [HG.out]; omega
          case rel => exact ⟨j + 1, rfl, by omega, by omega, by rw [show j + 1 - 1 = j from rfl, HS.out.2, C3.out], rfl, HS.out.1, rfl⟩
        · have hw2 : IntKind.u8.wrap ((s[j].toNat : Int) - 97) = (s[j].toNat : Int) - 97 := IntWalk.u8_in _ (by omega)
          have hw3 : IntKind.u64.wrap ((s[j].toNat : Int) - 97) = (s[j].toNat : Int) - 97 := by rw [IntKind.wrap_u64]; omega
          have hw4 : IntKind.u64.wrap ((F : Int) * 16 + ((s[j].toNat : Int) - 97)) = (F : Int) * 16 + ((s[j].toNat : Int) - 97) := by rw [IntKind.wrap_u64]; omega
          have hw5 : IntKind.u64.wrap ((F : Int) * 16 + ((s[j].toNat : Int) - 97) + 10) = (F : Int) * 16 + ((s[j].toNat : Int) - 97) + 10 := by rw [IntKind.wrap_u64]; omega
          have C3 := Lib.hid c5; clear c5
          go_wp2
          go_roundg (18 - (j + 1))
          case measure => rw [HG.out]; omega
          case rel => exact ⟨j + 1, rfl, by omega, by omega, by rw [show j + 1 - 1 = j from rfl, HS.out.2, C3.out]; congr 1; omega, rfl, HS.out.1, rfl⟩
      · have hall : D.all hexOk = false := by
          rw [List.all_eq_false]
          refine ⟨s[j], ?_, by simp [hexOk]; omega⟩
          have : s[j] ∈ D.take j := by rw [hstep]; simp
          exact List.mem_of_mem_take this
        have ht : hexTell D = (0, 6) := by rw [hexTell, hall]; rfl
        have HT := Lib.hid ht
        have hcase := hex_out s[j] hok
        clear hstep hall ht ha hok hlow
        rcases hcase with ⟨c1, c2⟩ | ⟨c1, c2, c3⟩ | ⟨c1, c2, c3, c4⟩
        all_goals
          go_wp2
          exact bodyPost_ret (v := tellsF (0, 6)) (by simp [results, Tryz.results47, go_sem, tellsF]) rfl ⟨by rw [HT.out], rfl⟩
    · obtain rfl : j = 17 := by omega
      have hD : D.take (17 - 1) = D := List.take_of_length_le (by rw [HL.out.1]; decide)
      rw [hD] at ha ⊢
      have ht : hexTell D = (oneW (hexFold D), 0) := by
        rw [hexTell, ha, HL.out.1]; rfl
      have HT := Lib.hid ht
      clear ht ha hD
      revert HT
      generalize hexFold D = F
      intro HT
      go_wp2_with fail
      refine (dof_any _ _).mono ?_
      rintro en w1 ⟨rfl, rfl⟩
      go_wp2
      exact bodyPost_ret (v := tellsF (oneW F, 0)) (by simp [results, Tryz.results47, go_sem, tellsF]) rfl ⟨by rw [HT.out], rfl⟩
end Go.Proofs.YtidjnfjpdnjogaaGreatDoor
