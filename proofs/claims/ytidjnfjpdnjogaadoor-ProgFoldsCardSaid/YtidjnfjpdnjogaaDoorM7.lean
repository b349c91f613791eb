/-
  M7: the texts RNum, RDig, PrD1, PrD2, PrD3, PxD4, one behind the other. Conditions: none.
-/
import Derived.Test.YtidjnfjpdnjogaaDoorM2
import Derived.Deep.DeepCutAuto
import Derived.Test.YtidjnfjpdnjogaaDoorM3
/-
  chronicleref1.Number: what it tells. Conditions: none.
-/
namespace Go.Proofs.YtidjnfjpdnjogaaDoor
open Go.RowKit Go.Lib

/-- How the sign is taken off. -/
def Signed (s d : ByteArray) (b : Bool) : Prop :=
  (∃ h : 0 < s.size, ((s[0].toNat : Int) == 45) = true ∧ s.extract 1 s.size = d ∧ b = true) ∨ (∃ h : 0 < s.size, ((s[0].toNat : Int) == 45) = false ∧ d = s ∧ b = false)

set_option maxHeartbeats 800000 in
theorem rnum_good (s d : ByteArray) (b : Bool) (w : World) (hcase : Signed s d b) (h : numBad d.data.toList b = false) :
    Calls Tryd.prog 58 #[.string s] w fun en w' => en = .returned (tells (numRest d.data.toList b)) ∧ w = w' := by
  obtain ⟨hz1, hz2, hz3⟩ := numBad_false d b h
  have h0 := hz3 hz1
  have HB := Lib.hid h; clear h
  have k1 : ¬ (d.size : Int) < 1 := by omega
  have k2 : ¬ (18 : Int) < (d.size : Int) := by omega
  clear hz3
  have k3 : (0 : Int) < (d.size : Int) := by omega
  have h0' : ((d[0].toNat : Int) == 48) = false ∨ (((d[0].toNat : Int) == 48) = true ∧ ¬ (1 : Int) < (d.size : Int) ∧ b = false) := by
    rcases h0 with h0 | ⟨h0, h1⟩
    · exact Or.inl h0
    · cases hc : ((d[0].toNat : Int) == 48)
      · exact Or.inl rfl
      · exact Or.inr ⟨rfl, by omega, h1⟩
  clear h0
  have hne : numRest d.data.toList b = if d.data.toList.all isDig then ((if b then -(numVal d.data.toList : Int) else numVal d.data.toList), 0) else (0, 1) := by
    rw [numRest, if_neg (by rw [HB.out]; decide)]
  have HN := Lib.hid hne; clear hne
  have hways : (∃ h : 0 < s.size, ((s[0].toNat : Int) == 45) = true ∧ Hid (s.extract 1 s.size = d) ∧ b = true ∧ ((d[0].toNat : Int) == 48) = false) ∨
      (∃ h : 0 < s.size, ((s[0].toNat : Int) == 45) = false ∧ d = s ∧ b = false ∧ (((d[0].toNat : Int) == 48) = false ∨ (((d[0].toNat : Int) == 48) = true ∧ ¬ (1 : Int) < (d.size : Int)))) := by
    rcases hcase with ⟨h, h1, h2, h3⟩ | ⟨h, h1, h2, h3⟩
    · refine Or.inl ⟨h, h1, Lib.hid h2, h3, ?_⟩
      rcases h0' with h4 | ⟨h4, h5, h6⟩
      · exact h4
      · rw [h3] at h6; cases h6
    · refine Or.inr ⟨h, h1, h2, h3, ?_⟩
      rcases h0' with h4 | ⟨h4, h5, h6⟩
      · exact Or.inl h4
      · exact Or.inr ⟨h4, h5⟩
  clear h0' hcase
  rcases hways with ⟨g0, g1, HD, rfl, h0⟩ | ⟨g0, g1, rfl, rfl, h0 | ⟨h0, h01⟩⟩
  · have g2 : (0 : Int) < (s.size : Int) := by omega
    go_enter Tryd.func58, Tryd.ntmps58
    go_upto_region 4 with (fail)
    rw [HD.out]
    go_wp2_with fail
    go_loopg [5, 6] d.size (fun g n i wr => ∃ k : Nat, g = d.size - k ∧ k ≤ d.size ∧ n = .int .i64 (numVal (d.data.toList.take k)) ∧ i = .int .i64 k ∧ (d.data.toList.take k).all isDig = true ∧ wr = w)
    case atStart => exact ⟨0, by omega, Nat.zero_le _, rfl, rfl, rfl, rfl⟩
    case round =>
      obtain ⟨k, hg, hk, rfl, rfl, ha, rfl⟩ := hrel
      have HG := Lib.hid hg; clear hg
      by_cases hlt : k < d.size
      · by_cases h1 : (d[k].toNat : Int) < 48
        · have hall := all_split d k hlt (dig_low h1)
          have HA := Lib.hid hall; clear hall ha
          go_wp2
          refine bodyPost_ret (v := tells (0, 1)) (by simp [results, Tryd.results58, go_sem, tells]) rfl ⟨?_, rfl⟩
          rw [HN.out, HA.out]; rfl
        · by_cases h2 : 57 < (d[k].toNat : Int)
          · have hall := all_split d k hlt (dig_high h2)
            have HA := Lib.hid hall; clear hall ha
            go_wp2
            refine bodyPost_ret (v := tells (0, 1)) (by simp [results, Tryd.results58, go_sem, tells]) rfl ⟨?_, rfl⟩
            rw [HN.out, HA.out]; rfl
          · obtain ⟨s1, s2, s3⟩ := num_step d k hlt hz2 ha h1 h2
            have hb := d[k].toNat_lt
            have HS := Lib.hid (And.intro s1 s2); clear s1 s2 ha
            have hw1 : IntKind.i64.wrap ((numVal (d.data.toList.take k) : Int) * 10) = 10 * (numVal (d.data.toList.take k) : Int) := by rw [Int.mul_comm]; exact IntWalk.i64_in _ (by omega)
            have hw2 : IntKind.u8.wrap ((d[k].toNat : Int) - 48) = (d[k].toNat : Int) - 48 := IntWalk.u8_in _ (by omega)
            have hw3 : IntKind.i64.wrap ((d[k].toNat : Int) - 48) = (d[k].toNat : Int) - 48 := IntWalk.i64_in _ (by omega)
            have hw4 : IntKind.i64.wrap (10 * (numVal (d.data.toList.take k) : Int) + ((d[k].toNat : Int) - 48)) = 10 * (numVal (d.data.toList.take k) : Int) + ((d[k].toNat : Int) - 48) := IntWalk.i64_in _ (by omega)
            go_wp2
            go_roundg (d.size - (k + 1))
            case measure => rw [HG.out]; omega
            case rel => exact ⟨k + 1, rfl, hlt, by rw [HS.out.2]; (try rw [Int.mul_comm]), rfl, HS.out.1, rfl⟩
      · obtain rfl : k = d.size := by omega
        rw [show d.data.toList.take d.size = d.data.toList from List.take_of_length_le (by simp)] at ha ⊢
        have hv := numVal_lt _ ha
        have hl : d.data.toList.length = d.size := by simp
        rw [hl] at hv
        have h18 : (10 : Nat) ^ d.size ≤ 10 ^ 18 := Nat.pow_le_pow_right (by decide) (by omega)
        have hw1 : IntKind.i64.wrap (-(numVal d.data.toList : Int)) = -(numVal d.data.toList : Int) := IntWalk.i64_in _ (by omega)
        have HA := Lib.hid ha; clear ha hl hv h18
        go_wp2
        refine bodyPost_ret (v := tells (numRest d.data.toList _)) (by rw [HN.out, HA.out]; simp [results, Tryd.results58, go_sem, tells]) rfl ⟨rfl, rfl⟩
  all_goals
    go_enter Tryd.func58, Tryd.ntmps58
    go_wp2_with fail
    go_loopg [5, 6] d.size (fun g n i wr => ∃ k : Nat, g = d.size - k ∧ k ≤ d.size ∧ n = .int .i64 (numVal (d.data.toList.take k)) ∧ i = .int .i64 k ∧ (d.data.toList.take k).all isDig = true ∧ wr = w)
    case atStart => exact ⟨0, by omega, Nat.zero_le _, rfl, rfl, rfl, rfl⟩
    case round =>
      obtain ⟨k, hg, hk, rfl, rfl, ha, rfl⟩ := hrel
      have HG := Lib.hid hg; clear hg
      by_cases hlt : k < d.size
      · by_cases h1 : (d[k].toNat : Int) < 48
        · have hall := all_split d k hlt (dig_low h1)
          have HA := Lib.hid hall; clear hall ha
          go_wp2
          refine bodyPost_ret (v := tells (0, 1)) (by simp [results, Tryd.results58, go_sem, tells]) rfl ⟨?_, rfl⟩
          rw [HN.out, HA.out]; rfl
        · by_cases h2 : 57 < (d[k].toNat : Int)
          · have hall := all_split d k hlt (dig_high h2)
            have HA := Lib.hid hall; clear hall ha
            go_wp2
            refine bodyPost_ret (v := tells (0, 1)) (by simp [results, Tryd.results58, go_sem, tells]) rfl ⟨?_, rfl⟩
            rw [HN.out, HA.out]; rfl
          · obtain ⟨s1, s2, s3⟩ := num_step d k hlt hz2 ha h1 h2
            have hb := d[k].toNat_lt
            have HS := Lib.hid (And.intro s1 s2); clear s1 s2 ha
            have hw1 : IntKind.i64.wrap ((numVal (d.data.toList.take k) : Int) * 10) = 10 * (numVal (d.data.toList.take k) : Int) := by rw [Int.mul_comm]; exact IntWalk.i64_in _ (by omega)
            have hw2 : IntKind.u8.wrap ((d[k].toNat : Int) - 48) = (d[k].toNat : Int) - 48 := IntWalk.u8_in _ (by omega)
            have hw3 : IntKind.i64.wrap ((d[k].toNat : Int) - 48) = (d[k].toNat : Int) - 48 := IntWalk.i64_in _ (by omega)
            have hw4 : IntKind.i64.wrap (10 * (numVal (d.data.toList.take k) : Int) + ((d[k].toNat : Int) - 48)) = 10 * (numVal (d.data.toList.take k) : Int) + ((d[k].toNat : Int) - 48) := IntWalk.i64_in _ (by omega)
            go_wp2
            go_roundg (d.size - (k + 1))
            case measure => rw [HG.out]; omega
            case rel => exact ⟨k + 1, rfl, hlt, by rw [HS.out.2]; (try rw [Int.mul_comm]), rfl, HS.out.1, rfl⟩
      · obtain rfl : k = d.size := by omega
        rw [show d.data.toList.take d.size = d.data.toList from List.take_of_length_le (by simp)] at ha ⊢
        have hv := numVal_lt _ ha
        have hl : d.data.toList.length = d.size := by simp
        rw [hl] at hv
        have h18 : (10 : Nat) ^ d.size ≤ 10 ^ 18 := Nat.pow_le_pow_right (by decide) (by omega)
        have hw1 : IntKind.i64.wrap (-(numVal d.data.toList : Int)) = -(numVal d.data.toList : Int) := IntWalk.i64_in _ (by omega)
        have HA := Lib.hid ha; clear ha hl hv h18
        go_wp2
        refine bodyPost_ret (v := tells (numRest d.data.toList _)) (by rw [HN.out, HA.out]; simp [results, Tryd.results58, go_sem, tells]) rfl ⟨rfl, rfl⟩

theorem rnum_bad (s d : ByteArray) (b : Bool) (w : World) (hcase : Signed s d b) (h : numBad d.data.toList b = true) :
    Calls Tryd.prog 58 #[.string s] w fun en w' => en = .returned (tells (numRest d.data.toList b)) ∧ w = w' := by
  have hne : numRest d.data.toList b = (0, 1) := by rw [numRest, if_pos h]
  have HN := Lib.hid hne; clear hne
  have hw : (d.size : Int) < 1 ∨ (¬ (d.size : Int) < 1 ∧ (18 : Int) < (d.size : Int)) ∨ (¬ (d.size : Int) < 1 ∧ ¬ (18 : Int) < (d.size : Int) ∧ 0 < d.size ∧ ∀ h0 : 0 < d.size, ((d[0].toNat : Int) == 48) = true ∧ ((1 : Int) < (d.size : Int) ∨ (¬ (1 : Int) < (d.size : Int) ∧ b = true))) := by
    rcases numBad_true d b h with h1 | h1 | ⟨h1, h2, h3⟩
    · exact Or.inl (by omega)
    · exact Or.inr (Or.inl ⟨by omega, by omega⟩)
    · refine Or.inr (Or.inr ⟨by omega, by omega, h1, fun h0 => ⟨(h3 h0).1, ?_⟩⟩)
      by_cases h5 : 1 < d.size
      · exact Or.inl (by omega)
      · exact Or.inr ⟨by omega, (h3 h0).2.resolve_left h5⟩
  clear h
  rcases hcase with ⟨g0, g1, hd, rfl⟩ | ⟨g0, g1, rfl, rfl⟩
  · have g2 : (0 : Int) < (s.size : Int) := by omega
    have HD := Lib.hid hd; clear hd
    rcases hw with h1 | ⟨h1, h2⟩ | ⟨h1, h2, h3, h4⟩
    · go_enter Tryd.func58, Tryd.ntmps58
      go_upto_region 4 with (fail)
      rw [HD.out]
      go_wp2
      exact bodyPost_ret (v := tells (0, 1)) (by simp [results, Tryd.results58, go_sem, tells]) rfl ⟨by rw [HN.out], rfl⟩
    · go_enter Tryd.func58, Tryd.ntmps58
      go_upto_region 4 with (fail)
      rw [HD.out]
      go_wp2
      exact bodyPost_ret (v := tells (0, 1)) (by simp [results, Tryd.results58, go_sem, tells]) rfl ⟨by rw [HN.out], rfl⟩
    · obtain ⟨h5, h6⟩ := h4 h3
      clear h4
      have h7 : (0 : Int) < (d.size : Int) := by omega
      rcases h6 with h6 | ⟨h6, -⟩
      all_goals
        go_enter Tryd.func58, Tryd.ntmps58
        go_upto_region 4 with (fail)
        rw [HD.out]
        go_wp2
        exact bodyPost_ret (v := tells (0, 1)) (by simp [results, Tryd.results58, go_sem, tells]) rfl ⟨by rw [HN.out], rfl⟩
  · rcases hw with h1 | ⟨h1, h2⟩ | ⟨h1, h2, h3, h4⟩
    · omega
    · have g2 : (0 : Int) < (d.size : Int) := by omega
      go_enter Tryd.func58, Tryd.ntmps58
      go_wp2
      exact bodyPost_ret (v := tells (0, 1)) (by simp [results, Tryd.results58, go_sem, tells]) rfl ⟨by rw [HN.out], rfl⟩
    · obtain ⟨h5, h6⟩ := h4 h3
      clear h4
      have h7 : (0 : Int) < (d.size : Int) := by omega
      rcases h6 with h6 | ⟨h6, h8⟩
      · go_enter Tryd.func58, Tryd.ntmps58
        go_wp2
        exact bodyPost_ret (v := tells (0, 1)) (by simp [results, Tryd.results58, go_sem, tells]) rfl ⟨by rw [HN.out], rfl⟩
      · cases h8

theorem rnum_empty (s : ByteArray) (w : World) (h : s.size = 0) : Calls Tryd.prog 58 #[.string s] w fun en w' => en = .returned (tells (0, 1)) ∧ w = w' := by
  obtain rfl : s = ⟨#[]⟩ := ByteArray.ext (Array.eq_empty_of_size_eq_zero h)
  clear h
  go_enter Tryd.func58, Tryd.ntmps58
  go_wp2
  exact bodyPost_ret (v := tells (0, 1)) (by simp [results, Tryd.results58, go_sem, tells]) rfl ⟨rfl, rfl⟩

theorem rnumber_any (s : ByteArray) (w : World) : Calls Tryd.prog 58 #[.string s] w fun en w' => en = .returned (tells (numberOf s.data.toList)) ∧ w = w' := by
  by_cases hz : s.size = 0
  · have h1 : numberOf s.data.toList = (0, 1) := by
      obtain rfl : s = ⟨#[]⟩ := ByteArray.ext (Array.eq_empty_of_size_eq_zero hz)
      rfl
    rw [h1]
    exact rnum_empty s w hz
  · have h0 : 0 < s.size := by omega
    have hcons : s.data.toList = s[0] :: s.data.toList.drop 1 := by
      have := List.drop_eq_getElem_cons (l := s.data.toList) (i := 0) (by simpa using h0)
      rw [List.drop_zero] at this
      exact this
    have hex : ∃ d : ByteArray, d.data.toList = bodyOf s.data.toList ∧ Signed s d (minusOf s.data.toList) := by
      by_cases hm : s[0] = 45
      · refine ⟨s.extract 1 s.size, ?_, Or.inl ⟨h0, by rw [hm]; rfl, rfl, ?_⟩⟩
        · rw [hcons, hm, (pre_is _).2]
          simp only [ByteArray.data_extract, Array.toList_extract, List.extract_eq_take_drop]
          exact List.take_of_length_le (by simp)
        · rw [hcons, hm]; exact (pre_is _).1
      · have hm2 : s[0].toNat ≠ 45 := fun hc => hm (UInt8.toNat_inj.1 hc)
        refine ⟨s, ?_, Or.inr ⟨h0, beq_eq_false_iff_ne.2 (by omega), rfl, ?_⟩⟩
        · rw [hcons]; exact (pre_not _ _ hm2).2.symm
        · rw [hcons]; exact (pre_not _ _ hm2).1
    obtain ⟨d, hd1, hd2⟩ := hex
    rw [numberOf_rest, ← hd1]
    cases hb : numBad d.data.toList (minusOf s.data.toList)
    · exact rnum_good s d _ w hd2 hb
    · exact rnum_bad s d _ w hd2 hb
end Go.Proofs.YtidjnfjpdnjogaaDoor

/-
  chronicleref1.Digits: what it tells. Conditions: none.
-/
namespace Go.Proofs.YtidjnfjpdnjogaaDoor
open Go.RowKit Go.Lib

theorem byte_text (c : UInt8) (x : Int) (hx : x = c.toNat) (w : World) : (convert 79 9 (.slice (some ⟨w.heap.size, 0, none⟩) 1 1)).run Tryd.prog (w.alloc (.cells #[.int .u8 x] 5)) = .ok (.string ⟨#[c]⟩) (w.alloc (.cells #[.int .u8 x] 5)) := by
  subst hx
  exact run_convert_whole _ 79 5 9 Tryd.underlying79 Tryd.underlying5 Tryd.underlying9 w.heap.size 0 ⟨#[c]⟩ (fun i hi => by
        have hi0 : i = 0 := by have : i < 1 := hi; omega
        subst hi0
        have hb := new_block w (.cells #[.int .u8 (c.toNat)] 5)
        simp only [World.cell?, hb]
        rfl) 1

theorem dec_last (k : Nat) (sr : ByteArray) (l : List UInt8) (h : l = decDigits k ++ sr.data.toList) (h9 : k < 10) : l = (⟨#[UInt8.ofNat (48 + k % 10)]⟩ ++ sr : ByteArray).data.toList := by
  rw [h, decDigits, dif_pos h9, Nat.mod_eq_of_lt h9]
  simp [ByteArray.data_append]
theorem dec_more (k : Nat) (sr : ByteArray) (l : List UInt8) (h : l = decDigits k ++ sr.data.toList) (h9 : ¬ k < 10) : l = decDigits (k / 10) ++ (⟨#[UInt8.ofNat (48 + k % 10)]⟩ ++ sr : ByteArray).data.toList := by
  rw [h, decDigits, dif_neg h9]
  simp [ByteArray.data_append]

theorem dec_part (v k : Nat) (sr : ByteArray) (hv : v ≤ 9223372036854775808) (h : decDigits v = decDigits k ++ sr.data.toList) : sr.size ≤ 20 := by
  have h1 := congrArg List.length h
  rw [decDigits_length, List.length_append] at h1
  have h2 := nDigits_le 19 v (by omega)
  have h3 : sr.data.toList.length = sr.size := by simp
  omega

theorem rdig_pos (v : Nat) (hv : v ≤ 9223372036854775807) (w : World) : Calls Tryd.prog 25 #[.int .i64 v] w fun en w' => en = .returned (.string ⟨(decDigits v).toArray⟩) ∧ Below w.heap.size w w' := by
  have h0 : ¬ (v : Int) < 0 := by omega
  go_enter Tryd.func25, Tryd.ntmps25
  go_wp2_with fail
  go_loopg [0, 3] v (fun g x r wr => ∃ (k : Nat) (sr : ByteArray), g = k ∧ x = .int .i64 k ∧ r = .string sr ∧ k ≤ 9223372036854775807 ∧ decDigits v = decDigits k ++ sr.data.toList ∧ Below w.heap.size w wr)
  case atStart => exact ⟨v, ⟨#[]⟩, rfl, rfl, rfl, hv, by simp, Below.refl _ _⟩
  case round =>
    obtain ⟨k, sr, hg, rfl, rfl, hk, hd, hb⟩ := hrel
    have hsz := dec_part v k sr (by omega) hd
    have HG := Lib.hid (And.intro hg hd); clear hg hd
    have hc1 : ¬ ((k : Int) % 10 < 0) := by omega
    have hcv : ∀ w : World, _ := byte_text (UInt8.ofNat (48 + k % 10)) (48 + (k : Int) % 10) (by rw [digit_of _ (by omega)]; omega)
    by_cases h9 : k < 10
    · have hz : (((k : Int) / 10) == 0) = true := beq_iff_eq.2 (by omega)
      have hlast := dec_last k sr (decDigits v) HG.out.2 h9
      revert hcv hlast
      generalize UInt8.ofNat (48 + k % 10) = c
      intro hcv hlast
      have HL := Lib.hid hlast; clear hlast
      go_wp2_with fail
      go_ret
      exact ⟨by rw [HL.out]; rfl, hb.trans ((below_alloc _ _).mono hb.size)⟩
    · have hz : (((k : Int) / 10) == 0) = false := beq_eq_false_iff_ne.2 (by omega)
      have hmore := dec_more k sr (decDigits v) HG.out.2 h9
      revert hcv hmore
      generalize UInt8.ofNat (48 + k % 10) = c
      intro hcv hmore
      have HL := Lib.hid hmore; clear hmore
      go_wp2_with fail
      go_roundg (k / 10)
      case measure => rw [HG.out.1]; omega
      case rel => exact ⟨k / 10, _, rfl, rfl, rfl, by omega, HL.out, hb.trans ((below_alloc _ _).mono hb.size)⟩

theorem rdig_neg (v : Nat) (hv : v ≤ 9223372036854775808) (hv1 : 1 ≤ v) (w : World) : Calls Tryd.prog 25 #[.int .i64 (-(v : Int))] w fun en w' => en = .returned (.string ⟨(45 :: decDigits v).toArray⟩) ∧ Below w.heap.size w w' := by
  have h0 : -(v : Int) < 0 := by omega
  have h00 : decide (0 < v) = true := by simp; omega
  go_enter Tryd.func25, Tryd.ntmps25
  go_wp2_with fail
  go_loopg [0, 3] v (fun g x r wr => ∃ (k : Nat) (sr : ByteArray), g = k ∧ x = .int .i64 (-(k : Int)) ∧ r = .string sr ∧ k ≤ 9223372036854775808 ∧ decDigits v = decDigits k ++ sr.data.toList ∧ Below w.heap.size w wr)
  case atStart => exact ⟨v, ⟨#[]⟩, rfl, rfl, rfl, hv, by simp, Below.refl _ _⟩
  case round =>
    obtain ⟨k, sr, hg, rfl, rfl, hk, hd, hb⟩ := hrel
    have hsz := dec_part v k sr hv hd
    have HG := Lib.hid (And.intro hg hd); clear hg hd
    have hwz : (0 < (k : Int) % 10 ∧ ∀ w : World, (convert 79 9 (.slice (some ⟨w.heap.size, 0, none⟩) 1 1)).run Tryd.prog (w.alloc (.cells #[.int .u8 (48 + (k : Int) % 10)] 5)) = .ok (.string ⟨#[UInt8.ofNat (48 + k % 10)]⟩) (w.alloc (.cells #[.int .u8 (48 + (k : Int) % 10)] 5))) ∨
        ((k : Int) % 10 ≤ 0 ∧ ∀ w : World, (convert 79 9 (.slice (some ⟨w.heap.size, 0, none⟩) 1 1)).run Tryd.prog (w.alloc (.cells #[.int .u8 (48 + -((k : Int) % 10))] 5)) = .ok (.string ⟨#[UInt8.ofNat (48 + k % 10)]⟩) (w.alloc (.cells #[.int .u8 (48 + -((k : Int) % 10))] 5))) := by
      by_cases hm : 0 < (k : Int) % 10
      · exact Or.inl ⟨hm, byte_text _ _ (by rw [digit_of _ (by omega)]; omega)⟩
      · exact Or.inr ⟨by omega, byte_text _ _ (by rw [digit_of _ (by omega)]; omega)⟩
    rcases hwz with ⟨hc1, hcv⟩ | ⟨hc1, hcv⟩
    all_goals
      by_cases h9 : k < 10
      · have hz : (((k : Int) / 10) == 0) = true := beq_iff_eq.2 (by omega)
        have hz2 : (-((k : Int) / 10) == 0) = true := beq_iff_eq.2 (by omega)
        have hlast := dec_last k sr (decDigits v) HG.out.2 h9
        revert hcv hlast
        generalize UInt8.ofNat (48 + k % 10) = c
        intro hcv hlast
        have HL := Lib.hid hlast; clear hlast
        go_wp2_with fail
        go_ret
        refine ⟨?_, hb.trans ((below_alloc _ _).mono hb.size)⟩
        rw [HL.out]
        congr 2
      · have hz : (((k : Int) / 10) == 0) = false := beq_eq_false_iff_ne.2 (by omega)
        have hz2 : (-((k : Int) / 10) == 0) = false := beq_eq_false_iff_ne.2 (by omega)
        have hmore := dec_more k sr (decDigits v) HG.out.2 h9
        revert hcv hmore
        generalize UInt8.ofNat (48 + k % 10) = c
        intro hcv hmore
        have HL := Lib.hid hmore; clear hmore
        go_wp2_with fail
        go_roundg (k / 10)
        case measure => rw [HG.out.1]; omega
        case rel => exact ⟨k / 10, _, rfl, rfl, rfl, by omega, HL.out, hb.trans ((below_alloc _ _).mono hb.size)⟩

theorem rdigits_any (v : Int) (h0 : -9223372036854775808 ≤ v) (h1 : v ≤ 9223372036854775807) (w : World) : Calls Tryd.prog 25 #[.int .i64 v] w fun en w' => en = .returned (.string ⟨(itoa v).toArray⟩) ∧ Below w.heap.size w w' := by
  by_cases h : v < 0
  · obtain ⟨n, hn⟩ : ∃ n : Nat, v = -(n : Int) := ⟨v.natAbs, by omega⟩
    subst hn
    rw [itoa_minus h, show (-(n : Int)).natAbs = n by omega]
    exact rdig_neg n (by omega) (by omega) w
  · obtain ⟨n, rfl⟩ := Int.eq_ofNat_of_zero_le (Int.not_lt.1 h)
    rw [itoa_pos h, Int.toNat_natCast]
    exact rdig_pos n (by omega) w
end Go.Proofs.YtidjnfjpdnjogaaDoor

/-
  The document's floats: bits, classes, texts. Conditions: none.
-/
namespace Go.Proofs.YtidjnfjpdnjogaaDoor
open Go.RowKit Go.Lib

theorem dbits_any (b : Nat) (w : World) : Calls Tryd.prog 26 #[.float .f64 b] w fun en w' => en = .returned (.int .u64 (oneW b : Nat)) ∧ w = w' := by
  have h56 := runBits
  cases h : nanW b
  · rw [oneW_not h]
    have hn : (FloatKind.f64.format.order b b != some .eq) = false := h
    clear h
    go_enter Tryd.func26, Tryd.ntmps26
    go_wp2
    go_ret
    exact ⟨rfl, rfl⟩
  · rw [oneW_nan h]
    have hn : (FloatKind.f64.format.order b b != some .eq) = true := h
    clear h
    go_enter Tryd.func26, Tryd.ntmps26
    go_wp2
    go_ret
    exact ⟨rfl, rfl⟩

theorem dof_any (n : Nat) (w : World) : Calls Tryd.prog 8 #[.int .u64 n] w fun en w' => en = .returned (.float .f64 (oneW n)) ∧ w = w' := by
  have h57 := runFrom
  cases h : nanW n
  · rw [oneW_not h]
    have hn : (FloatKind.f64.format.order n n != some .eq) = false := h
    clear h
    go_enter Tryd.func8, Tryd.ntmps8
    go_wp2
    go_ret
    exact ⟨rfl, rfl⟩
  · rw [oneW_nan h]
    have hn : (FloatKind.f64.format.order n n != some .eq) = true := h
    clear h
    go_enter Tryd.func8, Tryd.ntmps8
    go_wp2
    go_ret
    exact ⟨rfl, rfl⟩

theorem dsame_any (a b : Nat) (w : World) : Calls Tryd.prog 14 #[.float .f64 a, .float .f64 b] w fun en w' => en = .returned (.bool (sameW a b)) ∧ w = w' := by
  have hs : (((oneW a : Nat) : Int) == ((oneW b : Nat) : Int)) = sameW a b := by
    unfold sameW; rw [Bool.eq_iff_iff]; simp; omega
  have HS := Lib.hid hs; clear hs
  go_enter Tryd.func14, Tryd.ntmps14
  go_wp2_with fail
  refine (dbits_any a _).mono ?_
  rintro en w1 ⟨rfl, rfl⟩
  go_wp2_with fail
  refine (dbits_any b _).mono ?_
  rintro en w1 ⟨rfl, rfl⟩
  go_wp2
  go_ret
  exact ⟨by rw [← HS.out]; simp, rfl⟩

theorem nan_mask (b : Nat) (hb : b < 18446744073709551616) : bits .and .u64 (b : Int) 9223372036854775807 = ((rungOf b : Nat) : Int) := by
  rw [show (9223372036854775807 : Int) = ((9223372036854775807 : Nat) : Int) from rfl, bits_and_u64_nat b _ hb (by decide)]
  rw [show (9223372036854775807 : Nat) = 2 ^ 63 - 1 from rfl, Nat.and_two_pow_sub_one_eq_mod]; rfl

theorem neg_shift (b : Nat) (hb : b < 18446744073709551616) : ((b : Int) / 9223372036854775808 == 1) = negOf b := by
  unfold negOf
  rw [Bool.eq_iff_iff, beq_iff_eq, beq_iff_eq]
  omega

theorem dclass_any (b : Nat) (hb : b < 18446744073709551616) (w : World) : Calls Tryd.prog 17 #[.float .f64 b] w fun en w' => en = .returned (.int .i64 (classB b : Nat)) ∧ w = w' := by
  have HB := Lib.hid (dbits_any b)
  rcases Classical.em (fine b) with hf | hf
  · have hn : (FloatKind.f64.format.order b b != some .eq) = false := nanW_fine hf
    have h1 := neg_shift b hb
    have h2 := nan_mask b hb
    rw [oneW_not (nanW_fine hf)] at HB
    have hc : classB b = if rungOf b = 9218868437227405312 then (if negOf b then 1 else 6) else if rungOf b = 0 then (if negOf b then 3 else 4) else if negOf b then 2 else 5 := by
      unfold fine at hf
      rw [classB, if_neg (by omega)]
    rw [hc]
    clear hc hf hb
    revert h1 h2
    generalize negOf b = s
    generalize rungOf b = r
    intro h1 h2
    by_cases hi : r = 9218868437227405312
    · subst hi
      cases s
      all_goals
        go_enter Tryd.func17, Tryd.ntmps17
        go_wp2_with fail
        refine (HB.out _).mono ?_
        rintro en w1 ⟨rfl, rfl⟩
        go_wp2
        go_ret
        exact ⟨rfl, rfl⟩
    · have k1 : ((r : Int) == 9218868437227405312) = false := beq_eq_false_iff_ne.2 (by omega)
      rw [if_neg hi]
      clear hi
      by_cases h0 : r = 0
      · subst h0
        cases s
        all_goals
          go_enter Tryd.func17, Tryd.ntmps17
          go_wp2_with fail
          refine (HB.out _).mono ?_
          rintro en w1 ⟨rfl, rfl⟩
          go_wp2
          go_ret
          exact ⟨rfl, rfl⟩
      · have k2 : ((r : Int) == 0) = false := beq_eq_false_iff_ne.2 (by omega)
        rw [if_neg h0]
        clear h0
        cases s
        all_goals
          go_enter Tryd.func17, Tryd.ntmps17
          go_wp2_with fail
          refine (HB.out _).mono ?_
          rintro en w1 ⟨rfl, rfl⟩
          go_wp2
          go_ret
          exact ⟨rfl, rfl⟩
  · have hn : (FloatKind.f64.format.order b b != some .eq) = true := nanW_not hf
    have hc : classB b = 0 := by
      unfold fine at hf
      rw [classB, if_pos (by omega)]
    rw [hc]
    rw [nan_word hf] at HB
    clear hc hf hb
    go_enter Tryd.func17, Tryd.ntmps17
    go_wp2_with fail
    refine (HB.out _).mono ?_
    rintro en w1 ⟨rfl, rfl⟩
    go_wp2
    go_ret
    exact ⟨rfl, rfl⟩

/-! Texts. -/
theorem dtext_c (b : Nat) (hb : b < 18446744073709551616) (c : Nat) (l : ByteArray) (hc : classB b = c) (hl : (c = 0 ∧ l = ⟨#[110, 97, 110]⟩) ∨ (c = 1 ∧ l = ⟨#[45, 105, 110, 102]⟩) ∨ (c = 6 ∧ l = ⟨#[105, 110, 102]⟩) ∨ (c = 3 ∧ l = ⟨#[45, 48]⟩) ∨ (c = 4 ∧ l = ⟨#[48]⟩)) (w : World) :
    Calls Tryd.prog 9 #[.float .f64 b] w fun en w' => en = .returned (.string l) ∧ w = w' := by
  have HK := Lib.hid (dclass_any b hb)
  rw [hc] at HK
  clear hc hb
  rcases hl with ⟨rfl, rfl⟩ | ⟨rfl, rfl⟩ | ⟨rfl, rfl⟩ | ⟨rfl, rfl⟩ | ⟨rfl, rfl⟩
  all_goals
    go_enter Tryd.func9, Tryd.ntmps9
    go_wp2_with fail
    refine (HK.out _).mono ?_
    rintro en w1 ⟨rfl, rfl⟩
    go_wp2
    go_ret
    exact ⟨rfl, rfl⟩

/-- The test of the document: the int of a float, as a float, is it again. -/
theorem dwhole_test (b : Nat) (h : rungOf b < 9218868437227405312) (hq : qOf b ≤ 999999999999999) : (Ieee.double.order (intF (nOf b)) b == some .eq) = evenB b := by
  have hn : -9007199254740992 ≤ nOf b ∧ nOf b ≤ 9007199254740992 := by
    unfold nOf sgn
    split <;> omega
  rw [eq_fine _ _ (intF_fine _ hn) (by unfold fine; omega), intF_val _ hn.1 hn.2, nOf, sgn_mul, valF, evenB, qOf]
  rw [Bool.eq_iff_iff, decide_eq_true_eq, beq_iff_eq, sgn_inj]
  have h1 := Nat.div_add_mod (magM (rungOf b)) UU
  have h2 := UU_pos
  rw [Nat.mul_comm] at h1
  revert h1 h2
  generalize magM (rungOf b) / UU * UU = x
  generalize magM (rungOf b) % UU = y
  intro h1 h2
  omega

theorem dtext_whole (b : Nat) (hb : b < 18446744073709551616) (hc : classB b = 2 ∨ classB b = 5) (hw : wholeB b = true) (w : World) :
    Calls Tryd.prog 9 #[.float .f64 b] w fun en w' => en = .returned (.string ⟨(itoa (nOf b)).toArray⟩) ∧ Below w.heap.size w w' := by
  have HK := Lib.hid (dclass_any b hb)
  have hfin := class_fin (show classB b = 2 ∨ classB b = 4 ∨ classB b = 5 by omega)
  obtain ⟨n0, n1, n2, n3⟩ := nOf_range hw
  have hcv := run_conv_int b hfin n2
  have hcw : ∀ w : World, (convert 3 23 (.int .i64 (nOf b))).run Tryd.prog w = .ok (.float .f64 (intF (nOf b))) w := fun w => run_convert_int_float w 3 23 .i64 .f64 _ (by kernel_rfl) Tryd.underlying23
  have ht : (FloatKind.f64.format.order (intF (nOf b)) b == some .eq) = true := (dwhole_test b hfin n2).trans n3
  have HD := Lib.hid (fun w => rdigits_any (nOf b) (by omega) (by omega) w)
  have k0 : (((classB b : Nat) : Int) == 0) = false := by rcases hc with h | h <;> rw [h] <;> rfl
  have k1 : (((classB b : Nat) : Int) == 1) = false := by rcases hc with h | h <;> rw [h] <;> rfl
  have k3 : (((classB b : Nat) : Int) == 3) = false := by rcases hc with h | h <;> rw [h] <;> rfl
  have k4 : (((classB b : Nat) : Int) == 4) = false := by rcases hc with h | h <;> rw [h] <;> rfl
  have k6 : (((classB b : Nat) : Int) == 6) = false := by rcases hc with h | h <;> rw [h] <;> rfl
  have g : (FloatKind.f64.format.order b 14054727237768577016 == some .gt || FloatKind.f64.format.order b 14054727237768577016 == some .eq) = true ∧ (FloatKind.f64.format.order b 4831355200913801208 == some .lt || FloatKind.f64.format.order b 4831355200913801208 == some .eq) = true := by
    rcases whole_cases b hfin with ⟨_, h⟩ | ⟨_, _, h⟩ | ⟨h1, h2, _, _⟩
    · rw [hw] at h; cases h
    · rw [hw] at h; cases h
    · exact ⟨h1, h2⟩
  obtain ⟨g1, g2⟩ := g
  clear hc hw hfin n0 n1 n2 n3 hb
  revert HK hcv hcw ht HD k0 k1 k3 k4 k6
  generalize intF (nOf b) = x
  generalize nOf b = n
  generalize ((classB b : Nat) : Int) = c
  intro HK hcv hcw ht HD k0 k1 k3 k4 k6
  go_enter Tryd.func9, Tryd.ntmps9
  go_wp2_with fail
  refine (HK.out _).mono ?_
  rintro en w1 ⟨rfl, rfl⟩
  go_wp2_with fail
  refine (HD.out _).mono ?_
  rintro en w1 ⟨rfl, hbl⟩
  go_wp2
  go_ret
  exact ⟨rfl, hbl⟩
end Go.Proofs.YtidjnfjpdnjogaaDoor

/-
  The document's text of a number that is not written by digits; its text of every number. Conditions: none.
-/
namespace Go.Proofs.YtidjnfjpdnjogaaDoor
open Go.RowKit Go.Lib

theorem dsign_mask (b k : Nat) (hb : b < 18446744073709551616) (hk : k < 16) : bits .and .u64 ((b : Int) / 2 ^ (60 - 4 * k)) 15 = ((b / 16 ^ (15 - k) % 16 : Nat) : Int) := by
  have := sign_mask b k hb
  rw [show 4 * (15 - k) = 60 - 4 * k by omega] at this
  exact this

theorem sign_slice (d : Nat) (hd : d < 16) (w : World) :
    (Instr.slice 9 (.string ⟨#[48, 49, 50, 51, 52, 53, 54, 55, 56, 57, 97, 98, 99, 100, 101, 102]⟩) (some (.int .i64 d)) (some (.int .i64 ((d : Int) + 1))) none).run Tryd.prog w = .ok (.string ⟨#[hexSign d]⟩) w := by
  have ht : Tryd.prog.underlying 9 = some .string := by kernel_rfl
  rw [run_slice_string w 9 _ .i64 .i64 _ _ ht (by omega) (by omega) (by show (d : Int) + 1 ≤ ((16 : Nat) : Int); omega)]
  have key : ∀ i : Fin 16, ((⟨#[48, 49, 50, 51, 52, 53, 54, 55, 56, 57, 97, 98, 99, 100, 101, 102]⟩ : ByteArray).extract i.val (i.val + 1)).data.toList = [hexSign i.val] := by decide +kernel
  have e := of_list (key ⟨d, hd⟩)
  rw [show ((d : Int)).toNat = d by omega, show ((d : Int) + 1).toNat = d + 1 by omega]
  exact congrArg (fun x => Result.ok (Value.string x) w) e

theorem dtext_hex (b : Nat) (hb : b < 18446744073709551616) (hf : oneW b = b) (hc : classB b = 2 ∨ classB b = 5) (hw : wholeB b = false) (w : World) :
    Calls Tryd.prog 9 #[.float .f64 b] w fun en w' => en = .returned (.string ⟨(120 :: hexDig b).toArray⟩) ∧ w = w' := by
  have HK := Lib.hid (dclass_any b hb)
  have HB := Lib.hid (dbits_any b)
  rw [hf] at HB
  have hfin := class_fin (show classB b = 2 ∨ classB b = 4 ∨ classB b = 5 by omega)
  have k0 : (((classB b : Nat) : Int) == 0) = false := by rcases hc with h | h <;> rw [h] <;> rfl
  have k1 : (((classB b : Nat) : Int) == 1) = false := by rcases hc with h | h <;> rw [h] <;> rfl
  have k3 : (((classB b : Nat) : Int) == 3) = false := by rcases hc with h | h <;> rw [h] <;> rfl
  have k4 : (((classB b : Nat) : Int) == 4) = false := by rcases hc with h | h <;> rw [h] <;> rfl
  have k6 : (((classB b : Nat) : Int) == 6) = false := by rcases hc with h | h <;> rw [h] <;> rfl
  have g : (FloatKind.f64.format.order b 14054727237768577016 == some .gt || FloatKind.f64.format.order b 14054727237768577016 == some .eq) = false ∨
      ((FloatKind.f64.format.order b 14054727237768577016 == some .gt || FloatKind.f64.format.order b 14054727237768577016 == some .eq) = true ∧ (FloatKind.f64.format.order b 4831355200913801208 == some .lt || FloatKind.f64.format.order b 4831355200913801208 == some .eq) = false) ∨
      ((FloatKind.f64.format.order b 14054727237768577016 == some .gt || FloatKind.f64.format.order b 14054727237768577016 == some .eq) = true ∧ (FloatKind.f64.format.order b 4831355200913801208 == some .lt || FloatKind.f64.format.order b 4831355200913801208 == some .eq) = true ∧
        ∃ n x, (∀ w : World, (convert 23 3 (.float .f64 b)).run Tryd.prog w = .ok (.int .i64 n) w) ∧ (∀ w : World, (convert 3 23 (.int .i64 n)).run Tryd.prog w = .ok (.float .f64 x) w) ∧ (FloatKind.f64.format.order x b == some .eq) = false) := by
    rcases whole_cases b hfin with ⟨h1, _⟩ | ⟨h1, h2, _⟩ | ⟨h1, h2, h3, h4⟩
    · exact Or.inl h1
    · exact Or.inr (Or.inl ⟨h1, h2⟩)
    · refine Or.inr (Or.inr ⟨h1, h2, nOf b, intF (nOf b), run_conv_int b hfin h3, fun w => run_convert_int_float w 3 23 .i64 .f64 _ (by kernel_rfl) Tryd.underlying23, ?_⟩)
      exact (dwhole_test b hfin h3).trans (h4.symm.trans hw)
  clear hf hc hw hfin
  rcases g with g1 | ⟨g1, g2⟩ | ⟨g1, g2, n, x, g3, g4, g5⟩
  all_goals
    go_enter Tryd.func9, Tryd.ntmps9
    go_wp2_with fail
    refine (HK.out _).mono ?_
    rintro en w1 ⟨rfl, rfl⟩
    go_wp2_with fail
    refine (HB.out _).mono ?_
    rintro en w1 ⟨rfl, rfl⟩
    go_wp2_with fail
    go_loopg [4, 5] 16 (fun g s i wr => ∃ k : Nat, g = 16 - k ∧ k ≤ 16 ∧ i = .int .i64 (60 - 4 * (k : Int)) ∧ s = .string ⟨(120 :: (hexDig b).take k).toArray⟩ ∧ wr = w)
    case atStart => exact ⟨0, by omega, Nat.zero_le _, rfl, rfl, rfl⟩
    case round =>
      obtain ⟨k, hg, hk, rfl, rfl, rfl⟩ := hrel
      have HG := Lib.hid hg; clear hg
      by_cases hlt : k < 16
      · have hi : (0 : Int) ≤ 60 - 4 * (k : Int) := by omega
        have hm := dsign_mask b k hb hlt
        have hnx := Lib.hid (hexDig_next b k hlt)
        obtain ⟨d, hd⟩ : ∃ d : Nat, d = b / 16 ^ (15 - k) % 16 := ⟨_, rfl⟩
        have hd16 : d < 16 := by rw [hd]; exact Nat.mod_lt _ (by decide)
        rw [← hd] at hm hnx
        clear hd
        have hsl := sign_slice d hd16
        have hw1 : IntKind.i64.wrap ((d : Int) + 1) = (d : Int) + 1 := IntWalk.i64_in _ (by omega)
        have hw2 : IntKind.i64.wrap (60 - 4 * (k : Int) - 4) = 60 - 4 * (k : Int) - 4 := IntWalk.i64_in _ (by omega)
        have hw3 : IntKind.i64.wrap (d : Int) = (d : Int) := IntWalk.i64_in _ (by omega)
        go_wp2_with fail
        go_roundg (16 - (k + 1))
        case measure => rw [HG.out]; omega
        case rel =>
          refine ⟨k + 1, rfl, hlt, by congr 1; omega, ?_, rfl⟩
          rw [hnx.out]
          first
            | (congr 1; done)
            | (congr 1; apply ByteArray.ext; simp [ByteArray.data_append])
      · obtain rfl : k = 16 := by omega
        have ht : (hexDig b).take 16 = hexDig b := List.take_of_length_le (by rw [hexDig_length]; exact Nat.le_refl _)
        rw [ht]
        clear ht
        go_wp2
        go_ret
        exact ⟨rfl, rfl⟩

theorem dtext_any (b : Nat) (hb : b < 18446744073709551616) (w : World) :
    Calls Tryd.prog 9 #[.float .f64 b] w fun en w' => en = .returned (.string ⟨(textB b).toArray⟩) ∧ Below w.heap.size w w' := by
  have low : ∀ (c : Nat) (l : ByteArray), classB b = c → ((c = 0 ∧ l = ⟨#[110, 97, 110]⟩) ∨ (c = 1 ∧ l = ⟨#[45, 105, 110, 102]⟩) ∨ (c = 6 ∧ l = ⟨#[105, 110, 102]⟩) ∨ (c = 3 ∧ l = ⟨#[45, 48]⟩) ∨ (c = 4 ∧ l = ⟨#[48]⟩)) → l = ⟨(textB b).toArray⟩ →
      Calls Tryd.prog 9 #[.float .f64 b] w fun en w' => en = .returned (.string ⟨(textB b).toArray⟩) ∧ Below w.heap.size w w' := fun c l hc hl he => by
    refine (dtext_c b hb c l hc hl w).mono ?_
    rintro en w' ⟨rfl, rfl⟩
    exact ⟨by rw [he], Below.refl _ _⟩
  rcases class_vals b with h | h | h | h | h
  · exact low 0 _ h (Or.inl ⟨rfl, rfl⟩) (by rw [textB, if_pos h])
  · exact low 1 _ h (Or.inr (Or.inl ⟨rfl, rfl⟩)) (by rw [textB, if_neg (by omega), if_pos h])
  · exact low 6 _ h (Or.inr (Or.inr (Or.inl ⟨rfl, rfl⟩))) (by rw [textB, if_neg (by omega), if_neg (by omega), if_pos h])
  · exact low 3 _ h (Or.inr (Or.inr (Or.inr (Or.inl ⟨rfl, rfl⟩)))) (by rw [textB, if_neg (by omega), if_neg (by omega), if_neg (by omega), if_pos h])
  · have e1 : textB b = if wholeB b then itoa (nOf b) else 120 :: hexDig b := by
      rw [textB, if_neg (by omega), if_neg (by omega), if_neg (by omega), if_neg (by omega)]
    by_cases h4 : classB b = 4
    · have : nOf b = 0 := by
        obtain ⟨_, r0, s0⟩ := whole_zero h4
        unfold nOf qOf
        rw [r0, s0]
        show ((magM 0 / UU : Nat) : Int) = 0
        rw [show magM 0 = 0 from rfl, Nat.zero_div]; rfl
      refine low 4 _ h4 (Or.inr (Or.inr (Or.inr (Or.inr ⟨rfl, rfl⟩)))) ?_
      rw [e1, (whole_zero h4).1, this, if_pos rfl]
      decide +kernel
    · have h2 : classB b = 2 ∨ classB b = 5 := by omega
      rw [e1]
      cases hw : wholeB b
      · have hfin := class_fin h
        refine (dtext_hex b hb (oneW_not (nanW_fine (by unfold fine; omega))) h2 hw w).mono ?_
        rintro en w' ⟨rfl, rfl⟩
        exact ⟨rfl, Below.refl _ _⟩
      · exact dtext_whole b hb h2 hw w
end Go.Proofs.YtidjnfjpdnjogaaDoor

/-
  The document's Parse: every text as a number. Conditions: none.
-/
namespace Go.Proofs.YtidjnfjpdnjogaaDoor
open Go.RowKit Go.Lib

/-- A sign of the sixteen, by its byte. -/
theorem hex_dig (c : UInt8) : (48 ≤ c.toNat ∧ c.toNat ≤ 57 → hexAt c = (c.toNat : Int) - 48) ∧ (97 ≤ c.toNat ∧ c.toNat ≤ 102 → hexAt c = (c.toNat : Int) - 87) ∧ (¬ (48 ≤ c.toNat ∧ c.toNat ≤ 57) ∧ ¬ (97 ≤ c.toNat ∧ c.toNat ≤ 102) → hexAt c < 0) := by
  revert c
  exact all_u8 (p := fun c => (48 ≤ c.toNat ∧ c.toNat ≤ 57 → hexAt c = (c.toNat : Int) - 48) ∧ (97 ≤ c.toNat ∧ c.toNat ≤ 102 → hexAt c = (c.toNat : Int) - 87) ∧ (¬ (48 ≤ c.toNat ∧ c.toNat ≤ 57) ∧ ¬ (97 ≤ c.toNat ∧ c.toNat ≤ 102) → hexAt c < 0)) (by decide +kernel)

/-- Digits behind a sign: how many bytes. -/
def numLen (l : List UInt8) : Nat := (bodyOf l).length
def docDig (l : List UInt8) : Nat × Int := if (numberOf l).2 ≠ 0 ∨ 15 < numLen l then (0, 6) else (intF (numberOf l).1, 0)

theorem dparse_c (s : ByteArray) (r : Nat) (h : (s = ⟨#[110, 97, 110]⟩ ∧ r = 9221120237041090560) ∨ (s = ⟨#[105, 110, 102]⟩ ∧ r = 9218868437227405312) ∨ (s = ⟨#[45, 105, 110, 102]⟩ ∧ r = 18442240474082181120) ∨ (s = ⟨#[45, 48]⟩ ∧ r = 9223372036854775808)) (w : World) :
    Calls Tryd.prog 39 #[.string s] w fun en w' => en = .returned (tellsF (r, 0)) ∧ w = w' := by
  have H := Lib.hid (dof_any r)
  have hr : oneW r = r := by
    rcases h with ⟨_, rfl⟩ | ⟨_, rfl⟩ | ⟨_, rfl⟩ | ⟨_, rfl⟩ <;> decide +kernel
  rw [hr] at H
  clear hr
  rcases h with ⟨rfl, rfl⟩ | ⟨rfl, rfl⟩ | ⟨rfl, rfl⟩ | ⟨rfl, rfl⟩
  all_goals
    go_enter Tryd.func39, Tryd.ntmps39
    go_wp2_with fail
    refine (H.out _).mono ?_
    rintro en w1 ⟨rfl, rfl⟩
    go_wp2
    exact bodyPost_ret (v := tellsF (_, 0)) (by simp [results, Tryd.results39, go_sem, tellsF]) rfl ⟨rfl, rfl⟩

theorem dparse_zero (w : World) : Calls Tryd.prog 39 #[.string ⟨#[48]⟩] w fun en w' => en = .returned (tellsF (0, 0)) ∧ w = w' := by
  go_enter Tryd.func39, Tryd.ntmps39
  go_wp2
  exact bodyPost_ret (v := tellsF (0, 0)) (by simp [results, Tryd.results39, go_sem, tellsF]) rfl ⟨rfl, rfl⟩

structure PlainD (s : ByteArray) : Prop where
  f1 : (s.toList == [110, 97, 110]) = false
  f2 : (s.toList == [105, 110, 102]) = false
  f3 : (s.toList == [45, 105, 110, 102]) = false
  f4 : (s.toList == [48]) = false
  f5 : (s.toList == [45, 48]) = false

theorem dparse_num (s : ByteArray) (hp : PlainD s) (hx : ((s.size : Int) == 17) = false ∨ (((s.size : Int) == 17) = true ∧ ∃ h : 0 < s.size, ((s[0].toNat : Int) == 120) = false)) (hs : s.size ≤ 1000000)
    (n : Int) (hm : (¬ (0 : Int) < (s.size : Int) ∧ n = s.size) ∨ (∃ h : 0 < s.size, ((s[0].toNat : Int) == 45) = true ∧ n = (s.size : Int) - 1) ∨ (∃ h : 0 < s.size, ((s[0].toNat : Int) == 45) = false ∧ n = s.size)) (w : World) :
    Calls Tryd.prog 39 #[.string s] w fun en w' => en = .returned (tellsF (if (numberOf s.data.toList).2 ≠ 0 ∨ 15 < n then (0, 6) else (intF (numberOf s.data.toList).1, 0))) ∧ w = w' := by
  obtain ⟨f1, f2, f3, f4, f5⟩ := hp
  have HN := Lib.hid (rnumber_any s)
  revert HN
  generalize numberOf s.data.toList = r
  intro HN
  obtain ⟨v, e⟩ := r
  have hcv : ∀ w : World, (convert 3 23 (.int .i64 v)).run Tryd.prog w = .ok (.float .f64 (intF v)) w := fun w => run_convert_int_float w 3 23 .i64 .f64 v (by kernel_rfl) Tryd.underlying23
  revert hcv
  generalize intF v = x
  intro hcv
  unfold tells at HN
  have hne : (if e ≠ 0 ∨ 15 < n then (0, 6) else (x, 0)) = (if (e != 0) = true ∨ 15 < n then ((0 : Nat), (6 : Int)) else (x, 0)) := by simp
  simp only
  rw [hne]
  clear hne
  have hE : (e != 0) = true ∨ ((e != 0) = false ∧ (15 : Int) < n) ∨ ((e != 0) = false ∧ ¬ (15 : Int) < n) := by
    cases h : (e != 0)
    · by_cases h2 : 15 < n
      · exact Or.inr (Or.inl ⟨rfl, h2⟩)
      · exact Or.inr (Or.inr ⟨rfl, h2⟩)
    · exact Or.inl rfl
  have hw1 : IntKind.i64.wrap ((s.size : Int) - 1) = (s.size : Int) - 1 := IntWalk.i64_in _ (by omega)
  have hpos : ∀ h : 0 < s.size, (0 : Int) < (s.size : Int) := fun h => by omega
  clear hs
  have hcase : (((s.size : Int) == 17) = false ∧ ¬ (0 : Int) < (s.size : Int) ∧ n = s.size) ∨ (((s.size : Int) == 17) = false ∧ ∃ h : 0 < s.size, (0 : Int) < (s.size : Int) ∧ ((s[0].toNat : Int) == 45) = true ∧ n = (s.size : Int) - 1) ∨
      (((s.size : Int) == 17) = false ∧ ∃ h : 0 < s.size, (0 : Int) < (s.size : Int) ∧ ((s[0].toNat : Int) == 45) = false ∧ n = s.size) ∨
      (((s.size : Int) == 17) = true ∧ ∃ h : 0 < s.size, (0 : Int) < (s.size : Int) ∧ ((s[0].toNat : Int) == 120) = false ∧ ((s[0].toNat : Int) == 45) = true ∧ n = (s.size : Int) - 1) ∨
      (((s.size : Int) == 17) = true ∧ ∃ h : 0 < s.size, (0 : Int) < (s.size : Int) ∧ ((s[0].toNat : Int) == 120) = false ∧ ((s[0].toNat : Int) == 45) = false ∧ n = s.size) := by
    rcases hx with hx | ⟨hx, hz, hx2⟩
    · rcases hm with ⟨h1, h2⟩ | ⟨h0, h1, h2⟩ | ⟨h0, h1, h2⟩
      · exact Or.inl ⟨hx, h1, h2⟩
      · exact Or.inr (Or.inl ⟨hx, h0, hpos h0, h1, h2⟩)
      · exact Or.inr (Or.inr (Or.inl ⟨hx, h0, hpos h0, h1, h2⟩))
    · rcases hm with ⟨h1, h2⟩ | ⟨h0, h1, h2⟩ | ⟨h0, h1, h2⟩
      · exact absurd (hpos hz) h1
      · exact Or.inr (Or.inr (Or.inr (Or.inl ⟨hx, h0, hpos h0, hx2, h1, h2⟩)))
      · exact Or.inr (Or.inr (Or.inr (Or.inr ⟨hx, h0, hpos h0, hx2, h1, h2⟩)))
  clear hx hm hpos
  rcases hcase with ⟨hx, hm, rfl⟩ | ⟨hx, h0, hp, hm, rfl⟩ | ⟨hx, h0, hp, hm, rfl⟩ | ⟨hx, h0, hp, hx2, hm, rfl⟩ | ⟨hx, h0, hp, hx2, hm, rfl⟩
  all_goals
    rcases hE with hE | ⟨hE, h15⟩ | ⟨hE, h15⟩
  all_goals
    first
      | rw [if_pos (Or.inl hE)]
      | rw [if_pos (Or.inr h15)]
      | rw [if_neg (by rintro (h | h); · rw [hE] at h; cases h
                       · exact h15 h)]
  all_goals
    first
      | (exfalso; omega)
      | (go_enter Tryd.func39, Tryd.ntmps39
         go_wp2_with fail
         refine (HN.out _).mono ?_
         rintro en w1 ⟨rfl, rfl⟩
         go_wp2
         exact bodyPost_ret (v := tellsF _) (by simp [results, Tryd.results39, go_sem, tellsF]) rfl ⟨rfl, rfl⟩)

/-- A round of the loop over sixteen signs. -/
theorem hex_in (c : UInt8) (h : 0 ≤ hexAt c) : ((48 : Int) ≤ (c.toNat : Int) ∧ (c.toNat : Int) ≤ 57 ∧ (hexVal c : Int) = (c.toNat : Int) - 48) ∨ ((48 : Int) ≤ (c.toNat : Int) ∧ ¬ (c.toNat : Int) ≤ 57 ∧ (97 : Int) ≤ (c.toNat : Int) ∧ (c.toNat : Int) ≤ 102 ∧ (hexVal c : Int) = (c.toNat : Int) - 87) := by
  obtain ⟨h1, h2, h3⟩ := hex_dig c
  unfold hexVal
  by_cases a : 48 ≤ c.toNat ∧ c.toNat ≤ 57
  · have := h1 a
    exact Or.inl ⟨by omega, by omega, by omega⟩
  · by_cases b : 97 ≤ c.toNat ∧ c.toNat ≤ 102
    · have := h2 b
      exact Or.inr ⟨by omega, by omega, by omega, by omega, by omega⟩
    · have := h3 ⟨a, b⟩
      omega
theorem hex_out (c : UInt8) (h : ¬ 0 ≤ hexAt c) : (¬ (48 : Int) ≤ (c.toNat : Int) ∧ ¬ (97 : Int) ≤ (c.toNat : Int)) ∨ ((48 : Int) ≤ (c.toNat : Int) ∧ ¬ (c.toNat : Int) ≤ 57 ∧ ¬ (97 : Int) ≤ (c.toNat : Int)) ∨ ((48 : Int) ≤ (c.toNat : Int) ∧ ¬ (c.toNat : Int) ≤ 57 ∧ (97 : Int) ≤ (c.toNat : Int) ∧ ¬ (c.toNat : Int) ≤ 102) := by
  obtain ⟨h1, h2, h3⟩ := hex_dig c
  by_cases a : 48 ≤ c.toNat ∧ c.toNat ≤ 57
  · have := h1 a
    omega
  · by_cases b : 97 ≤ c.toNat ∧ c.toNat ≤ 102
    · have := h2 b
      omega
    · omega

theorem drop_step (s : ByteArray) (j : Nat) (h1 : 1 ≤ j) (h : j < s.size) : (s.data.toList.drop 1).take j = (s.data.toList.drop 1).take (j - 1) ++ [s[j]] := by
  obtain ⟨k, rfl⟩ : ∃ k, j = k + 1 := ⟨j - 1, by omega⟩
  have hk : k < (s.data.toList.drop 1).length := by simp; omega
  rw [List.take_succ_eq_append_getElem hk]
  simp [ByteArray.getElem_eq_getElem_data]
theorem hexStep {l : List UInt8} (hl : l.length ≤ 15) : (hexFold l : Int) * 16 < 18446744073709551616 - 15 := by
  have h1 := hexFold_lt l
  have h2 : 16 ^ l.length ≤ 16 ^ 15 := Nat.pow_le_pow_right (by decide) hl
  have h3 : (16 : Nat) ^ 15 = 1152921504606846976 := by decide
  omega

theorem dparse_hex (s : ByteArray) (hp : PlainD s) (h17 : s.size = 17) (hx : ∃ h : 0 < s.size, ((s[0].toNat : Int) == 120) = true) (w : World) :
    Calls Tryd.prog 39 #[.string s] w fun en w' => en = .returned (tellsF (hexTell (s.data.toList.drop 1))) ∧ w = w' := by
  obtain ⟨f1, f2, f3, f4, f5⟩ := hp
  obtain ⟨h0, hx⟩ := hx
  have hz : ((s.size : Int) == 17) = true := by rw [h17]; rfl
  have hz0 : (0 : Int) < (s.size : Int) := by omega
  have hlen : (s.data.toList.drop 1).length = 16 := by
    rw [List.length_drop, show s.data.toList.length = s.size by simp, h17]
  have hst := drop_step s
  revert hlen hst
  generalize s.data.toList.drop 1 = D
  intro hlen hst
  have HL := Lib.hid (And.intro hlen (And.intro h17 hst)); clear hlen h17 hst
  go_enter Tryd.func39, Tryd.ntmps39
  go_wp2_with fail
  go_loopg [4, 5] 17 (fun g v i wr => ∃ j : Nat, g = 18 - j ∧ 1 ≤ j ∧ j ≤ 17 ∧ v = .int .u64 (hexFold (D.take (j - 1)) : Nat) ∧ i = .int .i64 j ∧ (D.take (j - 1)).all hexOk = true ∧ wr = w)
  case atStart => exact ⟨1, by omega, by omega, by omega, rfl, rfl, rfl, rfl⟩
  case round =>
    obtain ⟨j, hg, hj1, hj, rfl, rfl, ha, rfl⟩ := hrel
    have HG := Lib.hid hg; clear hg
    have hj0 : (0 : Int) ≤ (j : Int) := by omega
    by_cases hlt : j < 17
    · have hjs : j < s.size := by have := HL.out.2.1; omega
      have hstep := HL.out.2.2 j hj1 hjs
      have hlow := hexStep (l := D.take (j - 1)) (by rw [List.length_take, HL.out.1]; omega)
      have hbyte := s[j].toNat_lt
      have hwj : IntKind.i64.wrap ((j : Int) + 1) = (j : Int) + 1 := IntWalk.i64_in _ (by omega)
      have hj17 : (j : Int) < 17 := by omega
      by_cases hok : 0 ≤ hexAt s[j]
      · have hall : (D.take j).all hexOk = true := by
          rw [hstep, List.all_append, ha]
          simp [hexOk, hok]
        have hfold : (hexFold (D.take j) : Int) = (hexFold (D.take (j - 1)) : Int) * 16 + (hexVal s[j] : Int) := by
          rw [hstep, hexFold_snoc]; omega
        have HS := Lib.hid (And.intro hall hfold)
        have hcase := hex_in s[j] hok
        clear hstep hall hfold ha hok
        revert hlow HS
        generalize hexFold (D.take (j - 1)) = F
        intro hlow HS
        have hw1 : IntKind.u64.wrap ((F : Int) * 16) = (F : Int) * 16 := by rw [IntKind.wrap_u64]; omega
        rcases hcase with ⟨c1, c2, c3⟩ | ⟨c1, c2, c3, c4, c5⟩
        · have hw2 : IntKind.u8.wrap ((s[j].toNat : Int) - 48) = (s[j].toNat : Int) - 48 := IntWalk.u8_in _ (by omega)
          have hw3 : IntKind.u64.wrap ((s[j].toNat : Int) - 48) = (s[j].toNat : Int) - 48 := by rw [IntKind.wrap_u64]; omega
          have hw4 : IntKind.u64.wrap ((F : Int) * 16 + ((s[j].toNat : Int) - 48)) = (F : Int) * 16 + ((s[j].toNat : Int) - 48) := by rw [IntKind.wrap_u64]; omega
          have C3 := Lib.hid c3; clear c3
          go_wp2
          go_roundg (18 - (j + 1))
          case measure => rw [HG.out]; omega
          case rel => exact ⟨j + 1, rfl, by omega, by omega, by rw [show j + 1 - 1 = j from rfl, HS.out.2, C3.out], rfl, HS.out.1, rfl⟩
        · have hw2 : IntKind.u8.wrap ((s[j].toNat : Int) - 97) = (s[j].toNat : Int) - 97 := IntWalk.u8_in _ (by omega)
          have hw3 : IntKind.u64.wrap ((s[j].toNat : Int) - 97) = (s[j].toNat : Int) - 97 := by rw [IntKind.wrap_u64]; omega
          have hw4 : IntKind.u64.wrap ((F : Int) * 16 + ((s[j].toNat : Int) - 97)) = (F : Int) * 16 + ((s[j].toNat : Int) - 97) := by rw [IntKind.wrap_u64]; omega
          have hw5 : IntKind.u64.wrap ((F : Int) * 16 + ((s[j].toNat : Int) - 97) + 10) = (F : Int) * 16 + ((s[j].toNat : Int) - 97) + 10 := by rw [IntKind.wrap_u64]; omega
          have C3 := Lib.hid c5; clear c5
          go_wp2
          go_roundg (18 - (j + 1))
          case measure => rw [HG.out]; omega
          case rel => exact ⟨j + 1, rfl, by omega, by omega, by rw [show j + 1 - 1 = j from rfl, HS.out.2, C3.out]; congr 1; omega, rfl, HS.out.1, rfl⟩
      · have hall : D.all hexOk = false := by
          rw [List.all_eq_false]
          refine ⟨s[j], ?_, by simp [hexOk]; omega⟩
          have : s[j] ∈ D.take j := by rw [hstep]; simp
          exact List.mem_of_mem_take this
        have ht : hexTell D = (0, 6) := by rw [hexTell, hall]; rfl
        have HT := Lib.hid ht
        have hcase := hex_out s[j] hok
        clear hstep hall ht ha hok hlow
        rcases hcase with ⟨c1, c2⟩ | ⟨c1, c2, c3⟩ | ⟨c1, c2, c3, c4⟩
        all_goals
          go_wp2
          exact bodyPost_ret (v := tellsF (0, 6)) (by simp [results, Tryd.results39, go_sem, tellsF]) rfl ⟨by rw [HT.out], rfl⟩
    · obtain rfl : j = 17 := by omega
      have hD : D.take (17 - 1) = D := List.take_of_length_le (by rw [HL.out.1]; decide)
      rw [hD] at ha ⊢
      have ht : hexTell D = (oneW (hexFold D), 0) := by
        rw [hexTell, ha, HL.out.1]; rfl
      have HT := Lib.hid ht
      clear ht ha hD
      revert HT
      generalize hexFold D = F
      intro HT
      go_wp2_with fail
      refine (dof_any _ _).mono ?_
      rintro en w1 ⟨rfl, rfl⟩
      go_wp2
      exact bodyPost_ret (v := tellsF (oneW F, 0)) (by simp [results, Tryd.results39, go_sem, tellsF]) rfl ⟨by rw [HT.out], rfl⟩
end Go.Proofs.YtidjnfjpdnjogaaDoor

/-
  The document's order of floats: rank, Less, Canon, Least, Most. Conditions: none.
-/
namespace Go.Proofs.YtidjnfjpdnjogaaDoor
open Go.RowKit Go.Lib

/-- A number's place in the one order, as the document reckons it. -/
def drankB (b : Nat) : Nat := if 9218868437227405312 < rungOf b then 18446744073709551615 else if negOf b then 18446744073709551615 - b else b + 9223372036854775808
theorem drank_less (a b : Nat) (ha : a < 18446744073709551616) (hb : b < 18446744073709551616) : decide ((drankB a : Int) < (drankB b : Int)) = lessB a b := by
  rw [less_ord]
  have key : ∀ x : Nat, x < 18446744073709551616 → (9218868437227405312 < rungOf x ∧ drankB x = 18446744073709551615 ∧ ordK x = 100000000000000000000) ∨ (¬ 9218868437227405312 < rungOf x ∧ (drankB x : Int) = ordK x + 9223372036854775808 ∧ -9218868437227405313 ≤ ordK x ∧ ordK x ≤ 9218868437227405312) := by
    intro x hx
    by_cases h : 9218868437227405312 < rungOf x
    · exact Or.inl ⟨h, by unfold drankB; rw [if_pos h], by unfold ordK; rw [if_pos h]⟩
    · right
      refine ⟨h, ?_⟩
      unfold drankB ordK
      rw [if_neg h, if_neg h]
      cases hn : negOf x
      · simp only [Bool.false_eq_true, if_false]
        unfold negOf at hn
        have : x / 9223372036854775808 % 2 ≠ 1 := by simpa using hn
        unfold rungOf at h ⊢
        omega
      · simp only [if_true]
        unfold negOf at hn
        have : x / 9223372036854775808 % 2 = 1 := by simpa using hn
        unfold rungOf at h ⊢
        omega
  rw [decide_eq_decide]
  rcases key a ha with ⟨h1, h2, h3⟩ | ⟨h1, h2, h3, h4⟩ <;> rcases key b hb with ⟨k1, k2, k3⟩ | ⟨k1, k2, k3, k4⟩ <;> rw [h2, k2] <;> try (rw [h3, k3])
  all_goals omega

theorem or_top (b : Nat) (h : b < 9223372036854775808) : bits .or .u64 (b : Int) 9223372036854775808 = ((b + 9223372036854775808 : Nat) : Int) := by
  rw [show (9223372036854775808 : Int) = ((9223372036854775808 : Nat) : Int) from rfl, bits_or_u64_nat b _ (by omega) (by decide)]
  rw [Nat.or_comm, show (9223372036854775808 : Nat) = 2 ^ 63 * 1 from rfl, ← Nat.two_pow_add_eq_or_of_lt (i := 63) h 1]
  congr 1
  omega

theorem drank_any (b : Nat) (hb : b < 18446744073709551616) (w : World) : Calls Tryd.prog 31 #[.float .f64 b] w fun en w' => en = .returned (.int .u64 (drankB b : Nat)) ∧ w = w' := by
  have HB := Lib.hid (dbits_any b)
  rcases Classical.em (fine b) with hf | hf
  · have hn : (FloatKind.f64.format.order b b != some .eq) = false := nanW_fine hf
    rw [oneW_not hn] at HB
    unfold fine at hf
    have hsh : ((b : Int) / 9223372036854775808 == 1) = negOf b := neg_shift b hb
    cases hs : negOf b
    · have hlt : b < 9223372036854775808 := by
        unfold negOf at hs
        have : b / 9223372036854775808 % 2 ≠ 1 := by simpa using hs
        omega
      have e1 : drankB b = b + 9223372036854775808 := by unfold drankB; rw [if_neg (by omega), if_neg (by rw [hs]; decide)]
      have HE := Lib.hid e1
      have hor := or_top b hlt
      rw [hs] at hsh
      clear hs hlt e1 hf
      go_enter Tryd.func31, Tryd.ntmps31
      go_wp2_with fail
      refine (HB.out _).mono ?_
      rintro en w1 ⟨rfl, rfl⟩
      go_wp2
      go_ret
      exact ⟨congrArg (fun z => Ending.returned (.int .u64 z)) (by first | exact HE.out.symm | (rw [HE.out]; omega)), rfl⟩
    · have e1 : (drankB b : Int) = 18446744073709551615 - (b : Int) := by unfold drankB; rw [if_neg (by omega), if_pos hs]; omega
      have HE := Lib.hid e1
      have hw : IntKind.u64.wrap (18446744073709551615 - (b : Int)) = 18446744073709551615 - (b : Int) := IntWalk.u64_in _ (by omega)
      rw [hs] at hsh
      clear hs e1 hf
      go_enter Tryd.func31, Tryd.ntmps31
      go_wp2_with fail
      refine (HB.out _).mono ?_
      rintro en w1 ⟨rfl, rfl⟩
      go_wp2
      go_ret
      exact ⟨congrArg (fun z => Ending.returned (.int .u64 z)) (by first | exact HE.out.symm | (rw [HE.out]; omega)), rfl⟩
  · have hn : (FloatKind.f64.format.order b b != some .eq) = true := nanW_not hf
    have e1 : drankB b = 18446744073709551615 := by unfold fine at hf; unfold drankB; rw [if_pos (by omega)]
    rw [e1]
    clear e1 hf
    go_enter Tryd.func31, Tryd.ntmps31
    go_wp2_with fail
    refine (HB.out _).mono ?_
    rintro en w1 ⟨rfl, rfl⟩
    go_wp2
    go_ret
    exact ⟨rfl, rfl⟩

theorem dless_any (a b : Nat) (ha : a < 18446744073709551616) (hb : b < 18446744073709551616) (w : World) : Calls Tryd.prog 11 #[.float .f64 a, .float .f64 b] w fun en w' => en = .returned (.bool (lessB a b)) ∧ w = w' := by
  have H1 := Lib.hid (drank_any a ha)
  have H2 := Lib.hid (drank_any b hb)
  have HD := Lib.hid (drank_less a b ha hb)
  clear ha hb
  go_enter Tryd.func11, Tryd.ntmps11
  go_wp2_with fail
  refine (H1.out _).mono ?_
  rintro en w1 ⟨rfl, rfl⟩
  go_wp2_with fail
  refine (H2.out _).mono ?_
  rintro en w1 ⟨rfl, rfl⟩
  go_wp2
  go_ret
  exact ⟨congrArg (fun z => Ending.returned (.bool z)) (by rw [← HD.out]; simp), rfl⟩

theorem dcanon_any (b : Nat) (w : World) : Calls Tryd.prog 32 #[.float .f64 b] w fun en w' => en = .returned (.float .f64 (oneW b)) ∧ w = w' := by
  have H1 := Lib.hid (dbits_any b)
  have H2 := Lib.hid (dof_any (oneW b))
  rw [oneW_one] at H2
  go_enter Tryd.func32, Tryd.ntmps32
  go_wp2_with fail
  refine (H1.out _).mono ?_
  rintro en w1 ⟨rfl, rfl⟩
  go_wp2_with fail
  refine (H2.out _).mono ?_
  rintro en w1 ⟨rfl, rfl⟩
  go_wp2
  go_ret
  exact ⟨rfl, rfl⟩

/-- The first one of a list, the first number ahead. -/
def firstC (L : Nat → Nat) : Nat → Nat
  | 0 => L 0
  | k + 1 => if lessB (L (k + 1)) (firstC L k) then L (k + 1) else firstC L k
theorem firstC_lt {L : Nat → Nat} {n : Nat} (h : ∀ i, i < n → L i < 18446744073709551616) : ∀ k, k < n → firstC L k < 18446744073709551616
  | 0, hk => h 0 hk
  | k + 1, hk => by
    unfold firstC
    split
    · exact h (k + 1) hk
    · exact firstC_lt h k (by omega)

set_option maxRecDepth 100000 in
theorem dleast_any (b off len cap : Nat) (h0 : 0 < len) (hm : len ≤ maxLen) (L : Nat → Nat) (hL : ∀ i, i < len → L i < 18446744073709551616) (w : World) (hF : FlIn w b off len L) :
    Calls Tryd.prog 12 #[.slice (some ⟨b, off, none⟩) len cap] w fun en w' => en = .returned (.float .f64 (oneW (firstC L (len - 1)))) ∧ w = w' := by
  have HF := Lib.hid hF
  have h63 : (len : Int) < 9223372036854775808 := by unfold maxLen at hm; omega
  have HL := Lib.hid (firstC_lt hL)
  have HM := Lib.hid hL
  have c0 := hF.c 0 h0
  rw [Nat.add_zero] at c0
  have k0 : ((len : Int) == 0) = false := beq_eq_false_iff_ne.2 (by omega)
  have hp : (0 : Int) < (len : Int) := by omega
  clear hF hm hL
  go_enter Tryd.func12, Tryd.ntmps12
  go_wp2_with fail
  go_loopg [3, 4] (len - 1) (fun g o i wr => ∃ k : Nat, g = len - k ∧ 0 < k ∧ k ≤ len ∧ o = .float .f64 (firstC L (k - 1)) ∧ i = .int .i64 k ∧ wr = w)
  case atStart => exact ⟨1, rfl, by omega, by omega, rfl, rfl, rfl⟩
  case round =>
    obtain ⟨k, hg, hk0, hk, rfl, rfl, rfl⟩ := hrel
    have HG := Lib.hid (And.intro hg hk0); clear hg
    by_cases hlt : k < len
    · have c1 := HF.out.c k hlt
      have hl : (k : Int) < (len : Int) := by omega
      have hw1 : IntKind.i64.wrap ((k : Int) + 1) = (k : Int) + 1 := IntWalk.i64_in _ (by omega)
      have H1 := Lib.hid (dless_any (L k) (firstC L (k - 1)) (HM.out k hlt) (HL.out (k - 1) (by omega)))
      have hs : firstC L k = if lessB (L k) (firstC L (k - 1)) then L k else firstC L (k - 1) := by
        obtain ⟨m, rfl⟩ : ∃ m, k = m + 1 := ⟨k - 1, by omega⟩
        rfl
      revert H1 hs
      generalize lessB (L k) (firstC L (k - 1)) = x
      intro H1 hs
      have HS := Lib.hid hs; clear hs
      clear hk0
      cases x
      all_goals
        go_wp2_with fail
        refine (H1.out _).mono ?_
        rintro en w4 ⟨rfl, rfl⟩
        go_wp2
        go_roundg (len - (k + 1))
        case measure => have := HG.out; omega
        case rel => exact ⟨k + 1, rfl, by omega, by omega, by rw [show k + 1 - 1 = k from rfl, HS.out]; rfl, rfl, rfl⟩
    · obtain rfl : k = len := by omega
      go_wp2_with fail
      refine (dcanon_any _ _).mono ?_
      rintro en w4 ⟨rfl, rfl⟩
      go_wp2
      go_ret
      exact ⟨rfl, rfl⟩

set_option maxRecDepth 100000 in
theorem dmost_any (b off len cap : Nat) (h0 : 0 < len) (hm : len ≤ maxLen) (L : Nat → Nat) (hL : ∀ i, i < len → L i < 18446744073709551616) (w : World) (hF : FlIn w b off len L) :
    Calls Tryd.prog 13 #[.slice (some ⟨b, off, none⟩) len cap] w fun en w' => en = .returned (.float .f64 (oneW (mostC L (len - 1)))) ∧ w = w' := by
  have HF := Lib.hid hF
  have h63 : (len : Int) < 9223372036854775808 := by unfold maxLen at hm; omega
  have HL := Lib.hid (mostC_lt hL)
  have HM := Lib.hid hL
  have c0 := hF.c 0 h0
  rw [Nat.add_zero] at c0
  have k0 : ((len : Int) == 0) = false := beq_eq_false_iff_ne.2 (by omega)
  have hp : (0 : Int) < (len : Int) := by omega
  clear hF hm hL
  go_enter Tryd.func13, Tryd.ntmps13
  go_wp2_with fail
  go_loopg [3, 4] (len - 1) (fun g o i wr => ∃ k : Nat, g = len - k ∧ 0 < k ∧ k ≤ len ∧ o = .float .f64 (mostC L (k - 1)) ∧ i = .int .i64 k ∧ wr = w)
  case atStart => exact ⟨1, rfl, by omega, by omega, rfl, rfl, rfl⟩
  case round =>
    obtain ⟨k, hg, hk0, hk, rfl, rfl, rfl⟩ := hrel
    have HG := Lib.hid (And.intro hg hk0); clear hg
    by_cases hlt : k < len
    · have c1 := HF.out.c k hlt
      have hl : (k : Int) < (len : Int) := by omega
      have hw1 : IntKind.i64.wrap ((k : Int) + 1) = (k : Int) + 1 := IntWalk.i64_in _ (by omega)
      have H1 := Lib.hid (dless_any (mostC L (k - 1)) (L k) (HL.out (k - 1) (by omega)) (HM.out k hlt))
      have hs : mostC L k = if lessB (mostC L (k - 1)) (L k) then L k else mostC L (k - 1) := by
        obtain ⟨m, rfl⟩ : ∃ m, k = m + 1 := ⟨k - 1, by omega⟩
        rfl
      revert H1 hs
      generalize lessB (mostC L (k - 1)) (L k) = x
      intro H1 hs
      have HS := Lib.hid hs; clear hs
      clear hk0
      cases x
      all_goals
        go_wp2_with fail
        refine (H1.out _).mono ?_
        rintro en w4 ⟨rfl, rfl⟩
        go_wp2
        go_roundg (len - (k + 1))
        case measure => have := HG.out; omega
        case rel => exact ⟨k + 1, rfl, by omega, by omega, by rw [show k + 1 - 1 = k from rfl, HS.out]; rfl, rfl, rfl⟩
    · obtain rfl : k = len := by omega
      go_wp2_with fail
      refine (dcanon_any _ _).mono ?_
      rintro en w4 ⟨rfl, rfl⟩
      go_wp2
      go_ret
      exact ⟨rfl, rfl⟩
end Go.Proofs.YtidjnfjpdnjogaaDoor
