/-
  codec.Number: what it tells. Conditions: none.
-/
import Derived.Test.YtidjnfjpdnjogaaDoorNumP
import Derived.Test.YtidjnfjpdnjogaaDoorG
namespace Go.Proofs.YtidjnfjpdnjogaaDoor
open Go.RowKit Go.Lib

/-- What digits and a sign tell. -/
def numRest (d : List UInt8) (b : Bool) : Int × Int :=
  if numBad d b then (0, 1) else if d.all isDig then ((if b then -(numVal d : Int) else numVal d), 0) else (0, 1)
theorem numberOf_rest (s : List UInt8) : numberOf s = numRest (bodyOf s) (minusOf s) := rfl

def tells (r : Int × Int) : Value := .tuple #[.int .i64 r.1, .int .i64 r.2]

theorem take_snoc (d : ByteArray) (k : Nat) (h : k < d.size) : d.data.toList.take (k + 1) = d.data.toList.take k ++ [d[k]] := by
  rw [List.take_succ_eq_append_getElem (by simpa using h)]; rfl
theorem all_split (d : ByteArray) (k : Nat) (h : k < d.size) (hn : isDig d[k] = false) : d.data.toList.all isDig = false := by
  rw [List.all_eq_false]
  refine ⟨d[k], ?_, by rw [hn]; decide⟩
  have : d[k] = d.data.toList[k]'(by simpa using h) := rfl
  rw [this]
  exact List.getElem_mem _
theorem dig_yes {c : UInt8} (h1 : ¬ (c.toNat : Int) < 48) (h2 : ¬ 57 < (c.toNat : Int)) : isDig c = true := by
  simp only [isDig, Bool.and_eq_true, decide_eq_true_eq]; omega
theorem dig_low {c : UInt8} (h1 : (c.toNat : Int) < 48) : isDig c = false := by
  rw [isDig, decide_eq_false (by omega)]; rfl
theorem dig_high {c : UInt8} (h2 : 57 < (c.toNat : Int)) : isDig c = false := by
  rw [isDig, decide_eq_false (p := c.toNat ≤ 57) (by omega), Bool.and_false]

/-- A round's number. -/
theorem num_step (d : ByteArray) (k : Nat) (h : k < d.size) (hk : d.size ≤ 18) (ha : (d.data.toList.take k).all isDig = true) (h1 : ¬ (d[k].toNat : Int) < 48) (h2 : ¬ 57 < (d[k].toNat : Int)) :
    (d.data.toList.take (k + 1)).all isDig = true ∧ ((numVal (d.data.toList.take (k + 1)) : Nat) : Int) = 10 * (numVal (d.data.toList.take k) : Int) + ((d[k].toNat : Int) - 48) ∧
      (numVal (d.data.toList.take k) : Int) < 100000000000000000 := by
  have hl : (d.data.toList.take k).length = k := by rw [List.length_take]; simp; omega
  have hv := numVal_lt _ ha
  rw [hl] at hv
  have h17 : (10 : Nat) ^ k ≤ 10 ^ 17 := Nat.pow_le_pow_right (by decide) (by omega)
  refine ⟨?_, ?_, by omega⟩
  · rw [take_snoc d k h, List.all_append, ha]; simp [dig_yes h1 h2]
  · rw [take_snoc d k h, numVal_snoc]; omega

theorem numBad_false (d : ByteArray) (b : Bool) (h : numBad d.data.toList b = false) : 0 < d.size ∧ d.size ≤ 18 ∧ (∀ h0 : 0 < d.size, (((d[0].toNat : Int) == 48) = false ∨ (d.size = 1 ∧ b = false))) := by
  have e : d.data.toList.length = d.size := by simp
  rw [numBad, Bool.or_eq_false_iff, Bool.or_eq_false_iff, e] at h
  obtain ⟨⟨h1, h2⟩, h3⟩ := h
  have h1' : d.size ≠ 0 := by simpa using h1
  have h2' : ¬ 18 < d.size := by simpa using h2
  refine ⟨by omega, by omega, fun h0 => ?_⟩
  have hg : d.data.toList.getD 0 0 = d[0] := by
    rw [List.getD_eq_getElem?_getD, List.getElem?_eq_getElem (by simpa using h0)]; rfl
  rw [hg, Bool.and_eq_false_iff] at h3
  rcases h3 with h3 | h3
  · refine Or.inl ?_
    simp only [beq_eq_false_iff_ne, ne_eq] at h3 ⊢
    intro hc
    apply h3
    apply UInt8.toNat_inj.1
    have : d[0].toNat = 48 := by omega
    exact this
  · rw [Bool.or_eq_false_iff] at h3
    have : ¬ 1 < d.size := by simpa using h3.1
    exact Or.inr ⟨by omega, h3.2⟩

theorem num_good (s d : ByteArray) (b : Bool) (w : World) (hcut : Calls Tryd.prog 55 #[.string s, .string ⟨#[45]⟩] w fun en w' => en = .returned (.tuple #[.string d, .bool b]) ∧ w' = w) (h : numBad d.data.toList b = false) :
    Calls Tryd.prog 57 #[.string s] w fun en w' => en = .returned (tells (numRest d.data.toList b)) ∧ w = w' := by
  obtain ⟨hz1, hz2, hz3⟩ := numBad_false d b h
  have h0 := hz3 hz1
  have HC := Lib.hid hcut; clear hcut
  have HB := Lib.hid h; clear h
  have k1 : ((d.size : Int) == 0) = false := beq_eq_false_iff_ne.2 (by omega)
  have k2 : ¬ (18 : Int) < (d.size : Int) := by omega
  clear hz3
  have k3 : (0 : Int) < (d.size : Int) := by omega
  have h0' : ((d[0].toNat : Int) == 48) = false ∨ (((d[0].toNat : Int) == 48) = true ∧ ¬ (1 : Int) < (d.size : Int) ∧ b = false) := by
    rcases h0 with h0 | ⟨h0, h1⟩
    · exact Or.inl h0
    · cases hc : ((d[0].toNat : Int) == 48)
      · exact Or.inl rfl
      · exact Or.inr ⟨rfl, by omega, h1⟩
  clear h0
  have hne : numRest d.data.toList b = if d.data.toList.all isDig then ((if b then -(numVal d.data.toList : Int) else numVal d.data.toList), 0) else (0, 1) := by
    rw [numRest, if_neg (by rw [HB.out]; decide)]
  have HN := Lib.hid hne; clear hne
  rcases h0' with h0 | ⟨h0, h01, rfl⟩
  all_goals
    go_enter Tryd.func57, Tryd.ntmps57
    go_wp2_with fail
    refine HC.out.mono ?_
    rintro en w' ⟨rfl, rfl⟩
    go_wp2_with fail
    go_loopg [6, 36] d.size (fun g n i wr => ∃ k : Nat, g = d.size - k ∧ k ≤ d.size ∧ n = .int .i64 (numVal (d.data.toList.take k)) ∧ i = .int .i64 k ∧ (d.data.toList.take k).all isDig = true ∧ wr = w')
    case atStart => exact ⟨0, by omega, Nat.zero_le _, rfl, rfl, rfl, rfl⟩
    case round =>
      obtain ⟨k, hg, hk, rfl, rfl, ha, rfl⟩ := hrel
      have HG := Lib.hid hg; clear hg
      by_cases hlt : k < d.size
      · by_cases h1 : (d[k].toNat : Int) < 48
        · have hall := all_split d k hlt (dig_low h1)
          have HA := Lib.hid hall; clear hall ha
          go_wp2
          refine bodyPost_ret (v := tells (0, 1)) (by simp [results, Tryd.results57, go_sem, tells]) rfl ⟨?_, rfl⟩
          rw [HN.out, HA.out]; rfl
        · by_cases h2 : 57 < (d[k].toNat : Int)
          · have hall := all_split d k hlt (dig_high h2)
            have HA := Lib.hid hall; clear hall ha
            go_wp2
            refine bodyPost_ret (v := tells (0, 1)) (by simp [results, Tryd.results57, go_sem, tells]) rfl ⟨?_, rfl⟩
            rw [HN.out, HA.out]; rfl
          · obtain ⟨s1, s2, s3⟩ := num_step d k hlt hz2 ha h1 h2
            have hb := d[k].toNat_lt
            have HS := Lib.hid (And.intro s1 s2); clear s1 s2 ha
            have hw1 : IntKind.i64.wrap (10 * (numVal (d.data.toList.take k) : Int)) = 10 * (numVal (d.data.toList.take k) : Int) := IntWalk.i64_in _ (by omega)
            have hw2 : IntKind.u8.wrap ((d[k].toNat : Int) - 48) = (d[k].toNat : Int) - 48 := IntWalk.u8_in _ (by omega)
            have hw3 : IntKind.i64.wrap ((d[k].toNat : Int) - 48) = (d[k].toNat : Int) - 48 := IntWalk.i64_in _ (by omega)
            have hw4 : IntKind.i64.wrap (10 * (numVal (d.data.toList.take k) : Int) + ((d[k].toNat : Int) - 48)) = 10 * (numVal (d.data.toList.take k) : Int) + ((d[k].toNat : Int) - 48) := IntWalk.i64_in _ (by omega)
            go_wp2
            go_roundg (d.size - (k + 1))
            case measure => rw [HG.out]; omega
            case rel => exact ⟨k + 1, rfl, hlt, by rw [HS.out.2], rfl, HS.out.1, rfl⟩
      · obtain rfl : k = d.size := by omega
        rw [show d.data.toList.take d.size = d.data.toList from List.take_of_length_le (by simp)] at ha ⊢
        have hv := numVal_lt _ ha
        have hl : d.data.toList.length = d.size := by simp
        rw [hl] at hv
        have h18 : (10 : Nat) ^ d.size ≤ 10 ^ 18 := Nat.pow_le_pow_right (by decide) (by omega)
        have hw1 : IntKind.i64.wrap (-(numVal d.data.toList : Int)) = -(numVal d.data.toList : Int) := IntWalk.i64_in _ (by omega)
        have HA := Lib.hid ha; clear ha hl hv h18
        first | (cases b) | skip
        all_goals
          go_wp2
          refine bodyPost_ret (v := tells (numRest d.data.toList _)) (by rw [HN.out, HA.out]; simp [results, Tryd.results57, go_sem, tells]) rfl ⟨rfl, rfl⟩

theorem numBad_true (d : ByteArray) (b : Bool) (h : numBad d.data.toList b = true) : d.size = 0 ∨ 18 < d.size ∨ (0 < d.size ∧ d.size ≤ 18 ∧ ∀ h0 : 0 < d.size, ((d[0].toNat : Int) == 48) = true ∧ (1 < d.size ∨ b = true)) := by
  have e : d.data.toList.length = d.size := by simp
  by_cases h1 : d.size = 0
  · exact Or.inl h1
  · by_cases h2 : 18 < d.size
    · exact Or.inr (Or.inl h2)
    · refine Or.inr (Or.inr ⟨by omega, by omega, fun h0 => ?_⟩)
      have hg : d.data.toList.getD 0 0 = d[0] := by
        rw [List.getD_eq_getElem?_getD, List.getElem?_eq_getElem (by simpa using h0)]; rfl
      rw [numBad, e, hg, beq_eq_false_iff_ne.2 h1, decide_eq_false h2, Bool.false_or, Bool.false_or, Bool.and_eq_true] at h
      obtain ⟨h3, h4⟩ := h
      have h5 : d[0] = 48 := by simpa using h3
      refine ⟨by rw [h5]; rfl, ?_⟩
      simpa using h4

theorem num_bad' (s d : ByteArray) (b : Bool) (w : World) (hcut : Calls Tryd.prog 55 #[.string s, .string ⟨#[45]⟩] w fun en w' => en = .returned (.tuple #[.string d, .bool b]) ∧ w' = w) (h : numBad d.data.toList b = true) :
    Calls Tryd.prog 57 #[.string s] w fun en w' => en = .returned (tells (numRest d.data.toList b)) ∧ w = w' := by
  have hne : numRest d.data.toList b = (0, 1) := by rw [numRest, if_pos h]
  have HN := Lib.hid hne; clear hne
  have HC := Lib.hid hcut; clear hcut
  have hw : ((d.size : Int) == 0) = true ∨ (((d.size : Int) == 0) = false ∧ (18 : Int) < (d.size : Int)) ∨ (((d.size : Int) == 0) = false ∧ ¬ (18 : Int) < (d.size : Int) ∧ 0 < d.size ∧ ∀ h0 : 0 < d.size, ((d[0].toNat : Int) == 48) = true ∧ ((1 : Int) < (d.size : Int) ∨ (¬ (1 : Int) < (d.size : Int) ∧ b = true))) := by
    rcases numBad_true d b h with h1 | h1 | ⟨h1, h2, h3⟩
    · exact Or.inl (beq_iff_eq.2 (by omega))
    · exact Or.inr (Or.inl ⟨beq_eq_false_iff_ne.2 (by omega), by omega⟩)
    · refine Or.inr (Or.inr ⟨beq_eq_false_iff_ne.2 (by omega), by omega, h1, fun h0 => ⟨(h3 h0).1, ?_⟩⟩)
      by_cases h5 : 1 < d.size
      · exact Or.inl (by omega)
      · exact Or.inr ⟨by omega, (h3 h0).2.resolve_left h5⟩
  clear h
  rcases hw with h1 | ⟨h1, h2⟩ | ⟨h1, h2, h3, h4⟩
  · go_enter Tryd.func57, Tryd.ntmps57
    go_wp2_with fail
    refine HC.out.mono ?_
    rintro en w' ⟨rfl, rfl⟩
    go_wp2
    exact bodyPost_ret (v := tells (0, 1)) (by simp [results, Tryd.results57, go_sem, tells]) rfl ⟨by rw [HN.out], rfl⟩
  · go_enter Tryd.func57, Tryd.ntmps57
    go_wp2_with fail
    refine HC.out.mono ?_
    rintro en w' ⟨rfl, rfl⟩
    go_wp2
    exact bodyPost_ret (v := tells (0, 1)) (by simp [results, Tryd.results57, go_sem, tells]) rfl ⟨by rw [HN.out], rfl⟩
  · obtain ⟨h5, h6⟩ := h4 h3
    clear h4
    have h7 : (0 : Int) < (d.size : Int) := by omega
    rcases h6 with h6 | ⟨h6, rfl⟩
    all_goals
      go_enter Tryd.func57, Tryd.ntmps57
      go_wp2_with fail
      refine HC.out.mono ?_
      rintro en w' ⟨rfl, rfl⟩
      go_wp2
      exact bodyPost_ret (v := tells (0, 1)) (by simp [results, Tryd.results57, go_sem, tells]) rfl ⟨by rw [HN.out], rfl⟩

theorem number_any (s : ByteArray) (w : World) : Calls Tryd.prog 57 #[.string s] w fun en w' => en = .returned (tells (numberOf s.data.toList)) ∧ w = w' := by
  have hc := Tryd.strings_CutPrefix s ⟨#[45]⟩ w
  obtain ⟨d, hd⟩ : ∃ d : ByteArray, d = ⟨(Lib.trimPrefix s.data.toList [45]).toArray⟩ := ⟨_, rfl⟩
  have hl : d.data.toList = bodyOf s.data.toList := by rw [hd]; rfl
  change Calls Tryd.prog 55 #[.string s, .string ⟨#[45]⟩] w (fun e w' => e = .returned (.tuple #[.string ⟨(Lib.trimPrefix s.data.toList [45]).toArray⟩, .bool (minusOf s.data.toList)]) ∧ w' = w) at hc
  rw [← hd] at hc
  rw [numberOf_rest, ← hl]
  cases hb : numBad d.data.toList (minusOf s.data.toList)
  · exact num_good s d _ w hc hb
  · exact num_bad' s d _ w hc hb
end Go.Proofs.YtidjnfjpdnjogaaDoor
