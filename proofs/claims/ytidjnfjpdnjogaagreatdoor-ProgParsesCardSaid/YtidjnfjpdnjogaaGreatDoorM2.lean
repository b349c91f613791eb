/-
  M2: the texts Num, PrC1, PrC2, PrC3, PrA, PrC6, PrC8, PrC4, PrC9, one behind the other. Conditions: none.
-/
import Derived.Test.YtidjnfjpdnjogaaGreatDoorM1
import Derived.Test.YtidjnfjpdnjogaaGreatDoorG
import Derived.WalkLawsBesides
import Derived.Laws.Bits64b
import Derived.Laws.FloatArith
import Derived.Laws.NewFold
import Derived.Laws.Cover2
/-
  codec.Number: what it tells. Conditions: none.
-/
namespace Go.Proofs.YtidjnfjpdnjogaaGreatDoor
open Go.RowKit Go.Lib

/-- What digits and a sign tell. -/
def numRest (d : List UInt8) (b : Bool) : Int × Int :=
  if numBad d b then (0, 1) else if d.all isDig then ((if b then -(numVal d : Int) else numVal d), 0) else (0, 1)
theorem numberOf_rest (s : List UInt8) : numberOf s = numRest (bodyOf s) (minusOf s) := rfl

def tells (r : Int × Int) : Value := .tuple #[.int .i64 r.1, .int .i64 r.2]

theorem take_snoc (d : ByteArray) (k : Nat) (h : k < d.size) : d.data.toList.take (k + 1) = d.data.toList.take k ++ [d[k]] := by
  rw [List.take_succ_eq_append_getElem (by simpa using h)]; rfl
theorem all_split (d : ByteArray) (k : Nat) (h : k < d.size) (hn : isDig d[k] = false) : d.data.toList.all isDig = false := by
  rw [List.all_eq_false]
  refine ⟨d[k], ?_, by rw [hn]; decide⟩
  have : d[k] = d.data.toList[k]'(by simpa using h) := rfl
  rw [this]
  exact List.getElem_mem _
theorem dig_yes {c : UInt8} (h1 : ¬ (c.toNat : Int) < 48) (h2 : ¬ 57 < (c.toNat : Int)) : isDig c = true := by
  simp only [isDig, Bool.and_eq_true, decide_eq_true_eq]; omega
theorem dig_low {c : UInt8} (h1 : (c.toNat : Int) < 48) : isDig c = false := by
  rw [isDig, decide_eq_false (by omega)]; rfl
theorem dig_high {c : UInt8} (h2 : 57 < (c.toNat : Int)) : isDig c = false := by
  rw [isDig, decide_eq_false (p := c.toNat ≤ 57) (by omega), Bool.and_false]

/-- A round's number. -/
theorem num_step (d : ByteArray) (k : Nat) (h : k < d.size) (hk : d.size ≤ 18) (ha : (d.data.toList.take k).all isDig = true) (h1 : ¬ (d[k].toNat : Int) < 48) (h2 : ¬ 57 < (d[k].toNat : Int)) :
    (d.data.toList.take (k + 1)).all isDig = true ∧ ((numVal (d.data.toList.take (k + 1)) : Nat) : Int) = 10 * (numVal (d.data.toList.take k) : Int) + ((d[k].toNat : Int) - 48) ∧
      (numVal (d.data.toList.take k) : Int) < 100000000000000000 := by
  have hl : (d.data.toList.take k).length = k := by rw [List.length_take]; simp; omega
  have hv := numVal_lt _ ha
  rw [hl] at hv
  have h17 : (10 : Nat) ^ k ≤ 10 ^ 17 := Nat.pow_le_pow_right (by decide) (by omega)
  refine ⟨?_, ?_, by omega⟩
  · rw [take_snoc d k h, List.all_append, ha]; simp [dig_yes h1 h2]
  · rw [take_snoc d k h, numVal_snoc]; omega

theorem numBad_false (d : ByteArray) (b : Bool) (h : numBad d.data.toList b = false) : 0 < d.size ∧ d.size ≤ 18 ∧ (∀ h0 : 0 < d.size, (((d[0].toNat : Int) == 48) = false ∨ (d.size = 1 ∧ b = false))) := by
  have e : d.data.toList.length = d.size := by simp
  rw [numBad, Bool.or_eq_false_iff, Bool.or_eq_false_iff, e] at h
  obtain ⟨⟨h1, h2⟩, h3⟩ := h
  have h1' : d.size ≠ 0 := by simpa using h1
  have h2' : ¬ 18 < d.size := by simpa using h2
  refine ⟨by omega, by omega, fun h0 => ?_⟩
  have hg : d.data.toList.getD 0 0 = d[0] := by
    rw [List.getD_eq_getElem?_getD, List.getElem?_eq_getElem (by simpa using h0)]; rfl
  rw [hg, Bool.and_eq_false_iff] at h3
  rcases h3 with h3 | h3
  · refine Or.inl ?_
    simp only [beq_eq_false_iff_ne, ne_eq] at h3 ⊢
    intro hc
    apply h3
    apply UInt8.toNat_inj.1
    have : d[0].toNat = 48 := by omega
    exact this
  · rw [Bool.or_eq_false_iff] at h3
    have : ¬ 1 < d.size := by simpa using h3.1
    exact Or.inr ⟨by omega, h3.2⟩

theorem num_good (s d : ByteArray) (b : Bool) (w : World) (hcut : Calls Tryz.prog 82 #[.string s, .string ⟨#[45]⟩] w fun en w' => en = .returned (.tuple #[.string d, .bool b]) ∧ w' = w) (h : numBad d.data.toList b = false) :
    Calls Tryz.prog 84 #[.string s] w fun en w' => en = .returned (tells (numRest d.data.toList b)) ∧ w = w' := by
  obtain ⟨hz1, hz2, hz3⟩ := numBad_false d b h
  have h0 := hz3 hz1
  have HC := Lib.hid hcut; clear hcut
  have HB := Lib.hid h; clear h
  have k1 : ((d.size : Int) == 0) = false := beq_eq_false_iff_ne.2 (by omega)
  have k2 : ¬ (18 : Int) < (d.size : Int) := by omega
  clear hz3
  have k3 : (0 : Int) < (d.size : Int) := by omega
  have h0' : ((d[0].toNat : Int) == 48) = false ∨ (((d[0].toNat : Int) == 48) = true ∧ ¬ (1 : Int) < (d.size : Int) ∧ b = false) := by
    rcases h0 with h0 | ⟨h0, h1⟩
    · exact Or.inl h0
    · cases hc : ((d[0].toNat : Int) == 48)
      · exact Or.inl rfl
      · exact Or.inr ⟨rfl, by omega, h1⟩
  clear h0
  have hne : numRest d.data.toList b = if d.data.toList.all isDig then ((if b then -(numVal d.data.toList : Int) else numVal d.data.toList), 0) else (0, 1) := by
    rw [numRest, if_neg (by rw [HB.out]; decide)]
  have HN := Lib.hid hne; clear hne
  rcases h0' with h0 | ⟨h0, h01, rfl⟩
  all_goals
    go_enter Tryz.func84, Tryz.ntmps84
    go_wp2_with fail
    refine HC.out.mono ?_
    rintro en w' ⟨rfl, rfl⟩
    go_wp2_with fail
    go_loopg [6, 36] d.size (fun g n i wr => ∃ k : Nat, g = d.size - k ∧ k ≤ d.size ∧ n = .int .i64 (numVal (d.data.toList.take k)) ∧ i = .int .i64 k ∧ (d.data.toList.take k).all isDig = true ∧ wr = w')
    case atStart => exact ⟨0, by omega, Nat.zero_le _, rfl, rfl, rfl, rfl⟩
    case round =>
      obtain ⟨k, hg, hk, rfl, rfl, ha, rfl⟩ := hrel
      have HG := Lib.hid hg; clear hg
      by_cases hlt : k < d.size
      · by_cases h1 : (d[k].toNat : Int) < 48
        · have hall := all_split d k hlt (dig_low h1)
          have HA := Lib.hid hall; clear hall ha
          go_wp2
          refine bodyPost_ret (v := tells (0, 1)) (by simp [results, Tryz.results84, go_sem, tells]) rfl ⟨?_, rfl⟩
          rw [HN.out, HA.out]; rfl
        · by_cases h2 : 57 < (d[k].toNat : Int)
          · have hall := all_split d k hlt (dig_high h2)
            have HA := Lib.hid hall; clear hall ha
            go_wp2
            refine bodyPost_ret (v := tells (0, 1)) (by simp [results, Tryz.results84, go_sem, tells]) rfl ⟨?_, rfl⟩
            rw [HN.out, HA.out]; rfl
          · obtain ⟨s1, s2, s3⟩ := num_step d k hlt hz2 ha h1 h2
            have hb := d[k].toNat_lt
            have HS := Lib.hid (And.intro s1 s2); clear s1 s2 ha
            have hw1 : IntKind.i64.wrap (10 * (numVal (d.data.toList.take k) : Int)) = 10 * (numVal (d.data.toList.take k) : Int) := IntWalk.i64_in _ (by omega)
            have hw2 : IntKind.u8.wrap ((d[k].toNat : Int) - 48) = (d[k].toNat : Int) - 48 := IntWalk.u8_in _ (by omega)
            have hw3 : IntKind.i64.wrap ((d[k].toNat : Int) - 48) = (d[k].toNat : Int) - 48 := IntWalk.i64_in _ (by omega)
            have hw4 : IntKind.i64.wrap (10 * (numVal (d.data.toList.take k) : Int) + ((d[k].toNat : Int) - 48)) = 10 * (numVal (d.data.toList.take k) : Int) + ((d[k].toNat : Int) - 48) := IntWalk.i64_in _ (by omega)
            go_wp2
            go_roundg (d.size - (k + 1))
            case measure => rw [HG.out]; omega
            case rel => exact ⟨k + 1, rfl, hlt, by rw [HS.out.2], rfl, HS.out.1, rfl⟩
      · obtain rfl : k = d.size := by omega
        rw [show d.data.toList.take d.size = d.data.toList from List.take_of_length_le (by simp)] at ha ⊢
        have hv := numVal_lt _ ha
        have hl : d.data.toList.length = d.size := by simp
        rw [hl] at hv
        have h18 : (10 : Nat) ^ d.size ≤ 10 ^ 18 := Nat.pow_le_pow_right (by decide) (by omega)
        have hw1 : IntKind.i64.wrap (-(numVal d.data.toList : Int)) = -(numVal d.data.toList : Int) := IntWalk.i64_in _ (by omega)
        have HA := Lib.hid ha; clear ha hl hv h18
        first | (cases b) | skip
        all_goals
          go_wp2
          refine bodyPost_ret (v := tells (numRest d.data.toList _)) (by rw [HN.out, HA.out]; simp [results, Tryz.results84, go_sem, tells]) rfl ⟨rfl, rfl⟩

theorem numBad_true (d : ByteArray) (b : Bool) (h : numBad d.data.toList b = true) : d.size = 0 ∨ 18 < d.size ∨ (0 < d.size ∧ d.size ≤ 18 ∧ ∀ h0 : 0 < d.size, ((d[0].toNat : Int) == 48) = true ∧ (1 < d.size ∨ b = true)) := by
  have e : d.data.toList.length = d.size := by simp
  by_cases h1 : d.size = 0
  · exact Or.inl h1
  · by_cases h2 : 18 < d.size
    · exact Or.inr (Or.inl h2)
    · refine Or.inr (Or.inr ⟨by omega, by omega, fun h0 => ?_⟩)
      have hg : d.data.toList.getD 0 0 = d[0] := by
        rw [List.getD_eq_getElem?_getD, List.getElem?_eq_getElem (by simpa using h0)]; rfl
      rw [numBad, e, hg, beq_eq_false_iff_ne.2 h1, decide_eq_false h2, Bool.false_or, Bool.false_or, Bool.and_eq_true] at h
      obtain ⟨h3, h4⟩ := h
      have h5 : d[0] = 48 := by simpa using h3
      refine ⟨by rw [h5]; rfl, ?_⟩
      simpa using h4

theorem num_bad' (s d : ByteArray) (b : Bool) (w : World) (hcut : Calls Tryz.prog 82 #[.string s, .string ⟨#[45]⟩] w fun en w' => en = .returned (.tuple #[.string d, .bool b]) ∧ w' = w) (h : numBad d.data.toList b = true) :
    Calls Tryz.prog 84 #[.string s] w fun en w' => en = .returned (tells (numRest d.data.toList b)) ∧ w = w' := by
  have hne : numRest d.data.toList b = (0, 1) := by rw [numRest, if_pos h]
  have HN := Lib.hid hne; clear hne
  have HC := Lib.hid hcut; clear hcut
  have hw : ((d.size : Int) == 0) = true ∨ (((d.size : Int) == 0) = false ∧ (18 : Int) < (d.size : Int)) ∨ (((d.size : Int) == 0) = false ∧ ¬ (18 : Int) < (d.size : Int) ∧ 0 < d.size ∧ ∀ h0 : 0 < d.size, ((d[0].toNat : Int) == 48) = true ∧ ((1 : Int) < (d.size : Int) ∨ (¬ (1 : Int) < (d.size : Int) ∧ b = true))) := by
    rcases numBad_true d b h with h1 | h1 | ⟨h1, h2, h3⟩
    · exact Or.inl (beq_iff_eq.2 (by omega))
    · exact Or.inr (Or.inl ⟨beq_eq_false_iff_ne.2 (by omega), by omega⟩)
    · refine Or.inr (Or.inr ⟨beq_eq_false_iff_ne.2 (by omega), by omega, h1, fun h0 => ⟨(h3 h0).1, ?_⟩⟩)
      by_cases h5 : 1 < d.size
      · exact Or.inl (by omega)
      · exact Or.inr ⟨by omega, (h3 h0).2.resolve_left h5⟩
  clear h
  rcases hw with h1 | ⟨h1, h2⟩ | ⟨h1, h2, h3, h4⟩
  · go_enter Tryz.func84, Tryz.ntmps84
    go_wp2_with fail
    refine HC.out.mono ?_
    rintro en w' ⟨rfl, rfl⟩
    go_wp2
    exact bodyPost_ret (v := tells (0, 1)) (by simp [results, Tryz.results84, go_sem, tells]) rfl ⟨by rw [HN.out], rfl⟩
  · go_enter Tryz.func84, Tryz.ntmps84
    go_wp2_with fail
    refine HC.out.mono ?_
    rintro en w' ⟨rfl, rfl⟩
    go_wp2
    exact bodyPost_ret (v := tells (0, 1)) (by simp [results, Tryz.results84, go_sem, tells]) rfl ⟨by rw [HN.out], rfl⟩
  · obtain ⟨h5, h6⟩ := h4 h3
    clear h4
    have h7 : (0 : Int) < (d.size : Int) := by omega
    rcases h6 with h6 | ⟨h6, rfl⟩
    all_goals
      go_enter Tryz.func84, Tryz.ntmps84
      go_wp2_with fail
      refine HC.out.mono ?_
      rintro en w' ⟨rfl, rfl⟩
      go_wp2
      exact bodyPost_ret (v := tells (0, 1)) (by simp [results, Tryz.results84, go_sem, tells]) rfl ⟨by rw [HN.out], rfl⟩

theorem number_any (s : ByteArray) (w : World) : Calls Tryz.prog 84 #[.string s] w fun en w' => en = .returned (tells (numberOf s.data.toList)) ∧ w = w' := by
  have hc := Tryz.strings_CutPrefix s ⟨#[45]⟩ w
  obtain ⟨d, hd⟩ : ∃ d : ByteArray, d = ⟨(Lib.trimPrefix s.data.toList [45]).toArray⟩ := ⟨_, rfl⟩
  have hl : d.data.toList = bodyOf s.data.toList := by rw [hd]; rfl
  change Calls Tryz.prog 82 #[.string s, .string ⟨#[45]⟩] w (fun e w' => e = .returned (.tuple #[.string ⟨(Lib.trimPrefix s.data.toList [45]).toArray⟩, .bool (minusOf s.data.toList)]) ∧ w' = w) at hc
  rw [← hd] at hc
  rw [numberOf_rest, ← hl]
  cases hb : numBad d.data.toList (minusOf s.data.toList)
  · exact num_good s d _ w hc hb
  · exact num_bad' s d _ w hc hb
end Go.Proofs.YtidjnfjpdnjogaaGreatDoor

/-
  Package real: bits, the one NaN, classes, the order. Conditions: none.
-/
namespace Go.Proofs.YtidjnfjpdnjogaaGreatDoor
open Go.RowKit Go.Lib

theorem runBits (b : Nat) (w : World) : (callFunc 101 #[.float .f64 b]).run Tryz.prog w = .ok (.value (.int .u64 b)) w := by
  rw [run_callFunc_extern (e := Extern.MathFloatBits.float64bits) Tryz.func101 (by kernel_rfl) (by kernel_rfl) (by kernel_rfl) (by kernel_rfl)]; rfl
theorem runFrom (n : Int) (w : World) : (callFunc 98 #[.int .u64 n]).run Tryz.prog w = .ok (.value (.float .f64 n.toNat)) w := by
  rw [run_callFunc_extern (e := Extern.MathFloatBits.float64frombits) Tryz.func98 (by kernel_rfl) (by kernel_rfl) (by kernel_rfl) (by kernel_rfl)]; rfl

theorem oneW_nan {b : Nat} (h : nanW b = true) : oneW b = 9221120237041090560 := if_pos h
theorem oneW_not {b : Nat} (h : nanW b = false) : oneW b = b := if_neg (by rw [h]; decide)

theorem canon_any (b : Nat) (w : World) : Calls Tryz.prog 96 #[.float .f64 b] w fun en w' => en = .returned (.float .f64 (oneW b)) ∧ w = w' := by
  have h57 := runFrom
  cases h : nanW b
  · rw [oneW_not h]
    have hn : (FloatKind.f64.format.order b b != some .eq) = false := h
    clear h
    go_enter Tryz.func96, Tryz.ntmps96
    go_wp2
    go_ret
    exact ⟨rfl, rfl⟩
  · rw [oneW_nan h]
    have hn : (FloatKind.f64.format.order b b != some .eq) = true := h
    clear h
    go_enter Tryz.func96, Tryz.ntmps96
    go_wp2
    go_ret
    exact ⟨rfl, rfl⟩

theorem rof_any (n : Nat) (w : World) : Calls Tryz.prog 79 #[.int .u64 n] w fun en w' => en = .returned (.float .f64 (oneW n)) ∧ w = w' := by
  have h57 := runFrom
  go_enter Tryz.func79, Tryz.ntmps79
  go_wp2_with fail
  refine (canon_any n w).mono ?_
  rintro en w' ⟨rfl, rfl⟩
  go_wp2
  go_ret
  exact ⟨rfl, rfl⟩

def sameW (a b : Nat) : Bool := oneW a == oneW b
theorem runNeg (b : Nat) (w : World) : (Op.unary .neg (.float .f64 b)).run Tryz.prog w = .ok (.float .f64 (Op.negFloat .f64 b)) w := rfl
theorem isInf_neg (b : Nat) (hb : b < 18446744073709551616) (hf : fine b) (w : World) : Calls Tryz.prog 122 #[.float .f64 b, .int .i64 (-1)] w fun en w' => en = .returned (.bool (ltB b 18442240474082181119)) ∧ w = w' := by
  have hl : (FloatKind.f64.format.order (Op.negFloat .f64 b) 9218868437227405311 == some .gt) = ltB b 18442240474082181119 := inf_neg b hb hf
  have hng := runNeg
  clear hf hb
  cases h : ltB b 18442240474082181119
  all_goals
    rw [h] at hl
    clear h
    go_enter Tryz.func122, Tryz.ntmps122
    go_wp2
    go_ret
    exact ⟨rfl, rfl⟩
theorem isInf_pos (b : Nat) (w : World) : Calls Tryz.prog 122 #[.float .f64 b, .int .i64 1] w fun en w' => en = .returned (.bool (gtB b 9218868437227405311)) ∧ w = w' := by
  have hl : (FloatKind.f64.format.order b 9218868437227405311 == some .gt) = gtB b 9218868437227405311 := rfl
  cases h : gtB b 9218868437227405311
  all_goals
    rw [h] at hl
    clear h
    go_enter Tryz.func122, Tryz.ntmps122
    go_wp2
    go_ret
    exact ⟨rfl, rfl⟩

theorem signbit_any (b : Nat) (hb : b < 18446744073709551616) (w : World) : Calls Tryz.prog 123 #[.float .f64 b] w fun en w' => en = .returned (.bool (negOf b)) ∧ w = w' := by
  have h56 := runBits
  have hs : decide (wrap64 (b : Int) < 0) = negOf b := by
    rcases negB_cases b hb with ⟨h, h1, _⟩ | ⟨h, h1, _⟩
    · rw [h, decide_eq_true_eq]
      unfold wrap64; omega
    · rw [h, decide_eq_false_iff_not]
      unfold wrap64; omega
  clear hb
  go_enter Tryz.func123, Tryz.ntmps123
  go_wp2
  go_ret
  exact ⟨by rw [← hs]; rfl, rfl⟩

theorem class_any (b : Nat) (hb : b < 18446744073709551616) (w : World) : Calls Tryz.prog 117 #[.float .f64 b] w fun en w' => en = .returned (.int .i64 (classB b : Nat)) ∧ w = w' := by
  have H2 := Lib.hid (isInf_pos b w)
  have H3 := Lib.hid (signbit_any b hb w)
  by_cases hf : fine b
  · have H1 := Lib.hid (isInf_neg b hb hf w)
    clear hb
    have hn : (FloatKind.f64.format.order b b != some .eq) = false := nanW_fine hf
    obtain ⟨t1, t2, t3, t4⟩ := class_tests b hf
    have g2 : (FloatKind.f64.format.order b 0 == some .lt) = ltB b 0 := rfl
    have g4 : (FloatKind.f64.format.order b 0 == some .gt) = gtB b 0 := rfl
    rw [t1] at H1
    rw [t3] at H2
    rw [t2] at g2
    rw [t4] at g4
    have hc : classB b = if rungOf b = 9218868437227405312 then (if negOf b then 1 else 6) else if rungOf b = 0 then (if negOf b then 3 else 4) else if negOf b then 2 else 5 := by
      unfold fine at hf
      rw [classB, if_neg (by omega)]
    rw [hc]
    clear t1 t2 t3 t4 hc hf
    revert H1 H2 H3 g2 g4
    generalize negOf b = s
    generalize rungOf b = r
    intro H2 H3 H1 g2 g4
    by_cases hi : r = 9218868437227405312
    · subst hi
      cases s
      · have H1' : Hid (Calls Tryz.prog 122 #[.float .f64 b, .int .i64 (-1)] w fun en w' => en = .returned (.bool false) ∧ w = w') := H1.out
        have H2' : Hid (Calls Tryz.prog 122 #[.float .f64 b, .int .i64 1] w fun en w' => en = .returned (.bool true) ∧ w = w') := H2.out
        simp only [Bool.false_and] at g2
        clear H1 H2
        go_enter Tryz.func117, Tryz.ntmps117
        go_wp2_with fail
        refine H1'.out.mono ?_
        rintro en w' ⟨rfl, rfl⟩
        go_wp2_with fail
        refine H2'.out.mono ?_
        rintro en w' ⟨rfl, rfl⟩
        go_wp2
        go_ret
        exact ⟨rfl, rfl⟩
      · have H1' : Hid (Calls Tryz.prog 122 #[.float .f64 b, .int .i64 (-1)] w fun en w' => en = .returned (.bool true) ∧ w = w') := H1.out
        clear H1 H2 g2 g4
        go_enter Tryz.func117, Tryz.ntmps117
        go_wp2_with fail
        refine H1'.out.mono ?_
        rintro en w' ⟨rfl, rfl⟩
        go_wp2
        go_ret
        exact ⟨rfl, rfl⟩
    · have hd : decide (r = 9218868437227405312) = false := decide_eq_false hi
      rw [hd, Bool.and_false] at H1 H2
      rw [if_neg hi]
      clear hd hi
      by_cases h0 : r = 0
      · have hd : decide (r ≠ 0) = false := decide_eq_false (by simpa using h0)
        rw [hd, Bool.and_false] at g2 g4
        rw [if_pos h0]
        clear hd h0
        cases s
        all_goals
          go_enter Tryz.func117, Tryz.ntmps117
          go_wp2_with fail
          refine H1.out.mono ?_
          rintro en w' ⟨rfl, rfl⟩
          go_wp2_with fail
          refine H2.out.mono ?_
          rintro en w' ⟨rfl, rfl⟩
          go_wp2_with fail
          refine H3.out.mono ?_
          rintro en w' ⟨rfl, rfl⟩
          go_wp2
          go_ret
          exact ⟨rfl, rfl⟩
      · have hd : decide (r ≠ 0) = true := decide_eq_true h0
        rw [hd, Bool.and_true] at g2 g4
        rw [if_neg h0]
        clear hd h0
        cases s
        · simp only [Bool.not_false] at g4
          go_enter Tryz.func117, Tryz.ntmps117
          go_wp2_with fail
          refine H1.out.mono ?_
          rintro en w' ⟨rfl, rfl⟩
          go_wp2_with fail
          refine H2.out.mono ?_
          rintro en w' ⟨rfl, rfl⟩
          go_wp2
          go_ret
          exact ⟨rfl, rfl⟩
        · go_enter Tryz.func117, Tryz.ntmps117
          go_wp2_with fail
          refine H1.out.mono ?_
          rintro en w' ⟨rfl, rfl⟩
          go_wp2
          go_ret
          exact ⟨rfl, rfl⟩
  · have hn : (FloatKind.f64.format.order b b != some .eq) = true := nanW_not hf
    have hc : classB b = 0 := by
      unfold fine at hf
      rw [classB, if_pos (by omega)]
    rw [hc]
    clear hc hf H2 H3
    go_enter Tryz.func117, Tryz.ntmps117
    go_wp2
    go_ret
    exact ⟨rfl, rfl⟩

theorem rankf_any (b : Nat) (hb : b < 18446744073709551616) (w : World) : Calls Tryz.prog 108 #[.float .f64 b] w fun en w' => en = .returned (.int .i64 (rankB b : Nat)) ∧ w = w' := by
  have H := Lib.hid (class_any b hb w)
  have hr : rankB b = if classB b = 0 then 7 else classB b := rfl
  rw [hr]
  clear hr
  revert H
  generalize classB b = c
  intro H
  by_cases h : c = 0
  · subst h
    rw [if_pos rfl]
    go_enter Tryz.func108, Tryz.ntmps108
    go_wp2_with fail
    refine H.out.mono ?_
    rintro en w' ⟨rfl, rfl⟩
    go_wp2
    go_ret
    exact ⟨rfl, rfl⟩
  · rw [if_neg h]
    have h2 : ((c : Int) == 0) = false := beq_eq_false_iff_ne.2 (by omega)
    have h3 : ((c : Int) != 0) = true := by rw [bne, h2]; rfl
    clear h
    go_enter Tryz.func108, Tryz.ntmps108
    go_wp2_with fail
    refine H.out.mono ?_
    rintro en w' ⟨rfl, rfl⟩
    go_wp2
    go_ret
    exact ⟨rfl, rfl⟩

theorem less_any (a b : Nat) (ha : a < 18446744073709551616) (hb : b < 18446744073709551616) (w : World) : Calls Tryz.prog 95 #[.float .f64 a, .float .f64 b] w fun en w' => en = .returned (.bool (lessB a b)) ∧ w = w' := by
  have H1 := Lib.hid (rankf_any a ha w)
  have H2 := Lib.hid (rankf_any b hb w)
  have g : (FloatKind.f64.format.order a b == some .lt) = ltB a b := rfl
  have hl : lessB a b = (decide (rankB a < rankB b) || (rankB a == rankB b && ltB a b)) := rfl
  rw [hl]
  clear hl
  revert H1 H2 g
  generalize rankB a = x
  generalize rankB b = y
  generalize ltB a b = l
  intro H1 H2 g
  rcases Nat.lt_trichotomy x y with h | h | h
  · have h1 : (x : Int) < (y : Int) := by omega
    rw [decide_eq_true h]
    clear h
    go_enter Tryz.func95, Tryz.ntmps95
    go_wp2_with fail
    refine H1.out.mono ?_
    rintro en w' ⟨rfl, rfl⟩
    go_wp2_with fail
    refine H2.out.mono ?_
    rintro en w' ⟨rfl, rfl⟩
    go_wp2
    go_ret
    exact ⟨rfl, rfl⟩
  · subst h
    have hs : (decide (x < x) || (x == x && l)) = l := by simp
    rw [hs]
    clear hs
    cases l
    all_goals
      go_enter Tryz.func95, Tryz.ntmps95
      go_wp2_with fail
      refine H1.out.mono ?_
      rintro en w' ⟨rfl, rfl⟩
      go_wp2_with fail
      refine H2.out.mono ?_
      rintro en w' ⟨rfl, rfl⟩
      go_wp2
      go_ret
      exact ⟨rfl, rfl⟩
  · have h1 : ¬ (x : Int) < (y : Int) := by omega
    have h2 : ((x : Int) == (y : Int)) = false := beq_eq_false_iff_ne.2 (by omega)
    have hs : (decide (x < y) || (x == y && l)) = false := by
      rw [decide_eq_false (by omega), beq_eq_false_iff_ne.2 (show x ≠ y by omega)]; rfl
    have hx : decide (x < y) = false := decide_eq_false (by omega)
    rw [hs]
    clear hs h
    go_enter Tryz.func95, Tryz.ntmps95
    go_wp2_with fail
    refine H1.out.mono ?_
    rintro en w' ⟨rfl, rfl⟩
    go_wp2_with fail
    refine H2.out.mono ?_
    rintro en w' ⟨rfl, rfl⟩
    go_wp2
    go_ret
    exact ⟨rfl, rfl⟩
end Go.Proofs.YtidjnfjpdnjogaaGreatDoor

/-
  Package real: what Go's math tells; a text of bits; a number read. Conditions: none.
-/
namespace Go.Proofs.YtidjnfjpdnjogaaGreatDoor
open Go.RowKit Go.Lib

theorem minf_pos (w : World) : Calls Tryz.prog 80 #[.int .i64 1] w fun en w' => en = .returned (.float .f64 9218868437227405312) ∧ w = w' := by
  have h57 := runFrom
  go_enter Tryz.func80, Tryz.ntmps80
  go_wp2
  go_ret
  exact ⟨rfl, rfl⟩
theorem minf_neg (w : World) : Calls Tryz.prog 80 #[.int .i64 (-1)] w fun en w' => en = .returned (.float .f64 18442240474082181120) ∧ w = w' := by
  have h57 := runFrom
  go_enter Tryz.func80, Tryz.ntmps80
  go_wp2
  go_ret
  exact ⟨rfl, rfl⟩
theorem mcopy_any (w : World) : Calls Tryz.prog 81 #[.float .f64 0, .float .f64 13830554455654793216] w fun en w' => en = .returned (.float .f64 9223372036854775808) ∧ w = w' := by
  have h57 := runFrom
  have h56 := runBits
  go_enter Tryz.func81, Tryz.ntmps81
  go_wp2
  go_ret
  exact ⟨rfl, rfl⟩
/-- what Parse and hex tell -/
def tellsF (r : Nat × Int) : Value := .tuple #[.float .f64 r.1, .int .i64 r.2]

theorem mem_of_index (d : ByteArray) (k : Nat) (h : k < d.size) : d[k] ∈ d.data.toList := by
  have h2 : k < d.data.toList.length := by simpa using h
  have h3 : d[k] = d.data.toList[k] := by simp [ByteArray.getElem_eq_getElem_data]
  rw [h3]; exact List.getElem_mem h2
theorem hexstep_bad (d : ByteArray) (k : Nat) (h : k < d.size) (hn : hexAt d[k] < 0) : d.data.toList.all hexOk = false := by
  rw [List.all_eq_false]
  exact ⟨d[k], mem_of_index d k h, by unfold hexOk; simp; omega⟩
theorem hexstep_good (d : ByteArray) (k : Nat) (h : k < d.size) (hn : ¬ hexAt d[k] < 0) (ha : (d.data.toList.take k).all hexOk = true) :
    (d.data.toList.take (k + 1)).all hexOk = true ∧
    bits .or .u64 (IntKind.u64.wrap (((hexFold (d.data.toList.take k) : Nat) : Int) % 18446744073709551616 * 16)) (IntKind.u64.wrap (hexAt d[k])) = ((hexFold (d.data.toList.take (k + 1)) : Nat) : Int) % 18446744073709551616 := by
  rw [take_snoc d k h]
  refine ⟨?_, ?_⟩
  · rw [List.all_append, ha]
    simp only [List.all_cons, List.all_nil, Bool.and_true, Bool.true_and]
    unfold hexOk; simp; omega
  · have h1 := hexVal_lt d[k]
    have h2 : hexAt d[k] = ((hexVal d[k] : Nat) : Int) := by unfold hexVal; omega
    have h3 := or_sign (hexFold (d.data.toList.take k) % 18446744073709551616) (hexVal d[k]) h1
    rw [h2, hexFold_snoc]
    rw [show ((hexFold (d.data.toList.take k) : Nat) : Int) % 18446744073709551616 = ((hexFold (d.data.toList.take k) % 18446744073709551616 : Nat) : Int) by omega, h3]
    omega

theorem hex_any (s : ByteArray) (hs : s.size ≤ 281474976710656) (w : World) : Calls Tryz.prog 83 #[.string s] w fun en w' => en = .returned (tellsF (hexTell s.data.toList)) ∧ w = w' := by
  have HI : Hid (∀ (c : UInt8) (w : World), Calls Tryz.prog 103 #[.string ⟨#[48, 49, 50, 51, 52, 53, 54, 55, 56, 57, 97, 98, 99, 100, 101, 102]⟩, .int .u8 (c.toNat : Int)] w fun e w' => e = .returned (.int .i64 (hexAt c)) ∧ w' = w) := Lib.hid fun c w => by
    have h := Tryz.strings_IndexByte ⟨#[48, 49, 50, 51, 52, 53, 54, 55, 56, 57, 97, 98, 99, 100, 101, 102]⟩ (c.toNat : Int) w
    have h2 : ((c.toNat : Int)).toNat.toUInt8 = c := by simp
    rw [h2] at h
    exact h
  go_enter Tryz.func83, Tryz.ntmps83
  go_wp2_with fail
  go_loopg [4, 9] s.size (fun g v i wr => ∃ k : Nat, g = s.size - k ∧ k ≤ s.size ∧ v = .int .u64 (((hexFold (s.data.toList.take k) : Nat) : Int) % 18446744073709551616) ∧ i = .int .i64 k ∧ (s.data.toList.take k).all hexOk = true ∧ wr = w)
  case atStart => exact ⟨0, by omega, Nat.zero_le _, rfl, rfl, rfl, rfl⟩
  case round =>
    obtain ⟨k, hg, hk, rfl, rfl, ha, rfl⟩ := hrel
    have HG := Lib.hid hg; clear hg
    by_cases hlt : k < s.size
    · go_wp2_with fail
      refine (HI.out s[k] _).mono ?_
      rintro en w1 ⟨rfl, rfl⟩
      by_cases hn : hexAt s[k] < 0
      · have hall := hexstep_bad s k hlt hn
        have HA := Lib.hid hall; clear hall ha
        go_wp2
        refine bodyPost_ret (v := tellsF (0, 6)) (by simp [results, Tryz.results83, go_sem, tellsF]) rfl ⟨?_, rfl⟩
        rw [hexTell, HA.out]; rfl
      · have HS := Lib.hid (hexstep_good s k hlt hn ha)
        clear ha
        go_wp2
        go_roundg (s.size - (k + 1))
        case measure => rw [HG.out]; omega
        case rel => exact ⟨k + 1, rfl, hlt, by rw [HS.out.2], rfl, HS.out.1, rfl⟩
    · obtain rfl : k = s.size := by omega
      rw [show s.data.toList.take s.size = s.data.toList from List.take_of_length_le (by simp)] at ha ⊢
      by_cases h16 : s.size = 16
      · have hb : ((s.size : Int) != 16) = false := by rw [h16]; rfl
        have hf := hexFold_lt s.data.toList
        have ht : hexTell s.data.toList = (oneW (hexFold s.data.toList), 0) := by
          rw [hexTell, ha, show s.data.toList.length = 16 by simpa using h16]; rfl
        rw [show s.data.toList.length = 16 by simpa using h16] at hf
        have hm : ((hexFold s.data.toList : Nat) : Int) % 18446744073709551616 = ((hexFold s.data.toList : Nat) : Int) := by omega
        have HT := Lib.hid ht; clear ht
        rw [hm]
        clear hm hf ha h16
        go_wp2_with fail
        refine (rof_any _ _).mono ?_
        rintro en w1 ⟨rfl, rfl⟩
        go_wp2
        exact bodyPost_ret (v := tellsF (oneW (hexFold s.data.toList), 0)) (by simp [results, Tryz.results83, go_sem, tellsF]) rfl ⟨by rw [HT.out], rfl⟩
      · have hb : ((s.size : Int) != 16) = true := by simp; omega
        have ht : hexTell s.data.toList = (0, 6) := by
          rw [hexTell, if_neg (by simp; intro _; exact h16)]
        have HT := Lib.hid ht; clear ht
        clear ha h16
        go_wp2
        exact bodyPost_ret (v := tellsF (0, 6)) (by simp [results, Tryz.results83, go_sem, tellsF]) rfl ⟨by rw [HT.out], rfl⟩
end Go.Proofs.YtidjnfjpdnjogaaGreatDoor

/-
  Package real: a number read. Conditions: none.
-/
namespace Go.Proofs.YtidjnfjpdnjogaaGreatDoor
open Go.RowKit Go.Lib

theorem parse_nan (w : World) : Calls Tryz.prog 50 #[.string ⟨#[110, 97, 110]⟩] w fun en w' => en = .returned (tellsF (9221120237041090560, 0)) ∧ w = w' := by
  go_enter Tryz.func50, Tryz.ntmps50
  go_wp2_with fail
  refine (rof_any _ _).mono ?_
  rintro en w1 ⟨rfl, rfl⟩
  go_wp2
  exact bodyPost_ret (v := tellsF (9221120237041090560, 0)) (by simp [results, Tryz.results50, go_sem, tellsF]; rfl) rfl ⟨rfl, rfl⟩
theorem parse_inf (w : World) : Calls Tryz.prog 50 #[.string ⟨#[105, 110, 102]⟩] w fun en w' => en = .returned (tellsF (9218868437227405312, 0)) ∧ w = w' := by
  go_enter Tryz.func50, Tryz.ntmps50
  go_wp2_with fail
  refine (minf_pos _).mono ?_
  rintro en w1 ⟨rfl, rfl⟩
  go_wp2
  exact bodyPost_ret (v := tellsF (9218868437227405312, 0)) (by simp [results, Tryz.results50, go_sem, tellsF]) rfl ⟨rfl, rfl⟩
theorem parse_minf (w : World) : Calls Tryz.prog 50 #[.string ⟨#[45, 105, 110, 102]⟩] w fun en w' => en = .returned (tellsF (18442240474082181120, 0)) ∧ w = w' := by
  go_enter Tryz.func50, Tryz.ntmps50
  go_wp2_with fail
  refine (minf_neg _).mono ?_
  rintro en w1 ⟨rfl, rfl⟩
  go_wp2
  exact bodyPost_ret (v := tellsF (18442240474082181120, 0)) (by simp [results, Tryz.results50, go_sem, tellsF]) rfl ⟨rfl, rfl⟩
theorem parse_mzero (w : World) : Calls Tryz.prog 50 #[.string ⟨#[45, 48]⟩] w fun en w' => en = .returned (tellsF (9223372036854775808, 0)) ∧ w = w' := by
  go_enter Tryz.func50, Tryz.ntmps50
  go_wp2_with fail
  refine (mcopy_any _).mono ?_
  rintro en w1 ⟨rfl, rfl⟩
  go_wp2
  exact bodyPost_ret (v := tellsF (9223372036854775808, 0)) (by simp [results, Tryz.results50, go_sem, tellsF]) rfl ⟨rfl, rfl⟩

structure Plainly (s : ByteArray) : Prop where
  f1 : (s.toList == [110, 97, 110]) = false
  f2 : (s.toList == [105, 110, 102]) = false
  f3 : (s.toList == [45, 105, 110, 102]) = false
  f4 : (s.toList == [45, 48]) = false

theorem parse_x (s : ByteArray) (hs : s.size ≤ 281474976710656) (hp : Plainly s) (hx : hasPrefix s.data.toList [120] = true) (w : World) : Calls Tryz.prog 50 #[.string s] w fun en w' => en = .returned (tellsF (hexTell (trimPrefix s.data.toList [120]))) ∧ w = w' := by
  obtain ⟨f1, f2, f3, f4⟩ := hp
  have HC := Lib.hid (Tryz.strings_CutPrefix s ⟨#[120]⟩)
  obtain ⟨d, hd⟩ : ∃ d : ByteArray, d = ⟨(trimPrefix s.data.toList [120]).toArray⟩ := ⟨_, rfl⟩
  have hz : d.size ≤ 281474976710656 := by
    have h1 : d.size = (trimPrefix s.data.toList [120]).length := by rw [hd]; simp [ByteArray.size]
    have h2 : (trimPrefix s.data.toList [120]).length ≤ s.data.toList.length := by
      unfold trimPrefix; split <;> simp
    have h3 : s.data.toList.length = s.size := by simp
    omega
  have hl : trimPrefix s.data.toList [120] = d.data.toList := by rw [hd]
  rw [hl]
  have HC2 : Hid (∀ w, Calls Tryz.prog 82 #[.string s, .string ⟨#[120]⟩] w (fun e w' => e = .returned (.tuple #[.string d, .bool true]) ∧ w' = w)) := Lib.hid fun w => by
    have h := HC.out w
    rw [hd, ← hx]; exact h
  clear HC hd hx hs hl
  go_enter Tryz.func50, Tryz.ntmps50
  go_wp2_with fail
  refine (HC2.out _).mono ?_
  rintro en w1 ⟨rfl, rfl⟩
  go_wp2_with fail
  refine (hex_any d hz _).mono ?_
  rintro en w1 ⟨h, rfl⟩
  unfold tellsF at h
  subst h
  go_wp2
  exact bodyPost_ret (v := tellsF (hexTell d.data.toList)) (by simp [results, Tryz.results50, go_sem, tellsF]) rfl ⟨rfl, rfl⟩
end Go.Proofs.YtidjnfjpdnjogaaGreatDoor

/-
  Sums of floats: what is added, and the one NaN. Plain, and the operation's run. Conditions: none.
-/
namespace Go.Proofs.YtidjnfjpdnjogaaGreatDoor
open Go.RowKit Go.Lib

/-- The sum of two, by its bits; of each NaN the one. -/
def addC (a b : Nat) : Nat := match Ieee.double.add a b with
  | some r => oneW r
  | none => 9221120237041090560

theorem add_nan (a b : Nat) (h : ¬ fine a ∨ ¬ fine b) : Ieee.double.add a b = none := by
  have key : ∀ r, ¬ r ≤ 9218868437227405312 → ∀ s, (if r < 4503599627370496 then Ieee.Datum.number s r (-1074) else if r < 9218868437227405312 then .number s (4503599627370496 + r % 4503599627370496) (-1074 + (r / 4503599627370496 - 1 : Nat)) else if r = 9218868437227405312 then .infinity s else .nan s (r - 9218868437227405312)) = Ieee.Datum.nan s (r - 9218868437227405312) := fun r hr s => by
    rw [if_neg (by omega), if_neg (by omega), if_neg (by omega)]
  rw [Ieee.Format.add, read_double, read_double]
  unfold fine at h
  rcases h with h | h
  · rw [key _ h]; rfl
  · rw [key _ h]
    generalize (if rungOf a < 4503599627370496 then Ieee.Datum.number (negOf a) (rungOf a) (-1074) else _) = d
    cases d <;> rfl

theorem fine_dec (b : Nat) : (nanW b = false ∧ fine b) ∨ (nanW b = true ∧ ¬ fine b) := by
  by_cases h : fine b
  · exact Or.inl ⟨nanW_fine h, h⟩
  · exact Or.inr ⟨nanW_not h, h⟩

theorem addC_one (a b : Nat) : addC (oneW a) b = addC a b := by
  rcases fine_dec a with ⟨h, _⟩ | ⟨h, hf⟩
  · rw [oneW_not h]
  · rw [oneW_nan h, addC, addC, add_nan _ b (Or.inl hf), add_nan _ b (Or.inl not_fine_one)]

theorem nan_rung {x : Nat} (h : ¬ fine x) : oneW x = 9221120237041090560 := oneW_nan (nanW_not h)

def nanDraw (w : World) (a b : Nat) : Nat := (Question.nanBits .f64 a b).cut (w.tape w.drawn (.nanBits .f64 a b))
theorem nanDraw_not (w : World) (a b : Nat) : ¬ fine (nanDraw w a b) ∧ nanDraw w a b < 18446744073709551616 := by
  unfold fine rungOf nanDraw Question.cut
  simp only
  generalize w.tape w.drawn (.nanBits .f64 a b) = t
  have h1 : t % 2 < 2 := Nat.mod_lt _ (by decide)
  have h2 : t / 2 % 4503599627370495 < 4503599627370495 := Nat.mod_lt _ (by decide)
  show ¬ (t % 2 * 9223372036854775808 + 9218868437227405312 + 1 + t / 2 % 4503599627370495) % 9223372036854775808 ≤ 9218868437227405312 ∧ t % 2 * 9223372036854775808 + 9218868437227405312 + 1 + t / 2 % 4503599627370495 < 18446744073709551616
  revert h1 h2
  generalize t % 2 = x
  generalize t / 2 % 4503599627370495 = y
  intro h1 h2
  omega

theorem run_add (a b r : Nat) (h : Ieee.double.add a b = some r) (t : TypeId) (w : World) : (binOp .add t (.float .f64 a) (.float .f64 b)).run Tryz.prog w = .ok (.float .f64 r) w :=
  run_float_arith w .add t .f64 a b r h
theorem run_add_nan (a b : Nat) (h : Ieee.double.add a b = none) (t : TypeId) (w : World) : (binOp .add t (.float .f64 a) (.float .f64 b)).run Tryz.prog w = .ok (.float .f64 (nanDraw w a b)) w.drew := by
  have h2 : FloatKind.f64.format.add a b = none := h
  simp [binOp, Op.floatArith, h2, Question.forced, nanDraw]

theorem addC_some {a b r : Nat} (h : Ieee.double.add a b = some r) : oneW r = addC a b := by rw [addC, h]
theorem addC_none {a b x : Nat} (h : Ieee.double.add a b = none) (hx : ¬ fine x) : oneW x = addC a b := by rw [addC, h, nan_rung hx]
theorem add_bits {a b r : Nat} (h : Ieee.double.add a b = some r) : r < 18446744073709551616 := by
  have := Ieee.Format.add_lt Ieee.double h
  have e : (2 : Nat) ^ Ieee.double.width = 18446744073709551616 := by decide
  rw [e] at this; exact this

/-- The sum of a list, from the left to the right. -/
def sumC (L : Nat → Nat) : Nat → Nat
  | 0 => oneW (L 0)
  | k + 1 => addC (sumC L k) (L (k + 1))
theorem sumC_one (L : Nat → Nat) (k : Nat) : oneW (sumC L k) = sumC L k := by
  have h1 : ∀ b, oneW (oneW b) = oneW b := fun b => by
    rcases fine_dec b with ⟨h, _⟩ | ⟨h, _⟩
    · rw [oneW_not h, oneW_not h]
    · rw [oneW_nan h]; decide +kernel
  cases k with
  | zero => exact h1 _
  | succ k =>
    show oneW (addC _ _) = addC _ _
    unfold addC
    split
    · exact h1 _
    · decide +kernel
/-- The first one, or the last one, of a list. -/
def leastC (L : Nat → Nat) : Nat → Nat
  | 0 => 9221120237041090560
  | k + 1 => if lessB (L k) (leastC L k) then L k else leastC L k
def mostC (L : Nat → Nat) : Nat → Nat
  | 0 => L 0
  | k + 1 => if lessB (mostC L k) (L (k + 1)) then L (k + 1) else mostC L k
end Go.Proofs.YtidjnfjpdnjogaaGreatDoor

/-
  Package real: sums, the first one and the last one of a list. Conditions: none.
-/
namespace Go.Proofs.YtidjnfjpdnjogaaGreatDoor
open Go.RowKit Go.Lib

/-- Floats that lie in memory, one behind the other. -/
structure FlIn (w : World) (b off len : Nat) (L : Nat → Nat) : Prop where
  c : ∀ i, i < len → w.cell? ⟨b, off + i, none⟩ = some (.float .f64 (L i))
  bl : b < w.heap.size
theorem FlIn.block {w w' : World} {b off len : Nat} {L : Nat → Nat} (h : FlIn w b off len L) (hs : w.heap.size ≤ w'.heap.size) (hb : w'.heap[b]? = w.heap[b]?) : FlIn w' b off len L :=
  ⟨fun i hi => (World.cell?_of_block (w := w) hb).trans (h.c i hi), Nat.lt_of_lt_of_le h.bl hs⟩
theorem FlIn.below {W w : World} {b off len : Nat} {L : Nat → Nat} (h : FlIn W b off len L) (hb : Below W.heap.size W w) : FlIn w b off len L := h.block hb.size (hb.block _ h.bl)

theorem leastC_lt {L : Nat → Nat} {n : Nat} (h : ∀ i, i < n → L i < 18446744073709551616) : ∀ k, k ≤ n → leastC L k < 18446744073709551616
  | 0, _ => by unfold leastC; decide
  | k + 1, hk => by
    unfold leastC
    split
    · exact h k (by omega)
    · exact leastC_lt h k (by omega)
theorem mostC_lt {L : Nat → Nat} {n : Nat} (h : ∀ i, i < n → L i < 18446744073709551616) : ∀ k, k < n → mostC L k < 18446744073709551616
  | 0, hk => h 0 hk
  | k + 1, hk => by
    unfold mostC
    split
    · exact h (k + 1) hk
    · exact mostC_lt h k (by omega)

set_option maxRecDepth 100000 in
theorem least_any (b off len cap : Nat) (hm : len ≤ maxLen) (L : Nat → Nat) (hL : ∀ i, i < len → L i < 18446744073709551616) (w : World) (hF : FlIn w b off len L) :
    Calls Tryz.prog 93 #[.slice (some ⟨b, off, none⟩) len cap] w fun en w' => en = .returned (.float .f64 (leastC L len)) ∧ w = w' := by
  have HF := Lib.hid hF
  have h63 : (len : Int) < 9223372036854775808 := by unfold maxLen at hm; omega
  have HL := Lib.hid (leastC_lt hL)
  have HM := Lib.hid hL
  clear hF hm hL
  go_enter Tryz.func93, Tryz.ntmps93
  go_wp2_with fail
  refine (rof_any _ _).mono ?_
  rintro en w4 ⟨h, rfl⟩
  rw [show oneW 9221120237041090560 = 9221120237041090560 by decide +kernel] at h
  subst h
  go_wp2_with fail
  go_loopg [3, 9] len (fun g o i wr => ∃ k : Nat, g = len - k ∧ k ≤ len ∧ o = .float .f64 (leastC L k) ∧ i = .int .i64 k ∧ wr = w)
  case atStart => exact ⟨0, by omega, by omega, rfl, rfl, rfl⟩
  case round =>
    obtain ⟨k, hg, hk, rfl, rfl, rfl⟩ := hrel
    have HG := Lib.hid hg; clear hg
    by_cases hlt : k < len
    · have c1 := HF.out.c k hlt
      have hl : (k : Int) < (len : Int) := by omega
      have hw1 : IntKind.i64.wrap ((k : Int) + 1) = (k : Int) + 1 := IntWalk.i64_in _ (by omega)
      have H1 := Lib.hid (less_any (L k) (leastC L k) (HM.out k hlt) (HL.out k hk))
      have hs : leastC L (k + 1) = if lessB (L k) (leastC L k) then L k else leastC L k := rfl
      revert H1 hs
      generalize lessB (L k) (leastC L k) = x
      intro H1 hs
      have HS := Lib.hid hs; clear hs
      cases x
      all_goals
        go_wp2_with fail
        refine (H1.out _).mono ?_
        rintro en w4 ⟨rfl, rfl⟩
        go_wp2
        go_roundg (len - (k + 1))
        case measure => rw [HG.out]; omega
        case rel => exact ⟨k + 1, rfl, by omega, by rw [HS.out]; rfl, rfl, rfl⟩
    · obtain rfl : k = len := by omega
      go_wp2
      go_ret
      exact ⟨rfl, rfl⟩

set_option maxRecDepth 100000 in
theorem most_any (b off len cap : Nat) (h0 : 0 < len) (hm : len ≤ maxLen) (L : Nat → Nat) (hL : ∀ i, i < len → L i < 18446744073709551616) (w : World) (hF : FlIn w b off len L) :
    Calls Tryz.prog 94 #[.slice (some ⟨b, off, none⟩) len cap] w fun en w' => en = .returned (.float .f64 (oneW (mostC L (len - 1)))) ∧ w = w' := by
  have HF := Lib.hid hF
  have h63 : (len : Int) < 9223372036854775808 := by unfold maxLen at hm; omega
  have HL := Lib.hid (mostC_lt hL)
  have HM := Lib.hid hL
  have c0 := hF.c 0 h0
  rw [Nat.add_zero] at c0
  have k0 : ((len : Int) == 0) = false := beq_eq_false_iff_ne.2 (by omega)
  have hp : (0 : Int) < (len : Int) := by omega
  clear hF hm hL
  go_enter Tryz.func94, Tryz.ntmps94
  go_wp2_with fail
  go_loopg [3, 15] len (fun g o i wr => ∃ k : Nat, g = len - k ∧ k ≤ len ∧ o = .float .f64 (mostC L (k - 1)) ∧ i = .int .i64 k ∧ wr = w)
  case atStart => exact ⟨0, by omega, by omega, rfl, rfl, rfl⟩
  case round =>
    obtain ⟨k, hg, hk, rfl, rfl, rfl⟩ := hrel
    have HG := Lib.hid hg; clear hg
    by_cases hlt : k < len
    · have c1 := HF.out.c k hlt
      have hl : (k : Int) < (len : Int) := by omega
      have hw1 : IntKind.i64.wrap ((k : Int) + 1) = (k : Int) + 1 := IntWalk.i64_in _ (by omega)
      have H1 := Lib.hid (less_any (mostC L (k - 1)) (L k) (HL.out (k - 1) (by omega)) (HM.out k hlt))
      have hs : mostC L (k + 1 - 1) = if lessB (mostC L (k - 1)) (L k) then L k else mostC L (k - 1) := by
        cases k with
        | zero => show L 0 = if lessB (L 0) (L 0) then L 0 else L 0; simp
        | succ k => rfl
      revert H1 hs
      generalize lessB (mostC L (k - 1)) (L k) = x
      intro H1 hs
      have HS := Lib.hid hs; clear hs
      cases x
      all_goals
        go_wp2_with fail
        refine (H1.out _).mono ?_
        rintro en w4 ⟨rfl, rfl⟩
        go_wp2
        go_roundg (len - (k + 1))
        case measure => rw [HG.out]; omega
        case rel => exact ⟨k + 1, rfl, by omega, by rw [HS.out]; rfl, rfl, rfl⟩
    · obtain rfl : k = len := by omega
      go_wp2_with fail
      refine (canon_any _ _).mono ?_
      rintro en w4 ⟨rfl, rfl⟩
      go_wp2
      go_ret
      exact ⟨rfl, rfl⟩
end Go.Proofs.YtidjnfjpdnjogaaGreatDoor

/-
  Package real: the text of every number, every text as a number. Conditions: none.
-/
namespace Go.Proofs.YtidjnfjpdnjogaaGreatDoor
open Go.RowKit Go.Lib

/-- A number's text. -/
def textB (b : Nat) : List UInt8 :=
  if classB b = 0 then [110, 97, 110] else if classB b = 1 then [45, 105, 110, 102] else if classB b = 6 then [105, 110, 102] else if classB b = 3 then [45, 48]
  else if wholeB b then itoa (nOf b) else 120 :: hexDig b

/-- What a text that is written by digits tells. -/
def digTell (l : List UInt8) : Nat × Int :=
  if (numberOf l).2 ≠ 0 ∨ 999999999999999 < (numberOf l).1 ∨ (numberOf l).1 < -999999999999999 then (0, 6) else (intF (numberOf l).1, 0)
/-- What a text tells: a number's bits, and the error's number. -/
def parseB (l : List UInt8) : Nat × Int :=
  if l = [110, 97, 110] then (9221120237041090560, 0) else if l = [105, 110, 102] then (9218868437227405312, 0) else if l = [45, 105, 110, 102] then (18442240474082181120, 0)
  else if l = [45, 48] then (9223372036854775808, 0) else if hasPrefix l [120] then hexTell (trimPrefix l [120]) else digTell l

theorem trunc_key (b : Nat) (s : Bool) (m : Nat) (p : Int) (e : FloatKind.f64.decode b = Ieee.Datum.number s m p) :
    Extern.MathFloor.toIntegral "math.archTrunc" .zero #[.float .f64 b] = pure (.float .f64 (FloatKind.f64.encode ((Ieee.Datum.number s m p).integral .zero))) := by
  have h : Extern.MathFloor.toIntegral "math.archTrunc" .zero #[.float .f64 b] = Extern.MathFloor.toIntegral "math.archTrunc" .zero #[.float .f64 b] := rfl
  conv at h => rhs; whnf
  rw [h, e]

theorem runTruncA (b : Nat) (h : rungOf b < 9218868437227405312) (w : World) : (callFunc 109 #[.float .f64 b]).run Tryz.prog w = .ok (.value (.float .f64 (intW (negOf b) (qOf b)))) w := by
  rw [run_callFunc_extern (e := Extern.MathFloor.toIntegral "math.archTrunc" .zero) Tryz.func109 (by kernel_rfl) (by kernel_rfl) (by kernel_rfl) (by kernel_rfl)]
  have t := trunc_is b h
  obtain ⟨m, p, e, hm⟩ := decode_num b h
  rw [e] at t
  rw [trunc_key b _ _ _ e, t]
  rfl

theorem trunc_any (b : Nat) (h : rungOf b < 9218868437227405312) (w : World) : Calls Tryz.prog 97 #[.float .f64 b] w fun en w' => en = .returned (.float .f64 (intW (negOf b) (qOf b))) ∧ w = w' := by
  have h2 := runTruncA b h
  clear h
  revert h2
  generalize intW (negOf b) (qOf b) = t
  intro h2
  go_enter Tryz.func97, Tryz.ntmps97
  go_wp2
  go_ret
  exact ⟨rfl, rfl⟩

theorem class_fin {b : Nat} (hc : classB b = 2 ∨ classB b = 4 ∨ classB b = 5) : rungOf b < 9218868437227405312 := by
  unfold classB at hc
  have := rungOf_lt b
  by_cases h1 : 9218868437227405312 < rungOf b
  · rw [if_pos h1] at hc; omega
  · rw [if_neg h1] at hc
    by_cases h2 : rungOf b = 9218868437227405312
    · rw [if_pos h2] at hc
      split at hc <;> omega
    · omega
theorem nOf_range {b : Nat} (h : wholeB b = true) : -999999999999999 ≤ nOf b ∧ nOf b ≤ 999999999999999 ∧ qOf b ≤ 999999999999999 ∧ evenB b = true := by
  unfold wholeB at h
  rw [Bool.and_eq_true, decide_eq_true_eq] at h
  refine ⟨?_, ?_, h.1, h.2⟩ <;> unfold nOf sgn <;> split <;> omega

theorem run_conv_int (b : Nat) (h : rungOf b < 9218868437227405312) (hq : qOf b ≤ 999999999999999) (w : World) : (convert 45 3 (.float .f64 b)).run Tryz.prog w = .ok (.int .i64 (nOf b)) w :=
  run_convert_float_int w 45 3 .f64 .i64 b (nOf b) (by kernel_rfl) Tryz.underlying3 (toInt_is b h (Nat.le_trans hq (by decide)))

theorem class_vals (b : Nat) : classB b = 0 ∨ classB b = 1 ∨ classB b = 6 ∨ classB b = 3 ∨ classB b = 2 ∨ classB b = 4 ∨ classB b = 5 := by
  unfold classB
  split
  · omega
  split
  · split <;> omega
  split
  · split <;> omega
  split <;> omega
theorem whole_zero {b : Nat} (h : classB b = 4) : wholeB b = true ∧ rungOf b = 0 ∧ negOf b = false := by
  have hr : rungOf b = 0 ∧ negOf b = false := by
    unfold classB at h
    split at h
    · omega
    split at h
    · split at h <;> omega
    split at h
    · rename_i h0
      split at h
      · omega
      · rename_i h1
        exact ⟨h0, by simpa using h1⟩
    · split at h <;> omega
  refine ⟨?_, hr⟩
  have hm : magM (rungOf b) = 0 := by rw [hr.1]; rfl
  unfold wholeB evenB qOf
  rw [hm, Nat.zero_div, Nat.zero_mod]
  rfl
theorem class_nz {b : Nat} (h : classB b = 2 ∨ classB b = 5) : rungOf b ≠ 0 := by
  intro h0
  unfold classB at h
  rw [if_neg (by omega), if_neg (by omega), if_pos h0] at h
  split at h <;> omega

end Go.Proofs.YtidjnfjpdnjogaaGreatDoor

/-
  Package real: the text of bits. Conditions: none.
-/
namespace Go.Proofs.YtidjnfjpdnjogaaGreatDoor
open Go.RowKit Go.Lib

theorem sign_at : ∀ i : Fin 16, ((⟨#[48, 49, 50, 51, 52, 53, 54, 55, 56, 57, 97, 98, 99, 100, 101, 102]⟩ : ByteArray)[i.val]'i.isLt).toNat = (hexSign i.val).toNat := by decide +kernel
theorem sign_mask (b k : Nat) (hb : b < 18446744073709551616) : bits .and .u64 ((b : Int) / 2 ^ (4 * (15 - k))) 15 = ((b / 16 ^ (15 - k) % 16 : Nat) : Int) := by
  have h1 : (2 : Nat) ^ (4 * (15 - k)) = 16 ^ (15 - k) := by rw [Nat.pow_mul]
  have h2 : (b : Int) / 2 ^ (4 * (15 - k)) = ((b / 16 ^ (15 - k) : Nat) : Int) := by rw [← h1]; simp
  have h3 : b / 16 ^ (15 - k) ≤ b := Nat.div_le_self _ _
  rw [h2, show (15 : Int) = ((15 : Nat) : Int) from rfl, bits_and_u64_nat _ _ (by omega) (by decide)]
  rw [show (15 : Nat) = 2 ^ 4 - 1 from rfl, Nat.and_two_pow_sub_one_eq_mod]
theorem hexDig_next (b k : Nat) (h : k < 16) : (hexDig b).take (k + 1) = (hexDig b).take k ++ [hexSign (b / 16 ^ (15 - k) % 16)] := by
  have hk : k < (hexDig b).length := by rw [hexDig_length]; omega
  rw [List.take_succ_eq_append_getElem hk]
  simp [hexDig]

end Go.Proofs.YtidjnfjpdnjogaaGreatDoor

/-
  Package real: every text as a number; and that what is told is read. Conditions: none.
-/
namespace Go.Proofs.YtidjnfjpdnjogaaGreatDoor
open Go.RowKit Go.Lib

theorem parse_num (s : ByteArray) (hp : Plainly s) (hx : hasPrefix s.data.toList [120] = false) (w : World) : Calls Tryz.prog 50 #[.string s] w fun en w' => en = .returned (tellsF (digTell s.data.toList)) ∧ w = w' := by
  obtain ⟨f1, f2, f3, f4⟩ := hp
  have HC : Hid (∀ w, Calls Tryz.prog 82 #[.string s, .string ⟨#[120]⟩] w (fun e w' => e = .returned (.tuple #[.string s, .bool false]) ∧ w' = w)) := Lib.hid fun w => by
    have h := Tryz.strings_CutPrefix s ⟨#[120]⟩ w
    have e1 : trimPrefix s.data.toList (ByteArray.mk #[120]).data.toList = s.data.toList := by
      unfold trimPrefix
      rw [show hasPrefix s.data.toList (ByteArray.mk #[120]).data.toList = false from hx]
      rfl
    have e2 : hasPrefix s.data.toList (ByteArray.mk #[120]).data.toList = false := hx
    rw [e1, e2] at h
    exact h
  have HN := Lib.hid (number_any s)
  have hd : digTell s.data.toList = if (numberOf s.data.toList).2 ≠ 0 ∨ 999999999999999 < (numberOf s.data.toList).1 ∨ (numberOf s.data.toList).1 < -999999999999999 then (0, 6) else (intF (numberOf s.data.toList).1, 0) := rfl
  rw [hd]
  clear hd hx
  revert HN
  generalize numberOf s.data.toList = r
  intro HN
  obtain ⟨n, e⟩ := r
  have hcv : ∀ w : World, (convert 3 45 (.int .i64 n)).run Tryz.prog w = .ok (.float .f64 (intF n)) w := fun w => run_convert_int_float w 3 45 .i64 .f64 n (by kernel_rfl) Tryz.underlying45
  unfold tells at HN
  by_cases he : e = 0
  · subst he
    by_cases h1 : 999999999999999 < n
    · rw [if_pos (Or.inr (Or.inl h1))]
      go_enter Tryz.func50, Tryz.ntmps50
      go_wp2_with fail
      refine (HC.out _).mono ?_
      rintro en w1 ⟨rfl, rfl⟩
      go_wp2_with fail
      refine (HN.out _).mono ?_
      rintro en w1 ⟨rfl, rfl⟩
      go_wp2
      exact bodyPost_ret (v := tellsF (0, 6)) (by simp [results, Tryz.results50, go_sem, tellsF]) rfl ⟨rfl, rfl⟩
    · by_cases h2 : n < -999999999999999
      · rw [if_pos (Or.inr (Or.inr h2))]
        go_enter Tryz.func50, Tryz.ntmps50
        go_wp2_with fail
        refine (HC.out _).mono ?_
        rintro en w1 ⟨rfl, rfl⟩
        go_wp2_with fail
        refine (HN.out _).mono ?_
        rintro en w1 ⟨rfl, rfl⟩
        go_wp2
        exact bodyPost_ret (v := tellsF (0, 6)) (by simp [results, Tryz.results50, go_sem, tellsF]) rfl ⟨rfl, rfl⟩
      · rw [if_neg (by rintro (h | h | h) <;> first | exact h rfl | exact h1 h | exact h2 h)]
        revert hcv
        generalize intF n = x
        intro hcv
        go_enter Tryz.func50, Tryz.ntmps50
        go_wp2_with fail
        refine (HC.out _).mono ?_
        rintro en w1 ⟨rfl, rfl⟩
        go_wp2_with fail
        refine (HN.out _).mono ?_
        rintro en w1 ⟨rfl, rfl⟩
        go_wp2
        exact bodyPost_ret (v := tellsF (x, 0)) (by simp [results, Tryz.results50, go_sem, tellsF]) rfl ⟨rfl, rfl⟩
  · rw [if_pos (Or.inl he)]
    have he2 : (e != 0) = true := by simpa using he
    clear he hcv
    go_enter Tryz.func50, Tryz.ntmps50
    go_wp2_with fail
    refine (HC.out _).mono ?_
    rintro en w1 ⟨rfl, rfl⟩
    go_wp2_with fail
    refine (HN.out _).mono ?_
    rintro en w1 ⟨rfl, rfl⟩
    go_wp2
    exact bodyPost_ret (v := tellsF (0, 6)) (by simp [results, Tryz.results50, go_sem, tellsF]) rfl ⟨rfl, rfl⟩

theorem of_list {s : ByteArray} {l : List UInt8} (h : s.data.toList = l) : s = ⟨l.toArray⟩ := by
  subst h
  apply ByteArray.ext
  simp

theorem parse_any (s : ByteArray) (hs : s.size ≤ 281474976710656) (w : World) : Calls Tryz.prog 50 #[.string s] w fun en w' => en = .returned (tellsF (parseB s.data.toList)) ∧ w = w' := by
  by_cases h1 : s.data.toList = [110, 97, 110]
  · rw [parseB, if_pos h1, of_list h1]; exact parse_nan w
  by_cases h2 : s.data.toList = [105, 110, 102]
  · rw [parseB, if_neg h1, if_pos h2, of_list h2]; exact parse_inf w
  by_cases h3 : s.data.toList = [45, 105, 110, 102]
  · rw [parseB, if_neg h1, if_neg h2, if_pos h3, of_list h3]; exact parse_minf w
  by_cases h4 : s.data.toList = [45, 48]
  · rw [parseB, if_neg h1, if_neg h2, if_neg h3, if_pos h4, of_list h4]; exact parse_mzero w
  rw [parseB, if_neg h1, if_neg h2, if_neg h3, if_neg h4]
  have hp : Plainly s := by
    refine ⟨?_, ?_, ?_, ?_⟩ <;> rw [Lib.toList_data] <;> simpa using by assumption
  cases hx : hasPrefix s.data.toList [120]
  · exact parse_num s hp hx w
  · exact parse_x s hs hp hx w

/-! The plain law: what is told is read. -/
theorem parseB_low {l : List UInt8} (h : l.length ≠ 2 ∧ l.length ≠ 3 ∧ l.length ≠ 4) : parseB l = if hasPrefix l [120] then hexTell (trimPrefix l [120]) else digTell l := by
  rw [parseB, if_neg (by rintro rfl; exact h.2.1 rfl), if_neg (by rintro rfl; exact h.2.1 rfl), if_neg (by rintro rfl; exact h.2.2 rfl), if_neg (by rintro rfl; exact h.1 rfl)]

theorem pre_x (c : UInt8) (l : List UInt8) : hasPrefix (c :: l) [120] = (c == 120) := by
  show ((120 : UInt8) == c && List.isPrefixOf [] l) = _
  rw [List.isPrefixOf, Bool.and_true, Bool.beq_comm]
theorem parse_hexDig (b : Nat) (hb : b < 18446744073709551616) : parseB (120 :: hexDig b) = (oneW b, 0) := by
  rw [parseB_low (by rw [List.length_cons, hexDig_length]; decide), pre_x]
  have e : trimPrefix (120 :: hexDig b) [120] = hexDig b := by
    unfold trimPrefix
    rw [pre_x]; rfl
  rw [e, hexTell_dig b hb]; rfl

/-- The text of a whole number is none of the words. -/
theorem itoa_plain (n : Int) : itoa n ≠ [110, 97, 110] ∧ itoa n ≠ [105, 110, 102] ∧ itoa n ≠ [45, 105, 110, 102] ∧ itoa n ≠ [45, 48] ∧ hasPrefix (itoa n) [120] = false := by
  by_cases h : n < 0
  · rw [itoa_minus h]
    obtain ⟨c, l, e, hc⟩ := dec_cons n.natAbs
    have h0 := dec_head n.natAbs (by omega)
    rw [e] at h0 ⊢
    simp only [List.getD_cons_zero] at h0
    refine ⟨by simp, by simp, ?_, ?_, by rw [pre_x]; decide⟩
    · intro h1
      simp only [List.cons.injEq, true_and] at h1
      obtain ⟨rfl, _⟩ := h1
      exact absurd hc (by decide)
    · intro h1
      simp only [List.cons.injEq, true_and] at h1
      obtain ⟨rfl, _⟩ := h1
      exact h0 rfl
  · rw [itoa_pos h]
    obtain ⟨c, l, e, hc⟩ := dec_cons n.toNat
    rw [e]
    refine ⟨?_, ?_, ?_, ?_, ?_⟩
    · intro h1; simp only [List.cons.injEq] at h1; rw [h1.1] at hc; exact absurd hc (by decide)
    · intro h1; simp only [List.cons.injEq] at h1; rw [h1.1] at hc; exact absurd hc (by decide)
    · intro h1; simp only [List.cons.injEq] at h1; rw [h1.1] at hc; exact absurd hc (by decide)
    · intro h1; simp only [List.cons.injEq] at h1; rw [h1.1] at hc; exact absurd hc (by decide)
    · rw [pre_x, beq_eq_false_iff_ne]
      rintro rfl
      exact absurd hc (by decide)

theorem parse_itoa (n : Int) (h0 : -999999999999999 ≤ n) (h1 : n ≤ 999999999999999) : parseB (itoa n) = (intF n, 0) := by
  obtain ⟨a1, a2, a3, a4, a5⟩ := itoa_plain n
  rw [parseB, if_neg a1, if_neg a2, if_neg a3, if_neg a4, a5]
  simp only [Bool.false_eq_true, if_false]
  rw [digTell, number_itoa n (by omega) (by omega)]
  rw [if_neg]
  simp only
  omega

theorem word_of {b : Nat} (hb : b < 18446744073709551616) : b = (if negOf b then 9223372036854775808 else 0) + rungOf b := by
  unfold negOf rungOf
  by_cases hc : b / 9223372036854775808 % 2 = 1
  · rw [if_pos (by simpa using hc)]; omega
  · rw [if_neg (by simpa using hc)]; omega
theorem class_word {b : Nat} (hb : b < 18446744073709551616) : (classB b = 0 → ¬ fine b) ∧ (classB b = 1 → b = 18442240474082181120) ∧ (classB b = 6 → b = 9218868437227405312) ∧ (classB b = 3 → b = 9223372036854775808) ∧ (classB b = 4 → b = 0) ∧ (classB b ≠ 0 → fine b) := by
  have hw := word_of hb
  have hr := rungOf_lt b
  unfold classB fine
  revert hw hr
  generalize rungOf b = r
  generalize negOf b = s
  intro hw hr
  by_cases h1 : 9218868437227405312 < r
  · rw [if_pos h1]
    exact ⟨fun _ => by omega, fun h => by omega, fun h => by omega, fun h => by omega, fun h => by omega, fun h => absurd rfl h⟩
  · rw [if_neg h1]
    by_cases h2 : r = 9218868437227405312
    · subst h2
      cases s <;> simp at hw ⊢ <;> exact hw
    · rw [if_neg h2]
      by_cases h3 : r = 0
      · subst h3
        cases s <;> simp at hw ⊢ <;> exact hw
      · rw [if_neg h3]
        cases s <;> simp <;> omega

theorem nan_word {b : Nat} (h : ¬ fine b) : oneW b = 9221120237041090560 := oneW_nan (nanW_not h)
theorem intF_zero : intF 0 = 0 := by decide +kernel

theorem parse_text (b : Nat) (hb : b < 18446744073709551616) : parseB (textB b) = (oneW b, 0) := by
  obtain ⟨c0, c1, c6, c3, c4, cf⟩ := class_word hb
  rcases class_vals b with h | h | h | h | h
  · rw [textB, if_pos h, nan_word (c0 h)]; decide +kernel
  · rw [textB, if_neg (by omega), if_pos h, c1 h]; decide +kernel
  · rw [textB, if_neg (by omega), if_neg (by omega), if_pos h, c6 h]; decide +kernel
  · rw [textB, if_neg (by omega), if_neg (by omega), if_neg (by omega), if_pos h, c3 h]; decide +kernel
  · rw [textB, if_neg (by omega), if_neg (by omega), if_neg (by omega), if_neg (by omega)]
    have hone : oneW b = b := oneW_not (nanW_fine (cf (by omega)))
    cases hw : wholeB b
    · rw [if_neg (by decide), parse_hexDig b hb]
    · obtain ⟨n0, n1, n2, n3⟩ := nOf_range hw
      rw [if_pos rfl, parse_itoa _ n0 n1, hone]
      rcases h with h | h | h
      · rw [intF_back b hb (Nat.le_trans n2 (by decide)) n3 (class_nz (Or.inl h))]
      · have : nOf b = 0 := by
          obtain ⟨_, r0, s0⟩ := whole_zero h
          unfold nOf qOf
          rw [r0, s0]
          show ((magM 0 / UU : Nat) : Int) = 0
          rw [show magM 0 = 0 from rfl, Nat.zero_div]; rfl
        rw [this, intF_zero, c4 h]
      · rw [intF_back b hb (Nat.le_trans n2 (by decide)) n3 (class_nz (Or.inr h))]

theorem textB_one (b : Nat) : textB (oneW b) = textB b := by
  rcases (Classical.em (fine b)) with h | h
  · rw [oneW_not (nanW_fine h)]
  · rw [nan_word h]
    have : classB b = 0 := by
      unfold fine at h
      rw [classB, if_pos (by omega)]
    rw [textB, textB, if_pos this]
    decide +kernel
theorem text_same (a b : Nat) (ha : a < 18446744073709551616) (hb : b < 18446744073709551616) : textB a = textB b ↔ oneW a = oneW b := by
  constructor
  · intro h
    have h1 := parse_text a ha
    rw [h, parse_text b hb] at h1
    exact (Prod.mk.inj h1).1.symm
  · intro h
    rw [← textB_one a, ← textB_one b, h]

theorem text_len (b : Nat) : 1 ≤ (textB b).length ∧ (textB b).length ≤ 17 := by
  unfold textB
  split
  · decide
  split
  · decide
  split
  · decide
  split
  · decide
  split
  · rename_i hw
    obtain ⟨n0, n1, _, _⟩ := nOf_range hw
    by_cases h : nOf b < 0
    · rw [itoa_minus h, List.length_cons, decDigits_length]
      have := nDigits_le 14 (nOf b).natAbs (by omega)
      omega
    · rw [itoa_pos h, decDigits_length]
      have := nDigits_le 14 (nOf b).toNat (by omega)
      have := nDigits_pos (nOf b).toNat
      omega
  · rw [List.length_cons, hexDig_length]; decide
end Go.Proofs.YtidjnfjpdnjogaaGreatDoor
