/-
  ProgPicks: of two the first one is taken, if the third one is neither a nought nor no number. Conditions: none.
-/
import Derived.Test.YtidjnfjpdnjogaaDoorPxStack
namespace Go.Proofs.YtidjnfjpdnjogaaDoor
open Go.RowKit Go.Lib

theorem mag_zero (r : Nat) : magM r = 0 ↔ r = 0 := by
  unfold magM
  split
  · exact Iff.rfl
  · rename_i h
    constructor
    · intro h2
      rcases Nat.mul_eq_zero.1 h2 with h3 | h3
      · omega
      · exact absurd h3 (Nat.ne_of_gt (Nat.two_pow_pos _))
    · intro h2; omega
theorem zero_test (c : Nat) (hf : fine c) : (Ieee.double.order c 0 == some .eq) = decide (rungOf c = 0) := by
  have v0 : valF 0 = 0 := by decide +kernel
  rw [eq_fine c 0 hf (by unfold fine; decide +kernel), v0]
  have h : valF c = 0 ↔ rungOf c = 0 := by
    rw [← mag_zero, valF]
    cases negOf c <;> simp [sgn]
  by_cases h2 : rungOf c = 0
  · rw [decide_eq_true (h.2 h2), decide_eq_true h2]
  · rw [decide_eq_false (fun e => h2 (h.1 e)), decide_eq_false h2]
theorem nil_class (c : Nat) : nilB (oneW c) = (classB c == 0 || classB c == 3 || classB c == 4) := by
  rcases fine_dec c with ⟨h, hf⟩ | ⟨h, hf⟩
  · rw [oneW_not h]
    unfold nilB classB
    rw [h, Bool.or_false, zero_test c hf]
    unfold fine at hf
    rw [if_neg (by omega)]
    by_cases h1 : rungOf c = 9218868437227405312
    · rw [if_pos h1, h1]; cases negOf c <;> decide
    · rw [if_neg h1]
      by_cases h2 : rungOf c = 0
      · rw [if_pos h2, h2]; cases negOf c <;> decide
      · rw [if_neg h2, decide_eq_false h2]; cases negOf c <;> decide
  · rw [oneW_nan h]
    have e1 : nilB 9221120237041090560 = true := by decide +kernel
    have e2 : classB c = 0 := by
      unfold fine at hf
      unfold classB
      rw [if_pos (by omega)]
    rw [e1, e2]; rfl

theorem class_cases (c : Nat) : classB c = 0 ∨ classB c = 1 ∨ classB c = 2 ∨ classB c = 3 ∨ classB c = 4 ∨ classB c = 5 ∨ classB c = 6 := by
  rcases class_vals c with h | h | h | h | h | h | h <;> simp [h]

set_option maxRecDepth 100000 in
set_option maxHeartbeats 2000000 in
theorem picks_any (a b c : Nat) (ha : a < 18446744073709551616) (hb : b < 18446744073709551616) (hc : c < 18446744073709551616) (w : World) :
    Calls Tryd.prog 5 #[.int .u64 a, .int .u64 b, .int .u64 c] w fun e w' => e = .returned (.bool true) ∧ Below w.heap.size w w' := by
  have hfr := runFrom
  have heq := eqlFault
  have HX := Lib.hid (dtext_any a ha)
  have HY := Lib.hid (dtext_any b hb)
  have HZ := Lib.hid (dtext_any c hc)
  have HC := Lib.hid (dclass_any c hc)
  have HS := Lib.hid fun x y (h : sameW x y = true) w => show Calls Tryd.prog 14 #[.float .f64 x, .float .f64 y] w fun en w' => en = .returned (.bool true) ∧ w = w' from by have h1 := dsame_any x y w; rw [h] at h1; exact h1
  obtain ⟨X, hX⟩ : ∃ X : ByteArray, X = ⟨(textB a).toArray⟩ := ⟨_, rfl⟩
  obtain ⟨Y, hY⟩ : ∃ Y : ByteArray, Y = ⟨(textB b).toArray⟩ := ⟨_, rfl⟩
  obtain ⟨Z, hZ⟩ : ∃ Z : ByteArray, Z = ⟨(textB c).toArray⟩ := ⟨_, rfl⟩
  have R1 := Lib.hid (fun v W (h : Txs W v [X, Y, Z, ⟨#[112, 105, 99, 107]⟩]) => show Calls Tryd.prog 10 #[.agg #[v], noE.val] W (RunTells ⟨oneW (if nilB (oneW c) then b else a), 0, 0, []⟩ W) from by
    have h1 := run_any noE noE_ok [X, Y, Z, ⟨#[112, 105, 99, 107]⟩] (by
      intro s hs
      simp only [List.mem_cons, List.not_mem_nil, or_false] at hs
      rcases hs with rfl | rfl | rfl | rfl
      · rw [hX]; exact text_small a
      · rw [hY]; exact text_small b
      · rw [hZ]; exact text_small c
      · decide) v W h
    have h2 : tl [X, Y, Z, ⟨#[112, 105, 99, 107]⟩] = [textB a, textB b, textB c, wPick] := by rw [hX, hY, hZ]; rfl
    rw [h2, run_pick ha hb hc noE] at h1
    exact h1)
  rw [← hX] at HX
  rw [← hY] at HY
  rw [← hZ] at HZ
  clear ha hb hc hX hY hZ
  unfold RunTells at R1
  simp only [tell_ok] at R1
  have hk : (classB c == 0 || classB c == 3 || classB c == 4) = true ∧ (classB c = 0 ∨ classB c = 3 ∨ classB c = 4) ∨ (classB c == 0 || classB c == 3 || classB c == 4) = false ∧ (classB c = 1 ∨ classB c = 2 ∨ classB c = 5 ∨ classB c = 6) := by
    rcases class_cases c with h | h | h | h | h | h | h <;> simp [h]
  rw [← nil_class] at hk
  obtain ⟨z, hz, hzk⟩ : ∃ z, oneW (if nilB (oneW c) then b else a) = z ∧ ((classB c = 0 ∨ classB c = 3 ∨ classB c = 4) ∧ sameW z b = true ∨ (classB c = 1 ∨ classB c = 2 ∨ classB c = 5 ∨ classB c = 6) ∧ sameW z a = true) := by
    refine ⟨_, rfl, ?_⟩
    rcases hk with ⟨h1, h2⟩ | ⟨h1, h2⟩
    · exact Or.inl ⟨h2, by rw [h1]; exact same_one b⟩
    · exact Or.inr ⟨h2, by rw [h1]; exact same_one a⟩
  rw [hz] at R1
  clear hz hk
  revert HC hzk
  generalize classB c = k
  intro HC hzk
  have hcase : ∃ want, sameW z want = true ∧ ((k = 0 ∨ k = 3 ∨ k = 4) ∧ want = b ∨ (k = 1 ∨ k = 2 ∨ k = 5 ∨ k = 6) ∧ want = a) := by
    rcases hzk with ⟨h1, h2⟩ | ⟨h1, h2⟩
    · exact ⟨b, h2, Or.inl ⟨h1, rfl⟩⟩
    · exact ⟨a, h2, Or.inr ⟨h1, rfl⟩⟩
  clear hzk
  obtain ⟨want, hsame, hcase⟩ := hcase
  have main : Calls Tryd.prog 5 #[.int .u64 a, .int .u64 b, .int .u64 c] w fun e w' => e = .returned (.bool true) ∧ Below w.heap.size w w' := by
    go_enter Tryd.func5, Tryd.ntmps5
    go_wp2_with fail
    refine (HX.out _).mono ?_
    rintro e w1 ⟨rfl, hb1⟩
    have HB1 := Lib.hid hb1
    clear hb1
    go_wp2_with fail
    refine (HY.out _).mono ?_
    rintro e w2 ⟨rfl, hb2⟩
    have HB2 := Lib.hid (HB1.out.trans (hb2.mono HB1.out.size))
    clear hb2 HB1
    go_wp2_with fail
    refine (HZ.out _).mono ?_
    rintro e w3 ⟨rfl, hb3⟩
    have HB3 := Lib.hid (HB2.out.trans (hb3.mono HB2.out.size))
    clear hb3 HB2
    go_wp2_with fail
    have bn := new_block w3 (Obj.cells #[.string X, .string Y, .string Z, .string ⟨#[112, 105, 99, 107]⟩] 9)
    have hal := below_alloc w3 (Obj.cells #[.string X, .string Y, .string Z, .string ⟨#[112, 105, 99, 107]⟩] 9)
    have hal2 := below_alloc (w3.alloc (Obj.cells #[.string X, .string Y, .string Z, .string ⟨#[112, 105, 99, 107]⟩] 9)) (Obj.cells #[.slice (some ⟨w3.heap.size, 0, none⟩) 4 4] 28)
    have T1 := Lib.hid (txs_block (l := [X, Y, Z, ⟨#[112, 105, 99, 107]⟩]) ((hal2.block _ (lt_of_block bn)).trans bn))
    have HB4 := Lib.hid ((HB3.out.trans (hal.mono HB3.out.size)).trans (hal2.mono (by have := HB3.out.size; simp; omega)))
    clear bn hal hal2 HB3
    refine (R1.out _ _ T1.out).mono ?_
    rintro e w5 ⟨rfl, hb5⟩
    have HB5 := Lib.hid (HB4.out.trans (hb5.mono HB4.out.size))
    have hal5 := below_alloc w5 (.cells #[.int .i64 0, .int .i64 0, .string ⟨#[]⟩] 31)
    have HB6 := Lib.hid (HB5.out.trans (hal5.mono HB5.out.size))
    have HN := Lib.hid (new_block w5 (.cells #[.int .i64 0, .int .i64 0, .string ⟨#[]⟩] 31))
    clear hb5 hal5 HB4 T1
    rcases hcase with ⟨hk, rfl⟩ | ⟨hk, rfl⟩
    · rcases hk with rfl | rfl | rfl
      all_goals
        go_wp2_with fail
        refine (HC.out _).mono ?_
        rintro e w6 ⟨rfl, rfl⟩
        go_wp2_with fail
        refine (alive_any _).mono ?_
        rintro e w7 ⟨rfl, hb7⟩
        have hk7 := (hb7.block _ (lt_of_block HN.out)).trans HN.out
        obtain ⟨p1, p2, p3, -, -, -⟩ := cells_of_fault hk7
        have hz7 := lt_of_block hk7
        have HB7 := Lib.hid (HB6.out.trans (hb7.mono HB6.out.size))
        clear hb7 hk7
        go_wp2_with (go_at_call 14; refine (HS.out _ _ (by assumption) _).mono ?_; rintro e w8 ⟨rfl, rfl⟩)
        go_ret
        exact ⟨rfl, HB7.out⟩
    · rcases hk with rfl | rfl | rfl | rfl
      all_goals
        go_wp2_with fail
        refine (HC.out _).mono ?_
        rintro e w6 ⟨rfl, rfl⟩
        go_wp2_with fail
        refine (alive_any _).mono ?_
        rintro e w7 ⟨rfl, hb7⟩
        have hk7 := (hb7.block _ (lt_of_block HN.out)).trans HN.out
        obtain ⟨p1, p2, p3, -, -, -⟩ := cells_of_fault hk7
        have hz7 := lt_of_block hk7
        have HB7 := Lib.hid (HB6.out.trans (hb7.mono HB6.out.size))
        clear hb7 hk7
        go_wp2_with (go_at_call 14; refine (HS.out _ _ (by assumption) _).mono ?_; rintro e w8 ⟨rfl, rfl⟩)
        go_ret
        exact ⟨rfl, HB7.out⟩
  exact main
end Go.Proofs.YtidjnfjpdnjogaaDoor
