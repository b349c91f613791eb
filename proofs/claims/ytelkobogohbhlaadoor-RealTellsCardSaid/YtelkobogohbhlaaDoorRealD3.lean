/-
  The document's Parse: every text as a number. Conditions: none.
-/
import Derived.Test.YtelkobogohbhlaaDoorRealD1
namespace Go.Proofs.YtelkobogohbhlaaDoor
open Go.RowKit Go.Lib

/-- A sign of the sixteen, by its byte. -/
theorem hex_dig (c : UInt8) : (48 ≤ c.toNat ∧ c.toNat ≤ 57 → hexAt c = (c.toNat : Int) - 48) ∧ (97 ≤ c.toNat ∧ c.toNat ≤ 102 → hexAt c = (c.toNat : Int) - 87) ∧ (¬ (48 ≤ c.toNat ∧ c.toNat ≤ 57) ∧ ¬ (97 ≤ c.toNat ∧ c.toNat ≤ 102) → hexAt c < 0) := by
  revert c
  exact all_u8 (p := fun c => (48 ≤ c.toNat ∧ c.toNat ≤ 57 → hexAt c = (c.toNat : Int) - 48) ∧ (97 ≤ c.toNat ∧ c.toNat ≤ 102 → hexAt c = (c.toNat : Int) - 87) ∧ (¬ (48 ≤ c.toNat ∧ c.toNat ≤ 57) ∧ ¬ (97 ≤ c.toNat ∧ c.toNat ≤ 102) → hexAt c < 0)) (by decide +kernel)

/-- Digits behind a sign: how many bytes. -/
def numLen (l : List UInt8) : Nat := (bodyOf l).length
def docDig (l : List UInt8) : Nat × Int := if (numberOf l).2 ≠ 0 ∨ 15 < numLen l then (0, 6) else (intF (numberOf l).1, 0)

theorem dparse_c (s : ByteArray) (r : Nat) (h : (s = ⟨#[110, 97, 110]⟩ ∧ r = 9221120237041090560) ∨ (s = ⟨#[105, 110, 102]⟩ ∧ r = 9218868437227405312) ∨ (s = ⟨#[45, 105, 110, 102]⟩ ∧ r = 18442240474082181120) ∨ (s = ⟨#[45, 48]⟩ ∧ r = 9223372036854775808)) (w : World) :
    Calls Tryd.prog 15 #[.string s] w fun en w' => en = .returned (tellsF (r, 0)) ∧ w = w' := by
  have H := Lib.hid (dof_any r)
  have hr : oneW r = r := by
    rcases h with ⟨_, rfl⟩ | ⟨_, rfl⟩ | ⟨_, rfl⟩ | ⟨_, rfl⟩ <;> decide +kernel
  rw [hr] at H
  clear hr
  rcases h with ⟨rfl, rfl⟩ | ⟨rfl, rfl⟩ | ⟨rfl, rfl⟩ | ⟨rfl, rfl⟩
  all_goals
    go_enter Tryd.func15, Tryd.ntmps15
    go_wp2_with fail
    refine (H.out _).mono ?_
    rintro en w1 ⟨rfl, rfl⟩
    go_wp2
    exact bodyPost_ret (v := tellsF (_, 0)) (by simp [results, Tryd.results15, go_sem, tellsF]) rfl ⟨rfl, rfl⟩

theorem dparse_zero (w : World) : Calls Tryd.prog 15 #[.string ⟨#[48]⟩] w fun en w' => en = .returned (tellsF (0, 0)) ∧ w = w' := by
  go_enter Tryd.func15, Tryd.ntmps15
  go_wp2
  exact bodyPost_ret (v := tellsF (0, 0)) (by simp [results, Tryd.results15, go_sem, tellsF]) rfl ⟨rfl, rfl⟩

structure PlainD (s : ByteArray) : Prop where
  f1 : (s.toList == [110, 97, 110]) = false
  f2 : (s.toList == [105, 110, 102]) = false
  f3 : (s.toList == [45, 105, 110, 102]) = false
  f4 : (s.toList == [48]) = false
  f5 : (s.toList == [45, 48]) = false

theorem dparse_num (s : ByteArray) (hp : PlainD s) (hx : ((s.size : Int) == 17) = false ∨ (((s.size : Int) == 17) = true ∧ ∃ h : 0 < s.size, ((s[0].toNat : Int) == 120) = false)) (hs : s.size ≤ 1000000)
    (n : Int) (hm : (¬ (0 : Int) < (s.size : Int) ∧ n = s.size) ∨ (∃ h : 0 < s.size, ((s[0].toNat : Int) == 45) = true ∧ n = (s.size : Int) - 1) ∨ (∃ h : 0 < s.size, ((s[0].toNat : Int) == 45) = false ∧ n = s.size)) (w : World) :
    Calls Tryd.prog 15 #[.string s] w fun en w' => en = .returned (tellsF (if (numberOf s.data.toList).2 ≠ 0 ∨ 15 < n then (0, 6) else (intF (numberOf s.data.toList).1, 0))) ∧ w = w' := by
  obtain ⟨f1, f2, f3, f4, f5⟩ := hp
  have HN := Lib.hid (rnumber_any s)
  revert HN
  generalize numberOf s.data.toList = r
  intro HN
  obtain ⟨v, e⟩ := r
  have hcv : ∀ w : World, (convert 3 24 (.int .i64 v)).run Tryd.prog w = .ok (.float .f64 (intF v)) w := fun w => run_convert_int_float w 3 24 .i64 .f64 v (by kernel_rfl) Tryd.underlying24
  revert hcv
  generalize intF v = x
  intro hcv
  unfold tells at HN
  have hne : (if e ≠ 0 ∨ 15 < n then (0, 6) else (x, 0)) = (if (e != 0) = true ∨ 15 < n then ((0 : Nat), (6 : Int)) else (x, 0)) := by simp
  simp only
  rw [hne]
  clear hne
  have hE : (e != 0) = true ∨ ((e != 0) = false ∧ (15 : Int) < n) ∨ ((e != 0) = false ∧ ¬ (15 : Int) < n) := by
    cases h : (e != 0)
    · by_cases h2 : 15 < n
      · exact Or.inr (Or.inl ⟨rfl, h2⟩)
      · exact Or.inr (Or.inr ⟨rfl, h2⟩)
    · exact Or.inl rfl
  have hw1 : IntKind.i64.wrap ((s.size : Int) - 1) = (s.size : Int) - 1 := IntWalk.i64_in _ (by omega)
  have hpos : ∀ h : 0 < s.size, (0 : Int) < (s.size : Int) := fun h => by omega
  clear hs
  have hcase : (((s.size : Int) == 17) = false ∧ ¬ (0 : Int) < (s.size : Int) ∧ n = s.size) ∨ (((s.size : Int) == 17) = false ∧ ∃ h : 0 < s.size, (0 : Int) < (s.size : Int) ∧ ((s[0].toNat : Int) == 45) = true ∧ n = (s.size : Int) - 1) ∨
      (((s.size : Int) == 17) = false ∧ ∃ h : 0 < s.size, (0 : Int) < (s.size : Int) ∧ ((s[0].toNat : Int) == 45) = false ∧ n = s.size) ∨
      (((s.size : Int) == 17) = true ∧ ∃ h : 0 < s.size, (0 : Int) < (s.size : Int) ∧ ((s[0].toNat : Int) == 120) = false ∧ ((s[0].toNat : Int) == 45) = true ∧ n = (s.size : Int) - 1) ∨
      (((s.size : Int) == 17) = true ∧ ∃ h : 0 < s.size, (0 : Int) < (s.size : Int) ∧ ((s[0].toNat : Int) == 120) = false ∧ ((s[0].toNat : Int) == 45) = false ∧ n = s.size) := by
    rcases hx with hx | ⟨hx, hz, hx2⟩
    · rcases hm with ⟨h1, h2⟩ | ⟨h0, h1, h2⟩ | ⟨h0, h1, h2⟩
      · exact Or.inl ⟨hx, h1, h2⟩
      · exact Or.inr (Or.inl ⟨hx, h0, hpos h0, h1, h2⟩)
      · exact Or.inr (Or.inr (Or.inl ⟨hx, h0, hpos h0, h1, h2⟩))
    · rcases hm with ⟨h1, h2⟩ | ⟨h0, h1, h2⟩ | ⟨h0, h1, h2⟩
      · exact absurd (hpos hz) h1
      · exact Or.inr (Or.inr (Or.inr (Or.inl ⟨hx, h0, hpos h0, hx2, h1, h2⟩)))
      · exact Or.inr (Or.inr (Or.inr (Or.inr ⟨hx, h0, hpos h0, hx2, h1, h2⟩)))
  clear hx hm hpos
  rcases hcase with ⟨hx, hm, rfl⟩ | ⟨hx, h0, hp, hm, rfl⟩ | ⟨hx, h0, hp, hm, rfl⟩ | ⟨hx, h0, hp, hx2, hm, rfl⟩ | ⟨hx, h0, hp, hx2, hm, rfl⟩
  all_goals
    rcases hE with hE | ⟨hE, h15⟩ | ⟨hE, h15⟩
  all_goals
    first
      | rw [if_pos (Or.inl hE)]
      | rw [if_pos (Or.inr h15)]
      | rw [if_neg (by rintro (h | h); · rw [hE] at h; cases h
                       · exact h15 h)]
  all_goals
    first
      | (exfalso; omega)
      | (go_enter Tryd.func15, Tryd.ntmps15
         go_wp2_with fail
         refine (HN.out _).mono ?_
         rintro en w1 ⟨rfl, rfl⟩
         go_wp2
         exact bodyPost_ret (v := tellsF _) (by simp [results, Tryd.results15, go_sem, tellsF]) rfl ⟨rfl, rfl⟩)

/-- A round of the loop over sixteen signs. -/
theorem hex_in (c : UInt8) (h : 0 ≤ hexAt c) : ((48 : Int) ≤ (c.toNat : Int) ∧ (c.toNat : Int) ≤ 57 ∧ (hexVal c : Int) = (c.toNat : Int) - 48) ∨ ((48 : Int) ≤ (c.toNat : Int) ∧ ¬ (c.toNat : Int) ≤ 57 ∧ (97 : Int) ≤ (c.toNat : Int) ∧ (c.toNat : Int) ≤ 102 ∧ (hexVal c : Int) = (c.toNat : Int) - 87) := by
  obtain ⟨h1, h2, h3⟩ := hex_dig c
  unfold hexVal
  by_cases a : 48 ≤ c.toNat ∧ c.toNat ≤ 57
  · have := h1 a
    exact Or.inl ⟨by omega, by omega, by omega⟩
  · by_cases b : 97 ≤ c.toNat ∧ c.toNat ≤ 102
    · have := h2 b
      exact Or.inr ⟨by omega, by omega, by omega, by omega, by omega⟩
    · have := h3 ⟨a, b⟩
      omega
theorem hex_out (c : UInt8) (h : ¬ 0 ≤ hexAt c) : (¬ (48 : Int) ≤ (c.toNat : Int) ∧ ¬ (97 : Int) ≤ (c.toNat : Int)) ∨ ((48 : Int) ≤ (c.toNat : Int) ∧ ¬ (c.toNat : Int) ≤ 57 ∧ ¬ (97 : Int) ≤ (c.toNat : Int)) ∨ ((48 : Int) ≤ (c.toNat : Int) ∧ ¬ (c.toNat : Int) ≤ 57 ∧ (97 : Int) ≤ (c.toNat : Int) ∧ ¬ (c.toNat : Int) ≤ 102) := by
  obtain ⟨h1, h2, h3⟩ := hex_dig c
  by_cases a : 48 ≤ c.toNat ∧ c.toNat ≤ 57
  · have := h1 a
    omega
  · by_cases b : 97 ≤ c.toNat ∧ c.toNat ≤ 102
    · have := h2 b
      omega
    · omega

theorem drop_step (s : ByteArray) (j : Nat) (h1 : 1 ≤ j) (h : j < s.size) : (s.data.toList.drop 1).take j = (s.data.toList.drop 1).take (j - 1) ++ [s[j]] := by
  obtain ⟨k, rfl⟩ : ∃ k, j = k + 1 := ⟨j - 1, by omega⟩
  have hk : k < (s.data.toList.drop 1).length := by simp; omega
  rw [List.take_succ_eq_append_getElem hk]
  simp [ByteArray.getElem_eq_getElem_data]
theorem hexStep {l : List UInt8} (hl : l.length ≤ 15) : (hexFold l : Int) * 16 < 18446744073709551616 - 15 := by
  have h1 := hexFold_lt l
  have h2 : 16 ^ l.length ≤ 16 ^ 15 := Nat.pow_le_pow_right (by decide) hl
  have h3 : (16 : Nat) ^ 15 = 1152921504606846976 := by decide
  omega

theorem dparse_hex (s : ByteArray) (hp : PlainD s) (h17 : s.size = 17) (hx : ∃ h : 0 < s.size, ((s[0].toNat : Int) == 120) = true) (w : World) :
    Calls Tryd.prog 15 #[.string s] w fun en w' => en = .returned (tellsF (hexTell (s.data.toList.drop 1))) ∧ w = w' := by
  obtain ⟨f1, f2, f3, f4, f5⟩ := hp
  obtain ⟨h0, hx⟩ := hx
  have hz : ((s.size : Int) == 17) = true := by rw [h17]; rfl
  have hz0 : (0 : Int) < (s.size : Int) := by omega
  have hlen : (s.data.toList.drop 1).length = 16 := by
    rw [List.length_drop, show s.data.toList.length = s.size by simp, h17]
  have hst := drop_step s
  revert hlen hst
  generalize s.data.toList.drop 1 = D
  intro hlen hst
  have HL := Lib.hid (And.intro hlen (And.intro h17 hst)); clear hlen h17 hst
  go_enter Tryd.func15, Tryd.ntmps15
  go_wp2_with fail
  go_loopg [4, 5] 17 (fun g v i wr => ∃ j : Nat, g = 18 - j ∧ 1 ≤ j ∧ j ≤ 17 ∧ v = .int .u64 (hexFold (D.take (j - 1)) : Nat) ∧ i = .int .i64 j ∧ (D.take (j - 1)).all hexOk = true ∧ wr = w)
  case atStart => exact ⟨1, by omega, by omega, by omega, rfl, rfl, rfl, rfl⟩
  case round =>
    obtain ⟨j, hg, hj1, hj, rfl, rfl, ha, rfl⟩ := hrel
    have HG := Lib.hid hg; clear hg
    have hj0 : (0 : Int) ≤ (j : Int) := by omega
    by_cases hlt : j < 17
    · have hjs : j < s.size := by have := HL.out.2.1; omega
      have hstep := HL.out.2.2 j hj1 hjs
      have hlow := hexStep (l := D.take (j - 1)) (by rw [List.length_take, HL.out.1]; omega)
      have hbyte := s[j].toNat_lt
      have hwj : IntKind.i64.wrap ((j : Int) + 1) = (j : Int) + 1 := IntWalk.i64_in _ (by omega)
      have hj17 : (j : Int) < 17 := by omega
      by_cases hok : 0 ≤ hexAt s[j]
      · have hall : (D.take j).all hexOk = true := by
          rw [hstep, List.all_append, ha]
          simp [hexOk, hok]
        have hfold : (hexFold (D.take j) : Int) = (hexFold (D.take (j - 1)) : Int) * 16 + (hexVal s[j] : Int) := by
          rw [hstep, hexFold_snoc]; omega
        have HS := Lib.hid (And.intro hall hfold)
        have hcase := hex_in s[j] hok
        clear hstep hall hfold ha hok
        revert hlow HS
        generalize hexFold (D.take (j - 1)) = F
        intro hlow HS
        have hw1 : IntKind.u64.wrap ((F : Int) * 16) = (F : Int) * 16 := by rw [IntKind.wrap_u64]; omega
        rcases hcase with ⟨c1, c2, c3⟩ | ⟨c1, c2, c3, c4, c5⟩
        · have hw2 : IntKind.u8.wrap ((s[j].toNat : Int) - 48) = (s[j].toNat : Int) - 48 := IntWalk.u8_in _ (by omega)
          have hw3 : IntKind.u64.wrap ((s[j].toNat : Int) - 48) = (s[j].toNat : Int) - 48 := by rw [IntKind.wrap_u64]; omega
          have hw4 : IntKind.u64.wrap ((F : Int) * 16 + ((s[j].toNat : Int) - 48)) = (F : Int) * 16 + ((s[j].toNat : Int) - 48) := by rw [IntKind.wrap_u64]; omega
          have C3 := Lib.hid c3; clear c3
          go_wp2
          go_roundg (18 - (j + 1))
          case measure => rw [HG.out]; omega
          case rel => exact ⟨j + 1, rfl, by omega, by omega, by rw [show j + 1 - 1 = j from rfl, HS.out.2, C3.out], rfl, HS.out.1, rfl⟩
        · have hw2 : IntKind.u8.wrap ((s[j].toNat : Int) - 97) = (s[j].toNat : Int) - 97 := IntWalk.u8_in _ (by omega)
          have hw3 : IntKind.u64.wrap ((s[j].toNat : Int) - 97) = (s[j].toNat : Int) - 97 := by rw [IntKind.wrap_u64]; omega
          have hw4 : IntKind.u64.wrap ((F : Int) * 16 + ((s[j].toNat : Int) - 97)) = (F : Int) * 16 + ((s[j].toNat : Int) - 97) := by rw [IntKind.wrap_u64]; omega
          have hw5 : IntKind.u64.wrap ((F : Int) * 16 + ((s[j].toNat : Int) - 97) + 10) = (F : Int) * 16 + ((s[j].toNat : Int) - 97) + 10 := by rw [IntKind.wrap_u64]; omega
          have C3 := Lib.hid c5; clear c5
          go_wp2
          go_roundg (18 - (j + 1))
          case measure => rw [HG.out]; omega
          case rel => exact ⟨j + 1, rfl, by omega, by omega, by rw [show j + 1 - 1 = j from rfl, HS.out.2, C3.out]; congr 1; omega, rfl, HS.out.1, rfl⟩
      · have hall : D.all hexOk = false := by
          rw [List.all_eq_false]
          refine ⟨s[j], ?_, by simp [hexOk]; omega⟩
          have : s[j] ∈ D.take j := by rw [hstep]; simp
          exact List.mem_of_mem_take this
        have ht : hexTell D = (0, 6) := by rw [hexTell, hall]; rfl
        have HT := Lib.hid ht
        have hcase := hex_out s[j] hok
        clear hstep hall ht ha hok hlow
        rcases hcase with ⟨c1, c2⟩ | ⟨c1, c2, c3⟩ | ⟨c1, c2, c3, c4⟩
        all_goals
          go_wp2
          exact bodyPost_ret (v := tellsF (0, 6)) (by simp [results, Tryd.results15, go_sem, tellsF]) rfl ⟨by rw [HT.out], rfl⟩
    · obtain rfl : j = 17 := by omega
      have hD : D.take (17 - 1) = D := List.take_of_length_le (by rw [HL.out.1]; decide)
      rw [hD] at ha ⊢
      have ht : hexTell D = (oneW (hexFold D), 0) := by
        rw [hexTell, ha, HL.out.1]; rfl
      have HT := Lib.hid ht
      clear ht ha hD
      revert HT
      generalize hexFold D = F
      intro HT
      go_wp2_with fail
      refine (dof_any _ _).mono ?_
      rintro en w1 ⟨rfl, rfl⟩
      go_wp2
      exact bodyPost_ret (v := tellsF (oneW F, 0)) (by simp [results, Tryd.results15, go_sem, tellsF]) rfl ⟨by rw [HT.out], rfl⟩
end Go.Proofs.YtelkobogohbhlaaDoor
