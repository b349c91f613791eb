/-
  The document's takes and Check. Conditions: none.
-/
import Derived.Test.YtidjnfjpdnjogaaGreatDoorM5
import Derived.Test.YtidjnfjpdnjogaaGreatDoorM7
namespace Go.Proofs.YtidjnfjpdnjogaaGreatDoor
open Go.RowKit Go.Lib

theorem fold_ge : ∀ (l : List UInt8) (a : Nat), a * 10 ^ l.length ≤ l.foldl (fun n c => 10 * n + (c.toNat - 48)) a
  | [], a => by simp
  | c :: l, a => by
    rw [List.foldl_cons, List.length_cons, Nat.pow_succ, Nat.mul_comm (10 ^ l.length), ← Nat.mul_assoc]
    refine Nat.le_trans (Nat.mul_le_mul_right _ ?_) (fold_ge l _)
    omega
theorem numVal_ge (c : UInt8) (l : List UInt8) (h : 49 ≤ c.toNat) : 10 ^ l.length ≤ numVal (c :: l) := by
  have h1 := fold_ge l (10 * 0 + (c.toNat - 48))
  have h2 : 1 * 10 ^ l.length ≤ (10 * 0 + (c.toNat - 48)) * 10 ^ l.length := Nat.mul_le_mul_right _ (by omega)
  rw [Nat.one_mul] at h2
  exact Nat.le_trans h2 h1

/-- Of a text of digits: at most fifteen digits tell just the numbers below 10^15. -/
theorem num_fifteen (l : List UInt8) (he : (numberOf l).2 = 0) : (15 < (bodyOf l).length) ↔ (999999999999999 < (numberOf l).1 ∨ (numberOf l).1 < -999999999999999) := by
  have hb : numBad (bodyOf l) (minusOf l) = false := by
    cases h : numBad (bodyOf l) (minusOf l)
    · rfl
    · rw [number_bad h] at he; cases he
  have hd : (bodyOf l).all isDig = true := by
    cases h : (bodyOf l).all isDig
    · rw [number_notdig h] at he; cases he
    · rfl
  have hn : (numberOf l).1 = if minusOf l then -(numVal (bodyOf l) : Int) else numVal (bodyOf l) := by
    rw [numberOf, hb, hd]; rfl
  rw [hn]
  have h1 := numVal_lt _ hd
  have h2 : 15 < (bodyOf l).length → 1000000000000000 ≤ numVal (bodyOf l) := by
    intro hlen
    revert hb hd
    cases hl : bodyOf l with
    | nil => rw [hl] at hlen; simp at hlen
    | cons c t =>
      intro hb hd
      rw [hl] at hlen
      rw [numBad, Bool.or_eq_false_iff, Bool.or_eq_false_iff] at hb
      have hc : ((c :: t).getD 0 0 == 48) = false := by
        have h3 := hb.2
        rw [decide_eq_true (show 1 < (c :: t).length by omega), Bool.true_or, Bool.and_true] at h3
        exact h3
      simp only [List.getD_cons_zero, beq_eq_false_iff_ne, ne_eq] at hc
      rw [List.all_cons, Bool.and_eq_true] at hd
      have hdc := hd.1
      simp only [isDig, Bool.and_eq_true, decide_eq_true_eq] at hdc
      have hc49 : 49 ≤ c.toNat := by
        have : c.toNat ≠ 48 := fun h => hc (UInt8.toNat_inj.1 h)
        omega
      have h4 := numVal_ge c t hc49
      rw [List.length_cons] at hlen
      have h5 : 10 ^ 15 ≤ 10 ^ t.length := Nat.pow_le_pow_right (by decide) (by omega)
      have h6 : (10 : Nat) ^ 15 = 1000000000000000 := by decide
      omega
  have h3 : ¬ 15 < (bodyOf l).length → numVal (bodyOf l) < 1000000000000000 := by
    intro hlen
    have h5 : 10 ^ (bodyOf l).length ≤ 10 ^ 15 := Nat.pow_le_pow_right (by decide) (by omega)
    have h6 : (10 : Nat) ^ 15 = 1000000000000000 := by decide
    omega
  clear h1 hb hd hn he
  revert h2 h3
  generalize numVal (bodyOf l) = v
  generalize (bodyOf l).length = m
  cases minusOf l
  · simp only [Bool.false_eq_true, if_false]; omega
  · simp only [if_true]; omega

theorem doc_dig (l : List UInt8) (n : Int) (hn : n = ((bodyOf l).length : Int)) : (if (numberOf l).2 ≠ 0 ∨ 15 < n then ((0 : Nat), (6 : Int)) else (intF (numberOf l).1, 0)) = digTell l := by
  unfold digTell
  by_cases he : (numberOf l).2 = 0
  · have h := num_fifteen l he
    by_cases h15 : 15 < (bodyOf l).length
    · rw [if_pos (Or.inr (by omega)), if_pos (Or.inr (h.1 h15))]
    · rw [if_neg (by rintro (h1 | h1); · exact h1 he
                     · omega), if_neg (by rintro (h1 | h1); · exact h1 he
                                          · exact h15 (h.2 h1))]
  · rw [if_pos (Or.inl he), if_pos (Or.inl he)]

theorem cons_of (s : ByteArray) (h0 : 0 < s.size) : s.data.toList = s[0] :: s.data.toList.drop 1 := by
  have := List.drop_eq_getElem_cons (l := s.data.toList) (i := 0) (by simpa using h0)
  rw [List.drop_zero] at this
  exact this

theorem dparse_any (s : ByteArray) (hs : s.size ≤ 1000000) (w : World) : Calls Tryz.prog 47 #[.string s] w fun en w' => en = .returned (tellsF (parseB s.data.toList)) ∧ w = w' := by
  by_cases h1 : s.data.toList = [110, 97, 110]
  · rw [parseB, if_pos h1]; exact dparse_c s _ (Or.inl ⟨of_list h1, rfl⟩) w
  by_cases h2 : s.data.toList = [105, 110, 102]
  · rw [parseB, if_neg h1, if_pos h2]; exact dparse_c s _ (Or.inr (Or.inl ⟨of_list h2, rfl⟩)) w
  by_cases h3 : s.data.toList = [45, 105, 110, 102]
  · rw [parseB, if_neg h1, if_neg h2, if_pos h3]; exact dparse_c s _ (Or.inr (Or.inr (Or.inl ⟨of_list h3, rfl⟩))) w
  by_cases h4 : s.data.toList = [45, 48]
  · rw [parseB, if_neg h1, if_neg h2, if_neg h3, if_pos h4]; exact dparse_c s _ (Or.inr (Or.inr (Or.inr ⟨of_list h4, rfl⟩))) w
  by_cases h5 : s.data.toList = [48]
  · rw [h5, show parseB [48] = (0, 0) by decide +kernel, of_list h5]; exact dparse_zero w
  rw [parseB, if_neg h1, if_neg h2, if_neg h3, if_neg h4]
  have hp : PlainD s := by
    refine ⟨?_, ?_, ?_, ?_, ?_⟩ <;> rw [Lib.toList_data] <;> simpa using by assumption
  by_cases h0 : 0 < s.size
  · have hcons := cons_of s h0
    have hdl : (s.data.toList.drop 1).length = s.size - 1 := by simp
    have hsz : s.data.toList.length = s.size := by simp
    by_cases hx : s[0] = 120
    · have hpre : hasPrefix s.data.toList [120] = true := by rw [hcons, hx, pre_x]; rfl
      have htr : trimPrefix s.data.toList [120] = s.data.toList.drop 1 := by unfold trimPrefix; rw [hpre]; rfl
      rw [hpre, if_pos rfl, htr]
      by_cases h17 : s.size = 17
      · exact dparse_hex s hp h17 ⟨h0, by rw [hx]; rfl⟩ w
      · have ht : hexTell (s.data.toList.drop 1) = (0, 6) := by
          rw [hexTell, if_neg]
          rw [Bool.and_eq_true, beq_iff_eq, hdl]
          omega
        have hno : numberOf s.data.toList = (0, 1) := by
          refine number_notdig ?_
          rw [hcons, hx, (pre_not 120 _ (by decide)).2]
          rfl
        refine (dparse_num s hp (Or.inl (by simp; omega)) hs _ (Or.inr (Or.inr ⟨h0, by rw [hx]; rfl, rfl⟩)) w).mono ?_
        rintro en w' ⟨rfl, rfl⟩
        rw [hno, ht]
        exact ⟨rfl, rfl⟩
    · have hpre : hasPrefix s.data.toList [120] = false := by rw [hcons, pre_x, beq_eq_false_iff_ne]; exact hx
      rw [hpre, if_neg (by decide)]
      have hx2 : ((s[0].toNat : Int) == 120) = false := beq_eq_false_iff_ne.2 (fun h => hx (UInt8.toNat_inj.1 (by show s[0].toNat = 120; omega)))
      have h17 : ((s.size : Int) == 17) = false ∨ (((s.size : Int) == 17) = true ∧ ∃ h : 0 < s.size, ((s[0].toNat : Int) == 120) = false) := by
        cases h : ((s.size : Int) == 17)
        · exact Or.inl rfl
        · exact Or.inr ⟨rfl, h0, hx2⟩
      by_cases hm : s[0] = 45
      · refine (dparse_num s hp h17 hs ((s.size : Int) - 1) (Or.inr (Or.inl ⟨h0, by rw [hm]; rfl, rfl⟩)) w).mono ?_
        rintro en w' ⟨rfl, rfl⟩
        rw [doc_dig _ _ (by
          have : (bodyOf s.data.toList).length = s.size - 1 := by rw [hcons, hm, (pre_is _).2, hdl]
          omega)]
        exact ⟨rfl, rfl⟩
      · have hm2 : s[0].toNat ≠ 45 := fun hc => hm (UInt8.toNat_inj.1 hc)
        refine (dparse_num s hp h17 hs (s.size : Int) (Or.inr (Or.inr ⟨h0, beq_eq_false_iff_ne.2 (by omega), rfl⟩)) w).mono ?_
        rintro en w' ⟨rfl, rfl⟩
        rw [doc_dig _ _ (by
          have : (bodyOf s.data.toList).length = s.size := by rw [hcons, (pre_not _ _ hm2).2, ← hcons, hsz]
          omega)]
        exact ⟨rfl, rfl⟩
  · have hsz : s.data.toList.length = s.size := by simp
    have hnil : s.data.toList = [] := List.eq_nil_of_length_eq_zero (by omega)
    refine (dparse_num s hp (Or.inl (by simp; omega)) hs (s.size : Int) (Or.inl ⟨by omega, rfl⟩) w).mono ?_
    rintro en w' ⟨rfl, rfl⟩
    rw [hnil]
    have hz : ¬ (15 : Int) < (s.size : Int) := by omega
    refine ⟨?_, rfl⟩
    exact (by
      rw [show (numberOf []).2 = 1 from rfl, if_pos (Or.inl (by decide))]
      exact congrArg (fun x => Ending.returned (tellsF x)) (by decide +kernel))

/-- How many numbers a word takes and pushes; -1: it is none. -/
def takesB (w : List UInt8) : Int × Int :=
  if w = wState then (0, 1) else if w = wValue then (0, 1) else if w = wVersion then (0, 1) else if w = wLen then (0, 1) else if w = wByte then (1, 1) else if w = wNeg then (1, 1)
  else if arithWords.contains w then (2, 1) else if w = wDup then (1, 2) else if w = wDrop then (1, 0) else if w = wSwap then (2, 2) else if w = wPick then (3, 1) else if w = wFail then (0, 0)
  else if (parseB w).2 == 0 then (0, 1) else (-1, 0)
def takesV (x : Int × Int) : Value := .tuple #[.int .i64 x.1, .int .i64 x.2]
theorem takes_state (w : World) : Calls Tryz.prog 13 #[.string ⟨#[115, 116, 97, 116, 101]⟩] w fun e w' => e = .returned (takesV (0, 1)) ∧ w' = w := by
  go_enter Tryz.func13, Tryz.ntmps13
  go_wp2
  exact bodyPost_ret (v := takesV (0, 1)) (by simp [results, Tryz.results13, go_sem, takesV]) rfl ⟨rfl, rfl⟩
theorem takes_value (w : World) : Calls Tryz.prog 13 #[.string ⟨#[118, 97, 108, 117, 101]⟩] w fun e w' => e = .returned (takesV (0, 1)) ∧ w' = w := by
  go_enter Tryz.func13, Tryz.ntmps13
  go_wp2
  exact bodyPost_ret (v := takesV (0, 1)) (by simp [results, Tryz.results13, go_sem, takesV]) rfl ⟨rfl, rfl⟩
theorem takes_version (w : World) : Calls Tryz.prog 13 #[.string ⟨#[118, 101, 114, 115, 105, 111, 110]⟩] w fun e w' => e = .returned (takesV (0, 1)) ∧ w' = w := by
  go_enter Tryz.func13, Tryz.ntmps13
  go_wp2
  exact bodyPost_ret (v := takesV (0, 1)) (by simp [results, Tryz.results13, go_sem, takesV]) rfl ⟨rfl, rfl⟩
theorem takes_len (w : World) : Calls Tryz.prog 13 #[.string ⟨#[108, 101, 110]⟩] w fun e w' => e = .returned (takesV (0, 1)) ∧ w' = w := by
  go_enter Tryz.func13, Tryz.ntmps13
  go_wp2
  exact bodyPost_ret (v := takesV (0, 1)) (by simp [results, Tryz.results13, go_sem, takesV]) rfl ⟨rfl, rfl⟩
theorem takes_byte (w : World) : Calls Tryz.prog 13 #[.string ⟨#[98, 121, 116, 101]⟩] w fun e w' => e = .returned (takesV (1, 1)) ∧ w' = w := by
  go_enter Tryz.func13, Tryz.ntmps13
  go_wp2
  exact bodyPost_ret (v := takesV (1, 1)) (by simp [results, Tryz.results13, go_sem, takesV]) rfl ⟨rfl, rfl⟩
theorem takes_neg (w : World) : Calls Tryz.prog 13 #[.string ⟨#[110, 101, 103]⟩] w fun e w' => e = .returned (takesV (1, 1)) ∧ w' = w := by
  go_enter Tryz.func13, Tryz.ntmps13
  go_wp2
  exact bodyPost_ret (v := takesV (1, 1)) (by simp [results, Tryz.results13, go_sem, takesV]) rfl ⟨rfl, rfl⟩
theorem takes_add (w : World) : Calls Tryz.prog 13 #[.string ⟨#[97, 100, 100]⟩] w fun e w' => e = .returned (takesV (2, 1)) ∧ w' = w := by
  go_enter Tryz.func13, Tryz.ntmps13
  go_wp2
  exact bodyPost_ret (v := takesV (2, 1)) (by simp [results, Tryz.results13, go_sem, takesV]) rfl ⟨rfl, rfl⟩
theorem takes_sub (w : World) : Calls Tryz.prog 13 #[.string ⟨#[115, 117, 98]⟩] w fun e w' => e = .returned (takesV (2, 1)) ∧ w' = w := by
  go_enter Tryz.func13, Tryz.ntmps13
  go_wp2
  exact bodyPost_ret (v := takesV (2, 1)) (by simp [results, Tryz.results13, go_sem, takesV]) rfl ⟨rfl, rfl⟩
theorem takes_mul (w : World) : Calls Tryz.prog 13 #[.string ⟨#[109, 117, 108]⟩] w fun e w' => e = .returned (takesV (2, 1)) ∧ w' = w := by
  go_enter Tryz.func13, Tryz.ntmps13
  go_wp2
  exact bodyPost_ret (v := takesV (2, 1)) (by simp [results, Tryz.results13, go_sem, takesV]) rfl ⟨rfl, rfl⟩
theorem takes_div (w : World) : Calls Tryz.prog 13 #[.string ⟨#[100, 105, 118]⟩] w fun e w' => e = .returned (takesV (2, 1)) ∧ w' = w := by
  go_enter Tryz.func13, Tryz.ntmps13
  go_wp2
  exact bodyPost_ret (v := takesV (2, 1)) (by simp [results, Tryz.results13, go_sem, takesV]) rfl ⟨rfl, rfl⟩
theorem takes_min (w : World) : Calls Tryz.prog 13 #[.string ⟨#[109, 105, 110]⟩] w fun e w' => e = .returned (takesV (2, 1)) ∧ w' = w := by
  go_enter Tryz.func13, Tryz.ntmps13
  go_wp2
  exact bodyPost_ret (v := takesV (2, 1)) (by simp [results, Tryz.results13, go_sem, takesV]) rfl ⟨rfl, rfl⟩
theorem takes_max (w : World) : Calls Tryz.prog 13 #[.string ⟨#[109, 97, 120]⟩] w fun e w' => e = .returned (takesV (2, 1)) ∧ w' = w := by
  go_enter Tryz.func13, Tryz.ntmps13
  go_wp2
  exact bodyPost_ret (v := takesV (2, 1)) (by simp [results, Tryz.results13, go_sem, takesV]) rfl ⟨rfl, rfl⟩
theorem takes_less (w : World) : Calls Tryz.prog 13 #[.string ⟨#[108, 101, 115, 115]⟩] w fun e w' => e = .returned (takesV (2, 1)) ∧ w' = w := by
  go_enter Tryz.func13, Tryz.ntmps13
  go_wp2
  exact bodyPost_ret (v := takesV (2, 1)) (by simp [results, Tryz.results13, go_sem, takesV]) rfl ⟨rfl, rfl⟩
theorem takes_dup (w : World) : Calls Tryz.prog 13 #[.string ⟨#[100, 117, 112]⟩] w fun e w' => e = .returned (takesV (1, 2)) ∧ w' = w := by
  go_enter Tryz.func13, Tryz.ntmps13
  go_wp2
  exact bodyPost_ret (v := takesV (1, 2)) (by simp [results, Tryz.results13, go_sem, takesV]) rfl ⟨rfl, rfl⟩
theorem takes_drop (w : World) : Calls Tryz.prog 13 #[.string ⟨#[100, 114, 111, 112]⟩] w fun e w' => e = .returned (takesV (1, 0)) ∧ w' = w := by
  go_enter Tryz.func13, Tryz.ntmps13
  go_wp2
  exact bodyPost_ret (v := takesV (1, 0)) (by simp [results, Tryz.results13, go_sem, takesV]) rfl ⟨rfl, rfl⟩
theorem takes_swap (w : World) : Calls Tryz.prog 13 #[.string ⟨#[115, 119, 97, 112]⟩] w fun e w' => e = .returned (takesV (2, 2)) ∧ w' = w := by
  go_enter Tryz.func13, Tryz.ntmps13
  go_wp2
  exact bodyPost_ret (v := takesV (2, 2)) (by simp [results, Tryz.results13, go_sem, takesV]) rfl ⟨rfl, rfl⟩
theorem takes_pick (w : World) : Calls Tryz.prog 13 #[.string ⟨#[112, 105, 99, 107]⟩] w fun e w' => e = .returned (takesV (3, 1)) ∧ w' = w := by
  go_enter Tryz.func13, Tryz.ntmps13
  go_wp2
  exact bodyPost_ret (v := takesV (3, 1)) (by simp [results, Tryz.results13, go_sem, takesV]) rfl ⟨rfl, rfl⟩
theorem takes_fail (w : World) : Calls Tryz.prog 13 #[.string ⟨#[102, 97, 105, 108]⟩] w fun e w' => e = .returned (takesV (0, 0)) ∧ w' = w := by
  go_enter Tryz.func13, Tryz.ntmps13
  go_wp2
  exact bodyPost_ret (v := takesV (0, 0)) (by simp [results, Tryz.results13, go_sem, takesV]) rfl ⟨rfl, rfl⟩
theorem takes_no (s : ByteArray) (h : knownB s.data.toList = false) (hs : s.size ≤ 1000000) (w : World) : Calls Tryz.prog 13 #[.string s] w fun e w' => e = .returned (takesV (if (parseB s.data.toList).2 == 0 then (0, 1) else (-1, 0))) ∧ w' = w := by
  have HP := Lib.hid (dparse_any s hs)
  unfold tellsF at HP
  obtain ⟨f0, f1, f2, f3, f4, f5, f6, f7, f8, f9, f10, f11, f12, f13, f14, f15, f16, f17⟩ := noKnown_of h
  clear h hs
  revert HP
  generalize (parseB s.data.toList).1 = x
  generalize (parseB s.data.toList).2 = y
  intro HP
  cases hy : (y == 0)
  all_goals
    go_enter Tryz.func13, Tryz.ntmps13
    go_wp2_with fail
    refine (HP.out _).mono ?_
    rintro e w3 ⟨rfl, rfl⟩
    go_wp2
  · exact bodyPost_ret (v := takesV (-1, 0)) (by simp [results, Tryz.results13, go_sem, takesV]) rfl ⟨rfl, rfl⟩
  · exact bodyPost_ret (v := takesV (0, 1)) (by simp [results, Tryz.results13, go_sem, takesV]) rfl ⟨rfl, rfl⟩
theorem takes_un {w : List UInt8} (h : knownB w = false) : takesB w = if (parseB w).2 == 0 then (0, 1) else (-1, 0) := by
  unfold knownB at h
  simp only [List.contains_eq_mem, decide_eq_false_iff_not, List.mem_append, not_or] at h
  obtain ⟨⟨h1, h2⟩, h3⟩ := h
  simp only [moveWords, List.mem_cons, List.not_mem_nil, or_false, not_or] at h2
  simp only [otherWords, List.mem_cons, List.not_mem_nil, or_false, not_or] at h3
  obtain ⟨m1, m2, m3, m4⟩ := h2
  obtain ⟨a1, a2, a3, a4, a5, a6, a7⟩ := h3
  unfold takesB
  rw [if_neg a1, if_neg a2, if_neg a3, if_neg a4, if_neg a5, if_neg a6, if_neg (by simpa using h1), if_neg m1, if_neg m2, if_neg m3, if_neg m4, if_neg a7]
theorem takes_any (s : ByteArray) (hs : s.size ≤ 1000000) (w : World) : Calls Tryz.prog 13 #[.string s] w fun e w' => e = .returned (takesV (takesB s.data.toList)) ∧ w' = w := by
  cases h : knownB s.data.toList
  · rw [takes_un h]; exact takes_no s h hs w
  · unfold knownB at h
    simp only [List.contains_eq_mem, decide_eq_true_eq, arithWords, moveWords, otherWords, List.mem_append, List.mem_cons, List.not_mem_nil, or_false] at h
    rcases h with ((h | h | h | h | h | h | h) | (h | h | h | h)) | (h | h | h | h | h | h | h)
    · rw [ba_of h]; exact takes_add w
    · rw [ba_of h]; exact takes_sub w
    · rw [ba_of h]; exact takes_mul w
    · rw [ba_of h]; exact takes_div w
    · rw [ba_of h]; exact takes_min w
    · rw [ba_of h]; exact takes_max w
    · rw [ba_of h]; exact takes_less w
    · rw [ba_of h]; exact takes_dup w
    · rw [ba_of h]; exact takes_drop w
    · rw [ba_of h]; exact takes_swap w
    · rw [ba_of h]; exact takes_pick w
    · rw [ba_of h]; exact takes_state w
    · rw [ba_of h]; exact takes_value w
    · rw [ba_of h]; exact takes_version w
    · rw [ba_of h]; exact takes_len w
    · rw [ba_of h]; exact takes_byte w
    · rw [ba_of h]; exact takes_neg w
    · rw [ba_of h]; exact takes_fail w
theorem takes_word (w : List UInt8) : decide ((takesB w).1 < 0) = !(isWord w) := by
  cases h : knownB w
  · rw [takes_un h]
    unfold isWord
    rw [h, Bool.or_false]
    cases (parseB w).2 == 0 <;> rfl
  · have hw : isWord w = true := by unfold isWord; rw [h, Bool.or_true]
    rw [hw]
    unfold knownB at h
    simp only [List.contains_eq_mem, decide_eq_true_eq, arithWords, moveWords, otherWords, List.mem_append, List.mem_cons, List.not_mem_nil, or_false] at h
    rcases h with ((h | h | h | h | h | h | h) | (h | h | h | h)) | (h | h | h | h | h | h | h) <;> subst h <;> decide

/-- None too long to be read. -/
def Shorts (l : List ByteArray) : Prop := ∀ s ∈ l, s.size ≤ 1000000
theorem short_at {l : List ByteArray} (h : Shorts l) (k : Nat) (hk : k < l.length) : (l.getD k ByteArray.empty).size ≤ 1000000 := by
  rw [List.getD_eq_getElem?_getD, List.getElem?_eq_getElem hk]
  exact h _ (List.getElem_mem hk)

set_option maxRecDepth 100000 in
theorem dcheck_any (l : List ByteArray) (hf : Shorts l) (v : Value) (w : World) (h : Txs w v l) : Calls Tryz.prog 6 #[v] w fun e w' => e = .returned (takesV ((checkL (tl l)).1, (checkL (tl l)).2)) ∧ w' = w := by
  obtain ⟨po, cap, rfl⟩ := h.slice
  have HT := Lib.hid h; clear h
  by_cases hlen : 64 < l.length
  · have hc : checkL (tl l) = (2, 64) := by unfold checkL; rw [if_pos (by simpa [tl] using hlen)]
    rw [hc]
    have h64 : (64 : Int) < (l.length : Int) := by omega
    clear hc hf hlen HT
    go_enter Tryz.func6, Tryz.ntmps6
    go_wp2
    exact bodyPost_ret (v := takesV (2, 64)) (by simp [results, Tryz.results6, go_sem, takesV]) rfl ⟨rfl, rfl⟩
  · have hc : checkL (tl l) = checkB (tl (l.drop 0)) 0 := by unfold checkL; rw [if_neg (by simpa [tl] using hlen)]; rfl
    rw [hc]
    have h64 : ¬ (64 : Int) < (l.length : Int) := by omega
    have HL := Lib.hid hlen
    have HF := Lib.hid hf
    clear hc hf hlen
    go_enter Tryz.func6, Tryz.ntmps6
    go_wp2_with fail
    go_loopg [4] l.length (fun g i wr => ∃ k : Nat, g = l.length - k ∧ k ≤ l.length ∧ i = .int .i64 k ∧ checkB (tl (l.drop k)) k = checkB (tl (l.drop 0)) 0 ∧ wr = w)
    case atStart => exact ⟨0, by omega, by omega, rfl, rfl, rfl⟩
    case round =>
      obtain ⟨k, hg, hk, rfl, hcb, rfl⟩ := hrel
      have HG := Lib.hid hg; clear hg
      have HC := Lib.hid hcb; clear hcb
      by_cases hlt : k < l.length
      · have hl : (k : Int) < (l.length : Int) := by omega
        have hw1 : IntKind.i64.wrap ((k : Int) + 1) = (k : Int) + 1 := IntWalk.i64_in _ (by omega)
        rcases HT.out with ⟨rfl, _⟩ | ⟨b, off, cap', hv, hx⟩
        · simp at hlt
        obtain ⟨rfl, -, rfl⟩ : po = some ⟨b, off, none⟩ ∧ l.length = l.length ∧ cap = cap' := by simpa using hv
        have c1 := hx.c k hlt
        have hstep := check_step l k hlt
        have hsz := short_at HF.out k hlt
        revert c1 hstep hsz
        generalize l.getD k ByteArray.empty = s
        intro c1 hstep hsz
        have HP := Lib.hid (takes_any s hsz)
        unfold takesV at HP
        have hn := takes_word s.data.toList
        revert HP hn
        generalize (takesB s.data.toList).1 = x
        generalize (takesB s.data.toList).2 = y
        intro HP hn
        clear hsz hv
        cases hx : isWord s.data.toList
        · rw [hx] at hn hstep
          have hneg : x < 0 := by simpa using hn
          have HS := Lib.hid hstep; clear hstep hn hx
          go_wp2_with fail
          refine (HP.out _).mono ?_
          rintro e w3 ⟨rfl, rfl⟩
          go_wp2
          have h1 := HS.out
          rw [HC.out] at h1
          exact bodyPost_ret (v := takesV (6, k)) (by simp [results, Tryz.results6, go_sem, takesV]) rfl ⟨by rw [h1]; rfl, rfl⟩
        · rw [hx] at hn hstep
          have hneg : ¬ x < 0 := by simpa using hn
          have HS := Lib.hid hstep; clear hstep hn hx
          go_wp2_with fail
          refine (HP.out _).mono ?_
          rintro e w3 ⟨rfl, rfl⟩
          go_wp2
          go_roundg (l.length - (k + 1))
          case measure => rw [HG.out]; omega
          case rel => exact ⟨k + 1, rfl, by omega, rfl, by have h1 := HS.out; rw [HC.out] at h1; rw [h1]; rfl, rfl⟩
      · have hl : ¬ (k : Int) < (l.length : Int) := by omega
        have hk' : k = l.length := by omega
        go_wp2
        have h1 := HC.out
        rw [hk', List.drop_length] at h1
        exact bodyPost_ret (v := takesV (0, 0)) (by simp [results, Tryz.results6, go_sem, takesV]) rfl ⟨by rw [List.drop_zero] at h1; rw [← h1]; rfl, rfl⟩
end Go.Proofs.YtidjnfjpdnjogaaGreatDoor
