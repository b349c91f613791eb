/-
  RealTells, the walk: every number by its bits, every text as a number, against the document. Conditions: none.
-/
import Derived.Test.YtelkobogohbhlaaDoorRealD2
import Derived.Test.YtelkobogohbhlaaDoorRealD3
namespace Go.Proofs.YtelkobogohbhlaaDoor
open Go.RowKit Go.Lib

theorem fold_ge : ∀ (l : List UInt8) (a : Nat), a * 10 ^ l.length ≤ l.foldl (fun n c => 10 * n + (c.toNat - 48)) a
  | [], a => by simp
  | c :: l, a => by
    rw [List.foldl_cons, List.length_cons, Nat.pow_succ, Nat.mul_comm (10 ^ l.length), ← Nat.mul_assoc]
    refine Nat.le_trans (Nat.mul_le_mul_right _ ?_) (fold_ge l _)
    omega
theorem numVal_ge (c : UInt8) (l : List UInt8) (h : 49 ≤ c.toNat) : 10 ^ l.length ≤ numVal (c :: l) := by
  have h1 := fold_ge l (10 * 0 + (c.toNat - 48))
  have h2 : 1 * 10 ^ l.length ≤ (10 * 0 + (c.toNat - 48)) * 10 ^ l.length := Nat.mul_le_mul_right _ (by omega)
  rw [Nat.one_mul] at h2
  exact Nat.le_trans h2 h1

/-- Of a text of digits: at most fifteen digits tell just the numbers below 10^15. -/
theorem num_fifteen (l : List UInt8) (he : (numberOf l).2 = 0) : (15 < (bodyOf l).length) ↔ (999999999999999 < (numberOf l).1 ∨ (numberOf l).1 < -999999999999999) := by
  have hb : numBad (bodyOf l) (minusOf l) = false := by
    cases h : numBad (bodyOf l) (minusOf l)
    · rfl
    · rw [number_bad h] at he; cases he
  have hd : (bodyOf l).all isDig = true := by
    cases h : (bodyOf l).all isDig
    · rw [number_notdig h] at he; cases he
    · rfl
  have hn : (numberOf l).1 = if minusOf l then -(numVal (bodyOf l) : Int) else numVal (bodyOf l) := by
    rw [numberOf, hb, hd]; rfl
  rw [hn]
  have h1 := numVal_lt _ hd
  have h2 : 15 < (bodyOf l).length → 1000000000000000 ≤ numVal (bodyOf l) := by
    intro hlen
    revert hb hd
    cases hl : bodyOf l with
    | nil => rw [hl] at hlen; simp at hlen
    | cons c t =>
      intro hb hd
      rw [hl] at hlen
      rw [numBad, Bool.or_eq_false_iff, Bool.or_eq_false_iff] at hb
      have hc : ((c :: t).getD 0 0 == 48) = false := by
        have h3 := hb.2
        rw [decide_eq_true (show 1 < (c :: t).length by omega), Bool.true_or, Bool.and_true] at h3
        exact h3
      simp only [List.getD_cons_zero, beq_eq_false_iff_ne, ne_eq] at hc
      rw [List.all_cons, Bool.and_eq_true] at hd
      have hdc := hd.1
      simp only [isDig, Bool.and_eq_true, decide_eq_true_eq] at hdc
      have hc49 : 49 ≤ c.toNat := by
        have : c.toNat ≠ 48 := fun h => hc (UInt8.toNat_inj.1 h)
        omega
      have h4 := numVal_ge c t hc49
      rw [List.length_cons] at hlen
      have h5 : 10 ^ 15 ≤ 10 ^ t.length := Nat.pow_le_pow_right (by decide) (by omega)
      have h6 : (10 : Nat) ^ 15 = 1000000000000000 := by decide
      omega
  have h3 : ¬ 15 < (bodyOf l).length → numVal (bodyOf l) < 1000000000000000 := by
    intro hlen
    have h5 : 10 ^ (bodyOf l).length ≤ 10 ^ 15 := Nat.pow_le_pow_right (by decide) (by omega)
    have h6 : (10 : Nat) ^ 15 = 1000000000000000 := by decide
    omega
  clear h1 hb hd hn he
  revert h2 h3
  generalize numVal (bodyOf l) = v
  generalize (bodyOf l).length = m
  cases minusOf l
  · simp only [Bool.false_eq_true, if_false]; omega
  · simp only [if_true]; omega

theorem doc_dig (l : List UInt8) (n : Int) (hn : n = ((bodyOf l).length : Int)) : (if (numberOf l).2 ≠ 0 ∨ 15 < n then ((0 : Nat), (6 : Int)) else (intF (numberOf l).1, 0)) = digTell l := by
  unfold digTell
  by_cases he : (numberOf l).2 = 0
  · have h := num_fifteen l he
    by_cases h15 : 15 < (bodyOf l).length
    · rw [if_pos (Or.inr (by omega)), if_pos (Or.inr (h.1 h15))]
    · rw [if_neg (by rintro (h1 | h1); · exact h1 he
                     · omega), if_neg (by rintro (h1 | h1); · exact h1 he
                                          · exact h15 (h.2 h1))]
  · rw [if_pos (Or.inl he), if_pos (Or.inl he)]

theorem cons_of (s : ByteArray) (h0 : 0 < s.size) : s.data.toList = s[0] :: s.data.toList.drop 1 := by
  have := List.drop_eq_getElem_cons (l := s.data.toList) (i := 0) (by simpa using h0)
  rw [List.drop_zero] at this
  exact this

theorem dparse_any (s : ByteArray) (hs : s.size ≤ 1000000) (w : World) : Calls Tryd.prog 15 #[.string s] w fun en w' => en = .returned (tellsF (parseB s.data.toList)) ∧ w = w' := by
  by_cases h1 : s.data.toList = [110, 97, 110]
  · rw [parseB, if_pos h1]; exact dparse_c s _ (Or.inl ⟨of_list h1, rfl⟩) w
  by_cases h2 : s.data.toList = [105, 110, 102]
  · rw [parseB, if_neg h1, if_pos h2]; exact dparse_c s _ (Or.inr (Or.inl ⟨of_list h2, rfl⟩)) w
  by_cases h3 : s.data.toList = [45, 105, 110, 102]
  · rw [parseB, if_neg h1, if_neg h2, if_pos h3]; exact dparse_c s _ (Or.inr (Or.inr (Or.inl ⟨of_list h3, rfl⟩))) w
  by_cases h4 : s.data.toList = [45, 48]
  · rw [parseB, if_neg h1, if_neg h2, if_neg h3, if_pos h4]; exact dparse_c s _ (Or.inr (Or.inr (Or.inr ⟨of_list h4, rfl⟩))) w
  by_cases h5 : s.data.toList = [48]
  · rw [h5, show parseB [48] = (0, 0) by decide +kernel, of_list h5]; exact dparse_zero w
  rw [parseB, if_neg h1, if_neg h2, if_neg h3, if_neg h4]
  have hp : PlainD s := by
    refine ⟨?_, ?_, ?_, ?_, ?_⟩ <;> rw [Lib.toList_data] <;> simpa using by assumption
  by_cases h0 : 0 < s.size
  · have hcons := cons_of s h0
    have hdl : (s.data.toList.drop 1).length = s.size - 1 := by simp
    have hsz : s.data.toList.length = s.size := by simp
    by_cases hx : s[0] = 120
    · have hpre : hasPrefix s.data.toList [120] = true := by rw [hcons, hx, pre_x]; rfl
      have htr : trimPrefix s.data.toList [120] = s.data.toList.drop 1 := by unfold trimPrefix; rw [hpre]; rfl
      rw [hpre, if_pos rfl, htr]
      by_cases h17 : s.size = 17
      · exact dparse_hex s hp h17 ⟨h0, by rw [hx]; rfl⟩ w
      · have ht : hexTell (s.data.toList.drop 1) = (0, 6) := by
          rw [hexTell, if_neg]
          rw [Bool.and_eq_true, beq_iff_eq, hdl]
          omega
        have hno : numberOf s.data.toList = (0, 1) := by
          refine number_notdig ?_
          rw [hcons, hx, (pre_not 120 _ (by decide)).2]
          rfl
        refine (dparse_num s hp (Or.inl (by simp; omega)) hs _ (Or.inr (Or.inr ⟨h0, by rw [hx]; rfl, rfl⟩)) w).mono ?_
        rintro en w' ⟨rfl, rfl⟩
        rw [hno, ht]
        exact ⟨rfl, rfl⟩
    · have hpre : hasPrefix s.data.toList [120] = false := by rw [hcons, pre_x, beq_eq_false_iff_ne]; exact hx
      rw [hpre, if_neg (by decide)]
      have hx2 : ((s[0].toNat : Int) == 120) = false := beq_eq_false_iff_ne.2 (fun h => hx (UInt8.toNat_inj.1 (by show s[0].toNat = 120; omega)))
      have h17 : ((s.size : Int) == 17) = false ∨ (((s.size : Int) == 17) = true ∧ ∃ h : 0 < s.size, ((s[0].toNat : Int) == 120) = false) := by
        cases h : ((s.size : Int) == 17)
        · exact Or.inl rfl
        · exact Or.inr ⟨rfl, h0, hx2⟩
      by_cases hm : s[0] = 45
      · refine (dparse_num s hp h17 hs ((s.size : Int) - 1) (Or.inr (Or.inl ⟨h0, by rw [hm]; rfl, rfl⟩)) w).mono ?_
        rintro en w' ⟨rfl, rfl⟩
        rw [doc_dig _ _ (by
          have : (bodyOf s.data.toList).length = s.size - 1 := by rw [hcons, hm, (pre_is _).2, hdl]
          omega)]
        exact ⟨rfl, rfl⟩
      · have hm2 : s[0].toNat ≠ 45 := fun hc => hm (UInt8.toNat_inj.1 hc)
        refine (dparse_num s hp h17 hs (s.size : Int) (Or.inr (Or.inr ⟨h0, beq_eq_false_iff_ne.2 (by omega), rfl⟩)) w).mono ?_
        rintro en w' ⟨rfl, rfl⟩
        rw [doc_dig _ _ (by
          have : (bodyOf s.data.toList).length = s.size := by rw [hcons, (pre_not _ _ hm2).2, ← hcons, hsz]
          omega)]
        exact ⟨rfl, rfl⟩
  · have hsz : s.data.toList.length = s.size := by simp
    have hnil : s.data.toList = [] := List.eq_nil_of_length_eq_zero (by omega)
    refine (dparse_num s hp (Or.inl (by simp; omega)) hs (s.size : Int) (Or.inl ⟨by omega, rfl⟩) w).mono ?_
    rintro en w' ⟨rfl, rfl⟩
    rw [hnil]
    have hz : ¬ (15 : Int) < (s.size : Int) := by omega
    refine ⟨?_, rfl⟩
    exact (by
      rw [show (numberOf []).2 = 1 from rfl, if_pos (Or.inl (by decide))]
      exact congrArg (fun x => Ending.returned (tellsF x)) (by decide +kernel))

theorem tells_long (b : Nat) (s : ByteArray) (h : 300 < s.size) (W : World) :
    Calls Tryd.prog 3 #[.int .u64 (b : Int), .string s] W fun en w' => en = .returned (.bool true) ∧ Below W.heap.size W w' := by
  have h1 : (300 : Int) < (s.size : Int) := by omega
  clear h
  go_enter Tryd.func3, Tryd.ntmps3
  go_wp2_with fail
  refine (alive_any _).mono ?_
  rintro en w1 ⟨rfl, hbl⟩
  go_wp2
  go_ret
  exact ⟨rfl, hbl⟩

theorem oneW_one (b : Nat) : oneW (oneW b) = oneW b := by
  rcases Classical.em (fine b) with h | h
  · rw [oneW_not (nanW_fine h), oneW_not (nanW_fine h)]
  · rw [nan_word h]; decide +kernel

theorem tells_any (b : Nat) (hb : b < 18446744073709551616) (s : ByteArray) (h : s.size ≤ 300) (W : World) (ht : Tab W) :
    Calls Tryd.prog 3 #[.int .u64 (b : Int), .string s] W fun en w' => en = .returned (.bool true) ∧ Below W.heap.size W w' := by
  have h57 := runFrom
  have h56 := runBits
  have h1 : ¬ (300 : Int) < (s.size : Int) := by omega
  have HTB := Lib.hid ht
  have P1 := Lib.hid (parse_any s (by omega))
  have P2 := Lib.hid (dparse_any s (by omega))
  have B1 := Lib.hid (rbits_any b)
  have B2 := Lib.hid (dbits_any b)
  have C1 := Lib.hid (canon_any b)
  have S1 := Lib.hid (dsame_any (oneW b) b)
  rw [show sameW (oneW b) b = true by unfold sameW; rw [oneW_one]; simp] at S1
  have O1 := Lib.hid (rof_any b)
  have K1 := Lib.hid (class_any b hb)
  have K2 := Lib.hid (dclass_any b hb)
  have T1 := Lib.hid (text_any b hb)
  have T2 := Lib.hid (dtext_any b hb)
  clear h ht hb
  revert P1 P2
  generalize parseB s.data.toList = r
  intro P1 P2
  obtain ⟨v, e⟩ := r
  unfold tellsF at P1 P2
  simp only at P1 P2
  revert B1 B2 C1 S1 O1 K1 K2 T1 T2
  generalize oneW b = ob
  generalize ((classB b : Nat) : Int) = cb
  generalize (⟨(textB b).toArray⟩ : ByteArray) = T
  intro B1 B2 C1 S1 O1 K1 K2 T1 T2
  go_enter Tryd.func3, Tryd.ntmps3
  go_wp2_with fail
  refine (P1.out _).mono ?_
  rintro en w1 ⟨rfl, rfl⟩
  go_wp2_with fail
  refine (P2.out _).mono ?_
  rintro en w1 ⟨rfl, rfl⟩
  go_wp2_with fail
  refine (alive_any _).mono ?_
  rintro en w1 ⟨rfl, hb1⟩
  go_wp2_with fail
  refine (B1.out _).mono ?_
  rintro en w2 ⟨rfl, rfl⟩
  go_wp2_with fail
  refine (B2.out _).mono ?_
  rintro en w2 ⟨rfl, rfl⟩
  go_wp2_with fail
  refine (C1.out _).mono ?_
  rintro en w2 ⟨rfl, rfl⟩
  go_wp2_with fail
  refine (S1.out _).mono ?_
  rintro en w2 ⟨rfl, rfl⟩
  go_wp2_with fail
  refine (C1.out _).mono ?_
  rintro en w2 ⟨rfl, rfl⟩
  go_wp2_with fail
  refine (B2.out _).mono ?_
  rintro en w2 ⟨rfl, rfl⟩
  go_wp2_with fail
  refine (O1.out _).mono ?_
  rintro en w2 ⟨rfl, rfl⟩
  go_wp2_with fail
  refine (B2.out _).mono ?_
  rintro en w2 ⟨rfl, rfl⟩
  go_wp2_with fail
  refine (K1.out _).mono ?_
  rintro en w2 ⟨rfl, rfl⟩
  go_wp2_with fail
  refine (K2.out _).mono ?_
  rintro en w2 ⟨rfl, rfl⟩
  go_wp2_with fail
  refine (T1.out _ (HTB.out.below hb1)).mono ?_
  rintro en w2 ⟨rfl, hb2⟩
  have hb3 := hb1.trans (hb2.mono hb1.size)
  clear hb1 hb2
  go_wp2_with fail
  refine (T2.out _).mono ?_
  rintro en w3 ⟨rfl, hb4⟩
  have hb5 := hb3.trans (hb4.mono hb3.size)
  clear hb3 hb4
  go_wp2
  go_ret
  exact ⟨rfl, hb5⟩
end Go.Proofs.YtelkobogohbhlaaDoor
