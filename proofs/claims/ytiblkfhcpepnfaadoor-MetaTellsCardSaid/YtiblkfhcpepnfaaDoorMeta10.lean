/-
  MetaTexts, walked. Conditions: none.
-/
import Derived.Test.YtiblkfhcpepnfaaDoorMeta8
namespace Go.Proofs.YtiblkfhcpepnfaaDoor
open Go.RowKit Go.Lib

theorem text_len (m : Mt) : (textM m).1.length ≤ 100 := by
  rw [textM]
  split
  · rename_i hok
    simp only []
    split
    · simp
    · have hd : ∀ n, (0 ≤ n ∧ n ≤ 1099511627776) → (itoa n).length ≤ 21 := fun n hn => itoa_length_le n (by omega) (by omega)
      have hp : ∀ k n, (n = m.a ∨ n = m.b ∨ n = m.c) → k.length ≤ 6 → ∀ x ∈ partB k n, x.length ≤ 30 := by
        intro k n hn hk x hx
        simp only [okM, Bool.and_eq_true] at hok
        have : (itoa n).length ≤ 21 := by
          rcases hn with rfl | rfl | rfl
          · exact hd _ (okB_iff.1 hok.1.1)
          · exact hd _ (okB_iff.1 hok.1.2)
          · exact hd _ (okB_iff.1 hok.2)
        rw [part_in hx]; simp; omega
      have hl : ∀ x ∈ partsB m, x.length ≤ 30 := by
        intro x hx
        unfold partsB at hx
        rcases List.mem_append.1 hx with h | h
        · rcases List.mem_append.1 h with h | h
          · exact hp countK _ (Or.inl rfl) (by decide) x h
          · exact hp ageK _ (Or.inr (Or.inl rfl)) (by decide) x h
        · exact hp beforeK _ (Or.inr (Or.inr rfl)) (by decide) x h
      have h1 := joinB_len _ hl
      have h2 : (partsB m).length ≤ 3 := by
        have := parts_len countK m.a; have := parts_len ageK m.b; have := parts_len beforeK m.c
        rw [partsB, List.length_append, List.length_append]; omega
      omega
  · simp

theorem mk_size (l : List UInt8) : (mkS l).size = l.length := by show l.toArray.size = _; simp

/-- What Text tells, one way or the other. -/
theorem text_ways (m : Mt) : (okM m = true ∧ ∃ S : ByteArray, mkS (textM m).1 = S ∧ S.size ≤ 100 ∧ (textM m).2 = 0) ∨ (okM m = false ∧ mkS (textM m).1 = ⟨#[]⟩ ∧ (textM m).2 = 1) := by
  cases hm : okM m with
  | true => exact Or.inl ⟨rfl, _, rfl, by rw [mk_size]; exact text_len m, text_ok.2 hm⟩
  | false => right; rw [textM, hm]; exact ⟨rfl, rfl, rfl⟩

set_option maxRecDepth 100000 in
set_option maxHeartbeats 4000000 in
theorem texts_no (m n : Mt) (S T : ByteArray) (e f : Int) (he : e = 0 ∨ (e = 1 ∧ S = ⟨#[]⟩)) (hf : f = 0 ∨ (f = 1 ∧ T = ⟨#[]⟩)) (hno : ¬ (e = 0 ∧ f = 0)) (w : World) (ht : Tab w)
    (H1 : ∀ W, Tab W → Calls Tryd.prog 8 #[m.val] W fun en w' => en = .returned (.tuple #[.string S, .int .i64 e]) ∧ Below W.heap.size W w')
    (H2 : ∀ W, Tab W → Calls Tryd.prog 8 #[n.val] W fun en w' => en = .returned (.tuple #[.string T, .int .i64 f]) ∧ Below W.heap.size W w') :
    Calls Tryd.prog 6 #[m.val, n.val] w fun e w' => e = .returned (.bool true) ∧ Below w.heap.size w w' := by
  have HT := Lib.hid ht; clear ht
  have K1 := Lib.hid H1; clear H1
  have K2 := Lib.hid H2; clear H2
  rcases he with rfl | ⟨rfl, rfl⟩
  all_goals rcases hf with rfl | ⟨rfl, rfl⟩
  all_goals try exact absurd ⟨rfl, rfl⟩ hno
  all_goals
    clear hno
    have hem : ((⟨#[]⟩ : ByteArray).toList == []) = true := by rw [toList_data]; rfl
    have h00 : Below w.heap.size w ((w.alloc (.cells m.cells 23)).alloc (.cells n.cells 23)) := ((Below.refl _ w).alloc (Nat.le_refl _) _).alloc (by simp) _
    have HB0 := Lib.hid h00; clear h00
    have c1 : ((w.alloc (.cells m.cells 23)).alloc (.cells n.cells 23)).heap[w.heap.size + 1]? = some (.cells n.cells 23) := new_block2 _ _ _
    have C1 := Lib.hid c1; clear c1
    go_enter Tryd.func6, Tryd.ntmps6
    go_wp2_with (first
      | (go_at_call 8; first
         | (have _t2 := tok1
            refine (K2.out _ (HT.out.below HB1.out)).mono ?_
            rintro e w2 ⟨rfl, hb2⟩
            have HB2 := Lib.hid (HB1.out.trans (hb2.mono HB1.out.size))
            clear hb2)
         | (refine (K1.out _ (HT.out.below HB0.out)).mono ?_
            rintro e w1 ⟨rfl, hb1⟩
            obtain ⟨k0, k1, k2⟩ := RdM.of ((hb1.block _ (by simp)).trans C1.out)
            have HB1 := Lib.hid (HB0.out.trans (hb1.mono HB0.out.size))
            have tok1 : True := trivial
            clear hb1))
      | (go_at_call 7
         refine (alive_any _ (HT.out.below HB2.out)).mono ?_
         rintro e w9 ⟨rfl, hb9⟩
         have HB9 := Lib.hid (HB2.out.trans (hb9.mono HB2.out.size))
         clear hb9)
      | fail)
    go_ret
    exact ⟨rfl, HB9.out⟩

set_option maxRecDepth 100000 in
set_option maxHeartbeats 4000000 in
theorem texts_yes (m n : Mt) (S T : ByteArray) (hS : S.size ≤ 100) (w : World) (ht : Tab w) (hq : (S.toList == T.toList) = sameM m n)
    (H1 : ∀ W, Tab W → Calls Tryd.prog 8 #[m.val] W fun en w' => en = .returned (.tuple #[.string S, .int .i64 0]) ∧ Below W.heap.size W w')
    (H2 : ∀ W, Tab W → Calls Tryd.prog 8 #[n.val] W fun en w' => en = .returned (.tuple #[.string T, .int .i64 0]) ∧ Below W.heap.size W w')
    (H3 : ∀ W, Tab W → Calls Tryd.prog 10 #[.string S] W fun en w' => en = .returned (.tuple #[m.val, .int .i64 0]) ∧ Below W.heap.size W w')
    (H4 : ∀ W, Tab W → Calls Tryd.prog 10 #[.string (S ++ ⟨#[32]⟩)] W fun en w' => en = .returned (.tuple #[Mt.val ⟨0, 0, 0⟩, .int .i64 6]) ∧ Below W.heap.size W w') :
    Calls Tryd.prog 6 #[m.val, n.val] w fun e w' => e = .returned (.bool true) ∧ Below w.heap.size w w' := by
  have HT := Lib.hid ht; clear ht
  have K1 := Lib.hid H1; clear H1
  have K2 := Lib.hid H2; clear H2
  have K3 := Lib.hid H3; clear H3
  have K4 := Lib.hid H4; clear H4
  obtain ⟨q, hqq⟩ : ∃ q, sameM m n = q := ⟨_, rfl⟩
  rw [hqq] at hq
  have he1 := fun w => eq_meta m n w
  have he2 := fun w => eq_meta m m w
  rw [hqq] at he1
  rw [sameM_self] at he2
  simp only [Mt.val] at he1 he2
  have hqb : (q == q) = true := by cases q <;> rfl
  clear hqq
  have h00 : Below w.heap.size w ((w.alloc (.cells m.cells 23)).alloc (.cells n.cells 23)) := ((Below.refl _ w).alloc (Nat.le_refl _) _).alloc (by simp) _
  have HB0 := Lib.hid h00; clear h00
  have c0 : ((w.alloc (.cells m.cells 23)).alloc (.cells n.cells 23)).heap[w.heap.size]? = some (.cells m.cells 23) := (Below.heap_alloc _ _ _ (by simp)).trans (new_block _ _)
  have c1 : ((w.alloc (.cells m.cells 23)).alloc (.cells n.cells 23)).heap[w.heap.size + 1]? = some (.cells n.cells 23) := new_block2 _ _ _
  have C0 := Lib.hid c0; clear c0
  have C1 := Lib.hid c1; clear c1
  go_enter Tryd.func6, Tryd.ntmps6
  go_wp2_with (first
    | (go_at_call 8; first
       | (have _t2 := tok1
          refine (K2.out _ (HT.out.below HB1.out)).mono ?_
          rintro e w2 ⟨rfl, hb2⟩
          have HB2 := Lib.hid (HB1.out.trans (hb2.mono HB1.out.size))
          have C02 := Lib.hid ((hb2.block _ hz0).trans C01.out)
          have C12 := Lib.hid ((hb2.block _ hz1).trans C11.out)
          have hz2 := lt_of_block C02.out
          have hz3 := lt_of_block C12.out
          clear hb2)
       | (refine (K1.out _ (HT.out.below HB0.out)).mono ?_
          rintro e w1 ⟨rfl, hb1⟩
          have C01 := Lib.hid ((hb1.block _ (by simp; omega)).trans C0.out)
          have C11 := Lib.hid ((hb1.block _ (by simp)).trans C1.out)
          have hz0 := lt_of_block C01.out
          have hz1 := lt_of_block C11.out
          obtain ⟨k0, k1, k2⟩ := RdM.of C11.out
          have HB1 := Lib.hid (HB0.out.trans (hb1.mono HB0.out.size))
          have tok1 : True := trivial
          clear hb1))
    | (go_at_call 10; first
       | (have _t2 := tok3
          refine (K4.out _ (HT.out.below HB5.out)).mono ?_
          rintro e w4 ⟨rfl, hb4⟩
          have HB6 := Lib.hid (HB5.out.trans (hb4.mono HB5.out.size))
          have C04 := Lib.hid ((hb4.block _ hz4).trans C03.out)
          have C14 := Lib.hid ((hb4.block _ hz5).trans C13.out)
          have C24 := Lib.hid ((hb4.block _ (by simp)).trans C23.out)
          have hz7 := lt_of_block C04.out
          have hz8 := lt_of_block C14.out
          have hz9 := lt_of_block C24.out
          clear hb4)
       | (refine (K3.out _ (HT.out.below HB2.out)).mono ?_
          rintro e w3 ⟨rfl, hb3⟩
          have hb4 := hb3.alloc hb3.size (.cells m.cells 23)
          have C03 := Lib.hid ((hb4.block _ hz2).trans C02.out)
          have C13 := Lib.hid ((hb4.block _ hz3).trans C12.out)
          have C23 := Lib.hid (new_block w3 (.cells m.cells 23))
          have hz4 := lt_of_block C03.out
          have hz5 := lt_of_block C13.out
          have HB5 := Lib.hid (HB2.out.trans (hb4.mono HB2.out.size))
          have tok3 : True := trivial
          clear hb3 hb4))
    | (go_at_call 7
       have hb7 := HB6.out.alloc HB6.out.size (.cells (Mt.cells ⟨0, 0, 0⟩) 23)
       refine (alive_any _ (HT.out.below hb7)).mono ?_
       rintro e w9 ⟨rfl, hb9⟩
       have HB9 := Lib.hid (hb7.trans (hb9.mono hb7.size))
       obtain ⟨a0, a1, a2⟩ := RdM.of ((hb9.block _ (by simp; omega)).trans ((Below.heap_alloc _ _ _ hz7).trans C04.out))
       obtain ⟨b0, b1, b2⟩ := RdM.of ((hb9.block _ (by simp; omega)).trans ((Below.heap_alloc _ _ _ hz8).trans C14.out))
       obtain ⟨d0, d1, d2⟩ := RdM.of ((hb9.block _ (by simp; omega)).trans ((Below.heap_alloc _ _ _ hz9).trans C24.out))
       clear hb7 hb9)
    | fail)
  go_ret
  exact ⟨rfl, HB9.out⟩

theorem metaTexts_any (m n : Mt) (w : World) (ht : Tab w) : Calls Tryd.prog 6 #[m.val, n.val] w fun e w' => e = .returned (.bool true) ∧ Below w.heap.size w w' := by
  have H1 := fun W (h : Tab W) => text_any m W h
  have H2 := fun W (h : Tab W) => text_any n W h
  unfold textV at H1 H2
  rcases text_ways m with ⟨hm, S, hS, hsz, hm0⟩ | ⟨hm, hS, hm1⟩
  · rcases text_ways n with ⟨hn, T, hT, _, hn0⟩ | ⟨hn, hT, hn1⟩
    · have hq : (S.toList == T.toList) = sameM m n := by
        rw [Bool.eq_iff_iff, beq_iff_eq, sameM_iff, toList_data, toList_data, ← hS, ← hT]
        exact ⟨fun e => text_inj hm hn e, fun e => by rw [e]⟩
      have H3 := fun W (h : Tab W) => parse_any S (by omega) W h
      have H4 := fun W (h : Tab W) => parse_any (S ++ ⟨#[32]⟩) (by rw [ByteArray.size_append]; show S.size + 1 ≤ _; omega) W h
      have e3 : S.data.toList = (textM m).1 := by rw [← hS]; rfl
      have e4 : (S ++ ⟨#[32]⟩ : ByteArray).data.toList = (textM m).1 ++ [32] := by simp [ByteArray.data_append, e3]
      rw [e3, parse_text m hm] at H3
      rw [e4, parse_blank] at H4
      rw [hS, hm0] at H1
      rw [hT, hn0] at H2
      exact texts_yes m n S T hsz w ht hq H1 H2 H3 H4
    · rw [hS, hm0] at H1
      rw [hT, hn1] at H2
      exact texts_no m n S ⟨#[]⟩ 0 1 (Or.inl rfl) (Or.inr ⟨rfl, rfl⟩) (by decide) w ht H1 H2
  · rw [hS, hm1] at H1
    rcases text_ways n with ⟨hn, T, hT, _, hn0⟩ | ⟨hn, hT, hn1⟩
    · rw [hT, hn0] at H2
      exact texts_no m n ⟨#[]⟩ T 1 0 (Or.inr ⟨rfl, rfl⟩) (Or.inl rfl) (by decide) w ht H1 H2
    · rw [hT, hn1] at H2
      exact texts_no m n ⟨#[]⟩ ⟨#[]⟩ 1 1 (Or.inr ⟨rfl, rfl⟩) (Or.inr ⟨rfl, rfl⟩) (by decide) w ht H1 H2
end Go.Proofs.YtiblkfhcpepnfaaDoor
