/-
  Package prog: move, word by word; Wk and Mach behind it. Conditions: none.
-/
import Derived.Test.YtidjnfjpdnjogaaDoorPg3
namespace Go.Proofs.YtidjnfjpdnjogaaDoor
open Go.RowKit Go.Lib

/-- None of the four words. -/
structure NoMove (s : ByteArray) : Prop where
  f1 : (s.toList == [100, 117, 112]) = false
  f2 : (s.toList == [100, 114, 111, 112]) = false
  f3 : (s.toList == [115, 119, 97, 112]) = false
  f4 : (s.toList == [112, 105, 99, 107]) = false
theorem noMove_of {s : ByteArray} (h : moveWords.contains s.data.toList = false) : NoMove s := by
  have h2 : ∀ l ∈ moveWords, s.data.toList ≠ l := fun l hl e => by rw [e] at h; simp at h; exact h hl
  refine ⟨?_, ?_, ?_, ?_⟩ <;> rw [Lib.toList_data] <;> simp only [beq_eq_false_iff_ne, ne_eq]
  · exact h2 wDup (by simp [moveWords])
  · exact h2 wDrop (by simp [moveWords])
  · exact h2 wSwap (by simp [moveWords])
  · exact h2 wPick (by simp [moveWords])
theorem move_no (s : ByteArray) (hs : moveWords.contains s.data.toList = false) (p : Value) (w : World) :
    Calls Tryd.prog 45 #[p, .string s] w fun e w' => e = .returned (.bool false) ∧ w' = w := by
  obtain ⟨f1, f2, f3, f4⟩ := noMove_of hs
  clear hs
  go_enter Tryd.func45, Tryd.ntmps45
  go_wp2
  go_ret
  exact ⟨rfl, rfl⟩

theorem move_dup (B M : Nat) (en : En) (st : List Nat) (v : Value) (hn : st.length ≤ 90000) (w : World) (h : Mach B M en st v w) :
    Calls Tryd.prog 45 #[.pointer (some ⟨M, 0, none⟩), .string ⟨#[100, 117, 112]⟩] w (OutPost B M en (.bool true) (match (motive := List Nat → Out) st with | f :: t => .ok (oneW f :: oneW f :: t) | _ => .rt) w) := by
  match st, h, hn with
  | [], h, hn =>
    have H := Lib.hid (pop_none B M en v w h)
    clear h
    change Calls _ _ _ _ (RtPost B M w)
    go_enter Tryd.func45, Tryd.ntmps45
    go_wp2_with fail
    refine H.out.mono ?_
    rintro e w1 ⟨⟨t, pv, rfl, ht⟩, hW⟩
    exact ⟨rfl, ⟨t, pv, rfl, ht⟩, hW⟩
  | f :: t, h, hn =>
    have hf := h.fit f (by simp)
    have hn2 : t.length ≤ 90000 := by simp at hn; omega
    have H := Lib.hid (pop_some B M en f t v (by omega) w h)
    clear h
    change Calls _ _ _ _ (OutPost B M en (.bool true) (.ok (oneW f :: oneW f :: t)) w)
    go_enter Tryd.func45, Tryd.ntmps45
    go_wp2_with fail
    refine H.out.mono ?_
    rintro e w1 ⟨rfl, ⟨v1, h1⟩, hW1⟩
    go_wp2_with fail
    refine (push_any B M en t v1 f hf (by omega) w1 h1).mono ?_
    rintro e w2 ⟨rfl, ⟨v2, h2⟩, hW2⟩
    go_wp2_with fail
    refine (push_any B M en (oneW f :: t) v2 f hf (by simp; omega) w2 h2).mono ?_
    rintro e w3 ⟨rfl, h3, hW3⟩
    go_wp2
    go_ret
    exact ⟨rfl, h3, (hW1.trans hW2).trans hW3⟩

theorem move_drop (B M : Nat) (en : En) (st : List Nat) (v : Value) (hn : st.length ≤ 90000) (w : World) (h : Mach B M en st v w) :
    Calls Tryd.prog 45 #[.pointer (some ⟨M, 0, none⟩), .string ⟨#[100, 114, 111, 112]⟩] w (OutPost B M en (.bool true) (match (motive := List Nat → Out) st with | _ :: t => .ok t | _ => .rt) w) := by
  match st, h, hn with
  | [], h, hn =>
    have H := Lib.hid (pop_none B M en v w h)
    clear h
    change Calls _ _ _ _ (RtPost B M w)
    go_enter Tryd.func45, Tryd.ntmps45
    go_wp2_with fail
    refine H.out.mono ?_
    rintro e w1 ⟨⟨t, pv, rfl, ht⟩, hW⟩
    exact ⟨rfl, ⟨t, pv, rfl, ht⟩, hW⟩
  | f :: t, h, hn =>
    have hn2 : t.length ≤ 90000 := by simp at hn; omega
    have H := Lib.hid (pop_some B M en f t v (by omega) w h)
    clear h
    change Calls _ _ _ _ (OutPost B M en (.bool true) (.ok t) w)
    go_enter Tryd.func45, Tryd.ntmps45
    go_wp2_with fail
    refine H.out.mono ?_
    rintro e w1 ⟨rfl, h1, hW1⟩
    go_wp2
    go_ret
    exact ⟨rfl, h1, hW1⟩

theorem move_swap (B M : Nat) (en : En) (st : List Nat) (v : Value) (hn : st.length ≤ 90000) (w : World) (h : Mach B M en st v w) :
    Calls Tryd.prog 45 #[.pointer (some ⟨M, 0, none⟩), .string ⟨#[115, 119, 97, 112]⟩] w (OutPost B M en (.bool true) (match (motive := List Nat → Out) st with | b :: a :: t => .ok (oneW a :: oneW b :: t) | _ => .rt) w) := by
  have H := two_any B M en st v (by omega) w h
  have hfit := h.fit
  clear h
  match st, H, hn, hfit with
  | [], H, hn, hfit =>
    have H := Lib.hid H
    go_enter Tryd.func45, Tryd.ntmps45
    go_wp2_with fail
    refine H.out.mono ?_
    rintro e w2 ⟨⟨t, pv, rfl, ht⟩, hW⟩
    exact ⟨rfl, ⟨t, pv, rfl, ht⟩, hW⟩
  | [b], H, hn, hfit =>
    have H := Lib.hid H
    go_enter Tryd.func45, Tryd.ntmps45
    go_wp2_with fail
    refine H.out.mono ?_
    rintro e w2 ⟨⟨t, pv, rfl, ht⟩, hW⟩
    exact ⟨rfl, ⟨t, pv, rfl, ht⟩, hW⟩
  | b :: a :: t, H, hn, hfit =>
    have H := Lib.hid H
    have ha : a < 18446744073709551616 := hfit a (by simp)
    have hb : b < 18446744073709551616 := hfit b (by simp)
    have hn2 : t.length ≤ 90000 := by simp at hn; omega
    clear hfit hn
    change Calls _ _ _ _ (OutPost B M en (.bool true) (.ok (oneW a :: oneW b :: t)) w)
    go_enter Tryd.func45, Tryd.ntmps45
    go_wp2_with fail
    refine H.out.mono ?_
    rintro e w1 ⟨rfl, ⟨v1, h1⟩, hW1⟩
    go_wp2_with fail
    refine (push_any B M en t v1 b hb (by omega) w1 h1).mono ?_
    rintro e w2 ⟨rfl, ⟨v2, h2⟩, hW2⟩
    go_wp2_with fail
    refine (push_any B M en (oneW b :: t) v2 a ha (by simp; omega) w2 h2).mono ?_
    rintro e w3 ⟨rfl, h3, hW3⟩
    go_wp2
    go_ret
    exact ⟨rfl, h3, (hW1.trans hW2).trans hW3⟩

theorem move_pick (B M : Nat) (en : En) (st : List Nat) (v : Value) (hn : st.length ≤ 90000) (w : World) (h : Mach B M en st v w) :
    Calls Tryd.prog 45 #[.pointer (some ⟨M, 0, none⟩), .string ⟨#[112, 105, 99, 107]⟩] w (OutPost B M en (.bool true) (match (motive := List Nat → Out) st with | c :: b :: a :: t => .ok (oneW (if nilB c then b else a) :: t) | _ => .rt) w) := by
  match st, h, hn with
  | [], h, hn =>
    have H := Lib.hid (pop_none B M en v w h)
    clear h
    change Calls _ _ _ _ (RtPost B M w)
    go_enter Tryd.func45, Tryd.ntmps45
    go_wp2_with fail
    refine H.out.mono ?_
    rintro e w1 ⟨⟨t, pv, rfl, ht⟩, hW⟩
    exact ⟨rfl, ⟨t, pv, rfl, ht⟩, hW⟩
  | [c], h, hn =>
    have H := Lib.hid (pop_some B M en c [] v (by simp) w h)
    clear h
    change Calls _ _ _ _ (RtPost B M w)
    go_enter Tryd.func45, Tryd.ntmps45
    go_wp2_with fail
    refine H.out.mono ?_
    rintro e w1 ⟨rfl, ⟨v1, h1⟩, hW1⟩
    go_wp2_with fail
    refine (two_any B M en [] v1 (by simp) w1 h1).mono ?_
    rintro e w2 ⟨⟨t, pv, rfl, ht⟩, hW⟩
    exact ⟨rfl, ⟨t, pv, rfl, ht⟩, hW1.trans hW⟩
  | [c, b], h, hn =>
    have H := Lib.hid (pop_some B M en c [b] v (by simp) w h)
    clear h
    change Calls _ _ _ _ (RtPost B M w)
    go_enter Tryd.func45, Tryd.ntmps45
    go_wp2_with fail
    refine H.out.mono ?_
    rintro e w1 ⟨rfl, ⟨v1, h1⟩, hW1⟩
    go_wp2_with fail
    refine (two_any B M en [b] v1 (by simp) w1 h1).mono ?_
    rintro e w2 ⟨⟨t, pv, rfl, ht⟩, hW⟩
    exact ⟨rfl, ⟨t, pv, rfl, ht⟩, hW1.trans hW⟩
  | c :: b :: a :: t, h, hn =>
    have ha : a < 18446744073709551616 := h.fit a (by simp)
    have hb : b < 18446744073709551616 := h.fit b (by simp)
    have hn2 : t.length ≤ 90000 := by simp at hn; omega
    have H := Lib.hid (pop_some B M en c (b :: a :: t) v (by simp; omega) w h)
    clear h hn
    change Calls _ _ _ _ (OutPost B M en (.bool true) (.ok (oneW (if nilB c then b else a) :: t)) w)
    have key : ∀ (z n : Bool), (FloatKind.f64.format.order c 0 == some .eq) = z → (FloatKind.f64.format.order c c != some .eq) = n → nilB c = (z || n) := fun z n h1 h2 => by rw [← h1, ← h2]; rfl
    obtain ⟨z, hz⟩ : ∃ z, (FloatKind.f64.format.order c 0 == some .eq) = z := ⟨_, rfl⟩
    obtain ⟨n, hnn⟩ : ∃ n, (FloatKind.f64.format.order c c != some .eq) = n := ⟨_, rfl⟩
    rw [key z n hz hnn]
    clear key
    have HT := Lib.hid fun v1 w1 h1 => two_any B M en (b :: a :: t) v1 (by simp; omega) w1 h1
    cases z <;> cases n
    all_goals
      simp only [Bool.or_false, Bool.or_true, Bool.false_eq_true, if_false, if_true]
      go_enter Tryd.func45, Tryd.ntmps45
      go_wp2_with fail
      refine H.out.mono ?_
      rintro e w1 ⟨rfl, ⟨v1, h1⟩, hW1⟩
      go_wp2_with fail
      refine (HT.out v1 w1 h1).mono ?_
      rintro e w2 ⟨rfl, ⟨v2, h2⟩, hW2⟩
      go_wp2_with fail
      refine (push_any B M en t v2 _ (by assumption) (by omega) w2 h2).mono ?_
      rintro e w3 ⟨rfl, h3, hW3⟩
      go_wp2
      go_ret
      exact ⟨rfl, h3, (hW1.trans hW2).trans hW3⟩
end Go.Proofs.YtidjnfjpdnjogaaDoor
