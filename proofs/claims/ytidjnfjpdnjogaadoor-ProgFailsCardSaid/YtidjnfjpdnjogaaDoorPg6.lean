/-
  Package prog: a word's step. Conditions: none.
-/
import Derived.Test.YtidjnfjpdnjogaaDoorPg5
namespace Go.Proofs.YtidjnfjpdnjogaaDoor
open Go.RowKit Go.Lib

/-- None of the seven other words. -/
structure NoOther (s : ByteArray) : Prop where
  f1 : (s.toList == [115, 116, 97, 116, 101]) = false
  f2 : (s.toList == [118, 97, 108, 117, 101]) = false
  f3 : (s.toList == [118, 101, 114, 115, 105, 111, 110]) = false
  f4 : (s.toList == [108, 101, 110]) = false
  f5 : (s.toList == [98, 121, 116, 101]) = false
  f6 : (s.toList == [110, 101, 103]) = false
  f7 : (s.toList == [102, 97, 105, 108]) = false
theorem noOther_of {s : ByteArray} (h : ∀ l ∈ otherWords, s.data.toList ≠ l) : NoOther s := by
  refine ⟨?_, ?_, ?_, ?_, ?_, ?_, ?_⟩ <;> rw [Lib.toList_data] <;> simp only [beq_eq_false_iff_ne, ne_eq]
  · exact h wState (by simp [otherWords])
  · exact h wValue (by simp [otherWords])
  · exact h wVersion (by simp [otherWords])
  · exact h wLen (by simp [otherWords])
  · exact h wByte (by simp [otherWords])
  · exact h wNeg (by simp [otherWords])
  · exact h wFail (by simp [otherWords])

theorem parse_lt (l : List UInt8) : (parseB l).1 < 18446744073709551616 := by
  unfold parseB
  split
  · decide
  split
  · decide
  split
  · decide
  split
  · decide
  split
  · unfold hexTell
    split
    · rename_i h
      refine oneW_lt ?_
      simp only [Bool.and_eq_true, beq_iff_eq] at h
      have h2 := hexFold_lt (trimPrefix l [120])
      rw [h.2] at h2
      exact h2
    · show (0 : Nat) < 18446744073709551616
      omega
  · unfold digTell
    split
    · show (0 : Nat) < 18446744073709551616
      omega
    · exact intF_lt _

set_option maxRecDepth 100000 in
theorem step_state (B M : Nat) (en : En) (st : List Nat) (v : Value) (hn : st.length ≤ 90000) (ho : en.Ok) (w : World) (h : Mach B M en st v w) :
    Calls Tryd.prog 29 #[.pointer (some ⟨M, 0, none⟩), .string ⟨#[115, 116, 97, 116, 101]⟩] w (OutPost B M en (.tuple #[]) (.ok (oneW en.s :: st)) w) := by
  have HR := Lib.hid fun v w h => reckon_no B M en st v ⟨#[115, 116, 97, 116, 101]⟩ (by decide) w h
  have HM := Lib.hid (move_no ⟨#[115, 116, 97, 116, 101]⟩ (by decide))
  go_enter Tryd.func29, Tryd.ntmps29
  go_wp2_with fail
  refine (HR.out v w h).mono ?_
  rintro e w1 ⟨rfl, h1, hW1⟩
  clear h
  go_wp2_with fail
  refine (HM.out _ _).mono ?_
  rintro e w2 ⟨rfl, rfl⟩
  obtain ⟨c0, c1, c2, c3, c4, c5, c6, c7⟩ := h1.cells
  have hz := h1.lt
  go_wp2_with fail
  refine (push_any B M en st v _ ho.s (by omega) _ h1).mono ?_
  rintro e w3 ⟨rfl, h3, hW3⟩
  go_wp2
  go_end0
  exact ⟨rfl, h3, hW1.trans hW3⟩

set_option maxRecDepth 100000 in
theorem step_value (B M : Nat) (en : En) (st : List Nat) (v : Value) (hn : st.length ≤ 90000) (ho : en.Ok) (w : World) (h : Mach B M en st v w) :
    Calls Tryd.prog 29 #[.pointer (some ⟨M, 0, none⟩), .string ⟨#[118, 97, 108, 117, 101]⟩] w (OutPost B M en (.tuple #[]) (.ok (oneW en.v :: st)) w) := by
  have HR := Lib.hid fun v w h => reckon_no B M en st v ⟨#[118, 97, 108, 117, 101]⟩ (by decide) w h
  have HM := Lib.hid (move_no ⟨#[118, 97, 108, 117, 101]⟩ (by decide))
  go_enter Tryd.func29, Tryd.ntmps29
  go_wp2_with fail
  refine (HR.out v w h).mono ?_
  rintro e w1 ⟨rfl, h1, hW1⟩
  clear h
  go_wp2_with fail
  refine (HM.out _ _).mono ?_
  rintro e w2 ⟨rfl, rfl⟩
  obtain ⟨c0, c1, c2, c3, c4, c5, c6, c7⟩ := h1.cells
  have hz := h1.lt
  go_wp2_with fail
  refine (push_any B M en st v _ ho.v (by omega) _ h1).mono ?_
  rintro e w3 ⟨rfl, h3, hW3⟩
  go_wp2
  go_end0
  exact ⟨rfl, h3, hW1.trans hW3⟩

set_option maxRecDepth 100000 in
theorem step_version (B M : Nat) (en : En) (st : List Nat) (v : Value) (hn : st.length ≤ 90000) (ho : en.Ok) (w : World) (h : Mach B M en st v w) :
    Calls Tryd.prog 29 #[.pointer (some ⟨M, 0, none⟩), .string ⟨#[118, 101, 114, 115, 105, 111, 110]⟩] w (OutPost B M en (.tuple #[]) (.ok (oneW (intF en.ver) :: st)) w) := by
  have _h := ho
  have HR := Lib.hid fun v w h => reckon_no B M en st v ⟨#[118, 101, 114, 115, 105, 111, 110]⟩ (by decide) w h
  have HM := Lib.hid (move_no ⟨#[118, 101, 114, 115, 105, 111, 110]⟩ (by decide))
  have hcv : ∀ w : World, (convert 3 23 (.int .i64 en.ver)).run Tryd.prog w = .ok (.float .f64 (intF en.ver)) w := fun w => run_convert_int_float w 3 23 .i64 .f64 _ (by kernel_rfl) Tryd.underlying23
  go_enter Tryd.func29, Tryd.ntmps29
  go_wp2_with fail
  refine (HR.out v w h).mono ?_
  rintro e w1 ⟨rfl, h1, hW1⟩
  clear h
  go_wp2_with fail
  refine (HM.out _ _).mono ?_
  rintro e w2 ⟨rfl, rfl⟩
  obtain ⟨c0, c1, c2, c3, c4, c5, c6, c7⟩ := h1.cells
  have hz := h1.lt
  go_wp2_with fail
  refine (push_any B M en st v _ (intF_lt _) (by omega) _ h1).mono ?_
  rintro e w3 ⟨rfl, h3, hW3⟩
  go_wp2
  go_end0
  exact ⟨rfl, h3, hW1.trans hW3⟩

set_option maxRecDepth 100000 in
theorem step_len (B M : Nat) (en : En) (st : List Nat) (v : Value) (hn : st.length ≤ 90000) (ho : en.Ok) (w : World) (h : Mach B M en st v w) :
    Calls Tryd.prog 29 #[.pointer (some ⟨M, 0, none⟩), .string ⟨#[108, 101, 110]⟩] w (OutPost B M en (.tuple #[]) (.ok (oneW (intF en.d.size) :: st)) w) := by
  have _h := ho
  have HR := Lib.hid fun v w h => reckon_no B M en st v ⟨#[108, 101, 110]⟩ (by decide) w h
  have HM := Lib.hid (move_no ⟨#[108, 101, 110]⟩ (by decide))
  have hcv : ∀ w : World, (convert 3 23 (.int .i64 (en.d.size : Nat))).run Tryd.prog w = .ok (.float .f64 (intF (en.d.size : Nat))) w := fun w => run_convert_int_float w 3 23 .i64 .f64 _ (by kernel_rfl) Tryd.underlying23
  go_enter Tryd.func29, Tryd.ntmps29
  go_wp2_with fail
  refine (HR.out v w h).mono ?_
  rintro e w1 ⟨rfl, h1, hW1⟩
  clear h
  go_wp2_with fail
  refine (HM.out _ _).mono ?_
  rintro e w2 ⟨rfl, rfl⟩
  obtain ⟨c0, c1, c2, c3, c4, c5, c6, c7⟩ := h1.cells
  have hz := h1.lt
  go_wp2_with fail
  refine (push_any B M en st v _ (intF_lt _) (by omega) _ h1).mono ?_
  rintro e w3 ⟨rfl, h3, hW3⟩
  go_wp2
  go_end0
  exact ⟨rfl, h3, hW1.trans hW3⟩

set_option maxRecDepth 100000 in
theorem step_fail (B M : Nat) (en : En) (st : List Nat) (v : Value) (hn : st.length ≤ 90000) (ho : en.Ok) (w : World) (h : Mach B M en st v w) :
    Calls Tryd.prog 29 #[.pointer (some ⟨M, 0, none⟩), .string ⟨#[102, 97, 105, 108]⟩] w (OutPost B M en (.tuple #[]) (.fail) w) := by
  have _ho := ho
  have _hn := hn
  have HR := Lib.hid fun v w h => reckon_no B M en st v ⟨#[102, 97, 105, 108]⟩ (by decide) w h
  have HM := Lib.hid (move_no ⟨#[102, 97, 105, 108]⟩ (by decide))
  go_enter Tryd.func29, Tryd.ntmps29
  go_wp2_with fail
  refine (HR.out v w h).mono ?_
  rintro e w1 ⟨rfl, h1, hW1⟩
  clear h
  go_wp2_with fail
  refine (HM.out _ _).mono ?_
  rintro e w2 ⟨rfl, rfl⟩
  go_wp2_with fail
  refine (fail_any _ _).mono ?_
  rintro e w3 ⟨rfl, rfl⟩
  exact ⟨rfl, rfl, hW1⟩

set_option maxRecDepth 100000 in
theorem step_neg (B M : Nat) (en : En) (st : List Nat) (v : Value) (hn : st.length ≤ 90000) (ho : en.Ok) (w : World) (h : Mach B M en st v w) :
    Calls Tryd.prog 29 #[.pointer (some ⟨M, 0, none⟩), .string ⟨#[110, 101, 103]⟩] w (OutPost B M en (.tuple #[]) (match (motive := List Nat → Out) st with | f :: t => .ok (oneW (negB f) :: t) | _ => .rt) w) := by
  have _ho := ho
  have HR := Lib.hid fun v w h => reckon_no B M en st v ⟨#[110, 101, 103]⟩ (by decide) w h
  have HM := Lib.hid (move_no ⟨#[110, 101, 103]⟩ (by decide))
  match st, h, hn with
  | [], h, hn =>
    change Calls _ _ _ _ (RtPost B M w)
    go_enter Tryd.func29, Tryd.ntmps29
    go_wp2_with fail
    refine (HR.out v w h).mono ?_
    rintro e w1 ⟨rfl, h1, hW1⟩
    clear h
    go_wp2_with fail
    refine (HM.out _ _).mono ?_
    rintro e w2 ⟨rfl, rfl⟩
    go_wp2_with fail
    refine (pop_none B M en v _ h1).mono ?_
    rintro e w3 ⟨⟨t, pv, rfl, ht⟩, hW⟩
    exact ⟨rfl, ⟨t, pv, rfl, ht⟩, hW1.trans hW⟩
  | f :: t, h, hn =>
    have hf := h.fit f (by simp)
    have hn2 : t.length ≤ 90000 := by simp at hn; omega
    change Calls _ _ _ _ (OutPost B M en (.tuple #[]) (.ok (oneW (negB f) :: t)) w)
    have hneg : ∀ w : World, (Op.unary .neg (.float .f64 f)).run Tryd.prog w = .ok (.float .f64 (negB f)) w := fun w => runNeg f w
    go_enter Tryd.func29, Tryd.ntmps29
    go_wp2_with fail
    refine (HR.out v w h).mono ?_
    rintro e w1 ⟨rfl, h1, hW1⟩
    clear h
    go_wp2_with fail
    refine (HM.out _ _).mono ?_
    rintro e w2 ⟨rfl, rfl⟩
    go_wp2_with fail
    refine (pop_some B M en f t v (by omega) _ h1).mono ?_
    rintro e w3 ⟨rfl, ⟨v3, h3⟩, hW3⟩
    go_wp2_with fail
    refine (push_any B M en t v3 (negB f) (negB_lt f hf) (by omega) _ h3).mono ?_
    rintro e w4 ⟨rfl, h4, hW4⟩
    go_wp2
    go_end0
    exact ⟨rfl, h4, (hW1.trans hW3).trans hW4⟩

set_option maxRecDepth 100000 in
theorem step_byte (B M : Nat) (en : En) (st : List Nat) (v : Value) (hn : st.length ≤ 90000) (ho : en.Ok) (w : World) (h : Mach B M en st v w) :
    Calls Tryd.prog 29 #[.pointer (some ⟨M, 0, none⟩), .string ⟨#[98, 121, 116, 101]⟩] w (OutPost B M en (.tuple #[]) (match (motive := List Nat → Out) st with | k :: t => (match placeB k en.d.size with | some i => .ok (oneW (intF ((en.d.data.toList.getD i 0).toNat)) :: t) | none => .rt) | _ => .rt) w) := by
  have HR := Lib.hid fun v w h => reckon_no B M en st v ⟨#[98, 121, 116, 101]⟩ (by decide) w h
  have HM := Lib.hid (move_no ⟨#[98, 121, 116, 101]⟩ (by decide))
  match st, h, hn with
  | [], h, hn =>
    have _ho := ho
    change Calls _ _ _ _ (RtPost B M w)
    go_enter Tryd.func29, Tryd.ntmps29
    go_wp2_with fail
    refine (HR.out v w h).mono ?_
    rintro e w1 ⟨rfl, h1, hW1⟩
    clear h
    go_wp2_with fail
    refine (HM.out _ _).mono ?_
    rintro e w2 ⟨rfl, rfl⟩
    go_wp2_with fail
    refine (pop_none B M en v _ h1).mono ?_
    rintro e w3 ⟨⟨t, pv, rfl, ht⟩, hW⟩
    exact ⟨rfl, ⟨t, pv, rfl, ht⟩, hW1.trans hW⟩
  | k :: t, h, hn =>
    have hn2 : t.length ≤ 90000 := by simp at hn; omega
    have HA := Lib.hid fun v3 w3 h3 => at_any B M en t v3 k ho w3 h3
    change Calls _ _ _ _ (OutPost B M en (.tuple #[]) (match placeB k en.d.size with | some i => .ok (oneW (intF ((en.d.data.toList.getD i 0).toNat)) :: t) | none => .rt) w)
    unfold AtPost at HA
    revert HA
    generalize placeB k en.d.size = pl
    intro HA
    cases pl with
    | none =>
      change Calls _ _ _ _ (RtPost B M w)
      go_enter Tryd.func29, Tryd.ntmps29
      go_wp2_with fail
      refine (HR.out v w h).mono ?_
      rintro e w1 ⟨rfl, h1, hW1⟩
      clear h
      go_wp2_with fail
      refine (HM.out _ _).mono ?_
      rintro e w2 ⟨rfl, rfl⟩
      go_wp2_with fail
      refine (pop_some B M en k t v (by omega) _ h1).mono ?_
      rintro e w3 ⟨rfl, ⟨v3, h3⟩, hW3⟩
      go_wp2_with fail
      refine (HA.out v3 w3 h3).mono ?_
      rintro e w4 ⟨⟨t, pv, rfl, ht⟩, hW⟩
      exact ⟨rfl, ⟨t, pv, rfl, ht⟩, (hW1.trans hW3).trans hW⟩
    | some i =>
      revert HA
      change Hid (∀ v3 w3, Mach B M en t v3 w3 → Calls _ _ _ w3 fun e w' => e = .returned (.int .u8 ((en.d.data.toList.getD i 0).toNat)) ∧ w' = w3) → Calls _ _ _ _ (OutPost B M en (.tuple #[]) (.ok (oneW (intF ((en.d.data.toList.getD i 0).toNat)) :: t)) w)
      generalize (en.d.data.toList.getD i 0).toNat = c
      intro HA
      have hcv : ∀ w : World, (convert 5 23 (.int .u8 (c : Int))).run Tryd.prog w = .ok (.float .f64 (intF (c : Int))) w := fun w => run_convert_int_float w 5 23 .u8 .f64 _ (by kernel_rfl) Tryd.underlying23
      go_enter Tryd.func29, Tryd.ntmps29
      go_wp2_with fail
      refine (HR.out v w h).mono ?_
      rintro e w1 ⟨rfl, h1, hW1⟩
      clear h
      go_wp2_with fail
      refine (HM.out _ _).mono ?_
      rintro e w2 ⟨rfl, rfl⟩
      go_wp2_with fail
      refine (pop_some B M en k t v (by omega) _ h1).mono ?_
      rintro e w3 ⟨rfl, ⟨v3, h3⟩, hW3⟩
      go_wp2_with fail
      refine (HA.out v3 w3 h3).mono ?_
      rintro e w4 ⟨rfl, rfl⟩
      go_wp2_with fail
      refine (push_any B M en t v3 _ (intF_lt _) (by omega) _ h3).mono ?_
      rintro e w5 ⟨rfl, h5, hW5⟩
      go_wp2
      go_end0
      exact ⟨rfl, h5, (hW1.trans hW3).trans hW5⟩

set_option maxRecDepth 100000 in
theorem step_num (B M : Nat) (en : En) (st : List Nat) (v : Value) (hn : st.length ≤ 90000) (s : ByteArray) (hs : s.size ≤ 281474976710656) (ha : arithWords.contains s.data.toList = false) (hm : moveWords.contains s.data.toList = false) (hot : ∀ l ∈ otherWords, s.data.toList ≠ l) (w : World) (h : Mach B M en st v w) :
    Calls Tryd.prog 29 #[.pointer (some ⟨M, 0, none⟩), .string s] w (OutPost B M en (.tuple #[]) (.ok (oneW (parseB s.data.toList).1 :: st)) w) := by
  have HR := Lib.hid fun v w h => reckon_no B M en st v s ha w h
  have HM := Lib.hid (move_no s hm)
  obtain ⟨f1, f2, f3, f4, f5, f6, f7⟩ := noOther_of hot
  have HP := Lib.hid (parse_any s hs)
  have hlt := parse_lt s.data.toList
  clear ha hm hot hs
  revert HP hlt
  unfold tellsF
  generalize (parseB s.data.toList).1 = x
  generalize (parseB s.data.toList).2 = y
  intro HP hlt
  go_enter Tryd.func29, Tryd.ntmps29
  go_wp2_with fail
  refine (HR.out v w h).mono ?_
  rintro e w1 ⟨rfl, h1, hW1⟩
  clear h
  go_wp2_with fail
  refine (HM.out _ _).mono ?_
  rintro e w2 ⟨rfl, rfl⟩
  go_wp2_with fail
  refine (HP.out _).mono ?_
  rintro e w3 ⟨rfl, rfl⟩
  go_wp2_with fail
  refine (push_any B M en st v x hlt (by omega) _ h1).mono ?_
  rintro e w4 ⟨rfl, h4, hW4⟩
  go_wp2
  go_end0
  exact ⟨rfl, h4, hW1.trans hW4⟩
end Go.Proofs.YtidjnfjpdnjogaaDoor
