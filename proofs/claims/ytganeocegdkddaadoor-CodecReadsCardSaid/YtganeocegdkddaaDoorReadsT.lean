/-
  CodecReads, the walk: of an empty In. Conditions: none.
-/
import Derived.Test.YtganeocegdkddaaDoorReadsA
namespace Go.Proofs.YtganeocegdkddaaDoor
open Go.RowKit Go.Lib

set_option maxRecDepth 100000 in
set_option maxHeartbeats 8000000 in
theorem reads_t (b : ByteArray) (ao : Option Addr) (len cap : Nat) (en' : Bool) (Kd Nn : Nat → Int) (Bt : Nat → Nat) (Ss : Nat → ByteArray) (W : World) (ht : Tab W) (hJ : OpsArg W ao len Kd Nn Bt Ss) (hgood : b.size ≤ 6000) :
    Calls Tryd.prog 8 #[.string b, .bool true, .slice ao len cap, .bool en'] W fun en w' => en = .returned (.bool true) ∧ Below W.heap.size W w' := by
  have h0 : ¬ (6000 : Int) < (b.size : Int) := by omega
  have HT := Lib.hid ht; clear ht
  have HJ := Lib.hid hJ; clear hJ
  have hnew : b.size ≤ 281474976710656 := by omega
  have HN := Lib.hid (And.intro hnew hgood); clear hnew hgood
  · go_enter Tryd.func8, Tryd.ntmps8
    go_wp2_with fail
    refine (light_any ao len cap Kd Nn Bt Ss W HJ.out).mono ?_
    rintro en w' ⟨r, rfl, hr, rfl⟩
    cases r
    · go_wp2_with fail
      refine (alive_any W HT.out).mono ?_
      rintro en w1 ⟨rfl, b1⟩
      go_wp2
      go_ret
      exact ⟨rfl, b1⟩
    · obtain ⟨hl60, -⟩ := hr rfl
      clear hr
      go_wp2_with fail
      refine (alive_any W HT.out).mono ?_
      rintro en w1 ⟨rfl, b1⟩
      go_wp2_with fail
      refine (newIn b w1 HN.out.1).mono ?_
      rintro en w2 ⟨I, rfl, i2, hI, b2⟩
      have b3 := b1.trans (b2.mono b1.size)
      have hBI : W.heap.size ≤ I := Nat.le_trans b1.size hI
      clear b1 b2 hI
      have hX : RInAt w2.heap.size b 0 (w2.alloc (.cells #[.string b, .int .i64 0] 59)) := new_block _ _
      have HA : RW W.heap.size I w2.heap.size b b 0 (w2.alloc (.cells #[.string b, .int .i64 0] 59)) := ⟨i2.below (below_alloc _ _), hX, fun _ => rfl, hBI, b3.size, HN.out.2, HN.out.2⟩
      have hb4 := b3.trans ((below_alloc w2 (.cells #[.string b, .int .i64 0] 59)).mono b3.size)
      clear hX i2
      have hbz := b3.size
      clear b3
      obtain ⟨w3, hw3⟩ : ∃ w3, w2.alloc (.cells #[.string b, .int .i64 0] 59) = w3 := ⟨_, rfl⟩
      have hsz3 : w3.heap.size = w2.heap.size + 1 := by rw [← hw3]; simp
      rw [hw3] at hb4
      clear HA
      have hI2 : InAt w3.heap.size ⟨#[]⟩ 0 ((w3.alloc (.cells #[.string ⟨#[]⟩, .int .i64 0] 61)).alloc (.cells #[.string ⟨#[]⟩, .int .i64 0] 59)) := InAt.below (new_block _ _) (below_alloc _ _)
      have hX2 : RInAt (w3.heap.size + 1) ⟨#[]⟩ 0 ((w3.alloc (.cells #[.string ⟨#[]⟩, .int .i64 0] 61)).alloc (.cells #[.string ⟨#[]⟩, .int .i64 0] 59)) := new_block2 _ _ _
      have HA : RW W.heap.size w3.heap.size (w3.heap.size + 1) ⟨#[]⟩ ⟨#[]⟩ 0 ((w3.alloc (.cells #[.string ⟨#[]⟩, .int .i64 0] 61)).alloc (.cells #[.string ⟨#[]⟩, .int .i64 0] 59)) := ⟨hI2, hX2, fun _ => rfl, hb4.size, Nat.le_succ_of_le hb4.size, by decide, by decide⟩
      have hb5 := (hb4.trans ((below_alloc w3 (.cells #[.string ⟨#[]⟩, .int .i64 0] 61)).mono hb4.size)).trans ((below_alloc (w3.alloc (.cells #[.string ⟨#[]⟩, .int .i64 0] 61)) (.cells #[.string ⟨#[]⟩, .int .i64 0] 59)).mono (by simp; have := hb4.size; omega))
      rw [← hw3] at HA hb5
      have HE := Lib.hid (And.intro HA hb5); clear HA hb5 hI2 hX2 hb4 hBI hbz hw3 hsz3
      go_wp2_with fail
      go_loopg [11] len (fun g i wr => ∃ (k : Nat) (s s' : ByteArray) (e : Int), g = len - k ∧ k ≤ len ∧ i = .int .i64 k ∧ RW W.heap.size (w2.heap.size + 1) (w2.heap.size + 1 + 1) s s' e wr ∧ Below W.heap.size W wr)
      case atStart => exact ⟨0, ⟨#[]⟩, ⟨#[]⟩, 0, by omega, by omega, rfl, by simpa using HE.out.1, by simpa using HE.out.2⟩
      case round =>
        obtain ⟨k, s, s', e, hg, hle, rfl, hA, hb⟩ := hrel
        have HG := Lib.hid hg; clear hg
        by_cases hk : k < len
        · obtain ⟨bb, off, rfl, hIn⟩ := HJ.out.at_ (by omega)
          have hI2 := hIn.below hb
          have hbl := hI2.bl
          have f0 := hI2.c0 k hk
          have f1 := hI2.c1 k hk
          clear hI2
          have HA := Lib.hid (And.intro hA (And.intro hb hIn)); clear hA hb hIn
          rcases kinds (Kd k) with h1 | ⟨h1, h2⟩ | ⟨h1, h2, h3⟩ | ⟨h1, h2, h3, h4⟩ | ⟨h1, h2, h3, h4, h5⟩ | ⟨h1, h2, h3, h4, h5⟩
          · obtain ⟨q1, q2, q3⟩ := take_rel s s' e 1 HA.out.1.rel
            have HQ := Lib.hid (And.intro q1 (And.intro q2 q3)); clear q1 q2 q3
            have hnl := numOf_lt s e 1
            have T1 := Lib.hid (inU8 _ s e wr HA.out.1.i)
            have T2 := Lib.hid (fun ww x2 => rnumIn_any (w2.heap.size + 1 + 1) s' e ww x2 1 1 rfl (by decide) (Nat.le_trans HA.out.1.zx (by decide)))
            go_wp2_with fail
            refine T1.out.mono ?_
            rintro en w4 ⟨rfl, i4, o4⟩
            have x4 := HA.out.1.one o4
            have HX := Lib.hid (And.intro i4 (And.intro o4 x4)); clear i4 o4 x4 f0 f1 hbl
            go_wp2_with fail
            refine (T2.out w4 HX.out.2.2).mono ?_
            rintro en w5 ⟨rfl, x5, o5⟩
            rw [HQ.out.1]
            rw [HQ.out.2.1] at x5
            obtain ⟨hA5, hb5⟩ := HA.out.1.two HX.out.1 HX.out.2.1 x5 o5 HQ.out.2.2 (take_left _ _ _) (take_left _ _ _)
            have hb6 := HA.out.2.1.trans hb5
            obtain ⟨s3, hs3⟩ : ∃ x, (takeOf s e 1).2.1 = x := ⟨_, rfl⟩
            obtain ⟨s4, hs4⟩ : ∃ x, (takeOf s' e 1).2.1 = x := ⟨_, rfl⟩
            obtain ⟨e3, he3⟩ : ∃ x, (takeOf s e 1).2.2 = x := ⟨_, rfl⟩
            rw [hs3, hs4, he3] at hA5
            clear hs3 hs4 he3 HX HQ T1 T2 x5 o5 hb5 HA
            revert hnl
            generalize numOf s e 1 = nv
            intro hnl
            have hw : IntKind.i64.wrap (nv : Int) = (nv : Int) := IntWalk.i64_in _ (by omega)
            by_cases he : e3 = 0
            · subst he
              have hs43 := hA5.rel rfl
              subst hs43
              have T3 := Lib.hid (fun w' (h : InAt (w2.heap.size + 1) s4 0 w') => inErr (w2.heap.size + 1) s4 0 w' h)
              have T4 := Lib.hid (fun w' (h : InAt (w2.heap.size + 1) s4 0 w') => left_ok (w2.heap.size + 1) s4 w' h)
              obtain ⟨c1, c2, c3, c4⟩ := cells_of_two hA5.x
              have hz := lt_of_block hA5.x
              have HB := Lib.hid (And.intro hA5 hb6); clear hA5 hb6
              go_wp2_with fail
              go_quiet ((first | (go_at_call 21; exact Calls.quiet_of_same (T3.out _ HB.out.1.i)) | (go_at_call 19; exact Calls.quiet_of_same (T4.out _ HB.out.1.i))))
              go_wp2_with fail
              go_roundg (len - (k + 1))
              case measure => rw [HG.out]; omega
              case rel => exact ⟨k + 1, s4, s4, 0, rfl, hk, by go_num, HB.out.1.below' (below_draws (Below.refl _ _) _), below_draws HB.out.2 _⟩
            · have he2 : (e3 == 0) = false := by simpa using he
              have T3 := Lib.hid (fun w' (h : InAt (w2.heap.size + 1) s3 e3 w') => inErr (w2.heap.size + 1) s3 e3 w' h)
              have T4 := Lib.hid (fun w' (h : InAt (w2.heap.size + 1) s3 e3 w') => left_bad (w2.heap.size + 1) s3 e3 w' h he)
              obtain ⟨c1, c2, c3, c4⟩ := cells_of_two hA5.x
              have hz := lt_of_block hA5.x
              have HB := Lib.hid (And.intro hA5 hb6); clear hA5 hb6 he
              go_wp2_with fail
              go_quiet ((first | (go_at_call 21; exact Calls.quiet_of_same (T3.out _ HB.out.1.i)) | (go_at_call 19; exact Calls.quiet_of_same (T4.out _ HB.out.1.i))))
              go_wp2_with fail
              go_roundg (len - (k + 1))
              case measure => rw [HG.out]; omega
              case rel => exact ⟨k + 1, s3, s4, e3, rfl, hk, by go_num, HB.out.1.below' (below_draws (Below.refl _ _) _), below_draws HB.out.2 _⟩
          · obtain ⟨q1, q2, q3⟩ := take_rel s s' e 4 HA.out.1.rel
            have HQ := Lib.hid (And.intro q1 (And.intro q2 q3)); clear q1 q2 q3
            have hnl := numOf_lt s e 4
            have T1 := Lib.hid (inU32 _ s e wr HA.out.1.i)
            have T2 := Lib.hid (fun ww x2 => rnumIn_any (w2.heap.size + 1 + 1) s' e ww x2 4 4 rfl (by decide) (Nat.le_trans HA.out.1.zx (by decide)))
            go_wp2_with fail
            refine T1.out.mono ?_
            rintro en w4 ⟨rfl, i4, o4⟩
            have x4 := HA.out.1.one o4
            have HX := Lib.hid (And.intro i4 (And.intro o4 x4)); clear i4 o4 x4 f0 f1 hbl
            go_wp2_with fail
            refine (T2.out w4 HX.out.2.2).mono ?_
            rintro en w5 ⟨rfl, x5, o5⟩
            rw [HQ.out.1]
            rw [HQ.out.2.1] at x5
            obtain ⟨hA5, hb5⟩ := HA.out.1.two HX.out.1 HX.out.2.1 x5 o5 HQ.out.2.2 (take_left _ _ _) (take_left _ _ _)
            have hb6 := HA.out.2.1.trans hb5
            obtain ⟨s3, hs3⟩ : ∃ x, (takeOf s e 4).2.1 = x := ⟨_, rfl⟩
            obtain ⟨s4, hs4⟩ : ∃ x, (takeOf s' e 4).2.1 = x := ⟨_, rfl⟩
            obtain ⟨e3, he3⟩ : ∃ x, (takeOf s e 4).2.2 = x := ⟨_, rfl⟩
            rw [hs3, hs4, he3] at hA5
            clear hs3 hs4 he3 HX HQ T1 T2 x5 o5 hb5 HA
            revert hnl
            generalize numOf s e 4 = nv
            intro hnl
            have hw : IntKind.i64.wrap (nv : Int) = (nv : Int) := IntWalk.i64_in _ (by omega)
            by_cases he : e3 = 0
            · subst he
              have hs43 := hA5.rel rfl
              subst hs43
              have T3 := Lib.hid (fun w' (h : InAt (w2.heap.size + 1) s4 0 w') => inErr (w2.heap.size + 1) s4 0 w' h)
              have T4 := Lib.hid (fun w' (h : InAt (w2.heap.size + 1) s4 0 w') => left_ok (w2.heap.size + 1) s4 w' h)
              obtain ⟨c1, c2, c3, c4⟩ := cells_of_two hA5.x
              have hz := lt_of_block hA5.x
              have HB := Lib.hid (And.intro hA5 hb6); clear hA5 hb6
              go_wp2_with fail
              go_quiet ((first | (go_at_call 21; exact Calls.quiet_of_same (T3.out _ HB.out.1.i)) | (go_at_call 19; exact Calls.quiet_of_same (T4.out _ HB.out.1.i))))
              go_wp2_with fail
              go_roundg (len - (k + 1))
              case measure => rw [HG.out]; omega
              case rel => exact ⟨k + 1, s4, s4, 0, rfl, hk, by go_num, HB.out.1.below' (below_draws (Below.refl _ _) _), below_draws HB.out.2 _⟩
            · have he2 : (e3 == 0) = false := by simpa using he
              have T3 := Lib.hid (fun w' (h : InAt (w2.heap.size + 1) s3 e3 w') => inErr (w2.heap.size + 1) s3 e3 w' h)
              have T4 := Lib.hid (fun w' (h : InAt (w2.heap.size + 1) s3 e3 w') => left_bad (w2.heap.size + 1) s3 e3 w' h he)
              obtain ⟨c1, c2, c3, c4⟩ := cells_of_two hA5.x
              have hz := lt_of_block hA5.x
              have HB := Lib.hid (And.intro hA5 hb6); clear hA5 hb6 he
              go_wp2_with fail
              go_quiet ((first | (go_at_call 21; exact Calls.quiet_of_same (T3.out _ HB.out.1.i)) | (go_at_call 19; exact Calls.quiet_of_same (T4.out _ HB.out.1.i))))
              go_wp2_with fail
              go_roundg (len - (k + 1))
              case measure => rw [HG.out]; omega
              case rel => exact ⟨k + 1, s3, s4, e3, rfl, hk, by go_num, HB.out.1.below' (below_draws (Below.refl _ _) _), below_draws HB.out.2 _⟩
          · obtain ⟨q1, q2, q3⟩ := take_rel s s' e 8 HA.out.1.rel
            have HQ := Lib.hid (And.intro q1 (And.intro q2 q3)); clear q1 q2 q3
            have hnl := numOf_lt s e 8
            have T1 := Lib.hid (inU64 _ s e wr HA.out.1.i)
            have T2 := Lib.hid (fun ww x2 => rnumIn_any (w2.heap.size + 1 + 1) s' e ww x2 8 8 rfl (by decide) (Nat.le_trans HA.out.1.zx (by decide)))
            go_wp2_with fail
            refine T1.out.mono ?_
            rintro en w4 ⟨rfl, i4, o4⟩
            have x4 := HA.out.1.one o4
            have HX := Lib.hid (And.intro i4 (And.intro o4 x4)); clear i4 o4 x4 f0 f1 hbl
            go_wp2_with fail
            refine (T2.out w4 HX.out.2.2).mono ?_
            rintro en w5 ⟨rfl, x5, o5⟩
            rw [HQ.out.1]
            rw [HQ.out.2.1] at x5
            obtain ⟨hA5, hb5⟩ := HA.out.1.two HX.out.1 HX.out.2.1 x5 o5 HQ.out.2.2 (take_left _ _ _) (take_left _ _ _)
            have hb6 := HA.out.2.1.trans hb5
            obtain ⟨s3, hs3⟩ : ∃ x, (takeOf s e 8).2.1 = x := ⟨_, rfl⟩
            obtain ⟨s4, hs4⟩ : ∃ x, (takeOf s' e 8).2.1 = x := ⟨_, rfl⟩
            obtain ⟨e3, he3⟩ : ∃ x, (takeOf s e 8).2.2 = x := ⟨_, rfl⟩
            rw [hs3, hs4, he3] at hA5
            clear hs3 hs4 he3 HX HQ T1 T2 x5 o5 hb5 HA
            revert hnl
            generalize numOf s e 8 = nv
            intro hnl
            by_cases he : e3 = 0
            · subst he
              have hs43 := hA5.rel rfl
              subst hs43
              have T3 := Lib.hid (fun w' (h : InAt (w2.heap.size + 1) s4 0 w') => inErr (w2.heap.size + 1) s4 0 w' h)
              have T4 := Lib.hid (fun w' (h : InAt (w2.heap.size + 1) s4 0 w') => left_ok (w2.heap.size + 1) s4 w' h)
              obtain ⟨c1, c2, c3, c4⟩ := cells_of_two hA5.x
              have hz := lt_of_block hA5.x
              have HB := Lib.hid (And.intro hA5 hb6); clear hA5 hb6
              go_wp2_with fail
              go_quiet ((first | (go_at_call 21; exact Calls.quiet_of_same (T3.out _ HB.out.1.i)) | (go_at_call 19; exact Calls.quiet_of_same (T4.out _ HB.out.1.i))))
              go_wp2_with fail
              go_roundg (len - (k + 1))
              case measure => rw [HG.out]; omega
              case rel => exact ⟨k + 1, s4, s4, 0, rfl, hk, by go_num, HB.out.1.below' (below_draws (Below.refl _ _) _), below_draws HB.out.2 _⟩
            · have he2 : (e3 == 0) = false := by simpa using he
              have T3 := Lib.hid (fun w' (h : InAt (w2.heap.size + 1) s3 e3 w') => inErr (w2.heap.size + 1) s3 e3 w' h)
              have T4 := Lib.hid (fun w' (h : InAt (w2.heap.size + 1) s3 e3 w') => left_bad (w2.heap.size + 1) s3 e3 w' h he)
              obtain ⟨c1, c2, c3, c4⟩ := cells_of_two hA5.x
              have hz := lt_of_block hA5.x
              have HB := Lib.hid (And.intro hA5 hb6); clear hA5 hb6 he
              go_wp2_with fail
              go_quiet ((first | (go_at_call 21; exact Calls.quiet_of_same (T3.out _ HB.out.1.i)) | (go_at_call 19; exact Calls.quiet_of_same (T4.out _ HB.out.1.i))))
              go_wp2_with fail
              go_roundg (len - (k + 1))
              case measure => rw [HG.out]; omega
              case rel => exact ⟨k + 1, s3, s4, e3, rfl, hk, by go_num, HB.out.1.below' (below_draws (Below.refl _ _) _), below_draws HB.out.2 _⟩
          · obtain ⟨q1, q2, q3⟩ := take_rel s s' e 8 HA.out.1.rel
            have HQ := Lib.hid (And.intro q1 (And.intro q2 q3)); clear q1 q2 q3
            have hnl := numOf_lt s e 8
            have T1 := Lib.hid (inI64 _ s e wr HA.out.1.i)
            have T2 := Lib.hid (fun ww x2 => rnumIn_any (w2.heap.size + 1 + 1) s' e ww x2 8 8 rfl (by decide) (Nat.le_trans HA.out.1.zx (by decide)))
            go_wp2_with fail
            refine T1.out.mono ?_
            rintro en w4 ⟨rfl, i4, o4⟩
            have x4 := HA.out.1.one o4
            have HX := Lib.hid (And.intro i4 (And.intro o4 x4)); clear i4 o4 x4 f0 f1 hbl
            go_wp2_with fail
            refine (T2.out w4 HX.out.2.2).mono ?_
            rintro en w5 ⟨rfl, x5, o5⟩
            rw [HQ.out.1]
            rw [HQ.out.2.1] at x5
            obtain ⟨hA5, hb5⟩ := HA.out.1.two HX.out.1 HX.out.2.1 x5 o5 HQ.out.2.2 (take_left _ _ _) (take_left _ _ _)
            have hb6 := HA.out.2.1.trans hb5
            obtain ⟨s3, hs3⟩ : ∃ x, (takeOf s e 8).2.1 = x := ⟨_, rfl⟩
            obtain ⟨s4, hs4⟩ : ∃ x, (takeOf s' e 8).2.1 = x := ⟨_, rfl⟩
            obtain ⟨e3, he3⟩ : ∃ x, (takeOf s e 8).2.2 = x := ⟨_, rfl⟩
            rw [hs3, hs4, he3] at hA5
            clear hs3 hs4 he3 HX HQ T1 T2 x5 o5 hb5 HA
            revert hnl
            generalize numOf s e 8 = nv
            intro hnl
            by_cases he : e3 = 0
            · subst he
              have hs43 := hA5.rel rfl
              subst hs43
              have T3 := Lib.hid (fun w' (h : InAt (w2.heap.size + 1) s4 0 w') => inErr (w2.heap.size + 1) s4 0 w' h)
              have T4 := Lib.hid (fun w' (h : InAt (w2.heap.size + 1) s4 0 w') => left_ok (w2.heap.size + 1) s4 w' h)
              obtain ⟨c1, c2, c3, c4⟩ := cells_of_two hA5.x
              have hz := lt_of_block hA5.x
              have HB := Lib.hid (And.intro hA5 hb6); clear hA5 hb6
              go_wp2_with fail
              go_quiet ((first | (go_at_call 21; exact Calls.quiet_of_same (T3.out _ HB.out.1.i)) | (go_at_call 19; exact Calls.quiet_of_same (T4.out _ HB.out.1.i))))
              go_wp2_with fail
              go_roundg (len - (k + 1))
              case measure => rw [HG.out]; omega
              case rel => exact ⟨k + 1, s4, s4, 0, rfl, hk, by go_num, HB.out.1.below' (below_draws (Below.refl _ _) _), below_draws HB.out.2 _⟩
            · have he2 : (e3 == 0) = false := by simpa using he
              have T3 := Lib.hid (fun w' (h : InAt (w2.heap.size + 1) s3 e3 w') => inErr (w2.heap.size + 1) s3 e3 w' h)
              have T4 := Lib.hid (fun w' (h : InAt (w2.heap.size + 1) s3 e3 w') => left_bad (w2.heap.size + 1) s3 e3 w' h he)
              obtain ⟨c1, c2, c3, c4⟩ := cells_of_two hA5.x
              have hz := lt_of_block hA5.x
              have HB := Lib.hid (And.intro hA5 hb6); clear hA5 hb6 he
              go_wp2_with fail
              go_quiet ((first | (go_at_call 21; exact Calls.quiet_of_same (T3.out _ HB.out.1.i)) | (go_at_call 19; exact Calls.quiet_of_same (T4.out _ HB.out.1.i))))
              go_wp2_with fail
              go_roundg (len - (k + 1))
              case measure => rw [HG.out]; omega
              case rel => exact ⟨k + 1, s3, s4, e3, rfl, hk, by go_num, HB.out.1.below' (below_draws (Below.refl _ _) _), below_draws HB.out.2 _⟩
          · obtain ⟨q1, q2, q3⟩ := take_rel s s' e 8 HA.out.1.rel
            have HQ := Lib.hid (And.intro q1 (And.intro q2 q3)); clear q1 q2 q3
            have hnl := numOf_lt s e 8
            have T1 := Lib.hid (inF64 _ s e wr HA.out.1.i)
            have T2 := Lib.hid (fun ww x2 => rinFloat (w2.heap.size + 1 + 1) s' e ww x2 (Nat.le_trans HA.out.1.zx (by decide)))
            go_wp2_with fail
            refine T1.out.mono ?_
            rintro en w4 ⟨rfl, i4, o4⟩
            have x4 := HA.out.1.one o4
            have HX := Lib.hid (And.intro i4 (And.intro o4 x4)); clear i4 o4 x4 f0 f1 hbl
            go_wp2_with fail
            refine (T2.out w4 HX.out.2.2).mono ?_
            rintro en w5 ⟨rfl, x5, o5⟩
            rw [HQ.out.1]
            rw [HQ.out.2.1] at x5
            obtain ⟨hA5, hb5⟩ := HA.out.1.two HX.out.1 HX.out.2.1 x5 o5 HQ.out.2.2 (take_left _ _ _) (take_left _ _ _)
            have hb6 := HA.out.2.1.trans hb5
            obtain ⟨s3, hs3⟩ : ∃ x, (takeOf s e 8).2.1 = x := ⟨_, rfl⟩
            obtain ⟨s4, hs4⟩ : ∃ x, (takeOf s' e 8).2.1 = x := ⟨_, rfl⟩
            obtain ⟨e3, he3⟩ : ∃ x, (takeOf s e 8).2.2 = x := ⟨_, rfl⟩
            rw [hs3, hs4, he3] at hA5
            clear hs3 hs4 he3 HX HQ T1 T2 x5 o5 hb5 HA
            revert hnl
            generalize numOf s e 8 = nv
            intro hnl
            have hsm : sameB (canonB nv) (canonB nv) = true := by unfold sameB; simp
            have HSM := Lib.hid hsm; clear hsm
            go_wp2_with fail
            refine (same_any (canonB nv) (canonB nv) w5).mono ?_
            rintro en w6 ⟨rfl, rfl⟩
            rw [HSM.out]
            by_cases he : e3 = 0
            · subst he
              have hs43 := hA5.rel rfl
              subst hs43
              have T3 := Lib.hid (fun w' (h : InAt (w2.heap.size + 1) s4 0 w') => inErr (w2.heap.size + 1) s4 0 w' h)
              have T4 := Lib.hid (fun w' (h : InAt (w2.heap.size + 1) s4 0 w') => left_ok (w2.heap.size + 1) s4 w' h)
              obtain ⟨c1, c2, c3, c4⟩ := cells_of_two hA5.x
              have hz := lt_of_block hA5.x
              have HB := Lib.hid (And.intro hA5 hb6); clear hA5 hb6
              go_wp2_with fail
              go_quiet ((first | (go_at_call 21; exact Calls.quiet_of_same (T3.out _ HB.out.1.i)) | (go_at_call 19; exact Calls.quiet_of_same (T4.out _ HB.out.1.i))))
              go_wp2_with fail
              go_roundg (len - (k + 1))
              case measure => rw [HG.out]; omega
              case rel => exact ⟨k + 1, s4, s4, 0, rfl, hk, by go_num, HB.out.1.below' (below_draws (Below.refl _ _) _), below_draws HB.out.2 _⟩
            · have he2 : (e3 == 0) = false := by simpa using he
              have T3 := Lib.hid (fun w' (h : InAt (w2.heap.size + 1) s3 e3 w') => inErr (w2.heap.size + 1) s3 e3 w' h)
              have T4 := Lib.hid (fun w' (h : InAt (w2.heap.size + 1) s3 e3 w') => left_bad (w2.heap.size + 1) s3 e3 w' h he)
              obtain ⟨c1, c2, c3, c4⟩ := cells_of_two hA5.x
              have hz := lt_of_block hA5.x
              have HB := Lib.hid (And.intro hA5 hb6); clear hA5 hb6 he
              go_wp2_with fail
              go_quiet ((first | (go_at_call 21; exact Calls.quiet_of_same (T3.out _ HB.out.1.i)) | (go_at_call 19; exact Calls.quiet_of_same (T4.out _ HB.out.1.i))))
              go_wp2_with fail
              go_roundg (len - (k + 1))
              case measure => rw [HG.out]; omega
              case rel => exact ⟨k + 1, s3, s4, e3, rfl, hk, by go_num, HB.out.1.below' (below_draws (Below.refl _ _) _), below_draws HB.out.2 _⟩
          · obtain ⟨q1, q2, q3⟩ := text_rel s s' e (Nn k) HA.out.1.rel
            have HQ := Lib.hid (And.intro q1 (And.intro q2 q3)); clear q1 q2 q3
            have hD : RW W.heap.size (w2.heap.size + 1) (w2.heap.size + 1 + 1) s s' e wr.drew := HA.out.1.below' ((Below.refl _ wr).drew)
            have hDb : Below W.heap.size W wr.drew := HA.out.2.1.drew
            have HD := Lib.hid (And.intro hD hDb); clear hD hDb
            have T1 := Lib.hid (inText _ s e wr.drew HD.out.1.i (Nat.le_trans HA.out.1.zs (by decide)) (Nn k))
            have T2 := Lib.hid (fun ww x2 => rinText (w2.heap.size + 1 + 1) s' e ww x2 (Nat.le_trans HA.out.1.zx (by decide)) (Nn k))
            have d1 : wr.drew.cell? ⟨bb, off + k * 4 + 1, none⟩ = some (.int .i64 (Nn k)) := f1
            go_wp2_with fail
            go_region_held3 (fun w' => w'.cell? ⟨bb, off + k * 4 + 1, none⟩ = some (.int .i64 (Nn k))) (first | exact f1 | exact d1 | exact f4 | exact f5 | go_keep) (first | ((go_at_call 23; refine T1.out.mono ?_; rintro en w4 ⟨rfl, i4, o4⟩; have x4 := HD.out.1.one o4; have b4 := HD.out.2.trans (o4.below HD.out.1.bi HD.out.2.size); have f4 := (HA.out.2.2.below b4).c1 k hk)) | ((go_at_call 42; refine (T2.out w4 x4).mono ?_; rintro en w5 ⟨rfl, x5, o5⟩; have f5 := (HA.out.2.2.below (b4.trans (o5.below HD.out.1.bx b4.size))).c1 k hk)))
            rw [HQ.out.1]
            rw [HQ.out.2.1] at x5
            obtain ⟨hA5, hb5⟩ := HD.out.1.two i4 o4 x5 o5 HQ.out.2.2 (text_left _ _ _) (rtext_left _ _ _)
            have hb6 := HD.out.2.trans hb5
            obtain ⟨s3, hs3⟩ : ∃ x, (textOf s e (Nn k)).2.1 = x := ⟨_, rfl⟩
            obtain ⟨s4, hs4⟩ : ∃ x, (rtextOf s' e (Nn k)).2.1 = x := ⟨_, rfl⟩
            obtain ⟨e3, he3⟩ : ∃ x, (textOf s e (Nn k)).2.2 = x := ⟨_, rfl⟩
            rw [hs3, hs4, he3] at hA5
            clear hs3 hs4 he3 HQ T1 T2 x5 o5 hb5 HA HD i4 o4 x4 b4 f4 f5 f0 f1 d1 hbl
            by_cases he : e3 = 0
            · subst he
              have hs43 := hA5.rel rfl
              subst hs43
              have T3 := Lib.hid (fun w' (h : InAt (w2.heap.size + 1) s4 0 w') => inErr (w2.heap.size + 1) s4 0 w' h)
              have T4 := Lib.hid (fun w' (h : InAt (w2.heap.size + 1) s4 0 w') => left_ok (w2.heap.size + 1) s4 w' h)
              obtain ⟨c1, c2, c3, c4⟩ := cells_of_two hA5.x
              have hz := lt_of_block hA5.x
              have HB := Lib.hid (And.intro hA5 hb6); clear hA5 hb6
              go_wp2_with fail
              go_quiet ((first | (go_at_call 21; exact Calls.quiet_of_same (T3.out _ HB.out.1.i)) | (go_at_call 19; exact Calls.quiet_of_same (T4.out _ HB.out.1.i))))
              go_wp2_with fail
              go_roundg (len - (k + 1))
              case measure => rw [HG.out]; omega
              case rel => exact ⟨k + 1, s4, s4, 0, rfl, hk, by go_num, HB.out.1.below' (below_draws (Below.refl _ _) _), below_draws HB.out.2 _⟩
            · have he2 : (e3 == 0) = false := by simpa using he
              have T3 := Lib.hid (fun w' (h : InAt (w2.heap.size + 1) s3 e3 w') => inErr (w2.heap.size + 1) s3 e3 w' h)
              have T4 := Lib.hid (fun w' (h : InAt (w2.heap.size + 1) s3 e3 w') => left_bad (w2.heap.size + 1) s3 e3 w' h he)
              obtain ⟨c1, c2, c3, c4⟩ := cells_of_two hA5.x
              have hz := lt_of_block hA5.x
              have HB := Lib.hid (And.intro hA5 hb6); clear hA5 hb6 he
              go_wp2_with fail
              go_quiet ((first | (go_at_call 21; exact Calls.quiet_of_same (T3.out _ HB.out.1.i)) | (go_at_call 19; exact Calls.quiet_of_same (T4.out _ HB.out.1.i))))
              go_wp2_with fail
              go_roundg (len - (k + 1))
              case measure => rw [HG.out]; omega
              case rel => exact ⟨k + 1, s3, s4, e3, rfl, hk, by go_num, HB.out.1.below' (below_draws (Below.refl _ _) _), below_draws HB.out.2 _⟩
        · cases en'
          · go_wp2_with fail
            go_quiet (fail)
            go_wp2
            go_ret
            exact ⟨rfl, below_draws hb _⟩
          · have hend : endOf s' e = endOf s e := by
              by_cases he : e = 0
              · rw [hA.rel he]
              · rw [endOf, endOf, if_neg (fun h => he h.1), if_neg (fun h => he h.1)]
            have HEN := Lib.hid hend; clear hend
            have T1 := Lib.hid (fun ww (h : InAt (w2.heap.size + 1) s e ww) => inEnd (w2.heap.size + 1) s e ww h)
            have T2 := Lib.hid (fun ww (h : RInAt (w2.heap.size + 1 + 1) s' e ww) => rinEnd (w2.heap.size + 1 + 1) s' e ww h)
            have T3 := Lib.hid (fun ww e3 (h : InAt (w2.heap.size + 1) s e3 ww) => inErr (w2.heap.size + 1) s e3 ww h)
            have HA := Lib.hid (And.intro hA hb); clear hA hb
            go_wp2_with fail
            go_region_with ((first | ((go_at_call 20; refine (T1.out wr.drew HA.out.1.i).mono ?_; rintro en w4 ⟨rfl, i4, o4⟩; have x4 := RW.one (HA.out.1.below' ((Below.refl _ wr).drew)) o4; have b4 := HA.out.2.drew.trans (o4.below HA.out.1.bi HA.out.2.size))) | ((go_at_call 43; refine (T2.out w4 x4).mono ?_; rintro en w5 ⟨rfl, x5, o5⟩; rw [HEN.out] at x5 ⊢; obtain ⟨c1, c2, c3, c4⟩ := cells_of_two x5; have hz := lt_of_block x5; have hne := RW.ne HA.out.1; have i5 : InAt (w2.heap.size + 1) s (endOf s e) w5 := (o5.block _ (lt_of_block i4) (Ne.symm hne) (by simp)).trans i4; have b5 := b4.trans (o5.below HA.out.1.bx b4.size))) | ((go_at_call 21; refine (T3.out w5 _ i5).mono ?_; rintro en w6 ⟨rfl, rfl⟩))))
            all_goals
              go_wp2
              go_ret
              exact ⟨rfl, b5⟩
end Go.Proofs.YtganeocegdkddaaDoor
