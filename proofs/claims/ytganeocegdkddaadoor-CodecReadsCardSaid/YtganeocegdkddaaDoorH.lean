/-
  codec.In: a text behind its length. Conditions: none.
-/
import Derived.Test.YtganeocegdkddaaDoorG
namespace Go.Proofs.YtganeocegdkddaaDoor
open Go.RowKit Go.Lib

/-- What Text reads; what is left; the error. -/
def textOf (s : ByteArray) (e most : Int) : ByteArray × ByteArray × Int :=
  takeOf (takeOf s e 4).2.1 (if (takeOf s e 4).2.2 = 0 ∧ most < numOf s e 4 then 2 else (takeOf s e 4).2.2) (numOf s e 4)

theorem take_le (s : ByteArray) (e : Int) (n : Nat) : (takeOf s e n).1.size ≤ s.size := by
  unfold takeOf
  split
  · exact Nat.zero_le _
  · split
    · exact Nat.zero_le _
    · simp only [ByteArray.size_extract]; omega
theorem take_left (s : ByteArray) (e : Int) (n : Nat) : (takeOf s e n).2.1.size ≤ s.size := by
  unfold takeOf
  split
  · exact Nat.le_refl _
  · split
    · exact Nat.le_refl _
    · simp only [ByteArray.size_extract]; omega

theorem inText (I : Nat) (s : ByteArray) (e : Int) (w : World) (hI : InAt I s e w) (hs : s.size ≤ 281474976710656) (most : Int) :
    Calls Tryd.prog 23 #[.pointer (some ⟨I, 0, none⟩), .int .i64 most] w (Gave I (.string (textOf s e most).1) (textOf s e most).2.1 (textOf s e most).2.2 w) := by
  have H := Lib.hid (inU32 I s e w hI)
  have hlt := numOf_lt s e 4
  obtain ⟨n, hn⟩ : ∃ n, numOf s e 4 = n := ⟨_, rfl⟩
  obtain ⟨s1, hs1⟩ : ∃ s1, (takeOf s e 4).2.1 = s1 := ⟨_, rfl⟩
  obtain ⟨e1, he1⟩ : ∃ e1, (takeOf s e 4).2.2 = e1 := ⟨_, rfl⟩
  have hsz : s1.size ≤ 281474976710656 := by rw [← hs1]; exact Nat.le_trans (take_left s e 4) hs
  rw [hn] at hlt
  have htx : textOf s e most = takeOf s1 (if e1 = 0 ∧ most < n then 2 else e1) n := by rw [textOf, hn, hs1, he1]
  rw [htx]
  rw [hn, hs1, he1] at H
  obtain ⟨ef, hef⟩ : ∃ ef, (if e1 = 0 ∧ most < n then 2 else e1) = ef := ⟨_, rfl⟩
  rw [hef]
  have HE := Lib.hid hef; clear hef
  clear htx hn hs1 he1 hI hs
  have hn4 : n ≤ 4294967295 := by omega
  clear hlt
  have fin : ∀ e2 w2, InAt I s1 e2 w2 → ∃ t s3 e3, takeOf s1 e2 n = (t, s3, e3) ∧ t.size ≤ 281474976710656 ∧ Calls Tryd.prog 51 #[.pointer (some ⟨I, 0, none⟩), .int .i64 n] w2 (Took I t s3 e3 w2) := fun e2 w2 h2 =>
    ⟨_, _, _, rfl, Nat.le_trans (take_le s1 e2 n) hsz, take_any I s1 e2 w2 h2 n n rfl hn4⟩
  have HF := Lib.hid fin; clear fin
  go_enter Tryd.func23, Tryd.ntmps23
  go_wp2_with fail
  refine H.out.mono ?_
  rintro en w1 ⟨rfl, i1, o1⟩
  obtain ⟨c1, c2, c3, c4⟩ := cells_of_two i1
  have hz := lt_of_block i1
  by_cases he : e1 = 0
  · subst he
    by_cases hm : most < (n : Int)
    · go_wp2_with fail
      refine (inFail_now I s1 0 w1 i1 2 rfl).mono ?_
      rintro en w2 ⟨rfl, rfl⟩
      have i2 : InAt I s1 2 (w1.setCell ⟨I, 1, none⟩ (.int .i64 2)) := set_snd i1 _
      obtain ⟨t, s3, e3, htk, hts, hcall⟩ := HF.out 2 _ i2
      have HT := Lib.hid htk; clear htk
      go_wp2_with fail
      refine hcall.mono ?_
      rintro en w3 ⟨rfl, i3, o3⟩
      go_wp2_with fail
      refine (clone_any t w3 hts).mono ?_
      rintro en w4 ⟨rfl, b4⟩
      go_wp2
      go_ret
      rw [← HE.out, if_pos (by simp [hm]), HT.out]
      exact ⟨rfl, i3.below b4, ((o1.trans (Turn.set 1 _)).trans o3).trans (Only.of_below b4)⟩
    · obtain ⟨t, s3, e3, htk, hts, hcall⟩ := HF.out 0 _ i1
      have HT := Lib.hid htk; clear htk
      go_wp2_with fail
      refine hcall.mono ?_
      rintro en w3 ⟨rfl, i3, o3⟩
      go_wp2_with fail
      refine (clone_any t w3 hts).mono ?_
      rintro en w4 ⟨rfl, b4⟩
      go_wp2
      go_ret
      rw [← HE.out, if_neg (fun h => by have := h.2; omega), HT.out]
      exact ⟨rfl, i3.below b4, (o1.trans o3).trans (Only.of_below b4)⟩
  · obtain ⟨t, s3, e3, htk, hts, hcall⟩ := HF.out e1 _ i1
    have HT := Lib.hid htk; clear htk
    have he2 : (e1 == 0) = false := by simpa using he
    go_wp2_with fail
    refine hcall.mono ?_
    rintro en w3 ⟨rfl, i3, o3⟩
    go_wp2_with fail
    refine (clone_any t w3 hts).mono ?_
    rintro en w4 ⟨rfl, b4⟩
    go_wp2
    go_ret
    rw [← HE.out, if_neg (fun h => he h.1), HT.out]
    exact ⟨rfl, i3.below b4, (o1.trans o3).trans (Only.of_below b4)⟩
end Go.Proofs.YtganeocegdkddaaDoor
