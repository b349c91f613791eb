/-
  chronicleref1.In: what each of its functions does. Conditions: none.
-/
import Derived.Test.YtganeocegdkddaaDoorFl
namespace Go.Proofs.YtganeocegdkddaaDoor
open Go.RowKit Go.Lib

/-- The document's In at block X: what is left, its error. -/
def RInAt (X : Nat) (s : ByteArray) (e : Int) (w : World) : Prop := w.heap[X]? = some (.cells #[.string s, .int .i64 e] 59)
theorem RInAt.below {I : Nat} {s : ByteArray} {e : Int} {w w' : World} (h : RInAt I s e w) (hb : Below w.heap.size w w') : RInAt I s e w' := (hb.block I (lt_of_block h)).trans h
def RGave (I : Nat) (r : Value) (s' : ByteArray) (e' : Int) (w : World) (en : Ending) (w' : World) : Prop := en = .returned r ∧ RInAt I s' e' w' ∧ Only I w w'

theorem add_byte (a b : Nat) : IntKind.u64.wrap (IntKind.u64.wrap ((a : Int) * 256) + IntKind.u64.wrap (b : Int)) = (((a * 256 + b) % 18446744073709551616 : Nat) : Int) := by
  rw [IntKind.wrap_u64, IntKind.wrap_u64, IntKind.wrap_u64]; omega

theorem low_extract (s : ByteArray) (n : Nat) (h : n ≤ s.size) : ∀ k, k ≤ n → lowUp (s.extract 0 n) k = lowUp s k
  | 0, _ => rfl
  | k + 1, hk => by
    have e : (s.extract 0 n).data.toList.getD k 0 = s.data.toList.getD k 0 := by
      simp only [ByteArray.data_extract, Array.toList_extract, List.extract_eq_take_drop, List.drop_zero, Nat.sub_zero, List.getD_eq_getElem?_getD]
      rw [List.getElem?_take_of_lt (by omega)]
    rw [lowUp, lowUp, low_extract s n h k (by omega), e]

section
variable (X : Nat) (s : ByteArray) (e : Int) (w : World) (hI : RInAt X s e w)
include hI
theorem rinFail_had (e' : Int) (he : (e == 0) = false) : Calls Tryd.prog 59 #[.pointer (some ⟨X, 0, none⟩), .int .i64 e'] w fun en w' => en = .returned (.tuple #[]) ∧ w' = w := by
  obtain ⟨c1, c2, c3, c4⟩ := cells_of_two hI
  have hz := lt_of_block hI
  go_enter Tryd.func59, Tryd.ntmps59
  go_wp2
  go_end0
  exact ⟨rfl, rfl⟩
theorem rinFail_now (e' : Int) (he : e = 0) : Calls Tryd.prog 59 #[.pointer (some ⟨X, 0, none⟩), .int .i64 e'] w fun en w' => en = .returned (.tuple #[]) ∧ w' = w.setCell ⟨X, 1, none⟩ (.int .i64 e') := by
  obtain ⟨c1, c2, c3, c4⟩ := cells_of_two hI
  have hz := lt_of_block hI
  subst he
  go_enter Tryd.func59, Tryd.ntmps59
  go_wp2
  go_end0
  exact ⟨rfl, rfl⟩
end

theorem rnumIn_had (X : Nat) (s : ByteArray) (e : Int) (w : World) (hI : RInAt X s e w) (he : e ≠ 0) (n : Nat) (N : Int) : Calls Tryd.prog 35 #[.pointer (some ⟨X, 0, none⟩), .int .i64 N] w (RGave X (.int .u64 (numOf s e n)) (takeOf s e n).2.1 (takeOf s e n).2.2 w) := by
  have h1 : takeOf s e n = (⟨#[]⟩, s, e) := by rw [takeOf, if_pos he]
  have h2 : numOf s e n = 0 := by rw [numOf, h1]; rfl
  rw [h1, h2]
  obtain ⟨c1, c2, c3, c4⟩ := cells_of_two hI
  have hz := lt_of_block hI
  have he2 : (e == 0) = false := by simpa using he
  have he3 : (e != 0) = true := by rw [bne, he2]; rfl
  have HI := Lib.hid hI; clear hI h1 h2 he
  go_enter Tryd.func35, Tryd.ntmps35
  go_wp2
  go_ret
  exact ⟨rfl, HI.out, Only.refl _ _⟩

theorem rnumIn_short (X : Nat) (s : ByteArray) (w : World) (hI : RInAt X s 0 w) (n : Nat) (hs : s.size < n) : Calls Tryd.prog 35 #[.pointer (some ⟨X, 0, none⟩), .int .i64 n] w (RGave X (.int .u64 (numOf s 0 n)) (takeOf s 0 n).2.1 (takeOf s 0 n).2.2 w) := by
  have h1 : takeOf s 0 n = (⟨#[]⟩, s, 5) := by rw [takeOf, if_neg (by simp), if_pos hs]
  have h2 : numOf s 0 n = 0 := by rw [numOf, h1]; rfl
  rw [h1, h2]
  obtain ⟨c1, c2, c3, c4⟩ := cells_of_two hI
  have hz := lt_of_block hI
  have h3 : (s.size : Int) < (n : Int) := by omega
  have HI := Lib.hid hI; clear hI h1 h2
  go_enter Tryd.func35, Tryd.ntmps35
  go_wp2_with fail
  refine (rinFail_now X s 0 w HI.out 5 rfl).mono ?_
  rintro en w' ⟨rfl, rfl⟩
  go_wp2
  go_ret
  exact ⟨rfl, set_snd HI.out _, Turn.set _ _⟩

theorem rnumIn_good (X : Nat) (s : ByteArray) (w : World) (hI : RInAt X s 0 w) (n : Nat) (hn : n ≤ 8) (hs : n ≤ s.size) (hmax : s.size ≤ 1000000) : Calls Tryd.prog 35 #[.pointer (some ⟨X, 0, none⟩), .int .i64 n] w (RGave X (.int .u64 (numOf s 0 n)) (takeOf s 0 n).2.1 (takeOf s 0 n).2.2 w) := by
  have h1 : takeOf s 0 n = (s.extract 0 n, s.extract n s.size, 0) := by rw [takeOf, if_neg (by simp), if_neg (by omega)]
  have h2 : numOf s 0 n = lowUp s n := by
    rw [numOf, h1]
    simp only []
    have hz : (s.extract 0 n).size = n := by rw [ByteArray.size_extract]; omega
    rw [hz, low_extract s n hs n (Nat.le_refl _)]
  rw [h1, h2]
  obtain ⟨c1, c2, c3, c4⟩ := cells_of_two hI
  have hz := lt_of_block hI
  have h3 : ¬ (s.size : Int) < (n : Int) := by omega
  have HI := Lib.hid hI; clear hI h1 h2
  go_enter Tryd.func35, Tryd.ntmps35
  go_wp2_with fail
  go_loopg [5, 6] n (fun g x i wr => ∃ k : Nat, g = n - k ∧ k ≤ n ∧ x = .int .u64 (lowUp s k) ∧ i = .int .i64 k ∧ w = wr)
  case atStart => exact ⟨0, by omega, Nat.zero_le _, rfl, rfl, rfl⟩
  case round =>
    obtain ⟨k, hg, hk, rfl, rfl, rfl⟩ := hrel
    have HG := Lib.hid hg; clear hg
    by_cases hlt : k < n
    · have hks : k < s.size := by omega
      go_wp2_with fail
      go_roundg (n - (k + 1))
      case measure => rw [HG.out]; omega
      case rel => exact ⟨k + 1, rfl, hlt, by rw [add_byte, lowUp, List.getD_eq_getElem?_getD]; simp [hks]; rfl, rfl, rfl⟩
    · obtain rfl : k = n := by omega
      go_wp2
      go_ret
      exact ⟨rfl, set_fst HI.out _, Turn.set _ _⟩

theorem rnumIn_any (X : Nat) (s : ByteArray) (e : Int) (w : World) (hI : RInAt X s e w) (n : Nat) (N : Int) (hN : N = n) (hn : n ≤ 8) (hmax : s.size ≤ 1000000) : Calls Tryd.prog 35 #[.pointer (some ⟨X, 0, none⟩), .int .i64 N] w (RGave X (.int .u64 (numOf s e n)) (takeOf s e n).2.1 (takeOf s e n).2.2 w) := by
  subst hN
  by_cases he : e = 0
  · subst he
    by_cases hs : s.size < n
    · exact rnumIn_short X s w hI n hs
    · exact rnumIn_good X s w hI n hn (by omega) hmax
  · exact rnumIn_had X s e w hI he n n

theorem canonB_zero : canonB 0 = 0 := by decide +kernel
theorem num_err (s : ByteArray) (e : Int) (n : Nat) (h : (takeOf s e n).2.2 ≠ 0) : numOf s e n = 0 ∧ (takeOf s e n).1 = ⟨#[]⟩ := by
  have h1 : (takeOf s e n).1 = ⟨#[]⟩ := by
    unfold takeOf at h ⊢
    split
    · rfl
    · split
      · rfl
      · rename_i h1 h2
        rw [if_neg h1, if_neg h2] at h
        exact absurd rfl h
  exact ⟨by rw [numOf, h1]; rfl, h1⟩

theorem rinFloat (X : Nat) (s : ByteArray) (e : Int) (w : World) (hI : RInAt X s e w) (hmax : s.size ≤ 1000000) : Calls Tryd.prog 41 #[.pointer (some ⟨X, 0, none⟩)] w (RGave X (.float .f64 (canonB (numOf s e 8))) (takeOf s e 8).2.1 (takeOf s e 8).2.2 w) := by
  have H := Lib.hid (rnumIn_any X s e w hI 8 8 rfl (by decide) hmax)
  by_cases he : (takeOf s e 8).2.2 = 0
  · revert H
    rw [he]
    generalize numOf s e 8 = n
    generalize (takeOf s e 8).2.1 = s1
    intro H
    clear hI he
    go_enter Tryd.func41, Tryd.ntmps41
    go_wp2_with fail
    refine H.out.mono ?_
    rintro en w1 ⟨rfl, i1, o1⟩
    obtain ⟨c1, c2, c3, c4⟩ := cells_of_two i1
    have hz := lt_of_block i1
    have HI := Lib.hid i1; clear i1
    go_wp2_with fail
    refine (of_any n w1).mono ?_
    rintro en w2 ⟨rfl, rfl⟩
    go_wp2
    go_ret
    exact ⟨rfl, HI.out, o1⟩
  · have hn := (num_err s e 8 he).1
    revert H he
    rw [hn, canonB_zero]
    generalize (takeOf s e 8).2.1 = s1
    generalize (takeOf s e 8).2.2 = e1
    intro H he
    have he2 : (e1 == 0) = false := by simpa using he
    have he3 : (e1 != 0) = true := by rw [bne, he2]; rfl
    clear hI hn he
    go_enter Tryd.func41, Tryd.ntmps41
    go_wp2_with fail
    refine H.out.mono ?_
    rintro en w1 ⟨rfl, i1, o1⟩
    obtain ⟨c1, c2, c3, c4⟩ := cells_of_two i1
    have hz := lt_of_block i1
    have HI := Lib.hid i1; clear i1
    go_wp2
    go_ret
    exact ⟨rfl, HI.out, o1⟩

theorem rinEnd (X : Nat) (s : ByteArray) (e : Int) (w : World) (hI : RInAt X s e w) : Calls Tryd.prog 43 #[.pointer (some ⟨X, 0, none⟩)] w (RGave X (.int .i64 (endOf s e)) s (endOf s e) w) := by
  obtain ⟨c1, c2, c3, c4⟩ := cells_of_two hI
  have hz := lt_of_block hI
  have HI := Lib.hid hI; clear hI
  by_cases he : e = 0
  · subst he
    by_cases hs : 0 < s.size
    · have h1 : endOf s 0 = 6 := if_pos ⟨rfl, hs⟩
      rw [h1]
      have hs2 : (0 : Int) < (s.size : Int) := by omega
      go_enter Tryd.func43, Tryd.ntmps43
      go_wp2
      go_ret
      exact ⟨rfl, set_snd HI.out _, Turn.set _ _⟩
    · have h1 : endOf s 0 = 0 := by rw [endOf]; split <;> simp_all
      rw [h1]
      have hs2 : ¬ (0 : Int) < (s.size : Int) := by omega
      go_enter Tryd.func43, Tryd.ntmps43
      go_wp2
      go_ret
      exact ⟨rfl, HI.out, Only.refl _ _⟩
  · have h1 : endOf s e = e := if_neg (fun h => he h.1)
    rw [h1]
    have he2 : (e == 0) = false := by simpa using he
    go_enter Tryd.func43, Tryd.ntmps43
    go_wp2
    go_ret
    exact ⟨rfl, HI.out, Only.refl _ _⟩

/-- What the document's Text reads; what is left; the error. -/
def rtextOf (s : ByteArray) (e most : Int) : ByteArray × ByteArray × Int :=
  if (takeOf s e 4).2.2 ≠ 0 then (⟨#[]⟩, (takeOf s e 4).2.1, (takeOf s e 4).2.2)
  else if most < numOf s e 4 then (⟨#[]⟩, s, 2)
  else if (takeOf s e 4).2.1.size < numOf s e 4 then (⟨#[]⟩, s, 5)
  else ((takeOf s e 4).2.1.extract 0 (numOf s e 4), (takeOf s e 4).2.1.extract (numOf s e 4) (takeOf s e 4).2.1.size, 0)

theorem rinText_had (X : Nat) (s : ByteArray) (e : Int) (w : World) (hI : RInAt X s e w) (hmax : s.size ≤ 1000000) (most : Int) (he : (takeOf s e 4).2.2 ≠ 0) :
    Calls Tryd.prog 42 #[.pointer (some ⟨X, 0, none⟩), .int .i64 most] w (RGave X (.string (rtextOf s e most).1) (rtextOf s e most).2.1 (rtextOf s e most).2.2 w) := by
  have h1 : rtextOf s e most = (⟨#[]⟩, (takeOf s e 4).2.1, (takeOf s e 4).2.2) := if_pos he
  rw [h1]
  have H := Lib.hid (rnumIn_any X s e w hI 4 4 rfl (by decide) hmax)
  rw [(num_err s e 4 he).1] at H
  obtain ⟨c1, c2, c3, c4⟩ := cells_of_two hI
  have hz := lt_of_block hI
  clear hI h1
  revert H he
  generalize (takeOf s e 4).2.1 = s1
  generalize (takeOf s e 4).2.2 = e1
  intro he H
  have he2 : (e1 == 0) = false := by simpa using he
  have he3 : (e1 != 0) = true := by rw [bne, he2]; rfl
  clear he
  go_enter Tryd.func42, Tryd.ntmps42
  go_wp2_with fail
  refine H.out.mono ?_
  rintro en w1 ⟨rfl, i1, o1⟩
  clear c1 c2 c3 c4 hz
  obtain ⟨c1, c2, c3, c4⟩ := cells_of_two i1
  have hz := lt_of_block i1
  have HI := Lib.hid i1; clear i1
  go_wp2
  go_ret
  exact ⟨rfl, HI.out, o1⟩

theorem rinText_ok (X : Nat) (s : ByteArray) (e : Int) (w : World) (hI : RInAt X s e w) (hmax : s.size ≤ 1000000) (most : Int) (he : (takeOf s e 4).2.2 = 0) :
    Calls Tryd.prog 42 #[.pointer (some ⟨X, 0, none⟩), .int .i64 most] w (RGave X (.string (rtextOf s e most).1) (rtextOf s e most).2.1 (rtextOf s e most).2.2 w) := by
  have H := Lib.hid (rnumIn_any X s e w hI 4 4 rfl (by decide) hmax)
  have hlt := numOf_lt s e 4
  have h1 : rtextOf s e most = if most < numOf s e 4 then (⟨#[]⟩, s, 2) else if (takeOf s e 4).2.1.size < numOf s e 4 then (⟨#[]⟩, s, 5)
      else ((takeOf s e 4).2.1.extract 0 (numOf s e 4), (takeOf s e 4).2.1.extract (numOf s e 4) (takeOf s e 4).2.1.size, 0) := if_neg (by simpa using he)
  rw [h1]
  rw [he] at H
  obtain ⟨c1, c2, c3, c4⟩ := cells_of_two hI
  have hz := lt_of_block hI
  have hsz : (takeOf s e 4).2.1.size ≤ 1000000 := Nat.le_trans (take_left s e 4) hmax
  clear hI h1 he hmax
  revert H hlt hsz
  generalize numOf s e 4 = n
  generalize (takeOf s e 4).2.1 = s1
  intro H hlt hsz
  have hw : IntKind.i64.wrap (n : Int) = (n : Int) := IntWalk.i64_in _ (by omega)
  clear hlt
  by_cases h2 : most < (n : Int)
  · rw [if_pos h2]
    go_enter Tryd.func42, Tryd.ntmps42
    go_wp2_with fail
    refine H.out.mono ?_
    rintro en w1 ⟨rfl, i1, o1⟩
    clear c1 c2 c3 c4 hz
    obtain ⟨c1, c2, c3, c4⟩ := cells_of_two i1
    have hz := lt_of_block i1
    have hI2 : RInAt X s 0 (w1.setCell ⟨X, 0, none⟩ (.string s)) := set_fst i1 _
    have HI := Lib.hid (And.intro i1 hI2); clear i1 hI2
    go_wp2_with fail
    refine (rinFail_now X s 0 _ HI.out.2 2 rfl).mono ?_
    rintro en w2 ⟨rfl, rfl⟩
    go_wp2
    go_ret
    exact ⟨rfl, set_snd HI.out.2 _, (o1.trans (Turn.set 0 _)).trans (Turn.set 1 _)⟩
  · rw [if_neg h2]
    by_cases h3 : s1.size < n
    · rw [if_pos h3]
      have h4 : (s1.size : Int) < (n : Int) := by omega
      go_enter Tryd.func42, Tryd.ntmps42
      go_wp2_with fail
      refine H.out.mono ?_
      rintro en w1 ⟨rfl, i1, o1⟩
      clear c1 c2 c3 c4 hz
      obtain ⟨c1, c2, c3, c4⟩ := cells_of_two i1
      have hz := lt_of_block i1
      have hI2 : RInAt X s 0 (w1.setCell ⟨X, 0, none⟩ (.string s)) := set_fst i1 _
      have HI := Lib.hid (And.intro i1 hI2); clear i1 hI2
      go_wp2_with fail
      refine (rinFail_now X s 0 _ HI.out.2 5 rfl).mono ?_
      rintro en w2 ⟨rfl, rfl⟩
      go_wp2
      go_ret
      exact ⟨rfl, set_snd HI.out.2 _, (o1.trans (Turn.set 0 _)).trans (Turn.set 1 _)⟩
    · rw [if_neg h3]
      have h4 : ¬ (s1.size : Int) < (n : Int) := by omega
      have h5 : n ≤ s1.size := by omega
      go_enter Tryd.func42, Tryd.ntmps42
      go_wp2_with fail
      refine H.out.mono ?_
      rintro en w1 ⟨rfl, i1, o1⟩
      clear c1 c2 c3 c4 hz
      obtain ⟨c1, c2, c3, c4⟩ := cells_of_two i1
      have hz := lt_of_block i1
      have HI := Lib.hid i1; clear i1
      go_wp2
      go_ret
      exact ⟨rfl, set_fst HI.out _, o1.trans (Turn.set 0 _)⟩

theorem rinText (X : Nat) (s : ByteArray) (e : Int) (w : World) (hI : RInAt X s e w) (hmax : s.size ≤ 1000000) (most : Int) :
    Calls Tryd.prog 42 #[.pointer (some ⟨X, 0, none⟩), .int .i64 most] w (RGave X (.string (rtextOf s e most).1) (rtextOf s e most).2.1 (rtextOf s e most).2.2 w) := by
  by_cases he : (takeOf s e 4).2.2 = 0
  · exact rinText_ok X s e w hI hmax most he
  · exact rinText_had X s e w hI hmax most he
end Go.Proofs.YtganeocegdkddaaDoor
