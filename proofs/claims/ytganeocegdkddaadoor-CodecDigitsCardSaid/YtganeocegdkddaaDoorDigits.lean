/-
  CodecDigits, the walk: every int in digits, and every text as an int. Conditions: none.
-/
import Derived.Test.YtganeocegdkddaaDoorRDig
namespace Go.Proofs.YtganeocegdkddaaDoor
open Go.RowKit Go.Lib

theorem digs_bad (v : Int) (s : ByteArray) (hs : s.size ≤ maxLen) (hbad : 300 < s.size) (W : World) (ht : Tab W) : Calls Tryd.prog 9 #[.int .i64 v, .string s] W fun en w' => en = .returned (.bool true) ∧ Below W.heap.size W w' := by
  unfold maxLen at hs
  have h2 : (300 : Int) < (s.size : Int) := by omega
  have HT := Lib.hid ht; clear ht
  go_enter Tryd.func9, Tryd.ntmps9
  go_wp2_with fail
  refine (alive_any W HT.out).mono ?_
  rintro en w1 ⟨rfl, b1⟩
  go_wp2
  go_ret
  exact ⟨rfl, b1⟩

theorem digs_good (v : Int) (h0 : -9223372036854775808 ≤ v) (h1 : v ≤ 9223372036854775807) (s : ByteArray) (hgood : ¬ 300 < s.size) (W : World) (ht : Tab W) : Calls Tryd.prog 9 #[.int .i64 v, .string s] W fun en w' => en = .returned (.bool true) ∧ Below W.heap.size W w' := by
  have h2 : ¬ (300 : Int) < (s.size : Int) := by omega
  have HA := Lib.hid (number_any s W)
  have HR := Lib.hid (rnumber_any s W)
  have HD := Lib.hid (fun w (h : Tab w) => digits_any v h0 h1 w h)
  have HE := Lib.hid (fun w => rdigits_any v h0 h1 w)
  have HT := Lib.hid ht; clear ht
  revert HA HR HD HE
  generalize numberOf s.data.toList = r
  generalize (⟨(itoa v).toArray⟩ : ByteArray) = d
  intro HA HR HD HE
  obtain ⟨a, e⟩ := r
  unfold tells at HA HR
  go_enter Tryd.func9, Tryd.ntmps9
  go_wp2_with fail
  refine HA.out.mono ?_
  rintro en w' ⟨rfl, rfl⟩
  go_wp2_with fail
  refine HR.out.mono ?_
  rintro en w' ⟨rfl, rfl⟩
  go_wp2_with fail
  refine (alive_any W HT.out).mono ?_
  rintro en w1 ⟨rfl, b1⟩
  go_wp2_with fail
  refine (HD.out w1 (HT.out.below b1)).mono ?_
  rintro en w2 ⟨rfl, b2⟩
  have b3 := b1.trans (b2.mono b1.size)
  clear b1 b2
  go_wp2_with fail
  refine (HE.out w2).mono ?_
  rintro en w3 ⟨rfl, b4⟩
  go_wp2
  go_ret
  exact ⟨rfl, b3.trans (b4.mono b3.size)⟩
end Go.Proofs.YtganeocegdkddaaDoor
