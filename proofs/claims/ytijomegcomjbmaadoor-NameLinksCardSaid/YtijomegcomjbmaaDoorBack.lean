/-
  NameBack, the walk: a link leads to where it was made for. Conditions: none.
-/
import Derived.Test.YtijomegcomjbmaaDoorN4
namespace Go.Proofs.YtijomegcomjbmaaDoor
open Go.RowKit Go.Lib

theorem back_bad (v : Int) (s : ByteArray) (hs : s.size ≤ maxLen) (W : World) (ht : Tab W) (hbad : 300 < s.size ∨ streamB s.data.toList = false ∨ v < 0 ∨ 999999999999999999 < v) :
    Calls Tryd.prog 3 #[.int .i64 v, .string s] W fun en w' => en = .returned (.bool true) ∧ Below W.heap.size W w' := by
  unfold maxLen at hs
  have HT := Lib.hid ht; clear ht
  have HS := Lib.hid (stream_any s W)
  revert HS hbad
  generalize streamB s.data.toList = st
  intro hbad HS
  by_cases h0 : 300 < s.size
  · have h1 : (300 : Int) < (s.size : Int) := by omega
    clear hbad
    go_enter Tryd.func3, Tryd.ntmps3
    go_wp2_with fail
    refine (alive_any W HT.out).mono ?_
    rintro en w1 ⟨rfl, b1⟩
    go_wp2
    go_ret
    exact ⟨rfl, b1⟩
  · have h1 : ¬ (300 : Int) < (s.size : Int) := by omega
    have hw : st = false ∨ (st = true ∧ v < 0) ∨ (st = true ∧ ¬ v < 0 ∧ 999999999999999999 < v) := by
      cases st
      · exact Or.inl rfl
      · rcases hbad with h | h | h | h
        · exact absurd h h0
        · cases h
        · exact Or.inr (Or.inl ⟨rfl, h⟩)
        · exact Or.inr (Or.inr ⟨rfl, by omega, h⟩)
    clear hbad h0
    rcases hw with rfl | ⟨rfl, h2⟩ | ⟨rfl, h2, h3⟩
    all_goals
      go_enter Tryd.func3, Tryd.ntmps3
      go_wp2_with fail
      refine HS.out.mono ?_
      rintro en w' ⟨rfl, rfl⟩
      go_wp2_with fail
      refine (alive_any W HT.out).mono ?_
      rintro en w1 ⟨rfl, b1⟩
      go_wp2
      go_ret
      exact ⟨rfl, b1⟩

theorem link_size (v : Int) (h0 : -9223372036854775808 ≤ v) (h1 : v ≤ 9223372036854775807) (s : ByteArray) (hs : s.size ≤ 300) : (⟨(linkOf v s.data.toList).toArray⟩ : ByteArray).size ≤ 1000000 := by
  have hl := itoa_length_le v h0 h1
  show (linkOf v s.data.toList).toArray.size ≤ 1000000
  simp [linkOf]
  omega

theorem back_good (v : Int) (s : ByteArray) (hs : s.size ≤ 300) (W : World) (ht : Tab W) (hst : streamB s.data.toList = true) (h2 : 0 ≤ v) (h3 : v ≤ 999999999999999999) :
    Calls Tryd.prog 3 #[.int .i64 v, .string s] W fun en w' => en = .returned (.bool true) ∧ Below W.heap.size W w' := by
  have HT := Lib.hid ht
  have hS := stream_any s W
  rw [hst] at hS
  have HS := Lib.hid hS
  have HL := Lib.hid (link_any v (by omega) (by omega) s (by omega) W ht)
  have hz := link_size v (by omega) (by omega) s hs
  have HU : Hid (∀ w, Calls Tryd.prog 10 #[.string ⟨(linkOf v s.data.toList).toArray⟩] w fun en w' => en = .returned (.tuple #[.int .i64 v, .string s, .int .i64 0]) ∧ Below w.heap.size w w') := Lib.hid (fun w => by
    have h := unlink_any ⟨(linkOf v s.data.toList).toArray⟩ hz w
    rw [show (⟨(linkOf v s.data.toList).toArray⟩ : ByteArray).data.toList = linkOf v s.data.toList from rfl, unlink_link v _ h2 h3 hst] at h
    exact h)
  clear hS hst hz ht
  revert HL HU
  generalize (⟨(linkOf v s.data.toList).toArray⟩ : ByteArray) = x
  intro HL HU
  have h1 : ¬ (300 : Int) < (s.size : Int) := by omega
  have h4 : ¬ v < 0 := by omega
  have h5 : ¬ 999999999999999999 < v := by omega
  go_enter Tryd.func3, Tryd.ntmps3
  go_wp2_with fail
  refine HS.out.mono ?_
  rintro en w' ⟨rfl, rfl⟩
  go_wp2_with fail
  refine HL.out.mono ?_
  rintro en w1 ⟨rfl, b1⟩
  go_wp2_with fail
  refine (HU.out w1).mono ?_
  rintro en w2 ⟨rfl, b2⟩
  have b3 := b1.trans (b2.mono b1.size)
  clear b1 b2
  go_wp2_with fail
  refine (alive_any w2 (HT.out.below b3)).mono ?_
  rintro en w3 ⟨rfl, b4⟩
  go_wp2
  go_ret
  exact ⟨rfl, b3.trans (b4.mono b3.size)⟩
end Go.Proofs.YtijomegcomjbmaaDoor
