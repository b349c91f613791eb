/-
  The laws' own first call; OfCategory, OfType. Conditions: none.
-/
import Derived.Test.YtijomegcomjbmaaDoorN3
namespace Go.Proofs.YtijomegcomjbmaaDoor
open Go.RowKit Go.Lib

theorem ofCategory (s : ByteArray) (hs : s.size ≤ 1000000) (w : World) : Calls Tryd.prog 22 #[.string s] w fun en w' => en = .returned (.string (⟨#[36, 99, 101, 45]⟩ ++ s)) ∧ w = w' := by
  go_enter Tryd.func22, Tryd.ntmps22
  go_wp2
  go_ret
  exact ⟨rfl, rfl⟩
theorem ofType (s : ByteArray) (hs : s.size ≤ 1000000) (w : World) : Calls Tryd.prog 23 #[.string s] w fun en w' => en = .returned (.string (⟨#[36, 101, 116, 45]⟩ ++ s)) ∧ w = w' := by
  go_enter Tryd.func23, Tryd.ntmps23
  go_wp2
  go_ret
  exact ⟨rfl, rfl⟩

theorem alive_cat1 (w : World) : Calls Tryd.prog 13 #[.string ⟨#[99, 97, 114, 116, 45, 55, 45, 120]⟩] w fun en w' => en = .returned (.tuple #[.string ⟨#[99, 97, 114, 116]⟩, .bool true]) ∧ Below w.heap.size w w' := by
  have h : catTells (categoryOf (⟨#[99, 97, 114, 116, 45, 55, 45, 120]⟩ : ByteArray).data.toList) = .tuple #[.string ⟨#[99, 97, 114, 116]⟩, .bool true] := by
    have e : categoryOf [99, 97, 114, 116, 45, 55, 45, 120] = ([99, 97, 114, 116], true) := by decide +kernel
    show catTells (categoryOf [99, 97, 114, 116, 45, 55, 45, 120]) = _
    rw [e]; rfl
  rw [← h]
  exact category_any _ (by decide) w
theorem alive_cat2 (w : World) : Calls Tryd.prog 13 #[.string ⟨#[36, 99, 101, 45, 97]⟩] w fun en w' => en = .returned (.tuple #[.string ⟨#[]⟩, .bool false]) ∧ Below w.heap.size w w' := by
  have h : catTells (categoryOf (⟨#[36, 99, 101, 45, 97]⟩ : ByteArray).data.toList) = .tuple #[.string ⟨#[]⟩, .bool false] := by
    have e : categoryOf [36, 99, 101, 45, 97] = ([], false) := by decide +kernel
    show catTells (categoryOf [36, 99, 101, 45, 97]) = _
    rw [e]; rfl
  rw [← h]
  exact category_any _ (by decide) w
theorem alive_unlink (w : World) : Calls Tryd.prog 10 #[.string ⟨#[51, 64, 99, 97, 114, 116, 45, 55]⟩] w fun en w' => en = .returned (.tuple #[.int .i64 3, .string ⟨#[99, 97, 114, 116, 45, 55]⟩, .int .i64 0]) ∧ Below w.heap.size w w' := by
  have h : linkTells (unlinkOf (⟨#[51, 64, 99, 97, 114, 116, 45, 55]⟩ : ByteArray).data.toList) = .tuple #[.int .i64 3, .string ⟨#[99, 97, 114, 116, 45, 55]⟩, .int .i64 0] := by
    have e : unlinkOf [51, 64, 99, 97, 114, 116, 45, 55] = (3, [99, 97, 114, 116, 45, 55], 0) := by decide +kernel
    show linkTells (unlinkOf [51, 64, 99, 97, 114, 116, 45, 55]) = _
    rw [e]; rfl
  rw [← h]
  exact unlink_any _ (by decide) w
theorem alive_link (w : World) (ht : Tab w) : Calls Tryd.prog 11 #[.int .i64 3, .string ⟨#[99, 97, 114, 116, 45, 55]⟩] w fun en w' => en = .returned (.string ⟨#[51, 64, 99, 97, 114, 116, 45, 55]⟩) ∧ Below w.heap.size w w' := by
  have h : (⟨(linkOf 3 (⟨#[99, 97, 114, 116, 45, 55]⟩ : ByteArray).data.toList).toArray⟩ : ByteArray) = ⟨#[51, 64, 99, 97, 114, 116, 45, 55]⟩ := by
    have e : linkOf 3 [99, 97, 114, 116, 45, 55] = [51, 64, 99, 97, 114, 116, 45, 55] := by decide +kernel
    show (⟨(linkOf 3 [99, 97, 114, 116, 45, 55]).toArray⟩ : ByteArray) = _
    rw [e]
  rw [← h]
  exact link_any 3 (by decide) (by decide) _ (by decide) w ht

theorem alive_any (w : World) (ht : Tab w) : Calls Tryd.prog 9 #[] w fun en w' => en = .returned (.bool true) ∧ Below w.heap.size w w' := by
  have HT := Lib.hid ht; clear ht
  go_enter Tryd.func9, Tryd.ntmps9
  go_wp2_with fail
  refine (alive_cat1 w).mono ?_
  rintro en w1 ⟨rfl, b1⟩
  go_wp2_with fail
  refine (alive_cat2 w1).mono ?_
  rintro en w2 ⟨rfl, b2⟩
  have b3 := b1.trans (b2.mono b1.size)
  clear b1 b2
  go_wp2_with fail
  refine (alive_unlink w2).mono ?_
  rintro en w3 ⟨rfl, b4⟩
  have b5 := b3.trans (b4.mono b3.size)
  clear b3 b4
  go_wp2_with fail
  refine (alive_link w3 (HT.out.below b5)).mono ?_
  rintro en w4 ⟨rfl, b6⟩
  have b7 := b5.trans (b6.mono b5.size)
  clear b5 b6
  go_wp2_with fail
  refine (ofCategory ⟨#[97]⟩ (by decide) w4).mono ?_
  rintro en w' ⟨rfl, rfl⟩
  rw [show (⟨#[36, 99, 101, 45]⟩ ++ ⟨#[97]⟩ : ByteArray) = ⟨#[36, 99, 101, 45, 97]⟩ by decide +kernel]
  go_wp2_with fail
  refine (ofType ⟨#[98]⟩ (by decide) w4).mono ?_
  rintro en w' ⟨rfl, rfl⟩
  rw [show (⟨#[36, 101, 116, 45]⟩ ++ ⟨#[98]⟩ : ByteArray) = ⟨#[36, 101, 116, 45, 98]⟩ by decide +kernel]
  go_wp2
  go_ret
  exact ⟨rfl, b7⟩
end Go.Proofs.YtijomegcomjbmaaDoor
