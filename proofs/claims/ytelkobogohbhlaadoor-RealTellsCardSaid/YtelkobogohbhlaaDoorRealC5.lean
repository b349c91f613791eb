/-
  The first call of each law: alive. Conditions: none.
-/
import Derived.Test.YtelkobogohbhlaaDoorRealC4
namespace Go.Proofs.YtelkobogohbhlaaDoor
open Go.RowKit Go.Lib

theorem alive_any (w : World) : Calls Tryd.prog 12 #[] w fun en w' => en = .returned (.bool true) ∧ Below w.heap.size w w' := by
  have hp : ∀ w, Calls Tryd.prog 14 #[.string ⟨#[120, 51, 102, 101, 48, 48, 48, 48, 48, 48, 48, 48, 48, 48, 48, 48, 48]⟩] w fun en w' => en = .returned (.tuple #[.float .f64 4602678819172646912, .int .i64 0]) ∧ w = w' := fun w => by
    refine (parse_x _ (by decide) ⟨by rw [Lib.toList_data]; decide, by rw [Lib.toList_data]; decide, by rw [Lib.toList_data]; decide, by rw [Lib.toList_data]; decide⟩ (by decide) w).mono ?_
    rintro en w' ⟨rfl, rfl⟩
    exact ⟨congrArg Ending.returned (show tellsF _ = tellsF (4602678819172646912, 0) from congrArg tellsF (by decide +kernel)), rfl⟩
  have HP := Lib.hid hp; clear hp
  have ho : FloatKind.f64.format.order 4602678819172646912 4602678819172646912 = some .eq := by decide +kernel
  go_enter Tryd.func12, Tryd.ntmps12
  go_wp2_with fail
  refine (mcopy_any _).mono ?_
  rintro en w1 ⟨rfl, rfl⟩
  go_wp2_with fail
  refine (HP.out _).mono ?_
  rintro en w1 ⟨rfl, rfl⟩
  go_wp2_with fail
  refine (less_any 9223372036854775808 0 (by decide) (by decide) _).mono ?_
  rintro en w1 ⟨h, rfl⟩
  rw [show lessB 9223372036854775808 0 = true by decide +kernel] at h
  subst h
  go_wp2_with fail
  refine (minf_pos _).mono ?_
  rintro en w1 ⟨rfl, rfl⟩
  go_wp2_with fail
  refine (mnan_any _).mono ?_
  rintro en w1 ⟨rfl, rfl⟩
  go_wp2_with fail
  refine (less_any 9218868437227405312 9221120237041090561 (by decide) (by decide) _).mono ?_
  rintro en w1 ⟨h, rfl⟩
  rw [show lessB 9218868437227405312 9221120237041090561 = true by decide +kernel] at h
  subst h
  go_wp2_with fail
  refine (mnan_any _).mono ?_
  rintro en w1 ⟨rfl, rfl⟩
  go_wp2_with fail
  refine (mnan_any _).mono ?_
  rintro en w1 ⟨rfl, rfl⟩
  go_wp2_with fail
  refine (less_any 9221120237041090561 9221120237041090561 (by decide) (by decide) _).mono ?_
  rintro en w1 ⟨h, rfl⟩
  rw [show lessB 9221120237041090561 9221120237041090561 = false by decide +kernel] at h
  subst h
  go_wp2_with fail
  refine (text_half _).mono ?_
  rintro en w1 ⟨rfl, hb1⟩
  go_wp2_with fail
  refine (sum_one 9223372036854775808 (by decide +kernel) ⟨w1.heap.size, 0, none⟩ _ (by rw [cell_of_heap (heap_alloc_new _ _)]; rfl)).mono ?_
  rintro en w2 ⟨rfl, hb2⟩
  have hb3 := hb1.alloc hb1.size (.cells #[.float .f64 9223372036854775808] 24)
  have hb := hb3.trans (hb2.mono hb3.size)
  clear hb3
  clear hb1 hb2
  go_wp2_with fail
  refine (rsame_any _ _ _).mono ?_
  rintro en w3 ⟨h, rfl⟩
  rw [show sameW 9223372036854775808 9223372036854775808 = true by decide +kernel] at h
  subst h
  go_wp2_with fail
  refine (mnan_any _).mono ?_
  rintro en w3 ⟨rfl, rfl⟩
  go_wp2_with fail
  refine (class_any 9221120237041090561 (by decide) _).mono ?_
  rintro en w3 ⟨h, rfl⟩
  rw [show classB 9221120237041090561 = 0 by decide +kernel] at h
  subst h
  go_wp2
  go_ret
  exact ⟨rfl, hb⟩
end Go.Proofs.YtelkobogohbhlaaDoor
