/-
  Package real: a number read. Conditions: none.
-/
import Derived.Test.YtidjnfjpdnjogaaDoorPrC2
namespace Go.Proofs.YtidjnfjpdnjogaaDoor
open Go.RowKit Go.Lib

theorem parse_nan (w : World) : Calls Tryd.prog 34 #[.string ⟨#[110, 97, 110]⟩] w fun en w' => en = .returned (tellsF (9221120237041090560, 0)) ∧ w = w' := by
  go_enter Tryd.func34, Tryd.ntmps34
  go_wp2_with fail
  refine (rof_any _ _).mono ?_
  rintro en w1 ⟨rfl, rfl⟩
  go_wp2
  exact bodyPost_ret (v := tellsF (9221120237041090560, 0)) (by simp [results, Tryd.results34, go_sem, tellsF]; rfl) rfl ⟨rfl, rfl⟩
theorem parse_inf (w : World) : Calls Tryd.prog 34 #[.string ⟨#[105, 110, 102]⟩] w fun en w' => en = .returned (tellsF (9218868437227405312, 0)) ∧ w = w' := by
  go_enter Tryd.func34, Tryd.ntmps34
  go_wp2_with fail
  refine (minf_pos _).mono ?_
  rintro en w1 ⟨rfl, rfl⟩
  go_wp2
  exact bodyPost_ret (v := tellsF (9218868437227405312, 0)) (by simp [results, Tryd.results34, go_sem, tellsF]) rfl ⟨rfl, rfl⟩
theorem parse_minf (w : World) : Calls Tryd.prog 34 #[.string ⟨#[45, 105, 110, 102]⟩] w fun en w' => en = .returned (tellsF (18442240474082181120, 0)) ∧ w = w' := by
  go_enter Tryd.func34, Tryd.ntmps34
  go_wp2_with fail
  refine (minf_neg _).mono ?_
  rintro en w1 ⟨rfl, rfl⟩
  go_wp2
  exact bodyPost_ret (v := tellsF (18442240474082181120, 0)) (by simp [results, Tryd.results34, go_sem, tellsF]) rfl ⟨rfl, rfl⟩
theorem parse_mzero (w : World) : Calls Tryd.prog 34 #[.string ⟨#[45, 48]⟩] w fun en w' => en = .returned (tellsF (9223372036854775808, 0)) ∧ w = w' := by
  go_enter Tryd.func34, Tryd.ntmps34
  go_wp2_with fail
  refine (mcopy_any _).mono ?_
  rintro en w1 ⟨rfl, rfl⟩
  go_wp2
  exact bodyPost_ret (v := tellsF (9223372036854775808, 0)) (by simp [results, Tryd.results34, go_sem, tellsF]) rfl ⟨rfl, rfl⟩

structure Plainly (s : ByteArray) : Prop where
  f1 : (s.toList == [110, 97, 110]) = false
  f2 : (s.toList == [105, 110, 102]) = false
  f3 : (s.toList == [45, 105, 110, 102]) = false
  f4 : (s.toList == [45, 48]) = false

theorem parse_x (s : ByteArray) (hs : s.size ≤ 281474976710656) (hp : Plainly s) (hx : hasPrefix s.data.toList [120] = true) (w : World) : Calls Tryd.prog 34 #[.string s] w fun en w' => en = .returned (tellsF (hexTell (trimPrefix s.data.toList [120]))) ∧ w = w' := by
  obtain ⟨f1, f2, f3, f4⟩ := hp
  have HC := Lib.hid (Tryd.strings_CutPrefix s ⟨#[120]⟩)
  obtain ⟨d, hd⟩ : ∃ d : ByteArray, d = ⟨(trimPrefix s.data.toList [120]).toArray⟩ := ⟨_, rfl⟩
  have hz : d.size ≤ 281474976710656 := by
    have h1 : d.size = (trimPrefix s.data.toList [120]).length := by rw [hd]; simp [ByteArray.size]
    have h2 : (trimPrefix s.data.toList [120]).length ≤ s.data.toList.length := by
      unfold trimPrefix; split <;> simp
    have h3 : s.data.toList.length = s.size := by simp
    omega
  have hl : trimPrefix s.data.toList [120] = d.data.toList := by rw [hd]
  rw [hl]
  have HC2 : Hid (∀ w, Calls Tryd.prog 55 #[.string s, .string ⟨#[120]⟩] w (fun e w' => e = .returned (.tuple #[.string d, .bool true]) ∧ w' = w)) := Lib.hid fun w => by
    have h := HC.out w
    rw [hd, ← hx]; exact h
  clear HC hd hx hs hl
  go_enter Tryd.func34, Tryd.ntmps34
  go_wp2_with fail
  refine (HC2.out _).mono ?_
  rintro en w1 ⟨rfl, rfl⟩
  go_wp2_with fail
  refine (hex_any d hz _).mono ?_
  rintro en w1 ⟨h, rfl⟩
  unfold tellsF at h
  subst h
  go_wp2
  exact bodyPost_ret (v := tellsF (hexTell d.data.toList)) (by simp [results, Tryd.results34, go_sem, tellsF]) rfl ⟨rfl, rfl⟩
end Go.Proofs.YtidjnfjpdnjogaaDoor
