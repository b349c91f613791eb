/-
  CodecNone, the walk: nil receivers. Conditions: none.
-/
import Derived.Test.YtganeocegdkddaaDoorFl
namespace Go.Proofs.YtganeocegdkddaaDoor
open Go.RowKit Go.Lib

section
variable (w : World)
theorem nilSmall (x N : Int) : Calls Tryd.prog 48 #[.pointer none, .int .i64 x, .int .i64 N] w fun en w' => en = .returned (.pointer none) ∧ w = w' := by
  go_enter Tryd.func48, Tryd.ntmps48
  go_wp2
  go_ret
  exact ⟨rfl, rfl⟩
theorem nilU8 (x : Int) : Calls Tryd.prog 14 #[.pointer none, .int .i64 x] w fun en w' => en = .returned (.pointer none) ∧ w = w' := by
  have h := Lib.hid (nilSmall w x 1)
  go_enter Tryd.func14, Tryd.ntmps14
  go_wp2_with fail
  refine h.out.mono ?_
  rintro en w' ⟨rfl, rfl⟩
  go_wp2
  go_ret
  exact ⟨rfl, rfl⟩
theorem nilU32 (x : Int) : Calls Tryd.prog 16 #[.pointer none, .int .i64 x] w fun en w' => en = .returned (.pointer none) ∧ w = w' := by
  have h := Lib.hid (nilSmall w x 4)
  go_enter Tryd.func16, Tryd.ntmps16
  go_wp2_with fail
  refine h.out.mono ?_
  rintro en w' ⟨rfl, rfl⟩
  go_wp2
  go_ret
  exact ⟨rfl, rfl⟩
theorem nilU64 (x : Int) : Calls Tryd.prog 24 #[.pointer none, .int .u64 x] w fun en w' => en = .returned (.pointer none) ∧ w = w' := by
  go_enter Tryd.func24, Tryd.ntmps24
  go_wp2
  go_ret
  exact ⟨rfl, rfl⟩
theorem nilI64 (x : Int) : Calls Tryd.prog 28 #[.pointer none, .int .i64 x] w fun en w' => en = .returned (.pointer none) ∧ w = w' := by
  have h := Lib.hid (nilU64 w (IntKind.u64.wrap x))
  go_enter Tryd.func28, Tryd.ntmps28
  go_wp2_with fail
  refine h.out.mono ?_
  rintro en w' ⟨rfl, rfl⟩
  go_wp2
  go_ret
  exact ⟨rfl, rfl⟩
theorem nilF64 (b : Nat) : Calls Tryd.prog 29 #[.pointer none, .float .f64 b] w fun en w' => en = .returned (.pointer none) ∧ w = w' := by
  have h56 := run56
  have h := Lib.hid (nilU64 w)
  cases hb : nanB b
  · have hn : (FloatKind.f64.format.order b b != some .eq) = false := hb
    clear hb
    go_enter Tryd.func29, Tryd.ntmps29
    go_wp2_with fail
    refine (h.out b).mono ?_
    rintro en w' ⟨rfl, rfl⟩
    go_wp2
    go_ret
    exact ⟨rfl, rfl⟩
  · have hn : (FloatKind.f64.format.order b b != some .eq) = true := hb
    clear hb
    go_enter Tryd.func29, Tryd.ntmps29
    go_wp2_with fail
    refine (h.out 9221120237041090560).mono ?_
    rintro en w' ⟨rfl, rfl⟩
    go_wp2
    go_ret
    exact ⟨rfl, rfl⟩
theorem nilText (s : ByteArray) : Calls Tryd.prog 22 #[.pointer none, .string s] w fun en w' => en = .returned (.pointer none) ∧ w = w' := by
  go_enter Tryd.func22, Tryd.ntmps22
  go_wp2
  go_ret
  exact ⟨rfl, rfl⟩
theorem nilDone : Calls Tryd.prog 15 #[.pointer none] w fun en w' => en = .returned (.tuple #[.string ⟨#[]⟩, .int .i64 1]) ∧ w = w' := by
  go_enter Tryd.func15, Tryd.ntmps15
  go_wp2
  exact bodyPost_ret (v := .tuple #[.string ⟨#[]⟩, .int .i64 1]) (by simp [results, Tryd.results15, go_sem]) rfl ⟨rfl, rfl⟩
theorem nilLen : Calls Tryd.prog 34 #[.pointer none] w fun en w' => en = .returned (.int .i64 0) ∧ w = w' := by
  go_enter Tryd.func34, Tryd.ntmps34
  go_wp2
  go_ret
  exact ⟨rfl, rfl⟩

theorem nilTake (n : Int) : Calls Tryd.prog 51 #[.pointer none, .int .i64 n] w fun en w' => en = .returned (.string ⟨#[]⟩) ∧ w = w' := by
  go_enter Tryd.func51, Tryd.ntmps51
  go_wp2
  go_ret
  exact ⟨rfl, rfl⟩
theorem low_none : Calls Tryd.prog 50 #[.string ⟨#[]⟩] w fun en w' => en = .returned (.int .u64 0) ∧ Below w.heap.size w w' :=
  (low_any ⟨#[]⟩ (by decide) w).mono fun _ _ ⟨h1, h2⟩ => ⟨h1, h2⟩
theorem nilInU8 : Calls Tryd.prog 18 #[.pointer none] w fun en w' => en = .returned (.int .i64 0) ∧ Below w.heap.size w w' := by
  have h := Lib.hid (nilTake w)
  have h2 := Lib.hid (low_none w)
  go_enter Tryd.func18, Tryd.ntmps18
  go_wp2_with fail
  refine (h.out 1).mono ?_
  rintro en w' ⟨rfl, rfl⟩
  go_wp2_with fail
  refine h2.out.mono ?_
  rintro en w' ⟨rfl, hb⟩
  go_wp2
  go_ret
  exact ⟨rfl, hb⟩
theorem nilInU32 : Calls Tryd.prog 36 #[.pointer none] w fun en w' => en = .returned (.int .i64 0) ∧ Below w.heap.size w w' := by
  have h := Lib.hid (nilTake w)
  have h2 := Lib.hid (low_none w)
  go_enter Tryd.func36, Tryd.ntmps36
  go_wp2_with fail
  refine (h.out 4).mono ?_
  rintro en w' ⟨rfl, rfl⟩
  go_wp2_with fail
  refine h2.out.mono ?_
  rintro en w' ⟨rfl, hb⟩
  go_wp2
  go_ret
  exact ⟨rfl, hb⟩
theorem nilInU64 : Calls Tryd.prog 37 #[.pointer none] w fun en w' => en = .returned (.int .u64 0) ∧ Below w.heap.size w w' := by
  have h := Lib.hid (nilTake w)
  have h2 := Lib.hid (low_none w)
  go_enter Tryd.func37, Tryd.ntmps37
  go_wp2_with fail
  refine (h.out 8).mono ?_
  rintro en w' ⟨rfl, rfl⟩
  go_wp2_with fail
  refine h2.out.mono ?_
  rintro en w' ⟨rfl, hb⟩
  go_wp2
  go_ret
  exact ⟨rfl, hb⟩
theorem nilInI64 : Calls Tryd.prog 38 #[.pointer none] w fun en w' => en = .returned (.int .i64 0) ∧ Below w.heap.size w w' := by
  have h := Lib.hid (nilInU64 w)
  go_enter Tryd.func38, Tryd.ntmps38
  go_wp2_with fail
  refine h.out.mono ?_
  rintro en w' ⟨rfl, hb⟩
  go_wp2
  go_ret
  exact ⟨rfl, hb⟩
theorem nilInF64 : Calls Tryd.prog 40 #[.pointer none] w fun en w' => en = .returned (.float .f64 0) ∧ Below w.heap.size w w' := by
  have h57 := run57
  have hn : (FloatKind.f64.format.order 0 0 != some .eq) = false := by decide +kernel
  have h := Lib.hid (nilInU64 w)
  go_enter Tryd.func40, Tryd.ntmps40
  go_wp2_with fail
  refine h.out.mono ?_
  rintro en w' ⟨rfl, hb⟩
  go_wp2
  go_ret
  exact ⟨rfl, hb⟩
theorem nilErr : Calls Tryd.prog 21 #[.pointer none] w fun en w' => en = .returned (.int .i64 1) ∧ w = w' := by
  go_enter Tryd.func21, Tryd.ntmps21
  go_wp2
  go_ret
  exact ⟨rfl, rfl⟩
theorem nilLeft : Calls Tryd.prog 19 #[.pointer none] w fun en w' => en = .returned (.int .i64 0) ∧ w = w' := by
  have h := Lib.hid (nilErr w)
  go_enter Tryd.func19, Tryd.ntmps19
  go_wp2_with fail
  refine h.out.mono ?_
  rintro en w' ⟨rfl, rfl⟩
  go_wp2
  go_ret
  exact ⟨rfl, rfl⟩
theorem nilEnd : Calls Tryd.prog 20 #[.pointer none] w fun en w' => en = .returned (.int .i64 1) ∧ w = w' := by
  have h := Lib.hid (nilErr w)
  have h2 := Lib.hid (nilLeft w)
  go_enter Tryd.func20, Tryd.ntmps20
  go_wp2_with fail
  refine h2.out.mono ?_
  rintro en w' ⟨rfl, rfl⟩
  go_wp2_with fail
  refine h.out.mono ?_
  rintro en w' ⟨rfl, rfl⟩
  go_wp2
  go_ret
  exact ⟨rfl, rfl⟩
theorem nilInText (most : Int) : Calls Tryd.prog 23 #[.pointer none, .int .i64 most] w fun en w' => en = .returned (.string ⟨#[]⟩) ∧ Below w.heap.size w w' := by
  have h := Lib.hid (nilInU32 w)
  go_enter Tryd.func23, Tryd.ntmps23
  go_wp2_with fail
  refine h.out.mono ?_
  rintro en w1 ⟨rfl, hb⟩
  go_wp2_with fail
  refine (nilTake w1 0).mono ?_
  rintro en w' ⟨rfl, rfl⟩
  go_wp2_with fail
  refine (clone_any ⟨#[]⟩ w1 (by decide)).mono ?_
  rintro en w2 ⟨rfl, hb2⟩
  go_wp2
  go_ret
  exact ⟨rfl, hb.trans (hb2.mono hb.size)⟩
end

theorem none_bad (n : Int) (s : ByteArray) (hs : s.size ≤ maxLen) (hbad : 300 < s.size) (W : World) (ht : Tab W) : Calls Tryd.prog 12 #[.int .i64 n, .string s] W fun en w' => en = .returned (.bool true) ∧ Below W.heap.size W w' := by
  unfold maxLen at hs
  have h2 : (300 : Int) < (s.size : Int) := by omega
  have HT := Lib.hid ht; clear ht
  go_enter Tryd.func12, Tryd.ntmps12
  go_wp2_with fail
  refine (alive_any W HT.out).mono ?_
  rintro en w1 ⟨rfl, b1⟩
  go_wp2
  go_ret
  exact ⟨rfl, b1⟩

theorem none_good (n : Int) (s : ByteArray) (hgood : ¬ 300 < s.size) (W : World) (ht : Tab W) : Calls Tryd.prog 12 #[.int .i64 n, .string s] W fun en w' => en = .returned (.bool true) ∧ Below W.heap.size W w' := by
  have h2 : ¬ (300 : Int) < (s.size : Int) := by omega
  have hn : (FloatKind.f64.format.order 0 0 == some .eq) = true := by decide +kernel
  have HT := Lib.hid ht; clear ht
  go_enter Tryd.func12, Tryd.ntmps12
  go_wp2_with fail
  refine (nilU8 W n).mono ?_
  rintro en w' ⟨rfl, rfl⟩
  go_wp2_with fail
  refine (nilU32 W n).mono ?_
  rintro en w' ⟨rfl, rfl⟩
  go_wp2_with fail
  refine (nilU64 W 1).mono ?_
  rintro en w' ⟨rfl, rfl⟩
  go_wp2_with fail
  refine (nilI64 W n).mono ?_
  rintro en w' ⟨rfl, rfl⟩
  go_wp2_with fail
  refine (nilF64 W 4607182418800017408).mono ?_
  rintro en w' ⟨rfl, rfl⟩
  go_wp2_with fail
  refine (nilText W s).mono ?_
  rintro en w' ⟨rfl, rfl⟩
  go_wp2_with fail
  refine (nilDone W).mono ?_
  rintro en w' ⟨rfl, rfl⟩
  go_wp2_with fail
  refine (alive_any W HT.out).mono ?_
  rintro en w1 ⟨rfl, b1⟩
  go_wp2_with fail
  refine (nilLen w1).mono ?_
  rintro en w' ⟨rfl, rfl⟩
  go_wp2_with fail
  refine (nilInU8 w1).mono ?_
  rintro en w2 ⟨rfl, b2⟩
  have b3 := b1.trans (b2.mono b1.size)
  clear b1 b2
  go_wp2_with fail
  refine (nilInU32 w2).mono ?_
  rintro en w3 ⟨rfl, b4⟩
  have b5 := b3.trans (b4.mono b3.size)
  clear b3 b4
  go_wp2_with fail
  refine (nilInI64 w3).mono ?_
  rintro en w4 ⟨rfl, b6⟩
  have b7 := b5.trans (b6.mono b5.size)
  clear b5 b6
  go_wp2_with fail
  refine (nilLeft w4).mono ?_
  rintro en w' ⟨rfl, rfl⟩
  go_wp2_with fail
  refine (nilInU64 w4).mono ?_
  rintro en w5 ⟨rfl, b8⟩
  have b9 := b7.trans (b8.mono b7.size)
  clear b7 b8
  go_wp2_with fail
  refine (nilInF64 w5).mono ?_
  rintro en w6 ⟨rfl, b10⟩
  have b11 := b9.trans (b10.mono b9.size)
  clear b9 b10
  go_wp2_with fail
  refine (nilInText w6 n).mono ?_
  rintro en w7 ⟨rfl, b12⟩
  have b13 := b11.trans (b12.mono b11.size)
  clear b11 b12
  go_wp2_with fail
  refine (nilErr w7).mono ?_
  rintro en w' ⟨rfl, rfl⟩
  go_wp2_with fail
  refine (nilEnd w7).mono ?_
  rintro en w' ⟨rfl, rfl⟩
  go_wp2
  go_ret
  exact ⟨rfl, b13⟩
end Go.Proofs.YtganeocegdkddaaDoor
