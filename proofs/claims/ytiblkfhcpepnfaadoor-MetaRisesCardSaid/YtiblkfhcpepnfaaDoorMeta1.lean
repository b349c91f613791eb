/-
  Metadata's bounds, a part of its text. Conditions: none.
-/
import Derived.Test.YtiblkfhcpepnfaaDoorSplit
import Derived.Test.YtiblkfhcpepnfaaDoorRDig
import Derived.Lib.ItoaLen
import Derived.Laws.AppendOwnNone
import Derived.OrdersHeld
import Derived.Deep.RegionHeld
import Derived.Deep.CutBlock
import Derived.Deep.DeepCutAuto
namespace Go.Proofs.YtiblkfhcpepnfaaDoor
open Go.RowKit Go.Lib

/-- Metadata as a value. -/
abbrev Mt.val (m : Mt) : Value := .agg #[.int .i64 m.a, .int .i64 m.b, .int .i64 m.c]
def Mt.cells (m : Mt) : Array Value := #[.int .i64 m.a, .int .i64 m.b, .int .i64 m.c]

theorem within_any (n : Int) (w : World) : Calls Tryd.prog 28 #[.int .i64 n] w fun e w' => e = .returned (.bool (okB n)) ∧ w' = w := by
  by_cases h0 : 0 ≤ n
  · by_cases h1 : n ≤ 1099511627776
    · rw [show okB n = true from okB_iff.2 ⟨h0, h1⟩]
      go_enter Tryd.func28, Tryd.ntmps28
      go_wp2
      go_ret
      exact ⟨by simp, rfl⟩
    · rw [show okB n = false by simp [okB, h1]]
      go_enter Tryd.func28, Tryd.ntmps28
      go_wp2
      go_ret
      exact ⟨by simp, rfl⟩
  · rw [show okB n = false by simp [okB, h0]]
    go_enter Tryd.func28, Tryd.ntmps28
    go_wp2
    go_ret
    exact ⟨by simp, rfl⟩

set_option maxHeartbeats 1000000 in
theorem validMeta_any (m : Mt) (w : World) : Calls Tryd.prog 16 #[m.val] w fun e w' => e = .returned (.bool (okM m)) ∧ Below w.heap.size w w' := by
  obtain ⟨a, b, c⟩ := m
  have HA := Lib.hid (fun w => within_any a w)
  have HB := Lib.hid (fun w => within_any b w)
  have HC := Lib.hid (fun w => within_any c w)
  unfold okM
  simp only []
  revert HA HB HC
  generalize okB a = p
  generalize okB b = q
  generalize okB c = r
  intro HA HB HC
  cases p
  all_goals cases q
  all_goals cases r
  all_goals
    go_enter Tryd.func16, Tryd.ntmps16
    go_wp2_with (go_at_call 28; first
      | ((with_reducible refine (HA.out _).mono ?_); rintro e w' ⟨rfl, rfl⟩)
      | ((with_reducible refine (HB.out _).mono ?_); rintro e w' ⟨rfl, rfl⟩)
      | ((with_reducible refine (HC.out _).mono ?_); rintro e w' ⟨rfl, rfl⟩))
    go_ret
    exact ⟨by simp, (Below.refl _ _).alloc (Nat.le_refl _) _⟩

theorem okB_not {n : Int} (h : okB n = false) : n < 0 ∨ (0 ≤ n ∧ 1099511627776 < n) := by
  by_cases h0 : 0 ≤ n
  · by_cases h1 : n ≤ 1099511627776
    · rw [okB_iff.2 ⟨h0, h1⟩] at h; cases h
    · exact Or.inr ⟨h0, by omega⟩
  · exact Or.inl (by omega)
set_option maxHeartbeats 2000000 in
theorem rvalidMeta_any (m : Mt) (w : World) : Calls Tryd.prog 19 #[m.val] w fun e w' => e = .returned (.bool (okM m)) ∧ Below w.heap.size w w' := by
  obtain ⟨a, b, c⟩ := m
  unfold okM
  simp only []
  rcases ha : okB a with _ | _
  · rcases okB_not ha with h | ⟨h, h'⟩
    all_goals
      clear ha
      go_enter Tryd.func19, Tryd.ntmps19
      go_wp2
      all_goals
        go_ret
        exact ⟨by simp <;> omega, (Below.refl _ _).alloc (Nat.le_refl _) _⟩
  · obtain ⟨ha1, ha2⟩ := okB_iff.1 ha
    clear ha
    rcases hb : okB b with _ | _
    · rcases okB_not hb with h | ⟨h, h'⟩
      all_goals
        clear hb
        go_enter Tryd.func19, Tryd.ntmps19
        go_wp2
        all_goals
          go_ret
          exact ⟨by simp <;> omega, (Below.refl _ _).alloc (Nat.le_refl _) _⟩
    · obtain ⟨hb1, hb2⟩ := okB_iff.1 hb
      clear hb
      rcases hc : okB c with _ | _
      · rcases okB_not hc with h | ⟨h, h'⟩
        all_goals
          clear hc
          go_enter Tryd.func19, Tryd.ntmps19
          go_wp2
          all_goals
            go_ret
            exact ⟨by simp <;> omega, (Below.refl _ _).alloc (Nat.le_refl _) _⟩
      · obtain ⟨hc1, hc2⟩ := okB_iff.1 hc
        clear hc
        go_enter Tryd.func19, Tryd.ntmps19
        go_wp2
        all_goals
          go_ret
          exact ⟨by simp <;> omega, (Below.refl _ _).alloc (Nat.le_refl _) _⟩

/-! ### parts -/
def strs (l : List (List UInt8)) : List Value := l.map fun x => .string (mkS x)
theorem info9 : (Tryd.prog.info? 9).map (fun i => (i.zero, i.size, i.bytes)) = some (some (.string ⟨#[]⟩), 1, 16) := by kernel_rfl
theorem strs_one (l : List (List UInt8)) : ∀ u ∈ strs l, u.oneCell' = true := by
  intro u hu
  simp only [strs, List.mem_map] at hu
  obtain ⟨x, _, rfl⟩ := hu
  rfl
/-- What a part is. -/
def PartPost (k : List UInt8) (n : Int) (w : World) (e : Ending) (w' : World) : Prop := ∃ v, e = .returned v ∧ w'.ownsRow w.heap.size 9 1 v (partB k n).length (strs (partB k n)) ∧ Below w.heap.size w w'

set_option maxHeartbeats 1000000 in
theorem part_any (k : ByteArray) (hk : k.size ≤ 1000) (n : Int) (h0 : -9223372036854775808 ≤ n) (h1 : n ≤ 9223372036854775807) (w : World) (ht : Tab w) : Calls Tryd.prog 17 #[.string k, .int .i64 n] w (PartPost k.data.toList n w) := by
  by_cases hn : n = 0
  · subst hn
    go_enter Tryd.func17, Tryd.ntmps17
    go_wp2
    go_ret
    exact ⟨_, rfl, World.ownsRow_nil _ _ _ _, Below.refl _ _⟩
  · have hn1 : (n == 0) = false := beq_eq_false_iff_ne.2 hn
    have HD := Lib.hid (digits_any n h0 h1 w ht)
    have hl := itoa_length_le n h0 h1
    have hz : (⟨(itoa n).toArray⟩ : ByteArray).size ≤ 21 := by
      show (itoa n).toArray.size ≤ 21
      simpa using hl
    have hz2 : (k ++ ⟨#[61]⟩ : ByteArray).size ≤ 1001 := by rw [ByteArray.size_append]; show k.size + 1 ≤ 1001; omega
    have hv : mkS (k.data.toList ++ 61 :: itoa n) = (k ++ ⟨#[61]⟩ : ByteArray) ++ ⟨(itoa n).toArray⟩ := by
      apply ByteArray.ext; apply Array.ext'
      simp [mkS, ByteArray.data_append]
    have hp : partB k.data.toList n = [k.data.toList ++ 61 :: itoa n] := if_neg hn
    have HV := Lib.hid (And.intro hp hv)
    clear hp hv hl hn
    revert HD hz HV
    generalize (⟨(itoa n).toArray⟩ : ByteArray) = d
    intro HD hz HV
    go_enter Tryd.func17, Tryd.ntmps17
    go_wp2_with fail
    refine HD.out.mono ?_
    rintro en w1 ⟨rfl, hb⟩
    have HB := Lib.hid hb; clear hb
    go_wp2_with fail
    go_ret
    refine ⟨_, rfl, ?_, HB.out.alloc HB.out.size _⟩
    rw [HV.out.1]
    refine ⟨rfl, Or.inr ⟨w1.heap.size, 1, _, rfl, HB.out.size, new_block _ _, by simp, by unfold maxLen; decide, rfl, ?_⟩⟩
    show [Value.string _] = strs _
    rw [strs, List.map_cons, HV.out.2]
    rfl
end Go.Proofs.YtiblkfhcpepnfaaDoor
