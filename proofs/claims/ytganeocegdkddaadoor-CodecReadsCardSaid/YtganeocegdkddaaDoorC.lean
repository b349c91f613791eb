/-
  codec.Out: numbers that must go into so many bytes. Conditions: none.
-/
import Derived.Test.YtganeocegdkddaaDoorB
namespace Go.Proofs.YtganeocegdkddaaDoor
open Go.RowKit Go.Lib

/-- What a step on an Out at block O leaves. -/
def Put (B O : Nat) (v : Value) (s' : ByteArray) (e' : Int) (w : World) (en : Ending) (w' : World) : Prop :=
  en = .returned (.pointer (some ⟨O, 0, none⟩)) ∧ ∃ v', OutAt B O v' s' e' w' ∧ Turn O v.ownBlock w w' ∧ Hat w v.ownBlock v'.ownBlock

theorem Put.same {B O : Nat} {v : Value} {s : ByteArray} {e : Int} {w : World} (h : OutAt B O v s e w) : Put B O v s e w (.returned (.pointer (some ⟨O, 0, none⟩))) w :=
  ⟨rfl, v, h, Turn.refl _ _ _, Hat.refl _ _⟩
theorem Put.err {B O : Nat} {v : Value} {s : ByteArray} {e : Int} {w : World} (h : OutAt B O v s e w) (e' : Int) : Put B O v s e' w (.returned (.pointer (some ⟨O, 0, none⟩))) (w.setCell ⟨O, 1, none⟩ (.int .i64 e')) :=
  ⟨rfl, v, h.setErr e', Turn.set _ _, Hat.refl _ _⟩

theorem i64_u64 (x : Int) (h0 : 0 ≤ x) (h1 : x ≤ 9223372036854775807) : IntKind.u64.wrap x = x := IntWalk.u64_in _ (by omega)

theorem shr_fits (x : Int) (hx : 0 ≤ x) (n : Nat) : (x / 2 ^ (8 * n) != 0) = !decide (x < 2 ^ (8 * n)) := by
  have hp : (0 : Int) < 2 ^ (8 * n) := Int.pow_pos (by decide)
  by_cases h : x < 2 ^ (8 * n)
  · simp [h, Int.ediv_eq_zero_of_lt hx h]
  · have h2 : 1 ≤ x / 2 ^ (8 * n) := (Int.le_ediv_iff_mul_le hp).2 (by omega)
    have h3 : x / 2 ^ (8 * n) ≠ 0 := by omega
    simp [h, h3]

/-- What a number that must go into n bytes leaves. -/
def putSmall (s : ByteArray) (e x : Int) (n : Nat) : ByteArray × Int :=
  if e ≠ 0 then (s, e) else if x < 0 ∨ ¬ x < 2 ^ (8 * n) then (s, 1) else (s ++ highs x n n, 0)

section
variable (B O : Nat) (v : Value) (s : ByteArray) (e : Int) (w : World) (hO : OutAt B O v s e w) (hs : s.size ≤ 1000000) (x : Int) (hx1 : x ≤ 9223372036854775807) (n : Nat) (N : Int) (hN : N = n) (hn : n ≤ 7)
include hO hN hn

theorem small_had (he : (e == 0) = false) : Calls Tryd.prog 48 #[.pointer (some ⟨O, 0, none⟩), .int .i64 x, .int .i64 N] w (Put B O v s e w) := by
  have hw1 : IntKind.i64.wrap (8 * N) = 8 * N := IntWalk.i64_in _ (by omega)
  have hw2 : (0 : Int) ≤ 8 * N := by omega
  have HO := Lib.hid hO; clear hO
  by_cases hneg : x < 0
  all_goals
    go_enter Tryd.func48, Tryd.ntmps48
    go_wp2_with fail
    refine (fail_had B O v s e w HO.out _ 1 he).mono ?_
    rintro en w' ⟨rfl, rfl⟩
    go_wp2
    go_ret
    exact Put.same HO.out

theorem small_bad (he : e = 0) (hb : x < 0 ∨ ¬ x < 2 ^ (8 * n)) : Calls Tryd.prog 48 #[.pointer (some ⟨O, 0, none⟩), .int .i64 x, .int .i64 N] w (Put B O v s 1 w) := by
  have hw1 : IntKind.i64.wrap (8 * N) = 8 * N := IntWalk.i64_in _ (by omega)
  have hw2 : (0 : Int) ≤ 8 * N := by omega
  have HO := Lib.hid hO; clear hO
  by_cases hneg : x < 0
  · clear hb
    go_enter Tryd.func48, Tryd.ntmps48
    go_wp2_with fail
    refine (fail_now B O v s e w HO.out 1 he rfl).mono ?_
    rintro en w' ⟨rfl, rfl⟩
    go_wp2
    go_ret
    exact Put.err HO.out 1
  · have hb2 := hb.resolve_left hneg
    have hf := shr_fits x (by omega) n
    rw [decide_eq_false hb2] at hf
    simp only [Bool.not_false] at hf
    clear hb hb2
    go_enter Tryd.func48, Tryd.ntmps48
    go_wp2_with fail
    refine (fail_now B O v s e w HO.out 1 he rfl).mono ?_
    rintro en w' ⟨rfl, rfl⟩
    go_wp2
    go_ret
    exact Put.err HO.out 1

include hs hx1
theorem small_good (he : e = 0) (hneg : ¬ x < 0) (hb : x < 2 ^ (8 * n)) : Calls Tryd.prog 48 #[.pointer (some ⟨O, 0, none⟩), .int .i64 x, .int .i64 N] w (Put B O v (s ++ highs x n n) 0 w) := by
  have hw1 : IntKind.i64.wrap (8 * N) = 8 * N := IntWalk.i64_in _ (by omega)
  have hw2 : (0 : Int) ≤ 8 * N := by omega
  have hw3 : IntKind.u64.wrap x = x := i64_u64 x (by omega) hx1
  have HO := Lib.hid hO; clear hO
  have hf := shr_fits x (by omega) n
  rw [decide_eq_true hb] at hf
  simp only [Bool.not_true] at hf
  clear hb
  subst he
  go_enter Tryd.func48, Tryd.ntmps48
  go_wp2_with fail
  refine (fail_none B O v s 0 w HO.out 1 rfl).mono ?_
  rintro en w' ⟨rfl, rfl⟩
  go_wp2_with fail
  refine (high_any B O v s 0 w' HO.out x (by omega) n (by omega) hs).mono ?_
  rintro en w' ⟨rfl, hv⟩
  go_wp2
  go_ret
  exact ⟨rfl, hv⟩

theorem small_any : Calls Tryd.prog 48 #[.pointer (some ⟨O, 0, none⟩), .int .i64 x, .int .i64 N] w (Put B O v (putSmall s e x n).1 (putSmall s e x n).2 w) := by
  by_cases he : e = 0
  · by_cases hb : x < 0 ∨ ¬ x < 2 ^ (8 * n)
    · have h1 : putSmall s e x n = (s, 1) := by rw [putSmall, if_neg (by simpa using he), if_pos hb]
      rw [h1]
      exact small_bad B O v s e w hO x n N hN hn he hb
    · have h1 : putSmall s e x n = (s ++ highs x n n, 0) := by rw [putSmall, if_neg (by simpa using he), if_neg hb]
      rw [h1]
      exact small_good B O v s e w hO hs x hx1 n N hN hn he (fun h => hb (Or.inl h)) (Classical.not_not.1 fun h => hb (Or.inr h))
  · have h1 : putSmall s e x n = (s, e) := by rw [putSmall, if_pos he]
    rw [h1]
    exact small_had B O v s e w hO x n N hN hn (by simpa using he)
end

section
variable (B O : Nat) (v : Value) (s : ByteArray) (e : Int) (w : World) (hO : OutAt B O v s e w) (hs : s.size ≤ 1000000) (x : Int) (hx1 : x ≤ 9223372036854775807)
include hO hs hx1
theorem outU8 : Calls Tryd.prog 14 #[.pointer (some ⟨O, 0, none⟩), .int .i64 x] w (Put B O v (putSmall s e x 1).1 (putSmall s e x 1).2 w) := by
  have h := Lib.hid (small_any B O v s e w hO hs x hx1 1 1 rfl (by decide))
  go_enter Tryd.func14, Tryd.ntmps14
  go_wp2_with fail
  refine h.out.mono ?_
  rintro en w' ⟨rfl, hv⟩
  go_wp2
  go_ret
  exact ⟨rfl, hv⟩
theorem outU32 : Calls Tryd.prog 16 #[.pointer (some ⟨O, 0, none⟩), .int .i64 x] w (Put B O v (putSmall s e x 4).1 (putSmall s e x 4).2 w) := by
  have h := Lib.hid (small_any B O v s e w hO hs x hx1 4 4 rfl (by decide))
  go_enter Tryd.func16, Tryd.ntmps16
  go_wp2_with fail
  refine h.out.mono ?_
  rintro en w' ⟨rfl, hv⟩
  go_wp2
  go_ret
  exact ⟨rfl, hv⟩
end
end Go.Proofs.YtganeocegdkddaaDoor
