/-
  RealPlain, the walk: of plain numbers the order is that of the numbers. Conditions: none.
-/
import Derived.Test.YtelkobogohbhlaaDoorRealC7
import Derived.Test.YtelkobogohbhlaaDoorRealW
import Derived.Laws.Cover2
namespace Go.Proofs.YtelkobogohbhlaaDoor
open Go.RowKit Go.Lib

theorem plain_out (a b : Int) (h : a < -9007199254740992 ∨ (¬ a < -9007199254740992 ∧ 9007199254740992 < a) ∨ (¬ a < -9007199254740992 ∧ ¬ 9007199254740992 < a ∧ b < -9007199254740992) ∨ (¬ a < -9007199254740992 ∧ ¬ 9007199254740992 < a ∧ ¬ b < -9007199254740992 ∧ 9007199254740992 < b)) (W : World) :
    Calls Tryd.prog 6 #[.int .i64 a, .int .i64 b] W fun en w' => en = .returned (.bool true) ∧ Below W.heap.size W w' := by
  rcases h with h1 | ⟨h1, h2⟩ | ⟨h1, h2, h3⟩ | ⟨h1, h2, h3, h4⟩
  all_goals
    go_enter Tryd.func6, Tryd.ntmps6
    go_wp2_with fail
    refine (alive_any _).mono ?_
    rintro en w1 ⟨rfl, hbl⟩
    go_wp2
    go_ret
    exact ⟨rfl, hbl⟩

theorem add_some (a b : Nat) (ha : rungOf a < 9218868437227405312) (hb : rungOf b < 9218868437227405312) : ∃ r, Ieee.double.add a b = some r := by
  obtain ⟨m, p, e1, _⟩ := decode_num a ha
  obtain ⟨n, q, e2, _⟩ := decode_num b hb
  have e1' : Ieee.double.read a = .number (negOf a) m (-1074 + (p : Int)) := e1
  have e2' : Ieee.double.read b = .number (negOf b) n (-1074 + (q : Int)) := e2
  rw [Ieee.Format.add, e1', e2']
  exact ⟨_, rfl⟩

theorem cell_row2 (w : World) (x y : Nat) : FlIn (w.alloc (.cells #[.float .f64 x, .float .f64 y] 24)) w.heap.size 0 2 (fun i => if i = 0 then x else y) := by
  refine ⟨fun i hi => ?_, by simp⟩
  have hb := new_block w (.cells #[.float .f64 x, .float .f64 y] 24)
  revert hb
  generalize w.alloc _ = w2
  generalize w.heap.size = B
  intro hb
  match i, hi with
  | 0, _ => simp [World.cell?, hb]
  | 1, _ => simp [World.cell?, hb]

theorem run_conv (a : Int) (w : World) : (convert 3 24 (.int .i64 a)).run Tryd.prog w = .ok (.float .f64 (intF a)) w :=
  run_convert_int_float w 3 24 .i64 .f64 a (by kernel_rfl) Tryd.underlying24

theorem intF_rung (a : Int) (ha : -9007199254740992 ≤ a ∧ a ≤ 9007199254740992) : rungOf (intF a) < 9218868437227405312 := by
  rw [intF_eq]; exact (intW_facts _ _ (by omega)).2.1

theorem ordK_mid {x : Nat} (h : rungOf x < 9218868437227405312) : -9218868437227405313 < ordK x ∧ ordK x < 9218868437227405312 := by
  rw [ordK_of h]
  split <;> omega

theorem plain_walk (a b : Int) (x y r : Nat) (s : Bool) (hab : (a != b) = true ∨ ((a != b) = false ∧ s = true))
    (c1 : ∀ w : World, (convert 3 24 (.int .i64 a)).run Tryd.prog w = .ok (.float .f64 x) w) (c2 : ∀ w : World, (convert 3 24 (.int .i64 b)).run Tryd.prog w = .ok (.float .f64 y) w)
    (hadd : ∀ (t : TypeId) (w : World), (binOp .add t (.float .f64 x) (.float .f64 y)).run Tryd.prog w = .ok (.float .f64 r) w)
    (b1 : ¬ a < -9007199254740992) (b2 : ¬ 9007199254740992 < a) (b3 : ¬ b < -9007199254740992) (b4 : ¬ 9007199254740992 < b)
    (H1 : Hid (∀ w, Calls Tryd.prog 26 #[.float .f64 x, .float .f64 y] w fun en w' => en = .returned (.bool (decide (a < b))) ∧ w = w'))
    (H2 : Hid (∀ w, Calls Tryd.prog 26 #[.float .f64 18442240474082181120, .float .f64 x] w fun en w' => en = .returned (.bool true) ∧ w = w'))
    (H3 : Hid (∀ w, Calls Tryd.prog 26 #[.float .f64 x, .float .f64 9218868437227405312] w fun en w' => en = .returned (.bool true) ∧ w = w'))
    (H4 : Hid (∀ w, Calls Tryd.prog 26 #[.float .f64 x, .float .f64 9221120237041090561] w fun en w' => en = .returned (.bool true) ∧ w = w'))
    (H5 : Hid (∀ w, Calls Tryd.prog 27 #[.float .f64 x, .float .f64 y] w fun en w' => en = .returned (.bool s) ∧ w = w'))
    (H6 : Hid (∀ w, Calls Tryd.prog 27 #[.float .f64 (oneW r), .float .f64 r] w fun en w' => en = .returned (.bool true) ∧ w = w'))
    (U : Hid (∀ w : World, Calls Tryd.prog 30 #[.slice (some ⟨w.heap.size, 0, none⟩) 2 2] (w.alloc (.cells #[.float .f64 x, .float .f64 y] 24)) fun en w' => en = .returned (.float .f64 (oneW r)) ∧ Below (w.alloc (.cells #[.float .f64 x, .float .f64 y] 24)).heap.size (w.alloc (.cells #[.float .f64 x, .float .f64 y] 24)) w')) (W : World) :
    Calls Tryd.prog 6 #[.int .i64 a, .int .i64 b] W fun en w' => en = .returned (.bool true) ∧ Below W.heap.size W w' := by
  rcases hab with hab | ⟨hab, rfl⟩
  all_goals
    go_enter Tryd.func6, Tryd.ntmps6
    go_wp2_with fail
    refine (alive_any _).mono ?_
    rintro en w1 ⟨rfl, hbl⟩
    go_wp2_with fail
    refine (H1.out _).mono ?_
    rintro en w2 ⟨rfl, rfl⟩
    go_wp2_with fail
    first
      | (refine (H5.out _).mono ?_
         rintro en w2 ⟨rfl, rfl⟩
         go_wp2_with fail
         refine (minf_neg _).mono ?_)
      | refine (minf_neg _).mono ?_
    rintro en w2 ⟨rfl, rfl⟩
    go_wp2_with fail
    refine (H2.out _).mono ?_
    rintro en w2 ⟨rfl, rfl⟩
    go_wp2_with fail
    refine (minf_pos _).mono ?_
    rintro en w2 ⟨rfl, rfl⟩
    go_wp2_with fail
    refine (H3.out _).mono ?_
    rintro en w2 ⟨rfl, rfl⟩
    go_wp2_with fail
    refine (mnan_any _).mono ?_
    rintro en w2 ⟨rfl, rfl⟩
    go_wp2_with fail
    refine (H4.out _).mono ?_
    rintro en w2 ⟨rfl, rfl⟩
    go_wp2_with fail
    refine (U.out _).mono ?_
    rintro en w2 ⟨rfl, hb2⟩
    have hb3 := (hbl.alloc hbl.size (.cells #[.float .f64 x, .float .f64 y] 24)).trans (hb2.mono (by have := hbl.size; simp; omega))
    clear hb2 hbl
    go_wp2_with fail
    refine (H6.out _).mono ?_
    rintro en w2 ⟨rfl, rfl⟩
    go_wp2
    go_ret
    exact ⟨rfl, hb3⟩

theorem sum_two (x y : Nat) : sumC (fun i => if i = 0 then x else y) (2 - 1) = addC x y := by
  show addC (oneW x) y = addC x y
  rw [addC_one]

theorem plain_in (a b : Int) (ha : -9007199254740992 ≤ a ∧ a ≤ 9007199254740992) (hb : -9007199254740992 ≤ b ∧ b ≤ 9007199254740992) (W : World) :
    Calls Tryd.prog 6 #[.int .i64 a, .int .i64 b] W fun en w' => en = .returned (.bool true) ∧ Below W.heap.size W w' := by
  have c1 := run_conv a
  have c2 := run_conv b
  have xa := intF_rung a ha
  have xb := intF_rung b hb
  have ho := ordK_int a b ha hb
  have hs : a = b → sameW (intF a) (intF b) = true := fun h => by subst h; unfold sameW; simp
  obtain ⟨r, hr⟩ := add_some _ _ xa xb
  have L1 := less_any (intF a) (intF b) (intF_lt a) (intF_lt b)
  rw [less_ord] at L1
  have L2 := less_any 18442240474082181120 (intF a) (by decide) (intF_lt a)
  have L3 := less_any (intF a) 9218868437227405312 (intF_lt a) (by decide)
  have L4 := less_any (intF a) 9221120237041090561 (intF_lt a) (by decide)
  have k1 : ordK 18442240474082181120 = -9218868437227405313 := by decide +kernel
  have k2 : ordK 9218868437227405312 = 9218868437227405312 := by decide +kernel
  have k3 : ordK 9221120237041090561 = 100000000000000000000 := by decide +kernel
  have hm := ordK_mid xa
  rw [less_ord, k1, decide_eq_true hm.1] at L2
  rw [less_ord, k2, decide_eq_true hm.2] at L3
  rw [less_ord, k3, decide_eq_true (by omega)] at L4
  have S1 := rsame_any (intF a) (intF b)
  have S2 := rsame_any (oneW r) r
  rw [show sameW (oneW r) r = true by
    unfold sameW
    rcases fine_dec r with ⟨h, _⟩ | ⟨h, _⟩
    · rw [oneW_not h, oneW_not h]; simp
    · rw [oneW_nan h]; decide +kernel] at S2
  have hadd := run_add _ _ r hr
  have hsum : sumC (fun i => if i = 0 then intF a else intF b) (2 - 1) = oneW r := by
    rw [sum_two, addC_some hr]
  have U := Lib.hid (fun w => sum_any w.heap.size 0 2 2 (by decide) (by decide) (by decide) _ _ (cell_row2 w (intF a) (intF b)))
  rw [hsum] at U
  have H1 := Lib.hid L1
  have H2 := Lib.hid L2
  have H3 := Lib.hid L3
  have H4 := Lib.hid L4
  have H5 := Lib.hid S1
  have H6 := Lib.hid S2
  have b1 : ¬ a < -9007199254740992 := by omega
  have b2 : ¬ 9007199254740992 < a := by omega
  have b3 : ¬ b < -9007199254740992 := by omega
  have b4 : ¬ 9007199254740992 < b := by omega
  have hlt : decide (ordK (intF a) < ordK (intF b)) = decide (a < b) := decide_eq_decide.2 ho
  rw [hlt] at H1
  have hab : (a != b) = true ∨ ((a != b) = false ∧ sameW (intF a) (intF b) = true) := by
    by_cases h : a = b
    · exact Or.inr ⟨by simpa using h, hs h⟩
    · exact Or.inl (by simpa using h)
  exact plain_walk a b (intF a) (intF b) r _ hab c1 c2 hadd b1 b2 b3 b4 H1 H2 H3 H4 H5 H6 U W
end Go.Proofs.YtelkobogohbhlaaDoor
