/-
  Contracts of the laws' own function run, one way each. Conditions: none.
-/
import Derived.Test.YtdllgebccjmljaaE
import Derived.BigQuiet
import Derived.Laws.Panics
import Derived.RegionDies
namespace Go.Proofs.Ytdllgebccjmljaa
open Go.RowKit

/-- It panicked, with what told tells as these; nothing was counted. -/
def RunBad (P : Nat) (c : Int) (fe fk : Int) (fs : ByteArray) (w : World) (e : Ending) (w' : World) : Prop :=
  (∃ t pv, e = .panicked [{ v := .iface t pv, recovered := false }] ∧ ToldBy t pv fe fk fs) ∧ Off P 1 w w' ∧ ∃ o, w'.heap[P]? = some o ∧ o = .cells #[.int .i64 c] 3
/-- It came to its end, and counted from lo to hi. -/
def RunGood (P : Nat) (c : Int) (lo hi : Nat) (w : World) (e : Ending) (w' : World) : Prop :=
  e = .returned (.tuple #[]) ∧ Off P 1 w w' ∧ ∃ o, w'.heap[P]? = some o ∧ ∃ q : Nat, lo ≤ q ∧ q ≤ hi ∧ o = .cells #[.int .i64 (c + q)] 3

theorem run_end (ao : Option Addr) (len cap at' P : Nat) (c : Int) (h : len ≤ at') (w : World) (hP : w.heap[P]? = some (.cells #[.int .i64 c] 3)) :
    Calls Try.prog 16 #[.slice ao len cap, .int .i64 at', .pointer (some ⟨P, 0, none⟩)] w (RunGood P c 0 0 w) := by
  go_enter Try.func16, Try.ntmps16
  go_wp2
  refine bodyPost_ret (results_none rfl _ _ _) rfl ⟨rfl, (((Off.refl _ _ _).alloc _).alloc _).alloc _, .cells #[.int .i64 c] 3, ?_, 0, Nat.le_refl _, Nat.le_refl _, by simp⟩
  have hz := lt_of_block hP
  rw [Below.heap_alloc _ _ _ (by simp; omega), Below.heap_alloc _ _ _ (by simp; omega), Below.heap_alloc _ _ _ hz]; exact hP

theorem bounds_run1 (x y : Int) (w : World) : ∃ s w', (boundsPanic .i64 x y .index : Sem Value).run Try.prog w = .halt (.panic (boundsValue Try.prog (IntKind.i64.wrap x) y s BoundsCode.index.toNat)) w' ∧ (w' = w ∨ w' = w.drew) := by
  unfold boundsPanic boundsValue
  split
  · simp [runtimePanic, goPanic, go_sem]
    by_cases hq : (Question.extern "runtime.boundsError.signed" 2).cut (w.tape w.drawn (Question.extern "runtime.boundsError.signed" 2)) = 1
    · exact Or.inr ⟨_, ⟨hq, rfl⟩, Or.inr rfl⟩
    · exact Or.inl ⟨_, ⟨hq, rfl⟩, Or.inr rfl⟩
  · simp [runtimePanic, goPanic, go_sem]

theorem bounds_run (x y : Int) : ∃ (S : World → Bool) (N : World → Nat), ∀ w, (boundsPanic .i64 x y .index : Sem Value).run Try.prog w = .halt (.panic (.iface 8 (.agg #[.int .i64 (IntKind.i64.wrap x), .int .i64 y, .bool (S w), .int .u8 0]))) (w.drewN (N w)) := by
  have h : ∀ w : World, ∃ q : Bool × Nat, (boundsPanic .i64 x y .index : Sem Value).run Try.prog w = .halt (.panic (.iface 8 (.agg #[.int .i64 (IntKind.i64.wrap x), .int .i64 y, .bool q.1, .int .u8 0]))) (w.drewN q.2) := by
    intro w
    have hrt : Try.prog.rt.boundsError = 8 := by kernel_rfl
    obtain ⟨s, w', h, rfl | rfl⟩ := bounds_run1 x y w
    · refine ⟨(s, 0), ?_⟩
      rw [h, boundsValue, hrt]; rfl
    · refine ⟨(s, 1), ?_⟩
      rw [h, boundsValue, hrt]; rfl
  exact ⟨fun w => (Classical.choose (h w)).1, fun w => (Classical.choose (h w)).2, fun w => Classical.choose_spec (h w)⟩

noncomputable def tae : Obj := .cells #[typeHandle Try.prog 20, typeHandle Try.prog 3, typeHandle Try.prog 9, strVal ""] 56

theorem assert_no (v : Value) (w : World) : (Instr.typeAssert (.iface 3 v) 20 9 false).run Try.prog w = .halt (.panic (.iface 15 (.pointer (some ⟨w.heap.size, 0, none⟩)))) (w.alloc tae) := by
  have he : (elemOf 15).run Try.prog w = .ok 56 w := by kernel_rfl
  simp [Instr.typeAssert, runtimePanic, goPanic, go_sem, he, tae]


theorem nilMap (n : Int) (w : World) : (Instr.mapUpdate 51 (.map none) (.int .i64 n) (.int .i64 1)).run Try.prog w = .halt (.panic (.iface 11 (strVal "assignment to entry in nil map"))) w := by kernel_rfl

theorem RunBad.of_below {P : Nat} {c fe fk : Int} {fs : ByteArray} {w w' : World} (hP : w.heap[P]? = some (.cells #[.int .i64 c] 3)) (h : Below w.heap.size w w') (e : Ending)
    (he : ∃ t pv, e = .panicked [{ v := .iface t pv, recovered := false }] ∧ ToldBy t pv fe fk fs) : RunBad P c fe fk fs w e w' :=
  ⟨he, Off.of_below h, _, (h.block _ (lt_of_block hP)).trans hP, rfl⟩

theorem lts {b n : Nat} (h : b < n) : b < n ∧ b < n + 1 ∧ b < n + 1 + 1 ∧ b < n + 1 + 1 + 1 := by omega

section
variable (b off len cap at' P : Nat) (c kd n : Int) (s : ByteArray) (hi : at' < len) (w : World) (hb : b < w.heap.size)
    (h0 : w.cell? ⟨b, off + at' * 3, none⟩ = some (.int .i64 kd)) (h1 : w.cell? ⟨b, off + at' * 3 + 1, none⟩ = some (.int .i64 n)) (h2 : w.cell? ⟨b, off + at' * 3 + 2, none⟩ = some (.string s))
    (hP : w.heap[P]? = some (.cells #[.int .i64 c] 3))
include hi hb h0 h1 h2 hP

theorem run_plain (hc0 : 0 ≤ c) (hc1 : c ≤ 1000) (hk : kd < 2 ∨ 8 < kd) : Calls Try.prog 16 #[.slice (some ⟨b, off, none⟩) len cap, .int .i64 at', .pointer (some ⟨P, 0, none⟩)] w (RunGood P c 1 1 w) := by
  have k2 : (kd == 2) = false := by simp; omega
  have k3 : (kd == 3) = false := by simp; omega
  have k4 : (kd == 4) = false := by simp; omega
  have k5 : (kd == 5) = false := by simp; omega
  have k6 : (kd == 6) = false := by simp; omega
  have k7 : (kd == 7) = false := by simp; omega
  have k8 : (kd == 8) = false := by simp; omega
  obtain ⟨p1, p2⟩ := cell_of_block1 hP
  obtain ⟨p3, p4, p5, p6⟩ := lts (lt_of_block hP)
  obtain ⟨-, b4, b5, b6⟩ := lts hb
  clear hk
  go_enter Try.func16, Try.ntmps16
  go_wp2
  refine bodyPost_end (results_none rfl _ _ _) rfl ⟨rfl, (((((Off.refl P 1 w).setCell (p := ⟨P, 0, none⟩) (Nat.le_refl _) (by simp) _).alloc _).alloc _).alloc _).alloc _, .cells #[.int .i64 (c + 1)] 3, ?_, 1, Nat.le_refl _, Nat.le_refl _, rfl⟩
  have hz : P < (w.setCell ⟨P, 0, none⟩ (.int .i64 (c + 1))).heap.size := by simpa [World.setCell] using p3
  rw [Below.heap_alloc _ _ _ (by simp; omega), Below.heap_alloc _ _ _ (by simp; omega), Below.heap_alloc _ _ _ (by simp; omega), Below.heap_alloc _ _ _ hz, heap_setCell_same hP]; rfl

theorem run_index (hk : kd = 4) : Calls Try.prog 16 #[.slice (some ⟨b, off, none⟩) len cap, .int .i64 at', .pointer (some ⟨P, 0, none⟩)] w (RunBad P c 21 1 ⟨#[]⟩ w) := by
  subst hk
  obtain ⟨p1, p2⟩ := cell_of_block1 hP
  obtain ⟨p3, p4, p5, p6⟩ := lts (lt_of_block hP)
  obtain ⟨-, b4, b5, b6⟩ := lts hb
  go_enter Try.func16, Try.ntmps16
  obtain ⟨S, N, hrun⟩ := bounds_run 2 2
  have hB := fun (x : World) (h : Below w.heap.size w x) => RunBad.of_below (c := c) (fe := 21) (fk := 1) (fs := ⟨#[]⟩) hP h
  by_cases hn : n < 2
  · go_wp2
    go_region_dies
    all_goals
      refine ⟨rfl, hB _ ?_ _ ⟨_, _, rfl, told_rt 8 (by simp [rtT]) _⟩⟩
      repeat' (first | exact Below.refl _ _ | refine below_drewN ?_ _ | refine Below.drew ?_ | (refine Below.alloc ?_ (by simp <;> omega) _))
  · clear hrun
    obtain ⟨S, N, hrun⟩ := bounds_run n 2
    have hn2 : 2 ≤ n := by omega
    clear hn
    go_wp2
    have hn3 : ¬ n < 2 := by omega
    go_region_dies
    all_goals
      refine ⟨rfl, hB _ ?_ _ ⟨_, _, rfl, told_rt 8 (by simp [rtT]) _⟩⟩
      repeat' (first | exact Below.refl _ _ | refine below_drewN ?_ _ | refine Below.drew ?_ | (refine Below.alloc ?_ (by simp <;> omega) _))

theorem run_div (hk : kd = 5) : Calls Try.prog 16 #[.slice (some ⟨b, off, none⟩) len cap, .int .i64 at', .pointer (some ⟨P, 0, none⟩)] w (RunBad P c 21 1 ⟨#[]⟩ w) := by
  subst hk
  obtain ⟨p1, p2⟩ := cell_of_block1 hP
  obtain ⟨p3, p4, p5, p6⟩ := lts (lt_of_block hP)
  obtain ⟨-, b4, b5, b6⟩ := lts hb
  have hB := fun (x : World) (h : Below w.heap.size w x) => RunBad.of_below (c := c) (fe := 21) (fk := 1) (fs := ⟨#[]⟩) hP h
  go_enter Try.func16, Try.ntmps16
  go_wp2
  go_region_dies
  all_goals
    refine ⟨rfl, hB _ ?_ _ ⟨_, _, rfl, told_rt 10 (by simp [rtT]) _⟩⟩
    repeat' (first | exact Below.refl _ _ | refine below_drewN ?_ _ | refine Below.drew ?_ | (refine Below.alloc ?_ (by simp <;> omega) _))

theorem run_text (hk : kd = 6) : Calls Try.prog 16 #[.slice (some ⟨b, off, none⟩) len cap, .int .i64 at', .pointer (some ⟨P, 0, none⟩)] w (RunBad P c 21 1 ⟨#[]⟩ w) := by
  subst hk
  obtain ⟨p1, p2⟩ := cell_of_block1 hP
  obtain ⟨p3, p4, p5, p6⟩ := lts (lt_of_block hP)
  obtain ⟨-, b4, b5, b6⟩ := lts hb
  have hB := fun (x : World) (h : Below w.heap.size w x) => RunBad.of_below (c := c) (fe := 21) (fk := 1) (fs := ⟨#[]⟩) hP h
  have ha := assert_no
  go_enter Try.func16, Try.ntmps16
  go_wp2
  go_region_dies
  all_goals
    refine ⟨rfl, hB _ ?_ _ ⟨_, _, rfl, told_rt 15 (by simp [rtT]) _⟩⟩
    repeat' (first | exact Below.refl _ _ | refine below_drewN ?_ _ | refine Below.drew ?_ | (refine Below.alloc ?_ (by simp <;> omega) _))

theorem run_map (hk : kd = 7) : Calls Try.prog 16 #[.slice (some ⟨b, off, none⟩) len cap, .int .i64 at', .pointer (some ⟨P, 0, none⟩)] w (RunBad P c 21 1 ⟨#[]⟩ w) := by
  subst hk
  obtain ⟨p1, p2⟩ := cell_of_block1 hP
  obtain ⟨p3, p4, p5, p6⟩ := lts (lt_of_block hP)
  obtain ⟨-, b4, b5, b6⟩ := lts hb
  have hB := fun (x : World) (h : Below w.heap.size w x) => RunBad.of_below (c := c) (fe := 21) (fk := 1) (fs := ⟨#[]⟩) hP h
  have ha := nilMap
  go_enter Try.func16, Try.ntmps16
  go_wp2
  all_goals
    refine ⟨rfl, hB _ ?_ _ ⟨_, _, rfl, told_rt 11 (by simp [rtT]) _⟩⟩
    repeat' (first | exact Below.refl _ _ | refine below_drewN ?_ _ | refine Below.drew ?_ | (refine Below.alloc ?_ (by simp <;> omega) _))
end

end Go.Proofs.Ytdllgebccjmljaa
