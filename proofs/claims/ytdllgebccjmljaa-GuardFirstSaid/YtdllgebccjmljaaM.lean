/-
  Contracts of the laws' own function run, its count in the midst of a list, one way each. Conditions: none.
-/
import Derived.Test.YtdllgebccjmljaaJ
namespace Go.Proofs.Ytdllgebccjmljaa
open Go.RowKit

/-- It panicked, with what told tells as these; nothing was counted. -/
def BadA (P : Nat) (arr : Array Value) (fe fk : Int) (fs : ByteArray) (w : World) (e : Ending) (w' : World) : Prop :=
  (∃ t pv, e = .panicked [{ v := .iface t pv, recovered := false }] ∧ ToldBy t pv fe fk fs) ∧ Off P 1 w w' ∧ ∃ o, w'.heap[P]? = some o ∧ o = .cells arr 3
/-- It came to its end, and counted from lo to hi. -/
def GoodA (P x : Nat) (arr : Array Value) (c : Int) (lo hi : Nat) (w : World) (e : Ending) (w' : World) : Prop :=
  e = .returned (.tuple #[]) ∧ Off P 1 w w' ∧ ∃ o, w'.heap[P]? = some o ∧ ∃ q : Nat, lo ≤ q ∧ q ≤ hi ∧ o = .cells (arr.setIfInBounds x (.int .i64 (c + q))) 3

theorem cell_of_arr {w : World} {P x : Nat} {arr : Array Value} {c : Int} (h : w.heap[P]? = some (.cells arr 3)) (hx : arr[x]? = some (.int .i64 c)) : w.cell? ⟨P, x, none⟩ = some (.int .i64 c) ∧ w.frozen? ⟨P, x, none⟩ = false := by
  simp [World.cell?, World.frozen?, h, hx]

theorem BadA.of_below {P : Nat} {arr : Array Value} {fe fk : Int} {fs : ByteArray} {w w' : World} (hP : w.heap[P]? = some (.cells arr 3)) (h : Below w.heap.size w w') (e : Ending)
    (he : ∃ t pv, e = .panicked [{ v := .iface t pv, recovered := false }] ∧ ToldBy t pv fe fk fs) : BadA P arr fe fk fs w e w' :=
  ⟨he, Off.of_below h, _, (h.block _ (lt_of_block hP)).trans hP, rfl⟩

section
variable (b off len cap at' P : Nat) (c kd n : Int) (s : ByteArray) (hi : at' < len) (w : World) (hb : b < w.heap.size)
    (h0 : w.cell? ⟨b, off + at' * 3, none⟩ = some (.int .i64 kd)) (h1 : w.cell? ⟨b, off + at' * 3 + 1, none⟩ = some (.int .i64 n)) (h2 : w.cell? ⟨b, off + at' * 3 + 2, none⟩ = some (.string s))
    (x : Nat) (arr : Array Value) (hP : w.heap[P]? = some (.cells arr 3)) (hx : arr[x]? = some (.int .i64 c))
include hi hb h0 h1 h2 hP hx

theorem job_plain (hc0 : 0 ≤ c) (hc1 : c ≤ 1000) (hk : kd < 2 ∨ 8 < kd) : Calls Try.prog 16 #[.slice (some ⟨b, off, none⟩) len cap, .int .i64 at', .pointer (some ⟨P, x, none⟩)] w (GoodA P x arr c 1 1 w) := by
  have k2 : (kd == 2) = false := by simp; omega
  have k3 : (kd == 3) = false := by simp; omega
  have k4 : (kd == 4) = false := by simp; omega
  have k5 : (kd == 5) = false := by simp; omega
  have k6 : (kd == 6) = false := by simp; omega
  have k7 : (kd == 7) = false := by simp; omega
  have k8 : (kd == 8) = false := by simp; omega
  obtain ⟨p1, p2⟩ := cell_of_arr hP hx
  obtain ⟨p3, p4, p5, p6⟩ := lts (lt_of_block hP)
  obtain ⟨-, b4, b5, b6⟩ := lts hb
  clear hk
  go_enter Try.func16, Try.ntmps16
  go_wp2
  refine bodyPost_end (results_none rfl _ _ _) rfl ⟨rfl, (((((Off.refl P 1 w).setCell (p := ⟨P, x, none⟩) (Nat.le_refl _) (by simp) _).alloc _).alloc _).alloc _).alloc _, .cells (arr.setIfInBounds x (.int .i64 (c + 1))) 3, ?_, 1, Nat.le_refl _, Nat.le_refl _, rfl⟩
  have hz : P < (w.setCell ⟨P, x, none⟩ (.int .i64 (c + 1))).heap.size := by simpa [World.setCell] using p3
  rw [Below.heap_alloc _ _ _ (by simp; omega), Below.heap_alloc _ _ _ (by simp; omega), Below.heap_alloc _ _ _ (by simp; omega), Below.heap_alloc _ _ _ hz, heap_setCell_same hP]

theorem job_index (hk : kd = 4) : Calls Try.prog 16 #[.slice (some ⟨b, off, none⟩) len cap, .int .i64 at', .pointer (some ⟨P, x, none⟩)] w (BadA P arr 21 1 ⟨#[]⟩ w) := by
  subst hk
  obtain ⟨p1, p2⟩ := cell_of_arr hP hx
  obtain ⟨p3, p4, p5, p6⟩ := lts (lt_of_block hP)
  obtain ⟨-, b4, b5, b6⟩ := lts hb
  go_enter Try.func16, Try.ntmps16
  obtain ⟨S, N, hrun⟩ := bounds_run 2 2
  have hB := fun (x : World) (h : Below w.heap.size w x) => BadA.of_below (arr := arr) (fe := 21) (fk := 1) (fs := ⟨#[]⟩) hP h
  by_cases hn : n < 2
  · go_wp2
    go_region_dies
    all_goals
      refine ⟨rfl, hB _ ?_ _ ⟨_, _, rfl, told_rt 8 (by simp [rtT]) _⟩⟩
      repeat' (first | exact Below.refl _ _ | refine below_drewN ?_ _ | refine Below.drew ?_ | (refine Below.alloc ?_ (by simp <;> omega) _))
  · clear hrun
    obtain ⟨S, N, hrun⟩ := bounds_run n 2
    have hn2 : 2 ≤ n := by omega
    clear hn
    go_wp2
    have hn3 : ¬ n < 2 := by omega
    go_region_dies
    all_goals
      refine ⟨rfl, hB _ ?_ _ ⟨_, _, rfl, told_rt 8 (by simp [rtT]) _⟩⟩
      repeat' (first | exact Below.refl _ _ | refine below_drewN ?_ _ | refine Below.drew ?_ | (refine Below.alloc ?_ (by simp <;> omega) _))

theorem job_div (hk : kd = 5) : Calls Try.prog 16 #[.slice (some ⟨b, off, none⟩) len cap, .int .i64 at', .pointer (some ⟨P, x, none⟩)] w (BadA P arr 21 1 ⟨#[]⟩ w) := by
  subst hk
  obtain ⟨p1, p2⟩ := cell_of_arr hP hx
  obtain ⟨p3, p4, p5, p6⟩ := lts (lt_of_block hP)
  obtain ⟨-, b4, b5, b6⟩ := lts hb
  have hB := fun (x : World) (h : Below w.heap.size w x) => BadA.of_below (arr := arr) (fe := 21) (fk := 1) (fs := ⟨#[]⟩) hP h
  go_enter Try.func16, Try.ntmps16
  go_wp2
  go_region_dies
  all_goals
    refine ⟨rfl, hB _ ?_ _ ⟨_, _, rfl, told_rt 10 (by simp [rtT]) _⟩⟩
    repeat' (first | exact Below.refl _ _ | refine below_drewN ?_ _ | refine Below.drew ?_ | (refine Below.alloc ?_ (by simp <;> omega) _))

theorem job_text (hk : kd = 6) : Calls Try.prog 16 #[.slice (some ⟨b, off, none⟩) len cap, .int .i64 at', .pointer (some ⟨P, x, none⟩)] w (BadA P arr 21 1 ⟨#[]⟩ w) := by
  subst hk
  obtain ⟨p1, p2⟩ := cell_of_arr hP hx
  obtain ⟨p3, p4, p5, p6⟩ := lts (lt_of_block hP)
  obtain ⟨-, b4, b5, b6⟩ := lts hb
  have hB := fun (x : World) (h : Below w.heap.size w x) => BadA.of_below (arr := arr) (fe := 21) (fk := 1) (fs := ⟨#[]⟩) hP h
  have ha := assert_no
  go_enter Try.func16, Try.ntmps16
  go_wp2
  go_region_dies
  all_goals
    refine ⟨rfl, hB _ ?_ _ ⟨_, _, rfl, told_rt 15 (by simp [rtT]) _⟩⟩
    repeat' (first | exact Below.refl _ _ | refine below_drewN ?_ _ | refine Below.drew ?_ | (refine Below.alloc ?_ (by simp <;> omega) _))

theorem job_map (hk : kd = 7) : Calls Try.prog 16 #[.slice (some ⟨b, off, none⟩) len cap, .int .i64 at', .pointer (some ⟨P, x, none⟩)] w (BadA P arr 21 1 ⟨#[]⟩ w) := by
  subst hk
  obtain ⟨p1, p2⟩ := cell_of_arr hP hx
  obtain ⟨p3, p4, p5, p6⟩ := lts (lt_of_block hP)
  obtain ⟨-, b4, b5, b6⟩ := lts hb
  have hB := fun (x : World) (h : Below w.heap.size w x) => BadA.of_below (arr := arr) (fe := 21) (fk := 1) (fs := ⟨#[]⟩) hP h
  have ha := nilMap
  go_enter Try.func16, Try.ntmps16
  go_wp2
  all_goals
    refine ⟨rfl, hB _ ?_ _ ⟨_, _, rfl, told_rt 11 (by simp [rtT]) _⟩⟩
    repeat' (first | exact Below.refl _ _ | refine below_drewN ?_ _ | refine Below.drew ?_ | (refine Below.alloc ?_ (by simp <;> omega) _))
theorem job_must0 (hc0 : 0 ≤ c) (hc1 : c ≤ 1000) (hk : kd = 2) (hn : n = 0) : Calls Try.prog 16 #[.slice (some ⟨b, off, none⟩) len cap, .int .i64 at', .pointer (some ⟨P, x, none⟩)] w (GoodA P x arr c 1 1 w) := by
  subst hk; subst hn
  obtain ⟨p1, p2⟩ := cell_of_arr hP hx
  obtain ⟨p3, p4, p5, p6⟩ := lts (lt_of_block hP)
  obtain ⟨-, b4, b5, b6⟩ := lts hb
  go_enter Try.func16, Try.ntmps16
  go_wp2_with fail
  refine (must_no _).mono ?_
  rintro e w' ⟨rfl, rfl⟩
  go_wp2
  refine bodyPost_end (results_none rfl _ _ _) rfl ⟨rfl, (((((Off.refl P 1 w).setCell (p := ⟨P, x, none⟩) (Nat.le_refl _) (by simp) _).alloc _).alloc _).alloc _).alloc _, .cells (arr.setIfInBounds x (.int .i64 (c + 1))) 3, ?_, 1, Nat.le_refl _, Nat.le_refl _, rfl⟩
  have hz : P < (w.setCell ⟨P, x, none⟩ (.int .i64 (c + 1))).heap.size := by simpa [World.setCell] using p3
  rw [Below.heap_alloc _ _ _ (by simp; omega), Below.heap_alloc _ _ _ (by simp; omega), Below.heap_alloc _ _ _ (by simp; omega), Below.heap_alloc _ _ _ hz, heap_setCell_same hP]

theorem job_must (hk : kd = 2) (hn : (n != 0) = true) : Calls Try.prog 16 #[.slice (some ⟨b, off, none⟩) len cap, .int .i64 at', .pointer (some ⟨P, x, none⟩)] w (BadA P arr n 2 ⟨#[]⟩ w) := by
  subst hk
  obtain ⟨p1, p2⟩ := cell_of_arr hP hx
  obtain ⟨p3, p4, p5, p6⟩ := lts (lt_of_block hP)
  obtain ⟨-, b4, b5, b6⟩ := lts hb
  have hB := fun (x : World) (h : Below w.heap.size w x) => BadA.of_below (arr := arr) (fe := n) (fk := 2) (fs := ⟨#[]⟩) hP h
  go_enter Try.func16, Try.ntmps16
  go_wp2_with fail
  refine (must_yes n hn _).mono ?_
  rintro e w' ⟨rfl, rfl⟩
  go_wp2
  refine ⟨rfl, hB _ ?_ _ ⟨_, _, rfl, told_num n hn⟩⟩
  repeat' (first | exact Below.refl _ _ | (refine Below.alloc ?_ (by simp <;> omega) _))

theorem job_fail (hk : kd = 3) : Calls Try.prog 16 #[.slice (some ⟨b, off, none⟩) len cap, .int .i64 at', .pointer (some ⟨P, x, none⟩)] w (BadA P arr 21 3 s w) := by
  subst hk
  obtain ⟨p1, p2⟩ := cell_of_arr hP hx
  obtain ⟨p3, p4, p5, p6⟩ := lts (lt_of_block hP)
  obtain ⟨-, b4, b5, b6⟩ := lts hb
  have hB := fun (x : World) (h : Below w.heap.size w x) => BadA.of_below (arr := arr) (fe := 21) (fk := 3) (fs := s) hP h
  go_enter Try.func16, Try.ntmps16
  go_wp2_with fail
  refine (fail_any s _).mono ?_
  rintro e w' ⟨rfl, rfl⟩
  go_wp2
  refine ⟨rfl, hB _ ?_ _ ⟨_, _, rfl, told_text s⟩⟩
  repeat' (first | exact Below.refl _ _ | (refine Below.alloc ?_ (by simp <;> omega) _))


theorem job_nested (hc0 : 0 ≤ c) (hc1 : c ≤ 1000) (hk : kd = 8) 
    (hin : Calls Try.prog 14 #[.func (.func 29) #[] #[.pointer (some ⟨w.heap.size, 0, none⟩), .pointer (some ⟨w.heap.size + 1, 0, none⟩), .pointer (some ⟨w.heap.size + 1 + 1, 0, none⟩)]] 
      ((((w.alloc (.cells #[.slice (some ⟨b, off, none⟩) len cap] 32)).alloc (.cells #[.int .i64 at'] 3)).alloc (.cells #[.pointer (some ⟨P, x, none⟩)] 36)).alloc (.cells #[.int .i64 8, .int .i64 n, .string s] 50))
      fun e w' => e = .returned (fault 0 0 ⟨#[]⟩) ∧ Off P 1 ((((w.alloc (.cells #[.slice (some ⟨b, off, none⟩) len cap] 32)).alloc (.cells #[.int .i64 at'] 3)).alloc (.cells #[.pointer (some ⟨P, x, none⟩)] 36)).alloc (.cells #[.int .i64 8, .int .i64 n, .string s] 50)) w' ∧
        ∃ o, w'.heap[P]? = some o ∧ o = .cells arr 3) :
    Calls Try.prog 16 #[.slice (some ⟨b, off, none⟩) len cap, .int .i64 at', .pointer (some ⟨P, x, none⟩)] w (GoodA P x arr c 1 1 w) := by
  subst hk
  obtain ⟨p1, p2⟩ := cell_of_arr hP hx
  obtain ⟨p3, p4, p5, p6⟩ := lts (lt_of_block hP)
  obtain ⟨-, b4, b5, b6⟩ := lts hb
  have hmf : ∀ (fn : Fn) (first cap : Array Value) (w : World), (Instr.makeFunc fn first cap).run Try.prog w = .ok (.func fn first cap) w := fun _ _ _ _ => rfl
  have HI := Lib.hid hin; clear hin
  go_enter Try.func16, Try.ntmps16
  go_wp2_with fail
  refine HI.out.mono ?_
  rintro e w1 ⟨rfl, O, o, ho, rfl⟩
  have hpt : w1.heap[w.heap.size + 1 + 1]? = some (.cells #[.pointer (some ⟨P, x, none⟩)] 36) := O.same (by
    rw [Below.heap_alloc _ _ _ (by simp)]
    have := new_block ((w.alloc (.cells #[.slice (some ⟨b, off, none⟩) len cap] 32)).alloc (.cells #[.int .i64 at'] 3)) (.cells #[.pointer (some ⟨P, x, none⟩)] 36)
    simpa using this) (Or.inr (by omega))
  have O1 : Off P 1 w w1 := ((((Off.refl P 1 w).alloc _).alloc _).alloc _).alloc _ |>.trans O
  clear O HI p1 p2
  obtain ⟨g1, g2⟩ := cell_of_block1 hpt
  obtain ⟨p1, p2⟩ := cell_of_arr ho hx
  unfold fault
  have hz := lt_of_block hpt
  go_wp2
  refine bodyPost_end (results_none rfl _ _ _) rfl ⟨rfl, O1.setCell (p := ⟨P, x, none⟩) (Nat.le_refl _) (by simp) _, .cells (arr.setIfInBounds x (.int .i64 (c + 1))) 3, heap_setCell_same ho _, 1, by omega, by omega, rfl⟩
end

theorem job_end (ao : Option Addr) (len cap at' : Nat) (pa : Option Addr) (h : len ≤ at') (w : World) :
    Calls Try.prog 16 #[.slice ao len cap, .int .i64 at', .pointer pa] w fun e w' => e = .returned (.tuple #[]) ∧ Below w.heap.size w w' := by
  go_enter Try.func16, Try.ntmps16
  go_wp2
  refine bodyPost_ret (results_none rfl _ _ _) rfl ⟨rfl, ?_⟩
  repeat' (first | exact Below.refl _ _ | (refine Below.alloc ?_ (by simp <;> omega) _))

theorem job29 (L A Q : Nat) (v : Value) (pa : Option Addr) (at' : Nat) (hz : at' ≤ 1000) (w : World) (hL : w.heap[L]? = some (.cells #[v] 32)) (hA : w.heap[A]? = some (.cells #[.int .i64 at'] 3)) (hQ : w.heap[Q]? = some (.cells #[.pointer pa] 36))
    (h : Calls Try.prog 16 #[v, .int .i64 (at' + 1 : Nat), .pointer pa] w fun e w' => e = .returned (.tuple #[]) ∧ Below w.heap.size w w') :
    Calls Try.prog 29 #[.pointer (some ⟨L, 0, none⟩), .pointer (some ⟨A, 0, none⟩), .pointer (some ⟨Q, 0, none⟩)] w fun e w' => e = .returned (.tuple #[]) ∧ Below w.heap.size w w' := by
  obtain ⟨g1, -⟩ := cell_of_block1 hL
  obtain ⟨g3, -⟩ := cell_of_block1 hA
  obtain ⟨g5, -⟩ := cell_of_block1 hQ
  have H := Lib.hid h; clear h
  go_enter Try.func29, Try.ntmps29
  go_wp2_with fail
  refine H.out.mono ?_
  rintro e w' ⟨rfl, hO⟩
  go_wp2
  go_end0
  exact ⟨rfl, hO⟩

/-- What a list of one job, run, comes to. -/
def JobPost (P x : Nat) (arr : Array Value) (c kd n : Int) (s : ByteArray) (w : World) (e : Ending) (w' : World) : Prop :=
  (tell kd n s = (0, 0, ⟨#[]⟩) ∧ GoodA P x arr c 1 1 w e w') ∨ (tell kd n s ≠ (0, 0, ⟨#[]⟩) ∧ BadA P arr (tell kd n s).1 (tell kd n s).2.1 (tell kd n s).2.2 w e w')

/-- A list of one job, run. -/
theorem job_any (b off cap P x : Nat) (arr : Array Value) (c kd n : Int) (s : ByteArray) (w : World) (hb : b < w.heap.size)
    (h0 : w.cell? ⟨b, off, none⟩ = some (.int .i64 kd)) (h1 : w.cell? ⟨b, off + 1, none⟩ = some (.int .i64 n)) (h2 : w.cell? ⟨b, off + 2, none⟩ = some (.string s))
    (hP : w.heap[P]? = some (.cells arr 3)) (hx : arr[x]? = some (.int .i64 c)) (hc0 : 0 ≤ c) (hc1 : c ≤ 1000) :
    Calls Try.prog 16 #[.slice (some ⟨b, off, none⟩) 1 cap, .int .i64 0, .pointer (some ⟨P, x, none⟩)] w (JobPost P x arr c kd n s w) := by
  have h0' : w.cell? ⟨b, off + 0 * 3, none⟩ = some (.int .i64 kd) := by simpa using h0
  have h1' : w.cell? ⟨b, off + 0 * 3 + 1, none⟩ = some (.int .i64 n) := by simpa using h1
  have h2' : w.cell? ⟨b, off + 0 * 3 + 2, none⟩ = some (.string s) := by simpa using h2
  have good : tell kd n s = (0, 0, ⟨#[]⟩) → Calls Try.prog 16 #[.slice (some ⟨b, off, none⟩) 1 cap, .int .i64 (0 : Nat), .pointer (some ⟨P, x, none⟩)] w (GoodA P x arr c 1 1 w) → Calls Try.prog 16 #[.slice (some ⟨b, off, none⟩) 1 cap, .int .i64 (0 : Nat), .pointer (some ⟨P, x, none⟩)] w (JobPost P x arr c kd n s w) := fun ht hc => hc.mono fun e w' hg => Or.inl ⟨ht, hg⟩
  have bad : ∀ fe fk fs, tell kd n s = (fe, fk, fs) → fk ≠ 0 → Calls Try.prog 16 #[.slice (some ⟨b, off, none⟩) 1 cap, .int .i64 (0 : Nat), .pointer (some ⟨P, x, none⟩)] w (BadA P arr fe fk fs w) →
      Calls Try.prog 16 #[.slice (some ⟨b, off, none⟩) 1 cap, .int .i64 (0 : Nat), .pointer (some ⟨P, x, none⟩)] w (JobPost P x arr c kd n s w) :=
    fun fe fk fs ht hk hc => hc.mono fun e w' hg => Or.inr ⟨by rw [ht]; simp; intro _ h; exact absurd h hk, by rw [ht]; exact hg⟩
  by_cases k2 : kd = 2
  · by_cases hn : n = 0
    · exact good (by simp [tell, k2, hn]) (job_must0 b off 1 cap 0 P c _ _ _ (by omega) w hb h0' h1' h2' x arr hP hx hc0 hc1 k2 hn)
    · exact bad n 2 ⟨#[]⟩ (by simp [tell, k2, hn]) (by decide) (job_must b off 1 cap 0 P c _ _ _ (by omega) w hb h0' h1' h2' x arr hP hx k2 (by simpa using hn))
  by_cases k3 : kd = 3
  · exact bad 21 3 s (by simp [tell, k3]) (by decide) (job_fail b off 1 cap 0 P c _ _ _ (by omega) w hb h0' h1' h2' x arr hP hx k3)
  by_cases k4 : kd = 4
  · exact bad 21 1 ⟨#[]⟩ (by simp [tell, k4]) (by decide) (job_index b off 1 cap 0 P c _ _ _ (by omega) w hb h0' h1' h2' x arr hP hx k4)
  by_cases k5 : kd = 5
  · exact bad 21 1 ⟨#[]⟩ (by simp [tell, k5]) (by decide) (job_div b off 1 cap 0 P c _ _ _ (by omega) w hb h0' h1' h2' x arr hP hx k5)
  by_cases k6 : kd = 6
  · exact bad 21 1 ⟨#[]⟩ (by simp [tell, k6]) (by decide) (job_text b off 1 cap 0 P c _ _ _ (by omega) w hb h0' h1' h2' x arr hP hx k6)
  by_cases k7 : kd = 7
  · exact bad 21 1 ⟨#[]⟩ (by simp [tell, k7]) (by decide) (job_map b off 1 cap 0 P c _ _ _ (by omega) w hb h0' h1' h2' x arr hP hx k7)
  by_cases k8 : kd = 8
  · refine good (by simp [tell, k8]) (job_nested b off 1 cap 0 P c _ _ _ (by omega) w hb h0' h1' h2' x arr hP hx hc0 hc1 k8 ?_)
    have hPz := lt_of_block hP
    have e1 := Below.alloc1 w (.cells #[.slice (some ⟨b, off, none⟩) 1 cap] 32)
    have q0 := new_block w (.cells #[.slice (some ⟨b, off, none⟩) 1 cap] 32)
    have q1 := new_block2 w (.cells #[.slice (some ⟨b, off, none⟩) 1 cap] 32) (.cells #[.int .i64 (0 : Nat)] 3)
    have q2 := new_block ((w.alloc (.cells #[.slice (some ⟨b, off, none⟩) 1 cap] 32)).alloc (.cells #[.int .i64 (0 : Nat)] 3)) (.cells #[.pointer (some ⟨P, x, none⟩)] 36)
    have z0 : ((((w.alloc (.cells #[.slice (some ⟨b, off, none⟩) 1 cap] 32)).alloc (.cells #[.int .i64 (0 : Nat)] 3)).alloc (.cells #[.pointer (some ⟨P, x, none⟩)] 36)).alloc (.cells #[.int .i64 8, .int .i64 n, .string s] 50)).heap[w.heap.size]? = some (.cells #[.slice (some ⟨b, off, none⟩) 1 cap] 32) := by
      rw [Below.heap_alloc _ _ _ (by simp; omega), Below.heap_alloc _ _ _ (by simp; omega), Below.heap_alloc _ _ _ (by simp)]; exact q0
    have z1 : ((((w.alloc (.cells #[.slice (some ⟨b, off, none⟩) 1 cap] 32)).alloc (.cells #[.int .i64 (0 : Nat)] 3)).alloc (.cells #[.pointer (some ⟨P, x, none⟩)] 36)).alloc (.cells #[.int .i64 8, .int .i64 n, .string s] 50)).heap[w.heap.size + 1]? = some (.cells #[.int .i64 (0 : Nat)] 3) := by
      rw [Below.heap_alloc _ _ _ (by simp <;> omega), Below.heap_alloc _ _ _ (by simp)]; exact q1
    have z2 : ((((w.alloc (.cells #[.slice (some ⟨b, off, none⟩) 1 cap] 32)).alloc (.cells #[.int .i64 (0 : Nat)] 3)).alloc (.cells #[.pointer (some ⟨P, x, none⟩)] 36)).alloc (.cells #[.int .i64 8, .int .i64 n, .string s] 50)).heap[w.heap.size + 1 + 1]? = some (.cells #[.pointer (some ⟨P, x, none⟩)] 36) := by
      rw [Below.heap_alloc _ _ _ (by simp)]; simpa using q2
    have z3 : ((((w.alloc (.cells #[.slice (some ⟨b, off, none⟩) 1 cap] 32)).alloc (.cells #[.int .i64 (0 : Nat)] 3)).alloc (.cells #[.pointer (some ⟨P, x, none⟩)] 36)).alloc (.cells #[.int .i64 8, .int .i64 n, .string s] 50)).heap[P]? = some (.cells arr 3) := by
      rw [Below.heap_alloc _ _ _ (by simp; omega), Below.heap_alloc _ _ _ (by simp; omega), Below.heap_alloc _ _ _ (by simp; omega), Below.heap_alloc _ _ _ hPz]; exact hP
    revert z0 z1 z2 z3
    generalize (((w.alloc (.cells #[.slice (some ⟨b, off, none⟩) 1 cap] 32)).alloc (.cells #[.int .i64 (0 : Nat)] 3)).alloc (.cells #[.pointer (some ⟨P, x, none⟩)] 36)).alloc (.cells #[.int .i64 8, .int .i64 n, .string s] 50) = V
    intro z0 z1 z2 z3
    have inV : ∀ f k o, V.heap[k]? = some o → (inW f V).heap[k]? = some o := fun f k o h => (inW_old _ _ _ (lt_of_block h)).trans h
    refine do_off_ok 29 _ V P _ (lt_of_block z3) (fun _ => by kernel_rfl) ((job29 _ _ _ _ _ 0 (by omega) _ (inV _ _ _ z0) (inV _ _ _ z1) (inV _ _ _ z2) (job_end _ 1 cap 1 _ (by omega) _)).mono ?_)
    rintro e w' ⟨rfl, hO⟩
    exact ⟨rfl, Off.of_below hO, _, (hO.block _ (lt_of_block (inV _ _ _ z3))).trans (inV _ _ _ z3), rfl⟩
  · refine good ?_ (job_plain b off 1 cap 0 P c _ _ _ (by omega) w hb h0' h1' h2' x arr hP hx hc0 hc1 (by omega))
    simp [tell, k2, k3, k4, k5, k6, k7]

end Go.Proofs.Ytdllgebccjmljaa
