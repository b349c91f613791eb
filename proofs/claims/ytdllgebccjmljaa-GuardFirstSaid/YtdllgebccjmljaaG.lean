/-
  Contract of the laws' own function run. Conditions: none.
-/
import Derived.Test.YtdllgebccjmljaaF
namespace Go.Proofs.Ytdllgebccjmljaa
open Go.RowKit

section
variable (b off len cap at' P : Nat) (c kd n : Int) (s : ByteArray) (hi : at' < len) (w : World) (hb : b < w.heap.size)
    (h0 : w.cell? ⟨b, off + at' * 3, none⟩ = some (.int .i64 kd)) (h1 : w.cell? ⟨b, off + at' * 3 + 1, none⟩ = some (.int .i64 n)) (h2 : w.cell? ⟨b, off + at' * 3 + 2, none⟩ = some (.string s))
    (hP : w.heap[P]? = some (.cells #[.int .i64 c] 3))
include hi hb h0 h1 h2 hP

theorem run_must0 (hc0 : 0 ≤ c) (hc1 : c ≤ 1000) (hk : kd = 2) (hn : n = 0) : Calls Try.prog 16 #[.slice (some ⟨b, off, none⟩) len cap, .int .i64 at', .pointer (some ⟨P, 0, none⟩)] w (RunGood P c 1 1 w) := by
  subst hk; subst hn
  obtain ⟨p1, p2⟩ := cell_of_block1 hP
  obtain ⟨p3, p4, p5, p6⟩ := lts (lt_of_block hP)
  obtain ⟨-, b4, b5, b6⟩ := lts hb
  go_enter Try.func16, Try.ntmps16
  go_wp2_with fail
  refine (must_no _).mono ?_
  rintro e w' ⟨rfl, rfl⟩
  go_wp2
  refine bodyPost_end (results_none rfl _ _ _) rfl ⟨rfl, (((((Off.refl P 1 w).setCell (p := ⟨P, 0, none⟩) (Nat.le_refl _) (by simp) _).alloc _).alloc _).alloc _).alloc _, .cells #[.int .i64 (c + 1)] 3, ?_, 1, Nat.le_refl _, Nat.le_refl _, rfl⟩
  have hz : P < (w.setCell ⟨P, 0, none⟩ (.int .i64 (c + 1))).heap.size := by simpa [World.setCell] using p3
  rw [Below.heap_alloc _ _ _ (by simp; omega), Below.heap_alloc _ _ _ (by simp; omega), Below.heap_alloc _ _ _ (by simp; omega), Below.heap_alloc _ _ _ hz, heap_setCell_same hP]; rfl

theorem run_must (hk : kd = 2) (hn : (n != 0) = true) : Calls Try.prog 16 #[.slice (some ⟨b, off, none⟩) len cap, .int .i64 at', .pointer (some ⟨P, 0, none⟩)] w (RunBad P c n 2 ⟨#[]⟩ w) := by
  subst hk
  obtain ⟨p1, p2⟩ := cell_of_block1 hP
  obtain ⟨p3, p4, p5, p6⟩ := lts (lt_of_block hP)
  obtain ⟨-, b4, b5, b6⟩ := lts hb
  have hB := fun (x : World) (h : Below w.heap.size w x) => RunBad.of_below (c := c) (fe := n) (fk := 2) (fs := ⟨#[]⟩) hP h
  go_enter Try.func16, Try.ntmps16
  go_wp2_with fail
  refine (must_yes n hn _).mono ?_
  rintro e w' ⟨rfl, rfl⟩
  go_wp2
  refine ⟨rfl, hB _ ?_ _ ⟨_, _, rfl, told_num n hn⟩⟩
  repeat' (first | exact Below.refl _ _ | (refine Below.alloc ?_ (by simp <;> omega) _))

theorem run_fail (hk : kd = 3) : Calls Try.prog 16 #[.slice (some ⟨b, off, none⟩) len cap, .int .i64 at', .pointer (some ⟨P, 0, none⟩)] w (RunBad P c 21 3 s w) := by
  subst hk
  obtain ⟨p1, p2⟩ := cell_of_block1 hP
  obtain ⟨p3, p4, p5, p6⟩ := lts (lt_of_block hP)
  obtain ⟨-, b4, b5, b6⟩ := lts hb
  have hB := fun (x : World) (h : Below w.heap.size w x) => RunBad.of_below (c := c) (fe := 21) (fk := 3) (fs := s) hP h
  go_enter Try.func16, Try.ntmps16
  go_wp2_with fail
  refine (fail_any s _).mono ?_
  rintro e w' ⟨rfl, rfl⟩
  go_wp2
  refine ⟨rfl, hB _ ?_ _ ⟨_, _, rfl, told_text s⟩⟩
  repeat' (first | exact Below.refl _ _ | (refine Below.alloc ?_ (by simp <;> omega) _))

/-- A job that runs the next one within itself: whatever that one comes to, it goes on. -/
theorem runNested (hc0 : 0 ≤ c) (hc1 : c + len ≤ 1000) (hk : kd = 8) (m : Nat) (hm : m ≤ len)
    (hin : ∃ fe fk fs, Calls Try.prog 14 #[.func (.func 29) #[] #[.pointer (some ⟨w.heap.size, 0, none⟩), .pointer (some ⟨w.heap.size + 1, 0, none⟩), .pointer (some ⟨w.heap.size + 1 + 1, 0, none⟩)]] 
      ((((w.alloc (.cells #[.slice (some ⟨b, off, none⟩) len cap] 32)).alloc (.cells #[.int .i64 at'] 3)).alloc (.cells #[.pointer (some ⟨P, 0, none⟩)] 36)).alloc (.cells #[.int .i64 8, .int .i64 n, .string s] 50))
      fun e w' => e = .returned (fault fe fk fs) ∧ Off P 1 ((((w.alloc (.cells #[.slice (some ⟨b, off, none⟩) len cap] 32)).alloc (.cells #[.int .i64 at'] 3)).alloc (.cells #[.pointer (some ⟨P, 0, none⟩)] 36)).alloc (.cells #[.int .i64 8, .int .i64 n, .string s] 50)) w' ∧
        ∃ o, w'.heap[P]? = some o ∧ ∃ q : Nat, q ≤ m ∧ o = .cells #[.int .i64 (c + q)] 3) :
    Calls Try.prog 16 #[.slice (some ⟨b, off, none⟩) len cap, .int .i64 at', .pointer (some ⟨P, 0, none⟩)] w (RunGood P c 1 (m + 1) w) := by
  subst hk
  obtain ⟨p1, p2⟩ := cell_of_block1 hP
  obtain ⟨p3, p4, p5, p6⟩ := lts (lt_of_block hP)
  obtain ⟨-, b4, b5, b6⟩ := lts hb
  have hmf : ∀ (fn : Fn) (first cap : Array Value) (w : World), (Instr.makeFunc fn first cap).run Try.prog w = .ok (.func fn first cap) w := fun _ _ _ _ => rfl
  obtain ⟨fe, fk, fs, HI⟩ := hin
  have HI := Lib.hid HI
  go_enter Try.func16, Try.ntmps16
  go_wp2_with fail
  refine HI.out.mono ?_
  rintro e w1 ⟨rfl, O, o, ho, q, hq, rfl⟩
  have hpt : w1.heap[w.heap.size + 1 + 1]? = some (.cells #[.pointer (some ⟨P, 0, none⟩)] 36) := O.same (by
    rw [Below.heap_alloc _ _ _ (by simp)]
    have := new_block ((w.alloc (.cells #[.slice (some ⟨b, off, none⟩) len cap] 32)).alloc (.cells #[.int .i64 at'] 3)) (.cells #[.pointer (some ⟨P, 0, none⟩)] 36)
    simpa using this) (Or.inr (by omega))
  have O1 : Off P 1 w w1 := ((((Off.refl P 1 w).alloc _).alloc _).alloc _).alloc _ |>.trans O
  clear O HI p1 p2
  obtain ⟨g1, g2⟩ := cell_of_block1 hpt
  obtain ⟨p1, p2⟩ := cell_of_block1 ho
  unfold fault
  have hz := lt_of_block hpt
  go_wp2
  refine bodyPost_end (results_none rfl _ _ _) rfl ⟨rfl, O1.setCell (p := ⟨P, 0, none⟩) (Nat.le_refl _) (by simp) _, .cells #[.int .i64 (c + q + 1)] 3, ?_, q + 1, by omega, by omega, ?_⟩
  · rw [heap_setCell_same ho]; rfl
  · have : c + ((q + 1 : Nat) : Int) = c + q + 1 := by omega
    rw [this]
end


/-- The jobs lie in memory. -/
structure JobsIn (w : World) (b off len : Nat) (Kd Nn : Nat → Int) (Ss : Nat → ByteArray) : Prop where
  bl : b < w.heap.size
  c0 : ∀ i, i < len → w.cell? ⟨b, off + i * 3, none⟩ = some (.int .i64 (Kd i))
  c1 : ∀ i, i < len → w.cell? ⟨b, off + i * 3 + 1, none⟩ = some (.int .i64 (Nn i))
  c2 : ∀ i, i < len → w.cell? ⟨b, off + i * 3 + 2, none⟩ = some (.string (Ss i))

theorem JobsIn.block {w w' : World} {b off len : Nat} {Kd Nn : Nat → Int} {Ss : Nat → ByteArray} (h : JobsIn w b off len Kd Nn Ss) (hs : w.heap.size ≤ w'.heap.size) (hb : w'.heap[b]? = w.heap[b]?) : JobsIn w' b off len Kd Nn Ss :=
  ⟨Nat.lt_of_lt_of_le h.bl hs, fun i hi => (World.cell?_of_block (w := w) hb).trans (h.c0 i hi), fun i hi => (World.cell?_of_block (w := w) hb).trans (h.c1 i hi), fun i hi => (World.cell?_of_block (w := w) hb).trans (h.c2 i hi)⟩

theorem run29_good (L A Q P : Nat) (v : Value) (at' : Nat) (hz : at' ≤ 1000) (c : Int) (lo hi : Nat) (w : World) (hL : w.heap[L]? = some (.cells #[v] 32)) (hA : w.heap[A]? = some (.cells #[.int .i64 at'] 3)) (hQ : w.heap[Q]? = some (.cells #[.pointer (some ⟨P, 0, none⟩)] 36))
    (h : Calls Try.prog 16 #[v, .int .i64 (at' + 1 : Nat), .pointer (some ⟨P, 0, none⟩)] w (RunGood P c lo hi w)) :
    Calls Try.prog 29 #[.pointer (some ⟨L, 0, none⟩), .pointer (some ⟨A, 0, none⟩), .pointer (some ⟨Q, 0, none⟩)] w (RunGood P c lo hi w) := by
  obtain ⟨g1, g2⟩ := cell_of_block1 hL
  obtain ⟨g3, g4⟩ := cell_of_block1 hA
  obtain ⟨g5, g6⟩ := cell_of_block1 hQ
  have H := Lib.hid h; clear h
  go_enter Try.func29, Try.ntmps29
  go_wp2_with fail
  refine H.out.mono ?_
  rintro e w' ⟨rfl, hO, ho⟩
  go_wp2
  go_end0
  exact ⟨rfl, hO, ho⟩

theorem run29_bad (L A Q P : Nat) (v : Value) (at' : Nat) (hz : at' ≤ 1000) (c fe fk : Int) (fs : ByteArray) (w : World) (hL : w.heap[L]? = some (.cells #[v] 32)) (hA : w.heap[A]? = some (.cells #[.int .i64 at'] 3)) (hQ : w.heap[Q]? = some (.cells #[.pointer (some ⟨P, 0, none⟩)] 36))
    (h : Calls Try.prog 16 #[v, .int .i64 (at' + 1 : Nat), .pointer (some ⟨P, 0, none⟩)] w (RunBad P c fe fk fs w)) :
    Calls Try.prog 29 #[.pointer (some ⟨L, 0, none⟩), .pointer (some ⟨A, 0, none⟩), .pointer (some ⟨Q, 0, none⟩)] w (RunBad P c fe fk fs w) := by
  obtain ⟨g1, g2⟩ := cell_of_block1 hL
  obtain ⟨g3, g4⟩ := cell_of_block1 hA
  obtain ⟨g5, g6⟩ := cell_of_block1 hQ
  have H := Lib.hid h; clear h
  go_enter Try.func29, Try.ntmps29
  go_wp2_with fail
  refine H.out.mono ?_
  rintro e w' ⟨⟨t, pv, rfl, ht⟩, hO, ho⟩
  go_wp2
  exact ⟨rfl, ⟨t, pv, rfl, ht⟩, hO, ho⟩

/-- What run comes to. -/
def RunSpec (len at' P : Nat) (c : Int) (Kd Nn : Nat → Int) (Ss : Nat → ByteArray) (w : World) (e : Ending) (w' : World) : Prop :=
  (tell (Kd at') (Nn at') (Ss at') = (0, 0, ⟨#[]⟩) ∧ RunGood P c 1 (len - at') w e w') ∨
  (tell (Kd at') (Nn at') (Ss at') ≠ (0, 0, ⟨#[]⟩) ∧ RunBad P c (tell (Kd at') (Nn at') (Ss at')).1 (tell (Kd at') (Nn at') (Ss at')).2.1 (tell (Kd at') (Nn at') (Ss at')).2.2 w e w')

theorem RunGood.wider {P : Nat} {c : Int} {lo hi hi' : Nat} {w : World} {e : Ending} {w' : World} (h : RunGood P c lo hi w e w') (hh : hi ≤ hi') : RunGood P c lo hi' w e w' := by
  obtain ⟨rfl, hO, o, ho, q, h1, h2, rfl⟩ := h
  exact ⟨rfl, hO, _, ho, q, h1, Nat.le_trans h2 hh, rfl⟩

/-- The world in which a job of kind 8 runs the next one. -/
def eightW (b off len cap at' P : Nat) (n : Int) (s : ByteArray) (w : World) : World :=
  (((w.alloc (.cells #[.slice (some ⟨b, off, none⟩) len cap] 32)).alloc (.cells #[.int .i64 at'] 3)).alloc (.cells #[.pointer (some ⟨P, 0, none⟩)] 36)).alloc (.cells #[.int .i64 8, .int .i64 n, .string s] 50)

theorem eightW_facts (b off len cap at' P : Nat) (n : Int) (s : ByteArray) (w : World) : (eightW b off len cap at' P n s w).heap.size = w.heap.size + 4 ∧ (∀ k, k < w.heap.size → (eightW b off len cap at' P n s w).heap[k]? = w.heap[k]?) ∧
    (eightW b off len cap at' P n s w).heap[w.heap.size]? = some (.cells #[.slice (some ⟨b, off, none⟩) len cap] 32) ∧ (eightW b off len cap at' P n s w).heap[w.heap.size + 1]? = some (.cells #[.int .i64 at'] 3) ∧
    (eightW b off len cap at' P n s w).heap[w.heap.size + 1 + 1]? = some (.cells #[.pointer (some ⟨P, 0, none⟩)] 36) := by
  refine ⟨by simp [eightW], fun k hk => ?_, ?_, ?_, ?_⟩
  all_goals
    show ((((w.heap.push _).push _).push _).push _)[_]? = _
    simp only [Array.getElem?_push, Array.size_push]
  · rw [if_neg (by omega), if_neg (by omega), if_neg (by omega), if_neg (by omega)]
  · rw [if_neg (by omega), if_neg (by omega), if_neg (by omega), if_pos trivial]
  · rw [if_neg (by omega), if_neg (by omega), if_pos trivial]
  · rw [if_neg (by omega), if_pos trivial]

theorem run_any (b off len cap P : Nat) (Kd Nn : Nat → Int) (Ss : Nat → ByteArray) (hlen : len ≤ 40) : ∀ d at', len - at' = d → at' < len → ∀ (c : Int) (w : World), 0 ≤ c → c + len ≤ 1000 → JobsIn w b off len Kd Nn Ss → w.heap[P]? = some (.cells #[.int .i64 c] 3) →
    Calls Try.prog 16 #[.slice (some ⟨b, off, none⟩) len cap, .int .i64 at', .pointer (some ⟨P, 0, none⟩)] w (RunSpec len at' P c Kd Nn Ss w) := by
  intro d
  induction d with
  | zero => intro at' h1 h2; omega
  | succ d ih =>
    intro at' hd hi c w hc0 hc1 hJ hP
    have h0 := hJ.c0 at' hi
    have h1 := hJ.c1 at' hi
    have h2 := hJ.c2 at' hi
    have good : tell (Kd at') (Nn at') (Ss at') = (0, 0, ⟨#[]⟩) → ∀ hi', hi' ≤ len - at' → Calls Try.prog 16 #[.slice (some ⟨b, off, none⟩) len cap, .int .i64 at', .pointer (some ⟨P, 0, none⟩)] w (RunGood P c 1 hi' w) →
        Calls Try.prog 16 #[.slice (some ⟨b, off, none⟩) len cap, .int .i64 at', .pointer (some ⟨P, 0, none⟩)] w (RunSpec len at' P c Kd Nn Ss w) := fun ht hi' hh hc => hc.mono fun e w' hg => Or.inl ⟨ht, hg.wider hh⟩
    have bad : ∀ fe fk fs, tell (Kd at') (Nn at') (Ss at') = (fe, fk, fs) → fk ≠ 0 → Calls Try.prog 16 #[.slice (some ⟨b, off, none⟩) len cap, .int .i64 at', .pointer (some ⟨P, 0, none⟩)] w (RunBad P c fe fk fs w) →
        Calls Try.prog 16 #[.slice (some ⟨b, off, none⟩) len cap, .int .i64 at', .pointer (some ⟨P, 0, none⟩)] w (RunSpec len at' P c Kd Nn Ss w) := fun fe fk fs ht hk hc => hc.mono fun e w' hg => Or.inr ⟨by rw [ht]; simp; intro _ h; exact absurd h hk, by rw [ht]; exact hg⟩
    by_cases k2 : Kd at' = 2
    · by_cases hn : Nn at' = 0
      · exact good (by simp [tell, k2, hn]) 1 (by omega) (run_must0 b off len cap at' P c _ _ _ hi w hJ.bl h0 h1 h2 hP hc0 (by omega) k2 hn)
      · exact bad (Nn at') 2 ⟨#[]⟩ (by simp [tell, k2, hn]) (by decide) (run_must b off len cap at' P c _ _ _ hi w hJ.bl h0 h1 h2 hP k2 (by simpa using hn))
    by_cases k3 : Kd at' = 3
    · exact bad 21 3 (Ss at') (by simp [tell, k3]) (by decide) (run_fail b off len cap at' P c _ _ _ hi w hJ.bl h0 h1 h2 hP k3)
    by_cases k4 : Kd at' = 4
    · exact bad 21 1 ⟨#[]⟩ (by simp [tell, k4]) (by decide) (run_index b off len cap at' P c _ _ _ hi w hJ.bl h0 h1 h2 hP k4)
    by_cases k5 : Kd at' = 5
    · exact bad 21 1 ⟨#[]⟩ (by simp [tell, k5]) (by decide) (run_div b off len cap at' P c _ _ _ hi w hJ.bl h0 h1 h2 hP k5)
    by_cases k6 : Kd at' = 6
    · exact bad 21 1 ⟨#[]⟩ (by simp [tell, k6]) (by decide) (run_text b off len cap at' P c _ _ _ hi w hJ.bl h0 h1 h2 hP k6)
    by_cases k7 : Kd at' = 7
    · exact bad 21 1 ⟨#[]⟩ (by simp [tell, k7]) (by decide) (run_map b off len cap at' P c _ _ _ hi w hJ.bl h0 h1 h2 hP k7)
    by_cases k8 : Kd at' = 8
    · refine good (by simp [tell, k8]) (len - (at' + 1) + 1) (by omega) (runNested b off len cap at' P c _ _ _ hi w hJ.bl h0 h1 h2 hP hc0 hc1 k8 (len - (at' + 1)) (by omega) ?_)
      obtain ⟨z, zo, z0, z1, z2⟩ := eightW_facts b off len cap at' P (Nn at') (Ss at') w
      have hPz := lt_of_block hP
      show ∃ fe fk fs, Calls Try.prog 14 _ (eightW b off len cap at' P (Nn at') (Ss at') w) fun e w' => _ ∧ Off P 1 (eightW b off len cap at' P (Nn at') (Ss at') w) w' ∧ _
      generalize eightW b off len cap at' P (Nn at') (Ss at') w = V at z zo z0 z1 z2
      have inV : ∀ f k o, V.heap[k]? = some o → (inW f V).heap[k]? = some o := fun f k o h => (inW_old _ _ _ (lt_of_block h)).trans h
      have hPV : V.heap[P]? = some (.cells #[.int .i64 c] 3) := (zo P hPz).trans hP
      have hJV : ∀ f, JobsIn (inW f V) b off len Kd Nn Ss := fun f => hJ.block (by rw [inW_size]; omega) ((inW_old _ _ _ (by have := hJ.bl; omega)).trans (zo _ hJ.bl))
      by_cases hlast : at' + 1 < len
      · have hI := ih (at' + 1) (by omega) hlast c (inW (.func (.func 29) #[] #[.pointer (some ⟨w.heap.size, 0, none⟩), .pointer (some ⟨w.heap.size + 1, 0, none⟩), .pointer (some ⟨w.heap.size + 1 + 1, 0, none⟩)]) V) hc0 hc1 (hJV _) (inV _ _ _ hPV)
        by_cases ht : tell (Kd (at' + 1)) (Nn (at' + 1)) (Ss (at' + 1)) = (0, 0, ⟨#[]⟩)
        · refine ⟨0, 0, ⟨#[]⟩, (do_off_ok 29 _ V P (fun o => ∃ q : Nat, q ≤ len - (at' + 1) ∧ o = .cells #[.int .i64 (c + q)] 3) (lt_of_block hPV) (fun _ => by kernel_rfl) ?_)⟩
          refine (run29_good _ _ _ P _ at' (by omega) c 1 (len - (at' + 1)) _ (inV _ _ _ z0) (inV _ _ _ z1) (inV _ _ _ z2) (hI.mono fun e w' hg => ?_)).mono ?_
          · rcases hg with ⟨_, hg⟩ | ⟨hg, _⟩
            · exact hg
            · exact absurd ht hg
          · rintro e w' ⟨rfl, hO, o, ho, q, h1, h2, rfl⟩
            exact ⟨rfl, hO, _, ho, q, h2, rfl⟩
        · refine ⟨(tell (Kd (at' + 1)) (Nn (at' + 1)) (Ss (at' + 1))).1, (tell (Kd (at' + 1)) (Nn (at' + 1)) (Ss (at' + 1))).2.1, (tell (Kd (at' + 1)) (Nn (at' + 1)) (Ss (at' + 1))).2.2, (do_off_bad 29 _ V P (fun o => ∃ q : Nat, q ≤ len - (at' + 1) ∧ o = .cells #[.int .i64 (c + q)] 3) _ _ _ (lt_of_block hPV) (fun _ => by kernel_rfl) ?_)⟩
          refine (run29_bad _ _ _ P _ at' (by omega) c (tell (Kd (at' + 1)) (Nn (at' + 1)) (Ss (at' + 1))).1 (tell (Kd (at' + 1)) (Nn (at' + 1)) (Ss (at' + 1))).2.1 (tell (Kd (at' + 1)) (Nn (at' + 1)) (Ss (at' + 1))).2.2 _ (inV _ _ _ z0) (inV _ _ _ z1) (inV _ _ _ z2) (hI.mono fun e w' hg => ?_)).mono ?_
          · rcases hg with ⟨hg, _⟩ | ⟨_, hg⟩
            · exact absurd hg ht
            · exact hg
          · rintro e w' ⟨h, hO, o, ho, rfl⟩
            exact ⟨h, hO, _, ho, 0, by omega, by simp⟩
      · refine ⟨0, 0, ⟨#[]⟩, (do_off_ok 29 _ V P (fun o => ∃ q : Nat, q ≤ len - (at' + 1) ∧ o = .cells #[.int .i64 (c + q)] 3) (lt_of_block hPV) (fun _ => by kernel_rfl) ?_)⟩
        refine (run29_good _ _ _ P _ at' (by omega) c 0 0 _ (inV _ _ _ z0) (inV _ _ _ z1) (inV _ _ _ z2) (run_end _ len cap (at' + 1) P c (by omega) _ (inV _ _ _ hPV))).mono ?_
        rintro e w' ⟨rfl, hO, o, ho, q, h1, h2, rfl⟩
        exact ⟨rfl, hO, _, ho, q, by omega, rfl⟩
    · refine good ?_ 1 (by omega) (run_plain b off len cap at' P c _ _ _ hi w hJ.bl h0 h1 h2 hP hc0 (by omega) (by omega))
      simp [tell, k2, k3, k4, k5, k6, k7]

end Go.Proofs.Ytdllgebccjmljaa
