/-
  GuardAgain. Conditions: none.
-/
import Derived.Test.YtdllgebccjmljaaC
import Derived.Test.YtdllgebccjmljaaK
import Derived.Deep.LoopGhost
import Derived.BigQuiet
namespace Go.Proofs.Ytdllgebccjmljaa
open Go.ChangeShapes Go.WideShapes Go.ChangeAt Go.RowKit

section
variable (b off N L I len cap n i : Nat) (w : World)
theorem again1_ok (hN : w.cell? ⟨N, 0, none⟩ = some (.int .i64 n)) (hNf : w.frozen? ⟨N, 0, none⟩ = false) (hL : w.cell? ⟨L, 0, none⟩ = some (.slice (some ⟨b, off, none⟩) len cap)) (hI : w.cell? ⟨I, 0, none⟩ = some (.int .i64 i))
    (hi : i < len) (hn : n ≤ 60) (hA : w.cell? ⟨b, off + i, none⟩ = some (.bool false)) (hNL : N ≠ L) (hNI : N ≠ I) (hNA : N ≠ b) :
    Calls Try.prog 11 #[.pointer (some ⟨N, 0, none⟩), .pointer (some ⟨L, 0, none⟩), .pointer (some ⟨I, 0, none⟩)] w fun e w' => e = .returned (.int .i64 (n + 1 : Nat)) ∧ w' = w.setCell ⟨N, 0, none⟩ (.int .i64 (n + 1 : Nat)) := by
  have h1 : L ≠ N := fun e => hNL e.symm
  have h2 : I ≠ N := fun e => hNI e.symm
  have h3 : b ≠ N := fun e => hNA e.symm
  go_enter Try.func11, Try.ntmps11
  go_wp2
  go_ret
  exact ⟨rfl, rfl⟩
theorem again1_bad (hN : w.cell? ⟨N, 0, none⟩ = some (.int .i64 n)) (hNf : w.frozen? ⟨N, 0, none⟩ = false) (hL : w.cell? ⟨L, 0, none⟩ = some (.slice (some ⟨b, off, none⟩) len cap)) (hI : w.cell? ⟨I, 0, none⟩ = some (.int .i64 i))
    (hi : i < len) (hn : n ≤ 60) (hA : w.cell? ⟨b, off + i, none⟩ = some (.bool true)) (hNL : N ≠ L) (hNI : N ≠ I) (hNA : N ≠ b) :
    Calls Try.prog 11 #[.pointer (some ⟨N, 0, none⟩), .pointer (some ⟨L, 0, none⟩), .pointer (some ⟨I, 0, none⟩)] w fun e w' => e = .panicked [{ v := .iface 24 (.int .i64 22), recovered := false }] ∧ w' = w.setCell ⟨N, 0, none⟩ (.int .i64 (n + 1 : Nat)) := by
  have h1 : L ≠ N := fun e => hNL e.symm
  have h2 : I ≠ N := fun e => hNI e.symm
  have h3 : b ≠ N := fun e => hNA e.symm
  go_enter Try.func11, Try.ntmps11
  go_wp2_with fail
  refine (must_yes 22 (by decide) _).mono ?_
  rintro e w' ⟨rfl, rfl⟩
  go_wp2
  exact ⟨rfl, rfl, rfl⟩
end

theorem again_long (ao : Option Addr) (len cap : Nat) (W : World) (hm : len ≤ maxLen) (hlen : 60 < len) :
    Calls Try.prog 3 #[.slice ao len cap] W fun e w' => e = .returned (.bool true) ∧ Below W.heap.size W w' := by
  unfold maxLen at hm
  go_enter Try.func3, Try.ntmps3
  go_wp2_with fail
  refine (alive_any _).mono ?_
  rintro e w1 ⟨rfl, hb⟩
  go_wp2
  go_ret
  exact ⟨rfl, (Below.alloc1 W _).trans (hb.mono (by simp))⟩

theorem lt_of_block {w : World} {b : Nat} {o : Obj} (h : w.heap[b]? = some o) : b < w.heap.size := (Array.getElem?_eq_some_iff.1 h).1
theorem tryW_cell (w : World) (a : Addr) (h : a.block < w.heap.size) : (tryW w).cell? a = w.cell? a ∧ (tryW w).frozen? a = w.frozen? a :=
  ⟨World.cell?_of_block (w := w) (tryW_old w a.block h), World.frozen?_of_block (w := w) (tryW_old w a.block h)⟩

/-- What holds at the head of the loop's round. -/
structure AgainAt (W : World) (ao : Option Addr) (len cap L N I k : Nat) (w : World) : Prop where
  le : k ≤ len
  bl : w.heap[L]? = some (.cells #[.slice ao len cap] 22)
  bn : w.heap[N]? = some (.cells #[.int .i64 k] 3)
  bi : w.heap[I]? = some (.cells #[.int .i64 k] 3)
  ln : L < N
  ni : N < I
  wl : W.heap.size ≤ L
  below : Below W.heap.size W w

/-- .. behind Try's call, ahead of the counter's step. -/
structure AgainMid (W : World) (ao : Option Addr) (len cap L N I k : Nat) (w : World) : Prop where
  bl : w.heap[L]? = some (.cells #[.slice ao len cap] 22)
  bn : w.heap[N]? = some (.cells #[.int .i64 (k + 1 : Nat)] 3)
  bi : w.heap[I]? = some (.cells #[.int .i64 k] 3)
  below : Below W.heap.size W w

theorem again_next {W wr w2 : World} {ao : Option Addr} {len cap L N I k : Nat} (hr : AgainAt W ao len cap L N I k wr) 
    (O : Off wr.heap.size 3 ((tryW wr).setCell ⟨N, 0, none⟩ (.int .i64 (k + 1 : Nat))) w2) :
    AgainMid W ao len cap L N I k w2 ∧ wr.heap.size + 3 ≤ w2.heap.size ∧ ∀ x : Addr, x.block < W.heap.size → w2.cell? x = wr.cell? x := by
  have hs : ((tryW wr).setCell ⟨N, 0, none⟩ (.int .i64 (k + 1 : Nat))).heap.size = wr.heap.size + 3 := by simp [World.setCell, tryW_size]
  have hIz := lt_of_block hr.bi
  have hln := hr.ln
  have hni := hr.ni
  have hwl := hr.wl
  have hL : ∀ j, j < wr.heap.size → j ≠ N → w2.heap[j]? = wr.heap[j]? := fun j h1 h2 => by
    rw [O.block j (by omega) (by omega), Below.heap_setCell _ _ _ _ (by exact h2), tryW_old _ _ h1]
  refine ⟨⟨?_, ?_, ?_, ?_⟩, ?_, ?_⟩
  · rw [hL L (by omega) (by omega)]; exact hr.bl
  · rw [O.block N (by omega) (by omega), heap_setCell_same (by rw [tryW_old _ _ (by omega)]; exact hr.bn)]; rfl
  · rw [hL I (by omega) (by omega)]; exact hr.bi
  · have hb := hr.below.size
    have T : Below wr.heap.size wr (tryW wr) := ⟨rfl, rfl, rfl, by rw [tryW_size]; omega, fun j hj => tryW_old _ _ hj⟩
    exact (hr.below.trans ((T.mono hb).setCell (by show W.heap.size ≤ N; omega) _)).trans ((O.below (by omega)).mono hb)
  · have := O.size; omega
  · intro x hx
    exact World.cell?_of_block (w := wr) (hL x.block (by have := hr.below.size; omega) (by omega))

theorem again_rel {W w : World} {ao : Option Addr} {len cap L N I k : Nat} (h : AgainMid W ao len cap L N I k w ∧ L < w.heap.size ∧ N < w.heap.size ∧ I < w.heap.size ∧ L < N ∧ N < I ∧ k < len) (o : Obj) (hL : W.heap.size ≤ L := by exact Nat.le_refl _) :
    AgainAt W ao len cap L N (w.heap.size + 1) (k + 1) ((w.alloc o).alloc (.cells #[.int .i64 ((k : Int) + 1)] 3)) := by
  obtain ⟨q, h1, h2, h3, h4, h5, h6⟩ := h
  have hb := q.below.size
  refine ⟨h6, ?_, ?_, ?_, h4, by omega, hL, (q.below.alloc (by omega) _).alloc (by simp; omega) _⟩
  · show ((w.heap.push _).push _)[_]? = _
    simp only [Array.getElem?_push, Array.size_push]
    rw [if_neg (by omega), if_neg (by omega)]; exact q.bl
  · show ((w.heap.push _).push _)[_]? = _
    simp only [Array.getElem?_push, Array.size_push]
    rw [if_neg (by omega), if_neg (by omega)]; exact q.bn
  · show ((w.heap.push _).push _)[_]? = _
    simp only [Array.getElem?_push, Array.size_push]
    rw [if_pos trivial]; rfl

set_option maxHeartbeats 400000 in
theorem again_walk (ao : Option Addr) (len cap : Nat) (Bs : Nat → Bool) (W : World) (hlen : len ≤ 60)
    (hcell : ∀ i, i < len → ∃ b off, ao = some ⟨b, off, none⟩ ∧ b < W.heap.size ∧ W.cell? ⟨b, off + i, none⟩ = some (.bool (Bs i))) :
    Calls Try.prog 3 #[.slice ao len cap] W fun e w' => e = .returned (.bool true) ∧ Below W.heap.size W w' := by
  have hmf : ∀ (fn : Fn) (first cap : Array Value) (w : World), (Instr.makeFunc fn first cap).run Try.prog w = .ok (.func fn first cap) w := fun _ _ _ _ => rfl
  have heq := eqlFault
  have hd : decide ((60 : Int) < (len : Int)) = false := by simp; omega
  have HC := Lib.hid hcell; clear hcell
  go_enter Try.func3, Try.ntmps3
  go_wp2_with fail
  refine (alive_any _).mono ?_
  rintro e w1 ⟨rfl, hb⟩
  have hbl : w1.heap[W.heap.size]? = some (.cells #[.slice ao len cap] 22) := by rw [hb.block _ (by simp)]; exact new_block _ _
  have hz : W.heap.size < w1.heap.size := by have := hb.size; simp at this; omega
  have hb1 : Below W.heap.size W w1 := (Below.alloc1 W _).trans (hb.mono (by simp))
  clear hb
  obtain ⟨f1, f2⟩ := cell_of_block1 hbl
  go_wp2_with fail
  go_loopg [4] len (fun g i4 wr => ∃ k I : Nat, g = len - k ∧ i4 = .pointer (some ⟨I, 0, none⟩) ∧ AgainAt W ao len cap W.heap.size w1.heap.size I k wr)
  case atStart =>
    refine ⟨0, w1.heap.size + 1, by omega, rfl, Nat.zero_le _, ?_, ?_, ?_, hz, by omega, Nat.le_refl _, ?_⟩
    · show ((w1.heap.push _).push _)[_]? = _
      simp only [Array.getElem?_push, Array.size_push]
      rw [if_neg (by omega), if_neg (by omega)]; exact hbl
    · show ((w1.heap.push _).push _)[_]? = _
      simp only [Array.getElem?_push, Array.size_push]
      rw [if_neg (by omega), if_pos trivial]; rfl
    · show ((w1.heap.push _).push _)[_]? = _
      simp only [Array.getElem?_push, Array.size_push]
      rw [if_pos trivial]; rfl
    · exact (hb1.alloc (by omega) _).alloc (by simp; omega) _
  case round =>
    obtain ⟨k, I, hg, rfl, hr⟩ := hrel
    clear f1 f2
    have HG := Lib.hid hg; clear hg
    obtain ⟨f1, f2⟩ := cell_of_block1 hr.bl
    obtain ⟨f3, f4⟩ := cell_of_block1 hr.bn
    obtain ⟨f5, f6⟩ := cell_of_block1 hr.bi
    have hle := hr.le
    have hln := hr.ln
    have hni := hr.ni
    have hIz : I < wr.heap.size := lt_of_block hr.bi
    by_cases hk : k < len
    · obtain ⟨b, off, rfl, hbz, hA⟩ := HC.out k hk
      have hAr : wr.cell? ⟨b, off + k, none⟩ = some (.bool (Bs k)) := by rw [hr.below.cell (by exact hbz)]; exact hA
      have g1 := (tryW_cell wr ⟨w1.heap.size, 0, none⟩ (by show w1.heap.size < _; omega)).1.trans f3
      have g2 := (tryW_cell wr ⟨w1.heap.size, 0, none⟩ (by show w1.heap.size < _; omega)).2.trans f4
      have g3 := (tryW_cell wr ⟨W.heap.size, 0, none⟩ (by show W.heap.size < _; omega)).1.trans f1
      have g4 := (tryW_cell wr ⟨I, 0, none⟩ (by show I < _; omega)).1.trans f5
      have g5 := (tryW_cell wr ⟨b, off + k, none⟩ (by show b < _; omega)).1.trans hAr
      clear hA HC
      cases hB : Bs k
      · rw [hB] at g5 hAr
        go_wp2_with fail
        refine (try_ok 11 _ wr (k + 1 : Nat) (fun w' => w' = (tryW wr).setCell ⟨w1.heap.size, 0, none⟩ (.int .i64 (k + 1 : Nat))) (fun _ => by kernel_rfl) ((again1_ok b off w1.heap.size W.heap.size I len cap k k (tryW wr) g1 g2 g3 g4 hk (by omega) g5 (by omega) (by omega) (by omega)).mono ?_)).mono ?_
        · rintro e w' ⟨rfl, rfl⟩
          exact ⟨rfl, Keeps.three ((Keeps.refl _ _).setLow (by show w1.heap.size < _; omega) _), rfl⟩
        rintro e w2 ⟨rfl, w', rfl, O⟩
        obtain ⟨q1, q2, q3⟩ := again_next hr O
        clear g1 g2 g3 g4 g5 f1 f2 f3 f4 f5 f6 O hr
        obtain ⟨f1, f2⟩ := cell_of_block1 q1.bl
        obtain ⟨f3, f4⟩ := cell_of_block1 q1.bn
        obtain ⟨f5, f6⟩ := cell_of_block1 q1.bi
        have hAr2 := (q3 ⟨b, off + k, none⟩ (by exact hbz)).trans hAr
        have z1 : I < w2.heap.size := by omega
        have z2 : W.heap.size < w2.heap.size := by omega
        have z3 : w1.heap.size < w2.heap.size := by omega
        have z4 : b < w2.heap.size := by omega
        have hb2 := q1.below
        have Q := Lib.hid (And.intro q1 (And.intro z2 (And.intro z3 (And.intro z1 (And.intro hln (And.intro hni hk))))))
        clear q1 q2 q3 hAr hbl hb1
        unfold fault
        go_wp2_with fail
        go_roundg (len - (k + 1))
        case measure => rw [HG.out]; omega
        case rel =>
          exact ⟨k + 1, w2.heap.size + 1, rfl, rfl, again_rel Q.out _⟩
      · rw [hB] at g5 hAr
        go_wp2_with fail
        refine (try_bad 11 _ wr 24 (.int .i64 22) 22 2 ⟨#[]⟩ (fun w' => w' = (tryW wr).setCell ⟨w1.heap.size, 0, none⟩ (.int .i64 (k + 1 : Nat))) (fun _ => by kernel_rfl) (fun w => told_num 22 (by decide) w) ((again1_bad b off w1.heap.size W.heap.size I len cap k k (tryW wr) g1 g2 g3 g4 hk (by omega) g5 (by omega) (by omega) (by omega)).mono ?_)).mono ?_
        · rintro e w' ⟨rfl, rfl⟩
          exact ⟨rfl, Keeps.three ((Keeps.refl _ _).setLow (by show w1.heap.size < _; omega) _), rfl⟩
        rintro e w2 ⟨rfl, w', rfl, O⟩
        obtain ⟨q1, q2, q3⟩ := again_next hr O
        clear g1 g2 g3 g4 g5 f1 f2 f3 f4 f5 f6 O hr
        obtain ⟨f1, f2⟩ := cell_of_block1 q1.bl
        obtain ⟨f3, f4⟩ := cell_of_block1 q1.bn
        obtain ⟨f5, f6⟩ := cell_of_block1 q1.bi
        have hAr2 := (q3 ⟨b, off + k, none⟩ (by exact hbz)).trans hAr
        have z1 : I < w2.heap.size := by omega
        have z2 : W.heap.size < w2.heap.size := by omega
        have z3 : w1.heap.size < w2.heap.size := by omega
        have z4 : b < w2.heap.size := by omega
        have hb2 := q1.below
        have Q := Lib.hid (And.intro q1 (And.intro z2 (And.intro z3 (And.intro z1 (And.intro hln (And.intro hni hk))))))
        clear q1 q2 q3 hAr hbl hb1
        unfold fault
        go_wp2_with fail
        go_roundg (len - (k + 1))
        case measure => rw [HG.out]; omega
        case rel =>
          exact ⟨k + 1, w2.heap.size + 1, rfl, rfl, again_rel Q.out _⟩
    · go_wp2
      go_ret
      have hkl : k = len := by omega
      exact ⟨by rw [hkl]; simp, hr.below⟩

theorem block_of_cell {w : World} {b o : Nat} {v : Value} (h : w.cell? ⟨b, o, none⟩ = some v) : b < w.heap.size := by
  by_cases hb : b < w.heap.size
  · exact hb
  · have : w.heap[b]? = none := by simp; omega
    simp [World.cell?, this] at h

theorem slice_at {w : World} {a : Addr} {n : Nat} {V : Nat → Value} (h : ∀ i, i < n → w.cell? (a.add i) = some (V i)) (hn : 0 < n) :
    ∃ b off, a = ⟨b, off, none⟩ ∧ ∀ i, i < n → w.cell? ⟨b, off + i, none⟩ = some (V i) := by
  obtain ⟨b, off, sp⟩ := a
  have h0 := h 0 hn
  cases sp with
  | some sp => 
    simp only [Addr.add, if_true] at h0
    unfold World.cell? at h0
    split at h0 <;> simp at h0
  | none =>
    refine ⟨b, off, rfl, fun i hi => ?_⟩
    have := h i hi
    by_cases hi0 : i = 0
    · subst hi0; exact h0
    · simpa [Addr.add, hi0] using this

set_option maxRecDepth 100000 in
theorem again_lifted (os : Os) (started : os.Started) (H : Type) (enc : TypeId × Value → H) :
    ReturnsInHanded {} Try.checked os 3 .any (Rows.guardAgainSpec.pre6 enc Try.prog Try.f3 Rows.guardAgainRow.domain false) (Rows.guardAgainSpec.post enc Try.prog Try.f3 false true false false) := by
  refine returnsInHanded_of_change (C := Try.checked) own started (by kernel_rfl) Try.func3
    (ChangeSpec.witness6 (enc := enc) (C := Try.checked) false ⟨#[], #[.slice none 0 0], []⟩ 8 (by kernel_rfl) (by kernel_rfl) (by kernel_rfl) (by kernel_rfl)) ?_
  intro W base args ds gs before hval0 hW hcnd _
  have hval : ∀ (j : Nat) t v, Try.f3.params[j]? = some t → args[j]? = some v → Value.okWide Try.prog W .any base t v := hval0
  have hW' := hW
  obtain ⟨p, q, hA0, hV, rfl, hfz, hnd⟩ := hW
  have hA : DataW.TrodAll enc Try.prog W 0 (fun _ => true) true Try.f3.params.toList args.toList ds p := hA0
  rw [Try.params3] at hA hval
  obtain ⟨v0, d0, rfl, rfl, h0⟩ := trodAll_one hA
  obtain ⟨rfl, rfl⟩ := trodVars_none hV
  have hlt : ∀ x ∈ p, x.block < W.heap.size := fun x hx => by simpa using hW'.lt x (by simp [hx])
  obtain ⟨a0, len, cap, rfl⟩ := okWide_slice Try.underlying22 (hval 0 22 v0 rfl rfl)
  obtain ⟨fuel, hf⟩ := h0
  refine Calls.mono (R := fun e w' => e = .returned (.bool true) ∧ Below W.heap.size W w') ?_ fun e W' ⟨he, hb⟩ => ?_
  · rcases Go.Deep.open_bools Try.underlying22 Try.underlying4 (by kernel_rfl) hf with ⟨hcs, hx⟩ | ⟨a, len', cap', Bs, hcs, _, hl, hm, hx, hc⟩
    · simp only [Value.cells, List.cons.injEq, and_true] at hcs
      rw [hcs]
      exact again_walk none 0 0 (fun _ => false) W (by omega) (fun i hi => by omega)
    · simp only [Value.cells, List.cons.injEq, and_true] at hcs
      rw [hcs]
      by_cases h60 : 60 < len'
      · exact again_long _ _ _ W (Nat.le_trans hl hm) h60
      · refine again_walk (some a) len' cap' Bs W (by omega) (fun i hi => ?_)
        obtain ⟨b, off, rfl, h1⟩ := slice_at hc (by omega)
        exact ⟨b, off, rfl, block_of_cell (h1 i (by omega)), h1 i (by omega)⟩
  subst he
  exact ⟨_, rfl, law_post (T := 4) laidOut (by kernel_rfl) rfl Try.underlying4 rfl hW' hb rfl rfl rfl⟩

theorem again_holds : Rows.GuardAgainSaid :=
  OpenClaim.holds_of_wide 3 Try.f3 rfl rfl rfl rfl rfl rfl rfl ⟨rfl, rfl, rfl, rfl, rfl⟩ rfl rfl rfl rfl rfl (by kernel_rfl) Try.func3 (by kernel_rfl)
    (of_decide_eq_true (by kernel_rfl)) (by unfold Func.isWrapper; first | (rw [if_pos (by decide +kernel)]; kernel_rfl) | (rw [if_neg (by decide +kernel)]; exact ⟨rfl, rfl⟩))
    (fun os started H enc _ => again_lifted os started H enc)
#print axioms again_holds

end Go.Proofs.Ytdllgebccjmljaa
