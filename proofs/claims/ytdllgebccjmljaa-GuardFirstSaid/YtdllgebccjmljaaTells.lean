/-
  GuardTells holds: no panic leaves, the fault is told; what came to its end is done. Conditions: none.
-/
import Derived.Test.YtdllgebccjmljaaG
import Derived.Test.YtdllgebccjmljaaQ
namespace Go.Proofs.Ytdllgebccjmljaa
open Go.ChangeShapes Go.WideShapes Go.ChangeAt Go.RowKit

theorem tells1 (L I N : Nat) (v : Value) (k : Nat) (R : Ending → World → Prop) (w : World) (hL : w.heap[L]? = some (.cells #[v] 32)) (hI : w.heap[I]? = some (.cells #[.int .i64 k] 3)) 
    (hR : ∀ e w', R e w' → (e = .returned (.tuple #[]) ∨ ∃ c, e = .panicked c))
    (h : Calls Try.prog 16 #[v, .int .i64 k, .pointer (some ⟨N, 0, none⟩)] w R) :
    Calls Try.prog 15 #[.pointer (some ⟨L, 0, none⟩), .pointer (some ⟨I, 0, none⟩), .pointer (some ⟨N, 0, none⟩)] w R := by
  obtain ⟨g1, g2⟩ := cell_of_block1 hL
  obtain ⟨g3, g4⟩ := cell_of_block1 hI
  have H := Lib.hid h; clear h
  have HR := Lib.hid hR; clear hR
  go_enter Try.func15, Try.ntmps15
  go_wp2_with fail
  refine H.out.mono ?_
  intro e w' hr
  rcases HR.out e w' hr with rfl | ⟨c, rfl⟩
  · have HR2 := Lib.hid hr; clear hr
    go_wp2
    go_end0
    exact HR2.out
  · exact ⟨rfl, hr⟩

/-- What Do comes to, of the i-th job. -/
theorem tells_do (b off len cap L I N : Nat) (k : Nat) (Kd Nn : Nat → Int) (Ss : Nat → ByteArray) (hlen : len ≤ 40) (hk : k < len) (w : World) (hL : w.heap[L]? = some (.cells #[.slice (some ⟨b, off, none⟩) len cap] 32)) (hI : w.heap[I]? = some (.cells #[.int .i64 k] 3))
    (hN : w.heap[N]? = some (.cells #[.int .i64 0] 3)) (hJ : JobsIn w b off len Kd Nn Ss) :
    Calls Try.prog 14 #[.func (.func 15) #[] #[.pointer (some ⟨L, 0, none⟩), .pointer (some ⟨I, 0, none⟩), .pointer (some ⟨N, 0, none⟩)]] w fun e w' =>
      e = .returned (fault (tell (Kd k) (Nn k) (Ss k)).1 (tell (Kd k) (Nn k) (Ss k)).2.1 (tell (Kd k) (Nn k) (Ss k)).2.2) ∧ Off N 1 w w' ∧
        ∃ o, w'.heap[N]? = some o ∧ ∃ q : Nat, q ≤ 40 ∧ o = .cells #[.int .i64 q] 3 ∧ (tell (Kd k) (Nn k) (Ss k) = (0, 0, ⟨#[]⟩) → 1 ≤ q) ∧ (tell (Kd k) (Nn k) (Ss k) ≠ (0, 0, ⟨#[]⟩) → q = 0) := by
  have inV : ∀ f k o, w.heap[k]? = some o → (inW f w).heap[k]? = some o := fun f k o h => (inW_old _ _ _ (lt_of_block h)).trans h
  have hJV : ∀ f, JobsIn (inW f w) b off len Kd Nn Ss := fun f => hJ.block (by rw [inW_size]; omega) (inW_old _ _ _ hJ.bl)
  have hI2 := run_any b off len cap N Kd Nn Ss hlen (len - k) k rfl hk 0 (inW (.func (.func 15) #[] #[.pointer (some ⟨L, 0, none⟩), .pointer (some ⟨I, 0, none⟩), .pointer (some ⟨N, 0, none⟩)]) w) (by omega) (by omega) (hJV _) (inV _ _ _ hN)
  by_cases ht : tell (Kd k) (Nn k) (Ss k) = (0, 0, ⟨#[]⟩)
  · rw [ht]
    refine do_off_ok 15 _ w N _ (lt_of_block hN) (fun _ => by kernel_rfl) ?_
    refine (tells1 L I N _ k _ _ (inV _ _ _ hL) (inV _ _ _ hI) ?_ (hI2.mono (R' := RunGood N 0 1 (len - k) (inW (.func (.func 15) #[] #[.pointer (some ⟨L, 0, none⟩), .pointer (some ⟨I, 0, none⟩), .pointer (some ⟨N, 0, none⟩)]) w)) fun e w' hg => ?_)).mono ?_
    · rintro e w' ⟨rfl, _⟩; exact Or.inl rfl
    · rcases hg with ⟨_, hg⟩ | ⟨hg, _⟩
      · exact hg
      · exact absurd ht hg
    · rintro e w' ⟨rfl, hO, o, ho, q, h1, h2, rfl⟩
      exact ⟨rfl, hO, _, ho, q, by omega, by simp, fun _ => h1, fun h => absurd rfl h⟩
  · refine do_off_bad 15 _ w N _ _ _ _ (lt_of_block hN) (fun _ => by kernel_rfl) ?_
    refine (tells1 L I N _ k _ _ (inV _ _ _ hL) (inV _ _ _ hI) ?_ (hI2.mono (R' := RunBad N 0 (tell (Kd k) (Nn k) (Ss k)).1 (tell (Kd k) (Nn k) (Ss k)).2.1 (tell (Kd k) (Nn k) (Ss k)).2.2 (inW (.func (.func 15) #[] #[.pointer (some ⟨L, 0, none⟩), .pointer (some ⟨I, 0, none⟩), .pointer (some ⟨N, 0, none⟩)]) w)) fun e w' hg => ?_)).mono ?_
    · rintro e w' ⟨⟨t, pv, rfl, _⟩, _⟩; exact Or.inr ⟨_, rfl⟩
    · rcases hg with ⟨hg, _⟩ | ⟨_, hg⟩
      · exact absurd hg ht
      · exact hg
    · rintro e w' ⟨h, hO, o, ho, rfl⟩
      exact ⟨h, hO, _, ho, 0, by omega, by simp, fun h => absurd h ht, fun _ => rfl⟩

/-- The list of a law: nil, or its jobs lie in memory. -/
def JobsArg (W : World) (ao : Option Addr) (len : Nat) (Kd Nn : Nat → Int) (Ss : Nat → ByteArray) : Prop :=
  0 < len → ∃ b off, ao = some ⟨b, off, none⟩ ∧ JobsIn W b off len Kd Nn Ss

theorem JobsArg.at {W w : World} {ao : Option Addr} {len : Nat} {Kd Nn : Nat → Int} {Ss : Nat → ByteArray} (h : JobsArg W ao len Kd Nn Ss) (hb : Below W.heap.size W w) : ∀ i, i < len → JobAt w ao i (Kd i) (Nn i) (Ss i) := by
  intro i hi
  obtain ⟨b, off, rfl, hJ⟩ := h (by omega)
  have hJ := hJ.block hb.size (hb.block _ hJ.bl)
  exact ⟨b, off, rfl, hJ.bl, hJ.c0 i hi, hJ.c1 i hi, hJ.c2 i hi⟩

theorem tell_fk (kd n : Int) (s : ByteArray) : tell kd n s = (0, 0, ⟨#[]⟩) ∨ (tell kd n s).2.1 ≠ 0 := by
  unfold tell
  split
  · split
    · exact Or.inl rfl
    · exact Or.inr (by simp)
  · split
    · exact Or.inr (by simp)
    · split
      · exact Or.inr (by simp)
      · exact Or.inl rfl

structure TellsAt (W : World) (ao : Option Addr) (len cap L I k : Nat) (w : World) : Prop where
  le : k ≤ len
  bl : w.heap[L]? = some (.cells #[.slice ao len cap] 32)
  bi : w.heap[I]? = some (.cells #[.int .i64 k] 3)
  li : L < I
  wl : W.heap.size ≤ L
  below : Below W.heap.size W w

theorem tells_rel {W w3 : World} {L I b off len : Nat} {v : Value} {k : Int} {Kd Nn : Nat → Int} {Ss : Nat → ByteArray}
    (h : w3.heap[L]? = some (.cells #[v] 32) ∧ w3.heap[I]? = some (.cells #[.int .i64 k] 3) ∧ JobsIn w3 b off len Kd Nn Ss ∧ Below W.heap.size W w3) (q : GrowBy) :
    (growQ w3 q).heap[L]? = some (.cells #[v] 32) ∧ (growQ w3 q).heap[I]? = some (.cells #[.int .i64 k] 3) ∧ JobsIn (growQ w3 q) b off len Kd Nn Ss ∧ Below W.heap.size W (growQ w3 q) :=
  ⟨(heap_growQ _ _ _ (lt_of_block h.1)).trans h.1, (heap_growQ _ _ _ (lt_of_block h.2.1)).trans h.2.1, h.2.2.1.block (growQ_below _ _).size (heap_growQ _ _ _ h.2.2.1.bl), h.2.2.2.trans ((growQ_below _ _).mono h.2.2.2.size)⟩

set_option maxHeartbeats 400000 in
theorem tells_walk (ao : Option Addr) (len cap : Nat) (hm : len ≤ maxLen) (Kd Nn : Nat → Int) (Ss : Nat → ByteArray) (hS : ∀ i, i < len → (Ss i).size ≤ maxLen) (W : World) (hJ : JobsArg W ao len Kd Nn Ss) :
    Calls Try.prog 4 #[.slice ao len cap] W fun e w' => e = .returned (.bool true) ∧ Below W.heap.size W w' := by
  have hmf : ∀ (fn : Fn) (first cap : Array Value) (w : World), (Instr.makeFunc fn first cap).run Try.prog w = .ok (.func fn first cap) w := fun _ _ _ _ => rfl
  have heq := eqlFault
  have HJ := Lib.hid hJ; clear hJ
  have HS := Lib.hid hS; clear hS
  have HM := Lib.hid hm; clear hm
  go_enter Try.func4, Try.ntmps4
  go_wp2_with fail
  refine (light_any ao len cap HM.out Kd Nn Ss _ HS.out (HJ.out.at (Below.alloc1 W _))).mono ?_
  rintro e w1 ⟨r, rfl, hr, rfl⟩
  cases r
  · go_wp2_with fail
    refine (alive_any _).mono ?_
    rintro e w1 ⟨rfl, hb⟩
    go_wp2
    go_ret
    exact ⟨rfl, (Below.alloc1 W _).trans (hb.mono (by simp))⟩
  · have hlen := hr rfl
    clear hr
    go_wp2_with fail
    refine (alive_any _).mono ?_
    rintro e w1 ⟨rfl, hb⟩
    have hbl : w1.heap[W.heap.size]? = some (.cells #[.slice ao len cap] 32) := by rw [hb.block _ (by simp)]; exact new_block _ _
    have hb1 : Below W.heap.size W w1 := (Below.alloc1 W _).trans (hb.mono (by simp))
    have hz := lt_of_block hbl
    clear hb
    go_wp2_with fail
    go_loopg [3] len (fun g i3 wr => ∃ k I : Nat, g = len - k ∧ i3 = .pointer (some ⟨I, 0, none⟩) ∧ TellsAt W ao len cap W.heap.size I k wr)
    case atStart =>
      refine ⟨0, w1.heap.size, by omega, rfl, Nat.zero_le _, ?_, new_block _ _, hz, Nat.le_refl _, hb1.alloc (by omega) _⟩
      rw [Below.heap_alloc _ _ _ hz]; exact hbl
    case round =>
      obtain ⟨k, I, hg, rfl, hr⟩ := hrel
      have HG := Lib.hid hg; clear hg
      obtain ⟨f1, f2⟩ := cell_of_block1 hr.bl
      obtain ⟨f5, f6⟩ := cell_of_block1 hr.bi
      have hle := hr.le
      have hIz : I < wr.heap.size := lt_of_block hr.bi
      have hLI := hr.li
      by_cases hk : k < len
      · obtain ⟨b, off, rfl, hJW⟩ := HJ.out (by omega)
        have hJr := hJW.block hr.below.size (hr.below.block _ hJW.bl)
        go_wp2_with fail
        refine (tells_do b off len cap W.heap.size I wr.heap.size k Kd Nn Ss hlen hk _ ((Below.heap_alloc _ _ _ (by omega)).trans hr.bl) ((Below.heap_alloc _ _ _ hIz).trans hr.bi) (new_block _ _) (hJr.block (by simp) (Below.heap_alloc _ _ _ hJr.bl))).mono ?_
        rintro e w2 ⟨rfl, O, o, ho, q, hq40, rfl, hq1, hq0⟩
        have n1 := O.same ((Below.heap_alloc wr _ _ (by omega)).trans hr.bl) (Or.inl (by omega))
        have n2 := O.same ((Below.heap_alloc wr _ _ hIz).trans hr.bi) (Or.inl hIz)
        have hb2 : Below W.heap.size W w2 := (hr.below.alloc hr.below.size _).trans ((O.below (by simp)).mono hr.below.size)
        have hJ2 := hJW.block hb2.size (hb2.block _ hJW.bl)
        have hIz2 := lt_of_block n2
        have hNz2 := lt_of_block ho
        clear f1 f2 f5 f6 hr hJr O hbl
        obtain ⟨fe, fk, fs, ht⟩ : ∃ fe fk fs, tell (Kd k) (Nn k) (Ss k) = (fe, fk, fs) := ⟨_, _, _, rfl⟩
        rw [ht] at hq1 hq0 ⊢
        have told := fun (w : World) (h : JobsIn w b off len Kd Nn Ss) => told17_some b off len cap k hk (Kd k) (Nn k) (Ss k) w h.bl (h.c0 k hk) (h.c1 k hk) (h.c2 k hk)
        rw [ht] at told
        unfold fault at told
        have hfk : (fe = 0 ∧ fk = 0 ∧ fs = ⟨#[]⟩ ∧ 1 ≤ q) ∨ (fk ≠ 0 ∧ q = 0) := by
          rcases tell_fk (Kd k) (Nn k) (Ss k) with h | h
          · rw [ht] at h
            simp only [Prod.mk.injEq] at h
            exact Or.inl ⟨h.1, h.2.1, h.2.2, hq1 (by rw [h.1, h.2.1, h.2.2])⟩
          · rw [ht] at h
            exact Or.inr ⟨h, hq0 (by simp; intro _ h2; exact absurd h2 h)⟩
        have TD := Lib.hid told; clear told ht hq1 hq0
        have HFK := Lib.hid hfk; clear hfk
        unfold fault
        go_wp2_with fail
        have m5 := (Below.heap_alloc w2 (.cells #[.int .i64 fe, .int .i64 fk, .string fs] 26) _ (lt_of_block n1)).trans n1
        have m6 := (Below.heap_alloc w2 (.cells #[.int .i64 fe, .int .i64 fk, .string fs] 26) _ (lt_of_block n2)).trans n2
        have m7 := (Below.heap_alloc w2 (.cells #[.int .i64 fe, .int .i64 fk, .string fs] 26) _ (lt_of_block ho)).trans ho
        have m8 := new_block w2 (.cells #[.int .i64 fe, .int .i64 fk, .string fs] 26)
        have m9 := hJ2.block (by simp) (Below.heap_alloc w2 (.cells #[.int .i64 fe, .int .i64 fk, .string fs] 26) _ hJ2.bl)
        have m10 := hb2.alloc hb2.size (.cells #[.int .i64 fe, .int .i64 fk, .string fs] 26)
        have hF : w2.heap.size = w2.heap.size := rfl
        revert m5 m6 m7 m8 m9 m10
        generalize hw3 : w2.alloc (.cells #[.int .i64 fe, .int .i64 fk, .string fs] 26) = w3
        intro m5 m6 m7 m8 m9 m10
        clear hw3 n1 n2 ho hJ2 hb2 heq hmf
        obtain ⟨a1, -⟩ := cell_of_block1 m5
        obtain ⟨a2, -⟩ := cell_of_block1 m6
        obtain ⟨a3, -⟩ := cell_of_block1 m7
        obtain ⟨a4, a5, a6, -, -, -⟩ := cells_of_fault m8
        have l1 := lt_of_block m5
        have l2 := lt_of_block m6
        have l3 := lt_of_block m7
        have l4 := lt_of_block m8
        have heq := eqlFault
        have hB := Lib.hid (And.intro m5 (And.intro m6 (And.intro m9 m10)))
        clear m5 m6 m7 m8 m9 m10
        rcases HFK.out with ⟨rfl, rfl, rfl, hq⟩ | ⟨hfk, rfl⟩
        · have hq2 : decide ((q : Int) < 1) = false := by simp; omega
          refine wp_region_grow_lit (by kernel_rfl) (by kernel_rfl) ?_
          repeat (go_big_quiet_step ((go_at_call 17; exact Calls.grow_of (TD.out _ (hB.out.2.2.1.block (growQ_below _ _).size (heap_growQ _ _ _ hB.out.2.2.1.bl))))))
          refine wpQuiet_nil ?_
          intro _ hw'
          obtain ⟨nq, hw''⟩ := hw'
          subst hw''
          obtain ⟨t1, t2, t3, t4⟩ := tells_rel hB.out nq
          revert t1 t2 t3 t4
          generalize growQ w3 nq = w5
          intro t1 t2 t3 t4
          obtain ⟨g1, g2⟩ := cell_of_block1 t2
          have gz := lt_of_block t2
          clear a1 a2 a3 a4 a5 a6 l1 l2 l3 l4
          go_wp2
          go_roundg (len - (k + 1))
          case measure => rw [HG.out]; omega
          case rel => exact ⟨k + 1, w5.heap.size, rfl, rfl, by omega, (Below.heap_alloc _ _ _ (lt_of_block t1)).trans t1, new_block _ _, lt_of_block t1, Nat.le_refl _, t4.alloc t4.size _⟩
        · have hfk2 : (fk == 0) = false := by simpa using hfk
          refine wp_region_grow_lit (by kernel_rfl) (by kernel_rfl) ?_
          repeat (go_big_quiet_step ((go_at_call 17; exact Calls.grow_of (TD.out _ (hB.out.2.2.1.block (growQ_below _ _).size (heap_growQ _ _ _ hB.out.2.2.1.bl))))))
          refine wpQuiet_nil ?_
          intro _ hw'
          obtain ⟨nq, hw''⟩ := hw'
          subst hw''
          obtain ⟨t1, t2, t3, t4⟩ := tells_rel hB.out nq
          revert t1 t2 t3 t4
          generalize growQ w3 nq = w5
          intro t1 t2 t3 t4
          obtain ⟨g1, g2⟩ := cell_of_block1 t2
          have gz := lt_of_block t2
          clear a1 a2 a3 a4 a5 a6 l1 l2 l3 l4
          go_wp2
          go_roundg (len - (k + 1))
          case measure => rw [HG.out]; omega
          case rel => exact ⟨k + 1, w5.heap.size, rfl, rfl, by omega, (Below.heap_alloc _ _ _ (lt_of_block t1)).trans t1, new_block _ _, lt_of_block t1, Nat.le_refl _, t4.alloc t4.size _⟩
      · go_wp2
        go_ret
        exact ⟨rfl, hr.below⟩

end Go.Proofs.Ytdllgebccjmljaa
