/-
  GuardTries holds: of a function that answers, its answer, or nought with the fault. Conditions: none.
-/
import Derived.Test.YtdllgebccjmljaaJ
namespace Go.Proofs.Ytdllgebccjmljaa
open Go.ChangeShapes Go.WideShapes Go.ChangeAt Go.RowKit

theorem tryW_below (w : World) : Below w.heap.size w (tryW w) := ⟨rfl, rfl, rfl, by rw [tryW_size]; omega, fun k hk => tryW_old w k hk⟩

theorem tryW_off (w w1 w2 : World) (C : Nat) (h1 : Off C 1 (tryW w) w1) (h2 : Off w.heap.size 3 w1 w2) : Off C 1 w w2 := by
  have hs := tryW_size w
  have a1 := h1.size
  refine ⟨h2.os.trans (h1.os.trans (tryW_below w).os), h2.tape.trans (h1.tape.trans (tryW_below w).tape), h2.output.trans (h1.output.trans (tryW_below w).output), by have := h2.size; omega, fun k hk hj => ?_⟩
  rw [h2.block k (by omega) (by omega), h1.block k (by omega) hj, tryW_old _ _ hk]

theorem try_off_ok (G : Nat) (caps : Array Value) (w : World) (C : Nat) (n : Int) (X : Obj → Prop) (hC : C < w.heap.size)
    (hcf : ∀ w, (callFunc G caps).run Try.prog w = .ok (.enter G caps) w)
    (hG : Calls Try.prog G caps (tryW w) fun e w' => e = .returned (.int .i64 n) ∧ Off C 1 (tryW w) w' ∧ ∃ o, w'.heap[C]? = some o ∧ X o) :
    Calls Try.prog 10 #[.func (.func G) #[] caps] w fun e w' => e = .returned (.tuple #[.int .i64 n, fault 0 0 ⟨#[]⟩]) ∧ Off C 1 w w' ∧ ∃ o, w'.heap[C]? = some o ∧ X o := by
  refine (try_ok G caps w n (fun w1 => Off C 1 (tryW w) w1 ∧ ∃ o, w1.heap[C]? = some o ∧ X o) hcf (hG.mono ?_)).mono ?_
  · rintro e w' ⟨rfl, ho, hx⟩
    exact ⟨rfl, Keeps.three (ho.keeps hC), ho, hx⟩
  · rintro e w2 ⟨rfl, w1, ⟨ho, o, hx, hX⟩, O⟩
    exact ⟨rfl, tryW_off _ _ _ _ ho O, o, O.same hx (Or.inl hC), hX⟩

theorem try_off_bad (G : Nat) (caps : Array Value) (w : World) (C : Nat) (X : Obj → Prop) (e k : Int) (s : ByteArray) (hC : C < w.heap.size)
    (hcf : ∀ w, (callFunc G caps).run Try.prog w = .ok (.enter G caps) w)
    (hG : Calls Try.prog G caps (tryW w) fun e' w' => (∃ t pv, e' = .panicked [{ v := .iface t pv, recovered := false }] ∧ ToldBy t pv e k s) ∧ Off C 1 (tryW w) w' ∧ ∃ o, w'.heap[C]? = some o ∧ X o) :
    Calls Try.prog 10 #[.func (.func G) #[] caps] w fun e' w' => e' = .returned (.tuple #[.int .i64 0, fault e k s]) ∧ Off C 1 w w' ∧ ∃ o, w'.heap[C]? = some o ∧ X o := by
  refine (try_bad G caps w e k s (fun w1 => Off C 1 (tryW w) w1 ∧ ∃ o, w1.heap[C]? = some o ∧ X o) hcf (hG.mono ?_)).mono ?_
  · rintro e' w' ⟨h, ho, hx⟩
    exact ⟨h, Keeps.three (ho.keeps hC), ho, hx⟩
  · rintro e' w2 ⟨rfl, w1, ⟨ho, o, hx, hX⟩, O⟩
    exact ⟨rfl, tryW_off _ _ _ _ ho O, o, O.same hx (Or.inl hC), hX⟩

theorem tries1_ok (L I N V : Nat) (v : Value) (k : Nat) (x c : Int) (lo hi : Nat) (w : World) (hL : w.heap[L]? = some (.cells #[v] 32)) (hI : w.heap[I]? = some (.cells #[.int .i64 k] 3)) (hV : w.heap[V]? = some (.cells #[.int .i64 x] 3)) (hNV : V ≠ N)
    (h : Calls Try.prog 16 #[v, .int .i64 k, .pointer (some ⟨N, 0, none⟩)] w (RunGood N c lo hi w)) :
    Calls Try.prog 18 #[.pointer (some ⟨L, 0, none⟩), .pointer (some ⟨I, 0, none⟩), .pointer (some ⟨N, 0, none⟩), .pointer (some ⟨V, 0, none⟩)] w fun e w' => e = .returned (.int .i64 x) ∧ Off N 1 w w' ∧ ∃ o, w'.heap[N]? = some o ∧ True := by
  obtain ⟨g1, g2⟩ := cell_of_block1 hL
  obtain ⟨g3, g4⟩ := cell_of_block1 hI
  have H := Lib.hid h; clear h
  go_enter Try.func18, Try.ntmps18
  go_wp2_with fail
  refine H.out.mono ?_
  rintro e w' ⟨rfl, hO, o, ho, -⟩
  obtain ⟨g5, g6⟩ := cell_of_block1 (hO.same hV (by omega))
  go_wp2
  go_ret
  exact ⟨rfl, hO, o, ho, trivial⟩

theorem tries1_bad (L I N V : Nat) (v : Value) (k : Nat) (c fe fk : Int) (fs : ByteArray) (w : World) (hL : w.heap[L]? = some (.cells #[v] 32)) (hI : w.heap[I]? = some (.cells #[.int .i64 k] 3))
    (h : Calls Try.prog 16 #[v, .int .i64 k, .pointer (some ⟨N, 0, none⟩)] w (RunBad N c fe fk fs w)) :
    Calls Try.prog 18 #[.pointer (some ⟨L, 0, none⟩), .pointer (some ⟨I, 0, none⟩), .pointer (some ⟨N, 0, none⟩), .pointer (some ⟨V, 0, none⟩)] w fun e w' => (∃ t pv, e = .panicked [{ v := .iface t pv, recovered := false }] ∧ ToldBy t pv fe fk fs) ∧ Off N 1 w w' ∧ ∃ o, w'.heap[N]? = some o ∧ True := by
  obtain ⟨g1, g2⟩ := cell_of_block1 hL
  obtain ⟨g3, g4⟩ := cell_of_block1 hI
  have H := Lib.hid h; clear h
  go_enter Try.func18, Try.ntmps18
  go_wp2_with fail
  refine H.out.mono ?_
  rintro e w' ⟨⟨t, pv, rfl, ht⟩, hO, o, ho, -⟩
  exact ⟨rfl, ⟨t, pv, rfl, ht⟩, hO, o, ho, trivial⟩

/-- The answer of Try, of a job that is told so. -/
def answer (fk x : Int) : Int := if fk = 0 then x else 0

theorem tries_do (b off len cap L I N V : Nat) (k : Nat) (x : Int) (Kd Nn : Nat → Int) (Ss : Nat → ByteArray) (hlen : len ≤ 40) (hk : k < len) (w : World) (hL : w.heap[L]? = some (.cells #[.slice (some ⟨b, off, none⟩) len cap] 32)) (hI : w.heap[I]? = some (.cells #[.int .i64 k] 3))
    (hN : w.heap[N]? = some (.cells #[.int .i64 0] 3)) (hV : w.heap[V]? = some (.cells #[.int .i64 x] 3)) (hNV : V ≠ N) (hJ : JobsIn w b off len Kd Nn Ss) :
    Calls Try.prog 10 #[.func (.func 18) #[] #[.pointer (some ⟨L, 0, none⟩), .pointer (some ⟨I, 0, none⟩), .pointer (some ⟨N, 0, none⟩), .pointer (some ⟨V, 0, none⟩)]] w fun e w' =>
      e = .returned (.tuple #[.int .i64 (answer (tell (Kd k) (Nn k) (Ss k)).2.1 x), fault (tell (Kd k) (Nn k) (Ss k)).1 (tell (Kd k) (Nn k) (Ss k)).2.1 (tell (Kd k) (Nn k) (Ss k)).2.2]) ∧ Off N 1 w w' := by
  have inV : ∀ k o, w.heap[k]? = some o → (tryW w).heap[k]? = some o := fun k o h => (tryW_old _ _ (lt_of_block h)).trans h
  have hJV : JobsIn (tryW w) b off len Kd Nn Ss := hJ.block (by rw [tryW_size]; omega) (tryW_old _ _ hJ.bl)
  have hI2 := run_any b off len cap N Kd Nn Ss hlen (len - k) k rfl hk 0 (tryW w) (by omega) (by omega) hJV (inV _ _ hN)
  by_cases ht : tell (Kd k) (Nn k) (Ss k) = (0, 0, ⟨#[]⟩)
  · rw [ht]
    refine (try_off_ok 18 _ w N x (fun _ => True) (lt_of_block hN) (fun _ => by kernel_rfl) ?_).mono (fun e w' h => ⟨h.1, h.2.1⟩)
    refine tries1_ok L I N V _ k x 0 1 (len - k) _ (inV _ _ hL) (inV _ _ hI) (inV _ _ hV) hNV (hI2.mono (fun e w' hg => ?_))
    rcases hg with ⟨_, hg⟩ | ⟨hg, _⟩
    · exact hg
    · exact absurd ht hg
  · have hfk : (tell (Kd k) (Nn k) (Ss k)).2.1 ≠ 0 := (tell_fk _ _ _).resolve_left ht
    rw [answer, if_neg hfk]
    refine (try_off_bad 18 _ w N (fun _ => True) (tell (Kd k) (Nn k) (Ss k)).1 (tell (Kd k) (Nn k) (Ss k)).2.1 (tell (Kd k) (Nn k) (Ss k)).2.2 (lt_of_block hN) (fun _ => by kernel_rfl) ?_).mono (fun e w' h => ⟨h.1, h.2.1⟩)
    refine tries1_bad L I N V _ k 0 _ _ _ _ (inV _ _ hL) (inV _ _ hI) (hI2.mono (fun e w' hg => ?_))
    rcases hg with ⟨hg, _⟩ | ⟨_, hg⟩
    · exact absurd hg ht
    · exact hg

structure TriesAt (W : World) (ao : Option Addr) (len cap : Nat) (x : Int) (L V I k : Nat) (w : World) : Prop where
  le : k ≤ len
  bl : w.heap[L]? = some (.cells #[.slice ao len cap] 32)
  bv : w.heap[V]? = some (.cells #[.int .i64 x] 3)
  bi : w.heap[I]? = some (.cells #[.int .i64 k] 3)
  lv : L < V
  vi : V < I
  wl : W.heap.size ≤ L
  below : Below W.heap.size W w

theorem TriesAt.grow {W w : World} {ao : Option Addr} {len cap : Nat} {x : Int} {L V I k : Nat} (h : TriesAt W ao len cap x L V I k w) (q : GrowBy) : TriesAt W ao len cap x L V I k (growQ w q) :=
  ⟨h.le, (heap_growQ _ _ _ (lt_of_block h.bl)).trans h.bl, (heap_growQ _ _ _ (lt_of_block h.bv)).trans h.bv, (heap_growQ _ _ _ (lt_of_block h.bi)).trans h.bi, h.lv, h.vi, h.wl, h.below.trans ((growQ_below _ _).mono h.below.size)⟩

theorem TriesAt.below' {W w w' : World} {ao : Option Addr} {len cap : Nat} {x : Int} {L V I k : Nat} (h : TriesAt W ao len cap x L V I k w) (hb : Below w.heap.size w w') : TriesAt W ao len cap x L V I k w' :=
  ⟨h.le, (hb.block _ (lt_of_block h.bl)).trans h.bl, (hb.block _ (lt_of_block h.bv)).trans h.bv, (hb.block _ (lt_of_block h.bi)).trans h.bi, h.lv, h.vi, h.wl, h.below.trans (hb.mono h.below.size)⟩

theorem TriesAt.alloc {W w : World} {ao : Option Addr} {len cap : Nat} {x : Int} {L V I k : Nat} (h : TriesAt W ao len cap x L V I k w) (o : Obj) : TriesAt W ao len cap x L V I k (w.alloc o) :=
  h.below' (Below.alloc1 w o)

theorem TriesAt.next {W w : World} {ao : Option Addr} {len cap : Nat} {x : Int} {L V I k : Nat} (h : TriesAt W ao len cap x L V I k w) (hk : k < len) : TriesAt W ao len cap x L V w.heap.size (k + 1) (w.alloc (.cells #[.int .i64 ((k : Int) + 1)] 3)) :=
  ⟨hk, (Below.heap_alloc _ _ _ (lt_of_block h.bl)).trans h.bl, (Below.heap_alloc _ _ _ (lt_of_block h.bv)).trans h.bv, new_block _ _, h.lv, lt_of_block h.bv, h.wl, h.below.alloc h.below.size _⟩

theorem TriesAt.off {W w w' : World} {ao : Option Addr} {len cap : Nat} {x : Int} {L V I k N : Nat} (h : TriesAt W ao len cap x L V I k w) (O : Off N 1 w w') (hN : I < N) : TriesAt W ao len cap x L V I k w' := by
  have h1 := h.lv
  have h2 := h.vi
  have h3 := h.wl
  have hN2 : W.heap.size ≤ N := by omega
  exact ⟨h.le, O.same h.bl (by omega), O.same h.bv (by omega), O.same h.bi (by omega), h1, h2, h3, h.below.trans ⟨O.os, O.tape, O.output, O.size, fun j hj => O.block j (by have := h.below.size; omega) (by omega)⟩⟩

set_option maxHeartbeats 400000 in
theorem tries_walk (ao : Option Addr) (len cap : Nat) (hm : len ≤ maxLen) (Kd Nn : Nat → Int) (Ss : Nat → ByteArray) (hS : ∀ i, i < len → (Ss i).size ≤ maxLen) (x : Int) (W : World) (hJ : JobsArg W ao len Kd Nn Ss) :
    Calls Try.prog 5 #[.slice ao len cap, .int .i64 x] W fun e w' => e = .returned (.bool true) ∧ Below W.heap.size W w' := by
  have hmf : ∀ (fn : Fn) (first cap : Array Value) (w : World), (Instr.makeFunc fn first cap).run Try.prog w = .ok (.func fn first cap) w := fun _ _ _ _ => rfl
  have heq := eqlFault
  have HJ := Lib.hid hJ; clear hJ
  have HS := Lib.hid hS; clear hS
  have HM := Lib.hid hm; clear hm
  go_enter Try.func5, Try.ntmps5
  go_wp2_with fail
  have W2 : Below W.heap.size W ((W.alloc (.cells #[.slice ao len cap] 32)).alloc (.cells #[.int .i64 x] 3)) := (Below.alloc1 W _).alloc (by simp) _
  refine (light_any ao len cap HM.out Kd Nn Ss _ HS.out (HJ.out.at W2)).mono ?_
  rintro e w1 ⟨r, rfl, hr, rfl⟩
  cases r
  · go_wp2_with fail
    refine (alive_any _).mono ?_
    rintro e w1 ⟨rfl, hb⟩
    go_wp2
    go_ret
    exact ⟨rfl, W2.trans (hb.mono (by simp; omega))⟩
  · have hlen := hr rfl
    clear hr
    go_wp2_with fail
    refine (alive_any _).mono ?_
    rintro e w1 ⟨rfl, hb⟩
    have hbl : w1.heap[W.heap.size]? = some (.cells #[.slice ao len cap] 32) := by rw [hb.block _ (by simp; omega), Below.heap_alloc _ _ _ (by simp)]; exact new_block _ _
    have hbv : w1.heap[W.heap.size + 1]? = some (.cells #[.int .i64 x] 3) := by rw [hb.block _ (by simp)]; exact new_block2 _ _ _
    have hb1 : Below W.heap.size W w1 := W2.trans (hb.mono (by simp; omega))
    have hz := lt_of_block hbl
    have hzv := lt_of_block hbv
    clear hb
    go_wp2_with fail
    go_loopg [5] len (fun g i3 wr => ∃ k I : Nat, g = len - k ∧ i3 = .pointer (some ⟨I, 0, none⟩) ∧ TriesAt W ao len cap x W.heap.size (W.heap.size + 1) I k wr)
    case atStart =>
      refine ⟨0, w1.heap.size, by omega, rfl, Nat.zero_le _, ?_, ?_, new_block _ _, by omega, hzv, Nat.le_refl _, hb1.alloc (by omega) _⟩
      · rw [Below.heap_alloc _ _ _ hz]; exact hbl
      · rw [Below.heap_alloc _ _ _ hzv]; exact hbv
    case round =>
      obtain ⟨k, I, hg, rfl, hr⟩ := hrel
      have HG := Lib.hid hg; clear hg
      obtain ⟨f1, -⟩ := cell_of_block1 hr.bl
      obtain ⟨f3, -⟩ := cell_of_block1 hr.bv
      obtain ⟨f5, -⟩ := cell_of_block1 hr.bi
      have hle := hr.le
      have hIz : I < wr.heap.size := lt_of_block hr.bi
      have hVI := hr.vi
      by_cases hk : k < len
      · obtain ⟨b, off, rfl, hJW⟩ := HJ.out (by omega)
        have hJr := hJW.block hr.below.size (hr.below.block _ hJW.bl)
        have HR := Lib.hid hr; clear hr
        go_wp2_with fail
        have ht1 : TriesAt W (some ⟨b, off, none⟩) len cap x W.heap.size (W.heap.size + 1) I k (wr.alloc (.cells #[.int .i64 0] 3)) :=
          ⟨hle, (Below.heap_alloc _ _ _ (by omega)).trans HR.out.bl, (Below.heap_alloc _ _ _ (by omega)).trans HR.out.bv, (Below.heap_alloc _ _ _ hIz).trans HR.out.bi, by omega, hVI, Nat.le_refl _, HR.out.below.alloc HR.out.below.size _⟩
        refine (tries_do b off len cap W.heap.size I wr.heap.size (W.heap.size + 1) k x Kd Nn Ss hlen hk _ ht1.bl ht1.bi (new_block _ _) ht1.bv (by omega) (hJr.block (by simp) (Below.heap_alloc _ _ _ hJr.bl))).mono ?_
        rintro e w2 ⟨rfl, O⟩
        have ht2 := ht1.off O hIz
        have hJ2 := hJW.block ht2.below.size (ht2.below.block _ hJW.bl)
        clear f1 f3 f5 hJr O hbl hbv ht1
        obtain ⟨fe, fk, fs, ht⟩ : ∃ fe fk fs, tell (Kd k) (Nn k) (Ss k) = (fe, fk, fs) := ⟨_, _, _, rfl⟩
        have hfk : (fe = 0 ∧ fk = 0 ∧ fs = ⟨#[]⟩) ∨ fk ≠ 0 := by
          rcases tell_fk (Kd k) (Nn k) (Ss k) with h | h
          · rw [ht] at h
            simp only [Prod.mk.injEq] at h
            exact Or.inl ⟨h.1, h.2.1, h.2.2⟩
          · rw [ht] at h
            exact Or.inr h
        rw [ht]
        have told := fun (w : World) (h : JobsIn w b off len Kd Nn Ss) => told17_some b off len cap k hk (Kd k) (Nn k) (Ss k) w h.bl (h.c0 k hk) (h.c1 k hk) (h.c2 k hk)
        rw [ht] at told
        unfold fault at told
        have TD := Lib.hid told; clear told ht
        have HFK := Lib.hid hfk; clear hfk
        have g1 := (cell_of_block1 ht2.bl).1
        have g2 := (cell_of_block1 ht2.bv).1
        have g3 := (cell_of_block1 ht2.bi).1
        have z1 := lt_of_block ht2.bl
        have z2 := lt_of_block ht2.bv
        have z3 := lt_of_block ht2.bi
        have HB := Lib.hid (And.intro ht2 hJ2); clear ht2 hJ2
        unfold fault
        go_wp2_with fail
        have m1 := HB.out.1.alloc (.cells #[.int .i64 fe, .int .i64 fk, .string fs] 26)
        have m2 := HB.out.2.block (by simp) (Below.heap_alloc w2 (.cells #[.int .i64 fe, .int .i64 fk, .string fs] 26) _ HB.out.2.bl)
        have m3 := new_block w2 (.cells #[.int .i64 fe, .int .i64 fk, .string fs] 26)
        refine (TD.out _ m2).mono ?_
        rintro e w4 ⟨rfl, hb4⟩
        have n1 := m1.below' hb4
        have n2 := m2.block hb4.size (hb4.block _ m2.bl)
        have n3 := (hb4.block _ (lt_of_block m3)).trans m3
        clear m1 m2 m3 hb4 g1 g2 g3 HB z1 z2 z3
        obtain ⟨g1, -⟩ := cell_of_block1 n1.bl
        obtain ⟨g2, -⟩ := cell_of_block1 n1.bv
        obtain ⟨g3, -⟩ := cell_of_block1 n1.bi
        obtain ⟨g4, g5, g6, -, -, -⟩ := cells_of_fault n3
        have z1 := lt_of_block n1.bl
        have z2 := lt_of_block n1.bv
        have z3 := lt_of_block n1.bi
        have z4 := lt_of_block n3
        have HB := Lib.hid (And.intro n1 n2); clear n1 n2 n3
        have hans : (fk = 0 → answer fk x = x) ∧ (fk ≠ 0 → answer fk x = 0) := ⟨fun h => by simp [answer, h], fun h => by simp [answer, h]⟩
        generalize answer fk x = y at hans ⊢
        rcases HFK.out with ⟨rfl, rfl, rfl⟩ | hfk
        · obtain rfl := hans.1 rfl
          clear hans HFK
          go_wp2_with fail
          refine wp_region_grow_lit (by kernel_rfl) (by kernel_rfl) ?_
          repeat (go_big_quiet_step ((go_at_call 17; exact Calls.grow_of (TD.out _ (HB.out.2.block (growQ_below _ _).size (heap_growQ _ _ _ HB.out.2.bl))))))
          refine wpQuiet_nil ?_
          intro _ hw'
          obtain ⟨nq, hw''⟩ := hw'
          subst hw''
          have t1 := HB.out.1.grow nq
          revert t1
          generalize growQ w4 nq = w5
          intro t1
          obtain ⟨r1, r2⟩ := cell_of_block1 t1.bi
          have gz := lt_of_block t1.bi
          clear g1 g2 g3 g4 g5 g6 z1 z2 z3 z4
          have T1 := Lib.hid t1; clear t1
          go_wp2
          go_roundg (len - (k + 1))
          case measure => rw [HG.out]; omega
          case rel => exact ⟨k + 1, w5.heap.size, rfl, rfl, T1.out.next hk⟩
        · obtain rfl := hans.2 hfk
          have hfk2 : (fk == 0) = false := by simpa using hfk
          clear hans HFK
          go_wp2_with fail
          refine wp_region_grow_lit (by kernel_rfl) (by kernel_rfl) ?_
          repeat (go_big_quiet_step ((go_at_call 17; exact Calls.grow_of (TD.out _ (HB.out.2.block (growQ_below _ _).size (heap_growQ _ _ _ HB.out.2.bl))))))
          refine wpQuiet_nil ?_
          intro _ hw'
          obtain ⟨nq, hw''⟩ := hw'
          subst hw''
          have t1 := HB.out.1.grow nq
          revert t1
          generalize growQ w4 nq = w5
          intro t1
          obtain ⟨r1, r2⟩ := cell_of_block1 t1.bi
          have gz := lt_of_block t1.bi
          clear g1 g2 g3 g4 g5 g6 z1 z2 z3 z4
          have T1 := Lib.hid t1; clear t1
          go_wp2
          go_roundg (len - (k + 1))
          case measure => rw [HG.out]; omega
          case rel => exact ⟨k + 1, w5.heap.size, rfl, rfl, T1.out.next hk⟩
      · go_wp2_with fail
        refine (try_nil _).mono ?_
        rintro e w5 ⟨rfl, hb5⟩
        unfold fault
        have hb6 := hr.below.trans (hb5.mono hr.below.size)
        clear hb5
        go_wp2
        go_ret
        exact ⟨rfl, hb6.alloc hb6.size _⟩

theorem triesL {H : Type} {enc : TypeId × Value → H} {base : Nat} (v : Value) (d : DataW H) (p : List MemPlace) {W : World} (h : DataW.Trod enc Try.prog W 0 (fun _ => true) true 32 v d p) (hv : Value.okWide Try.prog W .any base 32 v)
    (x : Int) (_ : (Lit.int .i64 x).wf = true) (_ : World) :
    Calls Try.prog 5 #[v, .int .i64 x] W fun e w' => e = .returned (.bool true) ∧ Below W.heap.size W w' := by
  obtain ⟨ao, len, cap, Kd, Nn, Ss, rfl, hm, hS, hJ⟩ := open_jobs h hv
  exact tries_walk ao len cap hm Kd Nn Ss hS x W hJ

set_option maxRecDepth 100000 in
theorem guardTries_lifted (os : Os) (started : os.Started) (H : Type) (enc : TypeId × Value → H) :
    ReturnsInHanded {} Try.checked os 5 .any (Rows.guardTriesSpec.pre6 enc Try.prog Try.f5 Rows.guardTriesRow.domain false) (Rows.guardTriesSpec.post enc Try.prog Try.f5 false true false false) := by
  refine returnsInHanded_of_change (C := Try.checked) own started (by kernel_rfl) Try.func5
    (ChangeSpec.witness6 (enc := enc) (C := Try.checked) false ⟨#[], #[.slice none 0 0, .int .i64 0], []⟩ 8 (by kernel_rfl) (by kernel_rfl) (by kernel_rfl) (by kernel_rfl)) ?_
  intro W base args ds gs before hval0 hW hcnd _
  have hval : ∀ (j : Nat) t v, Try.f5.params[j]? = some t → args[j]? = some v → Value.okWide Try.prog W .any base t v := hval0
  have hW' := hW
  obtain ⟨p, q, hA0, hV, rfl, hfz, hnd⟩ := hW
  have hA : DataW.TrodAll enc Try.prog W 0 (fun _ => true) true Try.f5.params.toList args.toList ds p := hA0
  rw [Try.params5] at hA hval
  obtain ⟨v0, vs0, d0, ds0, p0, q0, hargs, rfl, rfl, h0, r0⟩ := trodAll_cons hA
  obtain ⟨v1, vs1, d1, ds1, p1, q1, rfl, rfl, rfl, h1, r1⟩ := trodAll_cons r0
  obtain ⟨rfl, rfl, rfl⟩ := trodAll_nil r1
  obtain rfl : args = #[v0, v1] := by cases args; simp_all
  obtain ⟨rfl, rfl⟩ := trodVars_none hV
  have hlt : ∀ x ∈ (p0 ++ (p1 ++ [])), x.block < W.heap.size := fun x hx => by simpa using hW'.lt x (by simpa using hx)
  obtain ⟨x1, rfl, rfl, rfl, wx1⟩ := open_int Try.underlying3 (hval 1 3 v1 rfl rfl) h1
  refine Calls.mono (R := fun e w' => e = .returned (.bool true) ∧ Below W.heap.size W w') ?_ fun e W' ⟨he, hb⟩ => ?_
  · exact triesL v0 d0 p0 h0 (hval 0 32 v0 rfl rfl) x1 wx1 W
  subst he
  exact ⟨_, rfl, law_post (T := 4) laidOut (by kernel_rfl) rfl Try.underlying4 rfl hW' hb rfl rfl rfl⟩

theorem guardTries_holds : Rows.GuardTriesSaid :=
  OpenClaim.holds_of_wide 5 Try.f5 rfl rfl rfl rfl rfl rfl rfl ⟨rfl, rfl, rfl, rfl, rfl⟩ rfl rfl rfl rfl rfl (by kernel_rfl) Try.func5 (by kernel_rfl)
    (of_decide_eq_true (by kernel_rfl)) (by unfold Func.isWrapper; first | (rw [if_pos (by decide +kernel)]; kernel_rfl) | (rw [if_neg (by decide +kernel)]; exact ⟨rfl, rfl⟩))
    (fun os started H enc _ => guardTries_lifted os started H enc)
#print axioms guardTries_holds


end Go.Proofs.Ytdllgebccjmljaa
