/-
  guard.First over the law's own list: the first one that fails, and its fault; the counts say which were run. Conditions: none.
-/
import Derived.Test.YtdllgebccjmljaaFirst
namespace Go.Proofs.Ytdllgebccjmljaa
open Go.ChangeShapes Go.WideShapes Go.ChangeAt Go.RowKit

structure FirstAt (W : World) (len A : Nat) (Kd Nn : Nat → Int) (Ss : Nat → ByteArray) (k : Nat) (w : World) : Prop where
  le : k ≤ len
  good : ∀ i, i < k → tell (Kd i) (Nn i) (Ss i) = (0, 0, ⟨#[]⟩)
  arr : w.heap[A]? = some (.cells (cnt len k) 3)
  res : w.heap[W.heap.size]? = some (.cells #[.int .i64 0, .int .i64 0, .string ⟨#[]⟩] 26)
  az : A < W.heap.size
  off : Off A 1 W w

def FirstPost (len A : Nat) (Kd Nn : Nat → Int) (Ss : Nat → ByteArray) (W : World) (e : Ending) (w' : World) : Prop :=
  ∃ (m : Nat) (fe fk : Int) (fs : ByteArray), e = .returned (.tuple #[.int .i64 m, fault fe fk fs]) ∧ m ≤ len ∧ Res len Kd Nn Ss len m fe fk fs ∧ Off A 1 W w' ∧ w'.heap[A]? = some (.cells (cnt len m) 3)

theorem put3 {w : World} {R : Nat} {x y z : Value} (hR : w.heap[R]? = some (.cells #[x, y, z] 26)) (fe fk : Int) (fs : ByteArray) :
    (((w.setCell ⟨R, 0, none⟩ (.int .i64 fe)).setCell ⟨R, 1, none⟩ (.int .i64 fk)).setCell ⟨R, 2, none⟩ (.string fs)).heap[R]? = some (.cells #[.int .i64 fe, .int .i64 fk, .string fs] 26) ∧
      Off R 1 w (((w.setCell ⟨R, 0, none⟩ (.int .i64 fe)).setCell ⟨R, 1, none⟩ (.int .i64 fk)).setCell ⟨R, 2, none⟩ (.string fs)) := by
  have e1 := heap_setCell_same (off := 2) (heap_setCell_same (off := 1) (heap_setCell_same (off := 0) hR (.int .i64 fe)) (.int .i64 fk)) (.string fs)
  have e2 : Off R 1 w (((w.setCell ⟨R, 0, none⟩ (.int .i64 fe)).setCell ⟨R, 1, none⟩ (.int .i64 fk)).setCell ⟨R, 2, none⟩ (.string fs)) :=
    (((Off.refl R 1 w).setCell (Nat.le_refl _) (by simp) _).setCell (Nat.le_refl _) (by simp) _).setCell (Nat.le_refl _) (by simp) _
  have e3 : ((#[x, y, z].setIfInBounds 0 (Value.int .i64 fe)).setIfInBounds 1 (.int .i64 fk)).setIfInBounds 2 (.string fs) = #[.int .i64 fe, .int .i64 fk, .string fs] := by simp
  rw [e3] at e1
  exact ⟨e1, e2⟩

theorem put_ret {a : Act} {wf : World} {R m : Nat} {fe fk : Int} {fs : ByteArray} {F : Ending → World → Prop} (e1 : wf.heap[R]? = some (.cells #[.int .i64 fe, .int .i64 fk, .string fs] 26))
    (h2 : a.tmps[2]?.getD undef = .int .i64 m) (h3 : a.tmps[3]?.getD undef = .pointer (some ⟨R, 0, none⟩)) (hd : a.defers = [])
    (hF : F (.returned (.tuple #[.int .i64 m, fault fe fk fs])) wf) : bodyPost Try.prog Try.f24 F .ret a wf := by
  obtain ⟨f1, f2, f3, -, -, -⟩ := cells_of_fault e1
  exact bodyPost_ret (v := .tuple #[.int .i64 m, fault fe fk fs]) (by simp [results, Try.results24, go_sem, h2, h3, fault, f1, f2, f3]) hd hF

theorem Off.past {A n R : Nat} {W w w' : World} (h : Off A n W w) (h' : Off R 1 w w') (hR : W.heap.size ≤ R) : Off A n W w' :=
  ⟨h'.os.trans h.os, h'.tape.trans h.tape, h'.output.trans h.output, Nat.le_trans h.size h'.size, fun k hk hj => (h'.block k (Nat.lt_of_lt_of_le hk h.size) (by omega)).trans (h.block k hk hj)⟩

theorem first24 (fo : Option Addr) (len fcap A L Nt b off cap : Nat) (I : Nat → Nat) (Kd Nn : Nat → Int) (Ss : Nat → ByteArray) (hlen : len ≤ 40) (hcap : len ≤ cap) (W : World)
    (hF : 0 < len → ∃ fb foff, fo = some ⟨fb, foff, none⟩ ∧ FsIn fb foff L Nt b off len cap A I Kd Nn Ss W) (hA : W.heap[A]? = some (.cells (cnt len 0) 3)) :
    Calls Try.prog 24 #[.slice fo len fcap] W (FirstPost len A Kd Nn Ss W) := by
  have heq := eqlFault
  have HF := Lib.hid hF; clear hF
  have HA := Lib.hid hA; clear hA
  go_enter Try.func24, Try.ntmps24
  go_wp2_with fail
  go_loopg [9] len (fun g i wr => ∃ k : Nat, g = len - k ∧ i = .int .i64 k ∧ FirstAt W len A Kd Nn Ss k wr)
  case atStart =>
    refine ⟨0, by omega, rfl, Nat.zero_le _, by omega, (Below.heap_alloc _ _ _ (lt_of_block HA.out)).trans HA.out, new_block _ _, lt_of_block HA.out, (Off.refl _ _ _).alloc _⟩
  case round =>
    obtain ⟨k, hg, rfl, hr⟩ := hrel
    have HG := Lib.hid hg; clear hg
    have hle := hr.le
    by_cases hk : k < len
    · obtain ⟨fb, foff, rfl, hFs⟩ := HF.out (by omega)
      have hFr := hFs.off hr.off
      have hfc := hFr.fc k hk
      have hfz := hFr.fz
      have hdo := first_do L (I k) Nt b off len cap A k hk hlen hcap Kd Nn Ss wr (hFr.caps k hk) hFr.jobs hr.arr
      have HD := Lib.hid hdo; clear hdo
      have HR := Lib.hid hr; clear hr
      clear hFr hFs
      go_wp2_with fail
      refine HD.out.mono ?_
      rintro e w1 ⟨rfl, hO, ho⟩
      have hO1 := HR.out.off.trans hO
      have hres := hO.same HR.out.res (Or.inr (by have := HR.out.az; omega))
      have hgood := HR.out.good
      have haz := HR.out.az
      clear HD HR hO hfc
      obtain ⟨fe, fk, fs, ht⟩ : ∃ fe fk fs, tell (Kd k) (Nn k) (Ss k) = (fe, fk, fs) := ⟨_, _, _, rfl⟩
      have hfk : (fe = 0 ∧ fk = 0 ∧ fs = ⟨#[]⟩) ∨ fk ≠ 0 := by
        rcases tell_fk (Kd k) (Nn k) (Ss k) with h | h
        · rw [ht] at h
          simp only [Prod.mk.injEq] at h
          exact Or.inl ⟨h.1, h.2.1, h.2.2⟩
        · rw [ht] at h
          exact Or.inr h
      rw [ht] at ho
      simp only [] at ho
      rw [ht]
      obtain ⟨r1, r2, r3, r4, r5, r6⟩ := cells_of_fault hres
      have rz := lt_of_block hres
      unfold fault
      rcases hfk with ⟨rfl, rfl, rfl⟩ | hfk
      · rw [if_pos rfl] at ho
        have HH := Lib.hid (And.intro hO1 (And.intro ho (And.intro hres (And.intro hgood (And.intro haz ht))))); clear hO1 ho hres hgood haz ht
        go_wp2_with fail
        go_roundg (len - (k + 1))
        case measure => rw [HG.out]; omega
        case rel =>
          obtain ⟨hO1, ho, hres, hgood, haz, ht⟩ := HH.out
          refine ⟨k + 1, rfl, rfl, hk, fun i hi => ?_, (Below.heap_alloc _ _ _ (lt_of_block ho)).trans ho, (Below.heap_alloc _ _ _ (lt_of_block hres)).trans hres, haz, hO1.alloc _⟩
          by_cases hik : i = k
          · subst hik; exact ht
          · exact hgood i (by omega)
      · rw [if_neg hfk] at ho
        have hfk2 : (fk == 0) = false := by simpa using hfk
        have HH := Lib.hid (And.intro hO1 (And.intro ho (And.intro hres (And.intro hgood (And.intro haz (And.intro ht hfk)))))); clear hO1 ho hres hgood haz ht hfk
        go_wp2_with fail
        go_region
        all_goals go_wp2
        obtain ⟨hO1, ho, hres, hgood, haz, ht, hfk⟩ := HH.out
        obtain ⟨e1, e2⟩ := put3 hres fe fk fs
        have e3 := hO1.past e2 (Nat.le_refl _)
        have e4 := e2.same ho (Or.inl (by omega))
        revert e1 e3 e4
        generalize (((w1.setCell ⟨W.heap.size, 0, none⟩ (.int .i64 fe)).setCell ⟨W.heap.size, 1, none⟩ (.int .i64 fk)).setCell ⟨W.heap.size, 2, none⟩ (.string fs)) = w2
        intro e1 e3 e4
        refine put_ret (R := W.heap.size) (m := k) ((Below.heap_alloc w2 _ _ (lt_of_block e1)).trans e1) rfl rfl rfl ?_
        exact ⟨k, fe, fk, fs, rfl, hle, ⟨fun i hi _ => hgood i hi, Or.inr ⟨hk, ht, hfk⟩⟩, (e3.alloc _).trans (Off.of_below (Below.refl _ _).drew), (Below.heap_alloc w2 _ _ (lt_of_block e4)).trans e4⟩
    · have hres := hr.res
      obtain ⟨r1, r2, r3, r4, r5, r6⟩ := cells_of_fault hres
      have rz := lt_of_block hres
      have HR := Lib.hid hr; clear hr hres
      obtain rfl : k = len := by omega
      go_wp2
      obtain ⟨e1, e2⟩ := put3 HR.out.res 0 0 ⟨#[]⟩
      refine put_ret (R := W.heap.size) (m := k) e1 rfl rfl rfl ?_
      exact ⟨k, 0, 0, ⟨#[]⟩, rfl, hle, ⟨fun i hi _ => HR.out.good i hi, Or.inl ⟨rfl, rfl, rfl, rfl⟩⟩, HR.out.off.past e2 (Nat.le_refl _), e2.same HR.out.arr (Or.inl HR.out.az)⟩

end Go.Proofs.Ytdllgebccjmljaa
