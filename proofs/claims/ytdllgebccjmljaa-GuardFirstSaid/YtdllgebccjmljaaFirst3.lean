/-
  GuardFirst's first loop: what it knows behind each round. Conditions: none.
-/
import Derived.Test.YtdllgebccjmljaaFirst2
import Derived.OwnWalk
import Derived.WalkKit
namespace Go.Proofs.Ytdllgebccjmljaa
open Go.ChangeShapes Go.WideShapes Go.ChangeAt Go.RowKit

theorem own_below' {w w' : World} {B e size n : Nat} {v : Value} {xs : List Value} (h : w.ownsRow B e size v n xs) (hb : Below w.heap.size w w') : w'.ownsRow B e size v n xs := by
  refine ⟨h.1, ?_⟩
  rcases h.2 with hn | ⟨g, cap, cur, rfl, hg, hgg, rest⟩
  · exact .inl hn
  · exact .inr ⟨g, cap, cur, rfl, hg, by rw [hb.block g (lt_of_block hgg)]; exact hgg, rest⟩

theorem own_off {w w' : World} {B e size n F : Nat} {v : Value} {xs : List Value} (h : w.ownsRow B e size v n xs) (hb : Off F 1 w w') (hF : ∀ cs, w.heap[F]? ≠ some (.cells cs e)) : w'.ownsRow B e size v n xs := by
  refine ⟨h.1, ?_⟩
  rcases h.2 with hn | ⟨g, cap, cur, rfl, hg, hgg, rest⟩
  · exact .inl hn
  · refine .inr ⟨g, cap, cur, rfl, hg, ?_, rest⟩
    have hne : g ≠ F := fun e => hF cur (e ▸ hgg)
    exact hb.same hgg (by omega)

/-- A block of another type is none of the row's. -/
theorem own_ne {w : World} {B e size n g t : Nat} {v : Value} {xs : List Value} {cs : Array Value} (h : w.ownsRow B e size v n xs) (hg : w.heap[g]? = some (.cells cs t)) (hne : e ≠ t) : some g ≠ v.ownBlock := by
  rcases h.2 with ⟨rfl, _⟩ | ⟨g', cap, cur, rfl, _, hgg, _⟩
  · simp [Value.ownBlock]
  · simp only [Value.ownBlock, ne_eq, Option.some.injEq]
    rintro rfl
    rw [hg] at hgg
    simp at hgg
    exact hne hgg.2.symm

/-- The j-th function. -/
def fnAt (L Nt : Nat) (J : Nat → Nat) (j : Nat) : Value := .func (.func 23) #[] #[.pointer (some ⟨L, 0, none⟩), .pointer (some ⟨J j, 0, none⟩), .pointer (some ⟨Nt, 0, none⟩)]

structure Lp (W : World) (ao : Option Addr) (len cap : Nat) (Kd Nn : Nat → Int) (Ss : Nat → ByteArray) (L Nt A F I k n r m : Nat) (v : Value) (J : Nat → Nat) (fe fk : Int) (fs : ByteArray) (w : World) : Prop where
  le : k ≤ len
  bl : w.heap[L]? = some (.cells #[.slice ao len cap] 32)
  bn : w.heap[Nt]? = some (.cells #[.slice (some ⟨A, 0, none⟩) len len] 46)
  ba : w.heap[A]? = some (.cells (cnt len 0) 3)
  bi : w.heap[I]? = some (.cells #[.int .i64 k] 3)
  bf : w.heap[F]? = some (.cells #[.int .i64 fe, .int .i64 fk, .string fs] 26)
  own : w.ownsRow W.heap.size 1 1 v n ((List.range n).map (fnAt L Nt J))
  js : ∀ j, j < n → w.heap[J j]? = some (.cells #[.int .i64 j] 3) ∧ J j ≠ A
  res : Res len Kd Nn Ss r m fe fk fs
  ia : I ≠ A
  wl : W.heap.size ≤ L
  wa : W.heap.size ≤ A
  wn : W.heap.size ≤ Nt
  wf : W.heap.size ≤ F
  below : Below W.heap.size W w

section
variable {W w w' : World} {ao : Option Addr} {len cap : Nat} {Kd Nn : Nat → Int} {Ss : Nat → ByteArray} {L Nt A F I k n r m : Nat} {v : Value} {J : Nat → Nat} {fe fk : Int} {fs : ByteArray}

theorem Lp.below' (h : Lp W ao len cap Kd Nn Ss L Nt A F I k n r m v J fe fk fs w) (hb : Below w.heap.size w w') : Lp W ao len cap Kd Nn Ss L Nt A F I k n r m v J fe fk fs w' :=
  have hs : ∀ k o, w.heap[k]? = some o → w'.heap[k]? = some o := fun k _ h => (hb.block k (lt_of_block h)).trans h
  { h with bl := hs _ _ h.bl, bn := hs _ _ h.bn, ba := hs _ _ h.ba, bi := hs _ _ h.bi, bf := hs _ _ h.bf, own := own_below' h.own hb, js := fun j hj => ⟨hs _ _ (h.js j hj).1, (h.js j hj).2⟩,
           below := h.below.trans (hb.mono h.below.size) }

/-- One more function. -/
theorem Lp.app (h : Lp W ao len cap Kd Nn Ss L Nt A F I k k r m v J fe fk fs w) {v' : Value} (ho : w'.ownsRow W.heap.size 1 1 v' (k + 1) ((List.range k).map (fnAt L Nt J) ++ [fnAt L Nt (fun _ => I) k])) (hg : w.grownBy w' v.ownBlock) :
    Lp W ao len cap Kd Nn Ss L Nt A F I k (k + 1) r m v' (fun j => if j = k then I else J j) fe fk fs w' := by
  have hs : ∀ (j : Nat) (cs : Array Value) (t : TypeId), 1 ≠ t → w.heap[j]? = some (.cells cs t) → w'.heap[j]? = some (.cells cs t) := fun j cs t ht hj => (hg.block j (lt_of_block hj) (own_ne h.own hj ht)).trans hj
  refine { h with bl := hs _ _ _ (by decide) h.bl, bn := hs _ _ _ (by decide) h.bn, ba := hs _ _ _ (by decide) h.ba, bi := hs _ _ _ (by decide) h.bi, bf := hs _ _ _ (by decide) h.bf, own := ?_, js := ?_, below := ?_ }
  · rw [List.range_succ, List.map_append, List.map_singleton]
    have e1 : (List.range k).map (fnAt L Nt (fun j => if j = k then I else J j)) = (List.range k).map (fnAt L Nt J) := by
      apply List.map_congr_left
      intro j hj
      have : j ≠ k := by have := List.mem_range.1 hj; omega
      simp [fnAt, this]
    have e2 : fnAt L Nt (fun j => if j = k then I else J j) k = fnAt L Nt (fun _ => I) k := by simp [fnAt]
    rw [e1, e2]; exact ho
  · intro j hj
    by_cases hjk : j = k
    · subst hjk; simp only [if_true]; exact ⟨hs _ _ _ (by decide) h.bi, h.ia⟩
    · simp only [hjk, if_false]
      have := h.js j (by omega)
      exact ⟨hs _ _ _ (by decide) this.1, this.2⟩
  · refine ⟨hg.os.trans h.below.os, hg.tape.trans h.below.tape, hg.output.trans h.below.output, Nat.le_trans h.below.size hg.size, fun j hj => ?_⟩
    have hne : some j ≠ v.ownBlock := fun e => by have := h.own.lt j e.symm; omega
    exact (hg.block j (Nat.lt_of_lt_of_le hj h.below.size) hne).trans (h.below.block j hj)

/-- The next one's number has a block of its own. -/
theorem Lp.next (h : Lp W ao len cap Kd Nn Ss L Nt A F I k (k + 1) (k + 1) m v J fe fk fs w) (hk : k < len) :
    Lp W ao len cap Kd Nn Ss L Nt A F w.heap.size (k + 1) (k + 1) (k + 1) m v J fe fk fs (w.alloc (.cells #[.int .i64 ((k : Int) + 1)] 3)) :=
  have hA := lt_of_block h.ba
  { h.below' (Below.alloc1 w _) with le := hk, bi := new_block _ _, ia := by omega }

/-- The fault is kept elsewhere. -/
theorem Lp.keep (h : Lp W ao len cap Kd Nn Ss L Nt A F I k n r m v J fe fk fs w) {fe' fk' : Int} {fs' : ByteArray} {r' m' : Nat} (hb : Off F 1 w w') (hF : w'.heap[F]? = some (.cells #[.int .i64 fe', .int .i64 fk', .string fs'] 26))
    (hres : Res len Kd Nn Ss r' m' fe' fk' fs') : Lp W ao len cap Kd Nn Ss L Nt A F I k n r' m' v J fe' fk' fs' w' := by
  have hs : ∀ (j : Nat) (cs : Array Value) (t : TypeId), 26 ≠ t → w.heap[j]? = some (.cells cs t) → w'.heap[j]? = some (.cells cs t) := fun j cs t ht hj => hb.same hj (by
    have : j ≠ F := by
      rintro rfl
      rw [h.bf] at hj
      simp at hj
      exact ht hj.2
    omega)
  refine { h with bl := hs _ _ _ (by decide) h.bl, bn := hs _ _ _ (by decide) h.bn, ba := hs _ _ _ (by decide) h.ba, bi := hs _ _ _ (by decide) h.bi, bf := hF, own := own_off h.own hb (fun cs hc => by rw [h.bf] at hc; simp at hc), js := fun j hj => ⟨hs _ _ _ (by decide) (h.js j hj).1, (h.js j hj).2⟩, res := hres, below := ?_ }
  have hwf := h.wf
  exact ⟨hb.os.trans h.below.os, hb.tape.trans h.below.tape, hb.output.trans h.below.output, Nat.le_trans h.below.size hb.size, fun j hj => (hb.block j (Nat.lt_of_lt_of_le hj h.below.size) (by omega)).trans (h.below.block j hj)⟩

/-- The k-th one is good, or a bad one is known already. -/
theorem Res.skip (h : Res len Kd Nn Ss k m fe fk fs) (hg : m < k ∨ tell (Kd k) (Nn k) (Ss k) = (0, 0, ⟨#[]⟩)) : Res len Kd Nn Ss (k + 1) m fe fk fs := by
  refine ⟨fun i h1 h2 => ?_, ?_⟩
  · by_cases hi : i = k
    · subst hi
      rcases hg with hg | hg
      · omega
      · exact hg
    · exact h.good i h1 (by omega)
  · rcases h.last with h1 | ⟨h1, h2⟩
    · exact Or.inl h1
    · exact Or.inr ⟨by omega, h2⟩

theorem Res.take (h : Res len Kd Nn Ss k len 0 0 ⟨#[]⟩) (hk : k < len) (hf : tell (Kd k) (Nn k) (Ss k) = (fe, fk, fs)) (hfk : fk ≠ 0) : Res len Kd Nn Ss (k + 1) k fe fk fs :=
  ⟨fun i h1 _ => h.good i (by omega) h1, Or.inr ⟨by omega, hf, hfk⟩⟩

/-- What the list of functions has hold of, at the end. -/
theorem Lp.list {b off : Nat} (h : Lp W (some ⟨b, off, none⟩) len cap Kd Nn Ss L Nt A F I k len r m v J fe fk fs w) (hn : 0 < len) (hJ : JobsIn W b off len Kd Nn Ss) :
    ∃ g gc, v = .slice (some ⟨g, 0, none⟩) len gc ∧ FsIn g 0 L Nt b off len cap A J Kd Nn Ss w := by
  have hown := h.own
  rcases hown.2 with ⟨_, h0⟩ | ⟨g, gc, cur, rfl, hg, hgg, hle, hgc, hcs, htk⟩
  · omega
  · refine ⟨g, gc, rfl, hJ.block h.below.size (h.below.block _ hJ.bl), lt_of_block hgg, fun i hi => ?_, fun i hi => ?_, ?_, ?_⟩
    · have hc := World.ownsRow.cells hown (g := g) rfl i (fnAt L Nt J i) (by simp [hi])
      by_cases h0 : i = 0
      · subst h0; simpa [fnAt, Addr.add] using hc
      · simpa [fnAt, Addr.add, h0] using hc
    · have hj := h.js i hi
      have hlA : L ≠ A := by
        rintro rfl
        have := h.bl
        rw [h.ba] at this
        simp at this
      have hnA : Nt ≠ A := by
        rintro rfl
        have := h.bn
        rw [h.ba] at this
        simp at this
      exact ⟨h.bl, hj.1, h.bn, hlA, hj.2, hnA⟩
    · rintro rfl
      have := h.ba
      rw [hgg] at this
      simp at this
    · have h1 := hJ.bl
      have h2 := h.wa
      omega
end
end Go.Proofs.Ytdllgebccjmljaa
