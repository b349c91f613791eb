/-
  A caller's metadata, a caller's list of ints. Conditions: none.
-/
import Derived.Test.YtiblkfhcpepnfaaDoorMeta8
import Derived.Test.YtiblkfhcpepnfaaDoorK
import Derived.ProofKit
import Derived.Deep.Grids
namespace Go.Proofs.YtiblkfhcpepnfaaDoor
open Go.ChangeShapes Go.WideShapes Go.ChangeAt Go.RowKit Go.Lib

theorem cellsOf3 : Tryd.prog.cellsOf 3 = 1 := by kernel_rfl
theorem cellsOfMeta : Tryd.prog.cellsOf 23 = 3 := by kernel_rfl
theorem i64_wf {n : Int} (h : (Lit.int .i64 n).wf = true) : -9223372036854775808 ≤ n ∧ n ≤ 9223372036854775807 := by
  simpa [Lit.wf, IntKind.min, IntKind.max, IntKind.signed, IntKind.bits] using h

theorem trod_meta {H : Type} {enc : TypeId × Value → H} {w : World} {base : Nat} {spare : Nat → Bool} {held : Bool} {fuel : Nat} {cs : List Value} {x : DataW H × List MemPlace} (h : DataW.trod enc Tryd.prog w base spare held fuel 23 cs = some x) :
    ∃ m : Mt, cs = m.cells.toList ∧ (-9223372036854775808 ≤ m.a ∧ m.a ≤ 9223372036854775807) ∧ (-9223372036854775808 ≤ m.b ∧ m.b ≤ 9223372036854775807) ∧ (-9223372036854775808 ≤ m.c ∧ m.c ≤ 9223372036854775807) := by
  obtain ⟨xs, n, -, -, hl, hlen, hff⟩ := DataW.trod_struct Tryd.underlying23 h
  rw [cellsOfMeta] at hl
  have g0 : DataW.trod enc Tryd.prog w base spare held n 3 ((cs.drop 0).take (Tryd.prog.cellsOf 3)) = xs[0]? := hff 0 _ rfl
  have g1 : DataW.trod enc Tryd.prog w base spare held n 3 ((cs.drop 1).take (Tryd.prog.cellsOf 3)) = xs[1]? := hff 1 _ rfl
  have g2 : DataW.trod enc Tryd.prog w base spare held n 3 ((cs.drop 2).take (Tryd.prog.cellsOf 3)) = xs[2]? := hff 2 _ rfl
  have hl3 : xs.length = 3 := hlen
  match xs, hl3 with
  | [y0, y1, y2], _ =>
    rw [cellsOf3] at g0 g1 g2
    simp only [List.getElem?_cons_zero, List.getElem?_cons_succ] at g0 g1 g2
    obtain ⟨a, e0, -, w0⟩ := DataW.trod_int Tryd.underlying3 g0
    obtain ⟨b, e1, -, w1⟩ := DataW.trod_int Tryd.underlying3 g1
    obtain ⟨c, e2, -, w2⟩ := DataW.trod_int Tryd.underlying3 g2
    refine ⟨⟨a, b, c⟩, ?_, i64_wf w0, i64_wf w1, i64_wf w2⟩
    match cs, hl with
    | [a0, a1, a2], _ =>
      simp at e0 e1 e2
      subst e0 e1 e2
      rfl
theorem open_meta {H : Type} {enc : TypeId × Value → H} {W : World} {v : Value} {d : DataW H} {ps : List MemPlace} (h : DataW.Trod enc Tryd.prog W 0 (fun _ => true) true 23 v d ps)
    {base : Nat} (hv : Value.okWide Tryd.prog W .any base 23 v) : ∃ m : Mt, v = m.val ∧ (-9223372036854775808 ≤ m.a ∧ m.a ≤ 9223372036854775807) ∧ (-9223372036854775808 ≤ m.b ∧ m.b ≤ 9223372036854775807) ∧ (-9223372036854775808 ≤ m.c ∧ m.c ≤ 9223372036854775807) := by
  obtain ⟨cs, rfl, _⟩ := okWide_struct Tryd.underlying23 hv
  obtain ⟨fuel, hf⟩ := h
  obtain ⟨m, he, hk⟩ := trod_meta hf
  refine ⟨m, ?_, hk⟩
  have : cs = m.cells := by
    apply Array.toList_inj.1
    exact he
  rw [this]; rfl

theorem open_ints' {H : Type} {enc : TypeId × Value → H} {W : World} {v : Value} {d : DataW H} {ps : List MemPlace} (h : DataW.Trod enc Tryd.prog W 0 (fun _ => true) true 24 v d ps)
    {base : Nat} (hv : Value.okWide Tryd.prog W .any base 24 v) : ∃ ao len cap T, v = .slice ao len cap ∧ IntArg W.heap.size W ao len T ∧ len ≤ maxLen ∧ (ao = none → cap = 0) ∧ ∀ i, -9223372036854775808 ≤ T i ∧ T i ≤ 9223372036854775807 := by
  obtain ⟨ao, len, cap, rfl⟩ := okWide_slice Tryd.underlying24 hv
  obtain ⟨fuel, hf⟩ := h
  rcases Go.Deep.open_slice Tryd.underlying24 hf with ⟨hcs, _⟩ | ⟨a, len', cap', m, n, D, Pl, hcs, _, hl, hm, hmm, _, hx⟩
  · simp only [Value.cells, List.cons.injEq, and_true] at hcs
    rw [hcs]
    exact ⟨none, 0, 0, fun _ => 0, rfl, ⟨fun hi => by omega⟩, by simp, fun _ => rfl, fun _ => by simp⟩
  · simp only [Value.cells, List.cons.injEq, and_true] at hcs
    rw [hcs]
    simp only [if_true] at hmm
    subst hmm
    rw [cellsOf3] at hx
    obtain ⟨J, hJ⟩ := Go.Deep.choose_lt (α := Int) (n := m) (p := fun i e => (-9223372036854775808 ≤ e ∧ e ≤ 9223372036854775807) ∧ W.cell? (a.add (i * 1)) = some (.int .i64 e)) (fun i hi => by
      obtain ⟨cs', h1, h2⟩ := hx i hi
      obtain ⟨e, rfl, -, he⟩ := DataW.trod_int Tryd.underlying3 h2
      obtain ⟨_, _, hc⟩ := World.cells?_some h1
      refine ⟨e, i64_wf he, ?_⟩
      have := hc 0 (by omega)
      simpa [Addr.add] using this)
    refine ⟨some a, len', m, fun i => if i < m then J i else 0, rfl, ⟨fun hi => ?_⟩, Nat.le_trans hl hm, (fun e => (by cases e)), fun i => ?_⟩
    · obtain ⟨b, off, sp⟩ := a
      have hsp : sp = none := by
        have h0 := (hJ 0 (by omega)).2
        cases sp with
        | none => rfl
        | some sp =>
          unfold World.cell? Addr.add at h0
          split at h0 <;> simp at h0
      subst hsp
      have hc : ∀ i, i < m → W.cell? ⟨b, off + i, none⟩ = some (.int .i64 (J i)) := fun i hi => by
        have := (hJ i hi).2
        rw [Nat.mul_one] at this
        have h1 : ((⟨b, off, none⟩ : Addr).add i) = ⟨b, off + i, none⟩ := by
          unfold Addr.add
          by_cases hi : i = 0 <;> simp [hi]
        rw [h1] at this
        exact this
      have hb : b < W.heap.size := by
        have h0 := hc 0 (by omega)
        by_cases hb : b < W.heap.size
        · exact hb
        · have : W.heap[b]? = none := by simp; omega
          simp [World.cell?, this] at h0
      refine ⟨b, off, rfl, hb, fun i hi => ?_⟩
      have : (if i < m then J i else 0) = J i := if_pos (by omega)
      rw [this]
      exact hc i (by omega)
    · show -9223372036854775808 ≤ (if i < m then J i else 0) ∧ (if i < m then J i else 0) ≤ 9223372036854775807
      split
      · exact (hJ i (by assumption)).1
      · simp
end Go.Proofs.YtiblkfhcpepnfaaDoor
