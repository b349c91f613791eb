/-
  A caller's list of events, a caller's event: what stands where. Conditions: none.
-/
import Derived.Test.YtimmdcajadddmaaView5
import Derived.ProofKit
import Derived.Deep.Grids
namespace Go.Proofs.Ytimmdcajadddmaa
open Go.ChangeShapes Go.WideShapes Go.ChangeAt Go.RowKit Go.Lib

theorem addr_add1 (b off i : Nat) : ((⟨b, off, none⟩ : Addr).add i) = ⟨b, off + i, none⟩ := by
  unfold Addr.add
  by_cases hi : i = 0 <;> simp [hi]
theorem addr_spot {w : World} {a : Addr} {v : Value} (h : w.cell? a = some v) : a.spot = none := by
  obtain ⟨b, off, sp⟩ := a
  cases sp with
  | none => rfl
  | some sp =>
    unfold World.cell? at h
    split at h <;> simp at h
theorem block_of_cell {w : World} {b o : Nat} {v : Value} (h : w.cell? ⟨b, o, none⟩ = some v) : b < w.heap.size := by
  by_cases hb : b < w.heap.size
  · exact hb
  · have : w.heap[b]? = none := by simp; omega
    simp [World.cell?, this] at h

theorem trod_flt {H : Type} {enc : TypeId × Value → H} {P : Program} {w : World} {base : Nat} {spare : Nat → Bool} {held : Bool} {fuel : Nat} {t : TypeId} {k : FloatKind} {cs : List Value} {x : DataW H × List MemPlace} (ht : P.underlying t = some (.float k)) (h : DataW.trod enc P w base spare held fuel t cs = some x) :
    ∃ n, cs = [.float k n] ∧ (Lit.float k n).wf = true := by
  cases fuel with
  | zero => simp [DataW.trod] at h
  | succ n =>
    unfold DataW.trod at h
    rw [ht] at h
    split at h <;> simp_all

/-- What a caller's event bears out. -/
structure EvOk (e : Ev) : Prop where
  id : -9223372036854775808 ≤ e.id ∧ e.id ≤ 9223372036854775807
  version : -9223372036854775808 ≤ e.version ∧ e.version ≤ 9223372036854775807
  position : -9223372036854775808 ≤ e.position ∧ e.position ≤ 9223372036854775807
  time : -9223372036854775808 ≤ e.time ∧ e.time ≤ 9223372036854775807
  value : (Lit.float .f64 e.value).wf = true
  ty : e.ty.size ≤ maxLen
  data : e.data.size ≤ maxLen
  stream : e.stream.size ≤ maxLen

theorem cellsOf3 : Try.prog.cellsOf 3 = 1 := by kernel_rfl
theorem cellsOf9 : Try.prog.cellsOf 9 = 1 := by kernel_rfl
theorem cellsOf25 : Try.prog.cellsOf 25 = 1 := by kernel_rfl
theorem cellsOf27 : Try.prog.cellsOf 27 = 4 := by kernel_rfl
theorem cellsOf29 : Try.prog.cellsOf 29 = 8 := by kernel_rfl

theorem i64_wf {n : Int} (h : (Lit.int .i64 n).wf = true) : -9223372036854775808 ≤ n ∧ n ≤ 9223372036854775807 := by
  simpa [Lit.wf, IntKind.min, IntKind.max, IntKind.signed, IntKind.bits] using h

theorem take1_drop {cs : List Value} {i : Nat} {v : Value} (h : (cs.drop i).take 1 = [v]) : cs[i]? = some v := by
  have : ((cs.drop i).take 1)[0]? = some v := by rw [h]; rfl
  simpa using this

theorem trod_event {H : Type} {enc : TypeId × Value → H} {w : World} {base : Nat} {spare : Nat → Bool} {held : Bool} {fuel : Nat} {cs : List Value} {x : DataW H × List MemPlace} (h : DataW.trod enc Try.prog w base spare held fuel 29 cs = some x) :
    ∃ e : Ev, cs = e.cells.toList ∧ EvOk e := by
  obtain ⟨xs, n, -, -, hl, hlen, hf⟩ := DataW.trod_struct Try.underlying29 h
  rw [cellsOf29] at hl
  have g0 : DataW.trod enc Try.prog w base spare held n 27 ((cs.drop 0).take (Try.prog.cellsOf 27)) = xs[0]? := hf 0 _ rfl
  have g1 : DataW.trod enc Try.prog w base spare held n 9 ((cs.drop 4).take (Try.prog.cellsOf 9)) = xs[1]? := hf 1 _ rfl
  have g2 : DataW.trod enc Try.prog w base spare held n 3 ((cs.drop 5).take (Try.prog.cellsOf 3)) = xs[2]? := hf 2 _ rfl
  have g3 : DataW.trod enc Try.prog w base spare held n 3 ((cs.drop 6).take (Try.prog.cellsOf 3)) = xs[3]? := hf 3 _ rfl
  have g4 : DataW.trod enc Try.prog w base spare held n 3 ((cs.drop 7).take (Try.prog.cellsOf 3)) = xs[4]? := hf 4 _ rfl
  have hl5 : xs.length = 5 := hlen
  match xs, hl5 with
  | [y0, y1, y2, y3, y4], _ =>
    rw [cellsOf27] at g0
    rw [cellsOf9] at g1
    rw [cellsOf3] at g2 g3 g4
    simp only [List.getElem?_cons_zero, List.getElem?_cons_succ] at g0 g1 g2 g3 g4
    obtain ⟨st, e1, -, w1⟩ := DataW.trod_string Try.underlying9 g1
    obtain ⟨ve, e2, -, w2⟩ := DataW.trod_int Try.underlying3 g2
    obtain ⟨po, e3, -, w3⟩ := DataW.trod_int Try.underlying3 g3
    obtain ⟨ti, e4, -, w4⟩ := DataW.trod_int Try.underlying3 g4
    obtain ⟨ys, m, -, -, hl', hlen', hf'⟩ := DataW.trod_struct Try.underlying27 g0
    have k0 : DataW.trod enc Try.prog w base spare held m 3 ((((cs.drop 0).take 4).drop 0).take (Try.prog.cellsOf 3)) = ys[0]? := hf' 0 _ rfl
    have k1 : DataW.trod enc Try.prog w base spare held m 9 ((((cs.drop 0).take 4).drop 1).take (Try.prog.cellsOf 9)) = ys[1]? := hf' 1 _ rfl
    have k2 : DataW.trod enc Try.prog w base spare held m 9 ((((cs.drop 0).take 4).drop 2).take (Try.prog.cellsOf 9)) = ys[2]? := hf' 2 _ rfl
    have k3 : DataW.trod enc Try.prog w base spare held m 25 ((((cs.drop 0).take 4).drop 3).take (Try.prog.cellsOf 25)) = ys[3]? := hf' 3 _ rfl
    have hl4 : ys.length = 4 := hlen'
    match ys, hl4 with
    | [z0, z1, z2, z3], _ =>
      rw [cellsOf3] at k0
      rw [cellsOf9] at k1 k2
      rw [cellsOf25] at k3
      simp only [List.getElem?_cons_zero, List.getElem?_cons_succ] at k0 k1 k2 k3
      obtain ⟨id, c0, -, u0⟩ := DataW.trod_int Try.underlying3 k0
      obtain ⟨ty, c1, -, u1⟩ := DataW.trod_string Try.underlying9 k1
      obtain ⟨da, c2, -, u2⟩ := DataW.trod_string Try.underlying9 k2
      obtain ⟨va, c3, u3⟩ := trod_flt Try.underlying25 k3
      refine ⟨⟨id, ty, da, va, st, ve, po, ti⟩, ?_, i64_wf u0, i64_wf w2, i64_wf w3, i64_wf w4, u3, u1, u2, w1⟩
      match cs, hl with
      | [a0, a1, a2, a3, a4, a5, a6, a7], _ =>
        simp at e1 e2 e3 e4 c0 c1 c2 c3
        subst e1 e2 e3 e4 c0 c1 c2 c3
        rfl

instance : Inhabited Ev := ⟨⟨0, ⟨#[]⟩, ⟨#[]⟩, 0, ⟨#[]⟩, 0, 0, 0⟩⟩
theorem ev_default : (default : Ev) = ⟨0, ⟨#[]⟩, ⟨#[]⟩, 0, ⟨#[]⟩, 0, 0, 0⟩ := rfl

theorem open_events {H : Type} {enc : TypeId × Value → H} {W : World} {v : Value} {d : DataW H} {ps : List MemPlace} (h : DataW.Trod enc Try.prog W 0 (fun _ => true) true 22 v d ps)
    {base : Nat} (hv : Value.okWide Try.prog W .any base 22 v) : ∃ ao len cap E, v = .slice ao len cap ∧ EvArg W.heap.size W ao len E ∧ len ≤ maxLen ∧ ∀ i, EvOk (E i) := by
  obtain ⟨ao, len, cap, rfl⟩ := okWide_slice Try.underlying22 hv
  obtain ⟨fuel, hf⟩ := h
  have z : EvOk ⟨0, ⟨#[]⟩, ⟨#[]⟩, 0, ⟨#[]⟩, 0, 0, 0⟩ := ⟨by decide, by decide, by decide, by decide, by decide, by decide, by decide, by decide⟩
  rcases Go.Deep.open_slice Try.underlying22 hf with ⟨hcs, _⟩ | ⟨a, len', cap', m, n, D, Pl, hcs, _, hl, hm, hmm, _, hx⟩
  · simp only [Value.cells, List.cons.injEq, and_true] at hcs
    rw [hcs]
    exact ⟨none, 0, 0, fun _ => ⟨0, ⟨#[]⟩, ⟨#[]⟩, 0, ⟨#[]⟩, 0, 0, 0⟩, rfl, ⟨fun hi => by omega⟩, by simp, fun _ => z⟩
  · simp only [Value.cells, List.cons.injEq, and_true] at hcs
    rw [hcs]
    simp only [if_true] at hmm
    subst hmm
    rw [cellsOf29] at hx
    obtain ⟨J, hJ⟩ := Go.Deep.choose_lt (α := Ev) (n := m) (p := fun i e => EvOk e ∧ ∀ j, j < 8 → W.cell? ((a.add (i * 8)).add j) = e.cells.toList[j]?) (fun i hi => by
      obtain ⟨cs', h1, h2⟩ := hx i hi
      obtain ⟨e, rfl, he⟩ := trod_event h2
      obtain ⟨_, _, hc⟩ := World.cells?_some h1
      refine ⟨e, he, fun j hj => ?_⟩
      rw [hc j hj])
    refine ⟨some a, len', m, fun i => if i < m then J i else default, rfl, ⟨fun hi => ?_⟩, Nat.le_trans hl hm, fun i => ?_⟩
    · obtain ⟨b, off, sp⟩ := a
      have hsp : sp = none := by
        have h0 := (hJ 0 (by omega)).2 0 (by omega)
        have h1 : (J 0).cells.toList[0]? = some (.int .i64 (J 0).id) := rfl
        rw [h1] at h0
        have := addr_spot h0
        unfold Addr.add at this
        simpa using this
      subst hsp
      have hc : ∀ i, i < m → ∀ j, j < 8 → W.cell? ⟨b, off + i * 8 + j, none⟩ = (J i).cells.toList[j]? := fun i hi j hj => by
        have := (hJ i hi).2 j hj
        rw [addr_add1, addr_add1] at this
        exact this
      have hE : ∀ i, i < len' → (if i < m then J i else default) = J i := fun i hi => if_pos (by omega)
      have hb : b < W.heap.size := block_of_cell ((hc 0 (by omega) 0 (by omega)).trans (show (J 0).cells.toList[0]? = some (.int .i64 (J 0).id) from rfl))
      refine ⟨b, off, rfl, hb, ⟨hb, ?_, ?_, ?_, ?_, ?_, ?_, ?_, ?_⟩⟩
      all_goals
        intro i hi
        simp only [hE i hi]
      · exact (hc i (by omega) 0 (by omega)).trans rfl
      · exact (hc i (by omega) 1 (by omega)).trans rfl
      · exact (hc i (by omega) 2 (by omega)).trans rfl
      · exact (hc i (by omega) 3 (by omega)).trans rfl
      · exact (hc i (by omega) 4 (by omega)).trans rfl
      · exact (hc i (by omega) 5 (by omega)).trans rfl
      · exact (hc i (by omega) 6 (by omega)).trans rfl
      · exact (hc i (by omega) 7 (by omega)).trans rfl
    · show EvOk (if i < m then J i else default)
      split
      · exact (hJ i (by assumption)).1
      · exact z
end Go.Proofs.Ytimmdcajadddmaa
