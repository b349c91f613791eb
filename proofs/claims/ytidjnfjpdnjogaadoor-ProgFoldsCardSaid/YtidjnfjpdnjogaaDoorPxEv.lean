/-
  Events as they lie in memory: a caller's list; Few; the document's SameStored, and chroniclebook's over lists. Conditions: none.
-/
import Derived.Test.YtidjnfjpdnjogaaDoorPgTx
import Derived.Test.YtidjnfjpdnjogaaDoorM7
import Derived.ProofKit
import Derived.Deep.Grids
import Derived.Deep.CutBlock
import Derived.Deep.DeepCutAuto
namespace Go.Proofs.YtidjnfjpdnjogaaDoor
open Go.ChangeShapes Go.WideShapes Go.ChangeAt Go.RowKit Go.Lib

/-- An event, by its cells. -/
structure Ev where
  id : Int
  ty : ByteArray
  data : ByteArray
  value : Nat
  stream : ByteArray
  version : Int
  position : Int
  time : Int
/-- Its cells. -/
def Ev.cells (e : Ev) : Array Value := #[.int .i64 e.id, .string e.ty, .string e.data, .float .f64 e.value, .string e.stream, .int .i64 e.version, .int .i64 e.position, .int .i64 e.time]
/-- As a value. -/
abbrev Ev.val (e : Ev) : Value := .agg #[.int .i64 e.id, .string e.ty, .string e.data, .float .f64 e.value, .string e.stream, .int .i64 e.version, .int .i64 e.position, .int .i64 e.time]


/-- The events of a list, as they lie in memory. -/
structure EvIn (w : World) (b off len : Nat) (E : Nat → Ev) : Prop where
  bl : b < w.heap.size
  c0 : ∀ i, i < len → w.cell? ⟨b, off + i * 8, none⟩ = some (.int .i64 (E i).id)
  c1 : ∀ i, i < len → w.cell? ⟨b, off + i * 8 + 1, none⟩ = some (.string (E i).ty)
  c2 : ∀ i, i < len → w.cell? ⟨b, off + i * 8 + 2, none⟩ = some (.string (E i).data)
  c3 : ∀ i, i < len → w.cell? ⟨b, off + i * 8 + 3, none⟩ = some (.float .f64 (E i).value)
  c4 : ∀ i, i < len → w.cell? ⟨b, off + i * 8 + 4, none⟩ = some (.string (E i).stream)
  c5 : ∀ i, i < len → w.cell? ⟨b, off + i * 8 + 5, none⟩ = some (.int .i64 (E i).version)
  c6 : ∀ i, i < len → w.cell? ⟨b, off + i * 8 + 6, none⟩ = some (.int .i64 (E i).position)
  c7 : ∀ i, i < len → w.cell? ⟨b, off + i * 8 + 7, none⟩ = some (.int .i64 (E i).time)
theorem EvIn.block {w w' : World} {b off len : Nat} {E : Nat → Ev} (h : EvIn w b off len E) (hs : w.heap.size ≤ w'.heap.size) (hb : w'.heap[b]? = w.heap[b]?) : EvIn w' b off len E :=
  ⟨Nat.lt_of_lt_of_le h.bl hs, fun i hi => (World.cell?_of_block (w := w) hb).trans (h.c0 i hi), fun i hi => (World.cell?_of_block (w := w) hb).trans (h.c1 i hi), fun i hi => (World.cell?_of_block (w := w) hb).trans (h.c2 i hi), fun i hi => (World.cell?_of_block (w := w) hb).trans (h.c3 i hi),
   fun i hi => (World.cell?_of_block (w := w) hb).trans (h.c4 i hi), fun i hi => (World.cell?_of_block (w := w) hb).trans (h.c5 i hi), fun i hi => (World.cell?_of_block (w := w) hb).trans (h.c6 i hi), fun i hi => (World.cell?_of_block (w := w) hb).trans (h.c7 i hi)⟩
theorem EvIn.below {W w : World} {b off len : Nat} {E : Nat → Ev} (h : EvIn W b off len E) (hb : Below W.heap.size W w) : EvIn w b off len E := h.block hb.size (hb.block _ h.bl)
theorem EvIn.low {n₀ : Nat} {W w : World} {b off len : Nat} {E : Nat → Ev} (h : EvIn W b off len E) (hb : Below n₀ W w) (hn : b < n₀) : EvIn w b off len E := h.block hb.size (hb.block _ hn)


/-- The list of a caller: nil, or its events lie in memory below n₀. -/
structure EvArg (n₀ : Nat) (W : World) (ao : Option Addr) (len : Nat) (E : Nat → Ev) : Prop where
  at_ : 0 < len → ∃ b off, ao = some ⟨b, off, none⟩ ∧ b < n₀ ∧ EvIn W b off len E
theorem EvArg.low {n₀ : Nat} {W w : World} {ao : Option Addr} {len : Nat} {E : Nat → Ev} (h : EvArg n₀ W ao len E) (hb : Below n₀ W w) : EvArg n₀ w ao len E :=
  ⟨fun hl => by obtain ⟨b, off, e, hn, hi⟩ := h.at_ hl; exact ⟨b, off, e, hn, hi.low hb hn⟩⟩


/-- What Few tells. -/
def FewPost (mx : Int) (len : Nat) (E : Nat → Ev) (w : World) (e : Ending) (w' : World) : Prop := ∃ b, e = .returned (.bool b) ∧ (b = true → (len : Int) ≤ mx ∧ ∀ i, i < len → (E i).stream.size ≤ 100 ∧ (E i).ty.size ≤ 100 ∧ (E i).data.size ≤ 300) ∧ w' = w
set_option maxRecDepth 100000 in
set_option maxHeartbeats 1000000 in
/-- Few: where it says yes, there are few. -/
theorem few_any (mx : Int) (hmx : mx ≤ 1000) (ao : Option Addr) (len cap : Nat) (E : Nat → Ev) (w : World) (hE : EvArg w.heap.size w ao len E) :
    Calls Tryd.prog 20 #[.int .i64 mx, .slice ao len cap] w (FewPost mx len E w) := by
  go_enter Tryd.func20, Tryd.ntmps20
  go_wp2_with fail
  go_loopg [5] len (fun g i wr => ∃ (k : Nat), g = len - k ∧ k ≤ len ∧ (k = 0 ∨ (k : Int) ≤ mx) ∧ i = .int .i64 k ∧ wr = w ∧ ∀ i, i < k → (E i).stream.size ≤ 100 ∧ (E i).ty.size ≤ 100 ∧ (E i).data.size ≤ 300)
  case atStart => exact ⟨0, by omega, by omega, Or.inl rfl, rfl, rfl, fun i hi => by omega⟩
  case round =>
    obtain ⟨k, hg, hk, hkm, rfl, rfl, hall⟩ := hrel
    have HG := Lib.hid hg; clear hg
    by_cases hlt : k < len
    · by_cases hm : (k : Int) < mx
      · obtain ⟨b, off, rfl, hbn, hEi⟩ := hE.at_ (by omega)
        have g1 := hEi.c1 k hlt
        have g2 := hEi.c2 k hlt
        have g4 := hEi.c4 k hlt
        have hl : (k : Int) < (len : Int) := by omega
        have hw1 : IntKind.i64.wrap ((k : Int) + 1) = (k : Int) + 1 := IntWalk.i64_in _ (by omega)
        by_cases a1 : (100 : Int) < ((E k).stream.size : Int)
        · clear hE hEi
          go_wp2_with fail
          go_ret
          exact ⟨false, rfl, by simp, rfl⟩
        · by_cases a2 : (100 : Int) < ((E k).ty.size : Int)
          · clear hE hEi
            go_wp2_with fail
            go_ret
            exact ⟨false, rfl, by simp, rfl⟩
          · by_cases a3 : (300 : Int) < ((E k).data.size : Int)
            · clear hE hEi
              go_wp2_with fail
              go_ret
              exact ⟨false, rfl, by simp, rfl⟩
            · clear hE hEi
              have HA := Lib.hid hall; clear hall
              go_wp2_with fail
              go_roundg (len - (k + 1))
              case measure => have := HG.out; omega
              refine ⟨k + 1, by omega, by omega, Or.inr (by omega), rfl, rfl, fun i hi => ?_⟩
              by_cases hik : i = k
              · subst hik; omega
              · exact HA.out i (by omega)
      · have hl : (k : Int) < (len : Int) := by omega
        have hfl : ¬ (len : Int) ≤ mx := by omega
        go_wp2_with fail
        go_ret
        exact ⟨false, rfl, by simp, rfl⟩
    · obtain rfl : k = len := by omega
      have hl : ¬ (k : Int) < (k : Int) := by omega
      go_wp2_with fail
      go_ret
      exact ⟨_, rfl, fun h => ⟨by simpa using h, hall⟩, rfl⟩


theorem trod_flt {H : Type} {enc : TypeId × Value → H} {P : Program} {w : World} {base : Nat} {spare : Nat → Bool} {held : Bool} {fuel : Nat} {t : TypeId} {k : FloatKind} {cs : List Value} {x : DataW H × List MemPlace} (ht : P.underlying t = some (.float k)) (h : DataW.trod enc P w base spare held fuel t cs = some x) :
    ∃ n, cs = [.float k n] ∧ (Lit.float k n).wf = true := by
  cases fuel with
  | zero => simp [DataW.trod] at h
  | succ n =>
    unfold DataW.trod at h
    rw [ht] at h
    split at h <;> simp_all

/-- What a caller's event bears out. -/
structure EvOk (e : Ev) : Prop where
  id : -9223372036854775808 ≤ e.id ∧ e.id ≤ 9223372036854775807
  version : -9223372036854775808 ≤ e.version ∧ e.version ≤ 9223372036854775807
  position : -9223372036854775808 ≤ e.position ∧ e.position ≤ 9223372036854775807
  time : -9223372036854775808 ≤ e.time ∧ e.time ≤ 9223372036854775807
  value : (Lit.float .f64 e.value).wf = true
  ty : e.ty.size ≤ maxLen
  data : e.data.size ≤ maxLen
  stream : e.stream.size ≤ maxLen

theorem cellsOf3 : Tryd.prog.cellsOf 3 = 1 := by kernel_rfl

theorem cellsOfF : Tryd.prog.cellsOf 23 = 1 := by kernel_rfl
theorem cellsOfE : Tryd.prog.cellsOf 35 = 4 := by kernel_rfl
theorem cellsOfS : Tryd.prog.cellsOf 54 = 8 := by kernel_rfl

theorem i64_wf {n : Int} (h : (Lit.int .i64 n).wf = true) : -9223372036854775808 ≤ n ∧ n ≤ 9223372036854775807 := by
  simpa [Lit.wf, IntKind.min, IntKind.max, IntKind.signed, IntKind.bits] using h

theorem take1_drop {cs : List Value} {i : Nat} {v : Value} (h : (cs.drop i).take 1 = [v]) : cs[i]? = some v := by
  have : ((cs.drop i).take 1)[0]? = some v := by rw [h]; rfl
  simpa using this

set_option maxRecDepth 100000 in
theorem trod_event {H : Type} {enc : TypeId × Value → H} {w : World} {base : Nat} {spare : Nat → Bool} {held : Bool} {fuel : Nat} {cs : List Value} {x : DataW H × List MemPlace} (h : DataW.trod enc Tryd.prog w base spare held fuel 54 cs = some x) :
    ∃ e : Ev, cs = e.cells.toList ∧ EvOk e := by
  obtain ⟨xs, n, -, -, hl, hlen, hf⟩ := DataW.trod_struct Tryd.underlying54 h
  rw [cellsOfS] at hl
  have g0 : DataW.trod enc Tryd.prog w base spare held n 35 ((cs.drop 0).take (Tryd.prog.cellsOf 35)) = xs[0]? := hf 0 _ rfl
  have g1 : DataW.trod enc Tryd.prog w base spare held n 9 ((cs.drop 4).take (Tryd.prog.cellsOf 9)) = xs[1]? := hf 1 _ rfl
  have g2 : DataW.trod enc Tryd.prog w base spare held n 3 ((cs.drop 5).take (Tryd.prog.cellsOf 3)) = xs[2]? := hf 2 _ rfl
  have g3 : DataW.trod enc Tryd.prog w base spare held n 3 ((cs.drop 6).take (Tryd.prog.cellsOf 3)) = xs[3]? := hf 3 _ rfl
  have g4 : DataW.trod enc Tryd.prog w base spare held n 3 ((cs.drop 7).take (Tryd.prog.cellsOf 3)) = xs[4]? := hf 4 _ rfl
  have hl5 : xs.length = 5 := hlen
  match xs, hl5 with
  | [y0, y1, y2, y3, y4], _ =>
    rw [cellsOfE] at g0
    rw [cellsOf9] at g1
    rw [cellsOf3] at g2 g3 g4
    simp only [List.getElem?_cons_zero, List.getElem?_cons_succ] at g0 g1 g2 g3 g4
    obtain ⟨st, e1, -, w1⟩ := DataW.trod_string Tryd.underlying9 g1
    obtain ⟨ve, e2, -, w2⟩ := DataW.trod_int Tryd.underlying3 g2
    obtain ⟨po, e3, -, w3⟩ := DataW.trod_int Tryd.underlying3 g3
    obtain ⟨ti, e4, -, w4⟩ := DataW.trod_int Tryd.underlying3 g4
    obtain ⟨ys, m, -, -, hl', hlen', hf'⟩ := DataW.trod_struct Tryd.underlying35 g0
    have k0 : DataW.trod enc Tryd.prog w base spare held m 3 ((((cs.drop 0).take 4).drop 0).take (Tryd.prog.cellsOf 3)) = ys[0]? := hf' 0 _ rfl
    have k1 : DataW.trod enc Tryd.prog w base spare held m 9 ((((cs.drop 0).take 4).drop 1).take (Tryd.prog.cellsOf 9)) = ys[1]? := hf' 1 _ rfl
    have k2 : DataW.trod enc Tryd.prog w base spare held m 9 ((((cs.drop 0).take 4).drop 2).take (Tryd.prog.cellsOf 9)) = ys[2]? := hf' 2 _ rfl
    have k3 : DataW.trod enc Tryd.prog w base spare held m 23 ((((cs.drop 0).take 4).drop 3).take (Tryd.prog.cellsOf 23)) = ys[3]? := hf' 3 _ rfl
    have hl4 : ys.length = 4 := hlen'
    match ys, hl4 with
    | [z0, z1, z2, z3], _ =>
      rw [cellsOf3] at k0
      rw [cellsOf9] at k1 k2
      rw [cellsOfF] at k3
      simp only [List.getElem?_cons_zero, List.getElem?_cons_succ] at k0 k1 k2 k3
      obtain ⟨id, c0, -, u0⟩ := DataW.trod_int Tryd.underlying3 k0
      obtain ⟨ty, c1, -, u1⟩ := DataW.trod_string Tryd.underlying9 k1
      obtain ⟨da, c2, -, u2⟩ := DataW.trod_string Tryd.underlying9 k2
      obtain ⟨va, c3, u3⟩ := trod_flt Tryd.underlying23 k3
      refine ⟨⟨id, ty, da, va, st, ve, po, ti⟩, ?_, i64_wf u0, i64_wf w2, i64_wf w3, i64_wf w4, u3, u1, u2, w1⟩
      match cs, hl with
      | [a0, a1, a2, a3, a4, a5, a6, a7], _ =>
        simp at e1 e2 e3 e4 c0 c1 c2 c3
        subst e1 e2 e3 e4 c0 c1 c2 c3
        rfl

instance : Inhabited Ev := ⟨⟨0, ⟨#[]⟩, ⟨#[]⟩, 0, ⟨#[]⟩, 0, 0, 0⟩⟩
theorem ev_default : (default : Ev) = ⟨0, ⟨#[]⟩, ⟨#[]⟩, 0, ⟨#[]⟩, 0, 0, 0⟩ := rfl

set_option maxRecDepth 100000 in
theorem open_events {H : Type} {enc : TypeId × Value → H} {W : World} {v : Value} {d : DataW H} {ps : List MemPlace} (h : DataW.Trod enc Tryd.prog W 0 (fun _ => true) true 48 v d ps)
    {base : Nat} (hv : Value.okWide Tryd.prog W .any base 48 v) : ∃ ao len cap E, v = .slice ao len cap ∧ EvArg W.heap.size W ao len E ∧ len ≤ maxLen ∧ (∀ i, EvOk (E i)) ∧ len ≤ cap ∧ (ao = none → cap = 0) := by
  obtain ⟨ao, len, cap, rfl⟩ := okWide_slice Tryd.underlying48 hv
  obtain ⟨fuel, hf⟩ := h
  have z : EvOk ⟨0, ⟨#[]⟩, ⟨#[]⟩, 0, ⟨#[]⟩, 0, 0, 0⟩ := ⟨by decide, by decide, by decide, by decide, by decide, by decide, by decide, by decide⟩
  rcases Go.Deep.open_slice Tryd.underlying48 hf with ⟨hcs, _⟩ | ⟨a, len', cap', m, n, D, Pl, hcs, _, hl, hm, hmm, _, hx⟩
  · simp only [Value.cells, List.cons.injEq, and_true] at hcs
    rw [hcs]
    exact ⟨none, 0, 0, fun _ => ⟨0, ⟨#[]⟩, ⟨#[]⟩, 0, ⟨#[]⟩, 0, 0, 0⟩, rfl, ⟨fun hi => by omega⟩, by simp, fun _ => z, Nat.le_refl _, fun _ => rfl⟩
  · simp only [Value.cells, List.cons.injEq, and_true] at hcs
    rw [hcs]
    simp only [if_true] at hmm
    subst hmm
    rw [cellsOfS] at hx
    obtain ⟨J, hJ⟩ := Go.Deep.choose_lt (α := Ev) (n := m) (p := fun i e => EvOk e ∧ ∀ j, j < 8 → W.cell? ((a.add (i * 8)).add j) = e.cells.toList[j]?) (fun i hi => by
      obtain ⟨cs', h1, h2⟩ := hx i hi
      obtain ⟨e, rfl, he⟩ := trod_event h2
      obtain ⟨_, _, hc⟩ := World.cells?_some h1
      refine ⟨e, he, fun j hj => ?_⟩
      rw [hc j hj])
    refine ⟨some a, len', m, fun i => if i < m then J i else default, rfl, ⟨fun hi => ?_⟩, Nat.le_trans hl hm, fun i => ?_, hl, fun h => by cases h⟩
    · obtain ⟨b, off, sp⟩ := a
      have hsp : sp = none := by
        have h0 := (hJ 0 (by omega)).2 0 (by omega)
        have h1 : (J 0).cells.toList[0]? = some (.int .i64 (J 0).id) := rfl
        rw [h1] at h0
        have := addr_spot h0
        unfold Addr.add at this
        simpa using this
      subst hsp
      have hc : ∀ i, i < m → ∀ j, j < 8 → W.cell? ⟨b, off + i * 8 + j, none⟩ = (J i).cells.toList[j]? := fun i hi j hj => by
        have := (hJ i hi).2 j hj
        rw [addr_add1, addr_add1] at this
        exact this
      have hE : ∀ i, i < len' → (if i < m then J i else default) = J i := fun i hi => if_pos (by omega)
      have hb : b < W.heap.size := block_of_cell ((hc 0 (by omega) 0 (by omega)).trans (show (J 0).cells.toList[0]? = some (.int .i64 (J 0).id) from rfl))
      refine ⟨b, off, rfl, hb, ⟨hb, ?_, ?_, ?_, ?_, ?_, ?_, ?_, ?_⟩⟩
      all_goals
        intro i hi
        simp only [hE i hi]
      · exact (hc i (by omega) 0 (by omega)).trans rfl
      · exact (hc i (by omega) 1 (by omega)).trans rfl
      · exact (hc i (by omega) 2 (by omega)).trans rfl
      · exact (hc i (by omega) 3 (by omega)).trans rfl
      · exact (hc i (by omega) 4 (by omega)).trans rfl
      · exact (hc i (by omega) 5 (by omega)).trans rfl
      · exact (hc i (by omega) 6 (by omega)).trans rfl
      · exact (hc i (by omega) 7 (by omega)).trans rfl
    · show EvOk (if i < m then J i else default)
      split
      · exact (hJ i (by assumption)).1
      · exact z

abbrev Ev.first (e : Ev) : Value := .agg #[.int .i64 e.id, .string e.ty, .string e.data, .float .f64 e.value]

theorem list_cells {l : List Value} {w : World} {b : Nat} {t : TypeId} (h : w.heap[b]? = some (.cells l.toArray t)) (i : Nat) (v : Value) (hv : l[i]? = some v) : w.cell? ⟨b, i, none⟩ = some v := by
  simp [World.cell?, h, hv]


def sameE (e f : Ev) : Bool := ((e.id == f.id) && (e.ty.toList == f.ty.toList) && (e.data.toList == f.data.toList)) && sameW e.value f.value
def sameS (e f : Ev) : Bool := sameE e f && (e.stream.toList == f.stream.toList) && (e.version == f.version) && (e.position == f.position) && (e.time == f.time)


set_option maxRecDepth 100000 in
set_option maxHeartbeats 1000000 in
theorem dsameEvent_any (e f : Ev) (w : World) : Calls Tryd.prog 73 #[e.first, f.first] w fun en w' => en = .returned (.bool (sameE e f)) ∧ Below w.heap.size w w' := by
  obtain ⟨r, hr⟩ : ∃ r, sameW e.value f.value = r := ⟨_, rfl⟩
  unfold sameE
  rw [hr]
  have HR := Lib.hid hr; clear hr
  rcases c0 : (e.id == f.id) with _ | _
  · go_enter Tryd.func73, Tryd.ntmps73
    go_wp2_with (
      go_at_call 14
      refine (dsame_any _ _ _).mono ?_
      rintro en w1 ⟨rfl, rfl⟩
      rw [HR.out])
    go_ret
    exact ⟨by simp, (below_alloc w _).trans ((below_alloc _ _).mono (by simp))⟩
  · rcases c1 : (e.ty.toList == f.ty.toList) with _ | _
    · go_enter Tryd.func73, Tryd.ntmps73
      go_wp2_with (
        go_at_call 14
        refine (dsame_any _ _ _).mono ?_
        rintro en w1 ⟨rfl, rfl⟩
        rw [HR.out])
      go_ret
      exact ⟨by simp, (below_alloc w _).trans ((below_alloc _ _).mono (by simp))⟩
    · rcases c2 : (e.data.toList == f.data.toList) with _ | _
      · go_enter Tryd.func73, Tryd.ntmps73
        go_wp2_with (
          go_at_call 14
          refine (dsame_any _ _ _).mono ?_
          rintro en w1 ⟨rfl, rfl⟩
          rw [HR.out])
        go_ret
        exact ⟨by simp, (below_alloc w _).trans ((below_alloc _ _).mono (by simp))⟩
      · go_enter Tryd.func73, Tryd.ntmps73
        go_wp2_with (
          go_at_call 14
          refine (dsame_any _ _ _).mono ?_
          rintro en w1 ⟨rfl, rfl⟩
          rw [HR.out])
        go_ret
        exact ⟨by simp, (below_alloc w _).trans ((below_alloc _ _).mono (by simp))⟩

theorem two_boxes {w w1 : World} (e f : Ev) (h : Below ((w.alloc (.cells e.cells 54)).alloc (.cells f.cells 54)).heap.size ((w.alloc (.cells e.cells 54)).alloc (.cells f.cells 54)) w1) :
    w1.heap[w.heap.size]? = some (.cells e.cells 54) ∧ w1.heap[w.heap.size + 1]? = some (.cells f.cells 54) ∧ Below w.heap.size w w1 := by
  refine ⟨(h.block _ (by simp; omega)).trans ((Below.heap_alloc _ _ _ (by simp)).trans (new_block _ _)), (h.block _ (by simp)).trans (new_block2 _ _ _), ?_⟩
  exact ((below_alloc w _).trans ((below_alloc _ _).mono (by simp))).trans (h.mono (by simp; omega))


set_option maxRecDepth 100000 in
set_option maxHeartbeats 1000000 in
theorem dsameStored_any (e f : Ev) (w : World) : Calls Tryd.prog 59 #[e.val, f.val] w fun en w' => en = .returned (.bool (sameS e f)) ∧ Below w.heap.size w w' := by
  unfold sameS
  rcases c0 : sameE e f with _ | _
  · go_enter Tryd.func59, Tryd.ntmps59
    go_wp2_with (
      go_at_call 73
      refine (dsameEvent_any e f _).mono ?_
      rintro en w1 ⟨rfl, hb⟩
      rw [c0]
      obtain ⟨h1, h2, hb3⟩ := two_boxes e f hb
      clear hb
      have a4 := list_cells h1 4 _ rfl
      have a5 := list_cells h1 5 _ rfl
      have a6 := list_cells h1 6 _ rfl
      have a7 := list_cells h1 7 _ rfl
      have b4 := list_cells h2 4 _ rfl
      have b5 := list_cells h2 5 _ rfl
      have b6 := list_cells h2 6 _ rfl
      have b7 := list_cells h2 7 _ rfl
      clear h1 h2
      replace hb3 := Lib.hid hb3)
    go_ret
    exact ⟨by simp, hb3.out⟩
  · rcases c1 : (e.stream.toList == f.stream.toList) with _ | _
    · go_enter Tryd.func59, Tryd.ntmps59
      go_wp2_with (
        go_at_call 73
        refine (dsameEvent_any e f _).mono ?_
        rintro en w1 ⟨rfl, hb⟩
        rw [c0]
        obtain ⟨h1, h2, hb3⟩ := two_boxes e f hb
        clear hb
        have a4 := list_cells h1 4 _ rfl
        have a5 := list_cells h1 5 _ rfl
        have a6 := list_cells h1 6 _ rfl
        have a7 := list_cells h1 7 _ rfl
        have b4 := list_cells h2 4 _ rfl
        have b5 := list_cells h2 5 _ rfl
        have b6 := list_cells h2 6 _ rfl
        have b7 := list_cells h2 7 _ rfl
        clear h1 h2
        replace hb3 := Lib.hid hb3)
      go_ret
      exact ⟨by simp, hb3.out⟩
    · rcases c2 : (e.version == f.version) with _ | _
      · go_enter Tryd.func59, Tryd.ntmps59
        go_wp2_with (
          go_at_call 73
          refine (dsameEvent_any e f _).mono ?_
          rintro en w1 ⟨rfl, hb⟩
          rw [c0]
          obtain ⟨h1, h2, hb3⟩ := two_boxes e f hb
          clear hb
          have a4 := list_cells h1 4 _ rfl
          have a5 := list_cells h1 5 _ rfl
          have a6 := list_cells h1 6 _ rfl
          have a7 := list_cells h1 7 _ rfl
          have b4 := list_cells h2 4 _ rfl
          have b5 := list_cells h2 5 _ rfl
          have b6 := list_cells h2 6 _ rfl
          have b7 := list_cells h2 7 _ rfl
          clear h1 h2
          replace hb3 := Lib.hid hb3)
        go_ret
        exact ⟨by simp, hb3.out⟩
      · rcases c3 : (e.position == f.position) with _ | _
        · go_enter Tryd.func59, Tryd.ntmps59
          go_wp2_with (
            go_at_call 73
            refine (dsameEvent_any e f _).mono ?_
            rintro en w1 ⟨rfl, hb⟩
            rw [c0]
            obtain ⟨h1, h2, hb3⟩ := two_boxes e f hb
            clear hb
            have a4 := list_cells h1 4 _ rfl
            have a5 := list_cells h1 5 _ rfl
            have a6 := list_cells h1 6 _ rfl
            have a7 := list_cells h1 7 _ rfl
            have b4 := list_cells h2 4 _ rfl
            have b5 := list_cells h2 5 _ rfl
            have b6 := list_cells h2 6 _ rfl
            have b7 := list_cells h2 7 _ rfl
            clear h1 h2
            replace hb3 := Lib.hid hb3)
          go_ret
          exact ⟨by simp, hb3.out⟩
        · go_enter Tryd.func59, Tryd.ntmps59
          go_wp2_with (
            go_at_call 73
            refine (dsameEvent_any e f _).mono ?_
            rintro en w1 ⟨rfl, hb⟩
            rw [c0]
            obtain ⟨h1, h2, hb3⟩ := two_boxes e f hb
            clear hb
            have a4 := list_cells h1 4 _ rfl
            have a5 := list_cells h1 5 _ rfl
            have a6 := list_cells h1 6 _ rfl
            have a7 := list_cells h1 7 _ rfl
            have b4 := list_cells h2 4 _ rfl
            have b5 := list_cells h2 5 _ rfl
            have b6 := list_cells h2 6 _ rfl
            have b7 := list_cells h2 7 _ rfl
            clear h1 h2
            replace hb3 := Lib.hid hb3)
          go_ret
          exact ⟨by simp, hb3.out⟩


/-- An event's cells at a place. -/
def RdAt (e : Ev) (b o : Nat) (w' : World) : Prop :=
  w'.cell? ⟨b, o, none⟩ = some (.int .i64 e.id) ∧ w'.cell? ⟨b, o + 1, none⟩ = some (.string e.ty) ∧ w'.cell? ⟨b, o + 2, none⟩ = some (.string e.data) ∧ w'.cell? ⟨b, o + 3, none⟩ = some (.float .f64 e.value)
      ∧ w'.cell? ⟨b, o + 4, none⟩ = some (.string e.stream) ∧ w'.cell? ⟨b, o + 5, none⟩ = some (.int .i64 e.version) ∧ w'.cell? ⟨b, o + 6, none⟩ = some (.int .i64 e.position) ∧ w'.cell? ⟨b, o + 7, none⟩ = some (.int .i64 e.time)
theorem RdAt.keep {e : Ev} {b o : Nat} {A A' : World} (h : RdAt e b o A) (hx : A'.heap[b]? = A.heap[b]?) : RdAt e b o A' := by
  obtain ⟨s2, s3, s4, s5, s6, s7, s8, s9⟩ := h
  exact ⟨(World.cell?_of_block hx).trans s2, (World.cell?_of_block hx).trans s3, (World.cell?_of_block hx).trans s4, (World.cell?_of_block hx).trans s5, (World.cell?_of_block hx).trans s6, (World.cell?_of_block hx).trans s7, (World.cell?_of_block hx).trans s8, (World.cell?_of_block hx).trans s9⟩
theorem EvIn.rd {w : World} {b off len : Nat} {E : Nat → Ev} (h : EvIn w b off len E) (i : Nat) (hi : i < len) : RdAt (E i) b (off + i * 8) w :=
  ⟨h.c0 i hi, h.c1 i hi, h.c2 i hi, h.c3 i hi, h.c4 i hi, h.c5 i hi, h.c6 i hi, h.c7 i hi⟩

set_option maxRecDepth 100000 in
set_option maxHeartbeats 2000000 in
theorem sameList_any (ao bo : Option Addr) (len ac bc : Nat) (hlen : len ≤ 1000) (E F : Nat → Ev) (hs : ∀ i, i < len → sameS (E i) (F i) = true) (W : World) (hE : EvArg W.heap.size W ao len E) (hF : EvArg W.heap.size W bo len F) :
    Calls Tryd.prog 40 #[.slice ao len ac, .slice bo len bc] W fun e w' => e = .returned (.bool true) ∧ Below W.heap.size W w' := by
  have HE := Lib.hid hE; clear hE
  have HF := Lib.hid hF; clear hF
  have HS := Lib.hid hs; clear hs
  have hm : Tryd.prog.follows .mixedOrders = true := by kernel_rfl
  go_enter Tryd.func40, Tryd.ntmps40
  go_wp2_with fail
  go_loopg [5] len (fun g i wr => ∃ k : Nat, g = len - k ∧ k ≤ len ∧ i = .int .i64 k ∧ Below W.heap.size W wr)
  case atStart => exact ⟨0, by omega, by omega, rfl, Below.refl _ _⟩
  case round =>
    obtain ⟨k, hg, hk, rfl, hb⟩ := hrel
    have HG := Lib.hid hg; clear hg
    by_cases hlt : k < len
    · obtain ⟨b, off, rfl, hbn, hEi⟩ := (HE.out.low hb).at_ (by omega)
      obtain ⟨c, cff, rfl, hcn, hFi⟩ := (HF.out.low hb).at_ (by omega)
      have hl : (k : Int) < (len : Int) := by omega
      have hw1 : IntKind.i64.wrap ((k : Int) + 1) = (k : Int) + 1 := IntWalk.i64_in _ (by omega)
      have hH0 : RdAt (E k) b (off + k * 8) wr.drew ∧ RdAt (F k) c (cff + k * 8) wr.drew := ⟨hEi.rd k hlt, hFi.rd k hlt⟩
      have hs := Lib.hid (HS.out k hlt)
      have hsz := hb.size
      have HB := Lib.hid hb
      clear hEi hFi hb
      go_upto_region 6 with fail
      refine plain_region hm (wpAny_of_held (S := fun w' => RdAt (E k) b (off + k * 8) w' ∧ RdAt (F k) c (cff + k * 8) w') _ _ _ _ ?_)
      refine wpAnyH_take (i := 0) (v := ?_) (by simp; rfl) (by kernel_rfl) (by kernel_rfl) (by kernel_rfl) (fun _ _ _ h => h) (Or.inl ⟨by rfl, ?_⟩) hH0 ?_
      rotate_left
      · intro w' hS
        obtain ⟨⟨s1, s2, s3, s4, s5, s6, s7, s8⟩, ⟨p1, p2, p3, p4, p5, p6, p7, p8⟩⟩ := hS
        go_simp
        rfl
      simp only [Act.put, List.setIfInBounds_toArray, List.set_cons_zero, List.set_cons_succ]
      refine wpAnyH_take (i := 1) (v := ?_) (by simp; rfl) (by kernel_rfl) (by kernel_rfl) (by kernel_rfl) (fun _ _ _ h => h) (Or.inl ⟨by rfl, ?_⟩) hH0 ?_
      rotate_left
      · intro w' hS
        obtain ⟨⟨s1, s2, s3, s4, s5, s6, s7, s8⟩, ⟨p1, p2, p3, p4, p5, p6, p7, p8⟩⟩ := hS
        go_simp
        rfl
      simp only [Act.put, List.setIfInBounds_toArray, List.set_cons_zero, List.set_cons_succ]
      refine wpAnyH_take (i := 2) (v := ?_) (by simp; rfl) (by kernel_rfl) (by kernel_rfl) (by kernel_rfl) (fun _ _ _ h => h) (Or.inl ⟨by rfl, ?_⟩) hH0 ?_
      rotate_left
      · intro w' hS
        obtain ⟨⟨s1, s2, s3, s4, s5, s6, s7, s8⟩, ⟨p1, p2, p3, p4, p5, p6, p7, p8⟩⟩ := hS
        go_simp
        rfl
      simp only [Act.put, List.setIfInBounds_toArray, List.set_cons_zero, List.set_cons_succ]
      refine wpAnyH_take (i := 3) (v := ?_) (by simp; rfl) (by kernel_rfl) (by kernel_rfl) (by kernel_rfl) (fun _ _ _ h => h) (Or.inl ⟨by rfl, ?_⟩) hH0 ?_
      rotate_left
      · intro w' hS
        obtain ⟨⟨s1, s2, s3, s4, s5, s6, s7, s8⟩, ⟨p1, p2, p3, p4, p5, p6, p7, p8⟩⟩ := hS
        go_simp
        rfl
      simp only [Act.put, List.setIfInBounds_toArray, List.set_cons_zero, List.set_cons_succ]
      refine wpAnyH_take (i := 4) (v := ?_) (by simp; rfl) (by kernel_rfl) (by kernel_rfl) (by kernel_rfl) (fun _ _ _ h => h) (Or.inl ⟨by rfl, ?_⟩) hH0 ?_
      rotate_left
      · intro w' hS
        obtain ⟨⟨s1, s2, s3, s4, s5, s6, s7, s8⟩, ⟨p1, p2, p3, p4, p5, p6, p7, p8⟩⟩ := hS
        go_simp
        rfl
      simp only [Act.put, List.setIfInBounds_toArray, List.set_cons_zero, List.set_cons_succ]
      refine wpAnyH_take (i := 5) (v := ?_) (by simp; rfl) (by kernel_rfl) (by kernel_rfl) (by kernel_rfl) (fun _ _ _ h => h) (Or.inl ⟨by rfl, ?_⟩) hH0 ?_
      rotate_left
      · intro w' hS
        obtain ⟨⟨s1, s2, s3, s4, s5, s6, s7, s8⟩, ⟨p1, p2, p3, p4, p5, p6, p7, p8⟩⟩ := hS
        go_simp
        rfl
      simp only [Act.put, List.setIfInBounds_toArray, List.set_cons_zero, List.set_cons_succ]
      refine wpAnyH_take (i := 6) (v := ?_) (by simp; rfl) (by kernel_rfl) (by kernel_rfl) (by kernel_rfl) (fun _ _ _ h => h) (Or.inl ⟨by rfl, ?_⟩) hH0 ?_
      rotate_left
      · intro w' hS
        obtain ⟨⟨s1, s2, s3, s4, s5, s6, s7, s8⟩, ⟨p1, p2, p3, p4, p5, p6, p7, p8⟩⟩ := hS
        go_simp
        rfl
      simp only [Act.put, List.setIfInBounds_toArray, List.set_cons_zero, List.set_cons_succ]
      refine wpAnyH_take (i := 7) (v := ?_) (by simp; rfl) (by kernel_rfl) (by kernel_rfl) (by kernel_rfl) (fun _ _ _ h => h) (Or.inl ⟨by rfl, ?_⟩) hH0 ?_
      rotate_left
      · intro w' hS
        obtain ⟨⟨s1, s2, s3, s4, s5, s6, s7, s8⟩, ⟨p1, p2, p3, p4, p5, p6, p7, p8⟩⟩ := hS
        go_simp
        rfl
      simp only [Act.put, List.setIfInBounds_toArray, List.set_cons_zero, List.set_cons_succ]
      refine wpAnyH_ready (rs := [8]) (by kernel_rfl) (by simp) ?_
      refine AllReadyH.cons (by simp; rfl) (fun K hK => ?_) AllReadyH.nil
      go_simp
      go_at_call 59
      refine (dsameStored_any (E k) (F k) _).mono ?_
      rintro en x1 ⟨rfl, hb1⟩
      rw [hs.out]
      have hH1 : RdAt (E k) b (off + k * 8) x1 ∧ RdAt (F k) c (cff + k * 8) x1 := ⟨hH0.1.keep (hb1.block _ (by show b < wr.heap.size; omega)), hH0.2.keep (hb1.block _ (by show c < wr.heap.size; omega))⟩
      have hB1 : Below W.heap.size W x1 := HB.out.trans ((Below.trans (⟨rfl, rfl, rfl, Nat.le_refl _, fun _ _ => rfl⟩ : Below wr.heap.size wr wr.drew) hb1).mono hsz)
      clear hb1
      refine hK.out _ _ hH1 (fun hHeld => ?_)
      clear hK K hHeld
      try simp only [Act.put, List.setIfInBounds_toArray, List.set_cons_zero, List.set_cons_succ]
      refine wpAnyH_take (i := 9) (v := ?_) (by simp; rfl) (by kernel_rfl) (by kernel_rfl) (by kernel_rfl) (fun _ _ _ h => h) (Or.inl ⟨by rfl, ?_⟩) hH1 ?_
      rotate_left
      · intro w' hS
        obtain ⟨⟨s1, s2, s3, s4, s5, s6, s7, s8⟩, ⟨p1, p2, p3, p4, p5, p6, p7, p8⟩⟩ := hS
        go_simp
        rfl
      simp only [Act.put, List.setIfInBounds_toArray, List.set_cons_zero, List.set_cons_succ]
      refine wpAnyH_done (by kernel_rfl) ?_ _
      dsimp only [onlyK]
      clear hH0 hH1
      go_wp2_with fail
      go_roundg (len - (k + 1))
      case measure => have := HG.out; omega
      case rel => exact ⟨k + 1, by omega, by omega, by go_num, hB1⟩
    · obtain rfl : k = len := by omega
      have hl : ¬ (k : Int) < (k : Int) := by omega
      have HB := Lib.hid hb; clear hb
      go_wp2_with fail
      go_ret
      exact ⟨rfl, HB.out⟩

end Go.Proofs.YtidjnfjpdnjogaaDoor
