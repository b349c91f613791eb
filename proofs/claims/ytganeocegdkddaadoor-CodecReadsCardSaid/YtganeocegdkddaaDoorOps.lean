/-
  A law's list of steps: as it lies in memory; whether it is light. Conditions: none.
-/
import Derived.Test.YtganeocegdkddaaDoorH
import Derived.Test.YtganeocegdkddaaDoorK
import Derived.Deep.Slices
import Derived.Lib.SmallJoins
namespace Go.Proofs.YtganeocegdkddaaDoor
open Go.ChangeShapes Go.WideShapes Go.ChangeAt Go.RowKit

/-- The steps of a list, as they lie in memory. -/
structure OpsIn (w : World) (b off len : Nat) (Kd Nn : Nat → Int) (Bt : Nat → Nat) (Ss : Nat → ByteArray) : Prop where
  bl : b < w.heap.size
  c0 : ∀ i, i < len → w.cell? ⟨b, off + i * 4, none⟩ = some (.int .i64 (Kd i))
  c1 : ∀ i, i < len → w.cell? ⟨b, off + i * 4 + 1, none⟩ = some (.int .i64 (Nn i))
  c2 : ∀ i, i < len → w.cell? ⟨b, off + i * 4 + 2, none⟩ = some (.int .u64 (Bt i))
  c3 : ∀ i, i < len → w.cell? ⟨b, off + i * 4 + 3, none⟩ = some (.string (Ss i))

/-- The list of a law: nil, or its steps lie in memory; what they hold goes into its kinds. -/
structure OpsArg (W : World) (ao : Option Addr) (len : Nat) (Kd Nn : Nat → Int) (Bt : Nat → Nat) (Ss : Nat → ByteArray) : Prop where
  at_ : 0 < len → ∃ b off, ao = some ⟨b, off, none⟩ ∧ OpsIn W b off len Kd Nn Bt Ss
  le : len ≤ maxLen
  nn : ∀ i, i < len → Nn i ≤ 9223372036854775807
  bt : ∀ i, i < len → Bt i < 18446744073709551616
  ss : ∀ i, i < len → (Ss i).size ≤ maxLen

theorem OpsIn.block {w w' : World} {b off len : Nat} {Kd Nn : Nat → Int} {Bt : Nat → Nat} {Ss : Nat → ByteArray} (h : OpsIn w b off len Kd Nn Bt Ss) (hs : w.heap.size ≤ w'.heap.size) (hb : w'.heap[b]? = w.heap[b]?) : OpsIn w' b off len Kd Nn Bt Ss :=
  ⟨Nat.lt_of_lt_of_le h.bl hs, fun i hi => (World.cell?_of_block (w := w) hb).trans (h.c0 i hi), fun i hi => (World.cell?_of_block (w := w) hb).trans (h.c1 i hi), fun i hi => (World.cell?_of_block (w := w) hb).trans (h.c2 i hi), fun i hi => (World.cell?_of_block (w := w) hb).trans (h.c3 i hi)⟩
theorem OpsIn.below {W w : World} {b off len : Nat} {Kd Nn : Nat → Int} {Bt : Nat → Nat} {Ss : Nat → ByteArray} (h : OpsIn W b off len Kd Nn Bt Ss) (hb : Below W.heap.size W w) : OpsIn w b off len Kd Nn Bt Ss :=
  h.block hb.size (hb.block _ h.bl)

theorem block_of_cell {w : World} {b o : Nat} {v : Value} (h : w.cell? ⟨b, o, none⟩ = some v) : b < w.heap.size := by
  by_cases hb : b < w.heap.size
  · exact hb
  · have : w.heap[b]? = none := by simp; omega
    simp [World.cell?, this] at h

theorem addr_spot {w : World} {a : Addr} {v : Value} (h : w.cell? a = some v) : a.spot = none := by
  obtain ⟨b, off, sp⟩ := a
  cases sp with
  | none => rfl
  | some sp =>
    unfold World.cell? at h
    split at h <;> simp at h

theorem addr_add2 (b off i j : Nat) : ((⟨b, off, none⟩ : Addr).add i).add j = ⟨b, off + i + j, none⟩ := by
  unfold Addr.add
  by_cases hi : i = 0 <;> by_cases hj : j = 0 <;> simp [hi, hj]

theorem cellsOf49 : Tryd.prog.cellsOf 49 = 4 := by kernel_rfl

theorem op_of {H : Type} {enc : TypeId × Value → H} {W : World} {n : Nat} {cs : List Value} {x : DataW H × List MemPlace}
    (h : DataW.trod enc Tryd.prog W 0 (fun _ => true) true n 49 cs = some x) : ∃ kd nn bt s, cs = [.int .i64 kd, .int .i64 nn, .int .u64 bt, .string s] ∧ s.size ≤ maxLen ∧ (Lit.int .i64 nn).wf = true ∧ (Lit.int .u64 bt).wf = true := by
  obtain ⟨y0, y1, y2, y3, m, -, hl, h0, h1, h2, h3⟩ := Go.Joins.trod_struct4 Tryd.underlying49 h
  rw [cellsOf49] at hl
  obtain ⟨c0, c1, c2, c3, rfl⟩ : ∃ c0 c1 c2 c3, cs = [c0, c1, c2, c3] := by
    match cs, hl with
    | [c0, c1, c2, c3], _ => exact ⟨c0, c1, c2, c3, rfl⟩
  obtain ⟨kd, e0, -, -⟩ := DataW.trod_int Tryd.underlying3 h0
  obtain ⟨nn, e1, -, w1⟩ := DataW.trod_int Tryd.underlying3 h1
  obtain ⟨bt, e2, -, w2⟩ := DataW.trod_int Tryd.underlying41 h2
  obtain ⟨s, e3, -, hs⟩ := DataW.trod_string Tryd.underlying9 h3
  have q3 : Tryd.prog.cellsOf 3 = 1 := by kernel_rfl
  have q9 : Tryd.prog.cellsOf 9 = 1 := by kernel_rfl
  have q41 : Tryd.prog.cellsOf 41 = 1 := by kernel_rfl
  simp [q3] at e0 e1
  simp [q41] at e2
  simp [q9] at e3
  exact ⟨kd, nn, bt, s, by rw [e0, e1, e2, e3], hs, w1, w2⟩

theorem open_ops {H : Type} {enc : TypeId × Value → H} {W : World} {v : Value} {d : DataW H} {ps : List MemPlace} (h : DataW.Trod enc Tryd.prog W 0 (fun _ => true) true 43 v d ps)
    {base : Nat} (hv : Value.okWide Tryd.prog W .any base 43 v) : ∃ ao len cap Kd Nn Bt Ss, v = .slice ao len cap ∧ OpsArg W ao len Kd Nn Bt Ss := by
  obtain ⟨ao, len, cap, rfl⟩ := okWide_slice Tryd.underlying43 hv
  obtain ⟨fuel, hf⟩ := h
  rcases Go.Deep.open_slice Tryd.underlying43 hf with ⟨hcs, _⟩ | ⟨a, len', cap', m, n, D, Pl, hcs, _, hl, hm, hmm, _, hx⟩
  · simp only [Value.cells, List.cons.injEq, and_true] at hcs
    rw [hcs]
    exact ⟨none, 0, 0, fun _ => 0, fun _ => 0, fun _ => 0, fun _ => ByteArray.empty, rfl, fun hi => by omega, by simp, fun i hi => by omega, fun i hi => by omega, fun i hi => by omega⟩
  · simp only [Value.cells, List.cons.injEq, and_true] at hcs
    rw [hcs]
    simp only [if_true] at hmm
    subst hmm
    rw [cellsOf49] at hx
    obtain ⟨J, hJ⟩ := Go.Deep.choose_lt (α := Int × Int × Nat × ByteArray) (n := m) (p := fun i j => j.2.2.2.size ≤ maxLen ∧ j.2.1 ≤ 9223372036854775807 ∧ j.2.2.1 < 18446744073709551616 ∧ W.cell? ((a.add (i * 4)).add 0) = some (.int .i64 j.1) ∧ W.cell? ((a.add (i * 4)).add 1) = some (.int .i64 j.2.1) ∧ W.cell? ((a.add (i * 4)).add 2) = some (.int .u64 j.2.2.1) ∧ W.cell? ((a.add (i * 4)).add 3) = some (.string j.2.2.2)) (fun i hi => by
      obtain ⟨cs', h1, h2⟩ := hx i hi
      obtain ⟨kd, nn, bt, s, rfl, hs, w1, w2⟩ := op_of h2
      obtain ⟨_, _, hc⟩ := World.cells?_some h1
      have b1 : -9223372036854775808 ≤ nn ∧ nn ≤ 9223372036854775807 := by simpa [Lit.wf, IntKind.min, IntKind.max, IntKind.signed, IntKind.bits] using w1
      have b2 : 0 ≤ bt ∧ bt ≤ 18446744073709551615 := by simpa [Lit.wf, IntKind.min, IntKind.max, IntKind.signed, IntKind.bits] using w2
      obtain ⟨bn, rfl⟩ := Int.eq_ofNat_of_zero_le b2.1
      exact ⟨(kd, nn, bn, s), hs, b1.2, by simp only []; omega, hc 0 (by omega), hc 1 (by omega), hc 2 (by omega), hc 3 (by omega)⟩)
    refine ⟨some a, len', m, fun i => (J i).1, fun i => (J i).2.1, fun i => (J i).2.2.1, fun i => (J i).2.2.2, rfl, fun hi => ?_, Nat.le_trans hl hm, fun i hi => (hJ i (by omega)).2.1, fun i hi => (hJ i (by omega)).2.2.1, fun i hi => (hJ i (by omega)).1⟩
    obtain ⟨b, off, sp⟩ := a
    have hsp : sp = none := by
      have := addr_spot (hJ 0 (by omega)).2.2.2.1
      simpa [Addr.add] using this
    subst hsp
    refine ⟨b, off, rfl, ?_, fun i hi => ?_, fun i hi => ?_, fun i hi => ?_, fun i hi => ?_⟩
    · have := (hJ 0 (by omega)).2.2.2.1
      rw [addr_add2] at this
      exact block_of_cell this
    · have := (hJ i (by omega)).2.2.2.1
      rw [addr_add2] at this
      exact this
    · have := (hJ i (by omega)).2.2.2.2.1
      rw [addr_add2] at this
      exact this
    · have := (hJ i (by omega)).2.2.2.2.2.1
      rw [addr_add2] at this
      exact this
    · have := (hJ i (by omega)).2.2.2.2.2.2
      rw [addr_add2] at this
      exact this

def LightPost (len : Nat) (Ss : Nat → ByteArray) (w : World) (e : Ending) (w' : World) : Prop := ∃ r : Bool, e = .returned (.bool r) ∧ (r = true → len ≤ 60 ∧ ∀ i, i < len → (Ss i).size ≤ 300) ∧ w = w'

set_option maxRecDepth 100000 in
theorem light_any (ao : Option Addr) (len cap : Nat) (Kd Nn : Nat → Int) (Bt : Nat → Nat) (Ss : Nat → ByteArray) (w : World) (hJ : OpsArg w ao len Kd Nn Bt Ss) :
    Calls Tryd.prog 25 #[.slice ao len cap] w (LightPost len Ss w) := by
  have hm := hJ.le
  unfold maxLen at hm
  have HJ := Lib.hid hJ; clear hJ
  go_enter Tryd.func25, Tryd.ntmps25
  go_wp2_with fail
  go_loopg [3] len (fun g i wr => ∃ k : Nat, g = len - k ∧ k ≤ len ∧ k ≤ 200 ∧ i = .int .i64 k ∧ (∀ j, j < k → (Ss j).size ≤ 300) ∧ w = wr)
  case atStart => exact ⟨0, by omega, by omega, by omega, rfl, fun j hj => by omega, rfl⟩
  case round =>
    obtain ⟨k, hg, hle, h200, rfl, hall, rfl⟩ := hrel
    have HG := Lib.hid hg; clear hg
    have HA := Lib.hid hall; clear hall
    by_cases hk : k < len
    · obtain ⟨b, off, rfl, hI⟩ := HJ.out.at_ (by omega)
      have hb := hI.bl
      have hs := hI.c3 k hk
      have hsz := HJ.out.ss k hk
      unfold maxLen at hsz
      clear hI
      have hd : decide ((k : Int) < (len : Int)) = true := by simp; omega
      by_cases hk2 : k < 200
      · by_cases h3 : (Ss k).size ≤ 300
        · go_wp2
          go_roundg (len - (k + 1))
          case measure => rw [HG.out]; omega
          case rel =>
            refine ⟨k + 1, rfl, by omega, by omega, by go_num, fun j hj => ?_, rfl⟩
            by_cases hj2 : j = k
            · rw [hj2]; exact h3
            · exact HA.out j (by omega)
        · go_wp2
          go_ret
          refine ⟨false, ?_, ?_, ?_⟩
          · rfl
          · exact fun h => Bool.noConfusion h
          · rfl
      · go_wp2
        go_ret
        exact ⟨_, rfl, fun h => absurd (of_decide_eq_true h) (by omega), rfl⟩
    · obtain rfl : k = len := by omega
      go_wp2
      go_ret
      exact ⟨_, rfl, fun h => ⟨by have := of_decide_eq_true h; omega, HA.out⟩, rfl⟩
end Go.Proofs.YtganeocegdkddaaDoor
