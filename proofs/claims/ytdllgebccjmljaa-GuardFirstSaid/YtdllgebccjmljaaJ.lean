/-
  A law's list of jobs, read as data, lies in memory. Conditions: none.
-/
import Derived.Test.YtdllgebccjmljaaTells
import Derived.Deep.Slices
import Derived.Deep.Strs
namespace Go.Proofs.Ytdllgebccjmljaa
open Go.ChangeShapes Go.WideShapes Go.ChangeAt Go.RowKit

theorem cellsOf50 : Try.prog.cellsOf 50 = 3 := by kernel_rfl

theorem block_of_cell {w : World} {b o : Nat} {v : Value} (h : w.cell? ⟨b, o, none⟩ = some v) : b < w.heap.size := by
  by_cases hb : b < w.heap.size
  · exact hb
  · have : w.heap[b]? = none := by simp; omega
    simp [World.cell?, this] at h

theorem addr_spot {w : World} {a : Addr} {v : Value} (h : w.cell? a = some v) : a.spot = none := by
  obtain ⟨b, off, sp⟩ := a
  cases sp with
  | none => rfl
  | some sp =>
    unfold World.cell? at h
    split at h <;> simp at h

theorem addr_add2 (b off i j : Nat) : ((⟨b, off, none⟩ : Addr).add i).add j = ⟨b, off + i + j, none⟩ := by
  unfold Addr.add
  by_cases hi : i = 0 <;> by_cases hj : j = 0 <;> simp [hi, hj]

theorem job_of {H : Type} {enc : TypeId × Value → H} {W : World} {n : Nat} {cs : List Value} {x : DataW H × List MemPlace}
    (h : DataW.trod enc Try.prog W 0 (fun _ => true) true n 50 cs = some x) : ∃ kd nn s, cs = [.int .i64 kd, .int .i64 nn, .string s] ∧ s.size ≤ maxLen := by
  obtain ⟨y0, y1, y2, m, -, hl, h0, h1, h2⟩ := Go.Deep.trod_struct3 Try.underlying50 h
  rw [cellsOf50] at hl
  obtain ⟨c0, c1, c2, rfl⟩ : ∃ c0 c1 c2, cs = [c0, c1, c2] := by
    match cs, hl with
    | [c0, c1, c2], _ => exact ⟨c0, c1, c2, rfl⟩
  obtain ⟨kd, e0, -, -⟩ := DataW.trod_int Try.underlying3 h0
  obtain ⟨nn, e1, -, -⟩ := DataW.trod_int Try.underlying3 h1
  obtain ⟨s, e2, -, hs⟩ := DataW.trod_string Try.underlying9 h2
  have c3 : Try.prog.cellsOf 3 = 1 := by kernel_rfl
  have c9 : Try.prog.cellsOf 9 = 1 := by kernel_rfl
  simp [c3] at e0 e1
  simp [c9] at e2
  exact ⟨kd, nn, s, by rw [e0, e1, e2], hs⟩

theorem open_jobs {H : Type} {enc : TypeId × Value → H} {W : World} {v : Value} {d : DataW H} {ps : List MemPlace} (h : DataW.Trod enc Try.prog W 0 (fun _ => true) true 32 v d ps)
    {base : Nat} (hv : Value.okWide Try.prog W .any base 32 v) : ∃ ao len cap Kd Nn Ss, v = .slice ao len cap ∧ len ≤ maxLen ∧ (∀ i, i < len → (Ss i).size ≤ maxLen) ∧ JobsArg W ao len Kd Nn Ss := by
  obtain ⟨ao, len, cap, rfl⟩ := okWide_slice Try.underlying32 hv
  obtain ⟨fuel, hf⟩ := h
  rcases Go.Deep.open_slice Try.underlying32 hf with ⟨hcs, _⟩ | ⟨a, len', cap', m, n, D, Pl, hcs, _, hl, hm, hmm, _, hx⟩
  · simp only [Value.cells, List.cons.injEq, and_true] at hcs
    rw [hcs]
    exact ⟨none, 0, 0, fun _ => 0, fun _ => 0, fun _ => ByteArray.empty, rfl, by simp, fun i hi => by omega, fun hi => by omega⟩
  · simp only [Value.cells, List.cons.injEq, and_true] at hcs
    rw [hcs]
    simp only [if_true] at hmm
    subst hmm
    rw [cellsOf50] at hx
    obtain ⟨J, hJ⟩ := Go.Deep.choose_lt (α := Int × Int × ByteArray) (n := m) (p := fun i j => j.2.2.size ≤ maxLen ∧ W.cell? ((a.add (i * 3)).add 0) = some (.int .i64 j.1) ∧ W.cell? ((a.add (i * 3)).add 1) = some (.int .i64 j.2.1) ∧ W.cell? ((a.add (i * 3)).add 2) = some (.string j.2.2)) (fun i hi => by
      obtain ⟨cs', h1, h2⟩ := hx i hi
      obtain ⟨kd, nn, s, rfl, hs⟩ := job_of h2
      obtain ⟨_, _, hc⟩ := World.cells?_some h1
      exact ⟨(kd, nn, s), hs, hc 0 (by omega), hc 1 (by omega), hc 2 (by omega)⟩)
    refine ⟨some a, len', m, fun i => (J i).1, fun i => (J i).2.1, fun i => (J i).2.2, rfl, Nat.le_trans hl hm, fun i hi => (hJ i (by omega)).1, fun hi => ?_⟩
    obtain ⟨b, off, sp⟩ := a
    have hsp : sp = none := by
      have := addr_spot (hJ 0 (by omega)).2.1
      simpa [Addr.add] using this
    subst hsp
    refine ⟨b, off, rfl, ?_, fun i hi => ?_, fun i hi => ?_, fun i hi => ?_⟩
    · have := (hJ 0 (by omega)).2.1
      rw [addr_add2] at this
      exact block_of_cell this
    · have := (hJ i (by omega)).2.1
      rw [addr_add2] at this
      exact this
    · have := (hJ i (by omega)).2.2.1
      rw [addr_add2] at this
      exact this
    · have := (hJ i (by omega)).2.2.2
      rw [addr_add2] at this
      exact this



theorem tellsL {H : Type} {enc : TypeId × Value → H} {base : Nat} (v : Value) (d : DataW H) (p : List MemPlace) {W : World} (h : DataW.Trod enc Try.prog W 0 (fun _ => true) true 32 v d p) (hv : Value.okWide Try.prog W .any base 32 v) (_ : World) :
    Calls Try.prog 4 #[v] W fun e w' => e = .returned (.bool true) ∧ Below W.heap.size W w' := by
  obtain ⟨ao, len, cap, Kd, Nn, Ss, rfl, hm, hS, hJ⟩ := open_jobs h hv
  exact tells_walk ao len cap hm Kd Nn Ss hS W hJ

set_option maxRecDepth 100000 in
theorem guardTells_lifted (os : Os) (started : os.Started) (H : Type) (enc : TypeId × Value → H) :
    ReturnsInHanded {} Try.checked os 4 .any (Rows.guardTellsSpec.pre6 enc Try.prog Try.f4 Rows.guardTellsRow.domain false) (Rows.guardTellsSpec.post enc Try.prog Try.f4 false true false false) := by
  refine returnsInHanded_of_change (C := Try.checked) own started (by kernel_rfl) Try.func4
    (ChangeSpec.witness6 (enc := enc) (C := Try.checked) false ⟨#[], #[.slice none 0 0], []⟩ 8 (by kernel_rfl) (by kernel_rfl) (by kernel_rfl) (by kernel_rfl)) ?_
  intro W base args ds gs before hval0 hW hcnd _
  have hval : ∀ (j : Nat) t v, Try.f4.params[j]? = some t → args[j]? = some v → Value.okWide Try.prog W .any base t v := hval0
  have hW' := hW
  obtain ⟨p, q, hA0, hV, rfl, hfz, hnd⟩ := hW
  have hA : DataW.TrodAll enc Try.prog W 0 (fun _ => true) true Try.f4.params.toList args.toList ds p := hA0
  rw [Try.params4] at hA hval
  obtain ⟨v0, vs0, d0, ds0, p0, q0, hargs, rfl, rfl, h0, r0⟩ := trodAll_cons hA
  obtain ⟨rfl, rfl, rfl⟩ := trodAll_nil r0
  obtain rfl : args = #[v0] := by cases args; simp_all
  obtain ⟨rfl, rfl⟩ := trodVars_none hV
  have hlt : ∀ x ∈ (p0 ++ []), x.block < W.heap.size := fun x hx => by simpa using hW'.lt x (by simpa using hx)
  refine Calls.mono (R := fun e w' => e = .returned (.bool true) ∧ Below W.heap.size W w') ?_ fun e W' ⟨he, hb⟩ => ?_
  · exact tellsL v0 d0 p0 h0 (hval 0 32 v0 rfl rfl) W
  subst he
  exact ⟨_, rfl, law_post (T := 4) laidOut (by kernel_rfl) rfl Try.underlying4 rfl hW' hb rfl rfl rfl⟩

theorem guardTells_holds : Rows.GuardTellsSaid :=
  OpenClaim.holds_of_wide 4 Try.f4 rfl rfl rfl rfl rfl rfl rfl ⟨rfl, rfl, rfl, rfl, rfl⟩ rfl rfl rfl rfl rfl (by kernel_rfl) Try.func4 (by kernel_rfl)
    (of_decide_eq_true (by kernel_rfl)) (by unfold Func.isWrapper; first | (rw [if_pos (by decide +kernel)]; kernel_rfl) | (rw [if_neg (by decide +kernel)]; exact ⟨rfl, rfl⟩))
    (fun os started H enc _ => guardTells_lifted os started H enc)
#print axioms guardTells_holds


end Go.Proofs.Ytdllgebccjmljaa
