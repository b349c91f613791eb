/-
  A caller's list of texts, as it lies in memory; texts appended onto a row of the call's own. Conditions: none.
-/
import Derived.Test.YtidjnfjpdnjogaaGreatDoorM6
import Derived.Test.YtidjnfjpdnjogaaGreatDoorK
import Derived.Deep.Slices
import Derived.Lib.SmallJoins
namespace Go.Proofs.YtidjnfjpdnjogaaGreatDoor
open Go.ChangeShapes Go.WideShapes Go.ChangeAt Go.RowKit Go.Lib

theorem block_of_cell {w : World} {b o : Nat} {v : Value} (h : w.cell? ⟨b, o, none⟩ = some v) : b < w.heap.size := by
  by_cases hb : b < w.heap.size
  · exact hb
  · have : w.heap[b]? = none := by simp; omega
    simp [World.cell?, this] at h
theorem addr_spot {w : World} {a : Addr} {v : Value} (h : w.cell? a = some v) : a.spot = none := by
  obtain ⟨b, off, sp⟩ := a
  cases sp with
  | none => rfl
  | some sp =>
    unfold World.cell? at h
    split at h <;> simp at h
theorem addr_add1 (b off i : Nat) : ((⟨b, off, none⟩ : Addr).add i) = ⟨b, off + i, none⟩ := by
  unfold Addr.add
  by_cases hi : i = 0 <;> simp [hi]

theorem weights_mem {H : Type} (P : Program) (e : TypeId) (l : List (DataW H)) (d : DataW H) (hd : d ∈ l) (x : Nat) (hx : x ∈ d.weights P e) : x ∈ DataW.weightsAll P e l := by
  induction l with
  | nil => cases hd
  | cons a l ih =>
    unfold DataW.weightsAll
    rcases List.mem_cons.1 hd with rfl | h
    · exact List.mem_append_left _ hx
    · exact List.mem_append_right _ (ih h)

theorem cellsOf9 : Tryz.prog.cellsOf 9 = 1 := by kernel_rfl
set_option maxRecDepth 100000 in
theorem open_texts {H : Type} {enc : TypeId × Value → H} {W : World} {v : Value} {d : DataW H} {ps : List MemPlace} (h : DataW.Trod enc Tryz.prog W 0 (fun _ => true) true 32 v d ps)
    {base : Nat} (hv : Value.okWide Tryz.prog W .any base 32 v) (hwt : ∀ x ∈ d.weights Tryz.prog 32, x ≤ reachBytes) : ∃ l : List ByteArray, Txs W v l ∧ Fits l ∧ ∀ n c, v = .slice none n c → c = 0 := by
  obtain ⟨ao, len, cap, rfl⟩ := okWide_slice Tryz.underlying32 hv
  obtain ⟨fuel, hf⟩ := h
  rcases Go.Deep.open_slice1 Tryz.underlying32 cellsOf9 hf with ⟨hcs, _⟩ | ⟨a, len', cap', m, n, V, D, Pl, hcs, _, hl, hm, hmm, hxd, hx⟩
  · simp only [Value.cells, List.cons.injEq, and_true] at hcs
    rw [hcs]
    exact ⟨[], Or.inl ⟨rfl, none, 0, rfl⟩, fun s hs => (by cases hs), fun n c e => by simp at e; exact e.2.symm⟩
  · simp only [Value.cells, List.cons.injEq, and_true] at hcs
    rw [hcs]
    simp only [if_true] at hmm
    subst hmm
    have hxe : d = .slice ((List.range len').map D) ((List.range (m - len')).map fun j => D (len' + j)) := (Prod.mk.inj hxd).1
    subst hxe
    obtain ⟨J, hJ⟩ := Go.Deep.choose_lt (α := ByteArray) (n := len') (p := fun i j => j.size ≤ 281474976710656 ∧ W.cell? (a.add i) = some (.string j)) (fun i hi => by
      obtain ⟨h1, h2⟩ := hx i (by omega)
      obtain ⟨st, e1, e2, -⟩ := DataW.trod_string Tryz.underlying9 h2
      simp only [List.cons.injEq, and_true] at e1
      rw [e1] at h1
      refine ⟨st, ?_, h1⟩
      have hD : D i = .lit (.string st.data.toList) := (Prod.mk.inj e2).1
      have hin : st.data.toList.length ∈ DataW.weightsAll Tryz.prog 9 ((List.range len').map D) := weights_mem _ _ _ (D i) (List.mem_map.2 ⟨i, List.mem_range.2 hi, rfl⟩) _ (by rw [hD]; unfold DataW.weights; simp)
      unfold DataW.weights at hwt
      rw [Tryz.underlying32] at hwt
      have hle2 := hwt _ (List.mem_cons_of_mem _ (List.mem_append_left _ hin))
      unfold reachBytes at hle2
      have : st.size = st.data.toList.length := by show st.data.size = st.data.toList.length; rw [Array.length_toList]
      omega)
    refine ⟨(List.range len').map J, ?_, ?_, fun n c e => by simp at e⟩
    · by_cases h0 : len' = 0
      · subst h0
        exact Or.inl ⟨rfl, _, _, rfl⟩
      · obtain ⟨b, off, sp⟩ := a
        have hsp : sp = none := by
          have := addr_spot (hJ 0 (by omega)).2
          unfold Addr.add at this
          simpa using this
        subst hsp
        refine Or.inr ⟨b, off, m, by simp, fun i hi => ?_, ?_⟩
        · have hi' : i < len' := by simpa using hi
          have := (hJ i hi').2
          rw [addr_add1] at this
          rw [this]
          simp [List.getD_eq_getElem?_getD, hi']
        · have := (hJ 0 (by omega)).2
          rw [addr_add1] at this
          exact block_of_cell this
    · intro s hs
      obtain ⟨i, hi, rfl⟩ := List.mem_map.1 hs
      exact (hJ i (List.mem_range.1 hi)).1

/-- Texts that lie anywhere, appended onto an own row of texts. -/
theorem wp_append_txs {o : Oper} {a : Act} {K : Act → World → Prop} {Q : Exit → Act → World → Prop} {w : World} (s x : Operand)
    (ho : o.op = .call { callee := .builtin .append, args := #[s, x], argTypes := #[32, 32] }) (base : Nat) (v : Value) (k : List ByteArray) (hs : a.eval s = v) (hown : w.ownsRow base 9 1 v k.length (vals k))
    (sv : Value) (l : List ByteArray) (hx : a.eval x = sv) (ht : Txs w sv l) (hnz : ∀ n c, sv = .slice none n c → c = 0) (hnm : k.length + l.length ≤ 2000000) (hbase : base ≤ w.heap.size)
    (h : ∀ v' w', w'.ownsRow base 9 1 v' (k ++ l).length (vals (k ++ l)) → w.grownBy w' v.ownBlock → K (a.put o.dst v') w') : o.wp Tryz.prog a w K Q := by
  obtain ⟨i0, hi0, hz0, hs0, hb0'⟩ := info_parts info9
  have hval : vals (k ++ l) = vals k ++ vals l := by simp [vals]
  rw [hval, List.length_append] at h
  rcases ht with ⟨rfl, po, cap, rfl⟩ | ⟨b, off, cap, rfl, hi⟩
  · cases po with
    | none =>
      obtain rfl := hnz _ _ rfl
      have hrun := run_append_owned_none (P := Tryz.prog) (w := w) base 32 o.type 9 i0 1 Tryz.underlying32 hi0 v k.length (vals k) hown
      unfold Oper.wp
      simp only [execOp, ho, resolve, invoke, builtin, hs, hx, hrun, Result.andThen, Sem.run_bind, Sem.run_pure, List.map_toArray, List.map_cons, List.map_nil]
      exact h v w (by simpa [vals] using hown) ⟨rfl, rfl, rfl, Nat.le_refl _, fun _ _ _ => rfl⟩
    | some ad =>
      exact wp_append_own w s x 32 ho base 9 i0 _ 1 16 Tryz.underlying32 hi0 hz0 hs0 hb0' rfl (by decide) v k.length (vals k) hs hown ad 0 cap [] hx rfl (fun j u hu => by simp at hu) (fun u hu => by cases hu) (by unfold maxLen; simp at hnm; omega) (by simp at hnm; omega) hbase
        fun v' w' a1 a2 _ => h v' w' (by simpa [vals] using a1) a2
  · refine wp_append_own w s x 32 ho base 9 i0 _ 1 16 Tryz.underlying32 hi0 hz0 hs0 hb0' rfl (by decide) v k.length (vals k) hs hown ⟨b, off, none⟩ l.length cap (vals l) hx (by simp [vals]) ?_ ?_ (by unfold maxLen; omega) (by omega) hbase
      fun v' w' a1 a2 _ => h v' w' a1 a2
    · intro j u hu
      have hj : j < l.length := by
        have := (List.getElem?_eq_some_iff.1 hu).1
        simpa [vals] using this
      rw [addr_add1, hi.c j hj, ← hu]
      simp [vals, List.getD_eq_getElem?_getD, hj]
    · intro u hu
      obtain ⟨y, _, rfl⟩ := List.mem_map.1 hu
      rfl
theorem wpList_append_txs {ops : Array Oper} {rest : List Oper} {o : Oper} {a : Act} {Q : Exit → Act → World → Prop} {w : World} (hgd : o.guard = none) (s x : Operand)
    (ho : o.op = .call { callee := .builtin .append, args := #[s, x], argTypes := #[32, 32] }) (base : Nat) (v : Value) (k : List ByteArray) (hs : a.eval s = v) (hown : w.ownsRow base 9 1 v k.length (vals k))
    (sv : Value) (l : List ByteArray) (hx : a.eval x = sv) (ht : Txs w sv l) (hnz : ∀ n c, sv = .slice none n c → c = 0) (hnm : k.length + l.length ≤ 2000000) (hbase : base ≤ w.heap.size)
    (h : ∀ v' w', w'.ownsRow base 9 1 v' (k ++ l).length (vals (k ++ l)) → w.grownBy w' v.ownBlock → wpList Tryz.prog ops Q rest (a.put o.dst v') w') : wpList Tryz.prog ops Q (o :: rest) a w :=
  wpList_plain hgd fun _ hK => wp_append_txs s x ho base v k hs hown sv l hx ht hnz hnm hbase fun v' w' h2 h3 => hK _ _ (h v' w' h2 h3)
end Go.Proofs.YtidjnfjpdnjogaaGreatDoor
