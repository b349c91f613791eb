/-
  chroniclebook.Book: every list of texts grows by marks of its own. Conditions: none.
-/
import Derived.Test.YtidjnfjpdnjogaaGreatDoorPwP
import Derived.Maps.Range
namespace Go.Proofs.YtidjnfjpdnjogaaGreatDoor
open Go.RowKit Go.Lib

/-- A row of one's own, as it came in. -/
theorem came_of_own {w : World} {B n pc : Nat} {po : Option Addr} {xs : List Value} (h : w.ownsRow B 9 1 (.slice po n pc) n xs) : Came w 1 po ((Value.slice po n pc).ownBlock.getD 0) 0 n pc xs := by
  rcases h.2 with ⟨e, rfl⟩ | ⟨g, cap, cur, e, hb, hg, hnc, hcm, hcs, ht⟩
  · cases e
    have : xs = [] := by simpa using h.1
    subst this
    exact ⟨Nat.le_refl _, fun h => absurd h (Nat.lt_irrefl _), fun h => absurd h (Nat.lt_irrefl _), rfl, fun j u hu => by simp at hu, fun j hj => by simp at hj⟩
  · cases e
    refine ⟨hnc, fun _ => rfl, fun _ => lt_of_block hg, h.1, fun j u hu => ?_, fun j hj => ?_⟩
    · have hjn : j < n * 1 := by
        have := (List.getElem?_eq_some_iff.1 hu).1
        rw [h.1] at this
        exact this
      simp only [Value.ownBlock, Option.getD_some, Nat.zero_add]
      rw [h.cellAt j hjn, hu]
    · simp only [Value.ownBlock, Option.getD_some, Nat.zero_add]
      refine ⟨?_, by simp [World.frozen?, hg]⟩
      simp [World.cell?, hg]
      omega

theorem info_t : (Tryz.prog.info? 9).map (fun i => (i.zero, i.size, i.bytes)) = some (some (.string ⟨#[]⟩), 1, 16) := by kernel_rfl
/-- An append onto a row of one's own: what is there stays, but for the row's spare. -/
theorem wpList_append_keep {ops : Array Oper} {rest : List Oper} {o : Oper} {a : Act} {Q : Exit → Act → World → Prop} {w : World} (hgd : o.guard = none) (s x : Operand)
    (ho : o.op = .call { callee := .builtin .append, args := #[s, x], argTypes := #[32, 32] }) (base : Nat) (po : Option Addr) (n pc : Nat) (l : List ByteArray) (hs : a.eval s = .slice po n pc) (hown : w.ownsRow base 9 1 (.slice po n pc) n (vals l))
    (ad : Addr) (m c : Nat) (k : List ByteArray) (hx : a.eval x = .slice (some ad) m c) (hk : k.length = m) (hnews : ∀ j u, (vals k)[j]? = some u → w.cell? (ad.add j) = some u) (hnm : n + m ≤ 100000) (hbase : base ≤ w.heap.size)
    (h : ∀ v' w', w'.ownsRow base 9 1 v' (n + m) (vals (l ++ k)) → w.grownBy w' (Value.slice po n pc).ownBlock → Hat w (Value.slice po n pc).ownBlock v'.ownBlock → (∀ b j, b < w.heap.size → (Value.slice po n pc).ownBlock = some b → j < n → w'.cell? ⟨b, j, none⟩ = w.cell? ⟨b, j, none⟩) → wpList Tryz.prog ops Q rest (a.put o.dst v') w') : wpList Tryz.prog ops Q (o :: rest) a w := by
  obtain ⟨i0, hi0, hz0, hs0, hb0⟩ := info_parts info_t
  refine wpList_plain hgd fun K hK => ?_
  have hl : (vals k).length = m * 1 := by simp [vals, hk]
  have h1 : ∀ u ∈ vals k, u.oneCell' = true := fun u hu => by
    obtain ⟨_, _, rfl⟩ := List.mem_map.1 hu
    rfl
  obtain ⟨v', w', hr, h2, h3, h4, h5⟩ := run_append_own_at (P := Tryz.prog) w base 32 o.type 9 i0 _ 1 16 Tryz.underlying32 hi0 hz0 hs0 hb0 rfl (by decide) _ n _ hown ad m c (vals k) hl hnews h1 (by unfold maxLen; omega) (by omega) hbase
  have hC := came_of_own hown
  obtain ⟨v2, w2, hr2, hU⟩ := run_append_upon (P := Tryz.prog) hC 32 32 o.type i0 _ 16 Tryz.underlying32 hi0 hz0 hs0 hb0 rfl (Upon.start hC (e := 9)) (.slice (some ad) m c) m (vals k) (Src.ofSlice w Tryz.underlying32 ad m c (vals k) hl hnews h1) (by unfold maxLen; omega) (by omega)
  rw [hr] at hr2
  cases hr2
  unfold Oper.wp execOp
  simp only [ho, resolve, invoke, builtin, Sem.run_bind, Sem.run_pure, Result.andThen_ok, List.map_toArray, List.map_cons, List.map_nil, hs, hx, hr]
  refine hK _ _ (h v' w' (by simpa [vals] using h2) h3 ?_ ?_)
  · rcases h5 with h5 | h5
    · exact Or.inl h5
    · exact Or.inr ⟨_, Nat.le_refl _, h5⟩
  · intro b j hb e hj
    refine hU.old hb fun q _ he => ?_
    omega

/-- Texts of which the block has not turned. -/
theorem txs_same {w w' : World} {v : Value} {l : List ByteArray} (h : Txs w v l) (hs : w.heap.size ≤ w'.heap.size) (hb : ∀ g, v.ownBlock = some g → w'.heap[g]? = w.heap[g]?) : Txs w' v l := by
  rcases h with h | ⟨b, off, cap, rfl, h⟩
  · exact Or.inl h
  · exact Or.inr ⟨b, off, cap, rfl, h.block hs (hb b rfl)⟩

/-- What the growth has done behind k lists. -/
structure GrowInv (K B : Nat) (tv cv : Value) (tl cl : List Value) (ps : List Row) (W0 : World) (k : Nat) (ov : Value) (gs : List Value) (w : World) : Prop where
  size : W0.heap.size ≤ w.heap.size
  os : w.os = W0.os
  tape : w.tape = W0.tape
  output : w.output = W0.output
  far : ∀ b, b < W0.heap.size → (∀ j p, j < k → ps[j]? = some p → p.1.ownBlock ≠ some b) → w.heap[b]? = W0.heap[b]?
  len : gs.length = k
  own : w.ownsRow W0.heap.size 32 1 ov k gs
  texts : ∀ j p, j < k → ps[j]? = some p → Txs w p.1 p.2 ∧ ∃ g, gs[j]? = some g ∧ w.ownsRow B 9 1 g (p.2.length + 72) (vals (marks j 0 (p.2.length + 72))) ∧ Hat W0 p.1.ownBlock g.ownBlock

section
variable {K B : Nat} {tv cv : Value} {tl cl : List Value} {ps : List Row} {W0 w w1 w2 : World} {k : Nat} {ov : Value} {gs : List Value}
theorem GrowInv.start (_hV : BookV K B tv cv tl cl ps W0) : GrowInv K B tv cv tl cl ps W0 0 nilV [] W0 :=
  ⟨Nat.le_refl _, rfl, rfl, rfl, fun _ _ _ => rfl, rfl, World.ownsRow_nil _ _ _ _, fun _ _ h => absurd h (Nat.not_lt_zero _)⟩
/-- The book is as it was, and the lists to come. -/
theorem GrowInv.book (h : GrowInv K B tv cv tl cl ps W0 k ov gs w) (hV : BookV K B tv cv tl cl ps W0) : w.heap[K]? = some (bookO tv cv) ∧ w.ownsRow B 32 1 tv tl.length tl ∧ ∀ j p, k ≤ j → ps[j]? = some p → w.ownsRow B 9 1 p.1 p.2.length (vals p.2) := by
  have hne : ∀ b cs t, W0.heap[b]? = some (Obj.cells cs t) → t ≠ 9 → ∀ j p, j < k → ps[j]? = some p → p.1.ownBlock ≠ some b := by
    intro b cs t hb ht j p _ hp e
    exact own_ne (hV.rows.own _ (List.mem_of_getElem? hp)) hb (fun e => ht e.symm) e.symm
  refine ⟨?_, ?_, fun j p hj hp => ?_⟩
  · rw [h.far K (lt_of_block hV.cell) (hne _ _ _ hV.cell (by decide))]
    exact hV.cell
  · refine own_same hV.tx fun g e => ?_
    obtain ⟨_, cs, hc⟩ := own_cells hV.tx e
    exact h.far g (lt_of_block hc) (hne _ _ _ hc (by decide))
  · refine own_same (hV.rows.own _ (List.mem_of_getElem? hp)) fun g e => ?_
    obtain ⟨_, cs, hc⟩ := own_cells (hV.rows.own _ (List.mem_of_getElem? hp)) e
    refine h.far g (lt_of_block hc) fun i q hi hq e' => ?_
    obtain ⟨hil, hie⟩ := List.getElem?_eq_some_iff.1 hq
    obtain ⟨hjl, hje⟩ := List.getElem?_eq_some_iff.1 hp
    have := List.pairwise_iff_getElem.1 hV.rows.apart i j hil hjl (by omega) g (by rw [hie]; exact e')
    rw [hje] at this
    exact this e
/-- One list more has grown (w1), and out has it (w2). -/
theorem GrowInv.next (h : GrowInv K B tv cv tl cl ps W0 k ov gs w) (hV : BookV K B tv cv tl cl ps W0) {p : Row} (hp : ps[k]? = some p) (hB : B ≤ W0.heap.size)
    (g1 : w.grownBy w1 p.1.ownBlock) (t1 : Txs w1 p.1 p.2) {v ov' : Value} (o1 : w1.ownsRow B 9 1 v (p.2.length + 72) (vals (marks k 0 (p.2.length + 72)))) (a1 : Hat w p.1.ownBlock v.ownBlock)
    (g2 : w1.grownBy w2 ov.ownBlock) (o2 : w2.ownsRow W0.heap.size 32 1 ov' (k + 1) (gs ++ [v])) : GrowInv K B tv cv tl cl ps W0 (k + 1) ov' (gs ++ [v]) w2 := by
  have _h := hB
  have hs1 := g1.size
  have hs2 := g2.size
  have hs0 := h.size
  have hout : ∀ b, ov.ownBlock = some b → W0.heap.size ≤ b := fun b e => (own_cells h.own e).1
  -- the row k's block, and the others'
  have hpk : ∀ b, p.1.ownBlock = some b → b < W0.heap.size := fun b e => by
    obtain ⟨_, cs, hc⟩ := own_cells (hV.rows.own _ (List.mem_of_getElem? hp)) e
    exact lt_of_block hc
  have hap : ∀ j q, j < k → ps[j]? = some q → ∀ b, q.1.ownBlock = some b → p.1.ownBlock ≠ some b := by
    intro j q hj hq b e
    obtain ⟨hil, hie⟩ := List.getElem?_eq_some_iff.1 hq
    obtain ⟨hjl, hje⟩ := List.getElem?_eq_some_iff.1 hp
    have := List.pairwise_iff_getElem.1 hV.rows.apart j k hil hjl hj b (by rw [hie]; exact e)
    rw [hje] at this
    exact this
  -- a row of texts is none of out's
  have n9 : ∀ {x : Value} {n : Nat} {xs : List Value}, w1.ownsRow B 9 1 x n xs → ∀ b, x.ownBlock = some b → b < w1.heap.size ∧ some b ≠ ov.ownBlock := by
    intro x n xs hx b e
    obtain ⟨_, cs, hc⟩ := own_cells hx e
    refine ⟨lt_of_block hc, fun e' => ?_⟩
    obtain ⟨_, cs', hc'⟩ := own_cells h.own e'.symm
    have hw1 : w1.heap[b]? = w.heap[b]? := g1.block b (lt_of_block hc') (fun e2 => by have := hpk b e2.symm; have := hout b e'.symm; omega)
    rw [hw1, hc'] at hc
    simp at hc
  refine ⟨by omega, by rw [g2.os, g1.os, h.os], by rw [g2.tape, g1.tape, h.tape], by rw [g2.output, g1.output, h.output], fun b hb hn => ?_, by simp [h.len], o2, fun j q hj hq => ?_⟩
  · rw [g2.block b (by omega) (fun e => by have := hout b e.symm; omega), g1.block b (by omega) (fun e => hn k p (by omega) hp e.symm), h.far b hb (fun j q hj hq => hn j q (by omega) hq)]
  · by_cases hjk : j = k
    · subst hjk
      obtain rfl : p = q := by rw [hp] at hq; cases hq; rfl
      refine ⟨txs_same t1 hs2 fun b e => g2.block b (by have := hpk b e; omega) (fun e' => by have := hout b e'.symm; have := hpk b e; omega), v, by simp [h.len], own_same o1 fun b e => g2.block b (n9 o1 b e).1 (n9 o1 b e).2, ?_⟩
      rcases a1 with a1 | ⟨b, hb, e⟩
      · exact Or.inl a1
      · exact Or.inr ⟨b, by omega, e⟩
    · obtain ⟨tq, g, hg, og, hat⟩ := h.texts j q (by omega) hq
      have hqb : ∀ b, q.1.ownBlock = some b → b < W0.heap.size := fun b e => by
        obtain ⟨_, cs, hc⟩ := own_cells (hV.rows.own _ (List.mem_of_getElem? hq)) e
        exact lt_of_block hc
      have ng : ∀ b, g.ownBlock = some b → p.1.ownBlock ≠ some b := by
        intro b e
        rcases hat with hat | ⟨b', hb', e'⟩
        · exact hap j q (by omega) hq b (hat ▸ e)
        · intro e2
          rw [e'] at e
          have := hpk b e2
          simp at e
          omega
      have og1 : w1.ownsRow B 9 1 g (q.2.length + 72) (vals (marks j 0 (q.2.length + 72))) := own_same og fun b e => by
        obtain ⟨_, cs, hc⟩ := own_cells og e
        exact g1.block b (lt_of_block hc) (fun e' => ng b e e'.symm)
      refine ⟨txs_same (txs_same tq hs1 fun b e => g1.block b (by have := hqb b e; omega) (fun e' => hap j q (by omega) hq b e e'.symm)) hs2 fun b e => g2.block b (by have := hqb b e; omega) (fun e' => by have := hout b e'.symm; have := hqb b e; omega), g, ?_, own_same og1 fun b e => g2.block b (n9 og1 b e).1 (n9 og1 b e).2, hat⟩
      rw [List.getElem?_append_left (by rw [h.len]; omega)]
      exact hg
end
end Go.Proofs.YtidjnfjpdnjogaaGreatDoor
