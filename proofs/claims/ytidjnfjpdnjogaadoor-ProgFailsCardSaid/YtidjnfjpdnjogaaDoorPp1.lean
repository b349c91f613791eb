/-
  prog.Parse: the words of a text. Conditions: none.
-/
import Derived.Test.YtidjnfjpdnjogaaDoorPg11
import Derived.Test.YtidjnfjpdnjogaaDoorSplit
namespace Go.Proofs.YtidjnfjpdnjogaaDoor
open Go.RowKit Go.Lib Go.Shelf
attribute [local go_sem] Oper.semAt_some

theorem heap_alloc_if (w : World) (o : Obj) (k : Nat) : (w.alloc o).heap[k]? = if k = w.heap.size then some o else w.heap[k]? := by
  show (w.heap.push o)[k]? = _
  rw [Array.getElem?_push]
theorem size_alloc_one (w : World) (o : Obj) : (w.alloc o).heap.size = w.heap.size + 1 := by simp
theorem info9 : (Tryd.prog.info? 9).map (fun i => (i.zero, i.size, i.bytes)) = some (some (.string ⟨#[]⟩), 1, 16) := by kernel_rfl

/-- The words that are kept. -/
def keptW (pre : List ByteArray) : List ByteArray := pre.filter fun x => x.size != 0
theorem keptW_snoc (pre : List ByteArray) (x : ByteArray) : keptW (pre ++ [x]) = keptW pre ++ if x.size = 0 then [] else [x] := by
  unfold keptW
  rw [List.filter_append]
  by_cases h : x.size = 0 <;> simp [h]
def vals (l : List ByteArray) : List Value := l.map Value.string
theorem vals_snoc (l : List ByteArray) (x : ByteArray) : vals (l ++ [x]) = vals l ++ [.string x] := by simp [vals]

/-- What holds between two words. -/
structure PI (w : World) (l : List ByteArray) (v : Value) (W : World) : Prop where
  res : W.heap[w.heap.size]? = some (.cells #[.slice none 0 0] 28)
  box : W.heap[w.heap.size + 1]? = some (.cells #[v] 28)
  own : W.ownsRow (w.heap.size + 7) 9 1 v l.length (vals l)
  below : Below w.heap.size w W
theorem PI.other {w : World} {l : List ByteArray} {v : Value} {W W' : World} (h : PI w l v W) (h0 : W'.heap[w.heap.size]? = W.heap[w.heap.size]?) (h1 : W'.heap[w.heap.size + 1]? = W.heap[w.heap.size + 1]?) (h2 : ∀ g, w.heap.size + 7 ≤ g → g < W.heap.size → W'.heap[g]? = W.heap[g]?) (hb : Below w.heap.size w W') : PI w l v W' :=
  ⟨h0.trans h.res, h1.trans h.box, own_same h.own (fun g hg => h2 g (h.own.lt g hg).1 (h.own.lt g hg).2), hb⟩
theorem PI.sz {w : World} {l : List ByteArray} {v : Value} {W : World} (h : PI w l v W) : w.heap.size + 1 < W.heap.size := lt_of_block h.box
theorem PI.up {w : World} {l : List ByteArray} {v : Value} {W W' : World} (h : PI w l v W) (hb : Below W.heap.size W W') : PI w l v W' :=
  h.other (hb.block _ (by have := h.sz; omega)) (hb.block _ h.sz) (fun g _ hg => hb.block g hg) (h.below.trans (hb.mono h.below.size))

/-- The frame of a round. -/
def pAct (s : ByteArray) (n : Nat) (x : ByteArray) : Act :=
  { tmps := #[.string s, undef, .pointer (some ⟨n, 0, none⟩), .int .i64 0, .int .i64 0, .pointer (some ⟨n + 1, 0, none⟩), .string x, undef, undef, .string s,
      .func (.func 78) #[] #[.pointer (some ⟨n + 1 + 1 + 1, 0, none⟩), .pointer (some ⟨n + 1 + 1, 0, none⟩), .pointer (some ⟨n + 1 + 1 + 2, 0, none⟩)], .string x, undef, undef, undef, undef, undef, undef, undef, undef, undef, undef, undef, undef, undef, undef, undef, undef, undef, undef, undef, undef],
    defers := [] }

theorem split_size (s : ByteArray) : ∀ x ∈ (splitB 32 s.data.toList).map mkS, x.size ≤ s.size := by
  intro x hx
  obtain ⟨y, hy, rfl⟩ := List.mem_map.1 hx
  have key : ∀ (l : List UInt8), ∀ y ∈ splitB 32 l, y.length ≤ l.length := by
    intro l
    induction l with
    | nil => intro y h; simp [splitB] at h; simp [h]
    | cons c t ih =>
      intro y h
      rw [splitB] at h
      split at h
      · rcases List.mem_cons.1 h with rfl | h
        · simp
        · have := ih y h; simp; omega
      · cases hs : splitB 32 t with
        | nil => exact absurd hs (splitB_ne 32 t)
        | cons w r =>
          rw [hs] at h ih
          simp only [] at h
          rcases List.mem_cons.1 h with rfl | h
          · have := ih w (by simp); simp; omega
          · have := ih y (by simp [h]); simp; omega
  have := key _ y hy
  show y.toArray.size ≤ _
  simp at this ⊢
  omega

/-- What the append and the store behind it come to. -/
theorem pushed_word {w : World} {l : List ByteArray} {v v' : Value} {W W1 W3 : World} {x : ByteArray} (h : PI w l v W) (hz : w.heap.size + 7 ≤ W.heap.size) (hb : Below W.heap.size W W1)
    (hown : W3.ownsRow (w.heap.size + 7) 9 1 v' (l.length + 1) (vals l ++ [.string x])) (hgr : W1.grownBy W3 v.ownBlock) :
    (∀ k, k < W.heap.size → k ≠ w.heap.size + 1 → (∀ g, v.ownBlock = some g → k ≠ g) → (W3.setCell ⟨w.heap.size + 1, 0, none⟩ v').heap[k]? = W.heap[k]?) ∧ PI w (l ++ [x]) v' (W3.setCell ⟨w.heap.size + 1, 0, none⟩ v') := by
  have k1 : ∀ k, k < W.heap.size → (∀ g, v.ownBlock = some g → k ≠ g) → W3.heap[k]? = W.heap[k]? := fun k hk hne => (hgr.block k (Nat.lt_of_lt_of_le hk hb.size) (fun e => hne k e.symm rfl)).trans (hb.block k hk)
  have hlow : ∀ k, k < w.heap.size + 7 → ∀ g, v.ownBlock = some g → k ≠ g := fun k hk g hg => by have := (h.own.lt g hg).1; omega
  refine ⟨fun k hk h1 hne => (Below.heap_setCell _ _ _ _ (by show k ≠ w.heap.size + 1; omega)).trans (k1 k hk hne), ?_, ?_, ?_, ?_⟩
  · exact (Below.heap_setCell _ _ _ _ (by show w.heap.size ≠ w.heap.size + 1; omega)).trans ((k1 _ (by omega) (hlow _ (by omega))).trans h.res)
  · rw [heap_setCell_same ((k1 _ (by omega) (hlow _ (by omega))).trans h.box)]; rfl
  · rw [vals_snoc, List.length_append]
    exact own_same hown (fun g hg => Below.heap_setCell _ _ _ _ (by have := (hown.lt g hg).1; show g ≠ w.heap.size + 1; omega))
  · have h1 := h.below.trans (hb.mono h.below.size)
    exact ((h1.grown hgr (Nat.le_trans h.below.size hb.size) (fun k hk => by have := (h.own.lt k hk).1; omega))).setCell (p := ⟨w.heap.size + 1, 0, none⟩) (by show w.heap.size ≤ w.heap.size + 1; omega) _

theorem cell_push {w : World} {l : List ByteArray} {v : Value} {W : World} (h : PI w l v W) : W.cell? ⟨w.heap.size + 1, 0, none⟩ = some v ∧ W.frozen? ⟨w.heap.size + 1, 0, none⟩ = false := cell_of_block1 h.box

theorem split_count (s : ByteArray) : ((splitB 32 s.data.toList).map mkS).length ≤ s.size + 1 := by
  have key : ∀ (l : List UInt8), (splitB 32 l).length ≤ l.length + 1 := by
    intro l
    induction l with
    | nil => simp [splitB]
    | cons c t ih =>
      rw [splitB]
      split
      · simp; omega
      · cases hs : splitB 32 t with
        | nil => exact absurd hs (splitB_ne 32 t)
        | cons w r => rw [hs] at ih; simp at ih ⊢; omega
  have := key s.data.toList
  simp at this ⊢
  omega
theorem grownBy_putObj' (W : World) (l : Nat) (o : Obj) : W.grownBy (W.putObj l o) (some l) := ⟨rfl, rfl, rfl, by simp [World.putObj], fun k _ hk => World.putObj_heap_other (fun e => hk (by rw [e]))⟩

theorem box_grown {w : World} {l : List ByteArray} {v : Value} {W W' : World} (h : PI w l v W) (hg : W.grownBy W' v.ownBlock) : W'.cell? ⟨w.heap.size + 1, 0, none⟩ = some v ∧ W'.frozen? ⟨w.heap.size + 1, 0, none⟩ = false :=
  cell_of_block1 ((hg.block _ h.sz (fun e => by have := (h.own.lt _ e.symm).1; omega)).trans h.box)

/-- What Parse answers. -/
def wordsL (s : ByteArray) : List ByteArray := keptW ((splitB 32 s.data.toList).map mkS)
theorem txs_of {W : World} {B : Nat} {v : Value} {l : List ByteArray} (h : W.ownsRow B 9 1 v l.length (vals l)) : Txs W v l := by
  rcases h.2 with ⟨hv, h0⟩ | ⟨g, cap, cur, rfl, hg, hb, hn, hm, hs, ht⟩
  · exact Or.inl ⟨List.eq_nil_of_length_eq_zero h0, none, 0, hv⟩
  · refine Or.inr ⟨g, 0, cap, rfl, fun i hi => ?_, lt_of_block hb⟩
    have h1 : (vals l)[i]? = some (.string (l.getD i ByteArray.empty)) := by
      rw [vals, List.getElem?_map, List.getD_eq_getElem?_getD, List.getElem?_eq_getElem hi]; rfl
    have h2 := h.cells (g := g) rfl i _ h1
    rw [Nat.zero_add]
    have e : (⟨g, 0, none⟩ : Addr).add i = ⟨g, i, none⟩ := by
      simp only [Addr.add]
      split <;> simp_all
    rw [e] at h2
    exact h2
theorem words_fit (s : ByteArray) (hs : s.size ≤ 281474976710656) : Fits (wordsL s) := fun x hx => by
  have := split_size s x (List.mem_filter.1 hx).1
  omega
theorem check_zero (l : List (List UInt8)) (h : (checkL l).1 = 0) : (checkL l).2 = 0 := by
  unfold checkL at h ⊢
  split at h
  · cases h
  · rename_i hn
    rw [if_neg hn]
    have key : ∀ (m : List (List UInt8)) i, (checkB m i).1 = 0 → (checkB m i).2 = 0 := by
      intro m
      induction m with
      | nil => intro i _; rfl
      | cons a m ih =>
        intro i h
        unfold checkB at h ⊢
        split at h
        · rename_i h1; rw [if_pos h1]; exact ih _ h
        · cases h
    exact key _ _ h

/-- The store of the result, and the end of the loop's block. -/
theorem parse_end {w w1 : World} {l : List ByteArray} {v : Value} (hi : PI w l v w1) (hK : w1.heap[w.heap.size + 5]? = some (.deferred (some []))) (r : Value) :
    (w1.setCell ⟨w.heap.size, 0, none⟩ r).heap[w.heap.size + 5]? = some (.deferred (some []))
    ∧ ((w1.setCell ⟨w.heap.size, 0, none⟩ r).putObj (w.heap.size + 5) (.deferred none)).cell? ⟨w.heap.size, 0, none⟩ = some r
    ∧ (r = v → ((w1.setCell ⟨w.heap.size, 0, none⟩ r).putObj (w.heap.size + 5) (.deferred none)).ownsRow w.heap.size 9 1 v l.length (vals l))
    ∧ Below w.heap.size w ((w1.setCell ⟨w.heap.size, 0, none⟩ r).putObj (w.heap.size + 5) (.deferred none)) := by
  have q1 := (Below.heap_setCell w1 ⟨w.heap.size, 0, none⟩ r (w.heap.size + 5) (by show _ ≠ w.heap.size; omega)).trans hK
  have e0 := heap_setCell_same (off := 0) hi.res r
  refine ⟨q1, ?_, ?_, ?_⟩
  · exact (cell_of_block1 ((World.putObj_heap_other (by omega)).trans e0)).1
  · intro _
    have h2 := own_same hi.own (w' := (w1.setCell ⟨w.heap.size, 0, none⟩ r).putObj (w.heap.size + 5) (.deferred none)) (fun g hg => (World.putObj_heap_other (by have := (hi.own.lt g hg).1; omega)).trans (Below.heap_setCell _ _ _ _ (by have := (hi.own.lt g hg).1; show g ≠ w.heap.size; omega)))
    refine ⟨h2.1, ?_⟩
    rcases h2.2 with h | ⟨g, cap, cur, a1, a2, rest⟩
    · exact Or.inl h
    · exact Or.inr ⟨g, cap, cur, a1, by omega, rest⟩
  · have hb := hi.below.setCell (p := ⟨w.heap.size, 0, none⟩) (Nat.le_refl _) r
    exact hb.trans (belowK_b (w := w) (Nat.le_refl _) _ _ _ _ (by omega) q1 rfl rfl)

def ParsePost (s : ByteArray) (w : World) (e : Ending) (w' : World) : Prop := ∃ v, e = .returned (.tuple #[.agg #[v], .int .i64 (checkL (tl (wordsL s))).1, .int .i64 (checkL (tl (wordsL s))).2]) ∧
  (if (checkL (tl (wordsL s))).1 = 0 then w'.ownsRow w.heap.size 9 1 v (wordsL s).length (vals (wordsL s)) else v = .slice none 0 0) ∧ Below w.heap.size w w'

set_option linter.unusedSimpArgs false in
set_option maxRecDepth 100000 in
set_option maxHeartbeats 2000000 in
theorem prog_parse (s : ByteArray) (hs : s.size ≤ 1000000) (w : World) : Calls Tryd.prog 33 #[.string s] w (ParsePost s w) := by
  have hm : Tryd.prog.follows .mixedOrders = true := by kernel_rfl
  obtain ⟨i0, hi0, hz0, hs0, hb0⟩ := info_parts info9
  have HI0 := Lib.hid hi0; clear hi0
  refine (callsIn_wide (n := 5)).1 ?_
  refine callsIn_of_wp_marks Tryd.func33 rfl trivial ?_ rfl
  simp only [Tryd.ntmps33, List.size_toArray, List.length_cons, List.length_nil, Nat.reduceAdd, Nat.reduceSub, Array.replicate_succ, Array.replicate_zero, List.push_toArray, List.append_toArray, List.nil_append, List.cons_append]
  gi_wp2_with (first
    | (refine ⟨trivial, ?_⟩; gi_at_call 50; refine (callsIn_wide.2 (splitSeq_any s 32 _)).mono ?_; rintro e w' ⟨rfl, rfl⟩))
  obtain ⟨W0, hW0⟩ : ∃ W0, (((((w.alloc (Obj.cells #[.slice none 0 0] 28)).alloc (Obj.cells #[.slice none 0 0] 28)).alloc (Obj.cells #[.string s] 9)).alloc (Obj.cells #[.string ⟨#[32]⟩] 9)).alloc (Obj.cells #[.int .i64 0] 3)) = W0 := ⟨_, rfl⟩
  rw [hW0]
  have hz : W0.heap.size = w.heap.size + 5 := by rw [← hW0]; simp
  have hI0 : PI w [] (.slice none 0 0) W0 := by
    refine ⟨?_, ?_, World.ownsRow_nil _ _ _ _, ?_⟩
    · rw [← hW0]
      simp only [heap_alloc_if, size_alloc_one]
      rw [if_neg (by omega), if_neg (by omega), if_neg (by omega), if_neg (by omega), if_pos trivial]
    · rw [← hW0]
      simp only [heap_alloc_if, size_alloc_one]
      rw [if_neg (by omega), if_neg (by omega), if_neg (by omega), if_pos trivial]
    · rw [← hW0]
      exact (((((Below.refl _ w).alloc (Nat.le_refl _) _).alloc (by simp) _).alloc (by simp; omega) _).alloc (by simp; omega) _).alloc (by simp; omega) _
  have hB0 : W0.heap[w.heap.size + 1 + 1]? = some (.cells #[.string s] 9) := by
    rw [← hW0]
    simp only [heap_alloc_if, size_alloc_one]
    rw [if_neg (by omega), if_neg (by omega), if_pos trivial]
  have hB1 : W0.heap[w.heap.size + 1 + 1 + 1]? = some (.cells #[.string ⟨#[32]⟩] 9) := by
    rw [← hW0]
    simp only [heap_alloc_if, size_alloc_one]
    rw [if_neg (by omega), if_pos trivial]
  have hB2 : W0.heap[w.heap.size + 1 + 1 + 2]? = some (.cells #[.int .i64 0] 3) := by
    rw [← hW0]
    simp only [heap_alloc_if, size_alloc_one]
    rw [if_pos trivial]
  clear hW0
  refine range_over (gf := 78) (lb := #[.pointer (some ⟨w.heap.size + 1 + 1 + 1, 0, none⟩), .pointer (some ⟨w.heap.size + 1 + 1, 0, none⟩), .pointer (some ⟨w.heap.size + 1 + 1 + 2, 0, none⟩)]) rfl (enters_of Tryd.func78 (by kernel_rfl) rfl)
    (fun x : ByteArray => #[.string x]) (fun _ => rfl) (w.heap.size + 1 + 1) (by omega) ((splitB 32 s.data.toList).map mkS) (split_yields 4 (by decide) (w.heap.size + 1 + 1) 32 s hs W0 hB0 hB1 hB2)
    (fun pre W => ∃ v, PI w (keptW pre) v W) ?hIn ?hIp ?hIs ⟨_, hI0⟩ (pAct s w.heap.size) ?assign ?body ?done
  case hIn =>
    rintro pre W o ⟨v, h⟩
    exact ⟨v, h.up (below_alloc _ _)⟩
  case hIp =>
    rintro pre W l o ⟨v, h⟩ h1 h2
    exact ⟨v, h.other (World.putObj_heap_other (by omega)) (World.putObj_heap_other (by omega)) (fun g hg _ => World.putObj_heap_other (by omega)) (h.below.grown (grownBy_putObj' W l o) (by have := h.sz; omega) (fun k e => by cases e; omega))⟩
  case hIs =>
    rintro pre W v' ⟨v, h⟩
    exact ⟨v, h.other (Below.heap_setCell W _ _ _ (by show _ ≠ w.heap.size + 1 + 1; omega)) (Below.heap_setCell W _ _ _ (by show _ ≠ w.heap.size + 1 + 1; omega)) (fun g hg _ => Below.heap_setCell W _ _ _ (by show g ≠ w.heap.size + 1 + 1; omega)) (h.below.setCell (p := ⟨w.heap.size + 1 + 1, 0, none⟩) (by show _ ≤ w.heap.size + 1 + 1; omega) v')⟩
  case assign =>
    intro l x W K hK
    gi_wp2
    exact hK
  case body =>
    rintro l pre x W ⟨v, hi⟩ hx hsz
    have hxs : x.size ≤ s.size := split_size s x (hx.subset (by simp))
    have hpl : (keptW pre).length ≤ 1000001 := by
      have h1 : (keptW pre).length ≤ pre.length := List.length_filter_le _ _
      have h2 := hx.length_le
      have h3 := split_count s
      simp at h2
      simp at h3
      omega
    rw [hz] at hsz
    have hsn := keptW_snoc pre x
    have HI := Lib.hid hi
    obtain ⟨c0, c1⟩ := cell_push hi
    clear hi hx
    unfold pAct
    by_cases h0 : x.size = 0
    · rw [if_pos h0, List.append_nil] at hsn
      obtain rfl : x = ⟨#[]⟩ := by
        apply ByteArray.ext
        exact Array.eq_empty_of_size_eq_zero h0
      clear h0 hxs
      gi_wp2
      exact ⟨rfl, rfl, Boxes.refl _ _, v, by rw [hsn]; exact HI.out⟩
    · rw [if_neg h0] at hsn
      have hne : (x.toList == []) = false := by
        rw [beq_eq_false_iff_ne, Lib.toList_data]
        intro e
        apply h0
        have := congrArg List.length e
        simpa using this
      have hne2 : (x.toList != []) = true := by rw [bne, hne]; rfl
      have hnil : x.toList ≠ [] := fun e => by rw [e] at hne; cases hne
      have HC := Lib.hid (clone_any x W.drew (by omega))
      have hl1 : (keptW pre).length + 1 ≤ maxLen := by unfold maxLen; omega
      have hl2 : ((keptW pre).length + 1) * 16 ≤ 140737488355328 := by omega
      have HONE := Lib.hid (show ∀ u ∈ [Value.string x], u.oneCell' = true by simp [Value.oneCell'])
      have c0' : W.drew.cell? ⟨w.heap.size + 1, 0, none⟩ = some v := c0
      gi_wp2_with fail
      refine round_region hm (by kernel_rfl) ?_
      have HEND : Hid (∀ (v' : Value) (W3 : World), (∀ k, k < W.heap.size → k ≠ w.heap.size + 1 → (∀ g, v.ownBlock = some g → k ≠ g) → W3.heap[k]? = W.heap[k]?) → PI w (keptW pre ++ [x]) v' W3 → roundEnd (w.heap.size + 1 + 1) W0.heap.size (fun W => ∃ v, PI w (keptW (pre ++ [x])) v W) W .normal (pAct s w.heap.size x) W3) := Lib.hid fun v' W3 h1 h2 => by
        have hlow : ∀ k, k < w.heap.size + 7 → ∀ g, v.ownBlock = some g → k ≠ g := fun k hk g hg => by have := (HI.out.own.lt g hg).1; omega
        refine ⟨h1 _ (by omega) (by omega) (hlow _ (by omega)), h1 _ (by omega) (by omega) (hlow _ (by omega)), fun b hb1 hb2 => h1 b (by omega) (by omega) (hlow _ (by omega)), v', by rw [hsn]; exact h2⟩
      refine wpAny_take (i := 0) (v := ?_) rfl (by kernel_rfl) (by kernel_rfl) (by kernel_rfl) (fun _ _ _ h => h) (Or.inl ⟨by rfl, ?_⟩) ?_
      rotate_left
      · intro w'
        go_simp
        rfl
      try simp only [Act.put, List.setIfInBounds_toArray, List.set_cons_zero, List.set_cons_succ]
      refine wpAny_take (i := 2) (v := ?_) rfl (by kernel_rfl) (by kernel_rfl) (by kernel_rfl) (fun _ _ _ h => h) (Or.inl ⟨by rfl, ?_⟩) ?_
      rotate_left
      · intro w'
        go_simp
        rfl
      try simp only [Act.put, List.setIfInBounds_toArray, List.set_cons_zero, List.set_cons_succ]
      refine wpAny_ready (rs := [1, 3]) (by kernel_rfl) (by simp) ?_
      refine AllReady.cons rfl (fun K hK => ?_) (AllReady.cons rfl (fun K hK => ?_) AllReady.nil)
      · skip
        go_simp
        refine hK _ _ ?_
        clear hK K
        try simp only [Act.put, List.setIfInBounds_toArray, List.set_cons_zero, List.set_cons_succ]
        refine wpAny_ready (rs := [3]) (by kernel_rfl) (by simp) ?_
        refine AllReady.cons rfl (fun K hK => ?_) AllReady.nil
        go_simp
        go_at_call 51
        refine HC.out.mono ?_
        rintro en1 w1 ⟨rfl, hb1⟩
        have HB1 := Lib.hid (show Below W.heap.size W w1 from (Below.mk rfl rfl rfl (Nat.le_refl _) (fun _ _ => rfl) : Below W.heap.size W W.drew).trans hb1)
        have HQ := Lib.hid (HI.out.up (HB1.out.alloc HB1.out.size (.cells #[.string x] 9)))
        have e1 := (cell_push (HI.out.up HB1.out)).1
        have e2 := (cell_push HQ.out).1
        have hbs : w.heap.size + 7 ≤ (w1.alloc (.cells #[.string x] 9)).heap.size := by have := HB1.out.size; simp; omega
        clear hb1
        refine hK _ _ ?_
        clear hK K
        try simp only [Act.put, List.setIfInBounds_toArray, List.set_cons_zero, List.set_cons_succ]
        refine wpAny_ready (rs := [4]) (by kernel_rfl) (by simp) ?_
        refine AllReady.cons rfl (fun K hK => ?_) AllReady.nil
        go_simp
        refine hK _ _ ?_
        clear hK K
        try simp only [Act.put, List.setIfInBounds_toArray, List.set_cons_zero, List.set_cons_succ]
        refine wpAny_ready (rs := [5]) (by kernel_rfl) (by simp) ?_
        refine AllReady.cons rfl (fun K hK => ?_) AllReady.nil
        refine step_append_lies _ (by rfl) _ _ _ (by rfl) (w.heap.size + 7) 9 i0 (.string ⟨#[]⟩) 1 16 Tryd.underlying25 HI0.out hz0 hs0 hb0 rfl (by decide) v _ _ (by rfl) HQ.out.own ⟨w1.heap.size, 0, none⟩ 1 1 [.string x] (by rfl) (by rfl) (World.news_of_block (cs := #[.string x]) (t := 9) (fr := (0, 0)) (heap_alloc_new w1 _)) HONE.out (by decide) hl1 hl2 hbs (w1.heap.size + 1) (by simp) ?_
        intro g cap w3 hown hgr hat hlt
        obtain ⟨q1, q2⟩ := pushed_word (x := x) HI.out hsz (HB1.out.alloc HB1.out.size (.cells #[.string x] 9)) hown hgr
        obtain ⟨d1, d2⟩ := box_grown HQ.out hgr
        have hlt3 : w.heap.size + 1 < w3.heap.size := by have := hgr.size; have := HQ.out.sz; omega
        refine hK _ _ ?_
        clear hK K
        try simp only [Act.put, List.setIfInBounds_toArray, List.set_cons_zero, List.set_cons_succ]
        refine wpAny_take (i := 6) (v := ?_) rfl (by kernel_rfl) (by kernel_rfl) (by kernel_rfl) (fun _ _ _ h => h) (Or.inl ⟨by rfl, ?_⟩) ?_
        rotate_left
        · intro w'
          go_simp
          rfl
        try simp only [Act.put, List.setIfInBounds_toArray, List.set_cons_zero, List.set_cons_succ]
        refine wpAny_ready (rs := [7]) (by kernel_rfl) (by simp) ?_
        refine AllReady.cons rfl (fun K hK => ?_) AllReady.nil
        go_simp
        refine hK _ _ ?_
        clear hK K
        refine wpAny_done (by kernel_rfl) ?_ _
        dsimp only [onlyK]
        exact HEND.out _ _ q1 q2
      · skip
        go_simp
        go_at_call 51
        refine HC.out.mono ?_
        rintro en1 w1 ⟨rfl, hb1⟩
        have HB1 := Lib.hid (show Below W.heap.size W w1 from (Below.mk rfl rfl rfl (Nat.le_refl _) (fun _ _ => rfl) : Below W.heap.size W W.drew).trans hb1)
        have HQ := Lib.hid (HI.out.up (HB1.out.alloc HB1.out.size (.cells #[.string x] 9)))
        have e1 := (cell_push (HI.out.up HB1.out)).1
        have e2 := (cell_push HQ.out).1
        have hbs : w.heap.size + 7 ≤ (w1.alloc (.cells #[.string x] 9)).heap.size := by have := HB1.out.size; simp; omega
        clear hb1
        refine hK _ _ ?_
        clear hK K
        try simp only [Act.put, List.setIfInBounds_toArray, List.set_cons_zero, List.set_cons_succ]
        refine wpAny_ready (rs := [1, 4]) (by kernel_rfl) (by simp) ?_
        refine AllReady.cons rfl (fun K hK => ?_) (AllReady.cons rfl (fun K hK => ?_) AllReady.nil)
        · skip
          go_simp
          refine hK _ _ ?_
          clear hK K
          try simp only [Act.put, List.setIfInBounds_toArray, List.set_cons_zero, List.set_cons_succ]
          refine wpAny_ready (rs := [4]) (by kernel_rfl) (by simp) ?_
          refine AllReady.cons rfl (fun K hK => ?_) AllReady.nil
          go_simp
          refine hK _ _ ?_
          clear hK K
          try simp only [Act.put, List.setIfInBounds_toArray, List.set_cons_zero, List.set_cons_succ]
          refine wpAny_ready (rs := [5]) (by kernel_rfl) (by simp) ?_
          refine AllReady.cons rfl (fun K hK => ?_) AllReady.nil
          refine step_append_lies _ (by rfl) _ _ _ (by rfl) (w.heap.size + 7) 9 i0 (.string ⟨#[]⟩) 1 16 Tryd.underlying25 HI0.out hz0 hs0 hb0 rfl (by decide) v _ _ (by rfl) HQ.out.own ⟨w1.heap.size, 0, none⟩ 1 1 [.string x] (by rfl) (by rfl) (World.news_of_block (cs := #[.string x]) (t := 9) (fr := (0, 0)) (heap_alloc_new w1 _)) HONE.out (by decide) hl1 hl2 hbs (w1.heap.size + 1) (by simp) ?_
          intro g cap w3 hown hgr hat hlt
          obtain ⟨q1, q2⟩ := pushed_word (x := x) HI.out hsz (HB1.out.alloc HB1.out.size (.cells #[.string x] 9)) hown hgr
          obtain ⟨d1, d2⟩ := box_grown HQ.out hgr
          have hlt3 : w.heap.size + 1 < w3.heap.size := by have := hgr.size; have := HQ.out.sz; omega
          refine hK _ _ ?_
          clear hK K
          try simp only [Act.put, List.setIfInBounds_toArray, List.set_cons_zero, List.set_cons_succ]
          refine wpAny_take (i := 6) (v := ?_) rfl (by kernel_rfl) (by kernel_rfl) (by kernel_rfl) (fun _ _ _ h => h) (Or.inl ⟨by rfl, ?_⟩) ?_
          rotate_left
          · intro w'
            go_simp
            rfl
          try simp only [Act.put, List.setIfInBounds_toArray, List.set_cons_zero, List.set_cons_succ]
          refine wpAny_ready (rs := [7]) (by kernel_rfl) (by simp) ?_
          refine AllReady.cons rfl (fun K hK => ?_) AllReady.nil
          go_simp
          refine hK _ _ ?_
          clear hK K
          refine wpAny_done (by kernel_rfl) ?_ _
          dsimp only [onlyK]
          exact HEND.out _ _ q1 q2
        · skip
          go_simp
          refine hK _ _ ?_
          clear hK K
          try simp only [Act.put, List.setIfInBounds_toArray, List.set_cons_zero, List.set_cons_succ]
          refine wpAny_ready (rs := [1]) (by kernel_rfl) (by simp) ?_
          refine AllReady.cons rfl (fun K hK => ?_) AllReady.nil
          go_simp
          refine hK _ _ ?_
          clear hK K
          try simp only [Act.put, List.setIfInBounds_toArray, List.set_cons_zero, List.set_cons_succ]
          refine wpAny_ready (rs := [5]) (by kernel_rfl) (by simp) ?_
          refine AllReady.cons rfl (fun K hK => ?_) AllReady.nil
          refine step_append_lies _ (by rfl) _ _ _ (by rfl) (w.heap.size + 7) 9 i0 (.string ⟨#[]⟩) 1 16 Tryd.underlying25 HI0.out hz0 hs0 hb0 rfl (by decide) v _ _ (by rfl) HQ.out.own ⟨w1.heap.size, 0, none⟩ 1 1 [.string x] (by rfl) (by rfl) (World.news_of_block (cs := #[.string x]) (t := 9) (fr := (0, 0)) (heap_alloc_new w1 _)) HONE.out (by decide) hl1 hl2 hbs (w1.heap.size + 1) (by simp) ?_
          intro g cap w3 hown hgr hat hlt
          obtain ⟨q1, q2⟩ := pushed_word (x := x) HI.out hsz (HB1.out.alloc HB1.out.size (.cells #[.string x] 9)) hown hgr
          obtain ⟨d1, d2⟩ := box_grown HQ.out hgr
          have hlt3 : w.heap.size + 1 < w3.heap.size := by have := hgr.size; have := HQ.out.sz; omega
          refine hK _ _ ?_
          clear hK K
          try simp only [Act.put, List.setIfInBounds_toArray, List.set_cons_zero, List.set_cons_succ]
          refine wpAny_take (i := 6) (v := ?_) rfl (by kernel_rfl) (by kernel_rfl) (by kernel_rfl) (fun _ _ _ h => h) (Or.inl ⟨by rfl, ?_⟩) ?_
          rotate_left
          · intro w'
            go_simp
            rfl
          try simp only [Act.put, List.setIfInBounds_toArray, List.set_cons_zero, List.set_cons_succ]
          refine wpAny_ready (rs := [7]) (by kernel_rfl) (by simp) ?_
          refine AllReady.cons rfl (fun K hK => ?_) AllReady.nil
          go_simp
          refine hK _ _ ?_
          clear hK K
          refine wpAny_done (by kernel_rfl) ?_ _
          dsimp only [onlyK]
          exact HEND.out _ _ q1 q2
  case done =>
    rintro W ⟨v, hi⟩ hK
    rw [hz] at hK
    clear hB0 hB1 hB2 hI0
    change PI w (wordsL s) v W at hi
    have hT : Txs W v (wordsL s) := txs_of hi.own
    obtain ⟨po, pc, hvv⟩ := hT.slice
    subst hvv
    have HCK := Lib.hid (check_any (wordsL s) (words_fit s (by omega)) _ W hT)
    unfold CheckPost at HCK
    have hcz := check_zero (tl (wordsL s))
    have hpost : ParsePost s w = fun e w' => ∃ v, e = .returned (.tuple #[.agg #[v], .int .i64 (checkL (tl (wordsL s))).1, .int .i64 (checkL (tl (wordsL s))).2]) ∧
      (if (checkL (tl (wordsL s))).1 = 0 then w'.ownsRow w.heap.size 9 1 v (wordsL s).length (vals (wordsL s)) else v = .slice none 0 0) ∧ Below w.heap.size w w' := rfl
    have HPO := Lib.hid hpost
    revert HCK hcz HPO
    generalize (checkL (tl (wordsL s))).1 = c
    generalize (checkL (tl (wordsL s))).2 = d
    intro HCK hcz HPO
    obtain ⟨c0, -⟩ := cell_push hi
    have HI := Lib.hid hi
    have HK0 := Lib.hid hK
    have hsz2 := hi.sz
    clear hi hT hK hpost
    by_cases hc : c = 0
    · obtain rfl := hcz hc
      subst hc
      clear hcz
      gi_wp2_with (first
        | (refine ⟨trivial, ?_⟩; gi_at_call 18; refine (callsIn_wide.2 HCK.out).mono ?_; rintro e w1 ⟨rfl, hb1⟩; have hi1 := HI.out.up hb1; have hK1 := (hb1.block _ (lt_of_block HK0.out)).trans HK0.out; obtain ⟨d0, d1⟩ := cell_push hi1; obtain ⟨r0, r1⟩ := cell_of_block1 hi1.res; have r2 := lt_of_block hi1.res; have HI1 := Lib.hid hi1; have HK1 := Lib.hid hK1; clear hb1 hi1 hK1))
      obtain ⟨k1, k2, k3, k4⟩ := parse_end HI1.out HK1.out (.slice po (wordsL s).length pc)
      refine ⟨by simp, .inl ⟨_, _, rfl, run_takeDeferred k1, ?_⟩⟩
      rw [HPO.out]
      refine ⟨.tuple #[.agg #[.slice po (wordsL s).length pc], .int .i64 0, .int .i64 (0 : Nat)], ?_, _, rfl, ?_, k4⟩
      · simp [results, Tryd.results33, go_sem, k2]
      · rw [if_pos trivial]; exact k3 rfl
    · have hc2 : (c != 0) = true := by simpa using hc
      clear hcz
      gi_wp2_with (first
        | (refine ⟨trivial, ?_⟩; gi_at_call 18; refine (callsIn_wide.2 HCK.out).mono ?_; rintro e w1 ⟨rfl, hb1⟩; have hi1 := HI.out.up hb1; have hK1 := (hb1.block _ (lt_of_block HK0.out)).trans HK0.out; obtain ⟨d0, d1⟩ := cell_push hi1; obtain ⟨r0, r1⟩ := cell_of_block1 hi1.res; have r2 := lt_of_block hi1.res; have HI1 := Lib.hid hi1; have HK1 := Lib.hid hK1; clear hb1 hi1 hK1))
      obtain ⟨k1, k2, -, k4⟩ := parse_end HI1.out HK1.out (.slice none 0 0)
      refine ⟨by simp, .inl ⟨_, _, rfl, run_takeDeferred k1, ?_⟩⟩
      rw [HPO.out]
      refine ⟨.tuple #[.agg #[.slice none 0 0], .int .i64 c, .int .i64 d], ?_, _, rfl, ?_, k4⟩
      · simp [results, Tryd.results33, go_sem, k2]
      · rw [if_neg hc]
end Go.Proofs.YtidjnfjpdnjogaaDoor
