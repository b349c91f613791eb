/-
  meta.Parse. Conditions: none.
-/
import Derived.Test.YtiblkfhcpepnfaaDoorMeta2
namespace Go.Proofs.YtiblkfhcpepnfaaDoor
open Go.RowKit Go.Lib Go.Shelf
attribute [local go_sem] Oper.semAt_some

theorem heap_alloc_if (w : World) (o : Obj) (k : Nat) : (w.alloc o).heap[k]? = if k = w.heap.size then some o else w.heap[k]? := by
  show (w.heap.push o)[k]? = _
  rw [Array.getElem?_push]
theorem size_alloc_one (w : World) (o : Obj) : (w.alloc o).heap.size = w.heap.size + 1 := by simp

/-- What holds between two words. -/
structure PI (w : World) (m : Mt) (W : World) : Prop where
  res : W.heap[w.heap.size]? = some (.cells #[.int .i64 0, .int .i64 0, .int .i64 0] 23)
  box : W.heap[w.heap.size + 1]? = some (.cells m.cells 23)
  below : Below w.heap.size w W
theorem PI.other {w : World} {m : Mt} {W W' : World} (h : PI w m W) (h0 : W'.heap[w.heap.size]? = W.heap[w.heap.size]?) (h1 : W'.heap[w.heap.size + 1]? = W.heap[w.heap.size + 1]?) (hb : Below w.heap.size w W') : PI w m W' := ⟨h0.trans h.res, h1.trans h.box, hb⟩
theorem PI.sz {w : World} {m : Mt} {W : World} (h : PI w m W) : w.heap.size + 1 < W.heap.size := lt_of_block h.box
theorem PI.up {w : World} {m : Mt} {W W' : World} (h : PI w m W) (hb : Below W.heap.size W W') : PI w m W' :=
  h.other (hb.block _ (by have := h.sz; omega)) (hb.block _ h.sz) (h.below.trans (hb.mono h.below.size))
theorem PI.set {w : World} {m m' : Mt} {W : World} (h : PI w m W) (i : Nat) (v : Value) (hm : m.cells.setIfInBounds i v = m'.cells) : PI w m' (W.setCell ⟨w.heap.size + 1, i, none⟩ v) :=
  ⟨(Below.heap_setCell W _ _ _ (by show _ ≠ w.heap.size + 1; omega)).trans h.res, by rw [heap_setCell_same h.box, hm], h.below.setCell (p := ⟨w.heap.size + 1, i, none⟩) (by show _ ≤ w.heap.size + 1; omega) v⟩
def foldM (pre : List ByteArray) : Mt := pre.foldl (fun m x => setM m x.data.toList) ⟨0, 0, 0⟩
theorem foldM_snoc (pre : List ByteArray) (x : ByteArray) : foldM (pre ++ [x]) = setM (foldM pre) x.data.toList := by simp [foldM]
theorem foldM_split (l : List UInt8) : foldM ((splitB 32 l).map mkS) = readM l := by
  rw [foldM, readM, List.foldl_map]
  rfl

theorem splitB_len (b : UInt8) : ∀ l, ∀ y ∈ splitB b l, y.length ≤ l.length
  | [], y, h => by simp [splitB] at h; simp [h]
  | c :: t, y, h => by
    rw [splitB] at h
    have ih := splitB_len b t
    split at h
    · rcases List.mem_cons.1 h with rfl | h
      · simp
      · have := ih y h; simp; omega
    · cases hs : splitB b t with
      | nil => exact absurd hs (splitB_ne b t)
      | cons w r =>
        rw [hs] at h ih
        simp only [] at h
        rcases List.mem_cons.1 h with rfl | h
        · have := ih w (by simp); simp; omega
        · have := ih y (by simp [h]); simp; omega
/-- The frame of a round. -/
def pAct (s : ByteArray) (n : Nat) (x : ByteArray) : Act :=
  { tmps := #[.string s, undef, .pointer (some ⟨n, 0, none⟩), .int .i64 0, .pointer (some ⟨n + 1, 0, none⟩), .string x, undef, undef, undef, undef, undef, undef, undef, .string s,
      .func (.func 40) #[] #[.pointer (some ⟨n + 1 + 1 + 1, 0, none⟩), .pointer (some ⟨n + 1 + 1, 0, none⟩), .pointer (some ⟨n + 1 + 1 + 2, 0, none⟩)], .string x, undef, undef, undef, undef, undef, undef, undef, undef, undef, undef, undef, undef, undef, undef, undef, undef, undef, undef, undef, undef, undef, undef, undef, undef, undef, undef, undef, undef, undef, undef, undef, undef, undef, undef, undef, undef, undef, undef, undef, undef], defers := [] }

/-- The three stores of a result, and the end of the loop's block. -/
theorem parse_end {w w1 : World} {m r : Mt} (hi : PI w m w1) (hK : w1.heap[w.heap.size + 5]? = some (.deferred (some []))) :
    ((((w1.setCell ⟨w.heap.size, 0, none⟩ (.int .i64 r.a)).setCell ⟨w.heap.size, 1, none⟩ (.int .i64 r.b)).setCell ⟨w.heap.size, 2, none⟩ (.int .i64 r.c)).heap[w.heap.size + 5]? = some (.deferred (some [])))
    ∧ RdM r w.heap.size ((((w1.setCell ⟨w.heap.size, 0, none⟩ (.int .i64 r.a)).setCell ⟨w.heap.size, 1, none⟩ (.int .i64 r.b)).setCell ⟨w.heap.size, 2, none⟩ (.int .i64 r.c)).putObj (w.heap.size + 5) (.deferred none))
    ∧ Below w.heap.size w ((((w1.setCell ⟨w.heap.size, 0, none⟩ (.int .i64 r.a)).setCell ⟨w.heap.size, 1, none⟩ (.int .i64 r.b)).setCell ⟨w.heap.size, 2, none⟩ (.int .i64 r.c)).putObj (w.heap.size + 5) (.deferred none)) := by
  have e0 := heap_setCell_same (off := 0) hi.res (.int .i64 r.a)
  have e1 := heap_setCell_same (off := 1) e0 (.int .i64 r.b)
  have e2 := heap_setCell_same (off := 2) e1 (.int .i64 r.c)
  have e3 : (((w1.setCell ⟨w.heap.size, 0, none⟩ (.int .i64 r.a)).setCell ⟨w.heap.size, 1, none⟩ (.int .i64 r.b)).setCell ⟨w.heap.size, 2, none⟩ (.int .i64 r.c)).heap[w.heap.size]? = some (.cells r.cells 23) := by
    rw [e2]; simp [Mt.cells]
  have q1 := (Below.heap_setCell w1 ⟨w.heap.size, 0, none⟩ (.int .i64 r.a) (w.heap.size + 5) (by show _ ≠ w.heap.size; omega)).trans hK
  have q2 := (Below.heap_setCell _ ⟨w.heap.size, 1, none⟩ (.int .i64 r.b) (w.heap.size + 5) (by show _ ≠ w.heap.size; omega)).trans q1
  have q3 := (Below.heap_setCell _ ⟨w.heap.size, 2, none⟩ (.int .i64 r.c) (w.heap.size + 5) (by show _ ≠ w.heap.size; omega)).trans q2
  refine ⟨q3, RdM.of ((World.putObj_heap_other (by omega)).trans e3), ?_⟩
  have hb := ((hi.below.setCell (p := ⟨w.heap.size, 0, none⟩) (Nat.le_refl _) (.int .i64 r.a)).setCell (p := ⟨w.heap.size, 1, none⟩) (Nat.le_refl _) (.int .i64 r.b)).setCell (p := ⟨w.heap.size, 2, none⟩) (Nat.le_refl _) (.int .i64 r.c)
  exact hb.trans (belowK_b (w := w) (Nat.le_refl _) _ _ _ _ (by omega) q3 rfl rfl)

set_option maxRecDepth 100000 in
set_option maxHeartbeats 2000000 in
theorem parse_any (s : ByteArray) (hs : s.size ≤ 1000000) (w : World) (ht : Tab w) :
    Calls Tryd.prog 10 #[.string s] w fun e w' => e = .returned (.tuple #[(parseM s.data.toList).1.val, .int .i64 (parseM s.data.toList).2]) ∧ Below w.heap.size w w' := by
  have HT := Lib.hid ht; clear ht
  have hpm : parseM s.data.toList = if textM (readM s.data.toList) = (s.data.toList, 0) then (readM s.data.toList, 0) else (⟨0, 0, 0⟩, 6) := rfl
  revert hpm
  generalize parseM s.data.toList = pm
  intro hpm
  have HPM := Lib.hid hpm; clear hpm
  refine (callsIn_wide (n := 5)).1 ?_
  refine callsIn_of_wp_marks Tryd.func10 rfl trivial ?_ rfl
  simp only [Tryd.ntmps10, List.size_toArray, List.length_cons, List.length_nil, Nat.reduceAdd, Nat.reduceSub, Array.replicate_succ, Array.replicate_zero, List.push_toArray, List.append_toArray, List.nil_append, List.cons_append]
  gi_wp2_with (first
    | (refine ⟨trivial, ?_⟩; gi_at_call 21; refine (callsIn_wide.2 (splitSeq_any s 32 _)).mono ?_; rintro e w' ⟨rfl, rfl⟩))
  obtain ⟨W0, hW0⟩ : ∃ W0, (((((w.alloc (Obj.cells #[.int .i64 0, .int .i64 0, .int .i64 0] 23)).alloc (Obj.cells #[.int .i64 0, .int .i64 0, .int .i64 0] 23)).alloc (Obj.cells #[.string s] 9)).alloc (Obj.cells #[.string ⟨#[32]⟩] 9)).alloc (Obj.cells #[.int .i64 0] 3)) = W0 := ⟨_, rfl⟩
  rw [hW0]
  have hz : W0.heap.size = w.heap.size + 5 := by rw [← hW0]; simp
  have hI0 : PI w ⟨0, 0, 0⟩ W0 := by
    refine ⟨?_, ?_, ?_⟩
    · rw [← hW0]
      simp only [heap_alloc_if, size_alloc_one]
      rw [if_neg (by omega), if_neg (by omega), if_neg (by omega), if_neg (by omega), if_pos trivial]
    · rw [← hW0]
      simp only [heap_alloc_if, size_alloc_one]
      rw [if_neg (by omega), if_neg (by omega), if_neg (by omega), if_pos trivial]
      rfl
    · rw [← hW0]
      exact (((((Below.refl _ w).alloc (Nat.le_refl _) _).alloc (by simp) _).alloc (by simp; omega) _).alloc (by simp; omega) _).alloc (by simp; omega) _
  have hB0 : W0.heap[w.heap.size + 1 + 1]? = some (.cells #[.string s] 9) := by
    rw [← hW0]
    simp only [heap_alloc_if, size_alloc_one]
    rw [if_neg (by omega), if_neg (by omega), if_pos trivial]
  have hB1 : W0.heap[w.heap.size + 1 + 1 + 1]? = some (.cells #[.string ⟨#[32]⟩] 9) := by
    rw [← hW0]
    simp only [heap_alloc_if, size_alloc_one]
    rw [if_neg (by omega), if_pos trivial]
  have hB2 : W0.heap[w.heap.size + 1 + 1 + 2]? = some (.cells #[.int .i64 0] 3) := by
    rw [← hW0]
    simp only [heap_alloc_if, size_alloc_one]
    rw [if_pos trivial]
  clear hW0
  refine range_over (gf := 40) (lb := #[.pointer (some ⟨w.heap.size + 1 + 1 + 1, 0, none⟩), .pointer (some ⟨w.heap.size + 1 + 1, 0, none⟩), .pointer (some ⟨w.heap.size + 1 + 1 + 2, 0, none⟩)]) rfl (enters_of Tryd.func40 (by kernel_rfl) rfl)
    (fun x : ByteArray => #[.string x]) (fun _ => rfl) (w.heap.size + 1 + 1) (by omega) ((splitB 32 s.data.toList).map mkS) (split_yields 4 (by decide) (w.heap.size + 1 + 1) 32 s hs W0 hB0 hB1 hB2)
    (fun pre W => PI w (foldM pre) W) ?hIn ?hIp ?hIs hI0 (pAct s w.heap.size) ?assign ?body ?done
  case hIn => exact fun pre W o h => h.up (below_alloc _ _)
  case hIp =>
    intro pre W l o h h1 _
    exact h.other (World.putObj_heap_other (by omega)) (World.putObj_heap_other (by omega)) (h.below.grown (grownBy_putObj' W l o) (by have := h.sz; omega) (fun k e => by cases e; omega))
  case hIs =>
    intro pre W v h
    exact h.other (Below.heap_setCell W _ _ _ (by show _ ≠ w.heap.size + 1 + 1; omega)) (Below.heap_setCell W _ _ _ (by show _ ≠ w.heap.size + 1 + 1; omega)) (h.below.setCell (p := ⟨w.heap.size + 1 + 1, 0, none⟩) (by show _ ≤ w.heap.size + 1 + 1; omega) v)
  case assign =>
    intro l x W K hK
    gi_wp2
    exact hK
  case body =>
    intro l pre x W hi hx hsz
    have hfold : foldM (pre ++ [x]) = setM (foldM pre) x.data.toList := foldM_snoc pre x
    obtain ⟨m, hm⟩ : ∃ m, foldM pre = m := ⟨_, rfl⟩
    rw [hm] at hi hfold
    rw [hfold]
    clear hm hfold
    have hxs : x.size ≤ 1000000 := by
      have hmem : x ∈ (splitB 32 s.data.toList).map mkS := hx.subset (by simp)
      obtain ⟨y, hy, rfl⟩ := List.mem_map.1 hmem
      have := splitB_len 32 s.data.toList y hy
      show y.toArray.size ≤ _
      simp at this ⊢; omega
    have HC := cut24 x 61 W hxs
    have hset : setM m x.data.toList = if (numberOf (cutB 61 x.data.toList).2.1).2 = 0 then
        if (cutB 61 x.data.toList).1 = countK then ⟨(numberOf (cutB 61 x.data.toList).2.1).1, m.b, m.c⟩
        else if (cutB 61 x.data.toList).1 = ageK then ⟨m.a, (numberOf (cutB 61 x.data.toList).2.1).1, m.c⟩
        else if (cutB 61 x.data.toList).1 = beforeK then ⟨m.a, m.b, (numberOf (cutB 61 x.data.toList).2.1).1⟩
        else m
      else m := rfl
    revert HC hset
    generalize cutB 61 x.data.toList = r
    intro HC hset
    obtain ⟨nm, d, z⟩ := r
    unfold cutTells at HC
    simp only [] at HC hset
    have HN := fun w => number_any ⟨d.toArray⟩ w
    rw [show (⟨d.toArray⟩ : ByteArray).data.toList = d from rfl] at HN
    revert HN hset
    generalize numberOf d = q
    intro hset HN
    obtain ⟨v, er⟩ := q
    unfold tells at HN
    simp only [] at HN hset
    have HI := Lib.hid hi
    have c0 : W.cell? ⟨w.heap.size + 1, 0, none⟩ = some (.int .i64 m.a) := by simp [World.cell?, hi.box, Mt.cells]
    have c1 : W.cell? ⟨w.heap.size + 1, 1, none⟩ = some (.int .i64 m.b) := by simp [World.cell?, hi.box, Mt.cells]
    have c2 : W.cell? ⟨w.heap.size + 1, 2, none⟩ = some (.int .i64 m.c) := by simp [World.cell?, hi.box, Mt.cells]
    have hsz2 := hi.sz
    clear hi hx
    replace HC := Lib.hid HC
    replace HN := Lib.hid HN
    unfold pAct
    by_cases he : er = 0
    · subst he
      rw [if_pos rfl] at hset
      by_cases hcountK : nm = countK
      · rw [if_pos hcountK] at hset
        rw [hset]
        have qcountK : (nm == [99, 111, 117, 110, 116]) = true := by rw [hcountK]; rfl
        clear hset hcountK
        gi_wp2_with (first
          | (refine ⟨trivial, ?_⟩; gi_at_call 22; refine (CallsIn.inRound l (callsIn_wide.2 HC.out)).mono ?_; rintro e w1 ⟨rfl, hb1⟩; have hbx := hb1.block (w.heap.size + 1) hsz2; have d0 := (World.cell?_of_block hbx).trans c0; have d1 := (World.cell?_of_block hbx).trans c1; have d2 := (World.cell?_of_block hbx).trans c2; have hi1 := HI.out.up hb1; have f0 : ∀ j, w1.frozen? ⟨w.heap.size + 1, j, none⟩ = false := fun j => Lib.frozen_of_heap hi1.box j; have hz1 := hi1.sz; have HI1 := Lib.hid hi1; clear hi1 hbx; replace hb1 := Lib.hid hb1)
          | (refine ⟨trivial, ?_⟩; gi_at_call 23; refine (CallsIn.inRound l (callsIn_wide.2 (HN.out _))).mono ?_; rintro e w2 ⟨rfl, rfl⟩))
        exact ⟨(Below.heap_setCell w1 _ _ _ (by show W0.heap.size ≠ w.heap.size + 1; omega)).trans (hb1.out.block _ (by omega)), (Below.heap_setCell w1 _ _ _ (by show W0.heap.size + 1 ≠ w.heap.size + 1; omega)).trans (hb1.out.block _ (by omega)),
          fun b hb _ => (Below.heap_setCell w1 _ _ _ (by show b ≠ w.heap.size + 1; omega)).trans (hb1.out.block _ (by omega)), HI1.out.set 0 _ (by simp [Mt.cells])⟩
      · rw [if_neg hcountK] at hset
        by_cases hageK : nm = ageK
        · rw [if_pos hageK] at hset
          rw [hset]
          have qcountK : (nm == [99, 111, 117, 110, 116]) = false := beq_eq_false_iff_ne.2 hcountK
          have qageK : (nm == [97, 103, 101]) = true := by rw [hageK]; rfl
          clear hset hcountK hageK
          gi_wp2_with (first
            | (refine ⟨trivial, ?_⟩; gi_at_call 22; refine (CallsIn.inRound l (callsIn_wide.2 HC.out)).mono ?_; rintro e w1 ⟨rfl, hb1⟩; have hbx := hb1.block (w.heap.size + 1) hsz2; have d0 := (World.cell?_of_block hbx).trans c0; have d1 := (World.cell?_of_block hbx).trans c1; have d2 := (World.cell?_of_block hbx).trans c2; have hi1 := HI.out.up hb1; have f0 : ∀ j, w1.frozen? ⟨w.heap.size + 1, j, none⟩ = false := fun j => Lib.frozen_of_heap hi1.box j; have hz1 := hi1.sz; have HI1 := Lib.hid hi1; clear hi1 hbx; replace hb1 := Lib.hid hb1)
            | (refine ⟨trivial, ?_⟩; gi_at_call 23; refine (CallsIn.inRound l (callsIn_wide.2 (HN.out _))).mono ?_; rintro e w2 ⟨rfl, rfl⟩))
          exact ⟨(Below.heap_setCell w1 _ _ _ (by show W0.heap.size ≠ w.heap.size + 1; omega)).trans (hb1.out.block _ (by omega)), (Below.heap_setCell w1 _ _ _ (by show W0.heap.size + 1 ≠ w.heap.size + 1; omega)).trans (hb1.out.block _ (by omega)),
            fun b hb _ => (Below.heap_setCell w1 _ _ _ (by show b ≠ w.heap.size + 1; omega)).trans (hb1.out.block _ (by omega)), HI1.out.set 1 _ (by simp [Mt.cells])⟩
        · rw [if_neg hageK] at hset
          by_cases hbeforeK : nm = beforeK
          · rw [if_pos hbeforeK] at hset
            rw [hset]
            have qcountK : (nm == [99, 111, 117, 110, 116]) = false := beq_eq_false_iff_ne.2 hcountK
            have qageK : (nm == [97, 103, 101]) = false := beq_eq_false_iff_ne.2 hageK
            have qbeforeK : (nm == [98, 101, 102, 111, 114, 101]) = true := by rw [hbeforeK]; rfl
            clear hset hcountK hageK hbeforeK
            gi_wp2_with (first
              | (refine ⟨trivial, ?_⟩; gi_at_call 22; refine (CallsIn.inRound l (callsIn_wide.2 HC.out)).mono ?_; rintro e w1 ⟨rfl, hb1⟩; have hbx := hb1.block (w.heap.size + 1) hsz2; have d0 := (World.cell?_of_block hbx).trans c0; have d1 := (World.cell?_of_block hbx).trans c1; have d2 := (World.cell?_of_block hbx).trans c2; have hi1 := HI.out.up hb1; have f0 : ∀ j, w1.frozen? ⟨w.heap.size + 1, j, none⟩ = false := fun j => Lib.frozen_of_heap hi1.box j; have hz1 := hi1.sz; have HI1 := Lib.hid hi1; clear hi1 hbx; replace hb1 := Lib.hid hb1)
              | (refine ⟨trivial, ?_⟩; gi_at_call 23; refine (CallsIn.inRound l (callsIn_wide.2 (HN.out _))).mono ?_; rintro e w2 ⟨rfl, rfl⟩))
            exact ⟨(Below.heap_setCell w1 _ _ _ (by show W0.heap.size ≠ w.heap.size + 1; omega)).trans (hb1.out.block _ (by omega)), (Below.heap_setCell w1 _ _ _ (by show W0.heap.size + 1 ≠ w.heap.size + 1; omega)).trans (hb1.out.block _ (by omega)),
              fun b hb _ => (Below.heap_setCell w1 _ _ _ (by show b ≠ w.heap.size + 1; omega)).trans (hb1.out.block _ (by omega)), HI1.out.set 2 _ (by simp [Mt.cells])⟩
          · rw [if_neg hbeforeK] at hset
            rw [hset]
            have qcountK : (nm == [99, 111, 117, 110, 116]) = false := beq_eq_false_iff_ne.2 hcountK
            have qageK : (nm == [97, 103, 101]) = false := beq_eq_false_iff_ne.2 hageK
            have qbeforeK : (nm == [98, 101, 102, 111, 114, 101]) = false := beq_eq_false_iff_ne.2 hbeforeK
            clear hset hcountK hageK hbeforeK
            gi_wp2_with (first
              | (refine ⟨trivial, ?_⟩; gi_at_call 22; refine (CallsIn.inRound l (callsIn_wide.2 HC.out)).mono ?_; rintro e w1 ⟨rfl, hb1⟩; have hbx := hb1.block (w.heap.size + 1) hsz2; have d0 := (World.cell?_of_block hbx).trans c0; have d1 := (World.cell?_of_block hbx).trans c1; have d2 := (World.cell?_of_block hbx).trans c2; have hi1 := HI.out.up hb1; have f0 : ∀ j, w1.frozen? ⟨w.heap.size + 1, j, none⟩ = false := fun j => Lib.frozen_of_heap hi1.box j; have hz1 := hi1.sz; have HI1 := Lib.hid hi1; clear hi1 hbx; replace hb1 := Lib.hid hb1)
              | (refine ⟨trivial, ?_⟩; gi_at_call 23; refine (CallsIn.inRound l (callsIn_wide.2 (HN.out _))).mono ?_; rintro e w2 ⟨rfl, rfl⟩))
            exact ⟨hb1.out.block _ (by omega), hb1.out.block _ (by omega), fun b _ _ => hb1.out.block _ (by omega), HI1.out⟩
    · rw [if_neg he] at hset
      rw [hset]
      have he2 : (er == 0) = false := beq_eq_false_iff_ne.2 he
      have he3 : (er != 0) = true := by rw [bne, he2]; rfl
      clear hset he
      gi_wp2_with (first
        | (refine ⟨trivial, ?_⟩; gi_at_call 22; refine (CallsIn.inRound l (callsIn_wide.2 HC.out)).mono ?_; rintro e w1 ⟨rfl, hb1⟩; replace hb1 := Lib.hid hb1)
        | (refine ⟨trivial, ?_⟩; gi_at_call 23; refine (CallsIn.inRound l (callsIn_wide.2 (HN.out _))).mono ?_; rintro e w2 ⟨rfl, rfl⟩))
      exact ⟨hb1.out.block _ (by omega), hb1.out.block _ (by omega), fun b _ _ => hb1.out.block _ (by omega), HI.out.up hb1.out⟩
  case done =>
    intro W hi hK
    rw [foldM_split] at hi
    have hpm := HPM.out
    clear HPM hB0 hB1 hB2 hI0
    obtain ⟨m, hm⟩ : ∃ m, readM s.data.toList = m := ⟨_, rfl⟩
    rw [hm] at hi hpm
    clear hm
    have HX := Lib.hid (fun W ht => text_any m W ht)
    obtain ⟨tx, er, hte⟩ : ∃ tx er, textM m = (tx, er) := ⟨_, _, rfl⟩
    rw [hte] at HX hpm
    clear hte
    unfold textV at HX
    simp only [] at HX
    obtain ⟨ag, hag⟩ : ∃ ag, mkS tx = ag := ⟨_, rfl⟩
    rw [hag] at HX
    have hagl : ag.data.toList = tx := by rw [← hag]; rfl
    have c0 : W.cell? ⟨w.heap.size + 1, 0, none⟩ = some (.int .i64 m.a) := by simp [World.cell?, hi.box, Mt.cells]
    have c1 : W.cell? ⟨w.heap.size + 1, 1, none⟩ = some (.int .i64 m.b) := by simp [World.cell?, hi.box, Mt.cells]
    have c2 : W.cell? ⟨w.heap.size + 1, 2, none⟩ = some (.int .i64 m.c) := by simp [World.cell?, hi.box, Mt.cells]
    have hsz2 := hi.sz
    have hsz1 : w.heap.size < W.heap.size := by omega
    have HI := Lib.hid hi
    have HK := Lib.hid hK
    have hDs := lt_of_block hK
    clear hi hK
    by_cases hgood : (tx, er) = (s.data.toList, (0 : Int))
    · rw [if_pos hgood] at hpm
      have HPM := Lib.hid hpm; clear hpm
      simp only [Prod.mk.injEq] at hgood
      obtain ⟨g1, rfl⟩ := hgood
      have g2 : (ag.toList == s.toList) = true := by rw [toList_data, toList_data, hagl, g1]; simp
      have g3 : (ag.toList != s.toList) = false := by rw [bne, g2]; rfl
      clear hagl g1
      gi_wp2_with (first
        | (refine ⟨trivial, ?_⟩; gi_at_call 8; refine (callsIn_wide.2 (HX.out _ (HT.out.below HI.out.below))).mono ?_; rintro e w1 ⟨rfl, hb1⟩; have hbx := hb1.block (w.heap.size + 1) hsz2; have d0 := (World.cell?_of_block hbx).trans c0; have d1 := (World.cell?_of_block hbx).trans c1; have d2 := (World.cell?_of_block hbx).trans c2; have hi1 := HI.out.up hb1; have r0 : w1.cell? ⟨w.heap.size, 0, none⟩ = some (.int .i64 0) := by { simp [World.cell?, hi1.res] }; have r1 : w1.cell? ⟨w.heap.size, 1, none⟩ = some (.int .i64 0) := by { simp [World.cell?, hi1.res] }; have r2 : w1.cell? ⟨w.heap.size, 2, none⟩ = some (.int .i64 0) := by { simp [World.cell?, hi1.res] }; have f0 : ∀ j, w1.frozen? ⟨w.heap.size, j, none⟩ = false := fun j => Lib.frozen_of_heap hi1.res j; have HI1 := Lib.hid hi1; have HK1 := Lib.hid ((hb1.block _ hDs).trans HK.out); clear hi1 hbx hb1))
      have hK5 := HK1.out
      rw [hz] at hK5
      obtain ⟨k1, ⟨k2, k3, k4⟩, k5⟩ := parse_end (r := m) HI1.out hK5
      clear hK5
      refine ⟨by simp, .inl ⟨_, _, rfl, run_takeDeferred k1, ?_⟩⟩
      refine ⟨.tuple #[m.val, .int .i64 0], ?_, by rw [HPM.out], k5⟩
      simp [results, Tryd.results10, go_sem, k2, k3, k4]
    · rw [if_neg hgood] at hpm
      have HPM := Lib.hid hpm; clear hpm
      by_cases he : er = 0
      · subst he
        have g2 : (ag.toList == s.toList) = false := by
          rw [beq_eq_false_iff_ne, toList_data, toList_data, hagl]
          intro e
          exact hgood (by rw [e])
        have g3 : (ag.toList != s.toList) = true := by rw [bne, g2]; rfl
        clear hagl hgood
        gi_wp2_with (first
          | (refine ⟨trivial, ?_⟩; gi_at_call 8; refine (callsIn_wide.2 (HX.out _ (HT.out.below HI.out.below))).mono ?_; rintro e w1 ⟨rfl, hb1⟩; have hbx := hb1.block (w.heap.size + 1) hsz2; have d0 := (World.cell?_of_block hbx).trans c0; have d1 := (World.cell?_of_block hbx).trans c1; have d2 := (World.cell?_of_block hbx).trans c2; have hi1 := HI.out.up hb1; have r0 : w1.cell? ⟨w.heap.size, 0, none⟩ = some (.int .i64 0) := by { simp [World.cell?, hi1.res] }; have r1 : w1.cell? ⟨w.heap.size, 1, none⟩ = some (.int .i64 0) := by { simp [World.cell?, hi1.res] }; have r2 : w1.cell? ⟨w.heap.size, 2, none⟩ = some (.int .i64 0) := by { simp [World.cell?, hi1.res] }; have f0 : ∀ j, w1.frozen? ⟨w.heap.size, j, none⟩ = false := fun j => Lib.frozen_of_heap hi1.res j; have HI1 := Lib.hid hi1; have HK1 := Lib.hid ((hb1.block _ hDs).trans HK.out); clear hi1 hbx hb1))
        have hK5 := HK1.out
        rw [hz] at hK5
        obtain ⟨k1, ⟨k2, k3, k4⟩, k5⟩ := parse_end (r := (⟨0, 0, 0⟩ : Mt)) HI1.out hK5
        clear hK5
        refine ⟨by simp, .inl ⟨_, _, rfl, run_takeDeferred k1, ?_⟩⟩
        refine ⟨.tuple #[(⟨0, 0, 0⟩ : Mt).val, .int .i64 6], ?_, by rw [HPM.out], k5⟩
        simp [results, Tryd.results10, go_sem, k2, k3, k4]
      · have he2 : (er == 0) = false := beq_eq_false_iff_ne.2 he
        have he3 : (er != 0) = true := by rw [bne, he2]; rfl
        clear hagl hgood he
        gi_wp2_with (first
          | (refine ⟨trivial, ?_⟩; gi_at_call 8; refine (callsIn_wide.2 (HX.out _ (HT.out.below HI.out.below))).mono ?_; rintro e w1 ⟨rfl, hb1⟩; have hbx := hb1.block (w.heap.size + 1) hsz2; have d0 := (World.cell?_of_block hbx).trans c0; have d1 := (World.cell?_of_block hbx).trans c1; have d2 := (World.cell?_of_block hbx).trans c2; have hi1 := HI.out.up hb1; have r0 : w1.cell? ⟨w.heap.size, 0, none⟩ = some (.int .i64 0) := by { simp [World.cell?, hi1.res] }; have r1 : w1.cell? ⟨w.heap.size, 1, none⟩ = some (.int .i64 0) := by { simp [World.cell?, hi1.res] }; have r2 : w1.cell? ⟨w.heap.size, 2, none⟩ = some (.int .i64 0) := by { simp [World.cell?, hi1.res] }; have f0 : ∀ j, w1.frozen? ⟨w.heap.size, j, none⟩ = false := fun j => Lib.frozen_of_heap hi1.res j; have HI1 := Lib.hid hi1; have HK1 := Lib.hid ((hb1.block _ hDs).trans HK.out); clear hi1 hbx hb1))
        have hK5 := HK1.out
        rw [hz] at hK5
        obtain ⟨k1, ⟨k2, k3, k4⟩, k5⟩ := parse_end (r := (⟨0, 0, 0⟩ : Mt)) HI1.out hK5
        clear hK5
        refine ⟨by simp, .inl ⟨_, _, rfl, run_takeDeferred k1, ?_⟩⟩
        refine ⟨.tuple #[(⟨0, 0, 0⟩ : Mt).val, .int .i64 6], ?_, by rw [HPM.out], k5⟩
        simp [results, Tryd.results10, go_sem, k2, k3, k4]
end Go.Proofs.YtiblkfhcpepnfaaDoor
