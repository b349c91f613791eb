/-
  The document's Parse. Conditions: none.
-/
import Derived.Test.YtiblkfhcpepnfaaDoorMeta5
namespace Go.Proofs.YtiblkfhcpepnfaaDoor
open Go.RowKit Go.Lib

theorem row_cell {w : World} {B n pc : Nat} {po : Option Addr} {L : List (List UInt8)} (h : w.ownsRow B 9 1 (.slice po n pc) n (strs L)) (j : Nat) (hj : j < n) :
    ∃ g, po = some ⟨g, 0, none⟩ ∧ B ≤ g ∧ g < w.heap.size ∧ w.cell? ⟨g, j, none⟩ = some (.string (mkS (L.getD j []))) := by
  have hl := h.1
  rcases h.2 with ⟨e, h0⟩ | ⟨g, cap, cur, e, hg, hh, hn, hm, hsz, ht⟩
  · omega
  · cases e
    refine ⟨g, rfl, hg, lt_of_block hh, ?_⟩
    have hjl : j < L.length := by simp [strs] at hl; omega
    have h1 : (strs L)[j]? = some (.string (mkS (L.getD j []))) := by
      rw [strs, List.getElem?_map, List.getElem?_eq_getElem hjl]
      simp [List.getD, hjl]
    rw [← ht, List.getElem?_take] at h1
    split at h1
    · rw [Lib.cell_of_heap hh]; simpa using h1
    · cases h1
theorem splitB_count (b : UInt8) : ∀ l, (splitB b l).length ≤ l.length + 1
  | [] => by simp [splitB]
  | c :: t => by
    have ih := splitB_count b t
    rw [splitB]
    split
    · simp; omega
    · cases hs : splitB b t with
      | nil => exact absurd hs (splitB_ne b t)
      | cons w r => rw [hs] at ih; simp at ih ⊢; omega
theorem take_fold (L : List (List UInt8)) (k : Nat) (h : k < L.length) (m : Mt) : (L.take (k + 1)).foldl setM m = setM ((L.take k).foldl setM m) (L.getD k []) := by
  rw [List.take_succ_eq_append_getElem h, List.foldl_append]
  simp [List.getD, h]

/-- A stored word's three numbers. -/
theorem PI.three {w : World} {m : Mt} {W : World} (h : PI w m W) (i : Nat) (v : Int) (m' : Mt) (hm : m.cells.setIfInBounds i (.int .i64 v) = m'.cells) : PI w m' (W.setCell ⟨w.heap.size + 1, i, none⟩ (.int .i64 v)) := h.set i _ hm

theorem own_set {W : World} {n k i : Nat} {v x : Value} {xs : List Value} (h : W.ownsRow (n + 2) 9 1 v k xs) : (W.setCell ⟨n + 1, i, none⟩ x).ownsRow (n + 2) 9 1 v k xs :=
  own_same h fun g hg => Below.heap_setCell W _ _ _ (by have := (h.lt g hg).1; show g ≠ n + 1; omega)
/-- The three stores of a result. -/
theorem res_end {w w1 : World} {m r : Mt} (hi : PI w m w1) :
    RdM r w.heap.size (((w1.setCell ⟨w.heap.size, 0, none⟩ (.int .i64 r.a)).setCell ⟨w.heap.size, 1, none⟩ (.int .i64 r.b)).setCell ⟨w.heap.size, 2, none⟩ (.int .i64 r.c))
    ∧ Below w.heap.size w (((w1.setCell ⟨w.heap.size, 0, none⟩ (.int .i64 r.a)).setCell ⟨w.heap.size, 1, none⟩ (.int .i64 r.b)).setCell ⟨w.heap.size, 2, none⟩ (.int .i64 r.c)) := by
  have e0 := heap_setCell_same (off := 0) hi.res (.int .i64 r.a)
  have e1 := heap_setCell_same (off := 1) e0 (.int .i64 r.b)
  have e2 := heap_setCell_same (off := 2) e1 (.int .i64 r.c)
  have e3 : (((w1.setCell ⟨w.heap.size, 0, none⟩ (.int .i64 r.a)).setCell ⟨w.heap.size, 1, none⟩ (.int .i64 r.b)).setCell ⟨w.heap.size, 2, none⟩ (.int .i64 r.c)).heap[w.heap.size]? = some (.cells r.cells 23) := by
    rw [e2]; simp [Mt.cells]
  exact ⟨RdM.of e3, ((hi.below.setCell (p := ⟨w.heap.size, 0, none⟩) (Nat.le_refl _) (.int .i64 r.a)).setCell (p := ⟨w.heap.size, 1, none⟩) (Nat.le_refl _) (.int .i64 r.b)).setCell (p := ⟨w.heap.size, 2, none⟩) (Nat.le_refl _) (.int .i64 r.c)⟩

set_option maxRecDepth 100000 in
set_option maxHeartbeats 4000000 in
theorem rparse_any (s : ByteArray) (hs : s.size ≤ 1000000) (w : World) :
    Calls Tryd.prog 11 #[.string s] w fun e w' => e = .returned (.tuple #[(parseM s.data.toList).1.val, .int .i64 (parseM s.data.toList).2]) ∧ Below w.heap.size w w' := by
  have hpm : parseM s.data.toList = if textM (readM s.data.toList) = (s.data.toList, 0) then (readM s.data.toList, 0) else (⟨0, 0, 0⟩, 6) := rfl
  rw [readM_words] at hpm
  revert hpm
  generalize parseM s.data.toList = pm
  intro hpm
  have HPM := Lib.hid hpm; clear hpm
  have HWD := Lib.hid (fun w => words_any s hs w)
  obtain ⟨L, hL⟩ : ∃ L, wordsB s.data.toList = L := ⟨_, rfl⟩
  have hLl : L.length ≤ s.size + 1 := by
    rw [← hL]
    unfold wordsB
    have h1 := List.length_filter_le (fun w : List UInt8 => !w.isEmpty) (splitB 32 s.data.toList)
    have h2 : (splitB 32 s.data.toList).length ≤ s.data.toList.length + 1 := splitB_count 32 _
    rw [len_data] at h2
    omega
  rw [hL] at HPM
  unfold WordsPost at HWD
  rw [hL] at HWD
  clear hL
  go_enter Tryd.func11, Tryd.ntmps11
  go_wp2_with fail
  refine (HWD.out _).mono ?_
  rintro e w1 ⟨v, rfl, hown, hb1⟩
  have hI1 : PI w ⟨0, 0, 0⟩ w1 := by
    refine ⟨(hb1.block _ (by simp; omega)).trans ?_, (hb1.block _ (by simp)).trans ?_, ?_⟩
    · simp only [heap_alloc_if, size_alloc_one]
      rw [if_neg (by omega), if_pos trivial]
    · simp only [heap_alloc_if, size_alloc_one]
      rw [if_pos trivial]
      rfl
    · exact Below.trans (((Below.refl _ w).alloc (Nat.le_refl _) _).alloc (by simp) _) (hb1.mono (by simp; omega))
  obtain ⟨po, pc, rfl⟩ := row_slice hown
  have hown2 : w1.ownsRow (w.heap.size + 2) 9 1 (.slice po L.length pc) L.length (strs L) := by
    have e : ((w.alloc (.cells #[.int .i64 0, .int .i64 0, .int .i64 0] 23)).alloc (.cells #[.int .i64 0, .int .i64 0, .int .i64 0] 23)).heap.size = w.heap.size + 2 := by simp
    rw [e] at hown
    exact hown
  have HO := Lib.hid hown2
  have HI1 := Lib.hid hI1
  clear hown hown2 hb1 hI1
  go_wp2_with fail
  go_loopg [6] L.length (fun g i wr => ∃ k : Nat, g = L.length - k ∧ k ≤ L.length ∧ i = .int .i64 k ∧ PI w ((L.take k).foldl setM ⟨0, 0, 0⟩) wr ∧ wr.ownsRow (w.heap.size + 2) 9 1 (.slice po L.length pc) L.length (strs L))
  case atStart => exact ⟨0, by omega, by omega, rfl, HI1.out, HO.out⟩
  case round =>
    obtain ⟨k, hg, hk, rfl, hI, hR⟩ := hrel
    have HG := Lib.hid hg; clear hg
    have HI := Lib.hid hI; clear hI
    have HR := Lib.hid hR; clear hR
    by_cases hlt : k < L.length
    · obtain ⟨g, rfl, hgB, hgs, hcell⟩ := row_cell HR.out k hlt
      have hl : (k : Int) < (L.length : Int) := by omega
      have hw1 : IntKind.i64.wrap ((k : Int) + 1) = (k : Int) + 1 := IntWalk.i64_in _ (by omega)
      have hst := take_fold L k hlt ⟨0, 0, 0⟩
      revert hst hcell
      generalize L.getD k [] = x
      generalize hm : (L.take k).foldl setM ⟨0, 0, 0⟩ = m
      intro hcell hst
      rw [setM_keyed] at hst
      have H1 := fun w => rpart_any (mkS x) ⟨#[99, 111, 117, 110, 116, 61]⟩ countK rfl w
      have H2 := fun w => rpart_any (mkS x) ⟨#[97, 103, 101, 61]⟩ ageK rfl w
      have H3 := fun w => rpart_any (mkS x) ⟨#[98, 101, 102, 111, 114, 101, 61]⟩ beforeK rfl w
      rw [show (mkS x).data.toList = x from rfl] at H1 H2 H3
      revert H1 H2 H3 hst
      generalize keyed countK x = q1
      generalize keyed ageK x = q2
      generalize keyed beforeK x = q3
      intro hst H1 H2 H3
      obtain ⟨v1, b1⟩ := q1
      obtain ⟨v2, b2⟩ := q2
      obtain ⟨v3, b3⟩ := q3
      unfold keyedV at H1 H2 H3
      simp only [] at H1 H2 H3 hst
      have K1 := Lib.hid H1; clear H1
      have K2 := Lib.hid H2; clear H2
      have K3 := Lib.hid H3; clear H3
      have hI0 := HI.out
      rw [hm] at hI0
      clear HI
      have HI := Lib.hid hI0
      clear hm hI0
      rcases b1 with _ | _
      all_goals rcases b2 with _ | _
      all_goals rcases b3 with _ | _
      all_goals simp only [if_true, Bool.false_eq_true, if_false] at hst
      all_goals
        have HST := Lib.hid hst; clear hst
        go_wp2_with (first
          | (go_at_call 25; first
             | ((with_reducible refine (K1.out _).mono ?_); rintro e w2 ⟨rfl, hb2⟩; have hI2 := HI.out.up hb2; have hc2 := (hb2.cell (p := ⟨g, k, none⟩) hgs).trans hcell; have hgs2 : g < w2.heap.size := Nat.lt_of_lt_of_le hgs hb2.size; have HI2 := Lib.hid hI2; have HB2 := Lib.hid hb2; clear hb2 hI2)
             | ((with_reducible refine (K2.out _).mono ?_); rintro e w3 ⟨rfl, hb3⟩; have hI3 := HI2.out.up hb3; have hc3 := (hb3.cell (p := ⟨g, k, none⟩) hgs2).trans hc2; have hgs3 : g < w3.heap.size := Nat.lt_of_lt_of_le hgs2 hb3.size; have HI3 := Lib.hid hI3; have HB3 := Lib.hid hb3; clear hb3 hI3)
             | ((with_reducible refine (K3.out _).mono ?_); rintro e w4 ⟨rfl, hb4⟩; have hI4 := HI3.out.up hb4; have c0 : w4.cell? ⟨w.heap.size + 1, 0, none⟩ = some (.int .i64 m.a) := (RdM.of hI4.box).1; have c1 : w4.cell? ⟨w.heap.size + 1, 1, none⟩ = some (.int .i64 m.b) := (RdM.of hI4.box).2.1; have c2 : w4.cell? ⟨w.heap.size + 1, 2, none⟩ = some (.int .i64 m.c) := (RdM.of hI4.box).2.2; have f0 : ∀ j, w4.frozen? ⟨w.heap.size + 1, j, none⟩ = false := fun j => Lib.frozen_of_heap hI4.box j; have hz4 := hI4.sz; have HB4 := Lib.hid (HB2.out.trans ((HB3.out.trans (hb4.mono HB3.out.size)).mono HB2.out.size)); have HI4 := Lib.hid hI4; clear hb4 hI4))
          | fail)
      all_goals
        go_roundg (L.length - (k + 1))
        case measure => have := HG.out; omega
        case rel =>
          have hO4 := own_same HR.out (fun g' hg' => HB4.out.block g' (HR.out.lt g' hg').2)
          refine ⟨k + 1, by omega, by omega, by go_num, ?_, ?_⟩
          · rw [HST.out]
            first
              | exact HI4.out
              | exact HI4.out.set 0 _ (by simp [Mt.cells])
              | exact HI4.out.set 1 _ (by simp [Mt.cells])
              | exact HI4.out.set 2 _ (by simp [Mt.cells])
              | exact (HI4.out.set (m' := ⟨v1, m.b, m.c⟩) 0 _ (by simp [Mt.cells])).set 1 _ (by simp [Mt.cells])
              | exact (HI4.out.set (m' := ⟨v1, m.b, m.c⟩) 0 _ (by simp [Mt.cells])).set 2 _ (by simp [Mt.cells])
              | exact (HI4.out.set (m' := ⟨m.a, v2, m.c⟩) 1 _ (by simp [Mt.cells])).set 2 _ (by simp [Mt.cells])
              | exact ((HI4.out.set (m' := ⟨v1, m.b, m.c⟩) 0 _ (by simp [Mt.cells])).set (m' := ⟨v1, v2, m.c⟩) 1 _ (by simp [Mt.cells])).set 2 _ (by simp [Mt.cells])
          · first
              | exact hO4
              | exact own_set hO4
              | exact own_set (own_set hO4)
              | exact own_set (own_set (own_set hO4))
    · have hkk : k = L.length := by omega
      subst hkk
      have hl : ¬ (L.length : Int) < (L.length : Int) := by omega
      have hi := HI.out
      rw [List.take_length] at hi
      have hpm := HPM.out
      clear HPM HI
      revert hi hpm
      generalize L.foldl setM ⟨0, 0, 0⟩ = m
      intro hi hpm
      have HX := Lib.hid (fun W => rtext_any m W)
      obtain ⟨tx, er, hte⟩ : ∃ tx er, textM m = (tx, er) := ⟨_, _, rfl⟩
      rw [hte] at HX hpm
      clear hte
      unfold textV at HX
      simp only [] at HX
      obtain ⟨ag, hag⟩ : ∃ ag, mkS tx = ag := ⟨_, rfl⟩
      rw [hag] at HX
      have hagl : ag.data.toList = tx := by rw [← hag]; rfl
      obtain ⟨c0, c1, c2⟩ := RdM.of hi.box
      have hsz2 := hi.sz
      have hsz1 : w.heap.size < wr.heap.size := by omega
      have HI := Lib.hid hi
      clear hi hag
      by_cases hgood : (tx, er) = (s.data.toList, (0 : Int))
      · rw [if_pos hgood] at hpm
        have HPM := Lib.hid hpm; clear hpm
        simp only [Prod.mk.injEq] at hgood
        obtain ⟨g1, rfl⟩ := hgood
        have g2 : (ag.toList == s.toList) = true := by rw [toList_data, toList_data, hagl, g1]; simp
        have g3 : (ag.toList != s.toList) = false := by rw [bne, g2]; rfl
        clear hagl g1
        go_wp2_with (first
          | (go_at_call 9
             refine (HX.out _).mono ?_
             rintro e w1 ⟨rfl, hb1⟩
             have hi1 := HI.out.up hb1
             obtain ⟨d0, d1, d2⟩ := RdM.of hi1.box
             have r0 : w1.cell? ⟨w.heap.size, 0, none⟩ = some (.int .i64 0) := by simp [World.cell?, hi1.res]
             have r1 : w1.cell? ⟨w.heap.size, 1, none⟩ = some (.int .i64 0) := by simp [World.cell?, hi1.res]
             have r2 : w1.cell? ⟨w.heap.size, 2, none⟩ = some (.int .i64 0) := by simp [World.cell?, hi1.res]
             have f0 : ∀ j, w1.frozen? ⟨w.heap.size, j, none⟩ = false := fun j => Lib.frozen_of_heap hi1.res j
             have hz1 : w.heap.size < w1.heap.size := by have := hi1.sz; omega
             have HI1 := Lib.hid hi1
             clear hi1 hb1)
          | fail)
        obtain ⟨⟨k2, k3, k4⟩, k5⟩ := res_end (r := m) HI1.out
        refine bodyPost_ret (v := .tuple #[m.val, .int .i64 0]) ?_ rfl ⟨by rw [HPM.out], k5⟩
        simp [results, Tryd.results11, go_sem, k2, k3, k4]
      · rw [if_neg hgood] at hpm
        have HPM := Lib.hid hpm; clear hpm
        by_cases he : er = 0
        · subst he
          have g2 : (ag.toList == s.toList) = false := by
            rw [beq_eq_false_iff_ne, toList_data, toList_data, hagl]
            intro e
            exact hgood (by rw [e])
          have g3 : (ag.toList != s.toList) = true := by rw [bne, g2]; rfl
          clear hagl hgood
          go_wp2_with (first
            | (go_at_call 9
               refine (HX.out _).mono ?_
               rintro e w1 ⟨rfl, hb1⟩
               have hi1 := HI.out.up hb1
               obtain ⟨d0, d1, d2⟩ := RdM.of hi1.box
               have r0 : w1.cell? ⟨w.heap.size, 0, none⟩ = some (.int .i64 0) := by simp [World.cell?, hi1.res]
               have r1 : w1.cell? ⟨w.heap.size, 1, none⟩ = some (.int .i64 0) := by simp [World.cell?, hi1.res]
               have r2 : w1.cell? ⟨w.heap.size, 2, none⟩ = some (.int .i64 0) := by simp [World.cell?, hi1.res]
               have f0 : ∀ j, w1.frozen? ⟨w.heap.size, j, none⟩ = false := fun j => Lib.frozen_of_heap hi1.res j
               have hz1 : w.heap.size < w1.heap.size := by have := hi1.sz; omega
               have HI1 := Lib.hid hi1
               clear hi1 hb1)
            | fail)
          obtain ⟨⟨k2, k3, k4⟩, k5⟩ := res_end (r := (⟨0, 0, 0⟩ : Mt)) HI1.out
          refine bodyPost_ret (v := .tuple #[(⟨0, 0, 0⟩ : Mt).val, .int .i64 6]) ?_ rfl ⟨by rw [HPM.out], k5⟩
          simp [results, Tryd.results11, go_sem, k2, k3, k4]
        · have he2 : (er == 0) = false := beq_eq_false_iff_ne.2 he
          have he3 : (er != 0) = true := by rw [bne, he2]; rfl
          clear hagl hgood he
          go_wp2_with (first
            | (go_at_call 9
               refine (HX.out _).mono ?_
               rintro e w1 ⟨rfl, hb1⟩
               have hi1 := HI.out.up hb1
               obtain ⟨d0, d1, d2⟩ := RdM.of hi1.box
               have r0 : w1.cell? ⟨w.heap.size, 0, none⟩ = some (.int .i64 0) := by simp [World.cell?, hi1.res]
               have r1 : w1.cell? ⟨w.heap.size, 1, none⟩ = some (.int .i64 0) := by simp [World.cell?, hi1.res]
               have r2 : w1.cell? ⟨w.heap.size, 2, none⟩ = some (.int .i64 0) := by simp [World.cell?, hi1.res]
               have f0 : ∀ j, w1.frozen? ⟨w.heap.size, j, none⟩ = false := fun j => Lib.frozen_of_heap hi1.res j
               have hz1 : w.heap.size < w1.heap.size := by have := hi1.sz; omega
               have HI1 := Lib.hid hi1
               clear hi1 hb1)
            | fail)
          obtain ⟨⟨k2, k3, k4⟩, k5⟩ := res_end (r := (⟨0, 0, 0⟩ : Mt)) HI1.out
          refine bodyPost_ret (v := .tuple #[(⟨0, 0, 0⟩ : Mt).val, .int .i64 6]) ?_ rfl ⟨by rw [HPM.out], k5⟩
          simp [results, Tryd.results11, go_sem, k2, k3, k4]
end Go.Proofs.YtiblkfhcpepnfaaDoor
