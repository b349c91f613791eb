/-
  ProgParses: the walk. Conditions: none.
-/
import Derived.Test.YtidjnfjpdnjogaaGreatDoorPwY
namespace Go.Proofs.YtidjnfjpdnjogaaGreatDoor
open Go.RowKit Go.Lib

theorem mem_sumL (y : List UInt8) : ∀ ws : List (List UInt8), y ∈ ws → y.length + 1 ≤ sumL ws
  | [], h => by cases h
  | x :: r, h => by
    have ih := mem_sumL y r
    simp only [sumL, List.map_cons, List.sum_cons] at ih ⊢
    rcases List.mem_cons.1 h with rfl | h
    · omega
    · have := ih h
      omega
theorem wordsL_size (s x : ByteArray) (hx : x ∈ wordsL s) : x.size ≤ s.size := by
  rw [wordsL_map] at hx
  obtain ⟨y, hy, rfl⟩ := List.mem_map.1 hx
  have h1 := mem_sumL y _ (List.mem_filter.1 hy).1
  rw [sum_split, len_data] at h1
  have h2 : (mkS y).size = y.length := by
    show (y.toArray).size = _
    simp
  omega
theorem row_cap {w : World} {B e n c : Nat} {po : Option Addr} {xs : List Value} (h : w.ownsRow B e 1 (.slice po n c) n xs) : n ≤ c := by
  rcases h.2 with ⟨e, rfl⟩ | ⟨g, cap, cur, e, _, _, hnc, _⟩
  · cases e
    simp
  · cases e
    omega
theorem check_short (l : List (List UInt8)) (h : (checkL l).1 = 0) : l.length ≤ 64 := by
  unfold checkL at h
  split at h
  · cases h
  · omega
theorem all_snd {k : Nat} {ts cs : List Row} (xs : List ByteArray) (h1 : ts.length = k) (h2 : cs.length = k) (h : ∀ p ∈ ts ++ cs, p.2 = xs) : ts.map Prod.snd = cs.map Prod.snd := by
  have e1 : ts.map Prod.snd = List.replicate k xs := List.eq_replicate_iff.2 ⟨by simp [h1], fun b hb => by obtain ⟨p, hp, rfl⟩ := List.mem_map.1 hb; exact h p (List.mem_append_left _ hp)⟩
  have e2 : cs.map Prod.snd = List.replicate k xs := List.eq_replicate_iff.2 ⟨by simp [h2], fun b hb => by obtain ⟨p, hp, rfl⟩ := List.mem_map.1 hb; exact h p (List.mem_append_right _ hp)⟩
  rw [e1, e2]
theorem BookV.perm {K B : Nat} {tv cv : Value} {tl cl : List Value} {ps qs : List Row} {w : World} (h : BookV K B tv cv tl cl ps w) (hp : ps.Perm qs) : BookV K B tv cv tl cl qs w := ⟨h.lo, h.cell, h.tx, h.cx, h.ap, h.rows.perm hp⟩
theorem rows_turn (c p lv : Value) (xs : List ByteArray) (l : List ByteArray) (ts cs : List Row) : ((c, xs) :: (p, xs) :: (lv, l) :: (ts ++ cs)).Perm ((lv, l) :: ((ts ++ [(p, xs)]) ++ (cs ++ [(c, xs)]))) := by
  have h1 : ((ts ++ [(p, xs)]) ++ (cs ++ [(c, xs)])).Perm ((p, xs) :: (c, xs) :: (ts ++ cs)) :=
    ((List.perm_append_singleton (p, xs) ts).append (List.perm_append_singleton (c, xs) cs)).trans (List.Perm.cons (p, xs) List.perm_middle)
  exact ((List.Perm.swap (p, xs) (c, xs) ((lv, l) :: (ts ++ cs))).trans ((List.Perm.swap (lv, l) (c, xs) (ts ++ cs)).cons (p, xs))).trans ((List.Perm.swap (lv, l) (p, xs) ((c, xs) :: (ts ++ cs))).trans (h1.symm.cons (lv, l)))
set_option maxRecDepth 100000 in
theorem parses_short (s : ByteArray) (hs : s.size ≤ 3000) (W : World) : Calls Tryz.prog 3 #[.string s] W fun e w' => e = .returned (.bool true) ∧ Below W.heap.size W w' := by
  have h0 : ((s.size : Int) > 3000) = False := by simp; omega
  have h1 : ¬ (3000 : Int) < (s.size : Int) := by omega
  have HW := Lib.hid (words_any s (by omega) (W.alloc (bookO nilV nilV)))
  go_enter Tryz.func3, Tryz.ntmps3
  go_wp2_with fail
  refine HW.out.mono ?_
  rintro e w1 ⟨lv, rfl, ol, b1⟩
  rw [← wordsL_strs, ← wordsL_len] at ol
  have ba := below_alloc W (bookO nilV nilV)
  have V0 : BookV W.heap.size W.heap.size nilV nilV [] [] [] (W.alloc (bookO nilV nilV)) := ⟨Nat.le_refl _, new_block W _, World.ownsRow_nil _ _ _ _, World.ownsRow_nil _ _ _ _, (fun g e => by cases e), Rows.nil _ _⟩
  obtain ⟨V1, b1'⟩ := V0.copied b1 ol
  have H1 := Lib.hid (And.intro V1 (ba.trans b1'))
  have T1 := (slice_txs ol).1
  have hC := dcheck_any (wordsL s) (fun x hx => by have := wordsL_size s x hx; omega) lv w1 T1
  unfold takesV at hC
  clear ba V0 V1 b1 b1' ol T1
  go_simp
  by_cases hok : (checkL (tl (wordsL s))).1 = 0
  · rw [hok] at hC
    have HC := Lib.hid hC
    clear hC
    have hN := check_short _ hok
    rw [tl, List.length_map] at hN
    replace hN := Lib.hid hN
    go_wp2_with fail
    refine HC.out.mono ?_
    rintro e x ⟨rfl, hx⟩
    rw [hx]
    clear hx x
    go_simp
    go_wp2_with fail
    go_loopg [7] 2 (fun g i wr => ∃ (k : Nat) (tv cv : Value) (ts cs : List Row), g = 2 - k ∧ k ≤ 2 ∧ i = .int .i64 k ∧ ts.length = k ∧ cs.length = k ∧ (∀ p ∈ ts ++ cs, p.2 = wordsL s) ∧ BookV W.heap.size W.heap.size tv cv (ts.map Prod.fst) (cs.map Prod.fst) ((lv, wordsL s) :: (ts ++ cs)) wr ∧ Below W.heap.size W wr)
    case atStart => exact ⟨0, _, _, [], [], by omega, by omega, rfl, rfl, rfl, by simp, H1.out.1, H1.out.2⟩
    case round =>
      obtain ⟨k, tv, cv, ts, cs, hg, hk, rfl, hts, hcs, hall, VR, hb⟩ := hrel
      have HG := Lib.hid hg; clear hg
      have HV := Lib.hid (And.intro VR (And.intro hb (And.intro hall (And.intro hts hcs))))
      clear VR hb hall hts hcs
      by_cases hlt : k < 2
      · have hl2 : (k : Int) < 2 := by omega
        have HP := Lib.hid (prog_parse s (by omega) wr)
        go_wp2_with fail
        refine HP.out.mono ?_
        rintro e w2 ⟨pv, rfl, op, bp⟩
        rw [if_pos hok] at op
        obtain ⟨V2, b2⟩ := HV.out.1.copied bp op
        obtain ⟨qo, qc, rfl⟩ := row_sl op
        have H2 := Lib.hid (And.intro V2 (HV.out.2.1.trans b2))
        have HTx := Lib.hid (texts_any W.heap.size W.heap.size tv cv _ (ts.map Prod.fst) (cs.map Prod.fst) (wordsL s) _ (by rw [List.length_map]; have := HV.out.2.2.2.1; omega) (by rw [List.length_map]; have := HV.out.2.2.2.2; omega) (by have := hN.out; omega) (w2.alloc (.cells #[.slice qo (wordsL s).length qc] 38)) (V2.alloc _))
        clear op bp V2 b2
        go_simp
        go_wp2_with fail
        refine HTx.out.mono ?_
        rintro e w3 ⟨rfl, tv', cv', c, V3, b3, F3⟩
        have F1 := F3 w2.heap.size #[.slice qo (wordsL s).length qc] (heap_alloc_new w2 _)
        have H3 := Lib.hid (And.intro V3 (And.intro ((H2.out.2.trans ((below_alloc w2 _).mono H2.out.1.bsz)).trans b3) F1))
        have p3 := cell_of_block1 F1
        have HS := Lib.hid (sameTexts_any (wordsL s) (wordsL s) (by have := hN.out; omega) _ lv w3 (slice_txs (V3.rows.own (.slice qo (wordsL s).length qc, wordsL s) (by simp))).1 (slice_txs (V3.rows.own (lv, wordsL s) (by simp))).1)
        clear V3 b3 F3 F1
        go_simp
        go_wp2_with fail
        refine HS.out.mono ?_
        rintro e w4 ⟨rfl, b4⟩
        have V4 := H3.out.1.below b4
        have F4 := (b4.block _ (lt_of_block H3.out.2.2)).trans H3.out.2.2
        have hX := text_any (wordsL s) (.slice qo (wordsL s).length qc) w4 (slice_txs (V4.rows.own (.slice qo (wordsL s).length qc, wordsL s) (by simp))).1 (by have := hN.out; omega) (by have := joinL_len s; omega) (fun po c e => by cases e; exact row_cap (V4.rows.own (.slice qo (wordsL s).length qc, wordsL s) (by simp)))
        have HX := Lib.hid hX
        have p4 := cell_of_block1 F4
        have H4 := Lib.hid (And.intro V4 (And.intro (H3.out.2.1.trans (b4.mono H3.out.1.bsz)) F4))
        clear b4 V4 F4 hX p3
        simp only [decide_true]
        go_simp
        go_wp2_with fail
        refine HX.out.mono ?_
        rintro e w5 ⟨rfl, b5⟩
        have H5 := Lib.hid (And.intro (H4.out.1.below b5) (H4.out.2.1.trans (b5.mono H4.out.1.bsz)))
        have HJ := Lib.hid (prog_parse (joinS (wordsL s)) (by have := joinL_len s; have : (joinS (wordsL s)).size = (joinL (wordsL s)).length := (len_data _).symm; omega) w5)
        clear b5 p4
        go_simp
        go_wp2_with fail
        refine HJ.out.mono ?_
        rintro e w6 ⟨qv, rfl, oq, b6⟩
        rw [wordsL_joinS, if_pos hok] at oq
        rw [wordsL_joinS]
        obtain ⟨V6, b6'⟩ := H5.out.1.copied b6 oq
        obtain ⟨ro, rc, rfl⟩ := row_sl oq
        have ba6 := below_alloc w6 (.cells #[.slice ro (wordsL s).length rc] 38)
        have V7 := V6.below ba6
        have p7 := cell_of_block1 (heap_alloc_new w6 (.cells #[.slice ro (wordsL s).length rc] 38))
        have H7 := Lib.hid (And.intro V7 ((H5.out.2.trans b6').trans (ba6.mono V6.bsz)))
        have HS7 := Lib.hid (sameTexts_any (wordsL s) (wordsL s) (by have := hN.out; omega) (.slice ro (wordsL s).length rc) lv (w6.alloc (.cells #[.slice ro (wordsL s).length rc] 38)) (slice_txs (V7.rows.own (.slice ro (wordsL s).length rc, wordsL s) (by simp))).1 (slice_txs (V7.rows.own (lv, wordsL s) (by simp))).1)
        clear oq b6 V6 b6' ba6 V7
        go_simp
        go_wp2_with fail
        refine HS7.out.mono ?_
        rintro e w8 ⟨rfl, b8⟩
        have V8 := ((H7.out.1.below b8).sub (List.sublist_cons_self _ _)).perm (rows_turn c (.slice qo (wordsL s).length qc) lv (wordsL s) (wordsL s) ts cs)
        have H8 := Lib.hid (And.intro V8 (H7.out.2.trans (b8.mono H7.out.1.bsz)))
        clear b8 V8 p7
        simp only [decide_true]
        go_simp
        go_wp2_with fail
        go_roundg (2 - (k + 1))
        case measure => have := HG.out; omega
        case rel =>
          refine ⟨k + 1, _, _, ts ++ [(.slice qo (wordsL s).length qc, wordsL s)], cs ++ [(c, wordsL s)], rfl, by omega, by go_num, by simp [HV.out.2.2.2.1], by simp [HV.out.2.2.2.2], ?_, by simpa using H8.out.1, H8.out.2⟩
          intro p hp
          rcases List.mem_append.1 hp with hp | hp <;> rcases List.mem_append.1 hp with hp | hp
          · exact HV.out.2.2.1 p (List.mem_append_left _ hp)
          · simp at hp; rw [hp]
          · exact HV.out.2.2.1 p (List.mem_append_right _ hp)
          · simp at hp; rw [hp]
      · obtain rfl : k = 2 := by omega
        have HAl := Lib.hid (alive_any wr)
        go_wp2_with fail
        refine HAl.out.mono ?_
        rintro e w2 ⟨rfl, b2⟩
        have HAp := Lib.hid (apart_any W.heap.size W.heap.size tv cv _ _ ts cs 2 (by rw [List.length_map]; exact HV.out.2.2.2.1) (by rw [List.length_map]; exact HV.out.2.2.2.2) (by omega) rfl rfl (all_snd _ HV.out.2.2.2.1 HV.out.2.2.2.2 HV.out.2.2.1) (fun p hp => by rw [HV.out.2.2.1 p (List.mem_append_left _ hp)]; have := hN.out; omega) w2 ((HV.out.1.below b2).sub (List.sublist_cons_self _ _)))
        have HB := Lib.hid (HV.out.2.1.trans (b2.mono HV.out.1.bsz))
        clear b2
        go_simp
        go_wp2_with fail
        refine HAp.out.mono ?_
        rintro e w3 ⟨rfl, b3⟩
        have HB3 := Lib.hid (HB.out.trans b3)
        clear b3
        go_simp
        go_wp2_with fail
        go_ret
        exact ⟨rfl, HB3.out⟩
  · obtain ⟨c0, hc0⟩ : ∃ c0, c0 = (checkL (tl (wordsL s))).1 := ⟨_, rfl⟩
    rw [← hc0] at hC hok
    have HC := Lib.hid hC
    clear hC
    have hne : (c0 == 0) = false := by simpa using hok
    have hne2 : (c0 = 0) = False := by simpa using hok
    have hne3 : ¬ c0 = 0 := hok
    have HO := Lib.hid (And.intro hc0 hok)
    clear hc0 hok
    go_wp2_with fail
    refine HC.out.mono ?_
    rintro e x ⟨rfl, hx⟩
    rw [hx]
    clear hx x
    go_simp
    go_wp2_with fail
    go_loopg [7] 2 (fun g i wr => ∃ (k : Nat) (tv cv : Value) (ts cs : List Row), g = 2 - k ∧ k ≤ 2 ∧ i = .int .i64 k ∧ ts.length = k ∧ cs.length = k ∧ (∀ p ∈ ts ++ cs, p.2 = []) ∧ BookV W.heap.size W.heap.size tv cv (ts.map Prod.fst) (cs.map Prod.fst) ((lv, wordsL s) :: (ts ++ cs)) wr ∧ Below W.heap.size W wr)
    case atStart => exact ⟨0, _, _, [], [], by omega, by omega, rfl, rfl, rfl, by simp, H1.out.1, H1.out.2⟩
    case round =>
      obtain ⟨k, tv, cv, ts, cs, hg, hk, rfl, hts, hcs, hall, VR, hb⟩ := hrel
      have HG := Lib.hid hg; clear hg
      have HV := Lib.hid (And.intro VR (And.intro hb (And.intro hall (And.intro hts hcs))))
      clear VR hb hall hts hcs
      by_cases hlt : k < 2
      · have hl2 : (k : Int) < 2 := by omega
        have hP := prog_parse s (by omega) wr
        unfold ParsePost at hP
        rw [← HO.out.1] at hP
        simp only [if_neg HO.out.2] at hP
        have HP := Lib.hid hP
        clear hP
        go_wp2_with fail
        refine HP.out.mono ?_
        rintro e w2 ⟨pv, rfl, rfl, bp⟩
        obtain ⟨V2, b2⟩ := HV.out.1.copied (c := nilV) (l := []) bp (World.ownsRow_nil _ _ _ _)
        have H2 := Lib.hid (And.intro V2 (HV.out.2.1.trans b2))
        have HTx := Lib.hid (texts_any W.heap.size W.heap.size tv cv nilV (ts.map Prod.fst) (cs.map Prod.fst) [] _ (by rw [List.length_map]; have := HV.out.2.2.2.1; omega) (by rw [List.length_map]; have := HV.out.2.2.2.2; omega) (by simp) (w2.alloc (.cells #[nilV] 38)) (V2.alloc _))
        clear bp V2 b2
        go_simp
        go_wp2_with fail
        refine HTx.out.mono ?_
        rintro e w3 ⟨rfl, tv', cv', c, V3, b3, F3⟩
        have F1 := F3 w2.heap.size #[nilV] (heap_alloc_new w2 _)
        have b3' := (H2.out.2.trans ((below_alloc w2 _).mono H2.out.1.bsz)).trans b3
        have H3 := Lib.hid (And.intro (V3.perm (rows_turn c nilV lv [] (wordsL s) ts cs)) b3')
        have p3 := cell_of_block1 F1
        clear V3 b3 F3 F1 b3'
        go_simp
        go_wp2_with fail
        go_simp
        go_roundg (2 - (k + 1))
        case measure => have := HG.out; omega
        case rel =>
          refine ⟨k + 1, _, _, ts ++ [(nilV, [])], cs ++ [(c, [])], rfl, by omega, by go_num, by simp [HV.out.2.2.2.1], by simp [HV.out.2.2.2.2], ?_, by simpa using H3.out.1, H3.out.2⟩
          intro p hp
          rcases List.mem_append.1 hp with hp | hp <;> rcases List.mem_append.1 hp with hp | hp
          · exact HV.out.2.2.1 p (List.mem_append_left _ hp)
          · simp at hp; rw [hp]
          · exact HV.out.2.2.1 p (List.mem_append_right _ hp)
          · simp at hp; rw [hp]
      · obtain rfl : k = 2 := by omega
        have HAl := Lib.hid (alive_any wr)
        go_wp2_with fail
        refine HAl.out.mono ?_
        rintro e w2 ⟨rfl, b2⟩
        have HAp := Lib.hid (apart_any W.heap.size W.heap.size tv cv _ _ ts cs 2 (by rw [List.length_map]; exact HV.out.2.2.2.1) (by rw [List.length_map]; exact HV.out.2.2.2.2) (by omega) rfl rfl (all_snd _ HV.out.2.2.2.1 HV.out.2.2.2.2 HV.out.2.2.1) (fun p hp => by rw [HV.out.2.2.1 p (List.mem_append_left _ hp)]; simp) w2 ((HV.out.1.below b2).sub (List.sublist_cons_self _ _)))
        have HB := Lib.hid (HV.out.2.1.trans (b2.mono HV.out.1.bsz))
        clear b2
        go_simp
        go_wp2_with fail
        refine HAp.out.mono ?_
        rintro e w3 ⟨rfl, b3⟩
        have HB3 := Lib.hid (HB.out.trans b3)
        clear b3
        go_simp
        go_wp2_with fail
        go_ret
        exact ⟨rfl, HB3.out⟩
/-- The law, of every text. -/
theorem parses_any (s : ByteArray) (w : World) : Calls Tryz.prog 3 #[.string s] w fun e w' => e = .returned (.bool true) ∧ Below w.heap.size w w' := by
  by_cases hs : s.size ≤ 3000
  · exact parses_short s hs w
  · have h1 : (3000 : Int) < (s.size : Int) := by omega
    have HA := Lib.hid (alive_any w)
    go_enter Tryz.func3, Tryz.ntmps3
    go_wp2_with fail
    refine HA.out.mono ?_
    rintro e w1 ⟨rfl, b1⟩
    have HB := Lib.hid b1
    clear b1
    go_simp
    go_wp2_with fail
    go_ret
    exact ⟨rfl, HB.out⟩
end Go.Proofs.YtidjnfjpdnjogaaGreatDoor
