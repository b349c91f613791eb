/-
  chroniclebook.Book: Apart. Conditions: none.
-/
import Derived.Test.YtidjnfjpdnjogaaGreatDoorPwM
namespace Go.Proofs.YtidjnfjpdnjogaaGreatDoor
open Go.RowKit Go.Lib

theorem book_cell {w : World} {K : Nat} {tv cv : Value} (h : w.heap[K]? = some (bookO tv cv)) (c : Nat) (hc : 2 ≤ c ∧ c < 12) : w.cell? ⟨K, c, none⟩ = some nilV := by
  simp only [World.cell?, h]
  match c, hc with
  | 2, _ => rfl
  | 3, _ => rfl
  | 4, _ => rfl
  | 5, _ => rfl
  | 6, _ => rfl
  | 7, _ => rfl
  | 8, _ => rfl
  | 9, _ => rfl
  | 10, _ => rfl
  | 11, _ => rfl
theorem BookV.cellN {K B : Nat} {tv cv : Value} {tl cl : List Value} {ps : List Row} {w : World} (h : BookV K B tv cv tl cl ps w) (c : Nat) (hc : 2 ≤ c ∧ c < 12) : w.cell? ⟨K, c, none⟩ = some nilV := book_cell h.cell c hc

theorem mkd_fst (ps : List Row) (i : Nat) : (mkd ps i).map Prod.fst = ps.map Prod.fst := by
  refine List.ext_getElem? fun j => ?_
  rw [List.getElem?_map, mkd_get, List.getElem?_map]
  cases ps[j]? with
  | none => rfl
  | some p => by_cases h : j < i <;> simp [h]
theorem mkd_all (ps : List Row) (n : Nat) (hl : ps.length = n) (hs : ∀ p ∈ ps, p.2.length < 900) (j : Nat) (p : Row) (hp : (mkd ps n)[j]? = some p) : p.2 = marks j 0 p.2.length ∧ p.2.length < 900 := by
  rw [mkd_get] at hp
  cases hq : ps[j]? with
  | none => rw [hq] at hp; cases hp
  | some q =>
    have hj : j < n := by rw [← hl]; exact (List.getElem?_eq_some_iff.1 hq).1
    rw [hq] at hp
    simp only [Option.map_some, if_pos hj, Option.some.injEq] at hp
    subst hp
    exact ⟨by simp [marks_len], by simp only [marks_len]; exact hs q (List.mem_of_getElem? hq)⟩

set_option maxRecDepth 100000 in
set_option maxHeartbeats 2000000 in
theorem apart_any (K B : Nat) (tv cv : Value) (tl cl : List Value) (ts cs : List Row) (n : Nat) (ht : tl.length = n) (hc : cl.length = n) (hn : n < 200) (hts : ts.map Prod.fst = tl) (hcs : cs.map Prod.fst = cl) (hse : ts.map Prod.snd = cs.map Prod.snd) (hs : ∀ p ∈ ts, p.2.length < 900) (w : World) (hV : BookV K B tv cv tl cl (ts ++ cs) w) :
    Calls Tryz.prog 11 #[.pointer (some ⟨K, 0, none⟩)] w fun e w' => e = .returned (.bool true) ∧ Below B w w' := by
  have hS := stillTexts_any K B tv cv tl cl (ts ++ cs) n ht hc hn w hV (fun k u v hu hv => by
    rw [← hts, List.getElem?_map] at hu
    rw [← hcs, List.getElem?_map] at hv
    have h2 : (ts.map Prod.snd)[k]? = (cs.map Prod.snd)[k]? := by rw [hse]
    rw [List.getElem?_map, List.getElem?_map] at h2
    cases h3 : ts[k]? with
    | none => rw [h3] at hu; cases hu
    | some p =>
      cases h4 : cs[k]? with
      | none => rw [h4] at hv; cases hv
      | some q =>
        rw [h3] at hu h2
        rw [h4] at hv h2
        obtain rfl : p.1 = u := by simpa using hu
        obtain rfl : q.1 = v := by simpa using hv
        have h5 : p.2 = q.2 := by simpa using h2
        refine ⟨p.2, List.mem_append_left _ (List.mem_of_getElem? h3), ?_, by have := hs p (List.mem_of_getElem? h3); omega⟩
        rw [h5]
        exact List.mem_append_right _ (List.mem_of_getElem? h4))
  have HS := Lib.hid hS; clear hS
  have hlt : ts.length = n := by rw [← ht, ← hts, List.length_map]
  have hmt : (mkd ts n).length = n := by simp [mkd, hlt]
  have HV := Lib.hid hV; clear hV
  go_enter Tryz.func11, Tryz.ntmps11
  go_wp2_with fail
  refine HS.out.mono ?_
  rintro e w1 ⟨rfl, b1⟩
  have H1 := Lib.hid (And.intro ((HV.out.below b1).sub (List.sublist_append_left ts cs)) (b1.mono HV.out.bsz))
  have z1 := lt_of_block H1.out.1.cell
  clear b1
  go_simp
  go_wp2_with fail
  refine (stillInts_nil K w1 (H1.out.1.cellN 2 (by decide)) z1).mono ?_
  rintro e x ⟨rfl, hx⟩
  rw [hx]
  clear hx x
  go_simp
  go_wp2_with fail
  refine (stillStored_nil K w1 (H1.out.1.cellN 4 (by decide)) z1).mono ?_
  rintro e x ⟨rfl, hx⟩
  rw [hx]
  clear hx x
  go_simp
  go_wp2_with fail
  refine (stillEntries_nil K w1 (H1.out.1.cellN 6 (by decide)) z1).mono ?_
  rintro e x ⟨rfl, hx⟩
  rw [hx]
  clear hx x
  go_simp
  go_wp2_with fail
  refine (stillPackets_nil K w1 (H1.out.1.cellN 8 (by decide)) z1).mono ?_
  rintro e x ⟨rfl, hx⟩
  rw [hx]
  clear hx x
  go_simp
  go_wp2_with fail
  refine (stillSteps_nil K w1 (H1.out.1.cellN 10 (by decide)) z1).mono ?_
  rintro e x ⟨rfl, hx⟩
  rw [hx]
  clear hx x
  go_simp
  go_wp2_with fail
  refine (putSteps_nil K w1 (H1.out.1.cellN 10 (by decide)) z1).mono ?_
  rintro e x ⟨rfl, hx⟩
  rw [hx]
  clear hx x
  go_simp
  go_wp2_with fail
  refine (putTexts_any K B tv cv tl cl ts n ht hn hts hs w1 H1.out.1).mono ?_
  rintro e w2 ⟨rfl, V2, b2⟩
  have H2 := Lib.hid (And.intro V2 (H1.out.2.trans b2))
  have z2 := lt_of_block V2.cell
  clear V2 b2
  go_simp
  go_wp2_with fail
  refine (putInts_nil K w2 (H2.out.1.cellN 2 (by decide)) z2).mono ?_
  rintro e x ⟨rfl, hx⟩
  rw [hx]
  clear hx x
  go_simp
  go_wp2_with fail
  refine (putStored_nil K w2 (H2.out.1.cellN 4 (by decide)) z2).mono ?_
  rintro e x ⟨rfl, hx⟩
  rw [hx]
  clear hx x
  go_simp
  go_wp2_with fail
  refine (putEntries_nil K w2 (H2.out.1.cellN 6 (by decide)) z2).mono ?_
  rintro e x ⟨rfl, hx⟩
  rw [hx]
  clear hx x
  go_simp
  go_wp2_with fail
  refine (putPackets_nil K w2 (H2.out.1.cellN 8 (by decide)) z2).mono ?_
  rintro e x ⟨rfl, hx⟩
  rw [hx]
  clear hx x
  go_simp
  go_wp2_with fail
  refine (growTexts_any K B tv cv tl cl (mkd ts n) n ht hn ?h1 ?h2 w2 H2.out.1).mono ?_
  case h1 => rw [mkd_fst]; exact hts
  case h2 => exact mkd_all ts n hlt hs
  rintro e w3 ⟨ov, gs, rfl, GI⟩
  obtain ⟨q1, q2, -⟩ := GI.book H2.out.1
  have z3 := lt_of_block q1
  have c3 : ∀ c, 2 ≤ c ∧ c < 12 → w3.cell? ⟨K, c, none⟩ = some nilV := book_cell q1
  have H3 := Lib.hid (And.intro GI q2)
  have HC3 := Lib.hid q1
  clear GI q1 q2
  go_simp
  go_wp2_with fail
  refine (growInts_nil K w3 (c3 2 (by decide)) z3).mono ?_
  rintro e x ⟨rfl, hx⟩
  rw [hx]
  clear hx x
  go_simp
  go_wp2_with fail
  refine (growStored_nil K w3 (c3 4 (by decide)) z3).mono ?_
  rintro e x ⟨rfl, hx⟩
  rw [hx]
  clear hx x
  go_simp
  go_wp2_with fail
  refine (growEntries_nil K w3 (c3 6 (by decide)) z3).mono ?_
  rintro e x ⟨rfl, hx⟩
  rw [hx]
  clear hx x
  go_simp
  go_wp2_with fail
  refine (growPackets_nil K w3 (c3 8 (by decide)) z3).mono ?_
  rintro e x ⟨rfl, hx⟩
  rw [hx]
  clear hx x
  go_simp
  go_wp2_with fail
  refine (growSteps_nil K w3 (c3 10 (by decide)) z3).mono ?_
  rintro e x ⟨rfl, hx⟩
  rw [hx]
  clear hx x
  go_simp
  go_wp2_with fail
  refine (markedTexts_any w2.heap.size n ov gs hn w3 H3.out.1.own ?m1).mono ?_
  case m1 =>
    intro j u hu
    have hj : j < n := by
      have := (List.getElem?_eq_some_iff.1 hu).1
      rw [H3.out.1.len] at this
      exact this
    obtain ⟨p, hp⟩ : ∃ p, (mkd ts n)[j]? = some p := ⟨_, List.getElem?_eq_getElem (by omega)⟩
    obtain ⟨-, g, hg, og, -⟩ := H3.out.1.texts j p hj hp
    have := (mkd_all ts n hlt hs j p hp).2
    obtain rfl : g = u := by rw [hg] at hu; cases hu; rfl
    exact ⟨p.2.length + 72, by omega, txs_of (by rw [marks_len]; exact og)⟩
  rintro e w4 ⟨rfl, b4⟩
  have q4 := (b4.block K z3).trans HC3.out
  have z4 := lt_of_block q4
  have k4 : w4.cell? ⟨K, 0, none⟩ = some tv := by simp [World.cell?, q4]
  have H4 := Lib.hid (And.intro b4 q4)
  clear b4 q4
  go_simp
  go_wp2_with fail
  refine (markedTexts_any B n tv tl hn w4 ?m3 ?m2).mono ?_
  case m3 =>
    rw [← ht]
    refine own_same H3.out.2 fun b e => ?_
    obtain ⟨_, cs, hc⟩ := own_cells H3.out.2 e
    exact H4.out.1.block b (lt_of_block hc)
  case m2 =>
    intro j u hu
    have hj : j < n := by
      have := (List.getElem?_eq_some_iff.1 hu).1
      omega
    obtain ⟨p, hp⟩ : ∃ p, (mkd ts n)[j]? = some p := ⟨_, List.getElem?_eq_getElem (by omega)⟩
    obtain ⟨tp, -⟩ := H3.out.1.texts j p hj hp
    obtain ⟨h7, h8⟩ := mkd_all ts n hlt hs j p hp
    obtain rfl : p.1 = u := by
      have h9 : ((mkd ts n).map Prod.fst)[j]? = tl[j]? := by rw [mkd_fst, hts]
      rw [List.getElem?_map, hp, hu] at h9
      simpa using h9
    rw [h7] at tp
    exact ⟨p.2.length, by omega, tp.below H4.out.1⟩
  rintro e w5 ⟨rfl, b5⟩
  have q5 := (b5.block K z4).trans H4.out.2
  have z5 := lt_of_block q5
  have c5 : ∀ c, 2 ≤ c ∧ c < 12 → w5.cell? ⟨K, c, none⟩ = some nilV := book_cell q5
  have c52 := c5 2 (by decide)
  have c54 := c5 4 (by decide)
  have c56 := c5 6 (by decide)
  have c58 := c5 8 (by decide)
  have c510 := c5 10 (by decide)
  have H5 := Lib.hid b5
  clear b5 q5 c5
  go_simp
  go_wp2_with fail
  refine (markedInts_nil w5).mono ?_
  rintro e x ⟨rfl, hx⟩
  rw [hx]
  clear hx x
  go_simp
  go_wp2_with fail
  refine (markedInts_nil w5).mono ?_
  rintro e x ⟨rfl, hx⟩
  rw [hx]
  clear hx x
  go_simp
  go_wp2_with fail
  refine (markedStored_nil w5).mono ?_
  rintro e x ⟨rfl, hx⟩
  rw [hx]
  clear hx x
  go_simp
  go_wp2_with fail
  refine (markedStored_nil w5).mono ?_
  rintro e x ⟨rfl, hx⟩
  rw [hx]
  clear hx x
  go_simp
  go_wp2_with fail
  refine (markedEntries_nil w5).mono ?_
  rintro e x ⟨rfl, hx⟩
  rw [hx]
  clear hx x
  go_simp
  go_wp2_with fail
  refine (markedEntries_nil w5).mono ?_
  rintro e x ⟨rfl, hx⟩
  rw [hx]
  clear hx x
  go_simp
  go_wp2_with fail
  refine (markedPackets_nil w5).mono ?_
  rintro e x ⟨rfl, hx⟩
  rw [hx]
  clear hx x
  go_simp
  go_wp2_with fail
  refine (markedPackets_nil w5).mono ?_
  rintro e x ⟨rfl, hx⟩
  rw [hx]
  clear hx x
  go_simp
  go_wp2_with fail
  refine (markedSteps_nil w5).mono ?_
  rintro e x ⟨rfl, hx⟩
  rw [hx]
  clear hx x
  go_simp
  go_wp2_with fail
  refine (markedSteps_nil w5).mono ?_
  rintro e x ⟨rfl, hx⟩
  rw [hx]
  clear hx x
  go_simp
  go_wp2_with fail
  go_ret
  have hB2 := H2.out.1.bsz
  have hB3 : B ≤ w3.heap.size := Nat.le_trans hB2 H3.out.1.size
  have g3 : Below B w2 w3 := ⟨H3.out.1.os, H3.out.1.tape, H3.out.1.output, H3.out.1.size, fun b hb => H3.out.1.far b (by omega) (fun j p _ hp e => by
    have := (own_cells (H2.out.1.rows.own _ (List.mem_of_getElem? hp)) e).1
    omega)⟩
  exact ⟨rfl, (H2.out.2.trans g3).trans ((H4.out.1.mono hB3).trans (H5.out.mono (Nat.le_trans hB3 H4.out.1.size)))⟩
end Go.Proofs.YtidjnfjpdnjogaaGreatDoor
