/-
  chroniclebook.Book: every list of texts gets marks of its own. Conditions: none.
-/
import Derived.Test.YtidjnfjpdnjogaaGreatDoorPwE
import Derived.StillTailTactics
namespace Go.Proofs.YtidjnfjpdnjogaaGreatDoor
open Go.RowKit Go.Lib

theorem Rows.sub {w : World} {B : Nat} {ps qs : List Row} (h : Rows w B ps) (hs : qs.Sublist ps) : Rows w B qs := ⟨fun p hp => h.own p (hs.subset hp), h.apart.sublist hs⟩
/-- A cell of the row. -/
theorem own_put {w : World} {B n cap g k : Nat} {xs : List Value} (h : w.ownsRow B 9 1 (.slice (some ⟨g, 0, none⟩) n cap) n xs) (hk : k < n) (x : Value) : (w.setCell ⟨g, k, none⟩ x).ownsRow B 9 1 (.slice (some ⟨g, 0, none⟩) n cap) n (xs.set k x) := by
  have _h := hk
  refine ⟨by simpa using h.1, ?_⟩
  rcases h.2 with ⟨e, _⟩ | ⟨g', cap', cur, e, hb, hg, hnc, hcm, hcs, ht⟩
  · cases e
  · cases e
    refine Or.inr ⟨g, cap, cur.setIfInBounds k x, rfl, hb, ?_, hnc, hcm, by simpa using hcs, ?_⟩
    · rw [heap_setCell_same hg]
    · rw [← ht]
      simp [List.take_set]
theorem rows_put {w : World} {B n cap g k j : Nat} {ps : List Row} {l : List ByteArray} (h : Rows w B ps) (hj : ps[j]? = some (.slice (some ⟨g, 0, none⟩) n cap, l)) (hn : l.length = n) (hk : k < n) (s : ByteArray) :
    Rows (w.setCell ⟨g, k, none⟩ (.string s)) B (ps.set j (.slice (some ⟨g, 0, none⟩) n cap, l.set k s)) := by
  obtain ⟨hjl, hje⟩ := List.getElem?_eq_some_iff.1 hj
  have hw := h.own _ (List.mem_of_getElem? hj)
  have hap : ∀ i (hi : i < ps.length), i ≠ j → ps[i].1.ownBlock ≠ some g := by
    intro i hi hne e
    have hP := List.pairwise_iff_getElem.1 h.apart
    rcases Nat.lt_or_gt_of_ne hne with hl | hl
    · exact hP i j hi hjl hl g e (by rw [hje]; rfl)
    · exact hP j i hjl hi hl g (by rw [hje]; rfl) e
  refine ⟨fun p hp => ?_, ?_⟩
  · obtain ⟨i, hi, rfl⟩ := List.getElem_of_mem hp
    have hi' : i < ps.length := by simpa using hi
    by_cases hij : j = i
    · subst hij
      rw [List.getElem_set_self]
      have := own_put (w := w) (B := B) (by rw [hn] at hw; exact hw) hk (.string s)
      simp only [List.length_set, hn]
      simpa [vals, List.map_set] using this
    · rw [List.getElem_set_ne hij]
      exact ownsRow_setCell_other (h.own _ (List.getElem_mem hi')) (hap i hi' (fun e => hij e.symm)) _
  · rw [List.pairwise_iff_getElem]
    have hP := List.pairwise_iff_getElem.1 h.apart
    have h1 : ∀ i (hi : i < (ps.set j (.slice (some ⟨g, 0, none⟩) n cap, l.set k s)).length), (ps.set j (.slice (some ⟨g, 0, none⟩) n cap, l.set k s))[i].1 = (ps[i]'(by simpa using hi)).1 := by
      intro i hi
      by_cases hij : j = i
      · subst hij
        rw [List.getElem_set_self, hje]
      · rw [List.getElem_set_ne hij]
    intro a b ha hb hlt q e
    rw [h1 a ha] at e
    rw [h1 b hb]
    exact hP a b (by simpa using ha) (by simpa using hb) hlt q e
section
variable {K B : Nat} {tv cv : Value} {tl cl : List Value} {ps : List Row} {w w1 : World}
theorem BookV.mark (h : BookV K B tv cv tl cl ps w) {j g n cap k : Nat} {l : List ByteArray} (hj : ps[j]? = some (.slice (some ⟨g, 0, none⟩) n cap, l)) (hn : l.length = n) (hk : k < n) (s : ByteArray) :
    BookV K B tv cv tl cl (ps.set j (.slice (some ⟨g, 0, none⟩) n cap, l.set k s)) (w.setCell ⟨g, k, none⟩ (.string s)) ∧ Below B w (w.setCell ⟨g, k, none⟩ (.string s)) := by
  have hw := h.rows.own _ (List.mem_of_getElem? hj)
  obtain ⟨hB, cs, hc⟩ := own_cells hw (g := g) rfl
  have far : ∀ (k' t : Nat) (cs' : Array Value), w.heap[k']? = some (Obj.cells cs' t) → t ≠ 9 → (w.setCell ⟨g, k, none⟩ (.string s)).heap[k']? = w.heap[k']? := by
    intro k' t cs' hk' ht
    refine Below.heap_setCell _ _ _ _ (fun e => ?_)
    have e' : k' = g := e
    subst e'
    rw [hc] at hk'
    simp at hk'
    exact ht hk'.2.symm
  refine ⟨⟨h.lo, ?_, ?_, ?_, h.ap, rows_put h.rows hj hn hk s⟩, (Below.refl _ _).setCell hB _⟩
  · rw [far K _ _ h.cell (by decide)]
    exact h.cell
  · exact own_same h.tx fun q e => by
      obtain ⟨_, cs', hq⟩ := own_cells h.tx e
      exact far q _ _ hq (by decide)
  · exact own_same h.cx fun q e => by
      obtain ⟨_, cs', hq⟩ := own_cells h.cx e
      exact far q _ _ hq (by decide)
theorem BookV.sub (h : BookV K B tv cv tl cl ps w) {qs : List Row} (hs : qs.Sublist ps) : BookV K B tv cv tl cl qs w := ⟨h.lo, h.cell, h.tx, h.cx, h.ap, h.rows.sub hs⟩
end
/-- The first i lists have their marks. -/
def mkd (ps : List Row) (i : Nat) : List Row := ps.mapIdx fun j p => if j < i then (p.1, marks j 0 p.2.length) else p
theorem mkd_zero (ps : List Row) : mkd ps 0 = ps := by
  refine List.ext_getElem? fun j => ?_
  simp [mkd]
theorem mkd_get (ps : List Row) (i j : Nat) : (mkd ps i)[j]? = ps[j]?.map fun p => if j < i then (p.1, marks j 0 p.2.length) else p := by simp [mkd]
theorem mkd_succ (ps : List Row) (i : Nat) (p : Row) (hp : ps[i]? = some p) : (mkd ps i).set i (p.1, marks i 0 p.2.length) = mkd ps (i + 1) := by
  refine List.ext_getElem? fun j => ?_
  rw [List.getElem?_set, mkd_get]
  by_cases h : i = j
  · subst h
    obtain ⟨h1, h2⟩ := List.getElem?_eq_some_iff.1 hp
    simp [mkd, h1, h2]
  · rw [if_neg h, mkd_get]
    have : (j < i + 1) = (j < i) := by simp; omega
    simp only [this]
theorem mark_next (i n k : Nat) (l : List ByteArray) (hl : l.length = n) (hk : k < n) : (marks i 0 k ++ l.drop k).set k (nameS i k) = marks i 0 (k + 1) ++ l.drop (k + 1) := by
  rw [List.set_append_right _ _ (by rw [marks_len]; omega), marks_len, marks_succ]
  rw [List.drop_eq_getElem_cons (show k < l.length by omega), Nat.sub_self, List.set_cons_zero]
  simp

set_option maxRecDepth 100000 in
theorem putTexts_any (K B : Nat) (tv cv : Value) (tl cl : List Value) (ps : List Row) (n : Nat) (ht : tl.length = n) (hn : n < 200) (hp : ps.map Prod.fst = tl) (hs : ∀ p ∈ ps, p.2.length < 900) (w : World) (hV : BookV K B tv cv tl cl ps w) :
    Calls Tryz.prog 26 #[.pointer (some ⟨K, 0, none⟩)] w fun e w' => e = .returned (.tuple #[]) ∧ BookV K B tv cv tl cl (mkd ps n) w' ∧ Below B w w' := by
  obtain ⟨ta, tc, rfl⟩ := row_sl hV.tx
  have hV' : BookV K B (.slice ta n tc) cv tl cl ps w := by rw [← ht]; exact hV
  have HT := Lib.hid ht
  rw [ht]
  clear hV ht
  go_enter Tryz.func26, Tryz.ntmps26
  have HV := Lib.hid hV'; clear hV'
  go_wp2_with fail
  go_loopg [2] n (fun g i wr => ∃ k : Nat, g = n - k ∧ k ≤ n ∧ i = .int .i64 k ∧ BookV K B (.slice ta n tc) cv tl cl (mkd ps k) wr ∧ Below B w wr)
  case atStart => exact ⟨0, by omega, by omega, rfl, by rw [mkd_zero]; exact HV.out, Below.refl _ _⟩
  case round =>
    obtain ⟨k, hg, hk, rfl, VR, hb⟩ := hrel
    have HG := Lib.hid hg; clear hg
    have HB := Lib.hid hb; clear hb
    have c0 := VR.cell0
    by_cases hlt : k < n
    · have hl2 : (k : Int) < (n : Int) := by omega
      have hw1 : IntKind.i64.wrap ((k : Int) + 1) = (k : Int) + 1 := IntWalk.i64_in _ (by omega)
      obtain ⟨g1, u1, rfl, hu1, e1⟩ := row_elem (HT.out ▸ VR.tx) hlt
      have z1 := lt_of_cell e1
      obtain ⟨l, hpk⟩ : ∃ l, ps[k]? = some (u1, l) := by
        rw [← hp, List.getElem?_map] at hu1
        cases hq : ps[k]? with
        | none => rw [hq] at hu1; cases hu1
        | some q => rw [hq] at hu1; exact ⟨q.2, by cases hu1; rfl⟩
      have hmk : (mkd ps k)[k]? = some (u1, l) := by rw [mkd_get, hpk]; simp
      obtain ⟨po, pc, rfl⟩ : ∃ po pc, u1 = .slice po l.length pc := row_sl (VR.rows.own _ (List.mem_of_getElem? hmk))
      have hll := hs _ (List.mem_of_getElem? hpk)
      simp only at hll
      have HM := Lib.hid (marks_any k 0 l.length (by omega) (by omega) (by omega) wr)
      have HR := Lib.hid (And.intro VR hmk)
      have HPK := Lib.hid (And.intro hpk hll)
      clear VR hmk hpk hll
      go_wp2_with fail
      refine HM.out.mono ?_
      rintro e w2 ⟨mv, rfl, om, bm⟩
      obtain ⟨V2, b2⟩ := HR.out.1.copied (c := mv) (l := marks k 0 l.length) bm (by rw [marks_len]; exact om)
      obtain ⟨mo, mc, rfl⟩ := row_sl om
      have H2 := Lib.hid (And.intro V2 (HB.out.trans b2))
      clear om bm V2 b2 c0 e1 z1
      go_simp
      go_wp2_with fail
      go_loopg [4] l.length (fun g j wx => ∃ q : Nat, g = l.length - q ∧ q ≤ l.length ∧ j = .int .i64 q ∧ BookV K B (.slice (some ⟨g1, 0, none⟩) n tc) cv tl cl ((.slice mo l.length mc, marks k 0 l.length) :: (mkd ps k).set k (.slice po l.length pc, marks k 0 q ++ l.drop q)) wx ∧ Below B w wx)
      case atStart =>
        refine ⟨0, by omega, by omega, rfl, ?_, H2.out.2⟩
        have e0 : (mkd ps k).set k (.slice po l.length pc, marks k 0 0 ++ l.drop 0) = mkd ps k := by
          obtain ⟨h1, h2⟩ := List.getElem?_eq_some_iff.1 HR.out.2
          simp [marks, ← h2]
        rw [e0]
        exact H2.out.1
      case round =>
        obtain ⟨q, hg, hq, rfl, VX, hb⟩ := hrel
        have HG2 := Lib.hid hg; clear hg
        have HB2 := Lib.hid hb; clear hb
        have c0 := VX.cell0
        obtain ⟨g1', u1, eg, hu2, e1⟩ := row_elem (HT.out ▸ VX.tx) hlt
        obtain rfl : g1 = g1' := by cases eg; rfl
        obtain rfl : Value.slice po l.length pc = u1 := by rw [hu1] at hu2; cases hu2; rfl
        by_cases hq2 : q < l.length
        · have hq3 : (q : Int) < (l.length : Int) := by omega
          have hw2 : IntKind.i64.wrap ((q : Int) + 1) = (q : Int) + 1 := IntWalk.i64_in _ (by have := HPK.out.2; omega)
          have om := VX.rows.own _ (List.mem_cons_self ..)
          simp only [marks_len] at om
          obtain ⟨gm, um, rfl, hum, em⟩ := row_elem om hq2
          obtain rfl : Value.string (nameS k q) = um := by
            simp [vals, marks, hq2] at hum
            exact hum
          have hjj : ((Value.slice (some ⟨gm, 0, none⟩) l.length mc, marks k 0 l.length) :: (mkd ps k).set k (.slice po l.length pc, marks k 0 q ++ l.drop q))[k + 1]? = some (.slice po l.length pc, marks k 0 q ++ l.drop q) := by
            obtain ⟨h1, h2⟩ := List.getElem?_eq_some_iff.1 HR.out.2
            simp [h1]
          have ot : wr.ownsRow B 9 1 (.slice po l.length pc) l.length (vals (marks k 0 q ++ l.drop q)) := by
            have := VX.rows.own _ (List.mem_of_getElem? hjj)
            simp only [List.length_append, marks_len, List.length_drop] at this
            rw [show q + (l.length - q) = l.length by omega] at this
            exact this
          obtain ⟨gt, ut, rfl, hut, et⟩ := row_elem ot hq2
          have VM := VX.drew.mark hjj (by simp [marks_len]; omega) hq2 (nameS k q)
          rw [List.set_cons_succ, List.set_set, mark_next k l.length q l rfl hq2] at VM
          obtain ⟨ft, -⟩ : wr.frozen? ⟨gt, q, none⟩ = false ∧ True := by
            obtain ⟨_, cs, hc⟩ := own_cells ot (g := gt) rfl
            exact ⟨by simp [World.frozen?, hc], trivial⟩
          have z1 := lt_of_cell e1
          have z2 := lt_of_cell em
          have z3 := lt_of_cell et
          have HVM := Lib.hid VM
          clear VX om hum hjj ot hut VM hu2
          go_wp2_with fail
          go_still_tail 13, (by kernel_rfl)
          change wpList _ _ _ _ _ wr.drew
          have et' : wr.drew.cell? ⟨gt, q, none⟩ = some ut := et
          have ft' : wr.drew.frozen? ⟨gt, q, none⟩ = false := ft
          have hbd := HB2.out.drew
          have HBD := Lib.hid hbd
          clear c0 e1 em et ft hbd
          generalize wr.drew = w3 at *
          go_wp2_with fail
          go_roundg (l.length - (q + 1))
          case measure => have := HG2.out; omega
          case rel => exact ⟨q + 1, rfl, by omega, by go_num, HVM.out.1, HBD.out.trans HVM.out.2⟩
        · obtain rfl : q = l.length := by omega
          have VS := VX.sub (List.sublist_cons_self _ _)
          rw [List.drop_length, List.append_nil] at VS
          have hms := mkd_succ ps k _ HPK.out.1
          simp only at hms
          rw [hms] at VS
          have HVS := Lib.hid VS
          clear VX VS hms
          go_wp2_with fail
          go_roundg (n - (k + 1))
          case measure => have := HG.out; omega
          case rel => exact ⟨k + 1, rfl, by omega, by go_num, HVS.out, HB2.out⟩
    · obtain rfl : k = n := by omega
      have HR := Lib.hid VR
      clear VR
      go_wp2_with fail
      exact bodyPost_end (results_none rfl _ _ _) rfl ⟨rfl, HR.out, HB.out⟩
end Go.Proofs.YtidjnfjpdnjogaaGreatDoor
