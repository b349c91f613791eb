/-
  Package prog: Run. Conditions: none.
-/
import Derived.Test.YtidjnfjpdnjogaaDoorPg10
namespace Go.Proofs.YtidjnfjpdnjogaaDoor
open Go.RowKit Go.Lib

theorem neqFault (w : World) (e k e' k' : Int) (s s' : ByteArray) : (binOp .neq 31 (.agg #[.int .i64 e, .int .i64 k, .string s]) (.agg #[.int .i64 e', .int .i64 k', .string s'])).run Tryd.prog w = .ok (.bool (!((e == e') && ((k == k') && (s.toList == s'.toList))))) w := by
  simp [go_sem]
  by_cases h1 : e = e' <;> by_cases h2 : k = k' <;> by_cases h3 : s.toList = s'.toList <;> simp [h1, h2, h3]

/-- The world in which Run calls guard.Do. -/
def machW (cs : Array Value) (w : World) : World := (w.alloc (.cells cs 64)).alloc (.cells #[.pointer (some ⟨w.heap.size, 0, none⟩)] 62)
theorem machW_size (cs : Array Value) (w : World) : (machW cs w).heap.size = w.heap.size + 2 := by simp [machW]
theorem machW_m (cs : Array Value) (w : World) : (machW cs w).heap[w.heap.size]? = some (.cells cs 64) := by
  unfold machW
  rw [Below.heap_alloc _ _ _ (by simp), new_block]
theorem machW_p (cs : Array Value) (w : World) : (machW cs w).heap[w.heap.size + 1]? = some (.cells #[.pointer (some ⟨w.heap.size, 0, none⟩)] 62) := new_block2 w _ _
theorem machW_below (cs : Array Value) (w : World) : Below w.heap.size w (machW cs w) := (below_alloc w _).trans ((below_alloc _ _).mono (by simp))

/-- What a run tells, as a value. -/
def Tell.val (r : Tell) : Value := .tuple #[.float .f64 r.v, fault r.err r.kind ⟨r.text.toArray⟩]
def RunTells (r : Tell) (w : World) (e : Ending) (w' : World) : Prop := e = .returned r.val ∧ Below w.heap.size w w'

/-- The three boxes that Run makes first. -/
def boxW (v : Value) (en : En) (w : World) : World := ((w.alloc (.cells #[v] 28)).alloc (.cells #[.float .f64 en.s, .int .i64 en.id, .string en.ty, .string en.d, .float .f64 en.v, .int .i64 en.ver] 37)).alloc (.cells #[.int .i64 0, .int .i64 0, .string ⟨#[]⟩] 31)

theorem boxW_f (v : Value) (en : En) (w : World) : (boxW v en w).heap[w.heap.size + 1 + 1]? = some (.cells #[.int .i64 0, .int .i64 0, .string ⟨#[]⟩] 31) := by
  show (((w.heap.push _).push _).push _)[_]? = _
  simp only [Array.getElem?_push, Array.size_push]
  rw [if_pos trivial]
theorem boxW_e (v : Value) (en : En) (w : World) : (boxW v en w).heap[w.heap.size + 1]? = some (.cells #[.float .f64 en.s, .int .i64 en.id, .string en.ty, .string en.d, .float .f64 en.v, .int .i64 en.ver] 37) := by
  show (((w.heap.push _).push _).push _)[_]? = _
  simp only [Array.getElem?_push, Array.size_push]
  rw [if_neg (by omega), if_pos trivial]
theorem boxW_p (v : Value) (en : En) (w : World) : (boxW v en w).heap[w.heap.size]? = some (.cells #[v] 28) := by
  show (((w.heap.push _).push _).push _)[_]? = _
  simp only [Array.getElem?_push, Array.size_push]
  rw [if_neg (by omega), if_neg (by omega), if_pos trivial]
theorem boxW_below (v : Value) (en : En) (w : World) : Below w.heap.size w (boxW v en w) := ((below_alloc w _).trans ((below_alloc _ _).mono (by simp))).trans ((below_alloc _ _).mono (by simp; omega))
theorem boxW_size (v : Value) (en : En) (w : World) : (boxW v en w).heap.size = w.heap.size + 3 := by simp [boxW]
theorem env_cells {w : World} {b : Nat} {en : En} (h : w.heap[b]? = some (.cells #[.float .f64 en.s, .int .i64 en.id, .string en.ty, .string en.d, .float .f64 en.v, .int .i64 en.ver] 37)) :
    w.cell? ⟨b, 0, none⟩ = some (.float .f64 en.s) ∧ w.cell? ⟨b, 1, none⟩ = some (.int .i64 en.id) ∧ w.cell? ⟨b, 2, none⟩ = some (.string en.ty) ∧ w.cell? ⟨b, 3, none⟩ = some (.string en.d) ∧ w.cell? ⟨b, 4, none⟩ = some (.float .f64 en.v) ∧ w.cell? ⟨b, 5, none⟩ = some (.int .i64 en.ver) := by
  simp [World.cell?, h]

set_option maxRecDepth 100000 in
theorem run_form (en : En) (l : List ByteArray) (hf : Fits l) (v : Value) (w : World) (h : Txs w v l) (hc : (checkL (tl l)).1 ≠ 0) :
    Calls Tryd.prog 10 #[.agg #[v], en.val] w (RunTells ⟨0, 6, 0, []⟩ w) := by
  have hb0 : Below w.heap.size w (boxW v en w) := ((below_alloc w _).trans ((below_alloc _ _).mono (by simp))).trans ((below_alloc _ _).mono (by simp; omega))
  have HK := Lib.hid (check_any l hf v (boxW v en w) (h.below hb0))
  have hne : ((checkL (tl l)).1 != 0) = true := by simpa using hc
  have HB := Lib.hid hb0
  have hb3 := boxW_f v en w
  have H3 := Lib.hid hb3
  clear hb3 hb0 hf h hc
  unfold CheckPost at HK
  revert HK hne
  generalize (checkL (tl l)).1 = c
  generalize (checkL (tl l)).2 = d
  intro HK hne
  go_enter Tryd.func10, Tryd.ntmps10
  go_wp2_with fail
  refine HK.out.mono ?_
  rintro e w1 ⟨rfl, hb1⟩
  have hx : w1.heap[w.heap.size + 1 + 1]? = some (.cells #[.int .i64 0, .int .i64 0, .string ⟨#[]⟩] 31) := (hb1.block _ (lt_of_block H3.out)).trans H3.out
  obtain ⟨f1, f2, f3, f4, f5, f6⟩ := cells_of_fault hx
  have hlt := lt_of_block hx
  have HB1 := Lib.hid (HB.out.trans (hb1.mono HB.out.size))
  clear hx hb1
  go_wp2
  refine bodyPost_ret (v := .tuple #[.float .f64 0, fault 6 0 ⟨#[]⟩]) (by simp [results, Tryd.results10, go_sem, fault, f1, f2, f3]) rfl ⟨rfl, ?_⟩
  exact ((HB1.out.setCell (p := ⟨w.heap.size + 1 + 1, 0, none⟩) (by simp <;> omega) _).setCell (p := ⟨w.heap.size + 1 + 1, 1, none⟩) (by simp <;> omega) _).setCell (p := ⟨w.heap.size + 1 + 1, 2, none⟩) (by simp <;> omega) _

/-- What the words told, as Run tells it. -/
def tellOf : Out → Tell
  | .ok [f] => ⟨f, 0, 0, []⟩
  | .ok _ => ⟨0, 6, 2, []⟩
  | .rt => ⟨0, 21, 1, []⟩
  | .fail => ⟨0, 21, 3, wFail⟩
theorem do_cases {M : Nat} {en : En} {o : Out} {w w' : World} {e : Ending} (h : DoPost M en o w e w') :
    ((∃ f, tellOf o = ⟨f, 0, 0, []⟩ ∧ e = .returned (fault 0 0 ⟨#[]⟩) ∧ ∃ B v', Mach B M en [f] v' w') ∨ ∃ er kd tx, tellOf o = ⟨0, er, kd, tx⟩ ∧ e = .returned (fault er kd ⟨tx.toArray⟩) ∧ (er == 0) = false) ∧ Wk w.heap.size M w w' := by
  obtain ⟨h1, h2⟩ := h
  refine ⟨?_, h2⟩
  match o, h1 with
  | .ok [f], h1 => exact Or.inl ⟨f, rfl, h1⟩
  | .ok [], h1 => exact Or.inr ⟨6, 2, [], rfl, h1, by decide⟩
  | .ok (x :: y :: t), h1 => exact Or.inr ⟨6, 2, [], rfl, h1, by decide⟩
  | .rt, h1 => exact Or.inr ⟨21, 1, [], rfl, h1, by decide⟩
  | .fail, h1 => exact Or.inr ⟨21, 3, wFail, rfl, h1, by decide⟩

set_option maxRecDepth 100000 in
theorem run_do (en : En) (ho : en.Ok) (l : List ByteArray) (hf : Fits l) (v : Value) (w : World) (h : Txs w v l) (hc : checkL (tl l) = (0, 0)) (hl64 : l.length ≤ 64) :
    Calls Tryd.prog 10 #[.agg #[v], en.val] w (RunTells (runB en (tl l)) w) := by
  have HK := Lib.hid (check_any l hf v (boxW v en w) (h.below (boxW_below v en w)))
  unfold CheckPost at HK
  rw [hc] at HK
  have hrb : runB en (tl l) = tellOf (wordsGo en (tl l) []) := by unfold runB tellOf; rw [hc]; rfl
  rw [hrb]
  obtain ⟨po, cap, rfl⟩ := h.slice
  have HT := Lib.hid h
  have hmf : ∀ (fn : Fn) (first cap : Array Value) (w : World), (Instr.makeFunc fn first cap).run Tryd.prog w = .ok (.func fn first cap) w := fun _ _ _ _ => rfl
  have HO := Lib.hid ho
  have HF := Lib.hid hf
  clear h hc hrb ho hf
  go_enter Tryd.func10, Tryd.ntmps10
  go_wp2_with fail
  refine HK.out.mono ?_
  rintro e w1 ⟨rfl, hb1⟩
  have hz1 := hb1.size
  rw [boxW_size] at hz1
  have he : w1.heap[w.heap.size + 1]? = some _ := (hb1.block _ (by rw [boxW_size]; omega)).trans (boxW_e (.slice po l.length cap) en w)
  obtain ⟨e0, e1, e2, e3, e4, e5⟩ := env_cells he
  clear he
  have HB1 := Lib.hid hb1
  clear hb1
  go_wp2_with fail
  have hpb : w1.heap[w.heap.size]? = some (.cells #[.slice po l.length cap] 28) := (HB1.out.block _ (by rw [boxW_size]; omega)).trans (boxW_p (.slice po l.length cap) en w)
  have hfb : w1.heap[w.heap.size + 1 + 1]? = some (.cells #[.int .i64 0, .int .i64 0, .string ⟨#[]⟩] 31) := (HB1.out.block _ (by rw [boxW_size]; omega)).trans (boxW_f (.slice po l.length cap) en w)
  have hw1 : Below w.heap.size w w1 := (boxW_below (.slice po l.length cap) en w).trans (HB1.out.mono (by rw [boxW_size]; omega))
  have hmb := machW_below (en.cells (.slice none 0 0)) w1
  have hD := do_run w1.heap.size w.heap.size (w1.heap.size + 1) en HO.out l hl64 HF.out po cap (machW (en.cells (.slice none 0 0)) w1) (machW_m _ w1) (by
      rcases HT.out with ⟨h, _⟩ | ⟨b, off, cap', hv, hx⟩
      · exact Or.inl h
      · right
        obtain ⟨rfl, -, -⟩ : po = some ⟨b, off, none⟩ ∧ l.length = l.length ∧ cap = cap' := by simpa using hv
        exact ⟨b, off, rfl, (hx.below hw1).below hmb, by have := hx.bl; omega⟩) ((hmb.block _ (lt_of_block hpb)).trans hpb) (machW_p _ w1) (by omega) (by omega)
  refine hD.mono ?_
  clear hD
  intro e w2 hdp
  obtain ⟨hd, hW⟩ := do_cases hdp
  clear hdp
  rw [machW_size] at hW
  have hz2 := hW.size
  rw [machW_size] at hz2
  have hfb2 : w2.heap[w.heap.size + 1 + 1]? = some (.cells #[.int .i64 0, .int .i64 0, .string ⟨#[]⟩] 31) := (hW.block _ (by omega) (by omega)).trans ((hmb.block _ (lt_of_block hfb)).trans hfb)
  have hmp2 : w2.heap[w1.heap.size + 1]? = some (.cells #[.pointer (some ⟨w1.heap.size, 0, none⟩)] 62) := (hW.block _ (by omega) (by omega)).trans (machW_p _ w1)
  have hB2 : Below w.heap.size w w2 := (hw1.trans (hmb.mono hw1.size)).trans ⟨hW.os, hW.tape, hW.output, hW.size, fun k hk => hW.block k (by omega) (by omega)⟩
  have l1 : w.heap.size + 1 + 1 < w2.heap.size := by omega
  have l2 : w1.heap.size + 1 < w2.heap.size := by omega
  have l3 : w1.heap.size < w2.heap.size := by omega
  have HB2 := Lib.hid hB2
  have HZ := Lib.hid hz1
  clear hB2 hz2 hW hmb hw1 hfb hpb e0 e1 e2 e3 e4 e5 HB1 HK HT HO HF
  have hne := neqFault
  rcases hd with ⟨f, ht, rfl, B, v', hm⟩ | ⟨er, kd, tx, ht, rfl, her⟩
  · have HE := Lib.hid ht
    clear ht
    unfold fault
    obtain ⟨g, cp, rfl, _, hc, _⟩ := hm.top
    have hg : g < w2.heap.size := (hm.own.lt g rfl).2
    have c6 : w2.cell? ⟨w1.heap.size, 6, none⟩ = some (.slice (some ⟨g, 0, none⟩) 1 cp) := hm.cells.2.2.2.2.2.2.1
    have hc' : w2.cell? ⟨g, 0, none⟩ = some (.float .f64 f) := hc
    clear hm hc
    go_wp2_with fail
    have hbl := below_alloc w2 (.cells #[.int .i64 0, .int .i64 0, .string ⟨#[]⟩] 31)
    have qb := new_block w2 (.cells #[.int .i64 0, .int .i64 0, .string ⟨#[]⟩] 31)
    have qf := (hbl.block _ l1).trans hfb2
    have qm := (hbl.block _ l2).trans hmp2
    have k6 := (World.cell?_of_block (a := ⟨w1.heap.size, 6, none⟩) (hbl.block _ l3)).trans c6
    have kc := (World.cell?_of_block (a := ⟨g, 0, none⟩) (hbl.block _ hg)).trans hc'
    have hBl := HB2.out.trans (hbl.mono (by omega))
    have hz3 : w.heap.size + 1 + 1 < (w2.alloc (.cells #[.int .i64 0, .int .i64 0, .string ⟨#[]⟩] 31)).heap.size := by simp; omega
    clear c6 hc' l1 l2 l3 hfb2 hmp2 HB2 hg hbl
    revert qb qf qm k6 kc hBl hz3
    generalize w2.alloc (.cells #[.int .i64 0, .int .i64 0, .string ⟨#[]⟩] 31) = w3
    intro qb qf qm k6 kc hBl hz3
    obtain ⟨q1, q2, q3, -, -, -⟩ := cells_of_fault qb
    obtain ⟨m1, -⟩ := cell_of_block1 qm
    have HBL := Lib.hid hBl
    have HQF := Lib.hid qf
    clear qb qm hBl qf
    go_still_tail 8, (by kernel_rfl)
    change wpList _ _ _ _ _ w3.drew
    have g1 : w3.drew.heap[w.heap.size + 1 + 1]? = some (.cells #[.int .i64 0, .int .i64 0, .string ⟨#[]⟩] 31) := HQF.out
    have hB4 : Below w.heap.size w w3.drew := HBL.out.trans ⟨rfl, rfl, rfl, Nat.le_refl _, fun _ _ => rfl⟩
    have hz4 : w.heap.size + 1 + 1 < w3.drew.heap.size := hz3
    clear q1 q2 q3 m1 k6 kc HBL HQF hz3
    revert g1 hB4 hz4
    generalize w3.drew = w4
    intro g1 hB4 hz4
    obtain ⟨f1, f2, f3, f4, f5, f6⟩ := cells_of_fault g1
    have HB4 := Lib.hid hB4
    clear g1 hB4
    go_wp2_with fail
    refine bodyPost_ret (v := .tuple #[.float .f64 f, fault 0 0 ⟨#[]⟩]) (by simp [results, Tryd.results10, go_sem, fault, f1, f2, f3]) rfl ⟨by rw [HE.out]; rfl, ?_⟩
    exact ((HB4.out.setCell (p := ⟨w.heap.size + 1 + 1, 0, none⟩) (by simp <;> omega) _).setCell (p := ⟨w.heap.size + 1 + 1, 1, none⟩) (by simp <;> omega) _).setCell (p := ⟨w.heap.size + 1 + 1, 2, none⟩) (by simp <;> omega) _
  · have HE := Lib.hid ht
    clear ht
    unfold fault
    obtain ⟨tx', htx⟩ : ∃ t : ByteArray, t = ⟨tx.toArray⟩ := ⟨_, rfl⟩
    have HTX := Lib.hid htx
    rw [← htx]
    clear htx
    go_wp2_with fail
    have hbl := below_alloc w2 (.cells #[.int .i64 er, .int .i64 kd, .string tx'] 31)
    have qb := new_block w2 (.cells #[.int .i64 er, .int .i64 kd, .string tx'] 31)
    have qf := (hbl.block _ l1).trans hfb2
    have hBl := HB2.out.trans (hbl.mono (by omega))
    have hz3 : w.heap.size + 1 + 1 < (w2.alloc (.cells #[.int .i64 er, .int .i64 kd, .string tx'] 31)).heap.size := by simp; omega
    clear l1 l2 l3 hfb2 hmp2 HB2 hbl
    revert qb qf hBl hz3
    generalize w2.alloc (.cells #[.int .i64 er, .int .i64 kd, .string tx'] 31) = w3
    intro qb qf hBl hz3
    obtain ⟨q1, q2, q3, -, -, -⟩ := cells_of_fault qb
    have HBL := Lib.hid hBl
    have HQF := Lib.hid qf
    clear qb hBl qf
    go_still_tail 2, (by kernel_rfl)
    change wpList _ _ _ _ _ w3.drew
    have g1 : w3.drew.heap[w.heap.size + 1 + 1]? = some (.cells #[.int .i64 0, .int .i64 0, .string ⟨#[]⟩] 31) := HQF.out
    have hB4 : Below w.heap.size w w3.drew := HBL.out.trans ⟨rfl, rfl, rfl, Nat.le_refl _, fun _ _ => rfl⟩
    have hz4 : w.heap.size + 1 + 1 < w3.drew.heap.size := hz3
    clear q1 q2 q3 HBL HQF hz3
    revert g1 hB4 hz4
    generalize w3.drew = w4
    intro g1 hB4 hz4
    obtain ⟨f1, f2, f3, f4, f5, f6⟩ := cells_of_fault g1
    have HB4 := Lib.hid hB4
    clear g1 hB4
    go_wp2_with fail
    refine bodyPost_ret (v := .tuple #[.float .f64 0, fault er kd tx']) (by simp [results, Tryd.results10, go_sem, fault, f1, f2, f3]) rfl ⟨by rw [HE.out, HTX.out]; rfl, ?_⟩
    exact ((HB4.out.setCell (p := ⟨w.heap.size + 1 + 1, 0, none⟩) (by simp <;> omega) _).setCell (p := ⟨w.heap.size + 1 + 1, 1, none⟩) (by simp <;> omega) _).setCell (p := ⟨w.heap.size + 1 + 1, 2, none⟩) (by simp <;> omega) _

theorem run_any (en : En) (ho : en.Ok) (l : List ByteArray) (hf : Fits l) (v : Value) (w : World) (h : Txs w v l) :
    Calls Tryd.prog 10 #[.agg #[v], en.val] w (RunTells (runB en (tl l)) w) := by
  by_cases hc : (checkL (tl l)).1 = 0
  · have hl : l.length ≤ 64 := by
      unfold checkL at hc
      split at hc
      · cases hc
      · rename_i h; simpa [tl] using h
    have hc2 : checkL (tl l) = (0, 0) := by
      unfold checkL at hc ⊢
      rw [if_neg (by simpa [tl] using hl)] at hc ⊢
      have key : ∀ (m : List (List UInt8)) i, (checkB m i).1 = 0 → checkB m i = (0, 0) := by
        intro m
        induction m with
        | nil => intro i _; rfl
        | cons a m ih =>
          intro i h
          unfold checkB at h ⊢
          split at h
          · rename_i h1; rw [if_pos h1]; exact ih _ h
          · cases h
      exact key _ _ hc
    exact run_do en ho l hf v w h hc2 hl
  · rw [show runB en (tl l) = ⟨0, 6, 0, []⟩ by unfold runB; rw [if_pos hc]]
    exact run_form en l hf v w h hc
end Go.Proofs.YtidjnfjpdnjogaaDoor
