/-
  chroniclebook.Book: one list more. Conditions: none.
-/
import Derived.Test.YtidjnfjpdnjogaaGreatDoorPwC
import Derived.Deep.Upon
import Derived.Maps.AppendAt
import Derived.OrdersHeld
import Derived.Deep.RegionHeld
import Derived.Deep.CutBlock
import Derived.Deep.DeepCutAuto
import Derived.Deep.AppendLies
import Derived.Deep.RegionLaw
namespace Go.Proofs.YtidjnfjpdnjogaaGreatDoor
open Go.RowKit Go.Lib

theorem row_sl {w : World} {B e size n : Nat} {v : Value} {xs : List Value} (h : w.ownsRow B e size v n xs) : ∃ po pc, v = .slice po n pc := by
  rcases h.2 with ⟨rfl, rfl⟩ | ⟨g, cap, cur, rfl, _⟩
  · exact ⟨none, 0, rfl⟩
  · exact ⟨_, _, rfl⟩
abbrev nilV : Value := .slice none 0 0
/-- A book, where it lies. -/
abbrev bookO (tv cv : Value) : Obj := .cells #[tv, cv, nilV, nilV, nilV, nilV, nilV, nilV, nilV, nilV, nilV, nilV] 31

theorem info_l : (Tryz.prog.info? 32).map (fun i => (i.zero, i.size, i.bytes)) = some (some (.slice none 0 0), 1, 24) := by kernel_rfl
/-- One list more, appended onto an own row of lists. -/
theorem wpList_append_lst {ops : Array Oper} {rest : List Oper} {o : Oper} {a : Act} {Q : Exit → Act → World → Prop} {w : World} (hgd : o.guard = none) (s x : Operand)
    (ho : o.op = .call { callee := .builtin .append, args := #[s, x], argTypes := #[24, 24] }) (base : Nat) (v : Value) (n : Nat) (xs : List Value) (hs : a.eval s = v) (hown : w.ownsRow base 32 1 v n xs)
    (g : Nat) (po : Option Addr) (pn pc : Nat) (hx : a.eval x = .slice (some ⟨g, 0, none⟩) 1 1) (hg : w.heap[g]? = some (.cells #[.slice po pn pc] 32)) (hnm : n ≤ 1000) (hbase : base ≤ w.heap.size)
    (h : ∀ v' w', w'.ownsRow base 32 1 v' (n + 1) (xs ++ [.slice po pn pc]) → w.grownBy w' v.ownBlock → (v'.ownBlock = v.ownBlock ∨ v'.ownBlock = some w.heap.size) → wpList Tryz.prog ops Q rest (a.put o.dst v') w') : wpList Tryz.prog ops Q (o :: rest) a w := by
  obtain ⟨i0, hi0, hz0, hs0, hb0'⟩ := info_parts info_l
  refine wpList_append_own_at (w := w) hgd s x 24 ho base 32 i0 _ 1 24 Tryz.underlying24 hi0 hz0 hs0 hb0' rfl (by decide) v n xs hs hown ⟨g, 0, none⟩ 1 1 [.slice po pn pc] hx rfl ?_ ?_ (by unfold maxLen; omega) (by omega) hbase fun v' w' a1 a2 _ a4 => h v' w' a1 a2 a4
  · intro j u hu
    match j, hu with
    | 0, hu =>
      have hu2 : u = .slice po pn pc := by simpa using hu.symm
      rw [hu2]
      simp [World.cell?, hg, Addr.add]
  · intro u hu
    obtain rfl := List.mem_singleton.1 hu
    rfl

abbrev Row := Value × List ByteArray
/-- Lists of texts, each in a block of its own. -/
structure Rows (w : World) (B : Nat) (ps : List Row) : Prop where
  own : ∀ p ∈ ps, w.ownsRow B 9 1 p.1 p.2.length (vals p.2)
  apart : ps.Pairwise fun p q => ∀ g, p.1.ownBlock = some g → q.1.ownBlock ≠ some g

theorem Rows.nil (w : World) (B : Nat) : Rows w B [] := ⟨by simp, List.Pairwise.nil⟩
theorem Rows.perm {w : World} {B : Nat} {ps qs : List Row} (h : Rows w B ps) (hp : ps.Perm qs) : Rows w B qs :=
  ⟨fun p hq => h.own p (hp.mem_iff.2 hq), (hp.pairwise_iff (fun {_ _} h g e e' => h g e' e)).1 h.apart⟩
theorem own_cells {w : World} {B e size n : Nat} {v : Value} {xs : List Value} (h : w.ownsRow B e size v n xs) {g : Nat} (hg : v.ownBlock = some g) : B ≤ g ∧ ∃ cs, w.heap[g]? = some (.cells cs e) := by
  rcases h.2 with ⟨rfl, _⟩ | ⟨g', cap, cur, rfl, hb, hgg, _⟩
  · cases hg
  · simp only [Value.ownBlock, Option.some.injEq] at hg
    subst hg
    exact ⟨hb, cur, hgg⟩
theorem Rows.keep {w w' : World} {B : Nat} {ps : List Row} (h : Rows w B ps) (k : ∀ (g : Nat) (cs : Array Value), w.heap[g]? = some (Obj.cells cs 9) → w'.heap[g]? = w.heap[g]?) : Rows w' B ps :=
  ⟨fun p hp => own_same (h.own p hp) fun g e => by
    obtain ⟨_, cs, hc⟩ := own_cells (h.own p hp) e
    exact k g cs hc, h.apart⟩
theorem Rows.below {w w' : World} {B : Nat} {ps : List Row} (h : Rows w B ps) (hb : Below w.heap.size w w') : Rows w' B ps := h.keep fun g _ hc => hb.block g (lt_of_block hc)
theorem Rows.add {w w' : World} {B : Nat} {ps : List Row} (h : Rows w B ps) (hb : Below w.heap.size w w') {c : Value} {l : List ByteArray} (hc : w'.ownsRow w.heap.size 9 1 c l.length (vals l)) (hB : B ≤ w.heap.size) : Rows w' B ((c, l) :: ps) := by
  have h' := h.below hb
  refine ⟨fun p hp => ?_, List.Pairwise.cons (fun q hq g e e' => ?_) h'.apart⟩
  · rcases List.mem_cons.1 hp with rfl | hp
    · exact hc.mono hB
    · exact h'.own p hp
  · obtain ⟨h1, _⟩ := own_cells hc e
    obtain ⟨_, cs, h2⟩ := own_cells (h.own q hq) e'
    have := lt_of_block h2
    omega

/-- A book where it lies, and lists beside it. -/
structure BookV (K B : Nat) (tv cv : Value) (tl cl : List Value) (ps : List Row) (w : World) : Prop where
  lo : B ≤ K
  cell : w.heap[K]? = some (bookO tv cv)
  tx : w.ownsRow B 32 1 tv tl.length tl
  cx : w.ownsRow B 32 1 cv cl.length cl
  ap : ∀ g, tv.ownBlock = some g → cv.ownBlock ≠ some g
  rows : Rows w B ps

section
variable {K B : Nat} {tv cv : Value} {tl cl : List Value} {ps : List Row} {w w1 : World}
theorem BookV.below (h : BookV K B tv cv tl cl ps w) (hb : Below w.heap.size w w1) : BookV K B tv cv tl cl ps w1 :=
  ⟨h.lo, (hb.block K (lt_of_block h.cell)).trans h.cell, own_same h.tx fun g e => hb.block g (lt_of_block (own_cells h.tx e).2.choose_spec), own_same h.cx fun g e => hb.block g (lt_of_block (own_cells h.cx e).2.choose_spec), h.ap, h.rows.below hb⟩
theorem BookV.put0 (h : BookV K B tv cv tl cl ps w) {x v1 : Value} (g : w.grownBy w1 tv.ownBlock) (o : w1.ownsRow B 32 1 v1 (tl.length + 1) (tl ++ [x])) (hat : v1.ownBlock = tv.ownBlock ∨ v1.ownBlock = some w.heap.size) :
    BookV K B v1 cv (tl ++ [x]) cl ps (w1.setCell ⟨K, 0, none⟩ v1) ∧ Below B w (w1.setCell ⟨K, 0, none⟩ v1) := by
  have nK : some K ≠ tv.ownBlock := own_ne h.tx h.cell (by decide)
  have cK : w1.heap[K]? = some (bookO tv cv) := (g.block K (lt_of_block h.cell) nK).trans h.cell
  have nK1 : some K ≠ v1.ownBlock := own_ne o cK (by decide)
  have far : ∀ k t cs, k < w.heap.size → w.heap[k]? = some (.cells cs t) → t ≠ 31 → some k ≠ tv.ownBlock → (w1.setCell ⟨K, 0, none⟩ v1).heap[k]? = w.heap[k]? := by
    intro k t cs hk hc ht hn
    rw [Below.heap_setCell _ _ _ _ (fun e => ?_)]
    · exact g.block k hk hn
    · have e' : k = K := e
      subst e'
      rw [h.cell] at hc
      simp at hc
      exact ht hc.2.symm
  refine ⟨⟨h.lo, ?_, ?_, ?_, ?_, ?_⟩, ?_⟩
  · rw [heap_setCell_same cK]; simp
  · rw [List.length_append]
    exact ownsRow_setCell_other o (fun e => nK1 e.symm) _
  · refine own_same h.cx fun k e => ?_
    obtain ⟨_, cs, hc⟩ := own_cells h.cx e
    exact far k _ cs (lt_of_block hc) hc (by decide) (fun e' => h.ap k e'.symm e)
  · intro k e e'
    obtain ⟨_, cs, hc⟩ := own_cells h.cx e'
    rcases hat with hat | hat
    · exact h.ap k (hat ▸ e) e'
    · rw [hat] at e
      have := lt_of_block hc
      simp at e
      omega
  · refine h.rows.keep fun k cs hc => far k _ cs (lt_of_block hc) hc (by decide) ?_
    exact own_ne h.tx hc (by decide)
  · refine ⟨g.os, g.tape, g.output, by have := g.size; simpa [World.setCell] using this, fun k hk => ?_⟩
    have := h.lo
    have hKs := lt_of_block h.cell
    rw [Below.heap_setCell _ _ _ _ (fun e => by have e' : k = K := e; omega)]
    exact g.block k (by omega) (fun e => by have := (own_cells h.tx e.symm).1; omega)
theorem BookV.put1 (h : BookV K B tv cv tl cl ps w) {x v1 : Value} (g : w.grownBy w1 cv.ownBlock) (o : w1.ownsRow B 32 1 v1 (cl.length + 1) (cl ++ [x])) (hat : v1.ownBlock = cv.ownBlock ∨ v1.ownBlock = some w.heap.size) :
    BookV K B tv v1 tl (cl ++ [x]) ps (w1.setCell ⟨K, 1, none⟩ v1) ∧ Below B w (w1.setCell ⟨K, 1, none⟩ v1) := by
  have nK : some K ≠ cv.ownBlock := own_ne h.cx h.cell (by decide)
  have cK : w1.heap[K]? = some (bookO tv cv) := (g.block K (lt_of_block h.cell) nK).trans h.cell
  have nK1 : some K ≠ v1.ownBlock := own_ne o cK (by decide)
  have far : ∀ k t cs, k < w.heap.size → w.heap[k]? = some (.cells cs t) → t ≠ 31 → some k ≠ cv.ownBlock → (w1.setCell ⟨K, 1, none⟩ v1).heap[k]? = w.heap[k]? := by
    intro k t cs hk hc ht hn
    rw [Below.heap_setCell _ _ _ _ (fun e => ?_)]
    · exact g.block k hk hn
    · have e' : k = K := e
      subst e'
      rw [h.cell] at hc
      simp at hc
      exact ht hc.2.symm
  refine ⟨⟨h.lo, ?_, ?_, ?_, ?_, ?_⟩, ?_⟩
  · rw [heap_setCell_same cK]; simp
  · refine own_same h.tx fun k e => ?_
    obtain ⟨_, cs, hc⟩ := own_cells h.tx e
    exact far k _ cs (lt_of_block hc) hc (by decide) (fun e' => h.ap k e e'.symm)
  · rw [List.length_append]
    exact ownsRow_setCell_other o (fun e => nK1 e.symm) _
  · intro k e e'
    obtain ⟨_, cs, hc⟩ := own_cells h.tx e
    rcases hat with hat | hat
    · exact h.ap k e (hat ▸ e')
    · rw [hat] at e'
      have := lt_of_block hc
      simp at e'
      omega
  · refine h.rows.keep fun k cs hc => far k _ cs (lt_of_block hc) hc (by decide) ?_
    exact own_ne h.cx hc (by decide)
  · refine ⟨g.os, g.tape, g.output, by have := g.size; simpa [World.setCell] using this, fun k hk => ?_⟩
    have := h.lo
    have hKs := lt_of_block h.cell
    rw [Below.heap_setCell _ _ _ _ (fun e => by have e' : k = K := e; omega)]
    exact g.block k (by omega) (fun e => by have := (own_cells h.cx e.symm).1; omega)
theorem BookV.copied (h : BookV K B tv cv tl cl ps w) {c : Value} {l : List ByteArray} (b : Below w.heap.size w w1) (o : w1.ownsRow w.heap.size 9 1 c l.length (vals l)) : BookV K B tv cv tl cl ((c, l) :: ps) w1 ∧ Below B w w1 := by
  have h' := h.below b
  have hB : B ≤ w.heap.size := Nat.le_trans h.lo (Nat.le_of_lt (lt_of_block h.cell))
  exact ⟨⟨h'.lo, h'.cell, h'.tx, h'.cx, h'.ap, h.rows.add b o hB⟩, b.mono hB⟩
theorem BookV.drew (h : BookV K B tv cv tl cl ps w) : BookV K B tv cv tl cl ps w.drew := h.below ⟨rfl, rfl, rfl, Nat.le_refl _, fun _ _ => rfl⟩
theorem BookV.alloc (h : BookV K B tv cv tl cl ps w) (o : Obj) : BookV K B tv cv tl cl ps (w.alloc o) := h.below (below_alloc w o)
theorem BookV.bsz (h : BookV K B tv cv tl cl ps w) : B ≤ w.heap.size := Nat.le_trans h.lo (Nat.le_of_lt (lt_of_block h.cell))
theorem BookV.cell0 (h : BookV K B tv cv tl cl ps w) : w.cell? ⟨K, 0, none⟩ = some tv := by simp [World.cell?, h.cell]
theorem BookV.cell1 (h : BookV K B tv cv tl cl ps w) : w.cell? ⟨K, 1, none⟩ = some cv := by simp [World.cell?, h.cell]
theorem BookV.grown0 (h : BookV K B tv cv tl cl ps w) (g : w.grownBy w1 tv.ownBlock) : w1.cell? ⟨K, 0, none⟩ = some tv ∧ w1.frozen? ⟨K, 0, none⟩ = false := by
  have := (g.block K (lt_of_block h.cell) (own_ne h.tx h.cell (by decide))).trans h.cell
  exact ⟨by simp [World.cell?, this], by simp [World.frozen?, this]⟩
theorem BookV.grown1 (h : BookV K B tv cv tl cl ps w) (g : w.grownBy w1 cv.ownBlock) : w1.cell? ⟨K, 1, none⟩ = some cv ∧ w1.frozen? ⟨K, 1, none⟩ = false := by
  have := (g.block K (lt_of_block h.cell) (own_ne h.cx h.cell (by decide))).trans h.cell
  exact ⟨by simp [World.cell?, this], by simp [World.frozen?, this]⟩
end

/-- A program's box stays. -/
def Far (w w' : World) : Prop := ∀ (k : Nat) (cs : Array Value), w.heap[k]? = some (.cells cs 38) → w'.heap[k]? = some (.cells cs 38)
theorem Far.trans {w w1 w2 : World} (h : Far w w1) (h' : Far w1 w2) : Far w w2 := fun k cs hc => h' k cs (h k cs hc)
theorem far_below {w w1 : World} (hb : Below w.heap.size w w1) : Far w w1 := fun k _ hc => (hb.block k (lt_of_block hc)).trans hc
theorem BookV.far0 {K B : Nat} {tv cv : Value} {tl cl : List Value} {ps : List Row} {w w1 : World} (h : BookV K B tv cv tl cl ps w) (g : w.grownBy w1 tv.ownBlock) (v1 : Value) : Far w (w1.setCell ⟨K, 0, none⟩ v1) := fun k cs hc => by
  rw [Below.heap_setCell _ _ _ _ (fun e => ?_)]
  · exact (g.block k (lt_of_block hc) (own_ne h.tx hc (by decide))).trans hc
  · have e' : k = K := e
    subst e'
    have := h.cell.symm.trans hc
    simp at this
theorem BookV.far1 {K B : Nat} {tv cv : Value} {tl cl : List Value} {ps : List Row} {w w1 : World} (h : BookV K B tv cv tl cl ps w) (g : w.grownBy w1 cv.ownBlock) (v1 : Value) : Far w (w1.setCell ⟨K, 1, none⟩ v1) := fun k cs hc => by
  rw [Below.heap_setCell _ _ _ _ (fun e => ?_)]
  · exact (g.block k (lt_of_block hc) (own_ne h.cx hc (by decide))).trans hc
  · have e' : k = K := e
    subst e'
    have := h.cell.symm.trans hc
    simp at this
theorem slice_txs {w : World} {B : Nat} {l : List ByteArray} {v : Value} (h : w.ownsRow B 9 1 v l.length (vals l)) : Txs w v l ∧ ∀ n c, v = .slice none n c → c = 0 := by
  refine ⟨txs_of h, fun n c e => ?_⟩
  rcases h.2 with ⟨rfl, _⟩ | ⟨g, cap, cur, rfl, _⟩
  · cases e; rfl
  · cases e

set_option maxRecDepth 100000 in
theorem texts_any (K B : Nat) (tv cv lv : Value) (tl cl : List Value) (l : List ByteArray) (ps : List Row) (ht : tl.length < 200) (hc : cl.length < 200) (hl : l.length ≤ 1000000) (w : World) (hV : BookV K B tv cv tl cl ((lv, l) :: ps) w) :
    Calls Tryz.prog 8 #[.pointer (some ⟨K, 0, none⟩), lv] w fun e w' => e = .returned (.tuple #[]) ∧ ∃ tv' cv' c, BookV K B tv' cv' (tl ++ [lv]) (cl ++ [c]) ((c, l) :: (lv, l) :: ps) w' ∧ Below B w w' ∧ Far w w' := by
  obtain ⟨ta, tc, rfl⟩ := row_sl hV.tx
  obtain ⟨co, cc, rfl⟩ := row_sl hV.cx
  obtain ⟨hT, hz⟩ : Txs w lv l ∧ ∀ n c, lv = .slice none n c → c = 0 := slice_txs (hV.rows.own _ (List.mem_cons_self ..))
  obtain ⟨lo, lc, rfl⟩ := hT.slice
  have k0 : w.cell? ⟨K, 0, none⟩ = some (.slice ta tl.length tc) := by simp [World.cell?, hV.cell]
  have f0 : w.frozen? ⟨K, 0, none⟩ = false := by simp [World.frozen?, hV.cell]
  have kz := lt_of_block hV.cell
  have kB := hV.lo
  have hnn : (tl.length : Int) < 250 := by omega
  go_enter Tryz.func8, Tryz.ntmps8
  have HV := Lib.hid hV
  have HT := Lib.hid (And.intro hT hz)
  clear hV hT hz
  have ba := below_alloc w (.cells #[.slice lo l.length lc] 32)
  have VA := Lib.hid (And.intro (HV.out.below ba) ba)
  have bn := new_block w (.cells #[.slice lo l.length lc] 32)
  clear ba
  go_wp2_with (first
    | (at_builtin; go_loud (refine wpList_append_lst rfl _ _ rfl B (.slice ta tl.length tc) tl.length tl rfl VA.out.1.tx w.heap.size lo l.length lc rfl bn (by omega) ?c4 ?_))
    | fail)
  case c4 => simp; omega
  intro v1 w1 o1 g1 at1
  obtain ⟨V1, b1⟩ := VA.out.1.put0 g1 o1 (at1.imp id fun e => by rw [e]; simp)
  obtain ⟨q1, f1⟩ := VA.out.1.grown0 g1
  have F1 := (far_below VA.out.2).trans (VA.out.1.far0 g1 v1)
  obtain ⟨va, vc, rfl⟩ := row_sl o1
  have H1 := Lib.hid (And.intro V1 (And.intro ((VA.out.2.mono (by omega : B ≤ w.heap.size)).trans b1) F1))
  clear o1 g1 at1 V1 b1 F1
  go_wp2_with fail
  generalize w1.setCell ⟨K, 0, none⟩ (.slice va (tl.length + 1) vc) = w2 at *
  have hm : Tryz.prog.follows .mixedOrders = true := by kernel_rfl
  obtain ⟨i0, hi0, hz0, hs0, hb0⟩ := info_parts info_l
  have HI := Lib.hid hi0; clear hi0
  have H2 := Lib.hid (And.intro H1.out.1.drew (And.intro (H1.out.2.1.trans (c := w2.drew) ⟨rfl, rfl, rfl, Nat.le_refl _, fun _ _ => rfl⟩) (H1.out.2.2.trans (w2 := w2.drew) fun _ _ h => h)))
  have q2 := H2.out.1.cell1
  have HT1 := Lib.hid (slice_txs (H2.out.1.rows.own (.slice lo l.length lc, l) (List.mem_cons_self ..)))
  have HC := Lib.hid (copyTexts_any l hl (.slice lo l.length lc) w2.drew HT1.out.1 HT1.out.2)
  have hl1 : cl.length + 1 ≤ maxLen := by unfold maxLen; omega
  have hl2 : (cl.length + 1) * 24 ≤ 140737488355328 := by omega
  go_region_law (first | (go_simp; go_at_call 17; refine HC.out.mono ?_; rintro e w3 ⟨c, rfl, oc, b3⟩; obtain ⟨V3, b3'⟩ := H2.out.1.copied b3 oc; obtain ⟨po, pc, rfl⟩ := row_sl oc; have q3 := V3.cell1; have V4 := V3.alloc (.cells #[.slice po l.length pc] 32); have q4 := V4.cell1) | ((refine step_append_lies _ (by rfl) _ _ _ (by rfl) B 32 i0 (.slice none 0 0) 1 24 Tryz.underlying24 HI.out hz0 hs0 hb0 rfl (by decide) (.slice co cl.length cc) _ _ (by rfl) V4.cx ⟨w3.heap.size, 0, none⟩ 1 1 [.slice po l.length pc] (by rfl) (by rfl) (World.news_of_block (cs := #[.slice po l.length pc]) (t := 32) (fr := (0, 0)) (heap_alloc_new w3 _)) (by simp [Value.oneCell']) (by decide) hl1 hl2 V4.bsz (w3.heap.size + 1) (by simp) ?_; intro g cap w5 hown hgr hat hlt; obtain ⟨q5, f5⟩ := V4.grown1 hgr; have F5 := V4.far1 hgr; obtain ⟨V5, b5⟩ := V4.put1 hgr hown (hat.elim (fun e => Or.inl e.symm) (fun e => Or.inr (by rw [e]; simp [Value.ownBlock]))))))
  all_goals
    refine bodyPost_end (results_none rfl _ _ _) rfl ⟨rfl, _, _, _, V5, ?_, ?_⟩
    · exact ((H2.out.2.1.trans b3').trans ((below_alloc w3 _).mono V3.bsz)).trans b5
    · exact ((H2.out.2.2.trans (far_below b3)).trans (far_below (below_alloc w3 _))).trans (F5 _)
end Go.Proofs.YtidjnfjpdnjogaaGreatDoor
