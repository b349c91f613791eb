/-
  view.BackwardBy, by the position: the page. Conditions: none.
-/
import Derived.Test.YtimmdcajadddmaaView2
import Derived.Test.YtimmdcajadddmaaRound
import Derived.Deep.RegionHeld3
import Derived.Deep.AppendLies
namespace Go.Proofs.Ytimmdcajadddmaa
open Go.RowKit Go.Lib Go.Shelf
attribute [local go_sem] Oper.semAt_some

/-- What stands on the right side of the place. -/
def taken (fr : Int) (E : Nat → Ev) (pre : List Nat) : List Nat := pre.filter fun x => decide ((E x).position ≤ fr)
def nextB (fr : Int) (E : Nat → Ev) (l : List Nat) : Int := match l.getLast? with
  | none => fr
  | some x => max (E x).position 0 - 1
def evCells (E : Nat → Ev) (l : List Nat) : List Value := (l.map fun x => (E x).cells.toList).flatten

/-- Between two rounds. -/
structure BkI (w : World) (fr n : Int) (E : Nat → Ev) (pre : List Nat) (v : Value) (W : World) : Prop where
  key : W.heap[w.heap.size]? = some (.cells #[.func (.func 20) #[] #[]] 54)
  frm : W.heap[w.heap.size + 1]? = some (.cells #[.int .i64 fr] 3)
  cnt : W.heap[w.heap.size + 2]? = some (.cells #[.int .i64 n] 3)
  res : W.heap[w.heap.size + 3]? = some (.cells #[.slice none 0 0, .int .i64 0, .bool false] 31)
  err : W.heap[w.heap.size + 4]? = some (.cells #[.int .i64 0] 32)
  pag : W.heap[w.heap.size + 5]? = some (.cells #[v, .int .i64 (nextB fr E (taken fr E pre)), .bool true] 31)
  own : W.ownsRow (w.heap.size + 7) 29 8 v (taken fr E pre).length (evCells E (taken fr E pre))
  few : ((taken fr E pre).length : Int) ≤ n
  size : w.heap.size + 7 ≤ W.heap.size
  below : Below w.heap.size w W

theorem keep_cells {A B : World} {row : Option Nat} (hg : A.grownBy B row) {Bd : Nat} (hr : ∀ r, row = some r → Bd ≤ r ∧ ∃ o : Obj, A.heap[r]? = some o ∧ o.isCells = false) {k : Nat} {c : Array Value} {t : TypeId} (h : A.heap[k]? = some (.cells c t)) : B.heap[k]? = some (.cells c t) :=
  (grownBy_keeps_cells hg (fun r e => (hr r e).2) h rfl).trans h

theorem keep_row {A B : World} {row : Option Nat} (hg : A.grownBy B row) {Bd : Nat} (hr : ∀ r, row = some r → Bd ≤ r ∧ ∃ o : Obj, A.heap[r]? = some o ∧ o.isCells = false) {base e size n : Nat} {v : Value} {xs : List Value} (h : A.ownsRow base e size v n xs) : B.ownsRow base e size v n xs :=
  own_same h fun g hgb => by
    rcases h.2 with ⟨rfl, _⟩ | ⟨g', cap, cur, rfl, _, hg', _⟩
    · simp [Value.ownBlock] at hgb
    · simp only [Value.ownBlock, Option.some.injEq] at hgb
      subst hgb
      exact grownBy_keeps_cells hg (fun r e => (hr r e).2) hg' rfl

theorem bkI_own (w : World) (fr n : Int) (E : Nat → Ev) {Bd : Nat} (hB : w.heap.size ≤ Bd) : OwnFrom Bd (fun pre W => ∃ v, BkI w fr n E pre v W) := fun _ _ _ _ ⟨v, h⟩ hg hr =>
  ⟨v, keep_cells hg hr h.key, keep_cells hg hr h.frm, keep_cells hg hr h.cnt, keep_cells hg hr h.res, keep_cells hg hr h.err, keep_cells hg hr h.pag, keep_row hg hr h.own, h.few, Nat.le_trans h.size hg.size, h.below.grown hg h.below.size (fun k e => Nat.le_trans hB (hr k e).1)⟩

theorem BkI.alloc {w : World} {fr n : Int} {E : Nat → Ev} {pre : List Nat} {v : Value} {W : World} (h : BkI w fr n E pre v W) (o : Obj) : BkI w fr n E pre v (W.alloc o) := by
  have hz := h.size
  exact ⟨(Below.heap_alloc W o _ (by omega)).trans h.key, (Below.heap_alloc W o _ (by omega)).trans h.frm, (Below.heap_alloc W o _ (by omega)).trans h.cnt, (Below.heap_alloc W o _ (by omega)).trans h.res, (Below.heap_alloc W o _ (by omega)).trans h.err, (Below.heap_alloc W o _ (by omega)).trans h.pag,
    h.own.alloc o, h.few, by simp; omega, h.below.alloc h.below.size o⟩
/-- A round has left the loop: the page is full. -/
structure BkX (w : World) (fr n : Int) (E : Nat → Ev) (pre : List Nat) (v : Value) (W : World) : Prop where
  res : W.heap[w.heap.size + 3]? = some (.cells #[v, .int .i64 (nextB fr E (taken fr E pre.dropLast)), .bool false] 31)
  err : W.heap[w.heap.size + 4]? = some (.cells #[.int .i64 0] 32)
  own : W.ownsRow (w.heap.size + 7) 29 8 v (taken fr E pre.dropLast).length (evCells E (taken fr E pre.dropLast))
  full : ((taken fr E pre.dropLast).length : Int) = n
  last : ∃ x, pre.getLast? = some x ∧ (E x).position ≤ fr
  below : Below w.heap.size w W
theorem bkX_own (w : World) (fr n : Int) (E : Nat → Ev) {Bd : Nat} (hB : w.heap.size ≤ Bd) (c : Code) : OwnFrom Bd (fun pre W => c = .ret ∧ ∃ v, BkX w fr n E pre v W) := fun _ _ _ _ ⟨hc, v, h⟩ hg hr =>
  ⟨hc, v, keep_cells hg hr h.res, keep_cells hg hr h.err, keep_row hg hr h.own, h.full, h.last, h.below.grown hg h.below.size (fun k e => Nat.le_trans hB (hr k e).1)⟩

/-- The loop's variable lies in a block of its own, none of the page's. -/
structure BkA (w : World) (e : Ev) (Bx : Nat) (W : World) : Prop where
  bx : W.heap[Bx]? = some (.cells e.cells 29)
  far : w.heap.size + 7 ≤ Bx
  pag : ∃ v c, W.heap[w.heap.size + 5]? = some (.cells c 31) ∧ c[0]? = some v ∧ v.ownBlock ≠ some Bx
theorem bkA_own (w : World) (e : Ev) (Bx : Nat) {Bd : Nat} : OwnFrom Bd (fun (_ : Unit) W => BkA w e Bx W) := fun _ _ _ _ h hg hr => by
  obtain ⟨v, c, h1, h2, h3⟩ := h.pag
  exact ⟨keep_cells hg hr h.bx, h.far, v, c, keep_cells hg hr h1, h2, h3⟩

/-- The frame of a round, behind the assignment. -/
def bkAct (ao : Option Addr) (len cap B : Nat) (fr n : Int) (x Bx : Nat) (e : Ev) : Act :=
  { tmps := #[.func (.func 20) #[] #[], .slice ao len cap, .int .i64 fr, .int .i64 n, .pointer (some ⟨B, 0, none⟩), undef, .pointer (some ⟨B + 1, 0, none⟩), .pointer (some ⟨B + 1 + 1, 0, none⟩), .pointer (some ⟨B + 1 + 1 + 1, 0, none⟩), .pointer (some ⟨B + 1 + 1 + 1 + 1, 0, none⟩), .pointer (some ⟨B + 1 + 1 + 1 + 1 + 1, 0, none⟩), undef, .pointer (some ⟨Bx, 0, none⟩),
      .int .i64 fr, .int .i64 n, .bool false, undef, .int .i64 fr, .agg #[.slice none 0 0, .int .i64 fr, .bool true], .slice ao len cap, .func (.func 33) #[] #[.pointer (some ⟨B + 1 + 1 + 1 + 1 + 1 + 1, 0, none⟩)], .int .i64 (x : Int), e.val,
      undef, undef, undef, undef, undef, undef, undef, undef, undef, undef, undef, undef, undef, undef, undef, undef, undef, undef, undef, undef, undef, undef, undef, undef, undef, undef, undef], defers := [] }

theorem heap_alloc_if (w : World) (o : Obj) (k : Nat) : (w.alloc o).heap[k]? = if k = w.heap.size then some o else w.heap[k]? := by
  show (w.heap.push o)[k]? = _
  rw [Array.getElem?_push]
theorem size_alloc_one (w : World) (o : Obj) : (w.alloc o).heap.size = w.heap.size + 1 := by simp

theorem list_cells {l : List Value} {w : World} {b : Nat} {t : TypeId} (h : w.heap[b]? = some (.cells l.toArray t)) (i : Nat) (v : Value) (hv : l[i]? = some v) : w.cell? ⟨b, i, none⟩ = some v := by
  simp [World.cell?, h, hv]

/-- The cells that the two drawn regions of a round read. -/
def RdS (w : World) (fr : Int) (e : Ev) (Bx : Nat) (w' : World) : Prop :=
  w'.cell? ⟨w.heap.size, 0, none⟩ = some (.func (.func 20) #[] #[]) ∧ w'.cell? ⟨w.heap.size + 1, 0, none⟩ = some (.int .i64 fr) ∧ w'.cell? ⟨Bx, 0, none⟩ = some (.int .i64 e.id) ∧ w'.cell? ⟨Bx, 1, none⟩ = some (.string e.ty) ∧ w'.cell? ⟨Bx, 2, none⟩ = some (.string e.data) ∧ w'.cell? ⟨Bx, 3, none⟩ = some (.float .f64 e.value)
      ∧ w'.cell? ⟨Bx, 4, none⟩ = some (.string e.stream) ∧ w'.cell? ⟨Bx, 5, none⟩ = some (.int .i64 e.version) ∧ w'.cell? ⟨Bx, 6, none⟩ = some (.int .i64 e.position) ∧ w'.cell? ⟨Bx, 7, none⟩ = some (.int .i64 e.time)

theorem RdS.grow {w : World} {fr : Int} {e : Ev} {Bx : Nat} {A A' : World} (h : RdS w fr e Bx A) (hz : w.heap.size + 7 ≤ A.heap.size) (hx : Bx < A.heap.size) (hb : Below A.heap.size A A') : RdS w fr e Bx A' := by
  obtain ⟨s0, s1, s2, s3, s4, s5, s6, s7, s8, s9⟩ := h
  have c : ∀ (p : Addr) v, p.block < A.heap.size → A.cell? p = some v → A'.cell? p = some v := fun p v hp hv => (hb.cell hp).trans hv
  exact ⟨c _ _ (by show w.heap.size < _; omega) s0, c _ _ (by show w.heap.size + 1 < _; omega) s1, c _ _ hx s2, c _ _ hx s3, c _ _ hx s4, c _ _ hx s5, c _ _ hx s6, c _ _ hx s7, c _ _ hx s8, c _ _ hx s9⟩

theorem RdS.of {w : World} {fr n : Int} {E : Nat → Ev} {pre : List Nat} {v : Value} {W : World} (h : BkI w fr n E pre v W) {e : Ev} {Bx : Nat} (hx : BkA w e Bx W) : RdS w fr e Bx W := by
  refine ⟨?_, ?_, ?_, ?_, ?_, ?_, ?_, ?_, ?_, ?_⟩
  · simp [World.cell?, h.key]
  · simp [World.cell?, h.frm]
  all_goals simp [World.cell?, hx.bx, Ev.cells]
theorem RdS.keep {w : World} {fr : Int} {e : Ev} {Bx : Nat} {A A' : World} (h : RdS w fr e Bx A) (h0 : A'.heap[w.heap.size]? = A.heap[w.heap.size]?) (h1 : A'.heap[w.heap.size + 1]? = A.heap[w.heap.size + 1]?) (hx : A'.heap[Bx]? = A.heap[Bx]?) : RdS w fr e Bx A' := by
  obtain ⟨s0, s1, s2, s3, s4, s5, s6, s7, s8, s9⟩ := h
  exact ⟨(World.cell?_of_block h0).trans s0, (World.cell?_of_block h1).trans s1, (World.cell?_of_block hx).trans s2, (World.cell?_of_block hx).trans s3, (World.cell?_of_block hx).trans s4, (World.cell?_of_block hx).trans s5, (World.cell?_of_block hx).trans s6, (World.cell?_of_block hx).trans s7, (World.cell?_of_block hx).trans s8, (World.cell?_of_block hx).trans s9⟩
theorem info29 : (Try.prog.info? 29).map (fun i => (i.zero, i.size, i.bytes)) = some (some (.agg #[.int .i64 0, .string ⟨#[]⟩, .string ⟨#[]⟩, .float .f64 0, .string ⟨#[]⟩, .int .i64 0, .int .i64 0, .int .i64 0]), 8, 88) := by kernel_rfl

theorem row_pre {w : World} {fr n : Int} {E : Nat → Ev} {pre : List Nat} {v : Value} {W : World} (e : Ev) (h : BkI w fr n E pre v W) {c : Nat} (hc : (taken fr E pre).length = c) :
    ((W.alloc (.cells e.cells 29)).drew).ownsRow (w.heap.size + 7) 29 8 v c (evCells E (taken fr E pre)) ∧
    (∀ j u, e.cells.toList[j]? = some u → ((W.alloc (.cells e.cells 29)).drew).cell? ((⟨W.heap.size, 0, none⟩ : Addr).add j) = some u) ∧ (∀ u ∈ e.cells.toList, u.oneCell' = true) ∧ w.heap.size + 7 ≤ ((W.alloc (.cells e.cells 29)).drew).heap.size := by
  subst hc
  refine ⟨own_same (h.own.alloc _) (fun _ _ => rfl), fun j u hu => ?_, ?_, ?_⟩
  · have hb := new_block W (.cells e.cells 29)
    have ha : ((⟨W.heap.size, 0, none⟩ : Addr).add j) = ⟨W.heap.size, j, none⟩ := by unfold Addr.add; split <;> simp_all
    rw [ha]
    show (W.alloc (.cells e.cells 29)).cell? ⟨W.heap.size, j, none⟩ = _
    unfold World.cell?
    rw [hb]
    simpa using hu
  · unfold Ev.cells
    simp [Value.oneCell']
  · have := h.size
    show _ ≤ (W.alloc _).heap.size
    simp; omega

theorem grown_kept {w : World} {fr n : Int} {E : Nat → Ev} {pre : List Nat} {vo : Option Addr} {c vc : Nat} {W : World} (h : BkI w fr n E pre (.slice vo c vc) W) {e : Ev} {Bx : Nat} (hx : BkA w e Bx W) {g cg m : Nat} {w4 : World} {xs : List Value}
    (hown4 : w4.ownsRow (w.heap.size + 7) 29 8 (.slice (some ⟨g, 0, none⟩) m cg) m xs) (hgr : ((W.alloc (.cells e.cells 29)).drew).grownBy w4 (Value.slice vo c vc).ownBlock) (hg : (Value.slice vo c vc).ownBlock = some g ∨ g = W.heap.size + 1) :
    w.heap.size + 7 ≤ w4.heap.size ∧ w4.heap[w.heap.size]? = W.heap[w.heap.size]? ∧ w4.heap[w.heap.size + 1]? = W.heap[w.heap.size + 1]? ∧ w4.heap[Bx]? = W.heap[Bx]? ∧ Bx < w4.heap.size ∧ (∀ k, k < w.heap.size + 7 → w4.heap[k]? = W.heap[k]?) ∧ Below w.heap.size W w4 ∧ Bx ≠ g ∧ KeepsOthers W w4 := by
  have hz := h.size
  have hbx := lt_of_block hx.bx
  have hsz : W.heap.size + 1 ≤ w4.heap.size := by
    have h1 := hgr.size
    have h2 : ((W.alloc (.cells e.cells 29)).drew).heap.size = W.heap.size + 1 := by show (W.alloc _).heap.size = _; simp
    omega
  have hlow : ∀ k, (Value.slice vo c vc).ownBlock = some k → w.heap.size + 7 ≤ k := fun k hk => (h.own.lt k hk).1
  have hk : ∀ k, k < W.heap.size → some k ≠ (Value.slice vo c vc).ownBlock → w4.heap[k]? = W.heap[k]? := fun k hk hne =>
    (hgr.block k (by show k < (W.alloc _).heap.size; simp; omega) hne).trans (Below.heap_alloc W _ k hk)
  obtain ⟨v', c', q1, q2, q3⟩ := hx.pag
  have hv : v' = .slice vo c vc := by
    rw [h.pag] at q1
    obtain ⟨rfl, _⟩ : _ = c' ∧ True := ⟨by simpa using q1, trivial⟩
    simpa using q2.symm
  subst hv
  have hB : ∀ k, k < w.heap.size + 7 → w4.heap[k]? = W.heap[k]? := fun k hk' => hk k (by omega) (fun e => by have := hlow k e.symm; omega)
  refine ⟨by omega, hB _ (by omega), hB _ (by omega), hk Bx hbx (fun e => q3 e.symm), by omega, hB, ?_, ?_, ?_⟩
  · exact ⟨hgr.os, hgr.tape, hgr.output, by omega, fun k hk' => hB k (by omega)⟩
  · rintro rfl
    rcases hg with hg | hg
    · exact q3 hg
    · omega
  · refine ((KeepsOthers.alloc W _).trans (KeepsOthers.drew _)).trans (KeepsOthers.of_grownBy hgr (fun j o hj ho => ?_))
    have hlt := (h.own.lt j hj).2
    have e : W.heap[j]? = some o := (Below.heap_alloc W (.cells e.cells 29) j hlt).symm.trans ho
    rcases h.own.2 with ⟨hn, _⟩ | ⟨g', cap, cur, hn, _, hg', _⟩
    · rw [hn] at hj; simp [Value.ownBlock] at hj
    · rw [hn] at hj
      simp only [Value.ownBlock, Option.some.injEq] at hj
      subst hj
      rw [hg'] at e
      cases e; rfl

theorem taken_skip {fr : Int} {E : Nat → Ev} {pre : List Nat} {x : Nat} (h : fr < (E x).position) : taken fr E (pre ++ [x]) = taken fr E pre := by
  unfold taken
  rw [List.filter_append]
  simp
  omega
theorem taken_take {fr : Int} {E : Nat → Ev} {pre : List Nat} {x : Nat} (h : ¬ fr < (E x).position) : taken fr E (pre ++ [x]) = taken fr E pre ++ [x] := by
  unfold taken
  rw [List.filter_append]
  simp
  omega
theorem BkI.below' {w : World} {fr n : Int} {E : Nat → Ev} {pre : List Nat} {v : Value} {W W' : World} (h : BkI w fr n E pre v W) (hb : Below W.heap.size W W') : BkI w fr n E pre v W' := by
  have hz := h.size
  have hz2 := hb.size
  exact ⟨(hb.block _ (by omega)).trans h.key, (hb.block _ (by omega)).trans h.frm, (hb.block _ (by omega)).trans h.cnt, (hb.block _ (by omega)).trans h.res, (hb.block _ (by omega)).trans h.err, (hb.block _ (by omega)).trans h.pag,
    own_same h.own (fun g hg => hb.block g (h.own.lt g hg).2), h.few, by omega, h.below.trans (hb.mono (by omega))⟩
theorem BkI.skip {w : World} {fr n : Int} {E : Nat → Ev} {pre : List Nat} {v : Value} {W : World} (h : BkI w fr n E pre v W) {x : Nat} (hx : fr < (E x).position) : BkI w fr n E (pre ++ [x]) v W := by
  have e := taken_skip (E := E) (pre := pre) hx
  exact ⟨h.key, h.frm, h.cnt, h.res, h.err, by rw [e]; exact h.pag, by rw [e]; exact h.own, by rw [e]; exact h.few, h.size, h.below⟩
theorem row_slice {w : World} {base n : Nat} {v : Value} {xs : List Value} (h : w.ownsRow base 29 8 v n xs) : ∃ ao cap, v = .slice ao n cap := by
  rcases h.2 with ⟨rfl, rfl⟩ | ⟨g, cap, cur, rfl, _⟩
  · exact ⟨none, 0, rfl⟩
  · exact ⟨_, cap, rfl⟩
theorem BkA.below' {w : World} {e : Ev} {Bx : Nat} {W W' : World} (h : BkA w e Bx W) (hz : w.heap.size + 7 ≤ W.heap.size) (hb : Below W.heap.size W W') : BkA w e Bx W' := by
  obtain ⟨v, c, h1, h2, h3⟩ := h.pag
  exact ⟨(hb.block _ (lt_of_block h.bx)).trans h.bx, h.far, v, c, (hb.block _ (by omega)).trans h1, h2, h3⟩

/-- The world behind a full page. -/
abbrev fullW (w W : World) (v : Value) (nx : Int) : World :=
  ((((W.setCell ⟨w.heap.size + 1 + 1 + 1 + 1 + 1, 2, none⟩ (.bool false)).setCell ⟨w.heap.size + 1 + 1 + 1, 0, none⟩ v).setCell ⟨w.heap.size + 1 + 1 + 1, 1, none⟩ (.int .i64 nx)).setCell ⟨w.heap.size + 1 + 1 + 1, 2, none⟩ (.bool false)).setCell ⟨w.heap.size + 1 + 1 + 1 + 1, 0, none⟩ (.int .i64 0)
theorem full_other (w W : World) (v : Value) (nx : Int) (k : Nat) (h : k < w.heap.size + 3 ∨ w.heap.size + 5 < k) : (fullW w W v nx).heap[k]? = W.heap[k]? := by
  unfold fullW
  rw [Below.heap_setCell _ _ _ _ (by show k ≠ w.heap.size + 1 + 1 + 1 + 1; omega), Below.heap_setCell _ _ _ _ (by show k ≠ w.heap.size + 1 + 1 + 1; omega), Below.heap_setCell _ _ _ _ (by show k ≠ w.heap.size + 1 + 1 + 1; omega),
    Below.heap_setCell _ _ _ _ (by show k ≠ w.heap.size + 1 + 1 + 1; omega), Below.heap_setCell _ _ _ _ (by show k ≠ w.heap.size + 1 + 1 + 1 + 1 + 1; omega)]
theorem BkI.full {w : World} {fr n : Int} {E : Nat → Ev} {pre : List Nat} {v : Value} {W : World} (h : BkI w fr n E pre v W) {x : Nat} (hx : ¬ fr < (E x).position) (hn : ((taken fr E pre).length : Int) = n) :
    BkX w fr n E (pre ++ [x]) v (fullW w W v (nextB fr E (taken fr E pre))) := by
  have hz := h.size
  refine ⟨?_, ?_, ?_, ?_, ⟨x, by simp, by omega⟩, ?_⟩
  · rw [List.dropLast_concat]
    unfold fullW
    have e1 := Below.heap_setCell W ⟨w.heap.size + 1 + 1 + 1 + 1 + 1, 2, none⟩ (.bool false) (w.heap.size + 1 + 1 + 1) (by show _ ≠ w.heap.size + 1 + 1 + 1 + 1 + 1; omega)
    have e2 := heap_setCell_same (e1.trans h.res) (off := 0) v
    have e3 := heap_setCell_same e2 (off := 1) (.int .i64 (nextB fr E (taken fr E pre)))
    have e4 := heap_setCell_same e3 (off := 2) (.bool false)
    exact (Below.heap_setCell _ _ _ _ (by show _ ≠ w.heap.size + 1 + 1 + 1 + 1; omega)).trans e4
  · unfold fullW
    have e1 := Below.heap_setCell W ⟨w.heap.size + 1 + 1 + 1 + 1 + 1, 2, none⟩ (.bool false) (w.heap.size + 1 + 1 + 1 + 1) (by show _ ≠ w.heap.size + 1 + 1 + 1 + 1 + 1; omega)
    have e2 := (Below.heap_setCell (W.setCell ⟨w.heap.size + 1 + 1 + 1 + 1 + 1, 2, none⟩ (.bool false)) ⟨w.heap.size + 1 + 1 + 1, 0, none⟩ v (w.heap.size + 1 + 1 + 1 + 1) (by show _ ≠ w.heap.size + 1 + 1 + 1; omega)).trans (e1.trans h.err)
    have e3 := (Below.heap_setCell _ ⟨w.heap.size + 1 + 1 + 1, 1, none⟩ (.int .i64 (nextB fr E (taken fr E pre))) (w.heap.size + 1 + 1 + 1 + 1) (by show _ ≠ w.heap.size + 1 + 1 + 1; omega)).trans e2
    have e4 := (Below.heap_setCell _ ⟨w.heap.size + 1 + 1 + 1, 2, none⟩ (.bool false) (w.heap.size + 1 + 1 + 1 + 1) (by show _ ≠ w.heap.size + 1 + 1 + 1; omega)).trans e3
    exact heap_setCell_same e4 (off := 0) (.int .i64 0)
  · rw [List.dropLast_concat]
    exact own_same h.own (fun g hg => full_other _ _ _ _ _ (Or.inr (by have := (h.own.lt g hg).1; omega)))
  · rw [List.dropLast_concat]; exact hn
  · exact ((((h.below.setCell (p := ⟨w.heap.size + 1 + 1 + 1 + 1 + 1, 2, none⟩) (by dsimp only; omega) _).setCell (p := ⟨w.heap.size + 1 + 1 + 1, 0, none⟩) (by dsimp only; omega) _).setCell (p := ⟨w.heap.size + 1 + 1 + 1, 1, none⟩) (by dsimp only; omega) _).setCell (p := ⟨w.heap.size + 1 + 1 + 1, 2, none⟩) (by dsimp only; omega) _).setCell (p := ⟨w.heap.size + 1 + 1 + 1 + 1, 0, none⟩) (by dsimp only; omega) _
theorem full_keeps (w W : World) (v : Value) (nx : Int) : KeepsOthers W (fullW w W v nx) :=
  ((((KeepsOthers.setCell _ _ _).trans (KeepsOthers.setCell _ _ _)).trans (KeepsOthers.setCell _ _ _)).trans (KeepsOthers.setCell _ _ _)).trans (KeepsOthers.setCell _ _ _)

theorem evCells_snoc (E : Nat → Ev) (l : List Nat) (x : Nat) : evCells E (l ++ [x]) = evCells E l ++ (E x).cells.toList := by simp [evCells]
theorem nextB_snoc (fr : Int) (E : Nat → Ev) (l : List Nat) (x : Nat) : nextB fr E (l ++ [x]) = max (E x).position 0 - 1 := by simp [nextB]

/-- The page has one more. -/
theorem BkI.grow {w : World} {fr n : Int} {E : Nat → Ev} {pre : List Nat} {vo : Option Addr} {c vc : Nat} {W : World} (h : BkI w fr n E pre (.slice vo c vc) W) {x : Nat} (hx : ¬ fr < (E x).position) (hc : (taken fr E pre).length = c) (hn : ¬ (c : Int) = n) {g cg : Nat} {w4 : World}
    (hB : ∀ k, k < w.heap.size + 7 → w4.heap[k]? = W.heap[k]?) (hz4 : w.heap.size + 7 ≤ w4.heap.size) (hb4 : Below w.heap.size W w4) (hk : KeepsOthers W w4) (hown : w4.ownsRow (w.heap.size + 7) 29 8 (.slice (some ⟨g, 0, none⟩) (c + 1) cg) (c + 1) (evCells E (taken fr E pre) ++ (E x).cells.toList)) (o : Obj) (B Bs : Nat) (hBs : Bs = w.heap.size + 6) :
    BkI w fr n E (pre ++ [x]) (.slice (some ⟨g, 0, none⟩) (c + 1) cg) (((w4.alloc o).setCell ⟨w.heap.size + 1 + 1 + 1 + 1 + 1, 0, none⟩ (.slice (some ⟨g, 0, none⟩) (c + 1) cg)).setCell ⟨w.heap.size + 1 + 1 + 1 + 1 + 1, 1, none⟩ (.int .i64 (max (E x).position 0 - 1))) ∧
    KeepsFrom B W (((w4.alloc o).setCell ⟨w.heap.size + 1 + 1 + 1 + 1 + 1, 0, none⟩ (.slice (some ⟨g, 0, none⟩) (c + 1) cg)).setCell ⟨w.heap.size + 1 + 1 + 1 + 1 + 1, 1, none⟩ (.int .i64 (max (E x).position 0 - 1))) ∧
    KeepB w.heap.size Bs W (((w4.alloc o).setCell ⟨w.heap.size + 1 + 1 + 1 + 1 + 1, 0, none⟩ (.slice (some ⟨g, 0, none⟩) (c + 1) cg)).setCell ⟨w.heap.size + 1 + 1 + 1 + 1 + 1, 1, none⟩ (.int .i64 (max (E x).position 0 - 1))) := by
  obtain ⟨w6, hw6⟩ : ∃ w6, (((w4.alloc o).setCell ⟨w.heap.size + 1 + 1 + 1 + 1 + 1, 0, none⟩ (.slice (some ⟨g, 0, none⟩) (c + 1) cg)).setCell ⟨w.heap.size + 1 + 1 + 1 + 1 + 1, 1, none⟩ (.int .i64 (max (E x).position 0 - 1))) = w6 := ⟨_, rfl⟩
  have hoth : ∀ k, k ≠ w.heap.size + 5 → k < w4.heap.size → w6.heap[k]? = w4.heap[k]? := fun k hk hk2 => by
    rw [← hw6, Below.heap_setCell _ _ _ _ (by show k ≠ w.heap.size + 1 + 1 + 1 + 1 + 1; omega), Below.heap_setCell _ _ _ _ (by show k ≠ w.heap.size + 1 + 1 + 1 + 1 + 1; omega), Below.heap_alloc _ _ _ hk2]
  have hlow : ∀ k, k ≠ w.heap.size + 5 → k < w.heap.size + 7 → w6.heap[k]? = W.heap[k]? := fun k h1 h2 => (hoth k h1 (by omega)).trans (hB k h2)
  have hpag : w6.heap[w.heap.size + 5]? = some (.cells #[.slice (some ⟨g, 0, none⟩) (c + 1) cg, .int .i64 (max (E x).position 0 - 1), .bool true] 31) := by
    have e0 := (Below.heap_alloc w4 o _ (show w.heap.size + 5 < w4.heap.size by omega)).trans ((hB _ (by omega)).trans h.pag)
    have e1 := heap_setCell_same e0 (off := 0) (.slice (some ⟨g, 0, none⟩) (c + 1) cg)
    have e2 := heap_setCell_same e1 (off := 1) (.int .i64 (max (E x).position 0 - 1))
    rw [← hw6]
    exact e2
  have hbw : Below w.heap.size W w6 := by
    rw [← hw6]
    exact ((hb4.alloc (by omega) o).setCell (p := ⟨w.heap.size + 1 + 1 + 1 + 1 + 1, 0, none⟩) (by dsimp only; omega) _).setCell (p := ⟨w.heap.size + 1 + 1 + 1 + 1 + 1, 1, none⟩) (by dsimp only; omega) _
  have hko : KeepsOthers W w6 := by
    rw [← hw6]
    exact ((hk.trans (KeepsOthers.alloc _ _)).trans (KeepsOthers.setCell _ _ _)).trans (KeepsOthers.setCell _ _ _)
  have hown6 : w6.ownsRow (w.heap.size + 7) 29 8 (.slice (some ⟨g, 0, none⟩) (c + 1) cg) (c + 1) (evCells E (taken fr E pre) ++ (E x).cells.toList) :=
    own_same hown (fun k hk => by have := hown.lt k hk; exact hoth k (by omega) this.2)
  have ht := taken_take (fr := fr) (E := E) (pre := pre) hx
  have hlen : (taken fr E (pre ++ [x])).length = c + 1 := by rw [ht, List.length_append, hc]; rfl
  rw [hw6]
  refine ⟨⟨(hlow _ (by omega) (by omega)).trans h.key, (hlow _ (by omega) (by omega)).trans h.frm, (hlow _ (by omega) (by omega)).trans h.cnt, (hlow _ (by omega) (by omega)).trans h.res, (hlow _ (by omega) (by omega)).trans h.err, ?_, ?_, ?_, ?_, h.below.trans hbw⟩, hko.from _, hbw, ?_⟩
  · rw [ht, nextB_snoc]; exact hpag
  · rw [hlen, ht, evCells_snoc]; exact hown6
  · rw [hlen]
    have := h.few
    rw [hc] at this
    omega
  · have h1 : w4.heap.size ≤ w6.heap.size := by
      rw [← hw6]
      simp [World.setCell]
    omega
  · rw [hBs]; exact hlow _ (by omega) (by omega)

theorem bk_cells (w W : World) (D : Nat) (v : Value) (nx : Int) (fin : Bool) (hres : W.heap[w.heap.size + 3]? = some (.cells #[v, .int .i64 nx, .bool fin] 31)) (herr : W.heap[w.heap.size + 4]? = some (.cells #[.int .i64 0] 32)) (hK : W.heap[D]? = some (.deferred (some []))) :
    (W.putObj D (.deferred none)).cell? ⟨w.heap.size + 3, 0, none⟩ = some v ∧ (W.putObj D (.deferred none)).cell? ⟨w.heap.size + 3, 1, none⟩ = some (.int .i64 nx) ∧ (W.putObj D (.deferred none)).cell? ⟨w.heap.size + 3, 2, none⟩ = some (.bool fin) ∧ (W.putObj D (.deferred none)).cell? ⟨w.heap.size + 4, 0, none⟩ = some (.int .i64 0) := by
  have h3 := keep_cells (Bd := 0) (grownBy_putObj' W D (.deferred none)) (fun r e => by cases e; exact ⟨Nat.zero_le _, _, hK, rfl⟩) hres
  have h4 := keep_cells (Bd := 0) (grownBy_putObj' W D (.deferred none)) (fun r e => by cases e; exact ⟨Nat.zero_le _, _, hK, rfl⟩) herr
  refine ⟨?_, ?_, ?_, ?_⟩
  · simp [World.cell?, h3]
  · simp [World.cell?, h3]
  · simp [World.cell?, h3]
  · simp [World.cell?, h4]

/-- What the page tells. -/
def BkPost (w : World) (fr n : Int) (E : Nat → Ev) (len : Nat) (e : Ending) (w' : World) : Prop :=
  ∃ (ev : List Nat) (fin : Bool) (v : Value), e = .returned (.tuple #[.agg #[v, .int .i64 (nextB fr E ev), .bool fin], .int .i64 0]) ∧ w'.ownsRow (w.heap.size + 7) 29 8 v ev.length (evCells E ev) ∧ Below w.heap.size w w' ∧
    ((fin = true ∧ ev = taken fr E (downto len len) ∧ (ev.length : Int) ≤ n) ∨ (fin = false ∧ ∃ k, k < len ∧ ev = taken fr E (downto len k) ∧ (ev.length : Int) = n ∧ (E (len - 1 - k)).position ≤ fr))

set_option maxRecDepth 100000 in
set_option maxHeartbeats 2000000 in
theorem backwardBy_any (ao : Option Addr) (len cap : Nat) (fr n : Int) (E : Nat → Ev) (hlen : len ≤ 1000) (h0 : 0 ≤ fr) (hfr : fr ≤ 9223372036854775807) (h1 : 1 ≤ n) (h2 : n ≤ 100) (w : World) (hE : EvArg w.heap.size w ao len E) :
    Calls Try.prog 21 #[.func (.func 20) #[] #[], .slice ao len cap, .int .i64 fr, .int .i64 n] w (BkPost w fr n E len) := by
  have hsf : ∀ (w : World) (a : Addr) (k : FloatKind) (b : Nat) (m : Mode), (store a (.float k b) m).run Try.prog w = stored Try.prog w a (.float k b) m := fun w a k b m => run_store Try.prog w a _ m rfl
  refine (callsIn_wide (n := 5)).1 ?_
  refine callsIn_of_wp_marks Try.func21 rfl trivial ?_ rfl
  simp only [Try.ntmps21, List.size_toArray, List.length_cons, List.length_nil, Nat.reduceAdd, Nat.reduceSub, Array.replicate_succ, Array.replicate_zero, List.push_toArray, List.append_toArray, List.nil_append, List.cons_append]
  gi_wp2_with (first
    | (refine ⟨trivial, ?_⟩; gi_at_call 27; refine (callsIn_wide.2 (wrong_no fr n h0 h1 h2 _)).mono ?_; rintro e w' ⟨rfl, rfl⟩)
    | (refine ⟨trivial, ?_⟩; gi_at_call 29; refine (callsIn_wide.2 (backward_any _ _ _ _)).mono ?_; rintro e w' ⟨rfl, rfl⟩))
  obtain ⟨W0, hW0⟩ : ∃ W0, (((((((w.alloc (Obj.cells #[Value.func (Fn.func 20) #[] #[]] 54)).alloc (Obj.cells #[Value.int IntKind.i64 fr] 3)).alloc (Obj.cells #[Value.int IntKind.i64 n] 3)).alloc (Obj.cells #[Value.slice none 0 0, Value.int IntKind.i64 0, Value.bool false] 31)).alloc
              (Obj.cells #[Value.int IntKind.i64 0] 32)).alloc (Obj.cells #[Value.slice none 0 0, Value.int IntKind.i64 fr, Value.bool true] 31)).alloc (Obj.cells #[Value.slice ao len cap] 22)) = W0 := ⟨_, rfl⟩
  rw [hW0]
  have hz : W0.heap.size = w.heap.size + 7 := by rw [← hW0]; simp
  have hb0 : Below w.heap.size w W0 := by
    rw [← hW0]
    exact (((((((Below.refl _ w).alloc (Nat.le_refl _) _).alloc (by simp) _).alloc (by simp; omega) _).alloc (by simp; omega) _).alloc (by simp; omega) _).alloc (by simp; omega) _).alloc (by simp; omega) _
  have hne : ∀ j, ¬ w.heap.size = w.heap.size + j + 1 := fun j => by omega
  have hI0 : BkI w fr n E [] (.slice none 0 0) W0 := by
    refine ⟨?_, ?_, ?_, ?_, ?_, ?_, World.ownsRow_nil _ _ _ _, by simp [taken]; omega, by omega, hb0⟩
    all_goals rw [← hW0]
    all_goals simp only [heap_alloc_if, size_alloc_one]
    all_goals simp [hne, taken, nextB]
  have hBs : W0.heap[w.heap.size + 6]? = some (.cells #[.slice ao len cap] 22) := by
    rw [← hW0]
    simp only [heap_alloc_if, size_alloc_one]
    simp
  refine wpIn_rangeFunc_ownH rfl (by decide) (gf := 33) (lb := #[.pointer (some ⟨w.heap.size + 1 + 1 + 1 + 1 + 1 + 1, 0, none⟩)]) rfl trivial (enters_of Try.func33 (by kernel_rfl) rfl)
    (back_stops 4 (by decide) (w.heap.size + 6) w.heap.size ao len cap E hlen W0 (by omega) (by omega) (by simp [World.cell?, hBs]) (hE.low hb0)) keepB_t (keepB_b (by omega) (by omega)) (Below.refl _ _) (fun _ => rfl)
    (fun pre W => ∃ v, BkI w fr n E pre v W) (fun c pre W => c = .ret ∧ ∃ v, BkX w fr n E pre v W)
    (bkI_own w fr n E (by omega)) (bkX_own w fr n E (by omega)) ⟨_, hI0⟩
    (fun x a' W => ∃ Bx, a' = bkAct ao len cap w.heap.size fr n x Bx (E x) ∧ BkA w (E x) Bx W)
    (fun x a' _ A B row h hg hr => by obtain ⟨Bx, e, h⟩ := h; exact ⟨Bx, e, bkA_own w (E x) Bx () A B row h hg hr⟩) ?assign ?body ?done ?stop
  case assign =>
    rintro l pre x W K ⟨v, hi⟩ hK
    gi_wp2
    have hz2 := hi.size
    refine hK _ _ ((KeepsOthers.alloc _ _).from _) ⟨(Below.refl _ W).alloc hi.below.size _, Below.heap_alloc _ _ _ (by omega)⟩ ⟨v, hi.alloc _⟩ ⟨W.heap.size, rfl, ?_⟩
    refine ⟨new_block _ _, hz2, v, _, (hi.alloc _).pag, rfl, fun e => ?_⟩
    have := (hi.own.lt _ e).2
    omega
  case body =>
    rintro l pre x a' W hl - ⟨v, hi⟩ ⟨Bx, rfl, hx⟩ hlt
    unfold bkAct
    have hm : Try.prog.follows .mixedOrders = true := by kernel_rfl
    have k0 : W.cell? ⟨w.heap.size, 0, none⟩ = some (.func (.func 20) #[] #[]) := by simp [World.cell?, hi.key]
    have k1 : W.cell? ⟨w.heap.size + 1, 0, none⟩ = some (.int .i64 fr) := by simp [World.cell?, hi.frm]
    have x0 : W.cell? ⟨Bx, 0, none⟩ = some (.int .i64 (E x).id) := by simp [World.cell?, hx.bx, Ev.cells]
    have x1 : W.cell? ⟨Bx, 1, none⟩ = some (.string (E x).ty) := by simp [World.cell?, hx.bx, Ev.cells]
    have x2 : W.cell? ⟨Bx, 2, none⟩ = some (.string (E x).data) := by simp [World.cell?, hx.bx, Ev.cells]
    have x3 : W.cell? ⟨Bx, 3, none⟩ = some (.float .f64 (E x).value) := by simp [World.cell?, hx.bx, Ev.cells]
    have x4 : W.cell? ⟨Bx, 4, none⟩ = some (.string (E x).stream) := by simp [World.cell?, hx.bx, Ev.cells]
    have x5 : W.cell? ⟨Bx, 5, none⟩ = some (.int .i64 (E x).version) := by simp [World.cell?, hx.bx, Ev.cells]
    have x6 : W.cell? ⟨Bx, 6, none⟩ = some (.int .i64 (E x).position) := by simp [World.cell?, hx.bx, Ev.cells]
    have x7 : W.cell? ⟨Bx, 7, none⟩ = some (.int .i64 (E x).time) := by simp [World.cell?, hx.bx, Ev.cells]
    gi_wp2
    refine round_region hm (by kernel_rfl) ?_
    refine wpAny_of_held (S := RdS w fr (E x) Bx) _ _ _ _ ?_
    have hH : RdS w fr (E x) Bx W.drew := ⟨k0, k1, x0, x1, x2, x3, x4, x5, x6, x7⟩
    refine wpAnyH_take (i := 0) (v := ?_) (by simp; rfl) (by kernel_rfl) (by kernel_rfl) (by kernel_rfl) (fun _ _ _ h => h) (Or.inl ⟨by rfl, ?_⟩) hH ?_
    rotate_left
    · intro w' hS
      obtain ⟨s0, s1, s2, s3, s4, s5, s6, s7, s8, s9⟩ := hS
      go_simp
      rfl
    try simp only [Act.put, List.setIfInBounds_toArray, List.set_cons_zero, List.set_cons_succ]
    refine wpAnyH_take (i := 1) (v := ?_) (by simp; rfl) (by kernel_rfl) (by kernel_rfl) (by kernel_rfl) (fun _ _ _ h => h) (Or.inl ⟨by rfl, ?_⟩) hH ?_
    rotate_left
    · intro w' hS
      obtain ⟨s0, s1, s2, s3, s4, s5, s6, s7, s8, s9⟩ := hS
      go_simp
      rfl
    try simp only [Act.put, List.setIfInBounds_toArray, List.set_cons_zero, List.set_cons_succ]
    refine wpAnyH_take (i := 3) (v := ?_) (by simp; rfl) (by kernel_rfl) (by kernel_rfl) (by kernel_rfl) (fun _ _ _ h => h) (Or.inl ⟨by rfl, ?_⟩) hH ?_
    rotate_left
    · intro w' hS
      obtain ⟨s0, s1, s2, s3, s4, s5, s6, s7, s8, s9⟩ := hS
      go_simp
      rfl
    try simp only [Act.put, List.setIfInBounds_toArray, List.set_cons_zero, List.set_cons_succ]
    refine wpAnyH_ready (rs := [2]) (by kernel_rfl) (by simp) ?_
    refine AllReadyH.cons rfl (fun K hK => ?_) AllReadyH.nil
    go_simp
    go_at_call 20
    refine (position_any (E x) _).mono ?_
    rintro en w1 ⟨rfl, rfl⟩
    have hbx := lt_of_block hx.bx
    have hzz := hi.size
    have hbw : Below W.heap.size W (W.drew.alloc (.cells (E x).cells 29)) := (Below.mk rfl rfl rfl (Nat.le_refl _) (fun _ _ => rfl) : Below W.heap.size W W.drew).alloc (Nat.le_refl _) _
    have hH2 : RdS w fr (E x) Bx (W.drew.alloc (.cells (E x).cells 29)) := RdS.grow (A := W) ⟨k0, k1, x0, x1, x2, x3, x4, x5, x6, x7⟩ hzz hbx hbw
    refine hK.out _ _ hH2 (fun hHeld => ?_)
    clear hK K hHeld
    refine wpAnyH_take (i := 4) (v := ?_) (by simp; rfl) (by kernel_rfl) (by kernel_rfl) (by kernel_rfl) (fun _ _ _ h => h) (Or.inl ⟨by rfl, ?_⟩) hH2 ?_
    rotate_left
    · intro w' hS
      obtain ⟨s0, s1, s2, s3, s4, s5, s6, s7, s8, s9⟩ := hS
      go_simp
      rfl
    simp only [Act.put, List.setIfInBounds_toArray, List.set_cons_zero, List.set_cons_succ]
    refine wpAnyH_take (i := 5) (v := ?_) (by simp; rfl) (by kernel_rfl) (by kernel_rfl) (by kernel_rfl) (fun _ _ _ h => h) (Or.inl ⟨by rfl, ?_⟩) hH2 ?_
    rotate_left
    · intro w' hS
      obtain ⟨s0, s1, s2, s3, s4, s5, s6, s7, s8, s9⟩ := hS
      go_simp
      rfl
    simp only [Act.put, List.setIfInBounds_toArray, List.set_cons_zero, List.set_cons_succ]
    refine wpAnyH_done (by kernel_rfl) ?_ _
    dsimp only [onlyK]
    have hi2 := hi.below' hbw
    have hx2 := hx.below' hzz hbw
    have hko : KeepsFrom W0.heap.size W (W.drew.alloc (.cells (E x).cells 29)) := ((KeepsOthers.drew W).trans (KeepsOthers.alloc _ _)).from _
    have hkb : KeepB w.heap.size (w.heap.size + 6) W (W.drew.alloc (.cells (E x).cells 29)) := ⟨hbw.mono (by omega), hbw.block _ (by omega)⟩
    clear hH hH2 hbw k0 k1 x0 x1 x2 x3 x4 x5 x6 x7 hi hx hbx hzz
    revert hi2 hx2 hko hkb
    generalize (W.drew.alloc (.cells (E x).cells 29)) = W2
    intro hi2 hx2 hko hkb
    by_cases hps : fr < (E x).position
    · gi_wp2
      exact ⟨hko, hkb, v, hi2.skip hps⟩
    · obtain ⟨vo, vc, rfl⟩ := row_slice hi2.own
      obtain ⟨c, hc⟩ : ∃ c, (taken fr E pre).length = c := ⟨_, rfl⟩
      obtain ⟨nx, hnx⟩ : ∃ nx, nextB fr E (taken fr E pre) = nx := ⟨_, rfl⟩
      rw [hc] at hi2
      have hpg := hi2.pag
      have hct := hi2.cnt
      have hrs := hi2.res
      have her := hi2.err
      rw [hnx] at hpg
      have p0 : W2.cell? ⟨w.heap.size + 5, 0, none⟩ = some (.slice vo c vc) := by simp [World.cell?, hpg]
      have p1 : W2.cell? ⟨w.heap.size + 5, 1, none⟩ = some (.int .i64 nx) := by simp [World.cell?, hpg]
      have p2 : W2.cell? ⟨w.heap.size + 5, 2, none⟩ = some (.bool true) := by simp [World.cell?, hpg]
      have q2 : W2.frozen? ⟨w.heap.size + 5, 2, none⟩ = false := by simp [World.frozen?, hpg]
      have n0 : W2.cell? ⟨w.heap.size + 2, 0, none⟩ = some (.int .i64 n) := by simp [World.cell?, hct]
      have r0 : W2.cell? ⟨w.heap.size + 3, 0, none⟩ = some (.slice none 0 0) := by simp [World.cell?, hrs]
      have r1 : W2.cell? ⟨w.heap.size + 3, 1, none⟩ = some (.int .i64 0) := by simp [World.cell?, hrs]
      have r2 : W2.cell? ⟨w.heap.size + 3, 2, none⟩ = some (.bool false) := by simp [World.cell?, hrs]
      have s0 : W2.frozen? ⟨w.heap.size + 3, 0, none⟩ = false := by simp [World.frozen?, hrs]
      have s1 : W2.frozen? ⟨w.heap.size + 3, 1, none⟩ = false := by simp [World.frozen?, hrs]
      have s2 : W2.frozen? ⟨w.heap.size + 3, 2, none⟩ = false := by simp [World.frozen?, hrs]
      have e0 : W2.cell? ⟨w.heap.size + 4, 0, none⟩ = some (.int .i64 0) := by simp [World.cell?, her]
      have t0 : W2.frozen? ⟨w.heap.size + 4, 0, none⟩ = false := by simp [World.frozen?, her]
      have HH := Lib.hid (And.intro hi2 (And.intro hx2 (And.intro hko (And.intro hkb (And.intro hc hnx)))))
      clear hi2 hx2 hko hkb hpg hct hrs her hc hnx
      by_cases hf : (c : Int) = n
      · gi_wp2
        have hn := HH.out.2.2.2.2.1
        have hnx := HH.out.2.2.2.2.2
        have hX := HH.out.1.full (x := x) (by omega) (by omega)
        rw [hnx] at hX
        have hkk := HH.out.2.2.1.trans ((full_keeps w W2 (.slice vo c vc) nx).from _)
        rw [hz] at hkk
        exact ⟨hkk, rfl, _, hX⟩
      · gi_wp2
        obtain ⟨i0, hi0, hz0, hs0, hb0'⟩ := info_parts info29
        have hi2 := HH.out.1
        have hx2 := HH.out.2.1
        have hzz := hi2.size
        have hbx := lt_of_block hx2.bx
        have hR : RdS w fr (E x) Bx W2 := RdS.of hi2 hx2
        have hH : RdS w fr (E x) Bx W2.drew := hR
        have hH3 : RdS w fr (E x) Bx (W2.drew.alloc (.cells (E x).cells 29)) := hR.grow hzz hbx ((Below.mk rfl rfl rfl (Nat.le_refl _) (fun _ _ => rfl) : Below W2.heap.size W2 W2.drew).alloc (Nat.le_refl _) _)
        have hcn := HH.out.2.2.2.2.1
        have hP5 : w.heap.size + 5 < W2.heap.size := by omega
        have hwr : IntKind.i64.wrap (max (E x).position 0 - 1) = max (E x).position 0 - 1 := IntWalk.i64_in _ (by omega)
        have hcm : c ≤ 100 := by have := hi2.few; omega
        have HO := Lib.hid (row_pre (E x) hi2 hcn)
        clear hi2 hx2 hcn
        refine round_region hm (by kernel_rfl) ?_
        refine wpAny_of_held (S := RdS w fr (E x) Bx) _ _ _ _ ?_
        refine wpAnyH_take (i := 0) (v := ?_) (by simp; rfl) (by kernel_rfl) (by kernel_rfl) (by kernel_rfl) (fun _ _ _ h => h) (Or.inl ⟨by rfl, ?_⟩) hH ?_
        rotate_left
        · intro w' hS
          obtain ⟨s0, s1, s2, s3, s4, s5, s6, s7, s8, s9⟩ := hS
          go_simp
          rfl
        simp only [Act.put, List.setIfInBounds_toArray, List.set_cons_zero, List.set_cons_succ]
        refine wpAnyH_take (i := 2) (v := ?_) (by simp; rfl) (by kernel_rfl) (by kernel_rfl) (by kernel_rfl) (fun _ _ _ h => h) (Or.inl ⟨by rfl, ?_⟩) hH ?_
        rotate_left
        · intro w' hS
          obtain ⟨s0, s1, s2, s3, s4, s5, s6, s7, s8, s9⟩ := hS
          go_simp
          rfl
        simp only [Act.put, List.setIfInBounds_toArray, List.set_cons_zero, List.set_cons_succ]
        refine wpAnyH_take (i := 5) (v := ?_) (by simp; rfl) (by kernel_rfl) (by kernel_rfl) (by kernel_rfl) (fun _ _ _ h => h) (Or.inl ⟨by rfl, ?_⟩) hH ?_
        rotate_left
        · intro w' hS
          obtain ⟨s0, s1, s2, s3, s4, s5, s6, s7, s8, s9⟩ := hS
          go_simp
          rfl
        simp only [Act.put, List.setIfInBounds_toArray, List.set_cons_zero, List.set_cons_succ]
        refine wpAnyH_take (i := 6) (v := ?_) (by simp; rfl) (by kernel_rfl) (by kernel_rfl) (by kernel_rfl) (fun _ _ _ h => h) (Or.inl ⟨by rfl, ?_⟩) hH ?_
        rotate_left
        · intro w' hS
          obtain ⟨s0, s1, s2, s3, s4, s5, s6, s7, s8, s9⟩ := hS
          go_simp
          rfl
        simp only [Act.put, List.setIfInBounds_toArray, List.set_cons_zero, List.set_cons_succ]
        refine wpAnyH_ready (rs := [1, 3]) (by kernel_rfl) (by simp) ?_
        refine AllReadyH.cons (by simp; rfl) (fun K hK => ?_) (AllReadyH.cons (by simp; rfl) (fun K hK => ?_) AllReadyH.nil)
        · go_simp
          refine hK.out _ _ hH (fun hHeld => ?_)
          clear hK K hHeld
          try simp only [Act.put, List.setIfInBounds_toArray, List.set_cons_zero, List.set_cons_succ]
          refine wpAnyH_ready (rs := [3]) (by kernel_rfl) (by simp) ?_
          refine AllReadyH.cons (by simp; rfl) (fun K hK => ?_) AllReadyH.nil
          go_simp
          refine hK.out _ _ hH3 (fun hHeld => ?_)
          clear hK K hHeld
          try simp only [Act.put, List.setIfInBounds_toArray, List.set_cons_zero, List.set_cons_succ]
          refine wpAnyH_ready (rs := [4]) (by kernel_rfl) (by simp) ?_
          refine AllReadyH.cons (by simp; rfl) (fun K hK => ?_) AllReadyH.nil
          refine step_append_lies _ (by rfl) (.tmp 24) (.tmp 26) 22 rfl (w.heap.size + 7) 29 i0 _ 8 88 Try.underlying22 hi0 hz0 hs0 hb0' rfl (by decide) (.slice vo c vc) c (evCells E (taken fr E pre)) rfl HO.out.1 ⟨W2.heap.size, 0, none⟩ 1 1 (E x).cells.toList rfl rfl HO.out.2.1 HO.out.2.2.1 (by decide) (by unfold maxLen; omega) (by omega) HO.out.2.2.2 (W2.heap.size + 1) (by simp) ?_
          intro g cg w4 hown4 hgr4 hg4 hlt4
          have hG := grown_kept HH.out.1 HH.out.2.1 hown4 hgr4 hg4
          have hH4 : RdS w fr (E x) Bx w4 := hR.keep hG.2.1 hG.2.2.1 hG.2.2.2.1
          have HG := Lib.hid (And.intro hG (And.intro hown4 hlt4)); clear hG hown4 hgr4 hg4 hlt4
          refine hK.out _ _ hH4 (fun hHeld => ?_)
          clear hK K hHeld
          try simp only [Act.put, List.setIfInBounds_toArray, List.set_cons_zero, List.set_cons_succ]
          refine wpAnyH_take (i := 10) (v := ?_) (by simp; rfl) (by kernel_rfl) (by kernel_rfl) (by kernel_rfl) (fun _ _ _ h => h) (Or.inl ⟨by rfl, ?_⟩) hH4 ?_
          rotate_left
          · intro w' hS
            obtain ⟨s0, s1, s2, s3, s4, s5, s6, s7, s8, s9⟩ := hS
            go_simp
            rfl
          simp only [Act.put, List.setIfInBounds_toArray, List.set_cons_zero, List.set_cons_succ]
          refine wpAnyH_ready (rs := [7]) (by kernel_rfl) (by simp) ?_
          refine AllReadyH.cons (by simp; rfl) (fun K hK => ?_) AllReadyH.nil
          go_simp
          go_at_call 20
          refine (position_any (E x) _).mono ?_
          rintro en w1 ⟨rfl, rfl⟩
          have hH5 : RdS w fr (E x) Bx (w4.alloc (.cells (E x).cells 29)) := hH4.grow HG.out.1.1 HG.out.1.2.2.2.2.1 (below_alloc _ _)
          refine hK.out _ _ hH5 (fun hHeld => ?_)
          clear hK K hHeld
          try simp only [Act.put, List.setIfInBounds_toArray, List.set_cons_zero, List.set_cons_succ]
          refine wpAnyH_take (i := 8) (v := ?_) (by simp; rfl) (by kernel_rfl) (by kernel_rfl) (by kernel_rfl) (fun _ _ _ h => h) (Or.inl ⟨by rfl, ?_⟩) hH5 ?_
          rotate_left
          · intro w' hS
            obtain ⟨s0, s1, s2, s3, s4, s5, s6, s7, s8, s9⟩ := hS
            go_simp
            rfl
          simp only [Act.put, List.setIfInBounds_toArray, List.set_cons_zero, List.set_cons_succ]
          refine wpAnyH_take (i := 9) (v := ?_) (by simp; rfl) (by kernel_rfl) (by kernel_rfl) (by kernel_rfl) (fun _ _ _ h => h) (Or.inl ⟨by rfl, ?_⟩) hH5 ?_
          rotate_left
          · intro w' hS
            obtain ⟨s0, s1, s2, s3, s4, s5, s6, s7, s8, s9⟩ := hS
            go_simp
            rfl
          simp only [Act.put, List.setIfInBounds_toArray, List.set_cons_zero, List.set_cons_succ]
          have hp4 := (HG.out.1.2.2.2.2.2.1 (w.heap.size + 5) (by omega)).trans HH.out.1.pag
          have u0 : (w4.alloc (.cells (E x).cells 29)).cell? ⟨w.heap.size + 5, 0, none⟩ = some (.slice vo c vc) := by
            have e := (Below.heap_alloc w4 (.cells (E x).cells 29) _ (lt_of_block hp4)).trans hp4
            unfold World.cell?
            rw [e]; rfl
          have u1 : ∃ y, (w4.alloc (.cells (E x).cells 29)).cell? ⟨w.heap.size + 5, 1, none⟩ = some (.int .i64 y) := by
            have e := (Below.heap_alloc w4 (.cells (E x).cells 29) _ (lt_of_block hp4)).trans hp4
            refine ⟨nextB fr E (taken fr E pre), ?_⟩
            unfold World.cell?
            rw [e]; rfl
          obtain ⟨y1, u1⟩ := u1
          have v0 : (w4.alloc (.cells (E x).cells 29)).frozen? ⟨w.heap.size + 5, 0, none⟩ = false := by
            have e := (Below.heap_alloc w4 (.cells (E x).cells 29) _ (lt_of_block hp4)).trans hp4
            unfold World.frozen?
            rw [e]; rfl
          have v1 : (w4.alloc (.cells (E x).cells 29)).frozen? ⟨w.heap.size + 5, 1, none⟩ = false := by
            have e := (Below.heap_alloc w4 (.cells (E x).cells 29) _ (lt_of_block hp4)).trans hp4
            unfold World.frozen?
            rw [e]; rfl
          clear hp4
          have hxP : Bx ≠ w.heap.size + 5 := by have := HH.out.2.1.far; omega
          have hH6 : ∀ v, RdS w fr (E x) Bx ((w4.alloc (.cells (E x).cells 29)).setCell ⟨w.heap.size + 5, 0, none⟩ v) := fun v => hH5.keep (Below.heap_setCell _ _ _ _ (by dsimp only; omega)) (Below.heap_setCell _ _ _ _ (by dsimp only; omega)) (Below.heap_setCell _ _ _ _ hxP)
          have hH7 : ∀ v u, RdS w fr (E x) Bx (((w4.alloc (.cells (E x).cells 29)).setCell ⟨w.heap.size + 5, 0, none⟩ v).setCell ⟨w.heap.size + 5, 1, none⟩ u) := fun v u => (hH6 v).keep (Below.heap_setCell _ _ _ _ (by dsimp only; omega)) (Below.heap_setCell _ _ _ _ (by dsimp only; omega)) (Below.heap_setCell _ _ _ _ hxP)
          obtain ⟨w5, hw5⟩ : ∃ w5, w4.alloc (.cells (E x).cells 29) = w5 := ⟨_, rfl⟩
          rw [hw5] at u0 u1 v0 v1 hH5 hH6 hH7
          rw [hw5]
          refine wpAnyH_ready (rs := [11]) (by kernel_rfl) (by simp) ?_
          refine AllReadyH.cons (by simp; rfl) (fun K hK => ?_) AllReadyH.nil
          go_simp
          refine hK.out _ _ (hH6 _) (fun hHeld => ?_)
          clear hK K hHeld
          try simp only [Act.put, List.setIfInBounds_toArray, List.set_cons_zero, List.set_cons_succ]
          refine wpAnyH_take (i := 12) (v := ?_) (by simp; rfl) (by kernel_rfl) (by kernel_rfl) (by kernel_rfl) (fun _ _ _ h => h) (Or.inl ⟨by rfl, ?_⟩) (hH6 _) ?_
          rotate_left
          · intro w' hS
            obtain ⟨s0, s1, s2, s3, s4, s5, s6, s7, s8, s9⟩ := hS
            go_simp
            rfl
          simp only [Act.put, List.setIfInBounds_toArray, List.set_cons_zero, List.set_cons_succ]
          refine wpAnyH_ready (rs := [13]) (by kernel_rfl) (by simp) ?_
          refine AllReadyH.cons (by simp; rfl) (fun K hK => ?_) AllReadyH.nil
          go_simp
          refine hK.out _ _ (hH7 _ _) (fun hHeld => ?_)
          clear hK K hHeld
          try simp only [Act.put, List.setIfInBounds_toArray, List.set_cons_zero, List.set_cons_succ]
          refine wpAnyH_done (by kernel_rfl) ?_ _
          dsimp only [onlyK]
          gi_wp2
          obtain ⟨z1, z2, z3⟩ := HH.out.1.grow (x := x) (by omega) HH.out.2.2.2.2.1 hf HG.out.1.2.2.2.2.2.1 HG.out.1.1 HG.out.1.2.2.2.2.2.2.1 HG.out.1.2.2.2.2.2.2.2.2 HG.out.2.1 (.cells (E x).cells 29) W0.heap.size (w.heap.size + 6) rfl
          rw [hw5] at z1 z2 z3
          exact ⟨HH.out.2.2.1.trans z2, keepB_t HH.out.2.2.2.1 z3, _, z1⟩
        · go_simp
          refine hK.out _ _ hH3 (fun hHeld => ?_)
          clear hK K hHeld
          try simp only [Act.put, List.setIfInBounds_toArray, List.set_cons_zero, List.set_cons_succ]
          refine wpAnyH_ready (rs := [1]) (by kernel_rfl) (by simp) ?_
          refine AllReadyH.cons (by simp; rfl) (fun K hK => ?_) AllReadyH.nil
          go_simp
          refine hK.out _ _ hH3 (fun hHeld => ?_)
          clear hK K hHeld
          try simp only [Act.put, List.setIfInBounds_toArray, List.set_cons_zero, List.set_cons_succ]
          refine wpAnyH_ready (rs := [4]) (by kernel_rfl) (by simp) ?_
          refine AllReadyH.cons (by simp; rfl) (fun K hK => ?_) AllReadyH.nil
          refine step_append_lies _ (by rfl) (.tmp 24) (.tmp 26) 22 rfl (w.heap.size + 7) 29 i0 _ 8 88 Try.underlying22 hi0 hz0 hs0 hb0' rfl (by decide) (.slice vo c vc) c (evCells E (taken fr E pre)) rfl HO.out.1 ⟨W2.heap.size, 0, none⟩ 1 1 (E x).cells.toList rfl rfl HO.out.2.1 HO.out.2.2.1 (by decide) (by unfold maxLen; omega) (by omega) HO.out.2.2.2 (W2.heap.size + 1) (by simp) ?_
          intro g cg w4 hown4 hgr4 hg4 hlt4
          have hG := grown_kept HH.out.1 HH.out.2.1 hown4 hgr4 hg4
          have hH4 : RdS w fr (E x) Bx w4 := hR.keep hG.2.1 hG.2.2.1 hG.2.2.2.1
          have HG := Lib.hid (And.intro hG (And.intro hown4 hlt4)); clear hG hown4 hgr4 hg4 hlt4
          refine hK.out _ _ hH4 (fun hHeld => ?_)
          clear hK K hHeld
          try simp only [Act.put, List.setIfInBounds_toArray, List.set_cons_zero, List.set_cons_succ]
          refine wpAnyH_take (i := 10) (v := ?_) (by simp; rfl) (by kernel_rfl) (by kernel_rfl) (by kernel_rfl) (fun _ _ _ h => h) (Or.inl ⟨by rfl, ?_⟩) hH4 ?_
          rotate_left
          · intro w' hS
            obtain ⟨s0, s1, s2, s3, s4, s5, s6, s7, s8, s9⟩ := hS
            go_simp
            rfl
          simp only [Act.put, List.setIfInBounds_toArray, List.set_cons_zero, List.set_cons_succ]
          refine wpAnyH_ready (rs := [7]) (by kernel_rfl) (by simp) ?_
          refine AllReadyH.cons (by simp; rfl) (fun K hK => ?_) AllReadyH.nil
          go_simp
          go_at_call 20
          refine (position_any (E x) _).mono ?_
          rintro en w1 ⟨rfl, rfl⟩
          have hH5 : RdS w fr (E x) Bx (w4.alloc (.cells (E x).cells 29)) := hH4.grow HG.out.1.1 HG.out.1.2.2.2.2.1 (below_alloc _ _)
          refine hK.out _ _ hH5 (fun hHeld => ?_)
          clear hK K hHeld
          try simp only [Act.put, List.setIfInBounds_toArray, List.set_cons_zero, List.set_cons_succ]
          refine wpAnyH_take (i := 8) (v := ?_) (by simp; rfl) (by kernel_rfl) (by kernel_rfl) (by kernel_rfl) (fun _ _ _ h => h) (Or.inl ⟨by rfl, ?_⟩) hH5 ?_
          rotate_left
          · intro w' hS
            obtain ⟨s0, s1, s2, s3, s4, s5, s6, s7, s8, s9⟩ := hS
            go_simp
            rfl
          simp only [Act.put, List.setIfInBounds_toArray, List.set_cons_zero, List.set_cons_succ]
          refine wpAnyH_take (i := 9) (v := ?_) (by simp; rfl) (by kernel_rfl) (by kernel_rfl) (by kernel_rfl) (fun _ _ _ h => h) (Or.inl ⟨by rfl, ?_⟩) hH5 ?_
          rotate_left
          · intro w' hS
            obtain ⟨s0, s1, s2, s3, s4, s5, s6, s7, s8, s9⟩ := hS
            go_simp
            rfl
          simp only [Act.put, List.setIfInBounds_toArray, List.set_cons_zero, List.set_cons_succ]
          have hp4 := (HG.out.1.2.2.2.2.2.1 (w.heap.size + 5) (by omega)).trans HH.out.1.pag
          have u0 : (w4.alloc (.cells (E x).cells 29)).cell? ⟨w.heap.size + 5, 0, none⟩ = some (.slice vo c vc) := by
            have e := (Below.heap_alloc w4 (.cells (E x).cells 29) _ (lt_of_block hp4)).trans hp4
            unfold World.cell?
            rw [e]; rfl
          have u1 : ∃ y, (w4.alloc (.cells (E x).cells 29)).cell? ⟨w.heap.size + 5, 1, none⟩ = some (.int .i64 y) := by
            have e := (Below.heap_alloc w4 (.cells (E x).cells 29) _ (lt_of_block hp4)).trans hp4
            refine ⟨nextB fr E (taken fr E pre), ?_⟩
            unfold World.cell?
            rw [e]; rfl
          obtain ⟨y1, u1⟩ := u1
          have v0 : (w4.alloc (.cells (E x).cells 29)).frozen? ⟨w.heap.size + 5, 0, none⟩ = false := by
            have e := (Below.heap_alloc w4 (.cells (E x).cells 29) _ (lt_of_block hp4)).trans hp4
            unfold World.frozen?
            rw [e]; rfl
          have v1 : (w4.alloc (.cells (E x).cells 29)).frozen? ⟨w.heap.size + 5, 1, none⟩ = false := by
            have e := (Below.heap_alloc w4 (.cells (E x).cells 29) _ (lt_of_block hp4)).trans hp4
            unfold World.frozen?
            rw [e]; rfl
          clear hp4
          have hxP : Bx ≠ w.heap.size + 5 := by have := HH.out.2.1.far; omega
          have hH6 : ∀ v, RdS w fr (E x) Bx ((w4.alloc (.cells (E x).cells 29)).setCell ⟨w.heap.size + 5, 0, none⟩ v) := fun v => hH5.keep (Below.heap_setCell _ _ _ _ (by dsimp only; omega)) (Below.heap_setCell _ _ _ _ (by dsimp only; omega)) (Below.heap_setCell _ _ _ _ hxP)
          have hH7 : ∀ v u, RdS w fr (E x) Bx (((w4.alloc (.cells (E x).cells 29)).setCell ⟨w.heap.size + 5, 0, none⟩ v).setCell ⟨w.heap.size + 5, 1, none⟩ u) := fun v u => (hH6 v).keep (Below.heap_setCell _ _ _ _ (by dsimp only; omega)) (Below.heap_setCell _ _ _ _ (by dsimp only; omega)) (Below.heap_setCell _ _ _ _ hxP)
          obtain ⟨w5, hw5⟩ : ∃ w5, w4.alloc (.cells (E x).cells 29) = w5 := ⟨_, rfl⟩
          rw [hw5] at u0 u1 v0 v1 hH5 hH6 hH7
          rw [hw5]
          refine wpAnyH_ready (rs := [11]) (by kernel_rfl) (by simp) ?_
          refine AllReadyH.cons (by simp; rfl) (fun K hK => ?_) AllReadyH.nil
          go_simp
          refine hK.out _ _ (hH6 _) (fun hHeld => ?_)
          clear hK K hHeld
          try simp only [Act.put, List.setIfInBounds_toArray, List.set_cons_zero, List.set_cons_succ]
          refine wpAnyH_take (i := 12) (v := ?_) (by simp; rfl) (by kernel_rfl) (by kernel_rfl) (by kernel_rfl) (fun _ _ _ h => h) (Or.inl ⟨by rfl, ?_⟩) (hH6 _) ?_
          rotate_left
          · intro w' hS
            obtain ⟨s0, s1, s2, s3, s4, s5, s6, s7, s8, s9⟩ := hS
            go_simp
            rfl
          simp only [Act.put, List.setIfInBounds_toArray, List.set_cons_zero, List.set_cons_succ]
          refine wpAnyH_ready (rs := [13]) (by kernel_rfl) (by simp) ?_
          refine AllReadyH.cons (by simp; rfl) (fun K hK => ?_) AllReadyH.nil
          go_simp
          refine hK.out _ _ (hH7 _ _) (fun hHeld => ?_)
          clear hK K hHeld
          try simp only [Act.put, List.setIfInBounds_toArray, List.set_cons_zero, List.set_cons_succ]
          refine wpAnyH_done (by kernel_rfl) ?_ _
          dsimp only [onlyK]
          gi_wp2
          obtain ⟨z1, z2, z3⟩ := HH.out.1.grow (x := x) (by omega) HH.out.2.2.2.2.1 hf HG.out.1.2.2.2.2.2.1 HG.out.1.1 HG.out.1.2.2.2.2.2.2.1 HG.out.1.2.2.2.2.2.2.2.2 HG.out.2.1 (.cells (E x).cells 29) W0.heap.size (w.heap.size + 6) rfl
          rw [hw5] at z1 z2 z3
          exact ⟨HH.out.2.2.1.trans z2, keepB_t HH.out.2.2.2.1 z3, _, z1⟩
  case done =>
    rintro D ys W hD rfl ⟨v, h⟩ hK
    have c0 : W.cell? ⟨w.heap.size + 5, 0, none⟩ = some v := by simp [World.cell?, h.pag]
    have c1 : W.cell? ⟨w.heap.size + 5, 1, none⟩ = some (.int .i64 (nextB fr E (taken fr E (downto len len)))) := by simp [World.cell?, h.pag]
    have c2 : W.cell? ⟨w.heap.size + 5, 2, none⟩ = some (.bool true) := by simp [World.cell?, h.pag]
    have r0 : W.cell? ⟨w.heap.size + 3, 0, none⟩ = some (.slice none 0 0) := by simp [World.cell?, h.res]
    have r1 : W.cell? ⟨w.heap.size + 3, 1, none⟩ = some (.int .i64 0) := by simp [World.cell?, h.res]
    have r2 : W.cell? ⟨w.heap.size + 3, 2, none⟩ = some (.bool false) := by simp [World.cell?, h.res]
    have s0 : W.frozen? ⟨w.heap.size + 3, 0, none⟩ = false := by simp [World.frozen?, h.res]
    have s1 : W.frozen? ⟨w.heap.size + 3, 1, none⟩ = false := by simp [World.frozen?, h.res]
    have s2 : W.frozen? ⟨w.heap.size + 3, 2, none⟩ = false := by simp [World.frozen?, h.res]
    have e0 : W.cell? ⟨w.heap.size + 4, 0, none⟩ = some (.int .i64 0) := by simp [World.cell?, h.err]
    have t0 : W.frozen? ⟨w.heap.size + 4, 0, none⟩ = false := by simp [World.frozen?, h.err]
    obtain ⟨vo, vc, rfl⟩ := row_slice h.own
    gi_wp2
    obtain ⟨W6, hW6⟩ : ∃ W6, ((((W.setCell ⟨w.heap.size + 1 + 1 + 1, 0, none⟩ (.slice vo (taken fr E (downto len len)).length vc)).setCell ⟨w.heap.size + 1 + 1 + 1, 1, none⟩ (.int .i64 (nextB fr E (taken fr E (downto len len))))).setCell ⟨w.heap.size + 1 + 1 + 1, 2, none⟩ (.bool true)).setCell ⟨w.heap.size + 1 + 1 + 1 + 1, 0, none⟩ (.int .i64 0)) = W6 := ⟨_, rfl⟩
    rw [hW6]
    have hko : KeepsOthers W W6 := by
      rw [← hW6]
      exact (((KeepsOthers.setCell _ _ _).trans (KeepsOthers.setCell _ _ _)).trans (KeepsOthers.setCell _ _ _)).trans (KeepsOthers.setCell _ _ _)
    have hoth : ∀ k, w.heap.size + 5 ≤ k → W6.heap[k]? = W.heap[k]? := fun k hk => by
      rw [← hW6, Below.heap_setCell _ _ _ _ (by show k ≠ w.heap.size + 1 + 1 + 1 + 1; omega), Below.heap_setCell _ _ _ _ (by show k ≠ w.heap.size + 1 + 1 + 1; omega), Below.heap_setCell _ _ _ _ (by show k ≠ w.heap.size + 1 + 1 + 1; omega), Below.heap_setCell _ _ _ _ (by show k ≠ w.heap.size + 1 + 1 + 1; omega)]
    have hbw : Below w.heap.size w W6 := by
      rw [← hW6]
      exact (((h.below.setCell (p := ⟨w.heap.size + 1 + 1 + 1, 0, none⟩) (by dsimp only; omega) _).setCell (p := ⟨w.heap.size + 1 + 1 + 1, 1, none⟩) (by dsimp only; omega) _).setCell (p := ⟨w.heap.size + 1 + 1 + 1, 2, none⟩) (by dsimp only; omega) _).setCell (p := ⟨w.heap.size + 1 + 1 + 1 + 1, 0, none⟩) (by dsimp only; omega) _
    have hres : W6.heap[w.heap.size + 3]? = some (.cells #[.slice vo (taken fr E (downto len len)).length vc, .int .i64 (nextB fr E (taken fr E (downto len len))), .bool true] 31) := by
      have e2 := heap_setCell_same h.res (off := 0) (.slice vo (taken fr E (downto len len)).length vc)
      have e3 := heap_setCell_same e2 (off := 1) (.int .i64 (nextB fr E (taken fr E (downto len len))))
      have e4 := heap_setCell_same e3 (off := 2) (.bool true)
      rw [← hW6]
      exact (Below.heap_setCell _ _ _ _ (by show _ ≠ w.heap.size + 1 + 1 + 1 + 1; omega)).trans e4
    have herr : W6.heap[w.heap.size + 4]? = some (.cells #[.int .i64 0] 32) := by
      have e2 := (Below.heap_setCell W ⟨w.heap.size + 1 + 1 + 1, 0, none⟩ (.slice vo (taken fr E (downto len len)).length vc) (w.heap.size + 4) (by show _ ≠ w.heap.size + 1 + 1 + 1; omega)).trans h.err
      have e3 := (Below.heap_setCell _ ⟨w.heap.size + 1 + 1 + 1, 1, none⟩ (.int .i64 (nextB fr E (taken fr E (downto len len)))) (w.heap.size + 4) (by show _ ≠ w.heap.size + 1 + 1 + 1; omega)).trans e2
      have e4 := (Below.heap_setCell _ ⟨w.heap.size + 1 + 1 + 1, 2, none⟩ (.bool true) (w.heap.size + 4) (by show _ ≠ w.heap.size + 1 + 1 + 1; omega)).trans e3
      rw [← hW6]
      exact heap_setCell_same e4 (off := 0) (.int .i64 0)
    have hK' := hko.same D _ hK rfl
    have hown : W6.ownsRow (w.heap.size + 7) 29 8 (.slice vo (taken fr E (downto len len)).length vc) (taken fr E (downto len len)).length (evCells E (taken fr E (downto len len))) := own_same h.own (fun k hk => hoth k (by have := (h.own.lt k hk).1; omega))
    have hD' : w.heap.size + 7 ≤ D := by omega
    have hfew := h.few
    clear hW6 hko hoth h hK c0 c1 c2 r0 r1 r2 s0 s1 s2 e0 t0
    refine ⟨by simp, .inl ⟨_, _, rfl, run_takeDeferred hK', ?_⟩⟩
    refine ⟨.tuple #[.agg #[.slice vo (taken fr E (downto len len)).length vc, .int .i64 (nextB fr E (taken fr E (downto len len))), .bool true], .int .i64 0], ?_, taken fr E (downto len len), true, _, rfl, ?_, ?_, Or.inl ⟨rfl, rfl, hfew⟩⟩
    · obtain ⟨f0, f1, f2, f3⟩ := bk_cells w W6 D _ _ _ hres herr hK'
      simp [results, Try.results21, go_sem, f0, f1, f2, f3]
    · exact keep_row (Bd := 0) (grownBy_putObj' W6 D (.deferred none)) (fun r e => by cases e; exact ⟨Nat.zero_le _, _, hK', rfl⟩) hown
    · exact hbw.trans (belowK_b (w := w) (Nat.le_refl _) W6 D _ _ (by omega) hK' rfl rfl)
  case stop =>
    rintro D c pre W hD ⟨k, hk, rfl⟩ ⟨rfl, v, h⟩ hK
    gi_wp2
    have hD' : w.heap.size + 7 ≤ D := by omega
    refine ⟨by simp, .inl ⟨_, _, rfl, run_takeDeferred hK, ?_⟩⟩
    obtain ⟨x, hx, hxp⟩ := h.last
    obtain ⟨k', rfl⟩ : ∃ k', k = k' + 1 := by
      cases k with
      | zero => simp [downto] at hx
      | succ k' => exact ⟨k', rfl⟩
    have hdl : (downto len (k' + 1)).dropLast = downto len k' := by rw [downto_succ, List.dropLast_concat]
    have hxl : x = len - 1 - k' := by
      rw [downto_succ] at hx
      simpa using hx.symm
    have hres := h.res
    have hown := h.own
    have hfull := h.full
    rw [hdl] at hres hown hfull
    refine ⟨.tuple #[.agg #[v, .int .i64 (nextB fr E (taken fr E (downto len k'))), .bool false], .int .i64 0], ?_, taken fr E (downto len k'), false, _, rfl, ?_, ?_, Or.inr ⟨rfl, k', by omega, rfl, hfull, by rw [← hxl]; exact hxp⟩⟩
    · obtain ⟨vo, vc, rfl⟩ := row_slice hown
      obtain ⟨f0, f1, f2, f3⟩ := bk_cells w W D _ _ _ hres h.err hK
      simp [results, Try.results21, go_sem, f0, f1, f2, f3]
    · exact keep_row (Bd := 0) (grownBy_putObj' W D (.deferred none)) (fun r e => by cases e; exact ⟨Nat.zero_le _, _, hK, rfl⟩) hown
    · exact h.below.trans (belowK_b (w := w) (Nat.le_refl _) W D _ _ (by omega) hK rfl rfl)
end Go.Proofs.Ytimmdcajadddmaa
