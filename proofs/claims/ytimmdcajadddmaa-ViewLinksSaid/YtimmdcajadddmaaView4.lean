/-
  view.ForwardBy, by the position: the page. Conditions: none.
-/
import Derived.Test.YtimmdcajadddmaaView3
namespace Go.Proofs.Ytimmdcajadddmaa
open Go.RowKit Go.Lib

/-- A region that draws, in a plain frame. -/
theorem plain_region {id : Nat} {P : Program} {ops : Array Oper} {Q : Exit → Act → World → Prop} {a : Act} {w : World} (hm : P.follows .mixedOrders = true)
    (h : wpAny P .any ops (onlyK (Q .normal)) ops.size (Array.replicate ops.size false) a w.drew) : (Code.region id ops true).wp P Q a w :=
  wp_mono (wp_region_any hm h) fun e a w he => by
    cases e <;> first | exact he | exact False.elim he

/-- One more, but at the end. -/
def nextP (n : Int) : Int := if n = 9223372036854775807 then n else n + 1
theorem nextP_any (n : Int) (h0 : -9223372036854775808 ≤ n) (h1 : n ≤ 9223372036854775807) (w : World) : Calls Try.prog 28 #[.int .i64 n] w fun en w' => en = .returned (.int .i64 (nextP n)) ∧ w' = w := by
  by_cases h : n = 9223372036854775807
  · have e : nextP n = n := if_pos h
    rw [e]
    have k0 : (n == 9223372036854775807) = true := by simpa using h
    clear h h0 h1 e
    go_enter Try.func28, Try.ntmps28
    go_wp2
    go_ret
    exact ⟨rfl, rfl⟩
  · rw [show nextP n = n + 1 from if_neg h]
    exact next_any n (by omega) h0 w

def takenF (fr : Int) (E : Nat → Ev) (pre : List Nat) : List Nat := pre.filter fun x => decide (fr ≤ (E x).position)
def nextF (fr : Int) (E : Nat → Ev) (l : List Nat) : Int := match l.getLast? with
  | none => fr
  | some x => nextP (E x).position
theorem nextF_snoc (fr : Int) (E : Nat → Ev) (l : List Nat) (x : Nat) : nextF fr E (l ++ [x]) = nextP (E x).position := by simp [nextF]
theorem takenF_skip {fr : Int} {E : Nat → Ev} {pre : List Nat} {x : Nat} (h : (E x).position < fr) : takenF fr E (pre ++ [x]) = takenF fr E pre := by
  unfold takenF
  rw [List.filter_append]
  simp
  omega
theorem takenF_take {fr : Int} {E : Nat → Ev} {pre : List Nat} {x : Nat} (h : ¬ (E x).position < fr) : takenF fr E (pre ++ [x]) = takenF fr E pre ++ [x] := by
  unfold takenF
  rw [List.filter_append]
  simp
  omega

structure FwI (w : World) (fr n : Int) (E : Nat → Ev) (pre : List Nat) (v : Value) (W : World) : Prop where
  res : W.heap[w.heap.size]? = some (.cells #[.slice none 0 0, .int .i64 0, .bool false] 31)
  pag : W.heap[w.heap.size + 1]? = some (.cells #[v, .int .i64 (nextF fr E (takenF fr E pre)), .bool true] 31)
  own : W.ownsRow (w.heap.size + 2) 29 8 v (takenF fr E pre).length (evCells E (takenF fr E pre))
  few : ((takenF fr E pre).length : Int) ≤ n
  size : w.heap.size + 2 ≤ W.heap.size
  below : Below w.heap.size w W
theorem FwI.below' {w : World} {fr n : Int} {E : Nat → Ev} {pre : List Nat} {v : Value} {W W' : World} (h : FwI w fr n E pre v W) (hb : Below W.heap.size W W') : FwI w fr n E pre v W' := by
  have hz := h.size
  have hz2 := hb.size
  exact ⟨(hb.block _ (by omega)).trans h.res, (hb.block _ (by omega)).trans h.pag, own_same h.own (fun g hg => hb.block g (h.own.lt g hg).2), h.few, by omega, h.below.trans (hb.mono (by omega))⟩
theorem FwI.skip {w : World} {fr n : Int} {E : Nat → Ev} {pre : List Nat} {v : Value} {W : World} (h : FwI w fr n E pre v W) {x : Nat} (hx : (E x).position < fr) : FwI w fr n E (pre ++ [x]) v W := by
  have e := takenF_skip (E := E) (pre := pre) hx
  exact ⟨h.res, by rw [e]; exact h.pag, by rw [e]; exact h.own, by rw [e]; exact h.few, h.size, h.below⟩

theorem fw_done {w W : World} {l : List Nat} {E : Nat → Ev} {v0 : Value} {y0 : Value} {b0 : Value} (v : Value) (nx : Int) (fin : Bool) (hres : W.heap[w.heap.size]? = some (.cells #[v0, y0, b0] 31)) (hown : W.ownsRow (w.heap.size + 2) 29 8 v l.length (evCells E l)) (hb : Below w.heap.size w W) :
    (((W.setCell ⟨w.heap.size, 0, none⟩ v).setCell ⟨w.heap.size, 1, none⟩ (.int .i64 nx)).setCell ⟨w.heap.size, 2, none⟩ (.bool fin)).cell? ⟨w.heap.size, 0, none⟩ = some v ∧
    (((W.setCell ⟨w.heap.size, 0, none⟩ v).setCell ⟨w.heap.size, 1, none⟩ (.int .i64 nx)).setCell ⟨w.heap.size, 2, none⟩ (.bool fin)).cell? ⟨w.heap.size, 1, none⟩ = some (.int .i64 nx) ∧
    (((W.setCell ⟨w.heap.size, 0, none⟩ v).setCell ⟨w.heap.size, 1, none⟩ (.int .i64 nx)).setCell ⟨w.heap.size, 2, none⟩ (.bool fin)).cell? ⟨w.heap.size, 2, none⟩ = some (.bool fin) ∧
    (((W.setCell ⟨w.heap.size, 0, none⟩ v).setCell ⟨w.heap.size, 1, none⟩ (.int .i64 nx)).setCell ⟨w.heap.size, 2, none⟩ (.bool fin)).ownsRow (w.heap.size + 2) 29 8 v l.length (evCells E l) ∧
    Below w.heap.size w (((W.setCell ⟨w.heap.size, 0, none⟩ v).setCell ⟨w.heap.size, 1, none⟩ (.int .i64 nx)).setCell ⟨w.heap.size, 2, none⟩ (.bool fin)) := by
  have e2 := heap_setCell_same hres (off := 0) v
  have e3 := heap_setCell_same e2 (off := 1) (.int .i64 nx)
  have e4 := heap_setCell_same e3 (off := 2) (.bool fin)
  refine ⟨?_, ?_, ?_, own_same hown (fun g hg => ?_), ((hb.setCell (p := ⟨w.heap.size, 0, none⟩) (by dsimp only; omega) _).setCell (p := ⟨w.heap.size, 1, none⟩) (by dsimp only; omega) _).setCell (p := ⟨w.heap.size, 2, none⟩) (by dsimp only; omega) _⟩
  · unfold World.cell?; rw [e4]; rfl
  · unfold World.cell?; rw [e4]; rfl
  · unfold World.cell?; rw [e4]; rfl
  · have := (hown.lt g hg).1
    rw [Below.heap_setCell _ _ _ _ (by show g ≠ w.heap.size; omega), Below.heap_setCell _ _ _ _ (by show g ≠ w.heap.size; omega), Below.heap_setCell _ _ _ _ (by show g ≠ w.heap.size; omega)]

/-- What the page tells, forward. -/
def FwPost (w : World) (fr n : Int) (E : Nat → Ev) (len : Nat) (e : Ending) (w' : World) : Prop :=
  ∃ (ev : List Nat) (fin : Bool) (v : Value), e = .returned (.tuple #[.agg #[v, .int .i64 (nextF fr E ev), .bool fin], .int .i64 0]) ∧ w'.ownsRow (w.heap.size + 2) 29 8 v ev.length (evCells E ev) ∧ Below w.heap.size w w' ∧
    ((fin = true ∧ ev = takenF fr E (List.range len) ∧ (ev.length : Int) ≤ n) ∨ (fin = false ∧ ∃ k, k < len ∧ ev = takenF fr E (List.range k) ∧ (ev.length : Int) = n ∧ fr ≤ (E k).position))

/-- The loop's variable lies in a block of its own, none of the page's. -/
structure FwA (w : World) (e : Ev) (v : Value) (Bx : Nat) (W : World) : Prop where
  bx : W.heap[Bx]? = some (.cells e.cells 29)
  far : w.heap.size + 2 ≤ Bx
  ne : v.ownBlock ≠ some Bx

theorem fw_facts {w : World} {fr n : Int} {E : Nat → Ev} {pre : List Nat} {v : Value} {W W2 : World} (h : FwI w fr n E pre v W) (e : Ev) (h2 : W2 = (W.alloc (.cells e.cells 29)).alloc (.cells e.cells 29)) : FwI w fr n E pre v W2 ∧ FwA w e v W.heap.size W2 := by
  subst h2
  have hz := h.size
  have hb : Below W.heap.size W ((W.alloc (.cells e.cells 29)).alloc (.cells e.cells 29)) := ((Below.refl _ W).alloc (Nat.le_refl _) _).alloc (by simp) _
  refine ⟨h.below' hb, ?_, hz, fun e' => by have := (h.own.lt _ e').2; omega⟩
  exact (Below.heap_alloc _ _ _ (by simp)).trans (new_block W _)

/-- The cells that the drawn region of a round reads. -/
def RdF (e : Ev) (Bx : Nat) (w' : World) : Prop :=
  w'.cell? ⟨Bx, 0, none⟩ = some (.int .i64 e.id) ∧ w'.cell? ⟨Bx, 1, none⟩ = some (.string e.ty) ∧ w'.cell? ⟨Bx, 2, none⟩ = some (.string e.data) ∧ w'.cell? ⟨Bx, 3, none⟩ = some (.float .f64 e.value)
      ∧ w'.cell? ⟨Bx, 4, none⟩ = some (.string e.stream) ∧ w'.cell? ⟨Bx, 5, none⟩ = some (.int .i64 e.version) ∧ w'.cell? ⟨Bx, 6, none⟩ = some (.int .i64 e.position) ∧ w'.cell? ⟨Bx, 7, none⟩ = some (.int .i64 e.time)
theorem RdF.of {e : Ev} {Bx : Nat} {W : World} (h : W.heap[Bx]? = some (.cells e.cells 29)) : RdF e Bx W := by
  refine ⟨?_, ?_, ?_, ?_, ?_, ?_, ?_, ?_⟩
  all_goals simp [World.cell?, h, Ev.cells]
theorem RdF.keep {e : Ev} {Bx : Nat} {A A' : World} (h : RdF e Bx A) (hx : A'.heap[Bx]? = A.heap[Bx]?) : RdF e Bx A' := by
  obtain ⟨s2, s3, s4, s5, s6, s7, s8, s9⟩ := h
  exact ⟨(World.cell?_of_block hx).trans s2, (World.cell?_of_block hx).trans s3, (World.cell?_of_block hx).trans s4, (World.cell?_of_block hx).trans s5, (World.cell?_of_block hx).trans s6, (World.cell?_of_block hx).trans s7, (World.cell?_of_block hx).trans s8, (World.cell?_of_block hx).trans s9⟩

theorem frow_pre {w : World} {fr n : Int} {E : Nat → Ev} {pre : List Nat} {v : Value} {W : World} (e : Ev) (h : FwI w fr n E pre v W) {c : Nat} (hc : (takenF fr E pre).length = c) :
    ((W.alloc (.cells e.cells 29)).drew).ownsRow (w.heap.size + 2) 29 8 v c (evCells E (takenF fr E pre)) ∧
    (∀ j u, e.cells.toList[j]? = some u → ((W.alloc (.cells e.cells 29)).drew).cell? ((⟨W.heap.size, 0, none⟩ : Addr).add j) = some u) ∧ (∀ u ∈ e.cells.toList, u.oneCell' = true) ∧ w.heap.size + 2 ≤ ((W.alloc (.cells e.cells 29)).drew).heap.size := by
  subst hc
  refine ⟨own_same (h.own.alloc _) (fun _ _ => rfl), fun j u hu => ?_, ?_, ?_⟩
  · have hb := new_block W (.cells e.cells 29)
    have ha : ((⟨W.heap.size, 0, none⟩ : Addr).add j) = ⟨W.heap.size, j, none⟩ := by unfold Addr.add; split <;> simp_all
    rw [ha]
    show (W.alloc (.cells e.cells 29)).cell? ⟨W.heap.size, j, none⟩ = _
    unfold World.cell?
    rw [hb]
    simpa using hu
  · unfold Ev.cells
    simp [Value.oneCell']
  · have := h.size
    show _ ≤ (W.alloc _).heap.size
    simp; omega

theorem fgrown_kept {w : World} {fr n : Int} {E : Nat → Ev} {pre : List Nat} {vo : Option Addr} {c vc : Nat} {W : World} (h : FwI w fr n E pre (.slice vo c vc) W) {e : Ev} {Bx : Nat} (hx : FwA w e (.slice vo c vc) Bx W) {w4 : World}
    (hgr : ((W.alloc (.cells e.cells 29)).drew).grownBy w4 (Value.slice vo c vc).ownBlock) :
    w.heap.size + 2 ≤ w4.heap.size ∧ w4.heap[Bx]? = W.heap[Bx]? ∧ Bx < w4.heap.size ∧ (∀ k, k < w.heap.size + 2 → w4.heap[k]? = W.heap[k]?) ∧ Below w.heap.size W w4 := by
  have hz := h.size
  have hbx := lt_of_block hx.bx
  have hsz : W.heap.size + 1 ≤ w4.heap.size := by
    have h1 := hgr.size
    have h2 : ((W.alloc (.cells e.cells 29)).drew).heap.size = W.heap.size + 1 := by show (W.alloc _).heap.size = _; simp
    omega
  have hlow : ∀ k, (Value.slice vo c vc).ownBlock = some k → w.heap.size + 2 ≤ k := fun k hk => (h.own.lt k hk).1
  have hk : ∀ k, k < W.heap.size → some k ≠ (Value.slice vo c vc).ownBlock → w4.heap[k]? = W.heap[k]? := fun k hk hne =>
    (hgr.block k (by show k < (W.alloc _).heap.size; simp; omega) hne).trans (Below.heap_alloc W _ k hk)
  have hB : ∀ k, k < w.heap.size + 2 → w4.heap[k]? = W.heap[k]? := fun k hk' => hk k (by omega) (fun e => by have := hlow k e.symm; omega)
  exact ⟨by omega, hk Bx hbx (fun e => hx.ne e.symm), by omega, hB, ⟨hgr.os, hgr.tape, hgr.output, by omega, fun k hk' => hB k (by omega)⟩⟩

/-- The page has one more. -/
theorem FwI.grow {w : World} {fr n : Int} {E : Nat → Ev} {pre : List Nat} {vo : Option Addr} {c vc : Nat} {W : World} (h : FwI w fr n E pre (.slice vo c vc) W) {x : Nat} (hx : ¬ (E x).position < fr) (hc : (takenF fr E pre).length = c) (hn : ¬ (c : Int) = n) {g cg : Nat} {w4 : World}
    (hB : ∀ k, k < w.heap.size + 2 → w4.heap[k]? = W.heap[k]?) (hz4 : w.heap.size + 2 ≤ w4.heap.size) (hb4 : Below w.heap.size W w4) (hown : w4.ownsRow (w.heap.size + 2) 29 8 (.slice (some ⟨g, 0, none⟩) (c + 1) cg) (c + 1) (evCells E (takenF fr E pre) ++ (E x).cells.toList)) (o : Obj) :
    FwI w fr n E (pre ++ [x]) (.slice (some ⟨g, 0, none⟩) (c + 1) cg) (((w4.alloc o).setCell ⟨w.heap.size + 1, 0, none⟩ (.slice (some ⟨g, 0, none⟩) (c + 1) cg)).setCell ⟨w.heap.size + 1, 1, none⟩ (.int .i64 (nextP (E x).position))) := by
  obtain ⟨w6, hw6⟩ : ∃ w6, (((w4.alloc o).setCell ⟨w.heap.size + 1, 0, none⟩ (.slice (some ⟨g, 0, none⟩) (c + 1) cg)).setCell ⟨w.heap.size + 1, 1, none⟩ (.int .i64 (nextP (E x).position))) = w6 := ⟨_, rfl⟩
  have hoth : ∀ k, k ≠ w.heap.size + 1 → k < w4.heap.size → w6.heap[k]? = w4.heap[k]? := fun k hk hk2 => by
    rw [← hw6, Below.heap_setCell _ _ _ _ (by show k ≠ w.heap.size + 1; omega), Below.heap_setCell _ _ _ _ (by show k ≠ w.heap.size + 1; omega), Below.heap_alloc _ _ _ hk2]
  have hpag : w6.heap[w.heap.size + 1]? = some (.cells #[.slice (some ⟨g, 0, none⟩) (c + 1) cg, .int .i64 (nextP (E x).position), .bool true] 31) := by
    have e0 := (Below.heap_alloc w4 o _ (show w.heap.size + 1 < w4.heap.size by omega)).trans ((hB _ (by omega)).trans h.pag)
    have e1 := heap_setCell_same e0 (off := 0) (.slice (some ⟨g, 0, none⟩) (c + 1) cg)
    have e2 := heap_setCell_same e1 (off := 1) (.int .i64 (nextP (E x).position))
    rw [← hw6]
    exact e2
  have hbw : Below w.heap.size W w6 := by
    rw [← hw6]
    exact ((hb4.alloc (by omega) o).setCell (p := ⟨w.heap.size + 1, 0, none⟩) (by dsimp only; omega) _).setCell (p := ⟨w.heap.size + 1, 1, none⟩) (by dsimp only; omega) _
  have hown6 : w6.ownsRow (w.heap.size + 2) 29 8 (.slice (some ⟨g, 0, none⟩) (c + 1) cg) (c + 1) (evCells E (takenF fr E pre) ++ (E x).cells.toList) :=
    own_same hown (fun k hk => by have := hown.lt k hk; exact hoth k (by omega) this.2)
  have ht := takenF_take (fr := fr) (E := E) (pre := pre) hx
  have hlen : (takenF fr E (pre ++ [x])).length = c + 1 := by rw [ht, List.length_append, hc]; rfl
  rw [hw6]
  refine ⟨((hoth _ (by omega) (by omega)).trans (hB _ (by omega))).trans h.res, ?_, ?_, ?_, ?_, h.below.trans hbw⟩
  · rw [ht, nextF_snoc]; exact hpag
  · rw [hlen, ht, evCells_snoc]; exact hown6
  · rw [hlen]
    have := h.few
    rw [hc] at this
    omega
  · have h1 : w4.heap.size ≤ w6.heap.size := by
      rw [← hw6]
      simp [World.setCell]
    omega

set_option maxRecDepth 100000 in
set_option maxHeartbeats 2000000 in
theorem forwardBy_any (ao : Option Addr) (len cap : Nat) (fr n : Int) (E : Nat → Ev) (hlen : len ≤ 1000) (hpos : ∀ i, -9223372036854775808 ≤ (E i).position ∧ (E i).position ≤ 9223372036854775807) (h0 : 0 ≤ fr) (h1 : 1 ≤ n) (h2 : n ≤ 100) (w : World) (hE : EvArg w.heap.size w ao len E) :
    Calls Try.prog 19 #[.func (.func 20) #[] #[], .slice ao len cap, .int .i64 fr, .int .i64 n] w (FwPost w fr n E len) := by
  have hsf : ∀ (w : World) (a : Addr) (k : FloatKind) (b : Nat) (m : Mode), (store a (.float k b) m).run Try.prog w = stored Try.prog w a (.float k b) m := fun w a k b m => run_store Try.prog w a _ m rfl
  have HE := Lib.hid hE; clear hE
  go_enter Try.func19, Try.ntmps19
  go_wp2_with fail
  refine (wrong_no fr n h0 h1 h2 _).mono ?_
  rintro en w1 ⟨rfl, rfl⟩
  go_wp2_with fail
  go_loopg [21] len (fun g i wr => ∃ (k : Nat) (v : Value), g = len - k ∧ k ≤ len ∧ i = .int .i64 k ∧ FwI w fr n E (List.range k) v wr)
  case atStart =>
    refine ⟨0, .slice none 0 0, by omega, by omega, rfl, ?_, ?_, World.ownsRow_nil _ _ _ _, by simp [takenF]; omega, by simp, ?_⟩
    · simp only [heap_alloc_if, size_alloc_one]
      simp
    · simp only [heap_alloc_if, size_alloc_one]
      simp [takenF, nextF]
    · exact ((Below.refl _ w).alloc (Nat.le_refl _) _).alloc (by simp) _
  case round =>
    obtain ⟨k, v, hg, hk, rfl, hi⟩ := hrel
    have HL := Lib.hid hg; clear hg
    by_cases hlt : k < len
    · obtain ⟨b, off, rfl, hbn, hEi⟩ := (HE.out.low hi.below).at_ (by omega)
      have g0 := hEi.c0 k hlt
      have g1 := hEi.c1 k hlt
      have g2 := hEi.c2 k hlt
      have g3 := hEi.c3 k hlt
      have g4 := hEi.c4 k hlt
      have g5 := hEi.c5 k hlt
      have g6 := hEi.c6 k hlt
      have g7 := hEi.c7 k hlt
      have hl : (k : Int) < (len : Int) := by omega
      have hw1 : IntKind.i64.wrap ((k : Int) + 1) = (k : Int) + 1 := IntWalk.i64_in _ (by omega)
      obtain ⟨Bx, hBx⟩ : ∃ Bx, wr.heap.size = Bx := ⟨_, rfl⟩
      obtain ⟨vo, vc, rfl⟩ := row_slice hi.own
      obtain ⟨c, hc⟩ : ∃ c, (takenF fr E (List.range k)).length = c := ⟨_, rfl⟩
      obtain ⟨nx, hnx⟩ : ∃ nx, nextF fr E (takenF fr E (List.range k)) = nx := ⟨_, rfl⟩
      rw [hc] at hi
      have HI := Lib.hid (And.intro hi (And.intro hc hnx)); clear hi hEi hc hnx
      by_cases hps : (E k).position < fr
      · go_wp2_with (go_at_call 20; refine (position_any (E k) _).mono ?_; rintro en w1 ⟨rfl, e1⟩; replace e1 := Lib.hid e1)
        have hf2 := (fw_facts HI.out.1 (E k) e1.out).1.skip hps
        rw [← List.range_succ] at hf2
        go_roundg (len - (k + 1))
        case measure => have := HL.out; omega
        exact ⟨k + 1, _, by omega, by omega, rfl, hf2⟩
      · go_wp2_with (
          go_at_call 20
          refine (position_any (E k) _).mono ?_
          rintro en w1 ⟨rfl, e1⟩
          obtain ⟨hi2, hx2⟩ := fw_facts HI.out.1 (E k) e1
          clear e1
          rw [hBx] at hx2
          have hpg := hi2.pag
          rw [HI.out.2.2] at hpg
          have hrs := hi2.res
          have hRd := RdF.of hx2.bx
          have HH := Lib.hid (And.intro hi2 hx2)
          clear hi2 hx2
          have p0 : w1.cell? ⟨w.heap.size + 1, 0, none⟩ = some (.slice vo c vc) := (by simp [World.cell?, hpg])
          have p1 : w1.cell? ⟨w.heap.size + 1, 1, none⟩ = some (.int .i64 nx) := (by simp [World.cell?, hpg])
          have p2 : w1.cell? ⟨w.heap.size + 1, 2, none⟩ = some (.bool true) := (by simp [World.cell?, hpg])
          have q2 : w1.frozen? ⟨w.heap.size + 1, 2, none⟩ = false := (by simp [World.frozen?, hpg])
          have r0 : w1.cell? ⟨w.heap.size, 0, none⟩ = some (.slice none 0 0) := (by simp [World.cell?, hrs])
          have r1 : w1.cell? ⟨w.heap.size, 1, none⟩ = some (.int .i64 0) := (by simp [World.cell?, hrs])
          have r2 : w1.cell? ⟨w.heap.size, 2, none⟩ = some (.bool false) := (by simp [World.cell?, hrs])
          have s0 : w1.frozen? ⟨w.heap.size, 0, none⟩ = false := (by simp [World.frozen?, hrs])
          have s1 : w1.frozen? ⟨w.heap.size, 1, none⟩ = false := (by simp [World.frozen?, hrs])
          have s2 : w1.frozen? ⟨w.heap.size, 2, none⟩ = false := (by simp [World.frozen?, hrs])
          clear hpg hrs
          by_cases hf : (c : Int) = n)
        · obtain ⟨f0, f1, f2, hown, hbel⟩ := fw_done (W := w1.setCell ⟨w.heap.size + 1, 2, none⟩ (.bool false)) (.slice vo c vc) nx false ((Below.heap_setCell _ _ _ _ (by show w.heap.size ≠ w.heap.size + 1; omega)).trans HH.out.1.res) (own_same HH.out.1.own (fun g hg => Below.heap_setCell _ _ _ _ (by have := (HH.out.1.own.lt g hg).1; show g ≠ w.heap.size + 1; omega))) (HH.out.1.below.setCell (p := ⟨w.heap.size + 1, 2, none⟩) (by dsimp only; omega) _)
          refine bodyPost_ret (v := .tuple #[.agg #[.slice vo c vc, .int .i64 nx, .bool false], .int .i64 0]) ?_ rfl ⟨takenF fr E (List.range k), false, .slice vo c vc, ?_, ?_, hbel, Or.inr ⟨rfl, k, hlt, rfl, ?_, by omega⟩⟩
          · simp [results, Try.results19, go_sem, f0, f1, f2]
          · rw [HI.out.2.2]
          · exact hown
          · rw [HI.out.2.1]; exact hf
        · have hm : Try.prog.follows .mixedOrders = true := by kernel_rfl
          obtain ⟨i0, hi0, hz0, hs0, hb0'⟩ := info_parts info29
          have hRdd : RdF (E k) Bx w1.drew := hRd
          have hcm : c ≤ 100 := by have := HH.out.1.few; have := HI.out.2.1; omega
          have hP1 : w.heap.size + 1 < w1.heap.size := by have := HH.out.1.size; omega
          have HO := Lib.hid (frow_pre (E k) HH.out.1 HI.out.2.1)
          have hH3 : RdF (E k) Bx (w1.drew.alloc (.cells (E k).cells 29)) := hRdd.keep (Below.heap_alloc _ _ _ (lt_of_block HH.out.2.bx))
          refine plain_region hm (wpAny_of_held (S := RdF (E k) Bx) _ _ _ _ ?_)
          refine wpAnyH_take (i := 0) (v := ?_) (by simp; rfl) (by kernel_rfl) (by kernel_rfl) (by kernel_rfl) (fun _ _ _ h => h) (Or.inl ⟨by rfl, ?_⟩) hRdd ?_
          rotate_left
          · intro w' hS
            obtain ⟨s2, s3, s4, s5, s6, s7, s8, s9⟩ := hS
            go_simp
            rfl
          simp only [Act.put, List.setIfInBounds_toArray, List.set_cons_zero, List.set_cons_succ]
          refine wpAnyH_take (i := 2) (v := ?_) (by simp; rfl) (by kernel_rfl) (by kernel_rfl) (by kernel_rfl) (fun _ _ _ h => h) (Or.inl ⟨by rfl, ?_⟩) hRdd ?_
          rotate_left
          · intro w' hS
            obtain ⟨s2, s3, s4, s5, s6, s7, s8, s9⟩ := hS
            go_simp
            rfl
          simp only [Act.put, List.setIfInBounds_toArray, List.set_cons_zero, List.set_cons_succ]
          refine wpAnyH_take (i := 5) (v := ?_) (by simp; rfl) (by kernel_rfl) (by kernel_rfl) (by kernel_rfl) (fun _ _ _ h => h) (Or.inl ⟨by rfl, ?_⟩) hRdd ?_
          rotate_left
          · intro w' hS
            obtain ⟨s2, s3, s4, s5, s6, s7, s8, s9⟩ := hS
            go_simp
            rfl
          simp only [Act.put, List.setIfInBounds_toArray, List.set_cons_zero, List.set_cons_succ]
          refine wpAnyH_take (i := 6) (v := ?_) (by simp; rfl) (by kernel_rfl) (by kernel_rfl) (by kernel_rfl) (fun _ _ _ h => h) (Or.inl ⟨by rfl, ?_⟩) hRdd ?_
          rotate_left
          · intro w' hS
            obtain ⟨s2, s3, s4, s5, s6, s7, s8, s9⟩ := hS
            go_simp
            rfl
          simp only [Act.put, List.setIfInBounds_toArray, List.set_cons_zero, List.set_cons_succ]
          refine wpAnyH_ready (rs := [1, 3]) (by kernel_rfl) (by simp) ?_
          refine AllReadyH.cons (by simp; rfl) (fun K hK => ?_) (AllReadyH.cons (by simp; rfl) (fun K hK => ?_) AllReadyH.nil)
          · go_simp
            refine hK.out _ _ hRdd (fun hHeld => ?_)
            clear hK K hHeld
            try simp only [Act.put, List.setIfInBounds_toArray, List.set_cons_zero, List.set_cons_succ]
            refine wpAnyH_ready (rs := [3]) (by kernel_rfl) (by simp) ?_
            refine AllReadyH.cons (by simp; rfl) (fun K hK => ?_) AllReadyH.nil
            go_simp
            refine hK.out _ _ hH3 (fun hHeld => ?_)
            clear hK K hHeld
            try simp only [Act.put, List.setIfInBounds_toArray, List.set_cons_zero, List.set_cons_succ]
            refine wpAnyH_ready (rs := [4]) (by kernel_rfl) (by simp) ?_
            refine AllReadyH.cons (by simp; rfl) (fun K hK => ?_) AllReadyH.nil
            refine step_append_lies _ (by rfl) (.tmp 26) (.tmp 28) 22 rfl (w.heap.size + 2) 29 i0 _ 8 88 Try.underlying22 hi0 hz0 hs0 hb0' rfl (by decide) (.slice vo c vc) c (evCells E (takenF fr E (List.range k))) rfl HO.out.1 ⟨w1.heap.size, 0, none⟩ 1 1 (E k).cells.toList rfl rfl HO.out.2.1 HO.out.2.2.1 (by decide) (by unfold maxLen; omega) (by omega) HO.out.2.2.2 (w1.heap.size + 1) (by simp) ?_
            intro g cg w4 hown4 hgr4 hg4 hlt4
            have hG := fgrown_kept HH.out.1 HH.out.2 hgr4
            have hH4 : RdF (E k) Bx w4 := hRd.keep hG.2.1
            have HG := Lib.hid (And.intro hG (And.intro hown4 hlt4)); clear hG hown4 hgr4 hg4 hlt4
            refine hK.out _ _ hH4 (fun hHeld => ?_)
            clear hK K hHeld
            try simp only [Act.put, List.setIfInBounds_toArray, List.set_cons_zero, List.set_cons_succ]
            refine wpAnyH_take (i := 9) (v := ?_) (by simp; rfl) (by kernel_rfl) (by kernel_rfl) (by kernel_rfl) (fun _ _ _ h => h) (Or.inl ⟨by rfl, ?_⟩) hH4 ?_
            rotate_left
            · intro w' hS
              obtain ⟨s2, s3, s4, s5, s6, s7, s8, s9⟩ := hS
              go_simp
              rfl
            simp only [Act.put, List.setIfInBounds_toArray, List.set_cons_zero, List.set_cons_succ]
            refine wpAnyH_ready (rs := [7]) (by kernel_rfl) (by simp) ?_
            refine AllReadyH.cons (by simp; rfl) (fun K hK => ?_) AllReadyH.nil
            go_simp
            go_at_call 20
            refine (position_any (E k) _).mono ?_
            rintro en w5 ⟨rfl, hw5⟩
            have hx5 : w5.heap[Bx]? = w4.heap[Bx]? := by rw [hw5]; exact Below.heap_alloc _ _ _ HG.out.1.2.2.1
            have hH5 : RdF (E k) Bx w5 := hH4.keep hx5
            have H5 := Lib.hid hw5; clear hw5 hx5
            refine hK.out _ _ hH5 (fun hHeld => ?_)
            clear hK K hHeld
            try simp only [Act.put, List.setIfInBounds_toArray, List.set_cons_zero, List.set_cons_succ]
            refine wpAnyH_ready (rs := [8]) (by kernel_rfl) (by simp) ?_
            refine AllReadyH.cons (by simp; rfl) (fun K hK => ?_) AllReadyH.nil
            go_simp
            go_at_call 28
            refine (nextP_any _ (hpos k).1 (hpos k).2 _).mono ?_
            rintro en w5' ⟨rfl, e5⟩
            subst e5
            refine hK.out _ _ hH5 (fun hHeld => ?_)
            clear hK K hHeld
            try simp only [Act.put, List.setIfInBounds_toArray, List.set_cons_zero, List.set_cons_succ]
            have hp4 : w5'.heap[w.heap.size + 1]? = some (.cells #[.slice vo c vc, .int .i64 nx, .bool true] 31) := by
              have e := (HG.out.1.2.2.2.1 (w.heap.size + 1) (by omega)).trans HH.out.1.pag
              rw [HI.out.2.2] at e
              rw [H5.out]
              exact (Below.heap_alloc w4 (.cells (E k).cells 29) _ (lt_of_block e)).trans e
            have u0 : w5'.cell? ⟨w.heap.size + 1, 0, none⟩ = some (.slice vo c vc) := by simp [World.cell?, hp4]
            have u1 : w5'.cell? ⟨w.heap.size + 1, 1, none⟩ = some (.int .i64 nx) := by simp [World.cell?, hp4]
            have v0 : w5'.frozen? ⟨w.heap.size + 1, 0, none⟩ = false := by simp [World.frozen?, hp4]
            have v1 : w5'.frozen? ⟨w.heap.size + 1, 1, none⟩ = false := by simp [World.frozen?, hp4]
            clear hp4
            have hxP : Bx ≠ w.heap.size + 1 := by have := HH.out.2.far; omega
            have hH6 : ∀ v, RdF (E k) Bx (w5'.setCell ⟨w.heap.size + 1, 0, none⟩ v) := fun v => hH5.keep (Below.heap_setCell _ _ _ _ hxP)
            have hH7 : ∀ v u, RdF (E k) Bx ((w5'.setCell ⟨w.heap.size + 1, 0, none⟩ v).setCell ⟨w.heap.size + 1, 1, none⟩ u) := fun v u => (hH6 v).keep (Below.heap_setCell _ _ _ _ hxP)
            refine wpAnyH_ready (rs := [10]) (by kernel_rfl) (by simp) ?_
            refine AllReadyH.cons (by simp; rfl) (fun K hK => ?_) AllReadyH.nil
            go_simp
            refine hK.out _ _ (hH6 _) (fun hHeld => ?_)
            clear hK K hHeld
            try simp only [Act.put, List.setIfInBounds_toArray, List.set_cons_zero, List.set_cons_succ]
            refine wpAnyH_take (i := 11) (v := ?_) (by simp; rfl) (by kernel_rfl) (by kernel_rfl) (by kernel_rfl) (fun _ _ _ h => h) (Or.inl ⟨by rfl, ?_⟩) (hH6 _) ?_
            rotate_left
            · intro w' hS
              obtain ⟨s2, s3, s4, s5, s6, s7, s8, s9⟩ := hS
              go_simp
              rfl
            simp only [Act.put, List.setIfInBounds_toArray, List.set_cons_zero, List.set_cons_succ]
            refine wpAnyH_ready (rs := [12]) (by kernel_rfl) (by simp) ?_
            refine AllReadyH.cons (by simp; rfl) (fun K hK => ?_) AllReadyH.nil
            go_simp
            refine hK.out _ _ (hH7 _ _) (fun hHeld => ?_)
            clear hK K hHeld
            try simp only [Act.put, List.setIfInBounds_toArray, List.set_cons_zero, List.set_cons_succ]
            refine wpAnyH_done (by kernel_rfl) ?_ _
            dsimp only [onlyK]
            go_wp2
            have z1 := HH.out.1.grow (x := k) (by omega) HI.out.2.1 hf HG.out.1.2.2.2.1 HG.out.1.1 HG.out.1.2.2.2.2 HG.out.2.1 (.cells (E k).cells 29)
            rw [← H5.out, ← List.range_succ] at z1
            go_roundg (len - (k + 1))
            case measure => have := HL.out; omega
            exact ⟨k + 1, _, by omega, by omega, rfl, z1⟩
          · go_simp
            refine hK.out _ _ hH3 (fun hHeld => ?_)
            clear hK K hHeld
            try simp only [Act.put, List.setIfInBounds_toArray, List.set_cons_zero, List.set_cons_succ]
            refine wpAnyH_ready (rs := [1]) (by kernel_rfl) (by simp) ?_
            refine AllReadyH.cons (by simp; rfl) (fun K hK => ?_) AllReadyH.nil
            go_simp
            refine hK.out _ _ hH3 (fun hHeld => ?_)
            clear hK K hHeld
            try simp only [Act.put, List.setIfInBounds_toArray, List.set_cons_zero, List.set_cons_succ]
            refine wpAnyH_ready (rs := [4]) (by kernel_rfl) (by simp) ?_
            refine AllReadyH.cons (by simp; rfl) (fun K hK => ?_) AllReadyH.nil
            refine step_append_lies _ (by rfl) (.tmp 26) (.tmp 28) 22 rfl (w.heap.size + 2) 29 i0 _ 8 88 Try.underlying22 hi0 hz0 hs0 hb0' rfl (by decide) (.slice vo c vc) c (evCells E (takenF fr E (List.range k))) rfl HO.out.1 ⟨w1.heap.size, 0, none⟩ 1 1 (E k).cells.toList rfl rfl HO.out.2.1 HO.out.2.2.1 (by decide) (by unfold maxLen; omega) (by omega) HO.out.2.2.2 (w1.heap.size + 1) (by simp) ?_
            intro g cg w4 hown4 hgr4 hg4 hlt4
            have hG := fgrown_kept HH.out.1 HH.out.2 hgr4
            have hH4 : RdF (E k) Bx w4 := hRd.keep hG.2.1
            have HG := Lib.hid (And.intro hG (And.intro hown4 hlt4)); clear hG hown4 hgr4 hg4 hlt4
            refine hK.out _ _ hH4 (fun hHeld => ?_)
            clear hK K hHeld
            try simp only [Act.put, List.setIfInBounds_toArray, List.set_cons_zero, List.set_cons_succ]
            refine wpAnyH_take (i := 9) (v := ?_) (by simp; rfl) (by kernel_rfl) (by kernel_rfl) (by kernel_rfl) (fun _ _ _ h => h) (Or.inl ⟨by rfl, ?_⟩) hH4 ?_
            rotate_left
            · intro w' hS
              obtain ⟨s2, s3, s4, s5, s6, s7, s8, s9⟩ := hS
              go_simp
              rfl
            simp only [Act.put, List.setIfInBounds_toArray, List.set_cons_zero, List.set_cons_succ]
            refine wpAnyH_ready (rs := [7]) (by kernel_rfl) (by simp) ?_
            refine AllReadyH.cons (by simp; rfl) (fun K hK => ?_) AllReadyH.nil
            go_simp
            go_at_call 20
            refine (position_any (E k) _).mono ?_
            rintro en w5 ⟨rfl, hw5⟩
            have hx5 : w5.heap[Bx]? = w4.heap[Bx]? := by rw [hw5]; exact Below.heap_alloc _ _ _ HG.out.1.2.2.1
            have hH5 : RdF (E k) Bx w5 := hH4.keep hx5
            have H5 := Lib.hid hw5; clear hw5 hx5
            refine hK.out _ _ hH5 (fun hHeld => ?_)
            clear hK K hHeld
            try simp only [Act.put, List.setIfInBounds_toArray, List.set_cons_zero, List.set_cons_succ]
            refine wpAnyH_ready (rs := [8]) (by kernel_rfl) (by simp) ?_
            refine AllReadyH.cons (by simp; rfl) (fun K hK => ?_) AllReadyH.nil
            go_simp
            go_at_call 28
            refine (nextP_any _ (hpos k).1 (hpos k).2 _).mono ?_
            rintro en w5' ⟨rfl, e5⟩
            subst e5
            refine hK.out _ _ hH5 (fun hHeld => ?_)
            clear hK K hHeld
            try simp only [Act.put, List.setIfInBounds_toArray, List.set_cons_zero, List.set_cons_succ]
            have hp4 : w5'.heap[w.heap.size + 1]? = some (.cells #[.slice vo c vc, .int .i64 nx, .bool true] 31) := by
              have e := (HG.out.1.2.2.2.1 (w.heap.size + 1) (by omega)).trans HH.out.1.pag
              rw [HI.out.2.2] at e
              rw [H5.out]
              exact (Below.heap_alloc w4 (.cells (E k).cells 29) _ (lt_of_block e)).trans e
            have u0 : w5'.cell? ⟨w.heap.size + 1, 0, none⟩ = some (.slice vo c vc) := by simp [World.cell?, hp4]
            have u1 : w5'.cell? ⟨w.heap.size + 1, 1, none⟩ = some (.int .i64 nx) := by simp [World.cell?, hp4]
            have v0 : w5'.frozen? ⟨w.heap.size + 1, 0, none⟩ = false := by simp [World.frozen?, hp4]
            have v1 : w5'.frozen? ⟨w.heap.size + 1, 1, none⟩ = false := by simp [World.frozen?, hp4]
            clear hp4
            have hxP : Bx ≠ w.heap.size + 1 := by have := HH.out.2.far; omega
            have hH6 : ∀ v, RdF (E k) Bx (w5'.setCell ⟨w.heap.size + 1, 0, none⟩ v) := fun v => hH5.keep (Below.heap_setCell _ _ _ _ hxP)
            have hH7 : ∀ v u, RdF (E k) Bx ((w5'.setCell ⟨w.heap.size + 1, 0, none⟩ v).setCell ⟨w.heap.size + 1, 1, none⟩ u) := fun v u => (hH6 v).keep (Below.heap_setCell _ _ _ _ hxP)
            refine wpAnyH_ready (rs := [10]) (by kernel_rfl) (by simp) ?_
            refine AllReadyH.cons (by simp; rfl) (fun K hK => ?_) AllReadyH.nil
            go_simp
            refine hK.out _ _ (hH6 _) (fun hHeld => ?_)
            clear hK K hHeld
            try simp only [Act.put, List.setIfInBounds_toArray, List.set_cons_zero, List.set_cons_succ]
            refine wpAnyH_take (i := 11) (v := ?_) (by simp; rfl) (by kernel_rfl) (by kernel_rfl) (by kernel_rfl) (fun _ _ _ h => h) (Or.inl ⟨by rfl, ?_⟩) (hH6 _) ?_
            rotate_left
            · intro w' hS
              obtain ⟨s2, s3, s4, s5, s6, s7, s8, s9⟩ := hS
              go_simp
              rfl
            simp only [Act.put, List.setIfInBounds_toArray, List.set_cons_zero, List.set_cons_succ]
            refine wpAnyH_ready (rs := [12]) (by kernel_rfl) (by simp) ?_
            refine AllReadyH.cons (by simp; rfl) (fun K hK => ?_) AllReadyH.nil
            go_simp
            refine hK.out _ _ (hH7 _ _) (fun hHeld => ?_)
            clear hK K hHeld
            try simp only [Act.put, List.setIfInBounds_toArray, List.set_cons_zero, List.set_cons_succ]
            refine wpAnyH_done (by kernel_rfl) ?_ _
            dsimp only [onlyK]
            go_wp2
            have z1 := HH.out.1.grow (x := k) (by omega) HI.out.2.1 hf HG.out.1.2.2.2.1 HG.out.1.1 HG.out.1.2.2.2.2 HG.out.2.1 (.cells (E k).cells 29)
            rw [← H5.out, ← List.range_succ] at z1
            go_roundg (len - (k + 1))
            case measure => have := HL.out; omega
            exact ⟨k + 1, _, by omega, by omega, rfl, z1⟩
    · obtain rfl : k = len := by omega
      have hnlt : ¬ (k : Int) < (k : Int) := by omega
      obtain ⟨vo, vc, rfl⟩ := row_slice hi.own
      have hpg := hi.pag
      have hrs := hi.res
      have p0 : wr.cell? ⟨w.heap.size + 1, 0, none⟩ = some (.slice vo (takenF fr E (List.range k)).length vc) := by simp [World.cell?, hpg]
      have p1 : wr.cell? ⟨w.heap.size + 1, 1, none⟩ = some (.int .i64 (nextF fr E (takenF fr E (List.range k)))) := by simp [World.cell?, hpg]
      have p2 : wr.cell? ⟨w.heap.size + 1, 2, none⟩ = some (.bool true) := by simp [World.cell?, hpg]
      have r0 : wr.cell? ⟨w.heap.size, 0, none⟩ = some (.slice none 0 0) := by simp [World.cell?, hrs]
      have r1 : wr.cell? ⟨w.heap.size, 1, none⟩ = some (.int .i64 0) := by simp [World.cell?, hrs]
      have r2 : wr.cell? ⟨w.heap.size, 2, none⟩ = some (.bool false) := by simp [World.cell?, hrs]
      have s0 : wr.frozen? ⟨w.heap.size, 0, none⟩ = false := by simp [World.frozen?, hrs]
      have s1 : wr.frozen? ⟨w.heap.size, 1, none⟩ = false := by simp [World.frozen?, hrs]
      have s2 : wr.frozen? ⟨w.heap.size, 2, none⟩ = false := by simp [World.frozen?, hrs]
      have HI := Lib.hid hi; clear hi hpg hrs
      go_wp2
      obtain ⟨f0, f1, f2, hown, hbel⟩ := fw_done (.slice vo (takenF fr E (List.range k)).length vc) (nextF fr E (takenF fr E (List.range k))) true HI.out.res HI.out.own HI.out.below
      refine bodyPost_ret (v := .tuple #[.agg #[.slice vo (takenF fr E (List.range k)).length vc, .int .i64 (nextF fr E (takenF fr E (List.range k))), .bool true], .int .i64 0]) ?_ rfl ⟨takenF fr E (List.range k), true, .slice vo (takenF fr E (List.range k)).length vc, rfl, hown, hbel, Or.inl ⟨rfl, rfl, HI.out.few⟩⟩
      simp [results, Try.results19, go_sem, f0, f1, f2]
end Go.Proofs.Ytimmdcajadddmaa
