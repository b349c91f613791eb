/-
  Package prog: the machine in memory; push. Conditions: none.
-/
import Derived.Test.YtidjnfjpdnjogaaDoorPgP
import Derived.Test.YtidjnfjpdnjogaaDoorGuB
import Derived.Test.YtidjnfjpdnjogaaDoorRound
import Derived.Laws.AppendOwnNone
import Derived.OrdersHeld
import Derived.Deep.RegionHeld
import Derived.Deep.CutBlock
import Derived.Deep.DeepCutAuto
import Derived.RegionDies
import Derived.Deep.AppendLies
namespace Go.Proofs.YtidjnfjpdnjogaaDoor
open Go.RowKit Go.Lib

/-- A region that draws, in a plain frame. -/
theorem plain_region {id : Nat} {P : Program} {ops : Array Oper} {Q : Exit → Act → World → Prop} {a : Act} {w : World} (hm : P.follows .mixedOrders = true)
    (h : wpAny P .any ops (onlyK (Q .normal)) ops.size (Array.replicate ops.size false) a w.drew) : (Code.region id ops true).wp P Q a w :=
  wp_mono (wp_region_any hm h) fun e a w he => by
    cases e <;> first | exact he | exact False.elim he

/-- Of what lies below B nothing turns but the block M. -/
structure Wk (B M : Nat) (w w' : World) : Prop where
  os : w'.os = w.os
  tape : w'.tape = w.tape
  output : w'.output = w.output
  size : w.heap.size ≤ w'.heap.size
  block : ∀ k, k < B → k ≠ M → w'.heap[k]? = w.heap[k]?
theorem Wk.refl (B M : Nat) (w : World) : Wk B M w w := ⟨rfl, rfl, rfl, Nat.le_refl _, fun _ _ _ => rfl⟩
theorem Wk.trans {B M : Nat} {a b c : World} (h : Wk B M a b) (k : Wk B M b c) : Wk B M a c :=
  ⟨k.os.trans h.os, k.tape.trans h.tape, k.output.trans h.output, Nat.le_trans h.size k.size, fun i hi hj => (k.block i hi hj).trans (h.block i hi hj)⟩
theorem Wk.of_below {B M : Nat} {w w' : World} (h : Below w.heap.size w w') (hB : B ≤ w.heap.size) : Wk B M w w' := ⟨h.os, h.tape, h.output, h.size, fun k hk _ => h.block k (Nat.lt_of_lt_of_le hk hB)⟩
theorem Wk.drewN (B M : Nat) (w : World) (d : Nat) : Wk B M w (w.drewN d) := ⟨rfl, rfl, rfl, Nat.le_refl _, fun _ _ _ => rfl⟩
theorem Wk.set {B M : Nat} {a w : World} (h : Wk B M a w) (i : Nat) (v : Value) : Wk B M a (w.setCell ⟨M, i, none⟩ v) :=
  h.trans ⟨rfl, rfl, rfl, by simp [World.setCell], fun _ _ hj => Below.heap_setCell _ _ _ _ hj⟩

def flts (st : List Nat) : List Value := st.reverse.map (Value.float .f64)
theorem flts_cons (f : Nat) (st : List Nat) : flts (f :: st) = flts st ++ [.float .f64 f] := by simp [flts]
theorem flts_length (st : List Nat) : (flts st).length = st.length := by simp [flts]

/-- The machine lies at M; its numbers lie in a row of its own, at B or above. -/
structure Mach (B M : Nat) (e : En) (st : List Nat) (v : Value) (w : World) : Prop where
  at_ : w.heap[M]? = some (.cells (e.cells v) 64)
  own : w.ownsRow B 23 1 v st.length (flts st)
  mb : M < B
  bw : B ≤ w.heap.size
  fit : ∀ f ∈ st, f < 18446744073709551616
section
variable {B M : Nat} {e : En} {st : List Nat} {v : Value} {w w' : World}
theorem Mach.drewN (h : Mach B M e st v w) (d : Nat) : Mach B M e st v (w.drewN d) := ⟨h.at_, h.own, h.mb, h.bw, h.fit⟩
theorem Mach.drew (h : Mach B M e st v w) : Mach B M e st v w.drew := ⟨h.at_, h.own, h.mb, h.bw, h.fit⟩
theorem Mach.below (h : Mach B M e st v w) (hb : Below w.heap.size w w') : Mach B M e st v w' :=
  ⟨(hb.block _ (Nat.lt_of_lt_of_le h.mb h.bw)).trans h.at_, own_same h.own (fun g hg => hb.block g (h.own.lt g hg).2), h.mb, Nat.le_trans h.bw hb.size, h.fit⟩
theorem Mach.lt (h : Mach B M e st v w) : M < w.heap.size := Nat.lt_of_lt_of_le h.mb h.bw
theorem Mach.cells (h : Mach B M e st v w) : w.cell? ⟨M, 0, none⟩ = some (.float .f64 e.s) ∧ w.cell? ⟨M, 1, none⟩ = some (.int .i64 e.id) ∧ w.cell? ⟨M, 2, none⟩ = some (.string e.ty) ∧ w.cell? ⟨M, 3, none⟩ = some (.string e.d) ∧
    w.cell? ⟨M, 4, none⟩ = some (.float .f64 e.v) ∧ w.cell? ⟨M, 5, none⟩ = some (.int .i64 e.ver) ∧ w.cell? ⟨M, 6, none⟩ = some v ∧ w.frozen? ⟨M, 6, none⟩ = false := by
  simp [World.cell?, World.frozen?, h.at_, En.cells]
theorem Mach.slice (h : Mach B M e st v w) : ∃ po pc, v = .slice po st.length pc := by
  rcases h.own.2 with ⟨hv, h0⟩ | ⟨g, cap, cur, hv, _⟩
  · exact ⟨none, 0, by rw [hv, h0]⟩
  · exact ⟨_, _, hv⟩
/-- Another row, in the machine's cell. -/
theorem Mach.put {st' : List Nat} {v' : Value} (hat : w.heap[M]? = some (.cells (e.cells v) 64)) (hown : w.ownsRow B 23 1 v' st'.length (flts st')) (mb : M < B) (bw : B ≤ w.heap.size) (fit : ∀ f ∈ st', f < 18446744073709551616) :
    Mach B M e st' v' (w.setCell ⟨M, 6, none⟩ v') := by
  refine ⟨by rw [heap_setCell_same hat]; simp [En.cells], own_same hown (fun g hg => Below.heap_setCell _ _ _ _ (by have := (hown.lt g hg).1; show g ≠ M; omega)), mb, by simpa [World.setCell] using bw, fit⟩
end

theorem pushed {B M : Nat} {e : En} {st : List Nat} {v : Value} {w w' : World} (h : Mach B M e st v w) (hg : w.grownBy w' v.ownBlock) : w'.heap[M]? = some (.cells (e.cells v) 64) ∧ w'.cell? ⟨M, 6, none⟩ = some v ∧ w'.frozen? ⟨M, 6, none⟩ = false ∧ M < w'.heap.size := by
  have hne : some M ≠ v.ownBlock := fun e => by have := (h.own.lt M e.symm).1; have := h.mb; omega
  have h2 : w'.heap[M]? = some (.cells (e.cells v) 64) := (hg.block M h.lt hne).trans h.at_
  exact ⟨h2, by simp [World.cell?, h2, En.cells], by simp [World.frozen?, h2], Nat.lt_of_lt_of_le h.lt hg.size⟩

theorem info_f : (Tryd.prog.info? 23).map (fun i => (i.zero, i.size, i.bytes)) = some (some (.float .f64 0), 1, 8) := by kernel_rfl

def PushPost (B M : Nat) (en : En) (st : List Nat) (w : World) (e : Ending) (w' : World) : Prop := e = .returned (.tuple #[]) ∧ (∃ v', Mach B M en st v' w') ∧ Wk B M w w'

set_option maxRecDepth 100000 in
theorem push_any (B M : Nat) (en : En) (st : List Nat) (v : Value) (f : Nat) (hf : f < 18446744073709551616) (hn : st.length ≤ 100000) (w : World) (h : Mach B M en st v w) :
    Calls Tryd.prog 46 #[.pointer (some ⟨M, 0, none⟩), .float .f64 f] w (PushPost B M en (oneW f :: st) w) := by
  have hm : Tryd.prog.follows .mixedOrders = true := by kernel_rfl
  obtain ⟨i0, hi0, hz0, hs0, hb0⟩ := info_parts info_f
  have HI := Lib.hid hi0; clear hi0
  have HF := Lib.hid hf; clear hf
  go_enter Tryd.func46, Tryd.ntmps46
  have hM := h.drew
  obtain ⟨-, -, -, -, -, -, c6, c7⟩ := h.cells
  have hz := h.lt
  have hMb := hM.below (below_alloc w.drew (.cells #[.float .f64 (oneW f)] 23))
  have hl1 : st.length + 1 ≤ maxLen := by unfold maxLen; omega
  have hl2 : (st.length + 1) * 8 ≤ 140737488355328 := by omega
  have hbs := hMb.bw
  go_region_law (first | (go_simp; go_at_call 67; refine (canon_any f _).mono ?_; rintro en1 x1 ⟨rfl, rfl⟩) | ((refine step_append_lies _ (by rfl) _ _ _ (by rfl) B 23 i0 (.float .f64 0) 1 8 Tryd.underlying40 HI.out hz0 hs0 hb0 rfl (by decide) v _ _ (by rfl) hMb.own ⟨w.heap.size, 0, none⟩ 1 1 [.float .f64 (oneW f)] (by rfl) (by rfl) (World.news_of_block (cs := #[.float .f64 (oneW f)]) (t := 23) (fr := (0, 0)) (heap_alloc_new w.drew _)) (by simp [Value.oneCell']) (by decide) hl1 hl2 hMb.bw (w.heap.size + 1) (by simp) ?_; intro g cap w1 hown hgr hat hlt; obtain ⟨d1, d0, d2, d3⟩ := pushed hMb hgr)))
  all_goals
    refine bodyPost_end (results_none rfl _ _ _) rfl ⟨rfl, ⟨_, Mach.put (st' := oneW f :: st) d1 (by rw [flts_cons]; exact hown) hMb.mb (Nat.le_trans hMb.bw hgr.size) ?_⟩, ?_⟩
    · intro k hk
      rcases List.mem_cons.1 hk with rfl | hk
      · exact oneW_lt HF.out
      · exact h.fit k hk
    · have h1 : Wk B M w w.drew := Wk.drewN B M w 1
      have h2 : Wk B M w.drew (w.drew.alloc (.cells #[.float .f64 (oneW f)] 23)) := Wk.of_below (below_alloc w.drew _) hM.bw
      exact ((h1.trans h2).trans ⟨hgr.os, hgr.tape, hgr.output, hgr.size, fun k hk _ => hgr.block k (Nat.lt_of_lt_of_le hk hMb.bw) (fun e => by have := (hMb.own.lt k e.symm).1; omega)⟩).set 6 _
end Go.Proofs.YtidjnfjpdnjogaaDoor
