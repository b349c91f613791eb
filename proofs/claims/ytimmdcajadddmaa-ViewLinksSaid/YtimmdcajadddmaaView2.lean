/-
  slices.Backward over a list of events: the iterator's contract. Conditions: none.
-/
import Derived.Test.YtimmdcajadddmaaView1
import Derived.RangeFuncNested
import Derived.RangeFuncBound
import Derived.RangeFuncCalls
import Derived.RangeFuncLeaves
import Derived.Shelf.Abstract
import Derived.Shelf.RegionOpen
import Derived.WalkKit
import Derived.OwnWalkIn
import Derived.TacticsInMore
import Derived.LoopNIn
import Derived.LoopIn
namespace Go.Proofs.Ytimmdcajadddmaa
open Go.RowKit Go.Lib Go.Shelf
attribute [local go_sem] Oper.semAt_some

/-- The events of a list, as they lie in memory. -/
structure EvIn (w : World) (b off len : Nat) (E : Nat → Ev) : Prop where
  bl : b < w.heap.size
  c0 : ∀ i, i < len → w.cell? ⟨b, off + i * 8, none⟩ = some (.int .i64 (E i).id)
  c1 : ∀ i, i < len → w.cell? ⟨b, off + i * 8 + 1, none⟩ = some (.string (E i).ty)
  c2 : ∀ i, i < len → w.cell? ⟨b, off + i * 8 + 2, none⟩ = some (.string (E i).data)
  c3 : ∀ i, i < len → w.cell? ⟨b, off + i * 8 + 3, none⟩ = some (.float .f64 (E i).value)
  c4 : ∀ i, i < len → w.cell? ⟨b, off + i * 8 + 4, none⟩ = some (.string (E i).stream)
  c5 : ∀ i, i < len → w.cell? ⟨b, off + i * 8 + 5, none⟩ = some (.int .i64 (E i).version)
  c6 : ∀ i, i < len → w.cell? ⟨b, off + i * 8 + 6, none⟩ = some (.int .i64 (E i).position)
  c7 : ∀ i, i < len → w.cell? ⟨b, off + i * 8 + 7, none⟩ = some (.int .i64 (E i).time)
theorem EvIn.block {w w' : World} {b off len : Nat} {E : Nat → Ev} (h : EvIn w b off len E) (hs : w.heap.size ≤ w'.heap.size) (hb : w'.heap[b]? = w.heap[b]?) : EvIn w' b off len E :=
  ⟨Nat.lt_of_lt_of_le h.bl hs, fun i hi => (World.cell?_of_block (w := w) hb).trans (h.c0 i hi), fun i hi => (World.cell?_of_block (w := w) hb).trans (h.c1 i hi), fun i hi => (World.cell?_of_block (w := w) hb).trans (h.c2 i hi), fun i hi => (World.cell?_of_block (w := w) hb).trans (h.c3 i hi),
   fun i hi => (World.cell?_of_block (w := w) hb).trans (h.c4 i hi), fun i hi => (World.cell?_of_block (w := w) hb).trans (h.c5 i hi), fun i hi => (World.cell?_of_block (w := w) hb).trans (h.c6 i hi), fun i hi => (World.cell?_of_block (w := w) hb).trans (h.c7 i hi)⟩
theorem EvIn.below {W w : World} {b off len : Nat} {E : Nat → Ev} (h : EvIn W b off len E) (hb : Below W.heap.size W w) : EvIn w b off len E := h.block hb.size (hb.block _ h.bl)
theorem EvIn.low {n₀ : Nat} {W w : World} {b off len : Nat} {E : Nat → Ev} (h : EvIn W b off len E) (hb : Below n₀ W w) (hn : b < n₀) : EvIn w b off len E := h.block hb.size (hb.block _ hn)

/-- What has come when k rounds are over, backward. -/
def downto (len k : Nat) : List Nat := (List.range k).map fun i => len - 1 - i
theorem downto_succ (len k : Nat) : downto len (k + 1) = downto len k ++ [len - 1 - k] := by simp [downto, List.range_succ]
theorem downto_length (len k : Nat) : (downto len k).length = k := by simp [downto]

/-- What a round that goes on keeps: what lay below n₀, and the iterator's own box. -/
def KeepB (n₀ Bs : Nat) (A B : World) : Prop := Below n₀ A B ∧ B.heap[Bs]? = A.heap[Bs]?
theorem keepB_t {n₀ Bs : Nat} {A B C : World} (h : KeepB n₀ Bs A B) (k : KeepB n₀ Bs B C) : KeepB n₀ Bs A C := ⟨h.1.trans k.1, k.2.trans h.2⟩
theorem keepB_b {n₀ Bs : Nat} {w : World} (hn : n₀ ≤ w.heap.size) (hB : Bs < w.heap.size) (W : World) (l : Nat) (o o' : Obj) (hl : w.heap.size ≤ l) (h : W.heap[l]? = some o) (h1 : o.isCells = false) (h2 : o.isWalk = false) : KeepB n₀ Bs W (W.putObj l o') :=
  ⟨belowK_b hn W l o o' hl h h1 h2, World.putObj_heap_other (by omega)⟩

set_option maxRecDepth 100000 in
set_option maxHeartbeats 2000000 in
theorem back1_in (n : Nat) (hn : 1 ≤ n) (l Bs n₀ b off len cap : Nat) (E : Nat → Ev) (hlen : len ≤ 1000) (hb : b < n₀) (J Jx : List Nat → World → Prop)
    (hY : ∀ (pre : List Nat) (x : Nat) (W : World), J pre W → pre.length < len → YieldAt Fence.wide (n - 1) Try.prog l #[.int .i64 (x : Int), (E x).val] W fun e W' =>
      (e = .returned (.bool true) ∧ J (pre ++ [x]) W' ∧ KeepB n₀ Bs W W') ∨ (e = .returned (.bool false) ∧ Jx (pre ++ [x]) W'))
    (W : World) (hBs : W.cell? ⟨Bs, 0, none⟩ = some (.slice (some ⟨b, off, none⟩) len cap)) (hE : EvIn W b off len E) (h0 : J [] W) :
    CallsIn Fence.wide n Try.prog 33 #[.func (.yield l) #[] #[], .pointer (some ⟨Bs, 0, none⟩)] W fun e W' => (∃ v, e = .returned v) ∧
      ((∃ ys, ys = downto len len ∧ J ys W') ∨ (∃ pre, (∃ k, k ≤ len ∧ pre = downto len k) ∧ Jx pre W')) := by
  have hwl : IntKind.i64.wrap ((len : Int) - 1) = (len : Int) - 1 := IntWalk.i64_in _ (by omega)
  refine callsIn_of_wp Try.func33 rfl trivial ?_ rfl
  simp only [Try.ntmps33, List.size_toArray, List.length_cons, List.length_nil, Nat.reduceAdd, Nat.reduceSub, Array.replicate_succ, Array.replicate_zero, List.push_toArray, List.append_toArray, List.nil_append, List.cons_append]
  gi_wp2
  gi_loopw [3] (fun i wr => ∃ k : Nat, k ≤ len ∧ i = .int .i64 ((len : Int) - 1 - k) ∧ J (downto len k) wr ∧ KeepB n₀ Bs W wr)
    (fun i _ => (RowKit.intOf i + 1).toNat)
  case atStart => exact ⟨0, Nat.zero_le _, by simp, h0, Below.refl _ _, rfl⟩
  case round =>
    obtain ⟨k, hk, rfl, hJs, hnx⟩ := hrel
    have hBx : wr.cell? ⟨Bs, 0, none⟩ = some (.slice (some ⟨b, off, none⟩) len cap) := (World.cell?_of_block (w := W) hnx.2).trans hBs
    have hEx := hE.low hnx.1 hb
    by_cases hlt : k < len
    · obtain ⟨j, hj⟩ : ∃ j : Nat, j = len - 1 - k := ⟨_, rfl⟩
      have hji : (len : Int) - 1 - (k : Int) = (j : Int) := by omega
      have hjl : j < len := by omega
      have hj0 : (0 : Int) ≤ (j : Int) := by omega
      have hj1 : (j : Int) < (len : Int) := by omega
      have HJ := Lib.hid (And.intro hj hji)
      rw [hji]
      clear hj hji
      obtain ⟨fn, tmps, assign, body, hy, hR⟩ := hY _ j wr hJs (by rw [downto_length]; exact hlt)
      have g0 := hEx.c0 j hjl
      have g1 := hEx.c1 j hjl
      have g2 := hEx.c2 j hjl
      have g3 := hEx.c3 j hjl
      have g4 := hEx.c4 j hjl
      have g5 := hEx.c5 j hjl
      have g6 := hEx.c6 j hjl
      have g7 := hEx.c7 j hjl
      have hw1 : IntKind.i64.wrap ((j : Int) - 1) = (j : Int) - 1 := IntWalk.i64_in _ (by omega)
      gi_wp2
      refine hR.mono ?_
      rintro e W3 (⟨rfl, hJ3, hk3⟩ | ⟨rfl, hJx3⟩)
      · gi_wp2
        go_roundw
        case rel => exact ⟨k + 1, by omega, by congr 1; have := HJ.out.2; omega, by rw [downto_succ, ← HJ.out.1]; exact hJ3, keepB_t hnx hk3⟩
        case measure => simp [RowKit.intOf]
      · gi_wp2
        refine bodyPost_ret (results_none rfl _ _ _) rfl ?_
        exact ⟨⟨_, rfl⟩, .inr ⟨_, ⟨k + 1, by omega, by rw [downto_succ, HJ.out.1]⟩, hJx3⟩⟩
    · obtain rfl : k = len := by omega
      have hneg : ¬ (0 : Int) ≤ (k : Int) - 1 - (k : Int) := by omega
      gi_wp2
      go_end0
      exact ⟨⟨_, rfl⟩, .inl hJs⟩

set_option maxRecDepth 100000 in
set_option maxHeartbeats 1000000 in
theorem back1_nil_in (n : Nat) (l Bs : Nat) (ao : Option Addr) (cap : Nat) (J : List Nat → World → Prop) (W : World) (hBs : W.cell? ⟨Bs, 0, none⟩ = some (.slice ao 0 cap)) (h0 : J [] W) :
    CallsIn Fence.wide n Try.prog 33 #[.func (.yield l) #[] #[], .pointer (some ⟨Bs, 0, none⟩)] W fun e W' => (∃ v, e = .returned v) ∧ J [] W' := by
  refine callsIn_of_wp Try.func33 rfl trivial ?_ rfl
  simp only [Try.ntmps33, List.size_toArray, List.length_cons, List.length_nil, Nat.reduceAdd, Nat.reduceSub, Array.replicate_succ, Array.replicate_zero, List.push_toArray, List.append_toArray, List.nil_append, List.cons_append]
  gi_wp2
  gi_loopw [3] (fun i wr => i = .int .i64 (-1) ∧ J [] wr) (fun _ _ => 0)
  case atStart => exact ⟨rfl, h0⟩
  case round =>
    obtain ⟨rfl, hJs⟩ := hrel
    gi_wp2
    go_end0
    exact ⟨⟨_, rfl⟩, hJs⟩

set_option maxHeartbeats 1000000 in
theorem backward_any (ao : Option Addr) (len cap : Nat) (w : World) :
    Calls Try.prog 29 #[.slice ao len cap] w fun e w' => e = .returned (.func (.func 33) #[] #[.pointer (some ⟨w.heap.size, 0, none⟩)]) ∧ w' = w.alloc (.cells #[.slice ao len cap] 22) := by
  go_enter Try.func29, Try.ntmps29
  go_wp2
  go_ret
  exact ⟨rfl, rfl⟩

/-- The list of a caller: nil, or its events lie in memory below n₀. -/
structure EvArg (n₀ : Nat) (W : World) (ao : Option Addr) (len : Nat) (E : Nat → Ev) : Prop where
  at_ : 0 < len → ∃ b off, ao = some ⟨b, off, none⟩ ∧ b < n₀ ∧ EvIn W b off len E
theorem EvArg.low {n₀ : Nat} {W w : World} {ao : Option Addr} {len : Nat} {E : Nat → Ev} (h : EvArg n₀ W ao len E) (hb : Below n₀ W w) : EvArg n₀ w ao len E :=
  ⟨fun hl => by obtain ⟨b, off, e, hn, hi⟩ := h.at_ hl; exact ⟨b, off, e, hn, hi.low hb hn⟩⟩

theorem back_stops (n : Nat) (hn : 1 ≤ n) (Bs n₀ : Nat) (ao : Option Addr) (len cap : Nat) (E : Nat → Ev) (hlen : len ≤ 1000) (w : World) (hBs : Bs < w.heap.size) (hn₀ : n₀ ≤ w.heap.size)
    (hc : w.cell? ⟨Bs, 0, none⟩ = some (.slice ao len cap)) (hE : EvArg n₀ w ao len E) :
    SeqStopsK Fence.wide n Try.prog 33 #[.pointer (some ⟨Bs, 0, none⟩)] (fun x : Nat => #[Value.int .i64 (x : Int), (E x).val]) (KeepB n₀ Bs) (fun ys => ys = downto len len)
      (fun pre => ∃ k, k ≤ len ∧ pre = downto len k) len w := fun l J Jx W hW _ _ hY h0 => by
  have hc' := (hW.cell (p := ⟨Bs, 0, none⟩) hBs).trans hc
  by_cases h : len = 0
  · subst h
    exact (back1_nil_in n l Bs ao cap J W hc' h0).mono fun e W' ⟨he, hj⟩ => ⟨he, .inl ⟨_, rfl, hj⟩⟩
  · obtain ⟨b, off, rfl, hb, hEi⟩ := (hE.low (hW.mono hn₀)).at_ (by omega)
    exact back1_in n hn l Bs n₀ b off len cap E hlen hb J Jx hY W hc' hEi h0
end Go.Proofs.Ytimmdcajadddmaa
