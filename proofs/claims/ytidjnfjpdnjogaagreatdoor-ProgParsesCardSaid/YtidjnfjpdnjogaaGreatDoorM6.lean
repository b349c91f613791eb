/-
  M6: the texts Rf, Cut, Split, Pp1, Pa1, PgQ, one behind the other. Conditions: none.
-/
import Derived.RangeFuncNested
import Derived.RangeFuncBound
import Derived.RangeFuncCalls
import Derived.RangeFuncLeaves
import Derived.Shelf.Abstract
import Derived.Shelf.RegionOpen
import Derived.WalkKit
import Derived.OwnWalkIn
import Derived.TacticsInMore
import Derived.LoopNIn
import Derived.LoopIn
import Derived.Test.YtidjnfjpdnjogaaGreatDoorG
import Derived.Test.YtidjnfjpdnjogaaGreatDoorM1
import Derived.Test.YtidjnfjpdnjogaaGreatDoorM5
/-
  A range over a function whose iterator keeps a variable of its own between two rounds (a box that it stores into), and whose rounds all go on. No program. Conditions: none.
-/
namespace Go.Proofs.YtidjnfjpdnjogaaGreatDoor
open Go Go.RowKit

/-- The three boxes of an iterator lie as they lay. -/
def Boxes (B : Nat) (A A' : World) : Prop := ∀ b, B ≤ b → b < B + 3 → A'.heap[b]? = A.heap[b]?
theorem Boxes.refl (B : Nat) (A : World) : Boxes B A A := fun _ _ _ => rfl
theorem Boxes.trans {B : Nat} {A1 A2 A3 : World} (h : Boxes B A1 A2) (k : Boxes B A2 A3) : Boxes B A1 A3 := fun b h1 h2 => (k b h1 h2).trans (h b h1 h2)
theorem Boxes.put {B l : Nat} (A : World) (o : Obj) (h : B + 3 ≤ l) : Boxes B A (A.putObj l o) := fun _ _ h2 => World.putObj_heap_other (by omega)
/-- How a round ends: it goes on; the loop's two blocks and the iterator's boxes are as they were. -/
def roundEnd (B D : Nat) (I : World → Prop) (W : World) : Exit → Act → World → Prop
  | .normal, _, W' => W'.heap[D]? = W.heap[D]? ∧ W'.heap[D + 1]? = W.heap[D + 1]? ∧ Boxes B W W' ∧ I W'
  | _, _, _ => False
/-- What an iterator owes that yields a list, keeping a box of its own at B. -/
def Yields {α : Type} (n : Nat) (P : Program) (gf : Nat) (lb : Array Value) (encs : α → Array Value) (B : Nat) (L : List α) (w : World) : Prop :=
  ∀ (l : Nat) (J : List α → World → Prop) (W : World), Below w.heap.size w W → (∀ pre A v, J pre A → J pre (A.setCell ⟨B, 0, none⟩ v)) →
    (∀ pre x W1, J pre W1 → (pre ++ [x]) <+: L → YieldAt Fence.wide (n - 1) P l (encs x) W1 fun e W' => e = .returned (.bool true) ∧ J (pre ++ [x]) W' ∧ Boxes B W1 W') →
    J [] W → CallsIn Fence.wide n P gf (#[.func (.yield l) #[] #[]] ++ lb) W fun e W' => (∃ v, e = .returned v) ∧ J L W'

theorem range_over {α : Type} {n : Nat} {P : Program} {g : Operand} {ps : Array Tmp} {assign body : Code} {Q : Exit → Act → World → Prop} {a : Act} {w : World} {gf : Nat} {lb : Array Value}
    (hg : a.eval g = .func (.func gf) #[] lb) (eg : ∀ args w, (callFunc gf args).run P w = .ok (.enter gf args) w) (encs : α → Array Value) (hps : ∀ x, (encs x).size = ps.size) (B : Nat) (hB : B + 3 ≤ w.heap.size) (L : List α)
    (hseq : Yields (n - 1) P gf lb encs B L w) (I : List α → World → Prop) (hIn : ∀ pre W o, I pre W → I pre (W.alloc o)) (hIp : ∀ pre W l o, I pre W → w.heap.size ≤ l → l < w.heap.size + 2 → I pre (W.putObj l o))
    (hIs : ∀ pre W v, I pre W → I pre (W.setCell ⟨B, 0, none⟩ v)) (h0 : I [] w) (a₁ : α → Act)
    (hassign : ∀ (l : Nat) (x : α) (W : World) (K : Act → World → Prop), K (a₁ x) W →
      assign.wpIn (Fence.wide.inRound l) (n - 1 - 1) P (Exit.then K (fun _ _ _ => False)) { tmps := (ps.zip (encs x)).foldl (fun t (p, v) => t.setIfInBounds p v) a.tmps, defers := [] } W)
    (hbody : ∀ (l : Nat) (pre : List α) (x : α) (W : World), I pre W → (pre ++ [x]) <+: L → w.heap.size + 2 ≤ W.heap.size → body.wpIn (Fence.wide.inRound l) (n - 1 - 1) P (roundEnd B w.heap.size (I (pre ++ [x])) W) (a₁ x) W)
    (hdone : ∀ (W : World), I L W → W.heap[w.heap.size]? = some (.deferred (some [])) → Q .normal { a with defers := { target := .collected w.heap.size, args := #[] } :: a.defers } W) :
    (Code.rangeFunc g ps assign body).wpIn Fence.wide n P Q a w := by
  refine wpIn_rangeFunc fun fn hfn => ?_
  obtain ⟨rec, hrec⟩ : ∃ rec : LoopState → Loop, rec = fun st => { state := st, pending := none, fn, tmps := a.tmps, params := ps, assign, body, defers := w.heap.size } := ⟨_, rfl⟩
  have e1 : ∀ st, (rec st).state = st := fun st => by rw [hrec]
  have e2 : ∀ st, (rec st).pending = none := fun st => by rw [hrec]
  obtain ⟨W1, hW1⟩ : ∃ W1, (w.alloc (.deferred (some []))).alloc (.loop (rec .ready)) = W1 := ⟨_, rfl⟩
  have hL1 : W1.heap[w.heap.size + 1]? = some (.loop (rec .ready)) := by
    rw [← hW1]
    have := World.alloc_heap_new (w.alloc (.deferred (some []))) (.loop (rec .ready))
    rwa [World.size_alloc] at this
  have hK1 : W1.heap[w.heap.size]? = some (.deferred (some [])) := by
    rw [← hW1]
    exact (Below.heap_alloc _ _ _ (by simp)).trans (World.alloc_heap_new w _)
  have hI1 : I [] W1 := by rw [← hW1]; exact hIn _ _ _ (hIn _ _ _ h0)
  have hb1 : Below w.heap.size w W1 := by rw [← hW1]; exact ((Below.refl _ w).alloc (Nat.le_refl _) _).alloc (by simp) _
  refine ⟨w.heap.size + 1, [{ target := .collected w.heap.size, args := #[] }], W1, { target := .fn (.func gf) lb, args := #[.func (.yield (w.heap.size + 1)) #[] #[]] }, W1, gf,
    #[.func (.yield (w.heap.size + 1)) #[] #[]] ++ lb, W1, ?_, ?_, ?_, ?_, ?_, ?_⟩
  · rw [← hW1, hrec]; exact run_enterLoop_outer _ _ _ _ _
  · simp only [resolve, hg]
    simp [go_sem]
  · intro f' _; trivial
  · simp [invoke, go_sem, eg]
  · intro h; cases h
  · refine (hseq (w.heap.size + 1) (fun pre W => I pre W ∧ W.heap[w.heap.size + 1]? = some (.loop (rec .ready)) ∧ W.heap[w.heap.size]? = some (.deferred (some []))) W1 hb1 ?_ ?_ ⟨hI1, hL1, hK1⟩).mono ?_
    · rintro pre A v ⟨hi, hl, hk⟩
      exact ⟨hIs pre A v hi, (Below.heap_setCell A _ _ _ (show w.heap.size + 1 ≠ B by omega)).trans hl, (Below.heap_setCell A _ _ _ (show w.heap.size ≠ B by omega)).trans hk⟩
    · rintro pre x W ⟨hi, hl, hk⟩ hx
      have hlt : w.heap.size + 1 < W.heap.size := (Array.getElem?_eq_some_iff.1 hl).1
      have hy := run_yield (P := P) (args := encs x) hl (by rw [hrec]; exact hps x)
      rw [hrec] at hy
      refine ⟨fn, _, assign, body, hy, roundIn_of_wpIn hfn (hassign _ x W _ ⟨_, run_beginRound hl (e1 _), ?_⟩)⟩
      obtain ⟨W2, hW2⟩ : ∃ W2, W.putObj (w.heap.size + 1) (.loop { rec .ready with state := .busy }) = W2 := ⟨_, rfl⟩
      have hl2 : W2.heap[w.heap.size + 1]? = some (.loop { rec .ready with state := .busy }) := by rw [← hW2]; exact World.putObj_heap_same hlt
      have hk2 : W2.heap[w.heap.size]? = some (.deferred (some [])) := by rw [← hW2]; exact (World.putObj_heap_other (by omega)).trans hk
      have hi2 : I pre W2 := by rw [← hW2]; exact hIp _ _ _ _ hi (by omega) (by omega)
      have hx2 : Boxes B W W2 := by rw [← hW2]; exact Boxes.put _ _ (by omega)
      have hz2 : w.heap.size + 2 ≤ W2.heap.size := (Array.getElem?_eq_some_iff.1 hl2).1
      rw [hW2]
      refine wpIn_mono (hbody _ pre x W2 hi2 hx hz2) ?_
      rintro e a3 W3 hp
      cases e with
      | normal =>
        obtain ⟨q1, q2, q3, q4⟩ := hp
        have hl3 := q2.trans hl2
        refine ⟨_, _, run_endRound none hl3, rfl, ⟨hIp _ _ _ _ q4 (by omega) (by omega), ?_, (World.putObj_heap_other (by omega)).trans (q1.trans hk2)⟩, (hx2.trans q3).trans (Boxes.put _ _ (by omega))⟩
        rw [World.putObj_heap_same (Array.getElem?_eq_some_iff.1 hl3).1, hrec]
        rfl
      | _ => exact hp.elim
    · rintro e W2 ⟨⟨v, rfl⟩, hi, hl, hk⟩
      refine ⟨none, W2.putObj (w.heap.size + 1) (.loop (rec .exhausted)), ?_, hdone _ (hIp _ _ _ _ hi (by omega) (by omega)) ((World.putObj_heap_other (by omega)).trans hk)⟩
      have := run_endLoop (P := P) hl (by rw [e1]; decide)
      rw [hrec] at this ⊢
      exact this
end Go.Proofs.YtidjnfjpdnjogaaGreatDoor

/-
  strings.Cut at one byte; package name: Stream, Type, System, Hash, and the document's own. Conditions: none.
-/
namespace Go.Proofs.YtidjnfjpdnjogaaGreatDoor
open Go.RowKit Go.Lib

theorem cut_index (b : UInt8) : ∀ l, (indexByte l b = -1 ∧ cutB b l = (l, [], false)) ∨ ∃ i : Nat, i < l.length ∧ indexByte l b = i ∧ cutB b l = (l.take i, l.drop (i + 1), true)
  | [] => Or.inl ⟨rfl, rfl⟩
  | c :: t => by
    by_cases h : c = b
    · refine Or.inr ⟨0, by simp, ?_, ?_⟩
      · rw [indexByte, if_pos (by simp [h])]; rfl
      · rw [cutB, if_pos h]; rfl
    · have h1 : ¬ (c == b) = true := by simpa using h
      rcases cut_index b t with ⟨e1, e2⟩ | ⟨i, hi, e1, e2⟩
      · refine Or.inl ⟨?_, ?_⟩
        · rw [indexByte, if_neg h1, e1]; rfl
        · rw [cutB, if_neg h, e2]
      · refine Or.inr ⟨i + 1, by simpa using hi, ?_, ?_⟩
        · have h2 : ¬ ((i : Int) == -1) = true := by rw [beq_iff_eq]; omega
          rw [indexByte, if_neg h1, e1, if_neg h2]; rfl
        · rw [cutB, if_neg h, e2]; rfl

/-- What Cut tells. -/
def cutTells (r : List UInt8 × List UInt8 × Bool) : Value := .tuple #[.string ⟨r.1.toArray⟩, .string ⟨r.2.1.toArray⟩, .bool r.2.2]

end Go.Proofs.YtidjnfjpdnjogaaGreatDoor

/-
  strings.SplitSeq at one byte: the iterator's contract. Conditions: none.
-/
namespace Go.Proofs.YtidjnfjpdnjogaaGreatDoor
open Go.RowKit Go.Lib Go.Shelf
attribute [local go_sem] Oper.semAt_some

theorem cutB_join (b : UInt8) : ∀ l, (cutB b l).2.2 = true → l = (cutB b l).1 ++ b :: (cutB b l).2.1
  | [], h => by simp [cutB] at h
  | c :: t, h => by
    rw [cutB] at h ⊢
    by_cases e : c = b
    · rw [if_pos e]; simp [e]
    · rw [if_neg e] at h ⊢
      have := cutB_join b t h
      simp only [List.cons_append]
      rw [← this]
theorem cutB_fst (b : UInt8) : ∀ l, b ∉ (cutB b l).1
  | [] => by simp [cutB]
  | c :: t => by
    rw [cutB]
    by_cases e : c = b
    · rw [if_pos e]; simp
    · rw [if_neg e]
      simp only [List.mem_cons, not_or]
      exact ⟨fun h => e h.symm, cutB_fst b t⟩
/-- What Index tells, and what the words are then. -/
theorem split_index (b : UInt8) (l : List UInt8) : (indexByte l b = -1 ∧ splitB b l = [l]) ∨ ∃ i : Nat, i < l.length ∧ indexByte l b = i ∧ splitB b l = l.take i :: splitB b (l.drop (i + 1)) := by
  rcases cut_index b l with ⟨e1, e2⟩ | ⟨i, hi, e1, e2⟩
  · refine Or.inl ⟨e1, splitB_not b l ?_⟩
    have := cutB_fst b l
    rw [e2] at this
    exact this
  · refine Or.inr ⟨i, hi, e1, ?_⟩
    have h1 := cutB_fst b l
    have h2 := cutB_join b l (by rw [e2])
    rw [e2] at h1 h2
    conv => lhs; rw [h2]
    exact splitB_at b _ _ h1
def mkS (l : List UInt8) : ByteArray := ⟨l.toArray⟩
theorem mk_take (s : ByteArray) (i : Nat) : mkS (s.data.toList.take i) = s.extract 0 i := by
  apply ByteArray.ext; apply Array.ext'
  simp [mkS]
theorem mk_drop (s : ByteArray) (i : Nat) : (s.extract i s.size).data.toList = s.data.toList.drop i := by
  simp only [ByteArray.data_extract, Array.toList_extract, List.extract_eq_take_drop]
  rw [List.take_of_length_le (by simp)]
theorem mk_self (s : ByteArray) : mkS s.data.toList = s := rfl

theorem index_any (s : ByteArray) (c : UInt8) (w : World) : Calls Tryz.prog 78 #[.string s, .string ⟨#[c]⟩] w fun e w' => e = .returned (.int .i64 (indexByte s.data.toList c)) ∧ w' = w := by
  have H := Tryz.stringslite_Index_one s c w
  revert H
  generalize indexByte s.data.toList c = r
  intro H
  have HH := Lib.hid H; clear H
  go_enter Tryz.func78, Tryz.ntmps78
  go_wp2_with fail
  refine HH.out.mono ?_
  rintro en w' ⟨rfl, rfl⟩
  go_wp2
  go_ret
  exact ⟨rfl, rfl⟩

set_option maxHeartbeats 1000000 in
theorem splitSeq_any (s : ByteArray) (c : UInt8) (w : World) :
    Calls Tryz.prog 14 #[.string s, .string ⟨#[c]⟩] w fun e w' => e = .returned (.func (.func 76) #[] #[.pointer (some ⟨w.heap.size + 1, 0, none⟩), .pointer (some ⟨w.heap.size, 0, none⟩), .pointer (some ⟨w.heap.size + 2, 0, none⟩)])
      ∧ w' = ((w.alloc (.cells #[.string s] 9)).alloc (.cells #[.string ⟨#[c]⟩] 9)).alloc (.cells #[.int .i64 0] 3) := by
  have H : Calls Tryz.prog 48 #[.string s, .string ⟨#[c]⟩, .int .i64 0] w fun e w' => e = .returned (.func (.func 76) #[] #[.pointer (some ⟨w.heap.size + 1, 0, none⟩), .pointer (some ⟨w.heap.size, 0, none⟩), .pointer (some ⟨w.heap.size + 2, 0, none⟩)])
      ∧ w' = ((w.alloc (.cells #[.string s] 9)).alloc (.cells #[.string ⟨#[c]⟩] 9)).alloc (.cells #[.int .i64 0] 3) := by
    go_enter Tryz.func48, Tryz.ntmps48
    go_wp2
    go_ret
    exact ⟨rfl, rfl⟩
  have HH := Lib.hid H; clear H
  go_enter Tryz.func14, Tryz.ntmps14
  go_wp2_with fail
  refine HH.out.mono ?_
  rintro en w' ⟨rfl, rfl⟩
  go_wp2
  go_ret
  exact ⟨rfl, rfl⟩

/-- What is left of the text. -/
def leftS (B : Nat) (w : World) : Nat := match w.cell? ⟨B, 0, none⟩ with
  | some (.string t) => t.size
  | _ => 0
theorem leftS_of {B : Nat} {w : World} {t : ByteArray} (h : w.cell? ⟨B, 0, none⟩ = some (.string t)) : leftS B w = t.size := by rw [leftS, h]

set_option maxRecDepth 100000 in
set_option maxHeartbeats 2000000 in
theorem split_yields (n : Nat) (hn : 1 ≤ n) (B : Nat) (c : UInt8) (s : ByteArray) (hs : s.size ≤ 1000000) (w : World)
    (h0 : w.heap[B]? = some (.cells #[.string s] 9)) (h1 : w.heap[B + 1]? = some (.cells #[.string ⟨#[c]⟩] 9)) (h2 : w.heap[B + 2]? = some (.cells #[.int .i64 0] 3)) :
    Yields n Tryz.prog 76 #[.pointer (some ⟨B + 1, 0, none⟩), .pointer (some ⟨B, 0, none⟩), .pointer (some ⟨B + 2, 0, none⟩)] (fun x : ByteArray => #[.string x]) B ((splitB c s.data.toList).map mkS) w := by
  intro l J W hW hJs hY hJ0
  have g0 := (hW.block B (lt_of_block h0)).trans h0
  have g1 := (hW.block (B + 1) (lt_of_block h1)).trans h1
  have g2 := (hW.block (B + 2) (lt_of_block h2)).trans h2
  clear h0 h1 h2 hW
  obtain ⟨L, hL⟩ : ∃ L, (splitB c s.data.toList).map mkS = L := ⟨_, rfl⟩
  rw [hL] at hY ⊢
  have HL := Lib.hid hL; clear hL
  have HJ := Lib.hid hJs; clear hJs
  refine callsIn_of_wp Tryz.func76 rfl trivial ?_ rfl
  simp only [Tryz.ntmps76, List.size_toArray, List.length_cons, List.length_nil, Nat.reduceAdd, Nat.reduceSub, Array.replicate_succ, Array.replicate_zero, List.push_toArray, List.append_toArray, List.nil_append, List.cons_append]
  have c0 : W.cell? ⟨B, 0, none⟩ = some (.string s) := by simp [World.cell?, g0]
  have c1 : W.cell? ⟨B + 1, 0, none⟩ = some (.string ⟨#[c]⟩) := by simp [World.cell?, g1]
  gi_wp2
  gi_loopw [] (fun wr => ∃ (pre : List ByteArray) (t : ByteArray), t.size ≤ 1000000 ∧ wr.heap[B]? = some (.cells #[.string t] 9) ∧ wr.heap[B + 1]? = some (.cells #[.string ⟨#[c]⟩] 9) ∧ wr.heap[B + 2]? = some (.cells #[.int .i64 0] 3) ∧ L = pre ++ (splitB c t.data.toList).map mkS ∧ J pre wr)
    (fun wr => leftS B wr)
  case atStart => exact ⟨[], s, hs, g0, g1, g2, HL.out.symm, hJ0⟩
  case round =>
    obtain ⟨pre, t, ht, q0, q1, q2, hLp, hJ⟩ := hrel
    have d0 : wr.cell? ⟨B, 0, none⟩ = some (.string t) := by simp [World.cell?, q0]
    have d1 : wr.cell? ⟨B + 1, 0, none⟩ = some (.string ⟨#[c]⟩) := by simp [World.cell?, q1]
    have d2 : wr.cell? ⟨B + 2, 0, none⟩ = some (.int .i64 0) := by simp [World.cell?, q2]
    have HI := index_any t c wr
    rcases split_index c t.data.toList with ⟨e1, e2⟩ | ⟨i, hi, e1, e2⟩
    · rw [e1] at HI
      rw [e2] at hLp
      have hLx : L = pre ++ [t] := hLp
      obtain ⟨fn, tmps, assign, body, hy, hR⟩ := hY pre t wr hJ (by rw [hLx]; exact List.prefix_refl _)
      replace HI := Lib.hid HI
      have HX := Lib.hid hLx
      clear hLx hLp e1 e2 hY hJ g0 g1 g2 c0 c1
      gi_wp2_with (first | (refine ⟨trivial, ?_⟩; gi_at_call 78; refine (callsIn_wide.2 HI.out).mono ?_; rintro e w' ⟨rfl, rfl⟩) | fail)
      refine hR.mono ?_
      rintro e W3 ⟨rfl, hJ3, hk3⟩
      gi_wp2
      go_end0
      exact ⟨⟨_, rfl⟩, by rw [HX.out]; exact hJ3⟩
    · rw [e1] at HI
      rw [e2] at hLp
      have hi' : i < t.size := by simpa using hi
      have hdr := mk_drop t (i + 1)
      have hLx : L = (pre ++ [t.extract 0 i]) ++ (splitB c (t.extract (i + 1) t.size).data.toList).map mkS := by
        rw [hdr, hLp, List.map_cons, mk_take]; simp
      obtain ⟨fn, tmps, assign, body, hy, hR⟩ := hY pre (t.extract 0 i) wr hJ (by rw [hLx]; exact List.prefix_append _ _)
      replace HI := Lib.hid HI
      have HX := Lib.hid hLx
      have HL0 := Lib.hid (leftS_of d0)
      clear hLx hLp e1 e2 hY hJ g0 g1 g2 c0 c1 hdr hi
      have h1 : (i : Int) ≤ (t.size : Int) := by omega
      have h2 : (i : Int) + 1 ≤ (t.size : Int) := by omega
      have h3 : i + 1 ≤ t.size := by omega
      have hw : IntKind.i64.wrap ((i : Int) + 1) = (i : Int) + 1 := IntWalk.i64_in _ (by omega)
      have h4 : (0 : Int) ≤ (i : Int) := by omega
      gi_wp2_with (first | (refine ⟨trivial, ?_⟩; gi_at_call 78; refine (callsIn_wide.2 HI.out).mono ?_; rintro e w' ⟨rfl, rfl⟩) | fail)
      refine hR.mono ?_
      rintro e W3 ⟨rfl, hJ3, hk3⟩
      have r0 := (hk3 B (Nat.le_refl _) (by omega)).trans q0
      have r1 := (hk3 (B + 1) (by omega) (by omega)).trans q1
      have r2 := (hk3 (B + 2) (by omega) (by omega)).trans q2
      have b0 : W3.cell? ⟨B, 0, none⟩ = some (.string t) := by simp [World.cell?, r0]
      have b1 : W3.cell? ⟨B + 1, 0, none⟩ = some (.string ⟨#[c]⟩) := by simp [World.cell?, r1]
      have b2 : W3.frozen? ⟨B, 0, none⟩ = false := by simp [World.frozen?, r0]
      have HS := Lib.hid (show (W3.setCell ⟨B, 0, none⟩ (.string (t.extract (i + 1) t.size))).heap[B]? = some (.cells #[.string (t.extract (i + 1) t.size)] 9) by rw [heap_setCell_same r0]; rfl)
      have HS1 := Lib.hid (show (W3.setCell ⟨B, 0, none⟩ (.string (t.extract (i + 1) t.size))).heap[B + 1]? = some (.cells #[.string ⟨#[c]⟩] 9) from (Below.heap_setCell W3 _ _ _ (show B + 1 ≠ B by omega)).trans r1)
      have HS2 := Lib.hid (show (W3.setCell ⟨B, 0, none⟩ (.string (t.extract (i + 1) t.size))).heap[B + 2]? = some (.cells #[.int .i64 0] 3) from (Below.heap_setCell W3 _ _ _ (show B + 2 ≠ B by omega)).trans r2)
      have HJ3 := Lib.hid (HJ.out _ _ (.string (t.extract (i + 1) t.size)) hJ3)
      have hzz : (t.extract (i + 1) t.size).size = t.size - (i + 1) := by simp
      have HZ := Lib.hid hzz
      clear r0 r1 r2 hJ3 hk3 hzz
      gi_wp2
      go_roundw
      case rel => exact ⟨pre ++ [t.extract 0 i], t.extract (i + 1) t.size, by rw [HZ.out]; omega, HS.out, HS1.out, HS2.out, HX.out, HJ3.out⟩
      case measure =>
        rw [HL0.out, leftS_of (t := t.extract (i + 1) t.size) (by rw [Lib.cell_of_heap HS.out]; rfl), HZ.out]
        omega
end Go.Proofs.YtidjnfjpdnjogaaGreatDoor

/-
  prog.Parse: the words of a text. Conditions: none.
-/
namespace Go.Proofs.YtidjnfjpdnjogaaGreatDoor
open Go.RowKit Go.Lib Go.Shelf
attribute [local go_sem] Oper.semAt_some

theorem heap_alloc_if (w : World) (o : Obj) (k : Nat) : (w.alloc o).heap[k]? = if k = w.heap.size then some o else w.heap[k]? := by
  show (w.heap.push o)[k]? = _
  rw [Array.getElem?_push]
theorem size_alloc_one (w : World) (o : Obj) : (w.alloc o).heap.size = w.heap.size + 1 := by simp
theorem info9 : (Tryz.prog.info? 9).map (fun i => (i.zero, i.size, i.bytes)) = some (some (.string ⟨#[]⟩), 1, 16) := by kernel_rfl

/-- The words that are kept. -/
def keptW (pre : List ByteArray) : List ByteArray := pre.filter fun x => x.size != 0
theorem keptW_snoc (pre : List ByteArray) (x : ByteArray) : keptW (pre ++ [x]) = keptW pre ++ if x.size = 0 then [] else [x] := by
  unfold keptW
  rw [List.filter_append]
  by_cases h : x.size = 0 <;> simp [h]
def vals (l : List ByteArray) : List Value := l.map Value.string
theorem vals_snoc (l : List ByteArray) (x : ByteArray) : vals (l ++ [x]) = vals l ++ [.string x] := by simp [vals]

/-- What holds between two words. -/
structure PI (w : World) (l : List ByteArray) (v : Value) (W : World) : Prop where
  res : W.heap[w.heap.size]? = some (.cells #[.slice none 0 0] 38)
  box : W.heap[w.heap.size + 1]? = some (.cells #[v] 38)
  own : W.ownsRow (w.heap.size + 7) 9 1 v l.length (vals l)
  below : Below w.heap.size w W
theorem PI.other {w : World} {l : List ByteArray} {v : Value} {W W' : World} (h : PI w l v W) (h0 : W'.heap[w.heap.size]? = W.heap[w.heap.size]?) (h1 : W'.heap[w.heap.size + 1]? = W.heap[w.heap.size + 1]?) (h2 : ∀ g, w.heap.size + 7 ≤ g → g < W.heap.size → W'.heap[g]? = W.heap[g]?) (hb : Below w.heap.size w W') : PI w l v W' :=
  ⟨h0.trans h.res, h1.trans h.box, own_same h.own (fun g hg => h2 g (h.own.lt g hg).1 (h.own.lt g hg).2), hb⟩
theorem PI.sz {w : World} {l : List ByteArray} {v : Value} {W : World} (h : PI w l v W) : w.heap.size + 1 < W.heap.size := lt_of_block h.box
theorem PI.up {w : World} {l : List ByteArray} {v : Value} {W W' : World} (h : PI w l v W) (hb : Below W.heap.size W W') : PI w l v W' :=
  h.other (hb.block _ (by have := h.sz; omega)) (hb.block _ h.sz) (fun g _ hg => hb.block g hg) (h.below.trans (hb.mono h.below.size))

/-- The frame of a round. -/
def pAct (s : ByteArray) (n : Nat) (x : ByteArray) : Act :=
  { tmps := #[.string s, undef, .pointer (some ⟨n, 0, none⟩), .int .i64 0, .int .i64 0, .pointer (some ⟨n + 1, 0, none⟩), .string x, undef, undef, .string s,
      .func (.func 76) #[] #[.pointer (some ⟨n + 1 + 1 + 1, 0, none⟩), .pointer (some ⟨n + 1 + 1, 0, none⟩), .pointer (some ⟨n + 1 + 1 + 2, 0, none⟩)], .string x, undef, undef, undef, undef, undef, undef, undef, undef, undef, undef, undef, undef, undef, undef, undef, undef, undef, undef, undef, undef],
    defers := [] }

theorem split_size (s : ByteArray) : ∀ x ∈ (splitB 32 s.data.toList).map mkS, x.size ≤ s.size := by
  intro x hx
  obtain ⟨y, hy, rfl⟩ := List.mem_map.1 hx
  have key : ∀ (l : List UInt8), ∀ y ∈ splitB 32 l, y.length ≤ l.length := by
    intro l
    induction l with
    | nil => intro y h; simp [splitB] at h; simp [h]
    | cons c t ih =>
      intro y h
      rw [splitB] at h
      split at h
      · rcases List.mem_cons.1 h with rfl | h
        · simp
        · have := ih y h; simp; omega
      · cases hs : splitB 32 t with
        | nil => exact absurd hs (splitB_ne 32 t)
        | cons w r =>
          rw [hs] at h ih
          simp only [] at h
          rcases List.mem_cons.1 h with rfl | h
          · have := ih w (by simp); simp; omega
          · have := ih y (by simp [h]); simp; omega
  have := key _ y hy
  show y.toArray.size ≤ _
  simp at this ⊢
  omega

/-- What the append and the store behind it come to. -/
theorem pushed_word {w : World} {l : List ByteArray} {v v' : Value} {W W1 W3 : World} {x : ByteArray} (h : PI w l v W) (hz : w.heap.size + 7 ≤ W.heap.size) (hb : Below W.heap.size W W1)
    (hown : W3.ownsRow (w.heap.size + 7) 9 1 v' (l.length + 1) (vals l ++ [.string x])) (hgr : W1.grownBy W3 v.ownBlock) :
    (∀ k, k < W.heap.size → k ≠ w.heap.size + 1 → (∀ g, v.ownBlock = some g → k ≠ g) → (W3.setCell ⟨w.heap.size + 1, 0, none⟩ v').heap[k]? = W.heap[k]?) ∧ PI w (l ++ [x]) v' (W3.setCell ⟨w.heap.size + 1, 0, none⟩ v') := by
  have k1 : ∀ k, k < W.heap.size → (∀ g, v.ownBlock = some g → k ≠ g) → W3.heap[k]? = W.heap[k]? := fun k hk hne => (hgr.block k (Nat.lt_of_lt_of_le hk hb.size) (fun e => hne k e.symm rfl)).trans (hb.block k hk)
  have hlow : ∀ k, k < w.heap.size + 7 → ∀ g, v.ownBlock = some g → k ≠ g := fun k hk g hg => by have := (h.own.lt g hg).1; omega
  refine ⟨fun k hk h1 hne => (Below.heap_setCell _ _ _ _ (by show k ≠ w.heap.size + 1; omega)).trans (k1 k hk hne), ?_, ?_, ?_, ?_⟩
  · exact (Below.heap_setCell _ _ _ _ (by show w.heap.size ≠ w.heap.size + 1; omega)).trans ((k1 _ (by omega) (hlow _ (by omega))).trans h.res)
  · rw [heap_setCell_same ((k1 _ (by omega) (hlow _ (by omega))).trans h.box)]; rfl
  · rw [vals_snoc, List.length_append]
    exact own_same hown (fun g hg => Below.heap_setCell _ _ _ _ (by have := (hown.lt g hg).1; show g ≠ w.heap.size + 1; omega))
  · have h1 := h.below.trans (hb.mono h.below.size)
    exact ((h1.grown hgr (Nat.le_trans h.below.size hb.size) (fun k hk => by have := (h.own.lt k hk).1; omega))).setCell (p := ⟨w.heap.size + 1, 0, none⟩) (by show w.heap.size ≤ w.heap.size + 1; omega) _

theorem cell_push {w : World} {l : List ByteArray} {v : Value} {W : World} (h : PI w l v W) : W.cell? ⟨w.heap.size + 1, 0, none⟩ = some v ∧ W.frozen? ⟨w.heap.size + 1, 0, none⟩ = false := cell_of_block1 h.box

theorem split_count (s : ByteArray) : ((splitB 32 s.data.toList).map mkS).length ≤ s.size + 1 := by
  have key : ∀ (l : List UInt8), (splitB 32 l).length ≤ l.length + 1 := by
    intro l
    induction l with
    | nil => simp [splitB]
    | cons c t ih =>
      rw [splitB]
      split
      · simp; omega
      · cases hs : splitB 32 t with
        | nil => exact absurd hs (splitB_ne 32 t)
        | cons w r => rw [hs] at ih; simp at ih ⊢; omega
  have := key s.data.toList
  simp at this ⊢
  omega
theorem grownBy_putObj' (W : World) (l : Nat) (o : Obj) : W.grownBy (W.putObj l o) (some l) := ⟨rfl, rfl, rfl, by simp [World.putObj], fun k _ hk => World.putObj_heap_other (fun e => hk (by rw [e]))⟩

theorem box_grown {w : World} {l : List ByteArray} {v : Value} {W W' : World} (h : PI w l v W) (hg : W.grownBy W' v.ownBlock) : W'.cell? ⟨w.heap.size + 1, 0, none⟩ = some v ∧ W'.frozen? ⟨w.heap.size + 1, 0, none⟩ = false :=
  cell_of_block1 ((hg.block _ h.sz (fun e => by have := (h.own.lt _ e.symm).1; omega)).trans h.box)

/-- What Parse answers. -/
def wordsL (s : ByteArray) : List ByteArray := keptW ((splitB 32 s.data.toList).map mkS)
theorem txs_of {W : World} {B : Nat} {v : Value} {l : List ByteArray} (h : W.ownsRow B 9 1 v l.length (vals l)) : Txs W v l := by
  rcases h.2 with ⟨hv, h0⟩ | ⟨g, cap, cur, rfl, hg, hb, hn, hm, hs, ht⟩
  · exact Or.inl ⟨List.eq_nil_of_length_eq_zero h0, none, 0, hv⟩
  · refine Or.inr ⟨g, 0, cap, rfl, fun i hi => ?_, lt_of_block hb⟩
    have h1 : (vals l)[i]? = some (.string (l.getD i ByteArray.empty)) := by
      rw [vals, List.getElem?_map, List.getD_eq_getElem?_getD, List.getElem?_eq_getElem hi]; rfl
    have h2 := h.cells (g := g) rfl i _ h1
    rw [Nat.zero_add]
    have e : (⟨g, 0, none⟩ : Addr).add i = ⟨g, i, none⟩ := by
      simp only [Addr.add]
      split <;> simp_all
    rw [e] at h2
    exact h2
theorem words_fit (s : ByteArray) (hs : s.size ≤ 281474976710656) : Fits (wordsL s) := fun x hx => by
  have := split_size s x (List.mem_filter.1 hx).1
  omega
theorem check_zero (l : List (List UInt8)) (h : (checkL l).1 = 0) : (checkL l).2 = 0 := by
  unfold checkL at h ⊢
  split at h
  · cases h
  · rename_i hn
    rw [if_neg hn]
    have key : ∀ (m : List (List UInt8)) i, (checkB m i).1 = 0 → (checkB m i).2 = 0 := by
      intro m
      induction m with
      | nil => intro i _; rfl
      | cons a m ih =>
        intro i h
        unfold checkB at h ⊢
        split at h
        · rename_i h1; rw [if_pos h1]; exact ih _ h
        · cases h
    exact key _ _ h

/-- The store of the result, and the end of the loop's block. -/
theorem parse_end {w w1 : World} {l : List ByteArray} {v : Value} (hi : PI w l v w1) (hK : w1.heap[w.heap.size + 5]? = some (.deferred (some []))) (r : Value) :
    (w1.setCell ⟨w.heap.size, 0, none⟩ r).heap[w.heap.size + 5]? = some (.deferred (some []))
    ∧ ((w1.setCell ⟨w.heap.size, 0, none⟩ r).putObj (w.heap.size + 5) (.deferred none)).cell? ⟨w.heap.size, 0, none⟩ = some r
    ∧ (r = v → ((w1.setCell ⟨w.heap.size, 0, none⟩ r).putObj (w.heap.size + 5) (.deferred none)).ownsRow w.heap.size 9 1 v l.length (vals l))
    ∧ Below w.heap.size w ((w1.setCell ⟨w.heap.size, 0, none⟩ r).putObj (w.heap.size + 5) (.deferred none)) := by
  have q1 := (Below.heap_setCell w1 ⟨w.heap.size, 0, none⟩ r (w.heap.size + 5) (by show _ ≠ w.heap.size; omega)).trans hK
  have e0 := heap_setCell_same (off := 0) hi.res r
  refine ⟨q1, ?_, ?_, ?_⟩
  · exact (cell_of_block1 ((World.putObj_heap_other (by omega)).trans e0)).1
  · intro _
    have h2 := own_same hi.own (w' := (w1.setCell ⟨w.heap.size, 0, none⟩ r).putObj (w.heap.size + 5) (.deferred none)) (fun g hg => (World.putObj_heap_other (by have := (hi.own.lt g hg).1; omega)).trans (Below.heap_setCell _ _ _ _ (by have := (hi.own.lt g hg).1; show g ≠ w.heap.size; omega)))
    refine ⟨h2.1, ?_⟩
    rcases h2.2 with h | ⟨g, cap, cur, a1, a2, rest⟩
    · exact Or.inl h
    · exact Or.inr ⟨g, cap, cur, a1, by omega, rest⟩
  · have hb := hi.below.setCell (p := ⟨w.heap.size, 0, none⟩) (Nat.le_refl _) r
    exact hb.trans (belowK_b (w := w) (Nat.le_refl _) _ _ _ _ (by omega) q1 rfl rfl)

def ParsePost (s : ByteArray) (w : World) (e : Ending) (w' : World) : Prop := ∃ v, e = .returned (.tuple #[.agg #[v], .int .i64 (checkL (tl (wordsL s))).1, .int .i64 (checkL (tl (wordsL s))).2]) ∧
  (if (checkL (tl (wordsL s))).1 = 0 then w'.ownsRow w.heap.size 9 1 v (wordsL s).length (vals (wordsL s)) else v = .slice none 0 0) ∧ Below w.heap.size w w'

set_option linter.unusedSimpArgs false in
set_option maxRecDepth 100000 in
set_option maxHeartbeats 2000000 in
theorem prog_parse (s : ByteArray) (hs : s.size ≤ 1000000) (w : World) : Calls Tryz.prog 7 #[.string s] w (ParsePost s w) := by
  have hm : Tryz.prog.follows .mixedOrders = true := by kernel_rfl
  obtain ⟨i0, hi0, hz0, hs0, hb0⟩ := info_parts info9
  have HI0 := Lib.hid hi0; clear hi0
  refine (callsIn_wide (n := 5)).1 ?_
  refine callsIn_of_wp_marks Tryz.func7 rfl trivial ?_ rfl
  simp only [Tryz.ntmps7, List.size_toArray, List.length_cons, List.length_nil, Nat.reduceAdd, Nat.reduceSub, Array.replicate_succ, Array.replicate_zero, List.push_toArray, List.append_toArray, List.nil_append, List.cons_append]
  gi_wp2_with (first
    | (refine ⟨trivial, ?_⟩; gi_at_call 14; refine (callsIn_wide.2 (splitSeq_any s 32 _)).mono ?_; rintro e w' ⟨rfl, rfl⟩))
  obtain ⟨W0, hW0⟩ : ∃ W0, (((((w.alloc (Obj.cells #[.slice none 0 0] 38)).alloc (Obj.cells #[.slice none 0 0] 38)).alloc (Obj.cells #[.string s] 9)).alloc (Obj.cells #[.string ⟨#[32]⟩] 9)).alloc (Obj.cells #[.int .i64 0] 3)) = W0 := ⟨_, rfl⟩
  rw [hW0]
  have hz : W0.heap.size = w.heap.size + 5 := by rw [← hW0]; simp
  have hI0 : PI w [] (.slice none 0 0) W0 := by
    refine ⟨?_, ?_, World.ownsRow_nil _ _ _ _, ?_⟩
    · rw [← hW0]
      simp only [heap_alloc_if, size_alloc_one]
      rw [if_neg (by omega), if_neg (by omega), if_neg (by omega), if_neg (by omega), if_pos trivial]
    · rw [← hW0]
      simp only [heap_alloc_if, size_alloc_one]
      rw [if_neg (by omega), if_neg (by omega), if_neg (by omega), if_pos trivial]
    · rw [← hW0]
      exact (((((Below.refl _ w).alloc (Nat.le_refl _) _).alloc (by simp) _).alloc (by simp; omega) _).alloc (by simp; omega) _).alloc (by simp; omega) _
  have hB0 : W0.heap[w.heap.size + 1 + 1]? = some (.cells #[.string s] 9) := by
    rw [← hW0]
    simp only [heap_alloc_if, size_alloc_one]
    rw [if_neg (by omega), if_neg (by omega), if_pos trivial]
  have hB1 : W0.heap[w.heap.size + 1 + 1 + 1]? = some (.cells #[.string ⟨#[32]⟩] 9) := by
    rw [← hW0]
    simp only [heap_alloc_if, size_alloc_one]
    rw [if_neg (by omega), if_pos trivial]
  have hB2 : W0.heap[w.heap.size + 1 + 1 + 2]? = some (.cells #[.int .i64 0] 3) := by
    rw [← hW0]
    simp only [heap_alloc_if, size_alloc_one]
    rw [if_pos trivial]
  clear hW0
  refine range_over (gf := 76) (lb := #[.pointer (some ⟨w.heap.size + 1 + 1 + 1, 0, none⟩), .pointer (some ⟨w.heap.size + 1 + 1, 0, none⟩), .pointer (some ⟨w.heap.size + 1 + 1 + 2, 0, none⟩)]) rfl (enters_of Tryz.func76 (by kernel_rfl) rfl)
    (fun x : ByteArray => #[.string x]) (fun _ => rfl) (w.heap.size + 1 + 1) (by omega) ((splitB 32 s.data.toList).map mkS) (split_yields 4 (by decide) (w.heap.size + 1 + 1) 32 s hs W0 hB0 hB1 hB2)
    (fun pre W => ∃ v, PI w (keptW pre) v W) ?hIn ?hIp ?hIs ⟨_, hI0⟩ (pAct s w.heap.size) ?assign ?body ?done
  case hIn =>
    rintro pre W o ⟨v, h⟩
    exact ⟨v, h.up (below_alloc _ _)⟩
  case hIp =>
    rintro pre W l o ⟨v, h⟩ h1 h2
    exact ⟨v, h.other (World.putObj_heap_other (by omega)) (World.putObj_heap_other (by omega)) (fun g hg _ => World.putObj_heap_other (by omega)) (h.below.grown (grownBy_putObj' W l o) (by have := h.sz; omega) (fun k e => by cases e; omega))⟩
  case hIs =>
    rintro pre W v' ⟨v, h⟩
    exact ⟨v, h.other (Below.heap_setCell W _ _ _ (by show _ ≠ w.heap.size + 1 + 1; omega)) (Below.heap_setCell W _ _ _ (by show _ ≠ w.heap.size + 1 + 1; omega)) (fun g hg _ => Below.heap_setCell W _ _ _ (by show g ≠ w.heap.size + 1 + 1; omega)) (h.below.setCell (p := ⟨w.heap.size + 1 + 1, 0, none⟩) (by show _ ≤ w.heap.size + 1 + 1; omega) v')⟩
  case assign =>
    intro l x W K hK
    gi_wp2
    exact hK
  case body =>
    rintro l pre x W ⟨v, hi⟩ hx hsz
    have hxs : x.size ≤ s.size := split_size s x (hx.subset (by simp))
    have hpl : (keptW pre).length ≤ 1000001 := by
      have h1 : (keptW pre).length ≤ pre.length := List.length_filter_le _ _
      have h2 := hx.length_le
      have h3 := split_count s
      simp at h2
      simp at h3
      omega
    rw [hz] at hsz
    have hsn := keptW_snoc pre x
    have HI := Lib.hid hi
    obtain ⟨c0, c1⟩ := cell_push hi
    clear hi hx
    unfold pAct
    by_cases h0 : x.size = 0
    · rw [if_pos h0, List.append_nil] at hsn
      obtain rfl : x = ⟨#[]⟩ := by
        apply ByteArray.ext
        exact Array.eq_empty_of_size_eq_zero h0
      clear h0 hxs
      gi_wp2
      exact ⟨rfl, rfl, Boxes.refl _ _, v, by rw [hsn]; exact HI.out⟩
    · rw [if_neg h0] at hsn
      have hne : (x.toList == []) = false := by
        rw [beq_eq_false_iff_ne, Lib.toList_data]
        intro e
        apply h0
        have := congrArg List.length e
        simpa using this
      have hne2 : (x.toList != []) = true := by rw [bne, hne]; rfl
      have hnil : x.toList ≠ [] := fun e => by rw [e] at hne; cases hne
      have HC := Lib.hid (clone_any x W.drew (by omega))
      have hl1 : (keptW pre).length + 1 ≤ maxLen := by unfold maxLen; omega
      have hl2 : ((keptW pre).length + 1) * 16 ≤ 140737488355328 := by omega
      have HONE := Lib.hid (show ∀ u ∈ [Value.string x], u.oneCell' = true by simp [Value.oneCell'])
      have c0' : W.drew.cell? ⟨w.heap.size + 1, 0, none⟩ = some v := c0
      gi_wp2_with fail
      refine round_region hm (by kernel_rfl) ?_
      have HEND : Hid (∀ (v' : Value) (W3 : World), (∀ k, k < W.heap.size → k ≠ w.heap.size + 1 → (∀ g, v.ownBlock = some g → k ≠ g) → W3.heap[k]? = W.heap[k]?) → PI w (keptW pre ++ [x]) v' W3 → roundEnd (w.heap.size + 1 + 1) W0.heap.size (fun W => ∃ v, PI w (keptW (pre ++ [x])) v W) W .normal (pAct s w.heap.size x) W3) := Lib.hid fun v' W3 h1 h2 => by
        have hlow : ∀ k, k < w.heap.size + 7 → ∀ g, v.ownBlock = some g → k ≠ g := fun k hk g hg => by have := (HI.out.own.lt g hg).1; omega
        refine ⟨h1 _ (by omega) (by omega) (hlow _ (by omega)), h1 _ (by omega) (by omega) (hlow _ (by omega)), fun b hb1 hb2 => h1 b (by omega) (by omega) (hlow _ (by omega)), v', by rw [hsn]; exact h2⟩
      refine wpAny_take (i := 0) (v := ?_) rfl (by kernel_rfl) (by kernel_rfl) (by kernel_rfl) (fun _ _ _ h => h) (Or.inl ⟨by rfl, ?_⟩) ?_
      rotate_left
      · intro w'
        go_simp
        rfl
      try simp only [Act.put, List.setIfInBounds_toArray, List.set_cons_zero, List.set_cons_succ]
      refine wpAny_take (i := 2) (v := ?_) rfl (by kernel_rfl) (by kernel_rfl) (by kernel_rfl) (fun _ _ _ h => h) (Or.inl ⟨by rfl, ?_⟩) ?_
      rotate_left
      · intro w'
        go_simp
        rfl
      try simp only [Act.put, List.setIfInBounds_toArray, List.set_cons_zero, List.set_cons_succ]
      refine wpAny_ready (rs := [1, 3]) (by kernel_rfl) (by simp) ?_
      refine AllReady.cons rfl (fun K hK => ?_) (AllReady.cons rfl (fun K hK => ?_) AllReady.nil)
      · skip
        go_simp
        refine hK _ _ ?_
        clear hK K
        try simp only [Act.put, List.setIfInBounds_toArray, List.set_cons_zero, List.set_cons_succ]
        refine wpAny_ready (rs := [3]) (by kernel_rfl) (by simp) ?_
        refine AllReady.cons rfl (fun K hK => ?_) AllReady.nil
        go_simp
        go_at_call 15
        refine HC.out.mono ?_
        rintro en1 w1 ⟨rfl, hb1⟩
        have HB1 := Lib.hid (show Below W.heap.size W w1 from (Below.mk rfl rfl rfl (Nat.le_refl _) (fun _ _ => rfl) : Below W.heap.size W W.drew).trans hb1)
        have HQ := Lib.hid (HI.out.up (HB1.out.alloc HB1.out.size (.cells #[.string x] 9)))
        have e1 := (cell_push (HI.out.up HB1.out)).1
        have e2 := (cell_push HQ.out).1
        have hbs : w.heap.size + 7 ≤ (w1.alloc (.cells #[.string x] 9)).heap.size := by have := HB1.out.size; simp; omega
        clear hb1
        refine hK _ _ ?_
        clear hK K
        try simp only [Act.put, List.setIfInBounds_toArray, List.set_cons_zero, List.set_cons_succ]
        refine wpAny_ready (rs := [4]) (by kernel_rfl) (by simp) ?_
        refine AllReady.cons rfl (fun K hK => ?_) AllReady.nil
        go_simp
        refine hK _ _ ?_
        clear hK K
        try simp only [Act.put, List.setIfInBounds_toArray, List.set_cons_zero, List.set_cons_succ]
        refine wpAny_ready (rs := [5]) (by kernel_rfl) (by simp) ?_
        refine AllReady.cons rfl (fun K hK => ?_) AllReady.nil
        refine step_append_lies _ (by rfl) _ _ _ (by rfl) (w.heap.size + 7) 9 i0 (.string ⟨#[]⟩) 1 16 Tryz.underlying32 HI0.out hz0 hs0 hb0 rfl (by decide) v _ _ (by rfl) HQ.out.own ⟨w1.heap.size, 0, none⟩ 1 1 [.string x] (by rfl) (by rfl) (World.news_of_block (cs := #[.string x]) (t := 9) (fr := (0, 0)) (heap_alloc_new w1 _)) HONE.out (by decide) hl1 hl2 hbs (w1.heap.size + 1) (by simp) ?_
        intro g cap w3 hown hgr hat hlt
        obtain ⟨q1, q2⟩ := pushed_word (x := x) HI.out hsz (HB1.out.alloc HB1.out.size (.cells #[.string x] 9)) hown hgr
        obtain ⟨d1, d2⟩ := box_grown HQ.out hgr
        have hlt3 : w.heap.size + 1 < w3.heap.size := by have := hgr.size; have := HQ.out.sz; omega
        refine hK _ _ ?_
        clear hK K
        try simp only [Act.put, List.setIfInBounds_toArray, List.set_cons_zero, List.set_cons_succ]
        refine wpAny_take (i := 6) (v := ?_) rfl (by kernel_rfl) (by kernel_rfl) (by kernel_rfl) (fun _ _ _ h => h) (Or.inl ⟨by rfl, ?_⟩) ?_
        rotate_left
        · intro w'
          go_simp
          rfl
        try simp only [Act.put, List.setIfInBounds_toArray, List.set_cons_zero, List.set_cons_succ]
        refine wpAny_ready (rs := [7]) (by kernel_rfl) (by simp) ?_
        refine AllReady.cons rfl (fun K hK => ?_) AllReady.nil
        go_simp
        refine hK _ _ ?_
        clear hK K
        refine wpAny_done (by kernel_rfl) ?_ _
        dsimp only [onlyK]
        exact HEND.out _ _ q1 q2
      · skip
        go_simp
        go_at_call 15
        refine HC.out.mono ?_
        rintro en1 w1 ⟨rfl, hb1⟩
        have HB1 := Lib.hid (show Below W.heap.size W w1 from (Below.mk rfl rfl rfl (Nat.le_refl _) (fun _ _ => rfl) : Below W.heap.size W W.drew).trans hb1)
        have HQ := Lib.hid (HI.out.up (HB1.out.alloc HB1.out.size (.cells #[.string x] 9)))
        have e1 := (cell_push (HI.out.up HB1.out)).1
        have e2 := (cell_push HQ.out).1
        have hbs : w.heap.size + 7 ≤ (w1.alloc (.cells #[.string x] 9)).heap.size := by have := HB1.out.size; simp; omega
        clear hb1
        refine hK _ _ ?_
        clear hK K
        try simp only [Act.put, List.setIfInBounds_toArray, List.set_cons_zero, List.set_cons_succ]
        refine wpAny_ready (rs := [1, 4]) (by kernel_rfl) (by simp) ?_
        refine AllReady.cons rfl (fun K hK => ?_) (AllReady.cons rfl (fun K hK => ?_) AllReady.nil)
        · skip
          go_simp
          refine hK _ _ ?_
          clear hK K
          try simp only [Act.put, List.setIfInBounds_toArray, List.set_cons_zero, List.set_cons_succ]
          refine wpAny_ready (rs := [4]) (by kernel_rfl) (by simp) ?_
          refine AllReady.cons rfl (fun K hK => ?_) AllReady.nil
          go_simp
          refine hK _ _ ?_
          clear hK K
          try simp only [Act.put, List.setIfInBounds_toArray, List.set_cons_zero, List.set_cons_succ]
          refine wpAny_ready (rs := [5]) (by kernel_rfl) (by simp) ?_
          refine AllReady.cons rfl (fun K hK => ?_) AllReady.nil
          refine step_append_lies _ (by rfl) _ _ _ (by rfl) (w.heap.size + 7) 9 i0 (.string ⟨#[]⟩) 1 16 Tryz.underlying32 HI0.out hz0 hs0 hb0 rfl (by decide) v _ _ (by rfl) HQ.out.own ⟨w1.heap.size, 0, none⟩ 1 1 [.string x] (by rfl) (by rfl) (World.news_of_block (cs := #[.string x]) (t := 9) (fr := (0, 0)) (heap_alloc_new w1 _)) HONE.out (by decide) hl1 hl2 hbs (w1.heap.size + 1) (by simp) ?_
          intro g cap w3 hown hgr hat hlt
          obtain ⟨q1, q2⟩ := pushed_word (x := x) HI.out hsz (HB1.out.alloc HB1.out.size (.cells #[.string x] 9)) hown hgr
          obtain ⟨d1, d2⟩ := box_grown HQ.out hgr
          have hlt3 : w.heap.size + 1 < w3.heap.size := by have := hgr.size; have := HQ.out.sz; omega
          refine hK _ _ ?_
          clear hK K
          try simp only [Act.put, List.setIfInBounds_toArray, List.set_cons_zero, List.set_cons_succ]
          refine wpAny_take (i := 6) (v := ?_) rfl (by kernel_rfl) (by kernel_rfl) (by kernel_rfl) (fun _ _ _ h => h) (Or.inl ⟨by rfl, ?_⟩) ?_
          rotate_left
          · intro w'
            go_simp
            rfl
          try simp only [Act.put, List.setIfInBounds_toArray, List.set_cons_zero, List.set_cons_succ]
          refine wpAny_ready (rs := [7]) (by kernel_rfl) (by simp) ?_
          refine AllReady.cons rfl (fun K hK => ?_) AllReady.nil
          go_simp
          refine hK _ _ ?_
          clear hK K
          refine wpAny_done (by kernel_rfl) ?_ _
          dsimp only [onlyK]
          exact HEND.out _ _ q1 q2
        · skip
          go_simp
          refine hK _ _ ?_
          clear hK K
          try simp only [Act.put, List.setIfInBounds_toArray, List.set_cons_zero, List.set_cons_succ]
          refine wpAny_ready (rs := [1]) (by kernel_rfl) (by simp) ?_
          refine AllReady.cons rfl (fun K hK => ?_) AllReady.nil
          go_simp
          refine hK _ _ ?_
          clear hK K
          try simp only [Act.put, List.setIfInBounds_toArray, List.set_cons_zero, List.set_cons_succ]
          refine wpAny_ready (rs := [5]) (by kernel_rfl) (by simp) ?_
          refine AllReady.cons rfl (fun K hK => ?_) AllReady.nil
          refine step_append_lies _ (by rfl) _ _ _ (by rfl) (w.heap.size + 7) 9 i0 (.string ⟨#[]⟩) 1 16 Tryz.underlying32 HI0.out hz0 hs0 hb0 rfl (by decide) v _ _ (by rfl) HQ.out.own ⟨w1.heap.size, 0, none⟩ 1 1 [.string x] (by rfl) (by rfl) (World.news_of_block (cs := #[.string x]) (t := 9) (fr := (0, 0)) (heap_alloc_new w1 _)) HONE.out (by decide) hl1 hl2 hbs (w1.heap.size + 1) (by simp) ?_
          intro g cap w3 hown hgr hat hlt
          obtain ⟨q1, q2⟩ := pushed_word (x := x) HI.out hsz (HB1.out.alloc HB1.out.size (.cells #[.string x] 9)) hown hgr
          obtain ⟨d1, d2⟩ := box_grown HQ.out hgr
          have hlt3 : w.heap.size + 1 < w3.heap.size := by have := hgr.size; have := HQ.out.sz; omega
          refine hK _ _ ?_
          clear hK K
          try simp only [Act.put, List.setIfInBounds_toArray, List.set_cons_zero, List.set_cons_succ]
          refine wpAny_take (i := 6) (v := ?_) rfl (by kernel_rfl) (by kernel_rfl) (by kernel_rfl) (fun _ _ _ h => h) (Or.inl ⟨by rfl, ?_⟩) ?_
          rotate_left
          · intro w'
            go_simp
            rfl
          try simp only [Act.put, List.setIfInBounds_toArray, List.set_cons_zero, List.set_cons_succ]
          refine wpAny_ready (rs := [7]) (by kernel_rfl) (by simp) ?_
          refine AllReady.cons rfl (fun K hK => ?_) AllReady.nil
          go_simp
          refine hK _ _ ?_
          clear hK K
          refine wpAny_done (by kernel_rfl) ?_ _
          dsimp only [onlyK]
          exact HEND.out _ _ q1 q2
  case done =>
    rintro W ⟨v, hi⟩ hK
    rw [hz] at hK
    clear hB0 hB1 hB2 hI0
    change PI w (wordsL s) v W at hi
    have hT : Txs W v (wordsL s) := txs_of hi.own
    obtain ⟨po, pc, hvv⟩ := hT.slice
    subst hvv
    have HCK := Lib.hid (check_any (wordsL s) (words_fit s (by omega)) _ W hT)
    unfold CheckPost at HCK
    have hcz := check_zero (tl (wordsL s))
    have hpost : ParsePost s w = fun e w' => ∃ v, e = .returned (.tuple #[.agg #[v], .int .i64 (checkL (tl (wordsL s))).1, .int .i64 (checkL (tl (wordsL s))).2]) ∧
      (if (checkL (tl (wordsL s))).1 = 0 then w'.ownsRow w.heap.size 9 1 v (wordsL s).length (vals (wordsL s)) else v = .slice none 0 0) ∧ Below w.heap.size w w' := rfl
    have HPO := Lib.hid hpost
    revert HCK hcz HPO
    generalize (checkL (tl (wordsL s))).1 = c
    generalize (checkL (tl (wordsL s))).2 = d
    intro HCK hcz HPO
    obtain ⟨c0, -⟩ := cell_push hi
    have HI := Lib.hid hi
    have HK0 := Lib.hid hK
    have hsz2 := hi.sz
    clear hi hT hK hpost
    by_cases hc : c = 0
    · obtain rfl := hcz hc
      subst hc
      clear hcz
      gi_wp2_with (first
        | (refine ⟨trivial, ?_⟩; gi_at_call 16; refine (callsIn_wide.2 HCK.out).mono ?_; rintro e w1 ⟨rfl, hb1⟩; have hi1 := HI.out.up hb1; have hK1 := (hb1.block _ (lt_of_block HK0.out)).trans HK0.out; obtain ⟨d0, d1⟩ := cell_push hi1; obtain ⟨r0, r1⟩ := cell_of_block1 hi1.res; have r2 := lt_of_block hi1.res; have HI1 := Lib.hid hi1; have HK1 := Lib.hid hK1; clear hb1 hi1 hK1))
      obtain ⟨k1, k2, k3, k4⟩ := parse_end HI1.out HK1.out (.slice po (wordsL s).length pc)
      refine ⟨by simp, .inl ⟨_, _, rfl, run_takeDeferred k1, ?_⟩⟩
      rw [HPO.out]
      refine ⟨.tuple #[.agg #[.slice po (wordsL s).length pc], .int .i64 0, .int .i64 (0 : Nat)], ?_, _, rfl, ?_, k4⟩
      · simp [results, Tryz.results7, go_sem, k2]
      · rw [if_pos trivial]; exact k3 rfl
    · have hc2 : (c != 0) = true := by simpa using hc
      clear hcz
      gi_wp2_with (first
        | (refine ⟨trivial, ?_⟩; gi_at_call 16; refine (callsIn_wide.2 HCK.out).mono ?_; rintro e w1 ⟨rfl, hb1⟩; have hi1 := HI.out.up hb1; have hK1 := (hb1.block _ (lt_of_block HK0.out)).trans HK0.out; obtain ⟨d0, d1⟩ := cell_push hi1; obtain ⟨r0, r1⟩ := cell_of_block1 hi1.res; have r2 := lt_of_block hi1.res; have HI1 := Lib.hid hi1; have HK1 := Lib.hid hK1; clear hb1 hi1 hK1))
      obtain ⟨k1, k2, -, k4⟩ := parse_end HI1.out HK1.out (.slice none 0 0)
      refine ⟨by simp, .inl ⟨_, _, rfl, run_takeDeferred k1, ?_⟩⟩
      rw [HPO.out]
      refine ⟨.tuple #[.agg #[.slice none 0 0], .int .i64 c, .int .i64 d], ?_, _, rfl, ?_, k4⟩
      · simp [results, Tryz.results7, go_sem, k2]
      · rw [if_neg hc]
end Go.Proofs.YtidjnfjpdnjogaaGreatDoor

/-
  The laws' own alive. Conditions: none.
-/
namespace Go.Proofs.YtidjnfjpdnjogaaGreatDoor
open Go.RowKit Go.Lib

def aliveS : ByteArray := ⟨#[115, 116, 97, 116, 101, 32, 118, 97, 108, 117, 101, 32, 97, 100, 100]⟩
def addS : ByteArray := ⟨#[97, 100, 100]⟩
def aliveE : En := ⟨4611686018427387904, 0, ⟨#[]⟩, ⟨#[]⟩, 4602678819172646912, 0⟩
def noE : En := ⟨0, 0, ⟨#[]⟩, ⟨#[]⟩, 0, 0⟩
theorem alive_words : wordsL aliveS = [⟨wState.toArray⟩, ⟨wValue.toArray⟩, ⟨wAdd.toArray⟩] := by
  have h : (splitB 32 aliveS.data.toList) = [wState, wValue, wAdd] := by decide +kernel
  unfold wordsL
  rw [h]; rfl
theorem add_words : wordsL addS = [⟨wAdd.toArray⟩] := by
  have h : (splitB 32 addS.data.toList) = [wAdd] := by decide +kernel
  unfold wordsL
  rw [h]; rfl
theorem alive_check : checkL (tl (wordsL aliveS)) = (0, 0) := by
  rw [alive_words]; decide +kernel
theorem add_check : checkL (tl (wordsL addS)) = (0, 0) := by
  rw [add_words]; decide +kernel
theorem alive_run : runB aliveE (tl (wordsL aliveS)) = ⟨4612811918334230528, 0, 0, []⟩ := by
  rw [alive_words]; kernel_rfl
theorem add_run : runB noE (tl (wordsL addS)) = ⟨0, 21, 1, []⟩ := by
  rw [add_words]; kernel_rfl
theorem aliveE_ok : aliveE.Ok := ⟨by decide, by decide, by decide⟩
theorem noE_ok : noE.Ok := ⟨by unfold noE; show 0 < 18446744073709551616; omega, by unfold noE; show 0 < 18446744073709551616; omega, by decide⟩
/-- Parse and Run of a text, one behind the other. -/
theorem parse_good (s : ByteArray) (hs : s.size ≤ 1000000) (hc : checkL (tl (wordsL s)) = (0, 0)) (w : World) :
    Calls Tryz.prog 7 #[.string s] w fun e w' => ∃ v, e = .returned (.tuple #[.agg #[v], .int .i64 0, .int .i64 0]) ∧ Txs w' v (wordsL s) ∧ Below w.heap.size w w' := by
  refine (prog_parse s hs w).mono ?_
  rintro e w' ⟨v, h1, h2, h3⟩
  rw [hc] at h1 h2
  rw [if_pos rfl] at h2
  exact ⟨v, h1, txs_of h2, h3⟩
theorem alive_half : (FloatKind.f64.format.order 4612811918334230528 4612811918334230528 == some .eq) = true := by decide +kernel

theorem alive_any (w : World) : Calls Tryz.prog 4 #[] w fun e w' => e = .returned (.bool true) ∧ Below w.heap.size w w' := by
  have HP1 := Lib.hid (parse_good aliveS (by decide) alive_check)
  have HP2 := Lib.hid (parse_good addS (by decide) add_check)
  have HR1 := Lib.hid fun v w h => run_any aliveE aliveE_ok (wordsL aliveS) (words_fit aliveS (by decide)) v w h
  have HR2 := Lib.hid fun v w h => run_any noE noE_ok (wordsL addS) (words_fit addS (by decide)) v w h
  rw [alive_run] at HR1
  rw [add_run] at HR2
  have hl : (wordsL aliveS).length = 3 := by rw [alive_words]; rfl
  have heq := eqlFault
  have hhalf := alive_half
  unfold RunTells at HR1 HR2
  go_enter Tryz.func4, Tryz.ntmps4
  go_wp2_with fail
  refine (HP1.out _).mono ?_
  rintro e w1 ⟨v1, rfl, ht1, hb1⟩
  obtain ⟨po1, pc1, rfl⟩ := ht1.slice
  rw [hl] at ht1 ⊢
  have hb0 := Lib.hid hb1
  have HT1 := Lib.hid (ht1.below (below_alloc w1 (.cells #[.slice po1 3 pc1] 38)))
  have hn1 := new_block w1 (.cells #[.slice po1 3 pc1] 38)
  have HB1 := Lib.hid (hb1.trans ((below_alloc w1 (.cells #[.slice po1 3 pc1] 38)).mono hb1.size))
  have HN1 := Lib.hid hn1
  clear ht1 hb1 hn1
  go_wp2_with fail
  refine (HR1.out _ _ HT1.out).mono ?_
  rintro e w2 ⟨rfl, hb2⟩
  unfold Tell.val fault
  have hn2 := (hb2.block _ (by simp)).trans HN1.out
  obtain ⟨f1, -⟩ := cell_of_block1 hn2
  have f2 := lt_of_block hn2
  have HB2 := Lib.hid (HB1.out.trans (hb2.mono HB1.out.size))
  clear hb2 hn2
  go_wp2_with fail
  have HA := Lib.hid (cells_of_fault (new_block w2 (.cells #[.int .i64 0, .int .i64 0, .string ⟨#[]⟩] 47)))
  have hA := new_block w2 (.cells #[.int .i64 0, .int .i64 0, .string ⟨#[]⟩] 47)
  have hba := below_alloc w2 (.cells #[.int .i64 0, .int .i64 0, .string ⟨#[]⟩] 47)
  have f1a := (World.cell?_of_block (a := ⟨w1.heap.size, 0, none⟩) (hba.block _ f2)).trans f1
  refine (HP2.out _).mono ?_
  rintro e w3 ⟨v3, rfl, ht3, hb3⟩
  obtain ⟨po3, pc3, rfl⟩ := ht3.slice
  have hl3 : (wordsL addS).length = 1 := by rw [add_words]; rfl
  rw [hl3] at ht3 ⊢
  have g1 := (World.cell?_of_block (a := ⟨w1.heap.size, 0, none⟩) (hb3.block _ (by simp; omega))).trans f1a
  have gA := (hb3.block _ (by simp)).trans hA
  have hba3 := below_alloc w3 (.cells #[.slice po3 1 pc3] 38)
  have HT3 := Lib.hid (ht3.below hba3)
  have hzA := lt_of_block gA
  have hz1 : w1.heap.size < w3.heap.size := by omega
  have HB3 := Lib.hid ((HB2.out.trans (hba.mono HB2.out.size)).trans (hb3.mono (by have := HB2.out.size; simp; omega)))
  have HG := Lib.hid (And.intro g1 gA)
  clear hb3 hA hba f1a f1 g1 gA ht3 HA
  go_wp2_with fail
  refine (HR2.out _ _ HT3.out).mono ?_
  rintro e w4 ⟨rfl, hb4⟩
  unfold Tell.val fault
  have k1 := (World.cell?_of_block (a := ⟨w1.heap.size, 0, none⟩) ((hb4.block _ (by simp; omega)).trans (hba3.block _ hz1))).trans HG.out.1
  have kA := ((hb4.block _ (by simp; omega)).trans (hba3.block _ hzA)).trans HG.out.2
  obtain ⟨a1, a2, a3, -, -, -⟩ := cells_of_fault kA
  have hzk := lt_of_block kA
  have hzk1 : w1.heap.size < w4.heap.size := by have := hb4.size; simp at this; omega
  have HB4 := Lib.hid ((HB3.out.trans (hba3.mono HB3.out.size)).trans (hb4.mono (by have := HB3.out.size; simp; omega)))
  clear hb4 kA hba3 hzA hz1
  go_wp2
  go_ret
  exact ⟨rfl, HB4.out.trans ((below_alloc _ _).mono HB4.out.size)⟩
end Go.Proofs.YtidjnfjpdnjogaaGreatDoor

/-
  Package prog: small programs on numbers' texts: what they come to. Plain. Conditions: none.
-/
namespace Go.Proofs.YtidjnfjpdnjogaaGreatDoor
open Go.RowKit Go.Lib

theorem known_not {w : List UInt8} (h : (parseB w).2 = 0) : knownB w = false := by
  cases hk : knownB w
  · rfl
  · unfold knownB at hk
    simp only [List.contains_eq_mem, decide_eq_true_eq, arithWords, moveWords, otherWords, List.mem_append, List.mem_cons, List.not_mem_nil, or_false] at hk
    exfalso
    revert h
    rcases hk with ((h | h | h | h | h | h | h) | (h | h | h | h)) | (h | h | h | h | h | h | h) <;> subst h <;> decide +kernel
theorem step_parse (e : En) {w : List UInt8} (h : (parseB w).2 = 0) (st : List Nat) : stepB e w st = .ok (oneW (parseB w).1 :: st) := by
  have hk := known_not h
  unfold knownB at hk
  simp only [List.contains_eq_mem, decide_eq_false_iff_not, List.mem_append, not_or] at hk
  obtain ⟨⟨h1, h2⟩, h3⟩ := hk
  have h1' : ¬ arithWords.contains w = true := by simpa using h1
  have h2' : ¬ moveWords.contains w = true := by simpa using h2
  simp only [otherWords, List.mem_cons, List.not_mem_nil, or_false, not_or] at h3
  obtain ⟨a1, a2, a3, a4, a5, a6, a7⟩ := h3
  unfold stepB
  rw [if_neg h1', if_neg h2']
  unfold otherB
  rw [if_neg a1, if_neg a2, if_neg a3, if_neg a4, if_neg a5, if_neg a6, if_neg a7]
theorem step_text (e : En) {a : Nat} (ha : a < 18446744073709551616) (st : List Nat) : stepB e (textB a) st = .ok (oneW a :: st) := by
  rw [step_parse e (by rw [parse_text a ha]), parse_text a ha]
  show Out.ok (oneW (oneW a) :: st) = _
  rw [oneW_one]
theorem isWord_text {a : Nat} (ha : a < 18446744073709551616) : isWord (textB a) = true := by
  unfold isWord; rw [parse_text a ha]; rfl
theorem isWord_known {w : List UInt8} (h : knownB w = true) : isWord w = true := by
  unfold isWord; rw [h, Bool.or_true]

theorem step_drop (e : En) (f : Nat) (t : List Nat) : stepB e wDrop (f :: t) = .ok t := rfl
theorem step_dup (e : En) (f : Nat) (t : List Nat) : stepB e wDup (f :: t) = .ok (oneW f :: oneW f :: t) := rfl
theorem step_swap (e : En) (a b : Nat) (t : List Nat) : stepB e wSwap (b :: a :: t) = .ok (oneW a :: oneW b :: t) := rfl
theorem step_pick (e : En) (a b c : Nat) (t : List Nat) : stepB e wPick (c :: b :: a :: t) = .ok (oneW (if nilB c then b else a) :: t) := rfl
theorem step_arith (e : En) {w : List UInt8} (h : arithWords.contains w = true) (a b : Nat) (t : List Nat) : stepB e w (b :: a :: t) = .ok (arithB w a b :: t) := by
  unfold stepB; rw [if_pos h]
theorem step_arith1 (e : En) {w : List UInt8} (h : arithWords.contains w = true) (b : Nat) : stepB e w [b] = .rt := by
  unfold stepB; rw [if_pos h]

theorem runB_of (e : En) (l : List (List UInt8)) (hc : ∀ w ∈ l, isWord w = true) (hl : l.length ≤ 64) : runB e l = tellOf (wordsGo e l []) := by
  have key : ∀ (m : List (List UInt8)) i, (∀ w ∈ m, isWord w = true) → checkB m i = (0, 0) := by
    intro m
    induction m with
    | nil => intro i _; rfl
    | cons a m ih =>
      intro i h
      unfold checkB
      rw [if_pos (h a (by simp))]
      exact ih _ (fun w hw => h w (by simp [hw]))
  have hck : checkL l = (0, 0) := by
    unfold checkL
    rw [if_neg (by omega), key l 0 hc]
  unfold runB tellOf
  rw [hck]; rfl

section
variable {a b c : Nat} (ha : a < 18446744073709551616) (hb : b < 18446744073709551616)
include ha hb
theorem run_s1 (e : En) : runB e [textB a, textB b, wDrop] = ⟨oneW a, 0, 0, []⟩ := by
  rw [runB_of _ _ (by
    intro w hw
    simp only [List.mem_cons, List.not_mem_nil, or_false] at hw
    rcases hw with rfl | rfl | rfl
    · exact isWord_text ha
    · exact isWord_text hb
    · exact isWord_known (by decide)) (by simp)]
  simp only [wordsGo, step_text e ha, step_text e hb, step_drop, tellOf]
theorem run_s3 (e : En) : runB e [textB a, textB b, wSwap, wSwap, wDrop] = ⟨oneW a, 0, 0, []⟩ := by
  rw [runB_of _ _ (by
    intro w hw
    simp only [List.mem_cons, List.not_mem_nil, or_false] at hw
    rcases hw with rfl | rfl | rfl | rfl | rfl
    · exact isWord_text ha
    · exact isWord_text hb
    · exact isWord_known (by decide)
    · exact isWord_known (by decide)
    · exact isWord_known (by decide)) (by simp)]
  simp only [wordsGo, step_text e ha, step_text e hb, step_swap, step_drop, oneW_one, tellOf]
theorem run_s4 (e : En) : runB e [textB a, textB b, wSwap, wDrop] = ⟨oneW b, 0, 0, []⟩ := by
  rw [runB_of _ _ (by
    intro w hw
    simp only [List.mem_cons, List.not_mem_nil, or_false] at hw
    rcases hw with rfl | rfl | rfl | rfl
    · exact isWord_text ha
    · exact isWord_text hb
    · exact isWord_known (by decide)
    · exact isWord_known (by decide)) (by simp)]
  simp only [wordsGo, step_text e ha, step_text e hb, step_swap, step_drop, oneW_one, tellOf]
theorem run_pick (hc : c < 18446744073709551616) (e : En) : runB e [textB a, textB b, textB c, wPick] = ⟨oneW (if nilB (oneW c) then b else a), 0, 0, []⟩ := by
  rw [runB_of _ _ (by
    intro w hw
    simp only [List.mem_cons, List.not_mem_nil, or_false] at hw
    rcases hw with rfl | rfl | rfl | rfl
    · exact isWord_text ha
    · exact isWord_text hb
    · exact isWord_text hc
    · exact isWord_known (by decide)) (by simp)]
  simp only [wordsGo, step_text e ha, step_text e hb, step_text e hc, step_pick, tellOf]
  cases nilB (oneW c) <;> simp [oneW_one]
end

theorem ordK_nan : ordK 9221120237041090560 = 100000000000000000000 := by decide +kernel
theorem least_twice (a : Nat) : oneW (leastC (pairL (oneW a) (oneW a)) 2) = oneW a := by
  have e1 : pairL (oneW a) (oneW a) = fun _ => oneW a := by funext i; unfold pairL; split <;> rfl
  rw [e1]
  show oneW (if lessB (oneW a) (if lessB (oneW a) 9221120237041090560 then oneW a else 9221120237041090560) then oneW a else if lessB (oneW a) 9221120237041090560 then oneW a else 9221120237041090560) = _
  rcases fine_dec a with ⟨h, hf⟩ | ⟨h, _⟩
  · have h1 : oneW a = a := oneW_not h
    rw [h1]
    have h2 : lessB a 9221120237041090560 = true := by
      rw [less_ord, ordK_nan, decide_eq_true_eq]
      unfold fine at hf
      unfold ordK
      rw [if_neg (by omega)]
      split <;> omega
    rw [h2]
    simp [h1]
  · rw [oneW_nan h]
    have : lessB 9221120237041090560 9221120237041090560 = false := by decide +kernel
    rw [this]
    simp
    decide +kernel
theorem run_s2 {a : Nat} (ha : a < 18446744073709551616) (e : En) : runB e [textB a, wDup, wMin] = ⟨oneW a, 0, 0, []⟩ := by
  rw [runB_of _ _ (by
    intro w hw
    simp only [List.mem_cons, List.not_mem_nil, or_false] at hw
    rcases hw with rfl | rfl | rfl
    · exact isWord_text ha
    · exact isWord_known (by decide)
    · exact isWord_known (by decide)) (by simp)]
  have hm : arithB wMin (oneW a) (oneW a) = oneW (leastC (pairL (oneW a) (oneW a)) 2) := rfl
  simp only [wordsGo, step_text e ha, step_dup, step_arith e (show arithWords.contains wMin = true by decide), oneW_one, hm, least_twice, tellOf]
theorem text_small (a : Nat) : (⟨(textB a).toArray⟩ : ByteArray).size ≤ 281474976710656 := by
  have := (text_len a).2
  show (textB a).toArray.size ≤ _
  simp; omega
end Go.Proofs.YtidjnfjpdnjogaaGreatDoor
