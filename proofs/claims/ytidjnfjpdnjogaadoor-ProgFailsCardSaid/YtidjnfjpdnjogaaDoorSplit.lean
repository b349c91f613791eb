/-
  strings.SplitSeq at one byte: the iterator's contract. Conditions: none.
-/
import Derived.Test.YtidjnfjpdnjogaaDoorRf
import Derived.Test.YtidjnfjpdnjogaaDoorCut
import Derived.Test.YtidjnfjpdnjogaaDoorSplP
namespace Go.Proofs.YtidjnfjpdnjogaaDoor
open Go.RowKit Go.Lib Go.Shelf
attribute [local go_sem] Oper.semAt_some

theorem cutB_join (b : UInt8) : ∀ l, (cutB b l).2.2 = true → l = (cutB b l).1 ++ b :: (cutB b l).2.1
  | [], h => by simp [cutB] at h
  | c :: t, h => by
    rw [cutB] at h ⊢
    by_cases e : c = b
    · rw [if_pos e]; simp [e]
    · rw [if_neg e] at h ⊢
      have := cutB_join b t h
      simp only [List.cons_append]
      rw [← this]
theorem cutB_fst (b : UInt8) : ∀ l, b ∉ (cutB b l).1
  | [] => by simp [cutB]
  | c :: t => by
    rw [cutB]
    by_cases e : c = b
    · rw [if_pos e]; simp
    · rw [if_neg e]
      simp only [List.mem_cons, not_or]
      exact ⟨fun h => e h.symm, cutB_fst b t⟩
/-- What Index tells, and what the words are then. -/
theorem split_index (b : UInt8) (l : List UInt8) : (indexByte l b = -1 ∧ splitB b l = [l]) ∨ ∃ i : Nat, i < l.length ∧ indexByte l b = i ∧ splitB b l = l.take i :: splitB b (l.drop (i + 1)) := by
  rcases cut_index b l with ⟨e1, e2⟩ | ⟨i, hi, e1, e2⟩
  · refine Or.inl ⟨e1, splitB_not b l ?_⟩
    have := cutB_fst b l
    rw [e2] at this
    exact this
  · refine Or.inr ⟨i, hi, e1, ?_⟩
    have h1 := cutB_fst b l
    have h2 := cutB_join b l (by rw [e2])
    rw [e2] at h1 h2
    conv => lhs; rw [h2]
    exact splitB_at b _ _ h1
def mkS (l : List UInt8) : ByteArray := ⟨l.toArray⟩
theorem mk_take (s : ByteArray) (i : Nat) : mkS (s.data.toList.take i) = s.extract 0 i := by
  apply ByteArray.ext; apply Array.ext'
  simp [mkS]
theorem mk_drop (s : ByteArray) (i : Nat) : (s.extract i s.size).data.toList = s.data.toList.drop i := by
  simp only [ByteArray.data_extract, Array.toList_extract, List.extract_eq_take_drop]
  rw [List.take_of_length_le (by simp)]
theorem mk_self (s : ByteArray) : mkS s.data.toList = s := rfl

theorem index_any (s : ByteArray) (c : UInt8) (w : World) : Calls Tryd.prog 80 #[.string s, .string ⟨#[c]⟩] w fun e w' => e = .returned (.int .i64 (indexByte s.data.toList c)) ∧ w' = w := by
  have H := Tryd.stringslite_Index_one s c w
  revert H
  generalize indexByte s.data.toList c = r
  intro H
  have HH := Lib.hid H; clear H
  go_enter Tryd.func80, Tryd.ntmps80
  go_wp2_with fail
  refine HH.out.mono ?_
  rintro en w' ⟨rfl, rfl⟩
  go_wp2
  go_ret
  exact ⟨rfl, rfl⟩

set_option maxHeartbeats 1000000 in
theorem splitSeq_any (s : ByteArray) (c : UInt8) (w : World) :
    Calls Tryd.prog 50 #[.string s, .string ⟨#[c]⟩] w fun e w' => e = .returned (.func (.func 78) #[] #[.pointer (some ⟨w.heap.size + 1, 0, none⟩), .pointer (some ⟨w.heap.size, 0, none⟩), .pointer (some ⟨w.heap.size + 2, 0, none⟩)])
      ∧ w' = ((w.alloc (.cells #[.string s] 9)).alloc (.cells #[.string ⟨#[c]⟩] 9)).alloc (.cells #[.int .i64 0] 3) := by
  have H : Calls Tryd.prog 69 #[.string s, .string ⟨#[c]⟩, .int .i64 0] w fun e w' => e = .returned (.func (.func 78) #[] #[.pointer (some ⟨w.heap.size + 1, 0, none⟩), .pointer (some ⟨w.heap.size, 0, none⟩), .pointer (some ⟨w.heap.size + 2, 0, none⟩)])
      ∧ w' = ((w.alloc (.cells #[.string s] 9)).alloc (.cells #[.string ⟨#[c]⟩] 9)).alloc (.cells #[.int .i64 0] 3) := by
    go_enter Tryd.func69, Tryd.ntmps69
    go_wp2
    go_ret
    exact ⟨rfl, rfl⟩
  have HH := Lib.hid H; clear H
  go_enter Tryd.func50, Tryd.ntmps50
  go_wp2_with fail
  refine HH.out.mono ?_
  rintro en w' ⟨rfl, rfl⟩
  go_wp2
  go_ret
  exact ⟨rfl, rfl⟩

/-- What is left of the text. -/
def leftS (B : Nat) (w : World) : Nat := match w.cell? ⟨B, 0, none⟩ with
  | some (.string t) => t.size
  | _ => 0
theorem leftS_of {B : Nat} {w : World} {t : ByteArray} (h : w.cell? ⟨B, 0, none⟩ = some (.string t)) : leftS B w = t.size := by rw [leftS, h]

set_option maxRecDepth 100000 in
set_option maxHeartbeats 2000000 in
theorem split_yields (n : Nat) (hn : 1 ≤ n) (B : Nat) (c : UInt8) (s : ByteArray) (hs : s.size ≤ 1000000) (w : World)
    (h0 : w.heap[B]? = some (.cells #[.string s] 9)) (h1 : w.heap[B + 1]? = some (.cells #[.string ⟨#[c]⟩] 9)) (h2 : w.heap[B + 2]? = some (.cells #[.int .i64 0] 3)) :
    Yields n Tryd.prog 78 #[.pointer (some ⟨B + 1, 0, none⟩), .pointer (some ⟨B, 0, none⟩), .pointer (some ⟨B + 2, 0, none⟩)] (fun x : ByteArray => #[.string x]) B ((splitB c s.data.toList).map mkS) w := by
  intro l J W hW hJs hY hJ0
  have g0 := (hW.block B (lt_of_block h0)).trans h0
  have g1 := (hW.block (B + 1) (lt_of_block h1)).trans h1
  have g2 := (hW.block (B + 2) (lt_of_block h2)).trans h2
  clear h0 h1 h2 hW
  obtain ⟨L, hL⟩ : ∃ L, (splitB c s.data.toList).map mkS = L := ⟨_, rfl⟩
  rw [hL] at hY ⊢
  have HL := Lib.hid hL; clear hL
  have HJ := Lib.hid hJs; clear hJs
  refine callsIn_of_wp Tryd.func78 rfl trivial ?_ rfl
  simp only [Tryd.ntmps78, List.size_toArray, List.length_cons, List.length_nil, Nat.reduceAdd, Nat.reduceSub, Array.replicate_succ, Array.replicate_zero, List.push_toArray, List.append_toArray, List.nil_append, List.cons_append]
  have c0 : W.cell? ⟨B, 0, none⟩ = some (.string s) := by simp [World.cell?, g0]
  have c1 : W.cell? ⟨B + 1, 0, none⟩ = some (.string ⟨#[c]⟩) := by simp [World.cell?, g1]
  gi_wp2
  gi_loopw [] (fun wr => ∃ (pre : List ByteArray) (t : ByteArray), t.size ≤ 1000000 ∧ wr.heap[B]? = some (.cells #[.string t] 9) ∧ wr.heap[B + 1]? = some (.cells #[.string ⟨#[c]⟩] 9) ∧ wr.heap[B + 2]? = some (.cells #[.int .i64 0] 3) ∧ L = pre ++ (splitB c t.data.toList).map mkS ∧ J pre wr)
    (fun wr => leftS B wr)
  case atStart => exact ⟨[], s, hs, g0, g1, g2, HL.out.symm, hJ0⟩
  case round =>
    obtain ⟨pre, t, ht, q0, q1, q2, hLp, hJ⟩ := hrel
    have d0 : wr.cell? ⟨B, 0, none⟩ = some (.string t) := by simp [World.cell?, q0]
    have d1 : wr.cell? ⟨B + 1, 0, none⟩ = some (.string ⟨#[c]⟩) := by simp [World.cell?, q1]
    have d2 : wr.cell? ⟨B + 2, 0, none⟩ = some (.int .i64 0) := by simp [World.cell?, q2]
    have HI := index_any t c wr
    rcases split_index c t.data.toList with ⟨e1, e2⟩ | ⟨i, hi, e1, e2⟩
    · rw [e1] at HI
      rw [e2] at hLp
      have hLx : L = pre ++ [t] := hLp
      obtain ⟨fn, tmps, assign, body, hy, hR⟩ := hY pre t wr hJ (by rw [hLx]; exact List.prefix_refl _)
      replace HI := Lib.hid HI
      have HX := Lib.hid hLx
      clear hLx hLp e1 e2 hY hJ g0 g1 g2 c0 c1
      gi_wp2_with (first | (refine ⟨trivial, ?_⟩; gi_at_call 80; refine (callsIn_wide.2 HI.out).mono ?_; rintro e w' ⟨rfl, rfl⟩) | fail)
      refine hR.mono ?_
      rintro e W3 ⟨rfl, hJ3, hk3⟩
      gi_wp2
      go_end0
      exact ⟨⟨_, rfl⟩, by rw [HX.out]; exact hJ3⟩
    · rw [e1] at HI
      rw [e2] at hLp
      have hi' : i < t.size := by simpa using hi
      have hdr := mk_drop t (i + 1)
      have hLx : L = (pre ++ [t.extract 0 i]) ++ (splitB c (t.extract (i + 1) t.size).data.toList).map mkS := by
        rw [hdr, hLp, List.map_cons, mk_take]; simp
      obtain ⟨fn, tmps, assign, body, hy, hR⟩ := hY pre (t.extract 0 i) wr hJ (by rw [hLx]; exact List.prefix_append _ _)
      replace HI := Lib.hid HI
      have HX := Lib.hid hLx
      have HL0 := Lib.hid (leftS_of d0)
      clear hLx hLp e1 e2 hY hJ g0 g1 g2 c0 c1 hdr hi
      have h1 : (i : Int) ≤ (t.size : Int) := by omega
      have h2 : (i : Int) + 1 ≤ (t.size : Int) := by omega
      have h3 : i + 1 ≤ t.size := by omega
      have hw : IntKind.i64.wrap ((i : Int) + 1) = (i : Int) + 1 := IntWalk.i64_in _ (by omega)
      have h4 : (0 : Int) ≤ (i : Int) := by omega
      gi_wp2_with (first | (refine ⟨trivial, ?_⟩; gi_at_call 80; refine (callsIn_wide.2 HI.out).mono ?_; rintro e w' ⟨rfl, rfl⟩) | fail)
      refine hR.mono ?_
      rintro e W3 ⟨rfl, hJ3, hk3⟩
      have r0 := (hk3 B (Nat.le_refl _) (by omega)).trans q0
      have r1 := (hk3 (B + 1) (by omega) (by omega)).trans q1
      have r2 := (hk3 (B + 2) (by omega) (by omega)).trans q2
      have b0 : W3.cell? ⟨B, 0, none⟩ = some (.string t) := by simp [World.cell?, r0]
      have b1 : W3.cell? ⟨B + 1, 0, none⟩ = some (.string ⟨#[c]⟩) := by simp [World.cell?, r1]
      have b2 : W3.frozen? ⟨B, 0, none⟩ = false := by simp [World.frozen?, r0]
      have HS := Lib.hid (show (W3.setCell ⟨B, 0, none⟩ (.string (t.extract (i + 1) t.size))).heap[B]? = some (.cells #[.string (t.extract (i + 1) t.size)] 9) by rw [heap_setCell_same r0]; rfl)
      have HS1 := Lib.hid (show (W3.setCell ⟨B, 0, none⟩ (.string (t.extract (i + 1) t.size))).heap[B + 1]? = some (.cells #[.string ⟨#[c]⟩] 9) from (Below.heap_setCell W3 _ _ _ (show B + 1 ≠ B by omega)).trans r1)
      have HS2 := Lib.hid (show (W3.setCell ⟨B, 0, none⟩ (.string (t.extract (i + 1) t.size))).heap[B + 2]? = some (.cells #[.int .i64 0] 3) from (Below.heap_setCell W3 _ _ _ (show B + 2 ≠ B by omega)).trans r2)
      have HJ3 := Lib.hid (HJ.out _ _ (.string (t.extract (i + 1) t.size)) hJ3)
      have hzz : (t.extract (i + 1) t.size).size = t.size - (i + 1) := by simp
      have HZ := Lib.hid hzz
      clear r0 r1 r2 hJ3 hk3 hzz
      gi_wp2
      go_roundw
      case rel => exact ⟨pre ++ [t.extract 0 i], t.extract (i + 1) t.size, by rw [HZ.out]; omega, HS.out, HS1.out, HS2.out, HX.out, HJ3.out⟩
      case measure =>
        rw [HL0.out, leftS_of (t := t.extract (i + 1) t.size) (by rw [Lib.cell_of_heap HS.out]; rfl), HZ.out]
        omega
end Go.Proofs.YtidjnfjpdnjogaaDoor
