/-
  codec.Out: what each of its functions does. Conditions: none.
-/
import Derived.Test.YtganeocegdkddaaDoorA
import Derived.Lib.Hide
import Derived.Deep.AppendLies
import Derived.Deep.RegionLaw
import Derived.Deep.LoopGhost
import Derived.Deep.QuietTactic
namespace Go.Proofs.YtganeocegdkddaaDoor
open Go.RowKit Go.Lib

/-- An Out at block O: its bytes, its error. -/
structure OutAt (B O : Nat) (v : Value) (s : ByteArray) (e : Int) (w : World) : Prop where
  box : w.heap[O]? = some (.cells #[v, .int .i64 e] 27)
  own : w.ownsRow B 5 1 v s.size (strCells s)
  bo : B ≤ O

theorem OutAt.kept {B O : Nat} {v : Value} {s : ByteArray} {e : Int} {w w' : World} (h : OutAt B O v s e w) (hs : ∀ k, k < w.heap.size → k = O ∨ v.ownBlock = some k → w'.heap[k]? = w.heap[k]?) : OutAt B O v s e w' :=
  ⟨(hs O (lt_of_block h.box) (Or.inl rfl)).trans h.box, own_same h.own (fun g hg => hs g (h.own.lt g hg).2 (Or.inr hg)), h.bo⟩
theorem OutAt.below' {B O : Nat} {v : Value} {s : ByteArray} {e : Int} {w w' : World} (h : OutAt B O v s e w) (hb : Below w.heap.size w w') : OutAt B O v s e w' :=
  h.kept fun k hk _ => hb.block k hk
theorem OutAt.turn {B O : Nat} {v : Value} {s : ByteArray} {e : Int} {w w' : World} (h : OutAt B O v s e w) (ht : Turn O v.ownBlock w w') : Below B w w' :=
  ⟨ht.os, ht.tape, ht.output, ht.size, fun k hk => ht.block k (Nat.lt_of_lt_of_le hk (Nat.le_trans h.bo (Nat.le_of_lt (lt_of_block h.box)))) (by have := h.bo; omega) (fun hc => by have := (h.own.lt k hc.symm).1; omega)⟩
theorem OutAt.row_ne {B O : Nat} {v : Value} {s : ByteArray} {e : Int} {w : World} (h : OutAt B O v s e w) : some O ≠ v.ownBlock := own_ne h.own h.box (by decide)
theorem OutAt.setErr {B O : Nat} {v : Value} {s : ByteArray} {e : Int} {w : World} (h : OutAt B O v s e w) (e' : Int) : OutAt B O v s e' (w.setCell ⟨O, 1, none⟩ (.int .i64 e')) :=
  ⟨set_snd h.box _, own_same h.own (fun g hg => Below.heap_setCell _ _ _ _ (fun hc => h.row_ne (by rw [hg]; exact congrArg some (by simpa using hc.symm)))), h.bo⟩

section
variable (B O : Nat) (v : Value) (s : ByteArray) (e : Int) (w : World) (hO : OutAt B O v s e w)
include hO

/-- The first error stays. -/
theorem fail_had (bad : Bool) (e' : Int) (he : (e == 0) = false) : Calls Tryd.prog 53 #[.pointer (some ⟨O, 0, none⟩), .bool bad, .int .i64 e'] w fun en w' => en = .returned (.bool true) ∧ w' = w := by
  obtain ⟨c1, c2, c3, c4⟩ := cells_of_two hO.box
  have hz := lt_of_block hO.box
  have he2 : (e != 0) = true := by rw [bne, he]; rfl
  go_enter Tryd.func53, Tryd.ntmps53
  go_wp2
  go_ret
  exact ⟨rfl, rfl⟩

theorem fail_none (e' : Int) (he : e = 0) : Calls Tryd.prog 53 #[.pointer (some ⟨O, 0, none⟩), .bool false, .int .i64 e'] w fun en w' => en = .returned (.bool false) ∧ w' = w := by
  obtain ⟨c1, c2, c3, c4⟩ := cells_of_two hO.box
  have hz := lt_of_block hO.box
  subst he
  go_enter Tryd.func53, Tryd.ntmps53
  go_wp2
  go_ret
  exact ⟨rfl, rfl⟩

theorem fail_now (e' : Int) (he : e = 0) (he' : (e' != 0) = true) : Calls Tryd.prog 53 #[.pointer (some ⟨O, 0, none⟩), .bool true, .int .i64 e'] w fun en w' => en = .returned (.bool true) ∧ w' = w.setCell ⟨O, 1, none⟩ (.int .i64 e') := by
  obtain ⟨c1, c2, c3, c4⟩ := cells_of_two hO.box
  have hz := lt_of_block hO.box
  subst he
  go_enter Tryd.func53, Tryd.ntmps53
  go_wp2
  go_ret
  exact ⟨rfl, rfl⟩
end


/-- The j-th byte of a number, the lowest the nought-th. -/
def byteAt (x : Int) (j : Nat) : UInt8 := UInt8.ofNat (x.toNat >>> (8 * j))
/-- The first k of the n lowest bytes of a number, the highest first. -/
def highs (x : Int) (n k : Nat) : ByteArray := ⟨((List.range k).map fun i => byteAt x (n - 1 - i)).toArray⟩

theorem byte_wrap (x : Int) (hx0 : 0 ≤ x) (j : Nat) : IntKind.u8.wrap (x / 2 ^ (8 * (j : Int)).toNat) = ((byteAt x j).toNat : Int) := by
  have e1 : (8 * (j : Int)).toNat = 8 * j := by omega
  rw [IntKind.wrap_u8, e1, byteAt, UInt8.toNat_ofNat']
  obtain ⟨y, rfl⟩ := Int.eq_ofNat_of_zero_le hx0
  rw [Int.toNat_natCast, Nat.shiftRight_eq_div_pow]
  rw [Int.natCast_emod, Int.natCast_ediv, Int.natCast_pow]
  rfl

theorem highs_size (x : Int) (n k : Nat) : (highs x n k).size = k := by simp [highs, ByteArray.size]
theorem highs_zero (x : Int) (n : Nat) (s : ByteArray) : s ++ highs x n 0 = s := by
  apply ByteArray.ext; simp [highs]
theorem highs_next (x : Int) (n k : Nat) (s : ByteArray) : strCells (s ++ highs x n (k + 1)) = strCells (s ++ highs x n k) ++ [.int .u8 ((byteAt x (n - 1 - k)).toNat)] := by
  simp [strCells, highs, ByteArray.data_append, List.range_succ]

/-- One more byte: behind the append and the store. -/
theorem OutAt.push {B O g cap : Nat} {v : Value} {s s' : ByteArray} {e : Int} {w w0 w1 : World} {b : UInt8} (h : OutAt B O v s e w) (h0 : Below w.heap.size w w0)
    (ho : w1.ownsRow B 5 1 (.slice (some ⟨g, 0, none⟩) (s.size + 1) cap) (s.size + 1) (strCells s ++ [.int .u8 b.toNat])) (hg : w0.grownBy w1 v.ownBlock) (hat : v.ownBlock = some g ∨ g = w0.heap.size) (hs : strCells s' = strCells s ++ [.int .u8 b.toNat]) (hz : s'.size = s.size + 1) :
    OutAt B O (.slice (some ⟨g, 0, none⟩) (s.size + 1) cap) s' e (w1.setCell ⟨O, 0, none⟩ (.slice (some ⟨g, 0, none⟩) (s.size + 1) cap)) ∧
      Turn O v.ownBlock w (w1.setCell ⟨O, 0, none⟩ (.slice (some ⟨g, 0, none⟩) (s.size + 1) cap)) ∧ Hat w v.ownBlock (some g) := by
  have hz0 := lt_of_block h.box
  have hb0 : w0.heap[O]? = some (.cells #[v, .int .i64 e] 27) := (h0.block O hz0).trans h.box
  have hb1 : w1.heap[O]? = some (.cells #[v, .int .i64 e] 27) := (hg.block O (lt_of_block hb0) h.row_ne).trans hb0
  have hgo : g ≠ O := by
    have := own_ne ho hb1 (by decide)
    intro hc; exact this (by rw [hc]; rfl)
  have hT : Turn O v.ownBlock w w1 := (Turn.of_below h0).trans (Turn.of_grown hg) (Hat.refl _ _)
  refine ⟨⟨set_fst hb1 _, own_same (by rw [hz, hs]; exact ho) (fun g' hg' => Below.heap_setCell _ _ _ _ (by simp [Value.ownBlock] at hg'; subst hg'; exact hgo)), h.bo⟩, ?_, ?_⟩
  · exact hT.trans (Turn.set (row := v.ownBlock) 0 _) (Hat.refl _ _)
  · rcases hat with h1 | rfl
    · exact Or.inl h1.symm
    · exact Or.inr ⟨_, h0.size, rfl⟩

theorem OutAt.pushed {B O : Nat} {v : Value} {s : ByteArray} {e : Int} {w w0 w1 : World} (h : OutAt B O v s e w) (h0 : Below w.heap.size w w0) (hg : w0.grownBy w1 v.ownBlock) : w1.heap[O]? = some (.cells #[v, .int .i64 e] 27) := by
  have hb0 : w0.heap[O]? = some (.cells #[v, .int .i64 e] 27) := (h0.block O (lt_of_block h.box)).trans h.box
  exact (hg.block O (lt_of_block hb0) h.row_ne).trans hb0

theorem high_any (B O : Nat) (v : Value) (s : ByteArray) (e : Int) (w : World) (hO : OutAt B O v s e w) (x : Int) (hx0 : 0 ≤ x) (n : Nat) (hn : n ≤ 8) (hs : s.size ≤ 1000000) :
    Calls Tryd.prog 54 #[.pointer (some ⟨O, 0, none⟩), .int .u64 x, .int .i64 n] w fun en w' =>
      en = .returned (.pointer (some ⟨O, 0, none⟩)) ∧ ∃ v', OutAt B O v' (s ++ highs x n n) e w' ∧ Turn O v.ownBlock w w' ∧ Hat w v.ownBlock v'.ownBlock := by
  obtain ⟨i5, hi, hz0, hz1, hz2⟩ := info_parts (P := Tryd.prog) (e := 5) (z := .int .u8 0) (size := 1) (bytes := 1) (by kernel_rfl)
  have HO := Lib.hid hO; clear hO
  go_enter Tryd.func54, Tryd.ntmps54
  have hw1 : IntKind.i64.wrap ((n : Int) - 1) = (n : Int) - 1 := IntWalk.i64_in _ (by omega)
  go_wp2_with fail
  go_loopg [7] n (fun g i wr => ∃ (j : Nat) (vr : Value), g = j ∧ j ≤ n ∧ i = .int .i64 ((j : Int) - 1) ∧ OutAt B O vr (s ++ highs x n (n - j)) e wr ∧ Turn O v.ownBlock w wr ∧ Hat w v.ownBlock vr.ownBlock)
  case atStart =>
    refine ⟨n, v, rfl, Nat.le_refl _, rfl, ?_, Turn.refl _ _ _, Hat.refl _ _⟩
    rw [Nat.sub_self, highs_zero]
    exact HO.out
  case round =>
    obtain ⟨j, vr, hg, hj, rfl, hr, ht, hh⟩ := hrel
    have HG := Lib.hid hg; clear hg
    obtain ⟨c1, c2, c3, c4⟩ := cells_of_two hr.box
    have hz := lt_of_block hr.box
    have hsz : (s ++ highs x n (n - j)).size = s.size + (n - j) := by rw [ByteArray.size_append, highs_size]
    have HR := Lib.hid (And.intro hr (And.intro ht hh)); clear hr ht hh
    rcases j with _ | j
    · clear hsz
      go_wp2_with fail
      go_ret
      refine ⟨rfl, vr, ?_⟩
      have := HR.out
      rwa [Nat.sub_zero] at this
    · have e1 : (((j + 1 : Nat) : Int) - 1) = (j : Int) := by omega
      rw [e1]
      have hnext := highs_next x n (n - (j + 1)) s
      have hjj : n - 1 - (n - (j + 1)) = j := by omega
      have hjk : n - (j + 1) + 1 = n - j := by omega
      rw [hjj, hjk] at hnext
      have hnz : (s ++ highs x n (n - j)).size = s.size + (n - (j + 1)) + 1 := by rw [ByteArray.size_append, highs_size]; omega
      rw [← hsz] at hnz
      revert HR hnext hsz hnz
      generalize s ++ highs x n (n - (j + 1)) = sr
      intro hsz HR hnext hnz
      have hl1 : sr.size + 1 ≤ maxLen := by rw [hsz]; unfold maxLen; omega
      have hl2 : (sr.size + 1) * 1 ≤ 140737488355328 := by rw [hsz]; omega
      have HN := Lib.hid (And.intro hnext hnz)
      clear hnext hnz hsz hjj hjk
      have hj0 : (0 : Int) ≤ (j : Int) := by omega
      have hw2 : IntKind.i64.wrap (8 * (j : Int)) = 8 * (j : Int) := IntWalk.i64_in _ (by omega)
      have hw3 : IntKind.i64.wrap ((j : Int) - 1) = (j : Int) - 1 := IntWalk.i64_in _ (by omega)
      have hw4 : (0 : Int) ≤ 8 * (j : Int) := by omega
      have hw6 := byte_wrap x hx0 j
      have hB : B ≤ wr.heap.size := by have := HR.out.1.bo; omega
      go_wp2_with fail
      go_region_law ((refine step_append_lies _ (by rfl) _ _ _ (by rfl) B 5 i5 _ 1 1 Tryd.underlying24 hi hz0 hz1 hz2 rfl (by decide) vr _ _ (by rfl) ((HR.out.1.own.alloc _).drew) ⟨wr.heap.size, 0, none⟩ 1 1 [.int .u8 ((byteAt x j).toNat)] (by rfl) (by rfl) (World.news_of_block (cs := #[.int .u8 ((byteAt x j).toNat)]) (t := 5) (fr := (0, 0)) (heap_alloc_new wr _)) (by simp [Value.oneCell']) (by decide) hl1 hl2 (by simp; omega) (wr.heap.size + 1) (by simp) ?_; intro g cap w1 hown hgr hat hlt; obtain ⟨c5, c6, c7, c8⟩ := cells_of_two (HR.out.1.pushed (below_alloc wr _).drew hgr); have hz1 := lt_of_block (HR.out.1.pushed (below_alloc wr _).drew hgr)))
      all_goals
        obtain ⟨q1, q2, q3⟩ := OutAt.push HR.out.1 (below_alloc wr _).drew hown hgr (by simpa using hat) HN.out.1 HN.out.2
        clear c1 c2 c3 c4 c5 c6 c7 c8 hz hz1
        revert q1 q2
        generalize w1.setCell ⟨O, 0, none⟩ (.slice (some ⟨g, 0, none⟩) (sr.size + 1) cap) = w3
        intro q1 q2
        have HQ := Lib.hid (And.intro q1 q2); clear q1 q2 hown hgr
        go_wp2_with fail
        go_roundg j
        case measure => rw [HG.out]; omega
        case rel => exact ⟨j, _, rfl, by omega, rfl, HQ.out.1, HR.out.2.1.trans HQ.out.2 HR.out.2.2, HR.out.2.2.trans q3 HR.out.2.1.size⟩

end Go.Proofs.YtganeocegdkddaaDoor
