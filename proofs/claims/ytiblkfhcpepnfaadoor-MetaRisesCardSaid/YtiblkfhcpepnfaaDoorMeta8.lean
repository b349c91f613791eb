/-
  The laws' own first call; lists of ints lent. Conditions: none.
-/
import Derived.Test.YtiblkfhcpepnfaaDoorMeta7
import Derived.WalkSpells
namespace Go.Proofs.YtiblkfhcpepnfaaDoor
open Go.RowKit Go.Lib

def sameM (m n : Mt) : Bool := (m.a == n.a) && ((m.b == n.b) && (m.c == n.c))
theorem sameM_iff {m n : Mt} : sameM m n = true ↔ m = n := by
  obtain ⟨a, b, c⟩ := m
  obtain ⟨a', b', c'⟩ := n
  simp [sameM]
theorem sameM_self (m : Mt) : sameM m m = true := sameM_iff.2 rfl
theorem eq_meta (m n : Mt) (w : World) : (binOp .eql 23 m.val n.val).run Tryd.prog w = .ok (.bool (sameM m n)) w := by
  unfold sameM
  simp [go_sem]
  by_cases h1 : m.a = n.a <;> by_cases h2 : m.b = n.b <;> by_cases h3 : m.c = n.c <;> simp [h1, h2, h3]
theorem ne_meta (m n : Mt) (w : World) : (binOp .neq 23 m.val n.val).run Tryd.prog w = .ok (.bool (!sameM m n)) w := by
  unfold sameM
  simp [go_sem]
  by_cases h1 : m.a = n.a <;> by_cases h2 : m.b = n.b <;> by_cases h3 : m.c = n.c <;> simp [h1, h2, h3]

/-- 'count=5 before=3'. -/
def firstT : List UInt8 := [99, 111, 117, 110, 116, 61, 53, 32, 98, 101, 102, 111, 114, 101, 61, 51]
theorem first_text : textM ⟨5, 0, 3⟩ = (firstT, 0) := by decide +kernel
theorem first_parse : parseM firstT = (⟨5, 0, 3⟩, 0) := by
  have h := parse_text ⟨5, 0, 3⟩ (by decide)
  rw [first_text] at h
  exact h
def three : Nat → Int := fun i => (i : Int) + 1
theorem first_floor : floorOf ⟨2, 0, 0⟩ 0 9 three 3 = 1 := by simp [floorOf]; omega

theorem three_cells {w : World} {b : Nat} (h : w.heap[b]? = some (.cells #[.int .i64 1, .int .i64 2, .int .i64 3] 3)) : ∀ i, i < 3 → w.cell? ⟨b, 0 + i, none⟩ = some (.int .i64 (three i)) := by
  intro i hi
  rw [Lib.cell_of_heap h]
  match i, hi with
  | 0, _ => rfl
  | 1, _ => rfl
  | 2, _ => rfl

set_option maxRecDepth 100000 in
set_option maxHeartbeats 2000000 in
theorem alive_any (w : World) (ht : Tab w) : Calls Tryd.prog 7 #[] w fun e w' => e = .returned (.bool true) ∧ Below w.heap.size w w' := by
  have H1 := fun W (h : Tab W) => text_any ⟨5, 0, 3⟩ W h
  rw [first_text] at H1
  unfold textV at H1
  simp only [] at H1
  have H2 := fun W (h : Tab W) => parse_any ⟨firstT.toArray⟩ (by decide) W h
  rw [show (⟨firstT.toArray⟩ : ByteArray).data.toList = firstT from rfl, first_parse] at H2
  simp only [] at H2
  have HT := Lib.hid ht; clear ht
  have K1 := Lib.hid H1; clear H1
  have K2 := Lib.hid H2; clear H2
  have heq : ∀ w, (binOp .eql 23 (.agg #[.int .i64 5, .int .i64 0, .int .i64 3]) (.agg #[.int .i64 5, .int .i64 0, .int .i64 3])).run Tryd.prog w = .ok (.bool true) w := fun w => eq_meta ⟨5, 0, 3⟩ ⟨5, 0, 3⟩ w
  have hfs : ((mkS firstT).toList == [99, 111, 117, 110, 116, 61, 53, 32, 98, 101, 102, 111, 114, 101, 61, 51]) = true := by rw [toList_data]; rfl
  have HF := Lib.hid (fun W h => floor_any ⟨2, 0, 0⟩ 0 9 (by decide) (by decide) (by decide) (by decide) (some ⟨W, 0, none⟩) 3 3 (by unfold maxLen; decide) three h)
  rw [first_floor] at HF
  go_enter Tryd.func7, Tryd.ntmps7
  go_wp2_with (first
    | (go_at_call 8
       refine (K1.out _ HT.out).mono ?_
       rintro e w1 ⟨rfl, hb1⟩
       replace hb1 := Lib.hid hb1)
    | (go_at_call 10
       refine (K2.out _ (HT.out.below hb1.out)).mono ?_
       rintro e w2 ⟨rfl, hb2⟩
       have hb3 := Lib.hid (hb1.out.trans (hb2.mono hb1.out.size))
       clear hb2)
    | (go_at_call 13
       refine (HF.out (w2.heap.size + 1) _ ⟨fun _ => ⟨_, 0, rfl, by simp, three_cells (new_block2 _ _ _)⟩⟩).mono ?_
       rintro e w3 ⟨rfl, hb4⟩
       have hb5 := Lib.hid (hb3.out.trans ((Below.trans (((Below.refl _ w2).alloc (Nat.le_refl _) _).alloc (by simp) _) (hb4.mono (by simp; omega))).mono hb3.out.size))
       clear hb4)
    | fail)
  go_ret
  exact ⟨rfl, hb5.out⟩
end Go.Proofs.YtiblkfhcpepnfaaDoor
