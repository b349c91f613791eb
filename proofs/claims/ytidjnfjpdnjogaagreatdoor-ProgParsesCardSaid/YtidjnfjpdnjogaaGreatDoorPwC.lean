/-
  chroniclebook: marks one behind the other. Conditions: none.
-/
import Derived.Test.YtidjnfjpdnjogaaGreatDoorPwB
namespace Go.Proofs.YtidjnfjpdnjogaaGreatDoor
open Go.RowKit Go.Lib

def marks (i fr n : Nat) : List ByteArray := (List.range n).map fun j => nameS i (fr + j)
theorem marks_succ (i fr n : Nat) : marks i fr (n + 1) = marks i fr n ++ [nameS i (fr + n)] := by simp [marks, List.range_succ]
theorem marks_len (i fr n : Nat) : (marks i fr n).length = n := by simp [marks]
theorem marks_add (i fr a b : Nat) : marks i fr (a + b) = marks i fr a ++ marks i (fr + a) b := by
  induction b with
  | zero => simp [marks]
  | succ b ih => rw [← Nat.add_assoc, marks_succ, ih, marks_succ, List.append_assoc, Nat.add_assoc fr a b]

set_option maxRecDepth 100000 in
theorem marks_any (i fr n : Nat) (hi : i < 1000) (hf : fr < 1000) (hn : n < 1000) (w : World) : Calls Tryz.prog 61 #[.int .i64 i, .int .i64 fr, .int .i64 n] w fun e w' => ∃ v, e = .returned v ∧ w'.ownsRow w.heap.size 9 1 v n (vals (marks i fr n)) ∧ Below w.heap.size w w' := by
  have hw0 : IntKind.i64.wrap ((fr : Int) + (n : Int)) = (fr : Int) + (n : Int) := IntWalk.i64_in _ (by omega)
  go_enter Tryz.func61, Tryz.ntmps61
  go_wp2_with fail
  go_loopg [7, 8] n (fun g v k wr => ∃ j : Nat, g = n - j ∧ j ≤ n ∧ k = .int .i64 ((fr : Int) + (j : Int)) ∧ wr.ownsRow w.heap.size 9 1 v j (vals (marks i fr j)) ∧ Below w.heap.size w wr)
  case atStart => exact ⟨0, by omega, by omega, by simp, World.ownsRow_nil _ _ _ _, Below.refl _ _⟩
  case round =>
    obtain ⟨j, hg, hj, rfl, hown, hb⟩ := hrel
    have HG := Lib.hid hg; clear hg
    have hw1 : IntKind.i64.wrap ((fr : Int) + (j : Int) + 1) = (fr : Int) + (j : Int) + 1 := IntWalk.i64_in _ (by omega)
    by_cases hlt : j < n
    · have hl : (fr : Int) + (j : Int) < (fr : Int) + (n : Int) := by omega
      have HN := Lib.hid (name_any i (fr + j) (by omega) (by omega) wr)
      rw [show ((fr + j : Nat) : Int) = (fr : Int) + (j : Int) by omega] at HN
      have HO := Lib.hid (And.intro hown hb)
      clear hown hb
      go_wp2_with fail
      refine HN.out.mono ?_
      rintro e w1 ⟨rfl, hb1⟩
      have o1 : w1.ownsRow w.heap.size 9 1 u7 j (vals (marks i fr j)) := own_same HO.out.1 (fun g e => hb1.block g (HO.out.1.lt g e).2)
      have H1 := Lib.hid (And.intro o1 (HO.out.2.trans (hb1.mono HO.out.2.size)))
      clear o1 hb1 HO HN
      go_simp
      go_wp2_with (first
        | (at_builtin; go_loud (refine wpList_append_txs rfl _ _ rfl w.heap.size u7 (marks i fr j) rfl ?c1 _ [nameS i (fr + j)] rfl (txs_block (l := [nameS i (fr + j)]) (new_block w1 _)) (fun n c e => by cases e) ?c3 ?c4 ?_))
        | fail)
      case c1 => rw [marks_len]; exact H1.out.1.alloc _
      case c3 => rw [marks_len]; simp; omega
      case c4 => have := H1.out.2.size; simp; omega
      intro v2 w2 o2 g2
      have o2' : w2.ownsRow w.heap.size 9 1 v2 (j + 1) (vals (marks i fr (j + 1))) := by
        rw [marks_succ]
        simpa [marks_len] using o2
      have b2 : Below w.heap.size w w2 := (Below.alloc H1.out.2 H1.out.2.size (.cells #[.string (nameS i (fr + j))] 9)).grown g2 (by have := H1.out.2.size; simp; omega) (fun g e => (H1.out.1.lt g e).1)
      have H2 := Lib.hid (And.intro o2' b2)
      clear o2 o2' g2 b2 H1
      go_wp2_with fail
      go_roundg (n - (j + 1))
      case measure => have := HG.out; omega
      case rel => exact ⟨j + 1, rfl, by omega, by go_num; try omega, H2.out.1, H2.out.2⟩
    · obtain rfl : j = n := by omega
      have HO := Lib.hid (And.intro hown hb)
      clear hown hb
      go_wp2_with fail
      go_ret
      exact ⟨_, rfl, HO.out.1, HO.out.2⟩
end Go.Proofs.YtidjnfjpdnjogaaGreatDoor
