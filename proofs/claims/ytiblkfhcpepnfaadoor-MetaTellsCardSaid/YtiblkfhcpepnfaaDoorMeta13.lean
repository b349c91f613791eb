/-
  MetaTells, put together. Conditions: none.
-/
import Derived.Test.YtiblkfhcpepnfaaDoorMeta11
namespace Go.Proofs.YtiblkfhcpepnfaaDoor
open Go.RowKit Go.Lib

set_option maxRecDepth 100000 in
set_option maxHeartbeats 1000000 in
theorem tells_long (m : Mt) (s : ByteArray) (floor now : Int) (ao : Option Addr) (len cap : Nat) (h : 300 < s.size ∨ 60 < len) (w : World) (ht : Tab w) :
    Calls Tryd.prog 3 #[m.val, .string s, .int .i64 floor, .int .i64 now, .slice ao len cap] w fun e w' => e = .returned (.bool true) ∧ Below w.heap.size w w' := by
  have HT := Lib.hid ht; clear ht
  have HB0 := Lib.hid (below_alloc w (.cells m.cells 23))
  rcases h1 : decide ((300 : Int) < (s.size : Int)) with _ | _
  all_goals simp only [decide_eq_false_iff_not, decide_eq_true_eq] at h1
  · have h2 : (60 : Int) < (len : Int) := by omega
    clear h
    go_enter Tryd.func3, Tryd.ntmps3
    go_wp2_with (
      go_at_call 7
      refine (alive_any _ (HT.out.below HB0.out)).mono ?_
      rintro en x ⟨rfl, hbx⟩
      have HX := Lib.hid (HB0.out.trans (hbx.mono HB0.out.size))
      clear hbx)
    go_ret
    exact ⟨rfl, HX.out⟩
  · clear h
    go_enter Tryd.func3, Tryd.ntmps3
    go_wp2_with (
      go_at_call 7
      refine (alive_any _ (HT.out.below HB0.out)).mono ?_
      rintro en x ⟨rfl, hbx⟩
      have HX := Lib.hid (HB0.out.trans (hbx.mono HB0.out.size))
      clear hbx)
    go_ret
    exact ⟨rfl, HX.out⟩

theorem metaTells_any (m : Mt) (s : ByteArray) (floor now : Int) (ao : Option Addr) (len cap : Nat) (hca : ao = none → cap = 0) (T : Nat → Int)
    (hm1 : m.a ≤ 9223372036854775807) (hm2 : m.b ≤ 9223372036854775807) (hn1 : -9223372036854775808 ≤ now) (hn2 : now ≤ 9223372036854775807) (w : World) (ht : Tab w) (hA : IntArg w.heap.size w ao len T) :
    Calls Tryd.prog 3 #[m.val, .string s, .int .i64 floor, .int .i64 now, .slice ao len cap] w fun e w' => e = .returned (.bool true) ∧ Below w.heap.size w w' := by
  by_cases hl : 300 < s.size ∨ 60 < len
  · exact tells_long m s floor now ao len cap hl w ht
  · refine tells_walk m s (mkS (textM m).1) (textM m).2 (parseM s.data.toList).1 (parseM s.data.toList).2 floor now ao len cap hca T hm1 hm2 hn1 hn2 (by omega) (by omega) w ht hA (fun W h => text_any m W h) (fun W => rtext_any m W)
      (fun W h => parse_any s (by omega) W h) (fun W => rparse_any s (by omega) W) ?_
    intro he W h
    have hok := text_ok.1 he
    have hp := parse_any (mkS (textM m).1) (by rw [mk_size]; have := text_len m; omega) W h
    rw [show (mkS (textM m).1).data.toList = (textM m).1 from rfl, parse_text m hok] at hp
    exact hp
end Go.Proofs.YtiblkfhcpepnfaaDoor
