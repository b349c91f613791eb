/-
  ProgStack: what is pushed and dropped leaves nothing. Conditions: none.
-/
import Derived.Test.YtidjnfjpdnjogaaDoorM6
import Derived.Test.YtidjnfjpdnjogaaDoorM7
namespace Go.Proofs.YtidjnfjpdnjogaaDoor
open Go.RowKit Go.Lib

theorem blk_if (w : World) (o : Obj) (k : Nat) : (w.alloc o).heap[k]? = if k = w.heap.size then some o else w.heap[k]? := heap_alloc_if w o k

/-- Texts in a block of their own. -/
theorem txs_block {w : World} {b : Nat} {l : List ByteArray} (h : w.heap[b]? = some (.cells (l.map Value.string).toArray 9)) : Txs w (.slice (some ⟨b, 0, none⟩) l.length l.length) l := by
  refine Or.inr ⟨b, 0, l.length, rfl, fun i hi => ?_, lt_of_block h⟩
  simp only [World.cell?, h]
  simp [List.getD_eq_getElem?_getD, List.getElem?_eq_getElem hi]

theorem tell_ok (f : Nat) : (⟨f, 0, 0, []⟩ : Tell).val = .tuple #[.float .f64 f, .agg #[.int .i64 0, .int .i64 0, .string ⟨#[]⟩]] := rfl
theorem same_one (a : Nat) : sameW (oneW a) a = true := by unfold sameW; rw [oneW_one]; simp
theorem same_self (a : Nat) : sameW a a = true := by unfold sameW; simp

set_option maxRecDepth 100000 in
set_option maxHeartbeats 2000000 in
theorem stack_any (a b : Nat) (ha : a < 18446744073709551616) (hb : b < 18446744073709551616) (w : World) :
    Calls Tryd.prog 4 #[.int .u64 a, .int .u64 b] w fun e w' => e = .returned (.bool true) ∧ Below w.heap.size w w' := by
  have hfr := runFrom
  have heq := eqlFault
  have HX := Lib.hid (dtext_any a ha)
  have HY := Lib.hid (dtext_any b hb)
  have HS := fun x y (h : sameW x y = true) w => show Calls Tryd.prog 14 #[.float .f64 x, .float .f64 y] w fun en w' => en = .returned (.bool true) ∧ w = w' from by have h1 := dsame_any x y w; rw [h] at h1; exact h1
  replace HS := Lib.hid HS
  have S1 := same_one a
  have S2 := same_self (oneW a)
  have S3 := same_one b
  obtain ⟨X, hX⟩ : ∃ X : ByteArray, X = ⟨(textB a).toArray⟩ := ⟨_, rfl⟩
  obtain ⟨Y, hY⟩ : ∃ Y : ByteArray, Y = ⟨(textB b).toArray⟩ := ⟨_, rfl⟩

  have R1 := Lib.hid (fun v W (h : Txs W v [X, Y, ⟨#[100, 114, 111, 112]⟩]) => show Calls Tryd.prog 10 #[.agg #[v], noE.val] W (RunTells ⟨oneW a, 0, 0, []⟩ W) from by
    have h1 := run_any noE noE_ok [X, Y, ⟨#[100, 114, 111, 112]⟩] (by
      intro s hs
      simp only [List.mem_cons, List.not_mem_nil, or_false] at hs
      rcases hs with rfl | rfl | rfl
      · rw [hX]; exact text_small a
      · rw [hY]; exact text_small b
      · decide) v W h
    have h2 : tl [X, Y, ⟨#[100, 114, 111, 112]⟩] = [textB a, textB b, wDrop] := by rw [hX, hY]; rfl
    rw [h2, run_s1 ha hb noE] at h1
    exact h1)
  have R2 := Lib.hid (fun v W (h : Txs W v [X, ⟨#[100, 117, 112]⟩, ⟨#[109, 105, 110]⟩]) => show Calls Tryd.prog 10 #[.agg #[v], noE.val] W (RunTells ⟨oneW a, 0, 0, []⟩ W) from by
    have h1 := run_any noE noE_ok [X, ⟨#[100, 117, 112]⟩, ⟨#[109, 105, 110]⟩] (by
      intro s hs
      simp only [List.mem_cons, List.not_mem_nil, or_false] at hs
      rcases hs with rfl | rfl | rfl
      · rw [hX]; exact text_small a
      · decide
      · decide) v W h
    have h2 : tl [X, ⟨#[100, 117, 112]⟩, ⟨#[109, 105, 110]⟩] = [textB a, wDup, wMin] := by rw [hX]; rfl
    rw [h2, run_s2 ha noE] at h1
    exact h1)
  have R3 := Lib.hid (fun v W (h : Txs W v [X, Y, ⟨#[115, 119, 97, 112]⟩, ⟨#[115, 119, 97, 112]⟩, ⟨#[100, 114, 111, 112]⟩]) => show Calls Tryd.prog 10 #[.agg #[v], noE.val] W (RunTells ⟨oneW a, 0, 0, []⟩ W) from by
    have h1 := run_any noE noE_ok [X, Y, ⟨#[115, 119, 97, 112]⟩, ⟨#[115, 119, 97, 112]⟩, ⟨#[100, 114, 111, 112]⟩] (by
      intro s hs
      simp only [List.mem_cons, List.not_mem_nil, or_false] at hs
      rcases hs with rfl | rfl | rfl | rfl | rfl
      · rw [hX]; exact text_small a
      · rw [hY]; exact text_small b
      · decide
      · decide
      · decide) v W h
    have h2 : tl [X, Y, ⟨#[115, 119, 97, 112]⟩, ⟨#[115, 119, 97, 112]⟩, ⟨#[100, 114, 111, 112]⟩] = [textB a, textB b, wSwap, wSwap, wDrop] := by rw [hX, hY]; rfl
    rw [h2, run_s3 ha hb noE] at h1
    exact h1)
  have R4 := Lib.hid (fun v W (h : Txs W v [X, Y, ⟨#[115, 119, 97, 112]⟩, ⟨#[100, 114, 111, 112]⟩]) => show Calls Tryd.prog 10 #[.agg #[v], noE.val] W (RunTells ⟨oneW b, 0, 0, []⟩ W) from by
    have h1 := run_any noE noE_ok [X, Y, ⟨#[115, 119, 97, 112]⟩, ⟨#[100, 114, 111, 112]⟩] (by
      intro s hs
      simp only [List.mem_cons, List.not_mem_nil, or_false] at hs
      rcases hs with rfl | rfl | rfl | rfl
      · rw [hX]; exact text_small a
      · rw [hY]; exact text_small b
      · decide
      · decide) v W h
    have h2 : tl [X, Y, ⟨#[115, 119, 97, 112]⟩, ⟨#[100, 114, 111, 112]⟩] = [textB a, textB b, wSwap, wDrop] := by rw [hX, hY]; rfl
    rw [h2, run_s4 ha hb noE] at h1
    exact h1)
  rw [← hX] at HX
  rw [← hY] at HY
  clear ha hb hX hY
  unfold RunTells at R1 R2 R3 R4
  simp only [tell_ok] at R1 R2 R3 R4
  revert S1 S2 S3 R1 R2 R3 R4
  generalize oneW a = xa
  generalize oneW b = xb
  intro S1 S2 S3 R1 R2 R3 R4
  go_enter Tryd.func4, Tryd.ntmps4
  go_wp2_with fail
  refine (HX.out _).mono ?_
  rintro e w1 ⟨rfl, hb1⟩
  have HB1 := Lib.hid hb1
  clear hb1
  go_wp2_with fail
  refine (HY.out _).mono ?_
  rintro e w2 ⟨rfl, hb2⟩
  have HB2 := Lib.hid (HB1.out.trans (hb2.mono HB1.out.size))
  clear hb2 HB1
  go_wp2_with fail
  obtain ⟨W0, hW0⟩ : ∃ W0, ((((((((w2.alloc (Obj.cells #[.string X, .string Y, .string ⟨#[100, 114, 111, 112]⟩] 9)).alloc (Obj.cells #[.slice (some ⟨w2.heap.size, 0, none⟩) 3 3] 28)).alloc (Obj.cells #[.string X, .string ⟨#[100, 117, 112]⟩, .string ⟨#[109, 105, 110]⟩] 9)).alloc (Obj.cells #[.slice (some ⟨w2.heap.size + 1 + 1, 0, none⟩) 3 3] 28)).alloc (Obj.cells #[.string X, .string Y, .string ⟨#[115, 119, 97, 112]⟩, .string ⟨#[115, 119, 97, 112]⟩, .string ⟨#[100, 114, 111, 112]⟩] 9)).alloc (Obj.cells #[.slice (some ⟨w2.heap.size + 1 + 1 + 1 + 1, 0, none⟩) 5 5] 28)).alloc (Obj.cells #[.string X, .string Y, .string ⟨#[115, 119, 97, 112]⟩, .string ⟨#[100, 114, 111, 112]⟩] 9)).alloc (Obj.cells #[.slice (some ⟨w2.heap.size + 1 + 1 + 1 + 1 + 1 + 1, 0, none⟩) 4 4] 28)) = W0 := ⟨_, rfl⟩
  rw [hW0]
  have b0 : W0.heap[w2.heap.size]? = some (Obj.cells #[.string X, .string Y, .string ⟨#[100, 114, 111, 112]⟩] 9) := by
    rw [← hW0]
    simp only [blk_if, size_alloc_one]
    rw [if_neg (by omega), if_neg (by omega), if_neg (by omega), if_neg (by omega), if_neg (by omega), if_neg (by omega), if_neg (by omega), if_pos trivial]
  have b1 : W0.heap[w2.heap.size + 1]? = some (Obj.cells #[.slice (some ⟨w2.heap.size, 0, none⟩) 3 3] 28) := by
    rw [← hW0]
    simp only [blk_if, size_alloc_one]
    rw [if_neg (by omega), if_neg (by omega), if_neg (by omega), if_neg (by omega), if_neg (by omega), if_neg (by omega), if_pos trivial]
  have b2 : W0.heap[w2.heap.size + 1 + 1]? = some (Obj.cells #[.string X, .string ⟨#[100, 117, 112]⟩, .string ⟨#[109, 105, 110]⟩] 9) := by
    rw [← hW0]
    simp only [blk_if, size_alloc_one]
    rw [if_neg (by omega), if_neg (by omega), if_neg (by omega), if_neg (by omega), if_neg (by omega), if_pos trivial]
  have b3 : W0.heap[w2.heap.size + 1 + 1 + 1]? = some (Obj.cells #[.slice (some ⟨w2.heap.size + 1 + 1, 0, none⟩) 3 3] 28) := by
    rw [← hW0]
    simp only [blk_if, size_alloc_one]
    rw [if_neg (by omega), if_neg (by omega), if_neg (by omega), if_neg (by omega), if_pos trivial]
  have b4 : W0.heap[w2.heap.size + 1 + 1 + 1 + 1]? = some (Obj.cells #[.string X, .string Y, .string ⟨#[115, 119, 97, 112]⟩, .string ⟨#[115, 119, 97, 112]⟩, .string ⟨#[100, 114, 111, 112]⟩] 9) := by
    rw [← hW0]
    simp only [blk_if, size_alloc_one]
    rw [if_neg (by omega), if_neg (by omega), if_neg (by omega), if_pos trivial]
  have b5 : W0.heap[w2.heap.size + 1 + 1 + 1 + 1 + 1]? = some (Obj.cells #[.slice (some ⟨w2.heap.size + 1 + 1 + 1 + 1, 0, none⟩) 5 5] 28) := by
    rw [← hW0]
    simp only [blk_if, size_alloc_one]
    rw [if_neg (by omega), if_neg (by omega), if_pos trivial]
  have b6 : W0.heap[w2.heap.size + 1 + 1 + 1 + 1 + 1 + 1]? = some (Obj.cells #[.string X, .string Y, .string ⟨#[115, 119, 97, 112]⟩, .string ⟨#[100, 114, 111, 112]⟩] 9) := by
    rw [← hW0]
    simp only [blk_if, size_alloc_one]
    rw [if_neg (by omega), if_pos trivial]
  have b7 : W0.heap[w2.heap.size + 1 + 1 + 1 + 1 + 1 + 1 + 1]? = some (Obj.cells #[.slice (some ⟨w2.heap.size + 1 + 1 + 1 + 1 + 1 + 1, 0, none⟩) 4 4] 28) := by
    rw [← hW0]
    simp only [blk_if, size_alloc_one]
    rw [if_pos trivial]
  have hB0 : Below w2.heap.size w2 W0 := by
    rw [← hW0]
    exact ((((((((Below.refl _ w2).alloc (by simp <;> omega) _).alloc (by simp <;> omega) _).alloc (by simp <;> omega) _).alloc (by simp <;> omega) _).alloc (by simp <;> omega) _).alloc (by simp <;> omega) _).alloc (by simp <;> omega) _).alloc (by simp <;> omega) _
  have HB3 := Lib.hid (HB2.out.trans (hB0.mono HB2.out.size))
  clear hW0 hB0 HB2
  have T1 := Lib.hid (txs_block (l := [X, Y, ⟨#[100, 114, 111, 112]⟩]) b0)
  refine (R1.out _ _ T1.out).mono ?_
  rintro e w1a ⟨rfl, hb1⟩
  clear T1 R1
  have k1 : (w1a).heap[w2.heap.size]? = some (Obj.cells #[.string X, .string Y, .string ⟨#[100, 114, 111, 112]⟩] 9) := ((hb1).block _ (lt_of_block b0)).trans b0
  clear b0
  have k2 : (w1a).heap[w2.heap.size + 1]? = some (Obj.cells #[.slice (some ⟨w2.heap.size, 0, none⟩) 3 3] 28) := ((hb1).block _ (lt_of_block b1)).trans b1
  clear b1
  have k3 : (w1a).heap[w2.heap.size + 1 + 1]? = some (Obj.cells #[.string X, .string ⟨#[100, 117, 112]⟩, .string ⟨#[109, 105, 110]⟩] 9) := ((hb1).block _ (lt_of_block b2)).trans b2
  clear b2
  have k4 : (w1a).heap[w2.heap.size + 1 + 1 + 1]? = some (Obj.cells #[.slice (some ⟨w2.heap.size + 1 + 1, 0, none⟩) 3 3] 28) := ((hb1).block _ (lt_of_block b3)).trans b3
  clear b3
  have k5 : (w1a).heap[w2.heap.size + 1 + 1 + 1 + 1]? = some (Obj.cells #[.string X, .string Y, .string ⟨#[115, 119, 97, 112]⟩, .string ⟨#[115, 119, 97, 112]⟩, .string ⟨#[100, 114, 111, 112]⟩] 9) := ((hb1).block _ (lt_of_block b4)).trans b4
  clear b4
  have k6 : (w1a).heap[w2.heap.size + 1 + 1 + 1 + 1 + 1]? = some (Obj.cells #[.slice (some ⟨w2.heap.size + 1 + 1 + 1 + 1, 0, none⟩) 5 5] 28) := ((hb1).block _ (lt_of_block b5)).trans b5
  clear b5
  have k7 : (w1a).heap[w2.heap.size + 1 + 1 + 1 + 1 + 1 + 1]? = some (Obj.cells #[.string X, .string Y, .string ⟨#[115, 119, 97, 112]⟩, .string ⟨#[100, 114, 111, 112]⟩] 9) := ((hb1).block _ (lt_of_block b6)).trans b6
  clear b6
  have k8 : (w1a).heap[w2.heap.size + 1 + 1 + 1 + 1 + 1 + 1 + 1]? = some (Obj.cells #[.slice (some ⟨w2.heap.size + 1 + 1 + 1 + 1 + 1 + 1, 0, none⟩) 4 4] 28) := ((hb1).block _ (lt_of_block b7)).trans b7
  clear b7
  have HB1a := Lib.hid (HB3.out.trans (hb1.mono HB3.out.size))
  clear hb1 HB3
  have hal1 := below_alloc w1a (.cells #[.int .i64 0, .int .i64 0, .string ⟨#[]⟩] 31)
  have HB1b := Lib.hid (HB1a.out.trans (hal1.mono HB1a.out.size))
  have c1 := (cell_of_block1 k4).1
  have z1 := lt_of_block k4
  have k9 : (w1a.alloc (.cells #[.int .i64 0, .int .i64 0, .string ⟨#[]⟩] 31)).heap[w2.heap.size]? = some (Obj.cells #[.string X, .string Y, .string ⟨#[100, 114, 111, 112]⟩] 9) := ((hal1).block _ (lt_of_block k1)).trans k1
  clear k1
  have k10 : (w1a.alloc (.cells #[.int .i64 0, .int .i64 0, .string ⟨#[]⟩] 31)).heap[w2.heap.size + 1]? = some (Obj.cells #[.slice (some ⟨w2.heap.size, 0, none⟩) 3 3] 28) := ((hal1).block _ (lt_of_block k2)).trans k2
  clear k2
  have k11 : (w1a.alloc (.cells #[.int .i64 0, .int .i64 0, .string ⟨#[]⟩] 31)).heap[w2.heap.size + 1 + 1]? = some (Obj.cells #[.string X, .string ⟨#[100, 117, 112]⟩, .string ⟨#[109, 105, 110]⟩] 9) := ((hal1).block _ (lt_of_block k3)).trans k3
  clear k3
  have k12 : (w1a.alloc (.cells #[.int .i64 0, .int .i64 0, .string ⟨#[]⟩] 31)).heap[w2.heap.size + 1 + 1 + 1]? = some (Obj.cells #[.slice (some ⟨w2.heap.size + 1 + 1, 0, none⟩) 3 3] 28) := ((hal1).block _ (lt_of_block k4)).trans k4
  clear k4
  have k13 : (w1a.alloc (.cells #[.int .i64 0, .int .i64 0, .string ⟨#[]⟩] 31)).heap[w2.heap.size + 1 + 1 + 1 + 1]? = some (Obj.cells #[.string X, .string Y, .string ⟨#[115, 119, 97, 112]⟩, .string ⟨#[115, 119, 97, 112]⟩, .string ⟨#[100, 114, 111, 112]⟩] 9) := ((hal1).block _ (lt_of_block k5)).trans k5
  clear k5
  have k14 : (w1a.alloc (.cells #[.int .i64 0, .int .i64 0, .string ⟨#[]⟩] 31)).heap[w2.heap.size + 1 + 1 + 1 + 1 + 1]? = some (Obj.cells #[.slice (some ⟨w2.heap.size + 1 + 1 + 1 + 1, 0, none⟩) 5 5] 28) := ((hal1).block _ (lt_of_block k6)).trans k6
  clear k6
  have k15 : (w1a.alloc (.cells #[.int .i64 0, .int .i64 0, .string ⟨#[]⟩] 31)).heap[w2.heap.size + 1 + 1 + 1 + 1 + 1 + 1]? = some (Obj.cells #[.string X, .string Y, .string ⟨#[115, 119, 97, 112]⟩, .string ⟨#[100, 114, 111, 112]⟩] 9) := ((hal1).block _ (lt_of_block k7)).trans k7
  clear k7
  have k16 : (w1a.alloc (.cells #[.int .i64 0, .int .i64 0, .string ⟨#[]⟩] 31)).heap[w2.heap.size + 1 + 1 + 1 + 1 + 1 + 1 + 1]? = some (Obj.cells #[.slice (some ⟨w2.heap.size + 1 + 1 + 1 + 1 + 1 + 1, 0, none⟩) 4 4] 28) := ((hal1).block _ (lt_of_block k8)).trans k8
  clear k8
  have n1 := new_block w1a (.cells #[.int .i64 0, .int .i64 0, .string ⟨#[]⟩] 31)
  clear hal1
  replace k9 := Lib.hid k9
  replace k10 := Lib.hid k10
  replace k11 := Lib.hid k11
  replace k12 := Lib.hid k12
  replace k13 := Lib.hid k13
  replace k14 := Lib.hid k14
  replace k15 := Lib.hid k15
  replace k16 := Lib.hid k16
  replace n1 := Lib.hid n1
  go_wp2_with fail
  replace k9 := k9.out
  replace k10 := k10.out
  replace k11 := k11.out
  replace k12 := k12.out
  replace k13 := k13.out
  replace k14 := k14.out
  replace k15 := k15.out
  replace k16 := k16.out
  replace n1 := n1.out
  clear c1 z1
  have T2 := Lib.hid (txs_block (l := [X, ⟨#[100, 117, 112]⟩, ⟨#[109, 105, 110]⟩]) k11)
  refine (R2.out _ _ T2.out).mono ?_
  rintro e w2a ⟨rfl, hb2⟩
  clear T2 R2
  have k17 : (w2a).heap[w2.heap.size]? = some (Obj.cells #[.string X, .string Y, .string ⟨#[100, 114, 111, 112]⟩] 9) := ((hb2).block _ (lt_of_block k9)).trans k9
  clear k9
  have k18 : (w2a).heap[w2.heap.size + 1]? = some (Obj.cells #[.slice (some ⟨w2.heap.size, 0, none⟩) 3 3] 28) := ((hb2).block _ (lt_of_block k10)).trans k10
  clear k10
  have k19 : (w2a).heap[w2.heap.size + 1 + 1]? = some (Obj.cells #[.string X, .string ⟨#[100, 117, 112]⟩, .string ⟨#[109, 105, 110]⟩] 9) := ((hb2).block _ (lt_of_block k11)).trans k11
  clear k11
  have k20 : (w2a).heap[w2.heap.size + 1 + 1 + 1]? = some (Obj.cells #[.slice (some ⟨w2.heap.size + 1 + 1, 0, none⟩) 3 3] 28) := ((hb2).block _ (lt_of_block k12)).trans k12
  clear k12
  have k21 : (w2a).heap[w2.heap.size + 1 + 1 + 1 + 1]? = some (Obj.cells #[.string X, .string Y, .string ⟨#[115, 119, 97, 112]⟩, .string ⟨#[115, 119, 97, 112]⟩, .string ⟨#[100, 114, 111, 112]⟩] 9) := ((hb2).block _ (lt_of_block k13)).trans k13
  clear k13
  have k22 : (w2a).heap[w2.heap.size + 1 + 1 + 1 + 1 + 1]? = some (Obj.cells #[.slice (some ⟨w2.heap.size + 1 + 1 + 1 + 1, 0, none⟩) 5 5] 28) := ((hb2).block _ (lt_of_block k14)).trans k14
  clear k14
  have k23 : (w2a).heap[w2.heap.size + 1 + 1 + 1 + 1 + 1 + 1]? = some (Obj.cells #[.string X, .string Y, .string ⟨#[115, 119, 97, 112]⟩, .string ⟨#[100, 114, 111, 112]⟩] 9) := ((hb2).block _ (lt_of_block k15)).trans k15
  clear k15
  have k24 : (w2a).heap[w2.heap.size + 1 + 1 + 1 + 1 + 1 + 1 + 1]? = some (Obj.cells #[.slice (some ⟨w2.heap.size + 1 + 1 + 1 + 1 + 1 + 1, 0, none⟩) 4 4] 28) := ((hb2).block _ (lt_of_block k16)).trans k16
  clear k16
  have k25 : (w2a).heap[w1a.heap.size]? = some (.cells #[.int .i64 0, .int .i64 0, .string ⟨#[]⟩] 31) := ((hb2).block _ (lt_of_block n1)).trans n1
  clear n1
  have HB2a := Lib.hid (HB1b.out.trans (hb2.mono HB1b.out.size))
  clear hb2 HB1b
  have hal2 := below_alloc w2a (.cells #[.int .i64 0, .int .i64 0, .string ⟨#[]⟩] 31)
  have HB2b := Lib.hid (HB2a.out.trans (hal2.mono HB2a.out.size))
  have c2 := (cell_of_block1 k22).1
  have z2 := lt_of_block k22
  have k26 : (w2a.alloc (.cells #[.int .i64 0, .int .i64 0, .string ⟨#[]⟩] 31)).heap[w2.heap.size]? = some (Obj.cells #[.string X, .string Y, .string ⟨#[100, 114, 111, 112]⟩] 9) := ((hal2).block _ (lt_of_block k17)).trans k17
  clear k17
  have k27 : (w2a.alloc (.cells #[.int .i64 0, .int .i64 0, .string ⟨#[]⟩] 31)).heap[w2.heap.size + 1]? = some (Obj.cells #[.slice (some ⟨w2.heap.size, 0, none⟩) 3 3] 28) := ((hal2).block _ (lt_of_block k18)).trans k18
  clear k18
  have k28 : (w2a.alloc (.cells #[.int .i64 0, .int .i64 0, .string ⟨#[]⟩] 31)).heap[w2.heap.size + 1 + 1]? = some (Obj.cells #[.string X, .string ⟨#[100, 117, 112]⟩, .string ⟨#[109, 105, 110]⟩] 9) := ((hal2).block _ (lt_of_block k19)).trans k19
  clear k19
  have k29 : (w2a.alloc (.cells #[.int .i64 0, .int .i64 0, .string ⟨#[]⟩] 31)).heap[w2.heap.size + 1 + 1 + 1]? = some (Obj.cells #[.slice (some ⟨w2.heap.size + 1 + 1, 0, none⟩) 3 3] 28) := ((hal2).block _ (lt_of_block k20)).trans k20
  clear k20
  have k30 : (w2a.alloc (.cells #[.int .i64 0, .int .i64 0, .string ⟨#[]⟩] 31)).heap[w2.heap.size + 1 + 1 + 1 + 1]? = some (Obj.cells #[.string X, .string Y, .string ⟨#[115, 119, 97, 112]⟩, .string ⟨#[115, 119, 97, 112]⟩, .string ⟨#[100, 114, 111, 112]⟩] 9) := ((hal2).block _ (lt_of_block k21)).trans k21
  clear k21
  have k31 : (w2a.alloc (.cells #[.int .i64 0, .int .i64 0, .string ⟨#[]⟩] 31)).heap[w2.heap.size + 1 + 1 + 1 + 1 + 1]? = some (Obj.cells #[.slice (some ⟨w2.heap.size + 1 + 1 + 1 + 1, 0, none⟩) 5 5] 28) := ((hal2).block _ (lt_of_block k22)).trans k22
  clear k22
  have k32 : (w2a.alloc (.cells #[.int .i64 0, .int .i64 0, .string ⟨#[]⟩] 31)).heap[w2.heap.size + 1 + 1 + 1 + 1 + 1 + 1]? = some (Obj.cells #[.string X, .string Y, .string ⟨#[115, 119, 97, 112]⟩, .string ⟨#[100, 114, 111, 112]⟩] 9) := ((hal2).block _ (lt_of_block k23)).trans k23
  clear k23
  have k33 : (w2a.alloc (.cells #[.int .i64 0, .int .i64 0, .string ⟨#[]⟩] 31)).heap[w2.heap.size + 1 + 1 + 1 + 1 + 1 + 1 + 1]? = some (Obj.cells #[.slice (some ⟨w2.heap.size + 1 + 1 + 1 + 1 + 1 + 1, 0, none⟩) 4 4] 28) := ((hal2).block _ (lt_of_block k24)).trans k24
  clear k24
  have k34 : (w2a.alloc (.cells #[.int .i64 0, .int .i64 0, .string ⟨#[]⟩] 31)).heap[w1a.heap.size]? = some (.cells #[.int .i64 0, .int .i64 0, .string ⟨#[]⟩] 31) := ((hal2).block _ (lt_of_block k25)).trans k25
  clear k25
  have n2 := new_block w2a (.cells #[.int .i64 0, .int .i64 0, .string ⟨#[]⟩] 31)
  clear hal2
  replace k26 := Lib.hid k26
  replace k27 := Lib.hid k27
  replace k28 := Lib.hid k28
  replace k29 := Lib.hid k29
  replace k30 := Lib.hid k30
  replace k31 := Lib.hid k31
  replace k32 := Lib.hid k32
  replace k33 := Lib.hid k33
  replace k34 := Lib.hid k34
  replace n2 := Lib.hid n2
  go_wp2_with fail
  replace k26 := k26.out
  replace k27 := k27.out
  replace k28 := k28.out
  replace k29 := k29.out
  replace k30 := k30.out
  replace k31 := k31.out
  replace k32 := k32.out
  replace k33 := k33.out
  replace k34 := k34.out
  replace n2 := n2.out
  clear c2 z2
  have T3 := Lib.hid (txs_block (l := [X, Y, ⟨#[115, 119, 97, 112]⟩, ⟨#[115, 119, 97, 112]⟩, ⟨#[100, 114, 111, 112]⟩]) k30)
  refine (R3.out _ _ T3.out).mono ?_
  rintro e w3a ⟨rfl, hb3⟩
  clear T3 R3
  have k35 : (w3a).heap[w2.heap.size]? = some (Obj.cells #[.string X, .string Y, .string ⟨#[100, 114, 111, 112]⟩] 9) := ((hb3).block _ (lt_of_block k26)).trans k26
  clear k26
  have k36 : (w3a).heap[w2.heap.size + 1]? = some (Obj.cells #[.slice (some ⟨w2.heap.size, 0, none⟩) 3 3] 28) := ((hb3).block _ (lt_of_block k27)).trans k27
  clear k27
  have k37 : (w3a).heap[w2.heap.size + 1 + 1]? = some (Obj.cells #[.string X, .string ⟨#[100, 117, 112]⟩, .string ⟨#[109, 105, 110]⟩] 9) := ((hb3).block _ (lt_of_block k28)).trans k28
  clear k28
  have k38 : (w3a).heap[w2.heap.size + 1 + 1 + 1]? = some (Obj.cells #[.slice (some ⟨w2.heap.size + 1 + 1, 0, none⟩) 3 3] 28) := ((hb3).block _ (lt_of_block k29)).trans k29
  clear k29
  have k39 : (w3a).heap[w2.heap.size + 1 + 1 + 1 + 1]? = some (Obj.cells #[.string X, .string Y, .string ⟨#[115, 119, 97, 112]⟩, .string ⟨#[115, 119, 97, 112]⟩, .string ⟨#[100, 114, 111, 112]⟩] 9) := ((hb3).block _ (lt_of_block k30)).trans k30
  clear k30
  have k40 : (w3a).heap[w2.heap.size + 1 + 1 + 1 + 1 + 1]? = some (Obj.cells #[.slice (some ⟨w2.heap.size + 1 + 1 + 1 + 1, 0, none⟩) 5 5] 28) := ((hb3).block _ (lt_of_block k31)).trans k31
  clear k31
  have k41 : (w3a).heap[w2.heap.size + 1 + 1 + 1 + 1 + 1 + 1]? = some (Obj.cells #[.string X, .string Y, .string ⟨#[115, 119, 97, 112]⟩, .string ⟨#[100, 114, 111, 112]⟩] 9) := ((hb3).block _ (lt_of_block k32)).trans k32
  clear k32
  have k42 : (w3a).heap[w2.heap.size + 1 + 1 + 1 + 1 + 1 + 1 + 1]? = some (Obj.cells #[.slice (some ⟨w2.heap.size + 1 + 1 + 1 + 1 + 1 + 1, 0, none⟩) 4 4] 28) := ((hb3).block _ (lt_of_block k33)).trans k33
  clear k33
  have k43 : (w3a).heap[w1a.heap.size]? = some (.cells #[.int .i64 0, .int .i64 0, .string ⟨#[]⟩] 31) := ((hb3).block _ (lt_of_block k34)).trans k34
  clear k34
  have k44 : (w3a).heap[w2a.heap.size]? = some (.cells #[.int .i64 0, .int .i64 0, .string ⟨#[]⟩] 31) := ((hb3).block _ (lt_of_block n2)).trans n2
  clear n2
  have HB3a := Lib.hid (HB2b.out.trans (hb3.mono HB2b.out.size))
  clear hb3 HB2b
  have hal3 := below_alloc w3a (.cells #[.int .i64 0, .int .i64 0, .string ⟨#[]⟩] 31)
  have HB3b := Lib.hid (HB3a.out.trans (hal3.mono HB3a.out.size))
  have c3 := (cell_of_block1 k42).1
  have z3 := lt_of_block k42
  have k45 : (w3a.alloc (.cells #[.int .i64 0, .int .i64 0, .string ⟨#[]⟩] 31)).heap[w2.heap.size]? = some (Obj.cells #[.string X, .string Y, .string ⟨#[100, 114, 111, 112]⟩] 9) := ((hal3).block _ (lt_of_block k35)).trans k35
  clear k35
  have k46 : (w3a.alloc (.cells #[.int .i64 0, .int .i64 0, .string ⟨#[]⟩] 31)).heap[w2.heap.size + 1]? = some (Obj.cells #[.slice (some ⟨w2.heap.size, 0, none⟩) 3 3] 28) := ((hal3).block _ (lt_of_block k36)).trans k36
  clear k36
  have k47 : (w3a.alloc (.cells #[.int .i64 0, .int .i64 0, .string ⟨#[]⟩] 31)).heap[w2.heap.size + 1 + 1]? = some (Obj.cells #[.string X, .string ⟨#[100, 117, 112]⟩, .string ⟨#[109, 105, 110]⟩] 9) := ((hal3).block _ (lt_of_block k37)).trans k37
  clear k37
  have k48 : (w3a.alloc (.cells #[.int .i64 0, .int .i64 0, .string ⟨#[]⟩] 31)).heap[w2.heap.size + 1 + 1 + 1]? = some (Obj.cells #[.slice (some ⟨w2.heap.size + 1 + 1, 0, none⟩) 3 3] 28) := ((hal3).block _ (lt_of_block k38)).trans k38
  clear k38
  have k49 : (w3a.alloc (.cells #[.int .i64 0, .int .i64 0, .string ⟨#[]⟩] 31)).heap[w2.heap.size + 1 + 1 + 1 + 1]? = some (Obj.cells #[.string X, .string Y, .string ⟨#[115, 119, 97, 112]⟩, .string ⟨#[115, 119, 97, 112]⟩, .string ⟨#[100, 114, 111, 112]⟩] 9) := ((hal3).block _ (lt_of_block k39)).trans k39
  clear k39
  have k50 : (w3a.alloc (.cells #[.int .i64 0, .int .i64 0, .string ⟨#[]⟩] 31)).heap[w2.heap.size + 1 + 1 + 1 + 1 + 1]? = some (Obj.cells #[.slice (some ⟨w2.heap.size + 1 + 1 + 1 + 1, 0, none⟩) 5 5] 28) := ((hal3).block _ (lt_of_block k40)).trans k40
  clear k40
  have k51 : (w3a.alloc (.cells #[.int .i64 0, .int .i64 0, .string ⟨#[]⟩] 31)).heap[w2.heap.size + 1 + 1 + 1 + 1 + 1 + 1]? = some (Obj.cells #[.string X, .string Y, .string ⟨#[115, 119, 97, 112]⟩, .string ⟨#[100, 114, 111, 112]⟩] 9) := ((hal3).block _ (lt_of_block k41)).trans k41
  clear k41
  have k52 : (w3a.alloc (.cells #[.int .i64 0, .int .i64 0, .string ⟨#[]⟩] 31)).heap[w2.heap.size + 1 + 1 + 1 + 1 + 1 + 1 + 1]? = some (Obj.cells #[.slice (some ⟨w2.heap.size + 1 + 1 + 1 + 1 + 1 + 1, 0, none⟩) 4 4] 28) := ((hal3).block _ (lt_of_block k42)).trans k42
  clear k42
  have k53 : (w3a.alloc (.cells #[.int .i64 0, .int .i64 0, .string ⟨#[]⟩] 31)).heap[w1a.heap.size]? = some (.cells #[.int .i64 0, .int .i64 0, .string ⟨#[]⟩] 31) := ((hal3).block _ (lt_of_block k43)).trans k43
  clear k43
  have k54 : (w3a.alloc (.cells #[.int .i64 0, .int .i64 0, .string ⟨#[]⟩] 31)).heap[w2a.heap.size]? = some (.cells #[.int .i64 0, .int .i64 0, .string ⟨#[]⟩] 31) := ((hal3).block _ (lt_of_block k44)).trans k44
  clear k44
  have n3 := new_block w3a (.cells #[.int .i64 0, .int .i64 0, .string ⟨#[]⟩] 31)
  clear hal3
  replace k45 := Lib.hid k45
  replace k46 := Lib.hid k46
  replace k47 := Lib.hid k47
  replace k48 := Lib.hid k48
  replace k49 := Lib.hid k49
  replace k50 := Lib.hid k50
  replace k51 := Lib.hid k51
  replace k52 := Lib.hid k52
  replace k53 := Lib.hid k53
  replace k54 := Lib.hid k54
  replace n3 := Lib.hid n3
  go_wp2_with fail
  replace k45 := k45.out
  replace k46 := k46.out
  replace k47 := k47.out
  replace k48 := k48.out
  replace k49 := k49.out
  replace k50 := k50.out
  replace k51 := k51.out
  replace k52 := k52.out
  replace k53 := k53.out
  replace k54 := k54.out
  replace n3 := n3.out
  clear c3 z3
  have T4 := Lib.hid (txs_block (l := [X, Y, ⟨#[115, 119, 97, 112]⟩, ⟨#[100, 114, 111, 112]⟩]) k51)
  refine (R4.out _ _ T4.out).mono ?_
  rintro e w4a ⟨rfl, hb4⟩
  clear T4 R4
  have k55 : (w4a).heap[w2.heap.size]? = some (Obj.cells #[.string X, .string Y, .string ⟨#[100, 114, 111, 112]⟩] 9) := ((hb4).block _ (lt_of_block k45)).trans k45
  clear k45
  have k56 : (w4a).heap[w2.heap.size + 1]? = some (Obj.cells #[.slice (some ⟨w2.heap.size, 0, none⟩) 3 3] 28) := ((hb4).block _ (lt_of_block k46)).trans k46
  clear k46
  have k57 : (w4a).heap[w2.heap.size + 1 + 1]? = some (Obj.cells #[.string X, .string ⟨#[100, 117, 112]⟩, .string ⟨#[109, 105, 110]⟩] 9) := ((hb4).block _ (lt_of_block k47)).trans k47
  clear k47
  have k58 : (w4a).heap[w2.heap.size + 1 + 1 + 1]? = some (Obj.cells #[.slice (some ⟨w2.heap.size + 1 + 1, 0, none⟩) 3 3] 28) := ((hb4).block _ (lt_of_block k48)).trans k48
  clear k48
  have k59 : (w4a).heap[w2.heap.size + 1 + 1 + 1 + 1]? = some (Obj.cells #[.string X, .string Y, .string ⟨#[115, 119, 97, 112]⟩, .string ⟨#[115, 119, 97, 112]⟩, .string ⟨#[100, 114, 111, 112]⟩] 9) := ((hb4).block _ (lt_of_block k49)).trans k49
  clear k49
  have k60 : (w4a).heap[w2.heap.size + 1 + 1 + 1 + 1 + 1]? = some (Obj.cells #[.slice (some ⟨w2.heap.size + 1 + 1 + 1 + 1, 0, none⟩) 5 5] 28) := ((hb4).block _ (lt_of_block k50)).trans k50
  clear k50
  have k61 : (w4a).heap[w2.heap.size + 1 + 1 + 1 + 1 + 1 + 1]? = some (Obj.cells #[.string X, .string Y, .string ⟨#[115, 119, 97, 112]⟩, .string ⟨#[100, 114, 111, 112]⟩] 9) := ((hb4).block _ (lt_of_block k51)).trans k51
  clear k51
  have k62 : (w4a).heap[w2.heap.size + 1 + 1 + 1 + 1 + 1 + 1 + 1]? = some (Obj.cells #[.slice (some ⟨w2.heap.size + 1 + 1 + 1 + 1 + 1 + 1, 0, none⟩) 4 4] 28) := ((hb4).block _ (lt_of_block k52)).trans k52
  clear k52
  have k63 : (w4a).heap[w1a.heap.size]? = some (.cells #[.int .i64 0, .int .i64 0, .string ⟨#[]⟩] 31) := ((hb4).block _ (lt_of_block k53)).trans k53
  clear k53
  have k64 : (w4a).heap[w2a.heap.size]? = some (.cells #[.int .i64 0, .int .i64 0, .string ⟨#[]⟩] 31) := ((hb4).block _ (lt_of_block k54)).trans k54
  clear k54
  have k65 : (w4a).heap[w3a.heap.size]? = some (.cells #[.int .i64 0, .int .i64 0, .string ⟨#[]⟩] 31) := ((hb4).block _ (lt_of_block n3)).trans n3
  clear n3
  have HB4a := Lib.hid (HB3b.out.trans (hb4.mono HB3b.out.size))
  clear hb4 HB3b
  have hal4 := below_alloc w4a (.cells #[.int .i64 0, .int .i64 0, .string ⟨#[]⟩] 31)
  have HB4b := Lib.hid (HB4a.out.trans (hal4.mono HB4a.out.size))
  have k66 : (w4a.alloc (.cells #[.int .i64 0, .int .i64 0, .string ⟨#[]⟩] 31)).heap[w2.heap.size]? = some (Obj.cells #[.string X, .string Y, .string ⟨#[100, 114, 111, 112]⟩] 9) := ((hal4).block _ (lt_of_block k55)).trans k55
  clear k55
  have k67 : (w4a.alloc (.cells #[.int .i64 0, .int .i64 0, .string ⟨#[]⟩] 31)).heap[w2.heap.size + 1]? = some (Obj.cells #[.slice (some ⟨w2.heap.size, 0, none⟩) 3 3] 28) := ((hal4).block _ (lt_of_block k56)).trans k56
  clear k56
  have k68 : (w4a.alloc (.cells #[.int .i64 0, .int .i64 0, .string ⟨#[]⟩] 31)).heap[w2.heap.size + 1 + 1]? = some (Obj.cells #[.string X, .string ⟨#[100, 117, 112]⟩, .string ⟨#[109, 105, 110]⟩] 9) := ((hal4).block _ (lt_of_block k57)).trans k57
  clear k57
  have k69 : (w4a.alloc (.cells #[.int .i64 0, .int .i64 0, .string ⟨#[]⟩] 31)).heap[w2.heap.size + 1 + 1 + 1]? = some (Obj.cells #[.slice (some ⟨w2.heap.size + 1 + 1, 0, none⟩) 3 3] 28) := ((hal4).block _ (lt_of_block k58)).trans k58
  clear k58
  have k70 : (w4a.alloc (.cells #[.int .i64 0, .int .i64 0, .string ⟨#[]⟩] 31)).heap[w2.heap.size + 1 + 1 + 1 + 1]? = some (Obj.cells #[.string X, .string Y, .string ⟨#[115, 119, 97, 112]⟩, .string ⟨#[115, 119, 97, 112]⟩, .string ⟨#[100, 114, 111, 112]⟩] 9) := ((hal4).block _ (lt_of_block k59)).trans k59
  clear k59
  have k71 : (w4a.alloc (.cells #[.int .i64 0, .int .i64 0, .string ⟨#[]⟩] 31)).heap[w2.heap.size + 1 + 1 + 1 + 1 + 1]? = some (Obj.cells #[.slice (some ⟨w2.heap.size + 1 + 1 + 1 + 1, 0, none⟩) 5 5] 28) := ((hal4).block _ (lt_of_block k60)).trans k60
  clear k60
  have k72 : (w4a.alloc (.cells #[.int .i64 0, .int .i64 0, .string ⟨#[]⟩] 31)).heap[w2.heap.size + 1 + 1 + 1 + 1 + 1 + 1]? = some (Obj.cells #[.string X, .string Y, .string ⟨#[115, 119, 97, 112]⟩, .string ⟨#[100, 114, 111, 112]⟩] 9) := ((hal4).block _ (lt_of_block k61)).trans k61
  clear k61
  have k73 : (w4a.alloc (.cells #[.int .i64 0, .int .i64 0, .string ⟨#[]⟩] 31)).heap[w2.heap.size + 1 + 1 + 1 + 1 + 1 + 1 + 1]? = some (Obj.cells #[.slice (some ⟨w2.heap.size + 1 + 1 + 1 + 1 + 1 + 1, 0, none⟩) 4 4] 28) := ((hal4).block _ (lt_of_block k62)).trans k62
  clear k62
  have k74 : (w4a.alloc (.cells #[.int .i64 0, .int .i64 0, .string ⟨#[]⟩] 31)).heap[w1a.heap.size]? = some (.cells #[.int .i64 0, .int .i64 0, .string ⟨#[]⟩] 31) := ((hal4).block _ (lt_of_block k63)).trans k63
  clear k63
  have k75 : (w4a.alloc (.cells #[.int .i64 0, .int .i64 0, .string ⟨#[]⟩] 31)).heap[w2a.heap.size]? = some (.cells #[.int .i64 0, .int .i64 0, .string ⟨#[]⟩] 31) := ((hal4).block _ (lt_of_block k64)).trans k64
  clear k64
  have k76 : (w4a.alloc (.cells #[.int .i64 0, .int .i64 0, .string ⟨#[]⟩] 31)).heap[w3a.heap.size]? = some (.cells #[.int .i64 0, .int .i64 0, .string ⟨#[]⟩] 31) := ((hal4).block _ (lt_of_block k65)).trans k65
  clear k65
  have n4 := new_block w4a (.cells #[.int .i64 0, .int .i64 0, .string ⟨#[]⟩] 31)
  clear hal4
  replace k66 := Lib.hid k66
  replace k67 := Lib.hid k67
  replace k68 := Lib.hid k68
  replace k69 := Lib.hid k69
  replace k70 := Lib.hid k70
  replace k71 := Lib.hid k71
  replace k72 := Lib.hid k72
  replace k73 := Lib.hid k73
  replace k74 := Lib.hid k74
  replace k75 := Lib.hid k75
  replace k76 := Lib.hid k76
  replace n4 := Lib.hid n4
  go_wp2_with fail
  replace k66 := k66.out
  replace k67 := k67.out
  replace k68 := k68.out
  replace k69 := k69.out
  replace k70 := k70.out
  replace k71 := k71.out
  replace k72 := k72.out
  replace k73 := k73.out
  replace k74 := k74.out
  replace k75 := k75.out
  replace k76 := k76.out
  replace n4 := n4.out
  have hal5 := below_alloc (w4a.alloc (.cells #[.int .i64 0, .int .i64 0, .string ⟨#[]⟩] 31)) (.cells #[.int .i64 0, .int .i64 0, .string ⟨#[]⟩] 31)
  have HB5 := Lib.hid (HB4b.out.trans (hal5.mono HB4b.out.size))
  have k77 : ((w4a.alloc (.cells #[.int .i64 0, .int .i64 0, .string ⟨#[]⟩] 31)).alloc (.cells #[.int .i64 0, .int .i64 0, .string ⟨#[]⟩] 31)).heap[w1a.heap.size]? = some (.cells #[.int .i64 0, .int .i64 0, .string ⟨#[]⟩] 31) := ((hal5).block _ (lt_of_block k74)).trans k74
  clear k74
  have k78 : ((w4a.alloc (.cells #[.int .i64 0, .int .i64 0, .string ⟨#[]⟩] 31)).alloc (.cells #[.int .i64 0, .int .i64 0, .string ⟨#[]⟩] 31)).heap[w2a.heap.size]? = some (.cells #[.int .i64 0, .int .i64 0, .string ⟨#[]⟩] 31) := ((hal5).block _ (lt_of_block k75)).trans k75
  clear k75
  have k79 : ((w4a.alloc (.cells #[.int .i64 0, .int .i64 0, .string ⟨#[]⟩] 31)).alloc (.cells #[.int .i64 0, .int .i64 0, .string ⟨#[]⟩] 31)).heap[w3a.heap.size]? = some (.cells #[.int .i64 0, .int .i64 0, .string ⟨#[]⟩] 31) := ((hal5).block _ (lt_of_block k76)).trans k76
  clear k76
  have k80 : ((w4a.alloc (.cells #[.int .i64 0, .int .i64 0, .string ⟨#[]⟩] 31)).alloc (.cells #[.int .i64 0, .int .i64 0, .string ⟨#[]⟩] 31)).heap[w4a.heap.size]? = some (.cells #[.int .i64 0, .int .i64 0, .string ⟨#[]⟩] 31) := ((hal5).block _ (lt_of_block n4)).trans n4
  clear n4
  have n5 := new_block (w4a.alloc (.cells #[.int .i64 0, .int .i64 0, .string ⟨#[]⟩] 31)) (.cells #[.int .i64 0, .int .i64 0, .string ⟨#[]⟩] 31)
  refine (alive_any _).mono ?_
  rintro e w7 ⟨rfl, hb7⟩
  have k81 : (w7).heap[w1a.heap.size]? = some (.cells #[.int .i64 0, .int .i64 0, .string ⟨#[]⟩] 31) := ((hb7).block _ (lt_of_block k77)).trans k77
  clear k77
  have k82 : (w7).heap[w2a.heap.size]? = some (.cells #[.int .i64 0, .int .i64 0, .string ⟨#[]⟩] 31) := ((hb7).block _ (lt_of_block k78)).trans k78
  clear k78
  have k83 : (w7).heap[w3a.heap.size]? = some (.cells #[.int .i64 0, .int .i64 0, .string ⟨#[]⟩] 31) := ((hb7).block _ (lt_of_block k79)).trans k79
  clear k79
  have k84 : (w7).heap[w4a.heap.size]? = some (.cells #[.int .i64 0, .int .i64 0, .string ⟨#[]⟩] 31) := ((hb7).block _ (lt_of_block k80)).trans k80
  clear k80
  have k85 : (w7).heap[(w4a.alloc (.cells #[.int .i64 0, .int .i64 0, .string ⟨#[]⟩] 31)).heap.size]? = some (.cells #[.int .i64 0, .int .i64 0, .string ⟨#[]⟩] 31) := ((hb7).block _ (lt_of_block n5)).trans n5
  clear n5
  have HB7 := Lib.hid (HB5.out.trans (hb7.mono HB5.out.size))
  clear hb7 hal5
  obtain ⟨p0, q0, r0, -, -, -⟩ := cells_of_fault k81
  have y0 := lt_of_block k81
  clear k81
  obtain ⟨p1, q1, r1, -, -, -⟩ := cells_of_fault k82
  have y1 := lt_of_block k82
  clear k82
  obtain ⟨p2, q2, r2, -, -, -⟩ := cells_of_fault k83
  have y2 := lt_of_block k83
  clear k83
  obtain ⟨p3, q3, r3, -, -, -⟩ := cells_of_fault k84
  have y3 := lt_of_block k84
  clear k84
  obtain ⟨p4, q4, r4, -, -, -⟩ := cells_of_fault k85
  have y4 := lt_of_block k85
  clear k85
  simp only [World.size_alloc] at *
  go_wp2_with (go_at_call 14; refine (HS.out _ _ (by assumption) _).mono ?_; rintro e w8 ⟨rfl, rfl⟩)
  go_ret
  exact ⟨rfl, HB7.out⟩
end Go.Proofs.YtidjnfjpdnjogaaDoor
