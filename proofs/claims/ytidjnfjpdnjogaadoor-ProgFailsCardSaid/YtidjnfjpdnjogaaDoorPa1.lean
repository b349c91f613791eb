/-
  The laws' own alive. Conditions: none.
-/
import Derived.Test.YtidjnfjpdnjogaaDoorPp1
namespace Go.Proofs.YtidjnfjpdnjogaaDoor
open Go.RowKit Go.Lib

def aliveS : ByteArray := ⟨#[115, 116, 97, 116, 101, 32, 118, 97, 108, 117, 101, 32, 97, 100, 100]⟩
def addS : ByteArray := ⟨#[97, 100, 100]⟩
def aliveE : En := ⟨4611686018427387904, 0, ⟨#[]⟩, ⟨#[]⟩, 4602678819172646912, 0⟩
def noE : En := ⟨0, 0, ⟨#[]⟩, ⟨#[]⟩, 0, 0⟩
theorem alive_words : wordsL aliveS = [⟨wState.toArray⟩, ⟨wValue.toArray⟩, ⟨wAdd.toArray⟩] := by
  have h : (splitB 32 aliveS.data.toList) = [wState, wValue, wAdd] := by decide +kernel
  unfold wordsL
  rw [h]; rfl
theorem add_words : wordsL addS = [⟨wAdd.toArray⟩] := by
  have h : (splitB 32 addS.data.toList) = [wAdd] := by decide +kernel
  unfold wordsL
  rw [h]; rfl
theorem alive_check : checkL (tl (wordsL aliveS)) = (0, 0) := by
  rw [alive_words]; decide +kernel
theorem add_check : checkL (tl (wordsL addS)) = (0, 0) := by
  rw [add_words]; decide +kernel
theorem alive_run : runB aliveE (tl (wordsL aliveS)) = ⟨4612811918334230528, 0, 0, []⟩ := by
  rw [alive_words]; kernel_rfl
theorem add_run : runB noE (tl (wordsL addS)) = ⟨0, 21, 1, []⟩ := by
  rw [add_words]; kernel_rfl
theorem aliveE_ok : aliveE.Ok := ⟨by decide, by decide, by decide⟩
theorem noE_ok : noE.Ok := ⟨by unfold noE; show 0 < 18446744073709551616; omega, by unfold noE; show 0 < 18446744073709551616; omega, by decide⟩
/-- Parse and Run of a text, one behind the other. -/
theorem parse_good (s : ByteArray) (hs : s.size ≤ 1000000) (hc : checkL (tl (wordsL s)) = (0, 0)) (w : World) :
    Calls Tryd.prog 33 #[.string s] w fun e w' => ∃ v, e = .returned (.tuple #[.agg #[v], .int .i64 0, .int .i64 0]) ∧ Txs w' v (wordsL s) ∧ Below w.heap.size w w' := by
  refine (prog_parse s hs w).mono ?_
  rintro e w' ⟨v, h1, h2, h3⟩
  rw [hc] at h1 h2
  rw [if_pos rfl] at h2
  exact ⟨v, h1, txs_of h2, h3⟩
theorem alive_half : (FloatKind.f64.format.order 4612811918334230528 4612811918334230528 == some .eq) = true := by decide +kernel

theorem alive_any (w : World) : Calls Tryd.prog 15 #[] w fun e w' => e = .returned (.bool true) ∧ Below w.heap.size w w' := by
  have HP1 := Lib.hid (parse_good aliveS (by decide) alive_check)
  have HP2 := Lib.hid (parse_good addS (by decide) add_check)
  have HR1 := Lib.hid fun v w h => run_any aliveE aliveE_ok (wordsL aliveS) (words_fit aliveS (by decide)) v w h
  have HR2 := Lib.hid fun v w h => run_any noE noE_ok (wordsL addS) (words_fit addS (by decide)) v w h
  rw [alive_run] at HR1
  rw [add_run] at HR2
  have hl : (wordsL aliveS).length = 3 := by rw [alive_words]; rfl
  have heq := eqlFault
  have hhalf := alive_half
  unfold RunTells at HR1 HR2
  go_enter Tryd.func15, Tryd.ntmps15
  go_wp2_with fail
  refine (HP1.out _).mono ?_
  rintro e w1 ⟨v1, rfl, ht1, hb1⟩
  obtain ⟨po1, pc1, rfl⟩ := ht1.slice
  rw [hl] at ht1 ⊢
  have hb0 := Lib.hid hb1
  have HT1 := Lib.hid (ht1.below (below_alloc w1 (.cells #[.slice po1 3 pc1] 28)))
  have hn1 := new_block w1 (.cells #[.slice po1 3 pc1] 28)
  have HB1 := Lib.hid (hb1.trans ((below_alloc w1 (.cells #[.slice po1 3 pc1] 28)).mono hb1.size))
  have HN1 := Lib.hid hn1
  clear ht1 hb1 hn1
  go_wp2_with fail
  refine (HR1.out _ _ HT1.out).mono ?_
  rintro e w2 ⟨rfl, hb2⟩
  unfold Tell.val fault
  have hn2 := (hb2.block _ (by simp)).trans HN1.out
  obtain ⟨f1, -⟩ := cell_of_block1 hn2
  have f2 := lt_of_block hn2
  have HB2 := Lib.hid (HB1.out.trans (hb2.mono HB1.out.size))
  clear hb2 hn2
  go_wp2_with fail
  have HA := Lib.hid (cells_of_fault (new_block w2 (.cells #[.int .i64 0, .int .i64 0, .string ⟨#[]⟩] 31)))
  have hA := new_block w2 (.cells #[.int .i64 0, .int .i64 0, .string ⟨#[]⟩] 31)
  have hba := below_alloc w2 (.cells #[.int .i64 0, .int .i64 0, .string ⟨#[]⟩] 31)
  have f1a := (World.cell?_of_block (a := ⟨w1.heap.size, 0, none⟩) (hba.block _ f2)).trans f1
  refine (HP2.out _).mono ?_
  rintro e w3 ⟨v3, rfl, ht3, hb3⟩
  obtain ⟨po3, pc3, rfl⟩ := ht3.slice
  have hl3 : (wordsL addS).length = 1 := by rw [add_words]; rfl
  rw [hl3] at ht3 ⊢
  have g1 := (World.cell?_of_block (a := ⟨w1.heap.size, 0, none⟩) (hb3.block _ (by simp; omega))).trans f1a
  have gA := (hb3.block _ (by simp)).trans hA
  have hba3 := below_alloc w3 (.cells #[.slice po3 1 pc3] 28)
  have HT3 := Lib.hid (ht3.below hba3)
  have hzA := lt_of_block gA
  have hz1 : w1.heap.size < w3.heap.size := by omega
  have HB3 := Lib.hid ((HB2.out.trans (hba.mono HB2.out.size)).trans (hb3.mono (by have := HB2.out.size; simp; omega)))
  have HG := Lib.hid (And.intro g1 gA)
  clear hb3 hA hba f1a f1 g1 gA ht3 HA
  go_wp2_with fail
  refine (HR2.out _ _ HT3.out).mono ?_
  rintro e w4 ⟨rfl, hb4⟩
  unfold Tell.val fault
  have k1 := (World.cell?_of_block (a := ⟨w1.heap.size, 0, none⟩) ((hb4.block _ (by simp; omega)).trans (hba3.block _ hz1))).trans HG.out.1
  have kA := ((hb4.block _ (by simp; omega)).trans (hba3.block _ hzA)).trans HG.out.2
  obtain ⟨a1, a2, a3, -, -, -⟩ := cells_of_fault kA
  have hzk := lt_of_block kA
  have hzk1 : w1.heap.size < w4.heap.size := by have := hb4.size; simp at this; omega
  have HB4 := Lib.hid ((HB3.out.trans (hba3.mono HB3.out.size)).trans (hb4.mono (by have := HB3.out.size; simp; omega)))
  clear hb4 kA hba3 hzA hz1
  go_wp2
  go_ret
  exact ⟨rfl, HB4.out.trans ((below_alloc _ _).mono HB4.out.size)⟩
end Go.Proofs.YtidjnfjpdnjogaaDoor
