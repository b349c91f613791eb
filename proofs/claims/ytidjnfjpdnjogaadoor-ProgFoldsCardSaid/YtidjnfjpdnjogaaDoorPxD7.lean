/-
  The document's Run of every program. Conditions: none.
-/
import Derived.Test.YtidjnfjpdnjogaaDoorPxD6
namespace Go.Proofs.YtidjnfjpdnjogaaDoor
open Go.RowKit Go.Lib

set_option maxRecDepth 100000 in
theorem drun_bad (en : En) (l : List ByteArray) (hf : Shorts l) (v : Value) (w : World) (h : Txs w v l) (hc : (checkL (tl l)).1 ≠ 0) :
    Calls Tryd.prog 21 #[v, .float .f64 en.s, .agg #[.int .i64 en.id, .string en.ty, .string en.d, .float .f64 en.v], .int .i64 en.ver] w (DRuns ⟨0, 6, 0, []⟩ w) := by
  have HK := Lib.hid (dcheck_any l hf v)
  unfold takesV at HK
  have hne : ((checkL (tl l)).1 != 0) = true := by simpa using hc
  revert HK hne
  generalize (checkL (tl l)).1 = c
  generalize (checkL (tl l)).2 = d
  intro HK hne
  have HT := Lib.hid h
  clear h hc hf
  unfold DRuns
  go_enter Tryd.func21, Tryd.ntmps21
  go_wp2_with fail
  refine (HK.out _ (HT.out.below (below_alloc _ _))).mono ?_
  rintro e w1 ⟨rfl, rfl⟩
  go_wp2_with fail
  exact bodyPost_ret (v := (⟨0, 6, 0, []⟩ : Tell).dval) (by simp [results, Tryd.results21, go_sem, Tell.dval]) rfl ⟨rfl, below_alloc _ _⟩

theorem drun_any (en : En) (ho : en.Ok) (l : List ByteArray) (hf : Shorts l) (v : Value) (w : World) (h : Txs w v l) :
    Calls Tryd.prog 21 #[v, .float .f64 en.s, .agg #[.int .i64 en.id, .string en.ty, .string en.d, .float .f64 en.v], .int .i64 en.ver] w (DRuns (runB en (tl l)) w) := by
  by_cases hc : (checkL (tl l)).1 = 0
  · have hc2 : checkL (tl l) = (0, 0) := by
      have h2 := check_zero (tl l) hc
      exact Prod.ext hc h2
    have hl : l.length ≤ 64 := by
      unfold checkL at hc
      split at hc
      · cases hc
      · rename_i h; simpa [tl] using h
    have hrb : runB en (tl l) = tellOf (wordsGo en (tl l) []) := by unfold runB tellOf; rw [hc2]; rfl
    rw [hrb]
    exact drun_good en ho l hf v w h hc2 hl
  · rw [show runB en (tl l) = ⟨0, 6, 0, []⟩ by unfold runB; rw [if_pos hc]]
    exact drun_bad en l hf v w h hc
end Go.Proofs.YtidjnfjpdnjogaaDoor
