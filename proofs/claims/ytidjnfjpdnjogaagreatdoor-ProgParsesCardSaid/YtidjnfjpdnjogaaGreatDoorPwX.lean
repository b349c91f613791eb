/-
  package prog: a program's text. Conditions: none.
-/
import Derived.Test.YtidjnfjpdnjogaaGreatDoorPwA
namespace Go.Proofs.YtidjnfjpdnjogaaGreatDoor
open Go.RowKit Go.Lib

/-- The words, one blank between two. -/
def joinL (l : List ByteArray) : List UInt8 := Lib.join (l.map (·.data.toList)) [32]
def joinS (l : List ByteArray) : ByteArray := ⟨(joinL l).toArray⟩

set_option maxRecDepth 100000 in
theorem text_any (l : List ByteArray) (v : Value) (w : World) (h : Txs w v l) (hl : l.length ≤ 1000) (hj : (joinL l).length ≤ 1000000) (hcap : ∀ po c, v = .slice po l.length c → l.length ≤ c) :
    Calls Tryz.prog 10 #[.agg #[v]] w fun e w' => e = .returned (.string (joinS l)) ∧ Below w.heap.size w w' := by
  have hJ : ∀ w, Txs w v l → ∃ po c, v = .slice po l.length c ∧ Calls Tryz.prog 18 #[.slice po l.length c, .string ⟨#[32]⟩] w fun e w' => e = .returned (.string (joinS l)) ∧ Below w.heap.size w w' := by
    intro w h
    rcases h with ⟨rfl, po, c, rfl⟩ | ⟨b, off, c, rfl, hi⟩
    · exact ⟨po, c, rfl, (Tryz.strings_Join_none po c ⟨#[32]⟩ w).mono fun e w' he => ⟨he.1, he.2 ▸ Below.refl _ _⟩⟩
    · exact ⟨_, c, rfl, Tryz.strings_Join b off c l ⟨#[32]⟩ w (fun j x hx => by
        obtain ⟨hj, rfl⟩ := List.getElem?_eq_some_iff.1 hx
        rw [hi.c j hj]
        simp [List.getD_eq_getElem?_getD, hj]) hi.bl (by omega) (hcap _ _ rfl) (by show (joinL l).length ≤ _; omega)⟩
  have ba := below_alloc w (.cells #[v] 38)
  obtain ⟨po, c, rfl, hJ⟩ := hJ _ (h.below ba)
  have HA := Lib.hid ba; clear ba h
  have HJ := Lib.hid hJ; clear hJ
  go_enter Tryz.func10, Tryz.ntmps10
  go_wp2_with fail
  refine HJ.out.mono ?_
  rintro e w1 ⟨rfl, b1⟩
  have H1 := Lib.hid b1; clear b1
  go_simp
  go_wp2_with fail
  go_ret
  exact ⟨rfl, HA.out.trans (H1.out.mono HA.out.size)⟩
end Go.Proofs.YtidjnfjpdnjogaaGreatDoor
