/-
  chroniclebook.Book: is each list as it was? Conditions: none.
-/
import Derived.Test.YtidjnfjpdnjogaaGreatDoorPwT
import Derived.StillTailTactics
namespace Go.Proofs.YtidjnfjpdnjogaaGreatDoor
open Go.RowKit Go.Lib

theorem lt_of_cell {w : World} {b k : Nat} {v : Value} (h : w.cell? ⟨b, k, none⟩ = some v) : b < w.heap.size := by
  rcases Nat.lt_or_ge b w.heap.size with h' | h'
  · exact h'
  · simp [World.cell?, Array.getElem?_eq_none h'] at h
/-- A list's element. -/
theorem row_elem {w : World} {B e n k : Nat} {po : Option Addr} {pc : Nat} {xs : List Value} (h : w.ownsRow B e 1 (.slice po n pc) n xs) (hk : k < n) : ∃ g u, po = some ⟨g, 0, none⟩ ∧ xs[k]? = some u ∧ w.cell? ⟨g, k, none⟩ = some u := by
  rcases h.2 with ⟨e, rfl⟩ | ⟨g, cap, cur, e, _⟩
  · omega
  · cases e
    have hx : xs.length = n := by simpa using h.1
    refine ⟨g, xs[k]'(by omega), rfl, by simp [hx, hk], ?_⟩
    rw [h.cellAt k (by omega)]
    simp [hx, hk]

set_option maxRecDepth 100000 in
theorem stillTexts_any (K B : Nat) (tv cv : Value) (tl cl : List Value) (ps : List Row) (n : Nat) (ht : tl.length = n) (hc : cl.length = n) (hn : n < 200) (w : World) (hV : BookV K B tv cv tl cl ps w)
    (hp : ∀ (k : Nat) (u v : Value), tl[k]? = some u → cl[k]? = some v → ∃ l, (u, l) ∈ ps ∧ (v, l) ∈ ps ∧ l.length ≤ 1000000) :
    Calls Tryz.prog 19 #[.pointer (some ⟨K, 0, none⟩)] w fun e w' => e = .returned (.bool true) ∧ Below w.heap.size w w' := by
  obtain ⟨ta, tc, rfl⟩ := row_sl hV.tx
  obtain ⟨co, cc, rfl⟩ := row_sl hV.cx
  rw [ht, hc] at hV
  go_enter Tryz.func19, Tryz.ntmps19
  have HV := Lib.hid hV; clear hV
  have HP := Lib.hid hp; clear hp
  go_wp2_with fail
  go_loopg [3] n (fun g i wr => ∃ k : Nat, g = n - k ∧ k ≤ n ∧ i = .int .i64 k ∧ Below w.heap.size w wr)
  case atStart => exact ⟨0, by omega, by omega, rfl, Below.refl _ _⟩
  case round =>
    obtain ⟨k, hg, hk, rfl, hb⟩ := hrel
    have HG := Lib.hid hg; clear hg
    have VR := HV.out.below hb
    have HB := Lib.hid hb; clear hb
    have c0 := VR.cell0
    have c1 := VR.cell1
    by_cases hlt : k < n
    · have hl2 : (k : Int) < (n : Int) := by omega
      have hw1 : IntKind.i64.wrap ((k : Int) + 1) = (k : Int) + 1 := IntWalk.i64_in _ (by omega)
      obtain ⟨g1, u1, rfl, hu1, e1⟩ := row_elem (ht ▸ VR.tx) hlt
      obtain ⟨g2, u2, rfl, hu2, e2⟩ := row_elem (hc ▸ VR.cx) hlt
      obtain ⟨l, m1, m2, hl⟩ := HP.out k u1 u2 hu1 hu2
      have z1 := lt_of_cell e1
      have z2 := lt_of_cell e2
      have HS := Lib.hid (sameTexts_any l l hl u1 u2 wr.drew (slice_txs (VR.drew.rows.own _ m1)).1 (slice_txs (VR.drew.rows.own _ m2)).1)
      have HR := Lib.hid VR
      clear VR hu1 hu2 m1 m2
      go_wp2_with fail
      go_still_tail 14, (by kernel_rfl)
      change wpList _ _ _ _ _ wr.drew
      have hbd : Below w.heap.size w wr.drew := HB.out.drew
      have HBD := Lib.hid hbd
      clear hbd c0 c1 e1 e2
      generalize wr.drew = w2 at *
      go_wp2_with fail
      refine HS.out.mono ?_
      rintro e w3 ⟨rfl, hb3⟩
      have hb4 := Lib.hid (HBD.out.trans (hb3.mono HBD.out.size))
      clear hb3
      simp only [decide_true]
      go_wp2_with fail
      go_roundg (n - (k + 1))
      case measure => have := HG.out; omega
      case rel => exact ⟨k + 1, rfl, by omega, by go_num, hb4.out⟩
    · obtain rfl : k = n := by omega
      have HR := Lib.hid VR
      clear VR
      go_wp2_with fail
      go_ret
      exact ⟨rfl, HB.out⟩
end Go.Proofs.YtidjnfjpdnjogaaGreatDoor
