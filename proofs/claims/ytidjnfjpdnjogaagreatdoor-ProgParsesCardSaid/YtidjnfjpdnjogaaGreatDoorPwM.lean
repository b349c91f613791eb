/-
  chroniclebook: markedTexts. Conditions: none.
-/
import Derived.Test.YtidjnfjpdnjogaaGreatDoorPwH
import Derived.StillTailTactics
import Derived.Deep.RegionLaw
namespace Go.Proofs.YtidjnfjpdnjogaaGreatDoor
open Go.RowKit Go.Lib

set_option maxRecDepth 100000 in
theorem markedTexts_any (B n : Nat) (v : Value) (vs : List Value) (hn : n < 200) (w : World) (ho : w.ownsRow B 32 1 v n vs) (hm : ∀ j u, vs[j]? = some u → ∃ m, m < 1000 ∧ Txs w u (marks j 0 m)) :
    Calls Tryz.prog 37 #[v] w fun e w' => e = .returned (.bool true) ∧ Below w.heap.size w w' := by
  obtain ⟨va, vc, rfl⟩ := row_sl ho
  go_enter Tryz.func37, Tryz.ntmps37
  have HO := Lib.hid ho; clear ho
  have HM := Lib.hid hm; clear hm
  go_wp2_with fail
  go_loopg [3] n (fun g i wr => ∃ k : Nat, g = n - k ∧ k ≤ n ∧ i = .int .i64 k ∧ Below w.heap.size w wr)
  case atStart => exact ⟨0, by omega, by omega, rfl, Below.refl _ _⟩
  case round =>
    obtain ⟨k, hg, hk, rfl, hb⟩ := hrel
    have HG := Lib.hid hg; clear hg
    have HB := Lib.hid hb
    by_cases hlt : k < n
    · have hl2 : (k : Int) < (n : Int) := by omega
      have hw1 : IntKind.i64.wrap ((k : Int) + 1) = (k : Int) + 1 := IntWalk.i64_in _ (by omega)
      obtain ⟨g1, u1, rfl, hu1, e0⟩ := row_elem HO.out hlt
      have z0 := lt_of_cell e0
      have e1 : wr.cell? ⟨g1, k, none⟩ = some u1 := (World.cell?_of_block (hb.block g1 z0)).trans e0
      obtain ⟨m, hm1, hT⟩ := HM.out k u1 hu1
      have T1 : Txs wr u1 (marks k 0 m) := hT.below hb
      obtain ⟨po, pc, rfl⟩ : ∃ po pc, u1 = .slice po m pc := by simpa [marks_len] using T1.slice
      have z1 := lt_of_cell e1
      have HT1 := Lib.hid (T1.below (w := wr.drew) ⟨rfl, rfl, rfl, Nat.le_refl _, fun _ _ => rfl⟩)
      have HK := Lib.hid (marks_any k 0 m (by omega) (by omega) hm1 wr)
      have HK' := Lib.hid (marks_any k 0 m (by omega) (by omega) hm1 wr.drew)
      clear hb e0 hT T1 hu1 z0
      go_wp2_with fail
      have hmo : Tryz.prog.follows .mixedOrders = true := by kernel_rfl
      have ed : wr.drew.cell? ⟨g1, k, none⟩ = some (.slice po m pc) := e1
      have zd : g1 < wr.drew.heap.size := z1
      go_region_law (first | (go_simp; go_at_call 61; refine HK'.out.mono ?_; rintro e w3 ⟨mv, rfl, om, bm⟩; have e3 : w3.cell? ⟨g1, k, none⟩ = some (.slice po m pc) := (World.cell?_of_block (bm.block g1 zd)).trans ed; have T3 := HT1.out.below bm; have M3 : Txs w3 mv (marks k 0 m) := txs_of (by rw [marks_len]; exact om); have HS3 := Lib.hid (sameTexts_any (marks k 0 m) (marks k 0 m) (by rw [marks_len]; omega) (.slice po m pc) mv w3 (by have := T3; exact this) M3)) | (go_simp; go_at_call 9; refine HS3.out.mono ?_; rintro e w4 ⟨rfl, b4⟩; simp only [decide_true]))
      all_goals
        have hzd : w.heap.size ≤ wr.drew.heap.size := HB.out.size
        have hb4 := Lib.hid (HB.out.drew.trans ((bm.mono hzd).trans (b4.mono (Nat.le_trans hzd bm.size))))
        clear om bm b4 e3 T3 M3 HS3 ed e1
        go_simp
        go_wp2_with fail
        go_roundg (n - (k + 1))
        case measure => have := HG.out; omega
        case rel => exact ⟨k + 1, rfl, by omega, by go_num, hb4.out⟩
    · obtain rfl : k = n := by omega
      clear hb
      go_wp2_with fail
      go_ret
      exact ⟨rfl, HB.out⟩
end Go.Proofs.YtidjnfjpdnjogaaGreatDoor
