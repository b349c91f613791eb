/-
  MetaBounds, walked. Conditions: none.
-/
import Derived.Test.YtiblkfhcpepnfaaDoorMetaQ
import Derived.Test.YtiblkfhcpepnfaaDoorMeta8
namespace Go.Proofs.YtiblkfhcpepnfaaDoor
open Go.RowKit Go.Lib

set_option maxRecDepth 100000 in
set_option maxHeartbeats 4000000 in
theorem bounds_any (count age before now : Int) (ao : Option Addr) (len cap : Nat) (T : Nat → Int) (w : World) (ht : Tab w) (hA : IntArg w.heap.size w ao len T) :
    Calls Tryd.prog 5 #[.int .i64 count, .int .i64 age, .int .i64 before, .int .i64 now, .slice ao len cap] w fun e w' => e = .returned (.bool true) ∧ Below w.heap.size w w' := by
  have HT := Lib.hid ht; clear ht
  have HA := Lib.hid hA; clear hA
  by_cases hbad : count < 0 ∨ 1099511627776 < count ∨ age < 0 ∨ 1099511627776 < age ∨ before < 0 ∨ 1099511627776 < before ∨ now < 0 ∨ 1099511627776 < now ∨ 40 < (len : Int)
  · have HB := Lib.hid (Below.refl w.heap.size w)
    go_enter Tryd.func5, Tryd.ntmps5
    go_wp2_with (
      go_at_call 7
      refine (alive_any _ HT.out).mono ?_
      rintro en x ⟨rfl, hbx⟩
      have HX := Lib.hid hbx
      clear hbx)
    all_goals first
      | (go_ret; exact ⟨rfl, HX.out⟩)
      | (exfalso; omega)
  · have q1 : ¬ count < 0 := by omega
    have q2 : ¬ 1099511627776 < count := by omega
    have q3 : ¬ age < 0 := by omega
    have q4 : ¬ 1099511627776 < age := by omega
    have q5 : ¬ before < 0 := by omega
    have q6 : ¬ 1099511627776 < before := by omega
    have q7 : ¬ now < 0 := by omega
    have q8 : ¬ 1099511627776 < now := by omega
    have q9 : ¬ 40 < (len : Int) := by omega
    have q10 : len ≤ 40 := by omega
    clear hbad
    have HB := Lib.hid (Below.refl w.heap.size w)
    have HF1 := Lib.hid (fun W h => floor_any ⟨count, 0, 0⟩ 0 now (by show count ≤ _; omega) (by show (0 : Int) ≤ _; decide) (by omega) (by omega) ao len cap (by unfold maxLen; omega) T W h)
    have HF2 := Lib.hid (fun W h => floor_any ⟨0, age, 0⟩ 0 now (by show (0 : Int) ≤ _; decide) (by show age ≤ _; omega) (by omega) (by omega) ao len cap (by unfold maxLen; omega) T W h)
    have HF3 := Lib.hid (fun W h => floor_any ⟨0, 0, before⟩ 0 now (by show (0 : Int) ≤ _; decide) (by show (0 : Int) ≤ _; decide) (by omega) (by omega) ao len cap (by unfold maxLen; omega) T W h)
    have HF4 := Lib.hid (fun W h => floor_any ⟨count, age, before⟩ 0 now (by show count ≤ _; omega) (by show age ≤ _; omega) (by omega) (by omega) ao len cap (by unfold maxLen; omega) T W h)
    have HF5 := Lib.hid (fun W h => floor_any ⟨0, 0, 0⟩ 0 now (by show (0 : Int) ≤ _; decide) (by show (0 : Int) ≤ _; decide) (by omega) (by omega) ao len cap (by unfold maxLen; omega) T W h)
    have HP := Lib.hid (fun (hT : Times T len now) => bounds count age before now T len hT (by omega) (by omega) (by omega) (by omega) (by omega))
    have F1 := HF1.out
    have F2 := HF2.out
    have F3 := HF3.out
    have F4 := HF4.out
    have F5 := HF5.out
    have P := HP.out
    clear HF1 HF2 HF3 HF4 HF5 HP
    revert F1 F2 F3 F4 F5 P
    generalize floorOf ⟨count, 0, 0⟩ 0 now T len = A
    generalize floorOf ⟨0, age, 0⟩ 0 now T len = B
    generalize floorOf ⟨0, 0, before⟩ 0 now T len = C
    generalize floorOf ⟨count, age, before⟩ 0 now T len = D
    generalize floorOf ⟨0, 0, 0⟩ 0 now T len = Z
    intro F1 F2 F3 F4 F5 P
    simp only [Mt.val] at F1 F2 F3 F4 F5
    replace F1 := Lib.hid F1
    replace F2 := Lib.hid F2
    replace F3 := Lib.hid F3
    replace F4 := Lib.hid F4
    replace F5 := Lib.hid F5
    have HP := Lib.hid (fun (hT : Times T len now) => P hT A B C D Z rfl rfl rfl rfl rfl)
    clear P
    go_enter Tryd.func5, Tryd.ntmps5
    go_wp2_with fail
    go_loopg [11] len (fun g i wr => ∃ k : Nat, g = len - k ∧ k ≤ len ∧ i = .int .i64 k ∧ Times T k now ∧ ∃ d, wr = w.drewN d)
    case atStart => exact ⟨0, by omega, by omega, rfl, fun i hi => by omega, 0, rfl⟩
    case round =>
      obtain ⟨k, hg, hkl, rfl, htm, d, rfl⟩ := hrel
      have HG := Lib.hid hg; clear hg
      have HM := Lib.hid htm; clear htm
      by_cases hlt : k < len
      · obtain ⟨b, off, rfl, hbn, hEi⟩ := (HA.out.low HB.out).at_ (by omega)
        have g6 := hEi k hlt
        have hl : (k : Int) < (len : Int) := by omega
        have hl0 : (0 : Int) ≤ (k : Int) := by omega
        have hw1 : IntKind.i64.wrap ((k : Int) + 1) = (k : Int) + 1 := IntWalk.i64_in _ (by omega)
        have HEi := Lib.hid hEi; clear hEi
        rcases d1 : decide (T k < 0) with _ | _
        · rcases d2 : decide (now < T k) with _ | _
          · by_cases hk0 : k = 0
            · subst hk0
              rw [Int.natCast_zero]
              simp only [Nat.add_zero] at g6
              go_wp2_with fail
              go_quiet (fail)
              go_wp2_with fail
              go_roundg (len - 1)
              case measure => have := HG.out; omega
              case rel =>
                refine ⟨1, by omega, by omega, rfl, fun i hi => ?_, d + nq, rfl⟩
                simp only [decide_eq_false_iff_not] at d1 d2
                obtain rfl : i = 0 := by omega
                exact ⟨by omega, by omega, fun h => by omega⟩
            · obtain ⟨j, rfl⟩ : ∃ j, k = j + 1 := ⟨k - 1, by omega⟩
              have hkj : ((j + 1 : Nat) : Int) - 1 = (j : Int) := by omega
              have hwj : IntKind.i64.wrap (j : Int) = (j : Int) := IntWalk.i64_in _ (by omega)
              have g7 := HEi.out j (by omega)
              have hj0 : (0 : Int) ≤ (j : Int) := by omega
              have hj : (j : Int) < (len : Int) := by omega
              rcases d4 : decide (T (j + 1) < T j) with _ | _
              · go_wp2_with fail
                go_quiet (fail)
                go_wp2_with fail
                go_roundg (len - (j + 1 + 1))
                case measure => have := HG.out; omega
                case rel =>
                  refine ⟨j + 1 + 1, by omega, by omega, by go_num, fun i hi => ?_, d + nq, rfl⟩
                  simp only [decide_eq_false_iff_not] at d1 d2 d4
                  by_cases hij : i = j + 1
                  · subst hij
                    exact ⟨by omega, by omega, fun h => by simp only [Nat.add_sub_cancel]; omega⟩
                  · exact HM.out i (by omega)
              · go_wp2_with fail
                go_quiet (fail)
                have hbd := below_draws HB.out (d + nq)
                go_wp2_with (
                  go_at_call 7
                  refine (alive_any _ (HT.out.below hbd)).mono ?_
                  rintro en x ⟨rfl, hbx⟩
                  have HX := Lib.hid (hbd.trans (hbx.mono hbd.size))
                  clear hbx)
                go_ret
                exact ⟨rfl, HX.out⟩
          · go_wp2_with fail
            go_quiet (fail)
            have hbd := below_draws HB.out (d + nq)
            go_wp2_with (
              go_at_call 7
              refine (alive_any _ (HT.out.below hbd)).mono ?_
              rintro en x ⟨rfl, hbx⟩
              have HX := Lib.hid (hbd.trans (hbx.mono hbd.size))
              clear hbx)
            go_ret
            exact ⟨rfl, HX.out⟩
        · go_wp2_with fail
          go_quiet (fail)
          have hbd := below_draws HB.out (d + nq)
          go_wp2_with (
            go_at_call 7
            refine (alive_any _ (HT.out.below hbd)).mono ?_
            rintro en x ⟨rfl, hbx⟩
            have HX := Lib.hid (hbd.trans (hbx.mono hbd.size))
            clear hbx)
          go_ret
          exact ⟨rfl, HX.out⟩
      · have hkk : k = len := by omega
        subst hkk
        have hl : ¬ (k : Int) < (k : Int) := by omega
        have hd0 := below_draws HB.out d
        have hA0 := (HA.out.low hd0).up hd0.size
        revert hd0 hA0
        generalize w.drewN d = w0
        intro hd0 hA0
        have HB0 := Lib.hid hd0
        have HA0 := Lib.hid hA0
        clear hd0 hA0 hlt HG hkl
        go_wp2_with (first
          | (go_at_call 13; first
             | ((with_reducible refine (F1.out _ (HA0.out)).mono ?_); rintro en x1 ⟨rfl, hb1⟩; have HB1 := Lib.hid (HB0.out.trans (hb1.mono HB0.out.size)); have HA1 := Lib.hid (HA0.out.moved hb1); clear hb1)
             | ((with_reducible refine (F2.out _ (HA1.out)).mono ?_); rintro en x2 ⟨rfl, hb2⟩; have HB2 := Lib.hid (HB1.out.trans (hb2.mono HB1.out.size)); have HA2 := Lib.hid (HA1.out.moved hb2); clear hb2)
             | ((with_reducible refine (F3.out _ (HA2.out)).mono ?_); rintro en x3 ⟨rfl, hb3⟩; have HB3 := Lib.hid (HB2.out.trans (hb3.mono HB2.out.size)); have HA3 := Lib.hid (HA2.out.moved hb3); clear hb3)
             | ((with_reducible refine (F4.out _ (HA3.out)).mono ?_); rintro en x4 ⟨rfl, hb4⟩; have HB4 := Lib.hid (HB3.out.trans (hb4.mono HB3.out.size)); have HA4 := Lib.hid (HA3.out.moved hb4); clear hb4))
          | fail)
        obtain ⟨hA, hB, hC, hD, hZ⟩ := HP.out HM.out
        have HH := Lib.hid (And.intro hA (And.intro hB (And.intro hC (And.intro hD hZ))))
        clear hA hB hC hD hZ
        go_loopg [17, 18] k (fun gg o i wr => ∃ (j : Nat) (ov : Int), gg = k - j ∧ j ≤ k ∧ (0 < age ∨ j = 0) ∧ o = .int .i64 ov ∧ ov = (oldN age now T j : Int) ∧ i = .int .i64 j ∧ wr = x4)
        case atStart => exact ⟨0, 0, by omega, by omega, Or.inr rfl, rfl, rfl, rfl, rfl⟩
        case round =>
          obtain ⟨j, ov, hg, hj, hpos, rfl, hov, rfl, rfl⟩ := hrel
          have HG := Lib.hid hg; clear hg
          have HO := Lib.hid hov; clear hov
          have hov0 : 0 ≤ ov := by rw [HO.out]; omega
          have hov1 : ov ≤ 40 := by have := oldN_le age now T j; rw [HO.out]; omega
          have hwo : IntKind.i64.wrap (ov + 1) = ov + 1 := IntWalk.i64_in _ (by omega)
          by_cases hag : 0 < age
          · by_cases hlt : j < k
            · obtain ⟨b, off, rfl, hbn, hEi⟩ := HA4.out.at_ (by omega)
              have g6 := hEi j hlt
              clear hEi
              have hl : (j : Int) < (k : Int) := by omega
              have hl0 : (0 : Int) ≤ (j : Int) := by omega
              have hw1 : IntKind.i64.wrap ((j : Int) + 1) = (j : Int) + 1 := IntWalk.i64_in _ (by omega)
              obtain ⟨t1, t2, _⟩ := HM.out j hlt
              have hws : IntKind.i64.wrap (now - T j) = now - T j := IntWalk.i64_in _ (by omega)
              rcases d1 : decide (age ≤ now - T j) with _ | _
              · go_wp2_with fail
                go_roundg (k - (j + 1))
                case measure => have := HG.out; omega
                case rel =>
                  simp only [decide_eq_false_iff_not] at d1
                  exact ⟨j + 1, ov, by omega, by omega, Or.inl hag, rfl, by rw [oldN, if_neg d1, HO.out]; rfl, by go_num, rfl⟩
              · go_wp2_with fail
                go_roundg (k - (j + 1))
                case measure => have := HG.out; omega
                case rel =>
                  simp only [decide_eq_true_eq] at d1
                  exact ⟨j + 1, ov + 1, by omega, by omega, Or.inl hag, rfl, by rw [oldN, if_pos d1, HO.out]; omega, by go_num, rfl⟩
            · have hjk : j = k := by omega
              subst hjk
              have hl : ¬ (j : Int) < (j : Int) := by omega
              have hBv : B = ov := by rw [HH.out.2.1, if_pos hag, HO.out]
              have hCv := HH.out.2.2.1
              have hDv := HH.out.2.2.2.1
              have hZv := HH.out.2.2.2.2
              have hAv := HH.out.1
              clear HH HO hov0 hov1 hwo HP
              subst hBv hZv hCv hDv
              by_cases hcp : 0 < count
              · rw [if_pos hcp] at hAv
                subst hAv
                have hwc : IntKind.i64.wrap ((j : Int) - count) = (j : Int) - count := IntWalk.i64_in _ (by omega)
                go_wp2_with (first
                  | (go_at_call 7
                     refine (alive_any _ (HT.out.below HB4.out)).mono ?_
                     rintro en y ⟨rfl, hby⟩
                     have HBY := Lib.hid (HB4.out.trans (hby.mono HB4.out.size))
                     have HAY := Lib.hid (HA4.out.moved hby)
                     clear hby)
                  | (go_at_call 13
                     refine (F5.out _ HAY.out).mono ?_
                     rintro en x5 ⟨rfl, hb5⟩
                     have HB5 := Lib.hid (HBY.out.trans (hb5.mono HBY.out.size))
                     clear hb5)
                  | fail)
                all_goals first
                  | (go_ret; exact ⟨rfl, HB5.out⟩)
                  | (exfalso; omega)
              · rw [if_neg hcp] at hAv
                subst hAv
                go_wp2_with (first
                  | (go_at_call 7
                     refine (alive_any _ (HT.out.below HB4.out)).mono ?_
                     rintro en y ⟨rfl, hby⟩
                     have HBY := Lib.hid (HB4.out.trans (hby.mono HB4.out.size))
                     have HAY := Lib.hid (HA4.out.moved hby)
                     clear hby)
                  | (go_at_call 13
                     refine (F5.out _ HAY.out).mono ?_
                     rintro en x5 ⟨rfl, hb5⟩
                     have HB5 := Lib.hid (HBY.out.trans (hb5.mono HBY.out.size))
                     clear hb5)
                  | fail)
                all_goals first
                  | (go_ret; exact ⟨rfl, HB5.out⟩)
                  | (exfalso; omega)
          · have hj0 : j = 0 := by omega
            subst hj0
            have hBv : B = ov := by rw [HH.out.2.1, if_neg hag, HO.out]; rfl
            have hCv := HH.out.2.2.1
            have hDv := HH.out.2.2.2.1
            have hZv := HH.out.2.2.2.2
            have hAv := HH.out.1
            clear HH HO hov0 hov1 hwo HP
            subst hBv hZv hCv hDv
            by_cases hcp : 0 < count
            · rw [if_pos hcp] at hAv
              subst hAv
              have hwc : IntKind.i64.wrap ((k : Int) - count) = (k : Int) - count := IntWalk.i64_in _ (by omega)
              go_wp2_with (first
                | (go_at_call 7
                   refine (alive_any _ (HT.out.below HB4.out)).mono ?_
                   rintro en y ⟨rfl, hby⟩
                   have HBY := Lib.hid (HB4.out.trans (hby.mono HB4.out.size))
                   have HAY := Lib.hid (HA4.out.moved hby)
                   clear hby)
                | (go_at_call 13
                   refine (F5.out _ HAY.out).mono ?_
                   rintro en x5 ⟨rfl, hb5⟩
                   have HB5 := Lib.hid (HBY.out.trans (hb5.mono HBY.out.size))
                   clear hb5)
                | fail)
              all_goals first
                | (go_ret; exact ⟨rfl, HB5.out⟩)
                | (exfalso; omega)
            · rw [if_neg hcp] at hAv
              subst hAv
              go_wp2_with (first
                | (go_at_call 7
                   refine (alive_any _ (HT.out.below HB4.out)).mono ?_
                   rintro en y ⟨rfl, hby⟩
                   have HBY := Lib.hid (HB4.out.trans (hby.mono HB4.out.size))
                   have HAY := Lib.hid (HA4.out.moved hby)
                   clear hby)
                | (go_at_call 13
                   refine (F5.out _ HAY.out).mono ?_
                   rintro en x5 ⟨rfl, hb5⟩
                   have HB5 := Lib.hid (HBY.out.trans (hb5.mono HBY.out.size))
                   clear hb5)
                | fail)
              all_goals first
                | (go_ret; exact ⟨rfl, HB5.out⟩)
                | (exfalso; omega)
end Go.Proofs.YtiblkfhcpepnfaaDoor
