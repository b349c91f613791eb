/-
  ViewPages, walked. Conditions: none.
-/
import Derived.Test.YtimmdcajadddmaaViewPagesP
namespace Go.Proofs.Ytimmdcajadddmaa
open Go.RowKit Go.Lib

theorem below_after {W w1 : World} {n : Nat} (h : Below (W.drewN n).heap.size (W.drewN n) w1) : Below W.heap.size W w1 := Below.trans (below_draws (Below.refl _ W) n) h
theorem EvArg.up {n₀ n₁ : Nat} {W : World} {ao : Option Addr} {len : Nat} {E : Nat → Ev} (h : EvArg n₀ W ao len E) (hn : n₀ ≤ n₁) : EvArg n₁ W ao len E :=
  ⟨fun hl => by obtain ⟨b, off, e, hb, hi⟩ := h.at_ hl; exact ⟨b, off, e, by omega, hi⟩⟩

set_option maxRecDepth 100000 in
set_option maxHeartbeats 4000000 in
theorem pages_any (ao : Option Addr) (len cap : Nat) (E : Nat → Ev) (fr n : Int) (hf0 : fr ≤ 9223372036854775807) (hk : ∀ i, EvOk (E i)) (W : World) (hE : EvArg W.heap.size W ao len E) :
    Calls Try.prog 3 #[.slice ao len cap, .int .i64 fr, .int .i64 n] W fun e w' => e = .returned (.bool true) ∧ Below W.heap.size W w' := by
  have HE := Lib.hid hE; clear hE
  have HK := Lib.hid hk; clear hk
  go_enter Try.func3, Try.ntmps3
  go_wp2_with (first
    | (go_at_call 7
       refine (few_any 40 (by decide) ao len cap E _ HE.out).mono ?_
       rintro e w1 ⟨bb, rfl, hb, hw⟩
       replace hw := hw.symm
       subst hw
       replace hb := Lib.hid hb
       rcases bb with _ | _)
    | (go_at_call 8
       refine (alive_view _).mono ?_
       rintro e w1 ⟨rfl, hb1⟩
       replace hb1 := Lib.hid hb1))
  all_goals try (go_ret; exact ⟨rfl, hb1.out⟩)
  have hfr : 0 ≤ fr := by omega
  have hn1 : 1 ≤ n := by omega
  have hn2 : n ≤ 100 := by omega
  have hlen : len ≤ 40 := by have := (hb.out trivial).1; omega
  go_loopg [7] len (fun g i wr => ∃ k : Nat, g = len - k ∧ k ≤ len ∧ i = .int .i64 k ∧ Asc k E ∧ ∃ m, wr = W.drewN m)
  case atStart => exact ⟨0, by omega, by omega, rfl, fun i hi => by omega, 0, rfl⟩
  case round =>
    obtain ⟨k, hg, hkl, rfl, hasc, m, rfl⟩ := hrel
    have HG := Lib.hid hg; clear hg
    have HA := Lib.hid hasc; clear hasc
    by_cases hlt : k < len
    · obtain ⟨b, off, rfl, hbn, hEi⟩ := HE.out.at_ (by omega)
      have g6 := hEi.c6 k hlt
      have hl : (k : Int) < (len : Int) := by omega
      have hw1 : IntKind.i64.wrap ((k : Int) + 1) = (k : Int) + 1 := IntWalk.i64_in _ (by omega)
      have HEi := Lib.hid hEi; clear hEi
      rcases d1 : decide ((E k).position < 0) with _ | _
      · rcases d2 : decide (1099511627776 < (E k).position) with _ | _
        · by_cases hk0 : k = 0
          · subst hk0
            rw [Int.natCast_zero]
            simp only [Nat.zero_mul, Nat.add_zero] at g6
            go_wp2_with fail
            go_quiet (fail)
            go_wp2_with fail
            go_roundg (len - 1)
            case measure => have := HG.out; omega
            case rel =>
              refine ⟨1, by omega, by omega, rfl, fun i hi => ?_, m + nq, rfl⟩
              simp only [decide_eq_false_iff_not] at d1 d2
              obtain rfl : i = 0 := by omega
              exact ⟨by omega, by omega, fun h => by omega⟩
          · obtain ⟨j, rfl⟩ : ∃ j, k = j + 1 := ⟨k - 1, by omega⟩
            have hkj : ((j + 1 : Nat) : Int) - 1 = (j : Int) := by omega
            have hwj : IntKind.i64.wrap (j : Int) = (j : Int) := IntWalk.i64_in _ (by omega)
            have g7 := HEi.out.c6 j (by omega)
            have hj0 : (0 : Int) ≤ (j : Int) := by omega
            have hj : (j : Int) < (len : Int) := by omega
            rcases d4 : decide ((E (j + 1)).position ≤ (E j).position) with _ | _
            · go_wp2_with fail
              go_quiet (fail)
              go_wp2_with fail
              go_roundg (len - (j + 1 + 1))
              case measure => have := HG.out; omega
              case rel =>
                refine ⟨j + 1 + 1, by omega, by omega, by go_num, fun i hi => ?_, m + nq, rfl⟩
                simp only [decide_eq_false_iff_not] at d1 d2 d4
                by_cases hij : i = j + 1
                · subst hij
                  exact ⟨by omega, by omega, fun h => by simp only [Nat.add_sub_cancel]; omega⟩
                · exact HA.out i (by omega)
            · go_wp2_with fail
              go_quiet (fail)
              go_wp2_with (
                go_at_call 8
                refine (alive_view _).mono ?_
                rintro e w1 ⟨rfl, hb1⟩
                replace hb1 := Lib.hid hb1)
              go_ret
              exact ⟨rfl, below_after hb1.out⟩
        · go_wp2_with fail
          go_quiet (fail)
          go_wp2_with (
            go_at_call 8
            refine (alive_view _).mono ?_
            rintro e w1 ⟨rfl, hb1⟩
            replace hb1 := Lib.hid hb1)
          go_ret
          exact ⟨rfl, below_after hb1.out⟩
      · go_wp2_with fail
        go_quiet (fail)
        go_wp2_with (
          go_at_call 8
          refine (alive_view _).mono ?_
          rintro e w1 ⟨rfl, hb1⟩
          replace hb1 := Lib.hid hb1)
        go_ret
        exact ⟨rfl, below_after hb1.out⟩
    · obtain rfl : k = len := by omega
      have hl : ¬ (k : Int) < (k : Int) := by omega
      have hd0 : Below W.heap.size W (W.drewN m) := below_draws (Below.refl _ _) m
      have HD := Lib.hid hd0; clear hd0
      go_wp2_with (first
        | (go_at_call 9
           refine (forward_any ao k cap fr n E (by omega) (fun i => (HK.out i).position) hfr hn1 hn2 (W.drewN m) (HE.out.low HD.out)).mono ?_
           rintro e w1 ⟨evp, fp, v, rfl, hp⟩
           obtain ⟨po, pc, rfl⟩ := row_slice hp.own
           obtain ⟨np, hnx⟩ : ∃ np, nextF fr E evp = np := ⟨_, rfl⟩
           rw [hnx]
           clear hnx
           have HP := Lib.hid hp; clear hp)
        | (go_at_call 10
           have hb2 := (HD.out.trans (HP.out.below.mono (Nat.le_refl _)))
           have hb3 := hb2.alloc hb2.size (.cells #[.slice po evp.length pc, .int .i64 np, .bool fp] 31)
           refine (backward_page ao k cap fr n E (by omega) hfr hf0 hn1 hn2 (w1.alloc (.cells #[.slice po evp.length pc, .int .i64 np, .bool fp] 31)) ((HE.out.low hb3).up hb3.size)).mono ?_
           rintro e w2 ⟨evq, fq, v, rfl, hq⟩
           obtain ⟨qo, qc, rfl⟩ := row_slice hq.own
           obtain ⟨bq, hnx⟩ : ∃ bq, nextB fr E evq = bq := ⟨_, rfl⟩
           rw [hnx]
           clear hnx
           have HB := Lib.hid (And.intro hb2 hb3); clear hb2 hb3
           have HQ := Lib.hid hq; clear hq))
      obtain ⟨w3, hw3⟩ : ∃ w3, w2.alloc (.cells #[.slice qo evq.length qc, .int .i64 bq, .bool fq] 31) = w3 := ⟨_, rfl⟩
      rw [hw3]
      have hqb : w3.heap[w2.heap.size]? = some (.cells #[.slice qo evq.length qc, .int .i64 bq, .bool fq] 31) := by rw [← hw3]; exact new_block _ _
      have hb23 : Below w2.heap.size w2 w3 := by rw [← hw3]; exact below_alloc _ _
      have hb13 := HQ.out.below.trans (hb23.mono HQ.out.below.size)
      have hpb : w3.heap[w1.heap.size]? = some (.cells #[.slice po evp.length pc, .int .i64 np, .bool fp] 31) := (hb13.block _ (by simp)).trans (new_block _ _)
      have hbW3 : Below W.heap.size W w3 := HB.out.2.trans (hb13.mono HB.out.2.size)
      obtain ⟨FP, hFP⟩ : ∃ FP : Nat → Ev, FP = fun i => E (evp.getD i 0) := ⟨_, rfl⟩
      obtain ⟨FQ, hFQ⟩ : ∃ FQ : Nat → Ev, FQ = fun i => E (evq.getD i 0) := ⟨_, rfl⟩
      have EP : EvArg w1.heap.size w3 po evp.length FP := by
        rw [hFP]
        exact (own_arg HP.out.own).low ((below_alloc w1 _).trans (hb13.mono (by simp)))
      have EQ : EvArg w2.heap.size w3 qo evq.length FQ := by
        rw [hFQ]
        exact (own_arg HQ.out.own).low hb23
      obtain ⟨hm1, rfl⟩ := fwPage_count HP.out
      obtain ⟨hm2, rfl⟩ := bkPage_count HQ.out
      have p0 := list_cells hpb 0 _ rfl
      have p2 := list_cells hpb 2 _ rfl
      have q0 := list_cells hqb 0 _ rfl
      have q2 := list_cells hqb 2 _ rfl
      have RP : ∀ i, i < evp.length → fr ≤ (FP i).position ∧ (0 < i → (FP (i - 1)).position < (FP i).position) := by
        rw [hFP]
        exact fwPage_rows HP.out HA.out
      have RQ : ∀ i, i < evq.length → (FQ i).position ≤ fr ∧ (0 < i → (FQ i).position < (FQ (i - 1)).position) := by
        rw [hFQ]
        exact bkPage_rows HQ.out HA.out
      replace RP := Lib.hid RP
      replace RQ := Lib.hid RQ
      have HL := Lib.hid (And.intro (show evp.length ≤ 100 by omega) (show evq.length ≤ 100 by omega))
      have H3 := Lib.hid hbW3
      have HE3 := Lib.hid (HE.out.low hbW3)
      replace EP := Lib.hid EP
      replace EQ := Lib.hid EQ
      replace hm1 := Lib.hid hm1
      replace hm2 := Lib.hid hm2
      clear hFP hFQ hw3 hqb hb23 hb13 hpb hbW3 HB HQ HP HE HD hl HG hlt hb
      go_loopg [12, 13, 14] k (fun g a c i wr => ∃ j : Nat, g = k - j ∧ j ≤ k ∧ a = .int .i64 (upN fr E j) ∧ c = .int .i64 (downN fr E j) ∧ i = .int .i64 j ∧ w3 = wr)
      case atStart => exact ⟨0, by omega, by omega, rfl, rfl, rfl, rfl⟩
      case round =>
        obtain ⟨j, hg, hjl, rfl, rfl, rfl, rfl⟩ := hrel
        have HG := Lib.hid hg; clear hg
        have hu := upN_le fr E j
        have hd := downN_le fr E j
        by_cases hjt : j < k
        · obtain ⟨b, off, rfl, hbn, hEi⟩ := HE3.out.at_ (by omega)
          have g6 := hEi.c6 j hjt
          have hl : (j : Int) < (k : Int) := by omega
          have hw1 : IntKind.i64.wrap ((j : Int) + 1) = (j : Int) + 1 := IntWalk.i64_in _ (by omega)
          have hw2 : IntKind.i64.wrap ((upN fr E j : Int) + 1) = (upN fr E j : Int) + 1 := IntWalk.i64_in _ (by omega)
          have hw3 : IntKind.i64.wrap ((downN fr E j : Int) + 1) = (downN fr E j : Int) + 1 := IntWalk.i64_in _ (by omega)
          have e1 := Lib.hid (upN_succ fr E j)
          have e2 := Lib.hid (downN_succ fr E j)
          clear hEi hu hd
          by_cases a1 : fr ≤ (E j).position
          · by_cases a2 : (E j).position ≤ fr
            · go_wp2_with fail
              go_roundg (k - (j + 1))
              case measure => have := HG.out; omega
              case rel => exact ⟨j + 1, by omega, by omega, by rw [e1.out, if_pos a1]; go_num, by rw [e2.out, if_pos a2]; go_num, by go_num, rfl⟩
            · go_wp2_with fail
              go_roundg (k - (j + 1))
              case measure => have := HG.out; omega
              case rel => exact ⟨j + 1, by omega, by omega, by rw [e1.out, if_pos a1]; go_num, by rw [e2.out, if_neg (by omega)]; go_num, by go_num, rfl⟩
          · by_cases a2 : (E j).position ≤ fr
            · go_wp2_with fail
              go_roundg (k - (j + 1))
              case measure => have := HG.out; omega
              case rel => exact ⟨j + 1, by omega, by omega, by rw [e1.out, if_neg (by omega)]; go_num, by rw [e2.out, if_pos a2]; go_num, by go_num, rfl⟩
            · omega
        · obtain rfl : j = k := by omega
          have hl : ¬ (j : Int) < (j : Int) := by omega
          have k1 := hm1.out
          have k2 := hm2.out
          clear hu hd
          go_wp2_with fail
          clear k1 k2
          go_loopg [15] evp.length (fun g i wr => ∃ j : Nat, g = evp.length - j ∧ j ≤ evp.length ∧ i = .int .i64 j ∧ ∃ m, wr = w3.drewN m)
          case atStart => exact ⟨0, by omega, by omega, rfl, 0, rfl⟩
          case round =>
            obtain ⟨j, hg, hjl, rfl, mP, rfl⟩ := hrel
            have HGP := Lib.hid hg; clear hg
            by_cases hjt : j < evp.length
            · obtain ⟨g, off, rfl, hgn, hEi⟩ := EP.out.at_ (by omega)
              have g6 := hEi.c6 j hjt
              have hl : (j : Int) < (evp.length : Int) := by omega
              have hw1 : IntKind.i64.wrap ((j : Int) + 1) = (j : Int) + 1 := IntWalk.i64_in _ (by have := HL.out.1; omega)
              have hr := RP.out j hjt
              have HEi := Lib.hid hEi; clear hEi
              have d1 : decide ((FP j).position < fr) = false := decide_eq_false (by omega)
              by_cases hj0 : j = 0
              · subst hj0
                rw [Int.natCast_zero]
                simp only [Nat.zero_mul, Nat.add_zero] at g6
                have HR := Lib.hid hr; clear hr
                go_wp2_with fail
                go_quiet (fail)
                go_wp2_with fail
                go_roundg (evp.length - 1)
                case measure => have := HGP.out; omega
                case rel => exact ⟨1, by omega, by omega, rfl, mP + nq, rfl⟩
              · obtain ⟨i, rfl⟩ : ∃ i, j = i + 1 := ⟨j - 1, by omega⟩
                have hkj : ((i + 1 : Nat) : Int) - 1 = (i : Int) := by omega
                have hw5 : IntKind.i64.wrap ((i : Int) + 1 + 1) = (i : Int) + 1 + 1 := IntWalk.i64_in _ (by have := HL.out.1; omega)
                have hwj : IntKind.i64.wrap (i : Int) = (i : Int) := IntWalk.i64_in _ (by have := HL.out.1; omega)
                have g7 := HEi.out.c6 i (by omega)
                have hi0 : (0 : Int) ≤ (i : Int) := by omega
                have hi : (i : Int) < (evp.length : Int) := by omega
                have hr2 := hr.2 (by omega)
                simp only [Nat.add_sub_cancel] at hr2
                have d4 : decide ((FP (i + 1)).position ≤ (FP i).position) = false := decide_eq_false (by omega)
                have HR := Lib.hid (And.intro hr hr2); clear hr hr2
                go_wp2_with fail
                go_quiet (fail)
                go_wp2_with fail
                go_roundg (evp.length - (i + 1 + 1))
                case measure => have := HGP.out; omega
                case rel =>
                  have hbd := HL.out.1
                  exact ⟨i + 1 + 1, by omega, by omega, by go_num, mP + nq, rfl⟩
            · obtain rfl : j = evp.length := by omega
              have hl : ¬ (evp.length : Int) < (evp.length : Int) := by omega
              go_wp2_with fail
              go_loopg [16] evq.length (fun g i wr => ∃ j : Nat, g = evq.length - j ∧ j ≤ evq.length ∧ i = .int .i64 j ∧ ∃ m, wr = w3.drewN m)
              case atStart => exact ⟨0, by omega, by omega, rfl, mP, rfl⟩
              case round =>
                obtain ⟨j, hg, hjl, rfl, mQ, rfl⟩ := hrel
                have HGQ := Lib.hid hg; clear hg
                by_cases hjt : j < evq.length
                · obtain ⟨g, off, rfl, hgn, hEi⟩ := EQ.out.at_ (by omega)
                  have g6 := hEi.c6 j hjt
                  have hl : (j : Int) < (evq.length : Int) := by omega
                  have hw1 : IntKind.i64.wrap ((j : Int) + 1) = (j : Int) + 1 := IntWalk.i64_in _ (by have := HL.out.2; omega)
                  have hr := RQ.out j hjt
                  have HEi := Lib.hid hEi; clear hEi
                  have d1 : decide (fr < (FQ j).position) = false := decide_eq_false (by omega)
                  by_cases hj0 : j = 0
                  · subst hj0
                    rw [Int.natCast_zero]
                    simp only [Nat.zero_mul, Nat.add_zero] at g6
                    have HR := Lib.hid hr; clear hr
                    go_wp2_with fail
                    go_quiet (fail)
                    go_wp2_with fail
                    go_roundg (evq.length - 1)
                    case measure => have := HGQ.out; omega
                    case rel => exact ⟨1, by omega, by omega, rfl, mQ + nq, rfl⟩
                  · obtain ⟨i, rfl⟩ : ∃ i, j = i + 1 := ⟨j - 1, by omega⟩
                    have hkj : ((i + 1 : Nat) : Int) - 1 = (i : Int) := by omega
                    have hw5 : IntKind.i64.wrap ((i : Int) + 1 + 1) = (i : Int) + 1 + 1 := IntWalk.i64_in _ (by have := HL.out.2; omega)
                    have hwj : IntKind.i64.wrap (i : Int) = (i : Int) := IntWalk.i64_in _ (by have := HL.out.2; omega)
                    have g7 := HEi.out.c6 i (by omega)
                    have hi0 : (0 : Int) ≤ (i : Int) := by omega
                    have hi : (i : Int) < (evq.length : Int) := by omega
                    have hr2 := hr.2 (by omega)
                    simp only [Nat.add_sub_cancel] at hr2
                    have d4 : decide ((FQ i).position ≤ (FQ (i + 1)).position) = false := decide_eq_false (by omega)
                    have HR := Lib.hid (And.intro hr hr2); clear hr hr2
                    go_wp2_with fail
                    go_quiet (fail)
                    go_wp2_with fail
                    go_roundg (evq.length - (i + 1 + 1))
                    case measure => have := HGQ.out; omega
                    case rel =>
                      have hbd := HL.out.2
                      exact ⟨i + 1 + 1, by omega, by omega, by go_num, mQ + nq, rfl⟩
                · obtain rfl : j = evq.length := by omega
                  have hl : ¬ (evq.length : Int) < (evq.length : Int) := by omega
                  go_wp2_with (
                    go_at_call 8
                    refine (alive_view _).mono ?_
                    rintro e w1 ⟨rfl, hb1⟩
                    replace hb1 := Lib.hid hb1)
                  go_ret
                  exact ⟨rfl, H3.out.trans ((below_after hb1.out).mono H3.out.size)⟩
end Go.Proofs.Ytimmdcajadddmaa
