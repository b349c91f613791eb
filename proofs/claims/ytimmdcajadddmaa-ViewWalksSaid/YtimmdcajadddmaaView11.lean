/-
  ViewWalks, walked. Conditions: none.
-/
import Derived.Test.YtimmdcajadddmaaViewWalksP
import Derived.Test.YtimmdcajadddmaaView10
import Derived.Laws.AppendOwnNone
namespace Go.Proofs.Ytimmdcajadddmaa
open Go.RowKit Go.Lib

theorem below_after {W w1 : World} {n : Nat} (h : Below (W.drewN n).heap.size (W.drewN n) w1) : Below W.heap.size W w1 := Below.trans (below_draws (Below.refl _ W) n) h
theorem EvArg.up {n₀ n₁ : Nat} {W : World} {ao : Option Addr} {len : Nat} {E : Nat → Ev} (h : EvArg n₀ W ao len E) (hn : n₀ ≤ n₁) : EvArg n₁ W ao len E :=
  ⟨fun hl => by obtain ⟨b, off, e, hb, hi⟩ := h.at_ hl; exact ⟨b, off, e, by omega, hi⟩⟩

theorem evCells_one (E : Nat → Ev) (l : List Nat) : ∀ u ∈ evCells E l, u.oneCell' = true := by
  intro u hu
  simp only [evCells, List.mem_flatten, List.mem_map] at hu
  obtain ⟨c, ⟨x, _, rfl⟩, hu⟩ := hu
  revert u
  unfold Ev.cells
  simp [Value.oneCell']

/-- A row appended onto an own row. -/
theorem wpList_append_row {ops : Array Oper} {rest : List Oper} {o : Oper} {a : Act} {Q : Exit → Act → World → Prop} {w : World} (hgd : o.guard = none) (s x : Operand)
    (ho : o.op = .call { callee := .builtin .append, args := #[s, x], argTypes := #[22, 22] }) (base base2 : Nat) (v : Value) (n : Nat) (xs : List Value) (hs : a.eval s = v) (hown : w.ownsRow base 29 8 v n xs)
    (sv : Value) (m : Nat) (ys : List Value) (hx : a.eval x = sv) (hown2 : w.ownsRow base2 29 8 sv m ys) (h1 : ∀ u ∈ ys, u.oneCell' = true) (hnm : n + m ≤ 1000) (hbase : base ≤ w.heap.size)
    (h : ∀ v' w', w'.ownsRow base 29 8 v' (n + m) (xs ++ ys) → w.grownBy w' v.ownBlock → wpList Try.prog ops Q rest (a.put o.dst v') w') : wpList Try.prog ops Q (o :: rest) a w := by
  obtain ⟨i0, hi0, hz0, hs0, hb0'⟩ := info_parts info29
  have hl := hown2.1
  rcases hown2.2 with ⟨rfl, hm⟩ | ⟨g, cap, cur, rfl, hg, hgg, _⟩
  · subst hm
    have hy : ys = [] := by
      cases ys with
      | nil => rfl
      | cons y ys => simp at hl
    subst hy
    refine wpList_append_own_none hgd s x 22 ho base 29 i0 8 Try.underlying22 hi0 v n xs hs hown hx ?_
    have := h v w (by simpa using hown) ⟨rfl, rfl, rfl, Nat.le_refl _, fun _ _ _ => rfl⟩
    exact this
  · exact wpList_append_own w hgd s x 22 ho base 29 i0 _ 8 88 Try.underlying22 hi0 hz0 hs0 hb0' rfl (by decide) v n xs hs hown ⟨g, 0, none⟩ m cap ys hx (by simpa using hl) (hown2.cells (g := g) rfl) h1 (by unfold maxLen; omega) (by omega) hbase
      fun v' w' a1 a2 _ => h v' w' a1 a2

theorem one_row {w : World} (e : Ev) {B : Nat} (hB : B ≤ w.heap.size) : (w.alloc (.cells e.cells 29)).ownsRow B 29 8 (.slice (some ⟨w.heap.size, 0, none⟩) 1 1) 1 e.cells.toList :=
  ⟨rfl, Or.inr ⟨_, 1, e.cells, rfl, hB, new_block _ _, by decide, by decide, rfl, rfl⟩⟩
theorem bk_join (m s k : Nat) (h : m ≤ s) (h2 : s ≤ k) : List.range' m (s - m) ++ List.range' s (k - s) = List.range' m (k - m) := by
  rw [show List.range' s (k - s) = List.range' (m + (s - m)) (k - s) by rw [show m + (s - m) = s by omega], List.range'_append_1]
  congr 1
  omega
theorem take_rev (ev r : List Nat) (t : Nat) (h : t < ev.length) : (ev.take (t + 1)).reverse ++ r = ev.getD t 0 :: ((ev.take t).reverse ++ r) := by
  rw [List.take_succ_eq_append_getElem h, List.reverse_append, getD_get ev t h]
  simp
theorem same_self (a : Ev) : sameS a a = true := by simp [sameS, sameE, sameW]
theorem range_arg {w : World} {B k cap : Nat} {ao : Option Addr} {E : Nat → Ev} (h : w.ownsRow B 29 8 (.slice ao k cap) k (evCells E (List.range k))) : EvArg w.heap.size w ao k (fun i => E ((List.range k).getD i 0)) := by
  have h2 : w.ownsRow B 29 8 (.slice ao k cap) (List.range k).length (evCells E (List.range k)) := by rw [List.length_range]; exact h
  have := own_arg h2
  rw [List.length_range] at this
  exact this
theorem range_getD (k i : Nat) (h : i < k) : (List.range k).getD i 0 = i := by simp [List.getD, h]

set_option maxRecDepth 100000 in
set_option maxHeartbeats 4000000 in
theorem walks_any (ao : Option Addr) (len cap : Nat) (E : Nat → Ev) (n : Int) (hk : ∀ i, EvOk (E i)) (W : World) (hE : EvArg W.heap.size W ao len E) :
    Calls Try.prog 4 #[.slice ao len cap, .int .i64 n] W fun e w' => e = .returned (.bool true) ∧ Below W.heap.size W w' := by
  have HE := Lib.hid hE; clear hE
  have HK := Lib.hid hk; clear hk
  go_enter Try.func4, Try.ntmps4
  go_wp2_with (first
    | (go_at_call 7
       refine (few_any 40 (by decide) ao len cap E _ HE.out).mono ?_
       rintro e w1 ⟨bb, rfl, hb, hw⟩
       replace hw := hw.symm
       subst hw
       replace hb := Lib.hid hb
       rcases bb with _ | _)
    | (go_at_call 8
       refine (alive_view _).mono ?_
       rintro e w1 ⟨rfl, hb1⟩
       replace hb1 := Lib.hid hb1))
  all_goals try (go_ret; exact ⟨rfl, hb1.out⟩)
  have hn1 : 1 ≤ n := by omega
  have hn2 : n ≤ 20 := by omega
  have hlen : len ≤ 40 := by have := (hb.out trivial).1; omega
  go_loopg [5] len (fun g i wr => ∃ k : Nat, g = len - k ∧ k ≤ len ∧ i = .int .i64 k ∧ Asc k E ∧ ∃ m, wr = W.drewN m)
  case atStart => exact ⟨0, by omega, by omega, rfl, fun i hi => by omega, 0, rfl⟩
  case round =>
    obtain ⟨k, hg, hkl, rfl, hasc, m, rfl⟩ := hrel
    have HG := Lib.hid hg; clear hg
    have HA := Lib.hid hasc; clear hasc
    by_cases hlt : k < len
    · obtain ⟨b, off, rfl, hbn, hEi⟩ := HE.out.at_ (by omega)
      have g6 := hEi.c6 k hlt
      have hl : (k : Int) < (len : Int) := by omega
      have hw1 : IntKind.i64.wrap ((k : Int) + 1) = (k : Int) + 1 := IntWalk.i64_in _ (by omega)
      have HEi := Lib.hid hEi; clear hEi
      rcases d1 : decide ((E k).position < 0) with _ | _
      · rcases d2 : decide (1099511627776 < (E k).position) with _ | _
        · by_cases hk0 : k = 0
          · subst hk0
            rw [Int.natCast_zero]
            simp only [Nat.zero_mul, Nat.add_zero] at g6
            go_wp2_with fail
            go_quiet (fail)
            go_wp2_with fail
            go_roundg (len - 1)
            case measure => have := HG.out; omega
            case rel =>
              refine ⟨1, by omega, by omega, rfl, fun i hi => ?_, m + nq, rfl⟩
              simp only [decide_eq_false_iff_not] at d1 d2
              obtain rfl : i = 0 := by omega
              exact ⟨by omega, by omega, fun h => by omega⟩
          · obtain ⟨j, rfl⟩ : ∃ j, k = j + 1 := ⟨k - 1, by omega⟩
            have hkj : ((j + 1 : Nat) : Int) - 1 = (j : Int) := by omega
            have hwj : IntKind.i64.wrap (j : Int) = (j : Int) := IntWalk.i64_in _ (by omega)
            have g7 := HEi.out.c6 j (by omega)
            have hj0 : (0 : Int) ≤ (j : Int) := by omega
            have hj : (j : Int) < (len : Int) := by omega
            rcases d4 : decide ((E (j + 1)).position ≤ (E j).position) with _ | _
            · go_wp2_with fail
              go_quiet (fail)
              go_wp2_with fail
              go_roundg (len - (j + 1 + 1))
              case measure => have := HG.out; omega
              case rel =>
                refine ⟨j + 1 + 1, by omega, by omega, by go_num, fun i hi => ?_, m + nq, rfl⟩
                simp only [decide_eq_false_iff_not] at d1 d2 d4
                by_cases hij : i = j + 1
                · subst hij
                  exact ⟨by omega, by omega, fun h => by simp only [Nat.add_sub_cancel]; omega⟩
                · exact HA.out i (by omega)
            · go_wp2_with fail
              go_quiet (fail)
              go_wp2_with (
                go_at_call 8
                refine (alive_view _).mono ?_
                rintro e w1 ⟨rfl, hb1⟩
                replace hb1 := Lib.hid hb1)
              go_ret
              exact ⟨rfl, below_after hb1.out⟩
        · go_wp2_with fail
          go_quiet (fail)
          go_wp2_with (
            go_at_call 8
            refine (alive_view _).mono ?_
            rintro e w1 ⟨rfl, hb1⟩
            replace hb1 := Lib.hid hb1)
          go_ret
          exact ⟨rfl, below_after hb1.out⟩
      · go_wp2_with fail
        go_quiet (fail)
        go_wp2_with (
          go_at_call 8
          refine (alive_view _).mono ?_
          rintro e w1 ⟨rfl, hb1⟩
          replace hb1 := Lib.hid hb1)
        go_ret
        exact ⟨rfl, below_after hb1.out⟩
    · obtain rfl : k = len := by omega
      have hl : ¬ (k : Int) < (k : Int) := by omega
      have hd0 : Below W.heap.size W (W.drewN m) := below_draws (Below.refl _ _) m
      revert hd0
      generalize W.drewN m = w0
      intro hd0
      have HD := Lib.hid hd0; clear hd0
      clear hlt HG hkl
      go_wp2_with fail
      go_loopg [6, 8, 9] k (fun g va at_ r wr => ∃ (s j : Nat) (p : Int), g = k - s ∧ at_ = .int .i64 p ∧ r = .int .i64 j ∧ j ≤ s ∧ FwAt E k s p ∧ p ≤ 9223372036854775807 ∧ wr.ownsRow W.heap.size 29 8 va s (evCells E (List.range s)) ∧ Below W.heap.size W wr)
      case atStart => exact ⟨0, 0, 0, by omega, rfl, rfl, by omega, FwAt.start HA.out, by omega, World.ownsRow_nil _ _ _ _, HD.out⟩
      case round =>
        obtain ⟨s, j, p, hg, rfl, rfl, hjs, hF, hp, hown, hb⟩ := hrel
        have hjl : (j : Int) < 60 := by have := hF.le; omega
        have hsk := hF.le
        have hwj : IntKind.i64.wrap ((j : Int) + 1) = (j : Int) + 1 := IntWalk.i64_in _ (by omega)
        have hp0 := hF.pos
        have HB := Lib.hid hb; clear hb
        have HO := Lib.hid hown; clear hown
        have HT := Lib.hid hF; clear hF
        have HG := Lib.hid hg; clear hg
        go_wp2_with (first
          | (go_at_call 9
             refine (forward_any ao k cap p n E (by omega) (fun i => (HK.out i).position) hp0 hn1 (by omega) wr ((HE.out.low HB.out).up HB.out.size)).mono ?_
             rintro e w1 ⟨ev, fp, v, rfl, hp1⟩
             obtain ⟨po, pc, rfl⟩ := row_slice hp1.own
             obtain ⟨np, hnp⟩ : ∃ np, nextF p E ev = np := ⟨_, rfl⟩
             rw [hnp]
             replace hnp := Lib.hid hnp
             have HP := Lib.hid hp1; clear hp1)
          | (at_builtin; refine wpList_append_row rfl _ _ rfl W.heap.size wr.heap.size _ s (evCells E (List.range s)) rfl ?c1 _ ev.length (evCells E ev) rfl ?c2 (evCells_one E ev) ?c3 ?c4 ?_)
          | fail)
        case c1 => exact own_same HO.out (fun g hg => (HP.out.below.alloc HP.out.below.size _).block g (HO.out.lt g hg).2)
        case c2 => exact HP.out.own.alloc _
        case c3 => have := HP.out.tells; omega
        case c4 => have := HP.out.below.size; have := HB.out.size; simp; omega
        intro v' w3 hown' hgr
        have hgr2 : (w1.alloc (.cells #[.slice po ev.length pc, .int .i64 np, .bool fp] 31)).grownBy w3 u6.ownBlock := hgr
        clear hgr
        have hz1 := HP.out.below.size
        have hpb : w3.heap[w1.heap.size]? = some (.cells #[.slice po ev.length pc, .int .i64 np, .bool fp] 31) := (hgr2.block _ (by simp) (fun e => by have := (HO.out.lt _ e.symm).2; omega)).trans (new_block _ _)
        have hbA : Below W.heap.size W (w1.alloc (.cells #[.slice po ev.length pc, .int .i64 np, .bool fp] 31)) := HB.out.trans ((HP.out.below.alloc HP.out.below.size _).mono HB.out.size)
        have hbw : Below W.heap.size W w3 := hbA.grown hgr2 hbA.size (fun g e => (HO.out.lt g e).1)
        have p1 := list_cells hpb 1 _ rfl
        have p2 := list_cells hpb 2 _ rfl
        have HW := Lib.hid hbw; clear hbw hbA hgr2 hpb
        rcases fw_step HP.out HA.out HT.out hn1 with ⟨rfl, hev⟩ | ⟨rfl, k2, hk2, hsk2, hev, hT2⟩
        · have hrow : w3.ownsRow W.heap.size 29 8 v' k (evCells E (List.range k)) := by
            have e1 : s + ev.length = k := by rw [hev, List.length_range']; omega
            rw [e1, ← evCells_append, hev, fw_join s k hsk] at hown'
            exact hown'
          have HR := Lib.hid hrow; clear hrow hown' hev
          clear HP HT HO HG hz1 HB
          go_wp2_with fail
          go_loopg [7, 8, 12] k (fun g vb at_ r wr => ∃ (s j : Nat) (p : Int), g = s ∧ at_ = .int .i64 p ∧ r = .int .i64 j ∧ j + s ≤ k ∧ BkAt E k s p ∧ wr.ownsRow w3.heap.size 29 8 vb (k - s) (evCells E (List.range' s (k - s))) ∧ Below w3.heap.size w3 wr)
          case atStart => exact ⟨k, 0, _, rfl, rfl, rfl, by omega, BkAt.start HA.out, by rw [Nat.sub_self]; exact World.ownsRow_nil _ _ _ _, Below.refl _ _⟩
          case round =>
            obtain ⟨s, j, p, hg, rfl, rfl, hjs, hF, hown, hb3⟩ := hrel
            have hjl : (j : Int) < 60 := by omega
            have hwj : IntKind.i64.wrap ((j : Int) + 1) = (j : Int) + 1 := IntWalk.i64_in _ (by omega)
            have hp0 := hF.pos
            have hpt := hF.top
            have hsk := hF.le
            have HB := Lib.hid hb3; clear hb3
            have HO := Lib.hid hown; clear hown
            have HT := Lib.hid hF; clear hF
            have HG := Lib.hid hg; clear hg
            go_wp2_with (
              go_at_call 10
              have hbx := HW.out.trans (HB.out.mono HW.out.size)
              refine (backward_page ao k cap p n E (by omega) hp0 hpt hn1 (by omega) wr ((HE.out.low hbx).up hbx.size)).mono ?_
              clear hbx
              rintro e w5 ⟨ev, fp, v, rfl, hp1⟩
              obtain ⟨po, pc, rfl⟩ := row_slice hp1.own
              obtain ⟨np, hnp⟩ : ∃ np, nextB p E ev = np := ⟨_, rfl⟩
              rw [hnp]
              replace hnp := Lib.hid hnp
              have HP := Lib.hid hp1; clear hp1)
            obtain ⟨w6, hw6⟩ : ∃ w6, w5.alloc (.cells #[.slice po ev.length pc, .int .i64 np, .bool fp] 31) = w6 := ⟨_, rfl⟩
            rw [hw6]
            have hqb : w6.heap[w5.heap.size]? = some (.cells #[.slice po ev.length pc, .int .i64 np, .bool fp] 31) := by rw [← hw6]; exact new_block _ _
            have b56 : Below w5.heap.size w5 w6 := by rw [← hw6]; exact below_alloc _ _
            have b46 : Below wr.heap.size wr w6 := HP.out.below.trans (b56.mono HP.out.below.size)
            have b36 : Below w3.heap.size w3 w6 := HB.out.trans (b46.mono HB.out.size)
            have hvb := own_same HO.out (fun g hg => b46.block g (HO.out.lt g hg).2)
            obtain ⟨FQ, hFQ⟩ : ∃ FQ : Nat → Ev, ∀ i, FQ i = E (ev.getD i 0) := ⟨fun i => E (ev.getD i 0), fun _ => rfl⟩
            have EQ : EvArg w6.heap.size w6 po ev.length FQ := by
              rw [show FQ = fun i => E (ev.getD i 0) from funext hFQ]
              exact ((own_arg HP.out.own).low b56).up b56.size
            have hel : ev.length ≤ 100 := by have := HP.out.tells; omega
            have HX := Lib.hid (And.intro hqb (And.intro b36 (And.intro EQ hFQ)))
            have HV := Lib.hid hvb
            clear hqb b56 b46 b36 hvb EQ hFQ hw6 HO HB
            go_loopg [7, 15] ev.length (fun g vb i wr => ∃ t : Nat, g = ev.length - t ∧ t ≤ ev.length ∧ i = .int .i64 t ∧ wr.ownsRow w3.heap.size 29 8 vb (t + (k - s)) (evCells E ((ev.take t).reverse ++ List.range' s (k - s))) ∧ Below w6.heap.size w6 wr)
            case atStart => exact ⟨0, by omega, by omega, rfl, by simpa using HV.out, Below.refl _ _⟩
            case round =>
              rename_i vbx _ _
              obtain ⟨t, hg, htl, rfl, hown, hb6⟩ := hrel
              have HG2 := Lib.hid hg; clear hg
              have hq2 := (hb6.block _ (lt_of_block HX.out.1)).trans HX.out.1
              have q0 := list_cells hq2 0 _ rfl
              have q1 := list_cells hq2 1 _ rfl
              have q2 := list_cells hq2 2 _ rfl
              clear hq2
              have HO := Lib.hid hown; clear hown
              by_cases hlt2 : t < ev.length
              · obtain ⟨g, off, rfl, hgn, hEi⟩ := (HX.out.2.2.1.low hb6).at_ (by omega)
                have g0 := hEi.c0 t hlt2
                have g1 := hEi.c1 t hlt2
                have g2 := hEi.c2 t hlt2
                have g3 := hEi.c3 t hlt2
                have g4 := hEi.c4 t hlt2
                have g5 := hEi.c5 t hlt2
                have g6 := hEi.c6 t hlt2
                have g7 := hEi.c7 t hlt2
                have hl : (t : Int) < (ev.length : Int) := by omega
                have hw1 : IntKind.i64.wrap ((t : Int) + 1) = (t : Int) + 1 := IntWalk.i64_in _ (by omega)
                have HB6 := Lib.hid hb6
                clear hEi hb6
                go_wp2_with (first
                  | (at_builtin; refine wpList_append_row rfl _ _ rfl w6.heap.size w3.heap.size _ 1 (FQ t).cells.toList rfl ?c1 _ (t + (k - s)) (evCells E ((ev.take t).reverse ++ List.range' s (k - s))) rfl ?c2 (evCells_one E _) ?c3 ?c4 ?_)
                  | fail)
                case c1 => exact one_row (FQ t) HB6.out.size
                case c2 => exact HO.out.alloc _
                case c3 => omega
                case c4 => have := HB6.out.size; simp; omega
                intro v2 w8 hown' hgr
                have hgr2 : (_ : World).grownBy w8 (some _) := hgr
                have hb8 := (HB6.out.alloc HB6.out.size _).grown hgr2 (HB6.out.alloc HB6.out.size _).size (fun g e => by cases e; exact HB6.out.size)
                have hrow : w8.ownsRow w3.heap.size 29 8 v2 (t + 1 + (k - s)) (evCells E ((ev.take (t + 1)).reverse ++ List.range' s (k - s))) := by
                  rw [take_rev ev _ t hlt2, show evCells E (ev.getD t 0 :: ((ev.take t).reverse ++ List.range' s (k - s))) = (FQ t).cells.toList ++ evCells E ((ev.take t).reverse ++ List.range' s (k - s)) by rw [HX.out.2.2.2]; simp [evCells], show t + 1 + (k - s) = 1 + (t + (k - s)) by omega]
                  exact own_base hown' HX.out.2.1.size
                have HR2 := Lib.hid (And.intro hrow hb8); clear hrow hb8 hgr hgr2 hown'
                go_wp2_with fail
                go_roundg (ev.length - (t + 1))
                case measure => have := HG2.out; omega
                case rel => exact ⟨t + 1, by omega, by omega, by go_num, HR2.out.1, HR2.out.2⟩
              · obtain rfl : t = ev.length := by omega
                have hl : ¬ (ev.length : Int) < (ev.length : Int) := by omega
                have hb9 := HX.out.2.1.trans (hb6.mono HX.out.2.1.size)
                have hrw := HO.out
                rw [List.take_length] at hrw
                have HB9 := Lib.hid hb9
                clear hb6 hb9 HO
                rcases bk_step HP.out HA.out HT.out hn1 with ⟨rfl, hev⟩ | ⟨rfl, m2, hm2, hev, hT2⟩
                · have hrow : wr.ownsRow w3.heap.size 29 8 u7 k (evCells E (List.range k)) := by
                    have e1 : ev.length = s := by rw [hev]; simp
                    rw [e1] at hrw
                    rw [hev, List.reverse_reverse] at hrw
                    have hj := bk_join 0 s k (by omega) hsk
                    rw [Nat.sub_zero, Nat.sub_zero] at hj
                    rw [hj, show s + (k - s) = k by omega, ← List.range_eq_range'] at hrw
                    exact hrw
                  have hra := own_same HR.out (fun g hg => HB9.out.block g (HR.out.lt g hg).2)
                  obtain ⟨ra, rc, rfl⟩ := row_slice HR.out
                  obtain ⟨rb, rd, rfl⟩ := row_slice hrow
                  have EA := Lib.hid (range_arg hra)
                  have EB := Lib.hid (range_arg hrow)
                  have hbr := Lib.hid (HW.out.trans (HB9.out.mono HW.out.size))
                  have SR := Lib.hid (show ∀ i, i < k → sameS ((fun i => E ((List.range k).getD i 0)) i) (E i) = true from fun i hi => by show sameS (E ((List.range k).getD i 0)) (E i) = true; rw [range_getD k i hi]; exact same_self _)
                  clear hra hrow hrw hev HX HP HG2 HT HG hnp HV HR HB9
                  go_wp2_with fail
                  refine (alive_view _).mono ?_
                  rintro e w10 ⟨rfl, hb1⟩
                  have h10 := Lib.hid (hbr.out.trans (hb1.mono hbr.out.size))
                  have e10 := Lib.hid hb1
                  clear hb1
                  go_wp2_with fail
                  have ea := (EA.out.low e10.out).up e10.out.size
                  have el := (HE.out.low h10.out).up h10.out.size
                  refine Calls.mono (sameList_any ra ao k rc cap (by omega) (fun i => E ((List.range k).getD i 0)) E SR.out w10 ea el) ?_
                  clear ea el
                  rintro e w11 ⟨rfl, hb2⟩
                  have e11 := Lib.hid (e10.out.trans (hb2.mono e10.out.size))
                  have h11 := Lib.hid (h10.out.trans (hb2.mono h10.out.size))
                  clear hb2
                  go_wp2_with fail
                  have ea := (EB.out.low e11.out).up e11.out.size
                  have el := (HE.out.low h11.out).up h11.out.size
                  refine Calls.mono (sameList_any rb ao k rd cap (by omega) (fun i => E ((List.range k).getD i 0)) E SR.out w11 ea el) ?_
                  clear ea el
                  rintro e w12 ⟨rfl, hb2⟩
                  have h12 := Lib.hid (h11.out.trans (hb2.mono h11.out.size))
                  clear hb2
                  go_wp2_with fail
                  go_ret
                  exact ⟨rfl, h12.out⟩
                · have hrow : wr.ownsRow w3.heap.size 29 8 u7 (k - m2) (evCells E (List.range' m2 (k - m2))) := by
                    have e1 : ev.length = s - m2 := by rw [hev]; simp
                    rw [e1] at hrw
                    rw [hev, List.reverse_reverse, bk_join m2 s k (by omega) hsk, show s - m2 + (k - s) = k - m2 by omega] at hrw
                    exact hrw
                  rw [hnp.out] at hT2
                  have HR2 := Lib.hid (And.intro hrow hT2); clear hrow hrw hev hT2
                  go_wp2_with fail
                  go_roundg m2
                  case measure => have := HG.out; omega
                  case rel => exact ⟨m2, j + 1, np, rfl, rfl, by go_num, by omega, HR2.out.2, HR2.out.1, HB9.out⟩
        · have hrow : w3.ownsRow W.heap.size 29 8 v' k2 (evCells E (List.range k2)) := by
            have e1 : s + ev.length = k2 := by rw [hev, List.length_range']; omega
            rw [e1, ← evCells_append, hev, fw_join s k2 (by omega)] at hown'
            exact hown'
          rw [hnp.out] at hT2
          have HR := Lib.hid (And.intro hrow hT2); clear hrow hown' hev hT2
          go_wp2_with fail
          go_roundg (k - k2)
          case measure => have := HG.out; omega
          case rel =>
            have h40 := ((HK.out k2).position).2
            have := (HR.out.2.is k2 hk2).2 (Nat.le_refl _)
            exact ⟨k2, j + 1, np, rfl, rfl, by go_num, by omega, HR.out.2, by omega, HR.out.1, HW.out⟩
end Go.Proofs.Ytimmdcajadddmaa
