/-
  MetaRises, walked. Conditions: none.
-/
import Derived.Test.YtiblkfhcpepnfaaDoorMetaQ
import Derived.Test.YtiblkfhcpepnfaaDoorMeta9
namespace Go.Proofs.YtiblkfhcpepnfaaDoor
open Go.RowKit Go.Lib

/-- A caller's list of ints, appended onto an own row, at an operation. -/
theorem wp_append_ints {o : Oper} {a : Act} {K : Act → World → Prop} {Q : Exit → Act → World → Prop} {w : World} (s x : Operand)
    (ho : o.op = .call { callee := .builtin .append, args := #[s, x], argTypes := #[24, 24] }) (base : Nat) (v : Value) (n : Nat) (xs : List Value) (hs : a.eval s = v) (hown : w.ownsRow base 3 1 v n xs)
    (ao : Option Addr) (len cap : Nat) (T : Nat → Int) (hx : a.eval x = .slice ao len cap) (hE : IntArg w.heap.size w ao len T) (hc : ao = none → cap = 0) (hnm : n + len ≤ 1000) (hbase : base ≤ w.heap.size)
    (h : ∀ v' w', w'.ownsRow base 3 1 v' (n + len) (xs ++ intsV T len) → w.grownBy w' v.ownBlock → K (a.put o.dst v') w') : o.wp Tryd.prog a w K Q := by
  obtain ⟨i0, hi0, hz0, hs0, hb0'⟩ := info_parts info3
  cases ao with
  | none =>
    obtain rfl : len = 0 := by
      refine Classical.byContradiction fun hl => ?_
      obtain ⟨b, off, e, _⟩ := hE.at_ (by omega)
      cases e
    obtain rfl := hc rfl
    have hrun := run_append_owned_none (P := Tryd.prog) (w := w) base 24 o.type 3 i0 1 Tryd.underlying24 hi0 v n xs hown
    unfold Oper.wp
    simp only [execOp, ho, resolve, invoke, builtin, hs, hx, hrun, Result.andThen, Sem.run_bind, Sem.run_pure, List.map_toArray, List.map_cons, List.map_nil]
    exact h v w (by simpa [intsV] using hown) ⟨rfl, rfl, rfl, Nat.le_refl _, fun _ _ _ => rfl⟩
  | some ad =>
    refine wp_append_own w s x 24 ho base 3 i0 _ 1 8 Tryd.underlying24 hi0 hz0 hs0 hb0' rfl (by decide) v n xs hs hown ad len cap (intsV T len) hx (by rw [intsV_len]; omega) ?_ (ints_one T _) (by unfold maxLen; omega) (by omega) hbase
      fun v' w' a1 a2 _ => h v' w' a1 a2
    intro j u hu
    have hj : j < len := by
      have := (List.getElem?_eq_some_iff.1 hu).1
      rw [intsV_len] at this
      exact this
    obtain ⟨b, off, e, hb, hi⟩ := hE.at_ (by omega)
    cases e
    rw [intsV_get T len j hj] at hu
    cases hu
    have h1 : ((⟨b, off, none⟩ : Addr).add j) = ⟨b, off + j, none⟩ := by
      unfold Addr.add
      by_cases hi : j = 0 <;> simp [hi]
    rw [h1]
    exact hi j hj
/-- One int, appended onto an own row, at an operation. -/
theorem wp_append_int {o : Oper} {a : Act} {K : Act → World → Prop} {Q : Exit → Act → World → Prop} {w : World} (s x : Operand)
    (ho : o.op = .call { callee := .builtin .append, args := #[s, x], argTypes := #[24, 24] }) (base : Nat) (v : Value) (n : Nat) (xs : List Value) (hs : a.eval s = v) (hown : w.ownsRow base 3 1 v n xs)
    (ad : Addr) (c : Nat) (y : Int) (hx : a.eval x = .slice (some ad) 1 c) (hy : w.cell? ad = some (.int .i64 y)) (hnm : n + 1 ≤ 1000) (hbase : base ≤ w.heap.size)
    (h : ∀ v' w', w'.ownsRow base 3 1 v' (n + 1) (xs ++ [.int .i64 y]) → w.grownBy w' v.ownBlock → K (a.put o.dst v') w') : o.wp Tryd.prog a w K Q := by
  obtain ⟨i0, hi0, hz0, hs0, hb0'⟩ := info_parts info3
  refine wp_append_own w s x 24 ho base 3 i0 _ 1 8 Tryd.underlying24 hi0 hz0 hs0 hb0' rfl (by decide) v n xs hs hown ad 1 c [.int .i64 y] hx rfl ?_ ?_ (by unfold maxLen; omega) (by omega) hbase
    fun v' w' a1 a2 _ => h v' w' a1 a2
  · intro j u hu
    match j, hu with
    | 0, hu => cases hu; simpa [Addr.add] using hy
  · intro u hu; simp at hu; subst hu; rfl
/-- The list with one more. -/
def plusT (T : Nat → Int) (len : Nat) (y : Int) : Nat → Int := fun i => if i < len then T i else y
theorem plus_arg {w : World} {B cap len : Nat} {ao : Option Addr} {T : Nat → Int} {y : Int} (h : w.ownsRow B 3 1 (.slice ao (len + 1) cap) (len + 1) (intsV T len ++ [.int .i64 y])) : IntArg w.heap.size w ao (len + 1) (plusT T len y) := by
  rcases h.2 with ⟨e, h0⟩ | ⟨g, c', cur, e, hg, hh, hn, hm, hsz, ht⟩
  · omega
  · cases e
    refine ⟨fun _ => ⟨g, 0, rfl, lt_of_block hh, fun i hi => ?_⟩⟩
    have h1 : (intsV T len ++ [Value.int .i64 y])[i]? = some (.int .i64 (plusT T len y i)) := by
      unfold plusT
      by_cases hl : i < len
      · rw [if_pos hl, List.getElem?_append_left (by rw [intsV_len]; exact hl), intsV_get T len i hl]
      · rw [if_neg hl, List.getElem?_append_right (by rw [intsV_len]; omega), intsV_len, show i - len = 0 by omega]
        rfl
    rw [← ht, List.getElem?_take] at h1
    split at h1
    · rw [Lib.cell_of_heap hh]; simpa using h1
    · cases h1

set_option maxRecDepth 100000 in
set_option maxHeartbeats 8000000 in
theorem rises_any (m n : Mt) (floor now more t : Int) (hm1 : m.a ≤ 9223372036854775807) (hn1 : n.a ≤ 9223372036854775807) (ao : Option Addr) (len cap : Nat) (hca : ao = none → cap = 0) (T : Nat → Int) (w : World) (ht : Tab w) (hA : IntArg w.heap.size w ao len T) :
    Calls Tryd.prog 4 #[m.val, n.val, .int .i64 floor, .int .i64 now, .int .i64 more, .slice ao len cap, .int .i64 t] w fun e w' => e = .returned (.bool true) ∧ Below w.heap.size w w' := by
  have hm : Tryd.prog.follows .mixedOrders = true := by kernel_rfl
  have HT := Lib.hid ht; clear ht
  have HA := Lib.hid hA; clear hA
  have HCA := Lib.hid hca; clear hca
  have hB := ((Below.refl _ w).alloc (Nat.le_refl _) (.cells m.cells 23)).alloc (by simp) (.cells n.cells 23)
  have hCm : ((w.alloc (.cells m.cells 23)).alloc (.cells n.cells 23)).heap[w.heap.size]? = some (.cells m.cells 23) := (Below.heap_alloc _ _ _ (by simp)).trans (new_block _ _)
  have hCn : ((w.alloc (.cells m.cells 23)).alloc (.cells n.cells 23)).heap[w.heap.size + 1]? = some (.cells n.cells 23) := new_block2 _ _ _
  have HB := Lib.hid hB; clear hB
  have HCm := Lib.hid hCm; clear hCm
  have HCn := Lib.hid hCn; clear hCn
  by_cases hbad : m.a < 0 ∨ m.b < 0 ∨ m.c < 0 ∨ n.a < 0 ∨ n.b < 0 ∨ n.c < 0 ∨ 1099511627776 < m.b ∨ 1099511627776 < n.b ∨ now < 0 ∨ 1099511627776 < now ∨ more < 0 ∨ 1099511627776 < more ∨ 40 < (len : Int)
  · go_enter Tryd.func4, Tryd.ntmps4
    go_wp2_with (
      go_at_call 7
      refine (alive_any _ (HT.out.below HB.out)).mono ?_
      rintro en x ⟨rfl, hbx⟩
      have HX := Lib.hid (HB.out.trans (hbx.mono HB.out.size))
      clear hbx)
    all_goals first
      | (go_ret; exact ⟨rfl, HX.out⟩)
      | (exfalso; omega)
  · have q1 : ¬ m.a < 0 := by omega
    have q2 : ¬ m.b < 0 := by omega
    have q3 : ¬ m.c < 0 := by omega
    have q4 : ¬ n.a < 0 := by omega
    have q5 : ¬ n.b < 0 := by omega
    have q6 : ¬ n.c < 0 := by omega
    have q7 : ¬ 1099511627776 < m.b := by omega
    have q8 : ¬ 1099511627776 < n.b := by omega
    have q9 : ¬ now < 0 := by omega
    have q10 : ¬ 1099511627776 < now := by omega
    have q11 : ¬ more < 0 := by omega
    have q12 : ¬ 1099511627776 < more := by omega
    have q13 : ¬ 40 < (len : Int) := by omega
    have q14 : len ≤ 40 := by omega
    clear hbad
    have hwm : IntKind.i64.wrap (now + more) = now + more := IntWalk.i64_in _ (by omega)
    have HF1 := Lib.hid (fun W h => floor_any m floor now hm1 (by omega) (by omega) (by omega) ao len cap (by unfold maxLen; omega) T W h)
    have HF2 := Lib.hid (fun W h => floor_any m floor (now + more) hm1 (by omega) (by omega) (by omega) ao len cap (by unfold maxLen; omega) T W h)
    have HF3 := Lib.hid (fun ao' cap' W h => floor_any m floor (now + more) hm1 (by omega) (by omega) (by omega) ao' (len + 1) cap' (by unfold maxLen; omega) (plusT T len (now + more)) W h)
    have HF4 := Lib.hid (fun a W h => floor_any n a (now + more) hn1 (by omega) (by omega) (by omega) ao len cap (by unfold maxLen; omega) T W h)
    have P := rises m n floor now more T (plusT T len (now + more)) len (by omega) (by omega) (by omega) (fun i hi => if_pos hi)
    have F1 := HF1.out
    have F2 := HF2.out
    have F3 := HF3.out
    have F4 := HF4.out
    clear HF1 HF2 HF3 HF4
    revert F1 F2 F3 F4 P
    generalize floorOf m floor now T len = A
    generalize floorOf m floor (now + more) T len = B
    generalize floorOf m floor (now + more) (plusT T len (now + more)) (len + 1) = C
    intro P F1 F2 F3 F4
    have F4 := F4 A
    have P := fun d h => P A B C d rfl rfl rfl h
    revert F4 P
    generalize floorOf n A (now + more) T len = D
    intro F4 P
    have P := P D rfl
    simp only [Mt.val] at F1 F2 F3 F4
    replace F1 := Lib.hid F1
    replace F2 := Lib.hid F2
    replace F3 := Lib.hid F3
    replace F4 := Lib.hid F4
    have HP := Lib.hid P; clear P
    go_enter Tryd.func4, Tryd.ntmps4
    go_wp2_with fail
    revert HB HCm HCn
    simp only [Mt.cells]
    generalize ((w.alloc (.cells #[.int .i64 m.a, .int .i64 m.b, .int .i64 m.c] 23)).alloc (.cells #[.int .i64 n.a, .int .i64 n.b, .int .i64 n.c] 23)) = WB
    intro HB HCm HCn
    go_loopg [15] len (fun g i wr => ∃ k : Nat, g = len - k ∧ k ≤ len ∧ i = .int .i64 k ∧ Times T k now ∧ ∃ d, wr = WB.drewN d)
    case atStart => exact ⟨0, by omega, by omega, rfl, fun i hi => by omega, 0, rfl⟩
    case round =>
      obtain ⟨k, hg, hkl, rfl, htm, d, rfl⟩ := hrel
      have HG := Lib.hid hg; clear hg
      have HM := Lib.hid htm; clear htm
      by_cases hlt : k < len
      · obtain ⟨b, off, rfl, hbn, hEi⟩ := (HA.out.low HB.out).at_ (by omega)
        have g6 := hEi k hlt
        have hl : (k : Int) < (len : Int) := by omega
        have hl0 : (0 : Int) ≤ (k : Int) := by omega
        have hw1 : IntKind.i64.wrap ((k : Int) + 1) = (k : Int) + 1 := IntWalk.i64_in _ (by omega)
        have HEi := Lib.hid hEi; clear hEi
        rcases d1 : decide (T k < 0) with _ | _
        · rcases d2 : decide (now < T k) with _ | _
          · by_cases hk0 : k = 0
            · subst hk0
              rw [Int.natCast_zero]
              simp only [Nat.add_zero] at g6
              go_wp2_with fail
              go_quiet (fail)
              go_wp2_with fail
              go_roundg (len - 1)
              case measure => have := HG.out; omega
              case rel =>
                refine ⟨1, by omega, by omega, rfl, fun i hi => ?_, d + nq, rfl⟩
                simp only [decide_eq_false_iff_not] at d1 d2
                obtain rfl : i = 0 := by omega
                exact ⟨by omega, by omega, fun h => by omega⟩
            · obtain ⟨j, rfl⟩ : ∃ j, k = j + 1 := ⟨k - 1, by omega⟩
              have hkj : ((j + 1 : Nat) : Int) - 1 = (j : Int) := by omega
              have hwj : IntKind.i64.wrap (j : Int) = (j : Int) := IntWalk.i64_in _ (by omega)
              have g7 := HEi.out j (by omega)
              have hj0 : (0 : Int) ≤ (j : Int) := by omega
              have hj : (j : Int) < (len : Int) := by omega
              rcases d4 : decide (T (j + 1) < T j) with _ | _
              · go_wp2_with fail
                go_quiet (fail)
                go_wp2_with fail
                go_roundg (len - (j + 1 + 1))
                case measure => have := HG.out; omega
                case rel =>
                  refine ⟨j + 1 + 1, by omega, by omega, by go_num, fun i hi => ?_, d + nq, rfl⟩
                  simp only [decide_eq_false_iff_not] at d1 d2 d4
                  by_cases hij : i = j + 1
                  · subst hij
                    exact ⟨by omega, by omega, fun h => by simp only [Nat.add_sub_cancel]; omega⟩
                  · exact HM.out i (by omega)
              · go_wp2_with fail
                go_quiet (fail)
                have hbd := below_draws HB.out (d + nq)
                go_wp2_with (
                  go_at_call 7
                  refine (alive_any _ (HT.out.below hbd)).mono ?_
                  rintro en x ⟨rfl, hbx⟩
                  have HX := Lib.hid (hbd.trans (hbx.mono hbd.size))
                  clear hbx)
                go_ret
                exact ⟨rfl, HX.out⟩
          · go_wp2_with fail
            go_quiet (fail)
            have hbd := below_draws HB.out (d + nq)
            go_wp2_with (
              go_at_call 7
              refine (alive_any _ (HT.out.below hbd)).mono ?_
              rintro en x ⟨rfl, hbx⟩
              have HX := Lib.hid (hbd.trans (hbx.mono hbd.size))
              clear hbx)
            go_ret
            exact ⟨rfl, HX.out⟩
        · go_wp2_with fail
          go_quiet (fail)
          have hbd := below_draws HB.out (d + nq)
          go_wp2_with (
            go_at_call 7
            refine (alive_any _ (HT.out.below hbd)).mono ?_
            rintro en x ⟨rfl, hbx⟩
            have HX := Lib.hid (hbd.trans (hbx.mono hbd.size))
            clear hbx)
          go_ret
          exact ⟨rfl, HX.out⟩
      · have hkk : k = len := by omega
        subst hkk
        have hl : ¬ (k : Int) < (k : Int) := by omega
        have hd0 := below_draws HB.out d
        have hA0 := (HA.out.low hd0).up hd0.size
        have hCC0 : (WB.drewN d).heap[w.heap.size]? = some (.cells m.cells 23) ∧ (WB.drewN d).heap[w.heap.size + 1]? = some (.cells n.cells 23) := ⟨HCm.out, HCn.out⟩
        revert hd0 hA0 hCC0
        generalize WB.drewN d = w0
        intro hd0 hA0 hCC0
        have HB0 := Lib.hid hd0
        have HA0 := Lib.hid hA0
        clear hd0 hA0 hlt HG hkl
        obtain ⟨C0m, C0n⟩ : w0.heap[w.heap.size]? = some (.cells m.cells 23) ∧ w0.heap[w.heap.size + 1]? = some (.cells n.cells 23) := hCC0
        obtain ⟨k0, k1, k2⟩ := RdM.of C0m
        have hz0 := lt_of_block C0m
        have hz0n := lt_of_block C0n
        have HCm0 := Lib.hid C0m
        have HCn0 := Lib.hid C0n
        clear C0m C0n
        go_upto_region 128 with (first
          | (go_at_call 13; first
             | ((with_reducible refine (F1.out _ (HA0.out)).mono ?_); rintro en x1 ⟨rfl, hb1⟩; have HB1 := Lib.hid (HB0.out.trans (hb1.mono HB0.out.size)); have HA1 := Lib.hid (HA0.out.moved hb1); have c1m := (hb1.block _ hz0).trans HCm0.out; have HCm1 := Lib.hid c1m; have HCn1 := Lib.hid ((hb1.block _ hz0n).trans HCn0.out); have hz1 := lt_of_block HCm1.out; have hz1n := lt_of_block HCn1.out; have j0 := (RdM.of c1m).1; have j1 := (RdM.of c1m).2.1; have j2 := (RdM.of c1m).2.2; clear hb1 c1m)
             | ((with_reducible refine (F2.out _ (HA1.out)).mono ?_); rintro en x2 ⟨rfl, hb2⟩; have HB2 := Lib.hid (HB1.out.trans (hb2.mono HB1.out.size)); have HA2 := Lib.hid (HA1.out.moved hb2); have HCm2 := Lib.hid ((hb2.block _ hz1).trans HCm1.out); have HCn2 := Lib.hid ((hb2.block _ hz1n).trans HCn1.out); clear hb2))
          | fail)
        go_cut [18] from 128 to 140 (fun v18 wx => v18 = .int .i64 C ∧ wx.heap[w.heap.size]? = some (.cells m.cells 23) ∧ wx.heap[w.heap.size + 1]? = some (.cells n.cells 23) ∧ Below w.heap.size w wx)
        case first =>
          have hH0 : RdM m w.heap.size x2.drew := RdM.of HCm2.out
          have hB0 : Below w.heap.size w x2.drew := HB2.out.trans ⟨rfl, rfl, rfl, Nat.le_refl _, fun _ _ => rfl⟩
          have hz2 : w.heap.size < x2.drew.heap.size := lt_of_block HCm2.out
          have hz2n : w.heap.size + 1 < x2.drew.heap.size := lt_of_block HCn2.out
          have hA2 : IntArg x2.drew.heap.size x2.drew ao k T := (HA2.out.low (⟨rfl, rfl, rfl, Nat.le_refl _, fun _ _ => rfl⟩ : Below x2.heap.size x2 x2.drew))
          have hmb : x2.drew.heap[w.heap.size]? = some (.cells m.cells 23) := HCm2.out
          have hnb : x2.drew.heap[w.heap.size + 1]? = some (.cells n.cells 23) := HCn2.out
          revert hH0 hB0 hz2 hz2n hA2 hmb hnb
          refine fun hH0 hB0 hz2 hz2n hA2 hmb hnb => plain_region hm (wpAny_of_held (S := RdM m w.heap.size) _ _ _ _ ?_)
          revert hH0 hB0 hz2 hz2n hA2 hmb hnb
          generalize x2.drew = y0
          intro hH0 hB0 hz2 hz2n hA2 hmb hnb
          refine wpAnyH_take (i := 0) (v := ?_) (by simp; rfl) (by kernel_rfl) (by kernel_rfl) (by kernel_rfl) (fun _ _ _ h => h) (Or.inl ⟨by rfl, ?_⟩) hH0 ?_
          rotate_left
          · intro w' hS
            obtain ⟨p1, p2, p3⟩ := hS
            go_simp
            rfl
          simp only [Act.put, List.setIfInBounds_toArray, List.set_cons_zero, List.set_cons_succ]
          refine wpAnyH_take (i := 1) (v := ?_) (by simp; rfl) (by kernel_rfl) (by kernel_rfl) (by kernel_rfl) (fun _ _ _ h => h) (Or.inl ⟨by rfl, ?_⟩) hH0 ?_
          rotate_left
          · intro w' hS
            obtain ⟨p1, p2, p3⟩ := hS
            go_simp
            rfl
          simp only [Act.put, List.setIfInBounds_toArray, List.set_cons_zero, List.set_cons_succ]
          refine wpAnyH_take (i := 2) (v := ?_) (by simp; rfl) (by kernel_rfl) (by kernel_rfl) (by kernel_rfl) (fun _ _ _ h => h) (Or.inl ⟨by rfl, ?_⟩) hH0 ?_
          rotate_left
          · intro w' hS
            obtain ⟨p1, p2, p3⟩ := hS
            go_simp
            rfl
          simp only [Act.put, List.setIfInBounds_toArray, List.set_cons_zero, List.set_cons_succ]
          refine wpAnyH_take (i := 3) (v := ?_) (by simp; rfl) (by kernel_rfl) (by kernel_rfl) (by kernel_rfl) (fun _ _ _ h => h) (Or.inl ⟨by rfl, ?_⟩) hH0 ?_
          rotate_left
          · intro w' hS
            obtain ⟨p1, p2, p3⟩ := hS
            go_simp
            rfl
          simp only [Act.put, List.setIfInBounds_toArray, List.set_cons_zero, List.set_cons_succ]
          refine wpAnyH_take (i := 4) (v := ?_) (by simp; rfl) (by kernel_rfl) (by kernel_rfl) (by kernel_rfl) (fun _ _ _ h => h) (Or.inl ⟨by rfl, ?_⟩) hH0 ?_
          rotate_left
          · intro w' hS
            obtain ⟨p1, p2, p3⟩ := hS
            go_simp
            rfl
          simp only [Act.put, List.setIfInBounds_toArray, List.set_cons_zero, List.set_cons_succ]
          refine wpAnyH_take (i := 5) (v := ?_) (by simp; rfl) (by kernel_rfl) (by kernel_rfl) (by kernel_rfl) (fun _ _ _ h => h) (Or.inl ⟨by rfl, ?_⟩) hH0 ?_
          rotate_left
          · intro w' hS
            obtain ⟨p1, p2, p3⟩ := hS
            go_simp
            rfl
          simp only [Act.put, List.setIfInBounds_toArray, List.set_cons_zero, List.set_cons_succ]
          refine wpAnyH_take (i := 7) (v := ?_) (by simp; rfl) (by kernel_rfl) (by kernel_rfl) (by kernel_rfl) (fun _ _ _ h => h) (Or.inl ⟨by rfl, ?_⟩) hH0 ?_
          rotate_left
          · intro w' hS
            obtain ⟨p1, p2, p3⟩ := hS
            go_simp
            rfl
          simp only [Act.put, List.setIfInBounds_toArray, List.set_cons_zero, List.set_cons_succ]
          refine wpAnyH_take (i := 8) (v := ?_) (by simp; rfl) (by kernel_rfl) (by kernel_rfl) (by kernel_rfl) (fun _ _ _ h => h) (Or.inl ⟨by rfl, ?_⟩) hH0 ?_
          rotate_left
          · intro w' hS
            obtain ⟨p1, p2, p3⟩ := hS
            go_simp
            rfl
          simp only [Act.put, List.setIfInBounds_toArray, List.set_cons_zero, List.set_cons_succ]
          refine wpAnyH_take (i := 9) (v := ?_) (by simp; rfl) (by kernel_rfl) (by kernel_rfl) (by kernel_rfl) (fun _ _ _ h => h) (Or.inl ⟨by rfl, ?_⟩) hH0 ?_
          rotate_left
          · intro w' hS
            obtain ⟨p1, p2, p3⟩ := hS
            go_simp
            rfl
          simp only [Act.put, List.setIfInBounds_toArray, List.set_cons_zero, List.set_cons_succ]
          refine wpAnyH_ready (rs := [6, 10]) (by kernel_rfl) (by simp) ?_
          refine AllReadyH.cons (by simp; rfl) (fun K hK => ?_) (AllReadyH.cons (by simp; rfl) (fun K hK => ?_) AllReadyH.nil)
          · rw [if_pos (by rfl)]
            refine wp_append_ints (.const (.slice none 0 0)) (.tmp 133) rfl y0.heap.size (.slice none 0 0) 0 [] (by rfl) (World.ownsRow_nil _ _ _ _) ao k cap T (by rfl) hA2 HCA.out (by omega) (Nat.le_refl _) ?_
            intro v1 x3 hown1 hgr1
            rw [Nat.zero_add, List.nil_append] at hown1
            have hb3 : Below y0.heap.size y0 x3 := (Below.refl _ y0).grown hgr1 (Nat.le_refl _) (fun g e => by cases e)
            have hH3 : RdM m w.heap.size x3 := hH0.keep (hb3.block _ hz2)
            refine hK.out _ _ hH3 (fun hHeld => ?_)
            clear hK K hHeld
            try simp only [Act.put, List.setIfInBounds_toArray, List.set_cons_zero, List.set_cons_succ]
            refine wpAnyH_ready (rs := [10]) (by kernel_rfl) (by simp) ?_
            refine AllReadyH.cons (by simp; rfl) (fun K hK => ?_) AllReadyH.nil
            go_simp
            have hb4 : Below y0.heap.size y0 (x3.alloc (.cells #[.int .i64 (now + more)] 3)) := hb3.alloc hb3.size _
            have hH4 : RdM m w.heap.size (x3.alloc (.cells #[.int .i64 (now + more)] 3)) := hH0.keep (hb4.block _ hz2)
            refine hK.out _ _ hH4 (fun hHeld => ?_)
            clear hK K hHeld
            try simp only [Act.put, List.setIfInBounds_toArray, List.set_cons_zero, List.set_cons_succ]
            refine wpAnyH_ready (rs := [11]) (by kernel_rfl) (by simp) ?_
            refine AllReadyH.cons (by simp; rfl) (fun K hK => ?_) AllReadyH.nil
            rw [if_pos (by rfl)]
            refine wp_append_int (.tmp 134) (.tmp 138) rfl y0.heap.size v1 k (intsV T k) (by rfl) (hown1.alloc _) ⟨x3.heap.size, 0, none⟩ 1 (now + more) (by rfl) (by simp) (by omega) (by have := hb3.size; simp; omega) ?_
            intro v2 x5 hown2 hgr2
            have hb5 : Below y0.heap.size y0 x5 := hb4.grown hgr2 hb4.size (fun g e => (hown1.lt g e).1)
            have hH5 : RdM m w.heap.size x5 := hH0.keep (hb5.block _ hz2)
            refine hK.out _ _ hH5 (fun hHeld => ?_)
            clear hK K hHeld
            try simp only [Act.put, List.setIfInBounds_toArray, List.set_cons_zero, List.set_cons_succ]
            obtain ⟨po, pc, rfl⟩ := row_slice hown2
            refine wpAnyH_ready (rs := [12]) (by kernel_rfl) (by simp) ?_
            refine AllReadyH.cons (by simp; rfl) (fun K hK => ?_) AllReadyH.nil
            go_simp
            go_at_call 13
            refine (F3.out po pc _ (plus_arg hown2)).mono ?_
            rintro en x6 ⟨rfl, hb6⟩
            have hb7 : Below y0.heap.size y0 x6 := hb5.trans (hb6.mono hb5.size)
            have hH6 : RdM m w.heap.size x6 := hH0.keep (hb7.block _ hz2)
            refine hK.out _ _ hH6 (fun hHeld => ?_)
            clear hK K hHeld
            try simp only [Act.put, List.setIfInBounds_toArray, List.set_cons_zero, List.set_cons_succ]
            refine wpAnyH_take (i := 13) (v := ?_) (by simp; rfl) (by kernel_rfl) (by kernel_rfl) (by kernel_rfl) (fun _ _ _ h => h) (Or.inl ⟨by rfl, ?_⟩) hH6 ?_
            rotate_left
            · intro w' hS
              obtain ⟨p1, p2, p3⟩ := hS
              go_simp
              rfl
            simp only [Act.put, List.setIfInBounds_toArray, List.set_cons_zero, List.set_cons_succ]
            refine wpAnyH_done (by kernel_rfl) ?_ _
            dsimp only [onlyK]
            have hfin : x6.heap[w.heap.size]? = some (.cells m.cells 23) ∧ x6.heap[w.heap.size + 1]? = some (.cells n.cells 23) ∧ Below w.heap.size w x6 := ⟨(hb7.block _ hz2).trans hmb, (hb7.block _ hz2n).trans hnb, hB0.trans (hb7.mono hB0.size)⟩
            have HFIN := Lib.hid hfin
            clear hfin hH0 hH5 hH6 hb5 hb6 hb7 hown2 hgr2
            try go_wp2_with fail
            go_meet
            case rel => exact ⟨rfl, HFIN.out⟩
          · go_simp
            have hb3 : Below y0.heap.size y0 (y0.alloc (.cells #[.int .i64 (now + more)] 3)) := below_alloc _ _
            have hH3 : RdM m w.heap.size (y0.alloc (.cells #[.int .i64 (now + more)] 3)) := hH0.keep (hb3.block _ hz2)
            have hA3 := hA2.moved hb3
            have hcell : (y0.alloc (.cells #[.int .i64 (now + more)] 3)).cell? ⟨y0.heap.size, 0, none⟩ = some (.int .i64 (now + more)) := by simp
            have hltc : y0.heap.size < (y0.alloc (.cells #[.int .i64 (now + more)] 3)).heap.size := by simp
            refine hK.out _ _ hH3 (fun hHeld => ?_)
            clear hK K hHeld
            try simp only [Act.put, List.setIfInBounds_toArray, List.set_cons_zero, List.set_cons_succ]
            refine wpAnyH_ready (rs := [6]) (by kernel_rfl) (by simp) ?_
            refine AllReadyH.cons (by simp; rfl) (fun K hK => ?_) AllReadyH.nil
            rw [if_pos (by rfl)]
            refine wp_append_ints (.const (.slice none 0 0)) (.tmp 133) rfl (y0.alloc (.cells #[.int .i64 (now + more)] 3)).heap.size (.slice none 0 0) 0 [] (by rfl) (World.ownsRow_nil _ _ _ _) ao k cap T (by rfl) hA3 HCA.out (by omega) (Nat.le_refl _) ?_
            intro v1 x3 hown1 hgr1
            rw [Nat.zero_add, List.nil_append] at hown1
            have hb4' : Below (y0.alloc (.cells #[.int .i64 (now + more)] 3)).heap.size (y0.alloc (.cells #[.int .i64 (now + more)] 3)) x3 := (Below.refl _ _).grown hgr1 (Nat.le_refl _) (fun g e => by cases e)
            have hb4 : Below y0.heap.size y0 x3 := hb3.trans (hb4'.mono hb3.size)
            have hH4 : RdM m w.heap.size x3 := hH0.keep (hb4.block _ hz2)
            have hcell2 := (hb4'.cell (p := ⟨y0.heap.size, 0, none⟩) hltc).trans hcell
            refine hK.out _ _ hH4 (fun hHeld => ?_)
            clear hK K hHeld
            try simp only [Act.put, List.setIfInBounds_toArray, List.set_cons_zero, List.set_cons_succ]
            refine wpAnyH_ready (rs := [11]) (by kernel_rfl) (by simp) ?_
            refine AllReadyH.cons (by simp; rfl) (fun K hK => ?_) AllReadyH.nil
            rw [if_pos (by rfl)]
            refine wp_append_int (.tmp 134) (.tmp 138) rfl (y0.alloc (.cells #[.int .i64 (now + more)] 3)).heap.size v1 k (intsV T k) (by rfl) hown1 ⟨y0.heap.size, 0, none⟩ 1 (now + more) (by rfl) hcell2 (by omega) hb4'.size ?_
            intro v2 x5 hown2 hgr2
            have hb5 : Below y0.heap.size y0 x5 := hb4.grown hgr2 hb4.size (fun g e => by have := (hown1.lt g e).1; simp at this; omega)
            have hH5 : RdM m w.heap.size x5 := hH0.keep (hb5.block _ hz2)
            refine hK.out _ _ hH5 (fun hHeld => ?_)
            clear hK K hHeld
            try simp only [Act.put, List.setIfInBounds_toArray, List.set_cons_zero, List.set_cons_succ]
            obtain ⟨po, pc, rfl⟩ := row_slice hown2
            refine wpAnyH_ready (rs := [12]) (by kernel_rfl) (by simp) ?_
            refine AllReadyH.cons (by simp; rfl) (fun K hK => ?_) AllReadyH.nil
            go_simp
            go_at_call 13
            refine (F3.out po pc _ (plus_arg hown2)).mono ?_
            rintro en x6 ⟨rfl, hb6⟩
            have hb7 : Below y0.heap.size y0 x6 := hb5.trans (hb6.mono hb5.size)
            have hH6 : RdM m w.heap.size x6 := hH0.keep (hb7.block _ hz2)
            refine hK.out _ _ hH6 (fun hHeld => ?_)
            clear hK K hHeld
            try simp only [Act.put, List.setIfInBounds_toArray, List.set_cons_zero, List.set_cons_succ]
            refine wpAnyH_take (i := 13) (v := ?_) (by simp; rfl) (by kernel_rfl) (by kernel_rfl) (by kernel_rfl) (fun _ _ _ h => h) (Or.inl ⟨by rfl, ?_⟩) hH6 ?_
            rotate_left
            · intro w' hS
              obtain ⟨p1, p2, p3⟩ := hS
              go_simp
              rfl
            simp only [Act.put, List.setIfInBounds_toArray, List.set_cons_zero, List.set_cons_succ]
            refine wpAnyH_done (by kernel_rfl) ?_ _
            dsimp only [onlyK]
            have hfin : x6.heap[w.heap.size]? = some (.cells m.cells 23) ∧ x6.heap[w.heap.size + 1]? = some (.cells n.cells 23) ∧ Below w.heap.size w x6 := ⟨(hb7.block _ hz2).trans hmb, (hb7.block _ hz2n).trans hnb, hB0.trans (hb7.mono hB0.size)⟩
            have HFIN := Lib.hid hfin
            clear hfin hH0 hH5 hH6 hb5 hb6 hb7 hown2 hgr2
            try go_wp2_with fail
            go_meet
            case rel => exact ⟨rfl, HFIN.out⟩
        case rest =>
          obtain ⟨rfl, hCm, hCn, hB⟩ := hcut
          obtain ⟨i0, i1, i2⟩ := RdM.of hCn
          have hzn := lt_of_block hCn
          have HBC := Lib.hid hB
          have HAC := Lib.hid ((HA.out.low hB).up hB.size)
          have hpp := HP.out
          obtain ⟨p1, p2, p3, p4, p5, p6, p7, p8⟩ := hpp
          have hwl : IntKind.i64.wrap ((k : Int) + 1) = (k : Int) + 1 := IntWalk.i64_in _ (by omega)
          clear HP hCm hCn hB
          rcases p9 : decide ((k : Int) < floor) with _ | _
          all_goals
            go_wp2_with (first
              | (go_at_call 13
                 refine (F4.out _ HAC.out).mono ?_
                 rintro en x8 ⟨rfl, hb8⟩
                 have HB8 := Lib.hid (HBC.out.trans (hb8.mono HBC.out.size))
                 clear hb8)
              | (go_at_call 7
                 refine (alive_any _ (HT.out.below HB8.out)).mono ?_
                 rintro en x9 ⟨rfl, hb9⟩
                 have HB9 := Lib.hid (HB8.out.trans (hb9.mono HB8.out.size))
                 clear hb9)
              | fail)
            all_goals first
              | (go_ret; exact ⟨rfl, HB9.out⟩)
              | (simp only [decide_eq_false_iff_not] at p9
                 have p10 : floor ≤ A := by omega
                 have p11 : decide (floor ≤ A) = true := decide_eq_true p10
                 go_ret
                 exact ⟨by simp [p10], HB9.out⟩)
              | (simp only [decide_eq_false_iff_not] at p9; exfalso; omega)
end Go.Proofs.YtiblkfhcpepnfaaDoor
