/-
  meta.Text. Conditions: none.
-/
import Derived.Test.YtiblkfhcpepnfaaDoorMeta1
import Derived.Test.YtiblkfhcpepnfaaDoorRound
namespace Go.Proofs.YtiblkfhcpepnfaaDoor
open Go.RowKit Go.Lib

/-- A region that draws, in a plain frame. -/
theorem plain_region {id : Nat} {P : Program} {ops : Array Oper} {Q : Exit → Act → World → Prop} {a : Act} {w : World} (hm : P.follows .mixedOrders = true)
    (h : wpAny P .any ops (onlyK (Q .normal)) ops.size (Array.replicate ops.size false) a w.drew) : (Code.region id ops true).wp P Q a w :=
  wp_mono (wp_region_any hm h) fun e a w he => by
    cases e <;> first | exact he | exact False.elim he

/-- A row of texts, appended onto an own row. -/
theorem wp_append_strs {o : Oper} {a : Act} {K : Act → World → Prop} {Q : Exit → Act → World → Prop} {w : World} (s x : Operand)
    (ho : o.op = .call { callee := .builtin .append, args := #[s, x], argTypes := #[40, 40] }) (base base2 : Nat) (v : Value) (n : Nat) (xs : List Value) (hs : a.eval s = v) (hown : w.ownsRow base 9 1 v n xs)
    (sv : Value) (m : Nat) (ys : List Value) (hx : a.eval x = sv) (hown2 : w.ownsRow base2 9 1 sv m ys) (h1 : ∀ u ∈ ys, u.oneCell' = true) (hnm : n + m ≤ 2000000) (hbase : base ≤ w.heap.size)
    (h : ∀ v' w', w'.ownsRow base 9 1 v' (n + m) (xs ++ ys) → w.grownBy w' v.ownBlock → K (a.put o.dst v') w') : o.wp Tryd.prog a w K Q := by
  obtain ⟨i0, hi0, hz0, hs0, hb0'⟩ := info_parts info9
  have hl := hown2.1
  rcases hown2.2 with ⟨rfl, hm⟩ | ⟨g, cap, cur, rfl, hg, hgg, _⟩
  · subst hm
    have hy : ys = [] := by
      cases ys with
      | nil => rfl
      | cons y ys => simp at hl
    subst hy
    have hrun := run_append_owned_none (P := Tryd.prog) (w := w) base 40 o.type 9 i0 1 Tryd.underlying40 hi0 v n xs hown
    unfold Oper.wp
    simp only [execOp, ho, resolve, invoke, builtin, hs, hx, hrun, Result.andThen, Sem.run_bind, Sem.run_pure, List.map_toArray, List.map_cons, List.map_nil]
    exact h v w (by simpa using hown) ⟨rfl, rfl, rfl, Nat.le_refl _, fun _ _ _ => rfl⟩
  · exact wp_append_own w s x 40 ho base 9 i0 _ 1 16 Tryd.underlying40 hi0 hz0 hs0 hb0' rfl (by decide) v n xs hs hown ⟨g, 0, none⟩ m cap ys hx (by simpa using hl) (hown2.cells (g := g) rfl) h1 (by unfold maxLen; omega) (by omega) hbase
      fun v' w' a1 a2 _ => h v' w' a1 a2

theorem parts_len (k : List UInt8) (n : Int) : (partB k n).length ≤ 1 := by unfold partB; split <;> simp
theorem strs_append (a b : List (List UInt8)) : strs (a ++ b) = strs a ++ strs b := by simp [strs]

/-- The metadata in their box. -/
def RdM (m : Mt) (B : Nat) (w' : World) : Prop := w'.cell? ⟨B, 0, none⟩ = some (.int .i64 m.a) ∧ w'.cell? ⟨B, 1, none⟩ = some (.int .i64 m.b) ∧ w'.cell? ⟨B, 2, none⟩ = some (.int .i64 m.c)
theorem RdM.keep {m : Mt} {B : Nat} {A A' : World} (h : RdM m B A) (hx : A'.heap[B]? = A.heap[B]?) : RdM m B A' := by
  obtain ⟨s2, s3, s4⟩ := h
  exact ⟨(World.cell?_of_block hx).trans s2, (World.cell?_of_block hx).trans s3, (World.cell?_of_block hx).trans s4⟩

theorem RdM.of {m : Mt} {B : Nat} {A : World} {T : TypeId} (h : A.heap[B]? = some (.cells m.cells T)) : RdM m B A := by
  refine ⟨?_, ?_, ?_⟩ <;> simp [World.cell?, h, Mt.cells]
theorem row_slice {w : World} {B e size n : Nat} {v : Value} {xs : List Value} (h : w.ownsRow B e size v n xs) : ∃ po pc, v = .slice po n pc := by
  rcases h.2 with ⟨rfl, rfl⟩ | ⟨g, cap, cur, rfl, _⟩
  · exact ⟨none, 0, rfl⟩
  · exact ⟨_, _, rfl⟩
theorem joinB_eq (l : List (List UInt8)) : joinB l = Lib.join l [32] := by
  induction l with
  | nil => rfl
  | cons w r ih =>
    cases r with
    | nil => rw [Lib.join_one]; rfl
    | cons x r =>
      rw [show joinB (w :: x :: r) = w ++ 32 :: joinB (x :: r) from rfl, ih, Lib.join_cons, Lib.join_cons]
      simp [Lib.joinTail]
theorem map_mk (l : List (List UInt8)) : (l.map mkS).map (·.data.toList) = l := by
  induction l with
  | nil => rfl
  | cons x l ih => rw [List.map_cons, List.map_cons, ih]; rfl
theorem joinB_len : ∀ l : List (List UInt8), (∀ x ∈ l, x.length ≤ 30) → (joinB l).length ≤ l.length * 31
  | [], _ => by simp [joinB]
  | [w], h => by have := h w (by simp); simp [joinB]; omega
  | w :: x :: r, h => by
    have h1 := h w (by simp)
    have h2 := joinB_len (x :: r) (fun y hy => h y (by simp [hy]))
    rw [show joinB (w :: x :: r) = w ++ 32 :: joinB (x :: r) from rfl]
    simp only [List.length_append, List.length_cons] at h2 ⊢
    omega
theorem strs_get (l : List (List UInt8)) (j : Nat) (x : ByteArray) (h : (l.map mkS)[j]? = some x) : (strs l)[j]? = some (.string x) := by
  rw [strs, List.getElem?_map]
  rw [List.getElem?_map] at h
  cases hl : l[j]? with
  | none => rw [hl] at h; cases h
  | some y => rw [hl] at h; cases h; rfl

/-- What is told of metadata, as a value. -/
def textV (r : List UInt8 × Int) : Value := .tuple #[.string (mkS r.1), .int .i64 r.2]

theorem text_no (m : Mt) (w : World) (hno : okM m = false) : Calls Tryd.prog 8 #[m.val] w fun e w' => e = .returned (textV (textM m)) ∧ Below w.heap.size w w' := by
  have hv : textM m = ([], 1) := by rw [textM, hno]; rfl
  rw [hv]
  have H := fun w => validMeta_any m w
  rw [hno] at H
  have HH := Lib.hid H; clear H hv
  go_enter Tryd.func8, Tryd.ntmps8
  go_wp2_with (
    go_at_call 16
    refine (HH.out _).mono ?_
    rintro e w1 ⟨rfl, hb1⟩
    replace hb1 := Lib.hid hb1)
  refine bodyPost_ret (v := .tuple #[.string ⟨#[]⟩, .int .i64 1]) (by simp [results, Tryd.results8, go_sem]) rfl ⟨rfl, ?_⟩
  exact (below_alloc w _).trans (hb1.out.mono (by simp))

set_option maxRecDepth 100000 in
set_option maxHeartbeats 2000000 in
theorem text_yes (m : Mt) (w : World) (ht : Tab w) (hok : okM m = true) : Calls Tryd.prog 8 #[m.val] w fun e w' => e = .returned (textV (textM m)) ∧ Below w.heap.size w w' := by
  have hm : Tryd.prog.follows .mixedOrders = true := by kernel_rfl
  have H := fun w => validMeta_any m w
  rw [hok] at H
  have HH := Lib.hid H; clear H
  have HT := Lib.hid ht; clear ht
  have hrange : (0 ≤ m.a ∧ m.a ≤ 1099511627776) ∧ (0 ≤ m.b ∧ m.b ≤ 1099511627776) ∧ (0 ≤ m.c ∧ m.c ≤ 1099511627776) := by
    simp only [okM, Bool.and_eq_true] at hok
    exact ⟨okB_iff.1 hok.1.1, okB_iff.1 hok.1.2, okB_iff.1 hok.2⟩
  have HR := Lib.hid hrange; clear hrange
  go_enter Tryd.func8, Tryd.ntmps8
  go_upto_region 8 with (
    go_at_call 16
    refine (HH.out _).mono ?_
    rintro e w1 ⟨rfl, hb1⟩
    have hbx : w1.heap[w.heap.size]? = some (.cells m.cells 23) := (hb1.block _ (by simp)).trans (new_block _ _)
    have hb1 := (below_alloc w (.cells m.cells 23)).trans (hb1.mono (by simp)))
  obtain ⟨hr1, hr2, hr3⟩ := HR.out
  have ht1 := HT.out.below hb1
  have hz1 := lt_of_block hbx
  have hH0 : RdM m w.heap.size w1.drew := RdM.of hbx
  have hB0 : Below w.heap.size w w1.drew := hb1.trans ⟨rfl, rfl, rfl, Nat.le_refl _, fun _ _ => rfl⟩
  have ht0 : Tab w1.drew := HT.out.below hB0
  have hz0 : w.heap.size < w1.drew.heap.size := hz1
  clear hb1 hbx ht1 hz1
  refine plain_region hm (wpAny_of_held (S := RdM m w.heap.size) _ _ _ _ ?_)
  refine wpAnyH_take (i := 0) (v := ?_) (by simp; rfl) (by kernel_rfl) (by kernel_rfl) (by kernel_rfl) (fun _ _ _ h => h) (Or.inl ⟨by rfl, ?_⟩) hH0 ?_
  rotate_left
  · intro w' hS
    obtain ⟨p1, p2, p3⟩ := hS
    go_simp
    rfl
  simp only [Act.put, List.setIfInBounds_toArray, List.set_cons_zero, List.set_cons_succ]
  refine wpAnyH_take (i := 1) (v := ?_) (by simp; rfl) (by kernel_rfl) (by kernel_rfl) (by kernel_rfl) (fun _ _ _ h => h) (Or.inl ⟨by rfl, ?_⟩) hH0 ?_
  rotate_left
  · intro w' hS
    obtain ⟨p1, p2, p3⟩ := hS
    go_simp
    rfl
  simp only [Act.put, List.setIfInBounds_toArray, List.set_cons_zero, List.set_cons_succ]
  refine wpAnyH_take (i := 3) (v := ?_) (by simp; rfl) (by kernel_rfl) (by kernel_rfl) (by kernel_rfl) (fun _ _ _ h => h) (Or.inl ⟨by rfl, ?_⟩) hH0 ?_
  rotate_left
  · intro w' hS
    obtain ⟨p1, p2, p3⟩ := hS
    go_simp
    rfl
  simp only [Act.put, List.setIfInBounds_toArray, List.set_cons_zero, List.set_cons_succ]
  refine wpAnyH_take (i := 4) (v := ?_) (by simp; rfl) (by kernel_rfl) (by kernel_rfl) (by kernel_rfl) (fun _ _ _ h => h) (Or.inl ⟨by rfl, ?_⟩) hH0 ?_
  rotate_left
  · intro w' hS
    obtain ⟨p1, p2, p3⟩ := hS
    go_simp
    rfl
  simp only [Act.put, List.setIfInBounds_toArray, List.set_cons_zero, List.set_cons_succ]
  refine wpAnyH_take (i := 7) (v := ?_) (by simp; rfl) (by kernel_rfl) (by kernel_rfl) (by kernel_rfl) (fun _ _ _ h => h) (Or.inl ⟨by rfl, ?_⟩) hH0 ?_
  rotate_left
  · intro w' hS
    obtain ⟨p1, p2, p3⟩ := hS
    go_simp
    rfl
  simp only [Act.put, List.setIfInBounds_toArray, List.set_cons_zero, List.set_cons_succ]
  refine wpAnyH_take (i := 8) (v := ?_) (by simp; rfl) (by kernel_rfl) (by kernel_rfl) (by kernel_rfl) (fun _ _ _ h => h) (Or.inl ⟨by rfl, ?_⟩) hH0 ?_
  rotate_left
  · intro w' hS
    obtain ⟨p1, p2, p3⟩ := hS
    go_simp
    rfl
  simp only [Act.put, List.setIfInBounds_toArray, List.set_cons_zero, List.set_cons_succ]
  refine wpAnyH_ready (rs := [2]) (by kernel_rfl) (by simp) ?_
  refine AllReadyH.cons (by simp; rfl) (fun K hK => ?_) AllReadyH.nil
  go_simp
  go_at_call 17
  refine (part_any ⟨countK.toArray⟩ (by decide) m.a (by omega) (by omega) _ ht0).mono ?_
  rintro en x1 ⟨v1, rfl, hown1, hb1⟩
  have hH1 : RdM m w.heap.size x1 := hH0.keep (hb1.block _ hz0)
  have hB1 : Below w.heap.size w x1 := hB0.trans (hb1.mono hB0.size)
  have ht1 : Tab x1 := ht0.below hb1
  have hz1 : w.heap.size < x1.heap.size := Nat.lt_of_lt_of_le hz0 hb1.size
  refine hK.out _ _ hH1 (fun hHeld => ?_)
  clear hK K hHeld
  try simp only [Act.put, List.setIfInBounds_toArray, List.set_cons_zero, List.set_cons_succ]
  refine wpAnyH_ready (rs := [5]) (by kernel_rfl) (by simp) ?_
  refine AllReadyH.cons (by simp; rfl) (fun K hK => ?_) AllReadyH.nil
  go_simp
  go_at_call 17
  refine (part_any ⟨ageK.toArray⟩ (by decide) m.b (by omega) (by omega) _ ht1).mono ?_
  rintro en x2 ⟨v2, rfl, hown2, hb2⟩
  have hH2 : RdM m w.heap.size x2 := hH1.keep (hb2.block _ hz1)
  have hB2 : Below w.heap.size w x2 := hB1.trans (hb2.mono hB1.size)
  have ht2 : Tab x2 := ht1.below hb2
  have hz2 : w.heap.size < x2.heap.size := Nat.lt_of_lt_of_le hz1 hb2.size
  refine hK.out _ _ hH2 (fun hHeld => ?_)
  clear hK K hHeld
  try simp only [Act.put, List.setIfInBounds_toArray, List.set_cons_zero, List.set_cons_succ]
  have hown1' := own_same hown1 (fun g hg => hb2.block g (hown1.lt g hg).2)
  refine wpAnyH_ready (rs := [6]) (by kernel_rfl) (by simp) ?_
  refine AllReadyH.cons (by simp; rfl) (fun K hK => ?_) AllReadyH.nil
  rw [if_pos (by rfl)]
  refine wp_append_strs (.tmp 10) (.tmp 13) rfl w1.drew.heap.size x1.heap.size v1 _ _ (by rfl) hown1' v2 _ _ (by rfl) hown2 (strs_one _) ?_ ?_ ?_
  · have := parts_len countK m.a; have := parts_len ageK m.b; show (partB countK m.a).length + (partB ageK m.b).length ≤ _; omega
  · have := hb1.size; have := hb2.size; omega
  intro v3 x3 hown3 hgr3
  have hb3 : Below w1.drew.heap.size x2 x3 := (Below.refl _ x2).grown hgr3 (by have := hb1.size; have := hb2.size; omega) (fun g e => (hown1'.lt g e).1)
  have hH3 : RdM m w.heap.size x3 := hH2.keep (hb3.block _ hz0)
  have hB3 : Below w.heap.size w x3 := hB2.trans (hb3.mono hB0.size)
  have ht3 : Tab x3 := HT.out.below hB3
  have hz3 : w.heap.size < x3.heap.size := Nat.lt_of_lt_of_le hz2 hb3.size
  refine hK.out _ _ hH3 (fun hHeld => ?_)
  clear hK K hHeld
  try simp only [Act.put, List.setIfInBounds_toArray, List.set_cons_zero, List.set_cons_succ]
  refine wpAnyH_ready (rs := [9]) (by kernel_rfl) (by simp) ?_
  refine AllReadyH.cons (by simp; rfl) (fun K hK => ?_) AllReadyH.nil
  go_simp
  go_at_call 17
  refine (part_any ⟨beforeK.toArray⟩ (by decide) m.c (by omega) (by omega) _ ht3).mono ?_
  rintro en x4 ⟨v4, rfl, hown4, hb4⟩
  have hH4 : RdM m w.heap.size x4 := hH3.keep (hb4.block _ hz3)
  have hB4 : Below w.heap.size w x4 := hB3.trans (hb4.mono hB3.size)
  have ht4 : Tab x4 := ht3.below hb4
  have hz4 : w.heap.size < x4.heap.size := Nat.lt_of_lt_of_le hz3 hb4.size
  refine hK.out _ _ hH4 (fun hHeld => ?_)
  clear hK K hHeld
  try simp only [Act.put, List.setIfInBounds_toArray, List.set_cons_zero, List.set_cons_succ]
  have hown3' := own_same hown3 (fun g hg => hb4.block g (hown3.lt g hg).2)
  refine wpAnyH_ready (rs := [10]) (by kernel_rfl) (by simp) ?_
  refine AllReadyH.cons (by simp; rfl) (fun K hK => ?_) AllReadyH.nil
  rw [if_pos (by rfl)]
  refine wp_append_strs (.tmp 14) (.tmp 17) rfl w1.drew.heap.size x3.heap.size v3 _ _ (by rfl) hown3' v4 _ _ (by rfl) hown4 (strs_one _) ?_ ?_ ?_
  · have := parts_len countK m.a; have := parts_len ageK m.b; have := parts_len beforeK m.c; show (partB countK m.a).length + (partB ageK m.b).length + (partB beforeK m.c).length ≤ _; omega
  · have := hb1.size; have := hb2.size; have := hb3.size; have := hb4.size; omega
  intro v5 x5 hown5 hgr5
  have hb5 : Below w1.drew.heap.size x4 x5 := (Below.refl _ x4).grown hgr5 (by have := hb1.size; have := hb2.size; have := hb3.size; have := hb4.size; omega) (fun g e => (hown3'.lt g e).1)
  have hH5 : RdM m w.heap.size x5 := hH4.keep (hb5.block _ hz0)
  have hB5 : Below w.heap.size w x5 := hB4.trans (hb5.mono hB0.size)
  refine hK.out _ _ hH5 (fun hHeld => ?_)
  clear hK K hHeld
  try simp only [Act.put, List.setIfInBounds_toArray, List.set_cons_zero, List.set_cons_succ]
  refine wpAnyH_take (i := 11) (v := v5) (by simp; rfl) (by kernel_rfl) (by kernel_rfl) (by kernel_rfl) (fun _ _ _ h => h) (Or.inl ⟨by rfl, ?_⟩) hH5 ?_
  · intro w' hS
    go_simp
  simp only [Act.put, List.setIfInBounds_toArray, List.set_cons_zero, List.set_cons_succ]
  refine wpAnyH_done (by kernel_rfl) ?_ _
  dsimp only [onlyK]
  have hrow : x5.ownsRow w1.drew.heap.size 9 1 v5 (partsB m).length (strs (partsB m)) := by
    have e1 : (partsB m).length = (partB countK m.a).length + (partB ageK m.b).length + (partB beforeK m.c).length := by rw [partsB, List.length_append, List.length_append]
    have e2 : strs (partsB m) = strs (partB countK m.a) ++ strs (partB ageK m.b) ++ strs (partB beforeK m.c) := by rw [partsB, strs_append, strs_append]
    rw [e1, e2]
    exact hown5
  clear hown5 hown4 hown3 hown3' hown2 hown1 hown1' hH0 hH1 hH2 hH3 hH4 hH5 hgr3 hgr5 hb1 hb2 hb3 hb4 hb5 hB0 hB1 hB2 hB3 hB4 ht0 ht1 ht2 ht3 ht4
  have hB6 := Lib.hid hB5
  have hz6 := Lib.hid hrow
  have hbase := Lib.hid (show w.heap.size ≤ w1.drew.heap.size by omega)
  clear hB5 hrow hz1 hz2 hz3 hz4 hz0 HR HH HT hr1 hr2 hr3
  obtain ⟨po, pc, rfl⟩ := row_slice hz6.out
  have hn3 : (partsB m).length ≤ 3 := by
    have := parts_len countK m.a; have := parts_len ageK m.b; have := parts_len beforeK m.c
    rw [partsB, List.length_append, List.length_append]; omega
  have hV : textM m = (if (partsB m).isEmpty then [45] else joinB (partsB m), 0) := by rw [textM, if_pos hok]
  have hlen : ∀ x ∈ partsB m, x.length ≤ 30 := by
    intro x hx
    have hd : ∀ n, (0 ≤ n ∧ n ≤ 1099511627776) → (itoa n).length ≤ 21 := fun n hn => itoa_length_le n (by omega) (by omega)
    simp only [okM, Bool.and_eq_true] at hok
    have h1 := hd _ (okB_iff.1 hok.1.1)
    have h2 := hd _ (okB_iff.1 hok.1.2)
    have h3 := hd _ (okB_iff.1 hok.2)
    have e1 : countK.length = 5 := rfl
    have e2 : ageK.length = 3 := rfl
    have e3 : beforeK.length = 6 := rfl
    unfold partsB at hx
    rcases List.mem_append.1 hx with h | h
    · rcases List.mem_append.1 h with h | h
      · rw [part_in h]; simp; omega
      · rw [part_in h]; simp; omega
    · rw [part_in h]; simp; omega
  revert hz6 hn3 hV hlen
  generalize partsB m = ps
  intro hz6 hn3 hV hlen
  cases ps with
  | nil =>
    have HV := Lib.hid hV; clear hV
    clear hlen hz6 hn3
    go_wp2_with fail
    exact bodyPost_ret (v := .tuple #[.string ⟨#[45]⟩, .int .i64 0]) (by simp [results, Tryd.results8, go_sem]) rfl ⟨by rw [HV.out]; rfl, hB6.out⟩
  | cons p r =>
    obtain ⟨ps, hps⟩ : ∃ ps, p :: r = ps := ⟨_, rfl⟩
    have hpos : 0 < ps.length := by rw [← hps]; simp
    have hem : ps.isEmpty = false := by rw [← hps]; rfl
    rw [hps] at hz6 hn3 hV hlen
    rw [hps]
    rw [hem] at hV
    clear hps hem
    rcases hz6.out.2 with ⟨_, h0⟩ | ⟨g, cap, cur, he, hg, hh, hn, hmx, hsz, htk⟩
    · omega
    cases he
    have hj1 : Lib.join ((ps.map mkS).map (·.data.toList)) (⟨#[32]⟩ : ByteArray).data.toList = joinB ps := by rw [map_mk, joinB_eq]
    have hJ := Tryd.strings_Join g 0 pc (ps.map mkS) ⟨#[32]⟩ x5 (fun j x hx => by
      have h1 := strs_get ps j x hx
      rw [← htk, List.getElem?_take] at h1
      split at h1
      · rw [Nat.zero_add, Lib.cell_of_heap hh]; simpa using h1
      · cases h1) (lt_of_block hh) (by simp; omega) (by simpa using hn) (by
        rw [hj1]
        have := joinB_len ps hlen
        omega)
    rw [hj1, List.length_map] at hJ
    have HJ := Lib.hid hJ
    have HV := Lib.hid hV
    have hne : ((ps.length : Int) == 0) = false := by rw [beq_eq_false_iff_ne]; omega
    clear hJ hj1 hV hlen hh htk hsz hz6 hg hn hmx
    go_wp2_with fail
    refine HJ.out.mono ?_
    rintro e x6 ⟨rfl, hb6⟩
    have HB := Lib.hid (hB6.out.trans (hb6.mono hB6.out.size)); clear hb6
    go_wp2_with fail
    exact bodyPost_ret (v := .tuple #[.string ⟨(joinB ps).toArray⟩, .int .i64 0]) (by simp [results, Tryd.results8, go_sem]) rfl ⟨by rw [HV.out]; rfl, HB.out⟩

theorem text_any (m : Mt) (w : World) (ht : Tab w) : Calls Tryd.prog 8 #[m.val] w fun e w' => e = .returned (textV (textM m)) ∧ Below w.heap.size w w' := by
  cases hok : okM m with
  | false => exact text_no m w hok
  | true => exact text_yes m w ht hok
end Go.Proofs.YtiblkfhcpepnfaaDoor
