/-
  MetaTells, walked. Conditions: none.
-/
import Derived.Test.YtiblkfhcpepnfaaDoorMeta9
import Derived.Test.YtiblkfhcpepnfaaDoorMeta10
namespace Go.Proofs.YtiblkfhcpepnfaaDoor
open Go.RowKit Go.Lib

set_option maxRecDepth 100000 in
set_option maxHeartbeats 8000000 in
theorem tells_walk (m : Mt) (s S : ByteArray) (e : Int) (pm : Mt) (pe : Int) (floor now : Int) (ao : Option Addr) (len cap : Nat) (hca : ao = none → cap = 0) (T : Nat → Int)
    (hm1 : m.a ≤ 9223372036854775807) (hm2 : m.b ≤ 9223372036854775807) (hn1 : -9223372036854775808 ≤ now) (hn2 : now ≤ 9223372036854775807) (hs : ¬ 300 < s.size) (hlen : ¬ 60 < len) (w : World) (ht : Tab w) (hA : IntArg w.heap.size w ao len T)
    (H1 : ∀ W, Tab W → Calls Tryd.prog 8 #[m.val] W fun en w' => en = .returned (.tuple #[.string S, .int .i64 e]) ∧ Below W.heap.size W w')
    (H2 : ∀ W, Calls Tryd.prog 9 #[m.val] W fun en w' => en = .returned (.tuple #[.string S, .int .i64 e]) ∧ Below W.heap.size W w')
    (H3 : ∀ W, Tab W → Calls Tryd.prog 10 #[.string s] W fun en w' => en = .returned (.tuple #[pm.val, .int .i64 pe]) ∧ Below W.heap.size W w')
    (H4 : ∀ W, Calls Tryd.prog 11 #[.string s] W fun en w' => en = .returned (.tuple #[pm.val, .int .i64 pe]) ∧ Below W.heap.size W w')
    (H5 : e = 0 → ∀ W, Tab W → Calls Tryd.prog 10 #[.string S] W fun en w' => en = .returned (.tuple #[m.val, .int .i64 0]) ∧ Below W.heap.size W w') :
    Calls Tryd.prog 3 #[m.val, .string s, .int .i64 floor, .int .i64 now, .slice ao len cap] w fun e w' => e = .returned (.bool true) ∧ Below w.heap.size w w' := by
  have HT := Lib.hid ht; clear ht
  have HA := Lib.hid hA; clear hA
  have HCA := Lib.hid hca; clear hca
  have K1 := Lib.hid H1; clear H1
  have K2 := Lib.hid H2; clear H2
  have K3 := Lib.hid H3; clear H3
  have K4 := Lib.hid H4; clear H4
  have hsi : ¬ (300 : Int) < (s.size : Int) := by omega
  have hli : ¬ (60 : Int) < (len : Int) := by omega
  have hml : len ≤ maxLen := by unfold maxLen; omega
  have hml2 : len ≤ 1000000 := by omega
  have hml3 : len ≤ 900 := by omega
  have hn1p := fun w => ne_meta pm pm w
  have hn2p := fun w => ne_meta m m w
  rw [sameM_self] at hn1p hn2p
  simp only [Mt.val, Bool.not_true] at hn1p hn2p
  have HB0 := Lib.hid (below_alloc w (.cells m.cells 23))
  have C0 := Lib.hid (new_block w (.cells m.cells 23))
  rcases he : (e == 0) with _ | _
  · clear H5
    by_cases hE : (m.a < 0 ∧ m.a < -4611686018427387904) ∨ 2305843009213693952 < m.b ∨ 2305843009213693952 < now ∨ now < -2305843009213693952
    · go_enter Tryd.func3, Tryd.ntmps3
      go_wp2_with (first
        | (go_at_call 8
           refine (K1.out _ (HT.out.below HB0.out)).mono ?_
           rintro en w1 ⟨rfl, hb1⟩
           have C1 := Lib.hid ((hb1.block _ (by simp)).trans C0.out)
           obtain ⟨a0, a1, a2⟩ := RdM.of C1.out
           have hz1 := lt_of_block C1.out
           have HB1 := Lib.hid (HB0.out.trans (hb1.mono HB0.out.size))
           clear hb1)
        | (go_at_call 9
           refine (K2.out _).mono ?_
           rintro en w2 ⟨rfl, hb2⟩
           have C2 := Lib.hid ((hb2.block _ hz1).trans C1.out)
           have hz2 := lt_of_block C2.out
           have HB2 := Lib.hid (HB1.out.trans (hb2.mono HB1.out.size))
           clear hb2)
        | (go_at_call 10
           refine (K3.out _ (HT.out.below HB2.out)).mono ?_
           rintro en w3 ⟨rfl, hb3⟩
           have hb4 := hb3.alloc hb3.size (.cells pm.cells 23)
           have C3 := Lib.hid ((hb4.block _ hz2).trans C2.out)
           have D3 := Lib.hid (new_block w3 (.cells pm.cells 23))
           have hz3 := lt_of_block C3.out
           have HB3 := Lib.hid (HB2.out.trans (hb4.mono HB2.out.size))
           have tokP : True := trivial
           clear hb3 hb4)
        | (go_at_call 11
           refine (K4.out _).mono ?_
           rintro en w4 ⟨rfl, hb4⟩
           have C4 := Lib.hid ((hb4.block _ hz3).trans C3.out)
           have D4 := Lib.hid ((hb4.block _ (by simp)).trans D3.out)
           obtain ⟨d0, d1, d2⟩ := RdM.of D4.out
           obtain ⟨c0, c1, c2⟩ := RdM.of C4.out
           have hz4 := lt_of_block C4.out
           have hz5 := lt_of_block D4.out
           have HB4 := Lib.hid (HB3.out.trans (hb4.mono HB3.out.size))
           clear hb4)
        | (go_at_call 7
           have hbx := HB4.out.alloc HB4.out.size (.cells pm.cells 23)
           refine (alive_any _ (HT.out.below hbx)).mono ?_
           rintro en w9 ⟨rfl, hb9⟩
           have HB9 := Lib.hid (hbx.trans (hb9.mono hbx.size))
           clear hbx hb9)
        | fail)
      all_goals first
        | (go_ret; exact ⟨rfl, HB9.out⟩)
        | (exfalso; omega)
    · have hE1 : ¬ 2305843009213693952 < m.b := by omega
      have hE2 : ¬ 2305843009213693952 < now := by omega
      have hE3 : ¬ now < -2305843009213693952 := by omega
      rcases hE4 : decide (m.a < 0) with _ | _
      all_goals try (have hE5 : ¬ m.a < -4611686018427387904 := by simp at hE4; omega)
      all_goals
        clear hE
        go_enter Tryd.func3, Tryd.ntmps3
        go_upto_region 107 with (first
          | (go_at_call 8
             refine (K1.out _ (HT.out.below HB0.out)).mono ?_
             rintro en w1 ⟨rfl, hb1⟩
             have C1 := Lib.hid ((hb1.block _ (by simp)).trans C0.out)
             obtain ⟨a0, a1, a2⟩ := RdM.of C1.out
             have hz1 := lt_of_block C1.out
             have HB1 := Lib.hid (HB0.out.trans (hb1.mono HB0.out.size))
             clear hb1)
          | (go_at_call 9
             refine (K2.out _).mono ?_
             rintro en w2 ⟨rfl, hb2⟩
             have C2 := Lib.hid ((hb2.block _ hz1).trans C1.out)
             have hz2 := lt_of_block C2.out
             have HB2 := Lib.hid (HB1.out.trans (hb2.mono HB1.out.size))
             clear hb2)
          | (go_at_call 10
             refine (K3.out _ (HT.out.below HB2.out)).mono ?_
             rintro en w3 ⟨rfl, hb3⟩
             have hb4 := hb3.alloc hb3.size (.cells pm.cells 23)
             have C3 := Lib.hid ((hb4.block _ hz2).trans C2.out)
             have D3 := Lib.hid (new_block w3 (.cells pm.cells 23))
             have hz3 := lt_of_block C3.out
             have HB3 := Lib.hid (HB2.out.trans (hb4.mono HB2.out.size))
             have tokP : True := trivial
             clear hb3 hb4)
          | (go_at_call 11
             refine (K4.out _).mono ?_
             rintro en w4 ⟨rfl, hb4⟩
             have C4 := Lib.hid ((hb4.block _ hz3).trans C3.out)
             have D4 := Lib.hid ((hb4.block _ (by simp)).trans D3.out)
             obtain ⟨d0, d1, d2⟩ := RdM.of D4.out
             obtain ⟨c0, c1, c2⟩ := RdM.of C4.out
             have hz4 := lt_of_block C4.out
             have hz5 := lt_of_block D4.out
             have HB4 := Lib.hid (HB3.out.trans (hb4.mono HB3.out.size))
             clear hb4)
          | (go_at_call 12
             have hbx := HB4.out.alloc HB4.out.size (.cells pm.cells 23)
             refine (lentInts_any ao len cap hml3 HCA.out T _ ((HA.out.low hbx).up hbx.size)).mono ?_
             rintro en WC ⟨g, c, rfl, hL, hb9⟩
             have LX := Lib.hid hL
             have CM := Lib.hid ((hb9.block _ (by simp; omega)).trans ((Below.heap_alloc _ _ _ hz4).trans C4.out))
             have HBX := Lib.hid (hbx.trans (hb9.mono hbx.size))
             clear hbx hb9 hL)
          | fail)
        have hm : Tryd.prog.follows .mixedOrders = true := by kernel_rfl
        refine plain_region hm (wpAny_of_held (S := RdM m w.heap.size) _ _ _ _ ?_)
        have hH0 : RdM m w.heap.size WC.drew := RdM.of CM.out
        have hB0 : Below w.heap.size w WC.drew := HBX.out.trans ⟨rfl, rfl, rfl, Nat.le_refl _, fun _ _ => rfl⟩
        have hz0 : w.heap.size < WC.drew.heap.size := lt_of_block CM.out
        have hL0 : LentI (w4.alloc (.cells pm.cells 23)).heap.size WC.drew g c len T := ⟨LX.out.own⟩
        refine wpAnyH_ready (rs := [0]) (by kernel_rfl) (by simp) ?_
        refine AllReadyH.cons (by simp; rfl) (fun K hK => ?_) AllReadyH.nil
        go_simp
        go_at_call 7
        refine (alive_any _ (HT.out.below hB0)).mono ?_
        rintro en x1 ⟨rfl, hb1⟩
        have hH1 : RdM m w.heap.size x1 := hH0.keep (hb1.block _ hz0)
        have hB1 : Below w.heap.size w x1 := hB0.trans (hb1.mono hB0.size)
        have hz1 : w.heap.size < x1.heap.size := Nat.lt_of_lt_of_le hz0 hb1.size
        have hL1 : LentI (w4.alloc (.cells pm.cells 23)).heap.size x1 g c len T := hL0.keep hb1
        refine hK.out _ _ hH1 (fun hHeld => ?_)
        clear hK K hHeld
        try simp only [Act.put, List.setIfInBounds_toArray, List.set_cons_zero, List.set_cons_succ]
        refine wpAnyH_take (i := 1) (v := ?_) (by simp; rfl) (by kernel_rfl) (by kernel_rfl) (by kernel_rfl) (fun _ _ _ h => h) (Or.inl ⟨by rfl, ?_⟩) hH1 ?_
        rotate_left
        · intro w' hS
          obtain ⟨p1, p2, p3⟩ := hS
          go_simp
          rfl
        simp only [Act.put, List.setIfInBounds_toArray, List.set_cons_zero, List.set_cons_succ]
        refine wpAnyH_take (i := 2) (v := ?_) (by simp; rfl) (by kernel_rfl) (by kernel_rfl) (by kernel_rfl) (fun _ _ _ h => h) (Or.inl ⟨by rfl, ?_⟩) hH1 ?_
        rotate_left
        · intro w' hS
          obtain ⟨p1, p2, p3⟩ := hS
          go_simp
          rfl
        simp only [Act.put, List.setIfInBounds_toArray, List.set_cons_zero, List.set_cons_succ]
        refine wpAnyH_take (i := 3) (v := ?_) (by simp; rfl) (by kernel_rfl) (by kernel_rfl) (by kernel_rfl) (fun _ _ _ h => h) (Or.inl ⟨by rfl, ?_⟩) hH1 ?_
        rotate_left
        · intro w' hS
          obtain ⟨p1, p2, p3⟩ := hS
          go_simp
          rfl
        simp only [Act.put, List.setIfInBounds_toArray, List.set_cons_zero, List.set_cons_succ]
        refine wpAnyH_take (i := 4) (v := ?_) (by simp; rfl) (by kernel_rfl) (by kernel_rfl) (by kernel_rfl) (fun _ _ _ h => h) (Or.inl ⟨by rfl, ?_⟩) hH1 ?_
        rotate_left
        · intro w' hS
          obtain ⟨p1, p2, p3⟩ := hS
          go_simp
          rfl
        simp only [Act.put, List.setIfInBounds_toArray, List.set_cons_zero, List.set_cons_succ]
        refine wpAnyH_take (i := 5) (v := ?_) (by simp; rfl) (by kernel_rfl) (by kernel_rfl) (by kernel_rfl) (fun _ _ _ h => h) (Or.inl ⟨by rfl, ?_⟩) hH1 ?_
        rotate_left
        · intro w' hS
          obtain ⟨p1, p2, p3⟩ := hS
          go_simp
          rfl
        simp only [Act.put, List.setIfInBounds_toArray, List.set_cons_zero, List.set_cons_succ]
        refine wpAnyH_take (i := 7) (v := ?_) (by simp; rfl) (by kernel_rfl) (by kernel_rfl) (by kernel_rfl) (fun _ _ _ h => h) (Or.inl ⟨by rfl, ?_⟩) hH1 ?_
        rotate_left
        · intro w' hS
          obtain ⟨p1, p2, p3⟩ := hS
          go_simp
          rfl
        simp only [Act.put, List.setIfInBounds_toArray, List.set_cons_zero, List.set_cons_succ]
        refine wpAnyH_take (i := 8) (v := ?_) (by simp; rfl) (by kernel_rfl) (by kernel_rfl) (by kernel_rfl) (fun _ _ _ h => h) (Or.inl ⟨by rfl, ?_⟩) hH1 ?_
        rotate_left
        · intro w' hS
          obtain ⟨p1, p2, p3⟩ := hS
          go_simp
          rfl
        simp only [Act.put, List.setIfInBounds_toArray, List.set_cons_zero, List.set_cons_succ]
        refine wpAnyH_take (i := 9) (v := ?_) (by simp; rfl) (by kernel_rfl) (by kernel_rfl) (by kernel_rfl) (fun _ _ _ h => h) (Or.inl ⟨by rfl, ?_⟩) hH1 ?_
        rotate_left
        · intro w' hS
          obtain ⟨p1, p2, p3⟩ := hS
          go_simp
          rfl
        simp only [Act.put, List.setIfInBounds_toArray, List.set_cons_zero, List.set_cons_succ]
        refine wpAnyH_take (i := 10) (v := ?_) (by simp; rfl) (by kernel_rfl) (by kernel_rfl) (by kernel_rfl) (fun _ _ _ h => h) (Or.inl ⟨by rfl, ?_⟩) hH1 ?_
        rotate_left
        · intro w' hS
          obtain ⟨p1, p2, p3⟩ := hS
          go_simp
          rfl
        simp only [Act.put, List.setIfInBounds_toArray, List.set_cons_zero, List.set_cons_succ]
        refine wpAnyH_ready (rs := [6]) (by kernel_rfl) (by simp) ?_
        refine AllReadyH.cons (by simp; rfl) (fun K hK => ?_) AllReadyH.nil
        go_simp
        go_at_call 13
        refine (floor_any m floor now hm1 hm2 hn1 hn2 (some ⟨g, 0, none⟩) len c hml T _ hL1.arg).mono ?_
        rintro en x2 ⟨rfl, hb2⟩
        have hH2 : RdM m w.heap.size x2 := hH1.keep (hb2.block _ hz1)
        have hB2 : Below w.heap.size w x2 := hB1.trans (hb2.mono hB1.size)
        have hz2 : w.heap.size < x2.heap.size := Nat.lt_of_lt_of_le hz1 hb2.size
        have hL2 : LentI (w4.alloc (.cells pm.cells 23)).heap.size x2 g c len T := hL1.keep hb2
        refine hK.out _ _ hH2 (fun hHeld => ?_)
        clear hK K hHeld
        try simp only [Act.put, List.setIfInBounds_toArray, List.set_cons_zero, List.set_cons_succ]
        refine wpAnyH_ready (rs := [11]) (by kernel_rfl) (by simp) ?_
        refine AllReadyH.cons (by simp; rfl) (fun K hK => ?_) AllReadyH.nil
        go_simp
        go_at_call 14
        refine (rfloor_any m floor now hm1 hm2 hn1 hn2 ao len cap hml2 T _ (HA.out.low hB2 |>.up hB2.size)).mono ?_
        rintro en x3 ⟨rfl, hb3⟩
        have hH3 : RdM m w.heap.size x3 := hH2.keep (hb3.block _ hz2)
        have hB3 : Below w.heap.size w x3 := hB2.trans (hb3.mono hB2.size)
        have hz3 : w.heap.size < x3.heap.size := Nat.lt_of_lt_of_le hz2 hb3.size
        have hL3 : LentI (w4.alloc (.cells pm.cells 23)).heap.size x3 g c len T := hL2.keep hb3
        refine hK.out _ _ hH3 (fun hHeld => ?_)
        clear hK K hHeld
        try simp only [Act.put, List.setIfInBounds_toArray, List.set_cons_zero, List.set_cons_succ]
        refine wpAnyH_take (i := 12) (v := ?_) (by simp; rfl) (by kernel_rfl) (by kernel_rfl) (by kernel_rfl) (fun _ _ _ h => h) (Or.inl ⟨by rfl, ?_⟩) hH3 ?_
        rotate_left
        · intro w' hS
          obtain ⟨p1, p2, p3⟩ := hS
          go_simp
          rfl
        simp only [Act.put, List.setIfInBounds_toArray, List.set_cons_zero, List.set_cons_succ]
        refine wpAnyH_take (i := 13) (v := ?_) (by simp; rfl) (by kernel_rfl) (by kernel_rfl) (by kernel_rfl) (fun _ _ _ h => h) (Or.inl ⟨by rfl, ?_⟩) hH3 ?_
        rotate_left
        · intro w' hS
          obtain ⟨p1, p2, p3⟩ := hS
          go_simp
          rfl
        simp only [Act.put, List.setIfInBounds_toArray, List.set_cons_zero, List.set_cons_succ]
        refine wpAnyH_take (i := 14) (v := ?_) (by simp; rfl) (by kernel_rfl) (by kernel_rfl) (by kernel_rfl) (fun _ _ _ h => h) (Or.inl ⟨by rfl, ?_⟩) hH3 ?_
        rotate_left
        · intro w' hS
          obtain ⟨p1, p2, p3⟩ := hS
          go_simp
          rfl
        simp only [Act.put, List.setIfInBounds_toArray, List.set_cons_zero, List.set_cons_succ]
        refine wpAnyH_take (i := 15) (v := ?_) (by simp; rfl) (by kernel_rfl) (by kernel_rfl) (by kernel_rfl) (fun _ _ _ h => h) (Or.inl ⟨by rfl, ?_⟩) hH3 ?_
        rotate_left
        · intro w' hS
          obtain ⟨p1, p2, p3⟩ := hS
          go_simp
          rfl
        simp only [Act.put, List.setIfInBounds_toArray, List.set_cons_zero, List.set_cons_succ]
        refine wpAnyH_take (i := 16) (v := ?_) (by simp; rfl) (by kernel_rfl) (by kernel_rfl) (by kernel_rfl) (fun _ _ _ h => h) (Or.inl ⟨by rfl, ?_⟩) hH3 ?_
        rotate_left
        · intro w' hS
          obtain ⟨p1, p2, p3⟩ := hS
          go_simp
          rfl
        simp only [Act.put, List.setIfInBounds_toArray, List.set_cons_zero, List.set_cons_succ]
        refine wpAnyH_ready (rs := [17]) (by kernel_rfl) (by simp) ?_
        refine AllReadyH.cons (by simp; rfl) (fun K hK => ?_) AllReadyH.nil
        go_simp
        go_at_call 15
        refine (staysInts_any (w4.alloc (.cells pm.cells 23)).heap.size g c ao len cap hml3 T _ hL3 (HA.out.low hB3 |>.up hB3.size)).mono ?_
        rintro en x4 ⟨rfl, hb4⟩
        have hH4 : RdM m w.heap.size x4 := hH3.keep (hb4.block _ hz3)
        have hB4 : Below w.heap.size w x4 := hB3.trans (hb4.mono hB3.size)
        have hz4 : w.heap.size < x4.heap.size := Nat.lt_of_lt_of_le hz3 hb4.size
        have hL4 : LentI (w4.alloc (.cells pm.cells 23)).heap.size x4 g c len T := hL3.keep hb4
        refine hK.out _ _ hH4 (fun hHeld => ?_)
        clear hK K hHeld
        try simp only [Act.put, List.setIfInBounds_toArray, List.set_cons_zero, List.set_cons_succ]
        refine wpAnyH_take (i := 18) (v := ?_) (by simp; rfl) (by kernel_rfl) (by kernel_rfl) (by kernel_rfl) (fun _ _ _ h => h) (Or.inl ⟨by rfl, ?_⟩) hH4 ?_
        rotate_left
        · intro w' hS
          obtain ⟨p1, p2, p3⟩ := hS
          go_simp
          rfl
        simp only [Act.put, List.setIfInBounds_toArray, List.set_cons_zero, List.set_cons_succ]
        refine wpAnyH_take (i := 19) (v := ?_) (by simp; rfl) (by kernel_rfl) (by kernel_rfl) (by kernel_rfl) (fun _ _ _ h => h) (Or.inl ⟨by rfl, ?_⟩) hH4 ?_
        rotate_left
        · intro w' hS
          obtain ⟨p1, p2, p3⟩ := hS
          go_simp
          rfl
        simp only [Act.put, List.setIfInBounds_toArray, List.set_cons_zero, List.set_cons_succ]
        refine wpAnyH_done (by kernel_rfl) ?_ _
        dsimp only [onlyK]
        go_wp2_with fail
        go_ret
        exact ⟨rfl, hB4⟩
  · have e0 : e = 0 := by simpa using he
    have K5 := Lib.hid (H5 e0); clear H5
    subst e0
    by_cases hE : (m.a < 0 ∧ m.a < -4611686018427387904) ∨ 2305843009213693952 < m.b ∨ 2305843009213693952 < now ∨ now < -2305843009213693952
    · go_enter Tryd.func3, Tryd.ntmps3
      go_wp2_with (first
        | (go_at_call 8
           refine (K1.out _ (HT.out.below HB0.out)).mono ?_
           rintro en w1 ⟨rfl, hb1⟩
           have C1 := Lib.hid ((hb1.block _ (by simp)).trans C0.out)
           obtain ⟨a0, a1, a2⟩ := RdM.of C1.out
           have hz1 := lt_of_block C1.out
           have HB1 := Lib.hid (HB0.out.trans (hb1.mono HB0.out.size))
           clear hb1)
        | (go_at_call 9
           refine (K2.out _).mono ?_
           rintro en w2 ⟨rfl, hb2⟩
           have C2 := Lib.hid ((hb2.block _ hz1).trans C1.out)
           have hz2 := lt_of_block C2.out
           have HB2 := Lib.hid (HB1.out.trans (hb2.mono HB1.out.size))
           clear hb2)
        | (go_at_call 10; first
           | (have _t := tokP
              have hbx := HB4.out.alloc HB4.out.size (.cells pm.cells 23)
              refine (K5.out _ (HT.out.below hbx)).mono ?_
              rintro en w5 ⟨rfl, hb5⟩
              have C5 := Lib.hid ((hb5.block _ (by simp; omega)).trans ((Below.heap_alloc _ _ _ hz4).trans C4.out))
              obtain ⟨b0, b1, b2⟩ := RdM.of C5.out
              have hz6 := lt_of_block C5.out
              have HB5 := Lib.hid (hbx.trans (hb5.mono hbx.size))
              clear hbx hb5)
           | (refine (K3.out _ (HT.out.below HB2.out)).mono ?_
              rintro en w3 ⟨rfl, hb3⟩
              have hb4 := hb3.alloc hb3.size (.cells pm.cells 23)
              have C3 := Lib.hid ((hb4.block _ hz2).trans C2.out)
              have D3 := Lib.hid (new_block w3 (.cells pm.cells 23))
              have hz3 := lt_of_block C3.out
              have HB3 := Lib.hid (HB2.out.trans (hb4.mono HB2.out.size))
              have tokP : True := trivial
              clear hb3 hb4))
        | (go_at_call 11
           refine (K4.out _).mono ?_
           rintro en w4 ⟨rfl, hb4⟩
           have C4 := Lib.hid ((hb4.block _ hz3).trans C3.out)
           have D4 := Lib.hid ((hb4.block _ (by simp)).trans D3.out)
           obtain ⟨d0, d1, d2⟩ := RdM.of D4.out
           obtain ⟨c0, c1, c2⟩ := RdM.of C4.out
           have hz4 := lt_of_block C4.out
           have hz5 := lt_of_block D4.out
           have HB4 := Lib.hid (HB3.out.trans (hb4.mono HB3.out.size))
           clear hb4)
        | (go_at_call 7
           have hbx := HB5.out.alloc HB5.out.size (.cells m.cells 23)
           refine (alive_any _ (HT.out.below hbx)).mono ?_
           rintro en w9 ⟨rfl, hb9⟩
           have HB9 := Lib.hid (hbx.trans (hb9.mono hbx.size))
           clear hbx hb9)
        | fail)
      all_goals first
        | (go_ret; exact ⟨rfl, HB9.out⟩)
        | (exfalso; omega)
    · have hE1 : ¬ 2305843009213693952 < m.b := by omega
      have hE2 : ¬ 2305843009213693952 < now := by omega
      have hE3 : ¬ now < -2305843009213693952 := by omega
      rcases hE4 : decide (m.a < 0) with _ | _
      all_goals try (have hE5 : ¬ m.a < -4611686018427387904 := by simp at hE4; omega)
      all_goals
        clear hE
        go_enter Tryd.func3, Tryd.ntmps3
        go_upto_region 107 with (first
          | (go_at_call 8
             refine (K1.out _ (HT.out.below HB0.out)).mono ?_
             rintro en w1 ⟨rfl, hb1⟩
             have C1 := Lib.hid ((hb1.block _ (by simp)).trans C0.out)
             obtain ⟨a0, a1, a2⟩ := RdM.of C1.out
             have hz1 := lt_of_block C1.out
             have HB1 := Lib.hid (HB0.out.trans (hb1.mono HB0.out.size))
             clear hb1)
          | (go_at_call 9
             refine (K2.out _).mono ?_
             rintro en w2 ⟨rfl, hb2⟩
             have C2 := Lib.hid ((hb2.block _ hz1).trans C1.out)
             have hz2 := lt_of_block C2.out
             have HB2 := Lib.hid (HB1.out.trans (hb2.mono HB1.out.size))
             clear hb2)
          | (go_at_call 10; first
             | (have _t := tokP
                have hbx := HB4.out.alloc HB4.out.size (.cells pm.cells 23)
                refine (K5.out _ (HT.out.below hbx)).mono ?_
                rintro en w5 ⟨rfl, hb5⟩
                have C5 := Lib.hid ((hb5.block _ (by simp; omega)).trans ((Below.heap_alloc _ _ _ hz4).trans C4.out))
                obtain ⟨b0, b1, b2⟩ := RdM.of C5.out
                have hz6 := lt_of_block C5.out
                have HB5 := Lib.hid (hbx.trans (hb5.mono hbx.size))
                clear hbx hb5)
             | (refine (K3.out _ (HT.out.below HB2.out)).mono ?_
                rintro en w3 ⟨rfl, hb3⟩
                have hb4 := hb3.alloc hb3.size (.cells pm.cells 23)
                have C3 := Lib.hid ((hb4.block _ hz2).trans C2.out)
                have D3 := Lib.hid (new_block w3 (.cells pm.cells 23))
                have hz3 := lt_of_block C3.out
                have HB3 := Lib.hid (HB2.out.trans (hb4.mono HB2.out.size))
                have tokP : True := trivial
                clear hb3 hb4))
          | (go_at_call 11
             refine (K4.out _).mono ?_
             rintro en w4 ⟨rfl, hb4⟩
             have C4 := Lib.hid ((hb4.block _ hz3).trans C3.out)
             have D4 := Lib.hid ((hb4.block _ (by simp)).trans D3.out)
             obtain ⟨d0, d1, d2⟩ := RdM.of D4.out
             obtain ⟨c0, c1, c2⟩ := RdM.of C4.out
             have hz4 := lt_of_block C4.out
             have hz5 := lt_of_block D4.out
             have HB4 := Lib.hid (HB3.out.trans (hb4.mono HB3.out.size))
             clear hb4)
          | (go_at_call 12
             have hbx := HB5.out.alloc HB5.out.size (.cells m.cells 23)
             refine (lentInts_any ao len cap hml3 HCA.out T _ ((HA.out.low hbx).up hbx.size)).mono ?_
             rintro en WC ⟨g, c, rfl, hL, hb9⟩
             have LX := Lib.hid hL
             have CM := Lib.hid ((hb9.block _ (by simp; omega)).trans ((Below.heap_alloc _ _ _ hz6).trans C5.out))
             have HBX := Lib.hid (hbx.trans (hb9.mono hbx.size))
             clear hbx hb9 hL)
          | fail)
        have hm : Tryd.prog.follows .mixedOrders = true := by kernel_rfl
        refine plain_region hm (wpAny_of_held (S := RdM m w.heap.size) _ _ _ _ ?_)
        have hH0 : RdM m w.heap.size WC.drew := RdM.of CM.out
        have hB0 : Below w.heap.size w WC.drew := HBX.out.trans ⟨rfl, rfl, rfl, Nat.le_refl _, fun _ _ => rfl⟩
        have hz0 : w.heap.size < WC.drew.heap.size := lt_of_block CM.out
        have hL0 : LentI (w5.alloc (.cells m.cells 23)).heap.size WC.drew g c len T := ⟨LX.out.own⟩
        refine wpAnyH_ready (rs := [0]) (by kernel_rfl) (by simp) ?_
        refine AllReadyH.cons (by simp; rfl) (fun K hK => ?_) AllReadyH.nil
        go_simp
        go_at_call 7
        refine (alive_any _ (HT.out.below hB0)).mono ?_
        rintro en x1 ⟨rfl, hb1⟩
        have hH1 : RdM m w.heap.size x1 := hH0.keep (hb1.block _ hz0)
        have hB1 : Below w.heap.size w x1 := hB0.trans (hb1.mono hB0.size)
        have hz1 : w.heap.size < x1.heap.size := Nat.lt_of_lt_of_le hz0 hb1.size
        have hL1 : LentI (w5.alloc (.cells m.cells 23)).heap.size x1 g c len T := hL0.keep hb1
        refine hK.out _ _ hH1 (fun hHeld => ?_)
        clear hK K hHeld
        try simp only [Act.put, List.setIfInBounds_toArray, List.set_cons_zero, List.set_cons_succ]
        refine wpAnyH_take (i := 1) (v := ?_) (by simp; rfl) (by kernel_rfl) (by kernel_rfl) (by kernel_rfl) (fun _ _ _ h => h) (Or.inl ⟨by rfl, ?_⟩) hH1 ?_
        rotate_left
        · intro w' hS
          obtain ⟨p1, p2, p3⟩ := hS
          go_simp
          rfl
        simp only [Act.put, List.setIfInBounds_toArray, List.set_cons_zero, List.set_cons_succ]
        refine wpAnyH_take (i := 2) (v := ?_) (by simp; rfl) (by kernel_rfl) (by kernel_rfl) (by kernel_rfl) (fun _ _ _ h => h) (Or.inl ⟨by rfl, ?_⟩) hH1 ?_
        rotate_left
        · intro w' hS
          obtain ⟨p1, p2, p3⟩ := hS
          go_simp
          rfl
        simp only [Act.put, List.setIfInBounds_toArray, List.set_cons_zero, List.set_cons_succ]
        refine wpAnyH_take (i := 3) (v := ?_) (by simp; rfl) (by kernel_rfl) (by kernel_rfl) (by kernel_rfl) (fun _ _ _ h => h) (Or.inl ⟨by rfl, ?_⟩) hH1 ?_
        rotate_left
        · intro w' hS
          obtain ⟨p1, p2, p3⟩ := hS
          go_simp
          rfl
        simp only [Act.put, List.setIfInBounds_toArray, List.set_cons_zero, List.set_cons_succ]
        refine wpAnyH_take (i := 4) (v := ?_) (by simp; rfl) (by kernel_rfl) (by kernel_rfl) (by kernel_rfl) (fun _ _ _ h => h) (Or.inl ⟨by rfl, ?_⟩) hH1 ?_
        rotate_left
        · intro w' hS
          obtain ⟨p1, p2, p3⟩ := hS
          go_simp
          rfl
        simp only [Act.put, List.setIfInBounds_toArray, List.set_cons_zero, List.set_cons_succ]
        refine wpAnyH_take (i := 5) (v := ?_) (by simp; rfl) (by kernel_rfl) (by kernel_rfl) (by kernel_rfl) (fun _ _ _ h => h) (Or.inl ⟨by rfl, ?_⟩) hH1 ?_
        rotate_left
        · intro w' hS
          obtain ⟨p1, p2, p3⟩ := hS
          go_simp
          rfl
        simp only [Act.put, List.setIfInBounds_toArray, List.set_cons_zero, List.set_cons_succ]
        refine wpAnyH_take (i := 7) (v := ?_) (by simp; rfl) (by kernel_rfl) (by kernel_rfl) (by kernel_rfl) (fun _ _ _ h => h) (Or.inl ⟨by rfl, ?_⟩) hH1 ?_
        rotate_left
        · intro w' hS
          obtain ⟨p1, p2, p3⟩ := hS
          go_simp
          rfl
        simp only [Act.put, List.setIfInBounds_toArray, List.set_cons_zero, List.set_cons_succ]
        refine wpAnyH_take (i := 8) (v := ?_) (by simp; rfl) (by kernel_rfl) (by kernel_rfl) (by kernel_rfl) (fun _ _ _ h => h) (Or.inl ⟨by rfl, ?_⟩) hH1 ?_
        rotate_left
        · intro w' hS
          obtain ⟨p1, p2, p3⟩ := hS
          go_simp
          rfl
        simp only [Act.put, List.setIfInBounds_toArray, List.set_cons_zero, List.set_cons_succ]
        refine wpAnyH_take (i := 9) (v := ?_) (by simp; rfl) (by kernel_rfl) (by kernel_rfl) (by kernel_rfl) (fun _ _ _ h => h) (Or.inl ⟨by rfl, ?_⟩) hH1 ?_
        rotate_left
        · intro w' hS
          obtain ⟨p1, p2, p3⟩ := hS
          go_simp
          rfl
        simp only [Act.put, List.setIfInBounds_toArray, List.set_cons_zero, List.set_cons_succ]
        refine wpAnyH_take (i := 10) (v := ?_) (by simp; rfl) (by kernel_rfl) (by kernel_rfl) (by kernel_rfl) (fun _ _ _ h => h) (Or.inl ⟨by rfl, ?_⟩) hH1 ?_
        rotate_left
        · intro w' hS
          obtain ⟨p1, p2, p3⟩ := hS
          go_simp
          rfl
        simp only [Act.put, List.setIfInBounds_toArray, List.set_cons_zero, List.set_cons_succ]
        refine wpAnyH_ready (rs := [6]) (by kernel_rfl) (by simp) ?_
        refine AllReadyH.cons (by simp; rfl) (fun K hK => ?_) AllReadyH.nil
        go_simp
        go_at_call 13
        refine (floor_any m floor now hm1 hm2 hn1 hn2 (some ⟨g, 0, none⟩) len c hml T _ hL1.arg).mono ?_
        rintro en x2 ⟨rfl, hb2⟩
        have hH2 : RdM m w.heap.size x2 := hH1.keep (hb2.block _ hz1)
        have hB2 : Below w.heap.size w x2 := hB1.trans (hb2.mono hB1.size)
        have hz2 : w.heap.size < x2.heap.size := Nat.lt_of_lt_of_le hz1 hb2.size
        have hL2 : LentI (w5.alloc (.cells m.cells 23)).heap.size x2 g c len T := hL1.keep hb2
        refine hK.out _ _ hH2 (fun hHeld => ?_)
        clear hK K hHeld
        try simp only [Act.put, List.setIfInBounds_toArray, List.set_cons_zero, List.set_cons_succ]
        refine wpAnyH_ready (rs := [11]) (by kernel_rfl) (by simp) ?_
        refine AllReadyH.cons (by simp; rfl) (fun K hK => ?_) AllReadyH.nil
        go_simp
        go_at_call 14
        refine (rfloor_any m floor now hm1 hm2 hn1 hn2 ao len cap hml2 T _ (HA.out.low hB2 |>.up hB2.size)).mono ?_
        rintro en x3 ⟨rfl, hb3⟩
        have hH3 : RdM m w.heap.size x3 := hH2.keep (hb3.block _ hz2)
        have hB3 : Below w.heap.size w x3 := hB2.trans (hb3.mono hB2.size)
        have hz3 : w.heap.size < x3.heap.size := Nat.lt_of_lt_of_le hz2 hb3.size
        have hL3 : LentI (w5.alloc (.cells m.cells 23)).heap.size x3 g c len T := hL2.keep hb3
        refine hK.out _ _ hH3 (fun hHeld => ?_)
        clear hK K hHeld
        try simp only [Act.put, List.setIfInBounds_toArray, List.set_cons_zero, List.set_cons_succ]
        refine wpAnyH_take (i := 12) (v := ?_) (by simp; rfl) (by kernel_rfl) (by kernel_rfl) (by kernel_rfl) (fun _ _ _ h => h) (Or.inl ⟨by rfl, ?_⟩) hH3 ?_
        rotate_left
        · intro w' hS
          obtain ⟨p1, p2, p3⟩ := hS
          go_simp
          rfl
        simp only [Act.put, List.setIfInBounds_toArray, List.set_cons_zero, List.set_cons_succ]
        refine wpAnyH_take (i := 13) (v := ?_) (by simp; rfl) (by kernel_rfl) (by kernel_rfl) (by kernel_rfl) (fun _ _ _ h => h) (Or.inl ⟨by rfl, ?_⟩) hH3 ?_
        rotate_left
        · intro w' hS
          obtain ⟨p1, p2, p3⟩ := hS
          go_simp
          rfl
        simp only [Act.put, List.setIfInBounds_toArray, List.set_cons_zero, List.set_cons_succ]
        refine wpAnyH_take (i := 14) (v := ?_) (by simp; rfl) (by kernel_rfl) (by kernel_rfl) (by kernel_rfl) (fun _ _ _ h => h) (Or.inl ⟨by rfl, ?_⟩) hH3 ?_
        rotate_left
        · intro w' hS
          obtain ⟨p1, p2, p3⟩ := hS
          go_simp
          rfl
        simp only [Act.put, List.setIfInBounds_toArray, List.set_cons_zero, List.set_cons_succ]
        refine wpAnyH_take (i := 15) (v := ?_) (by simp; rfl) (by kernel_rfl) (by kernel_rfl) (by kernel_rfl) (fun _ _ _ h => h) (Or.inl ⟨by rfl, ?_⟩) hH3 ?_
        rotate_left
        · intro w' hS
          obtain ⟨p1, p2, p3⟩ := hS
          go_simp
          rfl
        simp only [Act.put, List.setIfInBounds_toArray, List.set_cons_zero, List.set_cons_succ]
        refine wpAnyH_take (i := 16) (v := ?_) (by simp; rfl) (by kernel_rfl) (by kernel_rfl) (by kernel_rfl) (fun _ _ _ h => h) (Or.inl ⟨by rfl, ?_⟩) hH3 ?_
        rotate_left
        · intro w' hS
          obtain ⟨p1, p2, p3⟩ := hS
          go_simp
          rfl
        simp only [Act.put, List.setIfInBounds_toArray, List.set_cons_zero, List.set_cons_succ]
        refine wpAnyH_ready (rs := [17]) (by kernel_rfl) (by simp) ?_
        refine AllReadyH.cons (by simp; rfl) (fun K hK => ?_) AllReadyH.nil
        go_simp
        go_at_call 15
        refine (staysInts_any (w5.alloc (.cells m.cells 23)).heap.size g c ao len cap hml3 T _ hL3 (HA.out.low hB3 |>.up hB3.size)).mono ?_
        rintro en x4 ⟨rfl, hb4⟩
        have hH4 : RdM m w.heap.size x4 := hH3.keep (hb4.block _ hz3)
        have hB4 : Below w.heap.size w x4 := hB3.trans (hb4.mono hB3.size)
        have hz4 : w.heap.size < x4.heap.size := Nat.lt_of_lt_of_le hz3 hb4.size
        have hL4 : LentI (w5.alloc (.cells m.cells 23)).heap.size x4 g c len T := hL3.keep hb4
        refine hK.out _ _ hH4 (fun hHeld => ?_)
        clear hK K hHeld
        try simp only [Act.put, List.setIfInBounds_toArray, List.set_cons_zero, List.set_cons_succ]
        refine wpAnyH_take (i := 18) (v := ?_) (by simp; rfl) (by kernel_rfl) (by kernel_rfl) (by kernel_rfl) (fun _ _ _ h => h) (Or.inl ⟨by rfl, ?_⟩) hH4 ?_
        rotate_left
        · intro w' hS
          obtain ⟨p1, p2, p3⟩ := hS
          go_simp
          rfl
        simp only [Act.put, List.setIfInBounds_toArray, List.set_cons_zero, List.set_cons_succ]
        refine wpAnyH_take (i := 19) (v := ?_) (by simp; rfl) (by kernel_rfl) (by kernel_rfl) (by kernel_rfl) (fun _ _ _ h => h) (Or.inl ⟨by rfl, ?_⟩) hH4 ?_
        rotate_left
        · intro w' hS
          obtain ⟨p1, p2, p3⟩ := hS
          go_simp
          rfl
        simp only [Act.put, List.setIfInBounds_toArray, List.set_cons_zero, List.set_cons_succ]
        refine wpAnyH_done (by kernel_rfl) ?_ _
        dsimp only [onlyK]
        go_wp2_with fail
        go_ret
        exact ⟨rfl, hB4⟩
end Go.Proofs.YtiblkfhcpepnfaaDoor
