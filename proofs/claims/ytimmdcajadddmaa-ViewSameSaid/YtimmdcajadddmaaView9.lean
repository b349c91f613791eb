/-
  ViewSame, walked. Conditions: none.
-/
import Derived.Test.YtimmdcajadddmaaView8
import Derived.Deep.CutBlock
import Derived.Deep.DeepCutAuto
import Derived.Deep.RegionHeld3
namespace Go.Proofs.Ytimmdcajadddmaa
open Go.RowKit Go.Lib

def pairE (a b : Ev) : Nat → Ev
  | 0 => a
  | _ => b
theorem arg2 {W : World} {g n₀ : Nat} {a b : Ev} (hb : g < n₀) (h : W.heap[g]? = some (.cells (a.cells ++ b.cells) 29)) : EvArg n₀ W (some ⟨g, 0, none⟩) 2 (pairE a b) :=
  ⟨fun _ => ⟨g, 0, rfl, hb, by
    refine ⟨lt_of_block h, ?_, ?_, ?_, ?_, ?_, ?_, ?_, ?_⟩
    all_goals
      intro i hi
      obtain rfl | rfl : i = 0 ∨ i = 1 := by omega
      all_goals simp [World.cell?, h, pairE, Ev.cells]⟩⟩

/-- What stands behind the change. -/
structure Chg (W : World) (a b : Ev) (c : Ev) (w : World) : Prop where
  ne : sameS a c = false
  ca : w.heap[W.heap.size]? = some (.cells a.cells 29)
  cb : w.heap[W.heap.size + 1]? = some (.cells b.cells 29)
  cc : w.heap[W.heap.size + 3]? = some (.cells c.cells 29)
  below : Below W.heap.size W w
theorem Chg.of (W : World) (a b c : Ev) (s : Obj) (h : sameS a c = false) : Chg W a b c ((((W.alloc (.cells a.cells 29)).alloc (.cells b.cells 29)).alloc s).alloc (.cells c.cells 29)) := by
  refine ⟨h, ?_, ?_, ?_, ((((Below.refl _ W).alloc (Nat.le_refl _) _).alloc (by simp) _).alloc (by simp; omega) _).alloc (by simp; omega) _⟩
  · simp only [heap_alloc_if, size_alloc_one]
    rw [if_neg (by omega), if_neg (by omega), if_neg (by omega)]
    simp
  all_goals simp only [heap_alloc_if, size_alloc_one]
  all_goals simp

theorem xor_ne (n : Int) : bits .xor .i64 n 1 ≠ n := by
  intro h
  have h2 : BitVec.ofInt 64 (bits .xor .i64 n 1) = BitVec.ofInt 64 n := by rw [h]
  have hw : ∀ y : BitVec 64, BitVec.ofInt 64 (IntKind.i64.wrap (y.toNat : Int)) = y := fun y => by
    apply BitVec.eq_of_toNat_eq
    rw [BitVec.toNat_ofInt]
    have hl := y.isLt
    rw [IntKind.wrap_i64]
    omega
  have e : bits .xor .i64 n 1 = IntKind.i64.wrap ((BitVec.ofInt 64 n ^^^ BitVec.ofInt 64 1).toNat : Int) := rfl
  rw [e, hw] at h2
  have h3 : BitVec.ofInt 64 n ^^^ (BitVec.ofInt 64 n ^^^ BitVec.ofInt 64 1) = BitVec.ofInt 64 n ^^^ BitVec.ofInt 64 n := by rw [h2]
  rw [← BitVec.xor_assoc, BitVec.xor_self, BitVec.zero_xor] at h3
  exact absurd h3 (by decide)
theorem same_id (a : Ev) (x : Int) (h : x ≠ a.id) : sameS a {a with id := x} = false := by simp [sameS, sameE, Ne.symm h]
theorem same_version (a : Ev) (x : Int) (h : x ≠ a.version) : sameS a {a with version := x} = false := by simp [sameS, sameE, Ne.symm h]
theorem same_position (a : Ev) (x : Int) (h : x ≠ a.position) : sameS a {a with position := x} = false := by simp [sameS, sameE, Ne.symm h]
theorem same_time (a : Ev) (x : Int) (h : x ≠ a.time) : sameS a {a with time := x} = false := by simp [sameS, sameE, Ne.symm h]
theorem same_value (a : Ev) (x : Nat) (h : sameW a.value x = false) : sameS a {a with value := x} = false := by simp [sameS, sameE, h]
theorem value_one (v : Nat) (h : (FloatKind.f64.format.order v 4607182418800017408 == some .eq) = false) : sameW v 4607182418800017408 = false := by
  unfold sameW
  rw [oneW_not (show nanW 4607182418800017408 = false by decide +kernel)]
  cases hn : nanW v
  · rw [oneW_not hn]
    apply beq_eq_false_iff_ne.2
    rintro rfl
    revert h
    decide +kernel
  · rw [oneW_nan hn]; decide
theorem value_two (v : Nat) (h : (FloatKind.f64.format.order v 4607182418800017408 == some .eq) = true) : sameW v 4611686018427387904 = false := by
  unfold sameW
  rw [oneW_not (show nanW 4611686018427387904 = false by decide +kernel)]
  cases hn : nanW v
  · rw [oneW_not hn]
    apply beq_eq_false_iff_ne.2
    rintro rfl
    revert h
    decide +kernel
  · rw [oneW_nan hn]; decide
theorem same_self (a : Ev) : sameS a a = true := by simp [sameS, sameE, sameW]
theorem bq {α : Type} [BEq α] [LawfulBEq α] (x y : α) : (x == y) = (y == x) := by
  rw [Bool.eq_iff_iff, beq_iff_eq, beq_iff_eq]; exact eq_comm
theorem same_comm (a b : Ev) : sameS a b = sameS b a := by
  unfold sameS sameE sameW
  rw [bq a.id, bq a.ty.toList, bq a.data.toList, bq (oneW a.value), bq a.stream.toList, bq a.version, bq a.position, bq a.time]
theorem str_ne (s : ByteArray) : (s.toList == (s ++ (⟨#[120]⟩ : ByteArray)).toList) = false := by
  apply beq_eq_false_iff_ne.2
  rw [ByteArray.toList_eq, ByteArray.toList_eq]
  intro h
  have := congrArg List.length h
  simp at this
theorem same_ty (a : Ev) : sameS a {a with ty := a.ty ++ (⟨#[120]⟩ : ByteArray)} = false := by
  unfold sameS sameE
  simp [str_ne]
theorem same_data (a : Ev) : sameS a {a with data := a.data ++ (⟨#[120]⟩ : ByteArray)} = false := by
  unfold sameS sameE
  simp [str_ne]
theorem same_stream (a : Ev) : sameS a {a with stream := a.stream ++ (⟨#[120]⟩ : ByteArray)} = false := by
  unfold sameS sameE
  simp [str_ne]

/-- The three events lie in their boxes. -/
def RdV (W : World) (a b c : Ev) (w' : World) : Prop := RdF a W.heap.size w' ∧ RdF b (W.heap.size + 1) w' ∧ RdF c (W.heap.size + 3) w'
theorem RdV.grow {W A A' : World} {a b c : Ev} (h : RdV W a b c A) (hz : W.heap.size + 3 < A.heap.size) (hB : Below W.heap.size W A) (hb : Below A.heap.size A A') : RdV W a b c A' ∧ W.heap.size + 3 < A'.heap.size ∧ Below W.heap.size W A' := by
  have := hb.size
  exact ⟨⟨h.1.keep (hb.block _ (by omega)), h.2.1.keep (hb.block _ (by omega)), h.2.2.keep (hb.block _ (by omega))⟩, by omega, hB.trans (hb.mono (by omega))⟩

set_option maxRecDepth 100000 in
set_option maxHeartbeats 4000000 in
theorem viewSame_any (a b : Ev) (ha : EvOk a) (how : Int) (W : World) : Calls Try.prog 5 #[a.val, b.val, .int .i64 how] W fun e w' => e = .returned (.bool true) ∧ Below W.heap.size W w' := by
  have hsf : ∀ (w : World) (a : Addr) (k : FloatKind) (b : Nat) (m : Mode), (store a (.float k b) m).run Try.prog w = stored Try.prog w a (.float k b) m := fun w a k b m => run_store Try.prog w a _ m rfl
  have HA := Lib.hid ha; clear ha
  go_enter Try.func5, Try.ntmps5
  go_upto_block 0 with (first
    | (go_at_call 7
       refine (few_any 2 (by decide) (some ⟨W.heap.size + 1 + 1, 0, none⟩) 2 2 (pairE a b) _ (arg2 (by simp) (by simp only [heap_alloc_if, size_alloc_one]; simp; rfl))).mono ?_
       rintro e w1 ⟨bb, rfl, hfw, hw⟩
       subst hw
       replace hfw := Lib.hid hfw
       rcases bb with _ | _)
    | (go_at_call 8
       refine (alive_view _).mono ?_
       rintro e w1 ⟨rfl, hb1⟩
       replace hb1 := Lib.hid hb1))
  · go_ret
    refine ⟨rfl, Below.trans (b := (((W.alloc (.cells a.cells 29)).alloc (.cells b.cells 29)).alloc (.cells (a.cells ++ b.cells) 29))) ((((Below.refl _ W).alloc (Nat.le_refl _) _).alloc (by simp) _).alloc (by simp; omega) _) (hb1.out.mono (by simp; omega))⟩
  · go_cut [] from 15 to 72 (fun wx => ∃ c, Chg W a b c wx)
    case first =>
      have hb3 := (hfw.out trivial).2 0 (by omega)
      have k1 : ¬ (9223372036854775807 < a.ty.size + 1) := by have : a.ty.size ≤ 100 := hb3.2.1; omega
      have k2 : ¬ (9223372036854775807 < a.data.size + 1) := by have : a.data.size ≤ 300 := hb3.2.2; omega
      have k3 : ¬ (9223372036854775807 < a.stream.size + 1) := by have : a.stream.size ≤ 100 := hb3.1; omega
      clear hb3
      cases hfl : (FloatKind.f64.format.order a.value 4607182418800017408 == some .eq)
      all_goals
        go_wp2_with fail
        all_goals go_meet
        all_goals first
          | exact ⟨{a with id := bits .xor .i64 a.id 1}, Chg.of W a b _ _ (same_id a _ (xor_ne _))⟩
          | exact ⟨{a with ty := a.ty ++ (⟨#[120]⟩ : ByteArray)}, Chg.of W a b _ _ (same_ty a)⟩
          | exact ⟨{a with data := a.data ++ (⟨#[120]⟩ : ByteArray)}, Chg.of W a b _ _ (same_data a)⟩
          | exact ⟨{a with stream := a.stream ++ (⟨#[120]⟩ : ByteArray)}, Chg.of W a b _ _ (same_stream a)⟩
          | exact ⟨{a with version := bits .xor .i64 a.version 1}, Chg.of W a b _ _ (same_version a _ (xor_ne _))⟩
          | exact ⟨{a with position := bits .xor .i64 a.position 1}, Chg.of W a b _ _ (same_position a _ (xor_ne _))⟩
          | exact ⟨{a with time := bits .xor .i64 a.time 1}, Chg.of W a b _ _ (same_time a _ (xor_ne _))⟩
          | exact ⟨{a with value := 4607182418800017408}, Chg.of W a b _ _ (same_value a _ (value_one _ hfl))⟩
          | exact ⟨{a with value := 4611686018427387904}, Chg.of W a b _ _ (same_value a _ (value_two _ hfl))⟩
          | trace_state
    case rest =>
      obtain ⟨c, hC⟩ := hcut
      have hm : Try.prog.follows .mixedOrders = true := by kernel_rfl
      have hH0 : RdV W a b c wc.drew := ⟨RdF.of hC.ca, RdF.of hC.cb, RdF.of hC.cc⟩
      have hz0 : W.heap.size + 3 < wc.drew.heap.size := lt_of_block hC.cc
      have hB0 : Below W.heap.size W wc.drew := hC.below.trans ⟨rfl, rfl, rfl, Nat.le_refl _, fun _ _ => rfl⟩
      have hne := Lib.hid hC.ne
      clear hC hfw
      obtain ⟨r, hr⟩ : ∃ r, sameS a b = r := ⟨_, rfl⟩
      replace hr := Lib.hid hr
      go_upto_region 22 with fail
      refine plain_region hm (wpAny_of_held (S := RdV W a b c) _ _ _ _ ?_)
      refine wpAnyH_ready (rs := [0]) (by kernel_rfl) (by simp) ?_
      refine AllReadyH.cons (by simp; rfl) (fun K hK => ?_) AllReadyH.nil
      go_simp
      go_at_call 8
      refine (alive_view _).mono ?_
      rintro en x1 ⟨rfl, hb1⟩
      obtain ⟨hH1, hz1, hB1⟩ := RdV.grow hH0 hz0 hB0 hb1
      clear hb1
      refine hK.out _ _ hH1 (fun hHeld => ?_)
      clear hK K hHeld
      try simp only [Act.put, List.setIfInBounds_toArray, List.set_cons_zero, List.set_cons_succ]
      refine wpAnyH_take (i := 1) (v := ?_) (by simp; rfl) (by kernel_rfl) (by kernel_rfl) (by kernel_rfl) (fun _ _ _ h => h) (Or.inl ⟨by rfl, ?_⟩) hH1 ?_
      rotate_left
      · intro w' hS
        obtain ⟨⟨s1, s2, s3, s4, s5, s6, s7, s8⟩, ⟨p1, p2, p3, p4, p5, p6, p7, p8⟩, ⟨q1, q2, q3, q4, q5, q6, q7, q8⟩⟩ := hS
        go_simp
        rfl
      simp only [Act.put, List.setIfInBounds_toArray, List.set_cons_zero, List.set_cons_succ]
      refine wpAnyH_take (i := 2) (v := ?_) (by simp; rfl) (by kernel_rfl) (by kernel_rfl) (by kernel_rfl) (fun _ _ _ h => h) (Or.inl ⟨by rfl, ?_⟩) hH1 ?_
      rotate_left
      · intro w' hS
        obtain ⟨⟨s1, s2, s3, s4, s5, s6, s7, s8⟩, ⟨p1, p2, p3, p4, p5, p6, p7, p8⟩, ⟨q1, q2, q3, q4, q5, q6, q7, q8⟩⟩ := hS
        go_simp
        rfl
      simp only [Act.put, List.setIfInBounds_toArray, List.set_cons_zero, List.set_cons_succ]
      refine wpAnyH_take (i := 3) (v := ?_) (by simp; rfl) (by kernel_rfl) (by kernel_rfl) (by kernel_rfl) (fun _ _ _ h => h) (Or.inl ⟨by rfl, ?_⟩) hH1 ?_
      rotate_left
      · intro w' hS
        obtain ⟨⟨s1, s2, s3, s4, s5, s6, s7, s8⟩, ⟨p1, p2, p3, p4, p5, p6, p7, p8⟩, ⟨q1, q2, q3, q4, q5, q6, q7, q8⟩⟩ := hS
        go_simp
        rfl
      simp only [Act.put, List.setIfInBounds_toArray, List.set_cons_zero, List.set_cons_succ]
      refine wpAnyH_ready (rs := [4]) (by kernel_rfl) (by simp) ?_
      refine AllReadyH.cons (by simp; rfl) (fun K hK => ?_) AllReadyH.nil
      go_simp
      go_at_call 12
      refine (same_any a a _).mono ?_
      rintro en x2 ⟨rfl, hb2⟩
      rw [same_self]
      obtain ⟨hH2, hz2, hB2⟩ := RdV.grow hH1 hz1 hB1 hb2
      clear hb2
      refine hK.out _ _ hH2 (fun hHeld => ?_)
      clear hK K hHeld
      try simp only [Act.put, List.setIfInBounds_toArray, List.set_cons_zero, List.set_cons_succ]
      refine wpAnyH_take (i := 5) (v := ?_) (by simp; rfl) (by kernel_rfl) (by kernel_rfl) (by kernel_rfl) (fun _ _ _ h => h) (Or.inl ⟨by rfl, ?_⟩) hH2 ?_
      rotate_left
      · intro w' hS
        obtain ⟨⟨s1, s2, s3, s4, s5, s6, s7, s8⟩, ⟨p1, p2, p3, p4, p5, p6, p7, p8⟩, ⟨q1, q2, q3, q4, q5, q6, q7, q8⟩⟩ := hS
        go_simp
        rfl
      simp only [Act.put, List.setIfInBounds_toArray, List.set_cons_zero, List.set_cons_succ]
      refine wpAnyH_take (i := 6) (v := ?_) (by simp; rfl) (by kernel_rfl) (by kernel_rfl) (by kernel_rfl) (fun _ _ _ h => h) (Or.inl ⟨by rfl, ?_⟩) hH2 ?_
      rotate_left
      · intro w' hS
        obtain ⟨⟨s1, s2, s3, s4, s5, s6, s7, s8⟩, ⟨p1, p2, p3, p4, p5, p6, p7, p8⟩, ⟨q1, q2, q3, q4, q5, q6, q7, q8⟩⟩ := hS
        go_simp
        rfl
      simp only [Act.put, List.setIfInBounds_toArray, List.set_cons_zero, List.set_cons_succ]
      refine wpAnyH_take (i := 7) (v := ?_) (by simp; rfl) (by kernel_rfl) (by kernel_rfl) (by kernel_rfl) (fun _ _ _ h => h) (Or.inl ⟨by rfl, ?_⟩) hH2 ?_
      rotate_left
      · intro w' hS
        obtain ⟨⟨s1, s2, s3, s4, s5, s6, s7, s8⟩, ⟨p1, p2, p3, p4, p5, p6, p7, p8⟩, ⟨q1, q2, q3, q4, q5, q6, q7, q8⟩⟩ := hS
        go_simp
        rfl
      simp only [Act.put, List.setIfInBounds_toArray, List.set_cons_zero, List.set_cons_succ]
      refine wpAnyH_take (i := 8) (v := ?_) (by simp; rfl) (by kernel_rfl) (by kernel_rfl) (by kernel_rfl) (fun _ _ _ h => h) (Or.inl ⟨by rfl, ?_⟩) hH2 ?_
      rotate_left
      · intro w' hS
        obtain ⟨⟨s1, s2, s3, s4, s5, s6, s7, s8⟩, ⟨p1, p2, p3, p4, p5, p6, p7, p8⟩, ⟨q1, q2, q3, q4, q5, q6, q7, q8⟩⟩ := hS
        go_simp
        rfl
      simp only [Act.put, List.setIfInBounds_toArray, List.set_cons_zero, List.set_cons_succ]
      refine wpAnyH_take (i := 10) (v := ?_) (by simp; rfl) (by kernel_rfl) (by kernel_rfl) (by kernel_rfl) (fun _ _ _ h => h) (Or.inl ⟨by rfl, ?_⟩) hH2 ?_
      rotate_left
      · intro w' hS
        obtain ⟨⟨s1, s2, s3, s4, s5, s6, s7, s8⟩, ⟨p1, p2, p3, p4, p5, p6, p7, p8⟩, ⟨q1, q2, q3, q4, q5, q6, q7, q8⟩⟩ := hS
        go_simp
        rfl
      simp only [Act.put, List.setIfInBounds_toArray, List.set_cons_zero, List.set_cons_succ]
      refine wpAnyH_take (i := 11) (v := ?_) (by simp; rfl) (by kernel_rfl) (by kernel_rfl) (by kernel_rfl) (fun _ _ _ h => h) (Or.inl ⟨by rfl, ?_⟩) hH2 ?_
      rotate_left
      · intro w' hS
        obtain ⟨⟨s1, s2, s3, s4, s5, s6, s7, s8⟩, ⟨p1, p2, p3, p4, p5, p6, p7, p8⟩, ⟨q1, q2, q3, q4, q5, q6, q7, q8⟩⟩ := hS
        go_simp
        rfl
      simp only [Act.put, List.setIfInBounds_toArray, List.set_cons_zero, List.set_cons_succ]
      refine wpAnyH_ready (rs := [9]) (by kernel_rfl) (by simp) ?_
      refine AllReadyH.cons (by simp; rfl) (fun K hK => ?_) AllReadyH.nil
      go_simp
      go_at_call 12
      refine (same_any a b _).mono ?_
      rintro en x3 ⟨rfl, hb3⟩
      rw [hr.out]
      obtain ⟨hH3, hz3, hB3⟩ := RdV.grow hH2 hz2 hB2 hb3
      clear hb3
      refine hK.out _ _ hH3 (fun hHeld => ?_)
      clear hK K hHeld
      try simp only [Act.put, List.setIfInBounds_toArray, List.set_cons_zero, List.set_cons_succ]
      refine wpAnyH_ready (rs := [12]) (by kernel_rfl) (by simp) ?_
      refine AllReadyH.cons (by simp; rfl) (fun K hK => ?_) AllReadyH.nil
      go_simp
      go_at_call 12
      refine (same_any b a _).mono ?_
      rintro en x4 ⟨rfl, hb4⟩
      rw [← same_comm, hr.out]
      obtain ⟨hH4, hz4, hB4⟩ := RdV.grow hH3 hz3 hB3 hb4
      clear hb4
      refine hK.out _ _ hH4 (fun hHeld => ?_)
      clear hK K hHeld
      try simp only [Act.put, List.setIfInBounds_toArray, List.set_cons_zero, List.set_cons_succ]
      refine wpAnyH_take (i := 13) (v := ?_) (by simp; rfl) (by kernel_rfl) (by kernel_rfl) (by kernel_rfl) (fun _ _ _ h => h) (Or.inl ⟨by rfl, ?_⟩) hH4 ?_
      rotate_left
      · intro w' hS
        obtain ⟨⟨s1, s2, s3, s4, s5, s6, s7, s8⟩, ⟨p1, p2, p3, p4, p5, p6, p7, p8⟩, ⟨q1, q2, q3, q4, q5, q6, q7, q8⟩⟩ := hS
        go_simp
        rfl
      simp only [Act.put, List.setIfInBounds_toArray, List.set_cons_zero, List.set_cons_succ]
      refine wpAnyH_take (i := 14) (v := ?_) (by simp; rfl) (by kernel_rfl) (by kernel_rfl) (by kernel_rfl) (fun _ _ _ h => h) (Or.inl ⟨by rfl, ?_⟩) hH4 ?_
      rotate_left
      · intro w' hS
        obtain ⟨⟨s1, s2, s3, s4, s5, s6, s7, s8⟩, ⟨p1, p2, p3, p4, p5, p6, p7, p8⟩, ⟨q1, q2, q3, q4, q5, q6, q7, q8⟩⟩ := hS
        go_simp
        rfl
      simp only [Act.put, List.setIfInBounds_toArray, List.set_cons_zero, List.set_cons_succ]
      refine wpAnyH_take (i := 15) (v := ?_) (by simp; rfl) (by kernel_rfl) (by kernel_rfl) (by kernel_rfl) (fun _ _ _ h => h) (Or.inl ⟨by rfl, ?_⟩) hH4 ?_
      rotate_left
      · intro w' hS
        obtain ⟨⟨s1, s2, s3, s4, s5, s6, s7, s8⟩, ⟨p1, p2, p3, p4, p5, p6, p7, p8⟩, ⟨q1, q2, q3, q4, q5, q6, q7, q8⟩⟩ := hS
        go_simp
        rfl
      simp only [Act.put, List.setIfInBounds_toArray, List.set_cons_zero, List.set_cons_succ]
      refine wpAnyH_take (i := 16) (v := ?_) (by simp; rfl) (by kernel_rfl) (by kernel_rfl) (by kernel_rfl) (fun _ _ _ h => h) (Or.inl ⟨by rfl, ?_⟩) hH4 ?_
      rotate_left
      · intro w' hS
        obtain ⟨⟨s1, s2, s3, s4, s5, s6, s7, s8⟩, ⟨p1, p2, p3, p4, p5, p6, p7, p8⟩, ⟨q1, q2, q3, q4, q5, q6, q7, q8⟩⟩ := hS
        go_simp
        rfl
      simp only [Act.put, List.setIfInBounds_toArray, List.set_cons_zero, List.set_cons_succ]
      refine wpAnyH_take (i := 17) (v := ?_) (by simp; rfl) (by kernel_rfl) (by kernel_rfl) (by kernel_rfl) (fun _ _ _ h => h) (Or.inl ⟨by rfl, ?_⟩) hH4 ?_
      rotate_left
      · intro w' hS
        obtain ⟨⟨s1, s2, s3, s4, s5, s6, s7, s8⟩, ⟨p1, p2, p3, p4, p5, p6, p7, p8⟩, ⟨q1, q2, q3, q4, q5, q6, q7, q8⟩⟩ := hS
        go_simp
        rfl
      simp only [Act.put, List.setIfInBounds_toArray, List.set_cons_zero, List.set_cons_succ]
      refine wpAnyH_take (i := 19) (v := ?_) (by simp; rfl) (by kernel_rfl) (by kernel_rfl) (by kernel_rfl) (fun _ _ _ h => h) (Or.inl ⟨by rfl, ?_⟩) hH4 ?_
      rotate_left
      · intro w' hS
        obtain ⟨⟨s1, s2, s3, s4, s5, s6, s7, s8⟩, ⟨p1, p2, p3, p4, p5, p6, p7, p8⟩, ⟨q1, q2, q3, q4, q5, q6, q7, q8⟩⟩ := hS
        go_simp
        rfl
      simp only [Act.put, List.setIfInBounds_toArray, List.set_cons_zero, List.set_cons_succ]
      refine wpAnyH_take (i := 20) (v := ?_) (by simp; rfl) (by kernel_rfl) (by kernel_rfl) (by kernel_rfl) (fun _ _ _ h => h) (Or.inl ⟨by rfl, ?_⟩) hH4 ?_
      rotate_left
      · intro w' hS
        obtain ⟨⟨s1, s2, s3, s4, s5, s6, s7, s8⟩, ⟨p1, p2, p3, p4, p5, p6, p7, p8⟩, ⟨q1, q2, q3, q4, q5, q6, q7, q8⟩⟩ := hS
        go_simp
        rfl
      simp only [Act.put, List.setIfInBounds_toArray, List.set_cons_zero, List.set_cons_succ]
      refine wpAnyH_ready (rs := [18]) (by kernel_rfl) (by simp) ?_
      refine AllReadyH.cons (by simp; rfl) (fun K hK => ?_) AllReadyH.nil
      go_simp
      go_at_call 12
      refine (same_any a b _).mono ?_
      rintro en x5 ⟨rfl, hb5⟩
      rw [hr.out]
      obtain ⟨hH5, hz5, hB5⟩ := RdV.grow hH4 hz4 hB4 hb5
      clear hb5
      refine hK.out _ _ hH5 (fun hHeld => ?_)
      clear hK K hHeld
      try simp only [Act.put, List.setIfInBounds_toArray, List.set_cons_zero, List.set_cons_succ]
      refine wpAnyH_ready (rs := [21]) (by kernel_rfl) (by simp) ?_
      refine AllReadyH.cons (by simp; rfl) (fun K hK => ?_) AllReadyH.nil
      go_simp
      go_at_call 13
      refine (dsameStored_any a b _).mono ?_
      rintro en x6 ⟨rfl, hb6⟩
      rw [hr.out]
      obtain ⟨hH6, hz6, hB6⟩ := RdV.grow hH5 hz5 hB5 hb6
      clear hb6
      refine hK.out _ _ hH6 (fun hHeld => ?_)
      clear hK K hHeld
      try simp only [Act.put, List.setIfInBounds_toArray, List.set_cons_zero, List.set_cons_succ]
      refine wpAnyH_take (i := 22) (v := ?_) (by simp; rfl) (by kernel_rfl) (by kernel_rfl) (by kernel_rfl) (fun _ _ _ h => h) (Or.inl ⟨by rfl, ?_⟩) hH6 ?_
      rotate_left
      · intro w' hS
        obtain ⟨⟨s1, s2, s3, s4, s5, s6, s7, s8⟩, ⟨p1, p2, p3, p4, p5, p6, p7, p8⟩, ⟨q1, q2, q3, q4, q5, q6, q7, q8⟩⟩ := hS
        go_simp
        rfl
      simp only [Act.put, List.setIfInBounds_toArray, List.set_cons_zero, List.set_cons_succ]
      refine wpAnyH_take (i := 23) (v := ?_) (by simp; rfl) (by kernel_rfl) (by kernel_rfl) (by kernel_rfl) (fun _ _ _ h => h) (Or.inl ⟨by rfl, ?_⟩) hH6 ?_
      rotate_left
      · intro w' hS
        obtain ⟨⟨s1, s2, s3, s4, s5, s6, s7, s8⟩, ⟨p1, p2, p3, p4, p5, p6, p7, p8⟩, ⟨q1, q2, q3, q4, q5, q6, q7, q8⟩⟩ := hS
        go_simp
        rfl
      simp only [Act.put, List.setIfInBounds_toArray, List.set_cons_zero, List.set_cons_succ]
      refine wpAnyH_take (i := 24) (v := ?_) (by simp; rfl) (by kernel_rfl) (by kernel_rfl) (by kernel_rfl) (fun _ _ _ h => h) (Or.inl ⟨by rfl, ?_⟩) hH6 ?_
      rotate_left
      · intro w' hS
        obtain ⟨⟨s1, s2, s3, s4, s5, s6, s7, s8⟩, ⟨p1, p2, p3, p4, p5, p6, p7, p8⟩, ⟨q1, q2, q3, q4, q5, q6, q7, q8⟩⟩ := hS
        go_simp
        rfl
      simp only [Act.put, List.setIfInBounds_toArray, List.set_cons_zero, List.set_cons_succ]
      refine wpAnyH_take (i := 25) (v := ?_) (by simp; rfl) (by kernel_rfl) (by kernel_rfl) (by kernel_rfl) (fun _ _ _ h => h) (Or.inl ⟨by rfl, ?_⟩) hH6 ?_
      rotate_left
      · intro w' hS
        obtain ⟨⟨s1, s2, s3, s4, s5, s6, s7, s8⟩, ⟨p1, p2, p3, p4, p5, p6, p7, p8⟩, ⟨q1, q2, q3, q4, q5, q6, q7, q8⟩⟩ := hS
        go_simp
        rfl
      simp only [Act.put, List.setIfInBounds_toArray, List.set_cons_zero, List.set_cons_succ]
      refine wpAnyH_take (i := 26) (v := ?_) (by simp; rfl) (by kernel_rfl) (by kernel_rfl) (by kernel_rfl) (fun _ _ _ h => h) (Or.inl ⟨by rfl, ?_⟩) hH6 ?_
      rotate_left
      · intro w' hS
        obtain ⟨⟨s1, s2, s3, s4, s5, s6, s7, s8⟩, ⟨p1, p2, p3, p4, p5, p6, p7, p8⟩, ⟨q1, q2, q3, q4, q5, q6, q7, q8⟩⟩ := hS
        go_simp
        rfl
      simp only [Act.put, List.setIfInBounds_toArray, List.set_cons_zero, List.set_cons_succ]
      refine wpAnyH_ready (rs := [27]) (by kernel_rfl) (by simp) ?_
      refine AllReadyH.cons (by simp; rfl) (fun K hK => ?_) AllReadyH.nil
      go_simp
      go_at_call 12
      refine (same_any a c _).mono ?_
      rintro en x7 ⟨rfl, hb7⟩
      rw [hne.out]
      obtain ⟨hH7, hz7, hB7⟩ := RdV.grow hH6 hz6 hB6 hb7
      clear hb7
      refine hK.out _ _ hH7 (fun hHeld => ?_)
      clear hK K hHeld
      try simp only [Act.put, List.setIfInBounds_toArray, List.set_cons_zero, List.set_cons_succ]
      refine wpAnyH_take (i := 28) (v := ?_) (by simp; rfl) (by kernel_rfl) (by kernel_rfl) (by kernel_rfl) (fun _ _ _ h => h) (Or.inl ⟨by rfl, ?_⟩) hH7 ?_
      rotate_left
      · intro w' hS
        obtain ⟨⟨s1, s2, s3, s4, s5, s6, s7, s8⟩, ⟨p1, p2, p3, p4, p5, p6, p7, p8⟩, ⟨q1, q2, q3, q4, q5, q6, q7, q8⟩⟩ := hS
        go_simp
        rfl
      simp only [Act.put, List.setIfInBounds_toArray, List.set_cons_zero, List.set_cons_succ]
      refine wpAnyH_take (i := 29) (v := ?_) (by simp; rfl) (by kernel_rfl) (by kernel_rfl) (by kernel_rfl) (fun _ _ _ h => h) (Or.inl ⟨by rfl, ?_⟩) hH7 ?_
      rotate_left
      · intro w' hS
        obtain ⟨⟨s1, s2, s3, s4, s5, s6, s7, s8⟩, ⟨p1, p2, p3, p4, p5, p6, p7, p8⟩, ⟨q1, q2, q3, q4, q5, q6, q7, q8⟩⟩ := hS
        go_simp
        rfl
      simp only [Act.put, List.setIfInBounds_toArray, List.set_cons_zero, List.set_cons_succ]
      refine wpAnyH_take (i := 30) (v := ?_) (by simp; rfl) (by kernel_rfl) (by kernel_rfl) (by kernel_rfl) (fun _ _ _ h => h) (Or.inl ⟨by rfl, ?_⟩) hH7 ?_
      rotate_left
      · intro w' hS
        obtain ⟨⟨s1, s2, s3, s4, s5, s6, s7, s8⟩, ⟨p1, p2, p3, p4, p5, p6, p7, p8⟩, ⟨q1, q2, q3, q4, q5, q6, q7, q8⟩⟩ := hS
        go_simp
        rfl
      simp only [Act.put, List.setIfInBounds_toArray, List.set_cons_zero, List.set_cons_succ]
      refine wpAnyH_done (by kernel_rfl) ?_ _
      dsimp only [onlyK]
      go_wp2
      go_ret
      exact ⟨rfl, hB7⟩
end Go.Proofs.Ytimmdcajadddmaa
