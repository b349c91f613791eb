/-
  CodecWrites, the walk: every things, put one behind the other: their bytes, or the first error. Conditions: none.
-/
import Derived.Test.YtganeocegdkddaaDoorOps
import Derived.Test.YtganeocegdkddaaDoorRC
import Derived.Lib.Builder
namespace Go.Proofs.YtganeocegdkddaaDoor
open Go.RowKit Go.Lib

/-- Both Outs hold the same. -/
structure WAt (B O X : Nat) (v u : Value) (s : ByteArray) (e : Int) (w : World) : Prop where
  o : OutAt B O v s e w
  x : ROutAt B X u s e w
  sep : ∀ g, v.ownBlock = some g → u.ownBlock ≠ some g

section
variable {B O X : Nat} {v u v' u' : Value} {s s' : ByteArray} {e e' : Int} {w w1 w2 : World}
theorem WAt.ne (h : WAt B O X v u s e w) : X ≠ O := by
  rintro rfl
  have := h.o.box
  rw [h.x.box] at this
  simp at this
theorem WAt.below' (h : WAt B O X v u s e w) (hb : Below w.heap.size w w1) : WAt B O X v u s e w1 := ⟨h.o.below' hb, ROutAt.below' h.x hb, h.sep⟩
theorem WAt.one (h : WAt B O X v u s e w) (h1 : OutAt B O v' s' e' w1) (t : Turn O v.ownBlock w w1) (hh : Hat w v.ownBlock v'.ownBlock) :
    ROutAt B X u s e w1 ∧ (∀ g, v'.ownBlock = some g → u.ownBlock ≠ some g) := by
  refine ⟨ROutAt.kept h.x fun k hk hc => ?_, fun g hg hc => ?_⟩
  · rcases hc with rfl | hc
    · exact t.block k hk h.ne (own_ne h.o.own h.x.box (by decide))
    · refine t.block k hk ?_ ?_
      · rintro rfl
        exact own_ne h.x.own h.o.box (by decide) hc.symm
      · intro hv
        exact h.sep k hv.symm hc
  · rcases hh with hh | ⟨j, hj, hh⟩
    · exact h.sep g (by rw [← hh]; exact hg) hc
    · have hlt := (h.x.own.lt g hc).2
      rw [hg] at hh
      simp at hh
      omega
theorem WAt.two (h : WAt B O X v u s e w) (h1 : OutAt B O v' s' e' w1) (t : Turn O v.ownBlock w w1) (hh : Hat w v.ownBlock v'.ownBlock)
    (g1 : ROutAt B X u' s' e' w2) (t2 : Turn X u.ownBlock w1 w2) (hh2 : Hat w1 u.ownBlock u'.ownBlock) : WAt B O X v' u' s' e' w2 ∧ Below B w w2 := by
  obtain ⟨x1, sep⟩ := h.one h1 t hh
  refine ⟨⟨OutAt.kept h1 fun k hk hc => ?_, g1, fun g hg hc => ?_⟩, (h.o.turn t).trans (ROutAt.turn x1 t2)⟩
  · rcases hc with rfl | hc
    · exact t2.block k hk h.ne.symm (own_ne x1.own h1.box (by decide))
    · refine t2.block k hk ?_ ?_
      · rintro rfl
        exact own_ne h1.own x1.box (by decide) hc.symm
      · intro hv
        exact sep k hc hv.symm
  · rcases hh2 with hh2 | ⟨j, hj, hh2⟩
    · exact sep g hg (by rw [← hh2]; exact hc)
    · have hlt := (h1.own.lt g hg).2
      rw [hc] at hh2
      simp at hh2
      omega
/-- A new block is neither an Out's nor its row's. -/
theorem WAt.fresh (h : WAt B O X v u s e w) {o : Obj} {P : Nat} (hP : w.heap[P]? = some o) (hT : ∀ cs t, o = .cells cs t → 5 ≠ t ∧ 27 ≠ t ∧ 47 ≠ t) (hc : ∃ cs t, o = .cells cs t) (t : Turn O v.ownBlock w w1) : w1.heap[P]? = some o := by
  obtain ⟨cs, T, rfl⟩ := hc
  obtain ⟨n1, n2, n3⟩ := hT cs T rfl
  refine (t.block P (lt_of_block hP) ?_ ?_).trans hP
  · rintro rfl
    have := h.o.box
    rw [hP] at this
    simp at this
    exact n2 this.2.symm
  · intro hc
    rcases h.o.own.2 with ⟨hv, _⟩ | ⟨g', cap, cur, hv, _, hgg, _⟩
    · rw [hv] at hc; simp [Value.ownBlock] at hc
    · rw [hv] at hc
      simp [Value.ownBlock] at hc
      rw [← hc, hP] at hgg
      simp at hgg
      exact n1 hgg.2.symm
end

theorem put_small_size (s : ByteArray) (e x : Int) (n : Nat) : (putSmall s e x n).1.size ≤ s.size + n := by
  unfold putSmall
  split
  · simp
  · split
    · simp
    · rw [ByteArray.size_append, highs_size]; exact Nat.le_refl _
theorem put_64_size (s : ByteArray) (e x : Int) : (put64 s e x).1.size ≤ s.size + 8 := by
  unfold put64
  split
  · simp
  · rw [ByteArray.size_append, highs_size]; exact Nat.le_refl _
theorem put_text_size (s : ByteArray) (e : Int) (t : ByteArray) : (putText s e t).1.size ≤ s.size + 4 + t.size := by
  unfold putText
  split
  · simp; omega
  · split
    · simp; omega
    · rw [ByteArray.size_append, ByteArray.size_append, highs_size]; exact Nat.le_refl _

theorem cells_of_op {w : World} {b : Nat} {x y z t : Value} {T : TypeId} (h : w.heap[b]? = some (.cells #[x, y, z, t] T)) :
    w.cell? ⟨b, 0, none⟩ = some x ∧ w.cell? ⟨b, 1, none⟩ = some y ∧ w.cell? ⟨b, 2, none⟩ = some z ∧ w.cell? ⟨b, 3, none⟩ = some t := by
  simp [World.cell?, h]

theorem ptr_same (w : World) (O : Nat) : (binOp .neq 23 (.pointer (some ⟨O, 0, none⟩)) (.pointer (some ⟨O, 0, none⟩))).run Tryd.prog w = .ok (.bool false) w := by
  obtain ⟨j, hj⟩ := Option.isSome_iff_exists.1 (show (Tryd.prog.info? 27).isSome = true by kernel_rfl)
  first | exact Lib.run_neq_ptr_same _ Tryd.underlying23 hj | exact Lib.run_neq_ptr_same _ _ Tryd.underlying23 hj

theorem outNew2 {B : Nat} (w : World) (hb : B ≤ w.heap.size) : ROutAt B w.heap.size (.slice none 0 0) ⟨#[]⟩ 0 (w.alloc (.cells #[.slice none 0 0, .int .i64 0] 47)) :=
  ⟨new_block _ _, World.ownsRow_nil _ _ _ _, hb⟩

theorem kinds (x : Int) : ((x == 1) = true) ∨ ((x == 1) = false ∧ (x == 2) = true) ∨ ((x == 1) = false ∧ (x == 2) = false ∧ (x == 3) = true) ∨ ((x == 1) = false ∧ (x == 2) = false ∧ (x == 3) = false ∧ (x == 4) = true) ∨
    ((x == 1) = false ∧ (x == 2) = false ∧ (x == 3) = false ∧ (x == 4) = false ∧ (x == 5) = true) ∨ ((x == 1) = false ∧ (x == 2) = false ∧ (x == 3) = false ∧ (x == 4) = false ∧ (x == 5) = false) := by
  cases (x == 1) <;> cases (x == 2) <;> cases (x == 3) <;> cases (x == 4) <;> cases (x == 5) <;> simp

set_option maxRecDepth 100000 in
set_option maxHeartbeats 4000000 in
theorem writes_walk (ao : Option Addr) (len cap : Nat) (Kd Nn : Nat → Int) (Bt : Nat → Nat) (Ss : Nat → ByteArray) (W : World) (ht : Tab W) (hJ : OpsArg W ao len Kd Nn Bt Ss) :
    Calls Tryd.prog 7 #[.slice ao len cap] W fun en w' => en = .returned (.bool true) ∧ Below W.heap.size W w' := by
  have HT := Lib.hid ht; clear ht
  have HJ := Lib.hid hJ; clear hJ
  have hps := ptr_same
  go_enter Tryd.func7, Tryd.ntmps7
  go_wp2_with fail
  refine (light_any ao len cap Kd Nn Bt Ss W HJ.out).mono ?_
  rintro en w' ⟨r, rfl, hr, rfl⟩
  cases r
  · go_wp2_with fail
    refine (alive_any W HT.out).mono ?_
    rintro en w1 ⟨rfl, b1⟩
    go_wp2
    go_ret
    exact ⟨rfl, b1⟩
  · obtain ⟨hl60, hs300⟩ := hr rfl
    clear hr
    have HS := Lib.hid hs300; clear hs300
    go_wp2_with fail
    refine (alive_any W HT.out).mono ?_
    rintro en w1 ⟨rfl, b1⟩
    have hsz1 := b1.size
    go_wp2_with fail
    have g0 := outNew (B := W.heap.size) w1 b1.size
    have g1 := g0.below' (below_alloc _ (.cells #[.slice none 0 0, .int .i64 0] 47))
    have g2 := outNew2 (B := W.heap.size) (w1.alloc (.cells #[.slice none 0 0, .int .i64 0] 27)) (by simp; omega)
    have e1 : (w1.alloc (.cells #[.slice none 0 0, .int .i64 0] 27)).heap.size = w1.heap.size + 1 := by simp
    rw [e1] at g2
    have hb2 := b1.trans ((below_alloc w1 (.cells #[.slice none 0 0, .int .i64 0] 27)).mono b1.size) |>.trans ((below_alloc (w1.alloc (.cells #[.slice none 0 0, .int .i64 0] 27)) (.cells #[.slice none 0 0, .int .i64 0] 47)).mono (by simp; omega))
    have HA : WAt W.heap.size w1.heap.size (w1.heap.size + 1) (.slice none 0 0) (.slice none 0 0) ⟨#[]⟩ 0 ((w1.alloc (.cells #[.slice none 0 0, .int .i64 0] 27)).alloc (.cells #[.slice none 0 0, .int .i64 0] 47)) := ⟨g1, g2, fun g hg => by simp [Value.ownBlock] at hg⟩
    have HA := Lib.hid (And.intro HA hb2)
    clear g0 g1 g2 e1 hb2 b1 hsz1
    go_loopg [5] len (fun g i wr => ∃ (k : Nat) (v u : Value) (s : ByteArray) (e : Int), g = len - k ∧ k ≤ len ∧ i = .int .i64 k ∧ WAt W.heap.size w1.heap.size (w1.heap.size + 1) v u s e wr ∧ Below W.heap.size W wr ∧ s.size ≤ k * 304)
    case atStart => exact ⟨0, _, _, _, _, by omega, by omega, rfl, HA.out.1, HA.out.2, by decide⟩
    case round =>
      obtain ⟨k, v, u, s, e, hg, hle, rfl, hA, hb, hsz⟩ := hrel
      have HG := Lib.hid (And.intro hg hb); clear hg
      clear HA
      by_cases hk : k < len
      · obtain ⟨b, off, rfl, hI⟩ := HJ.out.at_ (by omega)
        have hI2 := hI.below hb
        have hbl := hI2.bl
        have f0 := hI2.c0 k hk
        have f1 := hI2.c1 k hk
        have f2 := hI2.c2 k hk
        have f3 := hI2.c3 k hk
        have hz1 : s.size ≤ 900000 := by omega
        have hz2 : s.size ≤ 1000000 := by omega
        clear hI hI2 hb
        have hnn := HJ.out.nn k hk
        have hbt := HJ.out.bt k hk
        have hss := HS.out k hk
        have hP := new_block wr (.cells #[.int .i64 (Kd k), .int .i64 (Nn k), .int .u64 (Bt k), .string (Ss k)] 49)
        have hA2 := hA.below' (below_alloc wr (.cells #[.int .i64 (Kd k), .int .i64 (Nn k), .int .u64 (Bt k), .string (Ss k)] 49))
        have hbz : W.heap.size ≤ wr.heap.size := HG.out.2.size
        have hb2 : Below W.heap.size W (wr.alloc (.cells #[.int .i64 (Kd k), .int .i64 (Nn k), .int .u64 (Bt k), .string (Ss k)] 49)) := HG.out.2.trans ((below_alloc wr _).mono hbz)
        have hO : w1.heap.size < wr.heap.size := lt_of_block hA.o.box
        clear hA hbz
        have hkd := kinds (Kd k)
        revert f0 f1 f2 f3 hP hA2 hb2 hnn hbt hss hkd
        generalize Kd k = kd
        generalize Nn k = nn
        generalize Bt k = bt
        generalize Ss k = tx
        intro f0 f1 f2 f3 hnn hbt hss hP hA2 hb2 hkd
        have hlen1 : tx.size ≤ maxLen := by unfold maxLen; omega
        have hlen2 : tx.size ≤ 60000 := by omega
        have hbt0 : (0 : Int) ≤ (bt : Int) := by omega
        have hu0 : 0 ≤ IntKind.u64.wrap nn := by rw [IntKind.wrap_u64]; omega
        have HL := Lib.hid (And.intro hlen1 (And.intro hlen2 (And.intro hbt0 (And.intro hu0 (And.intro hnn (And.intro hss (And.intro hz1 (And.intro hz2 hsz))))))))
        clear hlen1 hlen2 hbt0 hu0 hnn hss hz1 hz2 hsz hbt
        rcases hkd with h1 | ⟨h1, h2⟩ | ⟨h1, h2, h3⟩ | ⟨h1, h2, h3, h4⟩ | ⟨h1, h2, h3, h4, h5⟩ | ⟨h1, h2, h3, h4, h5⟩
        · have HA := Lib.hid (And.intro hA2 (And.intro hb2 hP)); clear hA2 hb2 hP
          go_wp2_with fail
          refine (outU8 _ _ v s e _ HA.out.1.o HL.out.2.2.2.2.2.2.2.1 nn HL.out.2.2.2.2.1).mono ?_
          rintro en w2 ⟨rfl, v2, q2, t2, a2⟩
          have hP2 := HA.out.1.fresh HA.out.2.2 (by rintro cs t h; cases h; decide) ⟨_, _, rfl⟩ t2
          obtain ⟨p0, p1, p2, p3⟩ := cells_of_op hP2
          have hPz := lt_of_block hP2
          obtain ⟨x2, -⟩ := HA.out.1.one q2 t2 a2
          have HQ := Lib.hid (And.intro q2 (And.intro t2 (And.intro a2 x2))); clear q2 t2 a2 x2 hP2
          clear f0 f1 f2 f3 hbl hO
          go_wp2_with fail
          refine (rsmall_any _ _ u s e w2 HQ.out.2.2.2 HL.out.2.2.2.2.2.2.1 nn 1 1 (Or.inl ⟨rfl, rfl⟩)).mono ?_
          rintro en w3 ⟨rfl, u3, q3, t3, a3⟩
          obtain ⟨hA3, hb3⟩ := HA.out.1.two HQ.out.1 HQ.out.2.1 HQ.out.2.2.1 q3 t3 a3
          have hb4 : Below W.heap.size W w3 := HA.out.2.1.trans hb3
          have hsz3 := put_small_size s e nn 1
          have hsz4 := HL.out
          clear HA HQ q3 t3 a3 hb3 p0 p1 p2 p3 hPz
          obtain ⟨s3, hs3⟩ : ∃ s3, (putSmall s e nn 1).1 = s3 := ⟨_, rfl⟩
          obtain ⟨e3, he3⟩ : ∃ e3, (putSmall s e nn 1).2 = e3 := ⟨_, rfl⟩
          rw [hs3, he3] at hA3
          rw [hs3] at hsz3
          have hsz5 : s3.size ≤ (k + 1) * 304 := by have := hsz4.2.2.2.2.2.2.2.2; have := hsz4.2.2.2.2.2.1; omega
          clear hs3 he3 hsz3 hsz4
          have HA := Lib.hid (And.intro hA3 (And.intro hb4 hsz5)); clear hA3 hb4 hsz5
          by_cases he : e3 = 0
          · subst he
            go_wp2_with fail
            refine (outDone _ _ v2 s3 0 w3 HA.out.1.o).mono ?_
            rintro en w4 ⟨rfl, d4⟩
            have hA4 := HA.out.1.below' d4
            have hb4 := HA.out.2.1.trans (d4.mono HA.out.2.1.size)
            have HB := Lib.hid (And.intro hA4 hb4); clear hA4 hb4 d4
            have hd : doneOf s3 0 = .tuple #[.string s3, .int .i64 0] := by rw [doneOf, if_pos rfl]
            rw [hd]; clear hd
            go_wp2_with fail
            refine (rdone_any _ _ u3 s3 0 w4 HB.out.1.x).mono ?_
            rintro en w5 ⟨rfl, d5⟩
            have hA5 := HB.out.1.below' d5
            have hb5 := HB.out.2.trans (d5.mono HB.out.2.size)
            have HC := Lib.hid (And.intro hA5 hb5); clear hA5 hb5 d5 HB
            have hd : doneOf s3 0 = .tuple #[.string s3, .int .i64 0] := by rw [doneOf, if_pos rfl]
            rw [hd]; clear hd
            go_wp2_with fail
            refine (outLen _ _ v2 s3 0 w5 HC.out.1.o).mono ?_
            rintro en w6 ⟨rfl, rfl⟩
            go_wp2_with fail
            go_roundg (len - (k + 1))
            case measure => rw [HG.out.1]; omega
            case rel => exact ⟨k + 1, _, _, _, _, rfl, hk, by go_num, HC.out.1, HC.out.2, HA.out.2.2⟩
          · have he2 : (e3 == 0) = false := by simpa using he
            have HE := Lib.hid he; clear he
            go_wp2_with fail
            refine (outDone _ _ v2 s3 e3 w3 HA.out.1.o).mono ?_
            rintro en w4 ⟨rfl, d4⟩
            have hA4 := HA.out.1.below' d4
            have hb4 := HA.out.2.1.trans (d4.mono HA.out.2.1.size)
            have HB := Lib.hid (And.intro hA4 hb4); clear hA4 hb4 d4
            have hd : doneOf s3 e3 = .tuple #[.string ⟨#[]⟩, .int .i64 e3] := by rw [doneOf, if_neg HE.out]
            rw [hd]; clear hd
            go_wp2_with fail
            refine (rdone_any _ _ u3 s3 e3 w4 HB.out.1.x).mono ?_
            rintro en w5 ⟨rfl, d5⟩
            have hA5 := HB.out.1.below' d5
            have hb5 := HB.out.2.trans (d5.mono HB.out.2.size)
            have HC := Lib.hid (And.intro hA5 hb5); clear hA5 hb5 d5 HB
            have hd : doneOf s3 e3 = .tuple #[.string ⟨#[]⟩, .int .i64 e3] := by rw [doneOf, if_neg HE.out]
            rw [hd]; clear hd
            go_wp2_with fail
            go_roundg (len - (k + 1))
            case measure => rw [HG.out.1]; omega
            case rel => exact ⟨k + 1, _, _, _, _, rfl, hk, by go_num, HC.out.1, HC.out.2, HA.out.2.2⟩
        · have HA := Lib.hid (And.intro hA2 (And.intro hb2 hP)); clear hA2 hb2 hP
          go_wp2_with fail
          refine (outU32 _ _ v s e _ HA.out.1.o HL.out.2.2.2.2.2.2.2.1 nn HL.out.2.2.2.2.1).mono ?_
          rintro en w2 ⟨rfl, v2, q2, t2, a2⟩
          have hP2 := HA.out.1.fresh HA.out.2.2 (by rintro cs t h; cases h; decide) ⟨_, _, rfl⟩ t2
          obtain ⟨p0, p1, p2, p3⟩ := cells_of_op hP2
          have hPz := lt_of_block hP2
          obtain ⟨x2, -⟩ := HA.out.1.one q2 t2 a2
          have HQ := Lib.hid (And.intro q2 (And.intro t2 (And.intro a2 x2))); clear q2 t2 a2 x2 hP2
          clear f0 f1 f2 f3 hbl hO
          go_wp2_with fail
          refine (rsmall_any _ _ u s e w2 HQ.out.2.2.2 HL.out.2.2.2.2.2.2.1 nn 4 4 (Or.inr ⟨rfl, rfl⟩)).mono ?_
          rintro en w3 ⟨rfl, u3, q3, t3, a3⟩
          obtain ⟨hA3, hb3⟩ := HA.out.1.two HQ.out.1 HQ.out.2.1 HQ.out.2.2.1 q3 t3 a3
          have hb4 : Below W.heap.size W w3 := HA.out.2.1.trans hb3
          have hsz3 := put_small_size s e nn 4
          have hsz4 := HL.out
          clear HA HQ q3 t3 a3 hb3 p0 p1 p2 p3 hPz
          obtain ⟨s3, hs3⟩ : ∃ s3, (putSmall s e nn 4).1 = s3 := ⟨_, rfl⟩
          obtain ⟨e3, he3⟩ : ∃ e3, (putSmall s e nn 4).2 = e3 := ⟨_, rfl⟩
          rw [hs3, he3] at hA3
          rw [hs3] at hsz3
          have hsz5 : s3.size ≤ (k + 1) * 304 := by have := hsz4.2.2.2.2.2.2.2.2; have := hsz4.2.2.2.2.2.1; omega
          clear hs3 he3 hsz3 hsz4
          have HA := Lib.hid (And.intro hA3 (And.intro hb4 hsz5)); clear hA3 hb4 hsz5
          by_cases he : e3 = 0
          · subst he
            go_wp2_with fail
            refine (outDone _ _ v2 s3 0 w3 HA.out.1.o).mono ?_
            rintro en w4 ⟨rfl, d4⟩
            have hA4 := HA.out.1.below' d4
            have hb4 := HA.out.2.1.trans (d4.mono HA.out.2.1.size)
            have HB := Lib.hid (And.intro hA4 hb4); clear hA4 hb4 d4
            have hd : doneOf s3 0 = .tuple #[.string s3, .int .i64 0] := by rw [doneOf, if_pos rfl]
            rw [hd]; clear hd
            go_wp2_with fail
            refine (rdone_any _ _ u3 s3 0 w4 HB.out.1.x).mono ?_
            rintro en w5 ⟨rfl, d5⟩
            have hA5 := HB.out.1.below' d5
            have hb5 := HB.out.2.trans (d5.mono HB.out.2.size)
            have HC := Lib.hid (And.intro hA5 hb5); clear hA5 hb5 d5 HB
            have hd : doneOf s3 0 = .tuple #[.string s3, .int .i64 0] := by rw [doneOf, if_pos rfl]
            rw [hd]; clear hd
            go_wp2_with fail
            refine (outLen _ _ v2 s3 0 w5 HC.out.1.o).mono ?_
            rintro en w6 ⟨rfl, rfl⟩
            go_wp2_with fail
            go_roundg (len - (k + 1))
            case measure => rw [HG.out.1]; omega
            case rel => exact ⟨k + 1, _, _, _, _, rfl, hk, by go_num, HC.out.1, HC.out.2, HA.out.2.2⟩
          · have he2 : (e3 == 0) = false := by simpa using he
            have HE := Lib.hid he; clear he
            go_wp2_with fail
            refine (outDone _ _ v2 s3 e3 w3 HA.out.1.o).mono ?_
            rintro en w4 ⟨rfl, d4⟩
            have hA4 := HA.out.1.below' d4
            have hb4 := HA.out.2.1.trans (d4.mono HA.out.2.1.size)
            have HB := Lib.hid (And.intro hA4 hb4); clear hA4 hb4 d4
            have hd : doneOf s3 e3 = .tuple #[.string ⟨#[]⟩, .int .i64 e3] := by rw [doneOf, if_neg HE.out]
            rw [hd]; clear hd
            go_wp2_with fail
            refine (rdone_any _ _ u3 s3 e3 w4 HB.out.1.x).mono ?_
            rintro en w5 ⟨rfl, d5⟩
            have hA5 := HB.out.1.below' d5
            have hb5 := HB.out.2.trans (d5.mono HB.out.2.size)
            have HC := Lib.hid (And.intro hA5 hb5); clear hA5 hb5 d5 HB
            have hd : doneOf s3 e3 = .tuple #[.string ⟨#[]⟩, .int .i64 e3] := by rw [doneOf, if_neg HE.out]
            rw [hd]; clear hd
            go_wp2_with fail
            go_roundg (len - (k + 1))
            case measure => rw [HG.out.1]; omega
            case rel => exact ⟨k + 1, _, _, _, _, rfl, hk, by go_num, HC.out.1, HC.out.2, HA.out.2.2⟩
        · have HA := Lib.hid (And.intro hA2 (And.intro hb2 hP)); clear hA2 hb2 hP
          go_wp2_with fail
          refine (outU64 _ _ v s e _ HA.out.1.o HL.out.2.2.2.2.2.2.1 bt HL.out.2.2.1).mono ?_
          rintro en w2 ⟨rfl, v2, q2, t2, a2⟩
          have hP2 := HA.out.1.fresh HA.out.2.2 (by rintro cs t h; cases h; decide) ⟨_, _, rfl⟩ t2
          obtain ⟨p0, p1, p2, p3⟩ := cells_of_op hP2
          have hPz := lt_of_block hP2
          obtain ⟨x2, -⟩ := HA.out.1.one q2 t2 a2
          have HQ := Lib.hid (And.intro q2 (And.intro t2 (And.intro a2 x2))); clear q2 t2 a2 x2 hP2
          clear f0 f1 f2 f3 hbl hO
          go_wp2_with fail
          refine (rnum64 _ _ u s e w2 HQ.out.2.2.2 HL.out.2.2.2.2.2.2.1 bt HL.out.2.2.1).mono ?_
          rintro en w3 ⟨rfl, u3, q3, t3, a3⟩
          obtain ⟨hA3, hb3⟩ := HA.out.1.two HQ.out.1 HQ.out.2.1 HQ.out.2.2.1 q3 t3 a3
          have hb4 : Below W.heap.size W w3 := HA.out.2.1.trans hb3
          have hsz3 := put_64_size s e bt
          have hsz4 := HL.out
          clear HA HQ q3 t3 a3 hb3 p0 p1 p2 p3 hPz
          obtain ⟨s3, hs3⟩ : ∃ s3, (put64 s e bt).1 = s3 := ⟨_, rfl⟩
          obtain ⟨e3, he3⟩ : ∃ e3, (put64 s e bt).2 = e3 := ⟨_, rfl⟩
          rw [hs3, he3] at hA3
          rw [hs3] at hsz3
          have hsz5 : s3.size ≤ (k + 1) * 304 := by have := hsz4.2.2.2.2.2.2.2.2; have := hsz4.2.2.2.2.2.1; omega
          clear hs3 he3 hsz3 hsz4
          have HA := Lib.hid (And.intro hA3 (And.intro hb4 hsz5)); clear hA3 hb4 hsz5
          by_cases he : e3 = 0
          · subst he
            go_wp2_with fail
            refine (outDone _ _ v2 s3 0 w3 HA.out.1.o).mono ?_
            rintro en w4 ⟨rfl, d4⟩
            have hA4 := HA.out.1.below' d4
            have hb4 := HA.out.2.1.trans (d4.mono HA.out.2.1.size)
            have HB := Lib.hid (And.intro hA4 hb4); clear hA4 hb4 d4
            have hd : doneOf s3 0 = .tuple #[.string s3, .int .i64 0] := by rw [doneOf, if_pos rfl]
            rw [hd]; clear hd
            go_wp2_with fail
            refine (rdone_any _ _ u3 s3 0 w4 HB.out.1.x).mono ?_
            rintro en w5 ⟨rfl, d5⟩
            have hA5 := HB.out.1.below' d5
            have hb5 := HB.out.2.trans (d5.mono HB.out.2.size)
            have HC := Lib.hid (And.intro hA5 hb5); clear hA5 hb5 d5 HB
            have hd : doneOf s3 0 = .tuple #[.string s3, .int .i64 0] := by rw [doneOf, if_pos rfl]
            rw [hd]; clear hd
            go_wp2_with fail
            refine (outLen _ _ v2 s3 0 w5 HC.out.1.o).mono ?_
            rintro en w6 ⟨rfl, rfl⟩
            go_wp2_with fail
            go_roundg (len - (k + 1))
            case measure => rw [HG.out.1]; omega
            case rel => exact ⟨k + 1, _, _, _, _, rfl, hk, by go_num, HC.out.1, HC.out.2, HA.out.2.2⟩
          · have he2 : (e3 == 0) = false := by simpa using he
            have HE := Lib.hid he; clear he
            go_wp2_with fail
            refine (outDone _ _ v2 s3 e3 w3 HA.out.1.o).mono ?_
            rintro en w4 ⟨rfl, d4⟩
            have hA4 := HA.out.1.below' d4
            have hb4 := HA.out.2.1.trans (d4.mono HA.out.2.1.size)
            have HB := Lib.hid (And.intro hA4 hb4); clear hA4 hb4 d4
            have hd : doneOf s3 e3 = .tuple #[.string ⟨#[]⟩, .int .i64 e3] := by rw [doneOf, if_neg HE.out]
            rw [hd]; clear hd
            go_wp2_with fail
            refine (rdone_any _ _ u3 s3 e3 w4 HB.out.1.x).mono ?_
            rintro en w5 ⟨rfl, d5⟩
            have hA5 := HB.out.1.below' d5
            have hb5 := HB.out.2.trans (d5.mono HB.out.2.size)
            have HC := Lib.hid (And.intro hA5 hb5); clear hA5 hb5 d5 HB
            have hd : doneOf s3 e3 = .tuple #[.string ⟨#[]⟩, .int .i64 e3] := by rw [doneOf, if_neg HE.out]
            rw [hd]; clear hd
            go_wp2_with fail
            go_roundg (len - (k + 1))
            case measure => rw [HG.out.1]; omega
            case rel => exact ⟨k + 1, _, _, _, _, rfl, hk, by go_num, HC.out.1, HC.out.2, HA.out.2.2⟩
        · have HA := Lib.hid (And.intro hA2 (And.intro hb2 hP)); clear hA2 hb2 hP
          go_wp2_with fail
          refine (outI64 _ _ v s e _ HA.out.1.o HL.out.2.2.2.2.2.2.1 nn).mono ?_
          rintro en w2 ⟨rfl, v2, q2, t2, a2⟩
          have hP2 := HA.out.1.fresh HA.out.2.2 (by rintro cs t h; cases h; decide) ⟨_, _, rfl⟩ t2
          obtain ⟨p0, p1, p2, p3⟩ := cells_of_op hP2
          have hPz := lt_of_block hP2
          obtain ⟨x2, -⟩ := HA.out.1.one q2 t2 a2
          have HQ := Lib.hid (And.intro q2 (And.intro t2 (And.intro a2 x2))); clear q2 t2 a2 x2 hP2
          clear f0 f1 f2 f3 hbl hO
          go_wp2_with fail
          refine (rnum64 _ _ u s e w2 HQ.out.2.2.2 HL.out.2.2.2.2.2.2.1 (IntKind.u64.wrap nn) HL.out.2.2.2.1).mono ?_
          rintro en w3 ⟨rfl, u3, q3, t3, a3⟩
          obtain ⟨hA3, hb3⟩ := HA.out.1.two HQ.out.1 HQ.out.2.1 HQ.out.2.2.1 q3 t3 a3
          have hb4 : Below W.heap.size W w3 := HA.out.2.1.trans hb3
          have hsz3 := put_64_size s e (IntKind.u64.wrap nn)
          have hsz4 := HL.out
          clear HA HQ q3 t3 a3 hb3 p0 p1 p2 p3 hPz
          obtain ⟨s3, hs3⟩ : ∃ s3, (put64 s e (IntKind.u64.wrap nn)).1 = s3 := ⟨_, rfl⟩
          obtain ⟨e3, he3⟩ : ∃ e3, (put64 s e (IntKind.u64.wrap nn)).2 = e3 := ⟨_, rfl⟩
          rw [hs3, he3] at hA3
          rw [hs3] at hsz3
          have hsz5 : s3.size ≤ (k + 1) * 304 := by have := hsz4.2.2.2.2.2.2.2.2; have := hsz4.2.2.2.2.2.1; omega
          clear hs3 he3 hsz3 hsz4
          have HA := Lib.hid (And.intro hA3 (And.intro hb4 hsz5)); clear hA3 hb4 hsz5
          by_cases he : e3 = 0
          · subst he
            go_wp2_with fail
            refine (outDone _ _ v2 s3 0 w3 HA.out.1.o).mono ?_
            rintro en w4 ⟨rfl, d4⟩
            have hA4 := HA.out.1.below' d4
            have hb4 := HA.out.2.1.trans (d4.mono HA.out.2.1.size)
            have HB := Lib.hid (And.intro hA4 hb4); clear hA4 hb4 d4
            have hd : doneOf s3 0 = .tuple #[.string s3, .int .i64 0] := by rw [doneOf, if_pos rfl]
            rw [hd]; clear hd
            go_wp2_with fail
            refine (rdone_any _ _ u3 s3 0 w4 HB.out.1.x).mono ?_
            rintro en w5 ⟨rfl, d5⟩
            have hA5 := HB.out.1.below' d5
            have hb5 := HB.out.2.trans (d5.mono HB.out.2.size)
            have HC := Lib.hid (And.intro hA5 hb5); clear hA5 hb5 d5 HB
            have hd : doneOf s3 0 = .tuple #[.string s3, .int .i64 0] := by rw [doneOf, if_pos rfl]
            rw [hd]; clear hd
            go_wp2_with fail
            refine (outLen _ _ v2 s3 0 w5 HC.out.1.o).mono ?_
            rintro en w6 ⟨rfl, rfl⟩
            go_wp2_with fail
            go_roundg (len - (k + 1))
            case measure => rw [HG.out.1]; omega
            case rel => exact ⟨k + 1, _, _, _, _, rfl, hk, by go_num, HC.out.1, HC.out.2, HA.out.2.2⟩
          · have he2 : (e3 == 0) = false := by simpa using he
            have HE := Lib.hid he; clear he
            go_wp2_with fail
            refine (outDone _ _ v2 s3 e3 w3 HA.out.1.o).mono ?_
            rintro en w4 ⟨rfl, d4⟩
            have hA4 := HA.out.1.below' d4
            have hb4 := HA.out.2.1.trans (d4.mono HA.out.2.1.size)
            have HB := Lib.hid (And.intro hA4 hb4); clear hA4 hb4 d4
            have hd : doneOf s3 e3 = .tuple #[.string ⟨#[]⟩, .int .i64 e3] := by rw [doneOf, if_neg HE.out]
            rw [hd]; clear hd
            go_wp2_with fail
            refine (rdone_any _ _ u3 s3 e3 w4 HB.out.1.x).mono ?_
            rintro en w5 ⟨rfl, d5⟩
            have hA5 := HB.out.1.below' d5
            have hb5 := HB.out.2.trans (d5.mono HB.out.2.size)
            have HC := Lib.hid (And.intro hA5 hb5); clear hA5 hb5 d5 HB
            have hd : doneOf s3 e3 = .tuple #[.string ⟨#[]⟩, .int .i64 e3] := by rw [doneOf, if_neg HE.out]
            rw [hd]; clear hd
            go_wp2_with fail
            go_roundg (len - (k + 1))
            case measure => rw [HG.out.1]; omega
            case rel => exact ⟨k + 1, _, _, _, _, rfl, hk, by go_num, HC.out.1, HC.out.2, HA.out.2.2⟩
        · have HA := Lib.hid (And.intro hA2 (And.intro hb2 hP)); clear hA2 hb2 hP
          go_wp2_with fail
          refine (float_any bt _).mono ?_
          rintro en w' ⟨rfl, rfl⟩
          go_wp2_with fail
          refine (outF64 _ _ v s e _ HA.out.1.o HL.out.2.2.2.2.2.2.1 bt).mono ?_
          rintro en w2 ⟨rfl, v2, q2, t2, a2⟩
          have hP2 := HA.out.1.fresh HA.out.2.2 (by rintro cs t h; cases h; decide) ⟨_, _, rfl⟩ t2
          obtain ⟨p0, p1, p2, p3⟩ := cells_of_op hP2
          have hPz := lt_of_block hP2
          obtain ⟨x2, -⟩ := HA.out.1.one q2 t2 a2
          have HQ := Lib.hid (And.intro q2 (And.intro t2 (And.intro a2 x2))); clear q2 t2 a2 x2 hP2
          clear f0 f1 f2 f3 hbl hO
          go_wp2_with fail
          refine (float_any bt _).mono ?_
          rintro en w' ⟨rfl, rfl⟩
          go_wp2_with fail
          refine (rfloat_any _ _ u s e w2 HQ.out.2.2.2 HL.out.2.2.2.2.2.2.1 bt).mono ?_
          rintro en w3 ⟨rfl, u3, q3, t3, a3⟩
          obtain ⟨hA3, hb3⟩ := HA.out.1.two HQ.out.1 HQ.out.2.1 HQ.out.2.2.1 q3 t3 a3
          have hb4 : Below W.heap.size W w3 := HA.out.2.1.trans hb3
          have hsz3 := put_64_size s e (canonB bt : Nat)
          have hsz4 := HL.out
          clear HA HQ q3 t3 a3 hb3 p0 p1 p2 p3 hPz
          obtain ⟨s3, hs3⟩ : ∃ s3, (put64 s e (canonB bt : Nat)).1 = s3 := ⟨_, rfl⟩
          obtain ⟨e3, he3⟩ : ∃ e3, (put64 s e (canonB bt : Nat)).2 = e3 := ⟨_, rfl⟩
          rw [hs3, he3] at hA3
          rw [hs3] at hsz3
          have hsz5 : s3.size ≤ (k + 1) * 304 := by have := hsz4.2.2.2.2.2.2.2.2; have := hsz4.2.2.2.2.2.1; omega
          clear hs3 he3 hsz3 hsz4
          have HA := Lib.hid (And.intro hA3 (And.intro hb4 hsz5)); clear hA3 hb4 hsz5
          by_cases he : e3 = 0
          · subst he
            go_wp2_with fail
            refine (outDone _ _ v2 s3 0 w3 HA.out.1.o).mono ?_
            rintro en w4 ⟨rfl, d4⟩
            have hA4 := HA.out.1.below' d4
            have hb4 := HA.out.2.1.trans (d4.mono HA.out.2.1.size)
            have HB := Lib.hid (And.intro hA4 hb4); clear hA4 hb4 d4
            have hd : doneOf s3 0 = .tuple #[.string s3, .int .i64 0] := by rw [doneOf, if_pos rfl]
            rw [hd]; clear hd
            go_wp2_with fail
            refine (rdone_any _ _ u3 s3 0 w4 HB.out.1.x).mono ?_
            rintro en w5 ⟨rfl, d5⟩
            have hA5 := HB.out.1.below' d5
            have hb5 := HB.out.2.trans (d5.mono HB.out.2.size)
            have HC := Lib.hid (And.intro hA5 hb5); clear hA5 hb5 d5 HB
            have hd : doneOf s3 0 = .tuple #[.string s3, .int .i64 0] := by rw [doneOf, if_pos rfl]
            rw [hd]; clear hd
            go_wp2_with fail
            refine (outLen _ _ v2 s3 0 w5 HC.out.1.o).mono ?_
            rintro en w6 ⟨rfl, rfl⟩
            go_wp2_with fail
            go_roundg (len - (k + 1))
            case measure => rw [HG.out.1]; omega
            case rel => exact ⟨k + 1, _, _, _, _, rfl, hk, by go_num, HC.out.1, HC.out.2, HA.out.2.2⟩
          · have he2 : (e3 == 0) = false := by simpa using he
            have HE := Lib.hid he; clear he
            go_wp2_with fail
            refine (outDone _ _ v2 s3 e3 w3 HA.out.1.o).mono ?_
            rintro en w4 ⟨rfl, d4⟩
            have hA4 := HA.out.1.below' d4
            have hb4 := HA.out.2.1.trans (d4.mono HA.out.2.1.size)
            have HB := Lib.hid (And.intro hA4 hb4); clear hA4 hb4 d4
            have hd : doneOf s3 e3 = .tuple #[.string ⟨#[]⟩, .int .i64 e3] := by rw [doneOf, if_neg HE.out]
            rw [hd]; clear hd
            go_wp2_with fail
            refine (rdone_any _ _ u3 s3 e3 w4 HB.out.1.x).mono ?_
            rintro en w5 ⟨rfl, d5⟩
            have hA5 := HB.out.1.below' d5
            have hb5 := HB.out.2.trans (d5.mono HB.out.2.size)
            have HC := Lib.hid (And.intro hA5 hb5); clear hA5 hb5 d5 HB
            have hd : doneOf s3 e3 = .tuple #[.string ⟨#[]⟩, .int .i64 e3] := by rw [doneOf, if_neg HE.out]
            rw [hd]; clear hd
            go_wp2_with fail
            go_roundg (len - (k + 1))
            case measure => rw [HG.out.1]; omega
            case rel => exact ⟨k + 1, _, _, _, _, rfl, hk, by go_num, HC.out.1, HC.out.2, HA.out.2.2⟩
        · have HA := Lib.hid (And.intro hA2 (And.intro hb2 hP)); clear hA2 hb2 hP
          go_wp2_with fail
          refine (outText _ _ v s e _ HA.out.1.o HL.out.2.2.2.2.2.2.1 tx HL.out.1).mono ?_
          rintro en w2 ⟨rfl, v2, q2, t2, a2⟩
          have hP2 := HA.out.1.fresh HA.out.2.2 (by rintro cs t h; cases h; decide) ⟨_, _, rfl⟩ t2
          obtain ⟨p0, p1, p2, p3⟩ := cells_of_op hP2
          have hPz := lt_of_block hP2
          obtain ⟨x2, -⟩ := HA.out.1.one q2 t2 a2
          have HQ := Lib.hid (And.intro q2 (And.intro t2 (And.intro a2 x2))); clear q2 t2 a2 x2 hP2
          clear f0 f1 f2 f3 hbl hO
          go_wp2_with fail
          refine (rtext_any _ _ u s e w2 HQ.out.2.2.2 HL.out.2.2.2.2.2.2.1 tx HL.out.2.1).mono ?_
          rintro en w3 ⟨rfl, u3, q3, t3, a3⟩
          obtain ⟨hA3, hb3⟩ := HA.out.1.two HQ.out.1 HQ.out.2.1 HQ.out.2.2.1 q3 t3 a3
          have hb4 : Below W.heap.size W w3 := HA.out.2.1.trans hb3
          have hsz3 := put_text_size s e tx
          have hsz4 := HL.out
          clear HA HQ q3 t3 a3 hb3 p0 p1 p2 p3 hPz
          obtain ⟨s3, hs3⟩ : ∃ s3, (putText s e tx).1 = s3 := ⟨_, rfl⟩
          obtain ⟨e3, he3⟩ : ∃ e3, (putText s e tx).2 = e3 := ⟨_, rfl⟩
          rw [hs3, he3] at hA3
          rw [hs3] at hsz3
          have hsz5 : s3.size ≤ (k + 1) * 304 := by have := hsz4.2.2.2.2.2.2.2.2; have := hsz4.2.2.2.2.2.1; omega
          clear hs3 he3 hsz3 hsz4
          have HA := Lib.hid (And.intro hA3 (And.intro hb4 hsz5)); clear hA3 hb4 hsz5
          by_cases he : e3 = 0
          · subst he
            go_wp2_with fail
            refine (outDone _ _ v2 s3 0 w3 HA.out.1.o).mono ?_
            rintro en w4 ⟨rfl, d4⟩
            have hA4 := HA.out.1.below' d4
            have hb4 := HA.out.2.1.trans (d4.mono HA.out.2.1.size)
            have HB := Lib.hid (And.intro hA4 hb4); clear hA4 hb4 d4
            have hd : doneOf s3 0 = .tuple #[.string s3, .int .i64 0] := by rw [doneOf, if_pos rfl]
            rw [hd]; clear hd
            go_wp2_with fail
            refine (rdone_any _ _ u3 s3 0 w4 HB.out.1.x).mono ?_
            rintro en w5 ⟨rfl, d5⟩
            have hA5 := HB.out.1.below' d5
            have hb5 := HB.out.2.trans (d5.mono HB.out.2.size)
            have HC := Lib.hid (And.intro hA5 hb5); clear hA5 hb5 d5 HB
            have hd : doneOf s3 0 = .tuple #[.string s3, .int .i64 0] := by rw [doneOf, if_pos rfl]
            rw [hd]; clear hd
            go_wp2_with fail
            refine (outLen _ _ v2 s3 0 w5 HC.out.1.o).mono ?_
            rintro en w6 ⟨rfl, rfl⟩
            go_wp2_with fail
            go_roundg (len - (k + 1))
            case measure => rw [HG.out.1]; omega
            case rel => exact ⟨k + 1, _, _, _, _, rfl, hk, by go_num, HC.out.1, HC.out.2, HA.out.2.2⟩
          · have he2 : (e3 == 0) = false := by simpa using he
            have HE := Lib.hid he; clear he
            go_wp2_with fail
            refine (outDone _ _ v2 s3 e3 w3 HA.out.1.o).mono ?_
            rintro en w4 ⟨rfl, d4⟩
            have hA4 := HA.out.1.below' d4
            have hb4 := HA.out.2.1.trans (d4.mono HA.out.2.1.size)
            have HB := Lib.hid (And.intro hA4 hb4); clear hA4 hb4 d4
            have hd : doneOf s3 e3 = .tuple #[.string ⟨#[]⟩, .int .i64 e3] := by rw [doneOf, if_neg HE.out]
            rw [hd]; clear hd
            go_wp2_with fail
            refine (rdone_any _ _ u3 s3 e3 w4 HB.out.1.x).mono ?_
            rintro en w5 ⟨rfl, d5⟩
            have hA5 := HB.out.1.below' d5
            have hb5 := HB.out.2.trans (d5.mono HB.out.2.size)
            have HC := Lib.hid (And.intro hA5 hb5); clear hA5 hb5 d5 HB
            have hd : doneOf s3 e3 = .tuple #[.string ⟨#[]⟩, .int .i64 e3] := by rw [doneOf, if_neg HE.out]
            rw [hd]; clear hd
            go_wp2_with fail
            go_roundg (len - (k + 1))
            case measure => rw [HG.out.1]; omega
            case rel => exact ⟨k + 1, _, _, _, _, rfl, hk, by go_num, HC.out.1, HC.out.2, HA.out.2.2⟩
      · go_wp2_with fail
        refine (alive_any wr (HT.out.below HG.out.2)).mono ?_
        rintro en w2 ⟨rfl, b2⟩
        go_wp2
        go_ret
        exact ⟨rfl, HG.out.2.trans (b2.mono HG.out.2.size)⟩
end Go.Proofs.YtganeocegdkddaaDoor
