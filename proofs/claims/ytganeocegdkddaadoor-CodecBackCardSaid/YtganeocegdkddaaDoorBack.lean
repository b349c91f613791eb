/-
  CodecBack, the walk: what was put is read as it was, by the same calls. Conditions: none.
-/
import Derived.Test.YtganeocegdkddaaDoorBackP
import Derived.Test.YtganeocegdkddaaDoorFl
namespace Go.Proofs.YtganeocegdkddaaDoor
open Go.RowKit Go.Lib

theorem small_in (s : ByteArray) (x n : Nat) (h : x < 256 ^ n) : putSmall s 0 x n = (s ++ highs x n n, 0) := by
  have h2 : (256 : Nat) ^ n = 2 ^ (8 * n) := by rw [Nat.pow_mul]
  rw [h2] at h
  have h3 : (x : Int) < 2 ^ (8 * n) := by
    have : ((2 ^ (8 * n) : Nat) : Int) = 2 ^ (8 * n) := by simp
    omega
  rw [putSmall, if_neg (by simp), if_neg (by omega)]
theorem num_in (s : ByteArray) (x : Int) : put64 s 0 x = (s ++ highs x 8 8, 0) := by rw [put64, if_neg (by simp)]
theorem text_in (s t : ByteArray) (h : t.size ≤ 65536) : putText s 0 t = (s ++ highs t.size 4 4 ++ t, 0) := by rw [putText, if_neg (by simp), if_neg (by omega)]

/-- What is put, step for step, and what is read, step for step. -/
structure Way (a b u v c : Nat) (s t1 t2 t3 t4 t5 t6 r1 r2 r3 r4 r5 : ByteArray) : Prop where
  p1 : putSmall ⟨#[]⟩ 0 a 1 = (t1, 0)
  p2 : putSmall t1 0 b 4 = (t2, 0)
  p3 : put64 t2 0 u = (t3, 0)
  p4 : put64 t3 0 v = (t4, 0)
  p5 : put64 t4 0 c = (t5, 0)
  p6 : putText t5 0 s = (t6, 0)
  z1 : t1.size ≤ 900000
  z2 : t2.size ≤ 900000
  z3 : t3.size ≤ 900000
  z4 : t4.size ≤ 900000
  z5 : t5.size ≤ 900000
  z6 : t6.size ≤ 900000
  zr : r5.size ≤ 900000
  g1 : numOf t6 0 1 = a ∧ (takeOf t6 0 1).2 = (r1, 0)
  g2 : numOf r1 0 4 = b ∧ (takeOf r1 0 4).2 = (r2, 0)
  g3 : numOf r2 0 8 = u ∧ (takeOf r2 0 8).2 = (r3, 0)
  g4 : numOf r3 0 8 = v ∧ (takeOf r3 0 8).2 = (r4, 0)
  g5 : numOf r4 0 8 = c ∧ (takeOf r4 0 8).2 = (r5, 0)
  g6 : textOf r5 0 1000 = (s, ⟨#[]⟩, 0)

theorem way_any (a b u v c : Nat) (s : ByteArray) (ha : a < 256) (hb : b < 4294967296) (hu : u < 18446744073709551616) (hv : v < 18446744073709551616) (hc : c < 18446744073709551616) (hs : s.size ≤ 1000) :
    ∃ t1 t2 t3 t4 t5 t6 r1 r2 r3 r4 r5, Way a b u v c s t1 t2 t3 t4 t5 t6 r1 r2 r3 r4 r5 := by
  have e0 : (⟨#[]⟩ ++ highs (a : Int) 1 1 : ByteArray) = highs (a : Int) 1 1 := by apply ByteArray.ext; simp
  have e1 : s ++ (⟨#[]⟩ : ByteArray) = s := by apply ByteArray.ext; simp
  have hh : (((((((⟨#[]⟩ ++ highs (a : Int) 1 1) ++ highs (b : Int) 4 4) ++ highs (u : Int) 8 8) ++ highs (v : Int) 8 8) ++ highs (c : Int) 8 8) ++ highs (s.size : Int) 4 4) ++ s : ByteArray)
      = highs (a : Int) 1 1 ++ (highs (b : Int) 4 4 ++ (highs (u : Int) 8 8 ++ (highs (v : Int) 8 8 ++ (highs (c : Int) 8 8 ++ (highs (s.size : Int) 4 4 ++ (s ++ ⟨#[]⟩)))))) := by
    rw [e0, e1]; simp only [ByteArray.append_assoc]
  have q1 := read_num a 1 (by decide) (by simpa using ha) (highs (b : Int) 4 4 ++ (highs (u : Int) 8 8 ++ (highs (v : Int) 8 8 ++ (highs (c : Int) 8 8 ++ (highs (s.size : Int) 4 4 ++ (s ++ ⟨#[]⟩))))))
  have q2 := read_num b 4 (by decide) (by simpa using hb) (highs (u : Int) 8 8 ++ (highs (v : Int) 8 8 ++ (highs (c : Int) 8 8 ++ (highs (s.size : Int) 4 4 ++ (s ++ ⟨#[]⟩)))))
  have q3 := read_num u 8 (by decide) (by simpa using hu) (highs (v : Int) 8 8 ++ (highs (c : Int) 8 8 ++ (highs (s.size : Int) 4 4 ++ (s ++ ⟨#[]⟩))))
  have q4 := read_num v 8 (by decide) (by simpa using hv) (highs (c : Int) 8 8 ++ (highs (s.size : Int) 4 4 ++ (s ++ ⟨#[]⟩)))
  have q5 := read_num c 8 (by decide) (by simpa using hc) (highs (s.size : Int) 4 4 ++ (s ++ ⟨#[]⟩))
  have q6 := read_text s ⟨#[]⟩ (by omega) 1000 (by omega)
  refine ⟨_, _, _, _, _, _, _, _, _, _, _, small_in _ a 1 (by simpa using ha), small_in _ b 4 (by simpa using hb), num_in _ _, num_in _ _, num_in _ _, text_in _ _ (by omega), ?_, ?_, ?_, ?_, ?_, ?_, ?_,
    ?_, ⟨q2.1, by rw [q2.2]⟩, ⟨q3.1, by rw [q3.2]⟩, ⟨q4.1, by rw [q4.2]⟩, ⟨q5.1, by rw [q5.2]⟩, q6⟩
  all_goals first | (simp only [ByteArray.size_append, highs_size, show (⟨#[]⟩ : ByteArray).size = 0 from rfl]; omega) | (rw [hh]; exact ⟨q1.1, by rw [q1.2]⟩)

theorem back_bad (a b u v bits : Int) (s : ByteArray) (hs : s.size ≤ maxLen) (W : World) (ht : Tab W) (hbad : a < 0 ∨ 255 < a ∨ b < 0 ∨ 4294967295 < b ∨ 1000 < s.size) :
    Calls Tryd.prog 11 #[.int .i64 a, .int .i64 b, .int .u64 u, .int .i64 v, .int .u64 bits, .string s] W fun en w' => en = .returned (.bool true) ∧ Below W.heap.size W w' := by
  unfold maxLen at hs
  have HT := Lib.hid ht; clear ht
  have hw : a < 0 ∨ (¬ a < 0 ∧ 255 < a) ∨ (¬ a < 0 ∧ ¬ 255 < a ∧ b < 0) ∨ (¬ a < 0 ∧ ¬ 255 < a ∧ ¬ b < 0 ∧ 4294967295 < b) ∨ (¬ a < 0 ∧ ¬ 255 < a ∧ ¬ b < 0 ∧ ¬ 4294967295 < b ∧ (1000 : Int) < (s.size : Int)) := by omega
  clear hbad
  rcases hw with h1 | ⟨h1, h2⟩ | ⟨h1, h2, h3⟩ | ⟨h1, h2, h3, h4⟩ | ⟨h1, h2, h3, h4, h5⟩
  all_goals
    go_enter Tryd.func11, Tryd.ntmps11
    go_wp2_with fail
    refine (alive_any W HT.out).mono ?_
    rintro en w1 ⟨rfl, b1⟩
    go_wp2
    go_ret
    exact ⟨rfl, b1⟩

theorem u64_back (v : Int) (h0 : -9223372036854775808 ≤ v) (h1 : v ≤ 9223372036854775807) : ∃ n : Nat, IntKind.u64.wrap v = n ∧ n < 18446744073709551616 ∧ wrap64 n = v := by
  refine ⟨(IntKind.u64.wrap v).toNat, ?_, ?_, ?_⟩
  all_goals rw [IntKind.wrap_u64]
  · omega
  · omega
  · unfold wrap64; omega

theorem back_good (a b u v : Int) (hv : -9223372036854775808 ≤ v ∧ v ≤ 9223372036854775807) (hu : 0 ≤ u ∧ u < 18446744073709551616) (bits : Nat) (hbits : bits < 18446744073709551616) (s : ByteArray) (W : World) (ht : Tab W)
    (ha : 0 ≤ a ∧ a ≤ 255) (hb : 0 ≤ b ∧ b ≤ 4294967295) (hs : s.size ≤ 1000) :
    Calls Tryd.prog 11 #[.int .i64 a, .int .i64 b, .int .u64 u, .int .i64 v, .int .u64 bits, .string s] W fun en w' => en = .returned (.bool true) ∧ Below W.heap.size W w' := by
  have HT := Lib.hid ht; clear ht
  obtain ⟨vn, hvn, hvl, hvb⟩ := u64_back v hv.1 hv.2
  obtain ⟨an, rfl⟩ := Int.eq_ofNat_of_zero_le ha.1
  obtain ⟨bn, rfl⟩ := Int.eq_ofNat_of_zero_le hb.1
  obtain ⟨un, rfl⟩ := Int.eq_ofNat_of_zero_le hu.1
  obtain ⟨t1, t2, t3, t4, t5, t6, r1, r2, r3, r4, r5, hway⟩ := way_any an bn un vn (canonB bits) s (by omega) (by omega) (by omega) hvl (canonB_lt hbits) hs
  have hsame : sameB (canonB (canonB bits)) bits = true := by rw [sameB, canonB_twice, canonB_twice]; simp
  have h1 : ¬ (an : Int) < 0 := by omega
  have h2 : ¬ 255 < (an : Int) := by omega
  have h3 : ¬ (bn : Int) < 0 := by omega
  have h4 : ¬ 4294967295 < (bn : Int) := by omega
  have h5 : ¬ (1000 : Int) < (s.size : Int) := by omega
  have hlen : s.size ≤ maxLen := by unfold maxLen; omega
  have hea : (an : Int) ≤ 9223372036854775807 := by omega
  have heb : (bn : Int) ≤ 9223372036854775807 := by omega
  have heu : (0 : Int) ≤ (un : Int) := by omega
  have hz6 : t6.size ≤ 281474976710656 := Nat.le_trans hway.z6 (by decide)
  have HV := Lib.hid (And.intro hvn hvb); clear hvn hvb
  have HS := Lib.hid hsame; clear hsame
  have HL := Lib.hid hlen; clear hlen
  have HW := Lib.hid hway; clear hway
  clear hu hv ha hb hbits hvl
  go_enter Tryd.func11, Tryd.ntmps11
  go_wp2_with fail
  refine (alive_any W HT.out).mono ?_
  rintro en w1 ⟨rfl, b1⟩
  go_wp2_with fail
  have g0 := outNew (B := W.heap.size) w1 b1.size
  have b2 := b1.trans ((below_alloc w1 (.cells #[.slice none 0 0, .int .i64 0] 27)).mono b1.size)
  refine (outU8 W.heap.size w1.heap.size _ _ 0 _ g0 (by decide) an hea).mono ?_
  rintro en w2 ⟨rfl, v2, g2, k2, -⟩
  rw [HW.out.p1] at g2
  have b3 := b2.trans (g0.turn k2)
  clear k2 g0 b1 b2
  go_wp2_with fail
  refine (outU32 W.heap.size w1.heap.size v2 _ _ w2 g2 (Nat.le_trans HW.out.z1 (by decide)) bn heb).mono ?_
  rintro en w3 ⟨rfl, v3, g3, k3, -⟩
  rw [HW.out.p2] at g3
  have b4 := b3.trans (g2.turn k3)
  clear k3 g2 b3
  go_wp2_with fail
  refine (outU64 W.heap.size w1.heap.size v3 _ _ w3 g3 HW.out.z2 un heu).mono ?_
  rintro en w4 ⟨rfl, v4, g4, k4, -⟩
  rw [HW.out.p3] at g4
  have b5 := b4.trans (g3.turn k4)
  clear k4 g3 b4
  go_wp2_with fail
  refine (outI64 W.heap.size w1.heap.size v4 _ _ w4 g4 HW.out.z3 v).mono ?_
  rintro en w5 ⟨rfl, v5, g5, k5, -⟩
  rw [HV.out.1, HW.out.p4] at g5
  have b6 := b5.trans (g4.turn k5)
  clear k5 g4 b5
  go_wp2_with fail
  refine (float_any bits w5).mono ?_
  rintro en w6 ⟨rfl, rfl⟩
  go_wp2_with fail
  refine (outF64 W.heap.size w1.heap.size v5 _ _ w5 g5 HW.out.z4 bits).mono ?_
  rintro en w6 ⟨rfl, v6, g6, k6, -⟩
  rw [HW.out.p5] at g6
  have b7 := b6.trans (g5.turn k6)
  clear k6 g5 b6
  go_wp2_with fail
  refine (outText W.heap.size w1.heap.size v6 _ _ w6 g6 HW.out.z5 s HL.out).mono ?_
  rintro en w7 ⟨rfl, v7, g7, k7, -⟩
  rw [HW.out.p6] at g7
  have b8 := b7.trans (g6.turn k7)
  clear k7 g6 b7
  go_wp2_with fail
  refine (outDone W.heap.size w1.heap.size v7 _ _ w7 g7).mono ?_
  rintro en w8 ⟨rfl, d8⟩
  have b9 := b8.trans (d8.mono b8.size)
  clear d8 g7 b8
  unfold doneOf
  rw [if_pos rfl]
  go_wp2_with fail
  refine (newIn t6 w8 hz6).mono ?_
  rintro en w9 ⟨I, rfl, i9, hI, d9⟩
  have b10 := b9.trans (d9.mono b9.size)
  have hB : W.heap.size ≤ I := Nat.le_trans b9.size hI
  clear b9 d9 hI
  go_wp2_with fail
  refine (inU8 I _ 0 w9 i9).mono ?_
  rintro en w10 ⟨rfl, i10, o10⟩
  rw [HW.out.g1.1, ]
  rw [HW.out.g1.2] at i10
  have b11 := b10.trans (o10.below hB b10.size)
  clear o10 b10 i9
  go_wp2_with fail
  refine (inU32 I _ 0 w10 i10).mono ?_
  rintro en w11 ⟨rfl, i11, o11⟩
  rw [HW.out.g2.1]
  rw [HW.out.g2.2] at i11
  have b12 := b11.trans (o11.below hB b11.size)
  clear o11 b11 i10
  go_wp2_with fail
  refine (inU64 I _ 0 w11 i11).mono ?_
  rintro en w12 ⟨rfl, i12, o12⟩
  rw [HW.out.g3.1]
  rw [HW.out.g3.2] at i12
  have b13 := b12.trans (o12.below hB b12.size)
  clear o12 b12 i11
  go_wp2_with fail
  refine (inI64 I _ 0 w12 i12).mono ?_
  rintro en w13 ⟨rfl, i13, o13⟩
  rw [HW.out.g4.1, HV.out.2]
  rw [HW.out.g4.2] at i13
  have b14 := b13.trans (o13.below hB b13.size)
  clear o13 b13 i12
  go_wp2_with fail
  refine (inF64 I _ 0 w13 i13).mono ?_
  rintro en w14 ⟨rfl, i14, o14⟩
  rw [HW.out.g5.1]
  rw [HW.out.g5.2] at i14
  have b15 := b14.trans (o14.below hB b14.size)
  clear o14 b14 i13
  go_wp2_with fail
  refine (float_any bits w14).mono ?_
  rintro en w15 ⟨rfl, rfl⟩
  go_wp2_with fail
  refine (same_any (canonB (canonB bits)) bits w14).mono ?_
  rintro en w15 ⟨rfl, rfl⟩
  rw [HS.out]
  go_wp2_with fail
  refine (inText I _ 0 w14 i14 (Nat.le_trans HW.out.zr (by decide)) 1000).mono ?_
  rintro en w15 ⟨rfl, i15, o15⟩
  rw [HW.out.g6] at i15 ⊢
  have b16 := b15.trans (o15.below hB b15.size)
  clear o15 b15 i14
  go_wp2_with fail
  refine (inEnd I _ 0 w15 i15).mono ?_
  rintro en w16 ⟨rfl, i16, o16⟩
  rw [show endOf ⟨#[]⟩ 0 = 0 from rfl]
  go_wp2
  go_ret
  exact ⟨rfl, b16.trans (o16.below hB b16.size)⟩
end Go.Proofs.YtganeocegdkddaaDoor
