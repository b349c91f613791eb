/-
  NameParts, the walk: a text with a byte that may not be, or too long, is no name. Conditions: none.
-/
import Derived.Test.YtijomegcomjbmaaDoorN4
import Derived.Test.YtijomegcomjbmaaDoorN5
import Derived.Test.YtijomegcomjbmaaDoorRDig
import Derived.RegionTactic
namespace Go.Proofs.YtijomegcomjbmaaDoor
open Go.RowKit Go.Lib

theorem parts_bad (s : ByteArray) (c a : Int) (hbad : 100 < s.size ∨ a < 0 ∨ c < 0 ∨ 255 < c) (W : World) (ht : Tab W) : Calls Tryd.prog 4 #[.string s, .int .i64 c, .int .i64 a] W fun en w' => en = .returned (.bool true) ∧ Below W.heap.size W w' := by
  have HT := Lib.hid ht; clear ht
  have hw : (100 : Int) < (s.size : Int) ∨ (¬ (100 : Int) < (s.size : Int) ∧ a < 0) ∨ (¬ (100 : Int) < (s.size : Int) ∧ ¬ a < 0 ∧ c < 0) ∨ (¬ (100 : Int) < (s.size : Int) ∧ ¬ a < 0 ∧ ¬ c < 0 ∧ 255 < c) := by omega
  clear hbad
  rcases hw with h1 | ⟨h1, h2⟩ | ⟨h1, h2, h3⟩ | ⟨h1, h2, h3, h4⟩
  all_goals
    go_enter Tryd.func4, Tryd.ntmps4
    go_wp2_with fail
    refine (alive_any W HT.out).mono ?_
    rintro en w1 ⟨rfl, b1⟩
    go_wp2
    go_ret
    exact ⟨rfl, b1⟩

theorem byte_drew (c : UInt8) (x : Int) (hx : x = c.toNat) (w : World) : (convert 29 9 (.slice (some ⟨w.heap.size, 0, none⟩) 1 1)).run Tryd.prog (w.alloc (.cells #[.int .u8 x] 5)).drew = .ok (.string ⟨#[c]⟩) (w.alloc (.cells #[.int .u8 x] 5)).drew := by
  subst hx
  exact run_convert_whole _ 29 5 9 Tryd.underlying29 Tryd.underlying5 Tryd.underlying9 w.heap.size 0 ⟨#[c]⟩ (fun i hi => by
        have hi0 : i = 0 := by have : i < 1 := hi; omega
        subst hi0
        have hb := new_block w (.cells #[.int .u8 (c.toNat)] 5)
        show (w.alloc (.cells #[.int .u8 (c.toNat)] 5)).cell? _ = _
        simp only [World.cell?, hb]
        rfl) 1

/-- What the whole is. -/
structure PartsAt (s t : ByteArray) (c : Int) (cb : UInt8) (k : Nat) : Prop where
  e : s.extract 0 k ++ ⟨#[cb]⟩ ++ s.extract k s.size = t
  z : t.size = s.size + 1
  v : streamB t.data.toList = ((s.data.toList.isEmpty || streamB s.data.toList) && nameByte cb && decide (s.size + 1 ≤ 60))
theorem parts_at (s : ByteArray) (c : Int) (h0 : 0 ≤ c) (h1 : c ≤ 255) (k : Nat) : ∃ t cb, c = ((cb : UInt8).toNat : Int) ∧ PartsAt s t c cb k := by
  refine ⟨_, UInt8.ofNat c.toNat, by rw [UInt8.toNat_ofNat']; omega, rfl, ?_, ?_⟩
  · rw [ByteArray.size_append, ByteArray.size_append, ByteArray.size_extract, ByteArray.size_extract]
    show _ + 1 + _ = _
    omega
  · have e1 : (s.extract 0 k ++ ⟨#[UInt8.ofNat c.toNat]⟩ ++ s.extract k s.size : ByteArray).data.toList = s.data.toList.take k ++ UInt8.ofNat c.toNat :: s.data.toList.drop k := by
      rw [← ext_take, ← ext_drop]
      simp [ByteArray.data_append]
    rw [e1, stream_put]
    have e2 : s.data.toList.length = s.size := by simp
    rw [e2]

set_option maxRecDepth 100000 in
set_option maxHeartbeats 4000000 in
theorem parts_empty (s : ByteArray) (n : Nat) (c : Int) (hz : s.size ≤ 100) (h0 : 0 ≤ c) (h1 : c ≤ 255) (hE : s.data.toList.isEmpty = true) (W : World) (ht : Tab W) : Calls Tryd.prog 4 #[.string s, .int .i64 c, .int .i64 n] W fun en w' => en = .returned (.bool true) ∧ Below W.heap.size W w' := by
  have HT := Lib.hid ht; clear ht
  obtain ⟨k, hk⟩ : ∃ k : Nat, min (n : Int) (s.size : Int) = (k : Int) := ⟨min n s.size, by omega⟩
  have hks : k ≤ s.size := by omega
  obtain ⟨t, cb, hcb, hp⟩ := parts_at s c h0 h1 k
  have hcv := byte_drew cb c hcb
  have hza : (s.extract 0 k).size ≤ 100 := by rw [ByteArray.size_extract]; omega
  have hzb : (s.extract 0 k ++ ⟨#[cb]⟩ : ByteArray).size ≤ 101 := by rw [ByteArray.size_append]; show _ + 1 ≤ 101; omega
  have hzc : (s.extract k s.size).size ≤ 100 := by rw [ByteArray.size_extract]; omega
  have hE1 : s.toList.isEmpty = true := by rw [ByteArray.toList_eq]; exact hE
  have hE2 : s.toList = [] := by
    simpa using hE1
  have hS := fun w => stream_any s w
  have hST := fun w => stream_any t w
  have hD := fun w => stream_any (⟨#[36]⟩ ++ s) w
  have hY := fun w => system_any (⟨#[36]⟩ ++ s) w
  have hN := fun w => stream_any ⟨#[]⟩ w
  have e36 : (⟨#[36]⟩ ++ s : ByteArray).data.toList = 36 :: s.data.toList := by simp [ByteArray.data_append]
  have hsl : s.data.toList.length = s.size := by simp
  rw [e36, system_dollar] at hY
  rw [show streamB (⟨#[]⟩ : ByteArray).data.toList = false from rfl] at hN
  rw [hp.v, hE] at hST
  have hs0 : s.size = 0 := by rw [← hsl, List.isEmpty_iff.1 hE]; rfl
  rw [Bool.true_or, Bool.true_and, decide_eq_true (show s.size + 1 ≤ 60 by omega), Bool.and_true] at hST
  have htz : (t.size : Int) ≤ 60 := by have := hp.z; omega
  clear hs0
  have HX := Lib.hid hp.e
  have HZ := hp.z
  have HS := Lib.hid hS; have HST := Lib.hid hST; have HD := Lib.hid hD; have HY := Lib.hid hY; have HN := Lib.hid hN
  clear hS hST hD hY hN e36 hsl hE hp
  have g1 : ¬ (100 : Int) < (s.size : Int) := by omega
  have g2 : ¬ (n : Int) < 0 := by omega
  have g3 : ¬ c < 0 := by omega
  have g4 : ¬ 255 < c := by omega
  have g5 : (k : Int) ≤ (s.size : Int) := by omega
  have hways : (¬ 33 ≤ c ∧ Hid (nameByte cb = false)) ∨ (33 ≤ c ∧ ¬ c ≤ 126 ∧ Hid (nameByte cb = false)) ∨ (33 ≤ c ∧ c ≤ 126 ∧ (c != 64) = false ∧ Hid (nameByte cb = false)) ∨ (33 ≤ c ∧ c ≤ 126 ∧ (c != 64) = true ∧ Hid (nameByte cb = true)) := by
    subst hcb
    by_cases a1 : ((cb.toNat : Nat) : Int) < 33
    · exact Or.inl ⟨by omega, nb_low a1⟩
    · by_cases a2 : 126 < ((cb.toNat : Nat) : Int)
      · exact Or.inr (Or.inl ⟨by omega, by omega, nb_high a2⟩)
      · cases a3 : (((cb.toNat : Nat) : Int) == 64)
        · exact Or.inr (Or.inr (Or.inr ⟨by omega, by omega, by rw [bne, a3]; rfl, nb_yes a1 a2 a3⟩))
        · exact Or.inr (Or.inr (Or.inl ⟨by omega, by omega, by rw [bne, a3]; rfl, nb_mark a3⟩))
  clear hcb HZ
  rcases hways with ⟨c1, hb⟩ | ⟨c1, c2, hb⟩ | ⟨c1, c2, c3, hb⟩ | ⟨c1, c2, c3, hb⟩
  all_goals
    have hST2 := HST.out
    rw [hb.out] at hST2
    have HST2 := Lib.hid hST2; clear hST2 HST hb
    go_enter Tryd.func4, Tryd.ntmps4
    go_wp2_with fail
    go_region
    all_goals
      rw [HX.out]
      go_wp2_with fail
      refine (alive_any _ (HT.out.below (((Below.refl _ W).alloc (Nat.le_refl _) _).drew))).mono ?_
      rintro en w1 ⟨rfl, b1⟩
      have b2 : Below W.heap.size W w1 := (((Below.refl _ W).alloc (Nat.le_refl _) _).drew).trans (b1.mono (by simp))
      clear b1
      go_wp2_with fail
      refine (HST2.out w1).mono ?_
      rintro en w' ⟨rfl, rfl⟩
      go_wp2_with fail
      refine (HY.out w1).mono ?_
      rintro en w' ⟨rfl, rfl⟩
      go_wp2_with fail
      refine (HN.out _).mono ?_
      rintro en w' ⟨rfl, rfl⟩
      go_wp2
      go_ret
      exact ⟨rfl, b2⟩

set_option maxRecDepth 100000 in
set_option maxHeartbeats 4000000 in
theorem parts_full (s : ByteArray) (n : Nat) (c : Int) (hz : s.size ≤ 100) (h0 : 0 ≤ c) (h1 : c ≤ 255) (hE : s.data.toList.isEmpty = false) (W : World) (ht : Tab W) : Calls Tryd.prog 4 #[.string s, .int .i64 c, .int .i64 n] W fun en w' => en = .returned (.bool true) ∧ Below W.heap.size W w' := by
  have HT := Lib.hid ht; clear ht
  obtain ⟨k, hk⟩ : ∃ k : Nat, min (n : Int) (s.size : Int) = (k : Int) := ⟨min n s.size, by omega⟩
  have hks : k ≤ s.size := by omega
  obtain ⟨t, cb, hcb, hp⟩ := parts_at s c h0 h1 k
  have hcv := byte_drew cb c hcb
  have hza : (s.extract 0 k).size ≤ 100 := by rw [ByteArray.size_extract]; omega
  have hzb : (s.extract 0 k ++ ⟨#[cb]⟩ : ByteArray).size ≤ 101 := by rw [ByteArray.size_append]; show _ + 1 ≤ 101; omega
  have hzc : (s.extract k s.size).size ≤ 100 := by rw [ByteArray.size_extract]; omega
  have hE1 : s.toList.isEmpty = false := by rw [ByteArray.toList_eq]; exact hE
  have hE2 : ¬ s.toList = [] := by
    intro h; rw [h] at hE1; exact absurd hE1 (by decide)
  have hS := fun w => stream_any s w
  have hST := fun w => stream_any t w
  have hD := fun w => stream_any (⟨#[36]⟩ ++ s) w
  have hY := fun w => system_any (⟨#[36]⟩ ++ s) w
  have hN := fun w => stream_any ⟨#[]⟩ w
  have e36 : (⟨#[36]⟩ ++ s : ByteArray).data.toList = 36 :: s.data.toList := by simp [ByteArray.data_append]
  have hsl : s.data.toList.length = s.size := by simp
  rw [e36, system_dollar] at hY
  rw [show streamB (⟨#[]⟩ : ByteArray).data.toList = false from rfl] at hN
  rw [hp.v, hE] at hST
  have hne : s.data.toList ≠ [] := fun h => by rw [h] at hE; exact absurd hE (by decide)
  rw [e36, stream_dollar _ hne, hsl] at hD
  rw [Bool.false_or] at hST
  have hst : streamB s.data.toList = true → s.size ≤ 60 := fun h => by
    rw [streamB, hsl] at h
    simp only [Bool.and_eq_true, decide_eq_true_eq] at h
    exact h.1.2
  revert hS hD hST hst
  generalize streamB s.data.toList = st
  intro hS hST hD hst
  clear hne
  have HX := Lib.hid hp.e
  have HZ := hp.z
  have HS := Lib.hid hS; have HST := Lib.hid hST; have HD := Lib.hid hD; have HY := Lib.hid hY; have HN := Lib.hid hN
  clear hS hST hD hY hN e36 hsl hE hp
  have g1 : ¬ (100 : Int) < (s.size : Int) := by omega
  have g2 : ¬ (n : Int) < 0 := by omega
  have g3 : ¬ c < 0 := by omega
  have g4 : ¬ 255 < c := by omega
  have g5 : (k : Int) ≤ (s.size : Int) := by omega
  have hways : (st = false ∧ Hid ((st && nameByte cb && decide (s.size + 1 ≤ 60)) = false)) ∨
      (st = true ∧ ¬ 33 ≤ c ∧ Hid ((st && nameByte cb && decide (s.size + 1 ≤ 60)) = false)) ∨
      (st = true ∧ 33 ≤ c ∧ ¬ c ≤ 126 ∧ Hid ((st && nameByte cb && decide (s.size + 1 ≤ 60)) = false)) ∨
      (st = true ∧ 33 ≤ c ∧ c ≤ 126 ∧ (c != 64) = false ∧ Hid ((st && nameByte cb && decide (s.size + 1 ≤ 60)) = false)) ∨
      (st = true ∧ 33 ≤ c ∧ c ≤ 126 ∧ (c != 64) = true ∧ decide ((t.size : Int) ≤ 60) = false ∧ Hid ((st && nameByte cb && decide (s.size + 1 ≤ 60)) = false)) ∨
      (st = true ∧ 33 ≤ c ∧ c ≤ 126 ∧ (c != 64) = true ∧ decide ((t.size : Int) ≤ 60) = true ∧ Hid ((st && nameByte cb && decide (s.size + 1 ≤ 60)) = true)) := by
    subst hcb
    cases st
    · exact Or.inl ⟨rfl, Lib.hid (by simp)⟩
    · by_cases a1 : ((cb.toNat : Nat) : Int) < 33
      · exact Or.inr (Or.inl ⟨rfl, by omega, Lib.hid (by rw [nb_low a1]; rfl)⟩)
      · by_cases a2 : 126 < ((cb.toNat : Nat) : Int)
        · exact Or.inr (Or.inr (Or.inl ⟨rfl, by omega, by omega, Lib.hid (by rw [nb_high a2]; rfl)⟩))
        · cases a3 : (((cb.toNat : Nat) : Int) == 64)
          · by_cases a4 : s.size + 1 ≤ 60
            · exact Or.inr (Or.inr (Or.inr (Or.inr (Or.inr ⟨rfl, by omega, by omega, by rw [bne, a3]; rfl, decide_eq_true (by omega), Lib.hid (by rw [nb_yes a1 a2 a3, decide_eq_true a4]; rfl)⟩))))
            · exact Or.inr (Or.inr (Or.inr (Or.inr (Or.inl ⟨rfl, by omega, by omega, by rw [bne, a3]; rfl, decide_eq_false (by omega), Lib.hid (by rw [decide_eq_false a4, Bool.and_false])⟩))))
          · exact Or.inr (Or.inr (Or.inr (Or.inl ⟨rfl, by omega, by omega, by rw [bne, a3]; rfl, Lib.hid (by rw [nb_mark a3]; rfl)⟩)))
  clear hcb HZ
  have hlen : Hid (decide (s.size < 60) = true) ∧ decide ((s.size : Int) < 60) = true ∨ Hid (decide (s.size < 60) = false) ∧ decide ((s.size : Int) < 60) = false := by
    by_cases h : s.size < 60
    · exact Or.inl ⟨Lib.hid (decide_eq_true h), decide_eq_true (by omega)⟩
    · exact Or.inr ⟨Lib.hid (decide_eq_false h), decide_eq_false (by omega)⟩
  have HD2 : Hid (∀ w, Calls Tryd.prog 8 #[.string (⟨#[36]⟩ ++ s)] w fun en w' => en = .returned (.bool (st && decide (s.size < 60))) ∧ w = w') := HD.out
  clear HD hst
  rcases hlen with ⟨hl, g6⟩ | ⟨hl, g6⟩
  all_goals
    have hD3 := HD2.out
    rw [hl.out] at hD3
    have HD3 := Lib.hid hD3; clear hD3 HD2 hl
    rcases hways with ⟨rfl, hb⟩ | ⟨rfl, c1, hb⟩ | ⟨rfl, c1, c2, hb⟩ | ⟨rfl, c1, c2, c3, hb⟩ | ⟨rfl, c1, c2, c3, c4, hb⟩ | ⟨rfl, c1, c2, c3, c4, hb⟩
    all_goals
      have hST2 := HST.out
      rw [hb.out] at hST2
      have HST2 := Lib.hid hST2; clear hST2 HST hb
      go_enter Tryd.func4, Tryd.ntmps4
      go_wp2_with fail
      go_region
      all_goals
        rw [HX.out]
        go_wp2_with fail
        refine (HS.out _).mono ?_
        rintro en w' ⟨rfl, rfl⟩
        go_wp2_with fail
        refine (alive_any _ (HT.out.below (((Below.refl _ W).alloc (Nat.le_refl _) _).drew))).mono ?_
        rintro en w1 ⟨rfl, b1⟩
        have b2 : Below W.heap.size W w1 := (((Below.refl _ W).alloc (Nat.le_refl _) _).drew).trans (b1.mono (by simp))
        clear b1
        go_wp2_with fail
        refine (HST2.out w1).mono ?_
        rintro en w' ⟨rfl, rfl⟩
        go_wp2_with fail
        refine (HY.out w1).mono ?_
        rintro en w' ⟨rfl, rfl⟩
        go_wp2_with fail
        refine (HD3.out _).mono ?_
        rintro en w' ⟨rfl, rfl⟩
        go_wp2_with fail
        refine (HS.out _).mono ?_
        rintro en w' ⟨rfl, rfl⟩
        go_wp2_with fail
        refine (HN.out _).mono ?_
        rintro en w' ⟨rfl, rfl⟩
        go_wp2
        go_ret
        exact ⟨rfl, b2⟩
end Go.Proofs.YtijomegcomjbmaaDoor
