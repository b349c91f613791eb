/-
  CodecSizes: a number goes into its bytes just if they hold it. Conditions: none.
-/
import Derived.Test.YtganeocegdkddaaDoorG
namespace Go.Proofs.YtganeocegdkddaaDoor
open Go.RowKit Go.Lib

/-- How a number goes into its bytes. -/
theorem small_cases (x : Int) (n : Nat) (m : Int) (hm : m + 1 = 2 ^ (8 * n)) : ((0 ≤ x ∧ x ≤ m) ∧ ∃ t : ByteArray, t.size = n ∧ putSmall ⟨#[]⟩ 0 x n = (t, 0)) ∨ (¬ (0 ≤ x ∧ x ≤ m) ∧ putSmall ⟨#[]⟩ 0 x n = (⟨#[]⟩, 1)) := by
  by_cases h : 0 ≤ x ∧ x ≤ m
  · refine Or.inl ⟨h, _, ?_, by rw [putSmall, if_neg (by simp), if_neg (by omega)]⟩
    rw [ByteArray.size_append, highs_size]; simp [ByteArray.size]
  · exact Or.inr ⟨h, by rw [putSmall, if_neg (by simp), if_pos (by omega)]⟩

theorem sizes_walk (x : Int) (hx1 : x ≤ 9223372036854775807) (W : World) (ht : Tab W) : Calls Tryd.prog 3 #[.int .i64 x] W fun en w' => en = .returned (.bool true) ∧ Below W.heap.size W w' := by
  have HC1 := Lib.hid (small_cases x 1 255 (by decide))
  have HC2 := Lib.hid (small_cases x 4 4294967295 (by decide))
  go_enter Tryd.func3, Tryd.ntmps3
  go_wp2_with fail
  refine (alive_any W ht).mono ?_
  rintro en w1 ⟨rfl, b1⟩
  clear ht
  go_wp2_with fail
  have h0 := outNew (B := W.heap.size) w1 b1.size
  have h0' := h0.below' (below_alloc _ (.cells #[.slice none 0 0, .int .i64 0] 27))
  have k0 := outNew (B := W.heap.size) (w1.alloc (.cells #[.slice none 0 0, .int .i64 0] 27)) (by simp; have := b1.size; omega)
  have e1 : (w1.alloc (.cells #[.slice none 0 0, .int .i64 0] 27)).heap.size = w1.heap.size + 1 := by simp
  rw [e1] at k0
  have b2 := b1.trans ((below_alloc w1 (.cells #[.slice none 0 0, .int .i64 0] 27)).mono b1.size) |>.trans ((below_alloc (w1.alloc (.cells #[.slice none 0 0, .int .i64 0] 27)) (.cells #[.slice none 0 0, .int .i64 0] 27)).mono (by simp; have := b1.size; omega))
  refine (outU8 W.heap.size w1.heap.size _ _ 0 _ h0' (by decide) x hx1).mono ?_
  rintro en w2 ⟨rfl, v2, h2, t2, -⟩
  have b3 := b2.trans (h0'.turn t2)
  have k2 := k0.kept (fun k hk hc => t2.block k hk (by
    rcases hc with rfl | hc
    · simp
    · simp [Value.ownBlock] at hc) (by simp [Value.ownBlock]))
  clear t2 h0 h0' k0 b1 b2
  go_wp2_with fail
  refine (outDone W.heap.size w1.heap.size v2 _ _ w2 h2).mono ?_
  rintro en w3 ⟨rfl, d3⟩
  have k3 := k2.below' d3
  have b4 := b3.trans (d3.mono b3.size)
  clear d3 h2 k2 b3 e1
  unfold doneOf
  obtain ⟨da, hda⟩ : ∃ da, (if (putSmall ⟨#[]⟩ 0 x 1).2 = 0 then (putSmall ⟨#[]⟩ 0 x 1).1 else ⟨#[]⟩) = da := ⟨_, rfl⟩
  obtain ⟨ea, hea⟩ : ∃ ea, (putSmall ⟨#[]⟩ 0 x 1).2 = ea := ⟨_, rfl⟩
  rw [hda, hea]
  have HA := Lib.hid (And.intro hda hea); clear hda hea
  go_wp2_with fail
  refine (outU32 W.heap.size (w1.heap.size + 1) _ _ 0 _ k3 (by decide) x hx1).mono ?_
  rintro en w4 ⟨rfl, v4, h4, t4, -⟩
  have b5 := b4.trans (k3.turn t4)
  clear t4 k3 b4
  go_wp2_with fail
  refine (outDone W.heap.size _ v4 _ _ w4 h4).mono ?_
  rintro en w5 ⟨rfl, d5⟩
  have b6 := b5.trans (d5.mono b5.size)
  clear d5 h4 b5
  unfold doneOf
  obtain ⟨db, hdb⟩ : ∃ db, (if (putSmall ⟨#[]⟩ 0 x 4).2 = 0 then (putSmall ⟨#[]⟩ 0 x 4).1 else ⟨#[]⟩) = db := ⟨_, rfl⟩
  obtain ⟨eb, heb⟩ : ∃ eb, (putSmall ⟨#[]⟩ 0 x 4).2 = eb := ⟨_, rfl⟩
  rw [hdb, heb]
  have HB := Lib.hid (And.intro hdb heb); clear hdb heb
  have hA : (∃ h : 0 ≤ x ∧ x ≤ 255, ea = 0 ∧ da.size = 1) ∨ (¬ (0 ≤ x ∧ x ≤ 255) ∧ ea = 1 ∧ da = ⟨#[]⟩) := by
    obtain ⟨h1, h2⟩ := HA.out
    rcases HC1.out with ⟨hx, t, hsz, hp⟩ | ⟨hx, hp⟩
    · rw [hp] at h1 h2; simp only [] at h1 h2; subst h2; exact Or.inl ⟨hx, rfl, by rw [← h1]; exact hsz⟩
    · rw [hp] at h1 h2; simp only [] at h1 h2; subst h2; exact Or.inr ⟨hx, rfl, h1.symm⟩
  have hB : (∃ h : 0 ≤ x ∧ x ≤ 4294967295, eb = 0 ∧ db.size = 4) ∨ (¬ (0 ≤ x ∧ x ≤ 4294967295) ∧ eb = 1 ∧ db = ⟨#[]⟩) := by
    obtain ⟨h1, h2⟩ := HB.out
    rcases HC2.out with ⟨hx, t, hsz, hp⟩ | ⟨hx, hp⟩
    · rw [hp] at h1 h2; simp only [] at h1 h2; subst h2; exact Or.inl ⟨hx, rfl, by rw [← h1]; exact hsz⟩
    · rw [hp] at h1 h2; simp only [] at h1 h2; subst h2; exact Or.inr ⟨hx, rfl, h1.symm⟩
  clear HA HB HC1 HC2
  rcases hA with ⟨⟨h1, h2⟩, rfl, hsa⟩ | ⟨hn1, rfl, rfl⟩
  · rcases hB with ⟨⟨h3, h4⟩, rfl, hsb⟩ | ⟨hn2, rfl, rfl⟩
    · go_wp2
      go_ret
      exact ⟨rfl, b6⟩
    · exact absurd ⟨h1, by omega⟩ hn2
  · rcases hB with ⟨⟨h3, h4⟩, rfl, hsb⟩ | ⟨hn2, rfl, rfl⟩
    · have h5 : ¬ x ≤ 255 := fun h => hn1 ⟨h3, h⟩
      clear hn1
      go_wp2
      go_ret
      exact ⟨rfl, b6⟩
    · by_cases h0 : x < 0
      · have h7 : ¬ 0 ≤ x := by omega
        clear hn1 hn2
        go_wp2
        go_ret
        exact ⟨rfl, b6⟩
      · have h5 : ¬ x ≤ 4294967295 := fun h => hn2 ⟨by omega, h⟩
        have h6 : ¬ x ≤ 255 := by omega
        have h7 : 0 ≤ x := by omega
        clear hn1 hn2
        go_wp2
        go_ret
        exact ⟨rfl, b6⟩
end Go.Proofs.YtganeocegdkddaaDoor
