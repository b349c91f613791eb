/-
  chronicleref1.Out: numbers, floats, texts, the bytes at the end; the length of codec.Out. Conditions: none.
-/
import Derived.Test.YtganeocegdkddaaDoorRB
namespace Go.Proofs.YtganeocegdkddaaDoor
open Go.RowKit Go.Lib

section
variable (B O : Nat) (v : Value) (s : ByteArray) (e : Int) (w : World) (hO : ROutAt B O v s e w) (hs : s.size ≤ 900000)
include hO hs

theorem rnum_any (x : Int) (hx0 : 0 ≤ x) (n : Nat) (N : Int) (hN : N = n) (hn : 1 ≤ n ∧ n ≤ 8) : Calls Tryd.prog 27 #[.pointer (some ⟨O, 0, none⟩), .int .u64 x, .int .i64 N] w (RPut B O v (if e ≠ 0 then s else s ++ highs x n n) e w) := by
  subst hN
  by_cases he : e = 0
  · subst he
    rw [if_neg (by simp)]
    exact rnum_now B O v s w hO x hx0 n hn.2 (by omega)
  · rw [if_pos he]
    exact rnum_had B O v s e w hO (by simpa using he) x n (by omega)

theorem rnum64 (x : Int) (hx0 : 0 ≤ x) : Calls Tryd.prog 27 #[.pointer (some ⟨O, 0, none⟩), .int .u64 x, .int .i64 8] w (RPut B O v (put64 s e x).1 (put64 s e x).2 w) := by
  have h := rnum_any B O v s e w hO hs x hx0 8 8 rfl (by decide)
  have e1 : (put64 s e x).1 = if e ≠ 0 then s else s ++ highs x 8 8 := by unfold put64; split <;> rfl
  have e2 : (put64 s e x).2 = e := by
    unfold put64; split
    · rfl
    · rename_i h; simp only [ne_eq, Classical.not_not] at h; exact h.symm
  rw [e1, e2]
  exact h

theorem rfloat_any (b : Nat) : Calls Tryd.prog 31 #[.pointer (some ⟨O, 0, none⟩), .float .f64 b] w (RPut B O v (put64 s e (canonB b : Nat)).1 (put64 s e (canonB b : Nat)).2 w) := by
  have H := Lib.hid (rnum64 B O v s e w hO hs (canonB b : Nat) (by omega))
  go_enter Tryd.func31, Tryd.ntmps31
  go_wp2_with fail
  refine (bits_any b w).mono ?_
  rintro en w' ⟨rfl, rfl⟩
  go_wp2_with fail
  refine H.out.mono ?_
  rintro en w' ⟨rfl, hv⟩
  go_wp2
  go_end0
  exact ⟨rfl, hv⟩

theorem rsmall_bad (x N : Int) (hN : (N = 1 ∧ (x < 0 ∨ 256 ≤ x)) ∨ (N = 4 ∧ (x < 0 ∨ 4294967296 ≤ x))) : Calls Tryd.prog 26 #[.pointer (some ⟨O, 0, none⟩), .int .i64 x, .int .i64 N] w (RPut B O v s (if e = 0 then 1 else e) w) := by
  have HO := Lib.hid hO; clear hO
  have _hs := hs
  have hf : ∀ w', w' = w → Calls Tryd.prog 55 #[.pointer (some ⟨O, 0, none⟩), .int .i64 1] w' fun en w2 => en = .returned (.tuple #[]) ∧ RPut B O v s (if e = 0 then 1 else e) w (.returned (.tuple #[])) w2 := by
    rintro w' rfl
    by_cases he : e = 0
    · refine (rfail_now B O v s e w' HO.out 1 he).mono ?_
      rintro en w2 ⟨rfl, rfl⟩
      rw [if_pos he]
      exact ⟨rfl, RPut.err HO.out 1⟩
    · refine (rfail_had B O v s e w' HO.out 1 (by simpa using he)).mono ?_
      rintro en w2 ⟨rfl, rfl⟩
      rw [if_neg he]
      exact ⟨rfl, RPut.same HO.out⟩
  have HF := Lib.hid hf; clear hf
  revert HF
  generalize (if e = 0 then 1 else e) = e'
  intro HF
  have hw : (N = 1 ∧ x < 0) ∨ (N = 1 ∧ ¬ x < 0 ∧ 256 ≤ x) ∨ (N = 4 ∧ x < 0) ∨ (N = 4 ∧ ¬ x < 0 ∧ 4294967296 ≤ x) := by omega
  clear hN
  rcases hw with ⟨rfl, h1⟩ | ⟨rfl, h1, h2⟩ | ⟨rfl, h1⟩ | ⟨rfl, h1, h2⟩
  all_goals
    go_enter Tryd.func26, Tryd.ntmps26
    go_wp2_with fail
    refine (HF.out w rfl).mono ?_
    rintro en w2 ⟨rfl, hr⟩
    have HR := Lib.hid hr; clear hr
    go_wp2
    first | go_end0 | refine bodyPost_ret (results_none rfl _ _ _) rfl ?_
    exact HR.out

theorem rsmall_good (x N : Int) (n : Nat) (hx0 : 0 ≤ x) (hN : (N = 1 ∧ n = 1 ∧ x < 256) ∨ (N = 4 ∧ n = 4 ∧ x < 4294967296)) : Calls Tryd.prog 26 #[.pointer (some ⟨O, 0, none⟩), .int .i64 x, .int .i64 N] w (RPut B O v (if e ≠ 0 then s else s ++ highs x n n) e w) := by
  have h1 : ¬ x < 0 := by omega
  have hw3 : IntKind.u64.wrap x = x := i64_u64 x hx0 (by omega)
  have H := Lib.hid (rnum_any B O v s e w hO hs x hx0 n N (by omega) (by omega))
  clear hO
  revert H
  generalize (if e ≠ 0 then s else s ++ highs x n n) = s'
  intro H
  rcases hN with ⟨rfl, rfl, h2⟩ | ⟨rfl, rfl, h2⟩
  all_goals
    go_enter Tryd.func26, Tryd.ntmps26
    go_wp2_with fail
    refine H.out.mono ?_
    rintro en w2 ⟨rfl, hr⟩
    go_wp2
    go_end0
    exact ⟨rfl, hr⟩

theorem rsmall_any (x N : Int) (n : Nat) (hN : (N = 1 ∧ n = 1) ∨ (N = 4 ∧ n = 4)) : Calls Tryd.prog 26 #[.pointer (some ⟨O, 0, none⟩), .int .i64 x, .int .i64 N] w (RPut B O v (putSmall s e x n).1 (putSmall s e x n).2 w) := by
  have hp : (n = 1 ∧ (2 : Int) ^ (8 * n) = 256) ∨ (n = 4 ∧ (2 : Int) ^ (8 * n) = 4294967296) := by
    rcases hN with ⟨-, rfl⟩ | ⟨-, rfl⟩
    · exact Or.inl ⟨rfl, by decide⟩
    · exact Or.inr ⟨rfl, by decide⟩
  by_cases hb : x < 0 ∨ ¬ x < 2 ^ (8 * n)
  · have h := rsmall_bad B O v s e w hO hs x N (by omega)
    have e1 : putSmall s e x n = (s, if e = 0 then 1 else e) := by
      unfold putSmall
      by_cases he : e = 0
      · rw [if_neg (by simpa using he), if_pos hb, if_pos he]
      · rw [if_pos he, if_neg he]
    rw [e1]
    exact h
  · have h := rsmall_good B O v s e w hO hs x N n (by omega) (by omega)
    have e1 : putSmall s e x n = (if e ≠ 0 then s else s ++ highs x n n, e) := by
      unfold putSmall
      by_cases he : e = 0
      · rw [if_neg (by simpa using he), if_neg hb, if_neg (by simpa using he), he]
      · rw [if_pos he, if_pos he]
    rw [e1]
    exact h

theorem rtext_any (t : ByteArray) (ht : t.size ≤ 60000) : Calls Tryd.prog 32 #[.pointer (some ⟨O, 0, none⟩), .string t] w (RPut B O v (putText s e t).1 (putText s e t).2 w) := by
  have hl2 : ¬ (65536 : Int) < (t.size : Int) := by omega
  have hw : IntKind.u64.wrap (t.size : Int) = (t.size : Int) := i64_u64 _ (by omega) (by omega)
  have HR := Lib.hid (rnum_any B O v s e w hO hs (t.size : Int) (by omega) 4 4 rfl (by decide))
  by_cases he : e = 0
  · have h1 : putText s e t = (s ++ highs t.size 4 4 ++ t, 0) := by rw [putText, if_neg (by simpa using he), if_neg (by omega)]
    rw [h1]
    subst he
    rw [if_neg (by simp)] at HR
    clear hO
    obtain ⟨i5, hi, hz0, hz1, hz2⟩ := info_parts (P := Tryd.prog) (e := 5) (z := .int .u8 0) (size := 1) (bytes := 1) (by kernel_rfl)
    go_enter Tryd.func32, Tryd.ntmps32
    go_wp2_with fail
    refine HR.out.mono ?_
    rintro en w1 ⟨rfl, v1, h1, hT, hH⟩
    obtain ⟨d1, d2, d3, d4⟩ := cells_of_two h1.box
    have hz3 := lt_of_block h1.box
    have hsz : (s ++ highs (t.size : Int) 4 4).size = s.size + 4 := by rw [ByteArray.size_append, highs_size]
    obtain ⟨s1, hs1⟩ : ∃ s1, s ++ highs (t.size : Int) 4 4 = s1 := ⟨_, rfl⟩
    rw [hs1] at h1 hsz
    have HS := Lib.hid hs1; clear hs1
    have k1 : s1.size + t.size ≤ maxLen := by rw [hsz]; unfold maxLen; omega
    have k2 : s1.size + t.size ≤ 140737488355328 := by rw [hsz]; omega
    have k3 : 0 < s1.size + t.size := by rw [hsz]; omega
    have k4 : B ≤ w1.heap.size := by have := h1.bo; omega
    have H1 := Lib.hid h1; clear h1 hsz
    go_wp2_with (first
      | (at_builtin; refine wpList_append_str _ rfl (.tmp 23) (.tmp 24) 24 9 rfl B 5 i5 Tryd.underlying24 Tryd.underlying9 hi hz0 hz1 hz2 v1 s1.size (strCells s1) rfl H1.out.own t rfl k1 k2 k4 k3 ?_)
      | fail)
    intro g cap w2 hown hgr hat
    rw [← strCells_append] at hown
    have hb2 : w2.heap[O]? = some (.cells #[v1, .int .i64 0] 47) := (hgr.block O (lt_of_block H1.out.box) H1.out.row_ne).trans H1.out.box
    obtain ⟨q1, q2, q3⟩ := H1.out.store (by rw [ByteArray.size_append]) hown hgr hat
    obtain ⟨c1, c2, c3, c4⟩ := cells_of_two hb2
    have hz := lt_of_block hb2
    have HQ := Lib.hid (And.intro q1 q2); clear q1 q2 hown hgr hb2 d1 d2 d3 d4 hz3
    go_wp2
    go_end0
    rw [HS.out]
    exact ⟨rfl, _, HQ.out.1, hT.trans HQ.out.2 hH, hH.trans q3 hT.size⟩
  · have h1 : putText s e t = (s, e) := by rw [putText, if_pos he]
    rw [h1]
    rw [if_pos he] at HR
    have he2 : (e == 0) = false := by simpa using he
    clear hO
    go_enter Tryd.func32, Tryd.ntmps32
    go_wp2_with fail
    refine HR.out.mono ?_
    rintro en w1 ⟨rfl, v1, h1, hT, hH⟩
    obtain ⟨d1, d2, d3, d4⟩ := cells_of_two h1.box
    have hz3 := lt_of_block h1.box
    have H1 := Lib.hid h1; clear h1
    go_wp2
    go_end0
    exact ⟨rfl, v1, H1.out, hT, hH⟩
end

theorem rdone_any (B O : Nat) (v : Value) (s : ByteArray) (e : Int) (w : World) (hO : ROutAt B O v s e w) : Calls Tryd.prog 33 #[.pointer (some ⟨O, 0, none⟩)] w fun en w' => en = .returned (doneOf s e) ∧ Below w.heap.size w w' := by
  obtain ⟨c1, c2, c3, c4⟩ := cells_of_two hO.box
  have hz := lt_of_block hO.box
  have hc := hO.text
  have HO := Lib.hid hO; clear hO
  by_cases he : e = 0
  · subst he
    go_enter Tryd.func33, Tryd.ntmps33
    go_wp2
    exact bodyPost_ret (v := doneOf s 0) (by simp [results, Tryd.results33, go_sem, doneOf]) rfl ⟨rfl, Below.refl _ _⟩
  · have he2 : (e == 0) = false := by simpa using he
    have he3 : (e != 0) = true := by rw [bne, he2]; rfl
    go_enter Tryd.func33, Tryd.ntmps33
    go_wp2_with fail
    go_quiet (fail)
    go_wp2
    exact bodyPost_ret (v := doneOf s e) (by simp [results, Tryd.results33, go_sem, doneOf, he]) rfl ⟨rfl, below_draws (Below.refl _ _) _⟩

theorem outLen (B O : Nat) (v : Value) (s : ByteArray) (e : Int) (w : World) (hO : OutAt B O v s e w) : Calls Tryd.prog 34 #[.pointer (some ⟨O, 0, none⟩)] w fun en w' => en = .returned (.int .i64 s.size) ∧ w = w' := by
  obtain ⟨c1, c2, c3, c4⟩ := cells_of_two hO.box
  have hz := lt_of_block hO.box
  have hf : ∃ ao cap, v = .slice ao s.size cap := by
    rcases hO.own.2 with ⟨hv, h0⟩ | ⟨g, cap, cur, hv, _⟩
    · exact ⟨none, 0, by rw [hv, h0]⟩
    · exact ⟨_, _, hv⟩
  clear hO
  obtain ⟨ao, cap, rfl⟩ := hf
  go_enter Tryd.func34, Tryd.ntmps34
  go_wp2
  go_ret
  exact ⟨rfl, rfl⟩
end Go.Proofs.YtganeocegdkddaaDoor
