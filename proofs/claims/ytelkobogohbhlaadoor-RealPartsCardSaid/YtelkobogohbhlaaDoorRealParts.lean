/-
  RealParts, the walk: the least and the most of two lists together are those of both. Conditions: none.
-/
import Derived.Test.YtelkobogohbhlaaDoorRealC7
namespace Go.Proofs.YtelkobogohbhlaaDoor
open Go.RowKit Go.Lib

/-! The plain law. -/
theorem oneW_ord (b : Nat) : ordK (oneW b) = ordK b := by
  rcases fine_dec b with ⟨h, _⟩ | ⟨h, hf⟩
  · rw [oneW_not h]
  · rw [oneW_nan h, ordK_top not_fine_one, ordK_top hf]
theorem ordK_le (b : Nat) : ordK b ≤ 100000000000000000000 := by
  by_cases h : fine b
  · exact Int.le_of_lt (ordK_low h)
  · rw [ordK_top h]; exact Int.le_refl _
theorem oneW_lt {b : Nat} (hb : b < 18446744073709551616) : oneW b < 18446744073709551616 := by
  rcases fine_dec b with ⟨h, _⟩ | ⟨h, _⟩
  · rw [oneW_not h]; exact hb
  · rw [oneW_nan h]; decide

theorem least_le (L : Nat → Nat) : ∀ n i, i < n → ordK (leastC L n) ≤ ordK (L i)
  | n + 1, i, hi => by
    have hstep : leastC L (n + 1) = if lessB (L n) (leastC L n) then L n else leastC L n := rfl
    rw [hstep, less_ord]
    have ih := least_le L n i
    by_cases h : ordK (L n) < ordK (leastC L n)
    · rw [decide_eq_true h, if_pos rfl]
      by_cases hi2 : i < n
      · have := ih hi2; omega
      · obtain rfl : i = n := by omega
        exact Int.le_refl _
    · rw [decide_eq_false h, if_neg (by decide)]
      by_cases hi2 : i < n
      · exact ih hi2
      · obtain rfl : i = n := by omega
        omega
theorem least_in (L : Nat → Nat) : ∀ n, 0 < n → ∃ i, i < n ∧ ordK (leastC L n) = ordK (L i)
  | 1, _ => by
    refine ⟨0, by decide, ?_⟩
    show ordK (if lessB (L 0) 9221120237041090560 then L 0 else 9221120237041090560) = _
    rw [less_ord, ordK_top not_fine_one]
    by_cases h : ordK (L 0) < 100000000000000000000
    · rw [decide_eq_true h, if_pos rfl]
    · rw [decide_eq_false h, if_neg (by decide), ordK_top not_fine_one]
      have := ordK_le (L 0)
      omega
  | n + 2, _ => by
    have hstep : leastC L (n + 2) = if lessB (L (n + 1)) (leastC L (n + 1)) then L (n + 1) else leastC L (n + 1) := rfl
    rw [hstep]
    split
    · exact ⟨n + 1, by omega, rfl⟩
    · obtain ⟨i, hi, h⟩ := least_in L (n + 1) (by omega)
      exact ⟨i, by omega, h⟩
theorem most_ge (L : Nat → Nat) : ∀ n i, i ≤ n → ordK (L i) ≤ ordK (mostC L n)
  | 0, i, hi => by
    obtain rfl : i = 0 := by omega
    exact Int.le_refl _
  | n + 1, i, hi => by
    have hstep : mostC L (n + 1) = if lessB (mostC L n) (L (n + 1)) then L (n + 1) else mostC L n := rfl
    rw [hstep, less_ord]
    have ih := most_ge L n i
    by_cases h : ordK (mostC L n) < ordK (L (n + 1))
    · rw [decide_eq_true h, if_pos rfl]
      by_cases hi2 : i ≤ n
      · have := ih hi2; omega
      · obtain rfl : i = n + 1 := by omega
        exact Int.le_refl _
    · rw [decide_eq_false h, if_neg (by decide)]
      by_cases hi2 : i ≤ n
      · exact ih hi2
      · obtain rfl : i = n + 1 := by omega
        omega
theorem most_in (L : Nat → Nat) : ∀ n, ∃ i, i ≤ n ∧ ordK (mostC L n) = ordK (L i)
  | 0 => ⟨0, Nat.le_refl _, rfl⟩
  | n + 1 => by
    have hstep : mostC L (n + 1) = if lessB (mostC L n) (L (n + 1)) then L (n + 1) else mostC L n := rfl
    rw [hstep]
    split
    · exact ⟨n + 1, Nat.le_refl _, rfl⟩
    · obtain ⟨i, hi, h⟩ := most_in L n
      exact ⟨i, by omega, h⟩

/-- Two lists, one behind the other. -/
def cat (L M : Nat → Nat) (n : Nat) : Nat → Nat := fun i => if i < n then L i else M (i - n)
theorem cat_lt {L M : Nat → Nat} {n m : Nat} (hL : ∀ i, i < n → L i < 18446744073709551616) (hM : ∀ i, i < m → M i < 18446744073709551616) : ∀ i, i < n + m → cat L M n i < 18446744073709551616 := by
  intro i hi
  unfold cat
  split
  · exact hL i (by assumption)
  · exact hM _ (by omega)

theorem least_cat (L M : Nat → Nat) (n m : Nat) (hn : 0 < n) (hm : 0 < m) :
    ordK (leastC (cat L M n) (n + m)) = ordK (leastC (fun i => if i = 0 then leastC L n else leastC M m) 2) := by
  obtain ⟨i, hi, e1⟩ := least_in (cat L M n) (n + m) (by omega)
  obtain ⟨j, hj, e2⟩ := least_in (fun i => if i = 0 then leastC L n else leastC M m) 2 (by decide)
  have l0 := least_le (fun i => if i = 0 then leastC L n else leastC M m) 2 0 (by decide)
  have l1 := least_le (fun i => if i = 0 then leastC L n else leastC M m) 2 1 (by decide)
  simp only [if_true, Nat.one_ne_zero, if_false] at l0 l1
  have up : ∀ k, k < n + m → ordK (leastC (cat L M n) (n + m)) ≤ ordK (cat L M n k) := fun k hk => least_le _ _ _ hk
  -- the pair's is among all
  have h1 : ordK (leastC (cat L M n) (n + m)) ≤ ordK (leastC (fun i => if i = 0 then leastC L n else leastC M m) 2) := by
    rw [e2]
    by_cases h0 : j = 0
    · rw [if_pos h0]
      obtain ⟨k, hk, e3⟩ := least_in L n hn
      rw [e3]
      have := up k (by omega)
      unfold cat at this
      rwa [if_pos hk] at this
    · rw [if_neg h0]
      obtain ⟨k, hk, e3⟩ := least_in M m hm
      rw [e3]
      have := up (n + k) (by omega)
      unfold cat at this
      rwa [if_neg (by omega), show n + k - n = k by omega] at this
  have h2 : ordK (leastC (fun i => if i = 0 then leastC L n else leastC M m) 2) ≤ ordK (leastC (cat L M n) (n + m)) := by
    rw [e1]
    unfold cat
    by_cases h : i < n
    · rw [if_pos h]
      have := least_le L n i h
      omega
    · rw [if_neg h]
      have := least_le M m (i - n) (by omega)
      omega
  omega
theorem most_cat (L M : Nat → Nat) (n m : Nat) (hn : 0 < n) (hm : 0 < m) :
    ordK (mostC (cat L M n) (n + m - 1)) = ordK (mostC (fun i => if i = 0 then oneW (mostC L (n - 1)) else oneW (mostC M (m - 1))) 1) := by
  obtain ⟨i, hi, e1⟩ := most_in (cat L M n) (n + m - 1)
  obtain ⟨j, hj, e2⟩ := most_in (fun i => if i = 0 then oneW (mostC L (n - 1)) else oneW (mostC M (m - 1))) 1
  have l0 := most_ge (fun i => if i = 0 then oneW (mostC L (n - 1)) else oneW (mostC M (m - 1))) 1 0 (by decide)
  have l1 := most_ge (fun i => if i = 0 then oneW (mostC L (n - 1)) else oneW (mostC M (m - 1))) 1 1 (by decide)
  simp only [if_true, Nat.one_ne_zero, if_false, oneW_ord] at l0 l1
  have up : ∀ k, k ≤ n + m - 1 → ordK (cat L M n k) ≤ ordK (mostC (cat L M n) (n + m - 1)) := fun k hk => most_ge _ _ _ hk
  have h1 : ordK (mostC (fun i => if i = 0 then oneW (mostC L (n - 1)) else oneW (mostC M (m - 1))) 1) ≤ ordK (mostC (cat L M n) (n + m - 1)) := by
    rw [e2]
    by_cases h0 : j = 0
    · rw [if_pos h0, oneW_ord]
      obtain ⟨k, hk, e3⟩ := most_in L (n - 1)
      rw [e3]
      have := up k (by omega)
      unfold cat at this
      rwa [if_pos (by omega)] at this
    · rw [if_neg h0, oneW_ord]
      obtain ⟨k, hk, e3⟩ := most_in M (m - 1)
      rw [e3]
      have := up (n + k) (by omega)
      unfold cat at this
      rwa [if_neg (by omega), show n + k - n = k by omega] at this
  have h2 : ordK (mostC (cat L M n) (n + m - 1)) ≤ ordK (mostC (fun i => if i = 0 then oneW (mostC L (n - 1)) else oneW (mostC M (m - 1))) 1) := by
    rw [e1]
    unfold cat
    by_cases h : i < n
    · rw [if_pos h]
      have := most_ge L (n - 1) i (by omega)
      omega
    · rw [if_neg h]
      have := most_ge M (m - 1) (i - n) (by omega)
      omega
  omega

theorem same_of_ord {a b : Nat} (ha : a < 18446744073709551616) (hb : b < 18446744073709551616) (h : ordK a = ordK b) : sameW a b = true := by
  unfold sameW
  rw [same_ord a b ha hb, decide_eq_true h]

/-- Is one of the first so many so? -/
def anyC (p : Nat → Bool) : Nat → Bool
  | 0 => false
  | k + 1 => anyC p k || p k
theorem anyC_true {p : Nat → Bool} {n i : Nat} (hi : i < n) (h : p i = true) : anyC p n = true := by
  induction n with
  | zero => omega
  | succ n ih =>
    unfold anyC
    by_cases hn : i < n
    · rw [ih hn]; rfl
    · obtain rfl : i = n := by omega
      rw [h, Bool.or_true]

/-! The walk. -/
theorem parts_short (ao bo : Option Addr) (la lb ca cb : Nat) (h : la = 0 ∨ (0 < la ∧ lb = 0) ∨ (0 < la ∧ 0 < lb ∧ 40 < la) ∨ (0 < la ∧ 0 < lb ∧ la ≤ 40 ∧ 40 < lb)) (W : World) :
    Calls Tryd.prog 11 #[.slice ao la ca, .slice bo lb cb] W fun en w' => en = .returned (.bool true) ∧ Below W.heap.size W w' := by
  have h2 : (la : Int) < 1 ∨ (¬ (la : Int) < 1 ∧ (lb : Int) < 1) ∨ (¬ (la : Int) < 1 ∧ ¬ (lb : Int) < 1 ∧ (40 : Int) < (la : Int)) ∨ (¬ (la : Int) < 1 ∧ ¬ (lb : Int) < 1 ∧ ¬ (40 : Int) < (la : Int) ∧ (40 : Int) < (lb : Int)) := by omega
  clear h
  rcases h2 with h1 | ⟨h1, h2⟩ | ⟨h1, h2, h3⟩ | ⟨h1, h2, h3, h4⟩
  all_goals
    go_enter Tryd.func11, Tryd.ntmps11
    go_wp2_with fail
    refine (alive_any _).mono ?_
    rintro en w1 ⟨rfl, hbl⟩
    go_wp2
    go_ret
    exact ⟨rfl, hbl⟩

theorem flV_cat (L M : Nat → Nat) (n m : Nat) : flV (cat L M n) (n + m) = flV L n ++ flV M m := by
  apply List.ext_getElem?
  intro i
  by_cases h : i < n + m
  · rw [flV_get _ _ _ h]
    by_cases h2 : i < n
    · rw [List.getElem?_append_left (by rw [flV_length]; exact h2), flV_get _ _ _ h2, cat, if_pos h2]
    · rw [List.getElem?_append_right (by rw [flV_length]; omega), flV_length, flV_get _ _ _ (by omega), cat, if_neg h2]
  · rw [List.getElem?_eq_none (by rw [flV_length]; omega), List.getElem?_eq_none (by rw [List.length_append, flV_length, flV_length]; omega)]

theorem row_cells {w : World} {g n : Nat} {L : Nat → Nat} (h : FlIn w g 0 n L) : ∀ j u, (flV L n)[j]? = some u → w.cell? ((⟨g, 0, none⟩ : Addr).add j) = some u := by
  intro j u hu
  have hj : j < n := by
    have := (List.getElem?_eq_some_iff.1 hu).1
    rwa [flV_length] at this
  rw [flV_get L n j hj] at hu
  rw [addr_add1, ← Option.some.inj hu]
  exact h.c j hj
theorem row_ones {n : Nat} {L : Nat → Nat} : ∀ u ∈ flV L n, u.oneCell' = true := by
  intro u hu
  simp only [flV, List.mem_map] at hu
  obtain ⟨_, _, rfl⟩ := hu
  rfl
theorem cell_row2 (w : World) (x y : Nat) : FlIn (w.alloc (.cells #[.float .f64 x, .float .f64 y] 24)) w.heap.size 0 2 (fun i => if i = 0 then x else y) := by
  refine ⟨fun i hi => ?_, by simp⟩
  have hb := new_block w (.cells #[.float .f64 x, .float .f64 y] 24)
  revert hb
  generalize w.alloc _ = w2
  generalize w.heap.size = B
  intro hb
  match i, hi with
  | 0, _ => simp [World.cell?, hb]
  | 1, _ => simp [World.cell?, hb]

/-- What the loop tests, and what comes behind it. -/
structure PartsFacts (L M : Nat → Nat) (la lb : Nat) (A : Nat → Nat) (le mo : Nat) : Prop where
  lt : ∀ i, i < la + lb → A i < 18446744073709551616
  leLt : le < 18446744073709551616
  moLt : mo < 18446744073709551616
  less : ∀ i, i < la + lb → lessB (A i) le = false ∧ lessB mo (A i) = false
  ins : anyC (fun j => sameW (A j) le) (la + lb) = true
  ons : anyC (fun j => sameW (A j) mo) (la + lb) = true
  leS : sameW le (leastC (fun i => if i = 0 then leastC L la else leastC M lb) 2) = true
  moS : sameW mo (oneW (mostC (fun i => if i = 0 then oneW (mostC L (la - 1)) else oneW (mostC M (lb - 1))) (2 - 1))) = true
  leA : leastC A (la + lb) = le
  moA : oneW (mostC A (la + lb - 1)) = mo

theorem parts_facts (L M : Nat → Nat) (la lb : Nat) (h0 : 0 < la) (h1 : 0 < lb) (hL : ∀ i, i < la → L i < 18446744073709551616) (hM : ∀ i, i < lb → M i < 18446744073709551616) :
    PartsFacts L M la lb (cat L M la) (leastC (cat L M la) (la + lb)) (oneW (mostC (cat L M la) (la + lb - 1))) := by
  have hA := cat_lt hL hM
  have q1 := leastC_lt hA (la + lb) (Nat.le_refl _)
  have q2 := oneW_lt (mostC_lt hA (la + lb - 1) (by omega))
  have p1 : ∀ i, i < 2 → (fun i => if i = 0 then leastC L la else leastC M lb) i < 18446744073709551616 := fun i _ => by
    simp only
    split
    · exact leastC_lt hL la (Nat.le_refl _)
    · exact leastC_lt hM lb (Nat.le_refl _)
  have p2 : ∀ i, i < 2 → (fun i => if i = 0 then oneW (mostC L (la - 1)) else oneW (mostC M (lb - 1))) i < 18446744073709551616 := fun i _ => by
    simp only
    split
    · exact oneW_lt (mostC_lt hL (la - 1) (by omega))
    · exact oneW_lt (mostC_lt hM (lb - 1) (by omega))
  refine ⟨hA, q1, q2, fun i hi => ⟨?_, ?_⟩, ?_, ?_, ?_, ?_, rfl, rfl⟩
  · rw [less_ord, decide_eq_false_iff_not]
    have := least_le (cat L M la) (la + lb) i hi
    omega
  · rw [less_ord, decide_eq_false_iff_not, oneW_ord]
    have := most_ge (cat L M la) (la + lb - 1) i (by omega)
    omega
  · obtain ⟨i, hi, e⟩ := least_in (cat L M la) (la + lb) (by omega)
    exact anyC_true hi (same_of_ord (hA i hi) q1 e.symm)
  · obtain ⟨i, hi, e⟩ := most_in (cat L M la) (la + lb - 1)
    exact anyC_true (show i < la + lb by omega) (same_of_ord (hA i (by omega)) q2 (by rw [oneW_ord]; exact e.symm))
  · exact same_of_ord q1 (leastC_lt p1 2 (Nat.le_refl _)) (least_cat L M la lb h0 h1)
  · exact same_of_ord q2 (oneW_lt (mostC_lt p2 1 (by decide))) (by rw [oneW_ord, oneW_ord]; exact most_cat L M la lb h0 h1)

set_option maxRecDepth 100000 in
theorem parts_some (ao bo : Option Addr) (la lb ca cb : Nat) (L M : Nat → Nat) (h0 : 0 < la) (h1 : 0 < lb) (h40 : la ≤ 40) (k40 : lb ≤ 40) (W : World) (hA : U64Arg W ao la L) (hB : U64Arg W bo lb M) :
    Calls Tryd.prog 11 #[.slice ao la ca, .slice bo lb cb] W fun en w' => en = .returned (.bool true) ∧ Below W.heap.size W w' := by
  obtain ⟨i0, hi, hz, hs, hb⟩ := info_parts (P := Tryd.prog) (e := 24) (z := .float .f64 0) (size := 1) (bytes := 8) (by kernel_rfl)
  have t1 : ¬ (la : Int) < 1 := by omega
  have t2 : ¬ (lb : Int) < 1 := by omega
  have t3 : ¬ (40 : Int) < (la : Int) := by omega
  have t4 : ¬ (40 : Int) < (lb : Int) := by omega
  have pf := parts_facts L M la lb h0 h1 hA.lt hB.lt
  revert pf
  generalize hAA : cat L M la = A
  generalize leastC A (la + lb) = le
  generalize oneW (mostC A (la + lb - 1)) = mo
  intro pf
  have PF := Lib.hid pf; clear pf
  have AA := Lib.hid hAA; clear hAA
  have F1 := Lib.hid (floats_any ao la ca L (by omega))
  have F2 := Lib.hid (floats_any bo lb cb M (by omega))
  have HA := Lib.hid (And.intro hA hB); clear hA hB
  have HL := Lib.hid (And.intro (And.intro h0 h40) (And.intro h1 k40)); clear h0 h40 h1 k40
  go_enter Tryd.func11, Tryd.ntmps11
  go_wp2_with fail
  refine (alive_any _).mono ?_
  rintro en w1 ⟨rfl, hbl⟩
  have HB1 := Lib.hid hbl; clear hbl
  go_wp2_with fail
  refine (F1.out _ (HA.out.1.below HB1.out)).mono ?_
  rintro en w2 ⟨v, rfl, hown, -, hb2⟩
  obtain ⟨g, c, rfl, hc, -, hF⟩ := row_floats hown HL.out.1.1
  have hb2' := HB1.out.trans (hb2.mono HB1.out.size)
  have HB2 := Lib.hid (And.intro hb2' (And.intro hF hc))
  clear hb2 hown hF hc hb2'
  go_wp2_with fail
  refine (F2.out _ (HA.out.2.below HB2.out.1)).mono ?_
  rintro en w3 ⟨v, rfl, hown, -, hb3⟩
  obtain ⟨g', c', rfl, hc', -, hF'⟩ := row_floats hown HL.out.2.1
  have hb3' := HB2.out.1.trans (hb3.mono HB2.out.1.size)
  have HB3 := Lib.hid (And.intro hb3' (And.intro (HB2.out.2.1.below hb3) (And.intro HB2.out.2.2 (And.intro hF' hc'))))
  clear hb3 hown hF' hc' hb3' HB2 HB1
  go_wp2_with (first
    | (at_builtin; refine wpList_append_own _ rfl _ _ 43 rfl w3.heap.size 24 i0 (.float .f64 0) 1 8 Tryd.underlying43 hi hz hs hb rfl (by decide) _ 0 [] rfl (World.ownsRow_nil _ _ _ _) ⟨g, 0, none⟩ la c (flV L la) rfl ?a0 ?a1 ?a2 ?a3 ?a4 ?a5 ?_)
    | fail)
  case a0 => rw [flV_length, Nat.mul_one]
  case a1 => exact row_cells HB3.out.2.1
  case a2 => exact row_ones
  case a3 => have := HL.out.1.2; unfold maxLen; omega
  case a4 => have := HL.out.1.2; omega
  case a5 => exact Nat.le_refl _
  intro v1 w4 hown1 hgr1 hne1
  have hblk : ∀ k, k < w3.heap.size → w4.heap[k]? = w3.heap[k]? := fun k hk => hgr1.block k hk (by simp [Value.ownBlock])
  have hb4 : Below W.heap.size W w4 := HB3.out.1.grown hgr1 HB3.out.1.size (fun k hk => by simp [Value.ownBlock] at hk)
  have HB4 := Lib.hid (And.intro hb4 (And.intro (HB3.out.2.1.block hgr1.size (hblk _ HB3.out.2.1.bl)) (And.intro HB3.out.2.2.1 (And.intro (HB3.out.2.2.2.1.block hgr1.size (hblk _ HB3.out.2.2.2.1.bl)) (And.intro HB3.out.2.2.2.2 (And.intro hown1 (And.intro HB3.out.2.1.bl (And.intro HB3.out.2.2.2.1.bl (And.intro hgr1.size HB3.out.1.size)))))))))
  clear hb4 hblk hown1 hgr1 hne1 HB3
  go_wp2_with (first
    | (at_builtin; refine wpList_append_own _ rfl _ _ 43 rfl w3.heap.size 24 i0 (.float .f64 0) 1 8 Tryd.underlying43 hi hz hs hb rfl (by decide) _ la (flV L la) rfl HB4.out.2.2.2.2.2.1 ⟨g', 0, none⟩ lb c' (flV M lb) rfl ?b0 ?b1 ?b2 ?b3 ?b4 ?b5 ?_)
    | fail)
  case b0 => rw [flV_length, Nat.mul_one]
  case b1 => exact row_cells HB4.out.2.2.2.1
  case b2 => exact row_ones
  case b3 => have := HL.out.1.2; have := HL.out.2.2; unfold maxLen; omega
  case b4 => have := HL.out.1.2; have := HL.out.2.2; omega
  case b5 => exact HB4.out.2.2.2.2.2.2.2.2.1
  intro v2 w5 hown2 hgr2 hne2
  rw [← flV_cat, AA.out] at hown2
  have hblk : ∀ k, k < w3.heap.size → w5.heap[k]? = w4.heap[k]? := fun k hk => hgr2.block k (Nat.lt_of_lt_of_le hk HB4.out.2.2.2.2.2.2.2.2.1) (fun he => by
    have := (HB4.out.2.2.2.2.2.1.lt k he.symm).1
    omega)
  have hb5 : Below W.heap.size W w5 := HB4.out.1.grown hgr2 HB4.out.1.size (fun k hk => by
    have h1 := (HB4.out.2.2.2.2.2.1.lt k hk).1
    have h2 := HB4.out.2.2.2.2.2.2.2.2.2
    omega)
  have q1 := HB4.out.2.1.block hgr2.size (hblk _ HB4.out.2.2.2.2.2.2.1)
  have q2 := HB4.out.2.2.2.1.block hgr2.size (hblk _ HB4.out.2.2.2.2.2.2.2.1)
  obtain ⟨g2, c2, rfl, hc2, -, hF2⟩ := row_floats hown2 (by have := HL.out.1.1; omega)
  have hlen : la + lb ≤ maxLen := by have := HL.out.1.2; have := HL.out.2.2; unfold maxLen; omega
  have s1 := least_any g2 0 (la + lb) c2 hlen A PF.out.lt w5 hF2
  have s2 := most_any g2 0 (la + lb) c2 (by have := HL.out.1.1; omega) hlen A PF.out.lt w5 hF2
  rw [PF.out.leA] at s1
  rw [PF.out.moA] at s2
  have S1 := Lib.hid s1
  have S2 := Lib.hid s2
  have HB5 := Lib.hid (And.intro hb5 (And.intro q1 (And.intro HB4.out.2.2.1 (And.intro q2 (And.intro HB4.out.2.2.2.2.1 hF2)))))
  clear hb5 hblk hown2 hgr2 hne2 HB4 s1 s2 hc2 hF2 q1 q2 hlen
  go_wp2_with fail
  refine S1.out.mono ?_
  rintro en w6 ⟨rfl, rfl⟩
  go_wp2_with fail
  refine S2.out.mono ?_
  rintro en w6 ⟨rfl, rfl⟩
  clear S1 S2
  go_wp2_with fail
  obtain ⟨n, hn⟩ : ∃ n, n = la + lb := ⟨_, rfl⟩
  have hn81 : n ≤ 80 := by have := HL.out.1.2; have := HL.out.2.2; omega
  rw [← hn]
  have HNN := Lib.hid hn; clear hn
  go_loopg [10, 11, 12] n (fun g inn onn i wr => ∃ k : Nat, g = n - k ∧ k ≤ n ∧ inn = .bool (anyC (fun j => sameW (A j) le) k) ∧ onn = .bool (anyC (fun j => sameW (A j) mo) k) ∧ i = .int .i64 k ∧ wr = w5)
  case atStart => exact ⟨0, by omega, by omega, rfl, rfl, rfl, rfl⟩
  case round =>
    obtain ⟨k, hg, hk, rfl, rfl, rfl, rfl⟩ := hrel
    have HG := Lib.hid hg; clear hg
    by_cases hlt : k < n
    · have hkl : k < la + lb := by have := HNN.out; omega
      have c1 := HB5.out.2.2.2.2.2.c k hkl
      rw [Nat.zero_add] at c1
      have hl : (k : Int) < (n : Int) := by omega
      have hw1 : IntKind.i64.wrap ((k : Int) + 1) = (k : Int) + 1 := IntWalk.i64_in _ (by omega)
      have hin : anyC (fun j => sameW (A j) le) (k + 1) = (anyC (fun j => sameW (A j) le) k || sameW (A k) le) := rfl
      have hon : anyC (fun j => sameW (A j) mo) (k + 1) = (anyC (fun j => sameW (A j) mo) k || sameW (A k) mo) := rfl
      have N1 := Lib.hid (rsame_any (A k) le)
      have N2 := Lib.hid (rsame_any (A k) mo)
      have N3 := Lib.hid (less_any (A k) le (PF.out.lt k hkl) PF.out.leLt)
      have N4 := Lib.hid (less_any mo (A k) PF.out.moLt (PF.out.lt k hkl))
      rw [(PF.out.less k hkl).1] at N3
      rw [(PF.out.less k hkl).2] at N4
      have HI := Lib.hid (And.intro hin hon); clear hin hon hkl
      revert HI
      generalize anyC (fun j => sameW (A j) le) k = p
      generalize anyC (fun j => sameW (A j) mo) k = q
      revert N1 N2
      generalize sameW (A k) le = x
      generalize sameW (A k) mo = y
      intro N1 N2 HI
      cases p <;> cases q
      · go_wp2_with fail
        refine (N1.out _).mono ?_
        rintro en w6 ⟨rfl, rfl⟩
        go_wp2_with fail
        refine (N2.out _).mono ?_
        rintro en w6 ⟨rfl, rfl⟩
        go_wp2_with fail
        refine (N3.out _).mono ?_
        rintro en w6 ⟨rfl, rfl⟩
        go_wp2_with fail
        refine (N4.out _).mono ?_
        rintro en w6 ⟨rfl, rfl⟩
        go_wp2
        go_roundg (n - (k + 1))
        case measure => rw [HG.out]; omega
        case rel => exact ⟨k + 1, rfl, by omega, by rw [HI.out.1]; rfl, by rw [HI.out.2]; rfl, rfl, rfl⟩
      · go_wp2_with fail
        refine (N1.out _).mono ?_
        rintro en w6 ⟨rfl, rfl⟩
        go_wp2_with fail
        refine (N3.out _).mono ?_
        rintro en w6 ⟨rfl, rfl⟩
        go_wp2_with fail
        refine (N4.out _).mono ?_
        rintro en w6 ⟨rfl, rfl⟩
        go_wp2
        go_roundg (n - (k + 1))
        case measure => rw [HG.out]; omega
        case rel => exact ⟨k + 1, rfl, by omega, by rw [HI.out.1]; rfl, by rw [HI.out.2]; rfl, rfl, rfl⟩
      · go_wp2_with fail
        refine (N2.out _).mono ?_
        rintro en w6 ⟨rfl, rfl⟩
        go_wp2_with fail
        refine (N3.out _).mono ?_
        rintro en w6 ⟨rfl, rfl⟩
        go_wp2_with fail
        refine (N4.out _).mono ?_
        rintro en w6 ⟨rfl, rfl⟩
        go_wp2
        go_roundg (n - (k + 1))
        case measure => rw [HG.out]; omega
        case rel => exact ⟨k + 1, rfl, by omega, by rw [HI.out.1]; rfl, by rw [HI.out.2]; rfl, rfl, rfl⟩
      · go_wp2_with fail
        refine (N3.out _).mono ?_
        rintro en w6 ⟨rfl, rfl⟩
        go_wp2_with fail
        refine (N4.out _).mono ?_
        rintro en w6 ⟨rfl, rfl⟩
        go_wp2
        go_roundg (n - (k + 1))
        case measure => rw [HG.out]; omega
        case rel => exact ⟨k + 1, rfl, by omega, by rw [HI.out.1]; rfl, by rw [HI.out.2]; rfl, rfl, rfl⟩
    · have hkn : k = n := by omega
      rw [hkn]
      have e1 := PF.out.ins
      have e2 := PF.out.ons
      rw [← HNN.out] at e1 e2
      rw [e1, e2]
      have hl : ¬ (n : Int) < (n : Int) := by omega
      have lL := HA.out.1.lt
      have lM := HA.out.2.lt
      have m1 : la ≤ maxLen := by have := HL.out.1.2; unfold maxLen; omega
      have m2 : lb ≤ maxLen := by have := HL.out.2.2; unfold maxLen; omega
      have K1 := Lib.hid (least_any g 0 la c m1 L lL _ HB5.out.2.1)
      have K2 := Lib.hid (least_any g' 0 lb c' m2 M lM _ HB5.out.2.2.2.1)
      have P1 : ∀ i, i < 2 → (fun i => if i = 0 then leastC L la else leastC M lb) i < 18446744073709551616 := fun i _ => by
        simp only
        split
        · exact leastC_lt lL la (Nat.le_refl _)
        · exact leastC_lt lM lb (Nat.le_refl _)
      have P2 : ∀ i, i < 2 → (fun i => if i = 0 then oneW (mostC L (la - 1)) else oneW (mostC M (lb - 1))) i < 18446744073709551616 := fun i _ => by
        simp only
        split
        · exact oneW_lt (mostC_lt lL (la - 1) (by have := HL.out.1.1; omega))
        · exact oneW_lt (mostC_lt lM (lb - 1) (by have := HL.out.2.1; omega))
      have K3 := Lib.hid (fun w => least_any w.heap.size 0 2 2 (by decide) _ P1 _ (cell_row2 w _ _))
      have hsz : (wr.alloc (.cells #[.float .f64 (leastC L la), .float .f64 (leastC M lb)] 24)).heap.size = wr.heap.size + 1 := by simp
      have hc2 := cell_row2 (wr.alloc (.cells #[.float .f64 (leastC L la), .float .f64 (leastC M lb)] 24)) (oneW (mostC L (la - 1))) (oneW (mostC M (lb - 1)))
      rw [hsz] at hc2
      have K4 := Lib.hid (most_any (wr.heap.size + 1) 0 2 2 (by decide) (by decide) _ P2 _ hc2)
      have K5 := Lib.hid (rsame_any le (leastC (fun i => if i = 0 then leastC L la else leastC M lb) 2))
      have K6 := Lib.hid (rsame_any mo (oneW (mostC (fun i => if i = 0 then oneW (mostC L (la - 1)) else oneW (mostC M (lb - 1))) (2 - 1))))
      rw [PF.out.leS] at K5
      rw [PF.out.moS] at K6
      have h0 := HL.out.1.1
      have h1 := HL.out.2.1
      have HX := Lib.hid (below_alloc wr (.cells #[.float .f64 (leastC L la), .float .f64 (leastC M lb)] 24))
      have K7 := Lib.hid (most_any g 0 la c h0 m1 L lL _ (HB5.out.2.1.below HX.out))
      have K8 := Lib.hid (most_any g' 0 lb c' h1 m2 M lM _ (HB5.out.2.2.2.1.below HX.out))
      have HY := Lib.hid ((HB5.out.1.trans (HX.out.mono HB5.out.1.size)))
      have HZ := Lib.hid (HY.out.alloc HY.out.size (.cells #[.float .f64 (oneW (mostC L (la - 1))), .float .f64 (oneW (mostC M (lb - 1)))] 24))
      clear e1 e2 lL lM P1 P2 hsz hc2 F1 F2 hkn hlt hk HG h0 h1
      go_wp2_with fail
      refine K1.out.mono ?_
      rintro en w6 ⟨rfl, rfl⟩
      go_wp2_with fail
      refine K2.out.mono ?_
      rintro en w6 ⟨rfl, rfl⟩
      go_wp2_with fail
      refine (K3.out _).mono ?_
      rintro en w6 ⟨rfl, rfl⟩
      go_wp2_with fail
      refine (K5.out _).mono ?_
      rintro en w6 ⟨rfl, rfl⟩
      go_wp2_with fail
      refine K7.out.mono ?_
      rintro en w6 ⟨rfl, rfl⟩
      go_wp2_with fail
      refine K8.out.mono ?_
      rintro en w6 ⟨rfl, rfl⟩
      go_wp2_with fail
      refine K4.out.mono ?_
      rintro en w6 ⟨rfl, rfl⟩
      go_wp2_with fail
      refine (K6.out _).mono ?_
      rintro en w6 ⟨rfl, rfl⟩
      go_wp2
      go_ret
      exact ⟨rfl, HZ.out⟩
end Go.Proofs.YtelkobogohbhlaaDoor
