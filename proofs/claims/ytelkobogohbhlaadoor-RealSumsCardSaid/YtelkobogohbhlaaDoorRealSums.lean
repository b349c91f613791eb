/-
  RealSums, the walk: a sum goes from the left to the right. Conditions: none.
-/
import Derived.Test.YtelkobogohbhlaaDoorRealC7
import Derived.Laws.AppendOwnNone
namespace Go.Proofs.YtelkobogohbhlaaDoor
open Go.RowKit Go.Lib

theorem oneW_one (b : Nat) : oneW (oneW b) = oneW b := by
  rcases fine_dec b with ⟨h, _⟩ | ⟨h, _⟩
  · rw [oneW_not h, oneW_not h]
  · rw [oneW_nan h]; decide +kernel

theorem sums_long (ao : Option Addr) (len cap : Nat) (f : Nat) (h : 40 < len) (W : World) :
    Calls Tryd.prog 8 #[.slice ao len cap, .int .u64 (f : Int)] W fun en w' => en = .returned (.bool true) ∧ Below W.heap.size W w' := by
  have h1 : (40 : Int) < (len : Int) := by omega
  clear h
  go_enter Tryd.func8, Tryd.ntmps8
  go_wp2_with fail
  refine (alive_any _).mono ?_
  rintro en w1 ⟨rfl, hbl⟩
  go_wp2
  go_ret
  exact ⟨rfl, hbl⟩

/-- A list and one behind it. -/
def snoc (L : Nat → Nat) (n f : Nat) : Nat → Nat := fun i => if i < n then L i else f
theorem snoc_old {L : Nat → Nat} {n f i : Nat} (h : i < n) : snoc L n f i = L i := if_pos h
theorem snoc_new (L : Nat → Nat) (n f : Nat) : snoc L n f n = f := if_neg (by omega)
theorem flV_snoc (L : Nat → Nat) (n f : Nat) : flV (snoc L n f) (n + 1) = flV L n ++ [Value.float .f64 f] := by
  rw [flV_succ, snoc_new]
  congr 1
  unfold flV
  apply List.map_congr_left
  intro i hi
  rw [snoc_old (List.mem_range.1 hi)]
theorem sumC_snoc (L : Nat → Nat) (n f : Nat) (h0 : 0 < n) : sumC (snoc L n f) n = addC (sumC L (n - 1)) f := by
  have h : ∀ k, k < n → sumC (snoc L n f) k = sumC L k := by
    intro k hk
    induction k with
    | zero => unfold sumC; rw [snoc_old hk]
    | succ k ih => unfold sumC; rw [ih (by omega), snoc_old hk]
  obtain ⟨m, rfl⟩ : ∃ m, n = m + 1 := ⟨n - 1, by omega⟩
  show addC (sumC (snoc L (m + 1) f) m) (snoc L (m + 1) f (m + 1)) = _
  rw [h m (by omega), snoc_new]; rfl

theorem sums_none (ao : Option Addr) (cap : Nat) (f : Nat) (W : World) :
    Calls Tryd.prog 8 #[.slice ao 0 cap, .int .u64 (f : Int)] W fun en w' => en = .returned (.bool true) ∧ Below W.heap.size W w' := by
  have h57 := runFrom
  have HS := Lib.hid (rsame_any (oneW f) f)
  rw [show sameW (oneW f) f = true by unfold sameW; rw [oneW_one]; simp] at HS
  have HF := Lib.hid (floats_any ao 0 cap (fun _ => 0) (by decide))
  obtain ⟨i0, hi, hz, hs, hb⟩ := info_parts (P := Tryd.prog) (e := 24) (z := .float .f64 0) (size := 1) (bytes := 8) (by kernel_rfl)
  go_enter Tryd.func8, Tryd.ntmps8
  go_wp2_with fail
  refine (alive_any _).mono ?_
  rintro en w1 ⟨rfl, hbl⟩
  go_wp2_with fail
  refine (HF.out _ ⟨fun h => by omega, by decide, fun i h => by omega⟩).mono ?_
  rintro en w2 ⟨v, rfl, -, hv, hb2⟩
  obtain rfl := hv trivial
  have HB := Lib.hid (hbl.trans (hb2.mono hbl.size))
  clear hbl hb2 hv
  go_wp2_with (first
    | (at_builtin; refine wpList_append_own _ rfl _ _ 43 rfl W.heap.size 24 i0 (.float .f64 0) 1 8 Tryd.underlying43 hi hz hs hb rfl (by decide) _ 0 [] rfl (World.ownsRow_nil _ _ _ _) ⟨w2.heap.size, 0, none⟩ 1 1 [.float .f64 f] rfl rfl ?c1 ?c2 ?c3 ?c4 ?c5 ?_)
    | fail)
  case c1 => exact fun j u h => cell_new1 _ _ _ j u h
  case c2 => intro u hu; simp at hu; subst hu; rfl
  case c3 => decide
  case c4 => decide
  case c5 => have := HB.out.size; simp; omega
  intro v' w3 hown' hgr hne
  have hb3 : Below W.heap.size W w3 := (HB.out.alloc HB.out.size _).grown hgr (by have := HB.out.size; simp; omega) (fun k hk => by simp [Value.ownBlock] at hk)
  obtain ⟨g, c, rfl, hc, -, hF⟩ := row_floats (L := fun _ => f) (n := 1) hown' (by decide)
  have HS3 := Lib.hid (sum_any g 0 1 c (by decide) hc (by decide) (fun _ => f) w3 hF)
  clear hown' hgr hne hF hc
  go_wp2_with fail
  refine HS3.out.mono ?_
  rintro en w4 ⟨h, hb4⟩
  rw [show sumC (fun _ => f) (1 - 1) = oneW f from rfl] at h
  subst h
  have hb5 := hb3.trans (hb4.mono hb3.size)
  clear hb3 hb4
  go_wp2_with fail
  refine (HS.out _).mono ?_
  rintro en w5 ⟨rfl, rfl⟩
  go_wp2
  go_ret
  exact ⟨rfl, hb5⟩

theorem cell_row2 (w : World) (x y : Nat) : FlIn (w.alloc (.cells #[.float .f64 x, .float .f64 y] 24)) w.heap.size 0 2 (fun i => if i = 0 then x else y) := by
  refine ⟨fun i hi => ?_, by simp⟩
  have hb := new_block w (.cells #[.float .f64 x, .float .f64 y] 24)
  revert hb
  generalize w.alloc _ = w2
  generalize w.heap.size = B
  intro hb
  match i, hi with
  | 0, _ => simp [World.cell?, hb]
  | 1, _ => simp [World.cell?, hb]

theorem class_nan {s : Nat} (h : s = 9221120237041090560) : classB s = 0 := by subst h; decide +kernel

theorem addC_nan {a f : Nat} (h : ¬ fine f) : addC a f = 9221120237041090560 := by rw [addC, add_nan a f (Or.inr h)]
theorem addC_lt (a b : Nat) : addC a b < 18446744073709551616 := by
  unfold addC
  split
  · rename_i r h
    rcases fine_dec r with ⟨h2, _⟩ | ⟨h2, _⟩
    · rw [oneW_not h2]; exact add_bits h
    · rw [oneW_nan h2]; decide
  · decide

set_option maxRecDepth 100000 in
theorem sums_some (ao : Option Addr) (len cap : Nat) (L : Nat → Nat) (f : Nat) (h0 : 0 < len) (h40 : len ≤ 40) (W : World) (hA : U64Arg W ao len L) :
    Calls Tryd.prog 8 #[.slice ao len cap, .int .u64 (f : Int)] W fun en w' => en = .returned (.bool true) ∧ Below W.heap.size W w' := by
  have h57 := runFrom
  obtain ⟨i0, hi, hz, hs, hb⟩ := info_parts (P := Tryd.prog) (e := 24) (z := .float .f64 0) (size := 1) (bytes := 8) (by kernel_rfl)
  have hl0 : ((len : Int) == 0) = false := beq_eq_false_iff_ne.2 (by omega)
  have hl40 : ¬ (40 : Int) < (len : Int) := by omega
  have HF := Lib.hid (floats_any ao len cap L (by omega))
  have HA := Lib.hid hA; clear hA
  -- the sums
  have hsum := sumC_snoc L len f h0
  have hone := sumC_one L (len - 1)
  obtain ⟨y, hy⟩ : ∃ y, y = sumC L (len - 1) := ⟨_, rfl⟩
  rw [← hy] at hsum hone
  obtain ⟨s, hs'⟩ : ∃ s, s = addC y f := ⟨_, rfl⟩
  have hss : sumC (fun i => if i = 0 then y else f) 1 = s := by
    show addC (oneW y) f = s
    rw [addC_one, hs']
  rw [← hs'] at hsum
  have hslt : s < 18446744073709551616 := by rw [hs']; exact addC_lt y f
  have hnan : ¬ fine f → s = 9221120237041090560 := fun h => by rw [hs']; exact addC_nan h
  have HS := Lib.hid (rsame_any s s)
  rw [show sameW s s = true by unfold sameW; simp] at HS
  have HN := Lib.hid (misnan f)
  have HC := Lib.hid (class_any s hslt)
  have HQ := Lib.hid (And.intro hsum (And.intro hss hy)); clear hsum hss hy hone hs' hslt
  have HL := Lib.hid (And.intro h0 h40); clear h0 h40
  go_enter Tryd.func8, Tryd.ntmps8
  go_wp2_with fail
  refine (alive_any _).mono ?_
  rintro en w1 ⟨rfl, hbl⟩
  have hA1 := HA.out.below hbl
  go_wp2_with fail
  refine (HF.out _ hA1).mono ?_
  rintro en w2 ⟨v, rfl, hown, -, hb2⟩
  obtain ⟨g, c, rfl, hc, hgB, hF⟩ := row_floats hown HL.out.1
  have HB := Lib.hid (And.intro (hbl.trans (hb2.mono hbl.size)) (And.intro hF hc))
  have hgB2 : W.heap.size ≤ g := Nat.le_trans hbl.size hgB
  clear hbl hb2 hown hF hc hA1 hgB
  go_wp2_with (first
    | (at_builtin; refine wpList_append_own _ rfl _ _ 43 rfl w2.heap.size 24 i0 (.float .f64 0) 1 8 Tryd.underlying43 hi hz hs hb rfl (by decide) _ 0 [] rfl (World.ownsRow_nil _ _ _ _) ⟨g, 0, none⟩ len c (flV L len) rfl ?a0 ?a1 ?a2 ?a3 ?a4 ?a5 ?_)
    | fail)
  case a0 => rw [flV_length, Nat.mul_one]
  case a1 =>
    intro j u h
    have hj : j < len := by
      have := (List.getElem?_eq_some_iff.1 h).1
      rwa [flV_length] at this
    rw [flV_get L len j hj] at h
    rw [addr_add1, ← Option.some.inj h]
    exact HB.out.2.1.c j hj
  case a2 =>
    intro u hu
    simp only [flV, List.mem_map] at hu
    obtain ⟨_, _, rfl⟩ := hu
    rfl
  case a3 => have := HL.out.2; unfold maxLen; omega
  case a4 => have := HL.out.2; omega
  case a5 => exact Nat.le_refl _
  intro v1 w3 hown1 hgr1 hne1
  have hF3 : FlIn w3 g 0 len L := HB.out.2.1.block hgr1.size (hgr1.block g HB.out.2.1.bl (by simp [Value.ownBlock]))
  have hb3 : Below W.heap.size W w3 := HB.out.1.grown hgr1 HB.out.1.size (fun k hk => by simp [Value.ownBlock] at hk)
  have hgz : g < w2.heap.size := HB.out.2.1.bl
  have hwz : w2.heap.size ≤ w3.heap.size := hgr1.size
  have HD := Lib.hid (And.intro hown1 (And.intro hF3 (And.intro hb3 HB.out.2.2)))
  clear hown1 hF3 hb3 HB hgr1 hne1
  go_wp2_with (first
    | (at_builtin; refine wpList_append_own _ rfl _ _ 43 rfl w2.heap.size 24 i0 (.float .f64 0) 1 8 Tryd.underlying43 hi hz hs hb rfl (by decide) _ len (flV L len) rfl (HD.out.1.alloc _) ⟨w3.heap.size, 0, none⟩ 1 1 [.float .f64 f] rfl rfl ?c1 ?c2 ?c3 ?c4 ?c5 ?_)
    | fail)
  case c1 => exact fun j u h => cell_new1 _ _ _ j u h
  case c2 => intro u hu; simp at hu; subst hu; rfl
  case c3 => have := HL.out.2; unfold maxLen; omega
  case c4 => have := HL.out.2; omega
  case c5 => simp; omega
  intro v2 w4 hown2 hgr2 hne2
  rw [← flV_snoc] at hown2
  have hblk : ∀ k, k < w2.heap.size → some k ≠ v1.ownBlock := fun k hk he => by
    have := (HD.out.1.lt k he.symm).1
    omega
  have hF4 : FlIn w4 g 0 len L := HD.out.2.1.block (Nat.le_trans (by simp) hgr2.size) ((hgr2.block g (by simp; omega) (hblk g hgz)).trans (Below.heap_alloc _ _ _ (by omega)))
  have hb4 : Below W.heap.size W w4 := (HD.out.2.2.1.alloc HD.out.2.2.1.size _).grown hgr2 (by have := HD.out.2.2.1.size; simp; omega) (fun k hk => by
    have := (HD.out.1.lt k hk).1
    omega)
  obtain ⟨g2, c2, rfl, hc2, hg2, hF5⟩ := row_floats hown2 (by omega)
  have hS1 := sum_any g2 0 (len + 1) c2 (by omega) hc2 (by have := HL.out.2; unfold maxLen; omega) (snoc L len f) w4 hF5
  rw [show len + 1 - 1 = len by omega, HQ.out.1] at hS1
  have HS1 := Lib.hid hS1
  have HE := Lib.hid (And.intro hF4 (And.intro hb4 HD.out.2.2.2))
  clear hown2 hgr2 hne2 hblk hF4 hb4 hF5 HD hS1 hgB2
  go_wp2_with fail
  refine HS1.out.mono ?_
  rintro en w5 ⟨rfl, hb5⟩
  have hF6 := HE.out.1.below hb5
  have hb6 := HE.out.2.1.trans (hb5.mono HE.out.2.1.size)
  have hS2 := sum_any g 0 len c HL.out.1 HE.out.2.2 (by have := HL.out.2; unfold maxLen; omega) L w5 hF6
  rw [← HQ.out.2.2] at hS2
  have HS2 := Lib.hid hS2
  have HG := Lib.hid hb6
  clear hb5 hF6 hS2 HE HS1 hb6 hc2 hg2
  go_wp2_with fail
  refine HS2.out.mono ?_
  rintro en w6 ⟨rfl, hb6⟩
  have hb7 := HG.out.trans (hb6.mono HG.out.size)
  have hb8 := hb7.alloc hb7.size (.cells #[.float .f64 y, .float .f64 f] 24)
  have hS3 := sum_any w6.heap.size 0 2 2 (by decide) (by decide) (by decide) _ _ (cell_row2 w6 y f)
  rw [show (2 : Nat) - 1 = 1 from rfl, HQ.out.2.1] at hS3
  have HS3 := Lib.hid hS3
  have HG2 := Lib.hid hb8
  clear hS3 hb8 hb7 hb6 HG HS2 hgz hwz
  go_wp2_with fail
  refine HS3.out.mono ?_
  rintro en w7 ⟨rfl, hb9⟩
  have HG3 := Lib.hid (HG2.out.trans (hb9.mono HG2.out.size)); clear hb9 HG2
  rcases fine_dec f with ⟨hn, -⟩ | ⟨hn, hnf⟩
  · rw [hn] at HN
    go_wp2_with fail
    refine (HS.out _).mono ?_
    rintro en w8 ⟨rfl, rfl⟩
    go_wp2_with fail
    refine (HN.out _).mono ?_
    rintro en w8 ⟨rfl, rfl⟩
    go_wp2
    go_ret
    exact ⟨rfl, HG3.out⟩
  · rw [hn] at HN
    obtain rfl := hnan hnf
    rw [class_nan rfl] at HC
    clear hnan hnf
    go_wp2_with fail
    refine (HS.out _).mono ?_
    rintro en w8 ⟨rfl, rfl⟩
    go_wp2_with fail
    refine (HN.out _).mono ?_
    rintro en w8 ⟨rfl, rfl⟩
    go_wp2_with fail
    refine (HC.out _).mono ?_
    rintro en w8 ⟨rfl, rfl⟩
    go_wp2
    go_ret
    exact ⟨rfl, HG3.out⟩
end Go.Proofs.YtelkobogohbhlaaDoor
