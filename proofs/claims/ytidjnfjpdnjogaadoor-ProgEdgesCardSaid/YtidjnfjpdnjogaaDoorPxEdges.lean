/-
  ProgEdges: divisions by nought, and what comes of infinities, are numbers, and no faults; what is not there is one. Conditions: none.
-/
import Derived.Test.YtidjnfjpdnjogaaDoorPxStack
import Derived.Test.YtidjnfjpdnjogaaDoorM7
namespace Go.Proofs.YtidjnfjpdnjogaaDoor
open Go.RowKit Go.Lib

/-- The seven words, by their number. -/
def edgeW (i : Nat) : ByteArray := arithBs.getD i ByteArray.empty
abbrev edgeO : Obj := .cells #[.string ⟨#[97, 100, 100]⟩, .string ⟨#[115, 117, 98]⟩, .string ⟨#[109, 117, 108]⟩, .string ⟨#[100, 105, 118]⟩, .string ⟨#[109, 105, 110]⟩, .string ⟨#[109, 97, 120]⟩, .string ⟨#[108, 101, 115, 115]⟩] 9
theorem edge_cell {w : World} {B : Nat} (h : w.heap[B]? = some edgeO) (i : Nat) (hi : i < 7) : w.cell? ⟨B, i, none⟩ = some (.string (edgeW i)) := by
  match i, hi with
  | 0, _ => simp [World.cell?, h, edgeW, arithBs]
  | 1, _ => simp [World.cell?, h, edgeW, arithBs]
  | 2, _ => simp [World.cell?, h, edgeW, arithBs]
  | 3, _ => simp [World.cell?, h, edgeW, arithBs]
  | 4, _ => simp [World.cell?, h, edgeW, arithBs]
  | 5, _ => simp [World.cell?, h, edgeW, arithBs]
  | 6, _ => simp [World.cell?, h, edgeW, arithBs]

def ewL (i : Nat) : List UInt8 := (edgeW i).data.toList
theorem edge_known (i : Nat) (hi : i < 7) : arithWords.contains (ewL i) = true ∧ (edgeW i).size ≤ 281474976710656 ∧ knownB (ewL i) = true := by
  match i, hi with
  | 0, _ => decide
  | 1, _ => decide
  | 2, _ => decide
  | 3, _ => decide
  | 4, _ => decide
  | 5, _ => decide
  | 6, _ => decide
theorem run_e2 {x y : Nat} (hx : x < 18446744073709551616) (hy : y < 18446744073709551616) (x1 : oneW x = x) (y1 : oneW y = y) (i : Nat) (hi : i < 7) : runB noE [textB x, textB y, ewL i] = ⟨arithB (ewL i) x y, 0, 0, []⟩ := by
  obtain ⟨h1, -, h2⟩ := edge_known i hi
  rw [runB_of _ _ (by
    intro w hw
    simp only [List.mem_cons, List.not_mem_nil, or_false] at hw
    rcases hw with rfl | rfl | rfl
    · exact isWord_text hx
    · exact isWord_text hy
    · exact isWord_known h2) (by simp)]
  simp only [wordsGo, step_text noE hx, step_text noE hy, step_arith noE h1, x1, y1, tellOf]
theorem run_e1 {x : Nat} (hx : x < 18446744073709551616) (i : Nat) (hi : i < 7) : runB noE [textB x, ewL i] = ⟨0, 21, 1, []⟩ := by
  obtain ⟨h1, -, h2⟩ := edge_known i hi
  rw [runB_of _ _ (by
    intro w hw
    simp only [List.mem_cons, List.not_mem_nil, or_false] at hw
    rcases hw with rfl | rfl
    · exact isWord_text hx
    · exact isWord_known h2) (by simp)]
  simp only [wordsGo, step_text noE hx, step_arith1 noE h1, tellOf]

/-- What is wanted, one behind the other. -/
def wantL (r0 r1 r2 r3 l m s : Nat) : Nat → Nat
  | 0 => r0
  | 1 => r1
  | 2 => r2
  | 3 => r3
  | 4 => l
  | 5 => m
  | _ => s
theorem arC_one (f : Nat → Nat → Option Nat) (a b : Nat) : oneW (arC f a b) = arC f a b := by
  unfold arC
  split
  · exact oneW_one _
  · decide +kernel
theorem least_first {x y : Nat} (x1 : oneW x = x) : oneW (leastC (pairL x y) 2) = oneW (firstC (pairL x y) 1) := by
  have e1 : leastC (pairL x y) 1 = x := by
    show (if lessB x 9221120237041090560 then x else 9221120237041090560) = x
    rcases fine_dec x with ⟨h, hf⟩ | ⟨h, _⟩
    · have h2 : lessB x 9221120237041090560 = true := by
        rw [less_ord, ordK_nan, decide_eq_true_eq]
        unfold fine at hf
        unfold ordK
        rw [if_neg (by omega)]
        split <;> omega
      rw [if_pos h2]
    · rw [oneW_nan h] at x1
      rw [← x1]
      split <;> rfl
  show oneW (if lessB y (leastC (pairL x y) 1) then y else leastC (pairL x y) 1) = oneW (if lessB y x then y else x)
  rw [e1]
theorem edge_same {x y r0 r1 r2 r3 : Nat} (x1 : oneW x = x) (h0 : oneW r0 = arC Ieee.double.add x y) (h1 : oneW r1 = arC Ieee.double.sub x y) (h2 : oneW r2 = arC Ieee.double.mul x y) (h3 : oneW r3 = arC Ieee.double.div x y) (i : Nat) (hi : i < 7) :
    sameW (arithB (ewL i) x y) (wantL r0 r1 r2 r3 (oneW (firstC (pairL x y) 1)) (oneW (mostC (pairL x y) 1)) (if lessB x y then 4607182418800017408 else 0) i) = true := by
  unfold sameW
  rw [beq_iff_eq]
  match i, hi with
  | 0, _ => show oneW (arC Ieee.double.add x y) = oneW r0; rw [h0, arC_one]
  | 1, _ => show oneW (arC Ieee.double.sub x y) = oneW r1; rw [h1, arC_one]
  | 2, _ => show oneW (arC Ieee.double.mul x y) = oneW r2; rw [h2, arC_one]
  | 3, _ => show oneW (arC Ieee.double.div x y) = oneW r3; rw [h3, arC_one]
  | 4, _ => show oneW (oneW (leastC (pairL x y) 2)) = oneW (oneW (firstC (pairL x y) 1)); rw [least_first x1]
  | 5, _ => show oneW (oneW (oneW (mostC (pairL x y) 1))) = oneW (oneW (mostC (pairL x y) 1)); rw [oneW_one, oneW_one]
  | 6, _ => rfl
theorem want_cell (r0 r1 r2 r3 l m s : Nat) {w : World} {B : Nat} (h : w.heap[B]? = some (.cells #[.float .f64 r0, .float .f64 r1, .float .f64 r2, .float .f64 r3, .float .f64 l, .float .f64 m, .float .f64 s] 23)) (i : Nat) (hi : i < 7) : w.cell? ⟨B, i, none⟩ = some (.float .f64 (wantL r0 r1 r2 r3 l m s i)) := by
  match i, hi with
  | 0, _ => simp [World.cell?, h, wantL]
  | 1, _ => simp [World.cell?, h, wantL]
  | 2, _ => simp [World.cell?, h, wantL]
  | 3, _ => simp [World.cell?, h, wantL]
  | 4, _ => simp [World.cell?, h, wantL]
  | 5, _ => simp [World.cell?, h, wantL]
  | 6, _ => simp [World.cell?, h, wantL]

theorem draw_alloc {w w7 : World} {n : Nat} {o : Obj} (h : (w.drewN n).alloc o = w7) : Below w.heap.size w w7 := by
  subst h
  exact (below_draws (Below.refl _ _) n).trans ((below_alloc _ _).mono (Nat.le_refl _))
theorem same_alloc {w w7 : World} {o : Obj} (h : w.alloc o = w7) : Below w.heap.size w w7 := by
  subst h
  exact below_alloc _ _
theorem flin_pair {w : World} {b x y : Nat} (h : w.heap[b]? = some (.cells #[.float .f64 x, .float .f64 y] 23)) : FlIn w b 0 2 (pairL x y) := by
  refine ⟨fun i hi => ?_, lt_of_block h⟩
  match i, hi with
  | 0, _ => simp [World.cell?, h, pairL]
  | 1, _ => simp [World.cell?, h, pairL]
theorem pair_lt {x y : Nat} (hx : x < 18446744073709551616) (hy : y < 18446744073709551616) (i : Nat) (_ : i < 2) : pairL x y i < 18446744073709551616 := by
  unfold pairL; split <;> assumption

set_option maxRecDepth 100000 in
set_option maxHeartbeats 2000000 in
theorem edges_any (a b : Nat) (ha : a < 18446744073709551616) (hb : b < 18446744073709551616) (w : World) :
    Calls Tryd.prog 3 #[.int .u64 a, .int .u64 b] w fun e w' => e = .returned (.bool true) ∧ Below w.heap.size w w' := by
  have heq := neqFault
  have HX := Lib.hid (dof_any a)
  have HY := Lib.hid (dof_any b)
  obtain ⟨x, hx⟩ : ∃ x, x = oneW a := ⟨_, rfl⟩
  obtain ⟨y, hy⟩ : ∃ y, y = oneW b := ⟨_, rfl⟩
  rw [← hx] at HX
  rw [← hy] at HY
  have hx2 : x < 18446744073709551616 := by rw [hx]; exact oneW_lt ha
  have hy2 : y < 18446744073709551616 := by rw [hy]; exact oneW_lt hb
  have hx1 : oneW x = x := by rw [hx, oneW_one]
  have hy1 : oneW y = y := by rw [hy, oneW_one]
  have HX1 := Lib.hid (And.intro hx1 hx2)
  have HY1 := Lib.hid (And.intro hy1 hy2)
  obtain ⟨r0, d0, hr0⟩ := ar_run .add Ieee.double.add (Or.inl ⟨rfl, rfl⟩) x y 23
  obtain ⟨r1, d1, hr1⟩ := ar_run .sub Ieee.double.sub (Or.inr (Or.inl ⟨rfl, rfl⟩)) x y 23
  obtain ⟨r2, d2, hr2⟩ := ar_run .mul Ieee.double.mul (Or.inr (Or.inr (Or.inl ⟨rfl, rfl⟩))) x y 23
  obtain ⟨r3, d3, hr3⟩ := ar_run .quo Ieee.double.div (Or.inr (Or.inr (Or.inr ⟨rfl, rfl⟩))) x y 23
  have hu0 := fun w => (hr0 w).1
  have hu1 := fun w => (hr1 w).1
  have hu2 := fun w => (hr2 w).1
  have hu3 := fun w => (hr3 w).1
  have HV := Lib.hid (fun v0 v1 v2 v3 i hi => edge_same (r0 := r0 v0) (r1 := r1 v1) (r2 := r2 v2) (r3 := r3 v3) hx1 (hr0 v0).2.1 (hr1 v1).2.1 (hr2 v2).2.1 (hr3 v3).2.1 i hi)
  clear hx hy ha hb hx2 hy2 hx1 hy1 hr0 hr1 hr2 hr3
  go_enter Tryd.func3, Tryd.ntmps3
  go_wp2_with fail
  refine (HX.out _).mono ?_
  rintro e w1 ⟨rfl, rfl⟩
  go_wp2_with fail
  refine (HY.out _).mono ?_
  rintro e w1 ⟨rfl, rfl⟩
  go_wp2_with fail
  go_loopg [23] 7 (fun g i wr => ∃ k : Nat, g = 7 - k ∧ k ≤ 7 ∧ i = .int .i64 k ∧ wr.heap[w.heap.size]? = some edgeO ∧ Below w.heap.size w wr)
  case atStart => exact ⟨0, by omega, by omega, rfl, new_block _ _, below_alloc _ _⟩
  case round =>
    obtain ⟨k, hg, hk, rfl, ho, hb⟩ := hrel
    have HG := Lib.hid hg; clear hg
    by_cases hlt : k < 7
    · have hl : (k : Int) < 7 := by omega
      have hw1 : IntKind.i64.wrap ((k : Int) + 1) = (k : Int) + 1 := IntWalk.i64_in _ (by omega)
      have c1 := edge_cell ho k hlt
      have HO := Lib.hid (And.intro ho hb)
      have R2 := Lib.hid (run_e2 HX1.out.2 HY1.out.2 HX1.out.1 HY1.out.1 k hlt)
      have R1 := Lib.hid (run_e1 HX1.out.2 k hlt)
      have HK := Lib.hid (edge_known k hlt)
      clear ho hb
      go_wp2_with fail
      refine (dtext_any x HX1.out.2 _).mono ?_
      rintro e w1 ⟨rfl, hb1⟩
      have HB1 := Lib.hid hb1
      clear hb1 c1
      go_wp2_with fail
      refine (dtext_any y HY1.out.2 _).mono ?_
      rintro e w2 ⟨rfl, hb2⟩
      have HB2 := Lib.hid (HB1.out.trans (hb2.mono HB1.out.size))
      clear hb2 HB1
      go_wp2_with fail
      have bn := new_block w2 (Obj.cells #[.string ⟨(textB x).toArray⟩, .string ⟨(textB y).toArray⟩, .string (edgeW k)] 9)
      have hal := below_alloc w2 (Obj.cells #[.string ⟨(textB x).toArray⟩, .string ⟨(textB y).toArray⟩, .string (edgeW k)] 9)
      have hal2 := below_alloc (w2.alloc (Obj.cells #[.string ⟨(textB x).toArray⟩, .string ⟨(textB y).toArray⟩, .string (edgeW k)] 9)) (Obj.cells #[.slice (some ⟨w2.heap.size, 0, none⟩) 3 3] 28)
      have T1 := txs_block (l := [⟨(textB x).toArray⟩, ⟨(textB y).toArray⟩, edgeW k]) ((hal2.block _ (lt_of_block bn)).trans bn)
      have HB4 := Lib.hid ((HB2.out.trans (hal.mono HB2.out.size)).trans (hal2.mono (by have := HB2.out.size; simp; omega)))
      clear bn hal hal2 HB2
      refine (run_any noE noE_ok [⟨(textB x).toArray⟩, ⟨(textB y).toArray⟩, edgeW k] (by
        intro s hs
        simp only [List.mem_cons, List.not_mem_nil, or_false] at hs
        rcases hs with rfl | rfl | rfl
        · exact text_small x
        · exact text_small y
        · exact HK.out.2.1) _ _ T1).mono ?_
      clear T1
      have htl : tl [⟨(textB x).toArray⟩, ⟨(textB y).toArray⟩, edgeW k] = [textB x, textB y, ewL k] := rfl
      rw [htl, R2.out]
      clear htl
      unfold RunTells
      rw [tell_ok]
      rintro e w5 ⟨rfl, hb5⟩
      have HB5 := Lib.hid (HB4.out.trans (hb5.mono HB4.out.size))
      clear hb5 HB4
      go_wp2_with fail
      have HV2 := Lib.hid (fun v0 v1 v2 v3 => HV.out v0 v1 v2 v3 k hlt)
      have HF1 := new_block w5 (.cells #[.int .i64 0, .int .i64 0, .string ⟨#[]⟩] 31)
      have HB6 := HB5.out.trans ((below_alloc w5 (.cells #[.int .i64 0, .int .i64 0, .string ⟨#[]⟩] 31)).mono HB5.out.size)
      clear HB5
      refine (dless_any x y HX1.out.2 HY1.out.2 _).mono ?_
      revert HV2 HF1 HB6
      generalize arithB (ewL k) x y = V
      generalize lessB x y = lb
      generalize w5.alloc (.cells #[.int .i64 0, .int .i64 0, .string ⟨#[]⟩] 31) = w6
      generalize w5.heap.size = BF
      intro HV2 hf1 hb6
      rintro e w7 ⟨rfl, rfl⟩
      have HF1 := Lib.hid hf1
      have HB6 := Lib.hid hb6
      clear hf1 hb6
      have main : ∀ sb, sb = (if lb = true then 4607182418800017408 else 0) → Hid (∀ v0 v1 v2 v3, sameW V (wantL (r0 v0) (r1 v1) (r2 v2) (r3 v3) (oneW (firstC (pairL x y) 1)) (oneW (mostC (pairL x y) 1)) sb k) = true) := by
        intro sb hsb
        rw [hsb]; exact HV2
      clear HV2
      cases lb
      · have HV3 := main 0 rfl
        clear main
        go_wp2_with fail
        refine (dleast_any _ 0 2 2 (by decide) (by decide) (pairL x y) (pair_lt HX1.out.2 HY1.out.2) _ (flin_pair (new_block (w6.drewN _) _))).mono ?_
        rintro e w7 ⟨rfl, h7⟩
        have b67 := draw_alloc h7
        have HB7 := Lib.hid (HB6.out.trans (b67.mono HB6.out.size))
        have HF7 := Lib.hid ((b67.block _ (lt_of_block HF1.out)).trans HF1.out)
        clear b67 h7 HF1 HB6
        go_wp2_with fail
        refine (dmost_any _ 0 2 2 (by decide) (by decide) (pairL x y) (pair_lt HX1.out.2 HY1.out.2) _ (flin_pair (new_block w7 _))).mono ?_
        rintro e w8 ⟨rfl, h8⟩
        have b78 := same_alloc h8
        have HB8 := Lib.hid (HB7.out.trans (b78.mono HB7.out.size))
        have HF8 := (b78.block _ (lt_of_block HF7.out)).trans HF7.out
        have l8 := lt_of_block HF8
        obtain ⟨p1, p2, p3, -, -, -⟩ := cells_of_fault HF8
        have hw := fun v0 v1 v2 v3 => want_cell (r0 v0) (r1 v1) (r2 v2) (r3 v3) (oneW (firstC (pairL x y) (2 - 1))) (oneW (mostC (pairL x y) (2 - 1))) 0 (new_block w8 (.cells #[.float .f64 (r0 v0), .float .f64 (r1 v1), .float .f64 (r2 v2), .float .f64 (r3 v3), .float .f64 (oneW (firstC (pairL x y) (2 - 1))), .float .f64 (oneW (mostC (pairL x y) (2 - 1))), .float .f64 0] 23)) k hlt
        clear b78 h8 HF7 HB7 HF8
        go_wp2_with fail
        have hs := fun v0 v1 v2 v3 W => show Calls Tryd.prog 14 #[.float .f64 V, .float .f64 (wantL (r0 v0) (r1 v1) (r2 v2) (r3 v3) (oneW (firstC (pairL x y) 1)) (oneW (mostC (pairL x y) 1)) 0 k)] W fun en w' => en = .returned (.bool true) ∧ W = w' from by have h1 := dsame_any V (wantL (r0 v0) (r1 v1) (r2 v2) (r3 v3) (oneW (firstC (pairL x y) 1)) (oneW (mostC (pairL x y) 1)) 0 k) W; rw [HV3.out] at h1; exact h1
        refine (hs _ _ _ _ _).mono ?_
        rintro e w9 ⟨rfl, h9⟩
        have b89 := same_alloc h9
        have HB9 := Lib.hid (HB8.out.trans (b89.mono HB8.out.size))
        clear hs b89 h9 hw p1 p2 p3 l8 HV3 HB8
        go_wp2_with fail
        refine (dtext_any x HX1.out.2 _).mono ?_
        rintro e w10 ⟨rfl, hb10⟩
        have HB10 := Lib.hid (HB9.out.trans (hb10.mono HB9.out.size))
        clear hb10 HB9
        go_wp2_with fail
        have bn := new_block w10 (Obj.cells #[.string ⟨(textB x).toArray⟩, .string (edgeW k)] 9)
        have hal := below_alloc w10 (Obj.cells #[.string ⟨(textB x).toArray⟩, .string (edgeW k)] 9)
        have hal2 := below_alloc (w10.alloc (Obj.cells #[.string ⟨(textB x).toArray⟩, .string (edgeW k)] 9)) (Obj.cells #[.slice (some ⟨w10.heap.size, 0, none⟩) 2 2] 28)
        have T1 := txs_block (l := [⟨(textB x).toArray⟩, edgeW k]) ((hal2.block _ (lt_of_block bn)).trans bn)
        have HB11 := Lib.hid ((HB10.out.trans (hal.mono HB10.out.size)).trans (hal2.mono (by have := HB10.out.size; simp; omega)))
        clear bn hal hal2 HB10
        refine (run_any noE noE_ok [⟨(textB x).toArray⟩, edgeW k] (by
          intro s hs
          simp only [List.mem_cons, List.not_mem_nil, or_false] at hs
          rcases hs with rfl | rfl
          · exact text_small x
          · exact HK.out.2.1) _ _ T1).mono ?_
        clear T1
        have htl : tl [⟨(textB x).toArray⟩, edgeW k] = [textB x, ewL k] := rfl
        rw [htl, R1.out]
        clear htl
        unfold RunTells Tell.val fault
        rintro e w12 ⟨rfl, hb12⟩
        have HB12 := Lib.hid (HB11.out.trans (hb12.mono HB11.out.size))
        clear hb12 HB11
        go_wp2_with fail
        have HBe := HB12.out.trans ((below_alloc w12 (.cells #[.int .i64 21, .int .i64 1, .string ⟨#[]⟩] 31)).mono HB12.out.size)
        go_roundg (7 - (k + 1))
        case measure => have := HG.out; omega
        case rel => exact ⟨k + 1, rfl, by omega, by go_num, (HBe.block _ (lt_of_block HO.out.1)).trans HO.out.1, HO.out.2.trans (HBe.mono HO.out.2.size)⟩
      · have HV3 := main 4607182418800017408 rfl
        clear main
        go_wp2_with fail
        refine (dleast_any _ 0 2 2 (by decide) (by decide) (pairL x y) (pair_lt HX1.out.2 HY1.out.2) _ (flin_pair (new_block (w6.drewN _) _))).mono ?_
        rintro e w7 ⟨rfl, h7⟩
        have b67 := draw_alloc h7
        have HB7 := Lib.hid (HB6.out.trans (b67.mono HB6.out.size))
        have HF7 := Lib.hid ((b67.block _ (lt_of_block HF1.out)).trans HF1.out)
        clear b67 h7 HF1 HB6
        go_wp2_with fail
        refine (dmost_any _ 0 2 2 (by decide) (by decide) (pairL x y) (pair_lt HX1.out.2 HY1.out.2) _ (flin_pair (new_block w7 _))).mono ?_
        rintro e w8 ⟨rfl, h8⟩
        have b78 := same_alloc h8
        have HB8 := Lib.hid (HB7.out.trans (b78.mono HB7.out.size))
        have HF8 := (b78.block _ (lt_of_block HF7.out)).trans HF7.out
        have l8 := lt_of_block HF8
        obtain ⟨p1, p2, p3, -, -, -⟩ := cells_of_fault HF8
        have hw := fun v0 v1 v2 v3 => want_cell (r0 v0) (r1 v1) (r2 v2) (r3 v3) (oneW (firstC (pairL x y) (2 - 1))) (oneW (mostC (pairL x y) (2 - 1))) 4607182418800017408 (new_block w8 (.cells #[.float .f64 (r0 v0), .float .f64 (r1 v1), .float .f64 (r2 v2), .float .f64 (r3 v3), .float .f64 (oneW (firstC (pairL x y) (2 - 1))), .float .f64 (oneW (mostC (pairL x y) (2 - 1))), .float .f64 4607182418800017408] 23)) k hlt
        clear b78 h8 HF7 HB7 HF8
        go_wp2_with fail
        have hs := fun v0 v1 v2 v3 W => show Calls Tryd.prog 14 #[.float .f64 V, .float .f64 (wantL (r0 v0) (r1 v1) (r2 v2) (r3 v3) (oneW (firstC (pairL x y) 1)) (oneW (mostC (pairL x y) 1)) 4607182418800017408 k)] W fun en w' => en = .returned (.bool true) ∧ W = w' from by have h1 := dsame_any V (wantL (r0 v0) (r1 v1) (r2 v2) (r3 v3) (oneW (firstC (pairL x y) 1)) (oneW (mostC (pairL x y) 1)) 4607182418800017408 k) W; rw [HV3.out] at h1; exact h1
        refine (hs _ _ _ _ _).mono ?_
        rintro e w9 ⟨rfl, h9⟩
        have b89 := same_alloc h9
        have HB9 := Lib.hid (HB8.out.trans (b89.mono HB8.out.size))
        clear hs b89 h9 hw p1 p2 p3 l8 HV3 HB8
        go_wp2_with fail
        refine (dtext_any x HX1.out.2 _).mono ?_
        rintro e w10 ⟨rfl, hb10⟩
        have HB10 := Lib.hid (HB9.out.trans (hb10.mono HB9.out.size))
        clear hb10 HB9
        go_wp2_with fail
        have bn := new_block w10 (Obj.cells #[.string ⟨(textB x).toArray⟩, .string (edgeW k)] 9)
        have hal := below_alloc w10 (Obj.cells #[.string ⟨(textB x).toArray⟩, .string (edgeW k)] 9)
        have hal2 := below_alloc (w10.alloc (Obj.cells #[.string ⟨(textB x).toArray⟩, .string (edgeW k)] 9)) (Obj.cells #[.slice (some ⟨w10.heap.size, 0, none⟩) 2 2] 28)
        have T1 := txs_block (l := [⟨(textB x).toArray⟩, edgeW k]) ((hal2.block _ (lt_of_block bn)).trans bn)
        have HB11 := Lib.hid ((HB10.out.trans (hal.mono HB10.out.size)).trans (hal2.mono (by have := HB10.out.size; simp; omega)))
        clear bn hal hal2 HB10
        refine (run_any noE noE_ok [⟨(textB x).toArray⟩, edgeW k] (by
          intro s hs
          simp only [List.mem_cons, List.not_mem_nil, or_false] at hs
          rcases hs with rfl | rfl
          · exact text_small x
          · exact HK.out.2.1) _ _ T1).mono ?_
        clear T1
        have htl : tl [⟨(textB x).toArray⟩, edgeW k] = [textB x, ewL k] := rfl
        rw [htl, R1.out]
        clear htl
        unfold RunTells Tell.val fault
        rintro e w12 ⟨rfl, hb12⟩
        have HB12 := Lib.hid (HB11.out.trans (hb12.mono HB11.out.size))
        clear hb12 HB11
        go_wp2_with fail
        have HBe := HB12.out.trans ((below_alloc w12 (.cells #[.int .i64 21, .int .i64 1, .string ⟨#[]⟩] 31)).mono HB12.out.size)
        go_roundg (7 - (k + 1))
        case measure => have := HG.out; omega
        case rel => exact ⟨k + 1, rfl, by omega, by go_num, (HBe.block _ (lt_of_block HO.out.1)).trans HO.out.1, HO.out.2.trans (HBe.mono HO.out.2.size)⟩
    · obtain rfl : k = 7 := by omega
      go_wp2_with fail
      refine (alive_any _).mono ?_
      rintro e w1 ⟨rfl, hb1⟩
      go_wp2
      go_ret
      exact ⟨rfl, hb.trans (hb1.mono hb.size)⟩
end Go.Proofs.YtidjnfjpdnjogaaDoor
