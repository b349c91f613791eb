/-
  RealEdges, the walk: infinities, noughts and NaN have their places and their classes. Conditions: none.
-/
import Derived.Test.YtelkobogohbhlaaDoorRealC6
import Derived.Deep.RegionHeld3
namespace Go.Proofs.YtelkobogohbhlaaDoor
open Go.RowKit Go.Lib

def edgeL (n : Nat) : Nat → Nat
  | 0 => 18442240474082181120
  | 1 => 13830554455654793216
  | 2 => 9223372036854775808
  | 3 => 0
  | 4 => 4607182418800017408
  | 5 => 9218868437227405312
  | _ => n
def edgeC (i : Nat) : Nat := if i = 6 then 0 else i + 1
def edgeK : Nat → Int
  | 0 => -9218868437227405313
  | 1 => -4607182418800017409
  | 2 => -1
  | 3 => 0
  | 4 => 4607182418800017408
  | 5 => 9218868437227405312
  | _ => 100000000000000000000

theorem edge_lt {n : Nat} (h : n < 18446744073709551616) (i : Nat) : edgeL n i < 18446744073709551616 := by
  unfold edgeL
  split <;> first | decide | exact h
theorem edge_ord {n : Nat} (h : ¬ fine n) (i : Nat) : ordK (edgeL n i) = edgeK i := by
  unfold edgeL edgeK
  split
  all_goals first | decide +kernel | skip
  exact ordK_top h
theorem edge_class {n : Nat} (h : ¬ fine n) (i : Nat) (hi : i < 7) : classB (edgeL n i) = edgeC i := by
  match i, hi with
  | 0, _ => show classB (edgeL 0 0) = edgeC 0; decide +kernel
  | 1, _ => show classB (edgeL 0 1) = edgeC 1; decide +kernel
  | 2, _ => show classB (edgeL 0 2) = edgeC 2; decide +kernel
  | 3, _ => show classB (edgeL 0 3) = edgeC 3; decide +kernel
  | 4, _ => show classB (edgeL 0 4) = edgeC 4; decide +kernel
  | 5, _ => show classB (edgeL 0 5) = edgeC 5; decide +kernel
  | 6, _ =>
    show classB n = 0
    unfold fine at h
    rw [classB, if_pos (by omega)]
theorem edge_less {n : Nat} (h : ¬ fine n) (i k : Nat) (hi : i < 7) (hk : k < 7) : lessB (edgeL n i) (edgeL n k) = decide ((i : Int) < (k : Int)) := by
  rw [less_ord, edge_ord h, edge_ord h]
  have : ∀ i k : Fin 7, decide (edgeK i.val < edgeK k.val) = decide ((i.val : Int) < (k.val : Int)) := by decide +kernel
  exact this ⟨i, hi⟩ ⟨k, hk⟩
theorem edge_same {n : Nat} (hn : n < 18446744073709551616) (h : ¬ fine n) (i k : Nat) (hi : i < 7) (hk : k < 7) : sameW (edgeL n i) (edgeL n k) = ((i : Int) == (k : Int)) := by
  unfold sameW
  rw [same_ord _ _ (edge_lt hn i) (edge_lt hn k), edge_ord h, edge_ord h]
  have : ∀ i k : Fin 7, decide (edgeK i.val = edgeK k.val) = ((i.val : Int) == (k.val : Int)) := by decide +kernel
  exact this ⟨i, hi⟩ ⟨k, hk⟩

abbrev edgeO (n : Nat) : Obj := .cells #[.float .f64 18442240474082181120, .float .f64 13830554455654793216, .float .f64 9223372036854775808, .float .f64 0, .float .f64 4607182418800017408, .float .f64 9218868437227405312, .float .f64 n] 24
abbrev edgeW : Obj := .cells #[.int .i64 1, .int .i64 2, .int .i64 3, .int .i64 4, .int .i64 5, .int .i64 6, .int .i64 0] 3
theorem edge_cells {w : World} {B n : Nat} (h : w.heap[B]? = some (edgeO n)) (i : Nat) (hi : i < 7) : w.cell? ⟨B, i, none⟩ = some (.float .f64 (edgeL n i)) := by
  match i, hi with
  | 0, _ => simp [World.cell?, h, edgeL]
  | 1, _ => simp [World.cell?, h, edgeL]
  | 2, _ => simp [World.cell?, h, edgeL]
  | 3, _ => simp [World.cell?, h, edgeL]
  | 4, _ => simp [World.cell?, h, edgeL]
  | 5, _ => simp [World.cell?, h, edgeL]
  | 6, _ => simp [World.cell?, h, edgeL]
theorem edge_want (w : World) (i : Nat) (hi : i < 7) : (w.alloc edgeW).cell? ⟨w.heap.size, i, none⟩ = some (.int .i64 (edgeC i : Nat)) := by
  have h := new_block w edgeW
  revert h
  generalize w.alloc edgeW = w2
  generalize w.heap.size = B
  intro h
  match i, hi with
  | 0, _ => simp [World.cell?, h, edgeC]
  | 1, _ => simp [World.cell?, h, edgeC]
  | 2, _ => simp [World.cell?, h, edgeC]
  | 3, _ => simp [World.cell?, h, edgeC]
  | 4, _ => simp [World.cell?, h, edgeC]
  | 5, _ => simp [World.cell?, h, edgeC]
  | 6, _ => simp [World.cell?, h, edgeC]

theorem nan_or (b : Nat) (hb : b < 18446744073709551616) : ∃ n : Nat, bits .or .u64 (b : Int) 9218868437227405313 = (n : Int) ∧ n < 18446744073709551616 ∧ ¬ fine n := by
  refine ⟨b ||| 9218868437227405313, ?_, ?_, ?_⟩
  · rw [show (9218868437227405313 : Int) = ((9218868437227405313 : Nat) : Int) from rfl, bits_or_u64_nat b _ hb (by decide)]
  · exact Nat.or_lt_two_pow (n := 64) hb (by decide)
  · unfold fine rungOf
    have h1 : (b ||| 9218868437227405313) % 2 ^ 63 = b % 2 ^ 63 ||| 9218868437227405313 % 2 ^ 63 := Nat.or_mod_two_pow
    rw [show (9223372036854775808 : Nat) = 2 ^ 63 from rfl, h1]
    have h2 : 9218868437227405313 % 2 ^ 63 ≤ b % 2 ^ 63 ||| 9218868437227405313 % 2 ^ 63 := Nat.right_le_or
    have h3 : 9218868437227405313 % 2 ^ 63 = 9218868437227405313 := by decide
    rw [h3] at h2
    rw [h3]
    omega

theorem text_nan (n : Nat) (hn : n < 18446744073709551616) (h : classB n = 0) (w : World) : Calls Tryd.prog 24 #[.float .f64 n] w fun en w' => en = .returned (.string ⟨#[110, 97, 110]⟩) ∧ w = w' := by
  have HK := Lib.hid (class_any n hn)
  rw [h] at HK
  clear h
  go_enter Tryd.func24, Tryd.ntmps24
  go_wp2_with fail
  refine (HK.out _).mono ?_
  rintro en w1 ⟨rfl, rfl⟩
  go_wp2
  go_ret
  exact ⟨rfl, rfl⟩

abbrev infO : Obj := .cells #[.float .f64 18442240474082181120, .float .f64 9218868437227405312] 24
theorem sum_old (w : World) (k : Nat) (h : k < w.heap.size) : (w.alloc infO).heap[k]? = w.heap[k]? := Below.heap_alloc w _ k h
theorem sum_infs (w : World) : Calls Tryd.prog 30 #[.slice (some ⟨w.heap.size, 0, none⟩) 2 2] (w.alloc (.cells #[.float .f64 18442240474082181120, .float .f64 9218868437227405312] 24)) fun en w' => en = .returned (.float .f64 9221120237041090560) ∧ Below w.heap.size w w' := by
  have hb := new_block w (.cells #[.float .f64 18442240474082181120, .float .f64 9218868437227405312] 24)
  refine (sum_any w.heap.size 0 2 2 (by decide) (by decide) (by decide) (fun i => if i = 0 then 18442240474082181120 else 9218868437227405312) _ ⟨fun i hi => ?_, by simp⟩).mono ?_
  · revert hb
    generalize w.alloc _ = w2
    generalize w.heap.size = B
    intro hb
    match i, hi with
    | 0, _ => simp [World.cell?, hb]
    | 1, _ => simp [World.cell?, hb]
  · rintro en w' ⟨rfl, h⟩
    exact ⟨congrArg Ending.returned (congrArg (Value.float .f64) (by decide +kernel)), (below_alloc w _).trans (h.mono (by simp))⟩
theorem same_nan {n : Nat} (h : ¬ fine n) : sameW 9221120237041090560 n = true := by
  unfold sameW
  rw [nan_rung h, show oneW 9221120237041090560 = 9221120237041090560 by decide +kernel]; rfl

set_option maxHeartbeats 400000 in
theorem edges_any (b : Nat) (hb : b < 18446744073709551616) (W : World) :
    Calls Tryd.prog 10 #[.int .u64 (b : Int)] W fun en w' => en = .returned (.bool true) ∧ Below W.heap.size W w' := by
  have h57 := runFrom
  obtain ⟨n, hor, hn, hf⟩ := nan_or b hb
  have HN := Lib.hid hn
  have HFn := Lib.hid hf
  have HCl := Lib.hid (fun i (hi : i < 7) => edge_class hf i hi ▸ class_any (edgeL n i) (edge_lt hn i))
  clear hn hf hb
  go_enter Tryd.func10, Tryd.ntmps10
  go_wp2_with fail
  refine (minf_neg _).mono ?_
  rintro en w1 ⟨rfl, rfl⟩
  go_wp2_with fail
  refine (mcopy_any _).mono ?_
  rintro en w1 ⟨rfl, rfl⟩
  go_wp2_with fail
  refine (minf_pos _).mono ?_
  rintro en w1 ⟨rfl, rfl⟩
  go_wp2_with fail
  go_loopg [5] 7 (fun g i wr => ∃ k : Nat, g = 7 - k ∧ k ≤ 7 ∧ i = .int .i64 k ∧ wr.heap[W.heap.size]? = some (edgeO n) ∧ Below W.heap.size W wr)
  case atStart => exact ⟨0, by omega, by omega, rfl, new_block _ _, below_alloc _ _⟩
  case round =>
    obtain ⟨i, hg, hi, rfl, hl, hb⟩ := hrel
    have HG := Lib.hid hg; clear hg
    have HL := Lib.hid hl; clear hl
    by_cases hlt : i < 7
    · have c1 := edge_want wr i hlt
      have c2 := edge_cells HL.out i hlt
      have hz : W.heap.size < wr.heap.size := lt_of_block HL.out
      have hi7 : (i : Int) < 7 := by omega
      go_wp2_with fail
      refine (HCl.out i hlt _).mono ?_
      rintro en w1 ⟨rfl, rfl⟩
      go_wp2_with fail
      have hl2 : (wr.alloc edgeW).heap[W.heap.size]? = some (edgeO n) := (Below.heap_alloc _ _ _ hz).trans HL.out
      have hb2 := hb.alloc (by omega) edgeW
      clear c1 c2 hz HL hb
      revert hl2 hb2
      generalize wr.alloc edgeW = w2
      intro hl2 hb2
      have HB := Lib.hid (And.intro hl2 hb2); clear hl2 hb2
      go_loopg [7] 7 (fun g j wx => ∃ k : Nat, g = 7 - k ∧ k ≤ 7 ∧ j = .int .i64 k ∧ wx.heap[W.heap.size]? = some (edgeO n) ∧ Below W.heap.size W wx)
      case atStart => exact ⟨0, by omega, by omega, rfl, HB.out.1, HB.out.2⟩
      case round =>
        obtain ⟨k, hg, hk, rfl, hl3, hb3⟩ := hrel
        have HG2 := Lib.hid hg; clear hg
        have HX := Lib.hid (And.intro hl3 hb3); clear hl3 hb3
        by_cases hlk : k < 7
        · have c2 := edge_cells HX.out.1 i hlt
          have c3 := edge_cells HX.out.1 k hlk
          have hk7 : (k : Int) < 7 := by omega
          have h1 := fun w => (less_any (edgeL n i) (edgeL n k) (edge_lt HN.out i) (edge_lt HN.out k) w).mono fun _ _ h => And.intro h.1 h.2.symm
          have h2 := fun w => (rsame_any (edgeL n i) (edgeL n k) w).mono fun _ _ h => And.intro h.1 h.2.symm
          rw [edge_less HFn.out i k hlt hlk] at h1
          rw [edge_same HN.out HFn.out i k hlt hlk] at h2
          have H1 := Lib.hid h1; clear h1
          have H2 := Lib.hid h2; clear h2
          have hwk : IntKind.i64.wrap ((k : Int) + 1) = (k : Int) + 1 := IntWalk.i64_in _ (by omega)
          go_wp2_with fail
          go_quiet (first | (go_at_call 26; exact Calls.quiet_of_same (H1.out _)) | (go_at_call 27; exact Calls.quiet_of_same (H2.out _)))
          go_wp2
          go_roundg (7 - (k + 1))
          case measure => rw [HG2.out]; omega
          case rel => exact ⟨k + 1, rfl, hlk, rfl, HX.out.1, below_draws HX.out.2 nq⟩
        · obtain rfl : k = 7 := by omega
          have hwi : IntKind.i64.wrap ((i : Int) + 1) = (i : Int) + 1 := IntWalk.i64_in _ (by omega)
          go_wp2
          go_roundg (7 - (i + 1))
          case measure => rw [HG.out]; omega
          case rel => exact ⟨i + 1, rfl, hlt, rfl, HX.out.1, HX.out.2⟩
    · obtain rfl : i = 7 := by omega
      have g0 := edge_cells HL.out 0 (by decide)
      have g5 := edge_cells HL.out 5 (by decide)
      have hz : W.heap.size < wr.heap.size := lt_of_block HL.out
      have HS := Lib.hid (rsame_any 9221120237041090560 n)
      have HT := Lib.hid (rsame_any 0 0)
      rw [same_nan HFn.out] at HS
      rw [show sameW 0 0 = true by decide +kernel] at HT
      have HX := Lib.hid (text_nan n HN.out (edge_class HFn.out 6 (by decide)))
      have HB := Lib.hid (rbits_any n)
      rw [nan_rung HFn.out] at HB
      have HZ := Lib.hid (And.intro hz hb); clear hz hb
      have e0 : wr.cell? ⟨W.heap.size, 0, none⟩ = some (.float .f64 18442240474082181120) := g0
      have e5 : wr.cell? ⟨W.heap.size, 5, none⟩ = some (.float .f64 9218868437227405312) := g5
      clear g0 g5
      go_wp2_with fail
      go_region_held3 (fun w' => w'.cell? ⟨W.heap.size, 0, none⟩ = some (.float .f64 18442240474082181120) ∧ w'.cell? ⟨W.heap.size, 5, none⟩ = some (.float .f64 9218868437227405312)) (first | exact ⟨e0, e5⟩ | exact ⟨k0, k5⟩ | exact ⟨l0, l5⟩ | exact ⟨m0, m5⟩ | go_keep) (first
        | (go_at_call 12; refine (alive_any _).mono ?_; rintro en w1 ⟨rfl, hbl⟩
           have hl1 : w1.heap[W.heap.size]? = some (edgeO n) := (hbl.block _ HZ.out.1).trans HL.out
           have hb1 : Below W.heap.size W w1 := (below_draws HZ.out.2 1).trans (hbl.mono HZ.out.2.size)
           have k0 : w1.cell? ⟨W.heap.size, 0, none⟩ = some (.float .f64 18442240474082181120) := edge_cells hl1 0 (by decide)
           have k5 : w1.cell? ⟨W.heap.size, 5, none⟩ = some (.float .f64 9218868437227405312) := edge_cells hl1 5 (by decide)
           have hl2 := (sum_old w1 _ (lt_of_block hl1)).trans hl1
           have l0 := edge_cells hl2 0 (by decide)
           have l5 := edge_cells hl2 5 (by decide)
           have H1 := Lib.hid (And.intro hl1 hb1); clear hl1 hb1 hbl hl2)
        | (go_at_call 24; refine (HX.out _).mono ?_; rintro en w2 ⟨rfl, rfl⟩)
        | (go_at_call 16; refine (HB.out _).mono ?_; rintro en w2 ⟨rfl, rfl⟩)
        | (go_at_call_of 30 (Value.slice none 0 0); refine (sum_nil _).mono ?_; rintro en w2 ⟨rfl, rfl⟩)
        | (go_at_call 30; refine (sum_infs w1).mono ?_; rintro en w3 ⟨rfl, hb3⟩
           have hl3 := (hb3.block _ (lt_of_block H1.out.1)).trans H1.out.1
           have m0 : w3.cell? ⟨W.heap.size, 0, none⟩ = some (.float .f64 18442240474082181120) := edge_cells hl3 0 (by decide)
           have m5 : w3.cell? ⟨W.heap.size, 5, none⟩ = some (.float .f64 9218868437227405312) := edge_cells hl3 5 (by decide)
           have H3 := Lib.hid (H1.out.2.trans (hb3.mono H1.out.2.size)); clear hl3 hb3)
        | (go_at_call 34; refine (least_nil _).mono ?_; rintro en w2 ⟨rfl, rfl⟩)
        | (go_at_call 35; refine (most_nil _).mono ?_; rintro en w2 ⟨rfl, rfl⟩)
        | (go_at_call_of 27 n; refine (HS.out _).mono ?_; rintro en w2 ⟨rfl, rfl⟩)
        | (go_at_call 27; refine (HT.out _).mono ?_; rintro en w2 ⟨rfl, rfl⟩))
      go_wp2
      go_ret
      exact ⟨rfl, H3.out⟩
end Go.Proofs.YtelkobogohbhlaaDoor
