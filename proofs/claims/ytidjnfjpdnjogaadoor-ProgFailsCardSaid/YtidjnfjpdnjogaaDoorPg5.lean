/-
  Package prog: the byte at a place. Conditions: none.
-/
import Derived.Test.YtidjnfjpdnjogaaDoorPg4
namespace Go.Proofs.YtidjnfjpdnjogaaDoor
open Go.RowKit Go.Lib

theorem ltV_fine (a b : Nat) (ha : fine a) (hb : fine b) : (Ieee.double.order a b == some .lt) = decide (valF a < valF b) := by
  rw [order_fine a b ha hb]
  rcases Int.lt_trichotomy (valF a) (valF b) with h | h | h
  · rw [cmp_lt h, decide_eq_true h]; rfl
  · rw [h, cmp_eq, decide_eq_false (Int.lt_irrefl _)]; rfl
  · rw [cmp_gt h, decide_eq_false (by omega)]; rfl

theorem pw_mono (a b : Nat) (h : a ≤ b) : pw a ≤ pw b := Nat.pow_le_pow_right (by decide) h
theorem inf_great (n : Nat) (hn : n ≤ 281474976710656) : n * UU < magM 9218868437227405312 := by
  have h1 : magM 9218868437227405312 = 9007199254740992 * pw 2045 := mag_top 2045
  have h2 : UU ≤ pw 2045 := pw_mono 1074 2045 (by decide)
  have h3 : 0 < UU := UU_pos
  rw [h1]
  revert h2 h3
  generalize UU = u
  generalize pw 2045 = p
  intro h2 h3
  calc n * u ≤ 281474976710656 * u := Nat.mul_le_mul_right _ hn
    _ < 9007199254740992 * u := by omega
    _ ≤ 9007199254740992 * p := Nat.mul_le_mul_left _ h2

theorem place_cases (k n : Nat) (hn : n ≤ 281474976710656) :
    (Ieee.double.order k 0 == some .gt || Ieee.double.order k 0 == some .eq) = false ∧ placeB k n = none
    ∨ (Ieee.double.order k 0 == some .gt || Ieee.double.order k 0 == some .eq) = true ∧ (Ieee.double.order k (intF n) == some .lt) = false ∧ placeB k n = none
    ∨ (Ieee.double.order k 0 == some .gt || Ieee.double.order k 0 == some .eq) = true ∧ (Ieee.double.order k (intF n) == some .lt) = true ∧ rungOf k < 9218868437227405312 ∧ qOf k < n ∧ nOf k = qOf k ∧ placeB k n = if evenB k then some (qOf k) else none := by
  unfold placeB
  cases hg : (Ieee.double.order k 0 == some .gt || Ieee.double.order k 0 == some .eq)
  · exact Or.inl ⟨rfl, rfl⟩
  cases hl : (Ieee.double.order k (intF n) == some .lt)
  · exact Or.inr (Or.inl ⟨rfl, rfl, rfl⟩)
  refine Or.inr (Or.inr ⟨rfl, rfl, ?_⟩)
  have hnI : fine (intF n) := intF_fine n ⟨by omega, by omega⟩
  have hk : fine k := by
    by_cases h : fine k
    · exact h
    · rw [order_nan k (intF n) (Or.inl h)] at hl; cases hl
  have f0 : fine 0 := by unfold fine; decide +kernel
  rw [ge_fine k 0 hk f0, decide_eq_true_eq] at hg
  rw [ltV_fine k _ hk hnI, decide_eq_true_eq, intF_val n (by omega) (by omega)] at hl
  have v0 : valF 0 = 0 := by decide +kernel
  rw [v0] at hg
  have hmag : magM (rungOf k) < n * UU ∧ nOf k = (qOf k : Int) := by
    have hq : qOf k = magM (rungOf k) / UU := rfl
    unfold nOf
    rw [valF] at hg hl
    cases hs : negOf k
    · rw [hs] at hl
      simp only [sgn, Bool.false_eq_true, if_false] at hl ⊢
      refine ⟨?_, trivial⟩
      have : ((magM (rungOf k) : Nat) : Int) < ((n * UU : Nat) : Int) := by rw [Int.natCast_mul]; exact hl
      exact Int.ofNat_lt.1 this
    · rw [hs] at hg hl
      simp only [sgn, if_true] at hg hl ⊢
      have h0 : magM (rungOf k) = 0 := by omega
      rw [h0] at hl hq
      rw [hq, Nat.zero_div, h0]
      have : ((0 : Nat) : Int) < ((n * UU : Nat) : Int) := by rw [Int.natCast_mul]; simpa using hl
      exact ⟨Int.ofNat_lt.1 this, rfl⟩
  have hfin : rungOf k < 9218868437227405312 := by
    rcases Nat.lt_or_ge (rungOf k) 9218868437227405312 with h | h
    · exact h
    · have he : rungOf k = 9218868437227405312 := Nat.le_antisymm hk h
      have := hmag.1
      rw [he] at this
      exact absurd this (by have := inf_great n hn; omega)
  refine ⟨hfin, ?_, hmag.2, by cases evenB k <;> rfl⟩
  show magM (rungOf k) / UU < n
  exact (Nat.div_lt_iff_lt_mul UU_pos).2 hmag.1

/-- The byte's text: what 'at' answers. -/
def AtPost (B M : Nat) (en : En) (k : Nat) (w : World) (e : Ending) (w' : World) : Prop := match placeB k en.d.size with
  | some i => e = .returned (.int .u8 ((en.d.data.toList.getD i 0).toNat)) ∧ w' = w
  | none => RtPost B M w e w'

theorem index_out (d : ByteArray) : ∃ (pv : World → Value) (N : World → Nat), ∀ w, (Instr.index 9 (.string d) (.int .i64 (-1))).run Tryd.prog w = .halt (.panic (.iface 8 (pv w))) (w.drewN (N w)) := by
  obtain ⟨S, Nn, hrun⟩ := bounds_run (-1) d.size
  refine ⟨fun w => .agg #[.int .i64 (IntKind.i64.wrap (-1)), .int .i64 d.size, .bool (S w), .int .u8 0], Nn, fun w => ?_⟩
  rw [run_index_string (h := Tryd.underlying9)]
  simp only [show ¬ (0 : Int) ≤ -1 by decide]
  exact hrun w

theorem at_any (B M : Nat) (en : En) (st : List Nat) (v : Value) (k : Nat) (ho : en.Ok) (w : World) (h : Mach B M en st v w) :
    Calls Tryd.prog 47 #[.pointer (some ⟨M, 0, none⟩), .float .f64 k] w (AtPost B M en k w) := by
  obtain ⟨-, -, -, c3, -, -, -, -⟩ := h.cells
  have hz := h.lt
  clear h
  have hcv : ∀ w : World, (convert 3 23 (.int .i64 (en.d.size : Nat))).run Tryd.prog w = .ok (.float .f64 (intF (en.d.size : Nat))) w := fun w => run_convert_int_float w 3 23 .i64 .f64 _ (by kernel_rfl) Tryd.underlying23
  obtain ⟨pv, Nn, hix⟩ := index_out en.d
  unfold AtPost
  have hd := ho.d
  clear ho
  rcases place_cases k en.d.size hd with ⟨g, hp⟩ | ⟨g, l, hp⟩ | ⟨g, l, hf, hq, hn, hp⟩
  · rw [hp]
    have g' : (FloatKind.f64.format.order k 0 == some .gt || FloatKind.f64.format.order k 0 == some .eq) = false := g
    clear g hp
    go_enter Tryd.func47, Tryd.ntmps47
    go_wp2
    exact ⟨rfl, ⟨_, _, rfl, Or.inl rfl⟩, Wk.drewN B M w _⟩
  · rw [hp]
    have g' : (FloatKind.f64.format.order k 0 == some .gt || FloatKind.f64.format.order k 0 == some .eq) = true := g
    have l' : (FloatKind.f64.format.order k (intF (en.d.size : Nat)) == some .lt) = false := l
    clear g l hp
    go_enter Tryd.func47, Tryd.ntmps47
    go_wp2
    exact ⟨rfl, ⟨_, _, rfl, Or.inl rfl⟩, Wk.drewN B M w _⟩
  · rw [hp]
    have g' : (FloatKind.f64.format.order k 0 == some .gt || FloatKind.f64.format.order k 0 == some .eq) = true := g
    have l' : (FloatKind.f64.format.order k (intF (en.d.size : Nat)) == some .lt) = true := l
    have hT := trunc_any k hf
    have hw := whole_test k hf (by omega)
    have hcv2 : ∀ w : World, (convert 23 3 (.float .f64 k)).run Tryd.prog w = .ok (.int .i64 (qOf k : Nat)) w := fun w =>
      run_convert_float_int w 23 3 .f64 .i64 k (qOf k : Nat) (by kernel_rfl) Tryd.underlying3 (by rw [← hn]; exact toInt_is k hf (by omega))
    clear g l hp hf hn hd
    revert hT hw hcv2 hq
    generalize intW (negOf k) (qOf k) = t
    generalize qOf k = q
    intro hq hT hw hcv2
    have hw' : (FloatKind.f64.format.order k t == some .eq) = evenB k := hw
    have HT := Lib.hid hT
    clear hw hT
    cases he : evenB k
    · rw [he] at hw'
      clear he
      simp only [Bool.false_eq_true, if_false]
      go_enter Tryd.func47, Tryd.ntmps47
      go_wp2_with fail
      refine (HT.out _).mono ?_
      rintro e w1 ⟨rfl, rfl⟩
      go_wp2
      exact ⟨rfl, ⟨_, _, rfl, Or.inl rfl⟩, Wk.drewN B M _ _⟩
    · rw [he] at hw'
      clear he hix
      simp only [if_true]
      have hi : (q : Int) < (en.d.size : Int) := by omega
      have hv : ((en.d.data.toList.getD q 0).toNat) = (en.d[q]).toNat := by
        have : en.d.data.toList.getD q 0 = en.d[q] := by
          rw [List.getD_eq_getElem?_getD, List.getElem?_eq_getElem (by simpa using hq)]
          rfl
        rw [this]
      rw [hv]
      clear hv
      go_enter Tryd.func47, Tryd.ntmps47
      go_wp2_with fail
      refine (HT.out _).mono ?_
      rintro e w1 ⟨rfl, rfl⟩
      go_wp2
      go_ret
      exact ⟨rfl, rfl⟩
end Go.Proofs.YtidjnfjpdnjogaaDoor
