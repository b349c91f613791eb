/-
  Package real: sums, the first one and the last one of a list. Conditions: none.
-/
import Derived.Test.YtidjnfjpdnjogaaDoorPrC3
import Derived.Test.YtidjnfjpdnjogaaDoorPrA
namespace Go.Proofs.YtidjnfjpdnjogaaDoor
open Go.RowKit Go.Lib

/-- Floats that lie in memory, one behind the other. -/
structure FlIn (w : World) (b off len : Nat) (L : Nat → Nat) : Prop where
  c : ∀ i, i < len → w.cell? ⟨b, off + i, none⟩ = some (.float .f64 (L i))
  bl : b < w.heap.size
theorem FlIn.block {w w' : World} {b off len : Nat} {L : Nat → Nat} (h : FlIn w b off len L) (hs : w.heap.size ≤ w'.heap.size) (hb : w'.heap[b]? = w.heap[b]?) : FlIn w' b off len L :=
  ⟨fun i hi => (World.cell?_of_block (w := w) hb).trans (h.c i hi), Nat.lt_of_lt_of_le h.bl hs⟩
theorem FlIn.below {W w : World} {b off len : Nat} {L : Nat → Nat} (h : FlIn W b off len L) (hb : Below W.heap.size W w) : FlIn w b off len L := h.block hb.size (hb.block _ h.bl)

theorem leastC_lt {L : Nat → Nat} {n : Nat} (h : ∀ i, i < n → L i < 18446744073709551616) : ∀ k, k ≤ n → leastC L k < 18446744073709551616
  | 0, _ => by unfold leastC; decide
  | k + 1, hk => by
    unfold leastC
    split
    · exact h k (by omega)
    · exact leastC_lt h k (by omega)
theorem mostC_lt {L : Nat → Nat} {n : Nat} (h : ∀ i, i < n → L i < 18446744073709551616) : ∀ k, k < n → mostC L k < 18446744073709551616
  | 0, hk => h 0 hk
  | k + 1, hk => by
    unfold mostC
    split
    · exact h (k + 1) hk
    · exact mostC_lt h k (by omega)

set_option maxRecDepth 100000 in
theorem least_any (b off len cap : Nat) (hm : len ≤ maxLen) (L : Nat → Nat) (hL : ∀ i, i < len → L i < 18446744073709551616) (w : World) (hF : FlIn w b off len L) :
    Calls Tryd.prog 64 #[.slice (some ⟨b, off, none⟩) len cap] w fun en w' => en = .returned (.float .f64 (leastC L len)) ∧ w = w' := by
  have HF := Lib.hid hF
  have h63 : (len : Int) < 9223372036854775808 := by unfold maxLen at hm; omega
  have HL := Lib.hid (leastC_lt hL)
  have HM := Lib.hid hL
  clear hF hm hL
  go_enter Tryd.func64, Tryd.ntmps64
  go_wp2_with fail
  refine (rof_any _ _).mono ?_
  rintro en w4 ⟨h, rfl⟩
  rw [show oneW 9221120237041090560 = 9221120237041090560 by decide +kernel] at h
  subst h
  go_wp2_with fail
  go_loopg [3, 9] len (fun g o i wr => ∃ k : Nat, g = len - k ∧ k ≤ len ∧ o = .float .f64 (leastC L k) ∧ i = .int .i64 k ∧ wr = w)
  case atStart => exact ⟨0, by omega, by omega, rfl, rfl, rfl⟩
  case round =>
    obtain ⟨k, hg, hk, rfl, rfl, rfl⟩ := hrel
    have HG := Lib.hid hg; clear hg
    by_cases hlt : k < len
    · have c1 := HF.out.c k hlt
      have hl : (k : Int) < (len : Int) := by omega
      have hw1 : IntKind.i64.wrap ((k : Int) + 1) = (k : Int) + 1 := IntWalk.i64_in _ (by omega)
      have H1 := Lib.hid (less_any (L k) (leastC L k) (HM.out k hlt) (HL.out k hk))
      have hs : leastC L (k + 1) = if lessB (L k) (leastC L k) then L k else leastC L k := rfl
      revert H1 hs
      generalize lessB (L k) (leastC L k) = x
      intro H1 hs
      have HS := Lib.hid hs; clear hs
      cases x
      all_goals
        go_wp2_with fail
        refine (H1.out _).mono ?_
        rintro en w4 ⟨rfl, rfl⟩
        go_wp2
        go_roundg (len - (k + 1))
        case measure => rw [HG.out]; omega
        case rel => exact ⟨k + 1, rfl, by omega, by rw [HS.out]; rfl, rfl, rfl⟩
    · obtain rfl : k = len := by omega
      go_wp2
      go_ret
      exact ⟨rfl, rfl⟩

set_option maxRecDepth 100000 in
theorem most_any (b off len cap : Nat) (h0 : 0 < len) (hm : len ≤ maxLen) (L : Nat → Nat) (hL : ∀ i, i < len → L i < 18446744073709551616) (w : World) (hF : FlIn w b off len L) :
    Calls Tryd.prog 65 #[.slice (some ⟨b, off, none⟩) len cap] w fun en w' => en = .returned (.float .f64 (oneW (mostC L (len - 1)))) ∧ w = w' := by
  have HF := Lib.hid hF
  have h63 : (len : Int) < 9223372036854775808 := by unfold maxLen at hm; omega
  have HL := Lib.hid (mostC_lt hL)
  have HM := Lib.hid hL
  have c0 := hF.c 0 h0
  rw [Nat.add_zero] at c0
  have k0 : ((len : Int) == 0) = false := beq_eq_false_iff_ne.2 (by omega)
  have hp : (0 : Int) < (len : Int) := by omega
  clear hF hm hL
  go_enter Tryd.func65, Tryd.ntmps65
  go_wp2_with fail
  go_loopg [3, 15] len (fun g o i wr => ∃ k : Nat, g = len - k ∧ k ≤ len ∧ o = .float .f64 (mostC L (k - 1)) ∧ i = .int .i64 k ∧ wr = w)
  case atStart => exact ⟨0, by omega, by omega, rfl, rfl, rfl⟩
  case round =>
    obtain ⟨k, hg, hk, rfl, rfl, rfl⟩ := hrel
    have HG := Lib.hid hg; clear hg
    by_cases hlt : k < len
    · have c1 := HF.out.c k hlt
      have hl : (k : Int) < (len : Int) := by omega
      have hw1 : IntKind.i64.wrap ((k : Int) + 1) = (k : Int) + 1 := IntWalk.i64_in _ (by omega)
      have H1 := Lib.hid (less_any (mostC L (k - 1)) (L k) (HL.out (k - 1) (by omega)) (HM.out k hlt))
      have hs : mostC L (k + 1 - 1) = if lessB (mostC L (k - 1)) (L k) then L k else mostC L (k - 1) := by
        cases k with
        | zero => show L 0 = if lessB (L 0) (L 0) then L 0 else L 0; simp
        | succ k => rfl
      revert H1 hs
      generalize lessB (mostC L (k - 1)) (L k) = x
      intro H1 hs
      have HS := Lib.hid hs; clear hs
      cases x
      all_goals
        go_wp2_with fail
        refine (H1.out _).mono ?_
        rintro en w4 ⟨rfl, rfl⟩
        go_wp2
        go_roundg (len - (k + 1))
        case measure => rw [HG.out]; omega
        case rel => exact ⟨k + 1, rfl, by omega, by rw [HS.out]; rfl, rfl, rfl⟩
    · obtain rfl : k = len := by omega
      go_wp2_with fail
      refine (canon_any _ _).mono ?_
      rintro en w4 ⟨rfl, rfl⟩
      go_wp2
      go_ret
      exact ⟨rfl, rfl⟩
end Go.Proofs.YtidjnfjpdnjogaaDoor
