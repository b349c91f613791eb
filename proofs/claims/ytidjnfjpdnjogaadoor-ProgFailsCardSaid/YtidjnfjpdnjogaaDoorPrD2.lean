/-
  The document's text of a number that is not written by digits; its text of every number. Conditions: none.
-/
import Derived.Test.YtidjnfjpdnjogaaDoorPrD1
namespace Go.Proofs.YtidjnfjpdnjogaaDoor
open Go.RowKit Go.Lib

theorem dsign_mask (b k : Nat) (hb : b < 18446744073709551616) (hk : k < 16) : bits .and .u64 ((b : Int) / 2 ^ (60 - 4 * k)) 15 = ((b / 16 ^ (15 - k) % 16 : Nat) : Int) := by
  have := sign_mask b k hb
  rw [show 4 * (15 - k) = 60 - 4 * k by omega] at this
  exact this

theorem sign_slice (d : Nat) (hd : d < 16) (w : World) :
    (Instr.slice 9 (.string ⟨#[48, 49, 50, 51, 52, 53, 54, 55, 56, 57, 97, 98, 99, 100, 101, 102]⟩) (some (.int .i64 d)) (some (.int .i64 ((d : Int) + 1))) none).run Tryd.prog w = .ok (.string ⟨#[hexSign d]⟩) w := by
  have ht : Tryd.prog.underlying 9 = some .string := by kernel_rfl
  rw [run_slice_string w 9 _ .i64 .i64 _ _ ht (by omega) (by omega) (by show (d : Int) + 1 ≤ ((16 : Nat) : Int); omega)]
  have key : ∀ i : Fin 16, ((⟨#[48, 49, 50, 51, 52, 53, 54, 55, 56, 57, 97, 98, 99, 100, 101, 102]⟩ : ByteArray).extract i.val (i.val + 1)).data.toList = [hexSign i.val] := by decide +kernel
  have e := of_list (key ⟨d, hd⟩)
  rw [show ((d : Int)).toNat = d by omega, show ((d : Int) + 1).toNat = d + 1 by omega]
  exact congrArg (fun x => Result.ok (Value.string x) w) e

theorem dtext_hex (b : Nat) (hb : b < 18446744073709551616) (hf : oneW b = b) (hc : classB b = 2 ∨ classB b = 5) (hw : wholeB b = false) (w : World) :
    Calls Tryd.prog 9 #[.float .f64 b] w fun en w' => en = .returned (.string ⟨(120 :: hexDig b).toArray⟩) ∧ w = w' := by
  have HK := Lib.hid (dclass_any b hb)
  have HB := Lib.hid (dbits_any b)
  rw [hf] at HB
  have hfin := class_fin (show classB b = 2 ∨ classB b = 4 ∨ classB b = 5 by omega)
  have k0 : (((classB b : Nat) : Int) == 0) = false := by rcases hc with h | h <;> rw [h] <;> rfl
  have k1 : (((classB b : Nat) : Int) == 1) = false := by rcases hc with h | h <;> rw [h] <;> rfl
  have k3 : (((classB b : Nat) : Int) == 3) = false := by rcases hc with h | h <;> rw [h] <;> rfl
  have k4 : (((classB b : Nat) : Int) == 4) = false := by rcases hc with h | h <;> rw [h] <;> rfl
  have k6 : (((classB b : Nat) : Int) == 6) = false := by rcases hc with h | h <;> rw [h] <;> rfl
  have g : (FloatKind.f64.format.order b 14054727237768577016 == some .gt || FloatKind.f64.format.order b 14054727237768577016 == some .eq) = false ∨
      ((FloatKind.f64.format.order b 14054727237768577016 == some .gt || FloatKind.f64.format.order b 14054727237768577016 == some .eq) = true ∧ (FloatKind.f64.format.order b 4831355200913801208 == some .lt || FloatKind.f64.format.order b 4831355200913801208 == some .eq) = false) ∨
      ((FloatKind.f64.format.order b 14054727237768577016 == some .gt || FloatKind.f64.format.order b 14054727237768577016 == some .eq) = true ∧ (FloatKind.f64.format.order b 4831355200913801208 == some .lt || FloatKind.f64.format.order b 4831355200913801208 == some .eq) = true ∧
        ∃ n x, (∀ w : World, (convert 23 3 (.float .f64 b)).run Tryd.prog w = .ok (.int .i64 n) w) ∧ (∀ w : World, (convert 3 23 (.int .i64 n)).run Tryd.prog w = .ok (.float .f64 x) w) ∧ (FloatKind.f64.format.order x b == some .eq) = false) := by
    rcases whole_cases b hfin with ⟨h1, _⟩ | ⟨h1, h2, _⟩ | ⟨h1, h2, h3, h4⟩
    · exact Or.inl h1
    · exact Or.inr (Or.inl ⟨h1, h2⟩)
    · refine Or.inr (Or.inr ⟨h1, h2, nOf b, intF (nOf b), run_conv_int b hfin h3, fun w => run_convert_int_float w 3 23 .i64 .f64 _ (by kernel_rfl) Tryd.underlying23, ?_⟩)
      exact (dwhole_test b hfin h3).trans (h4.symm.trans hw)
  clear hf hc hw hfin
  rcases g with g1 | ⟨g1, g2⟩ | ⟨g1, g2, n, x, g3, g4, g5⟩
  all_goals
    go_enter Tryd.func9, Tryd.ntmps9
    go_wp2_with fail
    refine (HK.out _).mono ?_
    rintro en w1 ⟨rfl, rfl⟩
    go_wp2_with fail
    refine (HB.out _).mono ?_
    rintro en w1 ⟨rfl, rfl⟩
    go_wp2_with fail
    go_loopg [4, 5] 16 (fun g s i wr => ∃ k : Nat, g = 16 - k ∧ k ≤ 16 ∧ i = .int .i64 (60 - 4 * (k : Int)) ∧ s = .string ⟨(120 :: (hexDig b).take k).toArray⟩ ∧ wr = w)
    case atStart => exact ⟨0, by omega, Nat.zero_le _, rfl, rfl, rfl⟩
    case round =>
      obtain ⟨k, hg, hk, rfl, rfl, rfl⟩ := hrel
      have HG := Lib.hid hg; clear hg
      by_cases hlt : k < 16
      · have hi : (0 : Int) ≤ 60 - 4 * (k : Int) := by omega
        have hm := dsign_mask b k hb hlt
        have hnx := Lib.hid (hexDig_next b k hlt)
        obtain ⟨d, hd⟩ : ∃ d : Nat, d = b / 16 ^ (15 - k) % 16 := ⟨_, rfl⟩
        have hd16 : d < 16 := by rw [hd]; exact Nat.mod_lt _ (by decide)
        rw [← hd] at hm hnx
        clear hd
        have hsl := sign_slice d hd16
        have hw1 : IntKind.i64.wrap ((d : Int) + 1) = (d : Int) + 1 := IntWalk.i64_in _ (by omega)
        have hw2 : IntKind.i64.wrap (60 - 4 * (k : Int) - 4) = 60 - 4 * (k : Int) - 4 := IntWalk.i64_in _ (by omega)
        have hw3 : IntKind.i64.wrap (d : Int) = (d : Int) := IntWalk.i64_in _ (by omega)
        go_wp2_with fail
        go_roundg (16 - (k + 1))
        case measure => rw [HG.out]; omega
        case rel =>
          refine ⟨k + 1, rfl, hlt, by congr 1; omega, ?_, rfl⟩
          rw [hnx.out]
          first
            | (congr 1; done)
            | (congr 1; apply ByteArray.ext; simp [ByteArray.data_append])
      · obtain rfl : k = 16 := by omega
        have ht : (hexDig b).take 16 = hexDig b := List.take_of_length_le (by rw [hexDig_length]; exact Nat.le_refl _)
        rw [ht]
        clear ht
        go_wp2
        go_ret
        exact ⟨rfl, rfl⟩

theorem dtext_any (b : Nat) (hb : b < 18446744073709551616) (w : World) :
    Calls Tryd.prog 9 #[.float .f64 b] w fun en w' => en = .returned (.string ⟨(textB b).toArray⟩) ∧ Below w.heap.size w w' := by
  have low : ∀ (c : Nat) (l : ByteArray), classB b = c → ((c = 0 ∧ l = ⟨#[110, 97, 110]⟩) ∨ (c = 1 ∧ l = ⟨#[45, 105, 110, 102]⟩) ∨ (c = 6 ∧ l = ⟨#[105, 110, 102]⟩) ∨ (c = 3 ∧ l = ⟨#[45, 48]⟩) ∨ (c = 4 ∧ l = ⟨#[48]⟩)) → l = ⟨(textB b).toArray⟩ →
      Calls Tryd.prog 9 #[.float .f64 b] w fun en w' => en = .returned (.string ⟨(textB b).toArray⟩) ∧ Below w.heap.size w w' := fun c l hc hl he => by
    refine (dtext_c b hb c l hc hl w).mono ?_
    rintro en w' ⟨rfl, rfl⟩
    exact ⟨by rw [he], Below.refl _ _⟩
  rcases class_vals b with h | h | h | h | h
  · exact low 0 _ h (Or.inl ⟨rfl, rfl⟩) (by rw [textB, if_pos h])
  · exact low 1 _ h (Or.inr (Or.inl ⟨rfl, rfl⟩)) (by rw [textB, if_neg (by omega), if_pos h])
  · exact low 6 _ h (Or.inr (Or.inr (Or.inl ⟨rfl, rfl⟩))) (by rw [textB, if_neg (by omega), if_neg (by omega), if_pos h])
  · exact low 3 _ h (Or.inr (Or.inr (Or.inr (Or.inl ⟨rfl, rfl⟩)))) (by rw [textB, if_neg (by omega), if_neg (by omega), if_neg (by omega), if_pos h])
  · have e1 : textB b = if wholeB b then itoa (nOf b) else 120 :: hexDig b := by
      rw [textB, if_neg (by omega), if_neg (by omega), if_neg (by omega), if_neg (by omega)]
    by_cases h4 : classB b = 4
    · have : nOf b = 0 := by
        obtain ⟨_, r0, s0⟩ := whole_zero h4
        unfold nOf qOf
        rw [r0, s0]
        show ((magM 0 / UU : Nat) : Int) = 0
        rw [show magM 0 = 0 from rfl, Nat.zero_div]; rfl
      refine low 4 _ h4 (Or.inr (Or.inr (Or.inr (Or.inr ⟨rfl, rfl⟩)))) ?_
      rw [e1, (whole_zero h4).1, this, if_pos rfl]
      decide +kernel
    · have h2 : classB b = 2 ∨ classB b = 5 := by omega
      rw [e1]
      cases hw : wholeB b
      · have hfin := class_fin h
        refine (dtext_hex b hb (oneW_not (nanW_fine (by unfold fine; omega))) h2 hw w).mono ?_
        rintro en w' ⟨rfl, rfl⟩
        exact ⟨rfl, Below.refl _ _⟩
      · exact dtext_whole b hb h2 hw w
end Go.Proofs.YtidjnfjpdnjogaaDoor
