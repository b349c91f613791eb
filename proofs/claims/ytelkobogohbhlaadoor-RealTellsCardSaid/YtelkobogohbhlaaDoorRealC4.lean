/-
  Package real: the text of bits. Conditions: none.
-/
import Derived.Test.YtelkobogohbhlaaDoorRealC3
namespace Go.Proofs.YtelkobogohbhlaaDoor
open Go.RowKit Go.Lib

theorem runTrunc (w : World) : (callFunc 57 #[.float .f64 4602678819172646912]).run Tryd.prog w = .ok (.value (.float .f64 0)) w := by
  rw [run_callFunc_extern (e := Extern.MathFloor.toIntegral "math.archTrunc" .zero) Tryd.func57 (by kernel_rfl) (by kernel_rfl) (by kernel_rfl) (by kernel_rfl)]; rfl
theorem trunc_half (w : World) : Calls Tryd.prog 52 #[.float .f64 4602678819172646912] w fun en w' => en = .returned (.float .f64 0) ∧ w = w' := by
  have h := runTrunc
  go_enter Tryd.func52, Tryd.ntmps52
  go_wp2
  go_ret
  exact ⟨rfl, rfl⟩
theorem whole_half (w : World) : Calls Tryd.prog 43 #[.float .f64 4602678819172646912] w fun en w' => en = .returned (.bool false) ∧ w = w' := by
  go_enter Tryd.func43, Tryd.ntmps43
  go_wp2_with fail
  refine (trunc_half _).mono ?_
  rintro en w1 ⟨rfl, rfl⟩
  go_wp2
  go_ret
  exact ⟨rfl, rfl⟩

theorem sign_at : ∀ i : Fin 16, ((⟨#[48, 49, 50, 51, 52, 53, 54, 55, 56, 57, 97, 98, 99, 100, 101, 102]⟩ : ByteArray)[i.val]'i.isLt).toNat = (hexSign i.val).toNat := by decide +kernel
theorem sign_mask (b k : Nat) (hb : b < 18446744073709551616) : bits .and .u64 ((b : Int) / 2 ^ (4 * (15 - k))) 15 = ((b / 16 ^ (15 - k) % 16 : Nat) : Int) := by
  have h1 : (2 : Nat) ^ (4 * (15 - k)) = 16 ^ (15 - k) := by rw [Nat.pow_mul]
  have h2 : (b : Int) / 2 ^ (4 * (15 - k)) = ((b / 16 ^ (15 - k) : Nat) : Int) := by rw [← h1]; simp
  have h3 : b / 16 ^ (15 - k) ≤ b := Nat.div_le_self _ _
  rw [h2, show (15 : Int) = ((15 : Nat) : Int) from rfl, bits_and_u64_nat _ _ (by omega) (by decide)]
  rw [show (15 : Nat) = 2 ^ 4 - 1 from rfl, Nat.and_two_pow_sub_one_eq_mod]
theorem hexDig_next (b k : Nat) (h : k < 16) : (hexDig b).take (k + 1) = (hexDig b).take k ++ [hexSign (b / 16 ^ (15 - k) % 16)] := by
  have hk : k < (hexDig b).length := by rw [hexDig_length]; omega
  rw [List.take_succ_eq_append_getElem hk]
  simp [hexDig]

/-- The text of a number that is not written by its digits. -/
theorem text_hex (b : Nat) (hb : b < 18446744073709551616) (hf : oneW b = b) (hc : classB b = 2 ∨ classB b = 5) (w : World)
    (hw : ∀ w, Calls Tryd.prog 43 #[.float .f64 b] w fun en w' => en = .returned (.bool false) ∧ w = w') :
    Calls Tryd.prog 24 #[.float .f64 b] w fun en w' => en = .returned (.string ⟨(120 :: hexDig b).toArray⟩) ∧ Below w.heap.size w w' := by
  have HK := Lib.hid (class_any b hb)
  have HW := Lib.hid hw
  have k0 : (((classB b : Nat) : Int) == 0) = false := by rcases hc with h | h <;> rw [h] <;> rfl
  have k1 : (((classB b : Nat) : Int) == 1) = false := by rcases hc with h | h <;> rw [h] <;> rfl
  have k3 : (((classB b : Nat) : Int) == 3) = false := by rcases hc with h | h <;> rw [h] <;> rfl
  have k6 : (((classB b : Nat) : Int) == 6) = false := by rcases hc with h | h <;> rw [h] <;> rfl
  clear hc hw
  go_enter Tryd.func24, Tryd.ntmps24
  go_wp2_with fail
  refine (HK.out _).mono ?_
  rintro en w1 ⟨rfl, rfl⟩
  go_wp2_with fail
  refine (HW.out _).mono ?_
  rintro en w1 ⟨rfl, rfl⟩
  go_wp2_with fail
  refine (wb_any w.heap.size w.heap.size [] 120 _ (Lib.fresh_isBuilder 60 5 w) (by simp) (by simp)).mono ?_
  rintro en w2 ⟨rfl, hB, hbl⟩
  have hb0 : Below w.heap.size w w2 := ((Below.refl _ w).alloc (Nat.le_refl _) _).trans hbl
  clear hbl
  go_wp2_with fail
  go_loopg [4] 16 (fun g i wr => ∃ k : Nat, g = 16 - k ∧ k ≤ 16 ∧ i = .int .i64 (15 - (k : Int)) ∧ Lib.BuilderAt 60 5 w.heap.size w.heap.size (.pointer (some ⟨w.heap.size, 0, none⟩)) (Lib.byteCells (120 :: (hexDig b).take k)) wr ∧ Below w.heap.size w wr)
  case atStart => exact ⟨0, by omega, Nat.zero_le _, rfl, hB, hb0⟩
  case round =>
    obtain ⟨k, hg, hk, rfl, hB', hb'⟩ := hrel
    have HG := Lib.hid hg; clear hg
    by_cases hlt : k < 16
    · have hi : (0 : Int) ≤ 15 - (k : Int) := by omega
      have hm := sign_mask b k hb
      have hnx := Lib.hid (hexDig_next b k hlt)
      obtain ⟨d, hd⟩ : ∃ d : Nat, d = b / 16 ^ (15 - k) % 16 := ⟨_, rfl⟩
      have hd16 : d < 16 := by rw [hd]; exact Nat.mod_lt _ (by decide)
      rw [← hd] at hm hnx
      clear hd
      have hsg := Lib.hid (sign_at ⟨d, hd16⟩)
      have hlen : (Lib.byteCells (120 :: (hexDig b).take k)).length + 1 ≤ 140737488355328 := by
        rw [Lib.byteCells_length]; simp [hexDig_length]; omega
      have HL := Lib.hid hlen; clear hlen
      go_wp2_with fail
      refine (rbits_any b _).mono ?_
      rintro en w3 ⟨rfl, rfl⟩
      rw [hf]
      go_wp2_with fail
      refine (wb_any w.heap.size w.heap.size _ _ _ (Or.inr hB') HL.out hb'.size).mono ?_
      rintro en w4 ⟨rfl, hB4, hb4⟩
      go_wp2
      go_roundg (16 - (k + 1))
      case measure => rw [HG.out]; omega
      case rel =>
        refine ⟨k + 1, rfl, hlt, by congr 1; omega, ?_, hb'.trans hb4⟩
        rw [hnx.out, ← List.cons_append, Lib.byteCells_append]
        rw [show Lib.byteCells [hexSign d] = [Value.int .u8 ((hexSign d).toNat : Int)] from rfl, ← hsg.out]
        exact hB4
    · obtain rfl : k = 16 := by omega
      have ht : (hexDig b).take 16 = hexDig b := List.take_of_length_le (by rw [hexDig_length]; exact Nat.le_refl _)
      rw [ht] at hB'
      clear ht
      go_wp2_with fail
      refine (Tryd.Builder_String_any w.heap.size w.heap.size _ _ (Or.inr hB') hb'.size).mono ?_
      rintro en w4 ⟨rfl, hb4⟩
      go_wp2
      go_ret
      exact ⟨rfl, hb'.trans hb4⟩

theorem text_half (w : World) : Calls Tryd.prog 24 #[.float .f64 4602678819172646912] w fun en w' => en = .returned (.string ⟨#[120, 51, 102, 101, 48, 48, 48, 48, 48, 48, 48, 48, 48, 48, 48, 48, 48]⟩) ∧ Below w.heap.size w w' := by
  refine (text_hex 4602678819172646912 (by decide) (by decide +kernel) (Or.inr (by decide +kernel)) w whole_half).mono ?_
  rintro en w' ⟨rfl, hb⟩
  exact ⟨congrArg Ending.returned (congrArg Value.string (by decide +kernel)), hb⟩

theorem sum_one (b : Nat) (hb : nanW b = false) (a : Addr) (w : World) (hc : w.cell? a = some (.float .f64 b)) : Calls Tryd.prog 30 #[.slice (some a) 1 1] w fun en w' => en = .returned (.float .f64 b) ∧ Below w.heap.size w w' := by
  go_enter Tryd.func30, Tryd.ntmps30
  go_wp2_with fail
  go_loopg [3, 15] 1 (fun g o i wr => g = 1 ∧ o = .float .f64 b ∧ i = .int .i64 0 ∧ wr = w)
  case atStart => exact ⟨rfl, rfl, rfl, rfl⟩
  case round =>
    obtain ⟨_, rfl, rfl, rfl⟩ := hrel
    go_wp2_with fail
    refine (canon_any b _).mono ?_
    rintro en w4 ⟨rfl, rfl⟩
    go_wp2
    go_ret
    exact ⟨by rw [oneW_not hb]; rfl, Below.refl _ _⟩
end Go.Proofs.YtelkobogohbhlaaDoor
