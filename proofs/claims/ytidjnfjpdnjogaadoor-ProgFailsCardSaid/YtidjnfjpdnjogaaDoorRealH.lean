/-
  Sixteen signs: a number's bits written and read back. No program. Conditions: none.
-/
import Derived.Test.YtidjnfjpdnjogaaDoorRealQ
import Derived.Test.YtidjnfjpdnjogaaDoorNumP
import Derived.Lib.Bytealg
import Derived.WalkKit
import Derived.Laws.Bits64b
namespace Go.Proofs.YtidjnfjpdnjogaaDoor
open Go.RowKit Go.Lib

def hexSigns : List UInt8 := [48, 49, 50, 51, 52, 53, 54, 55, 56, 57, 97, 98, 99, 100, 101, 102]
def hexAt (c : UInt8) : Int := indexByte hexSigns c
def hexVal (c : UInt8) : Nat := (hexAt c).toNat
def hexSign (k : Nat) : UInt8 := hexSigns.getD k 0
def hexOk (c : UInt8) : Bool := decide (0 ≤ hexAt c)
def hexFold (l : List UInt8) : Nat := l.foldl (fun n c => 16 * n + hexVal c) 0
def hexDig (b : Nat) : List UInt8 := (List.range 16).map fun j => hexSign (b / 16 ^ (15 - j) % 16)

theorem all_u8 {p : UInt8 → Prop} [DecidablePred p] (h : ∀ i : Fin 256, p (UInt8.ofNat i.val)) (c : UInt8) : p c := by
  have := h ⟨c.toNat, c.toNat_lt⟩
  simpa using this

theorem hexAt_lt (c : UInt8) : hexAt c < 16 := by
  revert c; exact all_u8 (p := fun c => hexAt c < 16) (by decide +kernel)
theorem hexVal_lt (c : UInt8) : hexVal c < 16 := by
  have := hexAt_lt c
  unfold hexVal; omega
theorem hexAt_sign (k : Nat) (h : k < 16) : hexAt (hexSign k) = k := by
  have : ∀ i : Fin 16, hexAt (hexSign i.val) = (i.val : Int) := by decide +kernel
  exact this ⟨k, h⟩
theorem hexVal_sign (k : Nat) (h : k < 16) : hexVal (hexSign k) = k := by rw [hexVal, hexAt_sign k h]; rfl
theorem hexOk_sign (k : Nat) (h : k < 16) : hexOk (hexSign k) = true := by rw [hexOk, hexAt_sign k h]; simp

theorem hexFold_snoc (l : List UInt8) (c : UInt8) : hexFold (l ++ [c]) = 16 * hexFold l + hexVal c := by simp [hexFold]

theorem hexFold_lt (l : List UInt8) : hexFold l < 16 ^ l.length := by
  have h : ∀ (l : List UInt8) (a : Nat), l.foldl (fun n c => 16 * n + hexVal c) a < (a + 1) * 16 ^ l.length := by
    intro l
    induction l with
    | nil => intro a; simp
    | cons c l ih =>
      intro a
      have hc := hexVal_lt c
      have h1 := ih (16 * a + hexVal c)
      simp only [List.foldl_cons, List.length_cons, Nat.pow_succ]
      refine Nat.lt_of_lt_of_le h1 ?_
      calc (16 * a + hexVal c + 1) * 16 ^ l.length ≤ (16 * (a + 1)) * 16 ^ l.length := Nat.mul_le_mul_right _ (by omega)
        _ = (a + 1) * (16 ^ l.length * 16) := by rw [Nat.mul_comm 16 (a + 1), Nat.mul_assoc, Nat.mul_comm 16]
  have := h l 0
  simpa [hexFold] using this

theorem hexDig_length (b : Nat) : (hexDig b).length = 16 := by simp [hexDig]
theorem hexDig_ok (b : Nat) : (hexDig b).all hexOk = true := by
  rw [List.all_eq_true]
  intro c hc
  simp only [hexDig, List.mem_map] at hc
  obtain ⟨j, _, rfl⟩ := hc
  exact hexOk_sign _ (Nat.mod_lt _ (by decide))
theorem hexDig_take (b k : Nat) (h : k ≤ 16) (hb : b < 18446744073709551616) : hexFold ((hexDig b).take k) = b / 16 ^ (16 - k) := by
  induction k with
  | zero =>
    rw [show (16 : Nat) ^ (16 - 0) = 18446744073709551616 from by decide, Nat.div_eq_of_lt hb]; rfl
  | succ k ih =>
    have hk : k < (hexDig b).length := by rw [hexDig_length]; omega
    rw [List.take_succ_eq_append_getElem hk, hexFold_snoc, ih (by omega)]
    have he : (hexDig b)[k] = hexSign (b / 16 ^ (15 - k) % 16) := by simp [hexDig]
    rw [he, hexVal_sign _ (Nat.mod_lt _ (by decide))]
    have h1 : 16 - k = (15 - k) + 1 := by omega
    have h2 : 16 - (k + 1) = 15 - k := by omega
    rw [h1, h2, Nat.pow_succ, ← Nat.div_div_eq_div_mul]
    exact Nat.div_add_mod _ 16
theorem hexDig_back (b : Nat) (hb : b < 18446744073709551616) : hexFold (hexDig b) = b := by
  have := hexDig_take b 16 (Nat.le_refl _) hb
  rw [List.take_of_length_le (by rw [hexDig_length]; exact Nat.le_refl _)] at this
  simpa using this

/-- what hex tells: the bits, and the error's number -/
def hexTell (l : List UInt8) : Nat × Int := if l.all hexOk && l.length == 16 then (oneW (hexFold l), 0) else (0, 6)

theorem hexTell_dig (b : Nat) (hb : b < 18446744073709551616) : hexTell (hexDig b) = (oneW b, 0) := by
  unfold hexTell
  rw [hexDig_ok, hexDig_length, hexDig_back b hb]; rfl

/-- v<<4 | k -/
theorem or_sign (a b : Nat) (hb : b < 16) : bits .or .u64 (IntKind.u64.wrap ((a : Int) * 16)) (IntKind.u64.wrap (b : Int)) = (((a * 16 + b) % 18446744073709551616 : Nat) : Int) := by
  have e1 : IntKind.u64.wrap ((a : Int) * 16) = ((a * 16 % 18446744073709551616 : Nat) : Int) := by rw [IntKind.wrap_u64]; omega
  have e2 : IntKind.u64.wrap (b : Int) = ((b : Nat) : Int) := by rw [IntKind.wrap_u64]; omega
  have e3 : a * 16 % 18446744073709551616 = 2 ^ 4 * (a % 1152921504606846976) := by omega
  rw [e1, e2, bits_or_u64_nat _ _ (by omega) (by omega), e3, ← Nat.two_pow_add_eq_or_of_lt (by omega)]
  congr 1; omega
end Go.Proofs.YtidjnfjpdnjogaaDoor
