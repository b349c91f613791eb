/-
  Floats by their bits: the one NaN; what codec.Out and codec.In do with them; what the document's own answer says of them. Conditions: none.
-/
import Derived.Test.YtganeocegdkddaaDoorH
import Derived.WalkLawsBesides
namespace Go.Proofs.YtganeocegdkddaaDoor
open Go.RowKit Go.Lib

/-- Is it no number? -/
def nanB (b : Nat) : Bool := FloatKind.f64.format.order b b != some .eq
/-- The one NaN for all of them. -/
def canonB (b : Nat) : Nat := if nanB b then 9221120237041090560 else b
theorem canonB_nan {b : Nat} (h : nanB b = true) : canonB b = 9221120237041090560 := if_pos h
theorem canonB_not {b : Nat} (h : nanB b = false) : canonB b = b := if_neg (by rw [h]; decide)
theorem canonB_lt {b : Nat} (h : b < 18446744073709551616) : canonB b < 18446744073709551616 := by
  unfold canonB; split <;> omega
theorem nan_one : nanB 9221120237041090560 = true := by decide +kernel
theorem canonB_twice (b : Nat) : canonB (canonB b) = canonB b := by
  cases h : nanB b
  · rw [canonB_not h, canonB_not h]
  · rw [canonB_nan h, canonB_nan nan_one]

theorem run56 (b : Nat) (w : World) : (callFunc 56 #[.float .f64 b]).run Tryd.prog w = .ok (.value (.int .u64 b)) w := by
  rw [run_callFunc_extern (e := Extern.MathFloatBits.float64bits) Tryd.func56 (by kernel_rfl) (by kernel_rfl) (by kernel_rfl) (by kernel_rfl)]; rfl
theorem run57 (n : Int) (w : World) : (callFunc 57 #[.int .u64 n]).run Tryd.prog w = .ok (.value (.float .f64 n.toNat)) w := by
  rw [run_callFunc_extern (e := Extern.MathFloatBits.float64frombits) Tryd.func57 (by kernel_rfl) (by kernel_rfl) (by kernel_rfl) (by kernel_rfl)]; rfl

theorem bits_any (b : Nat) (w : World) : Calls Tryd.prog 58 #[.float .f64 b] w fun en w' => en = .returned (.int .u64 (canonB b : Nat)) ∧ w = w' := by
  have h56 := run56
  cases h : nanB b
  · rw [canonB_not h]
    have hn : (FloatKind.f64.format.order b b != some .eq) = false := h
    clear h
    go_enter Tryd.func58, Tryd.ntmps58
    go_wp2
    go_ret
    exact ⟨rfl, rfl⟩
  · rw [canonB_nan h]
    have hn : (FloatKind.f64.format.order b b != some .eq) = true := h
    clear h
    go_enter Tryd.func58, Tryd.ntmps58
    go_wp2
    go_ret
    exact ⟨rfl, rfl⟩

theorem of_any (n : Nat) (w : World) : Calls Tryd.prog 60 #[.int .u64 n] w fun en w' => en = .returned (.float .f64 (canonB n)) ∧ w = w' := by
  have h57 := run57
  cases h : nanB n
  · rw [canonB_not h]
    have hn : (FloatKind.f64.format.order n n != some .eq) = false := h
    clear h
    go_enter Tryd.func60, Tryd.ntmps60
    go_wp2
    go_ret
    exact ⟨rfl, rfl⟩
  · rw [canonB_nan h]
    have hn : (FloatKind.f64.format.order n n != some .eq) = true := h
    clear h
    go_enter Tryd.func60, Tryd.ntmps60
    go_wp2
    go_ret
    exact ⟨rfl, rfl⟩

theorem float_any (n : Nat) (w : World) : Calls Tryd.prog 30 #[.int .u64 n] w fun en w' => en = .returned (.float .f64 n) ∧ w = w' := by
  have h57 := run57
  go_enter Tryd.func30, Tryd.ntmps30
  go_wp2
  go_ret
  exact ⟨rfl, rfl⟩

def sameB (a b : Nat) : Bool := canonB a == canonB b
theorem same_any (a b : Nat) (w : World) : Calls Tryd.prog 39 #[.float .f64 a, .float .f64 b] w fun en w' => en = .returned (.bool (sameB a b)) ∧ w = w' := by
  have hs : (((canonB a : Nat) : Int) == ((canonB b : Nat) : Int)) = sameB a b := by
    unfold sameB; rw [Bool.eq_iff_iff]; simp; omega
  have HS := Lib.hid hs; clear hs
  go_enter Tryd.func39, Tryd.ntmps39
  go_wp2_with fail
  refine (bits_any a _).mono ?_
  rintro en w1 ⟨rfl, rfl⟩
  go_wp2_with fail
  refine (bits_any b _).mono ?_
  rintro en w1 ⟨rfl, rfl⟩
  go_wp2
  go_ret
  exact ⟨by rw [← HS.out]; simp, rfl⟩

section
variable (B O : Nat) (v : Value) (s : ByteArray) (e : Int) (w : World) (hO : OutAt B O v s e w) (hs : s.size ≤ 900000)
include hO hs
theorem outI64 (x : Int) : Calls Tryd.prog 28 #[.pointer (some ⟨O, 0, none⟩), .int .i64 x] w (Put B O v (put64 s e (IntKind.u64.wrap x)).1 (put64 s e (IntKind.u64.wrap x)).2 w) := by
  have h0 : 0 ≤ IntKind.u64.wrap x := by rw [IntKind.wrap_u64]; omega
  have h := Lib.hid (outU64 B O v s e w hO hs (IntKind.u64.wrap x) h0)
  clear h0
  go_enter Tryd.func28, Tryd.ntmps28
  go_wp2_with fail
  refine h.out.mono ?_
  rintro en w' ⟨rfl, hv⟩
  go_wp2
  go_ret
  exact ⟨rfl, hv⟩
theorem outF64 (b : Nat) : Calls Tryd.prog 29 #[.pointer (some ⟨O, 0, none⟩), .float .f64 b] w (Put B O v (put64 s e (canonB b : Nat)).1 (put64 s e (canonB b : Nat)).2 w) := by
  have h56 := run56
  have h := Lib.hid (outU64 B O v s e w hO hs (canonB b : Nat) (by omega))
  cases hb : nanB b
  · rw [canonB_not hb] at h ⊢
    have hn : (FloatKind.f64.format.order b b != some .eq) = false := hb
    clear hb
    go_enter Tryd.func29, Tryd.ntmps29
    go_wp2_with fail
    refine h.out.mono ?_
    rintro en w' ⟨rfl, hv⟩
    go_wp2
    go_ret
    exact ⟨rfl, hv⟩
  · rw [canonB_nan hb] at h ⊢
    have hn : (FloatKind.f64.format.order b b != some .eq) = true := hb
    clear hb
    go_enter Tryd.func29, Tryd.ntmps29
    go_wp2_with fail
    refine h.out.mono ?_
    rintro en w' ⟨rfl, hv⟩
    go_wp2
    go_ret
    exact ⟨rfl, hv⟩
end

section
variable (I : Nat) (s : ByteArray) (e : Int) (w : World) (hI : InAt I s e w)
include hI
theorem inI64 : Calls Tryd.prog 38 #[.pointer (some ⟨I, 0, none⟩)] w (Gave I (.int .i64 (wrap64 (numOf s e 8))) (takeOf s e 8).2.1 (takeOf s e 8).2.2 w) := by
  have H := Lib.hid (inU64 I s e w hI)
  go_enter Tryd.func38, Tryd.ntmps38
  go_wp2_with fail
  refine H.out.mono ?_
  rintro en w1 ⟨rfl, h1, h2⟩
  go_wp2
  go_ret
  exact ⟨rfl, h1, h2⟩
theorem inF64 : Calls Tryd.prog 40 #[.pointer (some ⟨I, 0, none⟩)] w (Gave I (.float .f64 (canonB (numOf s e 8))) (takeOf s e 8).2.1 (takeOf s e 8).2.2 w) := by
  have h57 := run57
  have H := Lib.hid (inU64 I s e w hI)
  revert H
  generalize numOf s e 8 = n
  intro H
  cases hb : nanB n
  · rw [canonB_not hb]
    have hn : (FloatKind.f64.format.order n n != some .eq) = false := hb
    clear hb
    go_enter Tryd.func40, Tryd.ntmps40
    go_wp2_with fail
    refine H.out.mono ?_
    rintro en w1 ⟨rfl, h1, h2⟩
    go_wp2
    go_ret
    exact ⟨rfl, h1, h2⟩
  · rw [canonB_nan hb]
    have hn : (FloatKind.f64.format.order n n != some .eq) = true := hb
    clear hb
    go_enter Tryd.func40, Tryd.ntmps40
    go_wp2_with fail
    refine H.out.mono ?_
    rintro en w1 ⟨rfl, h1, h2⟩
    go_wp2
    go_ret
    exact ⟨rfl, h1, h2⟩
end
end Go.Proofs.YtganeocegdkddaaDoor
