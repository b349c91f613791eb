/-
  codec.In: what each of its functions does. Conditions: none.
-/
import Derived.Test.YtganeocegdkddaaDoorD
import Derived.Lib.ConvBytes
import Derived.Laws.Bits64b
namespace Go.Proofs.YtganeocegdkddaaDoor
open Go.RowKit Go.Lib

/-- An In at block I: what is left, its error. -/
def InAt (I : Nat) (s : ByteArray) (e : Int) (w : World) : Prop := w.heap[I]? = some (.cells #[.string s, .int .i64 e] 61)

/-- Nothing that was there has turned but block I. -/
def Only (I : Nat) (w w' : World) : Prop := Turn I none w w'
theorem Only.refl (I : Nat) (w : World) : Only I w w := Turn.refl _ _ _
theorem Only.of_below {I : Nat} {w w' : World} (h : Below w.heap.size w w') : Only I w w' := Turn.of_below h
theorem Only.trans {I : Nat} {w w1 w2 : World} (h : Only I w w1) (h' : Only I w1 w2) : Only I w w2 := Turn.trans h h' (Hat.refl _ _)
theorem Only.below {I B : Nat} {w w' : World} (h : Only I w w') (hB : B ≤ I) (hw : B ≤ w.heap.size) : Below B w w' :=
  ⟨h.os, h.tape, h.output, h.size, fun k hk => h.block k (by omega) (by omega) (by simp)⟩
theorem InAt.below {I : Nat} {s : ByteArray} {e : Int} {w w' : World} (h : InAt I s e w) (hb : Below w.heap.size w w') : InAt I s e w' := (hb.block I (lt_of_block h)).trans h

/-- The first k bytes as one number, the highest first. -/
def lowUp (s : ByteArray) : Nat → Nat
  | 0 => 0
  | k + 1 => (lowUp s k * 256 + (s.data.toList.getD k 0).toNat) % 18446744073709551616
theorem lowUp_lt (s : ByteArray) : ∀ k, lowUp s k < 18446744073709551616
  | 0 => by simp [lowUp]
  | k + 1 => by rw [lowUp]; omega

theorem or_byte (a b : Nat) (hb : b < 256) : bits .or .u64 (IntKind.u64.wrap ((a : Int) * 256)) (IntKind.u64.wrap (b : Int)) = (((a * 256 + b) % 18446744073709551616 : Nat) : Int) := by
  have e1 : IntKind.u64.wrap ((a : Int) * 256) = ((2 ^ 8 * (a % 72057594037927936) : Nat) : Int) := by
    rw [IntKind.wrap_u64]; omega
  have e2 : IntKind.u64.wrap (b : Int) = (b : Int) := IntWalk.u64_in _ (by omega)
  rw [e1, e2, bits_or_u64_nat _ _ (by omega) (by omega), ← Nat.two_pow_add_eq_or_of_lt (by omega)]
  congr 1
  omega

theorem low_any (s : ByteArray) (hs : s.size ≤ 1000000) (w : World) : Calls Tryd.prog 50 #[.string s] w fun en w' => en = .returned (.int .u64 (lowUp s s.size)) ∧ Below w.heap.size w w' := by
  have hcv : (convert 9 24 (.string s)).run Tryd.prog w = .ok (.slice (some ⟨w.heap.size, 0, none⟩) s.size (grownCap w s.size 0 5)) (bytesWorld w 5 s) := Go.Lib.run_convert_string_bytes (P := Tryd.prog) w 9 24 5 s Tryd.underlying9 Tryd.underlying24 Tryd.underlying5
  go_enter Tryd.func50, Tryd.ntmps50
  go_wp2_with fail
  go_loopg [3, 9] s.size (fun g x i wr => ∃ k : Nat, g = s.size - k ∧ k ≤ s.size ∧ x = .int .u64 (lowUp s k) ∧ i = .int .i64 k ∧ wr = bytesWorld w 5 s)
  case atStart => exact ⟨0, by omega, Nat.zero_le _, rfl, rfl, rfl⟩
  case round =>
    obtain ⟨k, hg, hk, rfl, rfl, rfl⟩ := hrel
    have HG := Lib.hid hg; clear hg
    by_cases hlt : k < s.size
    · have hc := bytesWorld_cell w 5 s k hlt
      go_wp2_with fail
      go_roundg (s.size - (k + 1))
      case measure => rw [HG.out]; omega
      case rel => exact ⟨k + 1, rfl, hlt, by rw [or_byte _ _ (s.data[k].toNat_lt), lowUp, List.getD_eq_getElem?_getD]; simp [hlt], rfl, rfl⟩
    · obtain rfl : k = s.size := by omega
      go_wp2
      go_ret
      exact ⟨rfl, rfl, rfl, rfl, by rw [bytesWorld_size]; omega, fun j hj => bytesWorld_at_old w 5 s j hj⟩

section
variable (I : Nat) (s : ByteArray) (e : Int) (w : World) (hI : InAt I s e w)
include hI
theorem inFail_had (e' : Int) (he : (e == 0) = false) : Calls Tryd.prog 52 #[.pointer (some ⟨I, 0, none⟩), .int .i64 e'] w fun en w' => en = .returned (.tuple #[]) ∧ w' = w := by
  obtain ⟨c1, c2, c3, c4⟩ := cells_of_two hI
  have hz := lt_of_block hI
  go_enter Tryd.func52, Tryd.ntmps52
  go_wp2
  go_end0
  exact ⟨rfl, rfl⟩
theorem inFail_now (e' : Int) (he : e = 0) : Calls Tryd.prog 52 #[.pointer (some ⟨I, 0, none⟩), .int .i64 e'] w fun en w' => en = .returned (.tuple #[]) ∧ w' = w.setCell ⟨I, 1, none⟩ (.int .i64 e') := by
  obtain ⟨c1, c2, c3, c4⟩ := cells_of_two hI
  have hz := lt_of_block hI
  subst he
  go_enter Tryd.func52, Tryd.ntmps52
  go_wp2
  go_end0
  exact ⟨rfl, rfl⟩
end

/-- What is taken; what is left; the error. -/
def takeOf (s : ByteArray) (e : Int) (n : Nat) : ByteArray × ByteArray × Int :=
  if e ≠ 0 then (⟨#[]⟩, s, e) else if s.size < n then (⟨#[]⟩, s, 5) else (s.extract 0 n, s.extract n s.size, 0)

def Took (I : Nat) (t s' : ByteArray) (e' : Int) (w : World) (en : Ending) (w' : World) : Prop := en = .returned (.string t) ∧ InAt I s' e' w' ∧ Only I w w'

theorem take_any (I : Nat) (s : ByteArray) (e : Int) (w : World) (hI : InAt I s e w) (n : Nat) (N : Int) (hN : N = n) (hn : n ≤ 4294967295) :
    Calls Tryd.prog 51 #[.pointer (some ⟨I, 0, none⟩), .int .i64 N] w (Took I (takeOf s e n).1 (takeOf s e n).2.1 (takeOf s e n).2.2 w) := by
  obtain ⟨c1, c2, c3, c4⟩ := cells_of_two hI
  have hz := lt_of_block hI
  have HI := Lib.hid hI; clear hI
  subst hN
  by_cases he : e = 0
  · by_cases hl : s.size < n
    · have h1 : takeOf s e n = (⟨#[]⟩, s, 5) := by rw [takeOf, if_neg (by simpa using he), if_pos hl]
      rw [h1]
      subst he
      go_enter Tryd.func51, Tryd.ntmps51
      go_wp2_with fail
      refine (inFail_now I s 0 w HI.out 5 rfl).mono ?_
      rintro en w' ⟨rfl, rfl⟩
      go_wp2
      go_ret
      exact ⟨rfl, set_snd HI.out _, Turn.set _ _⟩
    · have h1 : takeOf s e n = (s.extract 0 n, s.extract n s.size, 0) := by rw [takeOf, if_neg (by simpa using he), if_neg hl]
      rw [h1]
      subst he
      go_enter Tryd.func51, Tryd.ntmps51
      go_wp2
      go_ret
      exact ⟨rfl, set_fst HI.out _, Turn.set _ _⟩
  · have h1 : takeOf s e n = (⟨#[]⟩, s, e) := by rw [takeOf, if_pos he]
    rw [h1]
    have he2 : (e == 0) = false := by simpa using he
    go_enter Tryd.func51, Tryd.ntmps51
    go_wp2
    go_ret
    exact ⟨rfl, HI.out, Only.refl _ _⟩
end Go.Proofs.YtganeocegdkddaaDoor
