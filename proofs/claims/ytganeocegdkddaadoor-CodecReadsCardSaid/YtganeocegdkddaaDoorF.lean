/-
  codec.In: numbers, texts, what is left. Conditions: none.
-/
import Derived.Test.YtganeocegdkddaaDoorE
import Derived.Test.YtganeocegdkddaaDoorShelf
namespace Go.Proofs.YtganeocegdkddaaDoor
open Go.RowKit Go.Lib

theorem lowUp_small (s : ByteArray) : ∀ k, lowUp s k < 256 ^ k
  | 0 => by simp [lowUp]
  | k + 1 => by
    have h := lowUp_small s k
    have hb : (s.data.toList.getD k 0).toNat < 256 := UInt8.toNat_lt _
    rw [lowUp]
    refine Nat.lt_of_le_of_lt (Nat.mod_le _ _) ?_
    rw [Nat.pow_succ]
    generalize 256 ^ k = p at h ⊢
    have : (lowUp s k + 1) * 256 ≤ p * 256 := Nat.mul_le_mul_right _ h
    omega

theorem take_size (s : ByteArray) (e : Int) (n : Nat) : (takeOf s e n).1.size ≤ n := by
  unfold takeOf
  split
  · simp [ByteArray.size]
  · split
    · simp [ByteArray.size]
    · simp only [ByteArray.size_extract]; omega

/-- The number that n bytes make. -/
def numOf (s : ByteArray) (e : Int) (n : Nat) : Nat := lowUp (takeOf s e n).1 (takeOf s e n).1.size
theorem numOf_lt (s : ByteArray) (e : Int) (n : Nat) : numOf s e n < 256 ^ n := Nat.lt_of_lt_of_le (lowUp_small _ _) (Nat.pow_le_pow_right (by decide) (take_size s e n))

def Gave (I : Nat) (r : Value) (s' : ByteArray) (e' : Int) (w : World) (en : Ending) (w' : World) : Prop := en = .returned r ∧ InAt I s' e' w' ∧ Only I w w'

section
variable (I : Nat) (s : ByteArray) (e : Int) (w : World) (hI : InAt I s e w)
include hI

theorem inU8 : Calls Tryd.prog 18 #[.pointer (some ⟨I, 0, none⟩)] w (Gave I (.int .i64 (numOf s e 1)) (takeOf s e 1).2.1 (takeOf s e 1).2.2 w) := by
  have H := Lib.hid (take_any I s e w hI 1 1 rfl (by decide))
  have hn := numOf_lt s e 1
  have hw : IntKind.i64.wrap (numOf s e 1 : Int) = (numOf s e 1 : Int) := IntWalk.i64_in _ (by omega)
  clear hn
  go_enter Tryd.func18, Tryd.ntmps18
  go_wp2_with fail
  refine H.out.mono ?_
  rintro en w1 ⟨rfl, h1, h2⟩
  go_wp2_with fail
  refine (low_any _ (Nat.le_trans (take_size s e 1) (by decide)) w1).mono ?_
  rintro en w2 ⟨rfl, hb⟩
  change IntKind.i64.wrap (lowUp (takeOf s e 1).1 (takeOf s e 1).1.size : Int) = _ at hw
  go_wp2
  go_ret
  exact ⟨rfl, h1.below hb, h2.trans (Only.of_below hb)⟩

theorem inU32 : Calls Tryd.prog 36 #[.pointer (some ⟨I, 0, none⟩)] w (Gave I (.int .i64 (numOf s e 4)) (takeOf s e 4).2.1 (takeOf s e 4).2.2 w) := by
  have H := Lib.hid (take_any I s e w hI 4 4 rfl (by decide))
  have hn := numOf_lt s e 4
  have hw : IntKind.i64.wrap (numOf s e 4 : Int) = (numOf s e 4 : Int) := IntWalk.i64_in _ (by omega)
  clear hn
  go_enter Tryd.func36, Tryd.ntmps36
  go_wp2_with fail
  refine H.out.mono ?_
  rintro en w1 ⟨rfl, h1, h2⟩
  go_wp2_with fail
  refine (low_any _ (Nat.le_trans (take_size s e 4) (by decide)) w1).mono ?_
  rintro en w2 ⟨rfl, hb⟩
  change IntKind.i64.wrap (lowUp (takeOf s e 4).1 (takeOf s e 4).1.size : Int) = _ at hw
  go_wp2
  go_ret
  exact ⟨rfl, h1.below hb, h2.trans (Only.of_below hb)⟩

theorem inU64 : Calls Tryd.prog 37 #[.pointer (some ⟨I, 0, none⟩)] w (Gave I (.int .u64 (numOf s e 8)) (takeOf s e 8).2.1 (takeOf s e 8).2.2 w) := by
  have H := Lib.hid (take_any I s e w hI 8 8 rfl (by decide))
  go_enter Tryd.func37, Tryd.ntmps37
  go_wp2_with fail
  refine H.out.mono ?_
  rintro en w1 ⟨rfl, h1, h2⟩
  go_wp2_with fail
  refine (low_any _ (Nat.le_trans (take_size s e 8) (by decide)) w1).mono ?_
  rintro en w2 ⟨rfl, hb⟩
  go_wp2
  go_ret
  exact ⟨rfl, h1.below hb, h2.trans (Only.of_below hb)⟩

theorem inErr : Calls Tryd.prog 21 #[.pointer (some ⟨I, 0, none⟩)] w fun en w' => en = .returned (.int .i64 e) ∧ w' = w := by
  obtain ⟨c1, c2, c3, c4⟩ := cells_of_two hI
  have hz := lt_of_block hI
  go_enter Tryd.func21, Tryd.ntmps21
  go_wp2
  go_ret
  exact ⟨rfl, rfl⟩

theorem inLeft : Calls Tryd.prog 19 #[.pointer (some ⟨I, 0, none⟩)] w fun en w' => en = .returned (.int .i64 (if e = 0 then s.size else 0 : Nat)) ∧ w' = w := by
  obtain ⟨c1, c2, c3, c4⟩ := cells_of_two hI
  have hz := lt_of_block hI
  have H := Lib.hid (inErr I s e w hI)
  by_cases he : e = 0
  · subst he
    go_enter Tryd.func19, Tryd.ntmps19
    go_wp2_with fail
    refine H.out.mono ?_
    rintro en w1 ⟨rfl, rfl⟩
    go_wp2
    go_ret
    exact ⟨rfl, rfl⟩
  · rw [if_neg he]
    have he2 : (e == 0) = false := by simpa using he
    go_enter Tryd.func19, Tryd.ntmps19
    go_wp2_with fail
    refine H.out.mono ?_
    rintro en w1 ⟨rfl, rfl⟩
    go_wp2
    go_ret
    exact ⟨rfl, rfl⟩

/-- What End leaves for an error. -/
def endOf (s : ByteArray) (e : Int) : Int := if e = 0 ∧ 0 < s.size then 6 else e

theorem inEnd : Calls Tryd.prog 20 #[.pointer (some ⟨I, 0, none⟩)] w (Gave I (.int .i64 (endOf s e)) s (endOf s e) w) := by
  have H := Lib.hid (inLeft I s e w hI)
  have HI := Lib.hid hI; clear hI
  by_cases hc : e = 0 ∧ 0 < s.size
  · have h1 : endOf s e = 6 := if_pos hc
    rw [h1]
    obtain ⟨rfl, hp⟩ := hc
    have hp2 : (0 : Int) < (s.size : Int) := by omega
    go_enter Tryd.func20, Tryd.ntmps20
    go_wp2_with fail
    refine H.out.mono ?_
    rintro en w1 ⟨rfl, rfl⟩
    simp only [if_true]
    go_wp2_with fail
    refine (inFail_now I s 0 w1 HI.out 6 rfl).mono ?_
    rintro en w2 ⟨rfl, rfl⟩
    have h2 : InAt I s 6 (w1.setCell ⟨I, 1, none⟩ (.int .i64 6)) := set_snd HI.out _
    go_wp2_with fail
    refine (inErr I s 6 _ h2).mono ?_
    rintro en w2 ⟨rfl, rfl⟩
    go_wp2
    go_ret
    exact ⟨rfl, h2, Turn.set _ _⟩
  · have h1 : endOf s e = e := if_neg hc
    rw [h1]
    have hz : (if e = 0 then s.size else 0 : Nat) = 0 := by
      by_cases he : e = 0
      · rw [if_pos he]; have : ¬ 0 < s.size := fun h => hc ⟨he, h⟩; omega
      · rw [if_neg he]
    go_enter Tryd.func20, Tryd.ntmps20
    go_wp2_with fail
    refine H.out.mono ?_
    rintro en w1 ⟨rfl, rfl⟩
    rw [hz]
    go_wp2_with fail
    refine (inErr I s e w1 HI.out).mono ?_
    rintro en w2 ⟨rfl, rfl⟩
    go_wp2
    go_ret
    exact ⟨rfl, HI.out, Only.refl _ _⟩
end

theorem clone_any (s : ByteArray) (w : World) (hs : s.size ≤ 281474976710656) : Calls Tryd.prog 49 #[.string s] w fun en w' => en = .returned (.string s) ∧ Below w.heap.size w w' := by
  have H := Lib.hid (Tryd.stringslite_Clone s w hs)
  go_enter Tryd.func49, Tryd.ntmps49
  go_wp2_with fail
  refine H.out.mono ?_
  rintro en w1 ⟨rfl, hb⟩
  go_wp2
  go_ret
  exact ⟨rfl, hb⟩

theorem newIn (s : ByteArray) (w : World) (hs : s.size ≤ 281474976710656) : Calls Tryd.prog 17 #[.string s] w fun en w' => ∃ I, en = .returned (.pointer (some ⟨I, 0, none⟩)) ∧ InAt I s 0 w' ∧ w.heap.size ≤ I ∧ Below w.heap.size w w' := by
  have H := Lib.hid (clone_any s w hs)
  go_enter Tryd.func17, Tryd.ntmps17
  go_wp2_with fail
  refine H.out.mono ?_
  rintro en w1 ⟨rfl, hb⟩
  go_wp2
  go_ret
  exact ⟨w1.heap.size, rfl, new_block _ _, hb.size, hb.alloc hb.size _⟩
end Go.Proofs.YtganeocegdkddaaDoor
