/-
  Names as plain texts: what package name tells, and the laws' plain sides. Conditions: none.
-/
import Derived.Test.YtidjnfjpdnjogaaDoorNumP
import Derived.Lib.Bytealg
namespace Go.Proofs.YtidjnfjpdnjogaaDoor
open Go.Lib

/-- A byte that may stand in a name. -/
def nameByte (c : UInt8) : Bool := decide (33 ≤ c.toNat) && decide (c.toNat ≤ 126) && !(c.toNat == 64)
/-- Is it a stream's name? -/
def streamB (l : List UInt8) : Bool := decide (1 ≤ l.length) && decide (l.length ≤ 60) && l.all nameByte
def systemB (l : List UInt8) : Bool := hasPrefix l [36]
/-- What stands ahead of the first byte b, what behind it, and whether it is there. -/
def cutB (b : UInt8) : List UInt8 → List UInt8 × List UInt8 × Bool
  | [] => ([], [], false)
  | c :: t => if c = b then ([], t, true) else (c :: (cutB b t).1, (cutB b t).2.1, (cutB b t).2.2)
def categoryOf (l : List UInt8) : List UInt8 × Bool :=
  if (cutB 45 l).2.2 && !(cutB 45 l).1.isEmpty && streamB l && !systemB l then ((cutB 45 l).1, true) else ([], false)
def hashStep (x : Nat) (c : UInt8) : Nat := ((x ^^^ c.toNat) * 16777619) % 4294967296
def hashX (l : List UInt8) : Nat := l.foldl hashStep 2166136261
def linkOf (v : Int) (l : List UInt8) : List UInt8 := itoa v ++ 64 :: l
def unlinkOf (l : List UInt8) : Int × List UInt8 × Int :=
  if (cutB 64 l).2.2 && (numberOf (cutB 64 l).1).2 == 0 && decide (0 ≤ (numberOf (cutB 64 l).1).1) && streamB (cutB 64 l).2.1 then ((numberOf (cutB 64 l).1).1, (cutB 64 l).2.1, 0) else (0, [], 6)

theorem cutB_not (b : UInt8) : ∀ l, b ∉ l → cutB b l = (l, [], false)
  | [], _ => rfl
  | c :: t, h => by
    have h1 : ¬ c = b := fun e => h (by rw [e]; simp)
    have h2 : b ∉ t := fun e => h (by simp [e])
    rw [cutB, if_neg h1, cutB_not b t h2]
theorem cutB_at (b : UInt8) : ∀ l r, b ∉ l → cutB b (l ++ b :: r) = (l, r, true)
  | [], r, _ => by simp [cutB]
  | c :: t, r, h => by
    have h1 : ¬ c = b := fun e => h (by rw [e]; simp)
    have h2 : b ∉ t := fun e => h (by simp [e])
    rw [List.cons_append, cutB, if_neg h1, cutB_at b t r h2]

theorem isDig_not {c b : UInt8} (h : isDig c = true) (hb : ¬ (48 ≤ b.toNat ∧ b.toNat ≤ 57)) : c ≠ b := by
  rintro rfl
  simp [isDig] at h
  exact hb h
theorem dec_no (u : Nat) (b : UInt8) (hb : ¬ (48 ≤ b.toNat ∧ b.toNat ≤ 57)) : b ∉ decDigits u := by
  intro h
  have := List.all_eq_true.1 (dec_all u) b h
  exact isDig_not this hb rfl
theorem itoa_no (v : Int) : (64 : UInt8) ∉ itoa v := by
  by_cases h : v < 0
  · rw [itoa_minus h]
    intro hc
    rcases List.mem_cons.1 hc with h1 | h1
    · exact absurd h1 (by decide)
    · exact dec_no _ 64 (by decide) h1
  · rw [itoa_pos h]; exact dec_no _ 64 (by decide)

theorem link_cut (v : Int) (l : List UInt8) : cutB 64 (linkOf v l) = (itoa v, l, true) := cutB_at 64 _ _ (itoa_no v)

/-- A link leads to where it was made for. -/
theorem unlink_link (v : Int) (l : List UInt8) (h0 : 0 ≤ v) (h1 : v ≤ 999999999999999999) (hs : streamB l = true) : unlinkOf (linkOf v l) = (v, l, 0) := by
  rw [unlinkOf, link_cut]
  simp only []
  rw [number_itoa v (by omega) h1, hs]
  simp [h0]

theorem itoa_inj {a b : Int} (ha : 0 ≤ a) (hb : 0 ≤ b) (h : itoa a = itoa b) : a = b := by
  rw [itoa_pos (by omega), itoa_pos (by omega)] at h
  have := congrArg numVal h
  rw [dec_val, dec_val] at this
  omega
theorem link_inj {a b : Int} {s t : List UInt8} (ha : 0 ≤ a) (hb : 0 ≤ b) : linkOf a s = linkOf b t ↔ a = b ∧ s = t := by
  constructor
  · intro h
    have h2 := congrArg (cutB 64) h
    rw [link_cut, link_cut] at h2
    simp only [Prod.mk.injEq, and_true] at h2
    exact ⟨itoa_inj ha hb h2.1, h2.2⟩
  · rintro ⟨rfl, rfl⟩; rfl
theorem link_no_stream (v : Int) (l : List UInt8) : streamB (linkOf v l) = false := by
  have : (linkOf v l).all nameByte = false := by
    rw [List.all_eq_false]
    exact ⟨64, by simp [linkOf], by decide⟩
  rw [streamB, this, Bool.and_false]

/-- Names of one category have that category. -/
theorem category_of (c r : List UInt8) (h1 : c ≠ []) (h2 : (45 : UInt8) ∉ c) (h3 : systemB c = false) : categoryOf (c ++ 45 :: r) = if streamB (c ++ 45 :: r) then (c, true) else ([], false) := by
  have h4 : systemB (c ++ 45 :: r) = false := by
    cases c with
    | nil => exact absurd rfl h1
    | cons a t =>
      simp only [systemB, hasPrefix, List.isPrefixOf, Bool.and_true, List.cons_append] at h3 ⊢
      exact h3
  have h5 : c.isEmpty = false := by cases c <;> simp_all
  rw [categoryOf, cutB_at 45 c r h2]
  simp only [h5, h4]
  cases streamB (c ++ 45 :: r) <;> simp

theorem hashX_snoc (l : List UInt8) (c : UInt8) : hashX (l ++ [c]) = hashStep (hashX l) c := by
  unfold hashX
  rw [List.foldl_append, List.foldl_cons, List.foldl_nil]
theorem hashStep_lt (x : Nat) (c : UInt8) : hashStep x c < 4294967296 := Nat.mod_lt _ (by decide)
theorem hashFold_lt : ∀ (l : List UInt8) (x : Nat), x < 4294967296 → l.foldl hashStep x < 4294967296
  | [], _, h => h
  | c :: t, x, _ => by rw [List.foldl_cons]; exact hashFold_lt t _ (hashStep_lt x c)
theorem hashX_lt (l : List UInt8) : hashX l < 4294967296 := hashFold_lt l _ (by decide)

theorem stream_put (s : List UInt8) (c : UInt8) (k : Nat) :
    streamB (s.take k ++ c :: s.drop k) = ((s.isEmpty || streamB s) && nameByte c && decide (s.length + 1 ≤ 60)) := by
  have hall : (s.take k ++ c :: s.drop k).all nameByte = (s.all nameByte && nameByte c) := by
    have : s.all nameByte = ((s.take k).all nameByte && (s.drop k).all nameByte) := by
      rw [← List.all_append, List.take_append_drop]
    rw [List.all_append, List.all_cons, this]
    cases (s.take k).all nameByte <;> cases nameByte c <;> cases (s.drop k).all nameByte <;> rfl
  have hlen : (s.take k ++ c :: s.drop k).length = s.length + 1 := by
    have : (s.take k).length + (s.drop k).length = s.length := by rw [← List.length_append, List.take_append_drop]
    rw [List.length_append, List.length_cons]; omega
  rw [streamB, hall, hlen, streamB]
  cases s with
  | nil => cases nameByte c <;> simp
  | cons a t =>
    cases nameByte c <;> cases (a :: t).all nameByte <;> simp
    intro h
    omega

theorem stream_dollar (s : List UInt8) (h : s ≠ []) : streamB (36 :: s) = (streamB s && decide (s.length < 60)) := by
  have h1 : nameByte 36 = true := by decide
  cases s with
  | nil => exact absurd rfl h
  | cons a t =>
    rw [streamB, streamB, List.all_cons, h1, Bool.true_and]
    cases (a :: t).all nameByte
    · simp
    · rw [Bool.eq_iff_iff]
      simp
      omega
theorem system_dollar (s : List UInt8) : systemB (36 :: s) = true := by simp [systemB, hasPrefix, List.isPrefixOf]
theorem stream_nil : streamB [] = false := rfl
end Go.Proofs.YtidjnfjpdnjogaaDoor
