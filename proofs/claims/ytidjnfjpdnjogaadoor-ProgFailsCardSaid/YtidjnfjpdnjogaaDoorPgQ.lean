/-
  Package prog: small programs on numbers' texts: what they come to. Plain. Conditions: none.
-/
import Derived.Test.YtidjnfjpdnjogaaDoorPa1
namespace Go.Proofs.YtidjnfjpdnjogaaDoor
open Go.RowKit Go.Lib

theorem known_not {w : List UInt8} (h : (parseB w).2 = 0) : knownB w = false := by
  cases hk : knownB w
  · rfl
  · unfold knownB at hk
    simp only [List.contains_eq_mem, decide_eq_true_eq, arithWords, moveWords, otherWords, List.mem_append, List.mem_cons, List.not_mem_nil, or_false] at hk
    exfalso
    revert h
    rcases hk with ((h | h | h | h | h | h | h) | (h | h | h | h)) | (h | h | h | h | h | h | h) <;> subst h <;> decide +kernel
theorem step_parse (e : En) {w : List UInt8} (h : (parseB w).2 = 0) (st : List Nat) : stepB e w st = .ok (oneW (parseB w).1 :: st) := by
  have hk := known_not h
  unfold knownB at hk
  simp only [List.contains_eq_mem, decide_eq_false_iff_not, List.mem_append, not_or] at hk
  obtain ⟨⟨h1, h2⟩, h3⟩ := hk
  have h1' : ¬ arithWords.contains w = true := by simpa using h1
  have h2' : ¬ moveWords.contains w = true := by simpa using h2
  simp only [otherWords, List.mem_cons, List.not_mem_nil, or_false, not_or] at h3
  obtain ⟨a1, a2, a3, a4, a5, a6, a7⟩ := h3
  unfold stepB
  rw [if_neg h1', if_neg h2']
  unfold otherB
  rw [if_neg a1, if_neg a2, if_neg a3, if_neg a4, if_neg a5, if_neg a6, if_neg a7]
theorem step_text (e : En) {a : Nat} (ha : a < 18446744073709551616) (st : List Nat) : stepB e (textB a) st = .ok (oneW a :: st) := by
  rw [step_parse e (by rw [parse_text a ha]), parse_text a ha]
  show Out.ok (oneW (oneW a) :: st) = _
  rw [oneW_one]
theorem isWord_text {a : Nat} (ha : a < 18446744073709551616) : isWord (textB a) = true := by
  unfold isWord; rw [parse_text a ha]; rfl
theorem isWord_known {w : List UInt8} (h : knownB w = true) : isWord w = true := by
  unfold isWord; rw [h, Bool.or_true]

theorem step_drop (e : En) (f : Nat) (t : List Nat) : stepB e wDrop (f :: t) = .ok t := rfl
theorem step_dup (e : En) (f : Nat) (t : List Nat) : stepB e wDup (f :: t) = .ok (oneW f :: oneW f :: t) := rfl
theorem step_swap (e : En) (a b : Nat) (t : List Nat) : stepB e wSwap (b :: a :: t) = .ok (oneW a :: oneW b :: t) := rfl
theorem step_pick (e : En) (a b c : Nat) (t : List Nat) : stepB e wPick (c :: b :: a :: t) = .ok (oneW (if nilB c then b else a) :: t) := rfl
theorem step_arith (e : En) {w : List UInt8} (h : arithWords.contains w = true) (a b : Nat) (t : List Nat) : stepB e w (b :: a :: t) = .ok (arithB w a b :: t) := by
  unfold stepB; rw [if_pos h]
theorem step_arith1 (e : En) {w : List UInt8} (h : arithWords.contains w = true) (b : Nat) : stepB e w [b] = .rt := by
  unfold stepB; rw [if_pos h]

theorem runB_of (e : En) (l : List (List UInt8)) (hc : ∀ w ∈ l, isWord w = true) (hl : l.length ≤ 64) : runB e l = tellOf (wordsGo e l []) := by
  have key : ∀ (m : List (List UInt8)) i, (∀ w ∈ m, isWord w = true) → checkB m i = (0, 0) := by
    intro m
    induction m with
    | nil => intro i _; rfl
    | cons a m ih =>
      intro i h
      unfold checkB
      rw [if_pos (h a (by simp))]
      exact ih _ (fun w hw => h w (by simp [hw]))
  have hck : checkL l = (0, 0) := by
    unfold checkL
    rw [if_neg (by omega), key l 0 hc]
  unfold runB tellOf
  rw [hck]; rfl

section
variable {a b c : Nat} (ha : a < 18446744073709551616) (hb : b < 18446744073709551616)
include ha hb
theorem run_s1 (e : En) : runB e [textB a, textB b, wDrop] = ⟨oneW a, 0, 0, []⟩ := by
  rw [runB_of _ _ (by
    intro w hw
    simp only [List.mem_cons, List.not_mem_nil, or_false] at hw
    rcases hw with rfl | rfl | rfl
    · exact isWord_text ha
    · exact isWord_text hb
    · exact isWord_known (by decide)) (by simp)]
  simp only [wordsGo, step_text e ha, step_text e hb, step_drop, tellOf]
theorem run_s3 (e : En) : runB e [textB a, textB b, wSwap, wSwap, wDrop] = ⟨oneW a, 0, 0, []⟩ := by
  rw [runB_of _ _ (by
    intro w hw
    simp only [List.mem_cons, List.not_mem_nil, or_false] at hw
    rcases hw with rfl | rfl | rfl | rfl | rfl
    · exact isWord_text ha
    · exact isWord_text hb
    · exact isWord_known (by decide)
    · exact isWord_known (by decide)
    · exact isWord_known (by decide)) (by simp)]
  simp only [wordsGo, step_text e ha, step_text e hb, step_swap, step_drop, oneW_one, tellOf]
theorem run_s4 (e : En) : runB e [textB a, textB b, wSwap, wDrop] = ⟨oneW b, 0, 0, []⟩ := by
  rw [runB_of _ _ (by
    intro w hw
    simp only [List.mem_cons, List.not_mem_nil, or_false] at hw
    rcases hw with rfl | rfl | rfl | rfl
    · exact isWord_text ha
    · exact isWord_text hb
    · exact isWord_known (by decide)
    · exact isWord_known (by decide)) (by simp)]
  simp only [wordsGo, step_text e ha, step_text e hb, step_swap, step_drop, oneW_one, tellOf]
theorem run_pick (hc : c < 18446744073709551616) (e : En) : runB e [textB a, textB b, textB c, wPick] = ⟨oneW (if nilB (oneW c) then b else a), 0, 0, []⟩ := by
  rw [runB_of _ _ (by
    intro w hw
    simp only [List.mem_cons, List.not_mem_nil, or_false] at hw
    rcases hw with rfl | rfl | rfl | rfl
    · exact isWord_text ha
    · exact isWord_text hb
    · exact isWord_text hc
    · exact isWord_known (by decide)) (by simp)]
  simp only [wordsGo, step_text e ha, step_text e hb, step_text e hc, step_pick, tellOf]
  cases nilB (oneW c) <;> simp [oneW_one]
end

theorem ordK_nan : ordK 9221120237041090560 = 100000000000000000000 := by decide +kernel
theorem least_twice (a : Nat) : oneW (leastC (pairL (oneW a) (oneW a)) 2) = oneW a := by
  have e1 : pairL (oneW a) (oneW a) = fun _ => oneW a := by funext i; unfold pairL; split <;> rfl
  rw [e1]
  show oneW (if lessB (oneW a) (if lessB (oneW a) 9221120237041090560 then oneW a else 9221120237041090560) then oneW a else if lessB (oneW a) 9221120237041090560 then oneW a else 9221120237041090560) = _
  rcases fine_dec a with ⟨h, hf⟩ | ⟨h, _⟩
  · have h1 : oneW a = a := oneW_not h
    rw [h1]
    have h2 : lessB a 9221120237041090560 = true := by
      rw [less_ord, ordK_nan, decide_eq_true_eq]
      unfold fine at hf
      unfold ordK
      rw [if_neg (by omega)]
      split <;> omega
    rw [h2]
    simp [h1]
  · rw [oneW_nan h]
    have : lessB 9221120237041090560 9221120237041090560 = false := by decide +kernel
    rw [this]
    simp
    decide +kernel
theorem run_s2 {a : Nat} (ha : a < 18446744073709551616) (e : En) : runB e [textB a, wDup, wMin] = ⟨oneW a, 0, 0, []⟩ := by
  rw [runB_of _ _ (by
    intro w hw
    simp only [List.mem_cons, List.not_mem_nil, or_false] at hw
    rcases hw with rfl | rfl | rfl
    · exact isWord_text ha
    · exact isWord_known (by decide)
    · exact isWord_known (by decide)) (by simp)]
  have hm : arithB wMin (oneW a) (oneW a) = oneW (leastC (pairL (oneW a) (oneW a)) 2) := rfl
  simp only [wordsGo, step_text e ha, step_dup, step_arith e (show arithWords.contains wMin = true by decide), oneW_one, hm, least_twice, tellOf]
theorem text_small (a : Nat) : (⟨(textB a).toArray⟩ : ByteArray).size ≤ 281474976710656 := by
  have := (text_len a).2
  show (textB a).toArray.size ≤ _
  simp; omega
end Go.Proofs.YtidjnfjpdnjogaaDoor
