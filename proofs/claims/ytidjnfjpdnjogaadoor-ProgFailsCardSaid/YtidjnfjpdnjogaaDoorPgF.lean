/-
  Package prog: a program that says so fails. Plain. Conditions: none.
-/
import Derived.Test.YtidjnfjpdnjogaaDoorPgTx
namespace Go.Proofs.YtidjnfjpdnjogaaDoor
open Go.RowKit Go.Lib

def wZero : List UInt8 := [48]
def wOne : List UInt8 := [49]
theorem checkB_app (a b : List (List UInt8)) (i : Nat) (h : (checkB (a ++ b) i).1 = 0) : (∀ w ∈ a, isWord w = true) := by
  induction a generalizing i with
  | nil => intro w hw; cases hw
  | cons x a ih =>
    rw [List.cons_append] at h
    unfold checkB at h
    split at h
    · rename_i hx
      intro w hw
      rcases List.mem_cons.1 hw with rfl | hw
      · exact hx
      · exact ih _ h w hw
    · cases h
theorem wordsGo_app (e : En) (a b : List (List UInt8)) (st : List Nat) : wordsGo e (a ++ b) st = match wordsGo e a st with
    | .ok st' => wordsGo e b st'
    | x => x := by
  induction a generalizing st with
  | nil => rfl
  | cons x a ih =>
    rw [List.cons_append]
    have hu : ∀ l, wordsGo e (x :: l) st = match stepB e x st with
      | .ok st' => wordsGo e l st'
      | x => x := fun l => rfl
    rw [hu, hu]
    cases stepB e x st with
    | ok st' => exact ih st'
    | rt => rfl
    | fail => rfl
theorem stepB_fail (e : En) (st : List Nat) : stepB e wFail st = .fail := rfl
theorem zero_parse : (parseB wZero) = (0, 0) := by decide +kernel
theorem one_parse : (parseB wOne) = (4607182418800017408, 0) := by decide +kernel

/-- What the law asks. -/
theorem fails_plain (a b : List (List UInt8)) (ha : a.length ≤ 30) (_hb : b.length ≤ 30) :
    ((checkL (a ++ wFail :: b)).1 ≠ 0 ∧ runB noE (a ++ wFail :: b) = ⟨0, 6, 0, []⟩)
    ∨ ((checkL (a ++ wFail :: b)).1 = 0 ∧ (runB noE (a ++ [wZero, wDrop, wOne])).err = 21 ∧ runB noE (a ++ wFail :: b) = runB noE (a ++ [wZero, wDrop, wOne]) ∧ (runB noE (a ++ [wZero, wDrop, wOne])).v = 0)
    ∨ ((checkL (a ++ wFail :: b)).1 = 0 ∧ (runB noE (a ++ [wZero, wDrop, wOne])).err ≠ 21 ∧ runB noE (a ++ wFail :: b) = ⟨0, 21, 3, wFail⟩) := by
  by_cases hc : (checkL (a ++ wFail :: b)).1 = 0
  · right
    have hlen : (a ++ wFail :: b).length ≤ 64 := by
      unfold checkL at hc
      split at hc
      · cases hc
      · omega
    have hA : ∀ w ∈ a ++ wFail :: b, isWord w = true := by
      have h2 := hc
      unfold checkL at h2
      rw [if_neg (by omega)] at h2
      exact checkB_app (a ++ wFail :: b) [] 0 (by rw [List.append_nil]; exact h2)
    have hA1 : ∀ w ∈ a, isWord w = true := fun w hw => hA w (List.mem_append_left _ hw)
    have h1 : runB noE (a ++ wFail :: b) = tellOf (match wordsGo noE a [] with
      | .ok _ => .fail
      | x => x) := by
      rw [runB_of _ _ hA hlen, wordsGo_app]
      cases wordsGo noE a [] with
      | ok st => simp only [wordsGo, stepB_fail]
      | rt => rfl
      | fail => rfl
    have h2 : runB noE (a ++ [wZero, wDrop, wOne]) = tellOf (match wordsGo noE a [] with
      | .ok st => .ok (oneW 4607182418800017408 :: st)
      | x => x) := by
      rw [runB_of _ _ (by
        intro w hw
        rcases List.mem_append.1 hw with hw | hw
        · exact hA1 w hw
        · simp only [List.mem_cons, List.not_mem_nil, or_false] at hw
          rcases hw with rfl | rfl | rfl
          · unfold isWord; rw [zero_parse]; rfl
          · exact isWord_known (by decide)
          · unfold isWord; rw [one_parse]; rfl) (by simp; omega), wordsGo_app]
      cases wordsGo noE a [] with
      | ok st => simp only [wordsGo, step_parse noE (show (parseB wZero).2 = 0 by rw [zero_parse]), step_drop, step_parse noE (show (parseB wOne).2 = 0 by rw [one_parse]), one_parse]
      | rt => rfl
      | fail => rfl
    rw [h1, h2]
    cases wordsGo noE a [] with
    | ok st =>
      right
      refine ⟨hc, ?_, rfl⟩
      cases st with
      | nil => show (0 : Int) ≠ 21; decide
      | cons x st => show (6 : Int) ≠ 21; decide
    | rt => exact Or.inl ⟨hc, rfl, rfl, rfl⟩
    | fail => exact Or.inl ⟨hc, rfl, rfl, rfl⟩
  · left
    refine ⟨hc, ?_⟩
    unfold runB
    rw [if_pos hc]
end Go.Proofs.YtidjnfjpdnjogaaDoor
