/-
  The words of words that were joined by blanks. Conditions: none.
-/
import Derived.Test.YtidjnfjpdnjogaaGreatDoorPwX
namespace Go.Proofs.YtidjnfjpdnjogaaGreatDoor
open Go.RowKit Go.Lib

theorem intercalate_two (x y : List UInt8) (r : List (List UInt8)) : ([32] : List UInt8).intercalate (x :: y :: r) = x ++ 32 :: ([32] : List UInt8).intercalate (y :: r) := by
  simp [List.intercalate]
/-- Words are the words of their line. -/
theorem words_join : ∀ ws : List (List UInt8), (∀ x ∈ ws, x ≠ [] ∧ (32 : UInt8) ∉ x) → wordsB (([32] : List UInt8).intercalate ws) = ws
  | [], _ => by simp [wordsB, List.intercalate, splitB]
  | [x], h => by
    obtain ⟨h1, h2⟩ := h x (by simp)
    have e : ([32] : List UInt8).intercalate [x] = x := by simp [List.intercalate]
    rw [e, wordsB, splitB_not 32 x h2]
    simp [h1]
  | x :: y :: r, h => by
    obtain ⟨h1, h2⟩ := h x (by simp)
    have ih := words_join (y :: r) (fun z hz => h z (List.mem_cons_of_mem _ hz))
    rw [intercalate_two, wordsB, splitB_at 32 x _ h2]
    rw [wordsB] at ih
    rw [List.filter_cons_of_pos (by simpa using h1), ih]
/-- A line's words are not empty, and have no blank. -/
theorem split_mem (b : UInt8) : ∀ l, ∀ x ∈ splitB b l, b ∉ x
  | [], x, h => by
    simp [splitB] at h
    subst h
    simp
  | c :: l, x, h => by
    have ih := split_mem b l
    rw [splitB] at h
    split at h
    · rcases List.mem_cons.1 h with rfl | h
      · simp
      · exact ih x h
    · rename_i hcb
      split at h
      · rename_i e
        exact absurd e (splitB_ne b l)
      · rename_i w r e
        rw [e] at ih
        rcases List.mem_cons.1 h with rfl | h
        · intro hb
          rcases List.mem_cons.1 hb with hb | hb
          · exact hcb hb.symm
          · exact ih w (by simp) hb
        · exact ih x (List.mem_cons_of_mem _ h)
theorem wordsB_join (l : List UInt8) : wordsB (([32] : List UInt8).intercalate (wordsB l)) = wordsB l :=
  words_join _ fun x hx => by
    obtain ⟨h1, h2⟩ := List.mem_filter.1 hx
    exact ⟨by simpa using h2, split_mem 32 l x h1⟩
theorem wordsL_map (s : ByteArray) : wordsL s = (wordsB s.data.toList).map mkS := by
  have h := wordsL_strs s
  unfold vals strs at h
  have h2 : (wordsL s).map Value.string = ((wordsB s.data.toList).map mkS).map Value.string := by rw [h, List.map_map]; rfl
  exact (List.map_inj_right (fun a b e => by cases e; rfl)).1 h2
/-- What Parse finds in a program's text. -/
theorem wordsL_joinS (s : ByteArray) : wordsL (joinS (wordsL s)) = wordsL s := by
  have h1 : (wordsL s).map (fun x => x.data.toList) = wordsB s.data.toList := by
    rw [wordsL_map, List.map_map]
    have : ((fun x : ByteArray => x.data.toList) ∘ mkS) = id := by
      funext x
      simp [mkS]
    rw [this, List.map_id]
  have h2 : (joinS (wordsL s)).data.toList = ([32] : List UInt8).intercalate (wordsB s.data.toList) := by
    unfold joinS joinL Lib.join
    rw [h1]
  rw [wordsL_map (joinS (wordsL s)), h2, wordsB_join, ← wordsL_map]
def sumL (ws : List (List UInt8)) : Nat := (ws.map fun x => x.length + 1).sum
theorem inter_len : ∀ ws : List (List UInt8), (([32] : List UInt8).intercalate ws).length ≤ sumL ws
  | [] => by simp [List.intercalate, sumL]
  | [x] => by simp [List.intercalate, sumL]
  | x :: y :: r => by
    have ih := inter_len (y :: r)
    rw [intercalate_two]
    simp only [sumL, List.map_cons, List.sum_cons, List.length_append, List.length_cons] at ih ⊢
    omega
theorem sum_split (b : UInt8) : ∀ l, sumL (splitB b l) = l.length + 1
  | [] => by simp [splitB, sumL]
  | c :: l => by
    have ih := sum_split b l
    rw [splitB]
    split
    · simp only [sumL, List.map_cons, List.sum_cons, List.length_nil, List.length_cons] at ih ⊢
      omega
    · split
      · rename_i e
        exact absurd e (splitB_ne b l)
      · rename_i w r e
        rw [e] at ih
        simp only [sumL, List.map_cons, List.sum_cons, List.length_cons] at ih ⊢
        omega
theorem sum_filter (q : List UInt8 → Bool) : ∀ ws, sumL (ws.filter q) ≤ sumL ws
  | [] => by simp
  | x :: r => by
    have ih := sum_filter q r
    rw [List.filter_cons]
    split <;> simp only [sumL, List.map_cons, List.sum_cons] at ih ⊢ <;> omega
theorem joinL_len (s : ByteArray) : (joinL (wordsL s)).length ≤ s.size + 1 := by
  have h1 : (wordsL s).map (fun x => x.data.toList) = wordsB s.data.toList := by
    rw [wordsL_map, List.map_map]
    have : ((fun x : ByteArray => x.data.toList) ∘ mkS) = id := by
      funext x
      simp [mkS]
    rw [this, List.map_id]
  unfold joinL Lib.join
  rw [h1]
  have h2 := inter_len (wordsB s.data.toList)
  have h3 := sum_filter (fun w => !w.isEmpty) (splitB 32 s.data.toList)
  have h4 := sum_split 32 s.data.toList
  rw [len_data] at h4
  unfold wordsB at h2 ⊢
  omega
end Go.Proofs.YtidjnfjpdnjogaaGreatDoor
