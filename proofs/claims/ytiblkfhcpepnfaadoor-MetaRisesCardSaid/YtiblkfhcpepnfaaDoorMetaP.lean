/-
  Metadata as plain texts: words between blanks, what is told of metadata, what is read of a text. Conditions: none.
-/
import Derived.Test.YtiblkfhcpepnfaaDoorNameP
namespace Go.Proofs.YtiblkfhcpepnfaaDoor
open Go.Lib

/-- The words between one byte and the next. -/
def splitB (b : UInt8) : List UInt8 → List (List UInt8)
  | [] => [[]]
  | c :: t => if c = b then [] :: splitB b t else match splitB b t with
    | [] => [[c]]
    | w :: r => (c :: w) :: r
theorem splitB_ne (b : UInt8) : ∀ l, splitB b l ≠ []
  | [] => by simp [splitB]
  | c :: t => by
    rw [splitB]
    split
    · simp
    · split <;> simp
theorem splitB_not (b : UInt8) : ∀ l, b ∉ l → splitB b l = [l]
  | [], _ => rfl
  | c :: t, h => by
    have h1 : ¬ c = b := fun e => h (by rw [e]; simp)
    have h2 : b ∉ t := fun e => h (by simp [e])
    rw [splitB, if_neg h1, splitB_not b t h2]
theorem splitB_at (b : UInt8) : ∀ l r, b ∉ l → splitB b (l ++ b :: r) = l :: splitB b r
  | [], r, _ => by simp [splitB]
  | c :: t, r, h => by
    have h1 : ¬ c = b := fun e => h (by rw [e]; simp)
    have h2 : b ∉ t := fun e => h (by simp [e])
    rw [List.cons_append, splitB, if_neg h1, splitB_at b t r h2]
/-- What stands between blanks, if anything does. -/
def wordsB (l : List UInt8) : List (List UInt8) := (splitB 32 l).filter fun w => !w.isEmpty

def countK : List UInt8 := [99, 111, 117, 110, 116]
def ageK : List UInt8 := [97, 103, 101]
def beforeK : List UInt8 := [98, 101, 102, 111, 114, 101]
/-- Metadata by their three numbers. -/
structure Mt where
  a : Int
  b : Int
  c : Int
/-- A part of the text. -/
def partB (k : List UInt8) (n : Int) : List (List UInt8) := if n = 0 then [] else [k ++ 61 :: itoa n]
def partsB (m : Mt) : List (List UInt8) := partB countK m.a ++ partB ageK m.b ++ partB beforeK m.c
def joinB : List (List UInt8) → List UInt8
  | [] => []
  | [w] => w
  | w :: r => w ++ 32 :: joinB r
def okB (n : Int) : Bool := decide (0 ≤ n) && decide (n ≤ 1099511627776)
def okM (m : Mt) : Bool := okB m.a && okB m.b && okB m.c
/-- What is told of metadata. -/
def textM (m : Mt) : List UInt8 × Int := if okM m then (if (partsB m).isEmpty then [45] else joinB (partsB m), 0) else ([], 1)
/-- What a word sets. -/
def setM (m : Mt) (w : List UInt8) : Mt :=
  if (numberOf (cutB 61 w).2.1).2 = 0 then
    if (cutB 61 w).1 = countK then ⟨(numberOf (cutB 61 w).2.1).1, m.b, m.c⟩
    else if (cutB 61 w).1 = ageK then ⟨m.a, (numberOf (cutB 61 w).2.1).1, m.c⟩
    else if (cutB 61 w).1 = beforeK then ⟨m.a, m.b, (numberOf (cutB 61 w).2.1).1⟩
    else m
  else m
/-- What is read of a text. -/
def readM (l : List UInt8) : Mt := (splitB 32 l).foldl setM ⟨0, 0, 0⟩
def parseM (l : List UInt8) : Mt × Int := if textM (readM l) = (l, 0) then (readM l, 0) else (⟨0, 0, 0⟩, 6)

theorem number_nil : numberOf [] = (0, 1) := by decide +kernel
theorem setM_nil (m : Mt) : setM m [] = m := by
  rw [setM]
  have : (cutB 61 []).2.1 = [] := rfl
  rw [this, number_nil]
  rfl
theorem foldl_words (l : List (List UInt8)) (m : Mt) : l.foldl setM m = (l.filter fun w => !w.isEmpty).foldl setM m := by
  induction l generalizing m with
  | nil => rfl
  | cons w r ih =>
    cases w with
    | nil => rw [List.foldl_cons, setM_nil, ih]; rfl
    | cons c t => rw [List.foldl_cons, ih]; rfl
theorem readM_words (l : List UInt8) : readM l = (wordsB l).foldl setM ⟨0, 0, 0⟩ := foldl_words _ _

/-! ### what is told is read -/
theorem itoa_not (v : Int) (b : UInt8) (hb : ¬ (48 ≤ b.toNat ∧ b.toNat ≤ 57)) (hm : b ≠ 45) : b ∉ itoa v := by
  by_cases h : v < 0
  · rw [itoa_minus h]
    intro hc
    rcases List.mem_cons.1 hc with h1 | h1
    · exact absurd h1 hm
    · exact dec_no _ b hb h1
  · rw [itoa_pos h]; exact dec_no _ b hb

theorem join_split : ∀ l : List (List UInt8), l ≠ [] → (∀ w ∈ l, (32 : UInt8) ∉ w) → splitB 32 (joinB l) = l
  | [], h, _ => absurd rfl h
  | [w], _, h => splitB_not 32 w (h w (by simp))
  | w :: x :: r, _, h => by
    rw [show joinB (w :: x :: r) = w ++ 32 :: joinB (x :: r) from rfl, splitB_at 32 w _ (h w (by simp)), join_split (x :: r) (by simp) (fun y hy => h y (by simp [hy]))]

theorem part_in {k w : List UInt8} {n : Int} (h : w ∈ partB k n) : w = k ++ 61 :: itoa n := by
  unfold partB at h
  split at h <;> simp at h
  exact h
theorem key_plain {k : List UInt8} (hk : k = countK ∨ k = ageK ∨ k = beforeK) : (61 : UInt8) ∉ k ∧ (32 : UInt8) ∉ k := by
  rcases hk with rfl | rfl | rfl <;> exact ⟨by decide, by decide⟩
theorem part_no32 {k w : List UInt8} {n : Int} (hk : k = countK ∨ k = ageK ∨ k = beforeK) (h : w ∈ partB k n) : (32 : UInt8) ∉ w := by
  rw [part_in h]
  intro hc
  rcases List.mem_append.1 hc with h1 | h1
  · exact (key_plain hk).2 h1
  · rcases List.mem_cons.1 h1 with h2 | h2
    · exact absurd h2 (by decide)
    · exact itoa_not n 32 (by decide) (by decide) h2
theorem parts_no32 (m : Mt) : ∀ w ∈ partsB m, (32 : UInt8) ∉ w := by
  intro w hw
  unfold partsB at hw
  rcases List.mem_append.1 hw with h | h
  · rcases List.mem_append.1 h with h | h
    · exact part_no32 (Or.inl rfl) h
    · exact part_no32 (Or.inr (Or.inl rfl)) h
  · exact part_no32 (Or.inr (Or.inr rfl)) h
theorem okB_iff {n : Int} : okB n = true ↔ 0 ≤ n ∧ n ≤ 1099511627776 := by simp [okB]
theorem setM_part (m : Mt) (k : List UInt8) (n : Int) (hk : k = countK ∨ k = ageK ∨ k = beforeK) (hn : okB n = true) :
    setM m (k ++ 61 :: itoa n) = if k = countK then ⟨n, m.b, m.c⟩ else if k = ageK then ⟨m.a, n, m.c⟩ else if k = beforeK then ⟨m.a, m.b, n⟩ else m := by
  obtain ⟨h0, h1⟩ := okB_iff.1 hn
  rw [setM, cutB_at 61 k _ (key_plain hk).1]
  simp only []
  rw [number_itoa n (by omega) (by omega), if_pos rfl]
theorem fold_part (m : Mt) (k : List UInt8) (n : Int) (hk : k = countK ∨ k = ageK ∨ k = beforeK) (hn : okB n = true) :
    (partB k n).foldl setM m = if n = 0 then m else if k = countK then ⟨n, m.b, m.c⟩ else if k = ageK then ⟨m.a, n, m.c⟩ else if k = beforeK then ⟨m.a, m.b, n⟩ else m := by
  unfold partB
  split
  · rfl
  · rw [List.foldl_cons, List.foldl_nil, setM_part m k n hk hn]
theorem keys_ne : (ageK = countK) = False ∧ (beforeK = countK) = False ∧ (beforeK = ageK) = False := by
  refine ⟨?_, ?_, ?_⟩ <;> exact eq_false (by decide)
theorem fold_parts (m : Mt) (h : okM m = true) : (partsB m).foldl setM ⟨0, 0, 0⟩ = m := by
  obtain ⟨a, b, c⟩ := m
  simp only [okM, Bool.and_eq_true] at h
  obtain ⟨⟨h1, h2⟩, h3⟩ := h
  obtain ⟨k1, k2, k3⟩ := keys_ne
  unfold partsB
  rw [List.foldl_append, List.foldl_append, fold_part _ countK a (Or.inl rfl) h1, fold_part _ ageK b (Or.inr (Or.inl rfl)) h2, fold_part _ beforeK c (Or.inr (Or.inr rfl)) h3]
  simp only [if_true, k1, k2, k3, if_false]
  by_cases e1 : a = 0 <;> by_cases e2 : b = 0 <;> by_cases e3 : c = 0 <;> simp [e1, e2, e3]
theorem read_text (m : Mt) (h : okM m = true) : readM (textM m).1 = m := by
  rw [textM, if_pos h]
  simp only []
  by_cases he : (partsB m).isEmpty = true
  · rw [if_pos he]
    have hp : partsB m = [] := List.isEmpty_iff.1 he
    have hf := fold_parts m h
    rw [hp] at hf
    rw [← hf]
    show setM ⟨0, 0, 0⟩ [45] = ⟨0, 0, 0⟩
    have h1 : (cutB 61 [45]).2.1 = [] := rfl
    rw [setM, h1, number_nil]
    rfl
  · rw [if_neg he]
    have hp : partsB m ≠ [] := fun e => he (by rw [e]; rfl)
    rw [readM, join_split _ hp (parts_no32 m)]
    exact fold_parts m h
theorem text_ok {m : Mt} : (textM m).2 = 0 ↔ okM m = true := by
  rw [textM]
  split <;> simp_all
theorem parse_text (m : Mt) (h : okM m = true) : parseM (textM m).1 = (m, 0) := by
  rw [parseM, read_text m h]
  have : textM m = ((textM m).1, 0) := Prod.ext rfl (text_ok.2 h)
  rw [if_pos this]
theorem text_inj {m n : Mt} (hm : okM m = true) (hn : okM n = true) (h : (textM m).1 = (textM n).1) : m = n := by
  rw [← read_text m hm, h, read_text n hn]

/-! ### no text ends in a blank -/
theorem itoa_last (v : Int) : ∃ l c, itoa v = l ++ [c] ∧ c ≠ 32 := by
  have hne : itoa v ≠ [] := itoa_ne_nil v
  refine ⟨(itoa v).dropLast, (itoa v).getLast hne, (List.dropLast_concat_getLast hne).symm, ?_⟩
  intro h
  exact itoa_not v 32 (by decide) (by decide) (h ▸ List.getLast_mem hne)
theorem join_last : ∀ l : List (List UInt8), l ≠ [] → (∀ w ∈ l, ∃ t c, w = t ++ [c] ∧ c ≠ (32 : UInt8)) → ∃ t c, joinB l = t ++ [c] ∧ c ≠ (32 : UInt8)
  | [], h, _ => absurd rfl h
  | [w], _, h => h w (by simp)
  | w :: x :: r, _, h => by
    obtain ⟨t, c, e, hc⟩ := join_last (x :: r) (by simp) (fun y hy => h y (by simp [hy]))
    exact ⟨w ++ 32 :: t, c, by rw [show joinB (w :: x :: r) = w ++ 32 :: joinB (x :: r) from rfl, e]; simp, hc⟩
theorem part_last {k w : List UInt8} {n : Int} (h : w ∈ partB k n) : ∃ t c, w = t ++ [c] ∧ c ≠ (32 : UInt8) := by
  obtain ⟨l, c, e, hc⟩ := itoa_last n
  exact ⟨k ++ 61 :: l, c, by rw [part_in h, e]; simp, hc⟩
theorem text_last (m : Mt) (h : okM m = true) : ∃ t c, (textM m).1 = t ++ [c] ∧ c ≠ (32 : UInt8) := by
  rw [textM, if_pos h]
  simp only []
  split
  · exact ⟨[], 45, rfl, by decide⟩
  · rename_i he
    have hp : partsB m ≠ [] := fun e => he (by rw [e]; rfl)
    refine join_last _ hp fun w hw => ?_
    unfold partsB at hw
    rcases List.mem_append.1 hw with h | h
    · rcases List.mem_append.1 h with h | h <;> exact part_last h
    · exact part_last h
theorem parse_blank (l : List UInt8) : parseM (l ++ [32]) = (⟨0, 0, 0⟩, 6) := by
  rw [parseM, if_neg]
  intro h
  have hok : okM (readM (l ++ [32])) = true := text_ok.1 (by rw [h])
  obtain ⟨t, c, e, hc⟩ := text_last _ hok
  rw [h] at e
  have := List.append_inj_right' e rfl
  simp at this
  exact hc this.symm

/-! ### sizes -/
theorem cutB_key {k w : List UInt8} (hk : (61 : UInt8) ∉ k) : ((cutB 61 w).1 = k ∧ (cutB 61 w).2.2 = true) ↔ w = k ++ 61 :: (cutB 61 w).2.1 := by
  constructor
  · rintro ⟨h1, h2⟩
    have : ∀ l, (cutB 61 l).2.2 = true → l = (cutB 61 l).1 ++ 61 :: (cutB 61 l).2.1 := by
      intro l
      induction l with
      | nil => intro h; simp [cutB] at h
      | cons c t ih =>
        intro h
        rw [cutB] at h ⊢
        split
        · rename_i e; simp [e]
        · rename_i e
          rw [if_neg e] at h
          simp only [] at h ⊢
          rw [List.cons_append, ← ih h]
    have e := this w h2
    rw [h1] at e
    exact e
  · intro h
    have := cutB_at 61 k (cutB 61 w).2.1 hk
    rw [← h] at this
    rw [this]
    exact ⟨rfl, rfl⟩
theorem cutB_no (b : UInt8) : ∀ l, (cutB b l).2.2 = false → (cutB b l).2.1 = []
  | [], _ => rfl
  | c :: t, h => by
    rw [cutB] at h ⊢
    split
    · rename_i e; rw [if_pos e] at h; simp at h
    · rename_i e; rw [if_neg e] at h; exact cutB_no b t h

/-- The document's way: is a word's number behind a name? -/
def keyed (k w : List UInt8) : Int × Bool :=
  if w.length ≤ k.length + 1 then (0, false) else if w.take (k.length + 1) = k ++ [61] then ((numberOf (w.drop (k.length + 1))).1, decide ((numberOf (w.drop (k.length + 1))).2 = 0)) else (0, false)
theorem keyed_cut (k w : List UInt8) (hk : (61 : UInt8) ∉ k) : (keyed k w).2 = true ↔ (cutB 61 w).1 = k ∧ (numberOf (cutB 61 w).2.1).2 = 0 := by
  unfold keyed
  constructor
  · intro h
    split at h
    · simp at h
    · split at h
      · rename_i h1 h2
        have e : w = k ++ 61 :: w.drop (k.length + 1) := by
          conv => lhs; rw [← List.take_append_drop (k.length + 1) w, h2]
          simp
        have e2 := cutB_at 61 k (w.drop (k.length + 1)) hk
        rw [← e] at e2
        rw [e2]
        exact ⟨rfl, of_decide_eq_true h⟩
      · simp at h
  · rintro ⟨h1, h2⟩
    have hc : (cutB 61 w).2.2 = true := by
      cases hx : (cutB 61 w).2.2 with
      | true => rfl
      | false => rw [cutB_no 61 w hx, number_nil] at h2; simp at h2
    have e := (cutB_key hk).1 ⟨h1, hc⟩
    have hne : (cutB 61 w).2.1 ≠ [] := fun e => by rw [e, number_nil] at h2; simp at h2
    obtain ⟨d, hd⟩ : ∃ d, (cutB 61 w).2.1 = d := ⟨_, rfl⟩
    rw [hd] at e h2 hne
    subst e
    have hl : 0 < d.length := List.length_pos_iff.2 hne
    have h3 : (k ++ 61 :: d).take (k.length + 1) = k ++ [61] := by
      rw [List.take_append, List.take_of_length_le (by omega)]; simp
    have h4 : (k ++ 61 :: d).drop (k.length + 1) = d := by
      rw [List.drop_append]; simp
    rw [if_neg (by simp; omega), if_pos h3, h4]
    simp [h2]
theorem keyed_val (k w : List UInt8) (hk : (61 : UInt8) ∉ k) (h : (keyed k w).2 = true) : (keyed k w).1 = (numberOf (cutB 61 w).2.1).1 := by
  unfold keyed at h ⊢
  split at h
  · simp at h
  · split at h
    · rename_i h1 h2
      have e : w = k ++ 61 :: w.drop (k.length + 1) := by
        conv => lhs; rw [← List.take_append_drop (k.length + 1) w, h2]
        simp
      have e2 := cutB_at 61 k (w.drop (k.length + 1)) hk
      rw [← e] at e2
      rw [if_neg h1, if_pos h2, e2]
    · simp at h
/-- What the document's way sets. -/
theorem setM_keyed (m : Mt) (w : List UInt8) : setM m w = ⟨if (keyed countK w).2 then (keyed countK w).1 else m.a, if (keyed ageK w).2 then (keyed ageK w).1 else m.b, if (keyed beforeK w).2 then (keyed beforeK w).1 else m.c⟩ := by
  have g1 := keyed_cut countK w (by decide)
  have g2 := keyed_cut ageK w (by decide)
  have g3 := keyed_cut beforeK w (by decide)
  have v1 := keyed_val countK w (by decide)
  have v2 := keyed_val ageK w (by decide)
  have v3 := keyed_val beforeK w (by decide)
  obtain ⟨k1, k2, k3⟩ := keys_ne
  have k1' : ageK ≠ countK := by rw [ne_eq, k1]; exact id
  have k2' : beforeK ≠ countK := by rw [ne_eq, k2]; exact id
  have k3' : beforeK ≠ ageK := by rw [ne_eq, k3]; exact id
  have no : ∀ k, ((keyed k w).2 = true ↔ (cutB 61 w).1 = k ∧ (numberOf (cutB 61 w).2.1).2 = 0) → ¬ ((cutB 61 w).1 = k ∧ (numberOf (cutB 61 w).2.1).2 = 0) → (keyed k w).2 = false := fun k g hn => by
    cases hx : (keyed k w).2 with
    | false => rfl
    | true => exact absurd (g.1 hx) hn
  rw [setM]
  by_cases hn : (numberOf (cutB 61 w).2.1).2 = 0
  · rw [if_pos hn]
    by_cases h1 : (cutB 61 w).1 = countK
    · rw [if_pos h1, g1.2 ⟨h1, hn⟩, no _ g2 (fun h => k1' (h.1.symm.trans h1)), no _ g3 (fun h => k2' (h.1.symm.trans h1)), v1 (g1.2 ⟨h1, hn⟩)]; rfl
    · rw [if_neg h1, no _ g1 (fun h => h1 h.1)]
      by_cases h2 : (cutB 61 w).1 = ageK
      · rw [if_pos h2, g2.2 ⟨h2, hn⟩, no _ g3 (fun h => k3' (h.1.symm.trans h2)), v2 (g2.2 ⟨h2, hn⟩)]; rfl
      · rw [if_neg h2, no _ g2 (fun h => h2 h.1)]
        by_cases h3 : (cutB 61 w).1 = beforeK
        · rw [if_pos h3, g3.2 ⟨h3, hn⟩, v3 (g3.2 ⟨h3, hn⟩)]; rfl
        · rw [if_neg h3, no _ g3 (fun h => h3 h.1)]; rfl
  · rw [if_neg hn, no _ g1 (fun h => hn h.2), no _ g2 (fun h => hn h.2), no _ g3 (fun h => hn h.2)]; rfl
end Go.Proofs.YtiblkfhcpepnfaaDoor
