/-
  Pages of ascending events: how many, which, in which order: plain. Conditions: none.
-/
import Derived.Test.YtimmdcajadddmaaView6
namespace Go.Proofs.Ytimmdcajadddmaa
open Go.RowKit Go.Lib

/-- The positions ascend. -/
def Asc (len : Nat) (E : Nat → Ev) : Prop := ∀ i, i < len → 0 ≤ (E i).position ∧ (E i).position ≤ 1099511627776 ∧ (0 < i → (E (i - 1)).position < (E i).position)
theorem Asc.lt {len : Nat} {E : Nat → Ev} (h : Asc len E) : ∀ (j i : Nat), i < j → j < len → (E i).position < (E j).position := by
  intro j
  induction j with
  | zero => intro i hi; omega
  | succ j ih =>
    intro i hi hj
    have h1 := (h (j + 1) hj).2.2 (by omega)
    simp only [Nat.add_sub_cancel] at h1
    rcases Nat.lt_or_eq_of_le (Nat.le_of_lt_succ hi) with h2 | rfl
    · have := ih i h2 (by omega)
      omega
    · exact h1

theorem evCells_at (E : Nat → Ev) (l : List Nat) (i j : Nat) (hi : i < l.length) (hj : j < 8) : (evCells E l)[i * 8 + j]? = (E (l.getD i 0)).cells.toList[j]? := by
  induction l generalizing i with
  | nil => simp at hi
  | cons x l ih =>
    have e : evCells E (x :: l) = (E x).cells.toList ++ evCells E l := by simp [evCells]
    rw [e]
    have h8 : (E x).cells.toList.length = 8 := rfl
    cases i with
    | zero => rw [List.getElem?_append_left (by rw [h8]; omega)]; simp
    | succ i =>
      rw [List.getElem?_append_right (by rw [h8]; omega), h8, show (i + 1) * 8 + j - 8 = i * 8 + j by omega, ih i (by simpa using hi)]
      simp

theorem own_arg {w : World} {B n : Nat} {ao : Option Addr} {cap : Nat} {E : Nat → Ev} {l : List Nat} (h : w.ownsRow B 29 8 (.slice ao n cap) l.length (evCells E l)) : EvArg w.heap.size w ao l.length (fun i => E (l.getD i 0)) :=
  ⟨fun hl => by
    have h' := h
    rcases h'.2 with ⟨_, h0⟩ | ⟨g, cap', cur, hv, _, hg, _⟩
    · rw [h0] at hl; simp at hl
    · simp only [Value.slice.injEq] at hv
      obtain ⟨rfl, rfl, rfl⟩ := hv
      have hc := h.cells (g := g) rfl
      have hb := lt_of_block hg
      have hcc : ∀ i, i < l.length → ∀ j, j < 8 → w.cell? ⟨g, 0 + i * 8 + j, none⟩ = (E (l.getD i 0)).cells.toList[j]? := fun i hi j hj => by
        have h8 : (E (l.getD i 0)).cells.toList.length = 8 := rfl
        obtain ⟨u, hu⟩ : ∃ u, (E (l.getD i 0)).cells.toList[j]? = some u := ⟨_, List.getElem?_eq_getElem (by rw [h8]; omega)⟩
        rw [hu]
        have := hc (i * 8 + j) u ((evCells_at E l i j hi hj).trans hu)
        rw [addr_add1] at this
        rwa [Nat.add_assoc]
      exact ⟨g, 0, rfl, hb, hb, fun i hi => (hcc i hi 0 (by omega)).trans rfl, fun i hi => (hcc i hi 1 (by omega)).trans rfl, fun i hi => (hcc i hi 2 (by omega)).trans rfl, fun i hi => (hcc i hi 3 (by omega)).trans rfl,
        fun i hi => (hcc i hi 4 (by omega)).trans rfl, fun i hi => (hcc i hi 5 (by omega)).trans rfl, fun i hi => (hcc i hi 6 (by omega)).trans rfl, fun i hi => (hcc i hi 7 (by omega)).trans rfl⟩⟩

theorem downto_rev (len : Nat) : downto len len = (List.range len).reverse := by
  apply List.ext_getElem
  · simp [downto]
  · intro i h1 h2
    simp [downto]

theorem downto_pre (len k : Nat) (hk : k ≤ len) : ∃ r, downto len len = downto len k ++ r ∧ (k < len → ∃ s, r = (len - 1 - k) :: s) := by
  obtain ⟨m, rfl⟩ : ∃ m, len = k + m := ⟨len - k, by omega⟩
  refine ⟨(List.range m).map fun i => k + m - 1 - (k + i), ?_, fun h => ?_⟩
  · unfold downto
    rw [List.range_add]
    simp
  · cases m with
    | zero => omega
    | succ m => exact ⟨_, by rw [List.range_succ_eq_map, List.map_cons]; simp; rfl⟩
theorem range_pre (len k : Nat) (hk : k ≤ len) : ∃ r, List.range len = List.range k ++ r ∧ (k < len → ∃ s, r = k :: s) := by
  obtain ⟨m, rfl⟩ : ∃ m, len = k + m := ⟨len - k, by omega⟩
  refine ⟨(List.range m).map fun i => k + i, ?_, fun h => ?_⟩
  · rw [List.range_add]
  · cases m with
    | zero => omega
    | succ m => exact ⟨_, by rw [List.range_succ_eq_map, List.map_cons]; simp; rfl⟩

/-- How many there are. -/
def upN (fr : Int) (E : Nat → Ev) (k : Nat) : Nat := (takenF fr E (List.range k)).length
def downN (fr : Int) (E : Nat → Ev) (k : Nat) : Nat := (taken fr E (List.range k)).length
theorem upN_succ (fr : Int) (E : Nat → Ev) (k : Nat) : upN fr E (k + 1) = upN fr E k + if fr ≤ (E k).position then 1 else 0 := by
  unfold upN takenF
  rw [List.range_succ, List.filter_append, List.length_append]
  by_cases h : fr ≤ (E k).position <;> simp [h]
theorem downN_succ (fr : Int) (E : Nat → Ev) (k : Nat) : downN fr E (k + 1) = downN fr E k + if (E k).position ≤ fr then 1 else 0 := by
  unfold downN taken
  rw [List.range_succ, List.filter_append, List.length_append]
  by_cases h : (E k).position ≤ fr <;> simp [h]
theorem upN_le (fr : Int) (E : Nat → Ev) (k : Nat) : upN fr E k ≤ k := by
  have := List.length_filter_le (fun x => decide (fr ≤ (E x).position)) (List.range k)
  simpa [upN, takenF] using this
theorem downN_le (fr : Int) (E : Nat → Ev) (k : Nat) : downN fr E k ≤ k := by
  have := List.length_filter_le (fun x => decide ((E x).position ≤ fr)) (List.range k)
  simpa [downN, taken] using this

theorem fwPage_count {w w' : World} {fr n : Int} {E : Nat → Ev} {len : Nat} {ev : List Nat} {fin : Bool} {v : Value} (h : FwPage w fr n E len ev fin v w') :
    (ev.length : Int) = min (upN fr E len : Int) n ∧ fin = decide ((upN fr E len : Int) ≤ n) := by
  rcases h.tells with ⟨rfl, rfl, h2⟩ | ⟨rfl, k, hk, rfl, h2, h3⟩
  · have e : (takenF fr E (List.range len)).length = upN fr E len := rfl
    rw [e] at h2 ⊢
    exact ⟨by omega, by simp [h2]⟩
  · obtain ⟨r, hr, hs⟩ := range_pre len k (by omega)
    obtain ⟨s, rfl⟩ := hs hk
    have e : upN fr E len ≥ (takenF fr E (List.range k)).length + 1 := by
      unfold upN
      rw [hr]
      unfold takenF
      rw [List.filter_append, List.length_append, List.filter_cons_of_pos (by simpa using h3)]
      simp
    exact ⟨by omega, by simp; omega⟩
theorem bkPage_count {w w' : World} {fr n : Int} {E : Nat → Ev} {len : Nat} {ev : List Nat} {fin : Bool} {v : Value} (h : BkPage w fr n E len ev fin v w') :
    (ev.length : Int) = min (downN fr E len : Int) n ∧ fin = decide ((downN fr E len : Int) ≤ n) := by
  have e : (taken fr E (downto len len)).length = downN fr E len := by
    unfold downN taken
    rw [downto_rev, List.filter_reverse, List.length_reverse]
  rcases h.tells with ⟨rfl, rfl, h2⟩ | ⟨rfl, k, hk, rfl, h2, h3⟩
  · rw [e] at h2 ⊢
    exact ⟨by omega, by simp [h2]⟩
  · obtain ⟨r, hr, hs⟩ := downto_pre len k (by omega)
    obtain ⟨s, rfl⟩ := hs hk
    have e : downN fr E len ≥ (taken fr E (downto len k)).length + 1 := by
      rw [← e, hr]
      unfold taken
      rw [List.filter_append, List.length_append, List.filter_cons_of_pos (by simpa using h3)]
      simp
    exact ⟨by omega, by simp; omega⟩

theorem range_sorted (k : Nat) : (List.range k).Pairwise (· < ·) := List.pairwise_lt_range
theorem downto_sorted (len k : Nat) (hk : k ≤ len) : (downto len k).Pairwise (· > ·) := by
  unfold downto
  rw [List.pairwise_map]
  refine List.Pairwise.imp_of_mem (fun {a b} ha hb h => ?_) (range_sorted k)
  simp only [List.mem_range] at ha hb
  omega

theorem getD_get (l : List Nat) (i : Nat) (h : i < l.length) : l.getD i 0 = l[i] := by simp [List.getD, h]

theorem fwPage_rows {w w' : World} {fr n : Int} {E : Nat → Ev} {len : Nat} {ev : List Nat} {fin : Bool} {v : Value} (h : FwPage w fr n E len ev fin v w') (hA : Asc len E) (i : Nat) (hi : i < ev.length) :
    fr ≤ (E (ev.getD i 0)).position ∧ (0 < i → (E (ev.getD (i - 1) 0)).position < (E (ev.getD i 0)).position) := by
  obtain ⟨k, hk, rfl⟩ : ∃ k, k ≤ len ∧ ev = takenF fr E (List.range k) := by
    rcases h.tells with ⟨_, rfl, _⟩ | ⟨_, k, hk, rfl, _⟩
    · exact ⟨len, Nat.le_refl _, rfl⟩
    · exact ⟨k, by omega, rfl⟩
  have hp : (takenF fr E (List.range k)).Pairwise (· < ·) := List.Pairwise.filter _ (range_sorted k)
  have hm : ∀ x ∈ takenF fr E (List.range k), x < k ∧ fr ≤ (E x).position := fun x hx => by
    unfold takenF at hx
    rw [List.mem_filter] at hx
    exact ⟨by simpa using hx.1, by simpa using hx.2⟩
  rw [getD_get _ i hi]
  have h1 := hm _ (List.getElem_mem hi)
  refine ⟨h1.2, fun h0 => ?_⟩
  rw [getD_get _ (i - 1) (by omega)]
  have := List.pairwise_iff_getElem.1 hp (i - 1) i (by omega) hi (by omega)
  exact hA.lt _ _ this (by omega)
theorem bkPage_rows {w w' : World} {fr n : Int} {E : Nat → Ev} {len : Nat} {ev : List Nat} {fin : Bool} {v : Value} (h : BkPage w fr n E len ev fin v w') (hA : Asc len E) (i : Nat) (hi : i < ev.length) :
    (E (ev.getD i 0)).position ≤ fr ∧ (0 < i → (E (ev.getD i 0)).position < (E (ev.getD (i - 1) 0)).position) := by
  obtain ⟨k, hk, rfl⟩ : ∃ k, k ≤ len ∧ ev = taken fr E (downto len k) := by
    rcases h.tells with ⟨_, rfl, _⟩ | ⟨_, k, hk, rfl, _⟩
    · exact ⟨len, Nat.le_refl _, rfl⟩
    · exact ⟨k, by omega, rfl⟩
  have hp : (taken fr E (downto len k)).Pairwise (· > ·) := List.Pairwise.filter _ (downto_sorted len k hk)
  have hm : ∀ x ∈ taken fr E (downto len k), x < len ∧ (E x).position ≤ fr := fun x hx => by
    unfold taken at hx
    rw [List.mem_filter] at hx
    refine ⟨?_, by simpa using hx.2⟩
    have := hx.1
    simp only [downto, List.mem_map, List.mem_range] at this
    omega
  rw [getD_get _ i hi]
  have h1 := hm _ (List.getElem_mem hi)
  refine ⟨h1.2, fun h0 => ?_⟩
  rw [getD_get _ (i - 1) (by omega)]
  have h2 := hm _ (List.getElem_mem (show i - 1 < _ by omega))
  have := List.pairwise_iff_getElem.1 hp (i - 1) i (by omega) hi (by omega)
  exact hA.lt _ _ this h2.1
end Go.Proofs.Ytimmdcajadddmaa
