/-
  Pages one behind the other are the list: plain. Conditions: none.
-/
import Derived.Test.YtimmdcajadddmaaViewPagesP
namespace Go.Proofs.Ytimmdcajadddmaa
open Go.RowKit Go.Lib

theorem range_filter_ge (s : Nat) : ∀ k, (List.range k).filter (fun x => decide (s ≤ x)) = List.range' s (k - s)
  | 0 => by simp
  | k + 1 => by
    rw [List.range_succ, List.filter_append, range_filter_ge s k]
    by_cases h : s ≤ k
    · rw [List.filter_cons_of_pos (by simpa using h), List.filter_nil, show k + 1 - s = (k - s) + 1 by omega, List.range'_1_concat, show s + (k - s) = k by omega]
    · rw [List.filter_cons_of_neg (by simpa using h), List.filter_nil, show k + 1 - s = k - s by omega, List.append_nil]

theorem downto_filter_lt (len s : Nat) (hs : s ≤ len) : ∀ k, k ≤ len → (downto len k).filter (fun x => decide (x < s)) = (List.range' (len - k) (s - (len - k))).reverse
  | 0, _ => by simp [downto]; omega
  | k + 1, hk => by
    rw [downto_succ, List.filter_append, downto_filter_lt len s hs k (by omega)]
    by_cases h : len - 1 - k < s
    · rw [List.filter_cons_of_pos (by simpa using h), List.filter_nil, show s - (len - (k + 1)) = (s - (len - k)) + 1 by omega, List.range'_succ, List.reverse_cons, show len - (k + 1) + 1 = len - k by omega, show len - (k + 1) = len - 1 - k by omega]
    · rw [List.filter_cons_of_neg (by simpa using h), List.filter_nil, List.append_nil, show s - (len - (k + 1)) = 0 by omega, show s - (len - k) = 0 by omega]
      simp

/-- The place stands ahead of the event s. -/
structure FwAt (E : Nat → Ev) (len s : Nat) (at_ : Int) : Prop where
  le : s ≤ len
  pos : 0 ≤ at_
  is : ∀ i, i < len → (at_ ≤ (E i).position ↔ s ≤ i)
structure BkAt (E : Nat → Ev) (len s : Nat) (at_ : Int) : Prop where
  le : s ≤ len
  pos : 0 ≤ at_
  top : at_ ≤ 9223372036854775807
  is : ∀ i, i < len → ((E i).position ≤ at_ ↔ i < s)

theorem FwAt.start {E : Nat → Ev} {len : Nat} (hA : Asc len E) : FwAt E len 0 0 := ⟨by omega, by omega, fun i hi => ⟨fun _ => by omega, fun _ => (hA i hi).1⟩⟩
theorem BkAt.start {E : Nat → Ev} {len : Nat} (hA : Asc len E) : BkAt E len len 2199023255552 := ⟨by omega, by omega, by omega, fun i hi => ⟨fun _ => hi, fun _ => by have := (hA i hi).2.1; omega⟩⟩

theorem FwAt.taken {E : Nat → Ev} {len s : Nat} {at_ : Int} (h : FwAt E len s at_) (k : Nat) (hk : k ≤ len) : takenF at_ E (List.range k) = List.range' s (k - s) := by
  rw [← range_filter_ge]
  unfold takenF
  apply List.filter_congr
  intro x hx
  have hx' : x < k := by simpa using hx
  rw [decide_eq_decide]
  exact h.is x (by omega)
theorem BkAt.taken {E : Nat → Ev} {len s : Nat} {at_ : Int} (h : BkAt E len s at_) (k : Nat) (hk : k ≤ len) : taken at_ E (downto len k) = (List.range' (len - k) (s - (len - k))).reverse := by
  rw [← downto_filter_lt len s h.le k hk]
  unfold Go.Proofs.Ytimmdcajadddmaa.taken
  apply List.filter_congr
  intro x hx
  have hx' : x < len := by
    simp only [downto, List.mem_map, List.mem_range] at hx
    obtain ⟨i, hi, rfl⟩ := hx
    omega
  rw [decide_eq_decide]
  exact h.is x hx'

theorem fw_step {w w' : World} {n : Int} {E : Nat → Ev} {len s : Nat} {at_ : Int} {ev : List Nat} {fin : Bool} {v : Value} (h : FwPage w at_ n E len ev fin v w') (hA : Asc len E) (hF : FwAt E len s at_) (hn : 1 ≤ n) :
    (fin = true ∧ ev = List.range' s (len - s)) ∨ (fin = false ∧ ∃ k, k < len ∧ s < k ∧ ev = List.range' s (k - s) ∧ FwAt E len k (nextF at_ E ev)) := by
  rcases h.tells with ⟨rfl, rfl, _⟩ | ⟨rfl, k, hk, rfl, h2, h3⟩
  · exact Or.inl ⟨rfl, hF.taken len (Nat.le_refl _)⟩
  · refine Or.inr ⟨rfl, k, hk, ?_, hF.taken k (by omega), ?_⟩
    · rw [hF.taken k (by omega), List.length_range'] at h2
      omega
    · rw [hF.taken k (by omega), List.length_range'] at h2
      rw [hF.taken k (by omega)]
      obtain ⟨j, rfl⟩ : ∃ j, k = j + 1 := ⟨k - 1, by omega⟩
      have e : List.range' s (j + 1 - s) = List.range' s (j - s) ++ [j] := by
        rw [show j + 1 - s = (j - s) + 1 by omega, List.range'_1_concat, show s + (j - s) = j by omega]
      rw [e, nextF_snoc]
      have hj := hA j (by omega)
      unfold nextP
      rw [if_neg (by omega)]
      refine ⟨by omega, by omega, fun i hi => ?_⟩
      rcases Nat.lt_trichotomy i j with hij | rfl | hij
      · have := hA.lt j i hij (by omega); omega
      · omega
      · have := hA.lt i j hij (by omega); omega

theorem bk_step {w w' : World} {n : Int} {E : Nat → Ev} {len s : Nat} {at_ : Int} {ev : List Nat} {fin : Bool} {v : Value} (h : BkPage w at_ n E len ev fin v w') (hA : Asc len E) (hF : BkAt E len s at_) (hn : 1 ≤ n) :
    (fin = true ∧ ev = (List.range' 0 s).reverse) ∨ (fin = false ∧ ∃ m, m < s ∧ ev = (List.range' m (s - m)).reverse ∧ BkAt E len m (nextB at_ E ev)) := by
  have hle := hF.le
  rcases h.tells with ⟨rfl, rfl, _⟩ | ⟨rfl, k, hk, rfl, h2, h3⟩
  · refine Or.inl ⟨rfl, ?_⟩
    rw [hF.taken len (Nat.le_refl _)]
    simp
  · have ht := hF.taken k (by omega)
    rw [ht, List.length_reverse, List.length_range'] at h2
    refine Or.inr ⟨rfl, len - k, by omega, ht, ?_⟩
    rw [ht, show s - (len - k) = (s - (len - k) - 1) + 1 by omega, List.range'_succ, List.reverse_cons, nextB_snoc]
    have hm := hA (len - k) (by omega)
    have hp := hm.2.2 (by omega)
    have h0 := hA (len - k - 1) (by omega)
    refine ⟨by omega, by omega, by omega, fun i hi => ?_⟩
    rcases Nat.lt_trichotomy i (len - k) with hij | rfl | hij
    · have := hA.lt (len - k) i hij (by omega); omega
    · omega
    · have := hA.lt i (len - k) hij (by omega); omega

/-- What has come, forward and backward, with the page behind it. -/
theorem fw_join (s k : Nat) (h : s ≤ k) : List.range s ++ List.range' s (k - s) = List.range k := by
  rw [List.range_eq_range', List.range_eq_range', show List.range' s (k - s) = List.range' (0 + s) (k - s) by simp]
  rw [List.range'_append_1]
  congr 1
  omega
theorem evCells_append (E : Nat → Ev) (a b : List Nat) : evCells E (a ++ b) = evCells E a ++ evCells E b := by simp [evCells]
end Go.Proofs.Ytimmdcajadddmaa
