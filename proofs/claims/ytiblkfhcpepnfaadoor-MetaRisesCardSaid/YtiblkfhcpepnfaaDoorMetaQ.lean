/-
  The floor's plain laws: it never falls; each bound hides what it says. Conditions: none.
-/
import Derived.Test.YtiblkfhcpepnfaaDoorMeta7
namespace Go.Proofs.YtiblkfhcpepnfaaDoor

theorem first_mono (p q : Nat → Bool) (n n' : Nat) (h : n ≤ n') (hpq : ∀ j, j < n → q j = true → p j = true) : firstOf p n ≤ firstOf q n' := by
  obtain ⟨a1, a2, a3⟩ := firstOf_spec p n
  obtain ⟨b1, b2, b3⟩ := firstOf_spec q n'
  refine Classical.byContradiction fun hc => ?_
  have h1 := b3 (by omega)
  have h2 := hpq _ (by omega) h1
  rw [a2 _ (by omega)] at h2
  cases h2
/-- The times of a stream's events. -/
def Times (T : Nat → Int) (len : Nat) (now : Int) : Prop := ∀ i, i < len → 0 ≤ T i ∧ T i ≤ now ∧ (0 < i → T (i - 1) ≤ T i)
theorem Times.le {T : Nat → Int} {len : Nat} {now : Int} (h : Times T len now) : ∀ (j i : Nat), i ≤ j → j < len → T i ≤ T j
  | 0, i, hi, _ => by
    obtain rfl : i = 0 := by omega
    exact Int.le_refl _
  | j + 1, i, hi, hj => by
    by_cases e : i = j + 1
    · rw [e]; exact Int.le_refl _
    · have h1 := h.le j i (by omega) (by omega)
      have h2 := (h (j + 1) hj).2.2 (by omega)
      simp at h2
      omega
theorem young_plain {age now : Int} {T : Nat → Int} {v : Nat} (h0 : 0 ≤ now) (ha : age ≤ 1099511627776) : youngP age now T v = decide (now - age < T v) := by
  unfold youngP
  rw [decide_eq_false (by omega), Bool.false_or]
theorem young_up {age now : Int} {T : Nat → Int} {len : Nat} (hT : Times T len now) (h0 : 0 ≤ now) (ha : age ≤ 1099511627776) (i : Nat) (hi : i < len) (hF : firstOf (youngP age now T) len ≤ i) : now - age < T i := by
  obtain ⟨a1, a2, a3⟩ := firstOf_spec (youngP age now T) len
  have h1 := a3 (by omega)
  rw [young_plain h0 ha] at h1
  have h2 := of_decide_eq_true h1
  have := hT.le i _ hF hi
  omega
theorem young_down {age now : Int} {T : Nat → Int} {len : Nat} (h0 : 0 ≤ now) (ha : age ≤ 1099511627776) (i : Nat) (hF : i < firstOf (youngP age now T) len) : T i ≤ now - age := by
  obtain ⟨a1, a2, a3⟩ := firstOf_spec (youngP age now T) len
  have h1 := a2 i hF
  rw [young_plain h0 ha] at h1
  have := of_decide_eq_false h1
  omega

theorem floor_range (m : Mt) (floor now : Int) (T : Nat → Int) (n : Nat) : 0 ≤ floorOf m floor now T n ∧ floorOf m floor now T n ≤ n ∧ (n < floor ∨ floor ≤ floorOf m floor now T n) := by
  unfold floorOf
  obtain ⟨a1, -, -⟩ := firstOf_spec (youngP m.b now T) n
  split <;> split <;> omega
theorem floor_later (m : Mt) (floor now more : Int) (T T' : Nat → Int) (n n' : Nat) (hn : n ≤ n') (h0 : 0 ≤ now) (hb : m.b ≤ 1099511627776) (hm : 0 ≤ more) (hTT : ∀ i, i < n → T' i = T i) : floorOf m floor now T n ≤ floorOf m floor (now + more) T' n' := by
  unfold floorOf
  have h := first_mono (youngP m.b now T) (youngP m.b (now + more) T') n n' hn (fun j hj => by
    rw [young_plain h0 hb, young_plain (by omega) hb, hTT j hj]
    simp only [decide_eq_true_eq]
    omega)
  obtain ⟨a1, -, -⟩ := firstOf_spec (youngP m.b now T) n
  split <;> split <;> omega
theorem floor_handed (m : Mt) (a now : Int) (T : Nat → Int) (n : Nat) (h0 : 0 ≤ a) (h1 : a ≤ n) : a ≤ floorOf m a now T n := by
  unfold floorOf
  split <;> split <;> omega
/-- What MetaRises asks. -/
theorem rises (m n : Mt) (floor now more : Int) (T T' : Nat → Int) (len : Nat) (h0 : 0 ≤ now) (hb : m.b ≤ 1099511627776) (hm : 0 ≤ more) (hTT : ∀ i, i < len → T' i = T i) (a b c d : Int)
    (ha : floorOf m floor now T len = a) (hbb : floorOf m floor (now + more) T len = b) (hc : floorOf m floor (now + more) T' (len + 1) = c) (hd : floorOf n a (now + more) T len = d) :
    0 ≤ a ∧ a ≤ len ∧ a ≤ b ∧ b ≤ len ∧ b ≤ c ∧ c ≤ len + 1 ∧ a ≤ d ∧ (len < floor ∨ floor ≤ a) := by
  subst ha hbb hc hd
  have r1 := floor_range m floor now T len
  have r2 := floor_range m floor (now + more) T len
  have r3 := floor_range m floor (now + more) T' (len + 1)
  have r4 := floor_later m floor now more T T len len (Nat.le_refl _) h0 hb hm (fun _ _ => rfl)
  have r5 := floor_later m floor (now + more) 0 T T' len (len + 1) (by omega) (by omega) hb (by omega) hTT
  rw [Int.add_zero] at r5
  have r6 := floor_handed n (floorOf m floor now T len) (now + more) T len r1.1 r1.2.1
  exact ⟨r1.1, r1.2.1, r4, r2.2.1, r5, by have := r3.2.1; omega, r6, r1.2.2⟩

/-- How many are old among the first k. -/
def oldN (age now : Int) (T : Nat → Int) : Nat → Nat
  | 0 => 0
  | k + 1 => oldN age now T k + if age ≤ now - T k then 1 else 0
theorem oldN_le (age now : Int) (T : Nat → Int) : ∀ k, oldN age now T k ≤ k
  | 0 => Nat.le_refl _
  | k + 1 => by
    have := oldN_le age now T k
    rw [oldN]
    split <;> omega
theorem old_min {age now : Int} {T : Nat → Int} {len : Nat} (hT : Times T len now) (h0 : 0 ≤ now) (ha : age ≤ 1099511627776) : ∀ k, k ≤ len → oldN age now T k = min k (firstOf (youngP age now T) len)
  | 0, _ => by simp [oldN]
  | k + 1, hk => by
    rw [oldN, old_min hT h0 ha k (by omega)]
    by_cases h : k < firstOf (youngP age now T) len
    · have := young_down h0 ha k h
      rw [if_pos (by omega)]
      omega
    · have := young_up hT h0 ha k (by omega) (by omega)
      rw [if_neg (by omega)]
      omega
/-- What MetaBounds asks. -/
theorem bounds (count age before now : Int) (T : Nat → Int) (n : Nat) (hT : Times T n now) (h0 : 0 ≤ now) (hc : 0 ≤ count) (hb : 0 ≤ before) (ha0 : 0 ≤ age) (ha : age ≤ 1099511627776) (a b c d z : Int)
    (e1 : floorOf ⟨count, 0, 0⟩ 0 now T n = a) (e2 : floorOf ⟨0, age, 0⟩ 0 now T n = b) (e3 : floorOf ⟨0, 0, before⟩ 0 now T n = c) (e4 : floorOf ⟨count, age, before⟩ 0 now T n = d) (e5 : floorOf ⟨0, 0, 0⟩ 0 now T n = z) :
    (a = if 0 < count then max (n - count) 0 else 0) ∧ (b = if 0 < age then (oldN age now T n : Int) else 0) ∧ c = min before n ∧ d = max a (max b c) ∧ z = 0 := by
  subst e1 e2 e3 e4 e5
  have ho := old_min hT h0 ha n (Nat.le_refl _)
  obtain ⟨a1, -, -⟩ := firstOf_spec (youngP age now T) n
  unfold floorOf
  simp only []
  have h00 : ¬ (0 : Int) < 0 := by omega
  simp only [if_neg h00]
  by_cases h1 : 0 < count <;> by_cases h2 : 0 < age
  · simp only [if_pos h1, if_pos h2]; omega
  · simp only [if_pos h1, if_neg h2]; omega
  · simp only [if_neg h1, if_pos h2]; omega
  · simp only [if_neg h1, if_neg h2]; omega
end Go.Proofs.YtiblkfhcpepnfaaDoor
