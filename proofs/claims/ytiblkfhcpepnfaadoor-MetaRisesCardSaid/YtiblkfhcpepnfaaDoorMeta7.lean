/-
  The floor. Conditions: none.
-/
import Derived.Test.YtiblkfhcpepnfaaDoorMeta6
import Derived.WalkLawsBesides
namespace Go.Proofs.YtiblkfhcpepnfaaDoor
open Go.RowKit Go.Lib

/-- A caller's list of ints: nil, or its cells lie in memory below n₀. -/
structure IntArg (n₀ : Nat) (W : World) (ao : Option Addr) (len : Nat) (T : Nat → Int) : Prop where
  at_ : 0 < len → ∃ b off, ao = some ⟨b, off, none⟩ ∧ b < n₀ ∧ ∀ i, i < len → W.cell? ⟨b, off + i, none⟩ = some (.int .i64 (T i))
theorem IntArg.low {n₀ : Nat} {W w : World} {ao : Option Addr} {len : Nat} {T : Nat → Int} (h : IntArg n₀ W ao len T) (hb : Below n₀ W w) : IntArg n₀ w ao len T :=
  ⟨fun hl => by obtain ⟨b, off, e, hn, hi⟩ := h.at_ hl; exact ⟨b, off, e, hn, fun i h2 => (hb.cell (p := ⟨b, off + i, none⟩) hn).trans (hi i h2)⟩⟩
theorem IntArg.up {n₀ n₁ : Nat} {W : World} {ao : Option Addr} {len : Nat} {T : Nat → Int} (h : IntArg n₀ W ao len T) (hn : n₀ ≤ n₁) : IntArg n₁ W ao len T :=
  ⟨fun hl => by obtain ⟨b, off, e, hb, hi⟩ := h.at_ hl; exact ⟨b, off, e, by omega, hi⟩⟩
theorem IntArg.moved {W w : World} {ao : Option Addr} {len : Nat} {T : Nat → Int} (h : IntArg W.heap.size W ao len T) (hb : Below W.heap.size W w) : IntArg w.heap.size w ao len T := (h.low hb).up hb.size

/-- The first place at which p holds, or n. -/
def firstOf (p : Nat → Bool) : Nat → Nat
  | 0 => 0
  | n + 1 => if firstOf p n < n then firstOf p n else if p n then n else n + 1
theorem firstOf_spec (p : Nat → Bool) : ∀ n, firstOf p n ≤ n ∧ (∀ j, j < firstOf p n → p j = false) ∧ (firstOf p n < n → p (firstOf p n) = true)
  | 0 => ⟨Nat.le_refl _, fun j h => by simp [firstOf] at h, fun h => by simp [firstOf] at h⟩
  | n + 1 => by
    obtain ⟨h1, h2, h3⟩ := firstOf_spec p n
    rw [firstOf]
    by_cases hl : firstOf p n < n
    · rw [if_pos hl]
      exact ⟨by omega, h2, fun _ => h3 hl⟩
    · rw [if_neg hl]
      have he : firstOf p n = n := by omega
      rw [he] at h2
      cases hp : p n with
      | true => exact ⟨by simp, by simpa using h2, fun _ => by simpa using hp⟩
      | false =>
        refine ⟨by simp, ?_, fun h => by simp at h⟩
        intro j hj
        simp at hj
        by_cases e : j = n
        · rw [e]; exact hp
        · exact h2 j (by omega)
theorem firstOf_eq (p : Nat → Bool) (n k : Nat) (h1 : k ≤ n) (h2 : ∀ j, j < k → p j = false) (h3 : k < n → p k = true) : firstOf p n = k := by
  obtain ⟨g1, g2, g3⟩ := firstOf_spec p n
  rcases Nat.lt_trichotomy (firstOf p n) k with h | h | h
  · have := g3 (by omega)
    rw [h2 _ h] at this
    cases this
  · exact h
  · have := h3 (by omega)
    rw [g2 _ h] at this
    cases this
/-- Is it not too old? -/
def youngP (age now : Int) (T : Nat → Int) (v : Nat) : Bool := decide (now < -9223372036854775808 + age) || decide (now - age < T v)
def floorOf (m : Mt) (floor now : Int) (T : Nat → Int) (n : Nat) : Int :=
  min (max (max (max (max floor 0) m.c) (if 0 < m.a then (n : Int) - m.a else max (max floor 0) m.c)) (if 0 < m.b then (firstOf (youngP m.b now T) n : Int) else max (max floor 0) m.c)) n

set_option maxHeartbeats 1000000 in
theorem young_any (age now : Int) (ha : 0 < age) (ha2 : age ≤ 9223372036854775807) (hn1 : -9223372036854775808 ≤ now) (hn2 : now ≤ 9223372036854775807) (ao : Option Addr) (len cap : Nat) (hlen : len ≤ maxLen) (T : Nat → Int) (w : World) (hT : IntArg w.heap.size w ao len T) :
    Calls Tryd.prog 26 #[.int .i64 age, .int .i64 now, .slice ao len cap] w fun e w' => e = .returned (.int .i64 (firstOf (youngP age now T) len : Nat)) ∧ w' = w := by
  unfold maxLen at hlen
  have HT := Lib.hid hT; clear hT
  have hwm : IntKind.i64.wrap (-9223372036854775808 + age) = -9223372036854775808 + age := IntWalk.i64_in _ (by omega)
  go_enter Tryd.func26, Tryd.ntmps26
  go_wp2_with fail
  go_loopg [11] len (fun g i wr => ∃ k : Nat, g = len - k ∧ k ≤ len ∧ i = .int .i64 k ∧ (∀ j, j < k → youngP age now T j = false) ∧ wr = w)
  case atStart => exact ⟨0, by omega, by omega, rfl, fun j hj => by omega, rfl⟩
  case round =>
    obtain ⟨k, hg, hk, rfl, hno, rfl⟩ := hrel
    have HG := Lib.hid hg; clear hg
    have HN := Lib.hid hno; clear hno
    by_cases hlt : k < len
    · obtain ⟨b, off, rfl, hb, hi⟩ := HT.out.at_ (by omega)
      have hc := hi k hlt
      clear hi
      have hl : (k : Int) < (len : Int) := by omega
      have hw1 : IntKind.i64.wrap ((k : Int) + 1) = (k : Int) + 1 := IntWalk.i64_in _ (by omega)
      rcases h1 : decide (now < -9223372036854775808 + age) with _ | _
      · have hws : IntKind.i64.wrap (now - age) = now - age := IntWalk.i64_in _ (by simp at h1; omega)
        rcases h2 : decide (now - age < T k) with _ | _
        · have hy : youngP age now T k = false := by rw [youngP, h1, h2]; rfl
          have HY := Lib.hid hy; clear hy
          go_wp2_with fail
          go_roundg (len - (k + 1))
          case measure => have := HG.out; omega
          case rel => exact ⟨k + 1, by omega, by omega, by go_num, fun j hj => by (by_cases e : j = k); (subst e; exact HY.out); exact HN.out j (by omega), rfl⟩
        · have hf : firstOf (youngP age now T) len = k := firstOf_eq _ _ _ (by omega) HN.out (fun _ => by rw [youngP, h1, h2]; rfl)
          have HF := Lib.hid hf; clear hf
          go_wp2_with fail
          go_ret
          exact ⟨by rw [HF.out]; rfl, rfl⟩
      · have hf : firstOf (youngP age now T) len = k := firstOf_eq _ _ _ (by omega) HN.out (fun _ => by rw [youngP, h1]; rfl)
        have HF := Lib.hid hf; clear hf
        go_wp2_with fail
        go_ret
        exact ⟨by rw [HF.out]; rfl, rfl⟩
    · have hkk : k = len := by omega
      subst hkk
      have hl : ¬ (k : Int) < (k : Int) := by omega
      have hf : firstOf (youngP age now T) k = k := firstOf_eq _ _ _ (Nat.le_refl _) HN.out (fun h => by omega)
      have HF := Lib.hid hf; clear hf
      go_wp2_with fail
      go_ret
      exact ⟨by rw [HF.out]; rfl, rfl⟩

theorem ret_eq {a b : Int} (h : a = b) : Ending.returned (.int .i64 a) = .returned (.int .i64 b) := by rw [h]
set_option maxHeartbeats 2000000 in
theorem floor_any (m : Mt) (floor now : Int) (hm1 : m.a ≤ 9223372036854775807) (hm2 : m.b ≤ 9223372036854775807) (hn1 : -9223372036854775808 ≤ now) (hn2 : now ≤ 9223372036854775807) (ao : Option Addr) (len cap : Nat) (hlen : len ≤ maxLen) (T : Nat → Int) (w : World) (hT : IntArg w.heap.size w ao len T) :
    Calls Tryd.prog 13 #[m.val, .int .i64 floor, .int .i64 now, .slice ao len cap] w fun e w' => e = .returned (.int .i64 (floorOf m floor now T len)) ∧ Below w.heap.size w w' := by
  obtain ⟨a, b, c⟩ := m
  simp only [] at hm1 hm2
  have HT := Lib.hid hT; clear hT
  obtain ⟨V, hV⟩ : ∃ V, floorOf ⟨a, b, c⟩ floor now T len = V := ⟨_, rfl⟩
  rw [hV]
  unfold floorOf at hV
  simp only [] at hV
  revert hV
  generalize hY : (firstOf (youngP b now T) len : Int) = Y
  intro hV
  have hwa : 0 < a → IntKind.i64.wrap ((len : Int) - a) = (len : Int) - a := fun ha => IntWalk.i64_in _ (by unfold maxLen at hlen; omega)
  rcases ha : decide (0 < a) with _ | _
  all_goals rcases hb : decide (0 < b) with _ | _
  all_goals simp only [decide_eq_false_iff_not, decide_eq_true_eq] at ha hb
  all_goals try rw [if_pos ha] at hV
  all_goals try rw [if_neg ha] at hV
  all_goals try rw [if_pos hb] at hV
  all_goals try rw [if_neg hb] at hV
  all_goals try (have hwb := hwa ha)
  all_goals clear hwa
  all_goals try (
    have HC := Lib.hid (fun w => fun h => young_any b now hb hm2 hn1 hn2 ao len cap hlen T w h)
    rw [hY] at HC)
  all_goals
    have HV := Lib.hid hV; clear hV hY
    go_enter Tryd.func13, Tryd.ntmps13
    go_wp2_with (first
      | (go_at_call 26; refine (HC.out _ (HT.out.moved (below_alloc _ _))).mono ?_; rintro e w' ⟨rfl, rfl⟩)
      | fail)
  all_goals
    go_ret
    exact ⟨ret_eq (by have := HV.out; omega), below_alloc _ _⟩

set_option maxRecDepth 100000 in
set_option maxHeartbeats 4000000 in
theorem rfloor_any (m : Mt) (floor now : Int) (hm1 : m.a ≤ 9223372036854775807) (hm2 : m.b ≤ 9223372036854775807) (hn1 : -9223372036854775808 ≤ now) (hn2 : now ≤ 9223372036854775807) (ao : Option Addr) (len cap : Nat) (hlen : len ≤ 1000000) (T : Nat → Int) (w : World) (hT : IntArg w.heap.size w ao len T) :
    Calls Tryd.prog 14 #[m.val, .int .i64 floor, .int .i64 now, .slice ao len cap] w fun e w' => e = .returned (.int .i64 (floorOf m floor now T len)) ∧ Below w.heap.size w w' := by
  obtain ⟨a, b, c⟩ := m
  simp only [] at hm1 hm2
  have HT := Lib.hid (hT.moved (below_alloc w (.cells #[.int .i64 a, .int .i64 b, .int .i64 c] 23))); clear hT
  obtain ⟨V, hV⟩ : ∃ V, floorOf ⟨a, b, c⟩ floor now T len = V := ⟨_, rfl⟩
  rw [hV]
  unfold floorOf at hV
  simp only [] at hV
  revert hV
  generalize hY : (firstOf (youngP b now T) len : Int) = Y
  intro hV
  have hwa : 0 < a → IntKind.i64.wrap ((len : Int) - a) = (len : Int) - a := fun ha => IntWalk.i64_in _ (by omega)
  by_cases hb : 0 < b
  · rw [if_pos hb] at hV
    have hwm : IntKind.i64.wrap (-9223372036854775808 + b) = -9223372036854775808 + b := IntWalk.i64_in _ (by omega)
    have HY := Lib.hid hY; clear hY
    rcases ha : decide (0 < a) with _ | _
    all_goals simp only [decide_eq_false_iff_not, decide_eq_true_eq] at ha
    all_goals try rw [if_pos ha] at hV
    all_goals try rw [if_neg ha] at hV
    all_goals try (have hwb := hwa ha)
    all_goals clear hwa
    all_goals
      have HV := Lib.hid hV; clear hV
      go_enter Tryd.func14, Tryd.ntmps14
      go_wp2_with fail
    all_goals
      have hbel := below_alloc w (.cells #[.int .i64 a, .int .i64 b, .int .i64 c] 23)
      have hbx : (w.alloc (.cells #[.int .i64 a, .int .i64 b, .int .i64 c] 23)).cell? ⟨w.heap.size, 1, none⟩ = some (.int .i64 b) := by simp
      revert hbel hbx HT
      generalize w.alloc (.cells #[.int .i64 a, .int .i64 b, .int .i64 c] 23) = W1
      intro HT hbel hbx
      have HBel := Lib.hid hbel; clear hbel
      go_loopg [10] len (fun g i wr => ∃ k : Nat, g = len - k ∧ k ≤ len ∧ i = .int .i64 k ∧ (∀ j, j < k → youngP b now T j = false) ∧ ∃ d, wr = W1.drewN d)
      case atStart => exact ⟨0, by omega, by omega, rfl, fun j hj => by omega, 0, rfl⟩
      case round =>
        obtain ⟨k, hg, hk, rfl, hno, d, rfl⟩ := hrel
        have HG := Lib.hid hg; clear hg
        have HN := Lib.hid hno; clear hno
        by_cases hlt : k < len
        · obtain ⟨bb, off, rfl, hbb, hi⟩ := HT.out.at_ (by omega)
          have hc := hi k hlt
          clear hi
          have hl : (k : Int) < (len : Int) := by omega
          have hl0 : (0 : Int) ≤ (k : Int) := by omega
          have hw1 : IntKind.i64.wrap ((k : Int) + 1) = (k : Int) + 1 := IntWalk.i64_in _ (by omega)
          rcases h1 : decide (now < -9223372036854775808 + b) with _ | _
          · have hws : IntKind.i64.wrap (now - b) = now - b := IntWalk.i64_in _ (by simp at h1; omega)
            rcases h2 : decide (now - b < T k) with _ | _
            · have hy : youngP b now T k = false := by rw [youngP, h1, h2]; rfl
              have HY2 := Lib.hid hy; clear hy
              go_wp2_with fail
              go_quiet (fail)
              go_wp2_with fail
              go_roundg (len - (k + 1))
              case measure => have := HG.out; omega
              case rel => exact ⟨k + 1, by omega, by omega, by go_num, fun j hj => by (by_cases e : j = k); (subst e; exact HY2.out); exact HN.out j (by omega), d + nq, rfl⟩
            · have hf : firstOf (youngP b now T) len = k := firstOf_eq _ _ _ (by omega) HN.out (fun _ => by rw [youngP, h1, h2]; rfl)
              have hyk : Y = (k : Int) := by rw [← HY.out, hf]
              have HF := Lib.hid hyk; clear hf hyk
              go_wp2_with fail
              go_quiet (fail)
              go_wp2_with fail
              go_ret
              exact ⟨ret_eq (by have := HV.out; have := HF.out; omega), below_draws HBel.out _⟩
          · have hf : firstOf (youngP b now T) len = k := firstOf_eq _ _ _ (by omega) HN.out (fun _ => by rw [youngP, h1]; rfl)
            have hyk : Y = (k : Int) := by rw [← HY.out, hf]
            have HF := Lib.hid hyk; clear hf hyk
            go_wp2_with fail
            go_quiet (fail)
            go_wp2_with fail
            go_ret
            exact ⟨ret_eq (by have := HV.out; have := HF.out; omega), below_draws HBel.out _⟩
        · have hkk : k = len := by omega
          subst hkk
          have hl : ¬ (k : Int) < (k : Int) := by omega
          have hld : decide ((k : Int) < (k : Int)) = false := by simp
          have hf : firstOf (youngP b now T) k = k := firstOf_eq _ _ _ (Nat.le_refl _) HN.out (fun h => by omega)
          have hyk : Y = (k : Int) := by rw [← HY.out, hf]
          have HF := Lib.hid hyk; clear hf hyk
          go_wp2_with fail
          go_quiet (fail)
          go_wp2_with fail
          go_ret
          exact ⟨ret_eq (by have := HV.out; have := HF.out; omega), below_draws HBel.out _⟩
  · rw [if_neg hb] at hV
    rcases ha : decide (0 < a) with _ | _
    all_goals simp only [decide_eq_false_iff_not, decide_eq_true_eq] at ha
    all_goals try rw [if_pos ha] at hV
    all_goals try rw [if_neg ha] at hV
    all_goals try (have hwb := hwa ha)
    all_goals clear hwa
    all_goals
      have HV := Lib.hid hV; clear hV hY
      go_enter Tryd.func14, Tryd.ntmps14
      go_wp2_with fail
    all_goals
      go_ret
      exact ⟨ret_eq (by have := HV.out; omega), below_alloc _ _⟩
end Go.Proofs.YtiblkfhcpepnfaaDoor
