/-
  chroniclebook.LentStored, StaysStored. Conditions: none.
-/
import Derived.Test.YtidjnfjpdnjogaaDoorPxLe
import Derived.Laws.AppendOwnNone
namespace Go.Proofs.YtidjnfjpdnjogaaDoor
open Go.RowKit Go.Lib

def evCells (E : Nat → Ev) (l : List Nat) : List Value := (l.map fun x => (E x).cells.toList).flatten


theorem evCells_at (E : Nat → Ev) (l : List Nat) (i j : Nat) (hi : i < l.length) (hj : j < 8) : (evCells E l)[i * 8 + j]? = (E (l.getD i 0)).cells.toList[j]? := by
  induction l generalizing i with
  | nil => simp at hi
  | cons x l ih =>
    have e : evCells E (x :: l) = (E x).cells.toList ++ evCells E l := by simp [evCells]
    rw [e]
    have h8 : (E x).cells.toList.length = 8 := rfl
    cases i with
    | zero => rw [List.getElem?_append_left (by rw [h8]; omega)]; simp
    | succ i =>
      rw [List.getElem?_append_right (by rw [h8]; omega), h8, show (i + 1) * 8 + j - 8 = i * 8 + j by omega, ih i (by simpa using hi)]
      simp


theorem infoS : (Tryd.prog.info? 54).map (fun i => (i.zero, i.size, i.bytes)) = some (some (.agg #[.int .i64 0, .string ⟨#[]⟩, .string ⟨#[]⟩, .float .f64 0, .string ⟨#[]⟩, .int .i64 0, .int .i64 0, .int .i64 0]), 8, 88) := by kernel_rfl


theorem evCells_one (E : Nat → Ev) (l : List Nat) : ∀ u ∈ evCells E l, u.oneCell' = true := by
  intro u hu
  simp only [evCells, List.mem_flatten, List.mem_map] at hu
  obtain ⟨c, ⟨x, _, rfl⟩, hu⟩ := hu
  revert u
  unfold Ev.cells
  simp [Value.oneCell']
theorem EvArg.up {n₀ n₁ : Nat} {W : World} {ao : Option Addr} {len : Nat} {E : Nat → Ev} (h : EvArg n₀ W ao len E) (hn : n₀ ≤ n₁) : EvArg n₁ W ao len E :=
  ⟨fun hl => by obtain ⟨b, off, e, hb, hi⟩ := h.at_ hl; exact ⟨b, off, e, by omega, hi⟩⟩
theorem sameS_self (a : Ev) : sameS a a = true := by simp [sameS, sameE, sameW]
theorem evCells_len (E : Nat → Ev) (l : List Nat) : (evCells E l).length = l.length * 8 := by
  induction l with
  | nil => rfl
  | cons x l ih => rw [show evCells E (x :: l) = (E x).cells.toList ++ evCells E l by simp [evCells], List.length_append, ih, List.length_cons]; show 8 + _ = _; omega

/-- A caller's list, appended onto an own row. -/
theorem wpList_append_evs {ops : Array Oper} {rest : List Oper} {o : Oper} {a : Act} {Q : Exit → Act → World → Prop} {w : World} (hgd : o.guard = none) (s x : Operand)
    (ho : o.op = .call { callee := .builtin .append, args := #[s, x], argTypes := #[48, 48] }) (base : Nat) (v : Value) (n : Nat) (xs : List Value) (hs : a.eval s = v) (hown : w.ownsRow base 54 8 v n xs)
    (ao : Option Addr) (len cap : Nat) (E : Nat → Ev) (hx : a.eval x = .slice ao len cap) (hE : EvArg w.heap.size w ao len E) (hc : ao = none → cap = 0) (hnm : n + len ≤ 1000) (hbase : base ≤ w.heap.size)
    (h : ∀ v' w', w'.ownsRow base 54 8 v' (n + len) (xs ++ evCells E (List.range len)) → w.grownBy w' v.ownBlock → wpList Tryd.prog ops Q rest (a.put o.dst v') w') : wpList Tryd.prog ops Q (o :: rest) a w := by
  obtain ⟨i0, hi0, hz0, hs0, hb0'⟩ := info_parts infoS
  cases ao with
  | none =>
    obtain rfl : len = 0 := by
      refine Classical.byContradiction fun hl => ?_
      obtain ⟨b, off, e, _⟩ := hE.at_ (by omega)
      cases e
    obtain rfl := hc rfl
    refine wpList_append_own_none hgd s x 48 ho base 54 i0 8 Tryd.underlying48 hi0 v n xs hs hown hx ?_
    exact h v w (by simpa [evCells] using hown) ⟨rfl, rfl, rfl, Nat.le_refl _, fun _ _ _ => rfl⟩
  | some ad =>
    refine wpList_append_own w hgd s x 48 ho base 54 i0 _ 8 88 Tryd.underlying48 hi0 hz0 hs0 hb0' rfl (by decide) v n xs hs hown ad len cap (evCells E (List.range len)) hx (by rw [evCells_len, List.length_range]) ?_ (evCells_one E _) (by unfold maxLen; omega) (by omega) hbase
      fun v' w' a1 a2 _ => h v' w' a1 a2
    intro j u hu
    have hj : j < len * 8 := by
      have := (List.getElem?_eq_some_iff.1 hu).1
      rw [evCells_len, List.length_range] at this
      exact this
    obtain ⟨b, off, e, hb, hi⟩ := hE.at_ (by omega)
    cases e
    obtain ⟨i, r, hr, rfl⟩ : ∃ i r, r < 8 ∧ j = i * 8 + r := ⟨j / 8, j % 8, Nat.mod_lt _ (by decide), by omega⟩
    have hil : i < len := by omega
    rw [evCells_at E _ i r (by rw [List.length_range]; exact hil) hr] at hu
    have hg : (List.range len).getD i 0 = i := by simp [List.getD, hil]
    rw [hg] at hu
    rw [addr_add1, ← Nat.add_assoc]
    have hcs := hi.rd i hil
    obtain ⟨s0, s1, s2, s3, s4, s5, s6, s7⟩ := hcs
    match r, hr with
    | 0, _ => simp [Ev.cells] at hu; rw [← hu]; exact s0
    | 1, _ => simp [Ev.cells] at hu; rw [← hu]; exact s1
    | 2, _ => simp [Ev.cells] at hu; rw [← hu]; exact s2
    | 3, _ => simp [Ev.cells] at hu; rw [← hu]; exact s3
    | 4, _ => simp [Ev.cells] at hu; rw [← hu]; exact s4
    | 5, _ => simp [Ev.cells] at hu; rw [← hu]; exact s5
    | 6, _ => simp [Ev.cells] at hu; rw [← hu]; exact s6
    | 7, _ => simp [Ev.cells] at hu; rw [← hu]; exact s7

/-- A row appended onto an own row. -/
theorem wpList_append_row {ops : Array Oper} {rest : List Oper} {o : Oper} {a : Act} {Q : Exit → Act → World → Prop} {w : World} (hgd : o.guard = none) (s x : Operand)
    (ho : o.op = .call { callee := .builtin .append, args := #[s, x], argTypes := #[48, 48] }) (base base2 : Nat) (v : Value) (n : Nat) (xs : List Value) (hs : a.eval s = v) (hown : w.ownsRow base 54 8 v n xs)
    (sv : Value) (m : Nat) (ys : List Value) (hx : a.eval x = sv) (hown2 : w.ownsRow base2 54 8 sv m ys) (h1 : ∀ u ∈ ys, u.oneCell' = true) (hnm : n + m ≤ 1000) (hbase : base ≤ w.heap.size)
    (h : ∀ v' w', w'.ownsRow base 54 8 v' (n + m) (xs ++ ys) → w.grownBy w' v.ownBlock → wpList Tryd.prog ops Q rest (a.put o.dst v') w') : wpList Tryd.prog ops Q (o :: rest) a w := by
  obtain ⟨i0, hi0, hz0, hs0, hb0'⟩ := info_parts infoS
  have hl := hown2.1
  rcases hown2.2 with ⟨rfl, hm⟩ | ⟨g, cap, cur, rfl, hg, hgg, _⟩
  · subst hm
    have hy : ys = [] := by
      cases ys with
      | nil => rfl
      | cons y ys => simp at hl
    subst hy
    refine wpList_append_own_none hgd s x 48 ho base 54 i0 8 Tryd.underlying48 hi0 v n xs hs hown hx ?_
    have := h v w (by simpa using hown) ⟨rfl, rfl, rfl, Nat.le_refl _, fun _ _ _ => rfl⟩
    exact this
  · exact wpList_append_own w hgd s x 48 ho base 54 i0 _ 8 88 Tryd.underlying48 hi0 hz0 hs0 hb0' rfl (by decide) v n xs hs hown ⟨g, 0, none⟩ m cap ys hx (by simpa using hl) (hown2.cells (g := g) rfl) h1 (by unfold maxLen; omega) (by omega) hbase
      fun v' w' a1 a2 _ => h v' w' a1 a2
theorem one_row {w : World} (e : Ev) {B : Nat} (hB : B ≤ w.heap.size) : (w.alloc (.cells e.cells 54)).ownsRow B 54 8 (.slice (some ⟨w.heap.size, 0, none⟩) 1 1) 1 e.cells.toList :=
  ⟨rfl, Or.inr ⟨_, 1, e.cells, rfl, hB, new_block _ _, by decide, by decide, rfl, rfl⟩⟩

/-- The mark behind a lent list. -/
def markE : Ev := ⟨0, ⟨#[]⟩, ⟨#[]⟩, 0, ⟨#[]⟩, 0, -77, 0⟩
/-- A lent list: a copy, and a mark behind it. -/
structure Lent (n₀ : Nat) (w : World) (g c len : Nat) (E : Nat → Ev) : Prop where
  own : w.ownsRow n₀ 54 8 (.slice (some ⟨g, 0, none⟩) (len + 1) c) (len + 1) (evCells E (List.range len) ++ markE.cells.toList)
def LentPost (W : World) (len : Nat) (E : Nat → Ev) (e : Ending) (w' : World) : Prop := ∃ g c, e = .returned (.slice (some ⟨g, 0, none⟩) len c) ∧ Lent W.heap.size w' g c len E ∧ Below W.heap.size W w'

theorem Lent.block {n₀ : Nat} {w : World} {g c len : Nat} {E : Nat → Ev} (h : Lent n₀ w g c len E) : ∃ cur : Array Value, n₀ ≤ g ∧ w.heap[g]? = some (.cells cur 54) ∧ len + 1 ≤ c ∧ c ≤ maxLen ∧ ∀ (j : Nat) (u : Value), (evCells E (List.range len) ++ markE.cells.toList)[j]? = some u → cur[j]? = some u := by
  rcases h.own.2 with ⟨e, _⟩ | ⟨g', c', cur, e, hg, hh, hn, hm, hsz, ht⟩
  · cases e
  · cases e
    refine ⟨cur, hg, hh, hn, hm, fun j u hu => ?_⟩
    rw [← ht, List.getElem?_take] at hu
    split at hu
    · simpa using hu
    · cases hu
theorem Lent.arg {n₀ : Nat} {w : World} {g c len : Nat} {E : Nat → Ev} (h : Lent n₀ w g c len E) : EvArg w.heap.size w (some ⟨g, 0, none⟩) len E := by
  obtain ⟨cur, hg, hh, hn, hm, hj⟩ := h.block
  have key : ∀ i r, i < len → r < 8 → w.cell? ⟨g, 0 + i * 8 + r, none⟩ = (E i).cells.toList[r]? := by
    intro i r hi hr
    have h1 := evCells_at E (List.range len) i r (by rw [List.length_range]; exact hi) hr
    have hgd : (List.range len).getD i 0 = i := by simp [List.getD, hi]
    rw [hgd] at h1
    obtain ⟨u, hu⟩ : ∃ u, (E i).cells.toList[r]? = some u := ⟨_, List.getElem?_eq_getElem (show r < 8 from hr)⟩
    rw [hu] at h1 ⊢
    have h2 := hj (i * 8 + r) u (by rw [List.getElem?_append_left (by rw [evCells_len, List.length_range]; omega)]; exact h1)
    simp [World.cell?, hh, h2]
  refine ⟨fun hl => ⟨g, 0, rfl, lt_of_block hh, ⟨lt_of_block hh, ?_, ?_, ?_, ?_, ?_, ?_, ?_, ?_⟩⟩⟩
  · intro i hi; exact (key i 0 hi (by decide)).trans rfl
  · intro i hi; exact (key i 1 hi (by decide)).trans rfl
  · intro i hi; exact (key i 2 hi (by decide)).trans rfl
  · intro i hi; exact (key i 3 hi (by decide)).trans rfl
  · intro i hi; exact (key i 4 hi (by decide)).trans rfl
  · intro i hi; exact (key i 5 hi (by decide)).trans rfl
  · intro i hi; exact (key i 6 hi (by decide)).trans rfl
  · intro i hi; exact (key i 7 hi (by decide)).trans rfl
theorem Lent.mark {n₀ : Nat} {w : World} {g c len : Nat} {E : Nat → Ev} (h : Lent n₀ w g c len E) : w.cell? ⟨g, len * 8 + 6, none⟩ = some (.int .i64 (-77)) := by
  obtain ⟨cur, hg, hh, hn, hm, hj⟩ := h.block
  have h2 := hj (len * 8 + 6) (.int .i64 (-77)) (by
    rw [List.getElem?_append_right (by rw [evCells_len, List.length_range]; omega), evCells_len, List.length_range, Nat.add_sub_cancel_left]; rfl)
  simp [World.cell?, hh, h2]
theorem Lent.keep {n₀ : Nat} {w w' : World} {g c len : Nat} {E : Nat → Ev} (h : Lent n₀ w g c len E) (hb : Below w.heap.size w w') : Lent n₀ w' g c len E :=
  ⟨own_same h.own fun k hk => by
    obtain ⟨cur, hg, hh, _⟩ := h.block
    cases hk
    exact hb.block _ (lt_of_block hh)⟩

set_option maxHeartbeats 1000000 in
theorem lent_any (ao : Option Addr) (len cap : Nat) (hlen : len ≤ 900) (hc : ao = none → cap = 0) (E : Nat → Ev) (W : World) (hE : EvArg W.heap.size W ao len E) :
    Calls Tryd.prog 22 #[.slice ao len cap] W (LentPost W len E) := by
  have HE := Lib.hid hE; clear hE
  have HC := Lib.hid hc; clear hc
  go_enter Tryd.func22, Tryd.ntmps22
  go_wp2_with (first
    | (at_builtin; refine wpList_append_evs rfl _ _ rfl W.heap.size (.slice none 0 0) 0 [] rfl (World.ownsRow_nil _ _ _ _) ao len cap E rfl HE.out HC.out (by omega) (Nat.le_refl _) ?_)
    | fail)
  intro v1 w1 hown hgr
  have hb1 : Below W.heap.size W w1 := (Below.refl _ W).grown hgr (Nat.le_refl _) (fun g e => by cases e)
  have HO := Lib.hid hown; clear hown hgr
  have HB := Lib.hid hb1
  have hsz := hb1.size
  clear hb1
  go_wp2_with (first
    | (at_builtin; refine wpList_append_row rfl _ _ rfl W.heap.size W.heap.size _ len (evCells E (List.range len)) rfl ?c1 _ 1 markE.cells.toList rfl ?c2 (by decide) (by omega) ?c4 ?_)
    | fail)
  case c1 => exact HO.out.alloc _
  case c2 => exact one_row markE hsz
  case c4 => simp; omega
  intro v2 w2 hown2 hgr2
  have hb2 : Below W.heap.size W w2 := by
    have h0 : Below W.heap.size W (w1.alloc (.cells markE.cells 54)) := HB.out.alloc hsz _
    exact h0.grown hgr2 h0.size (fun g e => (HO.out.lt g e).1)
  rcases hown2.2 with ⟨_, h0⟩ | ⟨g, c, cur, rfl, hg, hh, hn, hm, hz, ht⟩
  · omega
  have hL : Lent W.heap.size w2 g c len E := ⟨hown2⟩
  have HR := Lib.hid (And.intro hL hb2)
  clear hown2 hgr2 hh ht hz hL hb2 hg HO HB
  have k1 : (len : Int) ≤ (c : Int) := by omega
  have k2 : (0 : Int) ≤ (len : Int) := by omega
  unfold maxLen at hm
  have k3 : (c : Int) ≤ 9223372036854775807 := by omega
  go_wp2_with fail
  go_ret
  exact ⟨g, c, rfl, HR.out.1, HR.out.2⟩

set_option maxRecDepth 100000 in
set_option maxHeartbeats 1000000 in
theorem stays_any (n₀ g c : Nat) (ao : Option Addr) (len cap : Nat) (hlen : len ≤ 900) (E : Nat → Ev) (W : World) (hL : Lent n₀ W g c len E) (hE : EvArg W.heap.size W ao len E) :
    Calls Tryd.prog 24 #[.slice (some ⟨g, 0, none⟩) len c, .slice ao len cap] W fun e w' => e = .returned (.bool true) ∧ Below W.heap.size W w' := by
  have HE := Lib.hid hE; clear hE
  have HL := Lib.hid hL; clear hL
  have hw : IntKind.i64.wrap ((len : Int) + 1) = (len : Int) + 1 := IntWalk.i64_in _ (by omega)
  obtain ⟨cur, hg, hh, hn, hm, hj⟩ := HL.out.block
  unfold maxLen at hm
  clear hj hh hg
  have k1 : (len : Int) + 1 ≤ (c : Int) := by omega
  have k2 : (0 : Int) ≤ (len : Int) + 1 := by omega
  have k3 : (c : Int) ≤ 9223372036854775807 := by omega
  have k4 : (0 : Int) ≤ (len : Int) := by omega
  have k5 : (len : Int) < (len : Int) + 1 := by omega
  have k6 : ((len : Int) + 1).toNat = len + 1 := by omega
  go_enter Tryd.func24, Tryd.ntmps24
  go_wp2_with (first
    | (go_at_call 40
       refine (sameList_any (some ⟨g, 0, none⟩) ao len c cap (by omega) E E (fun i _ => sameS_self _) W HL.out.arg HE.out).mono ?_
       rintro e w1 ⟨rfl, hb1⟩
       have hM := (HL.out.keep hb1).mark
       replace hb1 := Lib.hid hb1)
    | fail)
  go_ret
  exact ⟨rfl, hb1.out⟩


end Go.Proofs.YtidjnfjpdnjogaaDoor
