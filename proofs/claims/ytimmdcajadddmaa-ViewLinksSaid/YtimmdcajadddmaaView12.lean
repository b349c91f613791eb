/-
  chroniclebook.LentStored, StaysStored; what a link leads to. Conditions: none.
-/
import Derived.Test.YtimmdcajadddmaaViewWalksP
import Derived.Test.YtimmdcajadddmaaView10
import Derived.Test.YtimmdcajadddmaaN
import Derived.Laws.AppendOwnNone
namespace Go.Proofs.Ytimmdcajadddmaa
open Go.RowKit Go.Lib

theorem evCells_one (E : Nat → Ev) (l : List Nat) : ∀ u ∈ evCells E l, u.oneCell' = true := by
  intro u hu
  simp only [evCells, List.mem_flatten, List.mem_map] at hu
  obtain ⟨c, ⟨x, _, rfl⟩, hu⟩ := hu
  revert u
  unfold Ev.cells
  simp [Value.oneCell']
theorem EvArg.up {n₀ n₁ : Nat} {W : World} {ao : Option Addr} {len : Nat} {E : Nat → Ev} (h : EvArg n₀ W ao len E) (hn : n₀ ≤ n₁) : EvArg n₁ W ao len E :=
  ⟨fun hl => by obtain ⟨b, off, e, hb, hi⟩ := h.at_ hl; exact ⟨b, off, e, by omega, hi⟩⟩
theorem same_self (a : Ev) : sameS a a = true := by simp [sameS, sameE, sameW]
theorem evCells_len (E : Nat → Ev) (l : List Nat) : (evCells E l).length = l.length * 8 := by
  induction l with
  | nil => rfl
  | cons x l ih => rw [show evCells E (x :: l) = (E x).cells.toList ++ evCells E l by simp [evCells], List.length_append, ih, List.length_cons]; show 8 + _ = _; omega

/-- A caller's list, appended onto an own row. -/
theorem wpList_append_evs {ops : Array Oper} {rest : List Oper} {o : Oper} {a : Act} {Q : Exit → Act → World → Prop} {w : World} (hgd : o.guard = none) (s x : Operand)
    (ho : o.op = .call { callee := .builtin .append, args := #[s, x], argTypes := #[22, 22] }) (base : Nat) (v : Value) (n : Nat) (xs : List Value) (hs : a.eval s = v) (hown : w.ownsRow base 29 8 v n xs)
    (ao : Option Addr) (len cap : Nat) (E : Nat → Ev) (hx : a.eval x = .slice ao len cap) (hE : EvArg w.heap.size w ao len E) (hc : ao = none → cap = 0) (hnm : n + len ≤ 1000) (hbase : base ≤ w.heap.size)
    (h : ∀ v' w', w'.ownsRow base 29 8 v' (n + len) (xs ++ evCells E (List.range len)) → w.grownBy w' v.ownBlock → wpList Try.prog ops Q rest (a.put o.dst v') w') : wpList Try.prog ops Q (o :: rest) a w := by
  obtain ⟨i0, hi0, hz0, hs0, hb0'⟩ := info_parts info29
  cases ao with
  | none =>
    obtain rfl : len = 0 := by
      refine Classical.byContradiction fun hl => ?_
      obtain ⟨b, off, e, _⟩ := hE.at_ (by omega)
      cases e
    obtain rfl := hc rfl
    refine wpList_append_own_none hgd s x 22 ho base 29 i0 8 Try.underlying22 hi0 v n xs hs hown hx ?_
    exact h v w (by simpa [evCells] using hown) ⟨rfl, rfl, rfl, Nat.le_refl _, fun _ _ _ => rfl⟩
  | some ad =>
    refine wpList_append_own w hgd s x 22 ho base 29 i0 _ 8 88 Try.underlying22 hi0 hz0 hs0 hb0' rfl (by decide) v n xs hs hown ad len cap (evCells E (List.range len)) hx (by rw [evCells_len, List.length_range]) ?_ (evCells_one E _) (by unfold maxLen; omega) (by omega) hbase
      fun v' w' a1 a2 _ => h v' w' a1 a2
    intro j u hu
    have hj : j < len * 8 := by
      have := (List.getElem?_eq_some_iff.1 hu).1
      rw [evCells_len, List.length_range] at this
      exact this
    obtain ⟨b, off, e, hb, hi⟩ := hE.at_ (by omega)
    cases e
    obtain ⟨i, r, hr, rfl⟩ : ∃ i r, r < 8 ∧ j = i * 8 + r := ⟨j / 8, j % 8, Nat.mod_lt _ (by decide), by omega⟩
    have hil : i < len := by omega
    rw [evCells_at E _ i r (by rw [List.length_range]; exact hil) hr] at hu
    have hg : (List.range len).getD i 0 = i := by simp [List.getD, hil]
    rw [hg] at hu
    rw [addr_add1, ← Nat.add_assoc]
    have hcs := hi.rd i hil
    obtain ⟨s0, s1, s2, s3, s4, s5, s6, s7⟩ := hcs
    match r, hr with
    | 0, _ => simp [Ev.cells] at hu; rw [← hu]; exact s0
    | 1, _ => simp [Ev.cells] at hu; rw [← hu]; exact s1
    | 2, _ => simp [Ev.cells] at hu; rw [← hu]; exact s2
    | 3, _ => simp [Ev.cells] at hu; rw [← hu]; exact s3
    | 4, _ => simp [Ev.cells] at hu; rw [← hu]; exact s4
    | 5, _ => simp [Ev.cells] at hu; rw [← hu]; exact s5
    | 6, _ => simp [Ev.cells] at hu; rw [← hu]; exact s6
    | 7, _ => simp [Ev.cells] at hu; rw [← hu]; exact s7

/-- A row appended onto an own row. -/
theorem wpList_append_row {ops : Array Oper} {rest : List Oper} {o : Oper} {a : Act} {Q : Exit → Act → World → Prop} {w : World} (hgd : o.guard = none) (s x : Operand)
    (ho : o.op = .call { callee := .builtin .append, args := #[s, x], argTypes := #[22, 22] }) (base base2 : Nat) (v : Value) (n : Nat) (xs : List Value) (hs : a.eval s = v) (hown : w.ownsRow base 29 8 v n xs)
    (sv : Value) (m : Nat) (ys : List Value) (hx : a.eval x = sv) (hown2 : w.ownsRow base2 29 8 sv m ys) (h1 : ∀ u ∈ ys, u.oneCell' = true) (hnm : n + m ≤ 1000) (hbase : base ≤ w.heap.size)
    (h : ∀ v' w', w'.ownsRow base 29 8 v' (n + m) (xs ++ ys) → w.grownBy w' v.ownBlock → wpList Try.prog ops Q rest (a.put o.dst v') w') : wpList Try.prog ops Q (o :: rest) a w := by
  obtain ⟨i0, hi0, hz0, hs0, hb0'⟩ := info_parts info29
  have hl := hown2.1
  rcases hown2.2 with ⟨rfl, hm⟩ | ⟨g, cap, cur, rfl, hg, hgg, _⟩
  · subst hm
    have hy : ys = [] := by
      cases ys with
      | nil => rfl
      | cons y ys => simp at hl
    subst hy
    refine wpList_append_own_none hgd s x 22 ho base 29 i0 8 Try.underlying22 hi0 v n xs hs hown hx ?_
    have := h v w (by simpa using hown) ⟨rfl, rfl, rfl, Nat.le_refl _, fun _ _ _ => rfl⟩
    exact this
  · exact wpList_append_own w hgd s x 22 ho base 29 i0 _ 8 88 Try.underlying22 hi0 hz0 hs0 hb0' rfl (by decide) v n xs hs hown ⟨g, 0, none⟩ m cap ys hx (by simpa using hl) (hown2.cells (g := g) rfl) h1 (by unfold maxLen; omega) (by omega) hbase
      fun v' w' a1 a2 _ => h v' w' a1 a2
theorem one_row {w : World} (e : Ev) {B : Nat} (hB : B ≤ w.heap.size) : (w.alloc (.cells e.cells 29)).ownsRow B 29 8 (.slice (some ⟨w.heap.size, 0, none⟩) 1 1) 1 e.cells.toList :=
  ⟨rfl, Or.inr ⟨_, 1, e.cells, rfl, hB, new_block _ _, by decide, by decide, rfl, rfl⟩⟩

/-- The mark behind a lent list. -/
def markE : Ev := ⟨0, ⟨#[]⟩, ⟨#[]⟩, 0, ⟨#[]⟩, 0, -77, 0⟩
/-- A lent list: a copy, and a mark behind it. -/
structure Lent (n₀ : Nat) (w : World) (g c len : Nat) (E : Nat → Ev) : Prop where
  own : w.ownsRow n₀ 29 8 (.slice (some ⟨g, 0, none⟩) (len + 1) c) (len + 1) (evCells E (List.range len) ++ markE.cells.toList)
def LentPost (W : World) (len : Nat) (E : Nat → Ev) (e : Ending) (w' : World) : Prop := ∃ g c, e = .returned (.slice (some ⟨g, 0, none⟩) len c) ∧ Lent W.heap.size w' g c len E ∧ Below W.heap.size W w'

theorem Lent.block {n₀ : Nat} {w : World} {g c len : Nat} {E : Nat → Ev} (h : Lent n₀ w g c len E) : ∃ cur : Array Value, n₀ ≤ g ∧ w.heap[g]? = some (.cells cur 29) ∧ len + 1 ≤ c ∧ c ≤ maxLen ∧ ∀ (j : Nat) (u : Value), (evCells E (List.range len) ++ markE.cells.toList)[j]? = some u → cur[j]? = some u := by
  rcases h.own.2 with ⟨e, _⟩ | ⟨g', c', cur, e, hg, hh, hn, hm, hsz, ht⟩
  · cases e
  · cases e
    refine ⟨cur, hg, hh, hn, hm, fun j u hu => ?_⟩
    rw [← ht, List.getElem?_take] at hu
    split at hu
    · simpa using hu
    · cases hu
theorem Lent.arg {n₀ : Nat} {w : World} {g c len : Nat} {E : Nat → Ev} (h : Lent n₀ w g c len E) : EvArg w.heap.size w (some ⟨g, 0, none⟩) len E := by
  obtain ⟨cur, hg, hh, hn, hm, hj⟩ := h.block
  have key : ∀ i r, i < len → r < 8 → w.cell? ⟨g, 0 + i * 8 + r, none⟩ = (E i).cells.toList[r]? := by
    intro i r hi hr
    have h1 := evCells_at E (List.range len) i r (by rw [List.length_range]; exact hi) hr
    have hgd : (List.range len).getD i 0 = i := by simp [List.getD, hi]
    rw [hgd] at h1
    obtain ⟨u, hu⟩ : ∃ u, (E i).cells.toList[r]? = some u := ⟨_, List.getElem?_eq_getElem (show r < 8 from hr)⟩
    rw [hu] at h1 ⊢
    have h2 := hj (i * 8 + r) u (by rw [List.getElem?_append_left (by rw [evCells_len, List.length_range]; omega)]; exact h1)
    simp [World.cell?, hh, h2]
  refine ⟨fun hl => ⟨g, 0, rfl, lt_of_block hh, ⟨lt_of_block hh, ?_, ?_, ?_, ?_, ?_, ?_, ?_, ?_⟩⟩⟩
  · intro i hi; exact (key i 0 hi (by decide)).trans rfl
  · intro i hi; exact (key i 1 hi (by decide)).trans rfl
  · intro i hi; exact (key i 2 hi (by decide)).trans rfl
  · intro i hi; exact (key i 3 hi (by decide)).trans rfl
  · intro i hi; exact (key i 4 hi (by decide)).trans rfl
  · intro i hi; exact (key i 5 hi (by decide)).trans rfl
  · intro i hi; exact (key i 6 hi (by decide)).trans rfl
  · intro i hi; exact (key i 7 hi (by decide)).trans rfl
theorem Lent.mark {n₀ : Nat} {w : World} {g c len : Nat} {E : Nat → Ev} (h : Lent n₀ w g c len E) : w.cell? ⟨g, len * 8 + 6, none⟩ = some (.int .i64 (-77)) := by
  obtain ⟨cur, hg, hh, hn, hm, hj⟩ := h.block
  have h2 := hj (len * 8 + 6) (.int .i64 (-77)) (by
    rw [List.getElem?_append_right (by rw [evCells_len, List.length_range]; omega), evCells_len, List.length_range, Nat.add_sub_cancel_left]; rfl)
  simp [World.cell?, hh, h2]
theorem Lent.keep {n₀ : Nat} {w w' : World} {g c len : Nat} {E : Nat → Ev} (h : Lent n₀ w g c len E) (hb : Below w.heap.size w w') : Lent n₀ w' g c len E :=
  ⟨own_same h.own fun k hk => by
    obtain ⟨cur, hg, hh, _⟩ := h.block
    cases hk
    exact hb.block _ (lt_of_block hh)⟩

set_option maxHeartbeats 1000000 in
theorem lent_any (ao : Option Addr) (len cap : Nat) (hlen : len ≤ 900) (hc : ao = none → cap = 0) (E : Nat → Ev) (W : World) (hE : EvArg W.heap.size W ao len E) :
    Calls Try.prog 15 #[.slice ao len cap] W (LentPost W len E) := by
  have HE := Lib.hid hE; clear hE
  have HC := Lib.hid hc; clear hc
  go_enter Try.func15, Try.ntmps15
  go_wp2_with (first
    | (at_builtin; refine wpList_append_evs rfl _ _ rfl W.heap.size (.slice none 0 0) 0 [] rfl (World.ownsRow_nil _ _ _ _) ao len cap E rfl HE.out HC.out (by omega) (Nat.le_refl _) ?_)
    | fail)
  intro v1 w1 hown hgr
  have hb1 : Below W.heap.size W w1 := (Below.refl _ W).grown hgr (Nat.le_refl _) (fun g e => by cases e)
  have HO := Lib.hid hown; clear hown hgr
  have HB := Lib.hid hb1
  have hsz := hb1.size
  clear hb1
  go_wp2_with (first
    | (at_builtin; refine wpList_append_row rfl _ _ rfl W.heap.size W.heap.size _ len (evCells E (List.range len)) rfl ?c1 _ 1 markE.cells.toList rfl ?c2 (by decide) (by omega) ?c4 ?_)
    | fail)
  case c1 => exact HO.out.alloc _
  case c2 => exact one_row markE hsz
  case c4 => simp; omega
  intro v2 w2 hown2 hgr2
  have hb2 : Below W.heap.size W w2 := by
    have h0 : Below W.heap.size W (w1.alloc (.cells markE.cells 29)) := HB.out.alloc hsz _
    exact h0.grown hgr2 h0.size (fun g e => (HO.out.lt g e).1)
  rcases hown2.2 with ⟨_, h0⟩ | ⟨g, c, cur, rfl, hg, hh, hn, hm, hz, ht⟩
  · omega
  have hL : Lent W.heap.size w2 g c len E := ⟨hown2⟩
  have HR := Lib.hid (And.intro hL hb2)
  clear hown2 hgr2 hh ht hz hL hb2 hg HO HB
  have k1 : (len : Int) ≤ (c : Int) := by omega
  have k2 : (0 : Int) ≤ (len : Int) := by omega
  unfold maxLen at hm
  have k3 : (c : Int) ≤ 9223372036854775807 := by omega
  go_wp2_with fail
  go_ret
  exact ⟨g, c, rfl, HR.out.1, HR.out.2⟩

set_option maxRecDepth 100000 in
set_option maxHeartbeats 1000000 in
theorem stays_any (n₀ g c : Nat) (ao : Option Addr) (len cap : Nat) (hlen : len ≤ 900) (E : Nat → Ev) (W : World) (hL : Lent n₀ W g c len E) (hE : EvArg W.heap.size W ao len E) :
    Calls Try.prog 17 #[.slice (some ⟨g, 0, none⟩) len c, .slice ao len cap] W fun e w' => e = .returned (.bool true) ∧ Below W.heap.size W w' := by
  have HE := Lib.hid hE; clear hE
  have HL := Lib.hid hL; clear hL
  have hw : IntKind.i64.wrap ((len : Int) + 1) = (len : Int) + 1 := IntWalk.i64_in _ (by omega)
  obtain ⟨cur, hg, hh, hn, hm, hj⟩ := HL.out.block
  unfold maxLen at hm
  clear hj hh hg
  have k1 : (len : Int) + 1 ≤ (c : Int) := by omega
  have k2 : (0 : Int) ≤ (len : Int) + 1 := by omega
  have k3 : (c : Int) ≤ 9223372036854775807 := by omega
  have k4 : (0 : Int) ≤ (len : Int) := by omega
  have k5 : (len : Int) < (len : Int) + 1 := by omega
  have k6 : ((len : Int) + 1).toNat = len + 1 := by omega
  go_enter Try.func17, Try.ntmps17
  go_wp2_with (first
    | (go_at_call 11
       refine (sameList_any (some ⟨g, 0, none⟩) ao len c cap (by omega) E E (fun i _ => same_self _) W HL.out.arg HE.out).mono ?_
       rintro e w1 ⟨rfl, hb1⟩
       have hM := (HL.out.keep hb1).mark
       replace hb1 := Lib.hid hb1)
    | fail)
  go_ret
  exact ⟨rfl, hb1.out⟩

/-! ### what links lead to -/
def unres : ByteArray := ⟨#[36, 117, 110, 114, 101, 115, 111, 108, 118, 101, 100]⟩
def hitE (e : Ev) (v : Int) (s : ByteArray) : Bool := (e.version == v) && (e.stream.toList == s.toList)
/-- The first event of that version and stream. -/
def findE (T : Nat → Ev) (tl : Nat) (v : Int) (s : ByteArray) : Option Ev := ((List.range tl).find? fun i => hitE (T i) v s).map T
theorem findE_none {T : Nat → Ev} {tl : Nat} {v : Int} {s : ByteArray} (h : ∀ i, i < tl → hitE (T i) v s = false) : findE T tl v s = none := by
  unfold findE
  rw [List.find?_eq_none.2 (fun i hi => by rw [h i (by simpa using hi)]; decide)]
  rfl
theorem findE_some {T : Nat → Ev} {tl : Nat} {v : Int} {s : ByteArray} (k : Nat) (hk : k < tl) (h : ∀ i, i < k → hitE (T i) v s = false) (hh : hitE (T k) v s = true) : findE T tl v s = some (T k) := by
  unfold findE
  have : (List.range tl).find? (fun i => hitE (T i) v s) = some k := by
    rw [List.find?_range_eq_some]
    exact ⟨hh, by simpa using hk, fun j hj => by simp [h j hj]⟩
  rw [this]
  rfl
def foundV : Option Ev → Value
  | some e => .tuple #[e.val, .bool true]
  | none => .tuple #[Ev.val ⟨0, ⟨#[]⟩, ⟨#[]⟩, 0, ⟨#[]⟩, 0, 0, 0⟩, .bool false]

set_option maxRecDepth 100000 in
set_option maxHeartbeats 2000000 in
theorem find_any (B : Nat) (ao : Option Addr) (tl tc : Nat) (htl : tl ≤ 900) (T : Nat → Ev) (v : Int) (s : ByteArray) (W : World) (hB : W.cell? ⟨B, 0, none⟩ = some (.slice ao tl tc)) (hT : EvArg W.heap.size W ao tl T) :
    Calls Try.prog 14 #[.int .i64 v, .string s, .pointer (some ⟨B, 0, none⟩)] W fun e w' => e = .returned (foundV (findE T tl v s)) ∧ Below W.heap.size W w' := by
  have HT := Lib.hid hT; clear hT
  have hBs : B < W.heap.size := block_of_cell hB
  have hsf : ∀ (w : World) (a : Addr) (k : FloatKind) (b : Nat) (m : Mode), (store a (.float k b) m).run Try.prog w = stored Try.prog w a (.float k b) m := fun w a k b m => run_store Try.prog w a _ m rfl
  go_enter Try.func14, Try.ntmps14
  go_wp2_with fail
  go_loopg [7] tl (fun gg i wr => ∃ k : Nat, gg = tl - k ∧ k ≤ tl ∧ i = .int .i64 k ∧ (∀ j, j < k → hitE (T j) v s = false) ∧ wr = W.alloc (.cells #[.int .i64 0, .string ⟨#[]⟩, .string ⟨#[]⟩, .float .f64 0, .string ⟨#[]⟩, .int .i64 0, .int .i64 0, .int .i64 0] 29))
  case atStart => exact ⟨0, by omega, by omega, rfl, fun j hj => by omega, rfl⟩
  case round =>
    obtain ⟨k, hg, hk, rfl, hno, rfl⟩ := hrel
    have HG := Lib.hid hg; clear hg
    have HN := Lib.hid hno; clear hno
    by_cases hlt : k < tl
    · obtain ⟨b, off, rfl, hbn, hEi⟩ := HT.out.at_ (by omega)
      have hl : (k : Int) < (tl : Int) := by omega
      have hw1 : IntKind.i64.wrap ((k : Int) + 1) = (k : Int) + 1 := IntWalk.i64_in _ (by omega)
      obtain ⟨s0, s1, s2, s3, s4, s5, s6, s7⟩ := hEi.rd k hlt
      clear hEi
      rcases h1 : (T k).version == v with _ | _
      · have hh : hitE (T k) v s = false := by rw [hitE, h1]; rfl
        have HH := Lib.hid hh; clear hh
        go_wp2_with fail
        go_roundg (tl - (k + 1))
        case measure => have := HG.out; omega
        case rel => exact ⟨k + 1, by omega, by omega, by go_num, fun j hj => by (by_cases e : j = k); (subst e; exact HH.out); exact HN.out j (by omega), rfl⟩
      · rcases h2 : (T k).stream.toList == s.toList with _ | _
        · have hh : hitE (T k) v s = false := by rw [hitE, h1, h2]; rfl
          have HH := Lib.hid hh; clear hh
          go_wp2_with fail
          go_roundg (tl - (k + 1))
          case measure => have := HG.out; omega
          case rel => exact ⟨k + 1, by omega, by omega, by go_num, fun j hj => by (by_cases e : j = k); (subst e; exact HH.out); exact HN.out j (by omega), rfl⟩
        · have hh : hitE (T k) v s = true := by rw [hitE, h1, h2]; rfl
          have HF := Lib.hid (findE_some k hlt HN.out hh); clear hh
          go_wp2_with fail
          refine bodyPost_ret (v := .tuple #[(T k).val, .bool true]) (by simp [results, Try.results14, go_sem]) rfl ⟨by rw [HF.out]; rfl, ?_⟩
          exact (Below.refl _ W).alloc (Nat.le_refl _) _
    · obtain rfl : k = tl := by omega
      have hl : ¬ (k : Int) < (k : Int) := by omega
      have HF := Lib.hid (findE_none HN.out)
      go_wp2_with fail
      refine bodyPost_ret (v := .tuple #[Ev.val ⟨0, ⟨#[]⟩, ⟨#[]⟩, 0, ⟨#[]⟩, 0, 0, 0⟩, .bool false]) (by simp [results, Try.results14, go_sem]) rfl ⟨by rw [HF.out]; rfl, ?_⟩
      exact (Below.refl _ W).alloc (Nat.le_refl _) _

theorem bcell {n : Nat} {A B : World} (hb : Below n A B) : (∀ b o, b < n → B.cell? ⟨b, o, none⟩ = A.cell? ⟨b, o, none⟩) ∧ ∀ b o, b < n → B.frozen? ⟨b, o, none⟩ = A.frozen? ⟨b, o, none⟩ :=
  ⟨fun b o h => hb.cell (p := ⟨b, o, none⟩) h, fun b o h => hb.frozen (p := ⟨b, o, none⟩) h⟩
def isLink (e : Ev) : Bool := (e.ty.toList == [36, 62]) && ((unlinkOf e.data.data.toList).2.2 == 0)
def resE (x : Option Ev) (e : Ev) : Ev := match x with
  | some y => y
  | none => {e with ty := unres}
/-- What a link leads to. -/
def resolveE (f : Int → ByteArray → Option Ev) (e : Ev) : Ev := if isLink e then resE (f (unlinkOf e.data.data.toList).1 ⟨(unlinkOf e.data.data.toList).2.1.toArray⟩) e else e
/-- What a function value that looks for events owes. -/
def Looks (r : Value) (f : Int → ByteArray → Option Ev) (n₀ : Nat) (W : World) : Prop :=
  (r = .nilFunc ∧ f = fun _ _ => none) ∨ ∃ B ao tl tc T, r = .func (.func 14) #[] #[.pointer (some ⟨B, 0, none⟩)] ∧ B < n₀ ∧ W.cell? ⟨B, 0, none⟩ = some (.slice ao tl tc) ∧ tl ≤ 900 ∧ EvArg n₀ W ao tl T ∧ f = findE T tl
theorem Looks.low {r : Value} {f : Int → ByteArray → Option Ev} {n₀ : Nat} {W w : World} (h : Looks r f n₀ W) (hb : Below n₀ W w) : Looks r f n₀ w := by
  rcases h with h | ⟨B, ao, tl, tc, T, h1, h2, h3, h4, h5, h6⟩
  · exact Or.inl h
  · exact Or.inr ⟨B, ao, tl, tc, T, h1, h2, (hb.cell (p := ⟨B, 0, none⟩) h2).trans h3, h4, h5.low hb, h6⟩

set_option maxRecDepth 100000 in
set_option maxHeartbeats 2000000 in
theorem resolve_no (e : Ev) (v : Int) (s : List UInt8) (er : Int) (HU : Hid (∀ w, Calls Try.prog 32 #[.string e.data] w fun en w' => en = .returned (.tuple #[.int .i64 v, .string ⟨s.toArray⟩, .int .i64 er]) ∧ Below w.heap.size w w')) (r : Value) (W : World) (h : ((e.ty.toList == [36, 62]) && (er == 0)) = false) :
    Calls Try.prog 24 #[e.val, r] W fun en w' => en = .returned e.val ∧ Below W.heap.size W w' := by
  have hsf : ∀ (w : World) (a : Addr) (k : FloatKind) (b : Nat) (m : Mode), (store a (.float k b) m).run Try.prog w = stored Try.prog w a (.float k b) m := fun w a k b m => run_store Try.prog w a _ m rfl
  rcases h1 : e.ty.toList == [36, 62] with _ | _
  all_goals rcases h2 : er == 0 with _ | _
  all_goals rw [h1, h2] at h
  all_goals try exact absurd h (by decide)
  all_goals
    clear h
    go_enter Try.func24, Try.ntmps24
    go_wp2_with (first
        | (go_at_call 32
           refine (HU.out _).mono ?_
           rintro en w1 ⟨rfl, hb1⟩
           obtain ⟨hbx, _, h0⟩ := two_boxes e ⟨0, ⟨#[]⟩, ⟨#[]⟩, 0, ⟨#[]⟩, 0, 0, 0⟩ hb1
           have k0 := list_cells hbx 0 _ rfl
           have k1 := list_cells hbx 1 _ rfl
           have k2 := list_cells hbx 2 _ rfl
           have k3 := list_cells hbx 3 _ rfl
           have k4 := list_cells hbx 4 _ rfl
           have k5 := list_cells hbx 5 _ rfl
           have k6 := list_cells hbx 6 _ rfl
           have k7 := list_cells hbx 7 _ rfl
           clear hbx
           obtain ⟨hc, hf⟩ := bcell hb1
           have hz := hb1.size
           simp only [size_alloc_one] at hz hc hf
           have hz2 : W.heap.size + 1 < w1.heap.size := by omega
           have hz3 : W.heap.size < w1.heap.size := by omega
           replace hb1 := Lib.hid h0
           clear h0)
        | fail)
    refine bodyPost_ret (v := e.val) (by simp [results, Try.results24, go_sem, hc, hf, hz2, hz3]) rfl ⟨rfl, ?_⟩
    repeat' (with_reducible refine Below.setCell ?_ ?_ _)
    all_goals first
      | exact hb1.out
      | simp

set_option maxRecDepth 100000 in
set_option maxHeartbeats 2000000 in
theorem resolve_nil (e : Ev) (v : Int) (s : List UInt8) (er : Int) (HU : Hid (∀ w, Calls Try.prog 32 #[.string e.data] w fun en w' => en = .returned (.tuple #[.int .i64 v, .string ⟨s.toArray⟩, .int .i64 er]) ∧ Below w.heap.size w w')) (W : World) (h1 : (e.ty.toList == [36, 62]) = true) (h2 : (er == 0) = true) :
    Calls Try.prog 24 #[e.val, .nilFunc] W fun en w' => en = .returned ({e with ty := unres} : Ev).val ∧ Below W.heap.size W w' := by
  have hsf : ∀ (w : World) (a : Addr) (k : FloatKind) (b : Nat) (m : Mode), (store a (.float k b) m).run Try.prog w = stored Try.prog w a (.float k b) m := fun w a k b m => run_store Try.prog w a _ m rfl
  have hn1 : ∀ w, (binOp .neq 40 .nilFunc .nilFunc).run Try.prog w = .ok (.bool false) w := fun _ => by kernel_rfl
  have h3 : (er != 0) = false := by rw [bne, h2]; rfl
  go_enter Try.func24, Try.ntmps24
  go_wp2_with (first
        | (go_at_call 32
           refine (HU.out _).mono ?_
           rintro en w1 ⟨rfl, hb1⟩
           obtain ⟨hbx, _, h0⟩ := two_boxes e ⟨0, ⟨#[]⟩, ⟨#[]⟩, 0, ⟨#[]⟩, 0, 0, 0⟩ hb1
           have k0 := list_cells hbx 0 _ rfl
           have k1 := list_cells hbx 1 _ rfl
           have k2 := list_cells hbx 2 _ rfl
           have k3 := list_cells hbx 3 _ rfl
           have k4 := list_cells hbx 4 _ rfl
           have k5 := list_cells hbx 5 _ rfl
           have k6 := list_cells hbx 6 _ rfl
           have k7 := list_cells hbx 7 _ rfl
           clear hbx
           obtain ⟨hc, hf⟩ := bcell hb1
           have hz := hb1.size
           simp only [size_alloc_one] at hz hc hf
           have hz2 : W.heap.size + 1 < w1.heap.size := by omega
           have hz3 : W.heap.size < w1.heap.size := by omega
           replace hb1 := Lib.hid h0
           clear h0)
        | fail)
  refine bodyPost_ret (v := ({e with ty := unres} : Ev).val) (by simp [results, Try.results24, go_sem, hc, hf, hz2, hz3, unres]) rfl ⟨rfl, ?_⟩
  repeat' (with_reducible refine Below.setCell ?_ ?_ _)
  all_goals first
    | exact hb1.out
    | simp

set_option maxRecDepth 100000 in
set_option maxHeartbeats 2000000 in
theorem resolve_func (e : Ev) (v : Int) (s : List UInt8) (er : Int) (HU : Hid (∀ w, Calls Try.prog 32 #[.string e.data] w fun en w' => en = .returned (.tuple #[.int .i64 v, .string ⟨s.toArray⟩, .int .i64 er]) ∧ Below w.heap.size w w')) (W : World) (h1 : (e.ty.toList == [36, 62]) = true) (h2 : (er == 0) = true) (B : Nat) (fx : Option Ev)
    (HFI : ∀ w, Below W.heap.size W w → Calls Try.prog 14 #[.int .i64 v, .string ⟨s.toArray⟩, .pointer (some ⟨B, 0, none⟩)] w fun e w' => e = .returned (foundV fx) ∧ Below w.heap.size w w') :
    Calls Try.prog 24 #[e.val, .func (.func 14) #[] #[.pointer (some ⟨B, 0, none⟩)]] W fun en w' => en = .returned (resE fx e).val ∧ Below W.heap.size W w' := by
  have hsf : ∀ (w : World) (a : Addr) (k : FloatKind) (b : Nat) (m : Mode), (store a (.float k b) m).run Try.prog w = stored Try.prog w a (.float k b) m := fun w a k b m => run_store Try.prog w a _ m rfl
  have hn2 : ∀ w, (binOp .neq 40 (.func (.func 14) #[] #[.pointer (some ⟨B, 0, none⟩)]) .nilFunc).run Try.prog w = .ok (.bool true) w := fun _ => rfl
  have h3 : (er != 0) = false := by rw [bne, h2]; rfl
  rcases fx with _ | x
  all_goals
    simp only [foundV, Ev.val] at HFI
    replace HFI := Lib.hid HFI
    go_enter Try.func24, Try.ntmps24
    go_wp2_with (first
        | (go_at_call 32
           refine (HU.out _).mono ?_
           rintro en w1 ⟨rfl, hb1⟩
           obtain ⟨hbx, _, h0⟩ := two_boxes e ⟨0, ⟨#[]⟩, ⟨#[]⟩, 0, ⟨#[]⟩, 0, 0, 0⟩ hb1
           have k0 := list_cells hbx 0 _ rfl
           have k1 := list_cells hbx 1 _ rfl
           have k2 := list_cells hbx 2 _ rfl
           have k3 := list_cells hbx 3 _ rfl
           have k4 := list_cells hbx 4 _ rfl
           have k5 := list_cells hbx 5 _ rfl
           have k6 := list_cells hbx 6 _ rfl
           have k7 := list_cells hbx 7 _ rfl
           clear hbx
           obtain ⟨hc, hf⟩ := bcell hb1
           have hz := hb1.size
           simp only [size_alloc_one] at hz hc hf
           have hz2 : W.heap.size + 1 < w1.heap.size := by omega
           have hz3 : W.heap.size < w1.heap.size := by omega
           replace hb1 := Lib.hid h0
           clear h0)
        | (go_at_call 14
           refine (HFI.out _ hb1.out).mono ?_
           rintro en w2 ⟨rfl, hb2⟩
           obtain ⟨hc2, hf2⟩ := bcell hb2
           have hz4 := hb2.size
           have hz5 : W.heap.size + 1 < w2.heap.size := by omega
           have hz6 : W.heap.size < w2.heap.size := by omega
           have hz7 : W.heap.size ≤ w2.heap.size := by omega
           have j0 := (hc2 _ 0 hz3).trans k0
           have j1 := (hc2 _ 1 hz3).trans k1
           have j2 := (hc2 _ 2 hz3).trans k2
           have j3 := (hc2 _ 3 hz3).trans k3
           have j4 := (hc2 _ 4 hz3).trans k4
           have j5 := (hc2 _ 5 hz3).trans k5
           have j6 := (hc2 _ 6 hz3).trans k6
           have j7 := (hc2 _ 7 hz3).trans k7
           have hb3 := Lib.hid (hb1.out.trans (hb2.mono hb1.out.size))
           clear hb2)
        | fail)
  · refine bodyPost_ret (v := ({e with ty := unres} : Ev).val) (by simp [results, Try.results24, go_sem, hc, hf, hz2, hz3, hc2, hf2, hz5, hz6, unres]) rfl ⟨rfl, ?_⟩
    refine Below.alloc ?_ (by simp [hz7]) _
    repeat' (with_reducible refine Below.setCell ?_ ?_ _)
    all_goals first
      | (with_reducible exact hb3.out)
      | simp
  · refine bodyPost_ret (v := x.val) (by simp [results, Try.results24, go_sem, hc, hf, hz2, hz3, hc2, hf2, hz5, hz6]) rfl ⟨rfl, ?_⟩
    refine Below.alloc ?_ (by simp [hz7]) _
    repeat' (with_reducible refine Below.setCell ?_ ?_ _)
    all_goals first
      | (with_reducible exact hb3.out)
      | simp

theorem resolve_any (e : Ev) (he : e.data.size ≤ 1000000) (r : Value) (f : Int → ByteArray → Option Ev) (W : World) (hr : Looks r f W.heap.size W) :
    Calls Try.prog 24 #[e.val, r] W fun en w' => en = .returned (resolveE f e).val ∧ Below W.heap.size W w' := by
  have hU := Lib.hid (fun w => unlink_any e.data he w)
  have hres : resolveE f e = if isLink e then resE (f (unlinkOf e.data.data.toList).1 ⟨(unlinkOf e.data.data.toList).2.1.toArray⟩) e else e := rfl
  rw [hres]
  clear hres
  cases hl : isLink e with
  | false => exact resolve_no e _ _ _ hU r W hl
  | true =>
    unfold isLink at hl
    rw [Bool.and_eq_true] at hl
    rw [if_pos rfl]
    rcases hr with ⟨rfl, rfl⟩ | ⟨B, ao, tl, tc, T, rfl, hB, hBc, htl, hT, rfl⟩
    · exact resolve_nil e _ _ _ hU W hl.1 hl.2
    · exact resolve_func e _ _ _ hU W hl.1 hl.2 B _ fun w hb => find_any B ao tl tc htl T _ _ w ((hb.cell (p := ⟨B, 0, none⟩) hB).trans hBc) ((hT.low hb).up hb.size)
end Go.Proofs.Ytimmdcajadddmaa
