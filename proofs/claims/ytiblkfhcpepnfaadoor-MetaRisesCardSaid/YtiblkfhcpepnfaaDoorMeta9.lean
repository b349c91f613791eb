/-
  chroniclebook.LentInts, StaysInts. Conditions: none.
-/
import Derived.Test.YtiblkfhcpepnfaaDoorMeta8
namespace Go.Proofs.YtiblkfhcpepnfaaDoor
open Go.RowKit Go.Lib

def intsV (T : Nat → Int) (n : Nat) : List Value := (List.range n).map fun i => .int .i64 (T i)
theorem intsV_len (T : Nat → Int) (n : Nat) : (intsV T n).length = n := by simp [intsV]
theorem intsV_get (T : Nat → Int) (n i : Nat) (h : i < n) : (intsV T n)[i]? = some (.int .i64 (T i)) := by simp [intsV, h]
theorem ints_one (T : Nat → Int) (n : Nat) : ∀ u ∈ intsV T n, u.oneCell' = true := by
  intro u hu
  simp only [intsV, List.mem_map] at hu
  obtain ⟨x, _, rfl⟩ := hu
  rfl
theorem info3 : (Tryd.prog.info? 3).map (fun i => (i.zero, i.size, i.bytes)) = some (some (.int .i64 0), 1, 8) := by kernel_rfl

/-- A caller's list of ints, appended onto an own row. -/
theorem wpList_append_ints {ops : Array Oper} {rest : List Oper} {o : Oper} {a : Act} {Q : Exit → Act → World → Prop} {w : World} (hgd : o.guard = none) (s x : Operand)
    (ho : o.op = .call { callee := .builtin .append, args := #[s, x], argTypes := #[24, 24] }) (base : Nat) (v : Value) (n : Nat) (xs : List Value) (hs : a.eval s = v) (hown : w.ownsRow base 3 1 v n xs)
    (ao : Option Addr) (len cap : Nat) (T : Nat → Int) (hx : a.eval x = .slice ao len cap) (hE : IntArg w.heap.size w ao len T) (hc : ao = none → cap = 0) (hnm : n + len ≤ 1000) (hbase : base ≤ w.heap.size)
    (h : ∀ v' w', w'.ownsRow base 3 1 v' (n + len) (xs ++ intsV T len) → w.grownBy w' v.ownBlock → wpList Tryd.prog ops Q rest (a.put o.dst v') w') : wpList Tryd.prog ops Q (o :: rest) a w := by
  obtain ⟨i0, hi0, hz0, hs0, hb0'⟩ := info_parts info3
  cases ao with
  | none =>
    obtain rfl : len = 0 := by
      refine Classical.byContradiction fun hl => ?_
      obtain ⟨b, off, e, _⟩ := hE.at_ (by omega)
      cases e
    obtain rfl := hc rfl
    refine wpList_append_own_none hgd s x 24 ho base 3 i0 1 Tryd.underlying24 hi0 v n xs hs hown hx ?_
    exact h v w (by simpa [intsV] using hown) ⟨rfl, rfl, rfl, Nat.le_refl _, fun _ _ _ => rfl⟩
  | some ad =>
    refine wpList_append_own w hgd s x 24 ho base 3 i0 _ 1 8 Tryd.underlying24 hi0 hz0 hs0 hb0' rfl (by decide) v n xs hs hown ad len cap (intsV T len) hx (by rw [intsV_len]; omega) ?_ (ints_one T _) (by unfold maxLen; omega) (by omega) hbase
      fun v' w' a1 a2 _ => h v' w' a1 a2
    intro j u hu
    have hj : j < len := by
      have := (List.getElem?_eq_some_iff.1 hu).1
      rw [intsV_len] at this
      exact this
    obtain ⟨b, off, e, hb, hi⟩ := hE.at_ (by omega)
    cases e
    rw [intsV_get T len j hj] at hu
    cases hu
    have h1 : ((⟨b, off, none⟩ : Addr).add j) = ⟨b, off + j, none⟩ := by
      unfold Addr.add
      by_cases hi : j = 0 <;> simp [hi]
    rw [h1]
    exact hi j hj
/-- One int, appended onto an own row. -/
theorem wpList_append_int {ops : Array Oper} {rest : List Oper} {o : Oper} {a : Act} {Q : Exit → Act → World → Prop} {w : World} (hgd : o.guard = none) (s x : Operand)
    (ho : o.op = .call { callee := .builtin .append, args := #[s, x], argTypes := #[24, 24] }) (base : Nat) (v : Value) (n : Nat) (xs : List Value) (hs : a.eval s = v) (hown : w.ownsRow base 3 1 v n xs)
    (ad : Addr) (c : Nat) (y : Int) (hx : a.eval x = .slice (some ad) 1 c) (hy : w.cell? ad = some (.int .i64 y)) (hnm : n + 1 ≤ 1000) (hbase : base ≤ w.heap.size)
    (h : ∀ v' w', w'.ownsRow base 3 1 v' (n + 1) (xs ++ [.int .i64 y]) → w.grownBy w' v.ownBlock → wpList Tryd.prog ops Q rest (a.put o.dst v') w') : wpList Tryd.prog ops Q (o :: rest) a w := by
  obtain ⟨i0, hi0, hz0, hs0, hb0'⟩ := info_parts info3
  refine wpList_append_own w hgd s x 24 ho base 3 i0 _ 1 8 Tryd.underlying24 hi0 hz0 hs0 hb0' rfl (by decide) v n xs hs hown ad 1 c [.int .i64 y] hx rfl ?_ ?_ (by unfold maxLen; omega) (by omega) hbase
    fun v' w' a1 a2 _ => h v' w' a1 a2
  · intro j u hu
    match j, hu with
    | 0, hu => cases hu; simpa [Addr.add] using hy
  · intro u hu; simp at hu; subst hu; rfl

structure LentI (n₀ : Nat) (w : World) (g c len : Nat) (T : Nat → Int) : Prop where
  own : w.ownsRow n₀ 3 1 (.slice (some ⟨g, 0, none⟩) (len + 1) c) (len + 1) (intsV T len ++ [.int .i64 (-77)])
def LentIPost (W : World) (len : Nat) (T : Nat → Int) (e : Ending) (w' : World) : Prop := ∃ g c, e = .returned (.slice (some ⟨g, 0, none⟩) len c) ∧ LentI W.heap.size w' g c len T ∧ Below W.heap.size W w'
theorem LentI.block {n₀ : Nat} {w : World} {g c len : Nat} {T : Nat → Int} (h : LentI n₀ w g c len T) : ∃ cur : Array Value, n₀ ≤ g ∧ w.heap[g]? = some (.cells cur 3) ∧ len + 1 ≤ c ∧ c ≤ maxLen ∧ ∀ (j : Nat) (u : Value), (intsV T len ++ [Value.int .i64 (-77)])[j]? = some u → cur[j]? = some u := by
  rcases h.own.2 with ⟨e, _⟩ | ⟨g', c', cur, e, hg, hh, hn, hm, hsz, ht⟩
  · cases e
  · cases e
    refine ⟨cur, hg, hh, hn, hm, fun j u hu => ?_⟩
    rw [← ht, List.getElem?_take] at hu
    split at hu
    · simpa using hu
    · cases hu
theorem LentI.arg {n₀ : Nat} {w : World} {g c len : Nat} {T : Nat → Int} (h : LentI n₀ w g c len T) : IntArg w.heap.size w (some ⟨g, 0, none⟩) len T := by
  obtain ⟨cur, hg, hh, hn, hm, hj⟩ := h.block
  refine ⟨fun hl => ⟨g, 0, rfl, lt_of_block hh, fun i hi => ?_⟩⟩
  have h2 := hj i (.int .i64 (T i)) (by rw [List.getElem?_append_left (by rw [intsV_len]; exact hi)]; exact intsV_get T len i hi)
  rw [Lib.cell_of_heap hh]
  simpa using h2
theorem LentI.mark {n₀ : Nat} {w : World} {g c len : Nat} {T : Nat → Int} (h : LentI n₀ w g c len T) : w.cell? ⟨g, len, none⟩ = some (.int .i64 (-77)) := by
  obtain ⟨cur, hg, hh, hn, hm, hj⟩ := h.block
  have h2 := hj len (.int .i64 (-77)) (by rw [List.getElem?_append_right (by rw [intsV_len]; omega), intsV_len, Nat.sub_self]; rfl)
  rw [Lib.cell_of_heap hh]
  exact h2
theorem LentI.keep {n₀ : Nat} {w w' : World} {g c len : Nat} {T : Nat → Int} (h : LentI n₀ w g c len T) (hb : Below w.heap.size w w') : LentI n₀ w' g c len T :=
  ⟨own_same h.own fun k hk => by
    obtain ⟨cur, hg, hh, _⟩ := h.block
    cases hk
    exact hb.block _ (lt_of_block hh)⟩

set_option maxHeartbeats 1000000 in
theorem lentInts_any (ao : Option Addr) (len cap : Nat) (hlen : len ≤ 900) (hc : ao = none → cap = 0) (T : Nat → Int) (W : World) (hE : IntArg W.heap.size W ao len T) :
    Calls Tryd.prog 12 #[.slice ao len cap] W (LentIPost W len T) := by
  have HE := Lib.hid hE; clear hE
  have HC := Lib.hid hc; clear hc
  go_enter Tryd.func12, Tryd.ntmps12
  go_wp2_with (first
    | (at_builtin; refine wpList_append_ints rfl _ _ rfl W.heap.size (.slice none 0 0) 0 [] rfl (World.ownsRow_nil _ _ _ _) ao len cap T rfl HE.out HC.out (by omega) (Nat.le_refl _) ?_)
    | fail)
  intro v1 w1 hown hgr
  have hb1 : Below W.heap.size W w1 := (Below.refl _ W).grown hgr (Nat.le_refl _) (fun g e => by cases e)
  have HO := Lib.hid hown; clear hown hgr
  have HB := Lib.hid hb1
  have hsz := hb1.size
  clear hb1
  go_wp2_with (first
    | (at_builtin; refine wpList_append_int rfl _ _ rfl W.heap.size _ len (intsV T len) rfl ?c1 ⟨w1.heap.size, 0, none⟩ 1 (-77) rfl ?c2 (by omega) ?c4 ?_)
    | fail)
  case c1 => exact HO.out.alloc _
  case c2 => simp
  case c4 => simp; omega
  intro v2 w2 hown2 hgr2
  have hb2 : Below W.heap.size W w2 := by
    have h0 : Below W.heap.size W (w1.alloc (.cells #[.int .i64 (-77)] 3)) := HB.out.alloc hsz _
    exact h0.grown hgr2 h0.size (fun g e => (HO.out.lt g e).1)
  rcases hown2.2 with ⟨_, h0⟩ | ⟨g, c, cur, rfl, hg, hh, hn, hm, hz, ht⟩
  · omega
  have hL : LentI W.heap.size w2 g c len T := ⟨hown2⟩
  have HR := Lib.hid (And.intro hL hb2)
  clear hown2 hgr2 hh ht hz hL hb2 hg HO HB
  have k1 : (len : Int) ≤ (c : Int) := by omega
  have k2 : (0 : Int) ≤ (len : Int) := by omega
  unfold maxLen at hm
  have k3 : (c : Int) ≤ 9223372036854775807 := by omega
  go_wp2_with fail
  go_ret
  exact ⟨g, c, rfl, HR.out.1, HR.out.2⟩

set_option maxHeartbeats 1000000 in
theorem sameInts_any (ao bo : Option Addr) (len ac bc : Nat) (hlen : len ≤ 900) (T : Nat → Int) (W : World) (hE : IntArg W.heap.size W ao len T) (hF : IntArg W.heap.size W bo len T) :
    Calls Tryd.prog 27 #[.slice ao len ac, .slice bo len bc] W fun e w' => e = .returned (.bool true) ∧ Below W.heap.size W w' := by
  have HE := Lib.hid hE; clear hE
  have HF := Lib.hid hF; clear hF
  go_enter Tryd.func27, Tryd.ntmps27
  go_wp2_with fail
  go_loopg [5] len (fun g i wr => ∃ k : Nat, g = len - k ∧ k ≤ len ∧ i = .int .i64 k ∧ ∃ d, wr = W.drewN d)
  case atStart => exact ⟨0, by omega, by omega, rfl, 0, rfl⟩
  case round =>
    obtain ⟨k, hg, hk, rfl, d, rfl⟩ := hrel
    have HG := Lib.hid hg; clear hg
    by_cases hlt : k < len
    · obtain ⟨b, off, rfl, hbn, hi⟩ := HE.out.at_ (by omega)
      obtain ⟨b2, off2, rfl, hbn2, hi2⟩ := HF.out.at_ (by omega)
      have hc := hi k hlt
      have hc2 := hi2 k hlt
      clear hi hi2
      have hl : (k : Int) < (len : Int) := by omega
      have hl0 : (0 : Int) ≤ (k : Int) := by omega
      have hw1 : IntKind.i64.wrap ((k : Int) + 1) = (k : Int) + 1 := IntWalk.i64_in _ (by omega)
      have heq : (T k == T k) = true := by simp
      go_wp2_with fail
      go_quiet (fail)
      go_wp2_with fail
      go_roundg (len - (k + 1))
      case measure => have := HG.out; omega
      case rel => exact ⟨k + 1, by omega, by omega, by go_num, d + nq, rfl⟩
    · have hkk : k = len := by omega
      subst hkk
      have hl : ¬ (k : Int) < (k : Int) := by omega
      go_wp2_with fail
      go_ret
      exact ⟨rfl, below_draws (Below.refl _ _) _⟩

set_option maxRecDepth 100000 in
set_option maxHeartbeats 1000000 in
theorem staysInts_any (n₀ g c : Nat) (ao : Option Addr) (len cap : Nat) (hlen : len ≤ 900) (T : Nat → Int) (W : World) (hL : LentI n₀ W g c len T) (hE : IntArg W.heap.size W ao len T) :
    Calls Tryd.prog 15 #[.slice (some ⟨g, 0, none⟩) len c, .slice ao len cap] W fun e w' => e = .returned (.bool true) ∧ Below W.heap.size W w' := by
  have HE := Lib.hid hE; clear hE
  have HL := Lib.hid hL; clear hL
  have hw : IntKind.i64.wrap ((len : Int) + 1) = (len : Int) + 1 := IntWalk.i64_in _ (by omega)
  obtain ⟨cur, hg, hh, hn, hm, hj⟩ := HL.out.block
  unfold maxLen at hm
  clear hj hh hg
  have k1 : (len : Int) + 1 ≤ (c : Int) := by omega
  have k2 : (0 : Int) ≤ (len : Int) + 1 := by omega
  have k3 : (c : Int) ≤ 9223372036854775807 := by omega
  have k4 : (0 : Int) ≤ (len : Int) := by omega
  have k5 : (len : Int) < (len : Int) + 1 := by omega
  have k6 : ((len : Int) + 1).toNat = len + 1 := by omega
  go_enter Tryd.func15, Tryd.ntmps15
  go_wp2_with (first
    | (go_at_call 27
       refine (sameInts_any (some ⟨g, 0, none⟩) ao len c cap (by omega) T W HL.out.arg HE.out).mono ?_
       rintro e w1 ⟨rfl, hb1⟩
       have hM := (HL.out.keep hb1).mark
       replace hb1 := Lib.hid hb1)
    | fail)
  go_ret
  exact ⟨rfl, hb1.out⟩
end Go.Proofs.YtiblkfhcpepnfaaDoor
