/-
  The document's Words: what stands between blanks. Conditions: none.
-/
import Derived.Test.YtidjnfjpdnjogaaGreatDoorPgTx
import Derived.Test.YtidjnfjpdnjogaaGreatDoorPxD5
namespace Go.Proofs.YtidjnfjpdnjogaaGreatDoor
open Go.RowKit Go.Lib

def strs (l : List (List UInt8)) : List Value := l.map fun x => .string (mkS x)
theorem strs_one (l : List (List UInt8)) : ∀ u ∈ strs l, u.oneCell' = true := by
  intro u hu
  simp only [strs, List.mem_map] at hu
  obtain ⟨x, _, rfl⟩ := hu
  rfl
/-- A row of texts, appended onto an own row. -/
theorem wp_append_strs {o : Oper} {a : Act} {K : Act → World → Prop} {Q : Exit → Act → World → Prop} {w : World} (s x : Operand)
    (ho : o.op = .call { callee := .builtin .append, args := #[s, x], argTypes := #[32, 32] }) (base base2 : Nat) (v : Value) (n : Nat) (xs : List Value) (hs : a.eval s = v) (hown : w.ownsRow base 9 1 v n xs)
    (sv : Value) (m : Nat) (ys : List Value) (hx : a.eval x = sv) (hown2 : w.ownsRow base2 9 1 sv m ys) (h1 : ∀ u ∈ ys, u.oneCell' = true) (hnm : n + m ≤ 2000000) (hbase : base ≤ w.heap.size)
    (h : ∀ v' w', w'.ownsRow base 9 1 v' (n + m) (xs ++ ys) → w.grownBy w' v.ownBlock → K (a.put o.dst v') w') : o.wp Tryz.prog a w K Q := by
  obtain ⟨i0, hi0, hz0, hs0, hb0'⟩ := info_parts info9
  have hl := hown2.1
  rcases hown2.2 with ⟨rfl, hm⟩ | ⟨g, cap, cur, rfl, hg, hgg, _⟩
  · subst hm
    have hy : ys = [] := by
      cases ys with
      | nil => rfl
      | cons y ys => simp at hl
    subst hy
    have hrun := run_append_owned_none (P := Tryz.prog) (w := w) base 32 o.type 9 i0 1 Tryz.underlying32 hi0 v n xs hown
    unfold Oper.wp
    simp only [execOp, ho, resolve, invoke, builtin, hs, hx, hrun, Result.andThen, Sem.run_bind, Sem.run_pure, List.map_toArray, List.map_cons, List.map_nil]
    exact h v w (by simpa using hown) ⟨rfl, rfl, rfl, Nat.le_refl _, fun _ _ _ => rfl⟩
  · exact wp_append_own w s x 32 ho base 9 i0 _ 1 16 Tryz.underlying32 hi0 hz0 hs0 hb0' rfl (by decide) v n xs hs hown ⟨g, 0, none⟩ m cap ys hx (by simpa using hl) (hown2.cells (g := g) rfl) h1 (by unfold maxLen; omega) (by omega) hbase
      fun v' w' a1 a2 _ => h v' w' a1 a2

theorem strs_append (a b : List (List UInt8)) : strs (a ++ b) = strs a ++ strs b := by simp [strs]

/-! ### words -/
def segB (l : List UInt8) (at_ i : Nat) : List UInt8 := (l.take i).drop at_
theorem segB_mk (s : ByteArray) (at_ i : Nat) : s.extract at_ i = mkS (segB s.data.toList at_ i) := by
  apply ByteArray.ext; apply Array.ext'
  simp only [ByteArray.data_extract, Array.toList_extract, List.extract_eq_take_drop, mkS, segB, List.drop_take]
theorem segB_len (l : List UInt8) (at_ i : Nat) (h : i ≤ l.length) : (segB l at_ i).length = i - at_ := by simp [segB]; omega
theorem segB_next (l : List UInt8) (at_ i : Nat) (h : i < l.length) (ha : at_ ≤ i) : segB l at_ (i + 1) = segB l at_ i ++ [l[i]] := by
  unfold segB
  rw [List.take_succ_eq_append_getElem h, List.drop_append_of_le_length (by simp; omega)]
theorem drop_seg (l : List UInt8) (at_ i : Nat) (h : i < l.length) (ha : at_ ≤ i) : l.drop at_ = segB l at_ i ++ l[i] :: l.drop (i + 1) := by
  have : l = l.take i ++ l.drop i := (List.take_append_drop i l).symm
  conv => lhs; rw [this]
  rw [List.drop_append_of_le_length (by simp; omega), List.drop_eq_getElem_cons h]
  rfl
theorem word_cut (l : List UInt8) (at_ i : Nat) (h : i < l.length) (ha : at_ ≤ i) (hb : l[i] = 32) (hn : (32 : UInt8) ∉ segB l at_ i) : wordsB (l.drop at_) = (if at_ < i then [segB l at_ i] else []) ++ wordsB (l.drop (i + 1)) := by
  unfold wordsB
  rw [drop_seg l at_ i h ha, hb, splitB_at 32 _ _ hn, List.filter_cons]
  have hl := segB_len l at_ i (by omega)
  by_cases hlt : at_ < i
  · rw [if_pos hlt]
    have : (!(segB l at_ i).isEmpty) = true := by
      cases hs : segB l at_ i with
      | nil => rw [hs] at hl; simp at hl; omega
      | cons a r => rfl
    rw [this]; rfl
  · rw [if_neg hlt]
    have : (!(segB l at_ i).isEmpty) = false := by
      cases hs : segB l at_ i with
      | nil => rfl
      | cons a r => rw [hs] at hl; simp at hl; omega
    rw [this]; rfl
theorem word_end (l : List UInt8) (at_ : Nat) (hn : (32 : UInt8) ∉ segB l at_ l.length) : wordsB (l.drop at_) = if at_ < l.length then [segB l at_ l.length] else [] := by
  have e : l.drop at_ = segB l at_ l.length := by rw [segB, List.take_length]
  unfold wordsB
  rw [e, splitB_not 32 _ hn, List.filter_cons]
  have hl := segB_len l at_ l.length (Nat.le_refl _)
  by_cases hlt : at_ < l.length
  · rw [if_pos hlt]
    have : (!(segB l at_ l.length).isEmpty) = true := by
      cases hs : segB l at_ l.length with
      | nil => rw [hs] at hl; simp at hl; omega
      | cons a r => rfl
    rw [this]; rfl
  · rw [if_neg hlt]
    have : (!(segB l at_ l.length).isEmpty) = false := by
      cases hs : segB l at_ l.length with
      | nil => rfl
      | cons a r => rw [hs] at hl; simp at hl; omega
    rw [this]; rfl
/-- What holds at a round's head. -/
structure WordsAt (s : ByteArray) (at_ i : Nat) (P : List (List UInt8)) : Prop where
  le : at_ ≤ i
  top : i ≤ s.size + 1
  len : P.length ≤ at_
  run : i ≤ s.size → (32 : UInt8) ∉ segB s.data.toList at_ i ∧ wordsB s.data.toList = P ++ wordsB (s.data.toList.drop at_)
  fin : i = s.size + 1 → P = wordsB s.data.toList
theorem WordsAt.start (s : ByteArray) : WordsAt s 0 0 [] := ⟨by omega, by omega, by simp, fun _ => ⟨by simp [segB], rfl⟩, fun h => by omega⟩
theorem len_data (s : ByteArray) : s.data.toList.length = s.size := by simp
theorem WordsAt.keep {s : ByteArray} {at_ i : Nat} {P : List (List UInt8)} (h : WordsAt s at_ i P) (hi : i < s.size) (hb : ((s[i].toNat : Int) == 32) = false) : WordsAt s at_ (i + 1) P := by
  refine ⟨by have := h.le; omega, by omega, h.len, fun _ => ⟨?_, (h.run (by omega)).2⟩, fun e => by omega⟩
  rw [segB_next _ _ _ (by rw [len_data]; exact hi) h.le]
  simp only [List.mem_append, List.mem_singleton, not_or]
  refine ⟨(h.run (by omega)).1, fun e => ?_⟩
  have e2 : s[i] = s.data.toList[i]'(by rw [len_data]; exact hi) := rfl
  rw [e2, ← e] at hb
  exact absurd hb (by decide)
theorem WordsAt.cut {s : ByteArray} {at_ i : Nat} {P : List (List UInt8)} (h : WordsAt s at_ i P) (hi : i < s.size) (hb : ((s[i].toNat : Int) == 32) = true) : WordsAt s (i + 1) (i + 1) (P ++ if at_ < i then [segB s.data.toList at_ i] else []) := by
  have hl := h.len
  have hle := h.le
  refine ⟨by omega, by omega, by rw [List.length_append]; split <;> simp <;> omega, fun _ => ⟨by simp [segB], ?_⟩, fun e => by omega⟩
  have hc : s.data.toList[i]'(by rw [len_data]; exact hi) = 32 := by
    have h9 : (s[i].toNat : Int) = 32 := of_decide_eq_true hb
    have h8 : s[i].toNat = 32 := by omega
    exact UInt8.toNat_inj.1 h8
  rw [(h.run (by omega)).2, word_cut _ at_ i (by rw [len_data]; exact hi) h.le hc (h.run (by omega)).1, List.append_assoc]
theorem WordsAt.last {s : ByteArray} {at_ : Nat} {P : List (List UInt8)} (h : WordsAt s at_ s.size P) : WordsAt s (s.size + 1) (s.size + 1) (P ++ if at_ < s.size then [segB s.data.toList at_ s.size] else []) := by
  have hl := h.len
  have hle := h.le
  refine ⟨by omega, by omega, by rw [List.length_append]; split <;> simp <;> omega, fun e => by omega, fun _ => ?_⟩
  have hr := h.run (Nat.le_refl _)
  have := word_end s.data.toList at_ (by rw [len_data]; exact hr.1)
  rw [len_data] at this
  rw [hr.2, this]

/-- A row of texts, appended onto an own row, in a plain region. -/
theorem wpList_append_strs {ops : Array Oper} {rest : List Oper} {o : Oper} {a : Act} {Q : Exit → Act → World → Prop} {w : World} (hgd : o.guard = none) (s x : Operand)
    (ho : o.op = .call { callee := .builtin .append, args := #[s, x], argTypes := #[32, 32] }) (base base2 : Nat) (v : Value) (n : Nat) (xs : List Value) (hs : a.eval s = v) (hown : w.ownsRow base 9 1 v n xs)
    (sv : Value) (m : Nat) (ys : List Value) (hx : a.eval x = sv) (hown2 : w.ownsRow base2 9 1 sv m ys) (h1 : ∀ u ∈ ys, u.oneCell' = true) (hnm : n + m ≤ 2000000) (hbase : base ≤ w.heap.size)
    (h : ∀ v' w', w'.ownsRow base 9 1 v' (n + m) (xs ++ ys) → w.grownBy w' v.ownBlock → wpList Tryz.prog ops Q rest (a.put o.dst v') w') : wpList Tryz.prog ops Q (o :: rest) a w :=
  wpList_plain hgd fun _ hK => wp_append_strs s x ho base base2 v n xs hs hown sv m ys hx hown2 h1 hnm hbase fun v' w' h2 h3 => hK _ _ (h v' w' h2 h3)
theorem one_str {w : World} (x : ByteArray) {B : Nat} (hB : B ≤ w.heap.size) : (w.alloc (.cells #[.string x] 9)).ownsRow B 9 1 (.slice (some ⟨w.heap.size, 0, none⟩) 1 1) 1 [.string x] :=
  ⟨rfl, Or.inr ⟨_, 1, _, rfl, hB, new_block _ _, by decide, by unfold maxLen; decide, rfl, rfl⟩⟩
def WordsPost (s : ByteArray) (w : World) (e : Ending) (w' : World) : Prop := ∃ v, e = .returned v ∧ w'.ownsRow w.heap.size 9 1 v (wordsB s.data.toList).length (strs (wordsB s.data.toList)) ∧ Below w.heap.size w w'

set_option maxRecDepth 100000 in
set_option maxHeartbeats 4000000 in
theorem words_any (s : ByteArray) (hs : s.size ≤ 1000000) (w : World) : Calls Tryz.prog 5 #[.string s] w (WordsPost s w) := by
  go_enter Tryz.func5, Tryz.ntmps5
  go_wp2_with fail
  go_loopg [3, 4, 5] (s.size + 1) (fun g v a i wr => ∃ (k at_ : Nat) (P : List (List UInt8)), g = s.size + 1 - k ∧ a = .int .i64 at_ ∧ i = .int .i64 k ∧ WordsAt s at_ k P ∧ wr.ownsRow w.heap.size 9 1 v P.length (strs P) ∧ Below w.heap.size w wr)
  case atStart => exact ⟨0, 0, [], by omega, rfl, rfl, WordsAt.start s, World.ownsRow_nil _ _ _ _, Below.refl _ _⟩
  case round =>
    obtain ⟨k, at_, P, hg, rfl, rfl, hW, hown, hb⟩ := hrel
    have HG := Lib.hid hg; clear hg
    have HW := Lib.hid hW
    have HO := Lib.hid hown; clear hown
    have HB := Lib.hid hb; clear hb
    have htop := hW.top
    have hle := hW.le
    have hPl := hW.len
    have hw1 : IntKind.i64.wrap ((k : Int) + 1) = (k : Int) + 1 := IntWalk.i64_in _ (by omega)
    clear hW
    by_cases hk : k ≤ s.size
    · have hk' : (k : Int) ≤ (s.size : Int) := by omega
      by_cases hend : k = s.size
      · subst hend
        by_cases hlt : at_ < s.size
        · have hlt' : (at_ : Int) < (s.size : Int) := by omega
          have hnw := HW.out.last
          rw [if_pos hlt] at hnw
          have HNW := Lib.hid hnw; clear hnw
          have h0a : (0 : Int) ≤ (at_ : Int) := by omega
          have hae : at_ ≤ s.size := by omega
          go_wp2_with (first
            | (at_builtin; refine wpList_append_strs rfl _ _ rfl w.heap.size w.heap.size _ P.length (strs P) rfl ?c1 _ 1 [.string (s.extract at_ s.size)] rfl ?c2 ?c5 ?c3 ?c4 ?_)
            | fail)
          case c1 => exact HO.out.alloc _
          case c2 => exact one_str _ HB.out.size
          case c5 => intro u hu; simp at hu; subst hu; rfl
          case c3 => omega
          case c4 => have := HB.out.size; simp; omega
          intro v' w3 hown' hgr
          have hb3 : Below w.heap.size w w3 := (Below.alloc HB.out HB.out.size (.cells #[.string (s.extract at_ s.size)] 9)).grown hgr (by have := HB.out.size; simp; omega) (fun g e => (HO.out.lt g e).1)
          have hrow : w3.ownsRow w.heap.size 9 1 v' (P ++ [segB s.data.toList at_ s.size]).length (strs (P ++ [segB s.data.toList at_ s.size])) := by
            rw [List.length_append, strs_append]
            rw [segB_mk] at hown'
            exact hown'
          have HR := Lib.hid (And.intro hrow hb3); clear hrow hb3 hgr hown'
          go_wp2_with fail
          go_roundg (s.size + 1 - (s.size + 1))
          case measure => have := HG.out; omega
          case rel => exact ⟨s.size + 1, s.size + 1, _, by omega, by go_num, by go_num, HNW.out, HR.out.1, HR.out.2⟩
        · have hlt' : ¬ (at_ : Int) < (s.size : Int) := by omega
          have hnw := HW.out.last
          rw [if_neg hlt, List.append_nil] at hnw
          have HNW := Lib.hid hnw; clear hnw
          go_wp2_with fail
          go_roundg (s.size + 1 - (s.size + 1))
          case measure => have := HG.out; omega
          case rel => exact ⟨s.size + 1, s.size + 1, _, by omega, by go_num, by go_num, HNW.out, HO.out, HB.out⟩
      · have hk2 : k < s.size := by omega
        have hk3 : (k : Int) < (s.size : Int) := by omega
        have hk4 : ((k : Int) == (s.size : Int)) = false := beq_eq_false_iff_ne.2 (by omega)
        clear hend
        rcases hc : ((s[k].toNat : Int) == 32) with _ | _
        · have HNW := Lib.hid (HW.out.keep hk2 hc)
          go_wp2_with fail
          go_roundg (s.size + 1 - (k + 1))
          case measure => have := HG.out; omega
          case rel => exact ⟨k + 1, at_, _, by omega, rfl, by go_num, HNW.out, HO.out, HB.out⟩
        · by_cases hlt : at_ < k
          · have hlt' : (at_ : Int) < (k : Int) := by omega
            have hnw := HW.out.cut hk2 hc
            rw [if_pos hlt] at hnw
            have HNW := Lib.hid hnw; clear hnw
            have h0a : (0 : Int) ≤ (at_ : Int) := by omega
            have hae : at_ ≤ k := by omega
            go_wp2_with (first
              | (at_builtin; refine wpList_append_strs rfl _ _ rfl w.heap.size w.heap.size _ P.length (strs P) rfl ?c1 _ 1 [.string (s.extract at_ k)] rfl ?c2 ?c5 ?c3 ?c4 ?_)
              | fail)
            case c1 => exact HO.out.alloc _
            case c2 => exact one_str _ HB.out.size
            case c5 => intro u hu; simp at hu; subst hu; rfl
            case c3 => omega
            case c4 => have := HB.out.size; simp; omega
            intro v' w3 hown' hgr
            have hb3 : Below w.heap.size w w3 := (Below.alloc HB.out HB.out.size (.cells #[.string (s.extract at_ k)] 9)).grown hgr (by have := HB.out.size; simp; omega) (fun g e => (HO.out.lt g e).1)
            have hrow : w3.ownsRow w.heap.size 9 1 v' (P ++ [segB s.data.toList at_ k]).length (strs (P ++ [segB s.data.toList at_ k])) := by
              rw [List.length_append, strs_append]
              rw [segB_mk] at hown'
              exact hown'
            have HR := Lib.hid (And.intro hrow hb3); clear hrow hb3 hgr hown'
            go_wp2_with fail
            go_roundg (s.size + 1 - (k + 1))
            case measure => have := HG.out; omega
            case rel => exact ⟨k + 1, k + 1, _, by omega, by go_num, by go_num, HNW.out, HR.out.1, HR.out.2⟩
          · have hlt' : ¬ (at_ : Int) < (k : Int) := by omega
            have hnw := HW.out.cut hk2 hc
            rw [if_neg hlt, List.append_nil] at hnw
            have HNW := Lib.hid hnw; clear hnw
            go_wp2_with fail
            go_roundg (s.size + 1 - (k + 1))
            case measure => have := HG.out; omega
            case rel => exact ⟨k + 1, k + 1, _, by omega, by go_num, by go_num, HNW.out, HO.out, HB.out⟩
    · have hk' : ¬ (k : Int) ≤ (s.size : Int) := by omega
      have hfin := HW.out.fin (by omega)
      have HF := Lib.hid hfin; clear hfin
      go_wp2_with fail
      go_ret
      exact ⟨_, rfl, by rw [← HF.out]; exact HO.out, HB.out⟩

theorem wordsL_strs (s : ByteArray) : vals (wordsL s) = strs (wordsB s.data.toList) := by
  have key : ∀ L : List (List UInt8), keptW (L.map mkS) = (L.filter fun w => !w.isEmpty).map mkS := by
    intro L
    induction L with
    | nil => rfl
    | cons x L ih =>
      unfold keptW at ih ⊢
      rw [List.map_cons, List.filter_cons, List.filter_cons, ih]
      cases x with
      | nil => rfl
      | cons a r => rfl
  unfold wordsL
  rw [key]
  unfold vals strs wordsB
  rw [List.map_map]
  rfl
theorem wordsL_len (s : ByteArray) : (wordsL s).length = (wordsB s.data.toList).length := by
  have := congrArg List.length (wordsL_strs s)
  simpa [vals, strs] using this
end Go.Proofs.YtidjnfjpdnjogaaGreatDoor
