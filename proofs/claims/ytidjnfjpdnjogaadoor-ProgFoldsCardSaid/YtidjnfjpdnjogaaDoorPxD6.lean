/-
  The document's Run. Conditions: none.
-/
import Derived.Test.YtidjnfjpdnjogaaDoorPxD5
import Derived.Test.YtidjnfjpdnjogaaDoorM7
import Derived.Test.YtidjnfjpdnjogaaDoorM5
import Derived.Test.YtidjnfjpdnjogaaDoorM6
namespace Go.Proofs.YtidjnfjpdnjogaaDoor
open Go.RowKit Go.Lib

/-- Numbers as values. -/
def fls (l : List Nat) : List Value := l.map fun n => Value.float .f64 n
def Tell.dval (r : Tell) : Value := .tuple #[.float .f64 r.v, .int .i64 r.err, .int .i64 r.kind, .string ⟨r.text.toArray⟩]
def DRuns (r : Tell) (w : World) (e : Ending) (w' : World) : Prop := e = .returned r.dval ∧ Below w.heap.size w w'
/-- Numbers that stand: each NaN is the one. -/
def Fixed (st : List Nat) : Prop := ∀ f ∈ st, oneW f = f ∧ f < 18446744073709551616

theorem fls_len (l : List Nat) : (fls l).length = l.length := by simp [fls]
theorem fls_app (k l : List Nat) : fls (k ++ l) = fls k ++ fls l := by simp [fls]
theorem addr_plus (b off i : Nat) : ((⟨b, off, none⟩ : Addr).add i) = ⟨b, off + i, none⟩ := by
  unfold Addr.add
  by_cases hi : i = 0 <;> simp [hi]
/-- Numbers that lie anywhere. -/
def Flx (w : World) (v : Value) (l : List Nat) : Prop := (l = [] ∧ (v = .slice none 0 0 ∨ ∃ ad c, v = .slice (some ad) 0 c)) ∨ ∃ b off cap, v = .slice (some ⟨b, off, none⟩) l.length cap ∧ ∀ i, i < l.length → w.cell? ⟨b, off + i, none⟩ = some (.float .f64 (l.getD i 0))
theorem wp_append_fls {o : Oper} {a : Act} {K : Act → World → Prop} {Q : Exit → Act → World → Prop} {w : World} (s x : Operand)
    (ho : o.op = .call { callee := .builtin .append, args := #[s, x], argTypes := #[40, 40] }) (base : Nat) (v : Value) (k : List Nat) (hs : a.eval s = v) (hown : w.ownsRow base 23 1 v k.length (fls k))
    (sv : Value) (l : List Nat) (hx : a.eval x = sv) (ht : Flx w sv l) (hnm : k.length + l.length ≤ 2000000) (hbase : base ≤ w.heap.size)
    (h : ∀ v' w', w'.ownsRow base 23 1 v' (k.length + l.length) (fls (k ++ l)) → w.grownBy w' v.ownBlock → K (a.put o.dst v') w') : o.wp Tryd.prog a w K Q := by
  obtain ⟨i0, hi0, hz0, hs0, hb0'⟩ := info_parts info_f
  rw [fls_app] at h
  have nilCase : ∀ ad c, l = [] → sv = .slice (some ad) 0 c → o.wp Tryd.prog a w K Q := by
    rintro ad c rfl rfl
    exact wp_append_own w s x 40 ho base 23 i0 _ 1 8 Tryd.underlying40 hi0 hz0 hs0 hb0' rfl (by decide) v k.length (fls k) hs hown ad 0 c [] hx rfl (fun j u hu => by simp at hu) (fun u hu => by cases hu) (by unfold maxLen; simp at hnm; omega) (by simp at hnm; omega) hbase
      fun v' w' a1 a2 _ => h v' w' (by simpa [fls] using a1) a2
  rcases ht with ⟨hl, hv | ⟨ad, c, hv⟩⟩ | ⟨b, off, cap, rfl, hc⟩
  · subst hl hv
    have hrun := run_append_owned_none (P := Tryd.prog) (w := w) base 40 o.type 23 i0 1 Tryd.underlying40 hi0 v k.length (fls k) hown
    unfold Oper.wp
    simp only [execOp, ho, resolve, invoke, builtin, hs, hx, hrun, Result.andThen, Sem.run_bind, Sem.run_pure, List.map_toArray, List.map_cons, List.map_nil]
    exact h v w (by simpa [fls] using hown) ⟨rfl, rfl, rfl, Nat.le_refl _, fun _ _ _ => rfl⟩
  · exact nilCase ad c hl hv
  · refine wp_append_own w s x 40 ho base 23 i0 _ 1 8 Tryd.underlying40 hi0 hz0 hs0 hb0' rfl (by decide) v k.length (fls k) hs hown ⟨b, off, none⟩ l.length cap (fls l) hx (by simp [fls]) ?_ ?_ (by unfold maxLen; omega) (by omega) hbase
      fun v' w' a1 a2 _ => h v' w' a1 a2
    · intro j u hu
      have hj : j < l.length := by
        have := (List.getElem?_eq_some_iff.1 hu).1
        simpa [fls] using this
      rw [addr_plus, hc j hj, ← hu]
      simp [fls, List.getD_eq_getElem?_getD, hj]
    · intro u hu
      obtain ⟨y, _, rfl⟩ := List.mem_map.1 hu
      rfl
theorem wpList_append_fls {ops : Array Oper} {rest : List Oper} {o : Oper} {a : Act} {Q : Exit → Act → World → Prop} {w : World} (hgd : o.guard = none) (s x : Operand)
    (ho : o.op = .call { callee := .builtin .append, args := #[s, x], argTypes := #[40, 40] }) (base : Nat) (v : Value) (k : List Nat) (hs : a.eval s = v) (hown : w.ownsRow base 23 1 v k.length (fls k))
    (sv : Value) (l : List Nat) (hx : a.eval x = sv) (ht : Flx w sv l) (hnm : k.length + l.length ≤ 2000000) (hbase : base ≤ w.heap.size)
    (h : ∀ v' w', w'.ownsRow base 23 1 v' (k.length + l.length) (fls (k ++ l)) → w.grownBy w' v.ownBlock → wpList Tryd.prog ops Q rest (a.put o.dst v') w') : wpList Tryd.prog ops Q (o :: rest) a w :=
  wpList_plain hgd fun _ hK => wp_append_fls s x ho base v k hs hown sv l hx ht hnm hbase fun v' w' h2 h3 => hK _ _ (h v' w' h2 h3)
theorem flx_one {w : World} {b x : Nat} (h : w.heap[b]? = some (.cells #[.float .f64 x] 23)) : Flx w (.slice (some ⟨b, 0, none⟩) 1 1) [x] := by
  refine Or.inr ⟨b, 0, 1, rfl, fun i hi => ?_⟩
  match i, hi with
  | 0, _ => simp [World.cell?, h]
theorem flx_two {w : World} {b x y : Nat} (h : w.heap[b]? = some (.cells #[.float .f64 x, .float .f64 y] 23)) : Flx w (.slice (some ⟨b, 0, none⟩) 2 2) [x, y] := by
  refine Or.inr ⟨b, 0, 2, rfl, fun i hi => ?_⟩
  match i, hi with
  | 0, _ => simp [World.cell?, h]
  | 1, _ => simp [World.cell?, h]

theorem dslice_top (ao : Option Addr) (m n cap : Nat) (hc : m + n ≤ cap) : ∃ ao' : Option Addr, (0 < n → ∀ g, ao = some ⟨g, 0, none⟩ → ao' = some ⟨g, m, none⟩) ∧ ∀ w : World,
    (Instr.slice 40 (.slice ao (m + n) cap) (some (.int .i64 m)) none none).run Tryd.prog w = .ok (.slice ao' n (cap - m)) w := by
  refine ⟨if cap = m then ao else ao.map (·.add m), ?_, fun w => ?_⟩
  · rintro h g rfl
    rw [if_neg (by omega)]
    simp [addr_plus]
  have ht : Tryd.prog.underlying 40 = some (.slice (Tryd.prog.elem 40)) := by kernel_rfl
  have hz : ∀ w, (Go.sizeOf (Tryd.prog.elem 40)).run Tryd.prog w = .ok 1 w := fun w => by kernel_rfl
  rw [run_slice_l w 40 _ _ _ ht .i64 _ (by omega) (by omega), hz]
  simp [Result.andThen, sliced]
theorem dslice_low (ao : Option Addr) (m n cap : Nat) (hc : m + n ≤ cap) (w : World) :
    (Instr.slice 40 (.slice ao (m + n) cap) none (some (.int .i64 m)) none).run Tryd.prog w = .ok (.slice ao m cap) w := by
  have ht : Tryd.prog.underlying 40 = some (.slice (Tryd.prog.elem 40)) := by kernel_rfl
  have hz : ∀ w, (Go.sizeOf (Tryd.prog.elem 40)).run Tryd.prog w = .ok 1 w := fun w => by kernel_rfl
  rw [run_slice_h w 40 _ _ _ ht .i64 _ (by omega) (by omega), hz]
  cases ao with
  | none => simp [Result.andThen, sliced]
  | some ad => simp [Result.andThen, sliced, Addr.add]

/-- A row's two parts. -/
theorem row_parts {w : World} {B m n : Nat} {v : Value} {xs : List Nat} (h : w.ownsRow B 23 1 v (m + n) (fls xs)) (hl : xs.length = m + n) :
    ∃ ao cap, v = .slice ao (m + n) cap ∧ m + n ≤ cap ∧ Flx w (.slice ao m cap) (xs.take m) ∧
      ∃ ao', (∀ w : World, (Instr.slice 40 (.slice ao (m + n) cap) (some (.int .i64 m)) none none).run Tryd.prog w = .ok (.slice ao' n (cap - m)) w) ∧
        (0 < n → ∃ g, ao' = some ⟨g, m, none⟩ ∧ g < w.heap.size ∧ ∀ i, i < n → w.cell? ⟨g, m + i, none⟩ = some (.float .f64 (xs.getD (m + i) 0))) := by
  rcases h.2 with ⟨rfl, h0⟩ | ⟨g, cap, cur, rfl, hg, hb, hn, hm, hs, ht⟩
  · obtain ⟨ao', _, h2⟩ := dslice_top none m n 0 (by omega)
    refine ⟨none, 0, by rw [h0], by omega, Or.inl ⟨?_, Or.inl (by rw [show m = 0 by omega])⟩, ao', h2, fun h => by omega⟩
    rw [show m = 0 by omega]; rfl
  · have hc : ∀ j, j < m + n → w.cell? ⟨g, j, none⟩ = some (.float .f64 (xs.getD j 0)) := fun j hj => by
      rw [h.cellAt j (by omega)]
      simp [fls, List.getD_eq_getElem?_getD, show j < xs.length by omega]
    obtain ⟨ao', h1, h2⟩ := dslice_top (some ⟨g, 0, none⟩) m n cap (by omega)
    refine ⟨_, cap, rfl, hn, ?_, ao', h2, fun h0 => ⟨g, h1 h0 g rfl, lt_of_block hb, fun i hi => hc _ (by omega)⟩⟩
    refine Or.inr ⟨g, 0, cap, by simp [show min m xs.length = m by omega], fun i hi => ?_⟩
    have hi' : i < m := by simp at hi; omega
    rw [Nat.zero_add, hc i (by omega)]
    simp [List.getD_eq_getElem?_getD, hi']

theorem takes_few {w : List UInt8} (hw : isWord w = true) : ∃ n : Nat, (takesB w).1 = (n : Int) ∧ n ≤ 3 := by
  cases h : knownB w
  · rw [takes_un h]
    unfold isWord at hw
    rw [h, Bool.or_false] at hw
    rw [hw]
    exact ⟨0, rfl, by omega⟩
  · unfold knownB at h
    simp only [List.contains_eq_mem, decide_eq_true_eq, arithWords, moveWords, otherWords, List.mem_append, List.mem_cons, List.not_mem_nil, or_false] at h
    rcases h with ((h | h | h | h | h | h | h) | (h | h | h | h)) | (h | h | h | h | h | h | h) <;> subst h
    · exact ⟨2, rfl, by omega⟩
    · exact ⟨2, rfl, by omega⟩
    · exact ⟨2, rfl, by omega⟩
    · exact ⟨2, rfl, by omega⟩
    · exact ⟨2, rfl, by omega⟩
    · exact ⟨2, rfl, by omega⟩
    · exact ⟨2, rfl, by omega⟩
    · exact ⟨1, rfl, by omega⟩
    · exact ⟨1, rfl, by omega⟩
    · exact ⟨2, rfl, by omega⟩
    · exact ⟨3, rfl, by omega⟩
    · exact ⟨0, rfl, by omega⟩
    · exact ⟨0, rfl, by omega⟩
    · exact ⟨0, rfl, by omega⟩
    · exact ⟨0, rfl, by omega⟩
    · exact ⟨1, rfl, by omega⟩
    · exact ⟨1, rfl, by omega⟩
    · exact ⟨0, rfl, by omega⟩
theorem step_short (en : En) {w : List UInt8} (hw : isWord w = true) (st : List Nat) {n : Nat} (hn : (takesB w).1 = (n : Int)) (h : st.length < n) : stepB en w st = .rt := by
  cases hk : knownB w
  · rw [takes_un hk] at hn
    split at hn <;> simp at hn <;> omega
  · unfold knownB at hk
    simp only [List.contains_eq_mem, decide_eq_true_eq, arithWords, moveWords, otherWords, List.mem_append, List.mem_cons, List.not_mem_nil, or_false] at hk
    have two : ∀ st : List Nat, st.length < 2 → st = [] ∨ ∃ x, st = [x] := fun st h => by
      match st, h with
      | [], _ => exact Or.inl rfl
      | [x], _ => exact Or.inr ⟨x, rfl⟩
    have three : ∀ st : List Nat, st.length < 3 → st = [] ∨ (∃ x, st = [x]) ∨ ∃ x y, st = [x, y] := fun st h => by
      match st, h with
      | [], _ => exact Or.inl rfl
      | [x], _ => exact Or.inr (Or.inl ⟨x, rfl⟩)
      | [x, y], _ => exact Or.inr (Or.inr ⟨x, y, rfl⟩)
    rcases hk with ((hk | hk | hk | hk | hk | hk | hk) | (hk | hk | hk | hk)) | (hk | hk | hk | hk | hk | hk | hk) <;> subst hk
    iterate 7
      · obtain rfl : n = 2 := by have : (2 : Int) = n := hn; omega
        rcases two st h with rfl | ⟨x, rfl⟩ <;> rfl
    · obtain rfl : n = 1 := by have : (1 : Int) = n := hn; omega
      obtain rfl : st = [] := List.eq_nil_of_length_eq_zero (by omega)
      rfl
    · obtain rfl : n = 1 := by have : (1 : Int) = n := hn; omega
      obtain rfl : st = [] := List.eq_nil_of_length_eq_zero (by omega)
      rfl
    · obtain rfl : n = 2 := by have : (2 : Int) = n := hn; omega
      rcases two st h with rfl | ⟨x, rfl⟩ <;> rfl
    · obtain rfl : n = 3 := by have : (3 : Int) = n := hn; omega
      rcases three st h with rfl | ⟨x, rfl⟩ | ⟨x, y, rfl⟩ <;> rfl
    iterate 4
      · exfalso; have : (0 : Int) = n := hn; omega
    · obtain rfl : n = 1 := by have : (1 : Int) = n := hn; omega
      obtain rfl : st = [] := List.eq_nil_of_length_eq_zero (by omega)
      rfl
    · obtain rfl : n = 1 := by have : (1 : Int) = n := hn; omega
      obtain rfl : st = [] := List.eq_nil_of_length_eq_zero (by omega)
      rfl
    · exfalso; have : (0 : Int) = n := hn; omega

theorem row_some {w : World} {B e size n : Nat} {qo : Option Addr} {n2 qc : Nat} {xs : List Value} (h : w.ownsRow B e size (.slice qo n2 qc) n xs) (h0 : 0 < n) : ∃ g, qo = some ⟨g, 0, none⟩ := by
  rcases h.2 with ⟨_, h1⟩ | ⟨g, cap, cur, hv, _⟩
  · omega
  · simp only [Value.slice.injEq] at hv
    exact ⟨g, hv.1⟩
theorem fls_at (raw : List Nat) (j : Nat) (h : j < raw.length) : (fls ((raw.take j).map oneW ++ raw.drop j))[j]? = some (.float .f64 (raw.getD j 0)) := by
  unfold fls
  rw [List.getElem?_map, List.getElem?_append_right (by simp; omega)]
  simp [List.getD_eq_getElem?_getD, show j - min j raw.length = 0 by omega, h]
theorem fls_set (raw : List Nat) (j : Nat) (h : j < raw.length) : (fls ((raw.take j).map oneW ++ raw.drop j)).set j (.float .f64 (oneW (raw.getD j 0))) = fls ((raw.take (j + 1)).map oneW ++ raw.drop (j + 1)) := by
  apply List.ext_getElem?
  intro i
  unfold fls
  rw [List.getElem?_set]
  by_cases hi : j = i
  · subst hi
    rw [if_pos rfl, if_pos (by simp; omega), List.getElem?_map, List.getElem?_append_left (by simp; omega)]
    simp [List.getD_eq_getElem?_getD, h]
  · rw [if_neg hi, List.getElem?_map, List.getElem?_map]
    congr 1
    by_cases hlt : i < j
    · rw [List.getElem?_append_left (by simp; omega), List.getElem?_append_left (by simp; omega)]
      simp [hlt, show i < j + 1 by omega]
    · rw [List.getElem?_append_right (by simp; omega), List.getElem?_append_right (by simp; omega)]
      simp only [List.length_map, List.length_take, List.getElem?_drop]
      congr 1
      omega
theorem row_one {w : World} {B e size : Nat} {v : Value} {xs : List Value} (h : w.ownsRow B e size v 1 xs) : ∃ g qc, v = .slice (some ⟨g, 0, none⟩) 1 qc := by
  rcases h.2 with ⟨_, h1⟩ | ⟨g, cap, cur, hv, _⟩
  · cases h1
  · exact ⟨g, cap, hv⟩
theorem own_down {w : World} {base base' : Nat} {e : TypeId} {size : Nat} {v : Value} {n : Nat} {xs : List Value} (h : w.ownsRow base e size v n xs) (hb : base' ≤ base) : w.ownsRow base' e size v n xs :=
  ⟨h.1, h.2.imp id fun ⟨g, cap, cur, h1, h2, h3⟩ => ⟨g, cap, cur, h1, Nat.le_trans hb h2, h3⟩⟩
theorem split_top (st : List Nat) (n : Nat) (h : ¬ st.length < n) : ∃ (m : Nat) (tp rs : List Nat), st.length = m + n ∧ st = tp ++ rs ∧ tp.length = n ∧ rs.length = m :=
  ⟨st.length - n, st.take n, st.drop n, by omega, (List.take_append_drop n st).symm, by simp; omega, by simp⟩
theorem take_rest {tp rs : List Nat} {m n : Nat} (_htp : tp.length = n) (hrs : rs.length = m) : (tp ++ rs).reverse.take m = rs.reverse := by
  rw [List.reverse_append, List.take_append_of_le_length (by simp [hrs]), List.take_of_length_le (by simp [hrs])]
theorem get_top {tp rs : List Nat} {m n : Nat} (_htp : tp.length = n) (hrs : rs.length = m) (i : Nat) : (tp ++ rs).reverse.getD (m + i) 0 = tp.reverse.getD i 0 := by
  rw [List.reverse_append, List.getD_eq_getElem?_getD, List.getD_eq_getElem?_getD, List.getElem?_append_right (by simp [hrs])]
  congr 2
  simp [hrs]
theorem row_slice' {w : World} {B e size n : Nat} {v : Value} {xs : List Value} (h : w.ownsRow B e size v n xs) : ∃ po pc, v = .slice po n pc := by
  rcases h.2 with ⟨rfl, rfl⟩ | ⟨g, cap, cur, rfl, _⟩
  · exact ⟨none, 0, rfl⟩
  · exact ⟨_, _, rfl⟩
theorem checkB_all (a : List (List UInt8)) (i : Nat) (h : (checkB a i).1 = 0) : ∀ w ∈ a, isWord w = true := by
  induction a generalizing i with
  | nil => intro w hw; cases hw
  | cons x a ih =>
    unfold checkB at h
    split at h
    · rename_i hx
      intro w hw
      rcases List.mem_cons.1 hw with rfl | hw
      · exact hx
      · exact ih _ h w hw
    · cases h
theorem words_ok {l : List ByteArray} (h : checkL (tl l) = (0, 0)) (k : Nat) (hk : k < l.length) : isWord (l.getD k ByteArray.empty).data.toList = true := by
  unfold checkL at h
  split at h
  · cases h
  · have h2 := checkB_all (tl l) 0 (by rw [h])
    refine h2 _ ?_
    rw [List.getD_eq_getElem?_getD, List.getElem?_eq_getElem hk]
    exact List.mem_map.2 ⟨_, List.getElem_mem hk, rfl⟩
theorem drop_words (en : En) (l : List ByteArray) (k : Nat) (hk : k < l.length) (st : List Nat) : wordsGo en (tl (l.drop k)) st = match stepB en (l.getD k ByteArray.empty).data.toList st with
    | .ok st' => wordsGo en (tl (l.drop (k + 1))) st'
    | x => x := by
  have e : l.drop k = l.getD k ByteArray.empty :: l.drop (k + 1) := by
    rw [List.drop_eq_getElem_cons hk, List.getD_eq_getElem?_getD, List.getElem?_eq_getElem hk]; rfl
  rw [e]; rfl

theorem len_1 {tp : List Nat} (h : tp.length = 1) : ∃ x, tp = [x] := by
  match tp, h with
  | [x], _ => exact ⟨x, rfl⟩
theorem len_2 {tp : List Nat} (h : tp.length = 2) : ∃ y x, tp = [y, x] := by
  match tp, h with
  | [y, x], _ => exact ⟨y, x, rfl⟩
theorem len_3 {tp : List Nat} (h : tp.length = 3) : ∃ z y x, tp = [z, y, x] := by
  match tp, h with
  | [z, y, x], _ => exact ⟨z, y, x, rfl⟩
theorem ev_cells {w : World} {b : Nat} {en : En} (h : w.heap[b]? = some (.cells #[.int .i64 en.id, .string en.ty, .string en.d, .float .f64 en.v] 35)) :
    w.cell? ⟨b, 0, none⟩ = some (.int .i64 en.id) ∧ w.cell? ⟨b, 1, none⟩ = some (.string en.ty) ∧ w.cell? ⟨b, 2, none⟩ = some (.string en.d) ∧ w.cell? ⟨b, 3, none⟩ = some (.float .f64 en.v) := by
  simp [World.cell?, h]
theorem own_draws {w : World} {base : Nat} {e : TypeId} {size : Nat} {v : Value} {n : Nat} {xs : List Value} (h : w.ownsRow base e size v n xs) (d : Nat) : (w.drewN d).ownsRow base e size v n xs := h
theorem flin_at {w : World} {g m x y : Nat} (h0 : w.cell? ⟨g, m, none⟩ = some (.float .f64 x)) (h1 : w.cell? ⟨g, m + 1, none⟩ = some (.float .f64 y)) (hl : g < w.heap.size) : FlIn w g m 2 (pairL x y) := by
  refine ⟨fun i hi => ?_, hl⟩
  match i, hi with
  | 0, _ => exact h0
  | 1, _ => exact h1
theorem pair_lt {x y : Nat} (hx : x < 18446744073709551616) (hy : y < 18446744073709551616) (i : Nat) (_ : i < 2) : pairL x y i < 18446744073709551616 := by
  unfold pairL; split <;> assumption
theorem least_first {x y : Nat} (x1 : oneW x = x) : oneW (leastC (pairL x y) 2) = oneW (firstC (pairL x y) 1) := by
  have e1 : leastC (pairL x y) 1 = x := by
    show (if lessB x 9221120237041090560 then x else 9221120237041090560) = x
    rcases fine_dec x with ⟨h, hf⟩ | ⟨h, _⟩
    · have h2 : lessB x 9221120237041090560 = true := by
        rw [less_ord, ordK_nan, decide_eq_true_eq]
        unfold fine at hf
        unfold ordK
        rw [if_neg (by omega)]
        split <;> omega
      rw [if_pos h2]
    · rw [oneW_nan h] at x1
      rw [← x1]
      split <;> rfl
  show oneW (if lessB y (leastC (pairL x y) 1) then y else leastC (pairL x y) 1) = oneW (if lessB y x then y else x)
  rw [e1]
theorem pick_test (z : Nat) : nilB z = !((FloatKind.f64.format.order z 0 != some .eq) && (FloatKind.f64.format.order z z == some .eq)) := by
  show ((Ieee.double.order z 0 == some .eq) || (Ieee.double.order z z != some .eq)) = !((Ieee.double.order z 0 != some .eq) && (Ieee.double.order z z == some .eq))
  cases h1 : (Ieee.double.order z 0 == some .eq) <;> cases h2 : (Ieee.double.order z z == some .eq) <;> simp [h1, h2, bne]

/-- Two numbers that are read. -/
def Rd2 (q g m x y : Nat) (w : World) : Prop := w.cell? ⟨g, m, none⟩ = some (.float .f64 x) ∧ w.cell? ⟨g, m + q, none⟩ = some (.float .f64 y) ∧ g < w.heap.size

theorem Rd2.up {q g m x y : Nat} {w w' : World} (h : Rd2 q g m x y w) (hb : Below w.heap.size w w') : Rd2 q g m x y w' :=
  ⟨(World.cell?_of_block (hb.block _ h.2.2)).trans h.1, (World.cell?_of_block (hb.block _ h.2.2)).trans h.2.1, Nat.lt_of_lt_of_le h.2.2 hb.size⟩
theorem Rd2.grown {q g m x y : Nat} {w w' : World} {v : Value} (h : Rd2 q g m x y w) (hg : w.grownBy w' v.ownBlock) (hn : ∀ b, v.ownBlock = some b → g ≠ b) : Rd2 q g m x y w' :=
  ⟨(World.cell?_of_block (hg.block _ h.2.2 (fun e => hn g e.symm rfl))).trans h.1, (World.cell?_of_block (hg.block _ h.2.2 (fun e => hn g e.symm rfl))).trans h.2.1, Nat.lt_of_lt_of_le h.2.2 hg.size⟩
theorem byte_getD (s : ByteArray) (i : Nat) (h : i < s.size) : s.data.toList.getD i 0 = s[i] := by
  rw [List.getD_eq_getElem?_getD, List.getElem?_eq_getElem (by simpa using h)]
  rfl
/-- What the switch leaves. -/
def Cut (en : En) (s : List UInt8) (st : List Nat) (q : Nat) (w : World) (v : Value) (wx : World) : Prop :=
  ∃ (raw : List Nat) (st' : List Nat), stepB en s st = .ok st' ∧ raw.map oneW = st'.reverse ∧ (∀ f ∈ raw, f < 18446744073709551616) ∧ raw.length ≤ q ∧ wx.ownsRow (w.heap.size + 1) 23 1 v raw.length (fls raw) ∧ wx.heap[w.heap.size]? = some (.cells #[.int .i64 en.id, .string en.ty, .string en.d, .float .f64 en.v] 35) ∧ Below w.heap.size w wx
theorem cut_ok {en : En} {s : List UInt8} {tp rs : List Nat} (ps : List Nat) {m n : Nat} {w w4 w5 wx : World} {v4 v : Value} (hfx : Fixed (tp ++ rs)) (hrs : rs.length = m) (hps : ps.length ≤ n + 1) (hlt : ∀ f ∈ ps, f < 18446744073709551616) (hstep : stepB en s (tp ++ rs) = .ok (ps.reverse.map oneW ++ rs))
    (ho : w4.ownsRow (w.heap.size + 1) 23 1 v4 rs.reverse.length (fls rs.reverse)) (hev : w4.heap[w.heap.size]? = some (.cells #[.int .i64 en.id, .string en.ty, .string en.d, .float .f64 en.v] 35)) (hb : Below w.heap.size w w4) (hb5 : Below w4.heap.size w4 w5)
    (hown : wx.ownsRow (w.heap.size + 1) 23 1 v (rs.reverse.length + ps.length) (fls (rs.reverse ++ ps))) (hg : w5.grownBy wx v4.ownBlock) : Cut en s (tp ++ rs) (m + n + 1) w v wx := by
  have hfr : ∀ f ∈ rs, oneW f = f ∧ f < 18446744073709551616 := fun f hf => hfx f (List.mem_append_right _ hf)
  refine ⟨rs.reverse ++ ps, _, hstep, ?_, ?_, ?_, by rw [List.length_append]; exact hown, ?_, ?_⟩
  · rw [List.map_append, List.reverse_append, ← List.map_reverse, List.reverse_reverse]
    congr 1
    rw [List.map_reverse]
    congr 1
    conv => rhs; rw [← List.map_id rs]
    exact List.map_congr_left (fun f hf => (hfr f hf).1)
  · intro f hf
    rcases List.mem_append.1 hf with hf | hf
    · exact (hfr f (List.mem_reverse.1 hf)).2
    · exact hlt f hf
  · rw [List.length_append, List.length_reverse]; omega
  · have hz := lt_of_block hev
    rw [hg.block _ (Nat.lt_of_lt_of_le hz hb5.size) (fun e => by have := (ho.lt _ e.symm).1; omega), hb5.block _ hz, hev]
  · exact (hb.trans (hb5.mono hb.size)).grown hg (Nat.le_trans hb.size hb5.size) (fun g e => by have := (ho.lt g e).1; omega)

set_option maxRecDepth 100000 in
set_option maxHeartbeats 20000000 in
theorem drun_good (en : En) (ho : en.Ok) (l : List ByteArray) (hf : Shorts l) (v : Value) (w : World) (h : Txs w v l) (hc : checkL (tl l) = (0, 0)) (hl64 : l.length ≤ 64) :
    Calls Tryd.prog 21 #[v, .float .f64 en.s, .agg #[.int .i64 en.id, .string en.ty, .string en.d, .float .f64 en.v], .int .i64 en.ver] w (DRuns (tellOf (wordsGo en (tl l) [])) w) := by
  have HK := Lib.hid (dcheck_any l hf v)
  rw [hc] at HK
  unfold takesV at HK
  obtain ⟨po, cap, rfl⟩ := h.slice
  have HT := Lib.hid h
  have HO := Lib.hid ho
  have HF := Lib.hid hf
  have HC := Lib.hid hc
  have hm2 : Tryd.prog.follows .mixedOrders = true := by kernel_rfl
  have hsf : ∀ (w : World) (a : Addr) (k : FloatKind) (b : Nat) (m : Mode), (store a (.float k b) m).run Tryd.prog w = stored Tryd.prog w a (.float k b) m := fun w a k b m => run_store Tryd.prog w a _ m rfl
  clear h hc ho hf
  unfold DRuns
  go_enter Tryd.func21, Tryd.ntmps21
  go_wp2_with fail
  refine (HK.out _ (HT.out.below (below_alloc _ _))).mono ?_
  rintro e w1 ⟨rfl, rfl⟩
  go_wp2_with fail
  go_loopg [14, 15] l.length (fun g v i wr => ∃ (k : Nat) (st : List Nat), g = l.length - k ∧ k ≤ l.length ∧ i = .int .i64 k ∧ wordsGo en (tl (l.drop k)) st = wordsGo en (tl l) [] ∧ Fixed st ∧ st.length ≤ k ∧ wr.ownsRow (w.heap.size + 1) 23 1 v st.length (fls st.reverse) ∧ wr.heap[w.heap.size]? = some (.cells #[.int .i64 en.id, .string en.ty, .string en.d, .float .f64 en.v] 35) ∧ Below w.heap.size w wr)
  case atStart => exact ⟨0, [], by omega, by omega, rfl, rfl, (fun f hf => by cases hf), Nat.le_refl _, World.ownsRow_nil _ _ _ _, new_block _ _, below_alloc _ _⟩
  case round =>
    obtain ⟨k, st, hg, hk, rfl, hgo, hfx, hlen, hown, hev, hb⟩ := hrel
    have HG := Lib.hid hg; clear hg
    by_cases hlt : k < l.length
    · have hl : (k : Int) < (l.length : Int) := by omega
      have hw1 : IntKind.i64.wrap ((k : Int) + 1) = (k : Int) + 1 := IntWalk.i64_in _ (by omega)
      rcases HT.out with ⟨rfl, _⟩ | ⟨b, off, cap', hv, hx⟩
      · simp at hlt
      obtain ⟨rfl, -, rfl⟩ : po = some ⟨b, off, none⟩ ∧ l.length = l.length ∧ cap = cap' := by simpa using hv
      have HX := Lib.hid hx
      have c1 := (hx.below hb).c k hlt
      have hbl : b < wr.heap.size := (hx.below hb).bl
      have hsz := short_at HF.out k hlt
      have hiw : isWord (l.getD k ByteArray.empty).data.toList = true := words_ok HC.out k hlt
      have hdr := drop_words en l k hlt st
      revert c1 hsz hiw hdr
      generalize l.getD k ByteArray.empty = s
      intro c1 hsz hiw hdr
      rw [hgo] at hdr
      have HD := Lib.hid hdr
      clear hdr hv hgo
      obtain ⟨n, hn, hn3⟩ := takes_few hiw
      have HP := Lib.hid (takes_any s hsz)
      unfold takesV at HP
      rw [hn] at HP
      have HIW := Lib.hid (And.intro hiw hn)
      have hszz : s.size ≤ 1000000 := hsz
      clear hiw hn hsz hx
      by_cases hsn : st.length < n
      · have hsn' : (st.length : Int) < (n : Int) := by omega
        have HE := Lib.hid (step_short en HIW.out.1 st HIW.out.2 hsn)
        obtain ⟨ao, ac, rfl⟩ := row_slice' hown
        have HB := Lib.hid hb
        clear hb hfx hown hsn hev
        go_wp2_with fail
        refine (HP.out _).mono ?_
        rintro e w3 ⟨rfl, rfl⟩
        go_wp2
        have h1 := HD.out
        rw [HE.out] at h1
        exact bodyPost_ret (v := (tellOf .rt).dval) (by simp [results, Tryd.results21, go_sem, tellOf, Tell.dval]) rfl ⟨by rw [h1], HB.out⟩
      · obtain ⟨m, tp, rs, hm, rfl, htp, hrs⟩ := split_top st n hsn
        rw [hm] at hown
        obtain ⟨ao, ac, rfl, hac, hlow, ao', htop, htc⟩ := row_parts hown (by simp [htp, hrs])
        rw [take_rest htp hrs] at hlow
        have htc2 : 0 < n → ∃ g, ao' = some ⟨g, m, none⟩ ∧ g < wr.heap.size ∧ ∀ i, i < n → wr.cell? ⟨g, m + i, none⟩ = some (.float .f64 (tp.reverse.getD i 0)) := fun h0 => by
          obtain ⟨g, h1, h2, h3⟩ := htc h0
          exact ⟨g, h1, h2, fun i hi => by rw [h3 i hi, get_top htp hrs]⟩
        have hlw := dslice_low ao m n ac hac
        have hsn' : ¬ ((m + n : Nat) : Int) < (n : Int) := by omega
        have hsub : IntKind.i64.wrap (((m + n : Nat) : Int) - (n : Int)) = (m : Int) := by rw [IntWalk.i64_in _ (by omega)]; omega
        have HR := Lib.hid (And.intro hlow (And.intro htc2 (And.intro hb (And.intro hfx hev))))
        have HM := Lib.hid (And.intro htp (And.intro hrs hm))
        have hmk : m + n ≤ 64 := by omega
        have hmk2 : m + n ≤ k := by omega
        clear hown hlow htc htc2 hb hfx hev hm hsn hlen htp hrs
        go_upto_block 2 with (first
          | (go_at_call 38; refine (HP.out _).mono ?_; rintro e w3 ⟨rfl, hw3⟩; subst hw3)
          | (at_builtin; refine wpList_append_fls rfl _ _ rfl _ (.slice none 0 0) [] rfl (World.ownsRow_nil _ _ _ _) _ _ rfl HR.out.1 ?c3 (Nat.le_refl _) ?_))
        case c3 => have := HM.out.2.1; simp; omega
        intro v4 w4 o4 g4
        have o4 : w4.ownsRow w3.heap.size 23 1 v4 m (fls rs.reverse) := by have := HM.out.2.1; simpa [this] using o4
        have b4 : Below w3.heap.size w3 w4 := (Below.refl _ _).grown g4 (Nat.le_refl _) (fun g e => by cases e)
        have hb4 := HR.out.2.2.1.trans (b4.mono HR.out.2.2.1.size)
        have hev4 := (b4.block _ (lt_of_block HR.out.2.2.2.2)).trans HR.out.2.2.2.2
        have htc4 : 0 < n → ∃ g, ao' = some ⟨g, m, none⟩ ∧ g < w4.heap.size ∧ (∀ h, v4.ownBlock = some h → g ≠ h) ∧ ∀ i, i < n → w4.cell? ⟨g, m + i, none⟩ = some (.float .f64 (tp.reverse.getD i 0)) := fun h0 => by
          obtain ⟨g, h1, h2, h3⟩ := HR.out.2.1 h0
          exact ⟨g, h1, Nat.lt_of_lt_of_le h2 b4.size, fun h hh => by have := (o4.lt h hh).1; omega, fun i hi => (World.cell?_of_block (b4.block _ h2)).trans (h3 i hi)⟩
        have o4' : w4.ownsRow (w.heap.size + 1) 23 1 v4 rs.reverse.length (fls rs.reverse) := by rw [List.length_reverse, HM.out.2.1]; exact own_down o4 (by have := lt_of_block HR.out.2.2.2.2; omega)
        have c4 := (World.cell?_of_block (a := ⟨b, off + k, none⟩) (b4.block _ hbl)).trans c1
        have hbl4 : b < w4.heap.size := Nat.lt_of_lt_of_le hbl b4.size
        have H4 := Lib.hid (And.intro o4' (And.intro htc4 (And.intro hb4 (And.intro HR.out.2.2.2.1 hev4))))
        clear o4 g4 b4 hb4 hev4 htc4 o4' HR c1 hbl
        go_upto_block 2 with fail
        go_cut [14] (fun v wx => Cut en s.data.toList (tp ++ rs) (m + n + 1) w v wx)
        case first =>
          have hkc := HIW.out
          revert hkc
          cases hkn : knownB s.data.toList
          · as_aux_lemma =>
            intro hkc
            have hpz : (parseB s.data.toList).2 = 0 := by
              have := hkc.1
              unfold isWord at this
              rw [hkn, Bool.or_false] at this
              simpa using this
            obtain rfl : n = 0 := by
              have h1 := hkc.2
              rw [takes_un hkn, hpz] at h1
              have : (0 : Int) = n := h1
              omega
            have hst := step_parse en hpz
            have hPA := dparse_any s hszz
            have hplt := parse_lt s.data.toList
            obtain ⟨f0, f1, f2, f3, f4, f5, f6, f7, f8, f9, f10, f11, f12, f13, f14, f15, f16, f17⟩ := noKnown_of hkn
            unfold tellsF at hPA
            rw [hpz] at hPA
            obtain rfl : tp = [] := List.eq_nil_of_length_eq_zero HM.out.1
            revert hPA hst hplt
            generalize (parseB s.data.toList).1 = pv
            intro hst hPA hplt
            have HPA := Lib.hid hPA
            have HST := Lib.hid (hst rs)
            have HPL := Lib.hid hplt
            clear hkc hkn hpz hPA hst hplt
            go_wp2_with fail
            refine (HPA.out _).mono ?_
            rintro e w9 ⟨rfl, rfl⟩
            go_simp
            go_wp2_with (first
              | (at_builtin; refine wpList_append_fls rfl _ _ rfl (w.heap.size + 1) v4 rs.reverse rfl ?c1 _ [pv] rfl (flx_one (new_block _ _)) ?c3 ?c4 ?_)
              | fail)
            case c1 => exact (H4.out.1.alloc _)
            case c3 => have := HM.out.2.1; simp; omega
            case c4 => have := lt_of_block H4.out.2.2.2.2; simp; omega
            intro v5 w5 o5 g5
            have hcut := cut_ok (s := s.data.toList) (m := m) (n := 0) [pv] H4.out.2.2.2.1 HM.out.2.1 (by simp) (by intro f hf; obtain rfl := List.mem_singleton.1 hf; exact HPL.out) HST.out H4.out.1 H4.out.2.2.2.2 H4.out.2.2.1 (below_alloc _ _) (by simpa using o5) g5
            clear o5 g5
            go_wp2_with fail
            go_meet
            exact hcut
          · intro hkc
            clear HP HIW
            unfold knownB at hkn
            simp only [List.contains_eq_mem, decide_eq_true_eq, arithWords, moveWords, otherWords, List.mem_append, List.mem_cons, List.not_mem_nil, or_false] at hkn
            rcases hkn with ((hkn | hkn | hkn | hkn | hkn | hkn | hkn) | (hkn | hkn | hkn | hkn)) | (hkn | hkn | hkn | hkn | hkn | hkn | hkn)
            · as_aux_lemma =>
              obtain rfl : s = ⟨#[97, 100, 100]⟩ := ba_of hkn
              obtain rfl : n = 2 := by
                have h1 := hkc.2
                rw [hkn] at h1
                have : (2 : Int) = n := h1
                omega
              clear hkc hkn
              obtain ⟨y, x, rfl⟩ : ∃ y x, tp = [y, x] := len_2 HM.out.1
              obtain ⟨g, rfl, hgl, hgn, hgc⟩ := H4.out.2.1 (by omega)
              have e0 : w4.cell? ⟨g, m, none⟩ = some (.float .f64 x) := hgc 0 (by omega)
              have e1 : w4.cell? ⟨g, m + 1, none⟩ = some (.float .f64 y) := hgc 1 (by omega)
              have hfix := Lib.hid H4.out.2.2.2.1
              clear hgc
              obtain ⟨r, d, hr⟩ := ar_run .add Ieee.double.add (Or.inl ⟨rfl, rfl⟩) x y 23
              have hrun := fun w => (hr w).1
              have HRn := Lib.hid hr
              clear hr
              go_wp2_with fail
              have hH : Rd2 1 g m x y w4.drew := ⟨e0, e1, hgl⟩
              have H5 : w4.drew.ownsRow (w.heap.size + 1) 23 1 v4 rs.reverse.length (fls rs.reverse) := H4.out.1.drew
              have b5 : Below w4.heap.size w4 w4.drew := ⟨rfl, rfl, rfl, Nat.le_refl _, fun _ _ => rfl⟩
              refine plain_region hm2 ?_
              revert hH H5 b5
              generalize w4.drew = w6
              intro hH H5 b5
              have HZ := Lib.hid (And.intro H5 b5)
              have HH0 := Lib.hid hH
              clear H5 b5 e0 e1 hgl
              refine wpAny_of_held (S := Rd2 1 g m x y) _ _ _ _ ?_
              refine wpAnyH_take (i := 0) (v := ?_) (by simp; rfl) (by kernel_rfl) (by kernel_rfl) (by kernel_rfl) (fun _ _ _ h => h) (Or.inl ⟨by rfl, ?_⟩) hH ?_
              rotate_left
              · intro w' hS
                obtain ⟨s0, s1, s2⟩ := hS
                go_simp
                rfl
              simp only [Act.put, List.setIfInBounds_toArray, List.set_cons_zero, List.set_cons_succ]
              refine wpAnyH_take (i := 1) (v := ?_) (by simp; rfl) (by kernel_rfl) (by kernel_rfl) (by kernel_rfl) (fun _ _ _ h => h) (Or.inl ⟨by rfl, ?_⟩) hH ?_
              rotate_left
              · intro w' hS
                obtain ⟨s0, s1, s2⟩ := hS
                go_simp
                rfl
              simp only [Act.put, List.setIfInBounds_toArray, List.set_cons_zero, List.set_cons_succ]
              refine wpAnyH_take (i := 2) (v := ?_) (by simp; rfl) (by kernel_rfl) (by kernel_rfl) (by kernel_rfl) (fun _ _ _ h => h) (Or.inl ⟨by rfl, ?_⟩) hH ?_
              rotate_left
              · intro w' hS
                obtain ⟨s0, s1, s2⟩ := hS
                go_simp
                rfl
              simp only [Act.put, List.setIfInBounds_toArray, List.set_cons_zero, List.set_cons_succ]
              refine wpAnyH_take (i := 3) (v := ?_) (by simp; rfl) (by kernel_rfl) (by kernel_rfl) (by kernel_rfl) (fun _ _ _ h => h) (Or.inl ⟨by rfl, ?_⟩) hH ?_
              rotate_left
              · intro w' hS
                obtain ⟨s0, s1, s2⟩ := hS
                go_simp
                rfl
              simp only [Act.put, List.setIfInBounds_toArray, List.set_cons_zero, List.set_cons_succ]
              refine wpAnyH_take (i := 4) (v := ?_) (by simp; rfl) (by kernel_rfl) (by kernel_rfl) (by kernel_rfl) (fun _ _ _ h => h) (Or.inl ⟨by rfl, ?_⟩) hH ?_
              rotate_left
              · intro w' hS
                obtain ⟨s0, s1, s2⟩ := hS
                go_simp
                rfl
              simp only [Act.put, List.setIfInBounds_toArray, List.set_cons_zero, List.set_cons_succ]
              refine wpAnyH_take (i := 5) (v := ?_) (by simp; rfl) (by kernel_rfl) (by kernel_rfl) (by kernel_rfl) (fun _ _ _ h => h) (Or.inl ⟨by rfl, ?_⟩) hH ?_
              rotate_left
              · intro w' hS
                obtain ⟨s0, s1, s2⟩ := hS
                go_simp
                rfl
              simp only [Act.put, List.setIfInBounds_toArray, List.set_cons_zero, List.set_cons_succ]
              refine wpAnyH_take (i := 6) (v := ?_) (by simp; rfl) (by kernel_rfl) (by kernel_rfl) (by kernel_rfl) (fun _ _ _ h => h) (Or.inl ⟨by rfl, ?_⟩) hH ?_
              rotate_left
              · intro w' hS
                obtain ⟨s0, s1, s2⟩ := hS
                go_simp
                rfl
              simp only [Act.put, List.setIfInBounds_toArray, List.set_cons_zero, List.set_cons_succ]
              refine wpAnyH_ready (rs := [7]) (by kernel_rfl) (by simp) ?_
              refine AllReadyH.cons (by simp; rfl) (fun K hK => ?_) AllReadyH.nil
              go_simp
              refine hK.out _ _ (show Rd2 1 g m x y (w6.drewN (d w6)) from HH0.out) (fun hHeld => ?_)
              clear hK K hHeld
              try simp only [Act.put, List.setIfInBounds_toArray, List.set_cons_zero, List.set_cons_succ]
              have hH2 : Rd2 1 g m x y ((w6.drewN (d w6)).alloc (.cells #[.float .f64 (r w6)] 23)) := Rd2.up (show Rd2 1 g m x y (w6.drewN (d w6)) from HH0.out) (below_alloc _ _)
              refine wpAnyH_ready (rs := [8]) (by kernel_rfl) (by simp) ?_
              refine AllReadyH.cons (by simp; rfl) (fun K hK => ?_) AllReadyH.nil
              go_simp
              refine hK.out _ _ hH2 (fun hHeld => ?_)
              clear hK K hHeld
              try simp only [Act.put, List.setIfInBounds_toArray, List.set_cons_zero, List.set_cons_succ]
              refine wpAnyH_ready (rs := [9]) (by kernel_rfl) (by simp) ?_
              refine AllReadyH.cons (by simp; rfl) (fun K hK => ?_) AllReadyH.nil
              rw [if_pos (by rfl)]
              refine wp_append_fls (.tmp 149) (.tmp 157) rfl (w.heap.size + 1) v4 rs.reverse rfl ((own_draws HZ.out.1 _).alloc _) _ [r w6] rfl (flx_one (new_block (w6.drewN (d w6)) _)) ?c3 ?c4 ?_
              case c3 => have := HM.out.2.1; simp; omega
              case c4 => have := lt_of_block H4.out.2.2.2.2; have := HZ.out.2.size; simp; omega
              intro v5 w5 o5 g5
              have hH5 : Rd2 1 g m x y w5 := Rd2.grown hH2 g5 hgn
              have HCut := Lib.hid (cut_ok (s := wAdd) (m := m) (n := 2) [r w6] H4.out.2.2.2.1 HM.out.2.1 (by simp) (by intro f hf; obtain rfl := List.mem_singleton.1 hf; exact (HRn.out w6).2.2) (by rw [show [r w6].reverse.map oneW = [arC Ieee.double.add x y] by simp [(HRn.out w6).2.1]]; rfl) H4.out.1 H4.out.2.2.2.2 H4.out.2.2.1 (HZ.out.2.trans ((below_draws (Below.refl _ _) _).mono HZ.out.2.size |>.trans ((below_alloc _ _).mono HZ.out.2.size))) (by simpa using o5) g5)
              clear o5 g5
              refine hK.out _ _ hH5 (fun hHeld => ?_)
              clear hK K hHeld
              try simp only [Act.put, List.setIfInBounds_toArray, List.set_cons_zero, List.set_cons_succ]
              refine wpAnyH_take (i := 10) (v := ?_) (by simp; rfl) (by kernel_rfl) (by kernel_rfl) (by kernel_rfl) (fun _ _ _ h => h) (Or.inl ⟨by rfl, ?_⟩) hH5 ?_
              rotate_left
              · intro w' hS
                obtain ⟨s0, s1, s2⟩ := hS
                go_simp
                rfl
              simp only [Act.put, List.setIfInBounds_toArray, List.set_cons_zero, List.set_cons_succ]
              refine wpAnyH_done (by kernel_rfl) ?_ _
              dsimp only [onlyK]
              go_wp2_with fail
              go_meet
              exact HCut.out
            · as_aux_lemma =>
              obtain rfl : s = ⟨#[115, 117, 98]⟩ := ba_of hkn
              obtain rfl : n = 2 := by
                have h1 := hkc.2
                rw [hkn] at h1
                have : (2 : Int) = n := h1
                omega
              clear hkc hkn
              obtain ⟨y, x, rfl⟩ : ∃ y x, tp = [y, x] := len_2 HM.out.1
              obtain ⟨g, rfl, hgl, hgn, hgc⟩ := H4.out.2.1 (by omega)
              have e0 : w4.cell? ⟨g, m, none⟩ = some (.float .f64 x) := hgc 0 (by omega)
              have e1 : w4.cell? ⟨g, m + 1, none⟩ = some (.float .f64 y) := hgc 1 (by omega)
              have hfix := Lib.hid H4.out.2.2.2.1
              clear hgc
              obtain ⟨r, d, hr⟩ := ar_run .sub Ieee.double.sub (Or.inr (Or.inl ⟨rfl, rfl⟩)) x y 23
              have hrun := fun w => (hr w).1
              have HRn := Lib.hid hr
              clear hr
              go_wp2_with fail
              have hH : Rd2 1 g m x y w4.drew := ⟨e0, e1, hgl⟩
              have H5 : w4.drew.ownsRow (w.heap.size + 1) 23 1 v4 rs.reverse.length (fls rs.reverse) := H4.out.1.drew
              have b5 : Below w4.heap.size w4 w4.drew := ⟨rfl, rfl, rfl, Nat.le_refl _, fun _ _ => rfl⟩
              refine plain_region hm2 ?_
              revert hH H5 b5
              generalize w4.drew = w6
              intro hH H5 b5
              have HZ := Lib.hid (And.intro H5 b5)
              have HH0 := Lib.hid hH
              clear H5 b5 e0 e1 hgl
              refine wpAny_of_held (S := Rd2 1 g m x y) _ _ _ _ ?_
              refine wpAnyH_take (i := 0) (v := ?_) (by simp; rfl) (by kernel_rfl) (by kernel_rfl) (by kernel_rfl) (fun _ _ _ h => h) (Or.inl ⟨by rfl, ?_⟩) hH ?_
              rotate_left
              · intro w' hS
                obtain ⟨s0, s1, s2⟩ := hS
                go_simp
                rfl
              simp only [Act.put, List.setIfInBounds_toArray, List.set_cons_zero, List.set_cons_succ]
              refine wpAnyH_take (i := 1) (v := ?_) (by simp; rfl) (by kernel_rfl) (by kernel_rfl) (by kernel_rfl) (fun _ _ _ h => h) (Or.inl ⟨by rfl, ?_⟩) hH ?_
              rotate_left
              · intro w' hS
                obtain ⟨s0, s1, s2⟩ := hS
                go_simp
                rfl
              simp only [Act.put, List.setIfInBounds_toArray, List.set_cons_zero, List.set_cons_succ]
              refine wpAnyH_take (i := 2) (v := ?_) (by simp; rfl) (by kernel_rfl) (by kernel_rfl) (by kernel_rfl) (fun _ _ _ h => h) (Or.inl ⟨by rfl, ?_⟩) hH ?_
              rotate_left
              · intro w' hS
                obtain ⟨s0, s1, s2⟩ := hS
                go_simp
                rfl
              simp only [Act.put, List.setIfInBounds_toArray, List.set_cons_zero, List.set_cons_succ]
              refine wpAnyH_take (i := 3) (v := ?_) (by simp; rfl) (by kernel_rfl) (by kernel_rfl) (by kernel_rfl) (fun _ _ _ h => h) (Or.inl ⟨by rfl, ?_⟩) hH ?_
              rotate_left
              · intro w' hS
                obtain ⟨s0, s1, s2⟩ := hS
                go_simp
                rfl
              simp only [Act.put, List.setIfInBounds_toArray, List.set_cons_zero, List.set_cons_succ]
              refine wpAnyH_take (i := 4) (v := ?_) (by simp; rfl) (by kernel_rfl) (by kernel_rfl) (by kernel_rfl) (fun _ _ _ h => h) (Or.inl ⟨by rfl, ?_⟩) hH ?_
              rotate_left
              · intro w' hS
                obtain ⟨s0, s1, s2⟩ := hS
                go_simp
                rfl
              simp only [Act.put, List.setIfInBounds_toArray, List.set_cons_zero, List.set_cons_succ]
              refine wpAnyH_take (i := 5) (v := ?_) (by simp; rfl) (by kernel_rfl) (by kernel_rfl) (by kernel_rfl) (fun _ _ _ h => h) (Or.inl ⟨by rfl, ?_⟩) hH ?_
              rotate_left
              · intro w' hS
                obtain ⟨s0, s1, s2⟩ := hS
                go_simp
                rfl
              simp only [Act.put, List.setIfInBounds_toArray, List.set_cons_zero, List.set_cons_succ]
              refine wpAnyH_take (i := 6) (v := ?_) (by simp; rfl) (by kernel_rfl) (by kernel_rfl) (by kernel_rfl) (fun _ _ _ h => h) (Or.inl ⟨by rfl, ?_⟩) hH ?_
              rotate_left
              · intro w' hS
                obtain ⟨s0, s1, s2⟩ := hS
                go_simp
                rfl
              simp only [Act.put, List.setIfInBounds_toArray, List.set_cons_zero, List.set_cons_succ]
              refine wpAnyH_ready (rs := [7]) (by kernel_rfl) (by simp) ?_
              refine AllReadyH.cons (by simp; rfl) (fun K hK => ?_) AllReadyH.nil
              go_simp
              refine hK.out _ _ (show Rd2 1 g m x y (w6.drewN (d w6)) from HH0.out) (fun hHeld => ?_)
              clear hK K hHeld
              try simp only [Act.put, List.setIfInBounds_toArray, List.set_cons_zero, List.set_cons_succ]
              have hH2 : Rd2 1 g m x y ((w6.drewN (d w6)).alloc (.cells #[.float .f64 (r w6)] 23)) := Rd2.up (show Rd2 1 g m x y (w6.drewN (d w6)) from HH0.out) (below_alloc _ _)
              refine wpAnyH_ready (rs := [8]) (by kernel_rfl) (by simp) ?_
              refine AllReadyH.cons (by simp; rfl) (fun K hK => ?_) AllReadyH.nil
              go_simp
              refine hK.out _ _ hH2 (fun hHeld => ?_)
              clear hK K hHeld
              try simp only [Act.put, List.setIfInBounds_toArray, List.set_cons_zero, List.set_cons_succ]
              refine wpAnyH_ready (rs := [9]) (by kernel_rfl) (by simp) ?_
              refine AllReadyH.cons (by simp; rfl) (fun K hK => ?_) AllReadyH.nil
              rw [if_pos (by rfl)]
              refine wp_append_fls (.tmp 161) (.tmp 169) rfl (w.heap.size + 1) v4 rs.reverse rfl ((own_draws HZ.out.1 _).alloc _) _ [r w6] rfl (flx_one (new_block (w6.drewN (d w6)) _)) ?c3 ?c4 ?_
              case c3 => have := HM.out.2.1; simp; omega
              case c4 => have := lt_of_block H4.out.2.2.2.2; have := HZ.out.2.size; simp; omega
              intro v5 w5 o5 g5
              have hH5 : Rd2 1 g m x y w5 := Rd2.grown hH2 g5 hgn
              have HCut := Lib.hid (cut_ok (s := wSub) (m := m) (n := 2) [r w6] H4.out.2.2.2.1 HM.out.2.1 (by simp) (by intro f hf; obtain rfl := List.mem_singleton.1 hf; exact (HRn.out w6).2.2) (by rw [show [r w6].reverse.map oneW = [arC Ieee.double.sub x y] by simp [(HRn.out w6).2.1]]; rfl) H4.out.1 H4.out.2.2.2.2 H4.out.2.2.1 (HZ.out.2.trans ((below_draws (Below.refl _ _) _).mono HZ.out.2.size |>.trans ((below_alloc _ _).mono HZ.out.2.size))) (by simpa using o5) g5)
              clear o5 g5
              refine hK.out _ _ hH5 (fun hHeld => ?_)
              clear hK K hHeld
              try simp only [Act.put, List.setIfInBounds_toArray, List.set_cons_zero, List.set_cons_succ]
              refine wpAnyH_take (i := 10) (v := ?_) (by simp; rfl) (by kernel_rfl) (by kernel_rfl) (by kernel_rfl) (fun _ _ _ h => h) (Or.inl ⟨by rfl, ?_⟩) hH5 ?_
              rotate_left
              · intro w' hS
                obtain ⟨s0, s1, s2⟩ := hS
                go_simp
                rfl
              simp only [Act.put, List.setIfInBounds_toArray, List.set_cons_zero, List.set_cons_succ]
              refine wpAnyH_done (by kernel_rfl) ?_ _
              dsimp only [onlyK]
              go_wp2_with fail
              go_meet
              exact HCut.out
            · as_aux_lemma =>
              obtain rfl : s = ⟨#[109, 117, 108]⟩ := ba_of hkn
              obtain rfl : n = 2 := by
                have h1 := hkc.2
                rw [hkn] at h1
                have : (2 : Int) = n := h1
                omega
              clear hkc hkn
              obtain ⟨y, x, rfl⟩ : ∃ y x, tp = [y, x] := len_2 HM.out.1
              obtain ⟨g, rfl, hgl, hgn, hgc⟩ := H4.out.2.1 (by omega)
              have e0 : w4.cell? ⟨g, m, none⟩ = some (.float .f64 x) := hgc 0 (by omega)
              have e1 : w4.cell? ⟨g, m + 1, none⟩ = some (.float .f64 y) := hgc 1 (by omega)
              have hfix := Lib.hid H4.out.2.2.2.1
              clear hgc
              obtain ⟨r, d, hr⟩ := ar_run .mul Ieee.double.mul (Or.inr (Or.inr (Or.inl ⟨rfl, rfl⟩))) x y 23
              have hrun := fun w => (hr w).1
              have HRn := Lib.hid hr
              clear hr
              go_wp2_with fail
              have hH : Rd2 1 g m x y w4.drew := ⟨e0, e1, hgl⟩
              have H5 : w4.drew.ownsRow (w.heap.size + 1) 23 1 v4 rs.reverse.length (fls rs.reverse) := H4.out.1.drew
              have b5 : Below w4.heap.size w4 w4.drew := ⟨rfl, rfl, rfl, Nat.le_refl _, fun _ _ => rfl⟩
              refine plain_region hm2 ?_
              revert hH H5 b5
              generalize w4.drew = w6
              intro hH H5 b5
              have HZ := Lib.hid (And.intro H5 b5)
              have HH0 := Lib.hid hH
              clear H5 b5 e0 e1 hgl
              refine wpAny_of_held (S := Rd2 1 g m x y) _ _ _ _ ?_
              refine wpAnyH_take (i := 0) (v := ?_) (by simp; rfl) (by kernel_rfl) (by kernel_rfl) (by kernel_rfl) (fun _ _ _ h => h) (Or.inl ⟨by rfl, ?_⟩) hH ?_
              rotate_left
              · intro w' hS
                obtain ⟨s0, s1, s2⟩ := hS
                go_simp
                rfl
              simp only [Act.put, List.setIfInBounds_toArray, List.set_cons_zero, List.set_cons_succ]
              refine wpAnyH_take (i := 1) (v := ?_) (by simp; rfl) (by kernel_rfl) (by kernel_rfl) (by kernel_rfl) (fun _ _ _ h => h) (Or.inl ⟨by rfl, ?_⟩) hH ?_
              rotate_left
              · intro w' hS
                obtain ⟨s0, s1, s2⟩ := hS
                go_simp
                rfl
              simp only [Act.put, List.setIfInBounds_toArray, List.set_cons_zero, List.set_cons_succ]
              refine wpAnyH_take (i := 2) (v := ?_) (by simp; rfl) (by kernel_rfl) (by kernel_rfl) (by kernel_rfl) (fun _ _ _ h => h) (Or.inl ⟨by rfl, ?_⟩) hH ?_
              rotate_left
              · intro w' hS
                obtain ⟨s0, s1, s2⟩ := hS
                go_simp
                rfl
              simp only [Act.put, List.setIfInBounds_toArray, List.set_cons_zero, List.set_cons_succ]
              refine wpAnyH_take (i := 3) (v := ?_) (by simp; rfl) (by kernel_rfl) (by kernel_rfl) (by kernel_rfl) (fun _ _ _ h => h) (Or.inl ⟨by rfl, ?_⟩) hH ?_
              rotate_left
              · intro w' hS
                obtain ⟨s0, s1, s2⟩ := hS
                go_simp
                rfl
              simp only [Act.put, List.setIfInBounds_toArray, List.set_cons_zero, List.set_cons_succ]
              refine wpAnyH_take (i := 4) (v := ?_) (by simp; rfl) (by kernel_rfl) (by kernel_rfl) (by kernel_rfl) (fun _ _ _ h => h) (Or.inl ⟨by rfl, ?_⟩) hH ?_
              rotate_left
              · intro w' hS
                obtain ⟨s0, s1, s2⟩ := hS
                go_simp
                rfl
              simp only [Act.put, List.setIfInBounds_toArray, List.set_cons_zero, List.set_cons_succ]
              refine wpAnyH_take (i := 5) (v := ?_) (by simp; rfl) (by kernel_rfl) (by kernel_rfl) (by kernel_rfl) (fun _ _ _ h => h) (Or.inl ⟨by rfl, ?_⟩) hH ?_
              rotate_left
              · intro w' hS
                obtain ⟨s0, s1, s2⟩ := hS
                go_simp
                rfl
              simp only [Act.put, List.setIfInBounds_toArray, List.set_cons_zero, List.set_cons_succ]
              refine wpAnyH_take (i := 6) (v := ?_) (by simp; rfl) (by kernel_rfl) (by kernel_rfl) (by kernel_rfl) (fun _ _ _ h => h) (Or.inl ⟨by rfl, ?_⟩) hH ?_
              rotate_left
              · intro w' hS
                obtain ⟨s0, s1, s2⟩ := hS
                go_simp
                rfl
              simp only [Act.put, List.setIfInBounds_toArray, List.set_cons_zero, List.set_cons_succ]
              refine wpAnyH_ready (rs := [7]) (by kernel_rfl) (by simp) ?_
              refine AllReadyH.cons (by simp; rfl) (fun K hK => ?_) AllReadyH.nil
              go_simp
              refine hK.out _ _ (show Rd2 1 g m x y (w6.drewN (d w6)) from HH0.out) (fun hHeld => ?_)
              clear hK K hHeld
              try simp only [Act.put, List.setIfInBounds_toArray, List.set_cons_zero, List.set_cons_succ]
              have hH2 : Rd2 1 g m x y ((w6.drewN (d w6)).alloc (.cells #[.float .f64 (r w6)] 23)) := Rd2.up (show Rd2 1 g m x y (w6.drewN (d w6)) from HH0.out) (below_alloc _ _)
              refine wpAnyH_ready (rs := [8]) (by kernel_rfl) (by simp) ?_
              refine AllReadyH.cons (by simp; rfl) (fun K hK => ?_) AllReadyH.nil
              go_simp
              refine hK.out _ _ hH2 (fun hHeld => ?_)
              clear hK K hHeld
              try simp only [Act.put, List.setIfInBounds_toArray, List.set_cons_zero, List.set_cons_succ]
              refine wpAnyH_ready (rs := [9]) (by kernel_rfl) (by simp) ?_
              refine AllReadyH.cons (by simp; rfl) (fun K hK => ?_) AllReadyH.nil
              rw [if_pos (by rfl)]
              refine wp_append_fls (.tmp 173) (.tmp 181) rfl (w.heap.size + 1) v4 rs.reverse rfl ((own_draws HZ.out.1 _).alloc _) _ [r w6] rfl (flx_one (new_block (w6.drewN (d w6)) _)) ?c3 ?c4 ?_
              case c3 => have := HM.out.2.1; simp; omega
              case c4 => have := lt_of_block H4.out.2.2.2.2; have := HZ.out.2.size; simp; omega
              intro v5 w5 o5 g5
              have hH5 : Rd2 1 g m x y w5 := Rd2.grown hH2 g5 hgn
              have HCut := Lib.hid (cut_ok (s := wMul) (m := m) (n := 2) [r w6] H4.out.2.2.2.1 HM.out.2.1 (by simp) (by intro f hf; obtain rfl := List.mem_singleton.1 hf; exact (HRn.out w6).2.2) (by rw [show [r w6].reverse.map oneW = [arC Ieee.double.mul x y] by simp [(HRn.out w6).2.1]]; rfl) H4.out.1 H4.out.2.2.2.2 H4.out.2.2.1 (HZ.out.2.trans ((below_draws (Below.refl _ _) _).mono HZ.out.2.size |>.trans ((below_alloc _ _).mono HZ.out.2.size))) (by simpa using o5) g5)
              clear o5 g5
              refine hK.out _ _ hH5 (fun hHeld => ?_)
              clear hK K hHeld
              try simp only [Act.put, List.setIfInBounds_toArray, List.set_cons_zero, List.set_cons_succ]
              refine wpAnyH_take (i := 10) (v := ?_) (by simp; rfl) (by kernel_rfl) (by kernel_rfl) (by kernel_rfl) (fun _ _ _ h => h) (Or.inl ⟨by rfl, ?_⟩) hH5 ?_
              rotate_left
              · intro w' hS
                obtain ⟨s0, s1, s2⟩ := hS
                go_simp
                rfl
              simp only [Act.put, List.setIfInBounds_toArray, List.set_cons_zero, List.set_cons_succ]
              refine wpAnyH_done (by kernel_rfl) ?_ _
              dsimp only [onlyK]
              go_wp2_with fail
              go_meet
              exact HCut.out
            · as_aux_lemma =>
              obtain rfl : s = ⟨#[100, 105, 118]⟩ := ba_of hkn
              obtain rfl : n = 2 := by
                have h1 := hkc.2
                rw [hkn] at h1
                have : (2 : Int) = n := h1
                omega
              clear hkc hkn
              obtain ⟨y, x, rfl⟩ : ∃ y x, tp = [y, x] := len_2 HM.out.1
              obtain ⟨g, rfl, hgl, hgn, hgc⟩ := H4.out.2.1 (by omega)
              have e0 : w4.cell? ⟨g, m, none⟩ = some (.float .f64 x) := hgc 0 (by omega)
              have e1 : w4.cell? ⟨g, m + 1, none⟩ = some (.float .f64 y) := hgc 1 (by omega)
              have hfix := Lib.hid H4.out.2.2.2.1
              clear hgc
              obtain ⟨r, d, hr⟩ := ar_run .quo Ieee.double.div (Or.inr (Or.inr (Or.inr ⟨rfl, rfl⟩))) x y 23
              have hrun := fun w => (hr w).1
              have HRn := Lib.hid hr
              clear hr
              go_wp2_with fail
              have hH : Rd2 1 g m x y w4.drew := ⟨e0, e1, hgl⟩
              have H5 : w4.drew.ownsRow (w.heap.size + 1) 23 1 v4 rs.reverse.length (fls rs.reverse) := H4.out.1.drew
              have b5 : Below w4.heap.size w4 w4.drew := ⟨rfl, rfl, rfl, Nat.le_refl _, fun _ _ => rfl⟩
              refine plain_region hm2 ?_
              revert hH H5 b5
              generalize w4.drew = w6
              intro hH H5 b5
              have HZ := Lib.hid (And.intro H5 b5)
              have HH0 := Lib.hid hH
              clear H5 b5 e0 e1 hgl
              refine wpAny_of_held (S := Rd2 1 g m x y) _ _ _ _ ?_
              refine wpAnyH_take (i := 0) (v := ?_) (by simp; rfl) (by kernel_rfl) (by kernel_rfl) (by kernel_rfl) (fun _ _ _ h => h) (Or.inl ⟨by rfl, ?_⟩) hH ?_
              rotate_left
              · intro w' hS
                obtain ⟨s0, s1, s2⟩ := hS
                go_simp
                rfl
              simp only [Act.put, List.setIfInBounds_toArray, List.set_cons_zero, List.set_cons_succ]
              refine wpAnyH_take (i := 1) (v := ?_) (by simp; rfl) (by kernel_rfl) (by kernel_rfl) (by kernel_rfl) (fun _ _ _ h => h) (Or.inl ⟨by rfl, ?_⟩) hH ?_
              rotate_left
              · intro w' hS
                obtain ⟨s0, s1, s2⟩ := hS
                go_simp
                rfl
              simp only [Act.put, List.setIfInBounds_toArray, List.set_cons_zero, List.set_cons_succ]
              refine wpAnyH_take (i := 2) (v := ?_) (by simp; rfl) (by kernel_rfl) (by kernel_rfl) (by kernel_rfl) (fun _ _ _ h => h) (Or.inl ⟨by rfl, ?_⟩) hH ?_
              rotate_left
              · intro w' hS
                obtain ⟨s0, s1, s2⟩ := hS
                go_simp
                rfl
              simp only [Act.put, List.setIfInBounds_toArray, List.set_cons_zero, List.set_cons_succ]
              refine wpAnyH_take (i := 3) (v := ?_) (by simp; rfl) (by kernel_rfl) (by kernel_rfl) (by kernel_rfl) (fun _ _ _ h => h) (Or.inl ⟨by rfl, ?_⟩) hH ?_
              rotate_left
              · intro w' hS
                obtain ⟨s0, s1, s2⟩ := hS
                go_simp
                rfl
              simp only [Act.put, List.setIfInBounds_toArray, List.set_cons_zero, List.set_cons_succ]
              refine wpAnyH_take (i := 4) (v := ?_) (by simp; rfl) (by kernel_rfl) (by kernel_rfl) (by kernel_rfl) (fun _ _ _ h => h) (Or.inl ⟨by rfl, ?_⟩) hH ?_
              rotate_left
              · intro w' hS
                obtain ⟨s0, s1, s2⟩ := hS
                go_simp
                rfl
              simp only [Act.put, List.setIfInBounds_toArray, List.set_cons_zero, List.set_cons_succ]
              refine wpAnyH_take (i := 5) (v := ?_) (by simp; rfl) (by kernel_rfl) (by kernel_rfl) (by kernel_rfl) (fun _ _ _ h => h) (Or.inl ⟨by rfl, ?_⟩) hH ?_
              rotate_left
              · intro w' hS
                obtain ⟨s0, s1, s2⟩ := hS
                go_simp
                rfl
              simp only [Act.put, List.setIfInBounds_toArray, List.set_cons_zero, List.set_cons_succ]
              refine wpAnyH_take (i := 6) (v := ?_) (by simp; rfl) (by kernel_rfl) (by kernel_rfl) (by kernel_rfl) (fun _ _ _ h => h) (Or.inl ⟨by rfl, ?_⟩) hH ?_
              rotate_left
              · intro w' hS
                obtain ⟨s0, s1, s2⟩ := hS
                go_simp
                rfl
              simp only [Act.put, List.setIfInBounds_toArray, List.set_cons_zero, List.set_cons_succ]
              refine wpAnyH_ready (rs := [7]) (by kernel_rfl) (by simp) ?_
              refine AllReadyH.cons (by simp; rfl) (fun K hK => ?_) AllReadyH.nil
              go_simp
              refine hK.out _ _ (show Rd2 1 g m x y (w6.drewN (d w6)) from HH0.out) (fun hHeld => ?_)
              clear hK K hHeld
              try simp only [Act.put, List.setIfInBounds_toArray, List.set_cons_zero, List.set_cons_succ]
              have hH2 : Rd2 1 g m x y ((w6.drewN (d w6)).alloc (.cells #[.float .f64 (r w6)] 23)) := Rd2.up (show Rd2 1 g m x y (w6.drewN (d w6)) from HH0.out) (below_alloc _ _)
              refine wpAnyH_ready (rs := [8]) (by kernel_rfl) (by simp) ?_
              refine AllReadyH.cons (by simp; rfl) (fun K hK => ?_) AllReadyH.nil
              go_simp
              refine hK.out _ _ hH2 (fun hHeld => ?_)
              clear hK K hHeld
              try simp only [Act.put, List.setIfInBounds_toArray, List.set_cons_zero, List.set_cons_succ]
              refine wpAnyH_ready (rs := [9]) (by kernel_rfl) (by simp) ?_
              refine AllReadyH.cons (by simp; rfl) (fun K hK => ?_) AllReadyH.nil
              rw [if_pos (by rfl)]
              refine wp_append_fls (.tmp 185) (.tmp 193) rfl (w.heap.size + 1) v4 rs.reverse rfl ((own_draws HZ.out.1 _).alloc _) _ [r w6] rfl (flx_one (new_block (w6.drewN (d w6)) _)) ?c3 ?c4 ?_
              case c3 => have := HM.out.2.1; simp; omega
              case c4 => have := lt_of_block H4.out.2.2.2.2; have := HZ.out.2.size; simp; omega
              intro v5 w5 o5 g5
              have hH5 : Rd2 1 g m x y w5 := Rd2.grown hH2 g5 hgn
              have HCut := Lib.hid (cut_ok (s := wDiv) (m := m) (n := 2) [r w6] H4.out.2.2.2.1 HM.out.2.1 (by simp) (by intro f hf; obtain rfl := List.mem_singleton.1 hf; exact (HRn.out w6).2.2) (by rw [show [r w6].reverse.map oneW = [arC Ieee.double.div x y] by simp [(HRn.out w6).2.1]]; rfl) H4.out.1 H4.out.2.2.2.2 H4.out.2.2.1 (HZ.out.2.trans ((below_draws (Below.refl _ _) _).mono HZ.out.2.size |>.trans ((below_alloc _ _).mono HZ.out.2.size))) (by simpa using o5) g5)
              clear o5 g5
              refine hK.out _ _ hH5 (fun hHeld => ?_)
              clear hK K hHeld
              try simp only [Act.put, List.setIfInBounds_toArray, List.set_cons_zero, List.set_cons_succ]
              refine wpAnyH_take (i := 10) (v := ?_) (by simp; rfl) (by kernel_rfl) (by kernel_rfl) (by kernel_rfl) (fun _ _ _ h => h) (Or.inl ⟨by rfl, ?_⟩) hH5 ?_
              rotate_left
              · intro w' hS
                obtain ⟨s0, s1, s2⟩ := hS
                go_simp
                rfl
              simp only [Act.put, List.setIfInBounds_toArray, List.set_cons_zero, List.set_cons_succ]
              refine wpAnyH_done (by kernel_rfl) ?_ _
              dsimp only [onlyK]
              go_wp2_with fail
              go_meet
              exact HCut.out
            · as_aux_lemma =>
              obtain rfl : s = ⟨#[109, 105, 110]⟩ := ba_of hkn
              obtain rfl : n = 2 := by
                have h1 := hkc.2
                rw [hkn] at h1
                have : (2 : Int) = n := h1
                omega
              clear hkc hkn
              obtain ⟨y, x, rfl⟩ : ∃ y x, tp = [y, x] := len_2 HM.out.1
              obtain ⟨g, rfl, hgl, hgn, hgc⟩ := H4.out.2.1 (by omega)
              have e0 : w4.cell? ⟨g, m, none⟩ = some (.float .f64 x) := hgc 0 (by omega)
              have e1 : w4.cell? ⟨g, m + 1, none⟩ = some (.float .f64 y) := hgc 1 (by omega)
              have hfix := Lib.hid H4.out.2.2.2.1
              clear hgc
              have hF : FlIn w4 g m 2 (pairL x y) := flin_at e0 e1 hgl
              have hxy := pair_lt (hfix.out x (by simp)).2 (hfix.out y (by simp)).2
              have HD2 := Lib.hid (dleast_any g m 2 (ac - m) (by decide) (by decide) (pairL x y) hxy w4 hF)
              have HXY := Lib.hid hxy
              clear hF hxy
              go_wp2_with fail
              refine HD2.out.mono ?_
              rintro e w9 ⟨rfl, rfl⟩
              go_simp
              go_wp2_with (first
                | (at_builtin; refine wpList_append_fls rfl _ _ rfl (w.heap.size + 1) v4 rs.reverse rfl ?c1 _ [oneW (firstC (pairL x y) 1)] rfl (flx_one (new_block _ _)) ?c3 ?c4 ?_)
                | fail)
              case c1 => exact (H4.out.1.alloc _)
              case c3 => have := HM.out.2.1; simp; omega
              case c4 => have := lt_of_block H4.out.2.2.2.2; simp; omega
              intro v5 w5 o5 g5
              have hcut := cut_ok (s := wMin) (m := m) (n := 2) [oneW (firstC (pairL x y) 1)] H4.out.2.2.2.1 HM.out.2.1 (by simp) (by intro f hf; obtain rfl := List.mem_singleton.1 hf; exact oneW_lt (firstC_lt HXY.out 1 (by omega))) (by rw [show ([oneW (firstC (pairL x y) 1)].reverse.map oneW) = [oneW (leastC (pairL x y) 2)] by rw [least_first (hfix.out x (by simp)).1]; simp [oneW_one]]; rfl) H4.out.1 H4.out.2.2.2.2 H4.out.2.2.1 (below_alloc _ _) (by simpa using o5) g5
              clear o5 g5
              go_wp2_with fail
              go_meet
              exact hcut
            · as_aux_lemma =>
              obtain rfl : s = ⟨#[109, 97, 120]⟩ := ba_of hkn
              obtain rfl : n = 2 := by
                have h1 := hkc.2
                rw [hkn] at h1
                have : (2 : Int) = n := h1
                omega
              clear hkc hkn
              obtain ⟨y, x, rfl⟩ : ∃ y x, tp = [y, x] := len_2 HM.out.1
              obtain ⟨g, rfl, hgl, hgn, hgc⟩ := H4.out.2.1 (by omega)
              have e0 : w4.cell? ⟨g, m, none⟩ = some (.float .f64 x) := hgc 0 (by omega)
              have e1 : w4.cell? ⟨g, m + 1, none⟩ = some (.float .f64 y) := hgc 1 (by omega)
              have hfix := Lib.hid H4.out.2.2.2.1
              clear hgc
              have hF : FlIn w4 g m 2 (pairL x y) := flin_at e0 e1 hgl
              have hxy := pair_lt (hfix.out x (by simp)).2 (hfix.out y (by simp)).2
              have HD2 := Lib.hid (dmost_any g m 2 (ac - m) (by decide) (by decide) (pairL x y) hxy w4 hF)
              have HXY := Lib.hid hxy
              clear hF hxy
              go_wp2_with fail
              refine HD2.out.mono ?_
              rintro e w9 ⟨rfl, rfl⟩
              go_simp
              go_wp2_with (first
                | (at_builtin; refine wpList_append_fls rfl _ _ rfl (w.heap.size + 1) v4 rs.reverse rfl ?c1 _ [oneW (mostC (pairL x y) 1)] rfl (flx_one (new_block _ _)) ?c3 ?c4 ?_)
                | fail)
              case c1 => exact (H4.out.1.alloc _)
              case c3 => have := HM.out.2.1; simp; omega
              case c4 => have := lt_of_block H4.out.2.2.2.2; simp; omega
              intro v5 w5 o5 g5
              have hcut := cut_ok (s := wMax) (m := m) (n := 2) [oneW (mostC (pairL x y) 1)] H4.out.2.2.2.1 HM.out.2.1 (by simp) (by intro f hf; obtain rfl := List.mem_singleton.1 hf; exact oneW_lt (mostC_lt HXY.out 1 (by omega))) (by rw [show ([oneW (mostC (pairL x y) 1)].reverse.map oneW) = [oneW (oneW (mostC (pairL x y) 1))] by simp [oneW_one]]; rfl) H4.out.1 H4.out.2.2.2.2 H4.out.2.2.1 (below_alloc _ _) (by simpa using o5) g5
              clear o5 g5
              go_wp2_with fail
              go_meet
              exact hcut
            · as_aux_lemma =>
              obtain rfl : s = ⟨#[108, 101, 115, 115]⟩ := ba_of hkn
              obtain rfl : n = 2 := by
                have h1 := hkc.2
                rw [hkn] at h1
                have : (2 : Int) = n := h1
                omega
              clear hkc hkn
              obtain ⟨y, x, rfl⟩ : ∃ y x, tp = [y, x] := len_2 HM.out.1
              obtain ⟨g, rfl, hgl, hgn, hgc⟩ := H4.out.2.1 (by omega)
              have e0 : w4.cell? ⟨g, m, none⟩ = some (.float .f64 x) := hgc 0 (by omega)
              have e1 : w4.cell? ⟨g, m + 1, none⟩ = some (.float .f64 y) := hgc 1 (by omega)
              have hfix := Lib.hid H4.out.2.2.2.1
              clear hgc
              have HL := Lib.hid (dless_any x y (hfix.out x (by simp)).2 (hfix.out y (by simp)).2)
              have hst : stepB en wLess ([y, x] ++ rs) = .ok ((if lessB x y then 4607182418800017408 else 0) :: rs) := rfl
              revert HL hst
              generalize lessB x y = lb
              intro HL hst
              have HST := Lib.hid hst
              clear hst
              go_wp2_with fail
              go_still_tail 6, (by kernel_rfl)
              change wpList _ _ _ _ _ w4.drew
              have H5 : w4.drew.ownsRow (w.heap.size + 1) 23 1 v4 rs.reverse.length (fls rs.reverse) := H4.out.1.drew
              have b5 : Below w4.heap.size w4 w4.drew := ⟨rfl, rfl, rfl, Nat.le_refl _, fun _ _ => rfl⟩
              have HZ := Lib.hid (And.intro H5 b5)
              clear H5 b5 e0 e1 hgl
              revert HZ
              generalize w4.drew = w6
              intro HZ
              go_wp2_with fail
              refine (HL.out _).mono ?_
              rintro e w9 ⟨rfl, rfl⟩
              cases lb
              all_goals go_simp
              · go_wp2_with (first
                  | (at_builtin; refine wpList_append_fls rfl _ _ rfl (w.heap.size + 1) v4 rs.reverse rfl ?c1 _ [0] rfl (flx_one (new_block _ _)) ?c3 ?c4 ?_)
                  | fail)
                case c1 => exact HZ.out.1.alloc _
                case c3 => have := HM.out.2.1; simp; omega
                case c4 => have := lt_of_block H4.out.2.2.2.2; have := HZ.out.2.size; simp; omega
                intro v5 w5 o5 g5
                have hcut := cut_ok (s := wLess) (m := m) (n := 2) [0] H4.out.2.2.2.1 HM.out.2.1 (by simp) (by intro f hf; obtain rfl := List.mem_singleton.1 hf; decide) (by rw [HST.out, show ([0].reverse.map oneW) = [0] by decide +kernel]; rfl) H4.out.1 H4.out.2.2.2.2 H4.out.2.2.1 (HZ.out.2.trans ((below_alloc _ _).mono HZ.out.2.size)) (by simpa using o5) g5
                clear o5 g5
                go_wp2_with fail
                go_meet
                exact hcut
              · go_wp2_with (first
                  | (at_builtin; refine wpList_append_fls rfl _ _ rfl (w.heap.size + 1) v4 rs.reverse rfl ?c1 _ [4607182418800017408] rfl (flx_one (new_block _ _)) ?c3 ?c4 ?_)
                  | fail)
                case c1 => exact HZ.out.1.alloc _
                case c3 => have := HM.out.2.1; simp; omega
                case c4 => have := lt_of_block H4.out.2.2.2.2; have := HZ.out.2.size; simp; omega
                intro v5 w5 o5 g5
                have hcut := cut_ok (s := wLess) (m := m) (n := 2) [4607182418800017408] H4.out.2.2.2.1 HM.out.2.1 (by simp) (by intro f hf; obtain rfl := List.mem_singleton.1 hf; decide) (by rw [HST.out, show ([4607182418800017408].reverse.map oneW) = [4607182418800017408] by decide +kernel]; rfl) H4.out.1 H4.out.2.2.2.2 H4.out.2.2.1 (HZ.out.2.trans ((below_alloc _ _).mono HZ.out.2.size)) (by simpa using o5) g5
                clear o5 g5
                go_wp2_with fail
                go_meet
                exact hcut
            · as_aux_lemma =>
              obtain rfl : s = ⟨#[100, 117, 112]⟩ := ba_of hkn
              obtain rfl : n = 1 := by
                have h1 := hkc.2
                rw [hkn] at h1
                have : (1 : Int) = n := h1
                omega
              clear hkc hkn
              obtain ⟨x, rfl⟩ : ∃ x, tp = [x] := len_1 HM.out.1
              obtain ⟨g, rfl, hgl, hgn, hgc⟩ := H4.out.2.1 (by omega)
              have e0 : w4.cell? ⟨g, m, none⟩ = some (.float .f64 x) := hgc 0 (by omega)
              have hfix := Lib.hid H4.out.2.2.2.1
              clear hgc
              go_wp2_with fail
              have hH : Rd2 0 g m x x w4.drew := ⟨e0, e0, hgl⟩
              have H5 : w4.drew.ownsRow (w.heap.size + 1) 23 1 v4 rs.reverse.length (fls rs.reverse) := H4.out.1.drew
              have b5 : Below w4.heap.size w4 w4.drew := ⟨rfl, rfl, rfl, Nat.le_refl _, fun _ _ => rfl⟩
              refine plain_region hm2 ?_
              revert hH H5 b5
              generalize w4.drew = w6
              intro hH H5 b5
              have HZ := Lib.hid (And.intro H5 b5)
              have HH0 := Lib.hid hH
              clear H5 b5 e0 hgl
              refine wpAny_of_held (S := Rd2 0 g m x x) _ _ _ _ ?_
              refine wpAnyH_take (i := 0) (v := ?_) (by simp; rfl) (by kernel_rfl) (by kernel_rfl) (by kernel_rfl) (fun _ _ _ h => h) (Or.inl ⟨by rfl, ?_⟩) hH ?_
              rotate_left
              · intro w' hS
                obtain ⟨s0, s1, s2⟩ := hS
                go_simp
                rfl
              simp only [Act.put, List.setIfInBounds_toArray, List.set_cons_zero, List.set_cons_succ]
              refine wpAnyH_take (i := 1) (v := ?_) (by simp; rfl) (by kernel_rfl) (by kernel_rfl) (by kernel_rfl) (fun _ _ _ h => h) (Or.inl ⟨by rfl, ?_⟩) hH ?_
              rotate_left
              · intro w' hS
                obtain ⟨s0, s1, s2⟩ := hS
                go_simp
                rfl
              simp only [Act.put, List.setIfInBounds_toArray, List.set_cons_zero, List.set_cons_succ]
              refine wpAnyH_take (i := 2) (v := ?_) (by simp; rfl) (by kernel_rfl) (by kernel_rfl) (by kernel_rfl) (fun _ _ _ h => h) (Or.inl ⟨by rfl, ?_⟩) hH ?_
              rotate_left
              · intro w' hS
                obtain ⟨s0, s1, s2⟩ := hS
                go_simp
                rfl
              simp only [Act.put, List.setIfInBounds_toArray, List.set_cons_zero, List.set_cons_succ]
              refine wpAnyH_take (i := 3) (v := ?_) (by simp; rfl) (by kernel_rfl) (by kernel_rfl) (by kernel_rfl) (fun _ _ _ h => h) (Or.inl ⟨by rfl, ?_⟩) hH ?_
              rotate_left
              · intro w' hS
                obtain ⟨s0, s1, s2⟩ := hS
                go_simp
                rfl
              simp only [Act.put, List.setIfInBounds_toArray, List.set_cons_zero, List.set_cons_succ]
              refine wpAnyH_take (i := 4) (v := ?_) (by simp; rfl) (by kernel_rfl) (by kernel_rfl) (by kernel_rfl) (fun _ _ _ h => h) (Or.inl ⟨by rfl, ?_⟩) hH ?_
              rotate_left
              · intro w' hS
                obtain ⟨s0, s1, s2⟩ := hS
                go_simp
                rfl
              simp only [Act.put, List.setIfInBounds_toArray, List.set_cons_zero, List.set_cons_succ]
              refine wpAnyH_take (i := 5) (v := ?_) (by simp; rfl) (by kernel_rfl) (by kernel_rfl) (by kernel_rfl) (fun _ _ _ h => h) (Or.inl ⟨by rfl, ?_⟩) hH ?_
              rotate_left
              · intro w' hS
                obtain ⟨s0, s1, s2⟩ := hS
                go_simp
                rfl
              simp only [Act.put, List.setIfInBounds_toArray, List.set_cons_zero, List.set_cons_succ]
              refine wpAnyH_take (i := 6) (v := ?_) (by simp; rfl) (by kernel_rfl) (by kernel_rfl) (by kernel_rfl) (fun _ _ _ h => h) (Or.inl ⟨by rfl, ?_⟩) hH ?_
              rotate_left
              · intro w' hS
                obtain ⟨s0, s1, s2⟩ := hS
                go_simp
                rfl
              simp only [Act.put, List.setIfInBounds_toArray, List.set_cons_zero, List.set_cons_succ]
              have hH2 : Rd2 0 g m x x (w6.alloc (.cells #[.float .f64 x, .float .f64 x] 23)) := Rd2.up (show Rd2 0 g m x x w6 from HH0.out) (below_alloc _ _)
              refine wpAnyH_ready (rs := [7]) (by kernel_rfl) (by simp) ?_
              refine AllReadyH.cons (by simp; rfl) (fun K hK => ?_) AllReadyH.nil
              go_simp
              refine hK.out _ _ hH2 (fun hHeld => ?_)
              clear hK K hHeld
              try simp only [Act.put, List.setIfInBounds_toArray, List.set_cons_zero, List.set_cons_succ]
              refine wpAnyH_ready (rs := [8]) (by kernel_rfl) (by simp) ?_
              refine AllReadyH.cons (by simp; rfl) (fun K hK => ?_) AllReadyH.nil
              rw [if_pos (by rfl)]
              refine wp_append_fls (.tmp 226) (.tmp 233) rfl (w.heap.size + 1) v4 rs.reverse rfl ((HZ.out.1).alloc _) _ [x, x] rfl (flx_two (new_block w6 _)) ?c3 ?c4 ?_
              case c3 => have := HM.out.2.1; simp; omega
              case c4 => have := lt_of_block H4.out.2.2.2.2; have := HZ.out.2.size; simp; omega
              intro v5 w5 o5 g5
              have hH5 : Rd2 0 g m x x w5 := Rd2.grown hH2 g5 hgn
              have HCut := Lib.hid (cut_ok (s := wDup) (m := m) (n := 1) [x, x] H4.out.2.2.2.1 HM.out.2.1 (by simp) (by intro f hf; simp only [List.mem_cons, List.not_mem_nil, or_false] at hf; rcases hf with rfl | rfl <;> exact (hfix.out _ (by simp)).2) rfl H4.out.1 H4.out.2.2.2.2 H4.out.2.2.1 (HZ.out.2.trans ((below_alloc _ _).mono HZ.out.2.size)) (by simpa using o5) g5)
              clear o5 g5
              refine hK.out _ _ hH5 (fun hHeld => ?_)
              clear hK K hHeld
              try simp only [Act.put, List.setIfInBounds_toArray, List.set_cons_zero, List.set_cons_succ]
              refine wpAnyH_take (i := 9) (v := ?_) (by simp; rfl) (by kernel_rfl) (by kernel_rfl) (by kernel_rfl) (fun _ _ _ h => h) (Or.inl ⟨by rfl, ?_⟩) hH5 ?_
              rotate_left
              · intro w' hS
                obtain ⟨s0, s1, s2⟩ := hS
                go_simp
                rfl
              simp only [Act.put, List.setIfInBounds_toArray, List.set_cons_zero, List.set_cons_succ]
              refine wpAnyH_done (by kernel_rfl) ?_ _
              dsimp only [onlyK]
              go_wp2_with fail
              go_meet
              exact HCut.out
            · as_aux_lemma =>
              obtain rfl : s = ⟨#[100, 114, 111, 112]⟩ := ba_of hkn
              obtain rfl : n = 1 := by
                have h1 := hkc.2
                rw [hkn] at h1
                have : (1 : Int) = n := h1
                omega
              clear hkc hkn
              obtain ⟨x, rfl⟩ : ∃ x, tp = [x] := len_1 HM.out.1
              obtain ⟨g, rfl, hgl, hgn, hgc⟩ := H4.out.2.1 (by omega)
              have e0 : w4.cell? ⟨g, m, none⟩ = some (.float .f64 x) := hgc 0 (by omega)
              have hfix := Lib.hid H4.out.2.2.2.1
              clear hgc
              have hcut := cut_ok (s := wDrop) (m := m) (n := 1) [] H4.out.2.2.2.1 HM.out.2.1 (by simp) (by intro f hf; cases hf) rfl H4.out.1 H4.out.2.2.2.2 H4.out.2.2.1 (Below.refl _ _) (by simpa using H4.out.1) ⟨rfl, rfl, rfl, Nat.le_refl _, fun _ _ _ => rfl⟩
              go_wp2_with fail
              go_meet
              exact hcut
            · as_aux_lemma =>
              obtain rfl : s = ⟨#[115, 119, 97, 112]⟩ := ba_of hkn
              obtain rfl : n = 2 := by
                have h1 := hkc.2
                rw [hkn] at h1
                have : (2 : Int) = n := h1
                omega
              clear hkc hkn
              obtain ⟨y, x, rfl⟩ : ∃ y x, tp = [y, x] := len_2 HM.out.1
              obtain ⟨g, rfl, hgl, hgn, hgc⟩ := H4.out.2.1 (by omega)
              have e0 : w4.cell? ⟨g, m, none⟩ = some (.float .f64 x) := hgc 0 (by omega)
              have e1 : w4.cell? ⟨g, m + 1, none⟩ = some (.float .f64 y) := hgc 1 (by omega)
              have hfix := Lib.hid H4.out.2.2.2.1
              clear hgc
              go_wp2_with fail
              have hH : Rd2 1 g m x y w4.drew := ⟨e0, e1, hgl⟩
              have H5 : w4.drew.ownsRow (w.heap.size + 1) 23 1 v4 rs.reverse.length (fls rs.reverse) := H4.out.1.drew
              have b5 : Below w4.heap.size w4 w4.drew := ⟨rfl, rfl, rfl, Nat.le_refl _, fun _ _ => rfl⟩
              refine plain_region hm2 ?_
              revert hH H5 b5
              generalize w4.drew = w6
              intro hH H5 b5
              have HZ := Lib.hid (And.intro H5 b5)
              have HH0 := Lib.hid hH
              clear H5 b5 e0 e1 hgl
              refine wpAny_of_held (S := Rd2 1 g m x y) _ _ _ _ ?_
              refine wpAnyH_take (i := 0) (v := ?_) (by simp; rfl) (by kernel_rfl) (by kernel_rfl) (by kernel_rfl) (fun _ _ _ h => h) (Or.inl ⟨by rfl, ?_⟩) hH ?_
              rotate_left
              · intro w' hS
                obtain ⟨s0, s1, s2⟩ := hS
                go_simp
                rfl
              simp only [Act.put, List.setIfInBounds_toArray, List.set_cons_zero, List.set_cons_succ]
              refine wpAnyH_take (i := 1) (v := ?_) (by simp; rfl) (by kernel_rfl) (by kernel_rfl) (by kernel_rfl) (fun _ _ _ h => h) (Or.inl ⟨by rfl, ?_⟩) hH ?_
              rotate_left
              · intro w' hS
                obtain ⟨s0, s1, s2⟩ := hS
                go_simp
                rfl
              simp only [Act.put, List.setIfInBounds_toArray, List.set_cons_zero, List.set_cons_succ]
              refine wpAnyH_take (i := 2) (v := ?_) (by simp; rfl) (by kernel_rfl) (by kernel_rfl) (by kernel_rfl) (fun _ _ _ h => h) (Or.inl ⟨by rfl, ?_⟩) hH ?_
              rotate_left
              · intro w' hS
                obtain ⟨s0, s1, s2⟩ := hS
                go_simp
                rfl
              simp only [Act.put, List.setIfInBounds_toArray, List.set_cons_zero, List.set_cons_succ]
              refine wpAnyH_take (i := 3) (v := ?_) (by simp; rfl) (by kernel_rfl) (by kernel_rfl) (by kernel_rfl) (fun _ _ _ h => h) (Or.inl ⟨by rfl, ?_⟩) hH ?_
              rotate_left
              · intro w' hS
                obtain ⟨s0, s1, s2⟩ := hS
                go_simp
                rfl
              simp only [Act.put, List.setIfInBounds_toArray, List.set_cons_zero, List.set_cons_succ]
              refine wpAnyH_take (i := 4) (v := ?_) (by simp; rfl) (by kernel_rfl) (by kernel_rfl) (by kernel_rfl) (fun _ _ _ h => h) (Or.inl ⟨by rfl, ?_⟩) hH ?_
              rotate_left
              · intro w' hS
                obtain ⟨s0, s1, s2⟩ := hS
                go_simp
                rfl
              simp only [Act.put, List.setIfInBounds_toArray, List.set_cons_zero, List.set_cons_succ]
              refine wpAnyH_take (i := 5) (v := ?_) (by simp; rfl) (by kernel_rfl) (by kernel_rfl) (by kernel_rfl) (fun _ _ _ h => h) (Or.inl ⟨by rfl, ?_⟩) hH ?_
              rotate_left
              · intro w' hS
                obtain ⟨s0, s1, s2⟩ := hS
                go_simp
                rfl
              simp only [Act.put, List.setIfInBounds_toArray, List.set_cons_zero, List.set_cons_succ]
              refine wpAnyH_take (i := 6) (v := ?_) (by simp; rfl) (by kernel_rfl) (by kernel_rfl) (by kernel_rfl) (fun _ _ _ h => h) (Or.inl ⟨by rfl, ?_⟩) hH ?_
              rotate_left
              · intro w' hS
                obtain ⟨s0, s1, s2⟩ := hS
                go_simp
                rfl
              simp only [Act.put, List.setIfInBounds_toArray, List.set_cons_zero, List.set_cons_succ]
              have hH2 : Rd2 1 g m x y (w6.alloc (.cells #[.float .f64 y, .float .f64 x] 23)) := Rd2.up (show Rd2 1 g m x y w6 from HH0.out) (below_alloc _ _)
              refine wpAnyH_ready (rs := [7]) (by kernel_rfl) (by simp) ?_
              refine AllReadyH.cons (by simp; rfl) (fun K hK => ?_) AllReadyH.nil
              go_simp
              refine hK.out _ _ hH2 (fun hHeld => ?_)
              clear hK K hHeld
              try simp only [Act.put, List.setIfInBounds_toArray, List.set_cons_zero, List.set_cons_succ]
              refine wpAnyH_ready (rs := [8]) (by kernel_rfl) (by simp) ?_
              refine AllReadyH.cons (by simp; rfl) (fun K hK => ?_) AllReadyH.nil
              rw [if_pos (by rfl)]
              refine wp_append_fls (.tmp 239) (.tmp 246) rfl (w.heap.size + 1) v4 rs.reverse rfl ((HZ.out.1).alloc _) _ [y, x] rfl (flx_two (new_block w6 _)) ?c3 ?c4 ?_
              case c3 => have := HM.out.2.1; simp; omega
              case c4 => have := lt_of_block H4.out.2.2.2.2; have := HZ.out.2.size; simp; omega
              intro v5 w5 o5 g5
              have hH5 : Rd2 1 g m x y w5 := Rd2.grown hH2 g5 hgn
              have HCut := Lib.hid (cut_ok (s := wSwap) (m := m) (n := 2) [y, x] H4.out.2.2.2.1 HM.out.2.1 (by simp) (by intro f hf; simp only [List.mem_cons, List.not_mem_nil, or_false] at hf; rcases hf with rfl | rfl <;> exact (hfix.out _ (by simp)).2) rfl H4.out.1 H4.out.2.2.2.2 H4.out.2.2.1 (HZ.out.2.trans ((below_alloc _ _).mono HZ.out.2.size)) (by simpa using o5) g5)
              clear o5 g5
              refine hK.out _ _ hH5 (fun hHeld => ?_)
              clear hK K hHeld
              try simp only [Act.put, List.setIfInBounds_toArray, List.set_cons_zero, List.set_cons_succ]
              refine wpAnyH_take (i := 9) (v := ?_) (by simp; rfl) (by kernel_rfl) (by kernel_rfl) (by kernel_rfl) (fun _ _ _ h => h) (Or.inl ⟨by rfl, ?_⟩) hH5 ?_
              rotate_left
              · intro w' hS
                obtain ⟨s0, s1, s2⟩ := hS
                go_simp
                rfl
              simp only [Act.put, List.setIfInBounds_toArray, List.set_cons_zero, List.set_cons_succ]
              refine wpAnyH_done (by kernel_rfl) ?_ _
              dsimp only [onlyK]
              go_wp2_with fail
              go_meet
              exact HCut.out
            · as_aux_lemma =>
              obtain rfl : s = ⟨#[112, 105, 99, 107]⟩ := ba_of hkn
              obtain rfl : n = 3 := by
                have h1 := hkc.2
                rw [hkn] at h1
                have : (3 : Int) = n := h1
                omega
              clear hkc hkn
              obtain ⟨z, y, x, rfl⟩ : ∃ z y x, tp = [z, y, x] := len_3 HM.out.1
              obtain ⟨g, rfl, hgl, hgn, hgc⟩ := H4.out.2.1 (by omega)
              have e0 : w4.cell? ⟨g, m, none⟩ = some (.float .f64 x) := hgc 0 (by omega)
              have e1 : w4.cell? ⟨g, m + 1, none⟩ = some (.float .f64 y) := hgc 1 (by omega)
              have e2 : w4.cell? ⟨g, m + 2, none⟩ = some (.float .f64 z) := hgc 2 (by omega)
              have hfix := Lib.hid H4.out.2.2.2.1
              clear hgc
              have hst : stepB en wPick ([z, y, x] ++ rs) = .ok (oneW (if nilB z then y else x) :: rs) := rfl
              have hnil : nilB z = !((FloatKind.f64.format.order z 0 != some .eq) && (FloatKind.f64.format.order z z == some .eq)) := pick_test z
              rw [hnil] at hst
              clear hnil
              have hpk : ((FloatKind.f64.format.order z 0 != some .eq) = true ∧ (FloatKind.f64.format.order z z == some .eq) = true ∧ stepB en wPick ([z, y, x] ++ rs) = .ok (oneW x :: rs)) ∨ ((FloatKind.f64.format.order z 0 != some .eq) = true ∧ (FloatKind.f64.format.order z z == some .eq) = false ∧ stepB en wPick ([z, y, x] ++ rs) = .ok (oneW y :: rs)) ∨ ((FloatKind.f64.format.order z 0 != some .eq) = false ∧ stepB en wPick ([z, y, x] ++ rs) = .ok (oneW y :: rs)) := by
                revert hst
                cases (FloatKind.f64.format.order z 0 != some .eq) <;> cases (FloatKind.f64.format.order z z == some .eq) <;> intro hst
                · exact Or.inr (Or.inr ⟨rfl, hst⟩)
                · exact Or.inr (Or.inr ⟨rfl, hst⟩)
                · exact Or.inr (Or.inl ⟨rfl, rfl, hst⟩)
                · exact Or.inl ⟨rfl, rfl, hst⟩
              clear hst
              rcases hpk with ⟨z1, z2, hst⟩ | ⟨z1, z2, hst⟩ | ⟨z1, hst⟩
              · have HST := Lib.hid hst
                clear hst
                go_wp2_with fail
                go_quiet (fail)
                have H5 : (w4.drewN nq).ownsRow (w.heap.size + 1) 23 1 v4 rs.reverse.length (fls rs.reverse) := own_draws H4.out.1 nq
                have b5 : Below w4.heap.size w4 (w4.drewN nq) := ⟨rfl, rfl, rfl, Nat.le_refl _, fun _ _ => rfl⟩
                have f0 : (w4.drewN nq).cell? ⟨g, m, none⟩ = some (.float .f64 x) := e0
                have f1 : (w4.drewN nq).cell? ⟨g, m + 1, none⟩ = some (.float .f64 y) := e1
                have fl : g < (w4.drewN nq).heap.size := hgl
                have HZ := Lib.hid (And.intro H5 b5)
                clear H5 b5 e0 e1 e2 hgl
                revert HZ f0 f1 fl
                generalize (w4.drewN nq) = w6
                intro f0 f1 fl HZ
                go_upto_region 54 with fail
                go_wp2_with (first
                  | (at_builtin; refine wpList_append_fls rfl _ _ rfl (w.heap.size + 1) v4 rs.reverse rfl ?c1 _ [x] rfl (flx_one (new_block _ _)) ?c3 ?c4 ?_)
                  | fail)
                case c1 => exact HZ.out.1.alloc _
                case c3 => have := HM.out.2.1; simp; omega
                case c4 => have := lt_of_block H4.out.2.2.2.2; have := HZ.out.2.size; simp; omega
                intro v5 w5 o5 g5
                have hcut := cut_ok (s := wPick) (m := m) (n := 3) [x] H4.out.2.2.2.1 HM.out.2.1 (by simp) (by intro f hf; obtain rfl := List.mem_singleton.1 hf; exact (hfix.out _ (by simp)).2) HST.out H4.out.1 H4.out.2.2.2.2 H4.out.2.2.1 (HZ.out.2.trans ((below_alloc _ _).mono HZ.out.2.size)) (by simpa using o5) g5
                clear o5 g5
                go_wp2_with fail
                go_meet
                exact hcut
              · have HST := Lib.hid hst
                clear hst
                go_wp2_with fail
                go_quiet (fail)
                have H5 : (w4.drewN nq).ownsRow (w.heap.size + 1) 23 1 v4 rs.reverse.length (fls rs.reverse) := own_draws H4.out.1 nq
                have b5 : Below w4.heap.size w4 (w4.drewN nq) := ⟨rfl, rfl, rfl, Nat.le_refl _, fun _ _ => rfl⟩
                have f0 : (w4.drewN nq).cell? ⟨g, m, none⟩ = some (.float .f64 x) := e0
                have f1 : (w4.drewN nq).cell? ⟨g, m + 1, none⟩ = some (.float .f64 y) := e1
                have fl : g < (w4.drewN nq).heap.size := hgl
                have HZ := Lib.hid (And.intro H5 b5)
                clear H5 b5 e0 e1 e2 hgl
                revert HZ f0 f1 fl
                generalize (w4.drewN nq) = w6
                intro f0 f1 fl HZ
                go_upto_region 55 with fail
                go_wp2_with (first
                  | (at_builtin; refine wpList_append_fls rfl _ _ rfl (w.heap.size + 1) v4 rs.reverse rfl ?c1 _ [y] rfl (flx_one (new_block _ _)) ?c3 ?c4 ?_)
                  | fail)
                case c1 => exact HZ.out.1.alloc _
                case c3 => have := HM.out.2.1; simp; omega
                case c4 => have := lt_of_block H4.out.2.2.2.2; have := HZ.out.2.size; simp; omega
                intro v5 w5 o5 g5
                have hcut := cut_ok (s := wPick) (m := m) (n := 3) [y] H4.out.2.2.2.1 HM.out.2.1 (by simp) (by intro f hf; obtain rfl := List.mem_singleton.1 hf; exact (hfix.out _ (by simp)).2) HST.out H4.out.1 H4.out.2.2.2.2 H4.out.2.2.1 (HZ.out.2.trans ((below_alloc _ _).mono HZ.out.2.size)) (by simpa using o5) g5
                clear o5 g5
                go_wp2_with fail
                go_meet
                exact hcut
              · have HST := Lib.hid hst
                clear hst
                go_wp2_with fail
                go_quiet (fail)
                have H5 : (w4.drewN nq).ownsRow (w.heap.size + 1) 23 1 v4 rs.reverse.length (fls rs.reverse) := own_draws H4.out.1 nq
                have b5 : Below w4.heap.size w4 (w4.drewN nq) := ⟨rfl, rfl, rfl, Nat.le_refl _, fun _ _ => rfl⟩
                have f0 : (w4.drewN nq).cell? ⟨g, m, none⟩ = some (.float .f64 x) := e0
                have f1 : (w4.drewN nq).cell? ⟨g, m + 1, none⟩ = some (.float .f64 y) := e1
                have fl : g < (w4.drewN nq).heap.size := hgl
                have HZ := Lib.hid (And.intro H5 b5)
                clear H5 b5 e0 e1 e2 hgl
                revert HZ f0 f1 fl
                generalize (w4.drewN nq) = w6
                intro f0 f1 fl HZ
                go_upto_region 55 with fail
                go_wp2_with (first
                  | (at_builtin; refine wpList_append_fls rfl _ _ rfl (w.heap.size + 1) v4 rs.reverse rfl ?c1 _ [y] rfl (flx_one (new_block _ _)) ?c3 ?c4 ?_)
                  | fail)
                case c1 => exact HZ.out.1.alloc _
                case c3 => have := HM.out.2.1; simp; omega
                case c4 => have := lt_of_block H4.out.2.2.2.2; have := HZ.out.2.size; simp; omega
                intro v5 w5 o5 g5
                have hcut := cut_ok (s := wPick) (m := m) (n := 3) [y] H4.out.2.2.2.1 HM.out.2.1 (by simp) (by intro f hf; obtain rfl := List.mem_singleton.1 hf; exact (hfix.out _ (by simp)).2) HST.out H4.out.1 H4.out.2.2.2.2 H4.out.2.2.1 (HZ.out.2.trans ((below_alloc _ _).mono HZ.out.2.size)) (by simpa using o5) g5
                clear o5 g5
                go_wp2_with fail
                go_meet
                exact hcut
            · as_aux_lemma =>
              obtain rfl : s = ⟨#[115, 116, 97, 116, 101]⟩ := ba_of hkn
              obtain rfl : n = 0 := by
                have h1 := hkc.2
                rw [hkn] at h1
                have : (0 : Int) = n := h1
                omega
              clear hkc hkn
              obtain rfl : tp = [] := List.eq_nil_of_length_eq_zero HM.out.1
              go_wp2_with (first
                | (at_builtin; refine wpList_append_fls rfl _ _ rfl (w.heap.size + 1) v4 rs.reverse rfl ?c1 _ [en.s] rfl (flx_one (new_block _ _)) ?c3 ?c4 ?_)
                | fail)
              case c1 => exact (H4.out.1.alloc _)
              case c3 => have := HM.out.2.1; simp; omega
              case c4 => have := lt_of_block H4.out.2.2.2.2; simp; omega
              intro v5 w5 o5 g5
              have hcut := cut_ok (s := wState) (m := m) (n := 0) [en.s] H4.out.2.2.2.1 HM.out.2.1 (by simp) (by intro f hf; obtain rfl := List.mem_singleton.1 hf; exact HO.out.s) rfl H4.out.1 H4.out.2.2.2.2 H4.out.2.2.1 (below_alloc _ _) (by simpa using o5) g5
              clear o5 g5
              go_wp2_with fail
              go_meet
              exact hcut
            · as_aux_lemma =>
              obtain rfl : s = ⟨#[118, 97, 108, 117, 101]⟩ := ba_of hkn
              obtain rfl : n = 0 := by
                have h1 := hkc.2
                rw [hkn] at h1
                have : (0 : Int) = n := h1
                omega
              clear hkc hkn
              obtain rfl : tp = [] := List.eq_nil_of_length_eq_zero HM.out.1
              obtain ⟨q0, q1, q2, q3⟩ := ev_cells H4.out.2.2.2.2
              have qz := lt_of_block H4.out.2.2.2.2
              go_wp2_with (first
                | (at_builtin; refine wpList_append_fls rfl _ _ rfl (w.heap.size + 1) v4 rs.reverse rfl ?c1 _ [en.v] rfl (flx_one (new_block _ _)) ?c3 ?c4 ?_)
                | fail)
              case c1 => exact (H4.out.1.alloc _)
              case c3 => have := HM.out.2.1; simp; omega
              case c4 => have := lt_of_block H4.out.2.2.2.2; simp; omega
              intro v5 w5 o5 g5
              have hcut := cut_ok (s := wValue) (m := m) (n := 0) [en.v] H4.out.2.2.2.1 HM.out.2.1 (by simp) (by intro f hf; obtain rfl := List.mem_singleton.1 hf; exact HO.out.v) rfl H4.out.1 H4.out.2.2.2.2 H4.out.2.2.1 (below_alloc _ _) (by simpa using o5) g5
              clear o5 g5
              go_wp2_with fail
              go_meet
              exact hcut
            · as_aux_lemma =>
              obtain rfl : s = ⟨#[118, 101, 114, 115, 105, 111, 110]⟩ := ba_of hkn
              obtain rfl : n = 0 := by
                have h1 := hkc.2
                rw [hkn] at h1
                have : (0 : Int) = n := h1
                omega
              clear hkc hkn
              obtain rfl : tp = [] := List.eq_nil_of_length_eq_zero HM.out.1
              go_wp2_with (first
                | (at_builtin; refine wpList_append_fls rfl _ _ rfl (w.heap.size + 1) v4 rs.reverse rfl ?c1 _ [intF en.ver] rfl (flx_one (new_block _ _)) ?c3 ?c4 ?_)
                | fail)
              case c1 => exact (H4.out.1.alloc _)
              case c3 => have := HM.out.2.1; simp; omega
              case c4 => have := lt_of_block H4.out.2.2.2.2; simp; omega
              intro v5 w5 o5 g5
              have hcut := cut_ok (s := wVersion) (m := m) (n := 0) [intF en.ver] H4.out.2.2.2.1 HM.out.2.1 (by simp) (by intro f hf; obtain rfl := List.mem_singleton.1 hf; exact intF_lt _) rfl H4.out.1 H4.out.2.2.2.2 H4.out.2.2.1 (below_alloc _ _) (by simpa using o5) g5
              clear o5 g5
              go_wp2_with fail
              go_meet
              exact hcut
            · as_aux_lemma =>
              obtain rfl : s = ⟨#[108, 101, 110]⟩ := ba_of hkn
              obtain rfl : n = 0 := by
                have h1 := hkc.2
                rw [hkn] at h1
                have : (0 : Int) = n := h1
                omega
              clear hkc hkn
              obtain rfl : tp = [] := List.eq_nil_of_length_eq_zero HM.out.1
              obtain ⟨q0, q1, q2, q3⟩ := ev_cells H4.out.2.2.2.2
              have qz := lt_of_block H4.out.2.2.2.2
              go_wp2_with (first
                | (at_builtin; refine wpList_append_fls rfl _ _ rfl (w.heap.size + 1) v4 rs.reverse rfl ?c1 _ [intF en.d.size] rfl (flx_one (new_block _ _)) ?c3 ?c4 ?_)
                | fail)
              case c1 => exact (H4.out.1.alloc _)
              case c3 => have := HM.out.2.1; simp; omega
              case c4 => have := lt_of_block H4.out.2.2.2.2; simp; omega
              intro v5 w5 o5 g5
              have hcut := cut_ok (s := wLen) (m := m) (n := 0) [intF en.d.size] H4.out.2.2.2.1 HM.out.2.1 (by simp) (by intro f hf; obtain rfl := List.mem_singleton.1 hf; exact intF_lt _) rfl H4.out.1 H4.out.2.2.2.2 H4.out.2.2.1 (below_alloc _ _) (by simpa using o5) g5
              clear o5 g5
              go_wp2_with fail
              go_meet
              exact hcut
            · as_aux_lemma =>
              obtain rfl : s = ⟨#[98, 121, 116, 101]⟩ := ba_of hkn
              obtain rfl : n = 1 := by
                have h1 := hkc.2
                rw [hkn] at h1
                have : (1 : Int) = n := h1
                omega
              clear hkc hkn
              obtain ⟨x, rfl⟩ : ∃ x, tp = [x] := len_1 HM.out.1
              obtain ⟨g, rfl, hgl, hgn, hgc⟩ := H4.out.2.1 (by omega)
              have e0 : w4.cell? ⟨g, m, none⟩ = some (.float .f64 x) := hgc 0 (by omega)
              have hfix := Lib.hid H4.out.2.2.2.1
              clear hgc
              obtain ⟨q0, q1, q2, q3⟩ := ev_cells H4.out.2.2.2.2
              have qz := lt_of_block H4.out.2.2.2.2
              have hcv : ∀ w : World, (convert 3 23 (.int .i64 (en.d.size : Nat))).run Tryd.prog w = .ok (.float .f64 (intF (en.d.size : Nat))) w := fun w => run_convert_int_float w 3 23 .i64 .f64 _ (by kernel_rfl) Tryd.underlying23
              have hst : stepB en wByte ([x] ++ rs) = match placeB x en.d.size with | some i => .ok (oneW (intF ((en.d.data.toList.getD i 0).toNat)) :: rs) | none => .rt := rfl
              rcases place_cases x en.d.size HO.out.d with ⟨z1, hp⟩ | ⟨z1, z2, hp⟩ | ⟨z1, z2, hf, hq, hn, hp⟩
              · rw [hp] at hst
                have g1 : (FloatKind.f64.format.order x 0 == some .gt || FloatKind.f64.format.order x 0 == some .eq) = false := z1
                have HST := Lib.hid hst
                clear hst hp z1
                have h1 := HD.out
                have h3 : wordsGo en (tl l) [] = .rt := by rw [h1, show (⟨#[98, 121, 116, 101]⟩ : ByteArray).data.toList = wByte from rfl, HST.out]
                go_wp2_with fail
                exact bodyPost_ret (v := (tellOf .rt).dval) (by simp [results, Tryd.results21, go_sem, tellOf, Tell.dval]) rfl ⟨by rw [h3], H4.out.2.2.1⟩
              · rw [hp] at hst
                have g1 : (FloatKind.f64.format.order x 0 == some .gt || FloatKind.f64.format.order x 0 == some .eq) = true := z1
                have g2 : (FloatKind.f64.format.order x (intF (en.d.size : Nat)) == some .lt) = false := z2
                have HST := Lib.hid hst
                clear hst hp z1 z2
                have h1 := HD.out
                have h3 : wordsGo en (tl l) [] = .rt := by rw [h1, show (⟨#[98, 121, 116, 101]⟩ : ByteArray).data.toList = wByte from rfl, HST.out]
                go_wp2_with fail
                exact bodyPost_ret (v := (tellOf .rt).dval) (by simp [results, Tryd.results21, go_sem, tellOf, Tell.dval]) rfl ⟨by rw [h3], H4.out.2.2.1⟩
              · rw [hp] at hst
                have g1 : (FloatKind.f64.format.order x 0 == some .gt || FloatKind.f64.format.order x 0 == some .eq) = true := z1
                have g2 : (FloatKind.f64.format.order x (intF (en.d.size : Nat)) == some .lt) = true := z2
                have hd := HO.out.d
                have hc2 : ∀ w : World, (convert 23 3 (.float .f64 x)).run Tryd.prog w = .ok (.int .i64 (qOf x : Nat)) w := fun w => by rw [← hn]; exact run_conv_int x hf (by omega) w
                have hc3 : ∀ w : World, (convert 3 23 (.int .i64 (qOf x : Nat))).run Tryd.prog w = .ok (.float .f64 (intF (qOf x : Nat))) w := fun w => run_convert_int_float w 3 23 .i64 .f64 _ (by kernel_rfl) Tryd.underlying23
                have ht := dwhole_test x hf (by omega)
                rw [hn] at ht
                cases hev : evenB x
                · rw [hev] at ht hst
                  rw [if_neg (by decide)] at hst
                  have g3 : (FloatKind.f64.format.order (intF (qOf x : Nat)) x != some .eq) = true := by
                    show (!(Ieee.double.order (intF (qOf x : Nat)) x == some .eq)) = true
                    rw [ht]; rfl
                  have HST := Lib.hid hst
                  clear hst hp z1 z2 ht hev hn hf hq hd
                  have h1 := HD.out
                  have h3 : wordsGo en (tl l) [] = .rt := by rw [h1, show (⟨#[98, 121, 116, 101]⟩ : ByteArray).data.toList = wByte from rfl, HST.out]
                  go_wp2_with fail
                  exact bodyPost_ret (v := (tellOf .rt).dval) (by simp [results, Tryd.results21, go_sem, tellOf, Tell.dval]) rfl ⟨by rw [h3], H4.out.2.2.1⟩
                · rw [hev] at ht hst
                  have g3 : (FloatKind.f64.format.order (intF (qOf x : Nat)) x != some .eq) = false := by
                    show (!(Ieee.double.order (intF (qOf x : Nat)) x == some .eq)) = false
                    rw [ht]; rfl
                  have hix : ((qOf x : Nat) : Int) < (en.d.size : Int) := by omega
                  have hix0 : (0 : Int) ≤ ((qOf x : Nat) : Int) := by omega
                  have hget : en.d.data.toList.getD (qOf x) 0 = en.d[qOf x] := byte_getD en.d (qOf x) hq
                  have hc4 : ∀ w : World, (convert 5 23 (.int .u8 (en.d[qOf x].toNat : Nat))).run Tryd.prog w = .ok (.float .f64 (intF (en.d[qOf x].toNat : Nat))) w := fun w => run_convert_int_float w 5 23 .u8 .f64 _ (by kernel_rfl) Tryd.underlying23
                  rw [if_pos rfl] at hst
                  have hst2 : stepB en wByte ([x] ++ rs) = .ok (oneW (intF (en.d[qOf x].toNat : Nat)) :: rs) := by rw [hst, ← hget]
                  have HST := Lib.hid hst2
                  clear hst hst2 hp z1 z2 ht hev hn hf hd hget
                  go_wp2_with (first
                    | (at_builtin; refine wpList_append_fls rfl _ _ rfl (w.heap.size + 1) v4 rs.reverse rfl ?c1 _ [intF (en.d[qOf x].toNat : Nat)] rfl (flx_one (new_block _ _)) ?c3 ?c4 ?_)
                    | fail)
                  case c1 => exact (H4.out.1.alloc _)
                  case c3 => have := HM.out.2.1; simp; omega
                  case c4 => have := lt_of_block H4.out.2.2.2.2; simp; omega
                  intro v5 w5 o5 g5
                  have hcut := cut_ok (s := wByte) (m := m) (n := 1) [intF (en.d[qOf x].toNat : Nat)] H4.out.2.2.2.1 HM.out.2.1 (by simp) (by intro f hf; obtain rfl := List.mem_singleton.1 hf; exact intF_lt _) HST.out H4.out.1 H4.out.2.2.2.2 H4.out.2.2.1 (below_alloc _ _) (by simpa using o5) g5
                  clear o5 g5
                  go_wp2_with fail
                  go_meet
                  exact hcut
            · as_aux_lemma =>
              obtain rfl : s = ⟨#[110, 101, 103]⟩ := ba_of hkn
              obtain rfl : n = 1 := by
                have h1 := hkc.2
                rw [hkn] at h1
                have : (1 : Int) = n := h1
                omega
              clear hkc hkn
              obtain ⟨x, rfl⟩ : ∃ x, tp = [x] := len_1 HM.out.1
              obtain ⟨g, rfl, hgl, hgn, hgc⟩ := H4.out.2.1 (by omega)
              have e0 : w4.cell? ⟨g, m, none⟩ = some (.float .f64 x) := hgc 0 (by omega)
              have hfix := Lib.hid H4.out.2.2.2.1
              clear hgc
              have hng := runNeg
              go_wp2_with (first
                | (at_builtin; refine wpList_append_fls rfl _ _ rfl (w.heap.size + 1) v4 rs.reverse rfl ?c1 _ [negB x] rfl (flx_one (new_block _ _)) ?c3 ?c4 ?_)
                | fail)
              case c1 => exact (H4.out.1.alloc _)
              case c3 => have := HM.out.2.1; simp; omega
              case c4 => have := lt_of_block H4.out.2.2.2.2; simp; omega
              intro v5 w5 o5 g5
              have hcut := cut_ok (s := wNeg) (m := m) (n := 1) [negB x] H4.out.2.2.2.1 HM.out.2.1 (by simp) (by intro f hf; obtain rfl := List.mem_singleton.1 hf; exact negB_lt _ (hfix.out x (by simp)).2) rfl H4.out.1 H4.out.2.2.2.2 H4.out.2.2.1 (below_alloc _ _) (by simpa using o5) g5
              clear o5 g5
              go_wp2_with fail
              go_meet
              exact hcut
            · as_aux_lemma =>
              obtain rfl : s = ⟨#[102, 97, 105, 108]⟩ := ba_of hkn
              obtain rfl : n = 0 := by
                have h1 := hkc.2
                rw [hkn] at h1
                have : (0 : Int) = n := h1
                omega
              clear hkc hkn
              obtain rfl : tp = [] := List.eq_nil_of_length_eq_zero HM.out.1
              have h1 := HD.out
              have h2 : stepB en wFail ([] ++ rs) = .fail := rfl
              have h3 : wordsGo en (tl l) [] = .fail := h1
              go_wp2_with fail
              exact bodyPost_ret (v := (tellOf .fail).dval) (by simp [results, Tryd.results21, go_sem, tellOf, Tell.dval, wFail]) rfl ⟨by rw [h3], H4.out.2.2.1⟩
        case rest =>
          obtain ⟨raw, st', hstep, hraw, hlt2, hrl, hown, hev, hb⟩ := hcut
          have HC2 := Lib.hid (And.intro hstep (And.intro hraw (And.intro hlt2 hrl)))
          obtain ⟨qo, qc, rfl⟩ := row_slice' hown
          have HW := Lib.hid (And.intro hown (And.intro hev hb))
          have hr64 : (raw.length : Int) < 9223372036854775807 := by omega
          clear hstep hraw hlt2 hown hev hb H4 htop hlw hsn' hsub c4 hbl4
          go_wp2_with fail
          go_loopg [22] raw.length (fun g i wy => ∃ j : Nat, g = raw.length - j ∧ j ≤ raw.length ∧ i = .int .i64 j ∧ wy.ownsRow (w.heap.size + 1) 23 1 (.slice qo raw.length qc) raw.length (fls ((raw.take j).map oneW ++ raw.drop j)) ∧ wy.heap[w.heap.size]? = some (.cells #[.int .i64 en.id, .string en.ty, .string en.d, .float .f64 en.v] 35) ∧ Below w.heap.size w wy)
          case atStart => exact ⟨0, by omega, by omega, rfl, by simpa using HW.out.1, HW.out.2.1, HW.out.2.2⟩
          case round =>
            obtain ⟨j, hg2, hj, rfl, ho2, he2, hb2⟩ := hrel
            have HG2 := Lib.hid hg2; clear hg2
            by_cases hjl : j < raw.length
            · obtain ⟨qg, hqg⟩ := row_some ho2 (by omega)
              subst hqg
              have cj := ho2.cellAt j (by omega)
              rw [fls_at raw j hjl] at cj
              have fj := ho2.frozenAt j
              have hl2 : (j : Int) < (raw.length : Int) := by omega
              have hw2 : IntKind.i64.wrap ((j : Int) + 1) = (j : Int) + 1 := IntWalk.i64_in _ (by omega)
              have hst := ho2.stored j (.float .f64 (oneW (raw.getD j 0)))
              have hqlt := (ho2.lt qg rfl)
              have hbig := (ho2.lt qg rfl).1
              have HW2 := Lib.hid (And.intro hst (And.intro he2 (And.intro hb2 hqlt)))
              have hqs : qg < _ := hqlt.2
              clear ho2 he2 hb2 hst hqlt
              revert cj
              obtain ⟨x, hx⟩ : ∃ x, raw.getD j 0 = x := ⟨_, rfl⟩
              rw [hx]
              intro cj
              have HX2 := Lib.hid hx
              clear hx
              go_wp2_with fail
              refine (dcanon_any x _).mono ?_
              rintro e w7 ⟨rfl, hw7⟩
              subst hw7
              go_wp2_with fail
              go_roundg (raw.length - (j + 1))
              case measure => have := HG2.out; omega
              case rel =>
                have h2 := HW2.out
                have h3 := fls_set raw j hjl
                rw [HX2.out] at h2 h3
                refine ⟨j + 1, rfl, by omega, by go_num, ?_, ?_, ?_⟩
                · rw [h3] at h2
                  exact h2.1.1
                · exact (heap_setCell_other _ _ _ _ (by show w.heap.size ≠ qg; omega)).trans h2.2.1
                · exact h2.2.2.1.setCell (p := ⟨qg, j, none⟩) (by show w.heap.size ≤ qg; omega) _
            · obtain rfl : j = raw.length := by omega
              rw [List.take_length, List.drop_length, List.append_nil] at ho2
              have HW2 := Lib.hid (And.intro ho2 (And.intro he2 hb2))
              clear ho2 he2 hb2
              go_wp2_with fail
              go_roundg (l.length - (k + 1))
              case measure => have := HG.out; omega
              case rel =>
                have h1 := HD.out
                rw [HC2.out.1] at h1
                have h2 := HC2.out.2.1
                have h3 : st'.length = raw.length := by have := congrArg List.length h2; simpa using this.symm
                refine ⟨k + 1, st', rfl, by omega, by go_num, h1.symm, ?_, by have := HC2.out.2.2.2; omega, ?_, HW2.out.2.1, HW2.out.2.2⟩
                · intro f hf
                  have h4 : f ∈ raw.map oneW := by rw [h2]; simpa using hf
                  obtain ⟨y, hy, rfl⟩ := List.mem_map.1 h4
                  exact ⟨oneW_one y, oneW_lt (HC2.out.2.2.1 y hy)⟩
                · rw [← h2, h3]; exact HW2.out.1
    · obtain rfl : k = l.length := by omega
      rw [List.drop_length] at hgo
      have hgo2 : wordsGo en (tl l) [] = .ok st := hgo.symm
      have HB := Lib.hid (And.intro hgo2 hb)
      have hst64 : st.length ≤ 64 := by omega
      clear hfx hev hgo hgo2 hb hlen
      by_cases h1 : st.length = 1
      · match st, h1 with
        | [f], _ =>
          obtain ⟨g, qc, hv⟩ := row_one hown
          subst hv
          have c0 : wr.cell? ⟨g, 0, none⟩ = some (.float .f64 f) := hown.cellAt 0 (by decide)
          clear hown
          go_wp2
          exact bodyPost_ret (v := (tellOf (.ok [f])).dval) (by simp [results, Tryd.results21, go_sem, tellOf, Tell.dval]) rfl ⟨by rw [HB.out.1], HB.out.2⟩
      · obtain ⟨qo, qc, rfl⟩ := row_slice' hown
        have hne : ((st.length : Int) != 1) = true := by simpa using (show ¬ (st.length : Int) = 1 by omega)
        have ht : tellOf (.ok st) = ⟨0, 6, 2, []⟩ := by
          match st, h1 with
          | [], _ => rfl
          | x :: y :: t, _ => rfl
        have HT2 := Lib.hid ht
        clear hown h1 ht
        go_wp2
        exact bodyPost_ret (v := (⟨0, 6, 2, []⟩ : Tell).dval) (by simp [results, Tryd.results21, go_sem, Tell.dval]) rfl ⟨by rw [HB.out.1, HT2.out], HB.out.2⟩
end Go.Proofs.YtidjnfjpdnjogaaDoor
