/-
  codec.Out: eight bytes, a text behind its length, the bytes at the end. Conditions: none.
-/
import Derived.Test.YtganeocegdkddaaDoorC
namespace Go.Proofs.YtganeocegdkddaaDoor
open Go.RowKit Go.Lib

theorem slice_form {w : World} {B e size n : Nat} {v : Value} {xs : List Value} (h : w.ownsRow B e size v n xs) (hn : 0 < n) : ∃ g cap, v = .slice (some ⟨g, 0, none⟩) n cap := by
  rcases h.2 with ⟨_, h0⟩ | ⟨g, cap, cur, hv, _⟩
  · omega
  · exact ⟨g, cap, hv⟩

/-- A string's bytes behind an own row that is not empty then. -/
theorem wpList_append_str {P : Program} (w : World) {ops : Array Oper} {rest : List Oper} {o : Oper} {a : Act} {Q : Exit → Act → World → Prop} (hgd : o.guard = none) (sl x : Operand) (t u : TypeId)
    (ho : o.op = .call { callee := .builtin .append, args := #[sl, x], argTypes := #[t, u] })
    (base : Nat) (e : TypeId) (i : TypeInfo) (ht : P.underlying t = some (.slice e)) (hu : P.underlying u = some .string) (hi : P.info? e = some i) (hz : i.zero = some (.int .u8 0))
    (hsize : i.size = 1) (hby : i.bytes = 1)
    (v : Value) (n : Nat) (xs : List Value) (hs : a.eval sl = v) (hown : w.ownsRow base e 1 v n xs) (s : ByteArray) (hx : a.eval x = .string s)
    (h63 : n + s.size ≤ maxLen) (hbytes : n + s.size ≤ 140737488355328) (hbase : base ≤ w.heap.size) (hpos : 0 < n + s.size)
    (h : ∀ g cap w', w'.ownsRow base e 1 (.slice (some ⟨g, 0, none⟩) (n + s.size) cap) (n + s.size) (xs ++ strCells s) → w.grownBy w' v.ownBlock → Hat w v.ownBlock (some g) → wpList P ops Q rest (a.put o.dst (.slice (some ⟨g, 0, none⟩) (n + s.size) cap)) w') :
    wpList P ops Q (o :: rest) a w := by
  refine wpList_plain hgd fun K hK => ?_
  obtain ⟨v', w', hr, h2, h3, h4⟩ := run_append_own_string (P := P) w base t u o.type e i ht hu hi hz hsize hby v n xs hown s h63 hbytes hbase
  have hh := hat_of_run ht hu hi hz hsize hby hown h63 hbytes hr
  obtain ⟨g, cap, rfl⟩ := slice_form h2 hpos
  unfold Oper.wp execOp
  simp only [ho, resolve, invoke, builtin, Sem.run_bind, Sem.run_pure, Result.andThen_ok, List.map_toArray, List.map_cons, List.map_nil, hs, hx, hr]
  exact hK _ _ (h g cap w' h2 h3 hh)

theorem strCells_append (s t : ByteArray) : strCells (s ++ t) = strCells s ++ strCells t := by
  simp [strCells, ByteArray.data_append]

/-- The list of bytes is laid in its place. -/
theorem OutAt.store {B O g cap m : Nat} {v : Value} {s s' : ByteArray} {e : Int} {w w1 : World} (h : OutAt B O v s e w) (hm : s'.size = m)
    (ho : w1.ownsRow B 5 1 (.slice (some ⟨g, 0, none⟩) m cap) m (strCells s')) (hg : w.grownBy w1 v.ownBlock) (hat : Hat w v.ownBlock (some g)) :
    OutAt B O (.slice (some ⟨g, 0, none⟩) m cap) s' e (w1.setCell ⟨O, 0, none⟩ (.slice (some ⟨g, 0, none⟩) m cap)) ∧
      Turn O v.ownBlock w (w1.setCell ⟨O, 0, none⟩ (.slice (some ⟨g, 0, none⟩) m cap)) ∧ Hat w v.ownBlock (some g) := by
  subst hm
  have hb1 : w1.heap[O]? = some (.cells #[v, .int .i64 e] 27) := (hg.block O (lt_of_block h.box) h.row_ne).trans h.box
  have hgo : g ≠ O := by
    have := own_ne ho hb1 (by decide)
    intro hc; exact this (by rw [hc]; rfl)
  refine ⟨⟨set_fst hb1 _, own_same ho (fun g' hg' => Below.heap_setCell _ _ _ _ (by simp [Value.ownBlock] at hg'; subst hg'; exact hgo)), h.bo⟩, ?_, hat⟩
  exact (Turn.of_grown hg).trans (Turn.set (row := v.ownBlock) 0 _) (Hat.refl _ _)

/-- What eight bytes leave. -/
def put64 (s : ByteArray) (e x : Int) : ByteArray × Int := if e ≠ 0 then (s, e) else (s ++ highs x 8 8, 0)
/-- What a text leaves. -/
def putText (s : ByteArray) (e : Int) (t : ByteArray) : ByteArray × Int :=
  if e ≠ 0 then (s, e) else if 65536 < t.size then (s, 2) else (s ++ highs t.size 4 4 ++ t, 0)

section
variable (B O : Nat) (v : Value) (s : ByteArray) (e : Int) (w : World) (hO : OutAt B O v s e w) (hs : s.size ≤ 900000)
include hO hs

theorem outU64 (x : Int) (hx0 : 0 ≤ x) : Calls Tryd.prog 24 #[.pointer (some ⟨O, 0, none⟩), .int .u64 x] w (Put B O v (put64 s e x).1 (put64 s e x).2 w) := by
  obtain ⟨c1, c2, c3, c4⟩ := cells_of_two hO.box
  have hz := lt_of_block hO.box
  have HO := Lib.hid hO; clear hO
  by_cases he : e = 0
  · have h1 : put64 s e x = (s ++ highs x 8 8, 0) := by rw [put64, if_neg (by simpa using he)]
    rw [h1]
    subst he
    have h := Lib.hid (high_any B O v s 0 w HO.out x hx0 8 (by decide) (by omega))
    go_enter Tryd.func24, Tryd.ntmps24
    go_wp2_with fail
    refine h.out.mono ?_
    rintro en w' ⟨rfl, hv⟩
    go_wp2
    go_ret
    exact ⟨rfl, hv⟩
  · have h1 : put64 s e x = (s, e) := by rw [put64, if_pos he]
    rw [h1]
    have he2 : (e == 0) = false := by simpa using he
    go_enter Tryd.func24, Tryd.ntmps24
    go_wp2
    go_ret
    exact Put.same HO.out

theorem outText (t : ByteArray) (ht : t.size ≤ maxLen) : Calls Tryd.prog 22 #[.pointer (some ⟨O, 0, none⟩), .string t] w (Put B O v (putText s e t).1 (putText s e t).2 w) := by
  obtain ⟨c1, c2, c3, c4⟩ := cells_of_two hO.box
  have hz := lt_of_block hO.box
  have HO := Lib.hid hO; clear hO
  unfold maxLen at ht
  by_cases he : e = 0
  · by_cases hl : 65536 < t.size
    · have h1 : putText s e t = (s, 2) := by rw [putText, if_neg (by simpa using he), if_pos hl]
      rw [h1]
      have hl2 : (65536 : Int) < (t.size : Int) := by omega
      go_enter Tryd.func22, Tryd.ntmps22
      go_wp2_with fail
      refine (fail_now B O v s e w HO.out 2 he rfl).mono ?_
      rintro en w' ⟨rfl, rfl⟩
      go_wp2
      go_ret
      exact Put.err HO.out 2
    · have h1 : putText s e t = (s ++ highs t.size 4 4 ++ t, 0) := by rw [putText, if_neg (by simpa using he), if_neg hl]
      rw [h1]
      have hl2 : ¬ (65536 : Int) < (t.size : Int) := by omega
      have hw : IntKind.u64.wrap (t.size : Int) = (t.size : Int) := i64_u64 _ (by omega) (by omega)
      subst he
      obtain ⟨i5, hi, hz0, hz1, hz2⟩ := info_parts (P := Tryd.prog) (e := 5) (z := .int .u8 0) (size := 1) (bytes := 1) (by kernel_rfl)
      go_enter Tryd.func22, Tryd.ntmps22
      go_wp2_with fail
      refine (fail_none B O v s 0 w HO.out 2 rfl).mono ?_
      rintro en w' ⟨rfl, rfl⟩
      go_wp2_with fail
      refine (high_any B O v s 0 w' HO.out (t.size : Int) (by omega) 4 (by decide) (by omega)).mono ?_
      rintro en w1 ⟨rfl, v1, h1, hT, hH⟩
      obtain ⟨d1, d2, d3, d4⟩ := cells_of_two h1.box
      have hz3 := lt_of_block h1.box
      have hsz : (s ++ highs (t.size : Int) 4 4).size = s.size + 4 := by rw [ByteArray.size_append, highs_size]
      obtain ⟨s1, hs1⟩ : ∃ s1, s ++ highs (t.size : Int) 4 4 = s1 := ⟨_, rfl⟩
      rw [hs1] at h1 hsz
      have HS := Lib.hid hs1; clear hs1
      have k1 : s1.size + t.size ≤ maxLen := by rw [hsz]; unfold maxLen; omega
      have k2 : s1.size + t.size ≤ 140737488355328 := by rw [hsz]; omega
      have k3 : 0 < s1.size + t.size := by rw [hsz]; omega
      have k4 : B ≤ w1.heap.size := by have := h1.bo; omega
      have H1 := Lib.hid h1; clear h1 hsz c1 c2 c3 c4 hz HO
      go_wp2_with (first
        | (at_builtin; refine wpList_append_str _ rfl (.tmp 24) (.tmp 25) 24 9 rfl B 5 i5 Tryd.underlying24 Tryd.underlying9 hi hz0 hz1 hz2 v1 s1.size (strCells s1) rfl H1.out.own t rfl k1 k2 k4 k3 ?_)
        | fail)
      intro g cap w2 hown hgr hat
      rw [← strCells_append] at hown
      have hb2 : w2.heap[O]? = some (.cells #[v1, .int .i64 0] 27) := (hgr.block O (lt_of_block H1.out.box) H1.out.row_ne).trans H1.out.box
      obtain ⟨q1, q2, q3⟩ := H1.out.store (by rw [ByteArray.size_append]) hown hgr hat
      obtain ⟨c1, c2, c3, c4⟩ := cells_of_two hb2
      have hz := lt_of_block hb2
      have HQ := Lib.hid (And.intro q1 q2); clear q1 q2 hown hgr hb2 d1 d2 d3 d4 hz3
      go_wp2
      go_ret
      rw [HS.out]
      exact ⟨rfl, _, HQ.out.1, hT.trans HQ.out.2 hH, hH.trans q3 hT.size⟩
  · have h1 : putText s e t = (s, e) := by rw [putText, if_pos he]
    rw [h1]
    have he2 : (e == 0) = false := by simpa using he
    by_cases hl : (65536 : Int) < (t.size : Int)
    all_goals
      go_enter Tryd.func22, Tryd.ntmps22
      go_wp2_with fail
      refine (fail_had B O v s e w HO.out _ 2 he2).mono ?_
      rintro en w' ⟨rfl, rfl⟩
      go_wp2
      go_ret
      exact Put.same HO.out
end

/-- The bytes at the end. -/
theorem OutAt.text {B O : Nat} {v : Value} {s : ByteArray} {e : Int} {w : World} (h : OutAt B O v s e w) : (convert 24 9 v).run Tryd.prog w = .ok (.string s) w := by
  have h5 : Tryd.prog.underlying 5 = some (.int .u8) := Tryd.underlying5
  rcases h.own.2 with ⟨rfl, h0⟩ | ⟨g, cap, cur, rfl, _⟩
  · have hs : s = ⟨#[]⟩ := by
      apply ByteArray.ext
      exact Array.eq_empty_of_size_eq_zero h0
    rw [hs]
    exact run_convert_nil_bytes w 24 9 5 0 Tryd.underlying24 h5 Tryd.underlying9
  · refine run_convert_whole w 24 5 9 Tryd.underlying24 h5 Tryd.underlying9 g 0 s ?_ cap
    intro i hi
    have := World.ownsRow.cells h.own (g := g) rfl i (.int .u8 ((s[i]).toNat)) (by
      simp [strCells, hi]
      rfl)
    rw [Nat.zero_add]
    by_cases h0 : i = 0
    · subst h0; simpa [Addr.add] using this
    · simpa [Addr.add, h0] using this

/-- What Done tells. -/
def doneOf (s : ByteArray) (e : Int) : Value := .tuple #[.string (if e = 0 then s else ⟨#[]⟩), .int .i64 e]

theorem outDone (B O : Nat) (v : Value) (s : ByteArray) (e : Int) (w : World) (hO : OutAt B O v s e w) : Calls Tryd.prog 15 #[.pointer (some ⟨O, 0, none⟩)] w fun en w' => en = .returned (doneOf s e) ∧ Below w.heap.size w w' := by
  obtain ⟨c1, c2, c3, c4⟩ := cells_of_two hO.box
  have hz := lt_of_block hO.box
  have hc := hO.text
  have HO := Lib.hid hO; clear hO
  by_cases he : e = 0
  · subst he
    go_enter Tryd.func15, Tryd.ntmps15
    go_wp2
    exact bodyPost_ret (v := doneOf s 0) (by simp [results, Tryd.results15, go_sem, doneOf]) rfl ⟨rfl, Below.refl _ _⟩
  · have he2 : (e == 0) = false := by simpa using he
    go_enter Tryd.func15, Tryd.ntmps15
    go_wp2_with fail
    go_quiet (fail)
    go_wp2
    exact bodyPost_ret (v := doneOf s e) (by simp [results, Tryd.results15, go_sem, doneOf, he]) rfl ⟨rfl, below_draws (Below.refl _ _) _⟩

end Go.Proofs.YtganeocegdkddaaDoor
