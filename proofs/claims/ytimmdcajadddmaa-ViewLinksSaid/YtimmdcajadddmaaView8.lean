/-
  One NaN; events alike: the program's and the document's. Conditions: none.
-/
import Derived.Test.YtimmdcajadddmaaView6
import Derived.WalkLawsBesides
namespace Go.Proofs.Ytimmdcajadddmaa
open Go.RowKit Go.Lib

def nanW (b : Nat) : Bool := FloatKind.f64.format.order b b != some .eq
def oneW (b : Nat) : Nat := if nanW b then 9221120237041090560 else b
theorem oneW_nan {b : Nat} (h : nanW b = true) : oneW b = 9221120237041090560 := if_pos h
theorem oneW_not {b : Nat} (h : nanW b = false) : oneW b = b := if_neg (by rw [h]; decide)
theorem runBits (b : Nat) (w : World) : (callFunc 40 #[.float .f64 b]).run Try.prog w = .ok (.value (.int .u64 b)) w := by
  rw [run_callFunc_extern (e := Extern.MathFloatBits.float64bits) Try.func40 (by kernel_rfl) (by kernel_rfl) (by kernel_rfl) (by kernel_rfl)]; rfl
theorem runFrom (n : Int) (w : World) : (callFunc 45 #[.int .u64 n]).run Try.prog w = .ok (.value (.float .f64 n.toNat)) w := by
  rw [run_callFunc_extern (e := Extern.MathFloatBits.float64frombits) Try.func45 (by kernel_rfl) (by kernel_rfl) (by kernel_rfl) (by kernel_rfl)]; rfl

theorem canon_any (b : Nat) (w : World) : Calls Try.prog 41 #[.float .f64 b] w fun en w' => en = .returned (.float .f64 (oneW b)) ∧ w = w' := by
  have h57 := runFrom
  cases h : nanW b
  · rw [oneW_not h]
    have hn : (FloatKind.f64.format.order b b != some .eq) = false := h
    clear h
    go_enter Try.func41, Try.ntmps41
    go_wp2
    go_ret
    exact ⟨rfl, rfl⟩
  · rw [oneW_nan h]
    have hn : (FloatKind.f64.format.order b b != some .eq) = true := h
    clear h
    go_enter Try.func41, Try.ntmps41
    go_wp2
    go_ret
    exact ⟨rfl, rfl⟩

theorem rbits_any (b : Nat) (w : World) : Calls Try.prog 34 #[.float .f64 b] w fun en w' => en = .returned (.int .u64 (oneW b : Nat)) ∧ w = w' := by
  have h56 := runBits
  go_enter Try.func34, Try.ntmps34
  go_wp2_with fail
  refine (canon_any b w).mono ?_
  rintro en w' ⟨rfl, rfl⟩
  go_wp2
  go_ret
  exact ⟨rfl, rfl⟩

def sameW (a b : Nat) : Bool := oneW a == oneW b
theorem sameW_int (a b : Nat) : (((oneW a : Nat) : Int) == ((oneW b : Nat) : Int)) = sameW a b := by
  unfold sameW; rw [Bool.eq_iff_iff]; simp; omega
theorem rsame_any (a b : Nat) (w : World) : Calls Try.prog 30 #[.float .f64 a, .float .f64 b] w fun en w' => en = .returned (.bool (sameW a b)) ∧ w = w' := by
  have HS := Lib.hid (sameW_int a b)
  go_enter Try.func30, Try.ntmps30
  go_wp2_with fail
  refine (rbits_any a _).mono ?_
  rintro en w1 ⟨rfl, rfl⟩
  go_wp2_with fail
  refine (rbits_any b _).mono ?_
  rintro en w1 ⟨rfl, rfl⟩
  go_wp2
  go_ret
  exact ⟨by rw [← HS.out]; simp, rfl⟩

theorem dbits_any (b : Nat) (w : World) : Calls Try.prog 35 #[.float .f64 b] w fun en w' => en = .returned (.int .u64 (oneW b : Nat)) ∧ w = w' := by
  have h56 := runBits
  cases h : nanW b
  · rw [oneW_not h]
    have hn : (FloatKind.f64.format.order b b != some .eq) = false := h
    clear h
    go_enter Try.func35, Try.ntmps35
    go_wp2
    go_ret
    exact ⟨rfl, rfl⟩
  · rw [oneW_nan h]
    have hn : (FloatKind.f64.format.order b b != some .eq) = true := h
    clear h
    go_enter Try.func35, Try.ntmps35
    go_wp2
    go_ret
    exact ⟨rfl, rfl⟩

theorem dsame_any (a b : Nat) (w : World) : Calls Try.prog 31 #[.float .f64 a, .float .f64 b] w fun en w' => en = .returned (.bool (sameW a b)) ∧ w = w' := by
  have HS := Lib.hid (sameW_int a b)
  go_enter Try.func31, Try.ntmps31
  go_wp2_with fail
  refine (dbits_any a _).mono ?_
  rintro en w1 ⟨rfl, rfl⟩
  go_wp2_with fail
  refine (dbits_any b _).mono ?_
  rintro en w1 ⟨rfl, rfl⟩
  go_wp2
  go_ret
  exact ⟨by rw [← HS.out]; simp, rfl⟩

/-- An event's first part. -/
abbrev Ev.first (e : Ev) : Value := .agg #[.int .i64 e.id, .string e.ty, .string e.data, .float .f64 e.value]
def sameE (e f : Ev) : Bool := ((e.id == f.id) && (e.ty.toList == f.ty.toList) && (e.data.toList == f.data.toList)) && sameW e.value f.value
def sameS (e f : Ev) : Bool := sameE e f && (e.stream.toList == f.stream.toList) && (e.version == f.version) && (e.position == f.position) && (e.time == f.time)

set_option maxRecDepth 100000 in
set_option maxHeartbeats 1000000 in
theorem sameEvent_any (e f : Ev) (w : World) : Calls Try.prog 22 #[e.first, f.first] w fun en w' => en = .returned (.bool (sameE e f)) ∧ Below w.heap.size w w' := by
  obtain ⟨r, hr⟩ : ∃ r, sameW e.value f.value = r := ⟨_, rfl⟩
  unfold sameE
  rw [hr]
  have HR := Lib.hid hr; clear hr
  rcases c0 : (e.id == f.id) with _ | _
  · go_enter Try.func22, Try.ntmps22
    go_wp2_with (
      go_at_call 30
      refine (rsame_any _ _ _).mono ?_
      rintro en w1 ⟨rfl, rfl⟩
      rw [HR.out])
    go_ret
    exact ⟨by simp, (below_alloc w _).trans ((below_alloc _ _).mono (by simp))⟩
  · rcases c1 : (e.ty.toList == f.ty.toList) with _ | _
    · go_enter Try.func22, Try.ntmps22
      go_wp2_with (
        go_at_call 30
        refine (rsame_any _ _ _).mono ?_
        rintro en w1 ⟨rfl, rfl⟩
        rw [HR.out])
      go_ret
      exact ⟨by simp, (below_alloc w _).trans ((below_alloc _ _).mono (by simp))⟩
    · rcases c2 : (e.data.toList == f.data.toList) with _ | _
      · go_enter Try.func22, Try.ntmps22
        go_wp2_with (
          go_at_call 30
          refine (rsame_any _ _ _).mono ?_
          rintro en w1 ⟨rfl, rfl⟩
          rw [HR.out])
        go_ret
        exact ⟨by simp, (below_alloc w _).trans ((below_alloc _ _).mono (by simp))⟩
      · go_enter Try.func22, Try.ntmps22
        go_wp2_with (
          go_at_call 30
          refine (rsame_any _ _ _).mono ?_
          rintro en w1 ⟨rfl, rfl⟩
          rw [HR.out])
        go_ret
        exact ⟨by simp, (below_alloc w _).trans ((below_alloc _ _).mono (by simp))⟩

set_option maxRecDepth 100000 in
set_option maxHeartbeats 1000000 in
theorem dsameEvent_any (e f : Ev) (w : World) : Calls Try.prog 23 #[e.first, f.first] w fun en w' => en = .returned (.bool (sameE e f)) ∧ Below w.heap.size w w' := by
  obtain ⟨r, hr⟩ : ∃ r, sameW e.value f.value = r := ⟨_, rfl⟩
  unfold sameE
  rw [hr]
  have HR := Lib.hid hr; clear hr
  rcases c0 : (e.id == f.id) with _ | _
  · go_enter Try.func23, Try.ntmps23
    go_wp2_with (
      go_at_call 31
      refine (dsame_any _ _ _).mono ?_
      rintro en w1 ⟨rfl, rfl⟩
      rw [HR.out])
    go_ret
    exact ⟨by simp, (below_alloc w _).trans ((below_alloc _ _).mono (by simp))⟩
  · rcases c1 : (e.ty.toList == f.ty.toList) with _ | _
    · go_enter Try.func23, Try.ntmps23
      go_wp2_with (
        go_at_call 31
        refine (dsame_any _ _ _).mono ?_
        rintro en w1 ⟨rfl, rfl⟩
        rw [HR.out])
      go_ret
      exact ⟨by simp, (below_alloc w _).trans ((below_alloc _ _).mono (by simp))⟩
    · rcases c2 : (e.data.toList == f.data.toList) with _ | _
      · go_enter Try.func23, Try.ntmps23
        go_wp2_with (
          go_at_call 31
          refine (dsame_any _ _ _).mono ?_
          rintro en w1 ⟨rfl, rfl⟩
          rw [HR.out])
        go_ret
        exact ⟨by simp, (below_alloc w _).trans ((below_alloc _ _).mono (by simp))⟩
      · go_enter Try.func23, Try.ntmps23
        go_wp2_with (
          go_at_call 31
          refine (dsame_any _ _ _).mono ?_
          rintro en w1 ⟨rfl, rfl⟩
          rw [HR.out])
        go_ret
        exact ⟨by simp, (below_alloc w _).trans ((below_alloc _ _).mono (by simp))⟩

theorem two_boxes {w w1 : World} (e f : Ev) (h : Below ((w.alloc (.cells e.cells 29)).alloc (.cells f.cells 29)).heap.size ((w.alloc (.cells e.cells 29)).alloc (.cells f.cells 29)) w1) :
    w1.heap[w.heap.size]? = some (.cells e.cells 29) ∧ w1.heap[w.heap.size + 1]? = some (.cells f.cells 29) ∧ Below w.heap.size w w1 := by
  refine ⟨(h.block _ (by simp; omega)).trans ((Below.heap_alloc _ _ _ (by simp)).trans (new_block _ _)), (h.block _ (by simp)).trans (new_block2 _ _ _), ?_⟩
  exact ((below_alloc w _).trans ((below_alloc _ _).mono (by simp))).trans (h.mono (by simp; omega))

set_option maxRecDepth 100000 in
set_option maxHeartbeats 1000000 in
theorem same_any (e f : Ev) (w : World) : Calls Try.prog 12 #[e.val, f.val] w fun en w' => en = .returned (.bool (sameS e f)) ∧ Below w.heap.size w w' := by
  unfold sameS
  rcases c0 : sameE e f with _ | _
  · go_enter Try.func12, Try.ntmps12
    go_wp2_with (
      go_at_call 22
      refine (sameEvent_any e f _).mono ?_
      rintro en w1 ⟨rfl, hb⟩
      rw [c0]
      obtain ⟨h1, h2, hb3⟩ := two_boxes e f hb
      clear hb
      have a4 := list_cells h1 4 _ rfl
      have a5 := list_cells h1 5 _ rfl
      have a6 := list_cells h1 6 _ rfl
      have a7 := list_cells h1 7 _ rfl
      have b4 := list_cells h2 4 _ rfl
      have b5 := list_cells h2 5 _ rfl
      have b6 := list_cells h2 6 _ rfl
      have b7 := list_cells h2 7 _ rfl
      clear h1 h2
      replace hb3 := Lib.hid hb3)
    go_ret
    exact ⟨by simp, hb3.out⟩
  · rcases c1 : (e.stream.toList == f.stream.toList) with _ | _
    · go_enter Try.func12, Try.ntmps12
      go_wp2_with (
        go_at_call 22
        refine (sameEvent_any e f _).mono ?_
        rintro en w1 ⟨rfl, hb⟩
        rw [c0]
        obtain ⟨h1, h2, hb3⟩ := two_boxes e f hb
        clear hb
        have a4 := list_cells h1 4 _ rfl
        have a5 := list_cells h1 5 _ rfl
        have a6 := list_cells h1 6 _ rfl
        have a7 := list_cells h1 7 _ rfl
        have b4 := list_cells h2 4 _ rfl
        have b5 := list_cells h2 5 _ rfl
        have b6 := list_cells h2 6 _ rfl
        have b7 := list_cells h2 7 _ rfl
        clear h1 h2
        replace hb3 := Lib.hid hb3)
      go_ret
      exact ⟨by simp, hb3.out⟩
    · rcases c2 : (e.version == f.version) with _ | _
      · go_enter Try.func12, Try.ntmps12
        go_wp2_with (
          go_at_call 22
          refine (sameEvent_any e f _).mono ?_
          rintro en w1 ⟨rfl, hb⟩
          rw [c0]
          obtain ⟨h1, h2, hb3⟩ := two_boxes e f hb
          clear hb
          have a4 := list_cells h1 4 _ rfl
          have a5 := list_cells h1 5 _ rfl
          have a6 := list_cells h1 6 _ rfl
          have a7 := list_cells h1 7 _ rfl
          have b4 := list_cells h2 4 _ rfl
          have b5 := list_cells h2 5 _ rfl
          have b6 := list_cells h2 6 _ rfl
          have b7 := list_cells h2 7 _ rfl
          clear h1 h2
          replace hb3 := Lib.hid hb3)
        go_ret
        exact ⟨by simp, hb3.out⟩
      · rcases c3 : (e.position == f.position) with _ | _
        · go_enter Try.func12, Try.ntmps12
          go_wp2_with (
            go_at_call 22
            refine (sameEvent_any e f _).mono ?_
            rintro en w1 ⟨rfl, hb⟩
            rw [c0]
            obtain ⟨h1, h2, hb3⟩ := two_boxes e f hb
            clear hb
            have a4 := list_cells h1 4 _ rfl
            have a5 := list_cells h1 5 _ rfl
            have a6 := list_cells h1 6 _ rfl
            have a7 := list_cells h1 7 _ rfl
            have b4 := list_cells h2 4 _ rfl
            have b5 := list_cells h2 5 _ rfl
            have b6 := list_cells h2 6 _ rfl
            have b7 := list_cells h2 7 _ rfl
            clear h1 h2
            replace hb3 := Lib.hid hb3)
          go_ret
          exact ⟨by simp, hb3.out⟩
        · go_enter Try.func12, Try.ntmps12
          go_wp2_with (
            go_at_call 22
            refine (sameEvent_any e f _).mono ?_
            rintro en w1 ⟨rfl, hb⟩
            rw [c0]
            obtain ⟨h1, h2, hb3⟩ := two_boxes e f hb
            clear hb
            have a4 := list_cells h1 4 _ rfl
            have a5 := list_cells h1 5 _ rfl
            have a6 := list_cells h1 6 _ rfl
            have a7 := list_cells h1 7 _ rfl
            have b4 := list_cells h2 4 _ rfl
            have b5 := list_cells h2 5 _ rfl
            have b6 := list_cells h2 6 _ rfl
            have b7 := list_cells h2 7 _ rfl
            clear h1 h2
            replace hb3 := Lib.hid hb3)
          go_ret
          exact ⟨by simp, hb3.out⟩

set_option maxRecDepth 100000 in
set_option maxHeartbeats 1000000 in
theorem dsameStored_any (e f : Ev) (w : World) : Calls Try.prog 13 #[e.val, f.val] w fun en w' => en = .returned (.bool (sameS e f)) ∧ Below w.heap.size w w' := by
  unfold sameS
  rcases c0 : sameE e f with _ | _
  · go_enter Try.func13, Try.ntmps13
    go_wp2_with (
      go_at_call 23
      refine (dsameEvent_any e f _).mono ?_
      rintro en w1 ⟨rfl, hb⟩
      rw [c0]
      obtain ⟨h1, h2, hb3⟩ := two_boxes e f hb
      clear hb
      have a4 := list_cells h1 4 _ rfl
      have a5 := list_cells h1 5 _ rfl
      have a6 := list_cells h1 6 _ rfl
      have a7 := list_cells h1 7 _ rfl
      have b4 := list_cells h2 4 _ rfl
      have b5 := list_cells h2 5 _ rfl
      have b6 := list_cells h2 6 _ rfl
      have b7 := list_cells h2 7 _ rfl
      clear h1 h2
      replace hb3 := Lib.hid hb3)
    go_ret
    exact ⟨by simp, hb3.out⟩
  · rcases c1 : (e.stream.toList == f.stream.toList) with _ | _
    · go_enter Try.func13, Try.ntmps13
      go_wp2_with (
        go_at_call 23
        refine (dsameEvent_any e f _).mono ?_
        rintro en w1 ⟨rfl, hb⟩
        rw [c0]
        obtain ⟨h1, h2, hb3⟩ := two_boxes e f hb
        clear hb
        have a4 := list_cells h1 4 _ rfl
        have a5 := list_cells h1 5 _ rfl
        have a6 := list_cells h1 6 _ rfl
        have a7 := list_cells h1 7 _ rfl
        have b4 := list_cells h2 4 _ rfl
        have b5 := list_cells h2 5 _ rfl
        have b6 := list_cells h2 6 _ rfl
        have b7 := list_cells h2 7 _ rfl
        clear h1 h2
        replace hb3 := Lib.hid hb3)
      go_ret
      exact ⟨by simp, hb3.out⟩
    · rcases c2 : (e.version == f.version) with _ | _
      · go_enter Try.func13, Try.ntmps13
        go_wp2_with (
          go_at_call 23
          refine (dsameEvent_any e f _).mono ?_
          rintro en w1 ⟨rfl, hb⟩
          rw [c0]
          obtain ⟨h1, h2, hb3⟩ := two_boxes e f hb
          clear hb
          have a4 := list_cells h1 4 _ rfl
          have a5 := list_cells h1 5 _ rfl
          have a6 := list_cells h1 6 _ rfl
          have a7 := list_cells h1 7 _ rfl
          have b4 := list_cells h2 4 _ rfl
          have b5 := list_cells h2 5 _ rfl
          have b6 := list_cells h2 6 _ rfl
          have b7 := list_cells h2 7 _ rfl
          clear h1 h2
          replace hb3 := Lib.hid hb3)
        go_ret
        exact ⟨by simp, hb3.out⟩
      · rcases c3 : (e.position == f.position) with _ | _
        · go_enter Try.func13, Try.ntmps13
          go_wp2_with (
            go_at_call 23
            refine (dsameEvent_any e f _).mono ?_
            rintro en w1 ⟨rfl, hb⟩
            rw [c0]
            obtain ⟨h1, h2, hb3⟩ := two_boxes e f hb
            clear hb
            have a4 := list_cells h1 4 _ rfl
            have a5 := list_cells h1 5 _ rfl
            have a6 := list_cells h1 6 _ rfl
            have a7 := list_cells h1 7 _ rfl
            have b4 := list_cells h2 4 _ rfl
            have b5 := list_cells h2 5 _ rfl
            have b6 := list_cells h2 6 _ rfl
            have b7 := list_cells h2 7 _ rfl
            clear h1 h2
            replace hb3 := Lib.hid hb3)
          go_ret
          exact ⟨by simp, hb3.out⟩
        · go_enter Try.func13, Try.ntmps13
          go_wp2_with (
            go_at_call 23
            refine (dsameEvent_any e f _).mono ?_
            rintro en w1 ⟨rfl, hb⟩
            rw [c0]
            obtain ⟨h1, h2, hb3⟩ := two_boxes e f hb
            clear hb
            have a4 := list_cells h1 4 _ rfl
            have a5 := list_cells h1 5 _ rfl
            have a6 := list_cells h1 6 _ rfl
            have a7 := list_cells h1 7 _ rfl
            have b4 := list_cells h2 4 _ rfl
            have b5 := list_cells h2 5 _ rfl
            have b6 := list_cells h2 6 _ rfl
            have b7 := list_cells h2 7 _ rfl
            clear h1 h2
            replace hb3 := Lib.hid hb3)
          go_ret
          exact ⟨by simp, hb3.out⟩

end Go.Proofs.Ytimmdcajadddmaa
