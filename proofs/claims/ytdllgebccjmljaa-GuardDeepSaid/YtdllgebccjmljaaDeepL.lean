/-
  GuardDeep holds: what panics deep within is told by the innermost one alone; what is around it goes on. Conditions: none.
-/
import Derived.Test.YtdllgebccjmljaaDeep
import Derived.OpenShut
namespace Go.Proofs.Ytdllgebccjmljaa
open Go.ChangeShapes Go.WideShapes Go.ChangeAt Go.RowKit
open Go.ChangeMaps (open_string shut_string)

theorem arrD_size (e k : Int) (s : ByteArray) : (arrD e k s).size = 120 := by simp [arrD]

theorem zeros_get : ∀ (m i : Nat), i < m → ∀ r : List Value,
    ((List.replicate m [Value.int .i64 0, Value.int .i64 0, Value.string ⟨#[]⟩]).flatten ++ r)[i * 3]? = some (.int .i64 0) ∧ ((List.replicate m [Value.int .i64 0, Value.int .i64 0, Value.string ⟨#[]⟩]).flatten ++ r)[i * 3 + 1]? = some (.int .i64 0) ∧
      ((List.replicate m [Value.int .i64 0, Value.int .i64 0, Value.string ⟨#[]⟩]).flatten ++ r)[i * 3 + 1 + 1]? = some (.string ⟨#[]⟩) := by
  intro m
  induction m with
  | zero => intro i hi; omega
  | succ m ih =>
    intro i hi r
    match i with
    | 0 => simp [List.replicate_succ]
    | i + 1 =>
      have := ih i (by omega) r
      have e : (i + 1) * 3 = i * 3 + 3 := by omega
      rw [e]
      simpa [List.replicate_succ] using this

theorem arrD_get (e k : Int) (s : ByteArray) (n : Nat) (h1 : 1 ≤ n) (h2 : n < 40) : (arrD e k s)[n * 3]? = some (.int .i64 0) ∧ (arrD e k s)[n * 3 + 1]? = some (.int .i64 0) ∧ (arrD e k s)[n * 3 + 1 + 1]? = some (.string ⟨#[]⟩) := by
  have := zeros_get 39 (n - 1) (by omega) []
  obtain ⟨m, rfl⟩ : ∃ m, n = m + 1 := ⟨n - 1, by omega⟩
  have e : (m + 1) * 3 = m * 3 + 3 := by omega
  rw [e]
  simp only [List.append_nil, Nat.add_sub_cancel] at this
  unfold arrD
  generalize (List.replicate 39 [Value.int .i64 0, Value.int .i64 0, Value.string ⟨#[]⟩]).flatten = l at this ⊢
  simpa using this

theorem set_self {arr : Array Value} {i : Nat} {v : Value} (h : arr[i]? = some v) : arr.setIfInBounds i v = arr := by
  apply Array.ext_getElem?
  intro j
  rw [Array.getElem?_setIfInBounds]
  split
  · rename_i hij
    subst hij
    split
    · exact h.symm
    · rename_i hlt
      rw [Array.getElem?_eq_none (by omega)] at h
      cases h
  · rfl

theorem arrD_setz (e k : Int) (s : ByteArray) (n : Nat) (h1 : 1 ≤ n) (h2 : n < 40) : set3 (arrD e k s) n (.int .i64 0) (.int .i64 0) (.string ⟨#[]⟩) = arrD e k s := by
  obtain ⟨a, b, c⟩ := arrD_get e k s n h1 h2
  rw [set3, set_self a, set_self b, set_self c]

theorem arrD_set0 (e k : Int) (s : ByteArray) : set3 (arrD 0 0 ⟨#[]⟩) 0 (.int .i64 e) (.int .i64 k) (.string s) = arrD e k s := by
  simp [set3, arrD]

theorem boxes_in {B : Nat} {d c : Int} {s : ByteArray} {A : Nat} {w : World} (h : Boxes B d c s A w) (f : Value) : Boxes B d c s A (inW f w) :=
  ⟨(inW_old _ _ _ (lt_of_block h.b0)).trans h.b0, (inW_old _ _ _ (lt_of_block h.b1)).trans h.b1, (inW_old _ _ _ (lt_of_block h.b2)).trans h.b2, (inW_old _ _ _ (lt_of_block h.b3)).trans h.b3, (inW_old _ _ _ (lt_of_block h.b4)).trans h.b4⟩

theorem ds_below {A n : Nat} {m : Int} {arr : Array Value} {w w' : World} (h : DS A n m arr w) (hb : Below w.heap.size w w') : DS A n m arr w' :=
  ⟨(hb.block _ (lt_of_block h.a)).trans h.a, (hb.block _ (lt_of_block h.t)).trans h.t, (hb.block _ (lt_of_block h.e)).trans h.e⟩

theorem deep_any (A : Nat) (c : Int) (s : ByteArray) : ∀ (d : Nat), d ≤ 30 → ∀ w : World, DS A 0 0 (arrD 0 0 ⟨#[]⟩) w →
    Calls Try.prog 22 #[.int .i64 d, .int .i64 c, .string s, .pointer (some ⟨A + 1, 0, none⟩), .pointer (some ⟨A + 2, 0, none⟩)] w fun e w' =>
      e = .returned (.tuple #[]) ∧ Off A 3 w w' ∧ DS A (d + 1) d (arrD (deepE c s).1 (deepE c s).2.1 (deepE c s).2.2) w' := by
  intro d
  induction d with
  | zero =>
    intro _ w hD
    have hA : A + 3 ≤ w.heap.size := lt_of_block hD.e
    rw [← arrD_set0]
    refine deep_walk 0 c s A 0 (by omega) 0 _ _ _ _ (arrD_size _ _ _) w hA (fun w5 hbx hb5 hs5 => ?_)
    have hI := boxes_in hbx (.func (.func 30) #[] #[.pointer (some ⟨w.heap.size, 0, none⟩), .pointer (some ⟨w.heap.size + 1, 0, none⟩), .pointer (some ⟨w.heap.size + 1 + 1, 0, none⟩), .pointer (some ⟨w.heap.size + 1 + 1 + 1, 0, none⟩), .pointer (some ⟨w.heap.size + 1 + 1 + 1 + 1, 0, none⟩)])
    have hDI := ds_below (ds_below hD hb5) (inW_below (.func (.func 30) #[] #[.pointer (some ⟨w.heap.size, 0, none⟩), .pointer (some ⟨w.heap.size + 1, 0, none⟩), .pointer (some ⟨w.heap.size + 1 + 1, 0, none⟩), .pointer (some ⟨w.heap.size + 1 + 1 + 1, 0, none⟩), .pointer (some ⟨w.heap.size + 1 + 1 + 1 + 1, 0, none⟩)]) w5)
    have hA5 : A + 3 ≤ w5.heap.size := by omega
    by_cases h1 : c = 1
    · subst h1
      refine do_ds_bad 30 _ w5 A 0 0 _ _ _ _ hA5 (fun _ => by kernel_rfl) ((deep0_must _ A s _ hI).mono ?_)
      rintro e w' ⟨h, hb⟩
      exact ⟨h, Off.of_below hb, ds_below hDI hb⟩
    by_cases h2 : c = 2
    · subst h2
      refine do_ds_bad 30 _ w5 A 0 0 _ _ _ _ hA5 (fun _ => by kernel_rfl) ((deep0_fail _ A s _ hI).mono ?_)
      rintro e w' ⟨h, hb⟩
      exact ⟨h, Off.of_below hb, ds_below hDI hb⟩
    by_cases h3 : c = 3
    · subst h3
      refine do_ds_bad 30 _ w5 A 0 0 _ _ _ _ hA5 (fun _ => by kernel_rfl) ((deep0_index _ A s _ 0 hI hDI.e).mono ?_)
      rintro e w' ⟨h, hb⟩
      exact ⟨h, Off.of_below hb, ds_below hDI hb⟩
    · have he : deepE c s = (0, 0, ⟨#[]⟩) := by simp [deepE, h1, h2, h3]
      rw [he]
      refine do_ds_ok 30 _ w5 A 0 0 _ hA5 (fun _ => by kernel_rfl) ((deep0_fine _ A c s _ (by omega) hI).mono ?_)
      rintro e w' ⟨rfl, rfl⟩
      exact ⟨rfl, Off.refl _ _ _, hDI⟩
  | succ d ih =>
    intro hd w hD
    have hA : A + 3 ≤ w.heap.size := lt_of_block hD.e
    have := deep_walk (d + 1 : Nat) c s A (d + 1) (by omega) (d + 1 : Nat) 0 0 ⟨#[]⟩ (arrD (deepE c s).1 (deepE c s).2.1 (deepE c s).2.2) (arrD_size _ _ _) w hA (fun w5 hbx hb5 hs5 => ?_)
    · rw [arrD_setz _ _ _ _ (by omega) (by omega)] at this
      exact this
    · have hI := boxes_in hbx (.func (.func 30) #[] #[.pointer (some ⟨w.heap.size, 0, none⟩), .pointer (some ⟨w.heap.size + 1, 0, none⟩), .pointer (some ⟨w.heap.size + 1 + 1, 0, none⟩), .pointer (some ⟨w.heap.size + 1 + 1 + 1, 0, none⟩), .pointer (some ⟨w.heap.size + 1 + 1 + 1 + 1, 0, none⟩)])
      have hDI := ds_below (ds_below hD hb5) (inW_below (.func (.func 30) #[] #[.pointer (some ⟨w.heap.size, 0, none⟩), .pointer (some ⟨w.heap.size + 1, 0, none⟩), .pointer (some ⟨w.heap.size + 1 + 1, 0, none⟩), .pointer (some ⟨w.heap.size + 1 + 1 + 1, 0, none⟩), .pointer (some ⟨w.heap.size + 1 + 1 + 1 + 1, 0, none⟩)]) w5)
      have hA5 : A + 3 ≤ w5.heap.size := by omega
      refine do_ds_ok 30 _ w5 A (d + 1) (d + 1 : Nat) _ hA5 (fun _ => by kernel_rfl) ?_
      exact deep_succ _ A c s _ d (by omega) d (by omega) (by omega) (d + 1) _ hI (by omega) (ih (by omega) _ hDI)

theorem arr_cells0 {A : Nat} {e k : Int} {s : ByteArray} {w : World} (h : w.heap[A]? = some (.cells (arrD e k s) 26)) : w.cell? ⟨A, 0, none⟩ = some (.int .i64 e) ∧ w.cell? ⟨A, 1, none⟩ = some (.int .i64 k) ∧ w.cell? ⟨A, 2, none⟩ = some (.string s) := by
  have : ∀ i, w.cell? ⟨A, i, none⟩ = (arrD e k s)[i]? := fun i => by simp [World.cell?, h]
  rw [this, this, this]
  simp [arrD]

theorem arr_cells1 {A : Nat} {e k : Int} {s : ByteArray} {w : World} (h : w.heap[A]? = some (.cells (arrD e k s) 26)) (n : Nat) (h1 : 1 ≤ n) (h2 : n < 40) :
    w.cell? ⟨A, n * 3, none⟩ = some (.int .i64 0) ∧ w.cell? ⟨A, n * 3 + 1, none⟩ = some (.int .i64 0) ∧ w.cell? ⟨A, n * 3 + 2, none⟩ = some (.string ⟨#[]⟩) := by
  have : ∀ i, w.cell? ⟨A, i, none⟩ = (arrD e k s)[i]? := fun i => by simp [World.cell?, h]
  rw [this, this, this]
  exact arrD_get e k s n h1 h2

theorem deepL_early (d kind : Int) (s : ByteArray) (hs : s.size ≤ maxLen) (W : World) (h : d < 0 ∨ 30 < d ∨ 300 < s.size) :
    Calls Try.prog 7 #[.int .i64 d, .int .i64 kind, .string s] W fun e w' => e = .returned (.bool true) ∧ Below W.heap.size W w' := by
  unfold maxLen at hs
  by_cases hd : d < 0
  · clear h
    go_enter Try.func7, Try.ntmps7
    go_wp2_with fail
    refine (alive_any _).mono ?_
    rintro e w1 ⟨rfl, hb⟩
    go_wp2
    go_ret
    exact ⟨rfl, hb⟩
  by_cases hd2 : 30 < d
  · clear h
    have hdd : decide (d < 0) = false := by simpa using hd
    go_enter Try.func7, Try.ntmps7
    go_wp2_with fail
    refine (alive_any _).mono ?_
    rintro e w1 ⟨rfl, hb⟩
    go_wp2
    go_ret
    exact ⟨rfl, hb⟩
  · have h3 : 300 < s.size := by omega
    clear h
    have hdd : decide (d < 0) = false := by simpa using hd
    have hdd2 : decide (30 < d) = false := by simpa using hd2
    go_enter Try.func7, Try.ntmps7
    go_wp2_with fail
    refine (alive_any _).mono ?_
    rintro e w1 ⟨rfl, hb⟩
    go_wp2
    go_ret
    exact ⟨rfl, hb⟩

set_option maxHeartbeats 1600000 in
theorem deepL_walk (d : Nat) (kind : Int) (s : ByteArray) (hd : d ≤ 30) (hs : s.size ≤ 300) (W : World) :
    Calls Try.prog 7 #[.int .i64 d, .int .i64 kind, .string s] W fun e w' => e = .returned (.bool true) ∧ Below W.heap.size W w' := by
  have hmk := make40
  have heq := eqlFault
  have hdd : decide ((d : Int) < 0) = false := by simp
  have hdd2 : decide (30 < (d : Int)) = false := by simp; omega
  have hdd3 : decide (300 < (s.size : Int)) = false := by simp; omega
  go_enter Try.func7, Try.ntmps7
  go_wp2_with fail
  refine (alive_any _).mono ?_
  rintro e w1 ⟨rfl, hb⟩
  go_wp2_with fail
  have hD0 : DS w1.heap.size 0 0 (arrD 0 0 ⟨#[]⟩) (((w1.alloc (.cells (arrD 0 0 ⟨#[]⟩) 26)).alloc (.cells #[.slice (some ⟨w1.heap.size, 0, none⟩) 0 40] 41)).alloc (.cells #[.int .i64 0] 3)) := by
    refine ⟨?_, ?_, ?_⟩
    all_goals
      show (((w1.heap.push _).push _).push _)[_]? = _
      simp only [Array.getElem?_push, Array.size_push]
    · rw [if_neg (by omega), if_neg (by omega), if_pos trivial]
    · rw [if_neg (by omega), if_pos trivial]
    · rw [if_pos trivial]
  have hb1 : Below W.heap.size W (((w1.alloc (.cells (arrD 0 0 ⟨#[]⟩) 26)).alloc (.cells #[.slice (some ⟨w1.heap.size, 0, none⟩) 0 40] 41)).alloc (.cells #[.int .i64 0] 3)) := by
    have := hb.size
    exact ((hb.alloc this _).alloc (by simp; omega) _).alloc (by simp; omega) _
  refine (deep_any w1.heap.size (bits BinOp.and IntKind.i64 kind 3) s d hd _ hD0).mono ?_
  rintro e w2 ⟨rfl, O, D⟩
  have hb2 : Below W.heap.size W w2 := hb1.trans ⟨O.os, O.tape, O.output, O.size, fun k hk => O.block k (by have := hb1.size; omega) (Or.inl (by have := hb.size; omega))⟩
  clear O hb hb1 hD0 hmk hdd hdd2 hdd3
  have hcase : ((bits BinOp.and IntKind.i64 kind 3 == 1) = true ∧ deepE (bits BinOp.and IntKind.i64 kind 3) s = (20, 2, ⟨#[]⟩)) ∨ ((bits BinOp.and IntKind.i64 kind 3 == 1) = false ∧ (bits BinOp.and IntKind.i64 kind 3 == 2) = true ∧ deepE (bits BinOp.and IntKind.i64 kind 3) s = (21, 3, s)) ∨
      ((bits BinOp.and IntKind.i64 kind 3 == 1) = false ∧ (bits BinOp.and IntKind.i64 kind 3 == 2) = false ∧ (bits BinOp.and IntKind.i64 kind 3 == 3) = true ∧ deepE (bits BinOp.and IntKind.i64 kind 3) s = (21, 1, ⟨#[]⟩)) ∨
      ((bits BinOp.and IntKind.i64 kind 3 == 1) = false ∧ (bits BinOp.and IntKind.i64 kind 3 == 2) = false ∧ (bits BinOp.and IntKind.i64 kind 3 == 3) = false ∧ deepE (bits BinOp.and IntKind.i64 kind 3) s = (0, 0, ⟨#[]⟩)) := by
    generalize bits BinOp.and IntKind.i64 kind 3 = c
    by_cases h1 : c = 1
    · subst h1; simp [deepE]
    by_cases h2 : c = 2
    · subst h2; simp [deepE]
    by_cases h3 : c = 3
    · subst h3; simp [deepE]
    · simp [deepE, h1, h2, h3]
  have hz0 := lt_of_block D.a
  have hz1 := lt_of_block D.t
  have hz2 : w1.heap.size + 1 + 1 < w2.heap.size := lt_of_block D.e
  rcases hcase with ⟨c1, hE⟩ | ⟨c1, c2, hE⟩ | ⟨c1, c2, c3, hE⟩ | ⟨c1, c2, c3, hE⟩
  · rw [hE] at D
    obtain ⟨g1, -⟩ := cell_of_block1 D.t
    obtain ⟨g2, -⟩ := cell_of_block1 D.e
    have HT := Lib.hid D.a
    clear hE D
    go_wp2_with fail
    have hF := new_block w2 (.cells #[.int .i64 20, .int .i64 2, .string ⟨#[]⟩] 26)
    have hA := (Below.heap_alloc w2 (.cells #[.int .i64 20, .int .i64 2, .string ⟨#[]⟩] 26) _ hz0).trans HT.out
    have hb3 := hb2.alloc hb2.size (.cells #[.int .i64 20, .int .i64 2, .string ⟨#[]⟩] 26)
    have g3 := (World.cell?_alloc_lt w2 (.cells #[.int .i64 20, .int .i64 2, .string ⟨#[]⟩] 26) ⟨w1.heap.size + 1, 0, none⟩ hz1).trans g1
    clear g1 g2 HT
    revert hF hA hb3 g3
    generalize w2.alloc (.cells #[.int .i64 20, .int .i64 2, .string ⟨#[]⟩] 26) = w3
    intro hF hA hb3 g3
    obtain ⟨q1, q2, q3, -, -, -⟩ := cells_of_fault hF
    obtain ⟨t0, t1, t2⟩ := arr_cells0 hA
    have TZ := Lib.hid (arr_cells1 hA)
    have HB := Lib.hid hb3
    clear hF hA hb3 hb2
    go_loopg [10] (d + 1) (fun g i wr => ∃ k n : Nat, g = d + 1 - k ∧ k ≤ d + 1 ∧ i = .int .i64 k ∧ wr = w3.drewN n)
    case atStart => exact ⟨0, 0, by omega, by omega, rfl, rfl⟩
    case round =>
      obtain ⟨k, n, hg, hle, rfl, rfl⟩ := hrel
      have HG := Lib.hid hg; clear hg
      by_cases hk : k < d + 1
      · by_cases hk0 : k = 0
        · subst hk0
          rw [Int.natCast_zero]
          go_wp2_with fail
          go_quiet (fail)
          go_wp2
          go_roundg d
          case measure => rw [HG.out]; omega
          case rel => exact ⟨1, _, by omega, by omega, rfl, rfl⟩
        · obtain ⟨r0, r1, r2⟩ := TZ.out k (by omega) (by omega)
          have hk1 : ((k : Int) == 0) = false := by simp; omega
          have hk2 : decide (0 < k) = true := by simp; omega
          go_wp2_with fail
          go_quiet (fail)
          go_wp2
          go_roundg (d - k)
          case measure => rw [HG.out]; omega
          case rel => exact ⟨k + 1, _, by omega, by omega, by go_num, rfl⟩
      · go_wp2
        go_ret
        exact ⟨rfl, below_drewN HB.out _⟩
  · rw [hE] at D
    obtain ⟨g1, -⟩ := cell_of_block1 D.t
    obtain ⟨g2, -⟩ := cell_of_block1 D.e
    have HT := Lib.hid D.a
    clear hE D
    go_wp2_with fail
    have hF := new_block w2 (.cells #[.int .i64 21, .int .i64 3, .string s] 26)
    have hA := (Below.heap_alloc w2 (.cells #[.int .i64 21, .int .i64 3, .string s] 26) _ hz0).trans HT.out
    have hb3 := hb2.alloc hb2.size (.cells #[.int .i64 21, .int .i64 3, .string s] 26)
    have g3 := (World.cell?_alloc_lt w2 (.cells #[.int .i64 21, .int .i64 3, .string s] 26) ⟨w1.heap.size + 1, 0, none⟩ hz1).trans g1
    clear g1 g2 HT
    revert hF hA hb3 g3
    generalize w2.alloc (.cells #[.int .i64 21, .int .i64 3, .string s] 26) = w3
    intro hF hA hb3 g3
    obtain ⟨q1, q2, q3, -, -, -⟩ := cells_of_fault hF
    obtain ⟨t0, t1, t2⟩ := arr_cells0 hA
    have TZ := Lib.hid (arr_cells1 hA)
    have HB := Lib.hid hb3
    clear hF hA hb3 hb2
    go_loopg [10] (d + 1) (fun g i wr => ∃ k n : Nat, g = d + 1 - k ∧ k ≤ d + 1 ∧ i = .int .i64 k ∧ wr = w3.drewN n)
    case atStart => exact ⟨0, 0, by omega, by omega, rfl, rfl⟩
    case round =>
      obtain ⟨k, n, hg, hle, rfl, rfl⟩ := hrel
      have HG := Lib.hid hg; clear hg
      by_cases hk : k < d + 1
      · by_cases hk0 : k = 0
        · subst hk0
          rw [Int.natCast_zero]
          go_wp2_with fail
          go_quiet (fail)
          go_wp2
          go_roundg d
          case measure => rw [HG.out]; omega
          case rel => exact ⟨1, _, by omega, by omega, rfl, rfl⟩
        · obtain ⟨r0, r1, r2⟩ := TZ.out k (by omega) (by omega)
          have hk1 : ((k : Int) == 0) = false := by simp; omega
          have hk2 : decide (0 < k) = true := by simp; omega
          go_wp2_with fail
          go_quiet (fail)
          go_wp2
          go_roundg (d - k)
          case measure => rw [HG.out]; omega
          case rel => exact ⟨k + 1, _, by omega, by omega, by go_num, rfl⟩
      · go_wp2
        go_ret
        exact ⟨rfl, below_drewN HB.out _⟩
  · rw [hE] at D
    obtain ⟨g1, -⟩ := cell_of_block1 D.t
    obtain ⟨g2, -⟩ := cell_of_block1 D.e
    have HT := Lib.hid D.a
    clear hE D
    go_wp2_with fail
    have hF := new_block w2 (.cells #[.int .i64 21, .int .i64 1, .string ⟨#[]⟩] 26)
    have hA := (Below.heap_alloc w2 (.cells #[.int .i64 21, .int .i64 1, .string ⟨#[]⟩] 26) _ hz0).trans HT.out
    have hb3 := hb2.alloc hb2.size (.cells #[.int .i64 21, .int .i64 1, .string ⟨#[]⟩] 26)
    have g3 := (World.cell?_alloc_lt w2 (.cells #[.int .i64 21, .int .i64 1, .string ⟨#[]⟩] 26) ⟨w1.heap.size + 1, 0, none⟩ hz1).trans g1
    clear g1 g2 HT
    revert hF hA hb3 g3
    generalize w2.alloc (.cells #[.int .i64 21, .int .i64 1, .string ⟨#[]⟩] 26) = w3
    intro hF hA hb3 g3
    obtain ⟨q1, q2, q3, -, -, -⟩ := cells_of_fault hF
    obtain ⟨t0, t1, t2⟩ := arr_cells0 hA
    have TZ := Lib.hid (arr_cells1 hA)
    have HB := Lib.hid hb3
    clear hF hA hb3 hb2
    go_loopg [10] (d + 1) (fun g i wr => ∃ k n : Nat, g = d + 1 - k ∧ k ≤ d + 1 ∧ i = .int .i64 k ∧ wr = w3.drewN n)
    case atStart => exact ⟨0, 0, by omega, by omega, rfl, rfl⟩
    case round =>
      obtain ⟨k, n, hg, hle, rfl, rfl⟩ := hrel
      have HG := Lib.hid hg; clear hg
      by_cases hk : k < d + 1
      · by_cases hk0 : k = 0
        · subst hk0
          rw [Int.natCast_zero]
          go_wp2_with fail
          go_quiet (fail)
          go_wp2
          go_roundg d
          case measure => rw [HG.out]; omega
          case rel => exact ⟨1, _, by omega, by omega, rfl, rfl⟩
        · obtain ⟨r0, r1, r2⟩ := TZ.out k (by omega) (by omega)
          have hk1 : ((k : Int) == 0) = false := by simp; omega
          have hk2 : decide (0 < k) = true := by simp; omega
          go_wp2_with fail
          go_quiet (fail)
          go_wp2
          go_roundg (d - k)
          case measure => rw [HG.out]; omega
          case rel => exact ⟨k + 1, _, by omega, by omega, by go_num, rfl⟩
      · go_wp2
        go_ret
        exact ⟨rfl, below_drewN HB.out _⟩
  · rw [hE] at D
    obtain ⟨g1, -⟩ := cell_of_block1 D.t
    obtain ⟨g2, -⟩ := cell_of_block1 D.e
    have HT := Lib.hid D.a
    clear hE D
    go_wp2_with fail
    have hF := new_block w2 (.cells #[.int .i64 0, .int .i64 0, .string ⟨#[]⟩] 26)
    have hA := (Below.heap_alloc w2 (.cells #[.int .i64 0, .int .i64 0, .string ⟨#[]⟩] 26) _ hz0).trans HT.out
    have hb3 := hb2.alloc hb2.size (.cells #[.int .i64 0, .int .i64 0, .string ⟨#[]⟩] 26)
    have g3 := (World.cell?_alloc_lt w2 (.cells #[.int .i64 0, .int .i64 0, .string ⟨#[]⟩] 26) ⟨w1.heap.size + 1, 0, none⟩ hz1).trans g1
    clear g1 g2 HT
    revert hF hA hb3 g3
    generalize w2.alloc (.cells #[.int .i64 0, .int .i64 0, .string ⟨#[]⟩] 26) = w3
    intro hF hA hb3 g3
    obtain ⟨q1, q2, q3, -, -, -⟩ := cells_of_fault hF
    obtain ⟨t0, t1, t2⟩ := arr_cells0 hA
    have TZ := Lib.hid (arr_cells1 hA)
    have HB := Lib.hid hb3
    clear hF hA hb3 hb2
    go_loopg [10] (d + 1) (fun g i wr => ∃ k n : Nat, g = d + 1 - k ∧ k ≤ d + 1 ∧ i = .int .i64 k ∧ wr = w3.drewN n)
    case atStart => exact ⟨0, 0, by omega, by omega, rfl, rfl⟩
    case round =>
      obtain ⟨k, n, hg, hle, rfl, rfl⟩ := hrel
      have HG := Lib.hid hg; clear hg
      by_cases hk : k < d + 1
      · by_cases hk0 : k = 0
        · subst hk0
          rw [Int.natCast_zero]
          go_wp2_with fail
          go_quiet (fail)
          go_wp2
          go_roundg d
          case measure => rw [HG.out]; omega
          case rel => exact ⟨1, _, by omega, by omega, rfl, rfl⟩
        · obtain ⟨r0, r1, r2⟩ := TZ.out k (by omega) (by omega)
          have hk1 : ((k : Int) == 0) = false := by simp; omega
          have hk2 : decide (0 < k) = true := by simp; omega
          go_wp2_with fail
          go_quiet (fail)
          go_wp2
          go_roundg (d - k)
          case measure => rw [HG.out]; omega
          case rel => exact ⟨k + 1, _, by omega, by omega, by go_num, rfl⟩
      · go_wp2
        go_ret
        exact ⟨rfl, below_drewN HB.out _⟩

theorem deepL (d : Int) (_ : (Lit.int .i64 d).wf = true) (kind : Int) (_ : (Lit.int .i64 kind).wf = true) (s : ByteArray) (hs : s.size ≤ maxLen) (W : World) :
    Calls Try.prog 7 #[.int .i64 d, .int .i64 kind, .string s] W fun e w' => e = .returned (.bool true) ∧ Below W.heap.size W w' := by
  by_cases h : d < 0 ∨ 30 < d ∨ 300 < s.size
  · exact deepL_early d kind s hs W h
  · obtain ⟨n, rfl⟩ := Int.eq_ofNat_of_zero_le (show 0 ≤ d by omega)
    exact deepL_walk n kind s (by omega) (by omega) W

set_option maxRecDepth 100000 in
theorem guardDeep_lifted (os : Os) (started : os.Started) (H : Type) (enc : TypeId × Value → H) :
    ReturnsInHanded {} Try.checked os 7 .any (Rows.guardDeepSpec.pre6 enc Try.prog Try.f7 Rows.guardDeepRow.domain false) (Rows.guardDeepSpec.post enc Try.prog Try.f7 false true false false) := by
  refine returnsInHanded_of_change (C := Try.checked) own started (by kernel_rfl) Try.func7
    (ChangeSpec.witness6 (enc := enc) (C := Try.checked) false ⟨#[], #[.int .i64 0, .int .i64 0, .string ByteArray.empty], []⟩ 8 (by kernel_rfl) (by kernel_rfl) (by kernel_rfl) (by kernel_rfl)) ?_
  intro W base args ds gs before hval0 hW hcnd _
  have hval : ∀ (j : Nat) t v, Try.f7.params[j]? = some t → args[j]? = some v → Value.okWide Try.prog W .any base t v := hval0
  have hW' := hW
  obtain ⟨p, q, hA0, hV, rfl, hfz, hnd⟩ := hW
  have hA : DataW.TrodAll enc Try.prog W 0 (fun _ => true) true Try.f7.params.toList args.toList ds p := hA0
  rw [Try.params7] at hA hval
  obtain ⟨v0, vs0, d0, ds0, p0, q0, hargs, rfl, rfl, h0, r0⟩ := trodAll_cons hA
  obtain ⟨v1, vs1, d1, ds1, p1, q1, rfl, rfl, rfl, h1, r1⟩ := trodAll_cons r0
  obtain ⟨v2, vs2, d2, ds2, p2, q2, rfl, rfl, rfl, h2, r2⟩ := trodAll_cons r1
  obtain ⟨rfl, rfl, rfl⟩ := trodAll_nil r2
  obtain rfl : args = #[v0, v1, v2] := by cases args; simp_all
  obtain ⟨rfl, rfl⟩ := trodVars_none hV
  have hlt : ∀ x ∈ (p0 ++ (p1 ++ (p2 ++ []))), x.block < W.heap.size := fun x hx => by simpa using hW'.lt x (by simpa using hx)
  obtain ⟨x0, rfl, rfl, rfl, wx0⟩ := open_int Try.underlying3 (hval 0 3 v0 rfl rfl) h0
  obtain ⟨x1, rfl, rfl, rfl, wx1⟩ := open_int Try.underlying3 (hval 1 3 v1 rfl rfl) h1
  obtain ⟨x2, rfl, rfl, rfl, wx2⟩ := open_string Try.underlying9 (hval 2 9 v2 rfl rfl) h2
  refine Calls.mono (R := fun e w' => e = .returned (.bool true) ∧ Below W.heap.size W w') ?_ fun e W' ⟨he, hb⟩ => ?_
  · exact deepL x0 wx0 x1 wx1 x2 wx2 W
  subst he
  exact ⟨_, rfl, law_post (T := 4) laidOut (by kernel_rfl) rfl Try.underlying4 rfl hW' hb rfl rfl rfl⟩

theorem guardDeep_holds : Rows.GuardDeepSaid :=
  OpenClaim.holds_of_wide 7 Try.f7 rfl rfl rfl rfl rfl rfl rfl ⟨rfl, rfl, rfl, rfl, rfl⟩ rfl rfl rfl rfl rfl (by kernel_rfl) Try.func7 (by kernel_rfl)
    (of_decide_eq_true (by kernel_rfl)) (by unfold Func.isWrapper; first | (rw [if_pos (by decide +kernel)]; kernel_rfl) | (rw [if_neg (by decide +kernel)]; exact ⟨rfl, rfl⟩))
    (fun os started H enc _ => guardDeep_lifted os started H enc)
#print axioms guardDeep_holds


end Go.Proofs.Ytdllgebccjmljaa
