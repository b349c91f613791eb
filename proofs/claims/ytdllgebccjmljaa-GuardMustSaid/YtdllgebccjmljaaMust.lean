/-
  GuardMust holds: Must of no error goes on, of an error it panics with just that one. Conditions: none.
-/
import Derived.Test.YtdllgebccjmljaaD
import Derived.Test.YtdllgebccjmljaaK
import Derived.OpenShut
namespace Go.Proofs.Ytdllgebccjmljaa
open Go.ChangeShapes Go.WideShapes Go.ChangeAt Go.RowKit
open Go.ChangeMaps (open_string shut_string)

theorem must1_no (E N : Nat) (x : Int) (w : World) (hE : w.heap[E]? = some (.cells #[.int .i64 0] 3)) (hN : w.heap[N]? = some (.cells #[.int .i64 x] 3)) :
    Calls Try.prog 19 #[.pointer (some ⟨E, 0, none⟩), .pointer (some ⟨N, 0, none⟩)] w fun e w' => e = .returned (.tuple #[]) ∧ Off N 1 w w' ∧ ∃ o, w'.heap[N]? = some o ∧ o = .cells #[.int .i64 1] 3 := by
  obtain ⟨f1, f2⟩ := cell_of_block1 hE
  obtain ⟨f3, f4⟩ := cell_of_block1 hN
  go_enter Try.func19, Try.ntmps19
  go_wp2_with fail
  refine (must_no _).mono ?_
  rintro e w' ⟨rfl, rfl⟩
  go_wp2
  go_end0
  exact ⟨rfl, (Off.refl _ _ _).setCell (p := ⟨N, 0, none⟩) (Nat.le_refl _) (by simp) _, _, heap_setCell_same hN _, rfl⟩

theorem must1_yes (E N : Nat) (x y : Int) (w : World) (hy : (y != 0) = true) (hE : w.heap[E]? = some (.cells #[.int .i64 y] 3)) (hN : w.heap[N]? = some (.cells #[.int .i64 x] 3)) :
    Calls Try.prog 19 #[.pointer (some ⟨E, 0, none⟩), .pointer (some ⟨N, 0, none⟩)] w fun e w' => (∃ t pv, e = .panicked [{ v := .iface t pv, recovered := false }] ∧ ToldBy t pv y 2 ⟨#[]⟩) ∧ Off N 1 w w' ∧ ∃ o, w'.heap[N]? = some o ∧ o = .cells #[.int .i64 x] 3 := by
  obtain ⟨f1, f2⟩ := cell_of_block1 hE
  obtain ⟨f3, f4⟩ := cell_of_block1 hN
  go_enter Try.func19, Try.ntmps19
  go_wp2_with fail
  refine (must_yes y hy _).mono ?_
  rintro e w' ⟨rfl, rfl⟩
  go_wp2
  exact ⟨rfl, ⟨_, _, rfl, told_num y hy⟩, Off.refl _ _ _, _, hN, rfl⟩

theorem must2 (S N : Nat) (x : Int) (s : ByteArray) (w : World) (hS : w.heap[S]? = some (.cells #[.string s] 9)) (hN : w.heap[N]? = some (.cells #[.int .i64 x] 3)) :
    Calls Try.prog 20 #[.pointer (some ⟨S, 0, none⟩), .pointer (some ⟨N, 0, none⟩)] w fun e w' => (∃ t pv, e = .panicked [{ v := .iface t pv, recovered := false }] ∧ ToldBy t pv 21 3 s) ∧ Off N 1 w w' ∧ ∃ o, w'.heap[N]? = some o ∧ o = .cells #[.int .i64 x] 3 := by
  obtain ⟨f1, f2⟩ := cell_of_block1 hS
  obtain ⟨f3, f4⟩ := cell_of_block1 hN
  go_enter Try.func20, Try.ntmps20
  go_wp2_with fail
  refine (fail_any s _).mono ?_
  rintro e w' ⟨rfl, rfl⟩
  go_wp2
  exact ⟨rfl, ⟨_, _, rfl, told_text s⟩, Off.refl _ _ _, _, hN, rfl⟩

theorem mustL_long (y : Int) (s : ByteArray) (hs : s.size ≤ maxLen) (h : 300 < s.size) (W : World) :
    Calls Try.prog 6 #[.int .i64 y, .string s] W fun e w' => e = .returned (.bool true) ∧ Below W.heap.size W w' := by
  unfold maxLen at hs
  go_enter Try.func6, Try.ntmps6
  go_wp2_with fail
  refine (alive_any _).mono ?_
  rintro e w1 ⟨rfl, hb⟩
  go_wp2
  go_ret
  exact ⟨rfl, ((Below.alloc1 W _).alloc (by simp) _).trans (hb.mono (by simp; omega))⟩

set_option maxHeartbeats 400000 in
theorem mustL_walk (y : Int) (s : ByteArray) (h : s.size ≤ 300) (W : World) :
    Calls Try.prog 6 #[.int .i64 y, .string s] W fun e w' => e = .returned (.bool true) ∧ Below W.heap.size W w' := by
  have hmf : ∀ (fn : Fn) (first cap : Array Value) (w : World), (Instr.makeFunc fn first cap).run Try.prog w = .ok (.func fn first cap) w := fun _ _ _ _ => rfl
  have heq := eqlFault
  have hd : decide ((300 : Int) < (s.size : Int)) = false := by simp; omega
  go_enter Try.func6, Try.ntmps6
  go_wp2_with fail
  refine (alive_any _).mono ?_
  rintro e w1 ⟨rfl, hb⟩
  have hE : w1.heap[W.heap.size]? = some (.cells #[.int .i64 y] 3) := by rw [hb.block _ (by simp; omega), Below.heap_alloc _ _ _ (by simp)]; exact new_block _ _
  have hS : w1.heap[W.heap.size + 1]? = some (.cells #[.string s] 9) := by rw [hb.block _ (by simp)]; exact new_block2 _ _ _
  have hb1 : Below W.heap.size W w1 := ((Below.alloc1 W _).alloc (by simp) _).trans (hb.mono (by simp; omega))
  have hz := lt_of_block hS
  clear hb
  go_wp2_with fail
  have hW : ∀ f j o, w1.heap[j]? = some o → (inW f (w1.alloc (.cells #[.int .i64 0] 3))).heap[j]? = some o := fun f j o hj => by
    have := lt_of_block hj
    rw [inW_old _ _ _ (by simp; omega), Below.heap_alloc _ _ _ this]; exact hj
  have hN : ∀ f, (inW f (w1.alloc (.cells #[.int .i64 0] 3))).heap[w1.heap.size]? = some (.cells #[.int .i64 0] 3) := fun f => by
    rw [inW_old _ _ _ (by simp)]; exact new_block _ _
  obtain ⟨fe, fk, nv, hcase, H⟩ : ∃ fe fk nv : Int, ((y = 0 ∧ fe = 0 ∧ fk = 0 ∧ nv = 1) ∨ ((y != 0) = true ∧ fe = y ∧ fk = 2 ∧ nv = 0)) ∧
      Calls Try.prog 14 #[.func (.func 19) #[] #[.pointer (some ⟨W.heap.size, 0, none⟩), .pointer (some ⟨w1.heap.size, 0, none⟩)]] (w1.alloc (.cells #[.int .i64 0] 3)) fun e w' =>
        e = .returned (fault fe fk ⟨#[]⟩) ∧ Off w1.heap.size 1 (w1.alloc (.cells #[.int .i64 0] 3)) w' ∧ ∃ o, w'.heap[w1.heap.size]? = some o ∧ o = .cells #[.int .i64 nv] 3 := by
    by_cases hy : y = 0
    · subst hy
      exact ⟨0, 0, 1, Or.inl ⟨rfl, rfl, rfl, rfl⟩, do_off_ok 19 _ _ _ _ (by simp) (fun _ => by kernel_rfl) (must1_no _ _ 0 _ (hW _ _ _ hE) (hN _))⟩
    · have hy' : (y != 0) = true := by simpa using hy
      exact ⟨y, 2, 0, Or.inr ⟨hy', rfl, rfl, rfl⟩, do_off_bad 19 _ _ _ _ _ _ _ (by simp) (fun _ => by kernel_rfl) (must1_yes _ _ 0 y _ hy' (hW _ _ _ hE) (hN _))⟩
  refine H.mono ?_
  rintro e w2 ⟨rfl, O, o, hN2, rfl⟩
  have hE2 := O.same ((Below.heap_alloc w1 _ _ (by omega)).trans hE) (Or.inl (by omega))
  have hS2 := O.same ((Below.heap_alloc w1 _ _ (by omega)).trans hS) (Or.inl (by omega))
  have hb2 : Below W.heap.size W w2 := (hb1.alloc (by omega) _).trans ((O.below (by simp)).mono (by omega))
  have hz2 := lt_of_block hN2
  clear H O hW hN hE hS hb1
  unfold fault
  have F1 := (cell_of_block1 hN2).1
  have F2 := (cell_of_block1 hE2).1
  have F3 := (cell_of_block1 hS2).1
  have HC := Lib.hid hcase; clear hcase
  go_wp2_with fail
  have hW : ∀ f j o, w2.heap[j]? = some o → (inW f (w2.alloc (.cells #[.int .i64 fe, .int .i64 fk, .string ⟨#[]⟩] 26))).heap[j]? = some o := fun f j o hj => by
    have := lt_of_block hj
    rw [inW_old _ _ _ (by simp; omega), Below.heap_alloc _ _ _ this]; exact hj
  refine (do_off_bad 20 _ _ w1.heap.size _ 21 3 s (by simp; omega) (fun _ => by kernel_rfl) (must2 (W.heap.size + 1) w1.heap.size nv s _ (hW _ _ _ hS2) (hW _ _ _ hN2))).mono ?_
  rintro e w3 ⟨rfl, O, o, hN3, rfl⟩
  have hE3 := O.same ((Below.heap_alloc w2 _ _ (by omega)).trans hE2) (Or.inl (by omega))
  have hS3 := O.same ((Below.heap_alloc w2 _ _ (by omega)).trans hS2) (Or.inl (by omega))
  have hA3 := O.same (new_block w2 _) (Or.inr (by omega))
  have hb3 : Below W.heap.size W w3 := (hb2.alloc (by omega) _).trans ((O.below (by simp; omega)).mono (by omega))
  have hz3 := lt_of_block hA3
  clear O hW hN2 hE2 hS2 hb2 F1 F2 F3
  have F1 := (cell_of_block1 hN3).1
  have F2 := (cell_of_block1 hE3).1
  have F3 := (cell_of_block1 hS3).1
  obtain ⟨F4, F5, F6, -, -, -⟩ := cells_of_fault hA3
  have l1 : w1.heap.size < w3.heap.size := by omega
  have l2 : W.heap.size < w3.heap.size := by omega
  have l3 : W.heap.size + 1 < w3.heap.size := by omega
  clear hN3 hE3 hS3 hA3
  unfold fault
  rcases HC.out with ⟨rfl, rfl, rfl, rfl⟩ | ⟨hy, rfl, rfl, rfl⟩
  · clear HC
    go_wp2
    go_ret
    exact ⟨by simp, hb3.alloc (by omega) _⟩
  · clear HC
    have hy2 : (fe == 0) = false := by simpa using hy
    go_wp2
    go_ret
    exact ⟨by simp, hb3.alloc (by omega) _⟩

theorem mustL (y : Int) (_ : (Lit.int .i64 y).wf = true) (s : ByteArray) (hs : s.size ≤ maxLen) (W : World) :
    Calls Try.prog 6 #[.int .i64 y, .string s] W fun e w' => e = .returned (.bool true) ∧ Below W.heap.size W w' := by
  by_cases h : 300 < s.size
  · exact mustL_long y s hs h W
  · exact mustL_walk y s (by omega) W

set_option maxRecDepth 100000 in
theorem guardMust_lifted (os : Os) (started : os.Started) (H : Type) (enc : TypeId × Value → H) :
    ReturnsInHanded {} Try.checked os 6 .any (Rows.guardMustSpec.pre6 enc Try.prog Try.f6 Rows.guardMustRow.domain false) (Rows.guardMustSpec.post enc Try.prog Try.f6 false true false false) := by
  refine returnsInHanded_of_change (C := Try.checked) own started (by kernel_rfl) Try.func6
    (ChangeSpec.witness6 (enc := enc) (C := Try.checked) false ⟨#[], #[.int .i64 0, .string ByteArray.empty], []⟩ 8 (by kernel_rfl) (by kernel_rfl) (by kernel_rfl) (by kernel_rfl)) ?_
  intro W base args ds gs before hval0 hW hcnd _
  have hval : ∀ (j : Nat) t v, Try.f6.params[j]? = some t → args[j]? = some v → Value.okWide Try.prog W .any base t v := hval0
  have hW' := hW
  obtain ⟨p, q, hA0, hV, rfl, hfz, hnd⟩ := hW
  have hA : DataW.TrodAll enc Try.prog W 0 (fun _ => true) true Try.f6.params.toList args.toList ds p := hA0
  rw [Try.params6] at hA hval
  obtain ⟨v0, vs0, d0, ds0, p0, q0, hargs, rfl, rfl, h0, r0⟩ := trodAll_cons hA
  obtain ⟨v1, vs1, d1, ds1, p1, q1, rfl, rfl, rfl, h1, r1⟩ := trodAll_cons r0
  obtain ⟨rfl, rfl, rfl⟩ := trodAll_nil r1
  obtain rfl : args = #[v0, v1] := by cases args; simp_all
  obtain ⟨rfl, rfl⟩ := trodVars_none hV
  have hlt : ∀ x ∈ (p0 ++ (p1 ++ [])), x.block < W.heap.size := fun x hx => by simpa using hW'.lt x (by simpa using hx)
  obtain ⟨x0, rfl, rfl, rfl, wx0⟩ := open_int Try.underlying3 (hval 0 3 v0 rfl rfl) h0
  obtain ⟨x1, rfl, rfl, rfl, wx1⟩ := open_string Try.underlying9 (hval 1 9 v1 rfl rfl) h1
  refine Calls.mono (R := fun e w' => e = .returned (.bool true) ∧ Below W.heap.size W w') ?_ fun e W' ⟨he, hb⟩ => ?_
  · exact mustL x0 wx0 x1 wx1 W
  subst he
  exact ⟨_, rfl, law_post (T := 4) laidOut (by kernel_rfl) rfl Try.underlying4 rfl hW' hb rfl rfl rfl⟩

theorem guardMust_holds : Rows.GuardMustSaid :=
  OpenClaim.holds_of_wide 6 Try.f6 rfl rfl rfl rfl rfl rfl rfl ⟨rfl, rfl, rfl, rfl, rfl⟩ rfl rfl rfl rfl rfl (by kernel_rfl) Try.func6 (by kernel_rfl)
    (of_decide_eq_true (by kernel_rfl)) (by unfold Func.isWrapper; first | (rw [if_pos (by decide +kernel)]; kernel_rfl) | (rw [if_neg (by decide +kernel)]; exact ⟨rfl, rfl⟩))
    (fun os started H enc _ => guardMust_lifted os started H enc)
#print axioms guardMust_holds


end Go.Proofs.Ytdllgebccjmljaa
