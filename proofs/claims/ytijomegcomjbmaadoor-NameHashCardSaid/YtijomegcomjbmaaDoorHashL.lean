/-
  NameHash holds: a hash is one of 61; names of one category have that category. Conditions: none.
-/
import Derived.Test.YtijomegcomjbmaaDoorHash
import Derived.Test.YtijomegcomjbmaaDoorT
namespace Go.Proofs.YtijomegcomjbmaaDoor
open Go.ChangeShapes Go.WideShapes Go.ChangeAt Go.RowKit
open Go.ChangeMaps (open_string shut_string)

theorem hashL (c : ByteArray) (r : ByteArray) (hc : c.size ≤ 140737488351232) (hr : r.size ≤ 140737488351232) (W : World) (ht : Tab W) : Calls Tryd.prog 6 #[.string c, .string r] W fun e w' => e = .returned (.bool true) ∧ Below W.heap.size W w' := by
  by_cases h : c.size < 1 ∨ 50 < c.size + r.size ∨ streamB c.data.toList = false ∨ systemB c.data.toList = true
  · exact hash_bad c r hc hr W ht h
  · have h2 : streamB c.data.toList = true := by
      cases hc : streamB c.data.toList
      · exact absurd (Or.inr (Or.inr (Or.inl hc))) h
      · rfl
    have h3 : systemB c.data.toList = false := by
      cases hc : systemB c.data.toList
      · rfl
      · exact absurd (Or.inr (Or.inr (Or.inr hc))) h
    exact hash_good c r (by omega) (by omega) W ht h2 h3

set_option maxRecDepth 100000 in
theorem nameHash_lifted (os : Os) (started : os.Started) (H : Type) (enc : TypeId × Value → H) :
    ReturnsInHanded {} Tryd.checked os 6 .any (fun w args => (Rows.nameHashSpec.pre enc Tryd.prog Tryd.f6 [] false w args ∧ laidMetH Tryd.prog Rows.nameHashRow.laid w) ∧ sizedMet enc Tryd.prog Tryd.f6 (OpenSpec.ofChange Rows.nameHashSpec) false w args)
      (Rows.nameHashSpec.post enc Tryd.prog Tryd.f6 false true false false) := by
  refine returnsInHanded_of_change_and (C := Tryd.checked) (X := fun w _ => laidMetH Tryd.prog Rows.nameHashRow.laid w) (fun _ _ _ hh h => h.of_heap hh) own started (by kernel_rfl) Tryd.func6
    (ChangeSpec.witness_shaped (enc := enc) (C := Tryd.checked) (os := os) (X := fun w _ => laidMetH Tryd.prog Rows.nameHashRow.laid w) false (World.laidAll Tryd.prog os Rows.nameHashRow.laid) #[.string ByteArray.empty, .string ByteArray.empty] 8 (World.laidAll_os _ _ _)
      (World.shaped_of_ZipB (by kernel_rfl) (by kernel_rfl)) (by kernel_rfl) (by kernel_rfl) (by kernel_rfl)
      (by rw [MakeChecks.laidMetH_plain _ _ _ (by kernel_rfl)]; exact laidMet_laidAll _ (by kernel_rfl) (by kernel_rfl))) ?_
  intro W base args ds gs before hval0 hW _ hwt hL _
  have hval : ∀ (j : Nat) t v, Tryd.f6.params[j]? = some t → args[j]? = some v → Value.okWide Tryd.prog W .any base t v := hval0
  have hW' := hW
  obtain ⟨p, q, hA0, hV, rfl, _, _⟩ := hW
  have hA : DataW.TrodAll enc Tryd.prog W 0 (fun _ => true) true Tryd.f6.params.toList args.toList ds p := hA0
  rw [Tryd.params6] at hA hval
  obtain ⟨v0, vs0, d0, ds0, p0, q0, hargs, rfl, rfl, h0, r0⟩ := trodAll_cons hA
  obtain ⟨v1, vs1, d1, ds1, p1, q1, rfl, rfl, rfl, h1, r1⟩ := trodAll_cons r0
  obtain ⟨rfl, rfl, rfl⟩ := trodAll_nil r1
  obtain rfl : args = #[v0, v1] := by cases args; simp_all
  obtain ⟨rfl, rfl⟩ := trodVars_none hV
  obtain ⟨x0, rfl, rfl, rfl, wx0⟩ := open_string Tryd.underlying9 (hval 0 9 v0 rfl rfl) h0
  obtain ⟨x1, rfl, rfl, rfl, wx1⟩ := open_string Tryd.underlying9 (hval 1 9 v1 rfl rfl) h1
  rw [MakeChecks.laidMetH_plain _ _ _ (by kernel_rfl)] at hL
  have htab := tabs_of_laid hL
  refine Calls.mono (R := fun e w' => e = .returned (.bool true) ∧ Below W.heap.size W w') ?_ fun e W' ⟨he, hb⟩ => ?_
  · have hw2 : x0.size ≤ 140737488351232 ∧ x1.size ≤ 140737488351232 := by
      have h := hwt
      simp [Tryd.params6, DataW.weightsEach, DataW.weights, reachBytes] at h
      exact ⟨of_decide_eq_true h.1, of_decide_eq_true h.2⟩
    exact hashL x0 x1 hw2.1 hw2.2 W htab
  subst he
  exact ⟨_, rfl, law_post (T := 4) laidOut (by kernel_rfl) rfl Tryd.underlying4 rfl hW' hb rfl rfl rfl⟩

theorem nameHash_row : Rows.NameHashSaid :=
  OpenClaim.holds_of_wide 6 Tryd.f6 rfl rfl rfl rfl rfl rfl rfl ⟨rfl, rfl, rfl, rfl, rfl⟩ rfl rfl rfl rfl rfl (by kernel_rfl) Tryd.func6 (by kernel_rfl)
    (of_decide_eq_true (by kernel_rfl)) (by unfold Func.isWrapper; first | (rw [if_pos (by decide +kernel)]; kernel_rfl) | (rw [if_neg (by decide +kernel)]; exact ⟨rfl, rfl⟩))
    (fun os started H enc _ => nameHash_lifted os started H enc)

theorem nameHash_card : Rows.NameHashCardSaid :=
  Claim7.holds_tied_plain_at .later [] [.data, .data, .data] true Rows.nameHashCard.stood.harness false nameHash_row (fun _ h => by cases h) (by kernel_rfl) (fun _ h => by cases h) nameHash_row_tie rfl ⟨rfl, rfl⟩ (by kernel_rfl) rfl
    (fun f fn hf hfn => by
      obtain rfl : f = 6 := Option.some.inj ((show Tryd.prog.funcNamed Rows.nameHashRow.func = some 6 by kernel_rfl).symm.trans hf) |>.symm
      obtain rfl : fn = Tryd.f6 := (Option.some.inj (Tryd.func6.symm.trans hfn)).symm
      exact ⟨by kernel_rfl, fun j t ht => by
        have hm : t ∈ Tryd.f6.params := Array.mem_of_getElem? ht
        have hall : (Tryd.f6.params.all fun u => !Tryd.prog.wantsStandIn u) = true := by kernel_rfl
        have hnot := Array.all_eq_true'.1 hall t hm
        exact (show Tryd.prog.wantsStandIn t = false by simpa using hnot)⟩)
    (by kernel_rfl)
#print axioms nameHash_card


end Go.Proofs.YtijomegcomjbmaaDoor
