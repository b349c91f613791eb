/-
  ProgFails holds: a program that says so fails, wherever it says it; what stands behind it is not asked, but must be words. Conditions: none.
-/
import Derived.Test.YtidjnfjpdnjogaaDoorPxFails
import Derived.Test.YtidjnfjpdnjogaaDoorT
namespace Go.Proofs.YtidjnfjpdnjogaaDoor
open Go.ChangeShapes Go.WideShapes Go.ChangeAt Go.RowKit
open Go.ChangeMaps (open_string shut_string)

set_option maxRecDepth 100000 in
theorem progFailsL {H : Type} {enc : TypeId × Value → H} {base : Nat} (v : Value) (d : DataW H) (p : List MemPlace) {W : World} (h : DataW.Trod enc Tryd.prog W 0 (fun _ => true) true 25 v d p) (hv : Value.okWide Tryd.prog W .any base 25 v)
    (v2 : Value) (d2 : DataW H) (p2 : List MemPlace) (h2 : DataW.Trod enc Tryd.prog W 0 (fun _ => true) true 25 v2 d2 p2) (hv2 : Value.okWide Tryd.prog W .any base 25 v2) (hwt : ∀ x ∈ DataW.weightsEach Tryd.prog [25, 25] [d, d2], x ≤ reachBytes) (_ : World) (_ : Tab W) :
    Calls Tryd.prog 6 #[v, v2] W fun e w' => e = .returned (.bool true) ∧ Below W.heap.size W w' := by
  obtain ⟨la, ta, fa, za⟩ := open_texts h hv (fun x hx => hwt x (by unfold DataW.weightsEach; exact List.mem_append_left _ hx))
  obtain ⟨lb, tb, fb, zb⟩ := open_texts h2 hv2 (fun x hx => hwt x (by unfold DataW.weightsEach; exact List.mem_append_right _ (by unfold DataW.weightsEach; exact List.mem_append_left _ hx)))
  exact fails_any la lb v v2 W ta tb fa fb za zb

set_option maxRecDepth 100000 in
theorem progFails_lifted (os : Os) (started : os.Started) (H : Type) (enc : TypeId × Value → H) :
    ReturnsInHanded {} Tryd.checked os 6 .any (fun w args => (Rows.progFailsSpec.pre enc Tryd.prog Tryd.f6 [] false w args ∧ laidMetH Tryd.prog Rows.progFailsRow.laid w) ∧ sizedMet enc Tryd.prog Tryd.f6 (OpenSpec.ofChange Rows.progFailsSpec) false w args)
      (Rows.progFailsSpec.post enc Tryd.prog Tryd.f6 false true false false) := by
  refine returnsInHanded_of_change_and (C := Tryd.checked) (X := fun w _ => laidMetH Tryd.prog Rows.progFailsRow.laid w) (fun _ _ _ hh h => h.of_heap hh) own started (by kernel_rfl) Tryd.func6
    (ChangeSpec.witness_shaped (enc := enc) (C := Tryd.checked) (os := os) (X := fun w _ => laidMetH Tryd.prog Rows.progFailsRow.laid w) false (World.laidAll Tryd.prog os Rows.progFailsRow.laid) #[.slice none 0 0, .slice none 0 0] 8 (World.laidAll_os _ _ _)
      (World.shaped_of_ZipB (by kernel_rfl) (by kernel_rfl)) (by kernel_rfl) (by kernel_rfl) (by kernel_rfl)
      (by rw [MakeChecks.laidMetH_plain _ _ _ (by kernel_rfl)]; exact laidMet_laidAll _ (by kernel_rfl) (by kernel_rfl))) ?_
  intro W base args ds gs before hval0 hW _ hwt0 hL _
  have hval : ∀ (j : Nat) t v, Tryd.f6.params[j]? = some t → args[j]? = some v → Value.okWide Tryd.prog W .any base t v := hval0
  have hW' := hW
  obtain ⟨p, q, hA0, hV, rfl, _, _⟩ := hW
  have hA : DataW.TrodAll enc Tryd.prog W 0 (fun _ => true) true Tryd.f6.params.toList args.toList ds p := hA0
  rw [Tryd.params6] at hA hval
  obtain ⟨v0, vs0, d0, ds0, p0, q0, hargs, rfl, rfl, h0, r0⟩ := trodAll_cons hA
  obtain ⟨v1, vs1, d1, ds1, p1, q1, rfl, rfl, rfl, h1, r1⟩ := trodAll_cons r0
  obtain ⟨rfl, rfl, rfl⟩ := trodAll_nil r1
  obtain rfl : args = #[v0, v1] := by cases args; simp_all
  obtain ⟨rfl, rfl⟩ := trodVars_none hV
  have hwt : ∀ x ∈ DataW.weightsEach Tryd.prog [25, 25] [d0, d1], x ≤ reachBytes := fun x hx => of_decide_eq_true (List.all_eq_true.1 hwt0 x (by rw [Tryd.params6]; exact hx))
  rw [MakeChecks.laidMetH_plain _ _ _ (by kernel_rfl)] at hL
  have htab := tabs_of_laid hL
  refine Calls.mono (R := fun e w' => e = .returned (.bool true) ∧ Below W.heap.size W w') ?_ fun e W' ⟨he, hb⟩ => ?_
  · exact progFailsL v0 d0 p0 h0 (hval 0 25 v0 rfl rfl) v1 d1 p1 h1 (hval 1 25 v1 rfl rfl) hwt W htab
  subst he
  exact ⟨_, rfl, law_post (T := 4) laidOut (by kernel_rfl) rfl Tryd.underlying4 rfl hW' hb rfl rfl rfl⟩

theorem progFails_row : Rows.ProgFailsSaid :=
  OpenClaim.holds_of_wide 6 Tryd.f6 rfl rfl rfl rfl rfl rfl rfl ⟨rfl, rfl, rfl, rfl, rfl⟩ rfl rfl rfl rfl rfl (by kernel_rfl) Tryd.func6 (by kernel_rfl)
    (of_decide_eq_true (by kernel_rfl)) (by unfold Func.isWrapper; first | (rw [if_pos (by decide +kernel)]; kernel_rfl) | (rw [if_neg (by decide +kernel)]; exact ⟨rfl, rfl⟩))
    (fun os started H enc _ => progFails_lifted os started H enc)

theorem progFails_card : Rows.ProgFailsCardSaid :=
  Claim7.holds_tied_plain_at .later [] [.data, .pinned] true Rows.progFailsCard.stood.harness true progFails_row (fun _ h => by cases h) (by kernel_rfl) (fun _ h => by cases h) progFails_row_tie rfl ⟨rfl, rfl⟩ (by kernel_rfl) rfl
    (fun f fn hf hfn => by
      obtain rfl : f = 6 := Option.some.inj ((show Tryd.prog.funcNamed Rows.progFailsRow.func = some 6 by kernel_rfl).symm.trans hf) |>.symm
      obtain rfl : fn = Tryd.f6 := (Option.some.inj (Tryd.func6.symm.trans hfn)).symm
      exact ⟨by kernel_rfl, fun j t ht => by
        have hm : t ∈ Tryd.f6.params := Array.mem_of_getElem? ht
        have hall : (Tryd.f6.params.all fun u => !Tryd.prog.wantsStandIn u) = true := by kernel_rfl
        have hnot := Array.all_eq_true'.1 hall t hm
        exact (show Tryd.prog.wantsStandIn t = false by simpa using hnot)⟩)
    (by kernel_rfl)
#print axioms progFails_card


end Go.Proofs.YtidjnfjpdnjogaaDoor
