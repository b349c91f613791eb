/-
  ProgFolds holds: a program that is run over events, one behind the other: the state at the end, and how many failed; in two parts it is the same. Conditions: none.
-/
import Derived.Test.YtidjnfjpdnjogaaDoorPxFolds
import Derived.Test.YtidjnfjpdnjogaaDoorT
namespace Go.Proofs.YtidjnfjpdnjogaaDoor
open Go.ChangeShapes Go.WideShapes Go.ChangeAt Go.RowKit
open Go.ChangeMaps (open_string shut_string)

set_option maxRecDepth 100000 in
theorem pxFoldsL {H : Type} {enc : TypeId × Value → H} {base : Nat} (v : Value) (d : DataW H) (p : List MemPlace) {W : World} (h : DataW.Trod enc Tryd.prog W 0 (fun _ => true) true 25 v d p) (hv : Value.okWide Tryd.prog W .any base 25 v)
    (x : Int) (wx : (Lit.int .u64 x).wf = true) (v2 : Value) (d2 : DataW H) (p2 : List MemPlace) (h2 : DataW.Trod enc Tryd.prog W 0 (fun _ => true) true 48 v2 d2 p2) (hv2 : Value.okWide Tryd.prog W .any base 48 v2) (c : Int) (_ : (Lit.int .i64 c).wf = true)
    {dx dc : DataW H} (hwt : ∀ x ∈ DataW.weightsEach Tryd.prog [25, 22, 48, 3] [d, dx, d2, dc], x ≤ reachBytes) (_ : World) (_ : Tab W) :
    Calls Tryd.prog 7 #[v, .int .u64 x, v2, .int .i64 c] W fun e w' => e = .returned (.bool true) ∧ Below W.heap.size W w' := by
  obtain ⟨lw, tw, fw, -⟩ := open_texts h hv (fun x hx => hwt x (by unfold DataW.weightsEach; exact List.mem_append_left _ hx))
  obtain ⟨ao, len, cap, E, rfl, hA, hm, hok, hlc, hcap⟩ := open_events h2 hv2
  obtain ⟨st, rfl, hst⟩ := u64_nat wx
  exact folds_any lw v st hst ao len cap E c W tw fw hA hok hm hlc hcap

set_option maxRecDepth 100000 in
theorem progFolds_lifted (os : Os) (started : os.Started) (H : Type) (enc : TypeId × Value → H) :
    ReturnsInHanded {} Tryd.checked os 7 .any (fun w args => (Rows.progFoldsSpec.pre enc Tryd.prog Tryd.f7 [] false w args ∧ laidMetH Tryd.prog Rows.progFoldsRow.laid w) ∧ sizedMet enc Tryd.prog Tryd.f7 (OpenSpec.ofChange Rows.progFoldsSpec) false w args)
      (Rows.progFoldsSpec.post enc Tryd.prog Tryd.f7 false true false false) := by
  refine returnsInHanded_of_change_and (C := Tryd.checked) (X := fun w _ => laidMetH Tryd.prog Rows.progFoldsRow.laid w) (fun _ _ _ hh h => h.of_heap hh) own started (by kernel_rfl) Tryd.func7
    (ChangeSpec.witness_shaped (enc := enc) (C := Tryd.checked) (os := os) (X := fun w _ => laidMetH Tryd.prog Rows.progFoldsRow.laid w) false (World.laidAll Tryd.prog os Rows.progFoldsRow.laid) #[.slice none 0 0, .int .u64 0, .slice none 0 0, .int .i64 0] 8 (World.laidAll_os _ _ _)
      (World.shaped_of_ZipB (by kernel_rfl) (by kernel_rfl)) (by kernel_rfl) (by kernel_rfl) (by kernel_rfl)
      (by rw [MakeChecks.laidMetH_plain _ _ _ (by kernel_rfl)]; exact laidMet_laidAll _ (by kernel_rfl) (by kernel_rfl))) ?_
  intro W base args ds gs before hval0 hW _ hwt0 hL _
  have hval : ∀ (j : Nat) t v, Tryd.f7.params[j]? = some t → args[j]? = some v → Value.okWide Tryd.prog W .any base t v := hval0
  have hW' := hW
  obtain ⟨p, q, hA0, hV, rfl, _, _⟩ := hW
  have hA : DataW.TrodAll enc Tryd.prog W 0 (fun _ => true) true Tryd.f7.params.toList args.toList ds p := hA0
  rw [Tryd.params7] at hA hval
  obtain ⟨v0, vs0, d0, ds0, p0, q0, hargs, rfl, rfl, h0, r0⟩ := trodAll_cons hA
  obtain ⟨v1, vs1, d1, ds1, p1, q1, rfl, rfl, rfl, h1, r1⟩ := trodAll_cons r0
  obtain ⟨v2, vs2, d2, ds2, p2, q2, rfl, rfl, rfl, h2, r2⟩ := trodAll_cons r1
  obtain ⟨v3, vs3, d3, ds3, p3, q3, rfl, rfl, rfl, h3, r3⟩ := trodAll_cons r2
  obtain ⟨rfl, rfl, rfl⟩ := trodAll_nil r3
  obtain rfl : args = #[v0, v1, v2, v3] := by cases args; simp_all
  obtain ⟨rfl, rfl⟩ := trodVars_none hV
  obtain ⟨x1, rfl, rfl, rfl, wx1⟩ := open_int Tryd.underlying22 (hval 1 22 v1 rfl rfl) h1
  obtain ⟨x3, rfl, rfl, rfl, wx3⟩ := open_int Tryd.underlying3 (hval 3 3 v3 rfl rfl) h3
  have hwt : ∀ x ∈ DataW.weightsEach Tryd.prog [25, 22, 48, 3] [d0, _, d2, _], x ≤ reachBytes := fun x hx => of_decide_eq_true (List.all_eq_true.1 hwt0 x (by rw [Tryd.params7]; exact hx))
  rw [MakeChecks.laidMetH_plain _ _ _ (by kernel_rfl)] at hL
  have htab := tabs_of_laid hL
  refine Calls.mono (R := fun e w' => e = .returned (.bool true) ∧ Below W.heap.size W w') ?_ fun e W' ⟨he, hb⟩ => ?_
  · exact pxFoldsL v0 d0 p0 h0 (hval 0 25 v0 rfl rfl) x1 wx1 v2 d2 p2 h2 (hval 2 48 v2 rfl rfl) x3 wx3 hwt W htab
  subst he
  exact ⟨_, rfl, law_post (T := 4) laidOut (by kernel_rfl) rfl Tryd.underlying4 rfl hW' hb rfl rfl rfl⟩

theorem progFolds_row : Rows.ProgFoldsSaid :=
  OpenClaim.holds_of_wide 7 Tryd.f7 rfl rfl rfl rfl rfl rfl rfl ⟨rfl, rfl, rfl, rfl, rfl⟩ rfl rfl rfl rfl rfl (by kernel_rfl) Tryd.func7 (by kernel_rfl)
    (of_decide_eq_true (by kernel_rfl)) (by unfold Func.isWrapper; first | (rw [if_pos (by decide +kernel)]; kernel_rfl) | (rw [if_neg (by decide +kernel)]; exact ⟨rfl, rfl⟩))
    (fun os started H enc _ => progFolds_lifted os started H enc)

theorem progFolds_card : Rows.ProgFoldsCardSaid :=
  Claim7.holds_tied_plain_at .later [] [.data, .pinned] true Rows.progFoldsCard.stood.harness true progFolds_row (fun _ h => by cases h) (by kernel_rfl) (fun _ h => by cases h) progFolds_row_tie rfl ⟨rfl, rfl⟩ (by kernel_rfl) rfl
    (fun f fn hf hfn => by
      obtain rfl : f = 7 := Option.some.inj ((show Tryd.prog.funcNamed Rows.progFoldsRow.func = some 7 by kernel_rfl).symm.trans hf) |>.symm
      obtain rfl : fn = Tryd.f7 := (Option.some.inj (Tryd.func7.symm.trans hfn)).symm
      exact ⟨by kernel_rfl, fun j t ht => by
        have hm : t ∈ Tryd.f7.params := Array.mem_of_getElem? ht
        have hall : (Tryd.f7.params.all fun u => !Tryd.prog.wantsStandIn u) = true := by kernel_rfl
        have hnot := Array.all_eq_true'.1 hall t hm
        exact (show Tryd.prog.wantsStandIn t = false by simpa using hnot)⟩)
    (by kernel_rfl)
#print axioms progFolds_card


end Go.Proofs.YtidjnfjpdnjogaaDoor
