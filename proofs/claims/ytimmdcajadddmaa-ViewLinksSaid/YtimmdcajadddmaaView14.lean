/-
  ViewLinks, walked. Conditions: none.
-/
import Derived.Test.YtimmdcajadddmaaView13
import Derived.Deep.CutBlock
import Derived.Deep.DeepCutAuto
namespace Go.Proofs.Ytimmdcajadddmaa
open Go.RowKit Go.Lib

theorem range_arg {w : World} {B k cap : Nat} {ao : Option Addr} {E : Nat → Ev} (h : w.ownsRow B 29 8 (.slice ao k cap) k (evCells E (List.range k))) : EvArg w.heap.size w ao k (fun i => E ((List.range k).getD i 0)) := by
  have h2 : w.ownsRow B 29 8 (.slice ao k cap) (List.range k).length (evCells E (List.range k)) := by rw [List.length_range]; exact h
  have := own_arg h2
  rw [List.length_range] at this
  exact this
theorem range_getD (k i : Nat) (h : i < k) : (List.range k).getD i 0 = i := by simp [List.getD, h]
/-- What the loop reads, all of it made ahead of it. -/
structure Set0 (W w : World) (ao bo ro : Option Addr) (len tl tc rc : Nat) (E T R : Nat → Ev) : Prop where
  below : Below W.heap.size W w
  box : w.cell? ⟨W.heap.size, 0, none⟩ = some (.slice bo tl tc)
  lt : W.heap.size < w.heap.size
  e : EvArg w.heap.size w ao len E
  t : EvArg w.heap.size w bo tl T
  r : EvArg w.heap.size w ro len R

/-- A box's eight cells, stored anew. -/
theorem set8 {w : World} {b : Nat} {a : Ev} (h : w.heap[b]? = some (.cells a.cells 29)) (e : Ev) :
    ((((((((w.setCell ⟨b, 0, none⟩ (.int .i64 e.id)).setCell ⟨b, 1, none⟩ (.string e.ty)).setCell ⟨b, 2, none⟩ (.string e.data)).setCell ⟨b, 3, none⟩ (.float .f64 e.value)).setCell ⟨b, 4, none⟩ (.string e.stream)).setCell ⟨b, 5, none⟩ (.int .i64 e.version)).setCell ⟨b, 6, none⟩ (.int .i64 e.position)).setCell ⟨b, 7, none⟩ (.int .i64 e.time)).heap[b]? = some (.cells e.cells 29) := by
  have h0 := heap_setCell_same (off := 0) h (.int .i64 e.id)
  have h1 := heap_setCell_same (off := 1) h0 (.string e.ty)
  have h2 := heap_setCell_same (off := 2) h1 (.string e.data)
  have h3 := heap_setCell_same (off := 3) h2 (.float .f64 e.value)
  have h4 := heap_setCell_same (off := 4) h3 (.string e.stream)
  have h5 := heap_setCell_same (off := 5) h4 (.int .i64 e.version)
  have h6 := heap_setCell_same (off := 6) h5 (.int .i64 e.position)
  have h7 := heap_setCell_same (off := 7) h6 (.int .i64 e.time)
  rw [h7]
  simp [Ev.cells]
theorem set_ty {w : World} {b : Nat} {a : Ev} (h : w.heap[b]? = some (.cells a.cells 29)) (s : ByteArray) : (w.setCell ⟨b, 1, none⟩ (.string s)).heap[b]? = some (.cells ({a with ty := s} : Ev).cells 29) := by
  have e : a.cells.setIfInBounds 1 (.string s) = ({a with ty := s} : Ev).cells := by simp [Ev.cells]
  rw [heap_setCell_same h, e]

theorem fin_unres {wr w6 : World} {a : Ev} (z7 : wr.heap.size < w6.heap.size) (h : w6.heap[wr.heap.size]? = some (.cells a.cells 29)) (hb : Below wr.heap.size wr w6) (o : Obj) :
    ((w6.setCell ⟨wr.heap.size, 1, none⟩ (.string ⟨#[36, 117, 110, 114, 101, 115, 111, 108, 118, 101, 100]⟩)).alloc o).heap[wr.heap.size]? = some (.cells ({a with ty := unres} : Ev).cells 29) ∧ Below wr.heap.size wr ((w6.setCell ⟨wr.heap.size, 1, none⟩ (.string ⟨#[36, 117, 110, 114, 101, 115, 111, 108, 118, 101, 100]⟩)).alloc o) := by
  refine ⟨(Below.heap_alloc _ _ _ (by simpa using z7)).trans (set_ty h unres), ?_⟩
  refine Below.alloc (Below.setCell hb ?_ _) ?_ _
  · exact Nat.le_refl _
  · simp; omega
theorem fin_found {wr w6 : World} {a : Ev} (z7 : wr.heap.size < w6.heap.size) (h : w6.heap[wr.heap.size]? = some (.cells a.cells 29)) (hb : Below wr.heap.size wr w6) (o : Obj) (e : Ev) :
    ((((((((((w6.setCell ⟨wr.heap.size, 0, none⟩ (.int .i64 e.id)).setCell ⟨wr.heap.size, 1, none⟩ (.string e.ty)).setCell ⟨wr.heap.size, 2, none⟩ (.string e.data)).setCell ⟨wr.heap.size, 3, none⟩ (.float .f64 e.value)).setCell ⟨wr.heap.size, 4, none⟩ (.string e.stream)).setCell ⟨wr.heap.size, 5, none⟩ (.int .i64 e.version)).setCell ⟨wr.heap.size, 6, none⟩ (.int .i64 e.position)).setCell ⟨wr.heap.size, 7, none⟩ (.int .i64 e.time)).alloc o).heap[wr.heap.size]? = some (.cells e.cells 29)) ∧
    Below wr.heap.size wr (((((((((w6.setCell ⟨wr.heap.size, 0, none⟩ (.int .i64 e.id)).setCell ⟨wr.heap.size, 1, none⟩ (.string e.ty)).setCell ⟨wr.heap.size, 2, none⟩ (.string e.data)).setCell ⟨wr.heap.size, 3, none⟩ (.float .f64 e.value)).setCell ⟨wr.heap.size, 4, none⟩ (.string e.stream)).setCell ⟨wr.heap.size, 5, none⟩ (.int .i64 e.version)).setCell ⟨wr.heap.size, 6, none⟩ (.int .i64 e.position)).setCell ⟨wr.heap.size, 7, none⟩ (.int .i64 e.time)).alloc o) := by
  refine ⟨(Below.heap_alloc _ _ _ (by simpa using z7)).trans (set8 h e), ?_⟩
  refine Below.alloc (Below.setCell (Below.setCell (Below.setCell (Below.setCell (Below.setCell (Below.setCell (Below.setCell (Below.setCell hb ?_ _) ?_ _) ?_ _) ?_ _) ?_ _) ?_ _) ?_ _) ?_ _) ?_ _
  all_goals first
    | (simp; done)
    | (simp; omega)

set_option maxRecDepth 100000 in
set_option maxHeartbeats 4000000 in
theorem linksLaw_any (ao bo : Option Addr) (len cap tl tc : Nat) (E T : Nat → Ev) (nn : Bool) (W : World) (hca : ao = none → cap = 0) (hE : EvArg W.heap.size W ao len E) (hT : EvArg W.heap.size W bo tl T) :
    Calls Try.prog 6 #[.slice ao len cap, .slice bo tl tc, .bool nn] W fun e w' => e = .returned (.bool true) ∧ Below W.heap.size W w' := by
  have hsf : ∀ (w : World) (a : Addr) (k : FloatKind) (b : Nat) (m : Mode), (store a (.float k b) m).run Try.prog w = stored Try.prog w a (.float k b) m := fun w a k b m => run_store Try.prog w a _ m rfl
  have hm : Try.prog.follows .mixedOrders = true := by kernel_rfl
  have HCA := Lib.hid hca; clear hca
  have hb0 := below_alloc W (.cells #[.slice bo tl tc] 22)
  have HE0 := Lib.hid (hE.alloc (.cells #[.slice bo tl tc] 22)); clear hE
  have HT0 := Lib.hid (hT.alloc (.cells #[.slice bo tl tc] 22)); clear hT
  have hbx : (W.alloc (.cells #[.slice bo tl tc] 22)).cell? ⟨W.heap.size, 0, none⟩ = some (.slice bo tl tc) := by simp
  have HBX := Lib.hid hbx; clear hbx
  have HB0 := Lib.hid hb0; clear hb0
  obtain ⟨R, hR⟩ : ∃ R : Nat → Ev, ∀ i, R i = resolveE (if nn then fun _ _ => none else findE T tl) (E i) := ⟨fun i => _, fun _ => rfl⟩
  have HR := Lib.hid hR; clear hR
  go_enter Try.func6, Try.ntmps6
  go_wp2_with (first
    | (go_at_call 7
       first
        | (have _t := tok
           refine (few_any 30 (by decide) bo tl tc T _ HT0.out).mono ?_
           rintro e w1 ⟨bb, rfl, hft, hw⟩
           replace hw := hw.symm
           subst hw
           replace hft := Lib.hid hft
           rcases bb with _ | _)
        | (refine (few_any 30 (by decide) ao len cap E _ HE0.out).mono ?_
           rintro e w1 ⟨bb, rfl, hfe, hw⟩
           replace hw := hw.symm
           subst hw
           replace hfe := Lib.hid hfe
           have tok : True := trivial
           rcases bb with _ | _))
    | (go_at_call 8
       refine (alive_view _).mono ?_
       rintro e w1 ⟨rfl, hb1⟩
       replace hb1 := Lib.hid hb1)
    | fail)
  all_goals try (go_ret; exact ⟨rfl, HB0.out.trans (hb1.out.mono (by simp))⟩)
  have hlen : len ≤ 30 := by have := (hfe.out trivial).1; omega
  have htl : tl ≤ 30 := by have := (hft.out trivial).1; omega
  have HD := Lib.hid (fun i (hi : i < len) => ((hfe.out trivial).2 i hi).2.2)
  clear hfe hft tok _t
  obtain ⟨W1, hW1⟩ : ∃ W1, W.alloc (.cells #[.slice bo tl tc] 22) = W1 := ⟨_, rfl⟩
  have hlt1 : W.heap.size < W1.heap.size := by rw [← hW1]; simp
  rw [hW1] at HE0 HT0 HBX HB0 ⊢
  clear hW1
  refine (lent_any ao len cap (by omega) HCA.out E _ HE0.out).mono ?_
  rintro e w1 ⟨g, c, rfl, hL, hb1⟩
  have HLE := Lib.hid hL
  have HB1 := Lib.hid hb1
  have hA := Lib.hid hL.arg
  have hK1 := Lib.hid (show Looks (.func (.func 14) #[] #[.pointer (some ⟨W.heap.size, 0, none⟩)]) (findE T tl) w1.heap.size w1 from
    (Or.inr ⟨W.heap.size, bo, tl, tc, T, rfl, by have := hb1.size; omega, (hb1.cell (p := ⟨W.heap.size, 0, none⟩) hlt1).trans HBX.out, by omega, (HT0.out.low hb1).up hb1.size, rfl⟩))
  clear hL hb1
  go_wp2_with fail
  refine (links_any (some ⟨g, 0, none⟩) len c (by omega) E (fun i hi => by have := HD.out i hi; omega) _ _ w1 hA.out hK1.out).mono ?_
  rintro e w2 ⟨v2, rfl, hrow2, hb2⟩
  have hrow2' := Lib.hid hrow2
  have HB2 := Lib.hid hb2
  have HLE2 := Lib.hid (HLE.out.keep hb2)
  clear hrow2 hb2
  go_upto_if 32 with fail
  go_cut [9] from 33 to 34 (fun v9 wx => ∃ ro rc, v9 = .slice ro len rc ∧ wx.ownsRow w1.heap.size 29 8 (.slice ro len rc) len (evCells R (List.range len)) ∧ Lent W1.heap.size wx g c len E ∧ Below w1.heap.size w1 wx)
  case first =>
    cases nn
    · have hRR : R = fun i => resolveE (findE T tl) (E i) := by funext i; rw [HR.out i]; rfl
      have HX : ∃ ro rc, v2 = .slice ro len rc ∧ w2.ownsRow w1.heap.size 29 8 (.slice ro len rc) len (evCells R (List.range len)) ∧ Lent W1.heap.size w2 g c len E ∧ Below w1.heap.size w1 w2 := by
        obtain ⟨ro, rc, rfl⟩ := row_slice hrow2'.out
        rw [hRR]
        exact ⟨ro, rc, rfl, hrow2'.out, HLE2.out, HB2.out⟩
      have HXX := Lib.hid HX; clear HX hRR
      go_wp2_with fail
      go_meet
      case rel => exact HXX.out
    · have hRR : R = fun i => resolveE (fun _ _ => none) (E i) := by funext i; rw [HR.out i]; rfl
      have HRR := Lib.hid hRR; clear hRR
      have hA2 := Lib.hid HLE2.out.arg
      go_wp2_with fail
      refine (links_any (some ⟨g, 0, none⟩) len c (by omega) E (fun i hi => by have := HD.out i hi; omega) .nilFunc (fun _ _ => none) w2 hA2.out (Or.inl ⟨rfl, rfl⟩)).mono ?_
      rintro e w3 ⟨v3, rfl, hrow3, hb3⟩
      have HX : ∃ ro rc, v3 = .slice ro len rc ∧ w3.ownsRow w1.heap.size 29 8 (.slice ro len rc) len (evCells R (List.range len)) ∧ Lent W1.heap.size w3 g c len E ∧ Below w1.heap.size w1 w3 := by
        obtain ⟨ro, rc, rfl⟩ := row_slice hrow3
        rw [HRR.out]
        exact ⟨ro, rc, rfl, own_base hrow3 HB2.out.size, HLE2.out.keep hb3, HB2.out.trans (hb3.mono HB2.out.size)⟩
      have HXX := Lib.hid HX; clear HX hrow3 hb3
      go_wp2_with fail
      go_meet
      case rel => exact HXX.out
  case rest =>
    obtain ⟨ro, rc, rfl, hrow, hL, hb⟩ := hcut
    have hbc : Below W1.heap.size W1 wc := HB1.out.trans (hb.mono HB1.out.size)
    have HL4 := Lib.hid hL
    have HR4 := Lib.hid hrow
    have HB4 := Lib.hid hbc
    have HE4 := Lib.hid ((HE0.out.low hbc).up hbc.size)
    clear hL hrow hb hbc hK1 hA hrow2' HB2 HLE2 HLE HB1
    go_wp2_with (first
      | (go_at_call 17
         refine (stays_any W1.heap.size g c ao len cap (by omega) E wc HL4.out HE4.out).mono ?_
         rintro e w4 ⟨rfl, hb4⟩
         replace hb4 := Lib.hid hb4)
      | fail)
    have hS : Set0 W w4 ao bo ro len tl tc rc E T (fun i => R ((List.range len).getD i 0)) := by
      have h5 : Below W1.heap.size W1 w4 := HB4.out.trans (hb4.out.mono HB4.out.size)
      refine ⟨HB0.out.trans (h5.mono HB0.out.size), (h5.cell (p := ⟨W.heap.size, 0, none⟩) hlt1).trans HBX.out, by have := h5.size; omega, (HE0.out.low h5).up h5.size, (HT0.out.low h5).up h5.size, ?_⟩
      exact range_arg (own_same HR4.out fun k hk => hb4.out.block _ (HR4.out.lt k hk).2)
    have HS := Lib.hid hS; clear hS HL4 HR4 HB4 HE4 hb4
    go_loopg [10] len (fun gg i wr => ∃ k : Nat, gg = len - k ∧ k ≤ len ∧ i = .int .i64 k ∧ Below w4.heap.size w4 wr)
    case atStart => exact ⟨0, by omega, by omega, rfl, Below.refl _ _⟩
    case round =>
      obtain ⟨k, hg, hk, rfl, hb⟩ := hrel
      have HG := Lib.hid hg; clear hg
      have HB := Lib.hid hb; clear hb
      by_cases hlt : k < len
      · obtain ⟨b, off, rfl, hbn, hEi⟩ := (HS.out.e.low HB.out).at_ (by omega)
        have hl : (k : Int) < (len : Int) := by omega
        have hw1 : IntKind.i64.wrap ((k : Int) + 1) = (k : Int) + 1 := IntWalk.i64_in _ (by omega)
        obtain ⟨s0, s1, s2, s3, s4, s5, s6, s7⟩ := hEi.rd k hlt
        have hEk := Lib.hid (hEi.rd k hlt)
        have hbw : b < wr.heap.size := hEi.bl
        clear hEi
        have hd := HD.out k hlt
        have hU := fun w => runlink_any (E k).data (by omega) w
        have hRk : R k = resolveE (if nn then fun _ _ => none else findE T tl) (E k) := HR.out k
        unfold resolveE isLink at hRk
        revert hU hRk
        generalize unlinkOf (E k).data.data.toList = u
        intro hU hRk
        obtain ⟨v, s, er⟩ := u
        unfold linkTells at hU
        simp only [] at hU hRk
        have HU := Lib.hid hU; clear hU
        obtain ⟨fx, hfx⟩ : ∃ fx, findE T tl v ⟨s.toArray⟩ = fx := ⟨_, rfl⟩
        have HFI : ∀ w, Below w4.heap.size w4 w → Calls Try.prog 14 #[.int .i64 v, .string ⟨s.toArray⟩, .pointer (some ⟨W.heap.size, 0, none⟩)] w fun e w' => e = .returned (foundV fx) ∧ Below w.heap.size w w' := fun w hb => by
          rw [← hfx]
          exact find_any W.heap.size bo tl tc (by omega) T v ⟨s.toArray⟩ w ((hb.cell (p := ⟨W.heap.size, 0, none⟩) HS.out.lt).trans HS.out.box) ((HS.out.t.low hb).up hb.size)
        have hRk2 : R k = if ((E k).ty.toList == [36, 62]) && (er == 0) then resE (if nn then none else fx) (E k) else E k := by
          rw [hRk]
          split
          · rw [← hfx]; cases nn <;> rfl
          · rfl
        clear hRk hfx
        rcases h1 : (E k).ty.toList == [36, 62] with _ | _
        all_goals rcases h2 : er == 0 with _ | _
        all_goals rw [h1, h2] at hRk2
        all_goals
          have hRk := Lib.hid hRk2; clear hRk2
          replace HFI := Lib.hid HFI
          go_upto_if 77 with (first
            | (go_at_call 18
               refine (HU.out _).mono ?_
               rintro en w5 ⟨rfl, hb5⟩
               have hbx : w5.heap[wr.heap.size]? = some (.cells (E k).cells 29) := (hb5.block _ (by simp)).trans (new_block _ _)
               have hb6 : Below wr.heap.size wr w5 := (below_alloc wr (.cells (E k).cells 29)).trans (hb5.mono (by simp))
               have hz6 := lt_of_block hbx
               have k0 := list_cells hbx 0 _ rfl
               have k1 := list_cells hbx 1 _ rfl
               have k2 := list_cells hbx 2 _ rfl
               have k3 := list_cells hbx 3 _ rfl
               have k4 := list_cells hbx 4 _ rfl
               have k5 := list_cells hbx 5 _ rfl
               have k6 := list_cells hbx 6 _ rfl
               have k7 := list_cells hbx 7 _ rfl
               obtain ⟨ha, hf⟩ := bcell hb6
               replace hbx := Lib.hid hbx
               replace hb6 := Lib.hid hb6
               clear hb5)
            | fail)
          go_cut [] from 78 to 92 (fun wx => wx.heap[wr.heap.size]? = some (.cells (R k).cells 29) ∧ Below wr.heap.size wr wx)
          case rest =>
            obtain ⟨hcb, hcB⟩ := hcut
            have hB7 : Below w4.heap.size w4 wc := HB.out.trans (hcB.mono HB.out.size)
            obtain ⟨g2, off2, rfl, hgn, hRi⟩ := (HS.out.r.low hB7).at_ (by omega)
            have hRd := hRi.rd k hlt
            rw [range_getD len k hlt] at hRd
            have hzc := lt_of_block hcb
            have hFd := RdF.of hcb
            clear hRk hcb hcB hRi k0 k1 k2 k3 k4 k5 k6 k7 ha hf s0 s1 s2 s3 s4 s5 s6 s7
            revert hRd hFd
            generalize R k = y
            intro hRd hFd
            have hH0 : RdAt y g2 (off2 + k * 8) wc.drew ∧ RdF y wr.heap.size wc.drew := ⟨hRd, hFd⟩
            replace hB7 := Lib.hid hB7
            have hlt0 : wr.heap.size < wc.heap.size := hzc
            have hgn2 : g2 < wc.heap.size := by have := hB7.out.size; omega
            clear hRd hFd hzc hbx hb6
            go_upto_region 93 with fail
            refine plain_region hm (wpAny_of_held (S := fun w' => RdAt y g2 (off2 + k * 8) w' ∧ RdF y wr.heap.size w') _ _ _ _ ?_)
            refine wpAnyH_take (i := 0) (v := ?_) (by simp; rfl) (by kernel_rfl) (by kernel_rfl) (by kernel_rfl) (fun _ _ _ h => h) (Or.inl ⟨by rfl, ?_⟩) hH0 ?_
            rotate_left
            · intro w' hS
              obtain ⟨⟨p1, p2, p3, p4, p5, p6, p7, p8⟩, ⟨q1, q2, q3, q4, q5, q6, q7, q8⟩⟩ := hS
              go_simp
              rfl
            simp only [Act.put, List.setIfInBounds_toArray, List.set_cons_zero, List.set_cons_succ]
            refine wpAnyH_take (i := 1) (v := ?_) (by simp; rfl) (by kernel_rfl) (by kernel_rfl) (by kernel_rfl) (fun _ _ _ h => h) (Or.inl ⟨by rfl, ?_⟩) hH0 ?_
            rotate_left
            · intro w' hS
              obtain ⟨⟨p1, p2, p3, p4, p5, p6, p7, p8⟩, ⟨q1, q2, q3, q4, q5, q6, q7, q8⟩⟩ := hS
              go_simp
              rfl
            simp only [Act.put, List.setIfInBounds_toArray, List.set_cons_zero, List.set_cons_succ]
            refine wpAnyH_take (i := 2) (v := ?_) (by simp; rfl) (by kernel_rfl) (by kernel_rfl) (by kernel_rfl) (fun _ _ _ h => h) (Or.inl ⟨by rfl, ?_⟩) hH0 ?_
            rotate_left
            · intro w' hS
              obtain ⟨⟨p1, p2, p3, p4, p5, p6, p7, p8⟩, ⟨q1, q2, q3, q4, q5, q6, q7, q8⟩⟩ := hS
              go_simp
              rfl
            simp only [Act.put, List.setIfInBounds_toArray, List.set_cons_zero, List.set_cons_succ]
            refine wpAnyH_take (i := 3) (v := ?_) (by simp; rfl) (by kernel_rfl) (by kernel_rfl) (by kernel_rfl) (fun _ _ _ h => h) (Or.inl ⟨by rfl, ?_⟩) hH0 ?_
            rotate_left
            · intro w' hS
              obtain ⟨⟨p1, p2, p3, p4, p5, p6, p7, p8⟩, ⟨q1, q2, q3, q4, q5, q6, q7, q8⟩⟩ := hS
              go_simp
              rfl
            simp only [Act.put, List.setIfInBounds_toArray, List.set_cons_zero, List.set_cons_succ]
            refine wpAnyH_take (i := 4) (v := ?_) (by simp; rfl) (by kernel_rfl) (by kernel_rfl) (by kernel_rfl) (fun _ _ _ h => h) (Or.inl ⟨by rfl, ?_⟩) hH0 ?_
            rotate_left
            · intro w' hS
              obtain ⟨⟨p1, p2, p3, p4, p5, p6, p7, p8⟩, ⟨q1, q2, q3, q4, q5, q6, q7, q8⟩⟩ := hS
              go_simp
              rfl
            simp only [Act.put, List.setIfInBounds_toArray, List.set_cons_zero, List.set_cons_succ]
            refine wpAnyH_ready (rs := [5]) (by kernel_rfl) (by simp) ?_
            refine AllReadyH.cons (by simp; rfl) (fun K hK => ?_) AllReadyH.nil
            go_simp
            go_at_call 13
            refine (dsameStored_any y y _).mono ?_
            rintro en x1 ⟨rfl, hb1⟩
            rw [same_self]
            have hH1 : RdAt y g2 (off2 + k * 8) x1 ∧ RdF y wr.heap.size x1 := ⟨hH0.1.keep (hb1.block _ (by show g2 < wc.heap.size; exact hgn2)), hH0.2.keep (hb1.block _ (by show wr.heap.size < wc.heap.size; exact hlt0))⟩
            have hB1 : Below w4.heap.size w4 x1 := hB7.out.trans ((Below.trans (⟨rfl, rfl, rfl, Nat.le_refl _, fun _ _ => rfl⟩ : Below wc.heap.size wc wc.drew) hb1).mono hB7.out.size)
            clear hb1
            refine hK.out _ _ hH1 (fun hHeld => ?_)
            clear hK K hHeld
            try simp only [Act.put, List.setIfInBounds_toArray, List.set_cons_zero, List.set_cons_succ]
            refine wpAnyH_take (i := 6) (v := ?_) (by simp; rfl) (by kernel_rfl) (by kernel_rfl) (by kernel_rfl) (fun _ _ _ h => h) (Or.inl ⟨by rfl, ?_⟩) hH1 ?_
            rotate_left
            · intro w' hS
              obtain ⟨⟨p1, p2, p3, p4, p5, p6, p7, p8⟩, ⟨q1, q2, q3, q4, q5, q6, q7, q8⟩⟩ := hS
              go_simp
              rfl
            simp only [Act.put, List.setIfInBounds_toArray, List.set_cons_zero, List.set_cons_succ]
            refine wpAnyH_done (by kernel_rfl) ?_ _
            dsimp only [onlyK]
            clear hH0 hH1
            go_wp2_with fail
            go_roundg (len - (k + 1))
            case measure => have := HG.out; omega
            case rel => exact ⟨k + 1, by omega, by omega, by go_num, hB1⟩
        · go_wp2_with fail
          go_meet
          case rel => exact ⟨by rw [hRk.out]; exact hbx.out, hb6.out⟩
        · go_wp2_with fail
          go_meet
          case rel => exact ⟨by rw [hRk.out]; exact hbx.out, hb6.out⟩
        · go_wp2_with fail
          go_meet
          case rel => exact ⟨by rw [hRk.out]; exact hbx.out, hb6.out⟩
        · cases nn
          all_goals rcases fx with _ | x
          all_goals
            have HFJ := HFI.out
            clear HFI
            simp only [foundV, Ev.val] at HFJ
            replace HFJ := Lib.hid HFJ
            go_wp2_with (first
              | (go_at_call 14
                 refine (HFJ.out _ (HB.out.trans (hb6.out.mono HB.out.size))).mono ?_
                 rintro en w6 ⟨rfl, hb7⟩
                 have j0 := (hb7.cell (p := ⟨wr.heap.size, 0, none⟩) hz6).trans k0
                 have j1 := (hb7.cell (p := ⟨wr.heap.size, 1, none⟩) hz6).trans k1
                 have j2 := (hb7.cell (p := ⟨wr.heap.size, 2, none⟩) hz6).trans k2
                 have j3 := (hb7.cell (p := ⟨wr.heap.size, 3, none⟩) hz6).trans k3
                 have j4 := (hb7.cell (p := ⟨wr.heap.size, 4, none⟩) hz6).trans k4
                 have j5 := (hb7.cell (p := ⟨wr.heap.size, 5, none⟩) hz6).trans k5
                 have j6 := (hb7.cell (p := ⟨wr.heap.size, 6, none⟩) hz6).trans k6
                 have j7 := (hb7.cell (p := ⟨wr.heap.size, 7, none⟩) hz6).trans k7
                 have hbx2 : w6.heap[wr.heap.size]? = some (.cells (E k).cells 29) := (hb7.block _ hz6).trans hbx.out
                 have hfr : ∀ o, w6.frozen? ⟨wr.heap.size, o, none⟩ = false := fun o => by simp [World.frozen?, hbx2]
                 have hz7 := lt_of_block hbx2
                 have hb8 := Lib.hid (hb6.out.trans (hb7.mono hb6.out.size))
                 replace hbx2 := Lib.hid hbx2
                 clear hb7)
              | fail)
            go_meet
          · rw [show R k = ({E k with ty := unres} : Ev) from hRk.out]
            exact fin_unres hz7 hbx2.out hb8.out _
          · rw [show R k = x from hRk.out]
            exact fin_found hz7 hbx2.out hb8.out _ x
          · rw [show R k = ({E k with ty := unres} : Ev) from hRk.out]
            exact fin_unres hz7 hbx2.out hb8.out _
          · rw [show R k = ({E k with ty := unres} : Ev) from hRk.out]
            exact fin_unres hz7 hbx2.out hb8.out _
      · obtain rfl : k = len := by omega
        have hl : ¬ (k : Int) < (k : Int) := by omega
        go_wp2_with (first
          | (go_at_call 8
             refine (alive_view _).mono ?_
             rintro e w9 ⟨rfl, hb9⟩
             replace hb9 := Lib.hid hb9)
          | fail)
        go_ret
        exact ⟨rfl, HS.out.below.trans ((HB.out.trans (hb9.out.mono HB.out.size)).mono HS.out.below.size)⟩
end Go.Proofs.Ytimmdcajadddmaa
