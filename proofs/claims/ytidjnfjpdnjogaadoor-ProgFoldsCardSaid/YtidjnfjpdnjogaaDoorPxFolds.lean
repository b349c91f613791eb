/-
  ProgFolds: a program that is run over events, one behind the other: the state at the end, and how many failed; in two parts it is the same. Conditions: none.
-/
import Derived.Test.YtidjnfjpdnjogaaDoorPxL2
import Derived.Test.YtidjnfjpdnjogaaDoorPxD7
import Derived.Test.YtidjnfjpdnjogaaDoorPxStack
namespace Go.Proofs.YtidjnfjpdnjogaaDoor
open Go.RowKit Go.Lib

theorem wf64 {b : Nat} (h : (Lit.float .f64 b).wf = true) : b < 18446744073709551616 := by
  simpa [Lit.wf] using h
theorem EvArg.from {n₀ : Nat} {W : World} {ao ao' : Option Addr} {len c1 : Nat} {E : Nat → Ev} (h : EvArg n₀ W ao len E) (hc : c1 ≤ len) (ha : c1 < len → ∀ b off, ao = some ⟨b, off, none⟩ → ao' = some ⟨b, off + c1 * 8, none⟩) : EvArg n₀ W ao' (len - c1) (fun i => E (c1 + i)) :=
  ⟨fun hl => by
    obtain ⟨b, off, e, hn, hi⟩ := h.at_ (by omega)
    have hx : ∀ i r, off + c1 * 8 + i * 8 + r = off + (c1 + i) * 8 + r := fun i r => by omega
    have hy : ∀ i, off + c1 * 8 + i * 8 = off + (c1 + i) * 8 := fun i => by omega
    refine ⟨b, off + c1 * 8, ha (by omega) b off e, hn, hi.bl, ?_, ?_, ?_, ?_, ?_, ?_, ?_, ?_⟩
    · intro i h; rw [hy]; exact hi.c0 (c1 + i) (by omega)
    · intro i h; rw [hx]; exact hi.c1 (c1 + i) (by omega)
    · intro i h; rw [hx]; exact hi.c2 (c1 + i) (by omega)
    · intro i h; rw [hx]; exact hi.c3 (c1 + i) (by omega)
    · intro i h; rw [hx]; exact hi.c4 (c1 + i) (by omega)
    · intro i h; rw [hx]; exact hi.c5 (c1 + i) (by omega)
    · intro i h; rw [hx]; exact hi.c6 (c1 + i) (by omega)
    · intro i h; rw [hx]; exact hi.c7 (c1 + i) (by omega)⟩
theorem EvArg.first {n₀ : Nat} {W : World} {ao : Option Addr} {len c1 : Nat} {E : Nat → Ev} (h : EvArg n₀ W ao len E) (hc : c1 ≤ len) : EvArg n₀ W ao c1 E :=
  ⟨fun hl => by
    obtain ⟨b, off, e, hn, hi⟩ := h.at_ (by omega)
    exact ⟨b, off, e, hn, hi.bl, fun i h => hi.c0 i (by omega), fun i h => hi.c1 i (by omega), fun i h => hi.c2 i (by omega), fun i h => hi.c3 i (by omega), fun i h => hi.c4 i (by omega), fun i h => hi.c5 i (by omega), fun i h => hi.c6 i (by omega), fun i h => hi.c7 i (by omega)⟩⟩
theorem evs_low (ao : Option Addr) (len cap c1 : Nat) (h : c1 ≤ len) (hc : len ≤ cap) (w : World) :
    (Instr.slice 48 (.slice ao len cap) none (some (.int .i64 (c1 : Nat))) none).run Tryd.prog w = .ok (.slice ao c1 cap) w := by
  have ht : Tryd.prog.underlying 48 = some (.slice (Tryd.prog.elem 48)) := by kernel_rfl
  have hz : ∀ w, (Go.sizeOf (Tryd.prog.elem 48)).run Tryd.prog w = .ok 8 w := fun w => by kernel_rfl
  rw [run_slice_h w 48 _ _ _ ht .i64 _ (by omega) (by omega), hz]
  cases ao with
  | none => simp [Result.andThen, sliced]
  | some ad => simp [Result.andThen, sliced, Addr.add]
theorem evs_high (ao : Option Addr) (len cap c1 : Nat) (h : c1 ≤ len) (hc : len ≤ cap) : ∃ ao' : Option Addr, (c1 < len → ∀ b off, ao = some ⟨b, off, none⟩ → ao' = some ⟨b, off + c1 * 8, none⟩) ∧ ∀ w : World,
    (Instr.slice 48 (.slice ao len cap) (some (.int .i64 (c1 : Nat))) none none).run Tryd.prog w = .ok (.slice ao' (len - c1) (cap - c1)) w := by
  refine ⟨if cap = c1 then ao else ao.map (·.add (c1 * 8)), ?_, fun w => ?_⟩
  · rintro hl b off rfl
    rw [if_neg (by omega)]
    simp [addr_add1]
  have ht : Tryd.prog.underlying 48 = some (.slice (Tryd.prog.elem 48)) := by kernel_rfl
  have hz : ∀ w, (Go.sizeOf (Tryd.prog.elem 48)).run Tryd.prog w = .ok 8 w := fun w => by kernel_rfl
  rw [run_slice_l w 48 _ _ _ ht .i64 _ (by omega) (by omega), hz]
  simp [Result.andThen, sliced]

set_option maxRecDepth 100000 in
set_option maxHeartbeats 4000000 in
theorem folds_any (lw : List ByteArray) (vw : Value) (st : Nat) (hst : st < 18446744073709551616) (ao : Option Addr) (len cap : Nat) (E : Nat → Ev) (cut : Int) (W : World) (tw : Txs W vw lw) (fw : Fits lw)
    (hA : EvArg W.heap.size W ao len E) (hok : ∀ i, EvOk (E i)) (hmax : len ≤ maxLen) (hlc : len ≤ cap) (hcap : ao = none → cap = 0) :
    Calls Tryd.prog 7 #[vw, .int .u64 st, .slice ao len cap, .int .i64 cut] W fun e w' => e = .returned (.bool true) ∧ Below W.heap.size W w' := by
  obtain ⟨po, pc, rfl⟩ := tw.slice
  have HT := Lib.hid tw
  have HFi := Lib.hid fw
  have HA := Lib.hid hA
  have HOk := Lib.hid (And.intro hok (And.intro hlc hcap))
  have HSt := Lib.hid hst
  have hfr := runFrom
  have hm2 : Tryd.prog.follows .mixedOrders = true := by kernel_rfl
  unfold maxLen at hmax
  have hl63 : (len : Int) ≤ 9223372036854775807 := by omega
  clear tw fw hA hok hmax hcap hst hlc
  go_enter Tryd.func7, Tryd.ntmps7
  go_wp2_with fail
  refine (short_any 70 1500 (by decide) (by decide) lw _ _ HT.out HFi.out).mono ?_
  rintro e w1 ⟨b1, rfl, hs, hb⟩
  have HS := Lib.hid hs
  have HB := Lib.hid hb
  clear hs hb
  cases b1
  · go_wp2_with fail
    refine (alive_any _).mono ?_
    rintro e w9 ⟨rfl, hb9⟩
    have HB9 := Lib.hid (HB.out.trans (hb9.mono HB.out.size))
    clear hb9
    go_wp2_with fail
    go_ret
    exact ⟨rfl, HB9.out⟩
  · go_wp2_with fail
    refine (few_any 30 (by decide) ao len cap E _ (HA.out.low HB.out |>.up HB.out.size)).mono ?_
    rintro e w2 ⟨b2, rfl, hf, rfl⟩
    have HFw := Lib.hid hf
    clear hf
    cases b2
    · go_wp2_with fail
      refine (alive_any _).mono ?_
      rintro e w9 ⟨rfl, hb9⟩
      have HB9 := Lib.hid (HB.out.trans (hb9.mono HB.out.size))
      clear hb9
      go_wp2_with fail
      go_ret
      exact ⟨rfl, HB9.out⟩
    · by_cases c0 : cut < 0
      · go_wp2_with fail
        refine (alive_any _).mono ?_
        rintro e w9 ⟨rfl, hb9⟩
        have HB9 := Lib.hid (HB.out.trans (hb9.mono HB.out.size))
        clear hb9
        go_wp2_with fail
        go_ret
        exact ⟨rfl, HB9.out⟩
      · by_cases c1 : (len : Int) < cut
        · go_wp2_with fail
          refine (alive_any _).mono ?_
          rintro e w9 ⟨rfl, hb9⟩
          have HB9 := Lib.hid (HB.out.trans (hb9.mono HB.out.size))
          clear hb9
          go_wp2_with fail
          go_ret
          exact ⟨rfl, HB9.out⟩
        · obtain ⟨c1n, rfl⟩ := Int.eq_ofNat_of_zero_le (by omega : 0 ≤ cut)
          have hc1 : c1n ≤ len := by omega
          have hfw := HFw.out (by trivial)
          have hss := HS.out (by trivial)
          have hln : len ≤ 30 := by omega
          have hEv : ∀ i, i < len → (E i).data.size ≤ 281474976710656 ∧ (E i).value < 18446744073709551616 := fun i hi => ⟨by have := (hfw.2 i hi).2.2; omega, wf64 (HOk.out.1 i).value⟩
          have HEv := Lib.hid hEv
          have HSh : Hid (Shorts lw) := Lib.hid (fun s hs => by have := hss.2 s hs; omega)
          have hlt : ∀ k, k ≤ len → (foldB (tl lw) E st k).1 < 18446744073709551616 := by
            intro k hk
            induction k with
            | zero => exact HSt.out
            | succ k ih =>
              show (stepF (tl lw) (E k) (foldB (tl lw) E st k)).1 < _
              unfold stepF
              split
              · exact runB_lt _ _ (ih (by omega)) (hEv k (by omega)).2
              · exact ih (by omega)
          have HLt := Lib.hid hlt
          have hcl := evs_low ao len cap c1n hc1 HOk.out.2.1
          obtain ⟨ao', hao', hch⟩ := evs_high ao len cap c1n hc1 HOk.out.2.1
          have HAo := Lib.hid (And.intro hc1 hao')
          clear hEv hlt hss hfw HFw HS hao' hc1
          go_wp2_with fail
          have hd0 : decide ((c1n : Int) < 0) = false := by simp
          have hd1 : decide (len < c1n) = false := by have := HAo.out.1; simp; omega
          rw [hd0, hd1, show (false || false) = false from rfl]
          clear hd0 hd1
          have hal := below_alloc w2 (.cells #[.slice po lw.length pc] 28)
          go_loopg [11, 12, 13] len (fun g x f i wr => ∃ k : Nat, g = len - k ∧ k ≤ len ∧ x = .float .f64 (foldB (tl lw) E st k).1 ∧ f = .int .i64 (foldB (tl lw) E st k).2 ∧ i = .int .i64 k ∧ wr.heap[w2.heap.size]? = some (.cells #[.slice po lw.length pc] 28) ∧ Below W.heap.size W wr)
          case atStart => exact ⟨0, by omega, by omega, rfl, rfl, rfl, new_block _ _, HB.out.trans (hal.mono HB.out.size)⟩
          case round =>
            obtain ⟨k, hg, hk, rfl, rfl, rfl, hp, hb⟩ := hrel
            have HG := Lib.hid hg; clear hg
            by_cases hkl : k < len
            · obtain ⟨b, off, rfl, hbn, hEi⟩ := (HA.out.low hb).at_ (by omega)
              have hl : (k : Int) < (len : Int) := by omega
              have hw1 : IntKind.i64.wrap ((k : Int) + 1) = (k : Int) + 1 := IntWalk.i64_in _ (by omega)
              have hfl := foldB_faults (tl lw) E st k
              have hw2 : IntKind.i64.wrap (((foldB (tl lw) E st k).2 : Int) + 1) = ((foldB (tl lw) E st k).2 : Int) + 1 := IntWalk.i64_in _ (by omega)
              obtain ⟨e0, e1, e2, e3, e4, e5, e6, e7⟩ := hEi.rd k hkl
              have hbz := hEi.bl
              have hR := drun_any (evEn (foldB (tl lw) E st k).1 (E k)) ⟨HLt.out k (by omega), (HEv.out k hkl).2, (HEv.out k hkl).1⟩ lw HSh.out (.slice po lw.length pc)
              have hst : foldB (tl lw) E st (k + 1) = stepF (tl lw) (E k) (foldB (tl lw) E st k) := rfl
              unfold stepF at hst
              have HP := Lib.hid (And.intro hp hb)
              revert hw2 hR hst
              generalize (foldB (tl lw) E st k).1 = x
              generalize (foldB (tl lw) E st k).2 = q
              intro hw2 hR hst
              revert hR hst
              generalize runB (evEn x (E k)) (tl lw) = T
              intro hR hst
              have HR := Lib.hid hR
              have HST := Lib.hid hst
              unfold DRuns Tell.dval at HR
              clear hR hst hp hb hEi hfl
              have hH0 : RdAt (E k) b (off + k * 8) wr.drew := ⟨e0, e1, e2, e3, e4, e5, e6, e7⟩
              clear e0 e1 e2 e3 e4 e5 e6 e7
              go_upto_region 9 with fail
              refine plain_region hm2 (wpAny_of_held (S := RdAt (E k) b (off + k * 8)) _ _ _ _ ?_)
              refine wpAnyH_take (i := 0) (v := ?_) (by simp; rfl) (by kernel_rfl) (by kernel_rfl) (by kernel_rfl) (fun _ _ _ h => h) (Or.inl ⟨by rfl, ?_⟩) hH0 ?_
              rotate_left
              · intro w' hS
                obtain ⟨s1, s2, s3, s4, s5, s6, s7, s8⟩ := hS
                go_simp
                rfl
              simp only [Act.put, List.setIfInBounds_toArray, List.set_cons_zero, List.set_cons_succ]
              refine wpAnyH_take (i := 1) (v := ?_) (by simp; rfl) (by kernel_rfl) (by kernel_rfl) (by kernel_rfl) (fun _ _ _ h => h) (Or.inl ⟨by rfl, ?_⟩) hH0 ?_
              rotate_left
              · intro w' hS
                obtain ⟨s1, s2, s3, s4, s5, s6, s7, s8⟩ := hS
                go_simp
                rfl
              simp only [Act.put, List.setIfInBounds_toArray, List.set_cons_zero, List.set_cons_succ]
              refine wpAnyH_take (i := 2) (v := ?_) (by simp; rfl) (by kernel_rfl) (by kernel_rfl) (by kernel_rfl) (fun _ _ _ h => h) (Or.inl ⟨by rfl, ?_⟩) hH0 ?_
              rotate_left
              · intro w' hS
                obtain ⟨s1, s2, s3, s4, s5, s6, s7, s8⟩ := hS
                go_simp
                rfl
              simp only [Act.put, List.setIfInBounds_toArray, List.set_cons_zero, List.set_cons_succ]
              refine wpAnyH_take (i := 3) (v := ?_) (by simp; rfl) (by kernel_rfl) (by kernel_rfl) (by kernel_rfl) (fun _ _ _ h => h) (Or.inl ⟨by rfl, ?_⟩) hH0 ?_
              rotate_left
              · intro w' hS
                obtain ⟨s1, s2, s3, s4, s5, s6, s7, s8⟩ := hS
                go_simp
                rfl
              simp only [Act.put, List.setIfInBounds_toArray, List.set_cons_zero, List.set_cons_succ]
              refine wpAnyH_take (i := 4) (v := ?_) (by simp; rfl) (by kernel_rfl) (by kernel_rfl) (by kernel_rfl) (fun _ _ _ h => h) (Or.inl ⟨by rfl, ?_⟩) hH0 ?_
              rotate_left
              · intro w' hS
                obtain ⟨s1, s2, s3, s4, s5, s6, s7, s8⟩ := hS
                go_simp
                rfl
              simp only [Act.put, List.setIfInBounds_toArray, List.set_cons_zero, List.set_cons_succ]
              refine wpAnyH_take (i := 5) (v := ?_) (by simp; rfl) (by kernel_rfl) (by kernel_rfl) (by kernel_rfl) (fun _ _ _ h => h) (Or.inl ⟨by rfl, ?_⟩) hH0 ?_
              rotate_left
              · intro w' hS
                obtain ⟨s1, s2, s3, s4, s5, s6, s7, s8⟩ := hS
                go_simp
                rfl
              simp only [Act.put, List.setIfInBounds_toArray, List.set_cons_zero, List.set_cons_succ]
              refine wpAnyH_take (i := 6) (v := ?_) (by simp; rfl) (by kernel_rfl) (by kernel_rfl) (by kernel_rfl) (fun _ _ _ h => h) (Or.inl ⟨by rfl, ?_⟩) hH0 ?_
              rotate_left
              · intro w' hS
                obtain ⟨s1, s2, s3, s4, s5, s6, s7, s8⟩ := hS
                go_simp
                rfl
              simp only [Act.put, List.setIfInBounds_toArray, List.set_cons_zero, List.set_cons_succ]
              refine wpAnyH_take (i := 7) (v := ?_) (by simp; rfl) (by kernel_rfl) (by kernel_rfl) (by kernel_rfl) (fun _ _ _ h => h) (Or.inl ⟨by rfl, ?_⟩) hH0 ?_
              rotate_left
              · intro w' hS
                obtain ⟨s1, s2, s3, s4, s5, s6, s7, s8⟩ := hS
                go_simp
                rfl
              simp only [Act.put, List.setIfInBounds_toArray, List.set_cons_zero, List.set_cons_succ]
              refine wpAnyH_take (i := 8) (v := ?_) (by simp; rfl) (by kernel_rfl) (by kernel_rfl) (by kernel_rfl) (fun _ _ _ h => h) (Or.inl ⟨by rfl, ?_⟩) hH0 ?_
              rotate_left
              · intro w' hS
                obtain ⟨s1, s2, s3, s4, s5, s6, s7, s8⟩ := hS
                go_simp
                rfl
              simp only [Act.put, List.setIfInBounds_toArray, List.set_cons_zero, List.set_cons_succ]
              refine wpAnyH_take (i := 9) (v := ?_) (by simp; rfl) (by kernel_rfl) (by kernel_rfl) (by kernel_rfl) (fun _ _ _ h => h) (Or.inl ⟨by rfl, ?_⟩) hH0 ?_
              rotate_left
              · intro w' hS
                obtain ⟨s1, s2, s3, s4, s5, s6, s7, s8⟩ := hS
                go_simp
                rfl
              simp only [Act.put, List.setIfInBounds_toArray, List.set_cons_zero, List.set_cons_succ]
              refine wpAnyH_take (i := 10) (v := ?_) (by simp; rfl) (by kernel_rfl) (by kernel_rfl) (by kernel_rfl) (fun _ _ _ h => h) (Or.inl ⟨by rfl, ?_⟩) hH0 ?_
              rotate_left
              · intro w' hS
                obtain ⟨s1, s2, s3, s4, s5, s6, s7, s8⟩ := hS
                go_simp
                rfl
              simp only [Act.put, List.setIfInBounds_toArray, List.set_cons_zero, List.set_cons_succ]
              refine wpAnyH_take (i := 11) (v := ?_) (by simp; rfl) (by kernel_rfl) (by kernel_rfl) (by kernel_rfl) (fun _ _ _ h => h) (Or.inl ⟨by rfl, ?_⟩) hH0 ?_
              rotate_left
              · intro w' hS
                obtain ⟨s1, s2, s3, s4, s5, s6, s7, s8⟩ := hS
                go_simp
                rfl
              simp only [Act.put, List.setIfInBounds_toArray, List.set_cons_zero, List.set_cons_succ]
              refine wpAnyH_ready (rs := [12]) (by kernel_rfl) (by simp) ?_
              refine AllReadyH.cons (by simp; rfl) (fun K hK => ?_) AllReadyH.nil
              go_simp
              go_at_call 21
              refine (HR.out wr.drew ((HT.out.below HP.out.2).below ⟨rfl, rfl, rfl, Nat.le_refl _, fun _ _ => rfl⟩)).mono ?_
              rintro e w4 ⟨rfl, hb4⟩
              have hb4' : Below wr.heap.size wr w4 := Below.trans (⟨rfl, rfl, rfl, Nat.le_refl _, fun _ _ => rfl⟩ : Below wr.heap.size wr wr.drew) hb4
              have hH1 : RdAt (E k) b (off + k * 8) w4 := hH0.keep (hb4'.block _ hbz)
              have H4 := Lib.hid (And.intro ((hb4'.block _ (lt_of_block HP.out.1)).trans HP.out.1) (HP.out.2.trans (hb4'.mono HP.out.2.size)))
              clear hb4 hb4' HP hbz
              refine hK.out _ _ hH1 (fun hHeld => ?_)
              clear hK K hHeld
              try simp only [Act.put, List.setIfInBounds_toArray, List.set_cons_zero, List.set_cons_succ]
              refine wpAnyH_take (i := 13) (v := ?_) (by simp; rfl) (by kernel_rfl) (by kernel_rfl) (by kernel_rfl) (fun _ _ _ h => h) (Or.inl ⟨by rfl, ?_⟩) hH1 ?_
              rotate_left
              · intro w' hS
                obtain ⟨s1, s2, s3, s4, s5, s6, s7, s8⟩ := hS
                go_simp
                rfl
              simp only [Act.put, List.setIfInBounds_toArray, List.set_cons_zero, List.set_cons_succ]
              refine wpAnyH_take (i := 14) (v := ?_) (by simp; rfl) (by kernel_rfl) (by kernel_rfl) (by kernel_rfl) (fun _ _ _ h => h) (Or.inl ⟨by rfl, ?_⟩) hH1 ?_
              rotate_left
              · intro w' hS
                obtain ⟨s1, s2, s3, s4, s5, s6, s7, s8⟩ := hS
                go_simp
                rfl
              simp only [Act.put, List.setIfInBounds_toArray, List.set_cons_zero, List.set_cons_succ]
              refine wpAnyH_take (i := 18) (v := ?_) (by simp; rfl) (by kernel_rfl) (by kernel_rfl) (by kernel_rfl) (fun _ _ _ h => h) (Or.inl ⟨by rfl, ?_⟩) hH1 ?_
              rotate_left
              · intro w' hS
                obtain ⟨s1, s2, s3, s4, s5, s6, s7, s8⟩ := hS
                go_simp
                rfl
              simp only [Act.put, List.setIfInBounds_toArray, List.set_cons_zero, List.set_cons_succ]
              refine wpAnyH_take (i := 15) (v := ?_) (by simp; rfl) (by kernel_rfl) (by kernel_rfl) (by kernel_rfl) (fun _ _ _ h => h) (Or.inl ⟨by rfl, ?_⟩) hH1 ?_
              rotate_left
              · intro w' hS
                obtain ⟨s1, s2, s3, s4, s5, s6, s7, s8⟩ := hS
                go_simp
                rfl
              simp only [Act.put, List.setIfInBounds_toArray, List.set_cons_zero, List.set_cons_succ]
              refine wpAnyH_take (i := 19) (v := ?_) (by simp; rfl) (by kernel_rfl) (by kernel_rfl) (by kernel_rfl) (fun _ _ _ h => h) (Or.inl ⟨by rfl, ?_⟩) hH1 ?_
              rotate_left
              · intro w' hS
                obtain ⟨s1, s2, s3, s4, s5, s6, s7, s8⟩ := hS
                go_simp
                rfl
              simp only [Act.put, List.setIfInBounds_toArray, List.set_cons_zero, List.set_cons_succ]
              refine wpAnyH_take (i := 16) (v := ?_) (by simp; rfl) (by kernel_rfl) (by kernel_rfl) (by kernel_rfl) (fun _ _ _ h => h) (Or.inl ⟨by rfl, ?_⟩) hH1 ?_
              rotate_left
              · intro w' hS
                obtain ⟨s1, s2, s3, s4, s5, s6, s7, s8⟩ := hS
                go_simp
                rfl
              simp only [Act.put, List.setIfInBounds_toArray, List.set_cons_zero, List.set_cons_succ]
              refine wpAnyH_take (i := 20) (v := ?_) (by simp; rfl) (by kernel_rfl) (by kernel_rfl) (by kernel_rfl) (fun _ _ _ h => h) (Or.inl ⟨by rfl, ?_⟩) hH1 ?_
              rotate_left
              · intro w' hS
                obtain ⟨s1, s2, s3, s4, s5, s6, s7, s8⟩ := hS
                go_simp
                rfl
              simp only [Act.put, List.setIfInBounds_toArray, List.set_cons_zero, List.set_cons_succ]
              refine wpAnyH_take (i := 17) (v := ?_) (by simp; rfl) (by kernel_rfl) (by kernel_rfl) (by kernel_rfl) (fun _ _ _ h => h) (Or.inl ⟨by rfl, ?_⟩) hH1 ?_
              rotate_left
              · intro w' hS
                obtain ⟨s1, s2, s3, s4, s5, s6, s7, s8⟩ := hS
                go_simp
                rfl
              simp only [Act.put, List.setIfInBounds_toArray, List.set_cons_zero, List.set_cons_succ]
              refine wpAnyH_take (i := 21) (v := ?_) (by simp; rfl) (by kernel_rfl) (by kernel_rfl) (by kernel_rfl) (fun _ _ _ h => h) (Or.inl ⟨by rfl, ?_⟩) hH1 ?_
              rotate_left
              · intro w' hS
                obtain ⟨s1, s2, s3, s4, s5, s6, s7, s8⟩ := hS
                go_simp
                rfl
              simp only [Act.put, List.setIfInBounds_toArray, List.set_cons_zero, List.set_cons_succ]
              refine wpAnyH_done (by kernel_rfl) ?_ _
              dsimp only [onlyK]
              clear hH0 hH1
              by_cases herr : T.err = 0
              · rw [if_pos herr] at HST
                have HST2 := Lib.hid HST.out
                obtain ⟨tv, te, tk, tt⟩ := T
                dsimp only at herr HST2
                subst herr
                clear HST HR
                go_wp2_with fail
                go_roundg (len - (k + 1))
                case measure => have := HG.out; omega
                case rel => exact ⟨k + 1, rfl, by omega, by rw [HST2.out], by rw [HST2.out], by go_num, H4.out.1, H4.out.2⟩
              · rw [if_neg herr] at HST
                have HST2 := Lib.hid HST.out
                have hef : (T.err != 0) = true := by simpa using herr
                clear HST HR herr
                obtain ⟨tv, te, tk, tt⟩ := T
                dsimp only at hef
                go_wp2_with fail
                go_roundg (len - (k + 1))
                case measure => have := HG.out; omega
                case rel => exact ⟨k + 1, rfl, by omega, by rw [HST2.out], by rw [HST2.out]; go_num, by go_num, H4.out.1, H4.out.2⟩
            · obtain rfl : k = len := by omega
              have hl : ¬ (k : Int) < (k : Int) := by omega
              have HP := Lib.hid (And.intro hp hb); clear hp hb
              go_wp2_with fail
              refine (lent_any ao k cap (by omega) HOk.out.2.2 E _ (HA.out.low HP.out.2 |>.up HP.out.2.size)).mono ?_
              rintro e w5 ⟨g, c, rfl, hL, hb5⟩
              have hp5 := (hb5.block _ (lt_of_block HP.out.1)).trans HP.out.1
              obtain ⟨d5, -⟩ := cell_of_block1 hp5
              have z5 := lt_of_block hp5
              have H5 := Lib.hid (And.intro hL (And.intro hp5 (HP.out.2.trans (hb5.mono HP.out.2.size))))
              clear hL hp5 hb5 HP
              go_wp2_with fail
              refine (fold_any lw HFi.out (.slice po lw.length pc) (some ⟨g, 0, none⟩) k c (by omega) E HEv.out st HSt.out w5 (HT.out.below H5.out.2.2) H5.out.1.arg).mono ?_
              rintro e w6 ⟨rfl, hb6⟩
              have hp6 := (hb6.block _ z5).trans H5.out.2.1
              obtain ⟨d6, -⟩ := cell_of_block1 hp6
              have z6 := lt_of_block hp6
              have H6 := Lib.hid (And.intro (H5.out.1.keep hb6) (And.intro hp6 (H5.out.2.2.trans (hb6.mono H5.out.2.2.size))))
              clear hp6 hb6 H5 d5 z5
              have hH0 : w6.drew.cell? ⟨w2.heap.size, 0, none⟩ = some (.slice po lw.length pc) := d6
              go_upto_region 15 with fail
              refine plain_region hm2 (wpAny_of_held (S := fun w' => w'.cell? ⟨w2.heap.size, 0, none⟩ = some (.slice po lw.length pc)) _ _ _ _ ?_)
              refine wpAnyH_take (i := 0) (v := ?_) (by simp; rfl) (by kernel_rfl) (by kernel_rfl) (by kernel_rfl) (fun _ _ _ h => h) (Or.inl ⟨by rfl, ?_⟩) hH0 ?_
              rotate_left
              · intro w' hS
                go_simp
                rfl
              simp only [Act.put, List.setIfInBounds_toArray, List.set_cons_zero, List.set_cons_succ]
              refine wpAnyH_take (i := 1) (v := ?_) (by simp; rfl) (by kernel_rfl) (by kernel_rfl) (by kernel_rfl) (fun _ _ _ h => h) (Or.inl ⟨by rfl, ?_⟩) hH0 ?_
              rotate_left
              · intro w' hS
                go_simp
                rfl
              simp only [Act.put, List.setIfInBounds_toArray, List.set_cons_zero, List.set_cons_succ]
              refine wpAnyH_take (i := 2) (v := ?_) (by simp; rfl) (by kernel_rfl) (by kernel_rfl) (by kernel_rfl) (fun _ _ _ h => h) (Or.inl ⟨by rfl, ?_⟩) hH0 ?_
              rotate_left
              · intro w' hS
                go_simp
                rfl
              simp only [Act.put, List.setIfInBounds_toArray, List.set_cons_zero, List.set_cons_succ]
              refine wpAnyH_take (i := 3) (v := ?_) (by simp; rfl) (by kernel_rfl) (by kernel_rfl) (by kernel_rfl) (fun _ _ _ h => h) (Or.inl ⟨by rfl, ?_⟩) hH0 ?_
              rotate_left
              · intro w' hS
                go_simp
                rfl
              simp only [Act.put, List.setIfInBounds_toArray, List.set_cons_zero, List.set_cons_succ]
              refine wpAnyH_take (i := 4) (v := ?_) (by simp; rfl) (by kernel_rfl) (by kernel_rfl) (by kernel_rfl) (fun _ _ _ h => h) (Or.inl ⟨by rfl, ?_⟩) hH0 ?_
              rotate_left
              · intro w' hS
                go_simp
                rfl
              simp only [Act.put, List.setIfInBounds_toArray, List.set_cons_zero, List.set_cons_succ]
              refine wpAnyH_ready (rs := [5]) (by kernel_rfl) (by simp) ?_
              refine AllReadyH.cons (by simp; rfl) (fun K hK => ?_) AllReadyH.nil
              go_simp
              go_at_call 23
              have bdr : Below w6.heap.size w6 w6.drew := ⟨rfl, rfl, rfl, Nat.le_refl _, fun _ _ => rfl⟩
              refine (fold_any lw HFi.out (.slice po lw.length pc) ao c1n cap (by have := HAo.out.1; omega) E (fun i hi => HEv.out i (by have := HAo.out.1; omega)) st HSt.out w6.drew ((HT.out.below H6.out.2.2).below bdr) ((((HA.out.low H6.out.2.2).low (bdr.mono H6.out.2.2.size)).up H6.out.2.2.size).first HAo.out.1)).mono ?_
              rintro e w7 ⟨rfl, hbq⟩
              have hb7 : Below w6.heap.size w6 w7 := bdr.trans hbq
              clear hbq bdr
              have hp7 := (hb7.block _ z6).trans H6.out.2.1
              obtain ⟨d7, -⟩ := cell_of_block1 hp7
              have z7 := lt_of_block hp7
              have H7 := Lib.hid (And.intro (H6.out.1.keep hb7) (And.intro hp7 (H6.out.2.2.trans (hb7.mono H6.out.2.2.size))))
              have hH1 : w7.cell? ⟨w2.heap.size, 0, none⟩ = some (.slice po lw.length pc) := d7
              refine hK.out _ _ hH1 (fun hHeld => ?_)
              clear hK K hHeld
              try simp only [Act.put, List.setIfInBounds_toArray, List.set_cons_zero, List.set_cons_succ]
              refine wpAnyH_take (i := 6) (v := ?_) (by simp; rfl) (by kernel_rfl) (by kernel_rfl) (by kernel_rfl) (fun _ _ _ h => h) (Or.inl ⟨by rfl, ?_⟩) hH1 ?_
              rotate_left
              · intro w' hS
                go_simp
                rfl
              simp only [Act.put, List.setIfInBounds_toArray, List.set_cons_zero, List.set_cons_succ]
              refine wpAnyH_take (i := 7) (v := ?_) (by simp; rfl) (by kernel_rfl) (by kernel_rfl) (by kernel_rfl) (fun _ _ _ h => h) (Or.inl ⟨by rfl, ?_⟩) hH1 ?_
              rotate_left
              · intro w' hS
                go_simp
                rfl
              simp only [Act.put, List.setIfInBounds_toArray, List.set_cons_zero, List.set_cons_succ]
              refine wpAnyH_take (i := 9) (v := ?_) (by simp; rfl) (by kernel_rfl) (by kernel_rfl) (by kernel_rfl) (fun _ _ _ h => h) (Or.inl ⟨by rfl, ?_⟩) hH1 ?_
              rotate_left
              · intro w' hS
                go_simp
                rfl
              simp only [Act.put, List.setIfInBounds_toArray, List.set_cons_zero, List.set_cons_succ]
              refine wpAnyH_take (i := 8) (v := ?_) (by simp; rfl) (by kernel_rfl) (by kernel_rfl) (by kernel_rfl) (fun _ _ _ h => h) (Or.inl ⟨by rfl, ?_⟩) hH1 ?_
              rotate_left
              · intro w' hS
                go_simp
                rfl
              simp only [Act.put, List.setIfInBounds_toArray, List.set_cons_zero, List.set_cons_succ]
              refine wpAnyH_take (i := 10) (v := ?_) (by simp; rfl) (by kernel_rfl) (by kernel_rfl) (by kernel_rfl) (fun _ _ _ h => h) (Or.inl ⟨by rfl, ?_⟩) hH1 ?_
              rotate_left
              · intro w' hS
                go_simp
                rfl
              simp only [Act.put, List.setIfInBounds_toArray, List.set_cons_zero, List.set_cons_succ]
              refine wpAnyH_done (by kernel_rfl) ?_ _
              dsimp only [onlyK]
              clear hH0 hH1
              clear hp7 hb7 H6 d6 z6
              have hH0 : w7.drew.cell? ⟨w2.heap.size, 0, none⟩ = some (.slice po lw.length pc) := d7
              go_upto_region 16 with fail
              refine plain_region hm2 (wpAny_of_held (S := fun w' => w'.cell? ⟨w2.heap.size, 0, none⟩ = some (.slice po lw.length pc)) _ _ _ _ ?_)
              refine wpAnyH_take (i := 0) (v := ?_) (by simp; rfl) (by kernel_rfl) (by kernel_rfl) (by kernel_rfl) (fun _ _ _ h => h) (Or.inl ⟨by rfl, ?_⟩) hH0 ?_
              rotate_left
              · intro w' hS
                go_simp
                rfl
              simp only [Act.put, List.setIfInBounds_toArray, List.set_cons_zero, List.set_cons_succ]
              refine wpAnyH_take (i := 1) (v := ?_) (by simp; rfl) (by kernel_rfl) (by kernel_rfl) (by kernel_rfl) (fun _ _ _ h => h) (Or.inl ⟨by rfl, ?_⟩) hH0 ?_
              rotate_left
              · intro w' hS
                go_simp
                rfl
              simp only [Act.put, List.setIfInBounds_toArray, List.set_cons_zero, List.set_cons_succ]
              refine wpAnyH_take (i := 2) (v := ?_) (by simp; rfl) (by kernel_rfl) (by kernel_rfl) (by kernel_rfl) (fun _ _ _ h => h) (Or.inl ⟨by rfl, ?_⟩) hH0 ?_
              rotate_left
              · intro w' hS
                go_simp
                rfl
              simp only [Act.put, List.setIfInBounds_toArray, List.set_cons_zero, List.set_cons_succ]
              refine wpAnyH_take (i := 3) (v := ?_) (by simp; rfl) (by kernel_rfl) (by kernel_rfl) (by kernel_rfl) (fun _ _ _ h => h) (Or.inl ⟨by rfl, ?_⟩) hH0 ?_
              rotate_left
              · intro w' hS
                go_simp
                rfl
              simp only [Act.put, List.setIfInBounds_toArray, List.set_cons_zero, List.set_cons_succ]
              refine wpAnyH_take (i := 4) (v := ?_) (by simp; rfl) (by kernel_rfl) (by kernel_rfl) (by kernel_rfl) (fun _ _ _ h => h) (Or.inl ⟨by rfl, ?_⟩) hH0 ?_
              rotate_left
              · intro w' hS
                go_simp
                rfl
              simp only [Act.put, List.setIfInBounds_toArray, List.set_cons_zero, List.set_cons_succ]
              refine wpAnyH_ready (rs := [5]) (by kernel_rfl) (by simp) ?_
              refine AllReadyH.cons (by simp; rfl) (fun K hK => ?_) AllReadyH.nil
              go_simp
              go_at_call 23
              have bdr : Below w7.heap.size w7 w7.drew := ⟨rfl, rfl, rfl, Nat.le_refl _, fun _ _ => rfl⟩
              refine (fold_any lw HFi.out (.slice po lw.length pc) ao' (k - c1n) (cap - c1n) (by omega) (fun i => E (c1n + i)) (fun i hi => HEv.out (c1n + i) (by have := HAo.out.1; omega)) (foldB (tl lw) E st c1n).1 (HLt.out c1n HAo.out.1) w7.drew ((HT.out.below H7.out.2.2).below bdr) ((((HA.out.low H7.out.2.2).low (bdr.mono H7.out.2.2.size)).up H7.out.2.2.size).from HAo.out.1 HAo.out.2)).mono ?_
              rintro e w8 ⟨rfl, hbq⟩
              have hb8 : Below w7.heap.size w7 w8 := bdr.trans hbq
              clear hbq bdr
              have hp8 := (hb8.block _ z7).trans H7.out.2.1
              obtain ⟨d8, -⟩ := cell_of_block1 hp8
              have H8 := Lib.hid (And.intro (H7.out.1.keep hb8) (H7.out.2.2.trans (hb8.mono H7.out.2.2.size)))
              have hH1 : w8.cell? ⟨w2.heap.size, 0, none⟩ = some (.slice po lw.length pc) := d8
              refine hK.out _ _ hH1 (fun hHeld => ?_)
              clear hK K hHeld
              try simp only [Act.put, List.setIfInBounds_toArray, List.set_cons_zero, List.set_cons_succ]
              refine wpAnyH_take (i := 6) (v := ?_) (by simp; rfl) (by kernel_rfl) (by kernel_rfl) (by kernel_rfl) (fun _ _ _ h => h) (Or.inl ⟨by rfl, ?_⟩) hH1 ?_
              rotate_left
              · intro w' hS
                go_simp
                rfl
              simp only [Act.put, List.setIfInBounds_toArray, List.set_cons_zero, List.set_cons_succ]
              refine wpAnyH_take (i := 7) (v := ?_) (by simp; rfl) (by kernel_rfl) (by kernel_rfl) (by kernel_rfl) (fun _ _ _ h => h) (Or.inl ⟨by rfl, ?_⟩) hH1 ?_
              rotate_left
              · intro w' hS
                go_simp
                rfl
              simp only [Act.put, List.setIfInBounds_toArray, List.set_cons_zero, List.set_cons_succ]
              refine wpAnyH_take (i := 9) (v := ?_) (by simp; rfl) (by kernel_rfl) (by kernel_rfl) (by kernel_rfl) (fun _ _ _ h => h) (Or.inl ⟨by rfl, ?_⟩) hH1 ?_
              rotate_left
              · intro w' hS
                go_simp
                rfl
              simp only [Act.put, List.setIfInBounds_toArray, List.set_cons_zero, List.set_cons_succ]
              refine wpAnyH_take (i := 8) (v := ?_) (by simp; rfl) (by kernel_rfl) (by kernel_rfl) (by kernel_rfl) (fun _ _ _ h => h) (Or.inl ⟨by rfl, ?_⟩) hH1 ?_
              rotate_left
              · intro w' hS
                go_simp
                rfl
              simp only [Act.put, List.setIfInBounds_toArray, List.set_cons_zero, List.set_cons_succ]
              refine wpAnyH_take (i := 10) (v := ?_) (by simp; rfl) (by kernel_rfl) (by kernel_rfl) (by kernel_rfl) (fun _ _ _ h => h) (Or.inl ⟨by rfl, ?_⟩) hH1 ?_
              rotate_left
              · intro w' hS
                go_simp
                rfl
              simp only [Act.put, List.setIfInBounds_toArray, List.set_cons_zero, List.set_cons_succ]
              refine wpAnyH_done (by kernel_rfl) ?_ _
              dsimp only [onlyK]
              clear hH0 hH1
              clear hp8 hb8 H7 d7 z7 d8
              have hadd := foldB_add (tl lw) E st c1n (k - c1n)
              rw [show c1n + (k - c1n) = k by have := HAo.out.1; omega] at hadd
              have hf1 := foldB_faults (tl lw) E st k
              have hs1 : (foldB (tl lw) (fun i => E (c1n + i)) (foldB (tl lw) E st c1n).1 (k - c1n)).1 = (foldB (tl lw) E st k).1 := by rw [hadd]
              have hs2 : (foldB (tl lw) E st c1n).2 + (foldB (tl lw) (fun i => E (c1n + i)) (foldB (tl lw) E st c1n).1 (k - c1n)).2 = (foldB (tl lw) E st k).2 := by rw [hadd]
              have hq : (foldB (tl lw) E st k).1 < 18446744073709551616 := HLt.out k (Nat.le_refl _)
              rw [hs1]
              clear hadd hs1
              revert hs2 hf1 hq
              generalize (foldB (tl lw) (fun i => E (c1n + i)) (foldB (tl lw) E st c1n).1 (k - c1n)).2 = y2
              generalize (foldB (tl lw) E st c1n).2 = y1
              generalize (foldB (tl lw) E st k).2 = y0
              generalize (foldB (tl lw) E st k).1 = z0
              intro hs2 hf1 hq
              have hwy : IntKind.i64.wrap ((y1 : Int) + (y2 : Int)) = (y0 : Int) := by rw [IntWalk.i64_in _ (by omega)]; omega
              have HSm := Lib.hid (fun W => show Calls Tryd.prog 14 #[.float .f64 z0, .float .f64 z0] W fun en w' => en = .returned (.bool true) ∧ W = w' from by have h1 := dsame_any z0 z0 W; rw [show sameW z0 z0 = true from same_self z0] at h1; exact h1)
              clear hs2 hf1 hq
              go_wp2_with fail
              refine (alive_any _).mono ?_
              rintro e w9 ⟨rfl, hb9⟩
              have H9 := Lib.hid (And.intro (H8.out.1.keep hb9) (H8.out.2.trans (hb9.mono H8.out.2.size)))
              clear hb9 H8
              go_wp2_with fail
              refine (HSm.out _).mono ?_
              rintro e w10 ⟨rfl, rfl⟩
              go_wp2_with fail
              refine (HSm.out _).mono ?_
              rintro e w10 ⟨rfl, rfl⟩
              go_wp2_with fail
              refine (stays_any _ g c ao k cap (by omega) E w9 H9.out.1 ((HA.out.low H9.out.2).up H9.out.2.size)).mono ?_
              rintro e w11 ⟨rfl, hb11⟩
              have H11 := Lib.hid (H9.out.2.trans (hb11.mono H9.out.2.size))
              clear hb11
              go_wp2_with fail
              go_ret
              exact ⟨rfl, H11.out⟩
end Go.Proofs.YtidjnfjpdnjogaaDoor
