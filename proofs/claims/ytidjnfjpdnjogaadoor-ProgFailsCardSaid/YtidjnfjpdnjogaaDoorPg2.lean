/-
  Package prog: pop and two. Conditions: none.
-/
import Derived.Test.YtidjnfjpdnjogaaDoorPg1
import Derived.StillTailTactics
namespace Go.Proofs.YtidjnfjpdnjogaaDoor
open Go.RowKit Go.Lib

theorem bounds_run1 (x y : Int) (w : World) : ∃ s w', (boundsPanic .i64 x y .index : Sem Value).run Tryd.prog w = .halt (.panic (boundsValue Tryd.prog (IntKind.i64.wrap x) y s BoundsCode.index.toNat)) w' ∧ (w' = w ∨ w' = w.drew) := by
  unfold boundsPanic boundsValue
  split
  · simp [runtimePanic, goPanic, go_sem]
    by_cases hq : (Question.extern "runtime.boundsError.signed" 2).cut (w.tape w.drawn (Question.extern "runtime.boundsError.signed" 2)) = 1
    · exact Or.inr ⟨_, ⟨hq, rfl⟩, Or.inr rfl⟩
    · exact Or.inl ⟨_, ⟨hq, rfl⟩, Or.inr rfl⟩
  · simp [runtimePanic, goPanic, go_sem]
theorem bounds_run (x y : Int) : ∃ (S : World → Bool) (N : World → Nat), ∀ w, (boundsPanic .i64 x y .index : Sem Value).run Tryd.prog w = .halt (.panic (.iface 8 (.agg #[.int .i64 (IntKind.i64.wrap x), .int .i64 y, .bool (S w), .int .u8 0]))) (w.drewN (N w)) := by
  have h : ∀ w : World, ∃ q : Bool × Nat, (boundsPanic .i64 x y .index : Sem Value).run Tryd.prog w = .halt (.panic (.iface 8 (.agg #[.int .i64 (IntKind.i64.wrap x), .int .i64 y, .bool q.1, .int .u8 0]))) (w.drewN q.2) := by
    intro w
    have hrt : Tryd.prog.rt.boundsError = 8 := by kernel_rfl
    obtain ⟨s, w', h, rfl | rfl⟩ := bounds_run1 x y w
    · refine ⟨(s, 0), ?_⟩
      rw [h, boundsValue, hrt]; rfl
    · refine ⟨(s, 1), ?_⟩
      rw [h, boundsValue, hrt]; rfl
  exact ⟨fun w => (Classical.choose (h w)).1, fun w => (Classical.choose (h w)).2, fun w => Classical.choose_spec (h w)⟩

theorem Mach.top {B M : Nat} {e : En} {f : Nat} {st : List Nat} {v : Value} {w : World} (h : Mach B M e (f :: st) v w) : ∃ g cap, v = .slice (some ⟨g, 0, none⟩) (st.length + 1) cap ∧ st.length + 1 ≤ cap ∧ w.cell? ⟨g, st.length, none⟩ = some (.float .f64 f) ∧
    ∀ (x : World), x.heap = w.heap → Mach B M e st (.slice (some ⟨g, 0, none⟩) st.length cap) (x.setCell ⟨M, 6, none⟩ (.slice (some ⟨g, 0, none⟩) st.length cap)) := by
  have hf := h.own
  rcases hf.2 with ⟨_, h0⟩ | ⟨g, cap, cur, rfl, hg, hb, hn, hm, hs, ht⟩
  · simp at h0
  have hcur : cur.toList.take (st.length + 1) = flts st ++ [.float .f64 f] := by rw [← flts_cons, ← ht]; simp
  refine ⟨g, cap, by simp, by simpa using hn, ?_, ?_⟩
  · have : cur[st.length]? = some (.float .f64 f) := by
      have h2 : (cur.toList.take (st.length + 1))[st.length]? = some (.float .f64 f) := by
        rw [hcur, List.getElem?_append_right (by rw [flts_length]; omega), flts_length]; simp
      rw [List.getElem?_take, if_pos (by omega)] at h2
      simpa using h2
    simp [World.cell?, hb, this]
  · intro x hx
    refine Mach.put (w := x) (st' := st) (v := .slice (some ⟨g, 0, none⟩) (f :: st).length cap) (by rw [hx]; exact h.at_) ?_ h.mb (by rw [hx]; exact h.bw) (fun k hk => h.fit k (by simp [hk]))
    refine ⟨by rw [flts_length]; simp, Or.inr ⟨g, cap, cur, rfl, hg, by rw [hx]; exact hb, by simp at hn; omega, hm, hs, ?_⟩⟩
    have h3 : (cur.toList.take (st.length + 1)).take st.length = flts st := by
      rw [hcur, List.take_append_of_le_length (by rw [flts_length]; omega), List.take_of_length_le (by rw [flts_length]; omega)]
    rw [List.take_take] at h3
    simpa using h3

def PopPost (B M : Nat) (en : En) (f : Nat) (st : List Nat) (w : World) (e : Ending) (w' : World) : Prop := e = .returned (.float .f64 f) ∧ (∃ v', Mach B M en st v' w') ∧ Wk B M w w'
/-- A run-time panic, and the machine lies there still. -/
def RtPost (B M : Nat) (w : World) (e : Ending) (w' : World) : Prop := (∃ t pv, e = .panicked [{ v := .iface t pv, recovered := false }] ∧ rtT t) ∧ Wk B M w w'

theorem slice_top (g cap n : Nat) (h : n + 1 ≤ cap) (w : World) : (Instr.slice 40 (.slice (some ⟨g, 0, none⟩) (n + 1) cap) none (some (.int .i64 n)) none).run Tryd.prog w = .ok (.slice (some ⟨g, 0, none⟩) n cap) w := by
  have ht : Tryd.prog.underlying 40 = some (.slice (Tryd.prog.elem 40)) := by kernel_rfl
  have hz : ∀ w, (Go.sizeOf (Tryd.prog.elem 40)).run Tryd.prog w = .ok 1 w := fun w => by kernel_rfl
  rw [run_slice_h w 40 _ _ _ ht .i64 _ (by omega) (by omega), hz]
  simp [Result.andThen, sliced, Addr.add]

set_option maxRecDepth 100000 in
theorem pop_some (B M : Nat) (en : En) (f : Nat) (st : List Nat) (v : Value) (hn : st.length ≤ 100000) (w : World) (h : Mach B M en (f :: st) v w) :
    Calls Tryd.prog 48 #[.pointer (some ⟨M, 0, none⟩)] w (PopPost B M en f st w) := by
  obtain ⟨g, cap, rfl, hcap, hc, hput⟩ := h.top
  obtain ⟨-, -, -, -, -, -, c6, c7⟩ := h.cells
  have hz := h.lt
  have HP := Lib.hid hput; clear hput
  have HM := Lib.hid h; clear h
  have hsl := slice_top g cap st.length hcap
  obtain ⟨N, hN⟩ : ∃ N, st.length = N := ⟨_, rfl⟩
  rw [hN] at hc hsl hn c6 hcap
  have HN := Lib.hid hN; clear hN
  have hw : IntKind.i64.wrap (N : Int) = (N : Int) := IntWalk.i64_in _ (by omega)
  have hl : (N : Int) < (N : Int) + 1 := by omega
  go_enter Tryd.func48, Tryd.ntmps48
  go_wp2_with fail
  go_quiet (fail)
  have hx : (w.drewN nq).heap = w.heap := rfl
  have k6 : (w.drewN nq).cell? ⟨M, 6, none⟩ = some (.slice (some ⟨g, 0, none⟩) (N + 1) cap) := c6
  have k7 : (w.drewN nq).frozen? ⟨M, 6, none⟩ = false := c7
  have kz : M < (w.drewN nq).heap.size := hz
  have hW : Wk B M w (w.drewN nq) := ⟨rfl, rfl, rfl, Nat.le_refl _, fun _ _ _ => rfl⟩
  clear c6 c7 hz hc
  revert hx k6 k7 kz hW
  generalize (w.drewN nq) = w2
  intro hx c6 c7 hz hW
  have HX := Lib.hid hx; clear hx
  go_wp2_with fail
  go_still_tail 14, (by kernel_rfl)
  change wpList _ _ _ _ _ w2.drew
  have k6 : w2.drew.cell? ⟨M, 6, none⟩ = some (.slice (some ⟨g, 0, none⟩) (N + 1) cap) := c6
  have k7 : w2.drew.frozen? ⟨M, 6, none⟩ = false := c7
  have kz : M < w2.drew.heap.size := hz
  have hW2 : Wk B M w w2.drew := hW.trans (Wk.drewN B M w2 1)
  have hx : w2.drew.heap = w.heap := HX.out
  clear c6 c7 hz hW HX
  revert hx k6 k7 kz hW2
  generalize w2.drew = w3
  intro k6 k7 kz hW hx
  have HX := Lib.hid hx; clear hx
  go_wp2_with fail
  go_ret
  have hN := HN.out
  subst hN
  exact ⟨rfl, ⟨_, HP.out w3 HX.out⟩, hW.set 6 _⟩

set_option maxRecDepth 100000 in
theorem pop_none (B M : Nat) (en : En) (v : Value) (w : World) (h : Mach B M en [] v w) :
    Calls Tryd.prog 48 #[.pointer (some ⟨M, 0, none⟩)] w (RtPost B M w) := by
  obtain ⟨po, pc, rfl⟩ := h.slice
  obtain ⟨-, -, -, -, -, -, c6, c7⟩ := h.cells
  have hz := h.lt
  clear h
  have c6' : w.cell? ⟨M, 6, none⟩ = some (.slice po 0 pc) := c6
  clear c6
  obtain ⟨S, Nn, hrun⟩ := bounds_run (-1) 0
  have hix : ∀ w, (Instr.indexAt 40 (.slice po 0 pc) (.int .i64 (-1))).run Tryd.prog w = .halt (.panic (.iface 8 (.agg #[.int .i64 (IntKind.i64.wrap (-1)), .int .i64 0, .bool (S w), .int .u8 0]))) (w.drewN (Nn w)) := fun w => by
    have ht : Tryd.prog.underlying 40 = some (.slice (Tryd.prog.elem 40)) := by kernel_rfl
    cases po with
    | some a => rw [run_indexAt_slice (h := ht), if_neg (by omega)]; exact hrun w
    | none =>
      rw [show (Instr.indexAt 40 (.slice none 0 pc) (.int .i64 (-1))).run Tryd.prog w = (boundsPanic .i64 (-1) 0 .index : Sem Value).run Tryd.prog w by simp [Instr.indexAt, run_underlying ht, asIntOf]]
      exact hrun w
  have hw1 : IntKind.i64.wrap (-1) = -1 := by decide
  clear hrun
  go_enter Tryd.func48, Tryd.ntmps48
  go_wp2_with fail
  go_region_dies
  all_goals
    refine ⟨rfl, ⟨_, _, rfl, Or.inl rfl⟩, ?_⟩
    exact ⟨rfl, rfl, rfl, Nat.le_refl _, fun _ _ _ => rfl⟩

/-- Two, or a panic. -/
def TwoPost (B M : Nat) (en : En) (st : List Nat) (w : World) (e : Ending) (w' : World) : Prop := match st with
  | b :: a :: t => e = .returned (.tuple #[.float .f64 a, .float .f64 b]) ∧ (∃ v', Mach B M en t v' w') ∧ Wk B M w w'
  | _ => RtPost B M w e w'
theorem RtPost.from {B M : Nat} {w w1 : World} (h : Wk B M w w1) {e : Ending} {w' : World} (h2 : RtPost B M w1 e w') : RtPost B M w e w' := ⟨h2.1, h.trans h2.2⟩

theorem two_any (B M : Nat) (en : En) (st : List Nat) (v : Value) (hn : st.length ≤ 100000) (w : World) (h : Mach B M en st v w) :
    Calls Tryd.prog 63 #[.pointer (some ⟨M, 0, none⟩)] w (TwoPost B M en st w) := by
  match st, h, hn with
  | [], h, hn =>
    have H := Lib.hid (pop_none B M en v w h)
    clear h
    unfold TwoPost
    go_enter Tryd.func63, Tryd.ntmps63
    go_wp2_with fail
    refine H.out.mono ?_
    rintro e w1 ⟨⟨t, pv, rfl, ht⟩, hW⟩
    exact ⟨rfl, ⟨t, pv, rfl, ht⟩, hW⟩
  | [b], h, hn =>
    have H := Lib.hid (pop_some B M en b [] v (by simp) w h)
    clear h
    unfold TwoPost
    go_enter Tryd.func63, Tryd.ntmps63
    go_wp2_with fail
    refine H.out.mono ?_
    rintro e w1 ⟨rfl, ⟨v1, h1⟩, hW1⟩
    go_wp2_with fail
    refine (pop_none B M en v1 w1 h1).mono ?_
    rintro e w2 ⟨⟨t, pv, rfl, ht⟩, hW⟩
    exact ⟨rfl, ⟨t, pv, rfl, ht⟩, hW1.trans hW⟩
  | b :: a :: t, h, hn =>
    have H := Lib.hid (pop_some B M en b (a :: t) v (by simp at hn ⊢; omega) w h)
    clear h
    unfold TwoPost
    go_enter Tryd.func63, Tryd.ntmps63
    go_wp2_with fail
    refine H.out.mono ?_
    rintro e w1 ⟨rfl, ⟨v1, h1⟩, hW1⟩
    go_wp2_with fail
    refine (pop_some B M en a t v1 (by simp at hn; omega) w1 h1).mono ?_
    rintro e w2 ⟨rfl, h2, hW⟩
    go_wp2
    exact bodyPost_ret (v := .tuple #[.float .f64 a, .float .f64 b]) (by simp [results, Tryd.results63, go_sem]) rfl ⟨rfl, h2, hW1.trans hW⟩
end Go.Proofs.YtidjnfjpdnjogaaDoor
