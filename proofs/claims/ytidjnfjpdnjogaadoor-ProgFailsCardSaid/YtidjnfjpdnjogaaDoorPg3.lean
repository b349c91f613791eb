/-
  Package prog: reckon and move, word by word. Conditions: none.
-/
import Derived.Test.YtidjnfjpdnjogaaDoorPg2
namespace Go.Proofs.YtidjnfjpdnjogaaDoor
open Go.RowKit Go.Lib

/-- What comes of a word: the numbers that lie there behind it, or a fault. -/
def OutPost (B M : Nat) (en : En) (rv : Value) (o : Out) (w : World) (e : Ending) (w' : World) : Prop := match o with
  | .ok st => e = .returned rv ∧ (∃ v', Mach B M en st v' w') ∧ Wk B M w w'
  | .rt => RtPost B M w e w'
  | .fail => e = .panicked [{ v := .iface 9 (.string ⟨#[102, 97, 105, 108]⟩), recovered := false }] ∧ Wk B M w w'
theorem OutPost.from {B M : Nat} {en : En} {rv : Value} {o : Out} {w w1 : World} (h : Wk B M w w1) {e : Ending} {w' : World} (h2 : OutPost B M en rv o w1 e w') : OutPost B M en rv o w e w' := by
  unfold OutPost at h2 ⊢
  cases o with
  | ok st => exact ⟨h2.1, h2.2.1, h.trans h2.2.2⟩
  | rt => exact RtPost.from h h2
  | fail => exact ⟨h2.1, h.trans h2.2⟩

theorem ar_run (op : BinOp) (f : Nat → Nat → Option Nat) (hop : (op = .add ∧ f = Ieee.double.add) ∨ (op = .sub ∧ f = Ieee.double.sub) ∨ (op = .mul ∧ f = Ieee.double.mul) ∨ (op = .quo ∧ f = Ieee.double.div)) (a b : Nat) (t : TypeId) :
    ∃ (r d : World → Nat), ∀ w, (binOp op t (.float .f64 a) (.float .f64 b)).run Tryd.prog w = .ok (.float .f64 (r w)) (w.drewN (d w)) ∧ oneW (r w) = arC f a b ∧ r w < 18446744073709551616 := by
  have e : (2 : Nat) ^ Ieee.double.width = 18446744073709551616 := by decide
  cases hr : f a b with
  | some r =>
    refine ⟨fun _ => r, fun _ => 0, fun w => ⟨?_, by rw [arC, hr], ?_⟩⟩
    · rcases hop with ⟨rfl, rfl⟩ | ⟨rfl, rfl⟩ | ⟨rfl, rfl⟩ | ⟨rfl, rfl⟩ <;> exact run_float_arith w _ t .f64 a b r hr
    · rw [← e]
      rcases hop with ⟨rfl, rfl⟩ | ⟨rfl, rfl⟩ | ⟨rfl, rfl⟩ | ⟨rfl, rfl⟩
      · exact Ieee.Format.add_lt _ hr
      · exact Ieee.Format.sub_lt _ hr
      · exact Ieee.Format.mul_lt _ hr
      · exact Ieee.Format.div_lt _ hr
  | none =>
    refine ⟨fun w => nanDraw w a b, fun _ => 1, fun w => ⟨?_, by rw [arC, hr, nan_rung (nanDraw_not w a b).1], (nanDraw_not w a b).2⟩⟩
    rcases hop with ⟨rfl, rfl⟩ | ⟨rfl, rfl⟩ | ⟨rfl, rfl⟩ | ⟨rfl, rfl⟩ <;>
    · have h2 : FloatKind.f64.format = Ieee.double := rfl
      simp only [← h2] at hr
      show _ = Result.ok (Value.float .f64 (nanDraw w a b)) w.drew
      simp [binOp, Op.floatArith, hr, Question.forced, nanDraw]

def arithBs : List ByteArray := [⟨#[97, 100, 100]⟩, ⟨#[115, 117, 98]⟩, ⟨#[109, 117, 108]⟩, ⟨#[100, 105, 118]⟩, ⟨#[109, 105, 110]⟩, ⟨#[109, 97, 120]⟩, ⟨#[108, 101, 115, 115]⟩]
theorem toList_mk (l : List UInt8) : (⟨l.toArray⟩ : ByteArray).data.toList = l := rfl
theorem ba_of {s : ByteArray} {l : List UInt8} (h : s.data.toList = l) : s = ⟨l.toArray⟩ := by
  apply ByteArray.ext; apply Array.ext'; simpa using h
theorem arith_contains (s : ByteArray) : Lib.containsS arithBs s = arithWords.contains s.data.toList := by
  rw [Bool.eq_iff_iff, containsS_iff]
  simp only [arithBs, arithWords, wAdd, wSub, wMul, wDiv, wMin, wMax, wLess, List.mem_cons, List.not_mem_nil, or_false, List.contains_eq_mem, decide_eq_true_eq]
  have k : ∀ l : List UInt8, s = ⟨l.toArray⟩ ↔ s.data.toList = l := fun l => ⟨fun h => by rw [h], ba_of⟩
  simp only [← k]

/-- The seven words, as they lie behind the call's own making. -/
theorem arith_cells (w : World) (j : Nat) (hj : j < arithBs.length) : (w.alloc (.cells #[.string ⟨#[97, 100, 100]⟩, .string ⟨#[115, 117, 98]⟩, .string ⟨#[109, 117, 108]⟩, .string ⟨#[100, 105, 118]⟩, .string ⟨#[109, 105, 110]⟩, .string ⟨#[109, 97, 120]⟩, .string ⟨#[108, 101, 115, 115]⟩] 9)).cell? ⟨w.heap.size, 0 + j, none⟩ = some (.string (arithBs.getD j ByteArray.empty)) := by
  have hb := new_block w (.cells #[.string ⟨#[97, 100, 100]⟩, .string ⟨#[115, 117, 98]⟩, .string ⟨#[109, 117, 108]⟩, .string ⟨#[100, 105, 118]⟩, .string ⟨#[109, 105, 110]⟩, .string ⟨#[109, 97, 120]⟩, .string ⟨#[108, 101, 115, 115]⟩] 9)
  revert hb
  generalize w.alloc (.cells #[.string ⟨#[97, 100, 100]⟩, .string ⟨#[115, 117, 98]⟩, .string ⟨#[109, 117, 108]⟩, .string ⟨#[100, 105, 118]⟩, .string ⟨#[109, 105, 110]⟩, .string ⟨#[109, 97, 120]⟩, .string ⟨#[108, 101, 115, 115]⟩] 9) = x
  intro hb
  have : j = 0 ∨ j = 1 ∨ j = 2 ∨ j = 3 ∨ j = 4 ∨ j = 5 ∨ j = 6 := by simp [arithBs] at hj; omega
  rcases this with rfl | rfl | rfl | rfl | rfl | rfl | rfl <;> simp [World.cell?, hb, arithBs]

theorem has_word (s : ByteArray) (r : Bool) (hr : arithWords.contains s.data.toList = r) (w : World) :
    Calls Tryd.prog 62 #[.slice (some ⟨w.heap.size, 0, none⟩) 7 7, .string s] (w.alloc (.cells #[.string ⟨#[97, 100, 100]⟩, .string ⟨#[115, 117, 98]⟩, .string ⟨#[109, 117, 108]⟩, .string ⟨#[100, 105, 118]⟩, .string ⟨#[109, 105, 110]⟩, .string ⟨#[109, 97, 120]⟩, .string ⟨#[108, 101, 115, 115]⟩] 9)) fun e w' => e = .returned (.bool r) ∧ w' = w.alloc (.cells #[.string ⟨#[97, 100, 100]⟩, .string ⟨#[115, 117, 98]⟩, .string ⟨#[109, 117, 108]⟩, .string ⟨#[100, 105, 118]⟩, .string ⟨#[109, 105, 110]⟩, .string ⟨#[109, 97, 120]⟩, .string ⟨#[108, 101, 115, 115]⟩] 9) := by
  have h := Tryd.slices_Contains_string w.heap.size 0 7 7 arithBs s _ (by decide) (by decide) (arith_cells w)
  rw [show arithBs.take 7 = arithBs from rfl, arith_contains, hr] at h
  exact h

theorem reckon_no (B M : Nat) (en : En) (st : List Nat) (v : Value) (s : ByteArray) (hs : arithWords.contains s.data.toList = false) (w : World) (h : Mach B M en st v w) :
    Calls Tryd.prog 44 #[.pointer (some ⟨M, 0, none⟩), .string s] w fun e w' => e = .returned (.bool false) ∧ Mach B M en st v w' ∧ Wk B M w w' := by
  have HS := Lib.hid (has_word s _ hs)
  clear hs
  go_enter Tryd.func44, Tryd.ntmps44
  go_wp2_with fail
  refine (HS.out w).mono ?_
  rintro e w1 ⟨rfl, rfl⟩
  go_wp2
  go_ret
  exact ⟨rfl, h.below (below_alloc _ _), Wk.of_below (below_alloc _ _) h.bw⟩

theorem oneW_zero : oneW 0 = 0 := by decide +kernel
theorem oneW_unit : oneW 4607182418800017408 = 4607182418800017408 := by decide +kernel
theorem push_of (B M : Nat) (en : En) (st : List Nat) (v : Value) (f g : Nat) (hg : oneW f = g) (hf : f < 18446744073709551616) (hn : st.length ≤ 100000) (w : World) (h : Mach B M en st v w) :
    Calls Tryd.prog 46 #[.pointer (some ⟨M, 0, none⟩), .float .f64 f] w (PushPost B M en (g :: st) w) := by
  rw [← hg]; exact push_any B M en st v f hf hn w h

set_option maxHeartbeats 400000 in
set_option maxRecDepth 100000 in
theorem reckon_add (B M : Nat) (en : En) (st : List Nat) (v : Value) (hn : st.length ≤ 100000) (w : World) (h : Mach B M en st v w) :
    Calls Tryd.prog 44 #[.pointer (some ⟨M, 0, none⟩), .string ⟨#[97, 100, 100]⟩] w (OutPost B M en (.bool true) (match (motive := List Nat → Out) st with | b :: a :: t => .ok (arithB wAdd a b :: t) | _ => .rt) w) := by
  have HS := Lib.hid (has_word ⟨#[97, 100, 100]⟩ true (by decide))
  have hb0 := below_alloc w (.cells #[.string ⟨#[97, 100, 100]⟩, .string ⟨#[115, 117, 98]⟩, .string ⟨#[109, 117, 108]⟩, .string ⟨#[100, 105, 118]⟩, .string ⟨#[109, 105, 110]⟩, .string ⟨#[109, 97, 120]⟩, .string ⟨#[108, 101, 115, 115]⟩] 9)
  have h0 := h.below hb0
  have HW0 := Lib.hid (Wk.of_below (M := M) hb0 h.bw)
  have H := two_any B M en st v hn _ h0
  have hfit := h.fit
  clear h hb0 h0
  match st, H, hn, hfit with
  | [], H, hn, hfit =>
    have H := Lib.hid H
    go_enter Tryd.func44, Tryd.ntmps44
    go_wp2_with fail
    refine (HS.out w).mono ?_
    rintro e w1 ⟨rfl, rfl⟩
    go_wp2_with fail
    refine H.out.mono ?_
    rintro e w2 ⟨⟨t, pv, rfl, ht⟩, hW⟩
    exact ⟨rfl, ⟨t, pv, rfl, ht⟩, HW0.out.trans hW⟩
  | [b], H, hn, hfit =>
    have H := Lib.hid H
    go_enter Tryd.func44, Tryd.ntmps44
    go_wp2_with fail
    refine (HS.out w).mono ?_
    rintro e w1 ⟨rfl, rfl⟩
    go_wp2_with fail
    refine H.out.mono ?_
    rintro e w2 ⟨⟨t, pv, rfl, ht⟩, hW⟩
    exact ⟨rfl, ⟨t, pv, rfl, ht⟩, HW0.out.trans hW⟩
  | b :: a :: t, H, hn, hfit =>
    have H := Lib.hid H
    have ha : a < 18446744073709551616 := hfit a (by simp)
    have hb : b < 18446744073709551616 := hfit b (by simp)
    have hn2 : t.length ≤ 100000 := by simp at hn; omega
    clear hfit hn
    change Calls _ _ _ _ (OutPost B M en (.bool true) (.ok (arithB wAdd a b :: t)) w)
    obtain ⟨r, d, hr⟩ := ar_run .add Ieee.double.add (Or.inl ⟨rfl, rfl⟩) a b 23
    have hrun := fun w => (hr w).1
    have HR := Lib.hid hr
    clear hr
    have hV : arithB wAdd a b = arC Ieee.double.add a b := rfl
    rw [hV]
    clear ha hb hV
    go_enter Tryd.func44, Tryd.ntmps44
    go_wp2_with fail
    refine (HS.out w).mono ?_
    rintro e w1 ⟨rfl, rfl⟩
    go_wp2_with fail
    refine H.out.mono ?_
    rintro e w2 ⟨rfl, ⟨v2, h2⟩, hW⟩
    have HW := Lib.hid (HW0.out.trans hW)
    clear hW
    go_wp2_with fail
    refine (push_any B M en t v2 (r w2) (HR.out w2).2.2 hn2 _ (h2.drewN _)).mono ?_
    rintro e w3 ⟨rfl, h3, hW3⟩
    rw [(HR.out w2).2.1] at h3
    go_wp2
    go_ret
    exact ⟨rfl, h3, HW.out.trans ((Wk.drewN B M w2 _).trans hW3)⟩

set_option maxHeartbeats 400000 in
set_option maxRecDepth 100000 in
theorem reckon_sub (B M : Nat) (en : En) (st : List Nat) (v : Value) (hn : st.length ≤ 100000) (w : World) (h : Mach B M en st v w) :
    Calls Tryd.prog 44 #[.pointer (some ⟨M, 0, none⟩), .string ⟨#[115, 117, 98]⟩] w (OutPost B M en (.bool true) (match (motive := List Nat → Out) st with | b :: a :: t => .ok (arithB wSub a b :: t) | _ => .rt) w) := by
  have HS := Lib.hid (has_word ⟨#[115, 117, 98]⟩ true (by decide))
  have hb0 := below_alloc w (.cells #[.string ⟨#[97, 100, 100]⟩, .string ⟨#[115, 117, 98]⟩, .string ⟨#[109, 117, 108]⟩, .string ⟨#[100, 105, 118]⟩, .string ⟨#[109, 105, 110]⟩, .string ⟨#[109, 97, 120]⟩, .string ⟨#[108, 101, 115, 115]⟩] 9)
  have h0 := h.below hb0
  have HW0 := Lib.hid (Wk.of_below (M := M) hb0 h.bw)
  have H := two_any B M en st v hn _ h0
  have hfit := h.fit
  clear h hb0 h0
  match st, H, hn, hfit with
  | [], H, hn, hfit =>
    have H := Lib.hid H
    go_enter Tryd.func44, Tryd.ntmps44
    go_wp2_with fail
    refine (HS.out w).mono ?_
    rintro e w1 ⟨rfl, rfl⟩
    go_wp2_with fail
    refine H.out.mono ?_
    rintro e w2 ⟨⟨t, pv, rfl, ht⟩, hW⟩
    exact ⟨rfl, ⟨t, pv, rfl, ht⟩, HW0.out.trans hW⟩
  | [b], H, hn, hfit =>
    have H := Lib.hid H
    go_enter Tryd.func44, Tryd.ntmps44
    go_wp2_with fail
    refine (HS.out w).mono ?_
    rintro e w1 ⟨rfl, rfl⟩
    go_wp2_with fail
    refine H.out.mono ?_
    rintro e w2 ⟨⟨t, pv, rfl, ht⟩, hW⟩
    exact ⟨rfl, ⟨t, pv, rfl, ht⟩, HW0.out.trans hW⟩
  | b :: a :: t, H, hn, hfit =>
    have H := Lib.hid H
    have ha : a < 18446744073709551616 := hfit a (by simp)
    have hb : b < 18446744073709551616 := hfit b (by simp)
    have hn2 : t.length ≤ 100000 := by simp at hn; omega
    clear hfit hn
    change Calls _ _ _ _ (OutPost B M en (.bool true) (.ok (arithB wSub a b :: t)) w)
    obtain ⟨r, d, hr⟩ := ar_run .sub Ieee.double.sub (Or.inr (Or.inl ⟨rfl, rfl⟩)) a b 23
    have hrun := fun w => (hr w).1
    have HR := Lib.hid hr
    clear hr
    have hV : arithB wSub a b = arC Ieee.double.sub a b := rfl
    rw [hV]
    clear ha hb hV
    go_enter Tryd.func44, Tryd.ntmps44
    go_wp2_with fail
    refine (HS.out w).mono ?_
    rintro e w1 ⟨rfl, rfl⟩
    go_wp2_with fail
    refine H.out.mono ?_
    rintro e w2 ⟨rfl, ⟨v2, h2⟩, hW⟩
    have HW := Lib.hid (HW0.out.trans hW)
    clear hW
    go_wp2_with fail
    refine (push_any B M en t v2 (r w2) (HR.out w2).2.2 hn2 _ (h2.drewN _)).mono ?_
    rintro e w3 ⟨rfl, h3, hW3⟩
    rw [(HR.out w2).2.1] at h3
    go_wp2
    go_ret
    exact ⟨rfl, h3, HW.out.trans ((Wk.drewN B M w2 _).trans hW3)⟩

set_option maxHeartbeats 400000 in
set_option maxRecDepth 100000 in
theorem reckon_mul (B M : Nat) (en : En) (st : List Nat) (v : Value) (hn : st.length ≤ 100000) (w : World) (h : Mach B M en st v w) :
    Calls Tryd.prog 44 #[.pointer (some ⟨M, 0, none⟩), .string ⟨#[109, 117, 108]⟩] w (OutPost B M en (.bool true) (match (motive := List Nat → Out) st with | b :: a :: t => .ok (arithB wMul a b :: t) | _ => .rt) w) := by
  have HS := Lib.hid (has_word ⟨#[109, 117, 108]⟩ true (by decide))
  have hb0 := below_alloc w (.cells #[.string ⟨#[97, 100, 100]⟩, .string ⟨#[115, 117, 98]⟩, .string ⟨#[109, 117, 108]⟩, .string ⟨#[100, 105, 118]⟩, .string ⟨#[109, 105, 110]⟩, .string ⟨#[109, 97, 120]⟩, .string ⟨#[108, 101, 115, 115]⟩] 9)
  have h0 := h.below hb0
  have HW0 := Lib.hid (Wk.of_below (M := M) hb0 h.bw)
  have H := two_any B M en st v hn _ h0
  have hfit := h.fit
  clear h hb0 h0
  match st, H, hn, hfit with
  | [], H, hn, hfit =>
    have H := Lib.hid H
    go_enter Tryd.func44, Tryd.ntmps44
    go_wp2_with fail
    refine (HS.out w).mono ?_
    rintro e w1 ⟨rfl, rfl⟩
    go_wp2_with fail
    refine H.out.mono ?_
    rintro e w2 ⟨⟨t, pv, rfl, ht⟩, hW⟩
    exact ⟨rfl, ⟨t, pv, rfl, ht⟩, HW0.out.trans hW⟩
  | [b], H, hn, hfit =>
    have H := Lib.hid H
    go_enter Tryd.func44, Tryd.ntmps44
    go_wp2_with fail
    refine (HS.out w).mono ?_
    rintro e w1 ⟨rfl, rfl⟩
    go_wp2_with fail
    refine H.out.mono ?_
    rintro e w2 ⟨⟨t, pv, rfl, ht⟩, hW⟩
    exact ⟨rfl, ⟨t, pv, rfl, ht⟩, HW0.out.trans hW⟩
  | b :: a :: t, H, hn, hfit =>
    have H := Lib.hid H
    have ha : a < 18446744073709551616 := hfit a (by simp)
    have hb : b < 18446744073709551616 := hfit b (by simp)
    have hn2 : t.length ≤ 100000 := by simp at hn; omega
    clear hfit hn
    change Calls _ _ _ _ (OutPost B M en (.bool true) (.ok (arithB wMul a b :: t)) w)
    obtain ⟨r, d, hr⟩ := ar_run .mul Ieee.double.mul (Or.inr (Or.inr (Or.inl ⟨rfl, rfl⟩))) a b 23
    have hrun := fun w => (hr w).1
    have HR := Lib.hid hr
    clear hr
    have hV : arithB wMul a b = arC Ieee.double.mul a b := rfl
    rw [hV]
    clear ha hb hV
    go_enter Tryd.func44, Tryd.ntmps44
    go_wp2_with fail
    refine (HS.out w).mono ?_
    rintro e w1 ⟨rfl, rfl⟩
    go_wp2_with fail
    refine H.out.mono ?_
    rintro e w2 ⟨rfl, ⟨v2, h2⟩, hW⟩
    have HW := Lib.hid (HW0.out.trans hW)
    clear hW
    go_wp2_with fail
    refine (push_any B M en t v2 (r w2) (HR.out w2).2.2 hn2 _ (h2.drewN _)).mono ?_
    rintro e w3 ⟨rfl, h3, hW3⟩
    rw [(HR.out w2).2.1] at h3
    go_wp2
    go_ret
    exact ⟨rfl, h3, HW.out.trans ((Wk.drewN B M w2 _).trans hW3)⟩

set_option maxHeartbeats 400000 in
set_option maxRecDepth 100000 in
theorem reckon_div (B M : Nat) (en : En) (st : List Nat) (v : Value) (hn : st.length ≤ 100000) (w : World) (h : Mach B M en st v w) :
    Calls Tryd.prog 44 #[.pointer (some ⟨M, 0, none⟩), .string ⟨#[100, 105, 118]⟩] w (OutPost B M en (.bool true) (match (motive := List Nat → Out) st with | b :: a :: t => .ok (arithB wDiv a b :: t) | _ => .rt) w) := by
  have HS := Lib.hid (has_word ⟨#[100, 105, 118]⟩ true (by decide))
  have hb0 := below_alloc w (.cells #[.string ⟨#[97, 100, 100]⟩, .string ⟨#[115, 117, 98]⟩, .string ⟨#[109, 117, 108]⟩, .string ⟨#[100, 105, 118]⟩, .string ⟨#[109, 105, 110]⟩, .string ⟨#[109, 97, 120]⟩, .string ⟨#[108, 101, 115, 115]⟩] 9)
  have h0 := h.below hb0
  have HW0 := Lib.hid (Wk.of_below (M := M) hb0 h.bw)
  have H := two_any B M en st v hn _ h0
  have hfit := h.fit
  clear h hb0 h0
  match st, H, hn, hfit with
  | [], H, hn, hfit =>
    have H := Lib.hid H
    go_enter Tryd.func44, Tryd.ntmps44
    go_wp2_with fail
    refine (HS.out w).mono ?_
    rintro e w1 ⟨rfl, rfl⟩
    go_wp2_with fail
    refine H.out.mono ?_
    rintro e w2 ⟨⟨t, pv, rfl, ht⟩, hW⟩
    exact ⟨rfl, ⟨t, pv, rfl, ht⟩, HW0.out.trans hW⟩
  | [b], H, hn, hfit =>
    have H := Lib.hid H
    go_enter Tryd.func44, Tryd.ntmps44
    go_wp2_with fail
    refine (HS.out w).mono ?_
    rintro e w1 ⟨rfl, rfl⟩
    go_wp2_with fail
    refine H.out.mono ?_
    rintro e w2 ⟨⟨t, pv, rfl, ht⟩, hW⟩
    exact ⟨rfl, ⟨t, pv, rfl, ht⟩, HW0.out.trans hW⟩
  | b :: a :: t, H, hn, hfit =>
    have H := Lib.hid H
    have ha : a < 18446744073709551616 := hfit a (by simp)
    have hb : b < 18446744073709551616 := hfit b (by simp)
    have hn2 : t.length ≤ 100000 := by simp at hn; omega
    clear hfit hn
    change Calls _ _ _ _ (OutPost B M en (.bool true) (.ok (arithB wDiv a b :: t)) w)
    obtain ⟨r, d, hr⟩ := ar_run .quo Ieee.double.div (Or.inr (Or.inr (Or.inr ⟨rfl, rfl⟩))) a b 23
    have hrun := fun w => (hr w).1
    have HR := Lib.hid hr
    clear hr
    have hV : arithB wDiv a b = arC Ieee.double.div a b := rfl
    rw [hV]
    clear ha hb hV
    go_enter Tryd.func44, Tryd.ntmps44
    go_wp2_with fail
    refine (HS.out w).mono ?_
    rintro e w1 ⟨rfl, rfl⟩
    go_wp2_with fail
    refine H.out.mono ?_
    rintro e w2 ⟨rfl, ⟨v2, h2⟩, hW⟩
    have HW := Lib.hid (HW0.out.trans hW)
    clear hW
    go_wp2_with fail
    refine (push_any B M en t v2 (r w2) (HR.out w2).2.2 hn2 _ (h2.drewN _)).mono ?_
    rintro e w3 ⟨rfl, h3, hW3⟩
    rw [(HR.out w2).2.1] at h3
    go_wp2
    go_ret
    exact ⟨rfl, h3, HW.out.trans ((Wk.drewN B M w2 _).trans hW3)⟩

set_option maxHeartbeats 400000 in
set_option maxRecDepth 100000 in
theorem reckon_min (B M : Nat) (en : En) (st : List Nat) (v : Value) (hn : st.length ≤ 100000) (w : World) (h : Mach B M en st v w) :
    Calls Tryd.prog 44 #[.pointer (some ⟨M, 0, none⟩), .string ⟨#[109, 105, 110]⟩] w (OutPost B M en (.bool true) (match (motive := List Nat → Out) st with | b :: a :: t => .ok (arithB wMin a b :: t) | _ => .rt) w) := by
  have HS := Lib.hid (has_word ⟨#[109, 105, 110]⟩ true (by decide))
  have hb0 := below_alloc w (.cells #[.string ⟨#[97, 100, 100]⟩, .string ⟨#[115, 117, 98]⟩, .string ⟨#[109, 117, 108]⟩, .string ⟨#[100, 105, 118]⟩, .string ⟨#[109, 105, 110]⟩, .string ⟨#[109, 97, 120]⟩, .string ⟨#[108, 101, 115, 115]⟩] 9)
  have h0 := h.below hb0
  have HW0 := Lib.hid (Wk.of_below (M := M) hb0 h.bw)
  have H := two_any B M en st v hn _ h0
  have hfit := h.fit
  clear h hb0 h0
  match st, H, hn, hfit with
  | [], H, hn, hfit =>
    have H := Lib.hid H
    go_enter Tryd.func44, Tryd.ntmps44
    go_wp2_with fail
    refine (HS.out w).mono ?_
    rintro e w1 ⟨rfl, rfl⟩
    go_wp2_with fail
    refine H.out.mono ?_
    rintro e w2 ⟨⟨t, pv, rfl, ht⟩, hW⟩
    exact ⟨rfl, ⟨t, pv, rfl, ht⟩, HW0.out.trans hW⟩
  | [b], H, hn, hfit =>
    have H := Lib.hid H
    go_enter Tryd.func44, Tryd.ntmps44
    go_wp2_with fail
    refine (HS.out w).mono ?_
    rintro e w1 ⟨rfl, rfl⟩
    go_wp2_with fail
    refine H.out.mono ?_
    rintro e w2 ⟨⟨t, pv, rfl, ht⟩, hW⟩
    exact ⟨rfl, ⟨t, pv, rfl, ht⟩, HW0.out.trans hW⟩
  | b :: a :: t, H, hn, hfit =>
    have H := Lib.hid H
    have ha : a < 18446744073709551616 := hfit a (by simp)
    have hb : b < 18446744073709551616 := hfit b (by simp)
    have hn2 : t.length ≤ 100000 := by simp at hn; omega
    clear hfit hn
    change Calls _ _ _ _ (OutPost B M en (.bool true) (.ok (arithB wMin a b :: t)) w)
    have hL : ∀ i, i < 2 → pairL a b i < 18446744073709551616 := fun i _ => by unfold pairL; split <;> assumption
    have hV : arithB wMin a b = oneW (leastC (pairL a b) 2) := rfl
    rw [hV]
    have hlt : leastC (pairL a b) 2 < 18446744073709551616 := leastC_lt hL 2 (Nat.le_refl _)
    have HL := Lib.hid hL
    clear ha hb hV hL
    go_enter Tryd.func44, Tryd.ntmps44
    go_wp2_with fail
    refine (HS.out w).mono ?_
    rintro e w1 ⟨rfl, rfl⟩
    go_wp2_with fail
    refine H.out.mono ?_
    rintro e w2 ⟨rfl, ⟨v2, h2⟩, hW⟩
    have HW := Lib.hid (HW0.out.trans hW)
    clear hW
    have hb3 := below_alloc w2 (.cells #[.float .f64 a, .float .f64 b] 23)
    have hF : FlIn (w2.alloc (.cells #[.float .f64 a, .float .f64 b] 23)) w2.heap.size 0 2 (pairL a b) := ⟨fun i hi => by
      have hb := new_block w2 (.cells #[.float .f64 a, .float .f64 b] 23)
      revert hb
      generalize w2.alloc (.cells #[.float .f64 a, .float .f64 b] 23) = x
      intro hb
      have : i = 0 ∨ i = 1 := by omega
      rcases this with rfl | rfl <;> simp [World.cell?, hb, pairL], by simp⟩
    have HF := Lib.hid (least_any w2.heap.size 0 2 2 (by unfold maxLen; decide) (pairL a b) HL.out _ hF)
    have h3 := h2.below hb3
    have HW3 := Lib.hid (HW.out.trans (Wk.of_below (M := M) hb3 h2.bw))
    clear hF hb3 h2 HW
    go_wp2_with fail
    refine HF.out.mono ?_
    rintro e w3 ⟨rfl, rfl⟩
    go_wp2_with fail
    refine (push_any B M en t v2 _ hlt hn2 _ h3).mono ?_
    rintro e w4 ⟨rfl, h4, hW4⟩
    go_wp2
    go_ret
    exact ⟨rfl, h4, HW3.out.trans hW4⟩

set_option maxHeartbeats 400000 in
set_option maxRecDepth 100000 in
theorem reckon_max (B M : Nat) (en : En) (st : List Nat) (v : Value) (hn : st.length ≤ 100000) (w : World) (h : Mach B M en st v w) :
    Calls Tryd.prog 44 #[.pointer (some ⟨M, 0, none⟩), .string ⟨#[109, 97, 120]⟩] w (OutPost B M en (.bool true) (match (motive := List Nat → Out) st with | b :: a :: t => .ok (arithB wMax a b :: t) | _ => .rt) w) := by
  have HS := Lib.hid (has_word ⟨#[109, 97, 120]⟩ true (by decide))
  have hb0 := below_alloc w (.cells #[.string ⟨#[97, 100, 100]⟩, .string ⟨#[115, 117, 98]⟩, .string ⟨#[109, 117, 108]⟩, .string ⟨#[100, 105, 118]⟩, .string ⟨#[109, 105, 110]⟩, .string ⟨#[109, 97, 120]⟩, .string ⟨#[108, 101, 115, 115]⟩] 9)
  have h0 := h.below hb0
  have HW0 := Lib.hid (Wk.of_below (M := M) hb0 h.bw)
  have H := two_any B M en st v hn _ h0
  have hfit := h.fit
  clear h hb0 h0
  match st, H, hn, hfit with
  | [], H, hn, hfit =>
    have H := Lib.hid H
    go_enter Tryd.func44, Tryd.ntmps44
    go_wp2_with fail
    refine (HS.out w).mono ?_
    rintro e w1 ⟨rfl, rfl⟩
    go_wp2_with fail
    refine H.out.mono ?_
    rintro e w2 ⟨⟨t, pv, rfl, ht⟩, hW⟩
    exact ⟨rfl, ⟨t, pv, rfl, ht⟩, HW0.out.trans hW⟩
  | [b], H, hn, hfit =>
    have H := Lib.hid H
    go_enter Tryd.func44, Tryd.ntmps44
    go_wp2_with fail
    refine (HS.out w).mono ?_
    rintro e w1 ⟨rfl, rfl⟩
    go_wp2_with fail
    refine H.out.mono ?_
    rintro e w2 ⟨⟨t, pv, rfl, ht⟩, hW⟩
    exact ⟨rfl, ⟨t, pv, rfl, ht⟩, HW0.out.trans hW⟩
  | b :: a :: t, H, hn, hfit =>
    have H := Lib.hid H
    have ha : a < 18446744073709551616 := hfit a (by simp)
    have hb : b < 18446744073709551616 := hfit b (by simp)
    have hn2 : t.length ≤ 100000 := by simp at hn; omega
    clear hfit hn
    change Calls _ _ _ _ (OutPost B M en (.bool true) (.ok (arithB wMax a b :: t)) w)
    have hL : ∀ i, i < 2 → pairL a b i < 18446744073709551616 := fun i _ => by unfold pairL; split <;> assumption
    have hV : arithB wMax a b = oneW (oneW (mostC (pairL a b) 1)) := rfl
    rw [hV]
    have hlt : oneW (mostC (pairL a b) 1) < 18446744073709551616 := oneW_lt (mostC_lt hL 1 (by decide))
    have HL := Lib.hid hL
    clear ha hb hV hL
    go_enter Tryd.func44, Tryd.ntmps44
    go_wp2_with fail
    refine (HS.out w).mono ?_
    rintro e w1 ⟨rfl, rfl⟩
    go_wp2_with fail
    refine H.out.mono ?_
    rintro e w2 ⟨rfl, ⟨v2, h2⟩, hW⟩
    have HW := Lib.hid (HW0.out.trans hW)
    clear hW
    have hb3 := below_alloc w2 (.cells #[.float .f64 a, .float .f64 b] 23)
    have hF : FlIn (w2.alloc (.cells #[.float .f64 a, .float .f64 b] 23)) w2.heap.size 0 2 (pairL a b) := ⟨fun i hi => by
      have hb := new_block w2 (.cells #[.float .f64 a, .float .f64 b] 23)
      revert hb
      generalize w2.alloc (.cells #[.float .f64 a, .float .f64 b] 23) = x
      intro hb
      have : i = 0 ∨ i = 1 := by omega
      rcases this with rfl | rfl <;> simp [World.cell?, hb, pairL], by simp⟩
    have HF := Lib.hid (most_any w2.heap.size 0 2 2 (by decide) (by unfold maxLen; decide) (pairL a b) HL.out _ hF)
    have h3 := h2.below hb3
    have HW3 := Lib.hid (HW.out.trans (Wk.of_below (M := M) hb3 h2.bw))
    clear hF hb3 h2 HW
    go_wp2_with fail
    refine HF.out.mono ?_
    rintro e w3 ⟨rfl, rfl⟩
    go_wp2_with fail
    refine (push_any B M en t v2 _ hlt hn2 _ h3).mono ?_
    rintro e w4 ⟨rfl, h4, hW4⟩
    go_wp2
    go_ret
    exact ⟨rfl, h4, HW3.out.trans hW4⟩

set_option maxHeartbeats 400000 in
set_option maxRecDepth 100000 in
theorem reckon_less (B M : Nat) (en : En) (st : List Nat) (v : Value) (hn : st.length ≤ 100000) (w : World) (h : Mach B M en st v w) :
    Calls Tryd.prog 44 #[.pointer (some ⟨M, 0, none⟩), .string ⟨#[108, 101, 115, 115]⟩] w (OutPost B M en (.bool true) (match (motive := List Nat → Out) st with | b :: a :: t => .ok (arithB wLess a b :: t) | _ => .rt) w) := by
  have HS := Lib.hid (has_word ⟨#[108, 101, 115, 115]⟩ true (by decide))
  have hb0 := below_alloc w (.cells #[.string ⟨#[97, 100, 100]⟩, .string ⟨#[115, 117, 98]⟩, .string ⟨#[109, 117, 108]⟩, .string ⟨#[100, 105, 118]⟩, .string ⟨#[109, 105, 110]⟩, .string ⟨#[109, 97, 120]⟩, .string ⟨#[108, 101, 115, 115]⟩] 9)
  have h0 := h.below hb0
  have HW0 := Lib.hid (Wk.of_below (M := M) hb0 h.bw)
  have H := two_any B M en st v hn _ h0
  have hfit := h.fit
  clear h hb0 h0
  match st, H, hn, hfit with
  | [], H, hn, hfit =>
    have H := Lib.hid H
    go_enter Tryd.func44, Tryd.ntmps44
    go_wp2_with fail
    refine (HS.out w).mono ?_
    rintro e w1 ⟨rfl, rfl⟩
    go_wp2_with fail
    refine H.out.mono ?_
    rintro e w2 ⟨⟨t, pv, rfl, ht⟩, hW⟩
    exact ⟨rfl, ⟨t, pv, rfl, ht⟩, HW0.out.trans hW⟩
  | [b], H, hn, hfit =>
    have H := Lib.hid H
    go_enter Tryd.func44, Tryd.ntmps44
    go_wp2_with fail
    refine (HS.out w).mono ?_
    rintro e w1 ⟨rfl, rfl⟩
    go_wp2_with fail
    refine H.out.mono ?_
    rintro e w2 ⟨⟨t, pv, rfl, ht⟩, hW⟩
    exact ⟨rfl, ⟨t, pv, rfl, ht⟩, HW0.out.trans hW⟩
  | b :: a :: t, H, hn, hfit =>
    have H := Lib.hid H
    have ha : a < 18446744073709551616 := hfit a (by simp)
    have hb : b < 18446744073709551616 := hfit b (by simp)
    have hn2 : t.length ≤ 100000 := by simp at hn; omega
    clear hfit hn
    change Calls _ _ _ _ (OutPost B M en (.bool true) (.ok (arithB wLess a b :: t)) w)
    have HL := Lib.hid (less_any a b ha hb)
    have hV : arithB wLess a b = if lessB a b then 4607182418800017408 else 0 := rfl
    rw [hV]
    clear ha hb hV
    have hxz : (lessB a b = false ∧ (if lessB a b then 4607182418800017408 else 0) = 0) ∨ (lessB a b = true ∧ (if lessB a b then 4607182418800017408 else 0) = 4607182418800017408) := by cases lessB a b <;> simp
    rcases hxz with ⟨e1, e2⟩ | ⟨e1, e2⟩
    · rw [e2]
      rw [e1] at HL
      clear e1 e2
      go_enter Tryd.func44, Tryd.ntmps44
      go_wp2_with fail
      refine (HS.out w).mono ?_
      rintro e w1 ⟨rfl, rfl⟩
      go_wp2_with fail
      refine H.out.mono ?_
      rintro e w2 ⟨rfl, ⟨v2, h2⟩, hW⟩
      have HW := Lib.hid (HW0.out.trans hW)
      clear hW
      have HP := Lib.hid (push_of B M en t v2 0 0 oneW_zero (by omega) hn2 _ h2)
      clear h2
      go_wp2_with fail
      refine (HL.out _).mono ?_
      rintro e w3 ⟨rfl, rfl⟩
      go_wp2_with fail
      refine HP.out.mono ?_
      rintro e w4 ⟨rfl, h4, hW4⟩
      go_wp2
      go_ret
      exact ⟨rfl, h4, HW.out.trans hW4⟩
    · rw [e2]
      rw [e1] at HL
      clear e1 e2
      go_enter Tryd.func44, Tryd.ntmps44
      go_wp2_with fail
      refine (HS.out w).mono ?_
      rintro e w1 ⟨rfl, rfl⟩
      go_wp2_with fail
      refine H.out.mono ?_
      rintro e w2 ⟨rfl, ⟨v2, h2⟩, hW⟩
      have HW := Lib.hid (HW0.out.trans hW)
      clear hW
      have HP := Lib.hid (push_of B M en t v2 4607182418800017408 4607182418800017408 oneW_unit (by omega) hn2 _ h2)
      clear h2
      go_wp2_with fail
      refine (HL.out _).mono ?_
      rintro e w3 ⟨rfl, rfl⟩
      go_wp2_with fail
      refine HP.out.mono ?_
      rintro e w4 ⟨rfl, h4, hW4⟩
      go_wp2
      go_ret
      exact ⟨rfl, h4, HW.out.trans hW4⟩

end Go.Proofs.YtidjnfjpdnjogaaDoor
