/-
  M4: the texts Pg3, Pg4, Pg5, Pg6, Pg7, one behind the other. Conditions: none.
-/
import Derived.Test.YtidjnfjpdnjogaaGreatDoorM3
/-
  Package prog: reckon and move, word by word. Conditions: none.
-/
namespace Go.Proofs.YtidjnfjpdnjogaaGreatDoor
open Go.RowKit Go.Lib

/-- What comes of a word: the numbers that lie there behind it, or a fault. -/
def OutPost (B M : Nat) (en : En) (rv : Value) (o : Out) (w : World) (e : Ending) (w' : World) : Prop := match o with
  | .ok st => e = .returned rv ∧ (∃ v', Mach B M en st v' w') ∧ Wk B M w w'
  | .rt => RtPost B M w e w'
  | .fail => e = .panicked [{ v := .iface 9 (.string ⟨#[102, 97, 105, 108]⟩), recovered := false }] ∧ Wk B M w w'
theorem OutPost.from {B M : Nat} {en : En} {rv : Value} {o : Out} {w w1 : World} (h : Wk B M w w1) {e : Ending} {w' : World} (h2 : OutPost B M en rv o w1 e w') : OutPost B M en rv o w e w' := by
  unfold OutPost at h2 ⊢
  cases o with
  | ok st => exact ⟨h2.1, h2.2.1, h.trans h2.2.2⟩
  | rt => exact RtPost.from h h2
  | fail => exact ⟨h2.1, h.trans h2.2⟩

theorem ar_run (op : BinOp) (f : Nat → Nat → Option Nat) (hop : (op = .add ∧ f = Ieee.double.add) ∨ (op = .sub ∧ f = Ieee.double.sub) ∨ (op = .mul ∧ f = Ieee.double.mul) ∨ (op = .quo ∧ f = Ieee.double.div)) (a b : Nat) (t : TypeId) :
    ∃ (r d : World → Nat), ∀ w, (binOp op t (.float .f64 a) (.float .f64 b)).run Tryz.prog w = .ok (.float .f64 (r w)) (w.drewN (d w)) ∧ oneW (r w) = arC f a b ∧ r w < 18446744073709551616 := by
  have e : (2 : Nat) ^ Ieee.double.width = 18446744073709551616 := by decide
  cases hr : f a b with
  | some r =>
    refine ⟨fun _ => r, fun _ => 0, fun w => ⟨?_, by rw [arC, hr], ?_⟩⟩
    · rcases hop with ⟨rfl, rfl⟩ | ⟨rfl, rfl⟩ | ⟨rfl, rfl⟩ | ⟨rfl, rfl⟩ <;> exact run_float_arith w _ t .f64 a b r hr
    · rw [← e]
      rcases hop with ⟨rfl, rfl⟩ | ⟨rfl, rfl⟩ | ⟨rfl, rfl⟩ | ⟨rfl, rfl⟩
      · exact Ieee.Format.add_lt _ hr
      · exact Ieee.Format.sub_lt _ hr
      · exact Ieee.Format.mul_lt _ hr
      · exact Ieee.Format.div_lt _ hr
  | none =>
    refine ⟨fun w => nanDraw w a b, fun _ => 1, fun w => ⟨?_, by rw [arC, hr, nan_rung (nanDraw_not w a b).1], (nanDraw_not w a b).2⟩⟩
    rcases hop with ⟨rfl, rfl⟩ | ⟨rfl, rfl⟩ | ⟨rfl, rfl⟩ | ⟨rfl, rfl⟩ <;>
    · have h2 : FloatKind.f64.format = Ieee.double := rfl
      simp only [← h2] at hr
      show _ = Result.ok (Value.float .f64 (nanDraw w a b)) w.drew
      simp [binOp, Op.floatArith, hr, Question.forced, nanDraw]

def arithBs : List ByteArray := [⟨#[97, 100, 100]⟩, ⟨#[115, 117, 98]⟩, ⟨#[109, 117, 108]⟩, ⟨#[100, 105, 118]⟩, ⟨#[109, 105, 110]⟩, ⟨#[109, 97, 120]⟩, ⟨#[108, 101, 115, 115]⟩]
theorem toList_mk (l : List UInt8) : (⟨l.toArray⟩ : ByteArray).data.toList = l := rfl
theorem ba_of {s : ByteArray} {l : List UInt8} (h : s.data.toList = l) : s = ⟨l.toArray⟩ := by
  apply ByteArray.ext; apply Array.ext'; simpa using h
theorem arith_contains (s : ByteArray) : Lib.containsS arithBs s = arithWords.contains s.data.toList := by
  rw [Bool.eq_iff_iff, containsS_iff]
  simp only [arithBs, arithWords, wAdd, wSub, wMul, wDiv, wMin, wMax, wLess, List.mem_cons, List.not_mem_nil, or_false, List.contains_eq_mem, decide_eq_true_eq]
  have k : ∀ l : List UInt8, s = ⟨l.toArray⟩ ↔ s.data.toList = l := fun l => ⟨fun h => by rw [h], ba_of⟩
  simp only [← k]

/-- The seven words, as they lie behind the call's own making. -/
theorem arith_cells (w : World) (j : Nat) (hj : j < arithBs.length) : (w.alloc (.cells #[.string ⟨#[97, 100, 100]⟩, .string ⟨#[115, 117, 98]⟩, .string ⟨#[109, 117, 108]⟩, .string ⟨#[100, 105, 118]⟩, .string ⟨#[109, 105, 110]⟩, .string ⟨#[109, 97, 120]⟩, .string ⟨#[108, 101, 115, 115]⟩] 9)).cell? ⟨w.heap.size, 0 + j, none⟩ = some (.string (arithBs.getD j ByteArray.empty)) := by
  have hb := new_block w (.cells #[.string ⟨#[97, 100, 100]⟩, .string ⟨#[115, 117, 98]⟩, .string ⟨#[109, 117, 108]⟩, .string ⟨#[100, 105, 118]⟩, .string ⟨#[109, 105, 110]⟩, .string ⟨#[109, 97, 120]⟩, .string ⟨#[108, 101, 115, 115]⟩] 9)
  revert hb
  generalize w.alloc (.cells #[.string ⟨#[97, 100, 100]⟩, .string ⟨#[115, 117, 98]⟩, .string ⟨#[109, 117, 108]⟩, .string ⟨#[100, 105, 118]⟩, .string ⟨#[109, 105, 110]⟩, .string ⟨#[109, 97, 120]⟩, .string ⟨#[108, 101, 115, 115]⟩] 9) = x
  intro hb
  have : j = 0 ∨ j = 1 ∨ j = 2 ∨ j = 3 ∨ j = 4 ∨ j = 5 ∨ j = 6 := by simp [arithBs] at hj; omega
  rcases this with rfl | rfl | rfl | rfl | rfl | rfl | rfl <;> simp [World.cell?, hb, arithBs]

theorem has_word (s : ByteArray) (r : Bool) (hr : arithWords.contains s.data.toList = r) (w : World) :
    Calls Tryz.prog 91 #[.slice (some ⟨w.heap.size, 0, none⟩) 7 7, .string s] (w.alloc (.cells #[.string ⟨#[97, 100, 100]⟩, .string ⟨#[115, 117, 98]⟩, .string ⟨#[109, 117, 108]⟩, .string ⟨#[100, 105, 118]⟩, .string ⟨#[109, 105, 110]⟩, .string ⟨#[109, 97, 120]⟩, .string ⟨#[108, 101, 115, 115]⟩] 9)) fun e w' => e = .returned (.bool r) ∧ w' = w.alloc (.cells #[.string ⟨#[97, 100, 100]⟩, .string ⟨#[115, 117, 98]⟩, .string ⟨#[109, 117, 108]⟩, .string ⟨#[100, 105, 118]⟩, .string ⟨#[109, 105, 110]⟩, .string ⟨#[109, 97, 120]⟩, .string ⟨#[108, 101, 115, 115]⟩] 9) := by
  have h := Tryz.slices_Contains_string w.heap.size 0 7 7 arithBs s _ (by decide) (by decide) (arith_cells w)
  rw [show arithBs.take 7 = arithBs from rfl, arith_contains, hr] at h
  exact h

theorem reckon_no (B M : Nat) (en : En) (st : List Nat) (v : Value) (s : ByteArray) (hs : arithWords.contains s.data.toList = false) (w : World) (h : Mach B M en st v w) :
    Calls Tryz.prog 68 #[.pointer (some ⟨M, 0, none⟩), .string s] w fun e w' => e = .returned (.bool false) ∧ Mach B M en st v w' ∧ Wk B M w w' := by
  have HS := Lib.hid (has_word s _ hs)
  clear hs
  go_enter Tryz.func68, Tryz.ntmps68
  go_wp2_with fail
  refine (HS.out w).mono ?_
  rintro e w1 ⟨rfl, rfl⟩
  go_wp2
  go_ret
  exact ⟨rfl, h.below (below_alloc _ _), Wk.of_below (below_alloc _ _) h.bw⟩

theorem oneW_zero : oneW 0 = 0 := by decide +kernel
theorem oneW_unit : oneW 4607182418800017408 = 4607182418800017408 := by decide +kernel
theorem push_of (B M : Nat) (en : En) (st : List Nat) (v : Value) (f g : Nat) (hg : oneW f = g) (hf : f < 18446744073709551616) (hn : st.length ≤ 100000) (w : World) (h : Mach B M en st v w) :
    Calls Tryz.prog 70 #[.pointer (some ⟨M, 0, none⟩), .float .f64 f] w (PushPost B M en (g :: st) w) := by
  rw [← hg]; exact push_any B M en st v f hf hn w h

set_option maxHeartbeats 400000 in
set_option maxRecDepth 100000 in
theorem reckon_add (B M : Nat) (en : En) (st : List Nat) (v : Value) (hn : st.length ≤ 100000) (w : World) (h : Mach B M en st v w) :
    Calls Tryz.prog 68 #[.pointer (some ⟨M, 0, none⟩), .string ⟨#[97, 100, 100]⟩] w (OutPost B M en (.bool true) (match (motive := List Nat → Out) st with | b :: a :: t => .ok (arithB wAdd a b :: t) | _ => .rt) w) := by
  have HS := Lib.hid (has_word ⟨#[97, 100, 100]⟩ true (by decide))
  have hb0 := below_alloc w (.cells #[.string ⟨#[97, 100, 100]⟩, .string ⟨#[115, 117, 98]⟩, .string ⟨#[109, 117, 108]⟩, .string ⟨#[100, 105, 118]⟩, .string ⟨#[109, 105, 110]⟩, .string ⟨#[109, 97, 120]⟩, .string ⟨#[108, 101, 115, 115]⟩] 9)
  have h0 := h.below hb0
  have HW0 := Lib.hid (Wk.of_below (M := M) hb0 h.bw)
  have H := two_any B M en st v hn _ h0
  have hfit := h.fit
  clear h hb0 h0
  match st, H, hn, hfit with
  | [], H, hn, hfit =>
    have H := Lib.hid H
    go_enter Tryz.func68, Tryz.ntmps68
    go_wp2_with fail
    refine (HS.out w).mono ?_
    rintro e w1 ⟨rfl, rfl⟩
    go_wp2_with fail
    refine H.out.mono ?_
    rintro e w2 ⟨⟨t, pv, rfl, ht⟩, hW⟩
    exact ⟨rfl, ⟨t, pv, rfl, ht⟩, HW0.out.trans hW⟩
  | [b], H, hn, hfit =>
    have H := Lib.hid H
    go_enter Tryz.func68, Tryz.ntmps68
    go_wp2_with fail
    refine (HS.out w).mono ?_
    rintro e w1 ⟨rfl, rfl⟩
    go_wp2_with fail
    refine H.out.mono ?_
    rintro e w2 ⟨⟨t, pv, rfl, ht⟩, hW⟩
    exact ⟨rfl, ⟨t, pv, rfl, ht⟩, HW0.out.trans hW⟩
  | b :: a :: t, H, hn, hfit =>
    have H := Lib.hid H
    have ha : a < 18446744073709551616 := hfit a (by simp)
    have hb : b < 18446744073709551616 := hfit b (by simp)
    have hn2 : t.length ≤ 100000 := by simp at hn; omega
    clear hfit hn
    change Calls _ _ _ _ (OutPost B M en (.bool true) (.ok (arithB wAdd a b :: t)) w)
    obtain ⟨r, d, hr⟩ := ar_run .add Ieee.double.add (Or.inl ⟨rfl, rfl⟩) a b 45
    have hrun := fun w => (hr w).1
    have HR := Lib.hid hr
    clear hr
    have hV : arithB wAdd a b = arC Ieee.double.add a b := rfl
    rw [hV]
    clear ha hb hV
    go_enter Tryz.func68, Tryz.ntmps68
    go_wp2_with fail
    refine (HS.out w).mono ?_
    rintro e w1 ⟨rfl, rfl⟩
    go_wp2_with fail
    refine H.out.mono ?_
    rintro e w2 ⟨rfl, ⟨v2, h2⟩, hW⟩
    have HW := Lib.hid (HW0.out.trans hW)
    clear hW
    go_wp2_with fail
    refine (push_any B M en t v2 (r w2) (HR.out w2).2.2 hn2 _ (h2.drewN _)).mono ?_
    rintro e w3 ⟨rfl, h3, hW3⟩
    rw [(HR.out w2).2.1] at h3
    go_wp2
    go_ret
    exact ⟨rfl, h3, HW.out.trans ((Wk.drewN B M w2 _).trans hW3)⟩

set_option maxHeartbeats 400000 in
set_option maxRecDepth 100000 in
theorem reckon_sub (B M : Nat) (en : En) (st : List Nat) (v : Value) (hn : st.length ≤ 100000) (w : World) (h : Mach B M en st v w) :
    Calls Tryz.prog 68 #[.pointer (some ⟨M, 0, none⟩), .string ⟨#[115, 117, 98]⟩] w (OutPost B M en (.bool true) (match (motive := List Nat → Out) st with | b :: a :: t => .ok (arithB wSub a b :: t) | _ => .rt) w) := by
  have HS := Lib.hid (has_word ⟨#[115, 117, 98]⟩ true (by decide))
  have hb0 := below_alloc w (.cells #[.string ⟨#[97, 100, 100]⟩, .string ⟨#[115, 117, 98]⟩, .string ⟨#[109, 117, 108]⟩, .string ⟨#[100, 105, 118]⟩, .string ⟨#[109, 105, 110]⟩, .string ⟨#[109, 97, 120]⟩, .string ⟨#[108, 101, 115, 115]⟩] 9)
  have h0 := h.below hb0
  have HW0 := Lib.hid (Wk.of_below (M := M) hb0 h.bw)
  have H := two_any B M en st v hn _ h0
  have hfit := h.fit
  clear h hb0 h0
  match st, H, hn, hfit with
  | [], H, hn, hfit =>
    have H := Lib.hid H
    go_enter Tryz.func68, Tryz.ntmps68
    go_wp2_with fail
    refine (HS.out w).mono ?_
    rintro e w1 ⟨rfl, rfl⟩
    go_wp2_with fail
    refine H.out.mono ?_
    rintro e w2 ⟨⟨t, pv, rfl, ht⟩, hW⟩
    exact ⟨rfl, ⟨t, pv, rfl, ht⟩, HW0.out.trans hW⟩
  | [b], H, hn, hfit =>
    have H := Lib.hid H
    go_enter Tryz.func68, Tryz.ntmps68
    go_wp2_with fail
    refine (HS.out w).mono ?_
    rintro e w1 ⟨rfl, rfl⟩
    go_wp2_with fail
    refine H.out.mono ?_
    rintro e w2 ⟨⟨t, pv, rfl, ht⟩, hW⟩
    exact ⟨rfl, ⟨t, pv, rfl, ht⟩, HW0.out.trans hW⟩
  | b :: a :: t, H, hn, hfit =>
    have H := Lib.hid H
    have ha : a < 18446744073709551616 := hfit a (by simp)
    have hb : b < 18446744073709551616 := hfit b (by simp)
    have hn2 : t.length ≤ 100000 := by simp at hn; omega
    clear hfit hn
    change Calls _ _ _ _ (OutPost B M en (.bool true) (.ok (arithB wSub a b :: t)) w)
    obtain ⟨r, d, hr⟩ := ar_run .sub Ieee.double.sub (Or.inr (Or.inl ⟨rfl, rfl⟩)) a b 45
    have hrun := fun w => (hr w).1
    have HR := Lib.hid hr
    clear hr
    have hV : arithB wSub a b = arC Ieee.double.sub a b := rfl
    rw [hV]
    clear ha hb hV
    go_enter Tryz.func68, Tryz.ntmps68
    go_wp2_with fail
    refine (HS.out w).mono ?_
    rintro e w1 ⟨rfl, rfl⟩
    go_wp2_with fail
    refine H.out.mono ?_
    rintro e w2 ⟨rfl, ⟨v2, h2⟩, hW⟩
    have HW := Lib.hid (HW0.out.trans hW)
    clear hW
    go_wp2_with fail
    refine (push_any B M en t v2 (r w2) (HR.out w2).2.2 hn2 _ (h2.drewN _)).mono ?_
    rintro e w3 ⟨rfl, h3, hW3⟩
    rw [(HR.out w2).2.1] at h3
    go_wp2
    go_ret
    exact ⟨rfl, h3, HW.out.trans ((Wk.drewN B M w2 _).trans hW3)⟩

set_option maxHeartbeats 400000 in
set_option maxRecDepth 100000 in
theorem reckon_mul (B M : Nat) (en : En) (st : List Nat) (v : Value) (hn : st.length ≤ 100000) (w : World) (h : Mach B M en st v w) :
    Calls Tryz.prog 68 #[.pointer (some ⟨M, 0, none⟩), .string ⟨#[109, 117, 108]⟩] w (OutPost B M en (.bool true) (match (motive := List Nat → Out) st with | b :: a :: t => .ok (arithB wMul a b :: t) | _ => .rt) w) := by
  have HS := Lib.hid (has_word ⟨#[109, 117, 108]⟩ true (by decide))
  have hb0 := below_alloc w (.cells #[.string ⟨#[97, 100, 100]⟩, .string ⟨#[115, 117, 98]⟩, .string ⟨#[109, 117, 108]⟩, .string ⟨#[100, 105, 118]⟩, .string ⟨#[109, 105, 110]⟩, .string ⟨#[109, 97, 120]⟩, .string ⟨#[108, 101, 115, 115]⟩] 9)
  have h0 := h.below hb0
  have HW0 := Lib.hid (Wk.of_below (M := M) hb0 h.bw)
  have H := two_any B M en st v hn _ h0
  have hfit := h.fit
  clear h hb0 h0
  match st, H, hn, hfit with
  | [], H, hn, hfit =>
    have H := Lib.hid H
    go_enter Tryz.func68, Tryz.ntmps68
    go_wp2_with fail
    refine (HS.out w).mono ?_
    rintro e w1 ⟨rfl, rfl⟩
    go_wp2_with fail
    refine H.out.mono ?_
    rintro e w2 ⟨⟨t, pv, rfl, ht⟩, hW⟩
    exact ⟨rfl, ⟨t, pv, rfl, ht⟩, HW0.out.trans hW⟩
  | [b], H, hn, hfit =>
    have H := Lib.hid H
    go_enter Tryz.func68, Tryz.ntmps68
    go_wp2_with fail
    refine (HS.out w).mono ?_
    rintro e w1 ⟨rfl, rfl⟩
    go_wp2_with fail
    refine H.out.mono ?_
    rintro e w2 ⟨⟨t, pv, rfl, ht⟩, hW⟩
    exact ⟨rfl, ⟨t, pv, rfl, ht⟩, HW0.out.trans hW⟩
  | b :: a :: t, H, hn, hfit =>
    have H := Lib.hid H
    have ha : a < 18446744073709551616 := hfit a (by simp)
    have hb : b < 18446744073709551616 := hfit b (by simp)
    have hn2 : t.length ≤ 100000 := by simp at hn; omega
    clear hfit hn
    change Calls _ _ _ _ (OutPost B M en (.bool true) (.ok (arithB wMul a b :: t)) w)
    obtain ⟨r, d, hr⟩ := ar_run .mul Ieee.double.mul (Or.inr (Or.inr (Or.inl ⟨rfl, rfl⟩))) a b 45
    have hrun := fun w => (hr w).1
    have HR := Lib.hid hr
    clear hr
    have hV : arithB wMul a b = arC Ieee.double.mul a b := rfl
    rw [hV]
    clear ha hb hV
    go_enter Tryz.func68, Tryz.ntmps68
    go_wp2_with fail
    refine (HS.out w).mono ?_
    rintro e w1 ⟨rfl, rfl⟩
    go_wp2_with fail
    refine H.out.mono ?_
    rintro e w2 ⟨rfl, ⟨v2, h2⟩, hW⟩
    have HW := Lib.hid (HW0.out.trans hW)
    clear hW
    go_wp2_with fail
    refine (push_any B M en t v2 (r w2) (HR.out w2).2.2 hn2 _ (h2.drewN _)).mono ?_
    rintro e w3 ⟨rfl, h3, hW3⟩
    rw [(HR.out w2).2.1] at h3
    go_wp2
    go_ret
    exact ⟨rfl, h3, HW.out.trans ((Wk.drewN B M w2 _).trans hW3)⟩

set_option maxHeartbeats 400000 in
set_option maxRecDepth 100000 in
theorem reckon_div (B M : Nat) (en : En) (st : List Nat) (v : Value) (hn : st.length ≤ 100000) (w : World) (h : Mach B M en st v w) :
    Calls Tryz.prog 68 #[.pointer (some ⟨M, 0, none⟩), .string ⟨#[100, 105, 118]⟩] w (OutPost B M en (.bool true) (match (motive := List Nat → Out) st with | b :: a :: t => .ok (arithB wDiv a b :: t) | _ => .rt) w) := by
  have HS := Lib.hid (has_word ⟨#[100, 105, 118]⟩ true (by decide))
  have hb0 := below_alloc w (.cells #[.string ⟨#[97, 100, 100]⟩, .string ⟨#[115, 117, 98]⟩, .string ⟨#[109, 117, 108]⟩, .string ⟨#[100, 105, 118]⟩, .string ⟨#[109, 105, 110]⟩, .string ⟨#[109, 97, 120]⟩, .string ⟨#[108, 101, 115, 115]⟩] 9)
  have h0 := h.below hb0
  have HW0 := Lib.hid (Wk.of_below (M := M) hb0 h.bw)
  have H := two_any B M en st v hn _ h0
  have hfit := h.fit
  clear h hb0 h0
  match st, H, hn, hfit with
  | [], H, hn, hfit =>
    have H := Lib.hid H
    go_enter Tryz.func68, Tryz.ntmps68
    go_wp2_with fail
    refine (HS.out w).mono ?_
    rintro e w1 ⟨rfl, rfl⟩
    go_wp2_with fail
    refine H.out.mono ?_
    rintro e w2 ⟨⟨t, pv, rfl, ht⟩, hW⟩
    exact ⟨rfl, ⟨t, pv, rfl, ht⟩, HW0.out.trans hW⟩
  | [b], H, hn, hfit =>
    have H := Lib.hid H
    go_enter Tryz.func68, Tryz.ntmps68
    go_wp2_with fail
    refine (HS.out w).mono ?_
    rintro e w1 ⟨rfl, rfl⟩
    go_wp2_with fail
    refine H.out.mono ?_
    rintro e w2 ⟨⟨t, pv, rfl, ht⟩, hW⟩
    exact ⟨rfl, ⟨t, pv, rfl, ht⟩, HW0.out.trans hW⟩
  | b :: a :: t, H, hn, hfit =>
    have H := Lib.hid H
    have ha : a < 18446744073709551616 := hfit a (by simp)
    have hb : b < 18446744073709551616 := hfit b (by simp)
    have hn2 : t.length ≤ 100000 := by simp at hn; omega
    clear hfit hn
    change Calls _ _ _ _ (OutPost B M en (.bool true) (.ok (arithB wDiv a b :: t)) w)
    obtain ⟨r, d, hr⟩ := ar_run .quo Ieee.double.div (Or.inr (Or.inr (Or.inr ⟨rfl, rfl⟩))) a b 45
    have hrun := fun w => (hr w).1
    have HR := Lib.hid hr
    clear hr
    have hV : arithB wDiv a b = arC Ieee.double.div a b := rfl
    rw [hV]
    clear ha hb hV
    go_enter Tryz.func68, Tryz.ntmps68
    go_wp2_with fail
    refine (HS.out w).mono ?_
    rintro e w1 ⟨rfl, rfl⟩
    go_wp2_with fail
    refine H.out.mono ?_
    rintro e w2 ⟨rfl, ⟨v2, h2⟩, hW⟩
    have HW := Lib.hid (HW0.out.trans hW)
    clear hW
    go_wp2_with fail
    refine (push_any B M en t v2 (r w2) (HR.out w2).2.2 hn2 _ (h2.drewN _)).mono ?_
    rintro e w3 ⟨rfl, h3, hW3⟩
    rw [(HR.out w2).2.1] at h3
    go_wp2
    go_ret
    exact ⟨rfl, h3, HW.out.trans ((Wk.drewN B M w2 _).trans hW3)⟩

set_option maxHeartbeats 400000 in
set_option maxRecDepth 100000 in
theorem reckon_min (B M : Nat) (en : En) (st : List Nat) (v : Value) (hn : st.length ≤ 100000) (w : World) (h : Mach B M en st v w) :
    Calls Tryz.prog 68 #[.pointer (some ⟨M, 0, none⟩), .string ⟨#[109, 105, 110]⟩] w (OutPost B M en (.bool true) (match (motive := List Nat → Out) st with | b :: a :: t => .ok (arithB wMin a b :: t) | _ => .rt) w) := by
  have HS := Lib.hid (has_word ⟨#[109, 105, 110]⟩ true (by decide))
  have hb0 := below_alloc w (.cells #[.string ⟨#[97, 100, 100]⟩, .string ⟨#[115, 117, 98]⟩, .string ⟨#[109, 117, 108]⟩, .string ⟨#[100, 105, 118]⟩, .string ⟨#[109, 105, 110]⟩, .string ⟨#[109, 97, 120]⟩, .string ⟨#[108, 101, 115, 115]⟩] 9)
  have h0 := h.below hb0
  have HW0 := Lib.hid (Wk.of_below (M := M) hb0 h.bw)
  have H := two_any B M en st v hn _ h0
  have hfit := h.fit
  clear h hb0 h0
  match st, H, hn, hfit with
  | [], H, hn, hfit =>
    have H := Lib.hid H
    go_enter Tryz.func68, Tryz.ntmps68
    go_wp2_with fail
    refine (HS.out w).mono ?_
    rintro e w1 ⟨rfl, rfl⟩
    go_wp2_with fail
    refine H.out.mono ?_
    rintro e w2 ⟨⟨t, pv, rfl, ht⟩, hW⟩
    exact ⟨rfl, ⟨t, pv, rfl, ht⟩, HW0.out.trans hW⟩
  | [b], H, hn, hfit =>
    have H := Lib.hid H
    go_enter Tryz.func68, Tryz.ntmps68
    go_wp2_with fail
    refine (HS.out w).mono ?_
    rintro e w1 ⟨rfl, rfl⟩
    go_wp2_with fail
    refine H.out.mono ?_
    rintro e w2 ⟨⟨t, pv, rfl, ht⟩, hW⟩
    exact ⟨rfl, ⟨t, pv, rfl, ht⟩, HW0.out.trans hW⟩
  | b :: a :: t, H, hn, hfit =>
    have H := Lib.hid H
    have ha : a < 18446744073709551616 := hfit a (by simp)
    have hb : b < 18446744073709551616 := hfit b (by simp)
    have hn2 : t.length ≤ 100000 := by simp at hn; omega
    clear hfit hn
    change Calls _ _ _ _ (OutPost B M en (.bool true) (.ok (arithB wMin a b :: t)) w)
    have hL : ∀ i, i < 2 → pairL a b i < 18446744073709551616 := fun i _ => by unfold pairL; split <;> assumption
    have hV : arithB wMin a b = oneW (leastC (pairL a b) 2) := rfl
    rw [hV]
    have hlt : leastC (pairL a b) 2 < 18446744073709551616 := leastC_lt hL 2 (Nat.le_refl _)
    have HL := Lib.hid hL
    clear ha hb hV hL
    go_enter Tryz.func68, Tryz.ntmps68
    go_wp2_with fail
    refine (HS.out w).mono ?_
    rintro e w1 ⟨rfl, rfl⟩
    go_wp2_with fail
    refine H.out.mono ?_
    rintro e w2 ⟨rfl, ⟨v2, h2⟩, hW⟩
    have HW := Lib.hid (HW0.out.trans hW)
    clear hW
    have hb3 := below_alloc w2 (.cells #[.float .f64 a, .float .f64 b] 45)
    have hF : FlIn (w2.alloc (.cells #[.float .f64 a, .float .f64 b] 45)) w2.heap.size 0 2 (pairL a b) := ⟨fun i hi => by
      have hb := new_block w2 (.cells #[.float .f64 a, .float .f64 b] 45)
      revert hb
      generalize w2.alloc (.cells #[.float .f64 a, .float .f64 b] 45) = x
      intro hb
      have : i = 0 ∨ i = 1 := by omega
      rcases this with rfl | rfl <;> simp [World.cell?, hb, pairL], by simp⟩
    have HF := Lib.hid (least_any w2.heap.size 0 2 2 (by unfold maxLen; decide) (pairL a b) HL.out _ hF)
    have h3 := h2.below hb3
    have HW3 := Lib.hid (HW.out.trans (Wk.of_below (M := M) hb3 h2.bw))
    clear hF hb3 h2 HW
    go_wp2_with fail
    refine HF.out.mono ?_
    rintro e w3 ⟨rfl, rfl⟩
    go_wp2_with fail
    refine (push_any B M en t v2 _ hlt hn2 _ h3).mono ?_
    rintro e w4 ⟨rfl, h4, hW4⟩
    go_wp2
    go_ret
    exact ⟨rfl, h4, HW3.out.trans hW4⟩

set_option maxHeartbeats 400000 in
set_option maxRecDepth 100000 in
theorem reckon_max (B M : Nat) (en : En) (st : List Nat) (v : Value) (hn : st.length ≤ 100000) (w : World) (h : Mach B M en st v w) :
    Calls Tryz.prog 68 #[.pointer (some ⟨M, 0, none⟩), .string ⟨#[109, 97, 120]⟩] w (OutPost B M en (.bool true) (match (motive := List Nat → Out) st with | b :: a :: t => .ok (arithB wMax a b :: t) | _ => .rt) w) := by
  have HS := Lib.hid (has_word ⟨#[109, 97, 120]⟩ true (by decide))
  have hb0 := below_alloc w (.cells #[.string ⟨#[97, 100, 100]⟩, .string ⟨#[115, 117, 98]⟩, .string ⟨#[109, 117, 108]⟩, .string ⟨#[100, 105, 118]⟩, .string ⟨#[109, 105, 110]⟩, .string ⟨#[109, 97, 120]⟩, .string ⟨#[108, 101, 115, 115]⟩] 9)
  have h0 := h.below hb0
  have HW0 := Lib.hid (Wk.of_below (M := M) hb0 h.bw)
  have H := two_any B M en st v hn _ h0
  have hfit := h.fit
  clear h hb0 h0
  match st, H, hn, hfit with
  | [], H, hn, hfit =>
    have H := Lib.hid H
    go_enter Tryz.func68, Tryz.ntmps68
    go_wp2_with fail
    refine (HS.out w).mono ?_
    rintro e w1 ⟨rfl, rfl⟩
    go_wp2_with fail
    refine H.out.mono ?_
    rintro e w2 ⟨⟨t, pv, rfl, ht⟩, hW⟩
    exact ⟨rfl, ⟨t, pv, rfl, ht⟩, HW0.out.trans hW⟩
  | [b], H, hn, hfit =>
    have H := Lib.hid H
    go_enter Tryz.func68, Tryz.ntmps68
    go_wp2_with fail
    refine (HS.out w).mono ?_
    rintro e w1 ⟨rfl, rfl⟩
    go_wp2_with fail
    refine H.out.mono ?_
    rintro e w2 ⟨⟨t, pv, rfl, ht⟩, hW⟩
    exact ⟨rfl, ⟨t, pv, rfl, ht⟩, HW0.out.trans hW⟩
  | b :: a :: t, H, hn, hfit =>
    have H := Lib.hid H
    have ha : a < 18446744073709551616 := hfit a (by simp)
    have hb : b < 18446744073709551616 := hfit b (by simp)
    have hn2 : t.length ≤ 100000 := by simp at hn; omega
    clear hfit hn
    change Calls _ _ _ _ (OutPost B M en (.bool true) (.ok (arithB wMax a b :: t)) w)
    have hL : ∀ i, i < 2 → pairL a b i < 18446744073709551616 := fun i _ => by unfold pairL; split <;> assumption
    have hV : arithB wMax a b = oneW (oneW (mostC (pairL a b) 1)) := rfl
    rw [hV]
    have hlt : oneW (mostC (pairL a b) 1) < 18446744073709551616 := oneW_lt (mostC_lt hL 1 (by decide))
    have HL := Lib.hid hL
    clear ha hb hV hL
    go_enter Tryz.func68, Tryz.ntmps68
    go_wp2_with fail
    refine (HS.out w).mono ?_
    rintro e w1 ⟨rfl, rfl⟩
    go_wp2_with fail
    refine H.out.mono ?_
    rintro e w2 ⟨rfl, ⟨v2, h2⟩, hW⟩
    have HW := Lib.hid (HW0.out.trans hW)
    clear hW
    have hb3 := below_alloc w2 (.cells #[.float .f64 a, .float .f64 b] 45)
    have hF : FlIn (w2.alloc (.cells #[.float .f64 a, .float .f64 b] 45)) w2.heap.size 0 2 (pairL a b) := ⟨fun i hi => by
      have hb := new_block w2 (.cells #[.float .f64 a, .float .f64 b] 45)
      revert hb
      generalize w2.alloc (.cells #[.float .f64 a, .float .f64 b] 45) = x
      intro hb
      have : i = 0 ∨ i = 1 := by omega
      rcases this with rfl | rfl <;> simp [World.cell?, hb, pairL], by simp⟩
    have HF := Lib.hid (most_any w2.heap.size 0 2 2 (by decide) (by unfold maxLen; decide) (pairL a b) HL.out _ hF)
    have h3 := h2.below hb3
    have HW3 := Lib.hid (HW.out.trans (Wk.of_below (M := M) hb3 h2.bw))
    clear hF hb3 h2 HW
    go_wp2_with fail
    refine HF.out.mono ?_
    rintro e w3 ⟨rfl, rfl⟩
    go_wp2_with fail
    refine (push_any B M en t v2 _ hlt hn2 _ h3).mono ?_
    rintro e w4 ⟨rfl, h4, hW4⟩
    go_wp2
    go_ret
    exact ⟨rfl, h4, HW3.out.trans hW4⟩

set_option maxHeartbeats 400000 in
set_option maxRecDepth 100000 in
theorem reckon_less (B M : Nat) (en : En) (st : List Nat) (v : Value) (hn : st.length ≤ 100000) (w : World) (h : Mach B M en st v w) :
    Calls Tryz.prog 68 #[.pointer (some ⟨M, 0, none⟩), .string ⟨#[108, 101, 115, 115]⟩] w (OutPost B M en (.bool true) (match (motive := List Nat → Out) st with | b :: a :: t => .ok (arithB wLess a b :: t) | _ => .rt) w) := by
  have HS := Lib.hid (has_word ⟨#[108, 101, 115, 115]⟩ true (by decide))
  have hb0 := below_alloc w (.cells #[.string ⟨#[97, 100, 100]⟩, .string ⟨#[115, 117, 98]⟩, .string ⟨#[109, 117, 108]⟩, .string ⟨#[100, 105, 118]⟩, .string ⟨#[109, 105, 110]⟩, .string ⟨#[109, 97, 120]⟩, .string ⟨#[108, 101, 115, 115]⟩] 9)
  have h0 := h.below hb0
  have HW0 := Lib.hid (Wk.of_below (M := M) hb0 h.bw)
  have H := two_any B M en st v hn _ h0
  have hfit := h.fit
  clear h hb0 h0
  match st, H, hn, hfit with
  | [], H, hn, hfit =>
    have H := Lib.hid H
    go_enter Tryz.func68, Tryz.ntmps68
    go_wp2_with fail
    refine (HS.out w).mono ?_
    rintro e w1 ⟨rfl, rfl⟩
    go_wp2_with fail
    refine H.out.mono ?_
    rintro e w2 ⟨⟨t, pv, rfl, ht⟩, hW⟩
    exact ⟨rfl, ⟨t, pv, rfl, ht⟩, HW0.out.trans hW⟩
  | [b], H, hn, hfit =>
    have H := Lib.hid H
    go_enter Tryz.func68, Tryz.ntmps68
    go_wp2_with fail
    refine (HS.out w).mono ?_
    rintro e w1 ⟨rfl, rfl⟩
    go_wp2_with fail
    refine H.out.mono ?_
    rintro e w2 ⟨⟨t, pv, rfl, ht⟩, hW⟩
    exact ⟨rfl, ⟨t, pv, rfl, ht⟩, HW0.out.trans hW⟩
  | b :: a :: t, H, hn, hfit =>
    have H := Lib.hid H
    have ha : a < 18446744073709551616 := hfit a (by simp)
    have hb : b < 18446744073709551616 := hfit b (by simp)
    have hn2 : t.length ≤ 100000 := by simp at hn; omega
    clear hfit hn
    change Calls _ _ _ _ (OutPost B M en (.bool true) (.ok (arithB wLess a b :: t)) w)
    have HL := Lib.hid (less_any a b ha hb)
    have hV : arithB wLess a b = if lessB a b then 4607182418800017408 else 0 := rfl
    rw [hV]
    clear ha hb hV
    have hxz : (lessB a b = false ∧ (if lessB a b then 4607182418800017408 else 0) = 0) ∨ (lessB a b = true ∧ (if lessB a b then 4607182418800017408 else 0) = 4607182418800017408) := by cases lessB a b <;> simp
    rcases hxz with ⟨e1, e2⟩ | ⟨e1, e2⟩
    · rw [e2]
      rw [e1] at HL
      clear e1 e2
      go_enter Tryz.func68, Tryz.ntmps68
      go_wp2_with fail
      refine (HS.out w).mono ?_
      rintro e w1 ⟨rfl, rfl⟩
      go_wp2_with fail
      refine H.out.mono ?_
      rintro e w2 ⟨rfl, ⟨v2, h2⟩, hW⟩
      have HW := Lib.hid (HW0.out.trans hW)
      clear hW
      have HP := Lib.hid (push_of B M en t v2 0 0 oneW_zero (by omega) hn2 _ h2)
      clear h2
      go_wp2_with fail
      refine (HL.out _).mono ?_
      rintro e w3 ⟨rfl, rfl⟩
      go_wp2_with fail
      refine HP.out.mono ?_
      rintro e w4 ⟨rfl, h4, hW4⟩
      go_wp2
      go_ret
      exact ⟨rfl, h4, HW.out.trans hW4⟩
    · rw [e2]
      rw [e1] at HL
      clear e1 e2
      go_enter Tryz.func68, Tryz.ntmps68
      go_wp2_with fail
      refine (HS.out w).mono ?_
      rintro e w1 ⟨rfl, rfl⟩
      go_wp2_with fail
      refine H.out.mono ?_
      rintro e w2 ⟨rfl, ⟨v2, h2⟩, hW⟩
      have HW := Lib.hid (HW0.out.trans hW)
      clear hW
      have HP := Lib.hid (push_of B M en t v2 4607182418800017408 4607182418800017408 oneW_unit (by omega) hn2 _ h2)
      clear h2
      go_wp2_with fail
      refine (HL.out _).mono ?_
      rintro e w3 ⟨rfl, rfl⟩
      go_wp2_with fail
      refine HP.out.mono ?_
      rintro e w4 ⟨rfl, h4, hW4⟩
      go_wp2
      go_ret
      exact ⟨rfl, h4, HW.out.trans hW4⟩

end Go.Proofs.YtidjnfjpdnjogaaGreatDoor

/-
  Package prog: move, word by word; Wk and Mach behind it. Conditions: none.
-/
namespace Go.Proofs.YtidjnfjpdnjogaaGreatDoor
open Go.RowKit Go.Lib

/-- None of the four words. -/
structure NoMove (s : ByteArray) : Prop where
  f1 : (s.toList == [100, 117, 112]) = false
  f2 : (s.toList == [100, 114, 111, 112]) = false
  f3 : (s.toList == [115, 119, 97, 112]) = false
  f4 : (s.toList == [112, 105, 99, 107]) = false
theorem noMove_of {s : ByteArray} (h : moveWords.contains s.data.toList = false) : NoMove s := by
  have h2 : ∀ l ∈ moveWords, s.data.toList ≠ l := fun l hl e => by rw [e] at h; simp at h; exact h hl
  refine ⟨?_, ?_, ?_, ?_⟩ <;> rw [Lib.toList_data] <;> simp only [beq_eq_false_iff_ne, ne_eq]
  · exact h2 wDup (by simp [moveWords])
  · exact h2 wDrop (by simp [moveWords])
  · exact h2 wSwap (by simp [moveWords])
  · exact h2 wPick (by simp [moveWords])
theorem move_no (s : ByteArray) (hs : moveWords.contains s.data.toList = false) (p : Value) (w : World) :
    Calls Tryz.prog 69 #[p, .string s] w fun e w' => e = .returned (.bool false) ∧ w' = w := by
  obtain ⟨f1, f2, f3, f4⟩ := noMove_of hs
  clear hs
  go_enter Tryz.func69, Tryz.ntmps69
  go_wp2
  go_ret
  exact ⟨rfl, rfl⟩

theorem move_dup (B M : Nat) (en : En) (st : List Nat) (v : Value) (hn : st.length ≤ 90000) (w : World) (h : Mach B M en st v w) :
    Calls Tryz.prog 69 #[.pointer (some ⟨M, 0, none⟩), .string ⟨#[100, 117, 112]⟩] w (OutPost B M en (.bool true) (match (motive := List Nat → Out) st with | f :: t => .ok (oneW f :: oneW f :: t) | _ => .rt) w) := by
  match st, h, hn with
  | [], h, hn =>
    have H := Lib.hid (pop_none B M en v w h)
    clear h
    change Calls _ _ _ _ (RtPost B M w)
    go_enter Tryz.func69, Tryz.ntmps69
    go_wp2_with fail
    refine H.out.mono ?_
    rintro e w1 ⟨⟨t, pv, rfl, ht⟩, hW⟩
    exact ⟨rfl, ⟨t, pv, rfl, ht⟩, hW⟩
  | f :: t, h, hn =>
    have hf := h.fit f (by simp)
    have hn2 : t.length ≤ 90000 := by simp at hn; omega
    have H := Lib.hid (pop_some B M en f t v (by omega) w h)
    clear h
    change Calls _ _ _ _ (OutPost B M en (.bool true) (.ok (oneW f :: oneW f :: t)) w)
    go_enter Tryz.func69, Tryz.ntmps69
    go_wp2_with fail
    refine H.out.mono ?_
    rintro e w1 ⟨rfl, ⟨v1, h1⟩, hW1⟩
    go_wp2_with fail
    refine (push_any B M en t v1 f hf (by omega) w1 h1).mono ?_
    rintro e w2 ⟨rfl, ⟨v2, h2⟩, hW2⟩
    go_wp2_with fail
    refine (push_any B M en (oneW f :: t) v2 f hf (by simp; omega) w2 h2).mono ?_
    rintro e w3 ⟨rfl, h3, hW3⟩
    go_wp2
    go_ret
    exact ⟨rfl, h3, (hW1.trans hW2).trans hW3⟩

theorem move_drop (B M : Nat) (en : En) (st : List Nat) (v : Value) (hn : st.length ≤ 90000) (w : World) (h : Mach B M en st v w) :
    Calls Tryz.prog 69 #[.pointer (some ⟨M, 0, none⟩), .string ⟨#[100, 114, 111, 112]⟩] w (OutPost B M en (.bool true) (match (motive := List Nat → Out) st with | _ :: t => .ok t | _ => .rt) w) := by
  match st, h, hn with
  | [], h, hn =>
    have H := Lib.hid (pop_none B M en v w h)
    clear h
    change Calls _ _ _ _ (RtPost B M w)
    go_enter Tryz.func69, Tryz.ntmps69
    go_wp2_with fail
    refine H.out.mono ?_
    rintro e w1 ⟨⟨t, pv, rfl, ht⟩, hW⟩
    exact ⟨rfl, ⟨t, pv, rfl, ht⟩, hW⟩
  | f :: t, h, hn =>
    have hn2 : t.length ≤ 90000 := by simp at hn; omega
    have H := Lib.hid (pop_some B M en f t v (by omega) w h)
    clear h
    change Calls _ _ _ _ (OutPost B M en (.bool true) (.ok t) w)
    go_enter Tryz.func69, Tryz.ntmps69
    go_wp2_with fail
    refine H.out.mono ?_
    rintro e w1 ⟨rfl, h1, hW1⟩
    go_wp2
    go_ret
    exact ⟨rfl, h1, hW1⟩

theorem move_swap (B M : Nat) (en : En) (st : List Nat) (v : Value) (hn : st.length ≤ 90000) (w : World) (h : Mach B M en st v w) :
    Calls Tryz.prog 69 #[.pointer (some ⟨M, 0, none⟩), .string ⟨#[115, 119, 97, 112]⟩] w (OutPost B M en (.bool true) (match (motive := List Nat → Out) st with | b :: a :: t => .ok (oneW a :: oneW b :: t) | _ => .rt) w) := by
  have H := two_any B M en st v (by omega) w h
  have hfit := h.fit
  clear h
  match st, H, hn, hfit with
  | [], H, hn, hfit =>
    have H := Lib.hid H
    go_enter Tryz.func69, Tryz.ntmps69
    go_wp2_with fail
    refine H.out.mono ?_
    rintro e w2 ⟨⟨t, pv, rfl, ht⟩, hW⟩
    exact ⟨rfl, ⟨t, pv, rfl, ht⟩, hW⟩
  | [b], H, hn, hfit =>
    have H := Lib.hid H
    go_enter Tryz.func69, Tryz.ntmps69
    go_wp2_with fail
    refine H.out.mono ?_
    rintro e w2 ⟨⟨t, pv, rfl, ht⟩, hW⟩
    exact ⟨rfl, ⟨t, pv, rfl, ht⟩, hW⟩
  | b :: a :: t, H, hn, hfit =>
    have H := Lib.hid H
    have ha : a < 18446744073709551616 := hfit a (by simp)
    have hb : b < 18446744073709551616 := hfit b (by simp)
    have hn2 : t.length ≤ 90000 := by simp at hn; omega
    clear hfit hn
    change Calls _ _ _ _ (OutPost B M en (.bool true) (.ok (oneW a :: oneW b :: t)) w)
    go_enter Tryz.func69, Tryz.ntmps69
    go_wp2_with fail
    refine H.out.mono ?_
    rintro e w1 ⟨rfl, ⟨v1, h1⟩, hW1⟩
    go_wp2_with fail
    refine (push_any B M en t v1 b hb (by omega) w1 h1).mono ?_
    rintro e w2 ⟨rfl, ⟨v2, h2⟩, hW2⟩
    go_wp2_with fail
    refine (push_any B M en (oneW b :: t) v2 a ha (by simp; omega) w2 h2).mono ?_
    rintro e w3 ⟨rfl, h3, hW3⟩
    go_wp2
    go_ret
    exact ⟨rfl, h3, (hW1.trans hW2).trans hW3⟩

theorem move_pick (B M : Nat) (en : En) (st : List Nat) (v : Value) (hn : st.length ≤ 90000) (w : World) (h : Mach B M en st v w) :
    Calls Tryz.prog 69 #[.pointer (some ⟨M, 0, none⟩), .string ⟨#[112, 105, 99, 107]⟩] w (OutPost B M en (.bool true) (match (motive := List Nat → Out) st with | c :: b :: a :: t => .ok (oneW (if nilB c then b else a) :: t) | _ => .rt) w) := by
  match st, h, hn with
  | [], h, hn =>
    have H := Lib.hid (pop_none B M en v w h)
    clear h
    change Calls _ _ _ _ (RtPost B M w)
    go_enter Tryz.func69, Tryz.ntmps69
    go_wp2_with fail
    refine H.out.mono ?_
    rintro e w1 ⟨⟨t, pv, rfl, ht⟩, hW⟩
    exact ⟨rfl, ⟨t, pv, rfl, ht⟩, hW⟩
  | [c], h, hn =>
    have H := Lib.hid (pop_some B M en c [] v (by simp) w h)
    clear h
    change Calls _ _ _ _ (RtPost B M w)
    go_enter Tryz.func69, Tryz.ntmps69
    go_wp2_with fail
    refine H.out.mono ?_
    rintro e w1 ⟨rfl, ⟨v1, h1⟩, hW1⟩
    go_wp2_with fail
    refine (two_any B M en [] v1 (by simp) w1 h1).mono ?_
    rintro e w2 ⟨⟨t, pv, rfl, ht⟩, hW⟩
    exact ⟨rfl, ⟨t, pv, rfl, ht⟩, hW1.trans hW⟩
  | [c, b], h, hn =>
    have H := Lib.hid (pop_some B M en c [b] v (by simp) w h)
    clear h
    change Calls _ _ _ _ (RtPost B M w)
    go_enter Tryz.func69, Tryz.ntmps69
    go_wp2_with fail
    refine H.out.mono ?_
    rintro e w1 ⟨rfl, ⟨v1, h1⟩, hW1⟩
    go_wp2_with fail
    refine (two_any B M en [b] v1 (by simp) w1 h1).mono ?_
    rintro e w2 ⟨⟨t, pv, rfl, ht⟩, hW⟩
    exact ⟨rfl, ⟨t, pv, rfl, ht⟩, hW1.trans hW⟩
  | c :: b :: a :: t, h, hn =>
    have ha : a < 18446744073709551616 := h.fit a (by simp)
    have hb : b < 18446744073709551616 := h.fit b (by simp)
    have hn2 : t.length ≤ 90000 := by simp at hn; omega
    have H := Lib.hid (pop_some B M en c (b :: a :: t) v (by simp; omega) w h)
    clear h hn
    change Calls _ _ _ _ (OutPost B M en (.bool true) (.ok (oneW (if nilB c then b else a) :: t)) w)
    have key : ∀ (z n : Bool), (FloatKind.f64.format.order c 0 == some .eq) = z → (FloatKind.f64.format.order c c != some .eq) = n → nilB c = (z || n) := fun z n h1 h2 => by rw [← h1, ← h2]; rfl
    obtain ⟨z, hz⟩ : ∃ z, (FloatKind.f64.format.order c 0 == some .eq) = z := ⟨_, rfl⟩
    obtain ⟨n, hnn⟩ : ∃ n, (FloatKind.f64.format.order c c != some .eq) = n := ⟨_, rfl⟩
    rw [key z n hz hnn]
    clear key
    have HT := Lib.hid fun v1 w1 h1 => two_any B M en (b :: a :: t) v1 (by simp; omega) w1 h1
    cases z <;> cases n
    all_goals
      simp only [Bool.or_false, Bool.or_true, Bool.false_eq_true, if_false, if_true]
      go_enter Tryz.func69, Tryz.ntmps69
      go_wp2_with fail
      refine H.out.mono ?_
      rintro e w1 ⟨rfl, ⟨v1, h1⟩, hW1⟩
      go_wp2_with fail
      refine (HT.out v1 w1 h1).mono ?_
      rintro e w2 ⟨rfl, ⟨v2, h2⟩, hW2⟩
      go_wp2_with fail
      refine (push_any B M en t v2 _ (by assumption) (by omega) w2 h2).mono ?_
      rintro e w3 ⟨rfl, h3, hW3⟩
      go_wp2
      go_ret
      exact ⟨rfl, h3, (hW1.trans hW2).trans hW3⟩
end Go.Proofs.YtidjnfjpdnjogaaGreatDoor

/-
  Package prog: the byte at a place. Conditions: none.
-/
namespace Go.Proofs.YtidjnfjpdnjogaaGreatDoor
open Go.RowKit Go.Lib

theorem ltV_fine (a b : Nat) (ha : fine a) (hb : fine b) : (Ieee.double.order a b == some .lt) = decide (valF a < valF b) := by
  rw [order_fine a b ha hb]
  rcases Int.lt_trichotomy (valF a) (valF b) with h | h | h
  · rw [cmp_lt h, decide_eq_true h]; rfl
  · rw [h, cmp_eq, decide_eq_false (Int.lt_irrefl _)]; rfl
  · rw [cmp_gt h, decide_eq_false (by omega)]; rfl

theorem pw_mono (a b : Nat) (h : a ≤ b) : pw a ≤ pw b := Nat.pow_le_pow_right (by decide) h
theorem inf_great (n : Nat) (hn : n ≤ 281474976710656) : n * UU < magM 9218868437227405312 := by
  have h1 : magM 9218868437227405312 = 9007199254740992 * pw 2045 := mag_top 2045
  have h2 : UU ≤ pw 2045 := pw_mono 1074 2045 (by decide)
  have h3 : 0 < UU := UU_pos
  rw [h1]
  revert h2 h3
  generalize UU = u
  generalize pw 2045 = p
  intro h2 h3
  calc n * u ≤ 281474976710656 * u := Nat.mul_le_mul_right _ hn
    _ < 9007199254740992 * u := by omega
    _ ≤ 9007199254740992 * p := Nat.mul_le_mul_left _ h2

theorem place_cases (k n : Nat) (hn : n ≤ 281474976710656) :
    (Ieee.double.order k 0 == some .gt || Ieee.double.order k 0 == some .eq) = false ∧ placeB k n = none
    ∨ (Ieee.double.order k 0 == some .gt || Ieee.double.order k 0 == some .eq) = true ∧ (Ieee.double.order k (intF n) == some .lt) = false ∧ placeB k n = none
    ∨ (Ieee.double.order k 0 == some .gt || Ieee.double.order k 0 == some .eq) = true ∧ (Ieee.double.order k (intF n) == some .lt) = true ∧ rungOf k < 9218868437227405312 ∧ qOf k < n ∧ nOf k = qOf k ∧ placeB k n = if evenB k then some (qOf k) else none := by
  unfold placeB
  cases hg : (Ieee.double.order k 0 == some .gt || Ieee.double.order k 0 == some .eq)
  · exact Or.inl ⟨rfl, rfl⟩
  cases hl : (Ieee.double.order k (intF n) == some .lt)
  · exact Or.inr (Or.inl ⟨rfl, rfl, rfl⟩)
  refine Or.inr (Or.inr ⟨rfl, rfl, ?_⟩)
  have hnI : fine (intF n) := intF_fine n ⟨by omega, by omega⟩
  have hk : fine k := by
    by_cases h : fine k
    · exact h
    · rw [order_nan k (intF n) (Or.inl h)] at hl; cases hl
  have f0 : fine 0 := by unfold fine; decide +kernel
  rw [ge_fine k 0 hk f0, decide_eq_true_eq] at hg
  rw [ltV_fine k _ hk hnI, decide_eq_true_eq, intF_val n (by omega) (by omega)] at hl
  have v0 : valF 0 = 0 := by decide +kernel
  rw [v0] at hg
  have hmag : magM (rungOf k) < n * UU ∧ nOf k = (qOf k : Int) := by
    have hq : qOf k = magM (rungOf k) / UU := rfl
    unfold nOf
    rw [valF] at hg hl
    cases hs : negOf k
    · rw [hs] at hl
      simp only [sgn, Bool.false_eq_true, if_false] at hl ⊢
      refine ⟨?_, trivial⟩
      have : ((magM (rungOf k) : Nat) : Int) < ((n * UU : Nat) : Int) := by rw [Int.natCast_mul]; exact hl
      exact Int.ofNat_lt.1 this
    · rw [hs] at hg hl
      simp only [sgn, if_true] at hg hl ⊢
      have h0 : magM (rungOf k) = 0 := by omega
      rw [h0] at hl hq
      rw [hq, Nat.zero_div, h0]
      have : ((0 : Nat) : Int) < ((n * UU : Nat) : Int) := by rw [Int.natCast_mul]; simpa using hl
      exact ⟨Int.ofNat_lt.1 this, rfl⟩
  have hfin : rungOf k < 9218868437227405312 := by
    rcases Nat.lt_or_ge (rungOf k) 9218868437227405312 with h | h
    · exact h
    · have he : rungOf k = 9218868437227405312 := Nat.le_antisymm hk h
      have := hmag.1
      rw [he] at this
      exact absurd this (by have := inf_great n hn; omega)
  refine ⟨hfin, ?_, hmag.2, by cases evenB k <;> rfl⟩
  show magM (rungOf k) / UU < n
  exact (Nat.div_lt_iff_lt_mul UU_pos).2 hmag.1

/-- The byte's text: what 'at' answers. -/
def AtPost (B M : Nat) (en : En) (k : Nat) (w : World) (e : Ending) (w' : World) : Prop := match placeB k en.d.size with
  | some i => e = .returned (.int .u8 ((en.d.data.toList.getD i 0).toNat)) ∧ w' = w
  | none => RtPost B M w e w'

theorem index_out (d : ByteArray) : ∃ (pv : World → Value) (N : World → Nat), ∀ w, (Instr.index 9 (.string d) (.int .i64 (-1))).run Tryz.prog w = .halt (.panic (.iface 8 (pv w))) (w.drewN (N w)) := by
  obtain ⟨S, Nn, hrun⟩ := bounds_run (-1) d.size
  refine ⟨fun w => .agg #[.int .i64 (IntKind.i64.wrap (-1)), .int .i64 d.size, .bool (S w), .int .u8 0], Nn, fun w => ?_⟩
  rw [run_index_string (h := Tryz.underlying9)]
  simp only [show ¬ (0 : Int) ≤ -1 by decide]
  exact hrun w

theorem at_any (B M : Nat) (en : En) (st : List Nat) (v : Value) (k : Nat) (ho : en.Ok) (w : World) (h : Mach B M en st v w) :
    Calls Tryz.prog 71 #[.pointer (some ⟨M, 0, none⟩), .float .f64 k] w (AtPost B M en k w) := by
  obtain ⟨-, -, -, c3, -, -, -, -⟩ := h.cells
  have hz := h.lt
  clear h
  have hcv : ∀ w : World, (convert 3 45 (.int .i64 (en.d.size : Nat))).run Tryz.prog w = .ok (.float .f64 (intF (en.d.size : Nat))) w := fun w => run_convert_int_float w 3 45 .i64 .f64 _ (by kernel_rfl) Tryz.underlying45
  obtain ⟨pv, Nn, hix⟩ := index_out en.d
  unfold AtPost
  have hd := ho.d
  clear ho
  rcases place_cases k en.d.size hd with ⟨g, hp⟩ | ⟨g, l, hp⟩ | ⟨g, l, hf, hq, hn, hp⟩
  · rw [hp]
    have g' : (FloatKind.f64.format.order k 0 == some .gt || FloatKind.f64.format.order k 0 == some .eq) = false := g
    clear g hp
    go_enter Tryz.func71, Tryz.ntmps71
    go_wp2
    exact ⟨rfl, ⟨_, _, rfl, Or.inl rfl⟩, Wk.drewN B M w _⟩
  · rw [hp]
    have g' : (FloatKind.f64.format.order k 0 == some .gt || FloatKind.f64.format.order k 0 == some .eq) = true := g
    have l' : (FloatKind.f64.format.order k (intF (en.d.size : Nat)) == some .lt) = false := l
    clear g l hp
    go_enter Tryz.func71, Tryz.ntmps71
    go_wp2
    exact ⟨rfl, ⟨_, _, rfl, Or.inl rfl⟩, Wk.drewN B M w _⟩
  · rw [hp]
    have g' : (FloatKind.f64.format.order k 0 == some .gt || FloatKind.f64.format.order k 0 == some .eq) = true := g
    have l' : (FloatKind.f64.format.order k (intF (en.d.size : Nat)) == some .lt) = true := l
    have hT := trunc_any k hf
    have hw := whole_test k hf (by omega)
    have hcv2 : ∀ w : World, (convert 45 3 (.float .f64 k)).run Tryz.prog w = .ok (.int .i64 (qOf k : Nat)) w := fun w =>
      run_convert_float_int w 45 3 .f64 .i64 k (qOf k : Nat) (by kernel_rfl) Tryz.underlying3 (by rw [← hn]; exact toInt_is k hf (by omega))
    clear g l hp hf hn hd
    revert hT hw hcv2 hq
    generalize intW (negOf k) (qOf k) = t
    generalize qOf k = q
    intro hq hT hw hcv2
    have hw' : (FloatKind.f64.format.order k t == some .eq) = evenB k := hw
    have HT := Lib.hid hT
    clear hw hT
    cases he : evenB k
    · rw [he] at hw'
      clear he
      simp only [Bool.false_eq_true, if_false]
      go_enter Tryz.func71, Tryz.ntmps71
      go_wp2_with fail
      refine (HT.out _).mono ?_
      rintro e w1 ⟨rfl, rfl⟩
      go_wp2
      exact ⟨rfl, ⟨_, _, rfl, Or.inl rfl⟩, Wk.drewN B M _ _⟩
    · rw [he] at hw'
      clear he hix
      simp only [if_true]
      have hi : (q : Int) < (en.d.size : Int) := by omega
      have hv : ((en.d.data.toList.getD q 0).toNat) = (en.d[q]).toNat := by
        have : en.d.data.toList.getD q 0 = en.d[q] := by
          rw [List.getD_eq_getElem?_getD, List.getElem?_eq_getElem (by simpa using hq)]
          rfl
        rw [this]
      rw [hv]
      clear hv
      go_enter Tryz.func71, Tryz.ntmps71
      go_wp2_with fail
      refine (HT.out _).mono ?_
      rintro e w1 ⟨rfl, rfl⟩
      go_wp2
      go_ret
      exact ⟨rfl, rfl⟩
end Go.Proofs.YtidjnfjpdnjogaaGreatDoor

/-
  Package prog: a word's step. Conditions: none.
-/
namespace Go.Proofs.YtidjnfjpdnjogaaGreatDoor
open Go.RowKit Go.Lib

/-- None of the seven other words. -/
structure NoOther (s : ByteArray) : Prop where
  f1 : (s.toList == [115, 116, 97, 116, 101]) = false
  f2 : (s.toList == [118, 97, 108, 117, 101]) = false
  f3 : (s.toList == [118, 101, 114, 115, 105, 111, 110]) = false
  f4 : (s.toList == [108, 101, 110]) = false
  f5 : (s.toList == [98, 121, 116, 101]) = false
  f6 : (s.toList == [110, 101, 103]) = false
  f7 : (s.toList == [102, 97, 105, 108]) = false
theorem noOther_of {s : ByteArray} (h : ∀ l ∈ otherWords, s.data.toList ≠ l) : NoOther s := by
  refine ⟨?_, ?_, ?_, ?_, ?_, ?_, ?_⟩ <;> rw [Lib.toList_data] <;> simp only [beq_eq_false_iff_ne, ne_eq]
  · exact h wState (by simp [otherWords])
  · exact h wValue (by simp [otherWords])
  · exact h wVersion (by simp [otherWords])
  · exact h wLen (by simp [otherWords])
  · exact h wByte (by simp [otherWords])
  · exact h wNeg (by simp [otherWords])
  · exact h wFail (by simp [otherWords])

theorem parse_lt (l : List UInt8) : (parseB l).1 < 18446744073709551616 := by
  unfold parseB
  split
  · decide
  split
  · decide
  split
  · decide
  split
  · decide
  split
  · unfold hexTell
    split
    · rename_i h
      refine oneW_lt ?_
      simp only [Bool.and_eq_true, beq_iff_eq] at h
      have h2 := hexFold_lt (trimPrefix l [120])
      rw [h.2] at h2
      exact h2
    · show (0 : Nat) < 18446744073709551616
      omega
  · unfold digTell
    split
    · show (0 : Nat) < 18446744073709551616
      omega
    · exact intF_lt _

set_option maxRecDepth 100000 in
theorem step_state (B M : Nat) (en : En) (st : List Nat) (v : Value) (hn : st.length ≤ 90000) (ho : en.Ok) (w : World) (h : Mach B M en st v w) :
    Calls Tryz.prog 45 #[.pointer (some ⟨M, 0, none⟩), .string ⟨#[115, 116, 97, 116, 101]⟩] w (OutPost B M en (.tuple #[]) (.ok (oneW en.s :: st)) w) := by
  have HR := Lib.hid fun v w h => reckon_no B M en st v ⟨#[115, 116, 97, 116, 101]⟩ (by decide) w h
  have HM := Lib.hid (move_no ⟨#[115, 116, 97, 116, 101]⟩ (by decide))
  go_enter Tryz.func45, Tryz.ntmps45
  go_wp2_with fail
  refine (HR.out v w h).mono ?_
  rintro e w1 ⟨rfl, h1, hW1⟩
  clear h
  go_wp2_with fail
  refine (HM.out _ _).mono ?_
  rintro e w2 ⟨rfl, rfl⟩
  obtain ⟨c0, c1, c2, c3, c4, c5, c6, c7⟩ := h1.cells
  have hz := h1.lt
  go_wp2_with fail
  refine (push_any B M en st v _ ho.s (by omega) _ h1).mono ?_
  rintro e w3 ⟨rfl, h3, hW3⟩
  go_wp2
  go_end0
  exact ⟨rfl, h3, hW1.trans hW3⟩

set_option maxRecDepth 100000 in
theorem step_value (B M : Nat) (en : En) (st : List Nat) (v : Value) (hn : st.length ≤ 90000) (ho : en.Ok) (w : World) (h : Mach B M en st v w) :
    Calls Tryz.prog 45 #[.pointer (some ⟨M, 0, none⟩), .string ⟨#[118, 97, 108, 117, 101]⟩] w (OutPost B M en (.tuple #[]) (.ok (oneW en.v :: st)) w) := by
  have HR := Lib.hid fun v w h => reckon_no B M en st v ⟨#[118, 97, 108, 117, 101]⟩ (by decide) w h
  have HM := Lib.hid (move_no ⟨#[118, 97, 108, 117, 101]⟩ (by decide))
  go_enter Tryz.func45, Tryz.ntmps45
  go_wp2_with fail
  refine (HR.out v w h).mono ?_
  rintro e w1 ⟨rfl, h1, hW1⟩
  clear h
  go_wp2_with fail
  refine (HM.out _ _).mono ?_
  rintro e w2 ⟨rfl, rfl⟩
  obtain ⟨c0, c1, c2, c3, c4, c5, c6, c7⟩ := h1.cells
  have hz := h1.lt
  go_wp2_with fail
  refine (push_any B M en st v _ ho.v (by omega) _ h1).mono ?_
  rintro e w3 ⟨rfl, h3, hW3⟩
  go_wp2
  go_end0
  exact ⟨rfl, h3, hW1.trans hW3⟩

set_option maxRecDepth 100000 in
theorem step_version (B M : Nat) (en : En) (st : List Nat) (v : Value) (hn : st.length ≤ 90000) (ho : en.Ok) (w : World) (h : Mach B M en st v w) :
    Calls Tryz.prog 45 #[.pointer (some ⟨M, 0, none⟩), .string ⟨#[118, 101, 114, 115, 105, 111, 110]⟩] w (OutPost B M en (.tuple #[]) (.ok (oneW (intF en.ver) :: st)) w) := by
  have _h := ho
  have HR := Lib.hid fun v w h => reckon_no B M en st v ⟨#[118, 101, 114, 115, 105, 111, 110]⟩ (by decide) w h
  have HM := Lib.hid (move_no ⟨#[118, 101, 114, 115, 105, 111, 110]⟩ (by decide))
  have hcv : ∀ w : World, (convert 3 45 (.int .i64 en.ver)).run Tryz.prog w = .ok (.float .f64 (intF en.ver)) w := fun w => run_convert_int_float w 3 45 .i64 .f64 _ (by kernel_rfl) Tryz.underlying45
  go_enter Tryz.func45, Tryz.ntmps45
  go_wp2_with fail
  refine (HR.out v w h).mono ?_
  rintro e w1 ⟨rfl, h1, hW1⟩
  clear h
  go_wp2_with fail
  refine (HM.out _ _).mono ?_
  rintro e w2 ⟨rfl, rfl⟩
  obtain ⟨c0, c1, c2, c3, c4, c5, c6, c7⟩ := h1.cells
  have hz := h1.lt
  go_wp2_with fail
  refine (push_any B M en st v _ (intF_lt _) (by omega) _ h1).mono ?_
  rintro e w3 ⟨rfl, h3, hW3⟩
  go_wp2
  go_end0
  exact ⟨rfl, h3, hW1.trans hW3⟩

set_option maxRecDepth 100000 in
theorem step_len (B M : Nat) (en : En) (st : List Nat) (v : Value) (hn : st.length ≤ 90000) (ho : en.Ok) (w : World) (h : Mach B M en st v w) :
    Calls Tryz.prog 45 #[.pointer (some ⟨M, 0, none⟩), .string ⟨#[108, 101, 110]⟩] w (OutPost B M en (.tuple #[]) (.ok (oneW (intF en.d.size) :: st)) w) := by
  have _h := ho
  have HR := Lib.hid fun v w h => reckon_no B M en st v ⟨#[108, 101, 110]⟩ (by decide) w h
  have HM := Lib.hid (move_no ⟨#[108, 101, 110]⟩ (by decide))
  have hcv : ∀ w : World, (convert 3 45 (.int .i64 (en.d.size : Nat))).run Tryz.prog w = .ok (.float .f64 (intF (en.d.size : Nat))) w := fun w => run_convert_int_float w 3 45 .i64 .f64 _ (by kernel_rfl) Tryz.underlying45
  go_enter Tryz.func45, Tryz.ntmps45
  go_wp2_with fail
  refine (HR.out v w h).mono ?_
  rintro e w1 ⟨rfl, h1, hW1⟩
  clear h
  go_wp2_with fail
  refine (HM.out _ _).mono ?_
  rintro e w2 ⟨rfl, rfl⟩
  obtain ⟨c0, c1, c2, c3, c4, c5, c6, c7⟩ := h1.cells
  have hz := h1.lt
  go_wp2_with fail
  refine (push_any B M en st v _ (intF_lt _) (by omega) _ h1).mono ?_
  rintro e w3 ⟨rfl, h3, hW3⟩
  go_wp2
  go_end0
  exact ⟨rfl, h3, hW1.trans hW3⟩

set_option maxRecDepth 100000 in
theorem step_fail (B M : Nat) (en : En) (st : List Nat) (v : Value) (hn : st.length ≤ 90000) (ho : en.Ok) (w : World) (h : Mach B M en st v w) :
    Calls Tryz.prog 45 #[.pointer (some ⟨M, 0, none⟩), .string ⟨#[102, 97, 105, 108]⟩] w (OutPost B M en (.tuple #[]) (.fail) w) := by
  have _ho := ho
  have _hn := hn
  have HR := Lib.hid fun v w h => reckon_no B M en st v ⟨#[102, 97, 105, 108]⟩ (by decide) w h
  have HM := Lib.hid (move_no ⟨#[102, 97, 105, 108]⟩ (by decide))
  go_enter Tryz.func45, Tryz.ntmps45
  go_wp2_with fail
  refine (HR.out v w h).mono ?_
  rintro e w1 ⟨rfl, h1, hW1⟩
  clear h
  go_wp2_with fail
  refine (HM.out _ _).mono ?_
  rintro e w2 ⟨rfl, rfl⟩
  go_wp2_with fail
  refine (fail_any _ _).mono ?_
  rintro e w3 ⟨rfl, rfl⟩
  exact ⟨rfl, rfl, hW1⟩

set_option maxRecDepth 100000 in
theorem step_neg (B M : Nat) (en : En) (st : List Nat) (v : Value) (hn : st.length ≤ 90000) (ho : en.Ok) (w : World) (h : Mach B M en st v w) :
    Calls Tryz.prog 45 #[.pointer (some ⟨M, 0, none⟩), .string ⟨#[110, 101, 103]⟩] w (OutPost B M en (.tuple #[]) (match (motive := List Nat → Out) st with | f :: t => .ok (oneW (negB f) :: t) | _ => .rt) w) := by
  have _ho := ho
  have HR := Lib.hid fun v w h => reckon_no B M en st v ⟨#[110, 101, 103]⟩ (by decide) w h
  have HM := Lib.hid (move_no ⟨#[110, 101, 103]⟩ (by decide))
  match st, h, hn with
  | [], h, hn =>
    change Calls _ _ _ _ (RtPost B M w)
    go_enter Tryz.func45, Tryz.ntmps45
    go_wp2_with fail
    refine (HR.out v w h).mono ?_
    rintro e w1 ⟨rfl, h1, hW1⟩
    clear h
    go_wp2_with fail
    refine (HM.out _ _).mono ?_
    rintro e w2 ⟨rfl, rfl⟩
    go_wp2_with fail
    refine (pop_none B M en v _ h1).mono ?_
    rintro e w3 ⟨⟨t, pv, rfl, ht⟩, hW⟩
    exact ⟨rfl, ⟨t, pv, rfl, ht⟩, hW1.trans hW⟩
  | f :: t, h, hn =>
    have hf := h.fit f (by simp)
    have hn2 : t.length ≤ 90000 := by simp at hn; omega
    change Calls _ _ _ _ (OutPost B M en (.tuple #[]) (.ok (oneW (negB f) :: t)) w)
    have hneg : ∀ w : World, (Op.unary .neg (.float .f64 f)).run Tryz.prog w = .ok (.float .f64 (negB f)) w := fun w => runNeg f w
    go_enter Tryz.func45, Tryz.ntmps45
    go_wp2_with fail
    refine (HR.out v w h).mono ?_
    rintro e w1 ⟨rfl, h1, hW1⟩
    clear h
    go_wp2_with fail
    refine (HM.out _ _).mono ?_
    rintro e w2 ⟨rfl, rfl⟩
    go_wp2_with fail
    refine (pop_some B M en f t v (by omega) _ h1).mono ?_
    rintro e w3 ⟨rfl, ⟨v3, h3⟩, hW3⟩
    go_wp2_with fail
    refine (push_any B M en t v3 (negB f) (negB_lt f hf) (by omega) _ h3).mono ?_
    rintro e w4 ⟨rfl, h4, hW4⟩
    go_wp2
    go_end0
    exact ⟨rfl, h4, (hW1.trans hW3).trans hW4⟩

set_option maxRecDepth 100000 in
theorem step_byte (B M : Nat) (en : En) (st : List Nat) (v : Value) (hn : st.length ≤ 90000) (ho : en.Ok) (w : World) (h : Mach B M en st v w) :
    Calls Tryz.prog 45 #[.pointer (some ⟨M, 0, none⟩), .string ⟨#[98, 121, 116, 101]⟩] w (OutPost B M en (.tuple #[]) (match (motive := List Nat → Out) st with | k :: t => (match placeB k en.d.size with | some i => .ok (oneW (intF ((en.d.data.toList.getD i 0).toNat)) :: t) | none => .rt) | _ => .rt) w) := by
  have HR := Lib.hid fun v w h => reckon_no B M en st v ⟨#[98, 121, 116, 101]⟩ (by decide) w h
  have HM := Lib.hid (move_no ⟨#[98, 121, 116, 101]⟩ (by decide))
  match st, h, hn with
  | [], h, hn =>
    have _ho := ho
    change Calls _ _ _ _ (RtPost B M w)
    go_enter Tryz.func45, Tryz.ntmps45
    go_wp2_with fail
    refine (HR.out v w h).mono ?_
    rintro e w1 ⟨rfl, h1, hW1⟩
    clear h
    go_wp2_with fail
    refine (HM.out _ _).mono ?_
    rintro e w2 ⟨rfl, rfl⟩
    go_wp2_with fail
    refine (pop_none B M en v _ h1).mono ?_
    rintro e w3 ⟨⟨t, pv, rfl, ht⟩, hW⟩
    exact ⟨rfl, ⟨t, pv, rfl, ht⟩, hW1.trans hW⟩
  | k :: t, h, hn =>
    have hn2 : t.length ≤ 90000 := by simp at hn; omega
    have HA := Lib.hid fun v3 w3 h3 => at_any B M en t v3 k ho w3 h3
    change Calls _ _ _ _ (OutPost B M en (.tuple #[]) (match placeB k en.d.size with | some i => .ok (oneW (intF ((en.d.data.toList.getD i 0).toNat)) :: t) | none => .rt) w)
    unfold AtPost at HA
    revert HA
    generalize placeB k en.d.size = pl
    intro HA
    cases pl with
    | none =>
      change Calls _ _ _ _ (RtPost B M w)
      go_enter Tryz.func45, Tryz.ntmps45
      go_wp2_with fail
      refine (HR.out v w h).mono ?_
      rintro e w1 ⟨rfl, h1, hW1⟩
      clear h
      go_wp2_with fail
      refine (HM.out _ _).mono ?_
      rintro e w2 ⟨rfl, rfl⟩
      go_wp2_with fail
      refine (pop_some B M en k t v (by omega) _ h1).mono ?_
      rintro e w3 ⟨rfl, ⟨v3, h3⟩, hW3⟩
      go_wp2_with fail
      refine (HA.out v3 w3 h3).mono ?_
      rintro e w4 ⟨⟨t, pv, rfl, ht⟩, hW⟩
      exact ⟨rfl, ⟨t, pv, rfl, ht⟩, (hW1.trans hW3).trans hW⟩
    | some i =>
      revert HA
      change Hid (∀ v3 w3, Mach B M en t v3 w3 → Calls _ _ _ w3 fun e w' => e = .returned (.int .u8 ((en.d.data.toList.getD i 0).toNat)) ∧ w' = w3) → Calls _ _ _ _ (OutPost B M en (.tuple #[]) (.ok (oneW (intF ((en.d.data.toList.getD i 0).toNat)) :: t)) w)
      generalize (en.d.data.toList.getD i 0).toNat = c
      intro HA
      have hcv : ∀ w : World, (convert 5 45 (.int .u8 (c : Int))).run Tryz.prog w = .ok (.float .f64 (intF (c : Int))) w := fun w => run_convert_int_float w 5 45 .u8 .f64 _ (by kernel_rfl) Tryz.underlying45
      go_enter Tryz.func45, Tryz.ntmps45
      go_wp2_with fail
      refine (HR.out v w h).mono ?_
      rintro e w1 ⟨rfl, h1, hW1⟩
      clear h
      go_wp2_with fail
      refine (HM.out _ _).mono ?_
      rintro e w2 ⟨rfl, rfl⟩
      go_wp2_with fail
      refine (pop_some B M en k t v (by omega) _ h1).mono ?_
      rintro e w3 ⟨rfl, ⟨v3, h3⟩, hW3⟩
      go_wp2_with fail
      refine (HA.out v3 w3 h3).mono ?_
      rintro e w4 ⟨rfl, rfl⟩
      go_wp2_with fail
      refine (push_any B M en t v3 _ (intF_lt _) (by omega) _ h3).mono ?_
      rintro e w5 ⟨rfl, h5, hW5⟩
      go_wp2
      go_end0
      exact ⟨rfl, h5, (hW1.trans hW3).trans hW5⟩

set_option maxRecDepth 100000 in
theorem step_num (B M : Nat) (en : En) (st : List Nat) (v : Value) (hn : st.length ≤ 90000) (s : ByteArray) (hs : s.size ≤ 281474976710656) (ha : arithWords.contains s.data.toList = false) (hm : moveWords.contains s.data.toList = false) (hot : ∀ l ∈ otherWords, s.data.toList ≠ l) (w : World) (h : Mach B M en st v w) :
    Calls Tryz.prog 45 #[.pointer (some ⟨M, 0, none⟩), .string s] w (OutPost B M en (.tuple #[]) (.ok (oneW (parseB s.data.toList).1 :: st)) w) := by
  have HR := Lib.hid fun v w h => reckon_no B M en st v s ha w h
  have HM := Lib.hid (move_no s hm)
  obtain ⟨f1, f2, f3, f4, f5, f6, f7⟩ := noOther_of hot
  have HP := Lib.hid (parse_any s hs)
  have hlt := parse_lt s.data.toList
  clear ha hm hot hs
  revert HP hlt
  unfold tellsF
  generalize (parseB s.data.toList).1 = x
  generalize (parseB s.data.toList).2 = y
  intro HP hlt
  go_enter Tryz.func45, Tryz.ntmps45
  go_wp2_with fail
  refine (HR.out v w h).mono ?_
  rintro e w1 ⟨rfl, h1, hW1⟩
  clear h
  go_wp2_with fail
  refine (HM.out _ _).mono ?_
  rintro e w2 ⟨rfl, rfl⟩
  go_wp2_with fail
  refine (HP.out _).mono ?_
  rintro e w3 ⟨rfl, rfl⟩
  go_wp2_with fail
  refine (push_any B M en st v x hlt (by omega) _ h1).mono ?_
  rintro e w4 ⟨rfl, h4, hW4⟩
  go_wp2
  go_end0
  exact ⟨rfl, h4, hW1.trans hW4⟩
end Go.Proofs.YtidjnfjpdnjogaaGreatDoor

/-
  Package prog: a step of every word. Conditions: none.
-/
namespace Go.Proofs.YtidjnfjpdnjogaaGreatDoor
open Go.RowKit Go.Lib

theorem reckon_any (B M : Nat) (en : En) (st : List Nat) (v : Value) (hn : st.length ≤ 90000) (s : ByteArray) (hs : arithWords.contains s.data.toList = true) (w : World) (h : Mach B M en st v w) :
    Calls Tryz.prog 68 #[.pointer (some ⟨M, 0, none⟩), .string s] w (OutPost B M en (.bool true) (stepB en s.data.toList st) w) := by
  have e : stepB en s.data.toList st = match (motive := List Nat → Out) st with | b :: a :: t => .ok (arithB s.data.toList a b :: t) | _ => .rt := by unfold stepB; rw [if_pos hs]; rfl
  rw [e]
  have hn' : st.length ≤ 100000 := by omega
  clear e hn
  simp only [List.contains_eq_mem, decide_eq_true_eq, arithWords, List.mem_cons, List.not_mem_nil, or_false] at hs
  rcases hs with hs | hs | hs | hs | hs | hs | hs
  · rw [hs]; rw [ba_of hs]; exact reckon_add B M en st v hn' w h
  · rw [hs]; rw [ba_of hs]; exact reckon_sub B M en st v hn' w h
  · rw [hs]; rw [ba_of hs]; exact reckon_mul B M en st v hn' w h
  · rw [hs]; rw [ba_of hs]; exact reckon_div B M en st v hn' w h
  · rw [hs]; rw [ba_of hs]; exact reckon_min B M en st v hn' w h
  · rw [hs]; rw [ba_of hs]; exact reckon_max B M en st v hn' w h
  · rw [hs]; rw [ba_of hs]; exact reckon_less B M en st v hn' w h

theorem move_any (B M : Nat) (en : En) (st : List Nat) (v : Value) (hn : st.length ≤ 90000) (s : ByteArray) (ha : arithWords.contains s.data.toList = false) (hs : moveWords.contains s.data.toList = true) (w : World) (h : Mach B M en st v w) :
    Calls Tryz.prog 69 #[.pointer (some ⟨M, 0, none⟩), .string s] w (OutPost B M en (.bool true) (stepB en s.data.toList st) w) := by
  have e : stepB en s.data.toList st = moveB s.data.toList st := by unfold stepB; rw [if_neg (by rw [ha]; decide), if_pos hs]
  rw [e]
  clear e ha
  simp only [List.contains_eq_mem, decide_eq_true_eq, moveWords, List.mem_cons, List.not_mem_nil, or_false] at hs
  rcases hs with hs | hs | hs | hs
  · rw [hs]; rw [ba_of hs]; exact move_dup B M en st v hn w h
  · rw [hs]; rw [ba_of hs]; exact move_drop B M en st v hn w h
  · rw [hs]; rw [ba_of hs]; exact move_swap B M en st v hn w h
  · rw [hs]; rw [ba_of hs]; exact move_pick B M en st v hn w h

theorem step_any (B M : Nat) (en : En) (st : List Nat) (v : Value) (hn : st.length ≤ 90000) (ho : en.Ok) (s : ByteArray) (hz : s.size ≤ 281474976710656) (w : World) (h : Mach B M en st v w) :
    Calls Tryz.prog 45 #[.pointer (some ⟨M, 0, none⟩), .string s] w (OutPost B M en (.tuple #[]) (stepB en s.data.toList st) w) := by
  cases ha : arithWords.contains s.data.toList
  · cases hm : moveWords.contains s.data.toList
    · have e : stepB en s.data.toList st = otherB en s.data.toList st := by unfold stepB; rw [if_neg (by rw [ha]; decide), if_neg (by rw [hm]; decide)]
      rw [e]
      unfold otherB
      by_cases h1 : s.data.toList = wState
      · rw [if_pos h1, ba_of h1]; exact step_state B M en st v hn ho w h
      rw [if_neg h1]
      by_cases h2 : s.data.toList = wValue
      · rw [if_pos h2, ba_of h2]; exact step_value B M en st v hn ho w h
      rw [if_neg h2]
      by_cases h3 : s.data.toList = wVersion
      · rw [if_pos h3, ba_of h3]; exact step_version B M en st v hn ho w h
      rw [if_neg h3]
      by_cases h4 : s.data.toList = wLen
      · rw [if_pos h4, ba_of h4]; exact step_len B M en st v hn ho w h
      rw [if_neg h4]
      by_cases h5 : s.data.toList = wByte
      · rw [if_pos h5, ba_of h5]; exact step_byte B M en st v hn ho w h
      rw [if_neg h5]
      by_cases h6 : s.data.toList = wNeg
      · rw [if_pos h6, ba_of h6]; exact step_neg B M en st v hn ho w h
      rw [if_neg h6]
      by_cases h7 : s.data.toList = wFail
      · rw [if_pos h7, ba_of h7]; exact step_fail B M en st v hn ho w h
      rw [if_neg h7]
      refine step_num B M en st v hn s hz ha hm ?_ w h
      intro l hl
      simp only [otherWords, List.mem_cons, List.not_mem_nil, or_false] at hl
      rcases hl with rfl | rfl | rfl | rfl | rfl | rfl | rfl <;> assumption
    · have H := Lib.hid fun v w h => move_any B M en st v hn s ha hm w h
      have HR := Lib.hid fun v w h => reckon_no B M en st v s ha w h
      clear ha hm ho hz hn
      revert H
      generalize stepB en s.data.toList st = o
      intro H
      cases o
      all_goals
        unfold OutPost at *
        go_enter Tryz.func45, Tryz.ntmps45
        go_wp2_with fail
        refine (HR.out v w h).mono ?_
        rintro e w1 ⟨rfl, h1, hW1⟩
        clear h
        go_wp2_with fail
        refine (H.out _ _ h1).mono ?_
      · rintro e w2 ⟨rfl, h2, hW2⟩
        go_wp2
        exact bodyPost_ret (v := .tuple #[]) (by simp [results, Tryz.results45, go_sem]) rfl ⟨rfl, h2, hW1.trans hW2⟩
      · rintro e w2 ⟨⟨t, pv, rfl, ht⟩, hW⟩
        exact ⟨rfl, ⟨t, pv, rfl, ht⟩, hW1.trans hW⟩
      · rintro e w2 ⟨rfl, hW⟩
        exact ⟨rfl, rfl, hW1.trans hW⟩
  · have H := Lib.hid (reckon_any B M en st v hn s ha w h)
    clear ha ho hz hn h
    revert H
    generalize stepB en s.data.toList st = o
    intro H
    cases o
    all_goals
      unfold OutPost at *
      go_enter Tryz.func45, Tryz.ntmps45
      go_wp2_with fail
      refine H.out.mono ?_
    · rintro e w2 ⟨rfl, h2, hW2⟩
      go_wp2
      exact bodyPost_ret (v := .tuple #[]) (by simp [results, Tryz.results45, go_sem]) rfl ⟨rfl, h2, hW2⟩
    · rintro e w2 ⟨⟨t, pv, rfl, ht⟩, hW⟩
      exact ⟨rfl, ⟨t, pv, rfl, ht⟩, hW⟩
    · rintro e w2 ⟨rfl, hW⟩
      exact ⟨rfl, rfl, hW⟩
end Go.Proofs.YtidjnfjpdnjogaaGreatDoor
