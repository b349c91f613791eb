/-
  Package prog: a step of every word. Conditions: none.
-/
import Derived.Test.YtidjnfjpdnjogaaDoorPg6
namespace Go.Proofs.YtidjnfjpdnjogaaDoor
open Go.RowKit Go.Lib

theorem reckon_any (B M : Nat) (en : En) (st : List Nat) (v : Value) (hn : st.length ≤ 90000) (s : ByteArray) (hs : arithWords.contains s.data.toList = true) (w : World) (h : Mach B M en st v w) :
    Calls Tryd.prog 44 #[.pointer (some ⟨M, 0, none⟩), .string s] w (OutPost B M en (.bool true) (stepB en s.data.toList st) w) := by
  have e : stepB en s.data.toList st = match (motive := List Nat → Out) st with | b :: a :: t => .ok (arithB s.data.toList a b :: t) | _ => .rt := by unfold stepB; rw [if_pos hs]; rfl
  rw [e]
  have hn' : st.length ≤ 100000 := by omega
  clear e hn
  simp only [List.contains_eq_mem, decide_eq_true_eq, arithWords, List.mem_cons, List.not_mem_nil, or_false] at hs
  rcases hs with hs | hs | hs | hs | hs | hs | hs
  · rw [hs]; rw [ba_of hs]; exact reckon_add B M en st v hn' w h
  · rw [hs]; rw [ba_of hs]; exact reckon_sub B M en st v hn' w h
  · rw [hs]; rw [ba_of hs]; exact reckon_mul B M en st v hn' w h
  · rw [hs]; rw [ba_of hs]; exact reckon_div B M en st v hn' w h
  · rw [hs]; rw [ba_of hs]; exact reckon_min B M en st v hn' w h
  · rw [hs]; rw [ba_of hs]; exact reckon_max B M en st v hn' w h
  · rw [hs]; rw [ba_of hs]; exact reckon_less B M en st v hn' w h

theorem move_any (B M : Nat) (en : En) (st : List Nat) (v : Value) (hn : st.length ≤ 90000) (s : ByteArray) (ha : arithWords.contains s.data.toList = false) (hs : moveWords.contains s.data.toList = true) (w : World) (h : Mach B M en st v w) :
    Calls Tryd.prog 45 #[.pointer (some ⟨M, 0, none⟩), .string s] w (OutPost B M en (.bool true) (stepB en s.data.toList st) w) := by
  have e : stepB en s.data.toList st = moveB s.data.toList st := by unfold stepB; rw [if_neg (by rw [ha]; decide), if_pos hs]
  rw [e]
  clear e ha
  simp only [List.contains_eq_mem, decide_eq_true_eq, moveWords, List.mem_cons, List.not_mem_nil, or_false] at hs
  rcases hs with hs | hs | hs | hs
  · rw [hs]; rw [ba_of hs]; exact move_dup B M en st v hn w h
  · rw [hs]; rw [ba_of hs]; exact move_drop B M en st v hn w h
  · rw [hs]; rw [ba_of hs]; exact move_swap B M en st v hn w h
  · rw [hs]; rw [ba_of hs]; exact move_pick B M en st v hn w h

theorem step_any (B M : Nat) (en : En) (st : List Nat) (v : Value) (hn : st.length ≤ 90000) (ho : en.Ok) (s : ByteArray) (hz : s.size ≤ 281474976710656) (w : World) (h : Mach B M en st v w) :
    Calls Tryd.prog 29 #[.pointer (some ⟨M, 0, none⟩), .string s] w (OutPost B M en (.tuple #[]) (stepB en s.data.toList st) w) := by
  cases ha : arithWords.contains s.data.toList
  · cases hm : moveWords.contains s.data.toList
    · have e : stepB en s.data.toList st = otherB en s.data.toList st := by unfold stepB; rw [if_neg (by rw [ha]; decide), if_neg (by rw [hm]; decide)]
      rw [e]
      unfold otherB
      by_cases h1 : s.data.toList = wState
      · rw [if_pos h1, ba_of h1]; exact step_state B M en st v hn ho w h
      rw [if_neg h1]
      by_cases h2 : s.data.toList = wValue
      · rw [if_pos h2, ba_of h2]; exact step_value B M en st v hn ho w h
      rw [if_neg h2]
      by_cases h3 : s.data.toList = wVersion
      · rw [if_pos h3, ba_of h3]; exact step_version B M en st v hn ho w h
      rw [if_neg h3]
      by_cases h4 : s.data.toList = wLen
      · rw [if_pos h4, ba_of h4]; exact step_len B M en st v hn ho w h
      rw [if_neg h4]
      by_cases h5 : s.data.toList = wByte
      · rw [if_pos h5, ba_of h5]; exact step_byte B M en st v hn ho w h
      rw [if_neg h5]
      by_cases h6 : s.data.toList = wNeg
      · rw [if_pos h6, ba_of h6]; exact step_neg B M en st v hn ho w h
      rw [if_neg h6]
      by_cases h7 : s.data.toList = wFail
      · rw [if_pos h7, ba_of h7]; exact step_fail B M en st v hn ho w h
      rw [if_neg h7]
      refine step_num B M en st v hn s hz ha hm ?_ w h
      intro l hl
      simp only [otherWords, List.mem_cons, List.not_mem_nil, or_false] at hl
      rcases hl with rfl | rfl | rfl | rfl | rfl | rfl | rfl <;> assumption
    · have H := Lib.hid fun v w h => move_any B M en st v hn s ha hm w h
      have HR := Lib.hid fun v w h => reckon_no B M en st v s ha w h
      clear ha hm ho hz hn
      revert H
      generalize stepB en s.data.toList st = o
      intro H
      cases o
      all_goals
        unfold OutPost at *
        go_enter Tryd.func29, Tryd.ntmps29
        go_wp2_with fail
        refine (HR.out v w h).mono ?_
        rintro e w1 ⟨rfl, h1, hW1⟩
        clear h
        go_wp2_with fail
        refine (H.out _ _ h1).mono ?_
      · rintro e w2 ⟨rfl, h2, hW2⟩
        go_wp2
        exact bodyPost_ret (v := .tuple #[]) (by simp [results, Tryd.results29, go_sem]) rfl ⟨rfl, h2, hW1.trans hW2⟩
      · rintro e w2 ⟨⟨t, pv, rfl, ht⟩, hW⟩
        exact ⟨rfl, ⟨t, pv, rfl, ht⟩, hW1.trans hW⟩
      · rintro e w2 ⟨rfl, hW⟩
        exact ⟨rfl, rfl, hW1.trans hW⟩
  · have H := Lib.hid (reckon_any B M en st v hn s ha w h)
    clear ha ho hz hn h
    revert H
    generalize stepB en s.data.toList st = o
    intro H
    cases o
    all_goals
      unfold OutPost at *
      go_enter Tryd.func29, Tryd.ntmps29
      go_wp2_with fail
      refine H.out.mono ?_
    · rintro e w2 ⟨rfl, h2, hW2⟩
      go_wp2
      exact bodyPost_ret (v := .tuple #[]) (by simp [results, Tryd.results29, go_sem]) rfl ⟨rfl, h2, hW2⟩
    · rintro e w2 ⟨⟨t, pv, rfl, ht⟩, hW⟩
      exact ⟨rfl, ⟨t, pv, rfl, ht⟩, hW⟩
    · rintro e w2 ⟨rfl, hW⟩
      exact ⟨rfl, rfl, hW⟩
end Go.Proofs.YtidjnfjpdnjogaaDoor
