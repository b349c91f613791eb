/-
  strings.Cut at one byte; package name: Stream, Type, System, Hash, and the document's own. Conditions: none.
-/
import Derived.Test.YtijomegcomjbmaaDoorG
import Derived.Test.YtijomegcomjbmaaDoorNameP
namespace Go.Proofs.YtijomegcomjbmaaDoor
open Go.RowKit Go.Lib

theorem cut_index (b : UInt8) : ∀ l, (indexByte l b = -1 ∧ cutB b l = (l, [], false)) ∨ ∃ i : Nat, i < l.length ∧ indexByte l b = i ∧ cutB b l = (l.take i, l.drop (i + 1), true)
  | [] => Or.inl ⟨rfl, rfl⟩
  | c :: t => by
    by_cases h : c = b
    · refine Or.inr ⟨0, by simp, ?_, ?_⟩
      · rw [indexByte, if_pos (by simp [h])]; rfl
      · rw [cutB, if_pos h]; rfl
    · have h1 : ¬ (c == b) = true := by simpa using h
      rcases cut_index b t with ⟨e1, e2⟩ | ⟨i, hi, e1, e2⟩
      · refine Or.inl ⟨?_, ?_⟩
        · rw [indexByte, if_neg h1, e1]; rfl
        · rw [cutB, if_neg h, e2]
      · refine Or.inr ⟨i + 1, by simpa using hi, ?_, ?_⟩
        · have h2 : ¬ ((i : Int) == -1) = true := by rw [beq_iff_eq]; omega
          rw [indexByte, if_neg h1, e1, if_neg h2]; rfl
        · rw [cutB, if_neg h, e2]; rfl

/-- What Cut tells. -/
def cutTells (r : List UInt8 × List UInt8 × Bool) : Value := .tuple #[.string ⟨r.1.toArray⟩, .string ⟨r.2.1.toArray⟩, .bool r.2.2]

theorem cut_any (s : ByteArray) (b : UInt8) (w : World) (hs : s.size ≤ 1000000) : Calls Tryd.prog 30 #[.string s, .string ⟨#[b]⟩] w fun en w' => en = .returned (cutTells (cutB b s.data.toList)) ∧ Below w.heap.size w w' := by
  have H := Tryd.stringslite_Index_one s b w
  rcases cut_index b s.data.toList with ⟨e1, e2⟩ | ⟨i, hi, e1, e2⟩
  · rw [e1] at H
    rw [e2]
    have HH := Lib.hid H; clear H e1 e2
    go_enter Tryd.func30, Tryd.ntmps30
    go_wp2_with fail
    refine HH.out.mono ?_
    rintro en w' ⟨rfl, rfl⟩
    go_wp2
    exact bodyPost_ret (v := .tuple #[.string s, .string ⟨#[]⟩, .bool false]) (by simp [results, Tryd.results30, go_sem]) rfl ⟨rfl, Below.refl _ _⟩
  · rw [e1] at H
    have hi' : i < s.size := by simpa using hi
    have hv : cutTells (cutB b s.data.toList) = .tuple #[.string (s.extract 0 i), .string (s.extract (i + 1) s.size), .bool true] := by
      rw [e2, cutTells]
      have a1 : (⟨(s.data.toList.take i).toArray⟩ : ByteArray) = s.extract 0 i := by
        apply ByteArray.ext; apply Array.ext'
        simp
      have a2 : (⟨(s.data.toList.drop (i + 1)).toArray⟩ : ByteArray) = s.extract (i + 1) s.size := by
        apply ByteArray.ext; apply Array.ext'
        simp only [ByteArray.data_extract, Array.toList_extract, List.extract_eq_take_drop]
        rw [List.take_of_length_le (by simp)]
      rw [a1, a2]
    rw [hv]
    have HH := Lib.hid H; clear H e1 e2 hv
    have h1 : (i : Int) ≤ (s.size : Int) := by omega
    have h2 : (i : Int) + 1 ≤ (s.size : Int) := by omega
    have h3 : i + 1 ≤ s.size := by omega
    have hw : IntKind.i64.wrap ((i : Int) + 1) = (i : Int) + 1 := IntWalk.i64_in _ (by omega)
    have h4 : (0 : Int) ≤ (i : Int) := by omega
    go_enter Tryd.func30, Tryd.ntmps30
    go_wp2_with fail
    refine HH.out.mono ?_
    rintro en w' ⟨rfl, rfl⟩
    go_wp2_with fail
    go_quiet (fail)
    go_wp2
    exact bodyPost_ret (v := .tuple #[.string (s.extract 0 i), .string (s.extract (i + 1) s.size), .bool true]) (by simp [results, Tryd.results30, go_sem]) rfl ⟨rfl, below_draws (Below.refl _ _) _⟩

theorem cut24 (s : ByteArray) (b : UInt8) (w : World) (hs : s.size ≤ 1000000) : Calls Tryd.prog 24 #[.string s, .string ⟨#[b]⟩] w fun en w' => en = .returned (cutTells (cutB b s.data.toList)) ∧ Below w.heap.size w w' := by
  have H := cut_any s b w hs
  revert H
  generalize cutB b s.data.toList = r
  intro H
  obtain ⟨x, y, z⟩ := r
  unfold cutTells at H ⊢
  have HH := Lib.hid H; clear H
  go_enter Tryd.func24, Tryd.ntmps24
  go_wp2_with fail
  refine HH.out.mono ?_
  rintro en w' ⟨rfl, hb⟩
  go_wp2
  exact bodyPost_ret (v := .tuple #[.string ⟨x.toArray⟩, .string ⟨y.toArray⟩, .bool z]) (by simp [results, Tryd.results24, go_sem]) rfl ⟨rfl, hb⟩

theorem nb_low {c : UInt8} (h1 : (c.toNat : Int) < 33) : nameByte c = false := by rw [nameByte, decide_eq_false (by omega)]; rfl
theorem nb_high {c : UInt8} (h1 : 126 < (c.toNat : Int)) : nameByte c = false := by rw [nameByte, decide_eq_false (p := c.toNat ≤ 126) (by omega), Bool.and_false, Bool.false_and]
theorem nb_mark {c : UInt8} (h1 : ((c.toNat : Int) == 64) = true) : nameByte c = false := by
  have h2 : (c.toNat == 64) = true := by simp at h1 ⊢; omega
  rw [nameByte, h2]; simp
theorem nb_yes {c : UInt8} (h1 : ¬ (c.toNat : Int) < 33) (h2 : ¬ 126 < (c.toNat : Int)) (h3 : ((c.toNat : Int) == 64) = false) : nameByte c = true := by
  have h4 : (c.toNat == 64) = false := by simp at h3 ⊢; omega
  rw [nameByte, h4, decide_eq_true (by omega), decide_eq_true (by omega)]; rfl
theorem name_no (s : ByteArray) (k : Nat) (h : k < s.size) (hn : nameByte s[k] = false) : s.data.toList.all nameByte = false := by
  rw [List.all_eq_false]
  refine ⟨s[k], ?_, by rw [hn]; decide⟩
  have : s[k] = s.data.toList[k]'(by simpa using h) := rfl
  rw [this]
  exact List.getElem_mem _
theorem name_take (s : ByteArray) (k : Nat) (h : k < s.size) : s.data.toList.take (k + 1) = s.data.toList.take k ++ [s[k]] := by
  rw [List.take_succ_eq_append_getElem (by simpa using h)]; rfl
theorem name_step (s : ByteArray) (k : Nat) (h : k < s.size) (ha : (s.data.toList.take k).all nameByte = true) (hn : nameByte s[k] = true) : (s.data.toList.take (k + 1)).all nameByte = true := by
  rw [name_take s k h, List.all_append, ha]; simp [hn]

/-- Is it a stream's name? -/
theorem stream_any (s : ByteArray) (w : World) : Calls Tryd.prog 8 #[.string s] w fun en w' => en = .returned (.bool (streamB s.data.toList)) ∧ w = w' := by
  have hl : s.data.toList.length = s.size := by simp
  by_cases g1 : s.size < 1
  · have hv : streamB s.data.toList = false := by rw [streamB, hl, decide_eq_false (by omega)]; rfl
    rw [hv]
    have g2 : (s.size : Int) < 1 := by omega
    clear hv hl
    go_enter Tryd.func8, Tryd.ntmps8
    go_wp2
    go_ret
    exact ⟨rfl, rfl⟩
  · have g2 : ¬ (s.size : Int) < 1 := by omega
    by_cases g3 : 60 < s.size
    · have hv : streamB s.data.toList = false := by rw [streamB, hl, decide_eq_false (p := s.size ≤ 60) (by omega)]; simp
      rw [hv]
      have g4 : (60 : Int) < (s.size : Int) := by omega
      clear hv hl
      go_enter Tryd.func8, Tryd.ntmps8
      go_wp2
      go_ret
      exact ⟨rfl, rfl⟩
    · have g4 : ¬ (60 : Int) < (s.size : Int) := by omega
      have hv : streamB s.data.toList = s.data.toList.all nameByte := by rw [streamB, hl, decide_eq_true (by omega), decide_eq_true (p := s.size ≤ 60) (by omega)]; rfl
      rw [hv]
      obtain ⟨r, hr⟩ : ∃ r, s.data.toList.all nameByte = r := ⟨_, rfl⟩
      rw [hr]
      have HR := Lib.hid hr; clear hr hv hl
      go_enter Tryd.func8, Tryd.ntmps8
      go_wp2_with fail
      go_loopg [14] s.size (fun g i wr => ∃ k : Nat, g = s.size - k ∧ k ≤ s.size ∧ i = .int .i64 k ∧ (s.data.toList.take k).all nameByte = true ∧ w = wr)
      case atStart => exact ⟨0, by omega, Nat.zero_le _, rfl, rfl, rfl⟩
      case round =>
        obtain ⟨k, hg, hk, rfl, ha, rfl⟩ := hrel
        have HG := Lib.hid hg; clear hg
        by_cases hlt : k < s.size
        · by_cases h1 : (s[k].toNat : Int) < 33
          · have HF := Lib.hid (name_no s k hlt (nb_low h1)); clear ha
            go_wp2
            go_ret
            exact ⟨by rw [← HR.out, HF.out]; rfl, rfl⟩
          · by_cases h2 : 126 < (s[k].toNat : Int)
            · have HF := Lib.hid (name_no s k hlt (nb_high h2)); clear ha
              go_wp2
              go_ret
              exact ⟨by rw [← HR.out, HF.out]; rfl, rfl⟩
            · cases h3 : ((s[k].toNat : Int) == 64)
              · have HS := Lib.hid (name_step s k hlt ha (nb_yes h1 h2 h3)); clear ha
                go_wp2
                go_roundg (s.size - (k + 1))
                case measure => rw [HG.out]; omega
                case rel => exact ⟨k + 1, rfl, hlt, by go_num, HS.out, rfl⟩
              · have HF := Lib.hid (name_no s k hlt (nb_mark h3)); clear ha
                go_wp2
                go_ret
                exact ⟨by rw [← HR.out, HF.out]; rfl, rfl⟩
        · obtain rfl : k = s.size := by omega
          have HA := Lib.hid ha; clear ha
          go_wp2
          go_ret
          refine ⟨?_, rfl⟩
          rw [← HR.out]
          have := HA.out
          rw [List.take_of_length_le (by simp)] at this
          rw [this]; rfl

/-- The document's own. -/
theorem rstream_any (s : ByteArray) (w : World) : Calls Tryd.prog 17 #[.string s] w fun en w' => en = .returned (.bool (streamB s.data.toList)) ∧ w = w' := by
  have hl : s.data.toList.length = s.size := by simp
  by_cases g1 : s.size < 1
  · have hv : streamB s.data.toList = false := by rw [streamB, hl, decide_eq_false (by omega)]; rfl
    rw [hv]
    have g2 : (s.size : Int) < 1 := by omega
    clear hv hl
    go_enter Tryd.func17, Tryd.ntmps17
    go_wp2
    go_ret
    exact ⟨rfl, rfl⟩
  · have g2 : ¬ (s.size : Int) < 1 := by omega
    by_cases g3 : 60 < s.size
    · have hv : streamB s.data.toList = false := by rw [streamB, hl, decide_eq_false (p := s.size ≤ 60) (by omega)]; simp
      rw [hv]
      have g4 : (60 : Int) < (s.size : Int) := by omega
      clear hv hl
      go_enter Tryd.func17, Tryd.ntmps17
      go_wp2
      go_ret
      exact ⟨rfl, rfl⟩
    · have g4 : ¬ (60 : Int) < (s.size : Int) := by omega
      have hv : streamB s.data.toList = s.data.toList.all nameByte := by rw [streamB, hl, decide_eq_true (by omega), decide_eq_true (p := s.size ≤ 60) (by omega)]; rfl
      rw [hv]
      obtain ⟨r, hr⟩ : ∃ r, s.data.toList.all nameByte = r := ⟨_, rfl⟩
      rw [hr]
      have HR := Lib.hid hr; clear hr hv hl
      go_enter Tryd.func17, Tryd.ntmps17
      go_wp2_with fail
      go_loopg [3] s.size (fun g i wr => ∃ k : Nat, g = s.size - k ∧ k ≤ s.size ∧ i = .int .i64 k ∧ (s.data.toList.take k).all nameByte = true ∧ w = wr)
      case atStart => exact ⟨0, by omega, Nat.zero_le _, rfl, rfl, rfl⟩
      case round =>
        obtain ⟨k, hg, hk, rfl, ha, rfl⟩ := hrel
        have HG := Lib.hid hg; clear hg
        by_cases hlt : k < s.size
        · by_cases h1 : (s[k].toNat : Int) < 33
          · have HF := Lib.hid (name_no s k hlt (nb_low h1)); clear ha
            go_wp2
            go_ret
            exact ⟨by rw [← HR.out, HF.out]; rfl, rfl⟩
          · by_cases h2 : 126 < (s[k].toNat : Int)
            · have HF := Lib.hid (name_no s k hlt (nb_high h2)); clear ha
              go_wp2
              go_ret
              exact ⟨by rw [← HR.out, HF.out]; rfl, rfl⟩
            · cases h3 : ((s[k].toNat : Int) == 64)
              · have HS := Lib.hid (name_step s k hlt ha (nb_yes h1 h2 h3)); clear ha
                go_wp2
                go_roundg (s.size - (k + 1))
                case measure => rw [HG.out]; omega
                case rel => exact ⟨k + 1, rfl, hlt, by go_num, HS.out, rfl⟩
              · have HF := Lib.hid (name_no s k hlt (nb_mark h3)); clear ha
                go_wp2
                go_ret
                exact ⟨by rw [← HR.out, HF.out]; rfl, rfl⟩
        · obtain rfl : k = s.size := by omega
          have HA := Lib.hid ha; clear ha
          go_wp2
          go_ret
          refine ⟨?_, rfl⟩
          rw [← HR.out]
          have := HA.out
          rw [List.take_of_length_le (by simp)] at this
          rw [this]; rfl

theorem type_any (s : ByteArray) (w : World) : Calls Tryd.prog 18 #[.string s] w fun en w' => en = .returned (.bool (streamB s.data.toList)) ∧ w = w' := by
  have H := stream_any s w
  revert H
  generalize streamB s.data.toList = r
  intro H
  have HH := Lib.hid H; clear H
  go_enter Tryd.func18, Tryd.ntmps18
  go_wp2_with fail
  refine HH.out.mono ?_
  rintro en w' ⟨rfl, rfl⟩
  go_wp2
  go_ret
  exact ⟨rfl, rfl⟩

theorem system_any (s : ByteArray) (w : World) : Calls Tryd.prog 12 #[.string s] w fun en w' => en = .returned (.bool (systemB s.data.toList)) ∧ w' = w := by
  have H := Tryd.strings_HasPrefix s ⟨#[36]⟩ w
  change Calls Tryd.prog 28 #[.string s, .string ⟨#[36]⟩] w (fun e w' => e = .returned (.bool (systemB s.data.toList)) ∧ w' = w) at H
  revert H
  generalize systemB s.data.toList = r
  intro H
  have HH := Lib.hid H; clear H
  go_enter Tryd.func12, Tryd.ntmps12
  go_wp2_with fail
  refine HH.out.mono ?_
  rintro en w' ⟨rfl, rfl⟩
  go_wp2
  go_ret
  exact ⟨rfl, rfl⟩

theorem rsystem_any (s : ByteArray) (w : World) : Calls Tryd.prog 19 #[.string s] w fun en w' => en = .returned (.bool (systemB s.data.toList)) ∧ w = w' := by
  by_cases hz : s.size = 0
  · obtain rfl : s = ⟨#[]⟩ := ByteArray.ext (Array.eq_empty_of_size_eq_zero hz)
    clear hz
    rw [show systemB (⟨#[]⟩ : ByteArray).data.toList = false from rfl]
    go_enter Tryd.func19, Tryd.ntmps19
    go_wp2
    go_ret
    exact ⟨rfl, rfl⟩
  · have h0 : 0 < s.size := by omega
    have hv : systemB s.data.toList = ((s[0].toNat : Int) == 36) := by
      have hcons : s.data.toList = s[0] :: s.data.toList.drop 1 := by
        have := List.drop_eq_getElem_cons (l := s.data.toList) (i := 0) (by simpa using h0)
        rw [List.drop_zero] at this
        exact this
      rw [hcons, systemB, hasPrefix, List.isPrefixOf, List.isPrefixOf, Bool.and_true]
      rw [Bool.eq_iff_iff]
      simp only [beq_iff_eq]
      constructor
      · intro h; rw [← h]; rfl
      · intro h; apply UInt8.toNat_inj.1; show 36 = s[0].toNat; omega
    rw [hv]
    have h1 : (0 : Int) < (s.size : Int) := by omega
    clear hv hz
    cases hc : ((s[0].toNat : Int) == 36)
    all_goals
      go_enter Tryd.func19, Tryd.ntmps19
      go_wp2
      go_ret
      exact ⟨rfl, rfl⟩
end Go.Proofs.YtijomegcomjbmaaDoor
