/-
  strings.Cut at one byte; package name: Stream, Type, System, Hash, and the document's own. Conditions: none.
-/
import Derived.Test.YtimmdcajadddmaaRNum
import Derived.Test.YtimmdcajadddmaaNameP
namespace Go.Proofs.Ytimmdcajadddmaa
open Go.RowKit Go.Lib

theorem cut_index (b : UInt8) : ∀ l, (indexByte l b = -1 ∧ cutB b l = (l, [], false)) ∨ ∃ i : Nat, i < l.length ∧ indexByte l b = i ∧ cutB b l = (l.take i, l.drop (i + 1), true)
  | [] => Or.inl ⟨rfl, rfl⟩
  | c :: t => by
    by_cases h : c = b
    · refine Or.inr ⟨0, by simp, ?_, ?_⟩
      · rw [indexByte, if_pos (by simp [h])]; rfl
      · rw [cutB, if_pos h]; rfl
    · have h1 : ¬ (c == b) = true := by simpa using h
      rcases cut_index b t with ⟨e1, e2⟩ | ⟨i, hi, e1, e2⟩
      · refine Or.inl ⟨?_, ?_⟩
        · rw [indexByte, if_neg h1, e1]; rfl
        · rw [cutB, if_neg h, e2]
      · refine Or.inr ⟨i + 1, by simpa using hi, ?_, ?_⟩
        · have h2 : ¬ ((i : Int) == -1) = true := by rw [beq_iff_eq]; omega
          rw [indexByte, if_neg h1, e1, if_neg h2]; rfl
        · rw [cutB, if_neg h, e2]; rfl

/-- What Cut tells. -/
def cutTells (r : List UInt8 × List UInt8 × Bool) : Value := .tuple #[.string ⟨r.1.toArray⟩, .string ⟨r.2.1.toArray⟩, .bool r.2.2]

theorem cut_any (s : ByteArray) (b : UInt8) (w : World) (hs : s.size ≤ 1000000) : Calls Try.prog 42 #[.string s, .string ⟨#[b]⟩] w fun en w' => en = .returned (cutTells (cutB b s.data.toList)) ∧ Below w.heap.size w w' := by
  have H := Try.stringslite_Index_one s b w
  rcases cut_index b s.data.toList with ⟨e1, e2⟩ | ⟨i, hi, e1, e2⟩
  · rw [e1] at H
    rw [e2]
    have HH := Lib.hid H; clear H e1 e2
    go_enter Try.func42, Try.ntmps42
    go_wp2_with fail
    refine HH.out.mono ?_
    rintro en w' ⟨rfl, rfl⟩
    go_wp2
    exact bodyPost_ret (v := .tuple #[.string s, .string ⟨#[]⟩, .bool false]) (by simp [results, Try.results42, go_sem]) rfl ⟨rfl, Below.refl _ _⟩
  · rw [e1] at H
    have hi' : i < s.size := by simpa using hi
    have hv : cutTells (cutB b s.data.toList) = .tuple #[.string (s.extract 0 i), .string (s.extract (i + 1) s.size), .bool true] := by
      rw [e2, cutTells]
      have a1 : (⟨(s.data.toList.take i).toArray⟩ : ByteArray) = s.extract 0 i := by
        apply ByteArray.ext; apply Array.ext'
        simp
      have a2 : (⟨(s.data.toList.drop (i + 1)).toArray⟩ : ByteArray) = s.extract (i + 1) s.size := by
        apply ByteArray.ext; apply Array.ext'
        simp only [ByteArray.data_extract, Array.toList_extract, List.extract_eq_take_drop]
        rw [List.take_of_length_le (by simp)]
      rw [a1, a2]
    rw [hv]
    have HH := Lib.hid H; clear H e1 e2 hv
    have h1 : (i : Int) ≤ (s.size : Int) := by omega
    have h2 : (i : Int) + 1 ≤ (s.size : Int) := by omega
    have h3 : i + 1 ≤ s.size := by omega
    have hw : IntKind.i64.wrap ((i : Int) + 1) = (i : Int) + 1 := IntWalk.i64_in _ (by omega)
    have h4 : (0 : Int) ≤ (i : Int) := by omega
    go_enter Try.func42, Try.ntmps42
    go_wp2_with fail
    refine HH.out.mono ?_
    rintro en w' ⟨rfl, rfl⟩
    go_wp2_with fail
    go_quiet (fail)
    go_wp2
    exact bodyPost_ret (v := .tuple #[.string (s.extract 0 i), .string (s.extract (i + 1) s.size), .bool true]) (by simp [results, Try.results42, go_sem]) rfl ⟨rfl, below_draws (Below.refl _ _) _⟩

theorem cut24 (s : ByteArray) (b : UInt8) (w : World) (hs : s.size ≤ 1000000) : Calls Try.prog 36 #[.string s, .string ⟨#[b]⟩] w fun en w' => en = .returned (cutTells (cutB b s.data.toList)) ∧ Below w.heap.size w w' := by
  have H := cut_any s b w hs
  revert H
  generalize cutB b s.data.toList = r
  intro H
  obtain ⟨x, y, z⟩ := r
  unfold cutTells at H ⊢
  have HH := Lib.hid H; clear H
  go_enter Try.func36, Try.ntmps36
  go_wp2_with fail
  refine HH.out.mono ?_
  rintro en w' ⟨rfl, hb⟩
  go_wp2
  exact bodyPost_ret (v := .tuple #[.string ⟨x.toArray⟩, .string ⟨y.toArray⟩, .bool z]) (by simp [results, Try.results36, go_sem]) rfl ⟨rfl, hb⟩

theorem nb_low {c : UInt8} (h1 : (c.toNat : Int) < 33) : nameByte c = false := by rw [nameByte, decide_eq_false (by omega)]; rfl
theorem nb_high {c : UInt8} (h1 : 126 < (c.toNat : Int)) : nameByte c = false := by rw [nameByte, decide_eq_false (p := c.toNat ≤ 126) (by omega), Bool.and_false, Bool.false_and]
theorem nb_mark {c : UInt8} (h1 : ((c.toNat : Int) == 64) = true) : nameByte c = false := by
  have h2 : (c.toNat == 64) = true := by simp at h1 ⊢; omega
  rw [nameByte, h2]; simp
theorem nb_yes {c : UInt8} (h1 : ¬ (c.toNat : Int) < 33) (h2 : ¬ 126 < (c.toNat : Int)) (h3 : ((c.toNat : Int) == 64) = false) : nameByte c = true := by
  have h4 : (c.toNat == 64) = false := by simp at h3 ⊢; omega
  rw [nameByte, h4, decide_eq_true (by omega), decide_eq_true (by omega)]; rfl
theorem name_no (s : ByteArray) (k : Nat) (h : k < s.size) (hn : nameByte s[k] = false) : s.data.toList.all nameByte = false := by
  rw [List.all_eq_false]
  refine ⟨s[k], ?_, by rw [hn]; decide⟩
  have : s[k] = s.data.toList[k]'(by simpa using h) := rfl
  rw [this]
  exact List.getElem_mem _
theorem name_take (s : ByteArray) (k : Nat) (h : k < s.size) : s.data.toList.take (k + 1) = s.data.toList.take k ++ [s[k]] := by
  rw [List.take_succ_eq_append_getElem (by simpa using h)]; rfl
theorem name_step (s : ByteArray) (k : Nat) (h : k < s.size) (ha : (s.data.toList.take k).all nameByte = true) (hn : nameByte s[k] = true) : (s.data.toList.take (k + 1)).all nameByte = true := by
  rw [name_take s k h, List.all_append, ha]; simp [hn]

/-- Is it a stream's name? -/
theorem stream_any (s : ByteArray) (w : World) : Calls Try.prog 38 #[.string s] w fun en w' => en = .returned (.bool (streamB s.data.toList)) ∧ w = w' := by
  have hl : s.data.toList.length = s.size := by simp
  by_cases g1 : s.size < 1
  · have hv : streamB s.data.toList = false := by rw [streamB, hl, decide_eq_false (by omega)]; rfl
    rw [hv]
    have g2 : (s.size : Int) < 1 := by omega
    clear hv hl
    go_enter Try.func38, Try.ntmps38
    go_wp2
    go_ret
    exact ⟨rfl, rfl⟩
  · have g2 : ¬ (s.size : Int) < 1 := by omega
    by_cases g3 : 60 < s.size
    · have hv : streamB s.data.toList = false := by rw [streamB, hl, decide_eq_false (p := s.size ≤ 60) (by omega)]; simp
      rw [hv]
      have g4 : (60 : Int) < (s.size : Int) := by omega
      clear hv hl
      go_enter Try.func38, Try.ntmps38
      go_wp2
      go_ret
      exact ⟨rfl, rfl⟩
    · have g4 : ¬ (60 : Int) < (s.size : Int) := by omega
      have hv : streamB s.data.toList = s.data.toList.all nameByte := by rw [streamB, hl, decide_eq_true (by omega), decide_eq_true (p := s.size ≤ 60) (by omega)]; rfl
      rw [hv]
      obtain ⟨r, hr⟩ : ∃ r, s.data.toList.all nameByte = r := ⟨_, rfl⟩
      rw [hr]
      have HR := Lib.hid hr; clear hr hv hl
      go_enter Try.func38, Try.ntmps38
      go_wp2_with fail
      go_loopg [14] s.size (fun g i wr => ∃ k : Nat, g = s.size - k ∧ k ≤ s.size ∧ i = .int .i64 k ∧ (s.data.toList.take k).all nameByte = true ∧ w = wr)
      case atStart => exact ⟨0, by omega, Nat.zero_le _, rfl, rfl, rfl⟩
      case round =>
        obtain ⟨k, hg, hk, rfl, ha, rfl⟩ := hrel
        have HG := Lib.hid hg; clear hg
        by_cases hlt : k < s.size
        · by_cases h1 : (s[k].toNat : Int) < 33
          · have HF := Lib.hid (name_no s k hlt (nb_low h1)); clear ha
            go_wp2
            go_ret
            exact ⟨by rw [← HR.out, HF.out]; rfl, rfl⟩
          · by_cases h2 : 126 < (s[k].toNat : Int)
            · have HF := Lib.hid (name_no s k hlt (nb_high h2)); clear ha
              go_wp2
              go_ret
              exact ⟨by rw [← HR.out, HF.out]; rfl, rfl⟩
            · cases h3 : ((s[k].toNat : Int) == 64)
              · have HS := Lib.hid (name_step s k hlt ha (nb_yes h1 h2 h3)); clear ha
                go_wp2
                go_roundg (s.size - (k + 1))
                case measure => rw [HG.out]; omega
                case rel => exact ⟨k + 1, rfl, hlt, by go_num, HS.out, rfl⟩
              · have HF := Lib.hid (name_no s k hlt (nb_mark h3)); clear ha
                go_wp2
                go_ret
                exact ⟨by rw [← HR.out, HF.out]; rfl, rfl⟩
        · obtain rfl : k = s.size := by omega
          have HA := Lib.hid ha; clear ha
          go_wp2
          go_ret
          refine ⟨?_, rfl⟩
          rw [← HR.out]
          have := HA.out
          rw [List.take_of_length_le (by simp)] at this
          rw [this]; rfl

/-- The document's own. -/
theorem rstream_any (s : ByteArray) (w : World) : Calls Try.prog 26 #[.string s] w fun en w' => en = .returned (.bool (streamB s.data.toList)) ∧ w = w' := by
  have hl : s.data.toList.length = s.size := by simp
  by_cases g1 : s.size < 1
  · have hv : streamB s.data.toList = false := by rw [streamB, hl, decide_eq_false (by omega)]; rfl
    rw [hv]
    have g2 : (s.size : Int) < 1 := by omega
    clear hv hl
    go_enter Try.func26, Try.ntmps26
    go_wp2
    go_ret
    exact ⟨rfl, rfl⟩
  · have g2 : ¬ (s.size : Int) < 1 := by omega
    by_cases g3 : 60 < s.size
    · have hv : streamB s.data.toList = false := by rw [streamB, hl, decide_eq_false (p := s.size ≤ 60) (by omega)]; simp
      rw [hv]
      have g4 : (60 : Int) < (s.size : Int) := by omega
      clear hv hl
      go_enter Try.func26, Try.ntmps26
      go_wp2
      go_ret
      exact ⟨rfl, rfl⟩
    · have g4 : ¬ (60 : Int) < (s.size : Int) := by omega
      have hv : streamB s.data.toList = s.data.toList.all nameByte := by rw [streamB, hl, decide_eq_true (by omega), decide_eq_true (p := s.size ≤ 60) (by omega)]; rfl
      rw [hv]
      obtain ⟨r, hr⟩ : ∃ r, s.data.toList.all nameByte = r := ⟨_, rfl⟩
      rw [hr]
      have HR := Lib.hid hr; clear hr hv hl
      go_enter Try.func26, Try.ntmps26
      go_wp2_with fail
      go_loopg [3] s.size (fun g i wr => ∃ k : Nat, g = s.size - k ∧ k ≤ s.size ∧ i = .int .i64 k ∧ (s.data.toList.take k).all nameByte = true ∧ w = wr)
      case atStart => exact ⟨0, by omega, Nat.zero_le _, rfl, rfl, rfl⟩
      case round =>
        obtain ⟨k, hg, hk, rfl, ha, rfl⟩ := hrel
        have HG := Lib.hid hg; clear hg
        by_cases hlt : k < s.size
        · by_cases h1 : (s[k].toNat : Int) < 33
          · have HF := Lib.hid (name_no s k hlt (nb_low h1)); clear ha
            go_wp2
            go_ret
            exact ⟨by rw [← HR.out, HF.out]; rfl, rfl⟩
          · by_cases h2 : 126 < (s[k].toNat : Int)
            · have HF := Lib.hid (name_no s k hlt (nb_high h2)); clear ha
              go_wp2
              go_ret
              exact ⟨by rw [← HR.out, HF.out]; rfl, rfl⟩
            · cases h3 : ((s[k].toNat : Int) == 64)
              · have HS := Lib.hid (name_step s k hlt ha (nb_yes h1 h2 h3)); clear ha
                go_wp2
                go_roundg (s.size - (k + 1))
                case measure => rw [HG.out]; omega
                case rel => exact ⟨k + 1, rfl, hlt, by go_num, HS.out, rfl⟩
              · have HF := Lib.hid (name_no s k hlt (nb_mark h3)); clear ha
                go_wp2
                go_ret
                exact ⟨by rw [← HR.out, HF.out]; rfl, rfl⟩
        · obtain rfl : k = s.size := by omega
          have HA := Lib.hid ha; clear ha
          go_wp2
          go_ret
          refine ⟨?_, rfl⟩
          rw [← HR.out]
          have := HA.out
          rw [List.take_of_length_le (by simp)] at this
          rw [this]; rfl

def linkTells (r : Int × List UInt8 × Int) : Value := .tuple #[.int .i64 r.1, .string ⟨r.2.1.toArray⟩, .int .i64 r.2.2]
theorem cut_sizes (b : UInt8) : ∀ l, (cutB b l).1.length ≤ l.length ∧ (cutB b l).2.1.length ≤ l.length
  | [] => ⟨Nat.le_refl _, Nat.le_refl _⟩
  | c :: t => by
    have h := cut_sizes b t
    rw [cutB]
    split
    · exact ⟨by simp, by simp⟩
    · exact ⟨by simpa using h.1, Nat.le_succ_of_le h.2⟩


theorem unlink_any (s : ByteArray) (hs : s.size ≤ 1000000) (w : World) : Calls Try.prog 32 #[.string s] w fun en w' => en = .returned (linkTells (unlinkOf s.data.toList)) ∧ Below w.heap.size w w' := by
  have HC := Lib.hid (cut24 s 64 w hs)
  have hz := (cut_sizes 64 s.data.toList).2
  have hl : s.data.toList.length = s.size := by simp
  rw [hl] at hz
  clear hl
  rw [show unlinkOf s.data.toList = if (cutB 64 s.data.toList).2.2 && (numberOf (cutB 64 s.data.toList).1).2 == 0 && decide (0 ≤ (numberOf (cutB 64 s.data.toList).1).1) && streamB (cutB 64 s.data.toList).2.1 then ((numberOf (cutB 64 s.data.toList).1).1, (cutB 64 s.data.toList).2.1, 0) else (0, [], 6) from rfl]
  revert HC hz
  generalize cutB 64 s.data.toList = r
  intro HC hz
  obtain ⟨x, y, z⟩ := r
  unfold cutTells at HC
  simp only [] at hz HC ⊢
  have HN := Lib.hid (fun w => number_any ⟨x.toArray⟩ w)
  have HS := Lib.hid (fun w => stream_any ⟨y.toArray⟩ w)
  have hy3 : (⟨y.toArray⟩ : ByteArray).size ≤ 281474976710656 := by
    show y.toArray.size ≤ _
    simp; omega
  rw [show (⟨x.toArray⟩ : ByteArray).data.toList = x from rfl] at HN
  rw [show (⟨y.toArray⟩ : ByteArray).data.toList = y from rfl] at HS
  obtain ⟨v, hv⟩ : ∃ v, linkTells (if z && (numberOf x).2 == 0 && decide (0 ≤ (numberOf x).1) && streamB y then ((numberOf x).1, y, 0) else (0, [], 6)) = v := ⟨_, rfl⟩
  rw [hv]
  have hp : v = if z && (numberOf x).2 == 0 && decide (0 ≤ (numberOf x).1) && streamB y then .tuple #[.int .i64 (numberOf x).1, .string ⟨y.toArray⟩, .int .i64 0] else .tuple #[.int .i64 0, .string ⟨#[]⟩, .int .i64 6] := by
    rw [← hv]; split <;> rfl
  clear hv hz
  revert HC HN HS hy3 hp
  generalize numberOf x = nn
  generalize streamB y = st
  generalize (⟨x.toArray⟩ : ByteArray) = d
  generalize (⟨y.toArray⟩ : ByteArray) = t
  intro HC HN HS hy3 hp
  obtain ⟨a, e⟩ := nn
  unfold tells at HN
  simp only [] at hp HN
  have hways : (z = false) ∨ (z = true ∧ (e == 0) = false) ∨ (z = true ∧ (e == 0) = true ∧ a < 0) ∨ (z = true ∧ (e == 0) = true ∧ ¬ a < 0 ∧ st = false) ∨ (z = true ∧ (e == 0) = true ∧ ¬ a < 0 ∧ st = true) := by
    cases z <;> cases (e == 0) <;> cases st <;> simp <;> omega
  rcases hways with rfl | ⟨rfl, h1⟩ | ⟨rfl, h1, h2⟩ | ⟨rfl, h1, h2, rfl⟩ | ⟨rfl, h1, h2, rfl⟩
  · have HP := Lib.hid (show v = .tuple #[.int .i64 0, .string ⟨#[]⟩, .int .i64 6] by rw [hp]; rfl); clear hp
    go_enter Try.func32, Try.ntmps32
    go_wp2_with fail
    refine HC.out.mono ?_
    rintro en w1 ⟨rfl, hb⟩
    go_wp2_with fail
    refine (HN.out w1).mono ?_
    rintro en w' ⟨rfl, rfl⟩
    go_wp2
    exact bodyPost_ret (v := .tuple #[.int .i64 0, .string ⟨#[]⟩, .int .i64 6]) (by simp [results, Try.results32, go_sem]) rfl ⟨by rw [HP.out], hb⟩
  · have HP := Lib.hid (show v = .tuple #[.int .i64 0, .string ⟨#[]⟩, .int .i64 6] by rw [hp, h1]; rfl); clear hp
    have h1' : (e != 0) = true := by rw [bne, h1]; rfl
    go_enter Try.func32, Try.ntmps32
    go_wp2_with fail
    refine HC.out.mono ?_
    rintro en w1 ⟨rfl, hb⟩
    go_wp2_with fail
    refine (HN.out w1).mono ?_
    rintro en w' ⟨rfl, rfl⟩
    go_wp2
    exact bodyPost_ret (v := .tuple #[.int .i64 0, .string ⟨#[]⟩, .int .i64 6]) (by simp [results, Try.results32, go_sem]) rfl ⟨by rw [HP.out], hb⟩
  · have HP := Lib.hid (show v = .tuple #[.int .i64 0, .string ⟨#[]⟩, .int .i64 6] by rw [hp, h1, decide_eq_false (by omega)]; rfl); clear hp
    obtain rfl : e = 0 := by simpa using h1
    clear h1
    go_enter Try.func32, Try.ntmps32
    go_wp2_with fail
    refine HC.out.mono ?_
    rintro en w1 ⟨rfl, hb⟩
    go_wp2_with fail
    refine (HN.out w1).mono ?_
    rintro en w' ⟨rfl, rfl⟩
    go_wp2
    exact bodyPost_ret (v := .tuple #[.int .i64 0, .string ⟨#[]⟩, .int .i64 6]) (by simp [results, Try.results32, go_sem]) rfl ⟨by rw [HP.out], hb⟩
  · have HP := Lib.hid (show v = .tuple #[.int .i64 0, .string ⟨#[]⟩, .int .i64 6] by rw [hp, h1]; simp); clear hp
    obtain rfl : e = 0 := by simpa using h1
    clear h1
    go_enter Try.func32, Try.ntmps32
    go_wp2_with fail
    refine HC.out.mono ?_
    rintro en w1 ⟨rfl, hb⟩
    go_wp2_with fail
    refine (HN.out w1).mono ?_
    rintro en w' ⟨rfl, rfl⟩
    go_wp2_with fail
    refine (HS.out w1).mono ?_
    rintro en w' ⟨rfl, rfl⟩
    go_wp2
    exact bodyPost_ret (v := .tuple #[.int .i64 0, .string ⟨#[]⟩, .int .i64 6]) (by simp [results, Try.results32, go_sem]) rfl ⟨by rw [HP.out], hb⟩
  · have HP := Lib.hid (show v = .tuple #[.int .i64 a, .string t, .int .i64 0] by rw [hp, h1, decide_eq_true (by omega)]; rfl); clear hp
    obtain rfl : e = 0 := by simpa using h1
    clear h1
    go_enter Try.func32, Try.ntmps32
    go_wp2_with fail
    refine HC.out.mono ?_
    rintro en w1 ⟨rfl, hb⟩
    go_wp2_with fail
    refine (HN.out w1).mono ?_
    rintro en w' ⟨rfl, rfl⟩
    go_wp2_with fail
    refine (HS.out w1).mono ?_
    rintro en w' ⟨rfl, rfl⟩
    go_wp2_with fail
    refine (clone_any t w1 hy3).mono ?_
    rintro en w2 ⟨rfl, hb2⟩
    go_wp2
    exact bodyPost_ret (v := .tuple #[.int .i64 a, .string t, .int .i64 0]) (by simp [results, Try.results32, go_sem]) rfl ⟨by rw [HP.out], hb.trans (hb2.mono hb.size)⟩

theorem cutB_hit (b : UInt8) (s : ByteArray) (k : Nat) (h : k < s.size) (hn : b ∉ s.data.toList.take k) (hb : s[k] = b) : cutB b s.data.toList = (s.data.toList.take k, s.data.toList.drop (k + 1), true) := by
  have e : s.data.toList = s.data.toList.take k ++ b :: s.data.toList.drop (k + 1) := by
    have h1 := List.take_append_drop k s.data.toList
    rw [List.drop_eq_getElem_cons (by simpa using h)] at h1
    have h2 : s.data.toList[k]'(by simpa using h) = b := hb
    rw [h2] at h1
    exact h1.symm
  have h2 := cutB_at b (s.data.toList.take k) (s.data.toList.drop (k + 1)) hn
  rw [← e] at h2
  exact h2
theorem not_next (b : UInt8) (s : ByteArray) (k : Nat) (h : k < s.size) (hn : b ∉ s.data.toList.take k) (hb : ((s[k].toNat : Int) == b.toNat) = false) : b ∉ s.data.toList.take (k + 1) := by
  rw [name_take s k h]
  intro hc
  rcases List.mem_append.1 hc with h1 | h1
  · exact hn h1
  · simp only [List.mem_singleton] at h1
    rw [← h1] at hb
    simp at hb
theorem byte_eq {c b : UInt8} (h : ((c.toNat : Int) == b.toNat) = true) : c = b := by
  apply UInt8.toNat_inj.1
  have := beq_iff_eq.1 h
  omega
theorem ext_take (s : ByteArray) (k : Nat) : (⟨(s.data.toList.take k).toArray⟩ : ByteArray) = s.extract 0 k := by
  apply ByteArray.ext; apply Array.ext'
  simp
theorem ext_drop (s : ByteArray) (k : Nat) : (⟨(s.data.toList.drop k).toArray⟩ : ByteArray) = s.extract k s.size := by
  apply ByteArray.ext; apply Array.ext'
  simp only [ByteArray.data_extract, Array.toList_extract, List.extract_eq_take_drop]
  rw [List.take_of_length_le (by simp)]


theorem runlink_any (s : ByteArray) (hs : s.size ≤ 1000000) (w : World) : Calls Try.prog 18 #[.string s] w fun en w' => en = .returned (linkTells (unlinkOf s.data.toList)) ∧ Below w.heap.size w w' := by
  have HS := Lib.hid (fun x w => rstream_any x w)
  have HN := Lib.hid (fun x w => rnumber_any x w)
  have hcat : unlinkOf s.data.toList = if (cutB 64 s.data.toList).2.2 && (numberOf (cutB 64 s.data.toList).1).2 == 0 && decide (0 ≤ (numberOf (cutB 64 s.data.toList).1).1) && streamB (cutB 64 s.data.toList).2.1 then ((numberOf (cutB 64 s.data.toList).1).1, (cutB 64 s.data.toList).2.1, 0) else (0, [], 6) := rfl
  obtain ⟨v, hv⟩ : ∃ v, linkTells (unlinkOf s.data.toList) = v := ⟨_, rfl⟩
  rw [hv]
  rw [hcat] at hv
  have HV := Lib.hid hv; clear hv hcat
  go_enter Try.func18, Try.ntmps18
  go_wp2_with fail
  go_loopg [5] s.size (fun g i wr => ∃ k : Nat, g = s.size - k ∧ k ≤ s.size ∧ i = .int .i64 k ∧ (64 : UInt8) ∉ s.data.toList.take k ∧ w = wr)
  case atStart => exact ⟨0, by omega, Nat.zero_le _, rfl, by simp, rfl⟩
  case round =>
    obtain ⟨k, hg, hk, rfl, hn, rfl⟩ := hrel
    have HG := Lib.hid (And.intro hg hn); clear hg hn
    by_cases hlt : k < s.size
    · cases h3 : ((s[k].toNat : Int) == 64)
      · have HN := Lib.hid (not_next 64 s k hlt HG.out.2 h3)
        go_wp2
        go_roundg (s.size - (k + 1))
        case measure => rw [HG.out.1]; omega
        case rel => exact ⟨k + 1, rfl, hlt, by go_num, HN.out, rfl⟩
      · have hc := cutB_hit 64 s k hlt HG.out.2 (byte_eq h3)
        have e1 : (s.extract 0 k).data.toList = s.data.toList.take k := by rw [← ext_take]
        have e2 : (s.extract (k + 1) s.size).data.toList = s.data.toList.drop (k + 1) := by rw [← ext_drop]
        have hval : v = if (numberOf (s.extract 0 k).data.toList).2 == 0 && decide (0 ≤ (numberOf (s.extract 0 k).data.toList).1) && streamB (s.extract (k + 1) s.size).data.toList then .tuple #[.int .i64 (numberOf (s.extract 0 k).data.toList).1, .string (s.extract (k + 1) s.size), .int .i64 0] else .tuple #[.int .i64 0, .string ⟨#[]⟩, .int .i64 6] := by
          rw [← HV.out, hc, e1, e2]
          simp only [Bool.true_and]
          split
          · rw [linkTells, ext_drop]
          · rfl
        clear hc e1 e2
        obtain ⟨⟨a, e⟩, hae⟩ : ∃ r, numberOf (s.extract 0 k).data.toList = r := ⟨_, rfl⟩
        obtain ⟨st, hst⟩ : ∃ r, streamB (s.extract (k + 1) s.size).data.toList = r := ⟨_, rfl⟩
        rw [hae, hst] at hval
        have HA := Lib.hid hae; have HT := Lib.hid hst; clear hae hst
        simp only [] at hval
        have hw : IntKind.i64.wrap ((k : Int) + 1) = (k : Int) + 1 := IntWalk.i64_in _ (by omega)
        have hk1 : k + 1 ≤ s.size := hlt
        have hways : ((e == 0) = false) ∨ ((e == 0) = true ∧ a < 0) ∨ ((e == 0) = true ∧ ¬ a < 0 ∧ st = false) ∨ ((e == 0) = true ∧ ¬ a < 0 ∧ st = true) := by
          cases (e == 0) <;> cases st <;> simp <;> omega
        rcases hways with h1 | ⟨h1, h2⟩ | ⟨h1, h2, rfl⟩ | ⟨h1, h2, rfl⟩
        · have HP := Lib.hid (show v = .tuple #[.int .i64 0, .string ⟨#[]⟩, .int .i64 6] by rw [hval, h1]; rfl); clear hval
          have h1' : (e != 0) = true := by rw [bne, h1]; rfl
          go_wp2_with fail
          refine (HN.out (s.extract 0 k) w).mono ?_
          rintro en w' ⟨rfl, rfl⟩
          rw [HA.out]
          unfold tells
          go_wp2
          exact bodyPost_ret (v := .tuple #[.int .i64 0, .string ⟨#[]⟩, .int .i64 6]) (by simp [results, Try.results18, go_sem]) rfl ⟨by rw [HP.out], Below.refl _ _⟩
        · have HP := Lib.hid (show v = .tuple #[.int .i64 0, .string ⟨#[]⟩, .int .i64 6] by rw [hval, h1, decide_eq_false (by omega)]; rfl); clear hval
          obtain rfl : e = 0 := by simpa using h1
          clear h1
          go_wp2_with fail
          refine (HN.out (s.extract 0 k) w).mono ?_
          rintro en w' ⟨rfl, rfl⟩
          rw [HA.out]
          unfold tells
          go_wp2
          exact bodyPost_ret (v := .tuple #[.int .i64 0, .string ⟨#[]⟩, .int .i64 6]) (by simp [results, Try.results18, go_sem]) rfl ⟨by rw [HP.out], Below.refl _ _⟩
        · have HP := Lib.hid (show v = .tuple #[.int .i64 0, .string ⟨#[]⟩, .int .i64 6] by rw [hval, h1]; simp); clear hval
          obtain rfl : e = 0 := by simpa using h1
          clear h1
          go_wp2_with fail
          refine (HN.out (s.extract 0 k) w).mono ?_
          rintro en w' ⟨rfl, rfl⟩
          rw [HA.out]
          unfold tells
          go_wp2_with fail
          refine (HS.out (s.extract (k + 1) s.size) w).mono ?_
          rintro en w' ⟨rfl, rfl⟩
          rw [HT.out]
          go_wp2
          exact bodyPost_ret (v := .tuple #[.int .i64 0, .string ⟨#[]⟩, .int .i64 6]) (by simp [results, Try.results18, go_sem]) rfl ⟨by rw [HP.out], Below.refl _ _⟩
        · have HP := Lib.hid (show v = .tuple #[.int .i64 a, .string (s.extract (k + 1) s.size), .int .i64 0] by rw [hval, h1, decide_eq_true (by omega)]; rfl); clear hval
          obtain rfl : e = 0 := by simpa using h1
          clear h1
          have hk2 : (k : Int) + 1 ≤ (s.size : Int) := by omega
          go_wp2_with fail
          refine (HN.out (s.extract 0 k) w).mono ?_
          rintro en w' ⟨rfl, rfl⟩
          rw [HA.out]
          unfold tells
          go_wp2_with fail
          refine (HS.out (s.extract (k + 1) s.size) w).mono ?_
          rintro en w' ⟨rfl, rfl⟩
          rw [HT.out]
          go_wp2_with fail
          go_quiet (fail)
          go_wp2
          exact bodyPost_ret (v := .tuple #[.int .i64 a, .string (s.extract (k + 1) s.size), .int .i64 0]) (by simp [results, Try.results18, go_sem]) rfl ⟨by rw [HP.out], below_draws (Below.refl _ _) _⟩
    · obtain rfl : k = s.size := by omega
      have hn := HG.out.2
      rw [List.take_of_length_le (by simp)] at hn
      have HW := Lib.hid (show v = .tuple #[.int .i64 0, .string ⟨#[]⟩, .int .i64 6] by rw [← HV.out, cutB_not 64 _ hn]; rfl); clear hn
      go_wp2
      exact bodyPost_ret (v := .tuple #[.int .i64 0, .string ⟨#[]⟩, .int .i64 6]) (by simp [results, Try.results18, go_sem]) rfl ⟨by rw [HW.out], Below.refl _ _⟩
end Go.Proofs.Ytimmdcajadddmaa
