/-
  strings.Cut at one byte; package name: Stream, Type, System, Hash, and the document's own. Conditions: none.
-/
import Derived.Test.YtiblkfhcpepnfaaDoorG
import Derived.Test.YtiblkfhcpepnfaaDoorNameP
namespace Go.Proofs.YtiblkfhcpepnfaaDoor
open Go.RowKit Go.Lib

theorem cut_index (b : UInt8) : ∀ l, (indexByte l b = -1 ∧ cutB b l = (l, [], false)) ∨ ∃ i : Nat, i < l.length ∧ indexByte l b = i ∧ cutB b l = (l.take i, l.drop (i + 1), true)
  | [] => Or.inl ⟨rfl, rfl⟩
  | c :: t => by
    by_cases h : c = b
    · refine Or.inr ⟨0, by simp, ?_, ?_⟩
      · rw [indexByte, if_pos (by simp [h])]; rfl
      · rw [cutB, if_pos h]; rfl
    · have h1 : ¬ (c == b) = true := by simpa using h
      rcases cut_index b t with ⟨e1, e2⟩ | ⟨i, hi, e1, e2⟩
      · refine Or.inl ⟨?_, ?_⟩
        · rw [indexByte, if_neg h1, e1]; rfl
        · rw [cutB, if_neg h, e2]
      · refine Or.inr ⟨i + 1, by simpa using hi, ?_, ?_⟩
        · have h2 : ¬ ((i : Int) == -1) = true := by rw [beq_iff_eq]; omega
          rw [indexByte, if_neg h1, e1, if_neg h2]; rfl
        · rw [cutB, if_neg h, e2]; rfl

/-- What Cut tells. -/
def cutTells (r : List UInt8 × List UInt8 × Bool) : Value := .tuple #[.string ⟨r.1.toArray⟩, .string ⟨r.2.1.toArray⟩, .bool r.2.2]

theorem cut_any (s : ByteArray) (b : UInt8) (w : World) (hs : s.size ≤ 1000000) : Calls Tryd.prog 34 #[.string s, .string ⟨#[b]⟩] w fun en w' => en = .returned (cutTells (cutB b s.data.toList)) ∧ Below w.heap.size w w' := by
  have H := Tryd.stringslite_Index_one s b w
  rcases cut_index b s.data.toList with ⟨e1, e2⟩ | ⟨i, hi, e1, e2⟩
  · rw [e1] at H
    rw [e2]
    have HH := Lib.hid H; clear H e1 e2
    go_enter Tryd.func34, Tryd.ntmps34
    go_wp2_with fail
    refine HH.out.mono ?_
    rintro en w' ⟨rfl, rfl⟩
    go_wp2
    exact bodyPost_ret (v := .tuple #[.string s, .string ⟨#[]⟩, .bool false]) (by simp [results, Tryd.results34, go_sem]) rfl ⟨rfl, Below.refl _ _⟩
  · rw [e1] at H
    have hi' : i < s.size := by simpa using hi
    have hv : cutTells (cutB b s.data.toList) = .tuple #[.string (s.extract 0 i), .string (s.extract (i + 1) s.size), .bool true] := by
      rw [e2, cutTells]
      have a1 : (⟨(s.data.toList.take i).toArray⟩ : ByteArray) = s.extract 0 i := by
        apply ByteArray.ext; apply Array.ext'
        simp
      have a2 : (⟨(s.data.toList.drop (i + 1)).toArray⟩ : ByteArray) = s.extract (i + 1) s.size := by
        apply ByteArray.ext; apply Array.ext'
        simp only [ByteArray.data_extract, Array.toList_extract, List.extract_eq_take_drop]
        rw [List.take_of_length_le (by simp)]
      rw [a1, a2]
    rw [hv]
    have HH := Lib.hid H; clear H e1 e2 hv
    have h1 : (i : Int) ≤ (s.size : Int) := by omega
    have h2 : (i : Int) + 1 ≤ (s.size : Int) := by omega
    have h3 : i + 1 ≤ s.size := by omega
    have hw : IntKind.i64.wrap ((i : Int) + 1) = (i : Int) + 1 := IntWalk.i64_in _ (by omega)
    have h4 : (0 : Int) ≤ (i : Int) := by omega
    go_enter Tryd.func34, Tryd.ntmps34
    go_wp2_with fail
    refine HH.out.mono ?_
    rintro en w' ⟨rfl, rfl⟩
    go_wp2_with fail
    go_quiet (fail)
    go_wp2
    exact bodyPost_ret (v := .tuple #[.string (s.extract 0 i), .string (s.extract (i + 1) s.size), .bool true]) (by simp [results, Tryd.results34, go_sem]) rfl ⟨rfl, below_draws (Below.refl _ _) _⟩

theorem cut24 (s : ByteArray) (b : UInt8) (w : World) (hs : s.size ≤ 1000000) : Calls Tryd.prog 22 #[.string s, .string ⟨#[b]⟩] w fun en w' => en = .returned (cutTells (cutB b s.data.toList)) ∧ Below w.heap.size w w' := by
  have H := cut_any s b w hs
  revert H
  generalize cutB b s.data.toList = r
  intro H
  obtain ⟨x, y, z⟩ := r
  unfold cutTells at H ⊢
  have HH := Lib.hid H; clear H
  go_enter Tryd.func22, Tryd.ntmps22
  go_wp2_with fail
  refine HH.out.mono ?_
  rintro en w' ⟨rfl, hb⟩
  go_wp2
  exact bodyPost_ret (v := .tuple #[.string ⟨x.toArray⟩, .string ⟨y.toArray⟩, .bool z]) (by simp [results, Tryd.results22, go_sem]) rfl ⟨rfl, hb⟩
end Go.Proofs.YtiblkfhcpepnfaaDoor
