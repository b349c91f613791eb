/-
  Categories, links; the laws' own first call. Conditions: none.
-/
import Derived.Test.YtijomegcomjbmaaDoorN1
import Derived.Test.YtijomegcomjbmaaDoorRNum
import Derived.Lib.ItoaLen
namespace Go.Proofs.YtijomegcomjbmaaDoor
open Go.RowKit Go.Lib

def catTells (r : List UInt8 × Bool) : Value := .tuple #[.string ⟨r.1.toArray⟩, .bool r.2]
def linkTells (r : Int × List UInt8 × Int) : Value := .tuple #[.int .i64 r.1, .string ⟨r.2.1.toArray⟩, .int .i64 r.2.2]

theorem cut_sizes (b : UInt8) : ∀ l, (cutB b l).1.length ≤ l.length ∧ (cutB b l).2.1.length ≤ l.length
  | [] => ⟨Nat.le_refl _, Nat.le_refl _⟩
  | c :: t => by
    have h := cut_sizes b t
    rw [cutB]
    split
    · exact ⟨by simp, by simp⟩
    · exact ⟨by simpa using h.1, Nat.le_succ_of_le h.2⟩

theorem category_any (s : ByteArray) (hs : s.size ≤ 1000000) (w : World) : Calls Tryd.prog 13 #[.string s] w fun en w' => en = .returned (catTells (categoryOf s.data.toList)) ∧ Below w.heap.size w w' := by
  have HC := Lib.hid (cut24 s 45 w hs)
  have HS := Lib.hid (fun w => stream_any s w)
  have HY := Lib.hid (fun w => system_any s w)
  have hz := (cut_sizes 45 s.data.toList).1
  have hl : s.data.toList.length = s.size := by simp
  rw [hl] at hz
  rw [show categoryOf s.data.toList = if (cutB 45 s.data.toList).2.2 && !(cutB 45 s.data.toList).1.isEmpty && streamB s.data.toList && !systemB s.data.toList then ((cutB 45 s.data.toList).1, true) else ([], false) from rfl]
  revert HC HS HY hz
  generalize cutB 45 s.data.toList = r
  generalize streamB s.data.toList = st
  generalize systemB s.data.toList = sy
  intro HC HS HY hz
  clear hl
  obtain ⟨x, y, z⟩ := r
  unfold cutTells at HC
  simp only [] at hz HC ⊢
  obtain ⟨v, hv⟩ : ∃ v, catTells (if z && !x.isEmpty && st && !sy then (x, true) else ([], false)) = v := ⟨_, rfl⟩
  rw [hv]
  have HV := Lib.hid hv; clear hv
  have hx : x.isEmpty = true ∨ x.isEmpty = false := by cases x.isEmpty <;> simp
  cases z
  · go_enter Tryd.func13, Tryd.ntmps13
    go_wp2_with fail
    refine HC.out.mono ?_
    rintro en w1 ⟨rfl, hb⟩
    go_wp2
    exact bodyPost_ret (v := .tuple #[.string ⟨#[]⟩, .bool false]) (by simp [results, Tryd.results13, go_sem]) rfl ⟨by rw [← HV.out]; rfl, hb⟩
  · rcases hx with hx | hx
    · obtain rfl : x = [] := by cases x <;> simp_all
      clear hx hz
      go_enter Tryd.func13, Tryd.ntmps13
      go_wp2_with fail
      refine HC.out.mono ?_
      rintro en w1 ⟨rfl, hb⟩
      go_wp2
      exact bodyPost_ret (v := .tuple #[.string ⟨#[]⟩, .bool false]) (by simp [results, Tryd.results13, go_sem]) rfl ⟨by rw [← HV.out]; rfl, hb⟩
    · have hx2 : (⟨x.toArray⟩ : ByteArray).toList.isEmpty = false := by
        rw [ByteArray.toList_eq]; exact hx
      have hx4 : ¬ (⟨x.toArray⟩ : ByteArray).toList = [] := by
        rw [ByteArray.toList_eq]
        intro h
        have h' : x = [] := h
        rw [h'] at hx
        exact absurd hx (by decide)
      have hx3 : (⟨x.toArray⟩ : ByteArray).size ≤ 281474976710656 := by
        show x.toArray.size ≤ _
        simp; omega
      have hp : v = if st && !sy then .tuple #[.string ⟨x.toArray⟩, .bool true] else .tuple #[.string ⟨#[]⟩, .bool false] := by
        rw [← HV.out, hx]
        cases st <;> cases sy <;> rfl
      clear HV hx hz
      revert HC hx2 hx3 hx4 hp
      generalize (⟨x.toArray⟩ : ByteArray) = d
      intro HC hx2 hx4 hx3 hp
      cases st
      · have HP := Lib.hid hp; clear hp
        go_enter Tryd.func13, Tryd.ntmps13
        go_wp2_with fail
        refine HC.out.mono ?_
        rintro en w1 ⟨rfl, hb⟩
        go_wp2_with fail
        refine (HS.out w1).mono ?_
        rintro en w' ⟨rfl, rfl⟩
        go_wp2
        exact bodyPost_ret (v := .tuple #[.string ⟨#[]⟩, .bool false]) (by simp [results, Tryd.results13, go_sem]) rfl ⟨by rw [HP.out]; rfl, hb⟩
      · cases sy
        · have HP := Lib.hid hp; clear hp
          go_enter Tryd.func13, Tryd.ntmps13
          go_wp2_with fail
          refine HC.out.mono ?_
          rintro en w1 ⟨rfl, hb⟩
          go_wp2_with fail
          refine (HS.out w1).mono ?_
          rintro en w' ⟨rfl, rfl⟩
          go_wp2_with fail
          refine (HY.out w1).mono ?_
          rintro en w' ⟨rfl, rfl⟩
          go_wp2_with fail
          refine (clone_any d _ hx3).mono ?_
          rintro en w2 ⟨rfl, hb2⟩
          go_wp2
          exact bodyPost_ret (v := .tuple #[.string d, .bool true]) (by simp [results, Tryd.results13, go_sem]) rfl ⟨by rw [HP.out]; rfl, hb.trans (hb2.mono hb.size)⟩
        · have HP := Lib.hid hp; clear hp
          go_enter Tryd.func13, Tryd.ntmps13
          go_wp2_with fail
          refine HC.out.mono ?_
          rintro en w1 ⟨rfl, hb⟩
          go_wp2_with fail
          refine (HS.out w1).mono ?_
          rintro en w' ⟨rfl, rfl⟩
          go_wp2_with fail
          refine (HY.out w1).mono ?_
          rintro en w' ⟨rfl, rfl⟩
          go_wp2
          exact bodyPost_ret (v := .tuple #[.string ⟨#[]⟩, .bool false]) (by simp [results, Tryd.results13, go_sem]) rfl ⟨by rw [HP.out]; rfl, hb⟩

theorem link_any (v : Int) (h0 : -9223372036854775808 ≤ v) (h1 : v ≤ 9223372036854775807) (s : ByteArray) (hs : s.size ≤ 1000000) (w : World) (ht : Tab w) : Calls Tryd.prog 11 #[.int .i64 v, .string s] w fun en w' => en = .returned (.string ⟨(linkOf v s.data.toList).toArray⟩) ∧ Below w.heap.size w w' := by
  have HD := Lib.hid (digits_any v h0 h1 w ht)
  have hl := itoa_length_le v h0 h1
  have hz : (⟨(itoa v).toArray⟩ : ByteArray).size ≤ 21 := by
    show (itoa v).toArray.size ≤ 21
    simpa using hl
  have hv : (⟨(linkOf v s.data.toList).toArray⟩ : ByteArray) = (⟨(itoa v).toArray⟩ ++ ⟨#[64]⟩ : ByteArray) ++ s := by
    apply ByteArray.ext; apply Array.ext'
    simp [linkOf, ByteArray.data_append]
  rw [hv]
  clear hv hl
  revert HD hz
  generalize (⟨(itoa v).toArray⟩ : ByteArray) = d
  intro HD hz
  have hz2 : (d ++ ⟨#[64]⟩ : ByteArray).size ≤ 22 := by rw [ByteArray.size_append]; show d.size + 1 ≤ 22; omega
  go_enter Tryd.func11, Tryd.ntmps11
  go_wp2_with fail
  refine HD.out.mono ?_
  rintro en w1 ⟨rfl, hb⟩
  go_wp2
  go_ret
  exact ⟨rfl, hb⟩

theorem unlink_any (s : ByteArray) (hs : s.size ≤ 1000000) (w : World) : Calls Tryd.prog 10 #[.string s] w fun en w' => en = .returned (linkTells (unlinkOf s.data.toList)) ∧ Below w.heap.size w w' := by
  have HC := Lib.hid (cut24 s 64 w hs)
  have hz := (cut_sizes 64 s.data.toList).2
  have hl : s.data.toList.length = s.size := by simp
  rw [hl] at hz
  clear hl
  rw [show unlinkOf s.data.toList = if (cutB 64 s.data.toList).2.2 && (numberOf (cutB 64 s.data.toList).1).2 == 0 && decide (0 ≤ (numberOf (cutB 64 s.data.toList).1).1) && streamB (cutB 64 s.data.toList).2.1 then ((numberOf (cutB 64 s.data.toList).1).1, (cutB 64 s.data.toList).2.1, 0) else (0, [], 6) from rfl]
  revert HC hz
  generalize cutB 64 s.data.toList = r
  intro HC hz
  obtain ⟨x, y, z⟩ := r
  unfold cutTells at HC
  simp only [] at hz HC ⊢
  have HN := Lib.hid (fun w => number_any ⟨x.toArray⟩ w)
  have HS := Lib.hid (fun w => stream_any ⟨y.toArray⟩ w)
  have hy3 : (⟨y.toArray⟩ : ByteArray).size ≤ 281474976710656 := by
    show y.toArray.size ≤ _
    simp; omega
  rw [show (⟨x.toArray⟩ : ByteArray).data.toList = x from rfl] at HN
  rw [show (⟨y.toArray⟩ : ByteArray).data.toList = y from rfl] at HS
  obtain ⟨v, hv⟩ : ∃ v, linkTells (if z && (numberOf x).2 == 0 && decide (0 ≤ (numberOf x).1) && streamB y then ((numberOf x).1, y, 0) else (0, [], 6)) = v := ⟨_, rfl⟩
  rw [hv]
  have hp : v = if z && (numberOf x).2 == 0 && decide (0 ≤ (numberOf x).1) && streamB y then .tuple #[.int .i64 (numberOf x).1, .string ⟨y.toArray⟩, .int .i64 0] else .tuple #[.int .i64 0, .string ⟨#[]⟩, .int .i64 6] := by
    rw [← hv]; split <;> rfl
  clear hv hz
  revert HC HN HS hy3 hp
  generalize numberOf x = nn
  generalize streamB y = st
  generalize (⟨x.toArray⟩ : ByteArray) = d
  generalize (⟨y.toArray⟩ : ByteArray) = t
  intro HC HN HS hy3 hp
  obtain ⟨a, e⟩ := nn
  unfold tells at HN
  simp only [] at hp HN
  have hways : (z = false) ∨ (z = true ∧ (e == 0) = false) ∨ (z = true ∧ (e == 0) = true ∧ a < 0) ∨ (z = true ∧ (e == 0) = true ∧ ¬ a < 0 ∧ st = false) ∨ (z = true ∧ (e == 0) = true ∧ ¬ a < 0 ∧ st = true) := by
    cases z <;> cases (e == 0) <;> cases st <;> simp <;> omega
  rcases hways with rfl | ⟨rfl, h1⟩ | ⟨rfl, h1, h2⟩ | ⟨rfl, h1, h2, rfl⟩ | ⟨rfl, h1, h2, rfl⟩
  · have HP := Lib.hid (show v = .tuple #[.int .i64 0, .string ⟨#[]⟩, .int .i64 6] by rw [hp]; rfl); clear hp
    go_enter Tryd.func10, Tryd.ntmps10
    go_wp2_with fail
    refine HC.out.mono ?_
    rintro en w1 ⟨rfl, hb⟩
    go_wp2_with fail
    refine (HN.out w1).mono ?_
    rintro en w' ⟨rfl, rfl⟩
    go_wp2
    exact bodyPost_ret (v := .tuple #[.int .i64 0, .string ⟨#[]⟩, .int .i64 6]) (by simp [results, Tryd.results10, go_sem]) rfl ⟨by rw [HP.out], hb⟩
  · have HP := Lib.hid (show v = .tuple #[.int .i64 0, .string ⟨#[]⟩, .int .i64 6] by rw [hp, h1]; rfl); clear hp
    have h1' : (e != 0) = true := by rw [bne, h1]; rfl
    go_enter Tryd.func10, Tryd.ntmps10
    go_wp2_with fail
    refine HC.out.mono ?_
    rintro en w1 ⟨rfl, hb⟩
    go_wp2_with fail
    refine (HN.out w1).mono ?_
    rintro en w' ⟨rfl, rfl⟩
    go_wp2
    exact bodyPost_ret (v := .tuple #[.int .i64 0, .string ⟨#[]⟩, .int .i64 6]) (by simp [results, Tryd.results10, go_sem]) rfl ⟨by rw [HP.out], hb⟩
  · have HP := Lib.hid (show v = .tuple #[.int .i64 0, .string ⟨#[]⟩, .int .i64 6] by rw [hp, h1, decide_eq_false (by omega)]; rfl); clear hp
    obtain rfl : e = 0 := by simpa using h1
    clear h1
    go_enter Tryd.func10, Tryd.ntmps10
    go_wp2_with fail
    refine HC.out.mono ?_
    rintro en w1 ⟨rfl, hb⟩
    go_wp2_with fail
    refine (HN.out w1).mono ?_
    rintro en w' ⟨rfl, rfl⟩
    go_wp2
    exact bodyPost_ret (v := .tuple #[.int .i64 0, .string ⟨#[]⟩, .int .i64 6]) (by simp [results, Tryd.results10, go_sem]) rfl ⟨by rw [HP.out], hb⟩
  · have HP := Lib.hid (show v = .tuple #[.int .i64 0, .string ⟨#[]⟩, .int .i64 6] by rw [hp, h1]; simp); clear hp
    obtain rfl : e = 0 := by simpa using h1
    clear h1
    go_enter Tryd.func10, Tryd.ntmps10
    go_wp2_with fail
    refine HC.out.mono ?_
    rintro en w1 ⟨rfl, hb⟩
    go_wp2_with fail
    refine (HN.out w1).mono ?_
    rintro en w' ⟨rfl, rfl⟩
    go_wp2_with fail
    refine (HS.out w1).mono ?_
    rintro en w' ⟨rfl, rfl⟩
    go_wp2
    exact bodyPost_ret (v := .tuple #[.int .i64 0, .string ⟨#[]⟩, .int .i64 6]) (by simp [results, Tryd.results10, go_sem]) rfl ⟨by rw [HP.out], hb⟩
  · have HP := Lib.hid (show v = .tuple #[.int .i64 a, .string t, .int .i64 0] by rw [hp, h1, decide_eq_true (by omega)]; rfl); clear hp
    obtain rfl : e = 0 := by simpa using h1
    clear h1
    go_enter Tryd.func10, Tryd.ntmps10
    go_wp2_with fail
    refine HC.out.mono ?_
    rintro en w1 ⟨rfl, hb⟩
    go_wp2_with fail
    refine (HN.out w1).mono ?_
    rintro en w' ⟨rfl, rfl⟩
    go_wp2_with fail
    refine (HS.out w1).mono ?_
    rintro en w' ⟨rfl, rfl⟩
    go_wp2_with fail
    refine (clone_any t w1 hy3).mono ?_
    rintro en w2 ⟨rfl, hb2⟩
    go_wp2
    exact bodyPost_ret (v := .tuple #[.int .i64 a, .string t, .int .i64 0]) (by simp [results, Tryd.results10, go_sem]) rfl ⟨by rw [HP.out], hb.trans (hb2.mono hb.size)⟩
end Go.Proofs.YtijomegcomjbmaaDoor
