/-
  The document's text of metadata; its part of a word. Conditions: none.
-/
import Derived.Test.YtiblkfhcpepnfaaDoorMeta3
import Derived.Test.YtiblkfhcpepnfaaDoorRNum
namespace Go.Proofs.YtiblkfhcpepnfaaDoor
open Go.RowKit Go.Lib

theorem rtext_no (m : Mt) (w : World) (hno : okM m = false) : Calls Tryd.prog 9 #[m.val] w fun e w' => e = .returned (textV (textM m)) ∧ Below w.heap.size w w' := by
  have hv : textM m = ([], 1) := by rw [textM, hno]; rfl
  rw [hv]
  have H := fun w => rvalidMeta_any m w
  rw [hno] at H
  have HH := Lib.hid H; clear H hv
  go_enter Tryd.func9, Tryd.ntmps9
  go_wp2_with (
    go_at_call 19
    refine (HH.out _).mono ?_
    rintro e w1 ⟨rfl, hb1⟩
    replace hb1 := Lib.hid hb1)
  refine bodyPost_ret (v := .tuple #[.string ⟨#[]⟩, .int .i64 1]) (by simp [results, Tryd.results9, go_sem]) rfl ⟨rfl, ?_⟩
  exact (below_alloc w _).trans (hb1.out.mono (by simp))

theorem ext1 (X : ByteArray) (n : Nat) (l : List UInt8) (h : X.data.toList = 32 :: l) (hn : X.size ≤ n) : X.extract 1 n = mkS l := by
  apply ByteArray.ext; apply Array.ext'
  simp only [ByteArray.data_extract, Array.toList_extract, List.extract_eq_take_drop]
  rw [h, List.drop_one, List.tail_cons, List.take_of_length_le]
  · rfl
  · have h2 : X.data.toList.length = (32 :: l).length := by rw [h]
    have h3 : X.data.toList.length = X.size := by simp
    simp at h2 h3; omega
theorem z0 : (⟨#[]⟩ : ByteArray).size = 0 := rfl
theorem z7 : (⟨#[32, 99, 111, 117, 110, 116, 61]⟩ : ByteArray).size = 7 := rfl
theorem z5 : (⟨#[32, 97, 103, 101, 61]⟩ : ByteArray).size = 5 := rfl
theorem z8 : (⟨#[32, 98, 101, 102, 111, 114, 101, 61]⟩ : ByteArray).size = 8 := rfl
theorem part_ne (k : List UInt8) (n : Int) (h : (n == 0) = false) : partB k n = [k ++ 61 :: itoa n] := if_neg (beq_eq_false_iff_ne.1 h)
theorem part_z (k : List UInt8) (n : Int) (h : (n == 0) = true) : partB k n = [] := if_pos (by simpa using h)
theorem ne_append (x k d : ByteArray) (hk : k.data.toList ≠ []) : (x ++ k ++ d).toList.isEmpty = false := by
  rw [toList_data]
  simp only [ByteArray.data_append, Array.toList_append]
  cases hx : k.data.toList with
  | nil => exact absurd hx hk
  | cons a l => simp

set_option maxRecDepth 100000 in
set_option maxHeartbeats 4000000 in
theorem rtext_yes (m : Mt) (w : World) (hok : okM m = true) : Calls Tryd.prog 9 #[m.val] w fun e w' => e = .returned (textV (textM m)) ∧ Below w.heap.size w w' := by
  have H := fun w => rvalidMeta_any m w
  rw [hok] at H
  have HH := Lib.hid H; clear H
  have hV : textM m = (if (partsB m).isEmpty then [45] else joinB (partsB m), 0) := by rw [textM, if_pos hok]
  have hrange : (0 ≤ m.a ∧ m.a ≤ 1099511627776) ∧ (0 ≤ m.b ∧ m.b ≤ 1099511627776) ∧ (0 ≤ m.c ∧ m.c ≤ 1099511627776) := by
    simp only [okM, Bool.and_eq_true] at hok
    exact ⟨okB_iff.1 hok.1.1, okB_iff.1 hok.1.2, okB_iff.1 hok.2⟩
  obtain ⟨a, b, c⟩ := m
  obtain ⟨⟨a1, a2⟩, ⟨b1, b2⟩, ⟨c1, c2⟩⟩ := hrange
  simp only [] at a1 a2 b1 b2 c1 c2
  have hsz : ∀ n, 0 ≤ n → n ≤ 1099511627776 → (⟨(itoa n).toArray⟩ : ByteArray).size ≤ 21 := fun n h0 h1 => by
    have hl := itoa_length_le n (by omega) (by omega)
    show (itoa n).toArray.size ≤ 21
    simpa using hl
  have za := hsz a a1 a2
  have zb := hsz b b1 b2
  have zc := hsz c c1 c2
  have HDa := Lib.hid (fun w => rdigits_any a (by omega) (by omega) w)
  have HDb := Lib.hid (fun w => rdigits_any b (by omega) (by omega) w)
  have HDc := Lib.hid (fun w => rdigits_any c (by omega) (by omega) w)
  have hma : mkS (itoa a) = ⟨(itoa a).toArray⟩ := rfl
  have hmb : mkS (itoa b) = ⟨(itoa b).toArray⟩ := rfl
  have hmc : mkS (itoa c) = ⟨(itoa c).toArray⟩ := rfl
  have HV := Lib.hid hV
  clear hV hsz hok
  obtain ⟨da, hda⟩ : ∃ da, (⟨(itoa a).toArray⟩ : ByteArray) = da := ⟨_, rfl⟩
  obtain ⟨db, hdb⟩ : ∃ db, (⟨(itoa b).toArray⟩ : ByteArray) = db := ⟨_, rfl⟩
  obtain ⟨dc, hdc⟩ : ∃ dc, (⟨(itoa c).toArray⟩ : ByteArray) = dc := ⟨_, rfl⟩
  rw [hda] at za HDa hma
  rw [hdb] at zb HDb hmb
  rw [hdc] at zc HDc hmc
  have HM := Lib.hid (And.intro hma (And.intro hmb hmc))
  clear hda hdb hdc hma hmb hmc
  have hE1 : ∀ x d : ByteArray, (x ++ ⟨#[32, 99, 111, 117, 110, 116, 61]⟩ ++ d).toList.isEmpty = false := fun x d => ne_append x _ d (by simp)
  have hE2 : ∀ x d : ByteArray, (x ++ ⟨#[32, 97, 103, 101, 61]⟩ ++ d).toList.isEmpty = false := fun x d => ne_append x _ d (by simp)
  have hE3 : ∀ x d : ByteArray, (x ++ ⟨#[32, 98, 101, 102, 111, 114, 101, 61]⟩ ++ d).toList.isEmpty = false := fun x d => ne_append x _ d (by simp)
  rcases ha : (a == 0) with _ | _
  all_goals rcases hb : (b == 0) with _ | _
  all_goals rcases hc : (c == 0) with _ | _
  all_goals
    have na : (a != 0) = !(a == 0) := rfl
    have nb : (b != 0) = !(b == 0) := rfl
    have nc : (c != 0) = !(c == 0) := rfl
    rw [ha] at na
    rw [hb] at nb
    rw [hc] at nc
    simp only [Bool.not_true, Bool.not_false] at na nb nc
    go_enter Tryd.func9, Tryd.ntmps9
    go_wp2_with (first
      | (go_at_call 19
         refine (HH.out _).mono ?_
         rintro e w1 ⟨rfl, hb1⟩
         have hbx : w1.heap[w.heap.size]? = some (.cells (Mt.cells ⟨a, b, c⟩) 23) := (hb1.block _ (by simp)).trans (new_block _ _)
         obtain ⟨k0, k1, k2⟩ := RdM.of hbx
         have hz1 := lt_of_block hbx
         have h0 : Below w.heap.size w w1 := (below_alloc w _).trans (hb1.mono (by simp))
         replace hb1 := Lib.hid h0
         clear h0 hbx)
      | (go_at_call 20; first
         | ((with_reducible refine (HDa.out _).mono ?_); rintro e w2 ⟨rfl, hb2⟩; have j1 := (hb2.cell (p := ⟨w.heap.size, 1, none⟩) hz1).trans k1; have j2 := (hb2.cell (p := ⟨w.heap.size, 2, none⟩) hz1).trans k2; have hz2 : w.heap.size < w2.heap.size := Nat.lt_of_lt_of_le hz1 hb2.size; replace hb2 := Lib.hid hb2)
         | ((with_reducible refine (HDb.out _).mono ?_); rintro e w3 ⟨rfl, hb3⟩; have i2 := (hb3.cell (p := ⟨w.heap.size, 2, none⟩) (by assumption)).trans (by assumption); have hz3 : w.heap.size < w3.heap.size := Nat.lt_of_lt_of_le (by assumption) hb3.size; replace hb3 := Lib.hid hb3)
         | ((with_reducible refine (HDc.out _).mono ?_); rintro e w4 ⟨rfl, hb4⟩; replace hb4 := Lib.hid hb4))
      | fail)
  all_goals
    go_ret2
    have la : itoa a = da.data.toList := by rw [← HM.out.1]; rfl
    have lb : itoa b = db.data.toList := by rw [← HM.out.2.1]; rfl
    have lc : itoa c = dc.data.toList := by rw [← HM.out.2.2]; rfl
    refine ⟨?_, ?_⟩
    · rw [HV.out]
      unfold partsB
      simp only []
      first | rw [part_ne _ _ ha, la] | rw [part_z _ _ ha]
      first | rw [part_ne _ _ hb, lb] | rw [part_z _ _ hb]
      first | rw [part_ne _ _ hc, lc] | rw [part_z _ _ hc]
      first
        | rfl
        | (rw [if_neg (by simp), ext1 _ _ (joinB _) ?_ ?_]
           · rfl
           · simp [ByteArray.data_append, joinB, countK, ageK, beforeK]
           · simp only [ByteArray.size_append, z0, z7, z5, z8]; omega)
    · first
        | exact hb1.out.trans ((hb2.out.trans ((hb3.out.trans (hb4.out.mono hb3.out.size)).mono hb2.out.size)).mono hb1.out.size)
        | exact hb1.out.trans ((hb2.out.trans (hb3.out.mono hb2.out.size)).mono hb1.out.size)
        | exact hb1.out.trans ((hb2.out.trans (hb4.out.mono hb2.out.size)).mono hb1.out.size)
        | exact hb1.out.trans ((hb3.out.trans (hb4.out.mono hb3.out.size)).mono hb1.out.size)
        | exact hb1.out.trans (hb2.out.mono hb1.out.size)
        | exact hb1.out.trans (hb3.out.mono hb1.out.size)
        | exact hb1.out.trans (hb4.out.mono hb1.out.size)
        | exact hb1.out
end Go.Proofs.YtiblkfhcpepnfaaDoor
