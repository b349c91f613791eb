/-
  CodecEnds: what is left over is told; what is read to its end is not. Conditions: none.
-/
import Derived.Test.YtganeocegdkddaaDoorG
namespace Go.Proofs.YtganeocegdkddaaDoor
open Go.RowKit Go.Lib

theorem one_ahead (b : UInt8) (r : ByteArray) : numOf (⟨#[b]⟩ ++ r) 0 1 = b.toNat ∧ (takeOf (⟨#[b]⟩ ++ r) 0 1).2 = (r, 0) := by
  have h1 : (⟨#[b]⟩ ++ r : ByteArray).size = 1 + r.size := by rw [ByteArray.size_append]; rfl
  have h2 : takeOf (⟨#[b]⟩ ++ r) 0 1 = ((⟨#[b]⟩ ++ r : ByteArray).extract 0 1, (⟨#[b]⟩ ++ r : ByteArray).extract 1 (⟨#[b]⟩ ++ r : ByteArray).size, 0) := by
    rw [takeOf, if_neg (by simp), if_neg (by omega)]
  have h3 : (⟨#[b]⟩ ++ r : ByteArray).extract 0 1 = ⟨#[b]⟩ := by
    apply ByteArray.ext
    apply Array.ext'
    simp
  have h4 : (⟨#[b]⟩ ++ r : ByteArray).extract 1 (⟨#[b]⟩ ++ r : ByteArray).size = r := by
    apply ByteArray.ext
    apply Array.ext'
    simp [h1]
    exact List.take_of_length_le (Nat.le_refl _)
  refine ⟨?_, by rw [h2, h4]⟩
  rw [numOf, h2]
  simp only [h3]
  show lowUp ⟨#[b]⟩ 1 = _
  simp [lowUp]

theorem ends_walk (a : Int) (r : ByteArray) (hr : r.size ≤ maxLen) (W : World) (ht : Tab W) : Calls Tryd.prog 4 #[.int .i64 a, .string r] W fun en w' => en = .returned (.bool true) ∧ Below W.heap.size W w' := by
  unfold maxLen at hr
  by_cases hbad : a < 0 ∨ 255 < a ∨ 300 < r.size
  · have HT := Lib.hid ht; clear ht
    by_cases h0 : a < 0
    · clear hbad
      go_enter Tryd.func4, Tryd.ntmps4
      go_wp2_with fail
      refine (alive_any W HT.out).mono ?_
      rintro en w1 ⟨rfl, b1⟩
      go_wp2
      go_ret
      exact ⟨rfl, b1⟩
    · by_cases h1 : 255 < a
      · clear hbad
        go_enter Tryd.func4, Tryd.ntmps4
        go_wp2_with fail
        refine (alive_any W HT.out).mono ?_
        rintro en w1 ⟨rfl, b1⟩
        go_wp2
        go_ret
        exact ⟨rfl, b1⟩
      · have h2 : (300 : Int) < (r.size : Int) := by omega
        clear hbad
        go_enter Tryd.func4, Tryd.ntmps4
        go_wp2_with fail
        refine (alive_any W HT.out).mono ?_
        rintro en w1 ⟨rfl, b1⟩
        go_wp2
        go_ret
        exact ⟨rfl, b1⟩
  · have h0 : ¬ a < 0 := fun h => hbad (Or.inl h)
    have h1 : ¬ 255 < a := fun h => hbad (Or.inr (Or.inl h))
    have h2 : ¬ (300 : Int) < (r.size : Int) := fun h => hbad (Or.inr (Or.inr (by omega)))
    clear hbad
    have hw : IntKind.u8.wrap a = ((UInt8.ofNat a.toNat).toNat : Int) := by
      rw [IntWalk.u8_in a (by omega), UInt8.toNat_ofNat']; omega
    have hbn : ((UInt8.ofNat a.toNat).toNat : Int) = a := by rw [UInt8.toNat_ofNat']; omega
    have hcv : ∀ w : World, (convert 24 9 (.slice (some ⟨w.heap.size, 0, none⟩) 1 1)).run Tryd.prog (w.alloc (.cells #[.int .u8 ((UInt8.ofNat a.toNat).toNat)] 5)) = .ok (.string ⟨#[UInt8.ofNat a.toNat]⟩) (w.alloc (.cells #[.int .u8 ((UInt8.ofNat a.toNat).toNat)] 5)) := fun w =>
      run_convert_whole _ 24 5 9 Tryd.underlying24 Tryd.underlying5 Tryd.underlying9 w.heap.size 0 ⟨#[UInt8.ofNat a.toNat]⟩ (fun i hi => by
        have hi0 : i = 0 := by have : i < 1 := hi; omega
        subst hi0
        have hb := new_block w (.cells #[.int .u8 ((UInt8.ofNat a.toNat).toNat)] 5)
        simp only [World.cell?, hb]
        rfl) 1
    obtain ⟨hn1, hn2⟩ := one_ahead (UInt8.ofNat a.toNat) r
    have hsz : (⟨#[UInt8.ofNat a.toNat]⟩ ++ r : ByteArray).size = 1 + r.size := by rw [ByteArray.size_append]; rfl
    revert hw hbn hcv hn1 hn2 hsz
    generalize UInt8.ofNat a.toNat = b
    intro hw hbn hcv hn1 hn2 hsz
    simp only [hbn] at hcv hw
    have hrb : ((r.size : Nat) : Int) ≤ 300 := by omega
    have HH := Lib.hid (And.intro hn1 (And.intro hn2 (And.intro hsz hbn))); clear hn1 hn2 hsz hbn
    have HT := Lib.hid ht; clear ht
    go_enter Tryd.func4, Tryd.ntmps4
    go_wp2_with fail
    refine (alive_any W HT.out).mono ?_
    rintro en w1 ⟨rfl, b1⟩
    go_wp2_with fail
    refine (newIn _ _ (by rw [HH.out.2.2.1]; omega)).mono ?_
    rintro en w2 ⟨I, rfl, i2, hI, b2⟩
    have b3 : Below W.heap.size W w2 := (b1.alloc b1.size _).trans (b2.mono (by simp; have := b1.size; omega))
    have hB : W.heap.size ≤ I := Nat.le_trans (by simp; have := b1.size; omega) hI
    clear b1 b2 hI hcv
    go_wp2_with fail
    refine (inU8 I _ 0 w2 i2).mono ?_
    rintro en w3 ⟨rfl, i3, o3⟩
    obtain ⟨hn1, hn2, -, hbn⟩ := HH.out
    rw [hn1, hbn]
    rw [show (takeOf (⟨#[b]⟩ ++ r) 0 1).2.1 = r by rw [hn2], show (takeOf (⟨#[b]⟩ ++ r) 0 1).2.2 = 0 by rw [hn2]] at i3
    have b4 := b3.trans (o3.below hB b3.size)
    clear hn1 hn2 hbn o3 b3 i2 HH
    go_wp2_with fail
    refine (inLeft I r 0 w3 i3).mono ?_
    rintro en w4 ⟨rfl, rfl⟩
    simp only [if_true]
    go_wp2_with fail
    refine (inEnd I r 0 w4 i3).mono ?_
    rintro en w5 ⟨rfl, i5, o5⟩
    have b5 := b4.trans (o5.below hB b4.size)
    clear o5 b4 i3
    by_cases hz : r.size = 0
    · have hr0 : r = ⟨#[]⟩ := ByteArray.ext (Array.eq_empty_of_size_eq_zero hz)
      subst hr0
      have he : endOf ⟨#[]⟩ 0 = 0 := rfl
      rw [he]
      go_wp2
      go_ret
      exact ⟨rfl, b5⟩
    · have he : endOf r 0 = 6 := if_pos ⟨rfl, by omega⟩
      rw [he] at i5 ⊢
      have hne : ¬ r = ⟨#[]⟩ := fun h => hz (by rw [h]; rfl)
      have hne2 : ¬ r.toList = [] := fun h => hz (by
        rw [ByteArray.toList_eq] at h
        exact congrArg List.length h)
      have hne3 : r.toList.isEmpty = false := by
        cases h : r.toList with
        | nil => exact absurd h hne2
        | cons _ _ => rfl
      clear hne hz
      go_wp2_with fail
      refine (inErr I r 6 w5 i5).mono ?_
      rintro en w6 ⟨rfl, rfl⟩
      go_wp2
      go_ret
      exact ⟨rfl, b5⟩
end Go.Proofs.YtganeocegdkddaaDoor
