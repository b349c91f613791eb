/-
  CodecReads, the walk: every bytes, and everything read of them, in every order. Conditions: none.
-/
import Derived.Test.YtganeocegdkddaaDoorOps
import Derived.Test.YtganeocegdkddaaDoorRI
import Derived.Deep.RegionHeld3
import Derived.BigQuiet
namespace Go.Proofs.YtganeocegdkddaaDoor
open Go.RowKit Go.Lib

/-- Both Ins have the same left as long as all is well. -/
structure RW (B I X : Nat) (s s' : ByteArray) (e : Int) (w : World) : Prop where
  i : InAt I s e w
  x : RInAt X s' e w
  rel : e = 0 → s' = s
  bi : B ≤ I
  bx : B ≤ X
  zs : s.size ≤ 6000
  zx : s'.size ≤ 6000

section
variable {B I X : Nat} {s s' s1 s2 : ByteArray} {e e1 : Int} {w w1 w2 : World}
theorem RW.ne (h : RW B I X s s' e w) : X ≠ I := by
  rintro rfl
  have := h.i
  unfold InAt at this
  rw [h.x] at this
  simp at this
theorem RW.below' (h : RW B I X s s' e w) (hb : Below w.heap.size w w1) : RW B I X s s' e w1 := ⟨h.i.below hb, RInAt.below h.x hb, h.rel, h.bi, h.bx, h.zs, h.zx⟩
theorem RW.one (h : RW B I X s s' e w) (o1 : Only I w w1) : RInAt X s' e w1 := (o1.block X (lt_of_block h.x) h.ne (by simp)).trans h.x
theorem RW.two (h : RW B I X s s' e w) (i1 : InAt I s1 e1 w1) (o1 : Only I w w1) (x2 : RInAt X s2 e1 w2) (o2 : Only X w1 w2) (hrel : e1 = 0 → s2 = s1) (z1 : s1.size ≤ s.size) (z2 : s2.size ≤ s'.size) : RW B I X s1 s2 e1 w2 ∧ Below B w w2 := by
  have hB : B ≤ w.heap.size := Nat.le_trans h.bi (Nat.le_of_lt (lt_of_block h.i))
  have b1 := o1.below h.bi hB
  refine ⟨⟨(o2.block I (lt_of_block i1) h.ne.symm (by simp)).trans i1, x2, hrel, h.bi, h.bx, Nat.le_trans z1 h.zs, Nat.le_trans z2 h.zx⟩, b1.trans (o2.below h.bx (Nat.le_trans hB b1.size))⟩
end

theorem take_rel (s s' : ByteArray) (e : Int) (n : Nat) (h : e = 0 → s' = s) : numOf s' e n = numOf s e n ∧ (takeOf s' e n).2.2 = (takeOf s e n).2.2 ∧ ((takeOf s e n).2.2 = 0 → (takeOf s' e n).2.1 = (takeOf s e n).2.1) := by
  by_cases he : e = 0
  · rw [h he]; exact ⟨rfl, rfl, fun _ => rfl⟩
  · have h1 : ∀ t, takeOf t e n = (⟨#[]⟩, t, e) := fun t => by rw [takeOf, if_pos he]
    rw [numOf, numOf, h1, h1]
    exact ⟨rfl, rfl, fun hc => absurd hc he⟩

theorem text_rel (s s' : ByteArray) (e most : Int) (h : e = 0 → s' = s) : (rtextOf s' e most).1 = (textOf s e most).1 ∧ (rtextOf s' e most).2.2 = (textOf s e most).2.2 ∧ ((textOf s e most).2.2 = 0 → (rtextOf s' e most).2.1 = (textOf s e most).2.1) := by
  by_cases he : e = 0
  · rw [h he]
    unfold rtextOf textOf
    generalize numOf s e 4 = n
    generalize (takeOf s e 4).2.1 = r
    generalize (takeOf s e 4).2.2 = e1
    by_cases h1 : e1 = 0
    · subst h1
      rw [if_neg (by simp)]
      by_cases h2 : most < (n : Int)
      · rw [if_pos h2, if_pos ⟨rfl, h2⟩, takeOf, if_pos (by decide)]
        exact ⟨rfl, rfl, fun hc => by simp at hc⟩
      · rw [if_neg h2, if_neg (fun hc : (0 : Int) = 0 ∧ most < (n : Int) => h2 hc.2), takeOf, if_neg (show ¬ ((0 : Int) ≠ 0) by simp)]
        by_cases h3 : r.size < n
        · rw [if_pos h3, if_pos h3]; exact ⟨rfl, rfl, fun hc => by simp at hc⟩
        · rw [if_neg h3, if_neg h3]; exact ⟨rfl, rfl, fun _ => rfl⟩
    · rw [if_pos h1, if_neg (fun hc : e1 = 0 ∧ most < (n : Int) => h1 hc.1), takeOf, if_pos h1]
      exact ⟨rfl, rfl, fun hc => absurd hc h1⟩
  · have h1 : ∀ t n, takeOf t e n = (⟨#[]⟩, t, e) := fun t n => by rw [takeOf, if_pos he]
    have h2 : ∀ t, numOf t e 4 = 0 := fun t => by rw [numOf, h1]; rfl
    unfold rtextOf textOf
    rw [h1, h1]
    simp only []
    rw [if_pos he, if_neg (fun hc => he hc.1), h1]
    exact ⟨rfl, rfl, fun hc => absurd hc he⟩

theorem text_left (s : ByteArray) (e most : Int) : (textOf s e most).2.1.size ≤ s.size := Nat.le_trans (take_left _ _ _) (take_left _ _ _)
theorem rtext_left (s : ByteArray) (e most : Int) : (rtextOf s e most).2.1.size ≤ s.size := by
  have h := take_left s e 4
  unfold rtextOf
  split
  · exact h
  · split
    · exact Nat.le_refl _
    · split
      · exact Nat.le_refl _
      · simp only [ByteArray.size_extract]; omega

theorem kinds (x : Int) : ((x == 1) = true) ∨ ((x == 1) = false ∧ (x == 2) = true) ∨ ((x == 1) = false ∧ (x == 2) = false ∧ (x == 3) = true) ∨ ((x == 1) = false ∧ (x == 2) = false ∧ (x == 3) = false ∧ (x == 4) = true) ∨
    ((x == 1) = false ∧ (x == 2) = false ∧ (x == 3) = false ∧ (x == 4) = false ∧ (x == 5) = true) ∨ ((x == 1) = false ∧ (x == 2) = false ∧ (x == 3) = false ∧ (x == 4) = false ∧ (x == 5) = false) := by
  cases (x == 1) <;> cases (x == 2) <;> cases (x == 3) <;> cases (x == 4) <;> cases (x == 5) <;> simp

theorem reads_bad (b : ByteArray) (z : Bool) (ao : Option Addr) (len cap : Nat) (en' : Bool) (W : World) (ht : Tab W) (hbad : 6000 < b.size) :
    Calls Tryd.prog 8 #[.string b, .bool z, .slice ao len cap, .bool en'] W fun en w' => en = .returned (.bool true) ∧ Below W.heap.size W w' := by
  have HT := Lib.hid ht; clear ht
  have h2 : (6000 : Int) < (b.size : Int) := by omega
  go_enter Tryd.func8, Tryd.ntmps8
  go_wp2_with fail
  refine (alive_any W HT.out).mono ?_
  rintro en w1 ⟨rfl, b1⟩
  go_wp2
  go_ret
  exact ⟨rfl, b1⟩

theorem left_ok (I : Nat) (s : ByteArray) (w : World) (hI : InAt I s 0 w) : Calls Tryd.prog 19 #[.pointer (some ⟨I, 0, none⟩)] w fun en w' => en = .returned (.int .i64 s.size) ∧ w' = w := inLeft I s 0 w hI
theorem left_bad (I : Nat) (s : ByteArray) (e : Int) (w : World) (hI : InAt I s e w) (he : e ≠ 0) : Calls Tryd.prog 19 #[.pointer (some ⟨I, 0, none⟩)] w fun en w' => en = .returned (.int .i64 0) ∧ w' = w := by
  have h := inLeft I s e w hI
  rw [if_neg he] at h
  exact h
end Go.Proofs.YtganeocegdkddaaDoor
