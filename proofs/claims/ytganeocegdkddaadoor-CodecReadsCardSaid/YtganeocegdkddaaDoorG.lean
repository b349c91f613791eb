/-
  The laws' own first call. Conditions: none.
-/
import Derived.Test.YtganeocegdkddaaDoorF
import Derived.Lib.AppendIntMem
namespace Go.Proofs.YtganeocegdkddaaDoor
open Go.RowKit Go.Lib

/-- The library's table holds what it holds. -/
abbrev Tab (w : World) : Prop := Lib.TabIs Tryd.prog w "internal/strconv.uint64pow10" .u64 Lib.pow10Tab

theorem digits_any (n : Int) (h0 : -9223372036854775808 ≤ n) (h1 : n ≤ 9223372036854775807) (w : World) (ht : Tab w) :
    Calls Tryd.prog 46 #[.int .i64 n] w fun en w' => en = .returned (.string ⟨(Lib.itoa n).toArray⟩) ∧ Below w.heap.size w w' := by
  have H := Lib.hid (Tryd.strconv_Itoa n h0 h1 w ht)
  go_enter Tryd.func46, Tryd.ntmps46
  go_wp2_with fail
  refine H.out.mono ?_
  rintro en w1 ⟨rfl, k, os, rfl⟩
  go_wp2
  go_ret
  exact ⟨rfl, below_draws (Below.refl _ _) k |>.trans ⟨rfl, rfl, rfl, by simp [Sort.grow], fun j hj => by
    show (w.heap ++ os)[j]? = _
    rw [Array.getElem?_append, if_pos hj]; rfl⟩⟩

theorem Tab.below {w w' : World} (h : Tab w) (hb : Below w.heap.size w w') : Tab w' := Lib.tabBelow_of_tabIs h w' hb

theorem outNew {B : Nat} (w : World) (hb : B ≤ w.heap.size) : OutAt B w.heap.size (.slice none 0 0) ⟨#[]⟩ 0 (w.alloc (.cells #[.slice none 0 0, .int .i64 0] 27)) :=
  ⟨new_block _ _, World.ownsRow_nil _ _ _ _, hb⟩

theorem alive_any (w : World) (ht : Tab w) : Calls Tryd.prog 13 #[] w fun en w' => en = .returned (.bool true) ∧ Below w.heap.size w w' := by
  have hp1 : putSmall ⟨#[]⟩ 0 258 4 = (⟨#[0, 0, 1, 2]⟩, 0) := by decide +kernel
  have hp2 : putText ⟨#[0, 0, 1, 2]⟩ 0 ⟨#[97, 98]⟩ = (⟨#[0, 0, 1, 2, 0, 0, 0, 2, 97, 98]⟩, 0) := by decide +kernel
  go_enter Tryd.func13, Tryd.ntmps13
  go_wp2_with fail
  have h0 := outNew (B := w.heap.size) w (Nat.le_refl _)
  refine (outU32 w.heap.size w.heap.size _ _ 0 _ h0 (by decide) 258 (by decide)).mono ?_
  rintro en w1 ⟨rfl, v1, h1, t1, -⟩
  rw [hp1] at h1
  have b1 := (below_alloc w _).trans (h0.turn t1)
  clear t1 h0
  go_wp2_with fail
  refine (outText w.heap.size w.heap.size v1 _ 0 w1 h1 (by decide) ⟨#[97, 98]⟩ (by decide)).mono ?_
  rintro en w2 ⟨rfl, v2, h2, t2, -⟩
  rw [hp2] at h2
  have b2 := b1.trans (h1.turn t2)
  clear t2 h1 b1
  go_wp2_with fail
  refine (outDone w.heap.size w.heap.size v2 _ 0 w2 h2).mono ?_
  rintro en w3 ⟨rfl, d3⟩
  have b3 := b2.trans (d3.mono b2.size)
  unfold doneOf
  rw [if_pos rfl]
  clear d3 h2 b2
  go_wp2_with fail
  refine (newIn ⟨#[0, 0, 1, 2, 7]⟩ w3 (by decide)).mono ?_
  rintro en w4 ⟨I, rfl, i4, hI, b4⟩
  have b5 := b3.trans (b4.mono b3.size)
  have hB : w.heap.size ≤ I := Nat.le_trans b3.size hI
  clear b3 b4 hI
  have hn1 : numOf ⟨#[0, 0, 1, 2, 7]⟩ 0 4 = 258 := by decide +kernel
  have hn2 : takeOf ⟨#[0, 0, 1, 2, 7]⟩ 0 4 = (⟨#[0, 0, 1, 2]⟩, ⟨#[7]⟩, 0) := by decide +kernel
  have hd : (⟨(Lib.itoa (-7)).toArray⟩ : ByteArray) = ⟨#[45, 55]⟩ := by decide +kernel
  go_wp2_with fail
  refine (inU32 I _ 0 w4 i4).mono ?_
  rintro en w5 ⟨rfl, i5, o5⟩
  rw [hn1]
  rw [hn2] at i5
  have b6 := b5.trans (o5.below hB b5.size)
  clear o5 b5 i4
  go_wp2_with fail
  refine (inLeft I _ 0 w5 i5).mono ?_
  rintro en w6 ⟨rfl, rfl⟩
  rw [if_pos rfl]
  have hz : (⟨#[7]⟩ : ByteArray).size = 1 := rfl
  go_wp2_with fail
  refine (digits_any (-7) (by decide) (by decide) w6 (ht.below b6)).mono ?_
  rintro en w7 ⟨rfl, b7⟩
  rw [hd]
  go_wp2
  go_ret
  exact ⟨rfl, b6.trans (b7.mono b6.size)⟩
end Go.Proofs.YtganeocegdkddaaDoor
