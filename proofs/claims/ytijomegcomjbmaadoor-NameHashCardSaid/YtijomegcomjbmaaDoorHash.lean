/-
  NameHash, the walk: a hash is one of 61; names of one category have that category. Conditions: none.
-/
import Derived.Test.YtijomegcomjbmaaDoorN2
import Derived.Test.YtijomegcomjbmaaDoorN4
import Derived.Test.YtijomegcomjbmaaDoorN5
namespace Go.Proofs.YtijomegcomjbmaaDoor
open Go.RowKit Go.Lib

theorem hash_bad (c r : ByteArray) (hc : c.size ≤ 140737488351232) (hr : r.size ≤ 140737488351232) (W : World) (ht : Tab W) (hbad : c.size < 1 ∨ 50 < c.size + r.size ∨ streamB c.data.toList = false ∨ systemB c.data.toList = true) :
    Calls Tryd.prog 6 #[.string c, .string r] W fun en w' => en = .returned (.bool true) ∧ Below W.heap.size W w' := by
  have HT := Lib.hid ht; clear ht
  have HS := Lib.hid (stream_any c W)
  have HY := Lib.hid (system_any c W)
  have hw : IntKind.i64.wrap ((c.size : Int) + (r.size : Int)) = (c.size : Int) + (r.size : Int) := IntWalk.i64_in _ (by omega)
  revert HS HY hbad
  generalize streamB c.data.toList = st
  generalize systemB c.data.toList = sy
  intro hbad HS HY
  by_cases h0 : c.size < 1
  · have h1 : (c.size : Int) < 1 := by omega
    clear hbad
    go_enter Tryd.func6, Tryd.ntmps6
    go_wp2_with fail
    refine (alive_any W HT.out).mono ?_
    rintro en w1 ⟨rfl, b1⟩
    go_wp2
    go_ret
    exact ⟨rfl, b1⟩
  · have h1 : ¬ (c.size : Int) < 1 := by omega
    by_cases h2 : 50 < c.size + r.size
    · have h3 : (50 : Int) < (c.size : Int) + (r.size : Int) := by omega
      clear hbad
      go_enter Tryd.func6, Tryd.ntmps6
      go_wp2_with fail
      refine (alive_any W HT.out).mono ?_
      rintro en w1 ⟨rfl, b1⟩
      go_wp2
      go_ret
      exact ⟨rfl, b1⟩
    · have h3 : ¬ (50 : Int) < (c.size : Int) + (r.size : Int) := by omega
      have hww : st = false ∨ (st = true ∧ sy = true) := by
        cases st
        · exact Or.inl rfl
        · rcases hbad with h | h | h | h
          · omega
          · omega
          · cases h
          · exact Or.inr ⟨rfl, h⟩
      clear hbad h0 h2
      rcases hww with rfl | ⟨rfl, rfl⟩
      · go_enter Tryd.func6, Tryd.ntmps6
        go_wp2_with fail
        refine HS.out.mono ?_
        rintro en w' ⟨rfl, rfl⟩
        go_wp2_with fail
        refine (alive_any W HT.out).mono ?_
        rintro en w1 ⟨rfl, b1⟩
        go_wp2
        go_ret
        exact ⟨rfl, b1⟩
      · go_enter Tryd.func6, Tryd.ntmps6
        go_wp2_with fail
        refine HS.out.mono ?_
        rintro en w' ⟨rfl, rfl⟩
        go_wp2_with fail
        refine HY.out.mono ?_
        rintro en w' ⟨rfl, rfl⟩
        go_wp2_with fail
        refine (alive_any _ HT.out).mono ?_
        rintro en w1 ⟨rfl, b1⟩
        go_wp2
        go_ret
        exact ⟨rfl, b1⟩

theorem hash_good (c r : ByteArray) (hz : c.size + r.size ≤ 50) (hz1 : 1 ≤ c.size) (W : World) (ht : Tab W) (hst : streamB c.data.toList = true) (hsy : systemB c.data.toList = false) :
    Calls Tryd.prog 6 #[.string c, .string r] W fun en w' => en = .returned (.bool true) ∧ Below W.heap.size W w' := by
  have HT := Lib.hid ht; clear ht
  have hS := stream_any c W
  rw [hst] at hS
  have HS := Lib.hid hS
  have hY := system_any c W
  rw [hsy] at hY
  have HY := Lib.hid hY
  clear hS hY hst
  have HSY := Lib.hid hsy; clear hsy
  have hw : IntKind.i64.wrap ((c.size : Int) + (r.size : Int)) = (c.size : Int) + (r.size : Int) := IntWalk.i64_in _ (by omega)
  have h1 : ¬ (c.size : Int) < 1 := by omega
  have h3 : ¬ (50 : Int) < (c.size : Int) + (r.size : Int) := by omega
  have hcz : c.size ≤ 50 := by omega
  have hrz : r.size ≤ 50 := by omega
  have hz2 : (c ++ ⟨#[45]⟩ : ByteArray).size ≤ 51 := by rw [ByteArray.size_append]; show c.size + 1 ≤ 51; omega
  go_enter Tryd.func6, Tryd.ntmps6
  go_wp2_with fail
  refine HS.out.mono ?_
  rintro en w' ⟨rfl, rfl⟩
  go_wp2_with fail
  refine HY.out.mono ?_
  rintro en w0 ⟨rfl, rfl⟩
  go_wp2_with fail
  go_loopg [5] c.size (fun g i wr => ∃ k : Nat, g = c.size - k ∧ k ≤ c.size ∧ i = .int .i64 k ∧ (45 : UInt8) ∉ c.data.toList.take k ∧ w0 = wr)
  case atStart => exact ⟨0, by omega, Nat.zero_le _, rfl, by simp, rfl⟩
  case round =>
    obtain ⟨k, hg, hk, rfl, hn, rfl⟩ := hrel
    have HG := Lib.hid (And.intro hg hn); clear hg hn
    by_cases hlt : k < c.size
    · cases h5 : ((c[k].toNat : Int) == 45)
      · have HN := Lib.hid (not_next 45 c k hlt HG.out.2 h5)
        go_wp2
        go_roundg (c.size - (k + 1))
        case measure => rw [HG.out.1]; omega
        case rel => exact ⟨k + 1, rfl, hlt, by go_num, HN.out, rfl⟩
      · go_wp2_with fail
        refine (alive_any w0 HT.out).mono ?_
        rintro en w1 ⟨rfl, b1⟩
        go_wp2
        go_ret
        exact ⟨rfl, b1⟩
    · obtain rfl : k = c.size := by omega
      have hn := HG.out.2
      rw [List.take_of_length_le (by simp)] at hn
      have hne : c.data.toList ≠ [] := fun h => by
        have := congrArg List.length h
        simp at this
        rw [this] at hz1
        exact absurd hz1 (by decide)
      obtain ⟨s, hs⟩ : ∃ s : ByteArray, c ++ ⟨#[45]⟩ ++ r = s := ⟨_, rfl⟩
      have hsl : s.data.toList = c.data.toList ++ 45 :: r.data.toList := by rw [← hs]; simp [ByteArray.data_append]
      have hsz : s.size ≤ 1000000 := by rw [← hs, ByteArray.size_append, ByteArray.size_append]; show c.size + 1 + r.size ≤ 1000000; omega
      have hcat := category_of c.data.toList r.data.toList hne hn HSY.out
      rw [← hsl] at hcat
      have HC := Lib.hid (fun w => category_any s hsz w)
      rw [hcat] at HC
      have HS2 := Lib.hid (fun w => stream_any s w)
      have HH := Lib.hid (fun w => hash_any s hsz w)
      have HX := Lib.hid hs
      clear hcat hsl hn hne hs hsz
      revert HC HS2 HH
      generalize streamB s.data.toList = st
      generalize hashX s.data.toList = hx
      intro HC HS2 HH
      have hx0 : (0 : Int) ≤ (hx : Int) % 61 := by omega
      have hx1 : (hx : Int) % 61 < 61 := by omega
      cases st
      · have HC2 : Hid (∀ w, Calls Tryd.prog 13 #[.string s] w fun en w' => en = .returned (.tuple #[.string ⟨#[]⟩, .bool false]) ∧ Below w.heap.size w w') := HC.out
        clear HC
        go_wp2_with fail
        rw [HX.out]
        refine (HC2.out w0).mono ?_
        rintro en w1 ⟨rfl, b1⟩
        go_wp2_with fail
        refine (HH.out w1).mono ?_
        rintro en w' ⟨rfl, rfl⟩
        go_wp2_with fail
        refine (alive_any w1 (HT.out.below b1)).mono ?_
        rintro en w2 ⟨rfl, b2⟩
        go_wp2_with fail
        refine (HS2.out w2).mono ?_
        rintro en w' ⟨rfl, rfl⟩
        go_wp2
        go_ret
        exact ⟨rfl, b1.trans (b2.mono b1.size)⟩
      · have HC2 : Hid (∀ w, Calls Tryd.prog 13 #[.string s] w fun en w' => en = .returned (.tuple #[.string c, .bool true]) ∧ Below w.heap.size w w') := HC.out
        clear HC
        go_wp2_with fail
        rw [HX.out]
        refine (HC2.out w0).mono ?_
        rintro en w1 ⟨rfl, b1⟩
        go_wp2_with fail
        refine (HH.out w1).mono ?_
        rintro en w' ⟨rfl, rfl⟩
        go_wp2_with fail
        refine (alive_any w1 (HT.out.below b1)).mono ?_
        rintro en w2 ⟨rfl, b2⟩
        go_wp2_with fail
        refine (HS2.out w2).mono ?_
        rintro en w' ⟨rfl, rfl⟩
        go_wp2
        go_ret
        exact ⟨rfl, b1.trans (b2.mono b1.size)⟩
end Go.Proofs.YtijomegcomjbmaaDoor
