/-
  NameLinks, the walk: unlike places have unlike links; a link is no stream's name. Conditions: none.
-/
import Derived.Test.YtijomegcomjbmaaDoorBack
namespace Go.Proofs.YtijomegcomjbmaaDoor
open Go.RowKit Go.Lib

theorem ne_toList {x y : ByteArray} (h : x ≠ y) : (x.toList == y.toList) = false := by
  rw [beq_eq_false_iff_ne, ByteArray.toList_eq, ByteArray.toList_eq]
  intro hc
  exact h (ByteArray.ext (Array.ext' hc))

theorem links_bad (a b : Int) (s t : ByteArray) (W : World) (ht : Tab W) (hbad : 60 < s.size ∨ 60 < t.size ∨ streamB s.data.toList = false ∨ streamB t.data.toList = false ∨ a < 0 ∨ b < 0) :
    Calls Tryd.prog 5 #[.int .i64 a, .int .i64 b, .string s, .string t] W fun en w' => en = .returned (.bool true) ∧ Below W.heap.size W w' := by
  have HT := Lib.hid ht; clear ht
  have HS := Lib.hid (stream_any s W)
  have HU := Lib.hid (stream_any t W)
  revert HS HU hbad
  generalize streamB s.data.toList = st
  generalize streamB t.data.toList = tt
  intro hbad HS HU
  by_cases h0 : 60 < s.size
  · have h1 : (60 : Int) < (s.size : Int) := by omega
    clear hbad
    go_enter Tryd.func5, Tryd.ntmps5
    go_wp2_with fail
    refine (alive_any W HT.out).mono ?_
    rintro en w1 ⟨rfl, b1⟩
    go_wp2
    go_ret
    exact ⟨rfl, b1⟩
  · have h1 : ¬ (60 : Int) < (s.size : Int) := by omega
    by_cases h2 : 60 < t.size
    · have h3 : (60 : Int) < (t.size : Int) := by omega
      clear hbad
      go_enter Tryd.func5, Tryd.ntmps5
      go_wp2_with fail
      refine (alive_any W HT.out).mono ?_
      rintro en w1 ⟨rfl, b1⟩
      go_wp2
      go_ret
      exact ⟨rfl, b1⟩
    · have h3 : ¬ (60 : Int) < (t.size : Int) := by omega
      cases st
      · clear hbad
        go_enter Tryd.func5, Tryd.ntmps5
        go_wp2_with fail
        refine HS.out.mono ?_
        rintro en w' ⟨rfl, rfl⟩
        go_wp2_with fail
        refine (alive_any W HT.out).mono ?_
        rintro en w1 ⟨rfl, b1⟩
        go_wp2
        go_ret
        exact ⟨rfl, b1⟩
      · have hw : tt = false ∨ (tt = true ∧ a < 0) ∨ (tt = true ∧ ¬ a < 0 ∧ b < 0) := by
          cases tt
          · exact Or.inl rfl
          · rcases hbad with h | h | h | h | h | h
            · omega
            · omega
            · cases h
            · cases h
            · exact Or.inr (Or.inl ⟨rfl, h⟩)
            · by_cases ha : a < 0
              · exact Or.inr (Or.inl ⟨rfl, ha⟩)
              · exact Or.inr (Or.inr ⟨rfl, ha, h⟩)
        clear hbad h0 h2
        rcases hw with rfl | ⟨rfl, h4⟩ | ⟨rfl, h4, h5⟩
        all_goals
          go_enter Tryd.func5, Tryd.ntmps5
          go_wp2_with fail
          refine HS.out.mono ?_
          rintro en w' ⟨rfl, rfl⟩
          go_wp2_with fail
          refine HU.out.mono ?_
          rintro en w' ⟨rfl, rfl⟩
          go_wp2_with fail
          refine (alive_any W HT.out).mono ?_
          rintro en w1 ⟨rfl, b1⟩
          go_wp2
          go_ret
          exact ⟨rfl, b1⟩

theorem links_good (a b : Int) (s t : ByteArray) (hs : s.size ≤ 60) (htz : t.size ≤ 60) (W : World) (ht : Tab W) (hst : streamB s.data.toList = true) (htt : streamB t.data.toList = true) (ha : 0 ≤ a) (hb : 0 ≤ b) (ha1 : a ≤ 9223372036854775807) (hb1 : b ≤ 9223372036854775807) :
    Calls Tryd.prog 5 #[.int .i64 a, .int .i64 b, .string s, .string t] W fun en w' => en = .returned (.bool true) ∧ Below W.heap.size W w' := by
  have HT := Lib.hid ht
  have hS := stream_any s W
  rw [hst] at hS
  have HS := Lib.hid hS
  have hS2 := stream_any t W
  rw [htt] at hS2
  have HS2 := Lib.hid hS2
  have HL := Lib.hid (link_any a (by omega) ha1 s (by omega) W ht)
  have HL2 := Lib.hid (fun w h => link_any b (by omega) hb1 t (by omega) w h)
  have hinj : (⟨(linkOf a s.data.toList).toArray⟩ : ByteArray) = ⟨(linkOf b t.data.toList).toArray⟩ ↔ a = b ∧ s = t := by
    constructor
    · intro h
      have h1 : linkOf a s.data.toList = linkOf b t.data.toList := congrArg (fun x : ByteArray => x.data.toList) h
      obtain ⟨h2, h3⟩ := (link_inj ha hb).1 h1
      exact ⟨h2, ByteArray.ext (Array.ext' h3)⟩
    · rintro ⟨rfl, rfl⟩; rfl
  have hno := fun w => stream_any ⟨(linkOf a s.data.toList).toArray⟩ w
  rw [show (⟨(linkOf a s.data.toList).toArray⟩ : ByteArray).data.toList = linkOf a s.data.toList from rfl, link_no_stream] at hno
  have HNO := Lib.hid hno
  clear hS hS2 hst htt ht hno
  revert HL HL2 HNO hinj
  generalize (⟨(linkOf a s.data.toList).toArray⟩ : ByteArray) = x
  generalize (⟨(linkOf b t.data.toList).toArray⟩ : ByteArray) = y
  intro HL HL2 hinj HNO
  have h1 : ¬ (60 : Int) < (s.size : Int) := by omega
  have h2 : ¬ (60 : Int) < (t.size : Int) := by omega
  have h4 : ¬ a < 0 := by omega
  have h5 : ¬ b < 0 := by omega
  have hways : (a = b ∧ s = t ∧ x = y) ∨ (a = b ∧ (s.toList == t.toList) = false ∧ (x.toList == y.toList) = false) ∨ ((a == b) = false ∧ (x.toList == y.toList) = false) := by
    by_cases hab : a = b
    · by_cases hst : s = t
      · exact Or.inl ⟨hab, hst, hinj.2 ⟨hab, hst⟩⟩
      · exact Or.inr (Or.inl ⟨hab, ne_toList hst, ne_toList (fun hc => hst (hinj.1 hc).2)⟩)
    · exact Or.inr (Or.inr ⟨beq_eq_false_iff_ne.2 hab, ne_toList (fun hc => hab (hinj.1 hc).1)⟩)
  clear hinj
  rcases hways with ⟨rfl, rfl, rfl⟩ | ⟨rfl, h6, h7⟩ | ⟨h6, h7⟩
  all_goals
    go_enter Tryd.func5, Tryd.ntmps5
    go_wp2_with fail
    refine HS.out.mono ?_
    rintro en w' ⟨rfl, rfl⟩
    go_wp2_with fail
    refine HS2.out.mono ?_
    rintro en w' ⟨rfl, rfl⟩
    go_wp2_with fail
    refine HL.out.mono ?_
    rintro en w1 ⟨rfl, b1⟩
    go_wp2_with fail
    refine (HL2.out w1 (HT.out.below b1)).mono ?_
    rintro en w2 ⟨rfl, b2⟩
    have b3 := b1.trans (b2.mono b1.size)
    clear b1 b2
    go_wp2_with fail
    refine (alive_any w2 (HT.out.below b3)).mono ?_
    rintro en w3 ⟨rfl, b4⟩
    have b5 := b3.trans (b4.mono b3.size)
    clear b3 b4
    go_wp2_with fail
    refine (HNO.out w3).mono ?_
    rintro en w' ⟨rfl, rfl⟩
    go_wp2
    go_ret
    exact ⟨rfl, b5⟩
end Go.Proofs.YtijomegcomjbmaaDoor
