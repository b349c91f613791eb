/-
  ProgFails: a program that says so fails, wherever it says it; what stands behind it is not asked, but must be words. Conditions: none.
-/
import Derived.Test.YtidjnfjpdnjogaaDoorPgF
import Derived.Test.YtidjnfjpdnjogaaDoorPxStack
namespace Go.Proofs.YtidjnfjpdnjogaaDoor
open Go.RowKit Go.Lib

set_option maxRecDepth 100000 in
theorem fails_long (la lb : List ByteArray) (va vb : Value) (w : World) (ta : Txs w va la) (tb : Txs w vb lb) (h : 30 < la.length ∨ 30 < lb.length) :
    Calls Tryd.prog 6 #[va, vb] w fun e w' => e = .returned (.bool true) ∧ Below w.heap.size w w' := by
  obtain ⟨pa, ca, rfl⟩ := ta.slice
  obtain ⟨pb, cb, rfl⟩ := tb.slice
  clear ta tb
  have h2 : (30 : Int) < (la.length : Int) ∨ (¬ (30 : Int) < (la.length : Int) ∧ (30 : Int) < (lb.length : Int)) := by omega
  clear h
  rcases h2 with h | ⟨h, h1⟩
  · go_enter Tryd.func6, Tryd.ntmps6
    go_wp2_with fail
    refine (alive_any _).mono ?_
    rintro e w1 ⟨rfl, hb⟩
    go_wp2
    go_ret
    exact ⟨rfl, hb⟩
  · go_enter Tryd.func6, Tryd.ntmps6
    go_wp2_with fail
    refine (alive_any _).mono ?_
    rintro e w1 ⟨rfl, hb⟩
    go_wp2
    go_ret
    exact ⟨rfl, hb⟩

set_option maxRecDepth 100000 in
set_option maxHeartbeats 2000000 in
theorem fails_short (la lb : List ByteArray) (va vb : Value) (w : World) (ta : Txs w va la) (tb : Txs w vb lb) (fa : Fits la) (fb : Fits lb) (za : ∀ n c, va = .slice none n c → c = 0) (zb : ∀ n c, vb = .slice none n c → c = 0) (ha : la.length ≤ 30) (hb : lb.length ≤ 30) :
    Calls Tryd.prog 6 #[va, vb] w fun e w' => e = .returned (.bool true) ∧ Below w.heap.size w w' := by
  have hfr := runFrom
  have heq := eqlFault
  obtain ⟨pa, ca, rfl⟩ := ta.slice
  obtain ⟨pb, cb, rfl⟩ := tb.slice
  have h1 : ¬ (30 : Int) < (la.length : Int) := by omega
  have h2 : ¬ (30 : Int) < (lb.length : Int) := by omega
  have TA := Lib.hid (And.intro ta za)
  have TB := Lib.hid (And.intro tb zb)
  have HA := Lib.hid (And.intro ha hb)
  have FA := Lib.hid (And.intro fa fb)
  clear ta tb za zb ha hb fa fb
  go_enter Tryd.func6, Tryd.ntmps6
  go_wp2_with (first
    | (at_builtin; refine wpList_append_txs rfl _ _ rfl w.heap.size (.slice none 0 0) [] rfl (World.ownsRow_nil _ _ _ _) _ la rfl TA.out.1 TA.out.2 ?c3 (Nat.le_refl _) ?_)
    | fail)
  case c3 => have := HA.out.1; simp; omega
  intro v1 w1 o1 g1
  replace o1 : w1.ownsRow w.heap.size 9 1 v1 la.length (vals la) := by simpa using o1
  have b1 : Below w.heap.size w w1 := (Below.refl _ _).grown g1 (Nat.le_refl _) (fun g e => by cases e)
  have tf : Txs (w1.alloc (.cells #[.string ⟨#[102, 97, 105, 108]⟩] 9)) (.slice (some ⟨w1.heap.size, 0, none⟩) 1 1) [⟨#[102, 97, 105, 108]⟩] := txs_block (l := [⟨#[102, 97, 105, 108]⟩]) (new_block _ _)
  have o2 := o1.alloc (.cells #[.string ⟨#[102, 97, 105, 108]⟩] 9)
  have b2 := Below.alloc b1 b1.size (.cells #[.string ⟨#[102, 97, 105, 108]⟩] 9)
  have H2 := Lib.hid (And.intro tf (And.intro o2 b2))
  clear o1 g1 b1 tf o2 b2
  go_wp2_with (first
    | (at_builtin; refine wpList_append_txs rfl _ _ rfl w.heap.size v1 la rfl H2.out.2.1 _ [⟨#[102, 97, 105, 108]⟩] rfl H2.out.1 (fun n c e => by cases e) ?c3 H2.out.2.2.size ?_)
    | fail)
  case c3 => have := HA.out.1; simp; omega
  intro v2 w2 o2 g2
  obtain ⟨M, hM⟩ : ∃ M : List ByteArray, M = la ++ [⟨#[102, 97, 105, 108]⟩] := ⟨_, rfl⟩
  replace o2 : w2.ownsRow w.heap.size 9 1 v2 M.length (vals M) := by rw [hM]; simpa using o2
  have HM := Lib.hid hM
  have hMl : M.length = la.length + 1 := by rw [hM]; simp
  have HML := Lib.hid hMl
  clear hM hMl
  have b2 : Below w.heap.size w w2 := H2.out.2.2.grown g2 H2.out.2.2.size (fun g e => (H2.out.2.1.lt g e).1)
  have H3 := Lib.hid (And.intro o2 b2)
  clear o2 g2 b2
  go_wp2_with (first
    | (at_builtin; refine wpList_append_txs rfl _ _ rfl w.heap.size v2 M rfl H3.out.1 _ lb rfl (TB.out.1.below H3.out.2) TB.out.2 ?c3 H3.out.2.size ?_)
    | fail)
  case c3 => have := HA.out; have := HML.out; omega
  intro v3 w3 o3 g3
  obtain ⟨N, hN⟩ : ∃ N : List ByteArray, N = M ++ lb := ⟨_, rfl⟩
  replace o3 : w3.ownsRow w.heap.size 9 1 v3 N.length (vals N) := by rw [hN, List.length_append]; exact o3
  have b3 : Below w.heap.size w w3 := H3.out.2.grown g3 H3.out.2.size (fun g e => (H3.out.1.lt g e).1)
  have hNt : tl N = tl la ++ wFail :: tl lb := by rw [hN, HM.out]; simp [tl, wFail]
  have hNf : Fits N := by
    rw [hN, HM.out]
    intro s hs
    rcases List.mem_append.1 hs with hs | hs
    · rcases List.mem_append.1 hs with hs | hs
      · exact FA.out.1 s hs
      · obtain rfl := List.mem_singleton.1 hs
        decide
    · exact FA.out.2 s hs
  have H4 := Lib.hid (And.intro (txs_of o3) b3)
  have HK := Lib.hid (fun v w h => check_any N hNf v w h)
  have HR := Lib.hid (fun v w h => run_any noE noE_ok N hNf v w h)
  unfold CheckPost at HK
  unfold RunTells at HR
  rw [hNt] at HK HR
  obtain ⟨po, pc, rfl⟩ := H4.out.1.slice
  have hNl : N.length = la.length + 1 + lb.length := by rw [hN, List.length_append, HML.out]
  clear o3 g3 b3 H2 H3 hN hNf hNt HM HML
  obtain ⟨Q, hQ⟩ : ∃ Q : List ByteArray, Q = la ++ [⟨#[48]⟩, ⟨#[100, 114, 111, 112]⟩, ⟨#[49]⟩] := ⟨_, rfl⟩
  have hQt : tl Q = tl la ++ [wZero, wDrop, wOne] := by rw [hQ]; simp [tl, wZero, wDrop, wOne]
  have hQf : Fits Q := by
    rw [hQ]
    intro s hs
    rcases List.mem_append.1 hs with hs | hs
    · exact FA.out.1 s hs
    · simp only [List.mem_cons, List.not_mem_nil, or_false] at hs
      rcases hs with rfl | rfl | rfl <;> decide
  have HS := Lib.hid (fun v w h => run_any noE noE_ok Q hQf v w h)
  unfold RunTells at HS
  rw [hQt] at HS
  have hp := fails_plain (tl la) (tl lb) (by simp [tl]; exact HA.out.1) (by simp [tl]; exact HA.out.2)
  have HQ := Lib.hid hQ
  have HNL := Lib.hid hNl
  clear hQ hQt hQf hNl
  revert HK HR HS hp
  generalize (checkL (tl la ++ wFail :: tl lb)).2 = c2
  generalize (checkL (tl la ++ wFail :: tl lb)).1 = c1
  generalize runB noE (tl la ++ wFail :: tl lb) = F
  generalize runB noE (tl la ++ [wZero, wDrop, wOne]) = G
  intro HK HR HS hp
  obtain ⟨fv, fe, fk, ft⟩ := F
  obtain ⟨gv, ge, gk, gt⟩ := G
  have hcase : ((c1 != 0) = true ∧ (⟨fv, fe, fk, ft⟩ : Tell) = ⟨0, 6, 0, []⟩) ∨ ((c1 != 0) = false ∧ ge = 21 ∧ (⟨fv, fe, fk, ft⟩ : Tell) = ⟨gv, ge, gk, gt⟩) ∨ ((c1 != 0) = false ∧ (ge == 21) = false ∧ (⟨fv, fe, fk, ft⟩ : Tell) = ⟨0, 21, 3, wFail⟩) := by
    rcases hp with ⟨h1, h2⟩ | ⟨h1, h2, h3, -⟩ | ⟨h1, h2, h3⟩
    · exact Or.inl ⟨by simpa using h1, h2⟩
    · exact Or.inr (Or.inl ⟨by simpa using h1, h2, h3⟩)
    · exact Or.inr (Or.inr ⟨by simpa using h1, by simpa using h2, h3⟩)
  have HC := Lib.hid hcase
  clear hp hcase
  unfold Tell.val fault at HR HS
  go_wp2_with fail
  have hal := below_alloc w3 (.cells #[.slice po N.length pc] 28)
  have T4 := H4.out.1.below hal
  have P4 := new_block w3 (.cells #[.slice po N.length pc] 28)
  refine (HK.out _ _ T4).mono ?_
  rintro e w4 ⟨rfl, hb4⟩
  have P4' := (hb4.block _ (lt_of_block P4)).trans P4
  have H5 := Lib.hid (And.intro (T4.below hb4) (And.intro P4' ((H4.out.2.trans (hal.mono H4.out.2.size)).trans (hb4.mono (by have := H4.out.2.size; simp; omega)))))
  have hlt4 := lt_of_block P4'
  clear hal T4 P4 hb4 H4 P4'
  go_wp2_with (first
    | (at_builtin; refine wpList_append_txs rfl _ _ rfl w4.heap.size (.slice none 0 0) [] rfl (World.ownsRow_nil _ _ _ _) _ la rfl (TA.out.1.below H5.out.2.2) TA.out.2 ?c3 (Nat.le_refl _) ?_)
    | fail)
  case c3 => have := HA.out.1; simp; omega
  intro v5 w5 o5 g5
  replace o5 : w5.ownsRow w4.heap.size 9 1 v5 la.length (vals la) := by simpa using o5
  have b5 : Below w4.heap.size w4 w5 := (Below.refl _ _).grown g5 (Nat.le_refl _) (fun g e => by cases e)
  have tf : Txs (w5.alloc (.cells #[.string ⟨#[48]⟩, .string ⟨#[100, 114, 111, 112]⟩, .string ⟨#[49]⟩] 9)) (.slice (some ⟨w5.heap.size, 0, none⟩) 3 3) [⟨#[48]⟩, ⟨#[100, 114, 111, 112]⟩, ⟨#[49]⟩] := txs_block (l := [⟨#[48]⟩, ⟨#[100, 114, 111, 112]⟩, ⟨#[49]⟩]) (new_block _ _)
  have o6 := o5.alloc (.cells #[.string ⟨#[48]⟩, .string ⟨#[100, 114, 111, 112]⟩, .string ⟨#[49]⟩] 9)
  have b6 := Below.alloc b5 b5.size (.cells #[.string ⟨#[48]⟩, .string ⟨#[100, 114, 111, 112]⟩, .string ⟨#[49]⟩] 9)
  have H6 := Lib.hid (And.intro tf (And.intro o6 b6))
  clear o5 g5 b5 tf o6 b6
  go_wp2_with (first
    | (at_builtin; refine wpList_append_txs rfl _ _ rfl w4.heap.size v5 la rfl H6.out.2.1 _ [⟨#[48]⟩, ⟨#[100, 114, 111, 112]⟩, ⟨#[49]⟩] rfl H6.out.1 (fun n c e => by cases e) ?c3 H6.out.2.2.size ?_)
    | fail)
  case c3 => have := HA.out.1; simp; omega
  intro v7 w7 o7 g7
  replace o7 : w7.ownsRow w4.heap.size 9 1 v7 Q.length (vals Q) := by rw [HQ.out]; simpa using o7
  have b7 : Below w4.heap.size w4 w7 := H6.out.2.2.grown g7 H6.out.2.2.size (fun g e => (H6.out.2.1.lt g e).1)
  have t7 := txs_of o7
  obtain ⟨qo, qc, rfl⟩ := t7.slice
  have hl4 : w3.heap.size < w7.heap.size := by have := b7.size; omega
  have H7 := Lib.hid (And.intro (H5.out.1.below b7) (And.intro t7 (And.intro ((b7.block _ hlt4).trans H5.out.2.1) (H5.out.2.2.trans (b7.mono H5.out.2.2.size)))))
  clear o7 g7 b7 t7 H6 H5 hlt4
  have c7 := (cell_of_block1 H7.out.2.2.1).1
  go_wp2_with fail
  have hal := below_alloc w7 (.cells #[.slice qo Q.length qc] 28)
  have P7 := new_block w7 (.cells #[.slice qo Q.length qc] 28)
  have T7 := Lib.hid (H7.out.1.below hal)
  have S7 := Lib.hid (And.intro (H7.out.2.1.below hal) (And.intro P7 (H7.out.2.2.2.trans (hal.mono H7.out.2.2.2.size))))
  clear hal P7 H7 c7 hl4
  refine (HR.out _ _ T7.out).mono ?_
  rintro e w8 ⟨rfl, hb8⟩
  have P8 := (hb8.block _ (lt_of_block S7.out.2.1)).trans S7.out.2.1
  have c8 := (cell_of_block1 P8).1
  have l8 := lt_of_block P8
  have S8 := Lib.hid (And.intro (S7.out.1.below hb8) (S7.out.2.2.trans (hb8.mono S7.out.2.2.size)))
  clear P8 hb8 S7 T7
  go_wp2_with fail
  have fo : ∃ fs : ByteArray, fs = ⟨ft.toArray⟩ := ⟨_, rfl⟩
  obtain ⟨fs, hfs⟩ := fo
  obtain ⟨gs, hgs⟩ : ∃ gs : ByteArray, gs = ⟨gt.toArray⟩ := ⟨_, rfl⟩
  rw [← hfs]
  rw [← hgs] at HS
  have hal := below_alloc w8 (.cells #[.int .i64 fe, .int .i64 fk, .string fs] 31)
  have F8 := new_block w8 (.cells #[.int .i64 fe, .int .i64 fk, .string fs] 31)
  have HF := Lib.hid (And.intro hfs hgs)
  clear hfs hgs c8 l8
  refine (HS.out _ _ (S8.out.1.below hal)).mono ?_
  rintro e w9 ⟨rfl, hb9⟩
  have F9 := (hb9.block _ (lt_of_block F8)).trans F8
  have B9 := (S8.out.2.trans (hal.mono S8.out.2.size)).trans (hb9.mono (by have := S8.out.2.size; simp; omega))
  have S9 := Lib.hid (And.intro F9 B9)
  clear hal F8 hb9 S8 F9 B9
  have l9 := lt_of_block S9.out.1
  have halg := below_alloc w9 (.cells #[.int .i64 ge, .int .i64 gk, .string gs] 31)
  have F10 := (halg.block _ l9).trans S9.out.1
  have G10 := new_block w9 (.cells #[.int .i64 ge, .int .i64 gk, .string gs] 31)
  have B10 := S9.out.2.trans (halg.mono S9.out.2.size)
  have l10 := lt_of_block F10
  have m10 := lt_of_block G10
  clear halg S9 l9
  rcases HC.out with ⟨k1, k2⟩ | ⟨k1, k2, k3⟩ | ⟨k1, k2, k3⟩
  · obtain ⟨rfl, rfl, rfl, rfl⟩ := Tell.mk.inj k2
    obtain rfl : fs = ⟨#[]⟩ := HF.out.1
    clear k2 HC
    have S10 := Lib.hid (And.intro F10 B10)
    clear F10 G10 B10
    go_wp2_with fail
    refine (alive_any _).mono ?_
    rintro e w11 ⟨rfl, hb11⟩
    have F11 := (hb11.block _ l10).trans S10.out.1
    obtain ⟨p1, p2, p3, -, -, -⟩ := cells_of_fault F11
    have l11 := lt_of_block F11
    have B11 := Lib.hid (S10.out.2.trans (hb11.mono S10.out.2.size))
    clear hb11 S10 F11 l10 m10
    go_wp2_with fail
    go_ret
    exact ⟨rfl, B11.out⟩
  · obtain ⟨rfl, rfl, rfl, rfl⟩ := Tell.mk.inj k3
    obtain rfl : fs = gs := HF.out.1.trans HF.out.2.symm
    subst k2
    clear k3 HC
    obtain ⟨q1, -, -, -, -, -⟩ := cells_of_fault G10
    have S10 := Lib.hid (And.intro F10 (And.intro G10 B10))
    clear F10 G10 B10
    go_wp2_with fail
    refine (alive_any _).mono ?_
    rintro e w11 ⟨rfl, hb11⟩
    have F11 := (hb11.block _ l10).trans S10.out.1
    have G11 := (hb11.block _ m10).trans S10.out.2.1
    obtain ⟨p1, p2, p3, -, -, -⟩ := cells_of_fault F11
    obtain ⟨q1, q2, q3, -, -, -⟩ := cells_of_fault G11
    have l11 := lt_of_block F11
    have m11 := lt_of_block G11
    have B11 := Lib.hid (S10.out.2.2.trans (hb11.mono S10.out.2.2.size))
    clear hb11 S10 F11 G11 l10 m10
    go_wp2_with fail
    go_ret
    exact ⟨rfl, B11.out⟩
  · obtain ⟨rfl, rfl, rfl, rfl⟩ := Tell.mk.inj k3
    obtain rfl : fs = ⟨#[102, 97, 105, 108]⟩ := HF.out.1
    clear k3 HC
    obtain ⟨q1, -, -, -, -, -⟩ := cells_of_fault G10
    have S10 := Lib.hid (And.intro F10 B10)
    clear F10 G10 B10
    go_wp2_with fail
    refine (alive_any _).mono ?_
    rintro e w11 ⟨rfl, hb11⟩
    have F11 := (hb11.block _ l10).trans S10.out.1
    obtain ⟨p1, p2, p3, -, -, -⟩ := cells_of_fault F11
    have l11 := lt_of_block F11
    have B11 := Lib.hid (S10.out.2.trans (hb11.mono S10.out.2.size))
    clear hb11 S10 F11 l10 m10
    go_wp2_with fail
    go_ret
    exact ⟨rfl, B11.out⟩
theorem fails_any (la lb : List ByteArray) (va vb : Value) (w : World) (ta : Txs w va la) (tb : Txs w vb lb) (fa : Fits la) (fb : Fits lb) (za : ∀ n c, va = .slice none n c → c = 0) (zb : ∀ n c, vb = .slice none n c → c = 0) :
    Calls Tryd.prog 6 #[va, vb] w fun e w' => e = .returned (.bool true) ∧ Below w.heap.size w w' := by
  by_cases h : 30 < la.length ∨ 30 < lb.length
  · exact fails_long la lb va vb w ta tb h
  · exact fails_short la lb va vb w ta tb fa fb za zb (by omega) (by omega)
end Go.Proofs.YtidjnfjpdnjogaaDoor
