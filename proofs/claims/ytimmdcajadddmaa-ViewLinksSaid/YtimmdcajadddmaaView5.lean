/-
  view.Forward, view.Backward, chroniclebook.Few, the law's first call. Conditions: none.
-/
import Derived.Test.YtimmdcajadddmaaView4
namespace Go.Proofs.Ytimmdcajadddmaa
open Go.RowKit Go.Lib

theorem own_base {w : World} {B B' e size n : Nat} {v : Value} {xs : List Value} (h : w.ownsRow B e size v n xs) (hB : B' ≤ B) : w.ownsRow B' e size v n xs := by
  refine ⟨h.1, ?_⟩
  rcases h.2 with hn | ⟨g, cap, cur, rfl, hg, rest⟩
  · exact .inl hn
  · exact .inr ⟨g, cap, cur, rfl, Nat.le_trans hB hg, rest⟩

theorem fw_done' {w W : World} {l : List Nat} {E : Nat → Ev} {v0 : Value} {y0 : Value} {b0 : Value} (v : Value) (nx : Int) (fin : Bool) (hres : W.heap[w.heap.size]? = some (.cells #[v0, y0, b0] 31)) (hown : W.ownsRow (w.heap.size + 1) 29 8 v l.length (evCells E l)) (hb : Below w.heap.size w W) :
    (((W.setCell ⟨w.heap.size, 0, none⟩ v).setCell ⟨w.heap.size, 1, none⟩ (.int .i64 nx)).setCell ⟨w.heap.size, 2, none⟩ (.bool fin)).cell? ⟨w.heap.size, 0, none⟩ = some v ∧
    (((W.setCell ⟨w.heap.size, 0, none⟩ v).setCell ⟨w.heap.size, 1, none⟩ (.int .i64 nx)).setCell ⟨w.heap.size, 2, none⟩ (.bool fin)).cell? ⟨w.heap.size, 1, none⟩ = some (.int .i64 nx) ∧
    (((W.setCell ⟨w.heap.size, 0, none⟩ v).setCell ⟨w.heap.size, 1, none⟩ (.int .i64 nx)).setCell ⟨w.heap.size, 2, none⟩ (.bool fin)).cell? ⟨w.heap.size, 2, none⟩ = some (.bool fin) ∧
    (((W.setCell ⟨w.heap.size, 0, none⟩ v).setCell ⟨w.heap.size, 1, none⟩ (.int .i64 nx)).setCell ⟨w.heap.size, 2, none⟩ (.bool fin)).ownsRow (w.heap.size + 1) 29 8 v l.length (evCells E l) ∧
    Below w.heap.size w (((W.setCell ⟨w.heap.size, 0, none⟩ v).setCell ⟨w.heap.size, 1, none⟩ (.int .i64 nx)).setCell ⟨w.heap.size, 2, none⟩ (.bool fin)) := by
  have e2 := heap_setCell_same hres (off := 0) v
  have e3 := heap_setCell_same e2 (off := 1) (.int .i64 nx)
  have e4 := heap_setCell_same e3 (off := 2) (.bool fin)
  refine ⟨?_, ?_, ?_, own_same hown (fun g hg => ?_), ((hb.setCell (p := ⟨w.heap.size, 0, none⟩) (by dsimp only; omega) _).setCell (p := ⟨w.heap.size, 1, none⟩) (by dsimp only; omega) _).setCell (p := ⟨w.heap.size, 2, none⟩) (by dsimp only; omega) _⟩
  · unfold World.cell?; rw [e4]; rfl
  · unfold World.cell?; rw [e4]; rfl
  · unfold World.cell?; rw [e4]; rfl
  · have := (hown.lt g hg).1
    rw [Below.heap_setCell _ _ _ _ (by show g ≠ w.heap.size; omega), Below.heap_setCell _ _ _ _ (by show g ≠ w.heap.size; omega), Below.heap_setCell _ _ _ _ (by show g ≠ w.heap.size; omega)]

/-- A page, forward. -/
structure FwPage (w : World) (fr n : Int) (E : Nat → Ev) (len : Nat) (ev : List Nat) (fin : Bool) (v : Value) (w' : World) : Prop where
  own : w'.ownsRow w.heap.size 29 8 v ev.length (evCells E ev)
  below : Below w.heap.size w w'
  tells : (fin = true ∧ ev = takenF fr E (List.range len) ∧ (ev.length : Int) ≤ n) ∨ (fin = false ∧ ∃ k, k < len ∧ ev = takenF fr E (List.range k) ∧ (ev.length : Int) = n ∧ fr ≤ (E k).position)
structure BkPage (w : World) (fr n : Int) (E : Nat → Ev) (len : Nat) (ev : List Nat) (fin : Bool) (v : Value) (w' : World) : Prop where
  own : w'.ownsRow w.heap.size 29 8 v ev.length (evCells E ev)
  below : Below w.heap.size w w'
  tells : (fin = true ∧ ev = taken fr E (downto len len) ∧ (ev.length : Int) ≤ n) ∨ (fin = false ∧ ∃ k, k < len ∧ ev = taken fr E (downto len k) ∧ (ev.length : Int) = n ∧ (E (len - 1 - k)).position ≤ fr)

theorem EvArg.alloc {w : World} {ao : Option Addr} {len : Nat} {E : Nat → Ev} (h : EvArg w.heap.size w ao len E) (o : Obj) : EvArg (w.alloc o).heap.size (w.alloc o) ao len E :=
  ⟨fun hl => by
    obtain ⟨b, off, e, hn, hi⟩ := (h.low (below_alloc w o)).at_ hl
    exact ⟨b, off, e, by simp; omega, hi⟩⟩

set_option maxHeartbeats 1000000 in
theorem forward_any (ao : Option Addr) (len cap : Nat) (fr n : Int) (E : Nat → Ev) (hlen : len ≤ 1000) (hpos : ∀ i, -9223372036854775808 ≤ (E i).position ∧ (E i).position ≤ 9223372036854775807) (h0 : 0 ≤ fr) (h1 : 1 ≤ n) (h2 : n ≤ 100) (w : World) (hE : EvArg w.heap.size w ao len E) :
    Calls Try.prog 9 #[.slice ao len cap, .int .i64 fr, .int .i64 n] w fun e w' => ∃ ev fin v, e = .returned (.tuple #[.agg #[v, .int .i64 (nextF fr E ev), .bool fin], .int .i64 0]) ∧ FwPage w fr n E len ev fin v w' := by
  go_enter Try.func9, Try.ntmps9
  go_wp2_with (
    go_at_call 19
    refine (forwardBy_any ao len cap fr n E hlen hpos h0 h1 h2 _ (hE.alloc _)).mono ?_
    rintro en w1 ⟨ev, fin, v, rfl, hown, hbel, htl⟩
    have hrs : w1.heap[w.heap.size]? = some (.cells #[.slice none 0 0, .int .i64 0, .bool false] 31) := (hbel.block _ (by simp)).trans (new_block _ _)
    have r0 : w1.cell? ⟨w.heap.size, 0, none⟩ = some (.slice none 0 0) := by simp [World.cell?, hrs]
    have r1 : w1.cell? ⟨w.heap.size, 1, none⟩ = some (.int .i64 0) := by simp [World.cell?, hrs]
    have r2 : w1.cell? ⟨w.heap.size, 2, none⟩ = some (.bool false) := by simp [World.cell?, hrs]
    have s0 : w1.frozen? ⟨w.heap.size, 0, none⟩ = false := by simp [World.frozen?, hrs]
    have s1 : w1.frozen? ⟨w.heap.size, 1, none⟩ = false := by simp [World.frozen?, hrs]
    have s2 : w1.frozen? ⟨w.heap.size, 2, none⟩ = false := by simp [World.frozen?, hrs]
    have HP := Lib.hid (And.intro hown (And.intro hbel (And.intro htl hrs))); clear hown hbel htl hrs
    obtain ⟨nx, hnx⟩ : ∃ nx, nextF fr E ev = nx := ⟨_, rfl⟩
    rw [hnx]
    replace hnx := Lib.hid hnx
    obtain ⟨vo, vc, rfl⟩ := row_slice HP.out.1)
  have hb1 : Below w.heap.size w w1 := (below_alloc w _).trans (HP.out.2.1.mono (by simp))
  obtain ⟨f0, f1, f2, hown, hbel⟩ := fw_done' (.slice vo ev.length vc) nx fin HP.out.2.2.2 (own_base (B' := w.heap.size + 1) HP.out.1 (by simp)) hb1
  refine bodyPost_ret (v := .tuple #[.agg #[.slice vo ev.length vc, .int .i64 nx, .bool fin], .int .i64 0]) ?_ rfl ⟨ev, fin, .slice vo ev.length vc, ?_, own_base hown (by omega), hbel, HP.out.2.2.1⟩
  · simp [results, Try.results9, go_sem, f0, f1, f2]
  · rw [hnx.out]

set_option maxHeartbeats 1000000 in
theorem backward_page (ao : Option Addr) (len cap : Nat) (fr n : Int) (E : Nat → Ev) (hlen : len ≤ 1000) (h0 : 0 ≤ fr) (hfr : fr ≤ 9223372036854775807) (h1 : 1 ≤ n) (h2 : n ≤ 100) (w : World) (hE : EvArg w.heap.size w ao len E) :
    Calls Try.prog 10 #[.slice ao len cap, .int .i64 fr, .int .i64 n] w fun e w' => ∃ ev fin v, e = .returned (.tuple #[.agg #[v, .int .i64 (nextB fr E ev), .bool fin], .int .i64 0]) ∧ BkPage w fr n E len ev fin v w' := by
  go_enter Try.func10, Try.ntmps10
  go_wp2_with (
    go_at_call 21
    refine (backwardBy_any ao len cap fr n E hlen h0 hfr h1 h2 _ (hE.alloc _)).mono ?_
    rintro en w1 ⟨ev, fin, v, rfl, hown, hbel, htl⟩
    have hrs : w1.heap[w.heap.size]? = some (.cells #[.slice none 0 0, .int .i64 0, .bool false] 31) := (hbel.block _ (by simp)).trans (new_block _ _)
    have r0 : w1.cell? ⟨w.heap.size, 0, none⟩ = some (.slice none 0 0) := by simp [World.cell?, hrs]
    have r1 : w1.cell? ⟨w.heap.size, 1, none⟩ = some (.int .i64 0) := by simp [World.cell?, hrs]
    have r2 : w1.cell? ⟨w.heap.size, 2, none⟩ = some (.bool false) := by simp [World.cell?, hrs]
    have s0 : w1.frozen? ⟨w.heap.size, 0, none⟩ = false := by simp [World.frozen?, hrs]
    have s1 : w1.frozen? ⟨w.heap.size, 1, none⟩ = false := by simp [World.frozen?, hrs]
    have s2 : w1.frozen? ⟨w.heap.size, 2, none⟩ = false := by simp [World.frozen?, hrs]
    have HP := Lib.hid (And.intro hown (And.intro hbel (And.intro htl hrs))); clear hown hbel htl hrs
    obtain ⟨nx, hnx⟩ : ∃ nx, nextB fr E ev = nx := ⟨_, rfl⟩
    rw [hnx]
    replace hnx := Lib.hid hnx
    obtain ⟨vo, vc, rfl⟩ := row_slice HP.out.1)
  have hb1 : Below w.heap.size w w1 := (below_alloc w _).trans (HP.out.2.1.mono (by simp))
  obtain ⟨f0, f1, f2, hown, hbel⟩ := fw_done' (.slice vo ev.length vc) nx fin HP.out.2.2.2 (own_base (B' := w.heap.size + 1) HP.out.1 (by simp)) hb1
  refine bodyPost_ret (v := .tuple #[.agg #[.slice vo ev.length vc, .int .i64 nx, .bool fin], .int .i64 0]) ?_ rfl ⟨ev, fin, .slice vo ev.length vc, ?_, own_base hown (by omega), hbel, HP.out.2.2.1⟩
  · simp [results, Try.results10, go_sem, f0, f1, f2]
  · rw [hnx.out]

/-- What Few tells. -/
def FewPost (mx : Int) (len : Nat) (E : Nat → Ev) (w : World) (e : Ending) (w' : World) : Prop := ∃ b, e = .returned (.bool b) ∧ (b = true → (len : Int) ≤ mx ∧ ∀ i, i < len → (E i).stream.size ≤ 100 ∧ (E i).ty.size ≤ 100 ∧ (E i).data.size ≤ 300) ∧ w' = w
set_option maxRecDepth 100000 in
set_option maxHeartbeats 1000000 in
/-- Few: where it says yes, there are few. -/
theorem few_any (mx : Int) (hmx : mx ≤ 1000) (ao : Option Addr) (len cap : Nat) (E : Nat → Ev) (w : World) (hE : EvArg w.heap.size w ao len E) :
    Calls Try.prog 7 #[.int .i64 mx, .slice ao len cap] w (FewPost mx len E w) := by
  go_enter Try.func7, Try.ntmps7
  go_wp2_with fail
  go_loopg [5] len (fun g i wr => ∃ (k : Nat), g = len - k ∧ k ≤ len ∧ (k = 0 ∨ (k : Int) ≤ mx) ∧ i = .int .i64 k ∧ wr = w ∧ ∀ i, i < k → (E i).stream.size ≤ 100 ∧ (E i).ty.size ≤ 100 ∧ (E i).data.size ≤ 300)
  case atStart => exact ⟨0, by omega, by omega, Or.inl rfl, rfl, rfl, fun i hi => by omega⟩
  case round =>
    obtain ⟨k, hg, hk, hkm, rfl, rfl, hall⟩ := hrel
    have HG := Lib.hid hg; clear hg
    by_cases hlt : k < len
    · by_cases hm : (k : Int) < mx
      · obtain ⟨b, off, rfl, hbn, hEi⟩ := hE.at_ (by omega)
        have g1 := hEi.c1 k hlt
        have g2 := hEi.c2 k hlt
        have g4 := hEi.c4 k hlt
        have hl : (k : Int) < (len : Int) := by omega
        have hw1 : IntKind.i64.wrap ((k : Int) + 1) = (k : Int) + 1 := IntWalk.i64_in _ (by omega)
        by_cases a1 : (100 : Int) < ((E k).stream.size : Int)
        · clear hE hEi
          go_wp2_with fail
          go_ret
          exact ⟨false, rfl, by simp, rfl⟩
        · by_cases a2 : (100 : Int) < ((E k).ty.size : Int)
          · clear hE hEi
            go_wp2_with fail
            go_ret
            exact ⟨false, rfl, by simp, rfl⟩
          · by_cases a3 : (300 : Int) < ((E k).data.size : Int)
            · clear hE hEi
              go_wp2_with fail
              go_ret
              exact ⟨false, rfl, by simp, rfl⟩
            · clear hE hEi
              have HA := Lib.hid hall; clear hall
              go_wp2_with fail
              go_roundg (len - (k + 1))
              case measure => have := HG.out; omega
              refine ⟨k + 1, by omega, by omega, Or.inr (by omega), rfl, rfl, fun i hi => ?_⟩
              by_cases hik : i = k
              · subst hik; omega
              · exact HA.out i (by omega)
      · have hl : (k : Int) < (len : Int) := by omega
        have hfl : ¬ (len : Int) ≤ mx := by omega
        go_wp2_with fail
        go_ret
        exact ⟨false, rfl, by simp, rfl⟩
    · obtain rfl : k = len := by omega
      have hl : ¬ (k : Int) < (k : Int) := by omega
      go_wp2_with fail
      go_ret
      exact ⟨_, rfl, fun h => ⟨by simpa using h, hall⟩, rfl⟩

def E0 : Nat → Ev
  | 0 => ⟨0, ⟨#[]⟩, ⟨#[]⟩, 0, ⟨#[]⟩, 0, 3, 0⟩
  | 1 => ⟨0, ⟨#[]⟩, ⟨#[]⟩, 0, ⟨#[]⟩, 0, 5, 0⟩
  | _ => ⟨0, ⟨#[]⟩, ⟨#[]⟩, 0, ⟨#[]⟩, 0, 9, 0⟩
theorem e0_pos : ∀ i, -9223372036854775808 ≤ (E0 i).position ∧ (E0 i).position ≤ 9223372036854775807
  | 0 => by simp [E0]
  | 1 => by simp [E0]
  | _ + 2 => by simp [E0]
theorem fw0 {w w' : World} {ev : List Nat} {fin : Bool} {v : Value} (h : FwPage w 4 1 E0 3 ev fin v w') : fin = false ∧ ev = [1] := by
  rcases h.tells with ⟨_, rfl, h2⟩ | ⟨rfl, k, hk, rfl, h2, _⟩
  · exact absurd h2 (by decide)
  · obtain rfl | rfl | rfl : k = 0 ∨ k = 1 ∨ k = 2 := by omega
    · exact absurd h2 (by decide)
    · exact absurd h2 (by decide)
    · exact ⟨rfl, by decide⟩
theorem bk0 {w w' : World} {ev : List Nat} {fin : Bool} {v : Value} (h : BkPage w 8 5 E0 3 ev fin v w') : fin = true ∧ ev = [1, 0] := by
  rcases h.tells with ⟨rfl, rfl, h2⟩ | ⟨rfl, k, hk, rfl, h2, _⟩
  · exact ⟨rfl, by decide⟩
  · obtain rfl | rfl | rfl : k = 0 ∨ k = 1 ∨ k = 2 := by omega
    · exact absurd h2 (by decide)
    · exact absurd h2 (by decide)
    · exact absurd h2 (by decide)

theorem arg0 {W : World} {b n₀ : Nat} (hb : b < n₀) (h : W.heap[b]? = some (.cells #[.int .i64 0, .string ⟨#[]⟩, .string ⟨#[]⟩, .float .f64 0, .string ⟨#[]⟩, .int .i64 0, .int .i64 3, .int .i64 0, .int .i64 0, .string ⟨#[]⟩, .string ⟨#[]⟩, .float .f64 0, .string ⟨#[]⟩, .int .i64 0, .int .i64 5, .int .i64 0, .int .i64 0, .string ⟨#[]⟩, .string ⟨#[]⟩, .float .f64 0, .string ⟨#[]⟩, .int .i64 0, .int .i64 9, .int .i64 0] 29)) :
    EvArg n₀ W (some ⟨b, 0, none⟩) 3 E0 :=
  ⟨fun _ => ⟨b, 0, rfl, hb, by
    refine ⟨lt_of_block h, ?_, ?_, ?_, ?_, ?_, ?_, ?_, ?_⟩
    all_goals
      intro i hi
      obtain rfl | rfl | rfl : i = 0 ∨ i = 1 ∨ i = 2 := by omega
      all_goals simp [World.cell?, h, E0]⟩⟩

set_option maxRecDepth 100000 in
set_option maxHeartbeats 1000000 in
theorem alive_view (w : World) : Calls Try.prog 8 #[] w fun e w' => e = .returned (.bool true) ∧ Below w.heap.size w w' := by
  go_enter Try.func8, Try.ntmps8
  go_wp2_with (first
    | (go_at_call 9
       refine (forward_any _ 3 3 4 1 E0 (by decide) e0_pos (by decide) (by decide) (by decide) _ (arg0 (by simp) (new_block _ _))).mono ?_
       rintro e w1 ⟨ev, fin, v, rfl, hp⟩
       obtain ⟨rfl, rfl⟩ := fw0 hp
       obtain ⟨ao, vc, rfl⟩ := row_slice hp.own
       rw [show nextF 4 E0 [1] = 6 from by decide]
       simp only [List.length_cons, List.length_nil, Nat.zero_add]
       have HP := Lib.hid hp; clear hp)
    | (go_at_call 10
       have hb2 := HP.out.below
       have hz := HP.out.below.size
       simp only [size_alloc_one] at hz
       refine (backward_page _ 3 3 8 5 E0 (by decide) (by decide) (by decide) (by decide) (by decide) _ (arg0 (b := w.heap.size) (by simp; omega) ((Below.heap_alloc _ _ _ (by omega)).trans ((hb2.block _ (by simp)).trans (new_block _ _))))).mono ?_
       clear hb2 hz
       rintro e w2 ⟨ev, fin, v, rfl, hq⟩
       obtain ⟨rfl, rfl⟩ := bk0 hq
       obtain ⟨ao, vc, rfl⟩ := row_slice hq.own
       rw [show nextB 8 E0 [1, 0] = 2 from by decide]
       simp only [List.length_cons, List.length_nil, Nat.zero_add, Nat.reduceAdd]
       have hpb : w2.heap[w1.heap.size]? = _ := (hq.below.block _ (by simp)).trans (new_block _ _)
       have p0 := list_cells hpb 0 _ rfl
       have p1 := list_cells hpb 1 _ rfl
       have p2 := list_cells hpb 2 _ rfl
       have hlt := lt_of_block hpb
       have HQ := Lib.hid hq; clear hq hpb))
  go_ret
  have hb1 := HP.out.below
  have hb2 := HQ.out.below
  have hz1 := hb1.size
  simp only [size_alloc_one] at hz1
  exact ⟨rfl, (((((below_alloc w _).trans (hb1.mono (by simp))).alloc (by omega) _).trans (hb2.mono (by simp; omega))).alloc (by omega) _)⟩
end Go.Proofs.Ytimmdcajadddmaa
