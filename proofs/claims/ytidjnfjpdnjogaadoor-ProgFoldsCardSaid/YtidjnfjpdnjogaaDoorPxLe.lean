/-
  chroniclebook: Room, Short; a list that is lent. Conditions: none.
-/
import Derived.Test.YtidjnfjpdnjogaaDoorPxFo
namespace Go.Proofs.YtidjnfjpdnjogaaDoor
open Go.RowKit Go.Lib

set_option maxRecDepth 100000 in
theorem room_one (left : Int) (x : Nat) (hl0 : -1 ≤ left) (hl : left ≤ 1000000) (hx : x ≤ 9223372036854775807) (g : Nat) (w : World) (hc : w.cell? ⟨g, 0, none⟩ = some (.int .i64 x)) :
    Calls Tryd.prog 36 #[.int .i64 left, .slice (some ⟨g, 0, none⟩) 1 1] w fun e w' => e = .returned (.int .i64 (if left < 0 ∨ left < (x : Int) then -1 else left - x)) ∧ w' = w := by
  by_cases h : left < 0
  · rw [if_pos (Or.inl h)]
    go_enter Tryd.func36, Tryd.ntmps36
    go_wp2_with fail
    go_loopg [0, 5] 1 (fun g2 l i wr => g2 = 1 ∧ l = .int .i64 left ∧ i = .int .i64 0 ∧ wr = w)
    case atStart => exact ⟨rfl, rfl, rfl, rfl⟩
    case round =>
      obtain ⟨rfl, rfl, rfl, rfl⟩ := hrel
      go_wp2
      go_ret
      exact ⟨rfl, rfl⟩
  · by_cases h2 : left < (x : Int)
    · rw [if_pos (Or.inr h2)]
      go_enter Tryd.func36, Tryd.ntmps36
      go_wp2_with fail
      go_loopg [0, 5] 1 (fun g2 l i wr => g2 = 1 ∧ l = .int .i64 left ∧ i = .int .i64 0 ∧ wr = w)
      case atStart => exact ⟨rfl, rfl, rfl, rfl⟩
      case round =>
        obtain ⟨rfl, rfl, rfl, rfl⟩ := hrel
        go_wp2
        go_ret
        exact ⟨rfl, rfl⟩
    · rw [if_neg (by omega)]
      have hw : IntKind.i64.wrap (left - (x : Int)) = left - (x : Int) := IntWalk.i64_in _ (by omega)
      go_enter Tryd.func36, Tryd.ntmps36
      go_wp2_with fail
      go_loopg [0, 5] 1 (fun g2 l i wr => ∃ k : Nat, g2 = 1 - k ∧ ((k = 0 ∧ l = .int .i64 left) ∨ (k = 1 ∧ l = .int .i64 (left - x))) ∧ i = .int .i64 k ∧ wr = w)
      case atStart => exact ⟨0, rfl, Or.inl ⟨rfl, rfl⟩, rfl, rfl⟩
      case round =>
        obtain ⟨k, hg, hk, rfl, rfl⟩ := hrel
        rcases hk with ⟨rfl, rfl⟩ | ⟨rfl, rfl⟩
        · have HG := Lib.hid hg; clear hg
          go_wp2
          go_roundg 0
          case measure => have := HG.out; omega
          case rel => exact ⟨1, rfl, Or.inr ⟨rfl, rfl⟩, rfl, rfl⟩
        · clear hg
          go_wp2
          go_ret
          exact ⟨rfl, rfl⟩

/-- What Short tells. -/
def ShortPost (few room : Nat) (l : List ByteArray) (w : World) (e : Ending) (w' : World) : Prop := ∃ b, e = .returned (.bool b) ∧ (b = true → l.length ≤ few ∧ ∀ s ∈ l, s.size ≤ room) ∧ Below w.heap.size w w'
set_option maxRecDepth 100000 in
set_option maxHeartbeats 2000000 in
theorem short_any (few room : Nat) (hr : room ≤ 1000000) (hfw : few ≤ 1000) (l : List ByteArray) (v : Value) (w : World) (h : Txs w v l) (hf : Fits l) :
    Calls Tryd.prog 19 #[.int .i64 few, .int .i64 room, v] w (ShortPost few room l w) := by
  obtain ⟨po, cap, rfl⟩ := h.slice
  have HT := Lib.hid h; clear h
  have HF := Lib.hid hf; clear hf
  by_cases hlen : few < l.length
  · have h1 : (few : Int) < (l.length : Int) := by omega
    clear hlen
    go_enter Tryd.func19, Tryd.ntmps19
    go_wp2
    go_ret
    exact ⟨false, rfl, (by intro h; cases h), Below.refl _ _⟩
  · have h1 : ¬ (few : Int) < (l.length : Int) := by omega
    have HLen := Lib.hid hlen
    clear hlen
    go_enter Tryd.func19, Tryd.ntmps19
    go_wp2_with fail
    go_loopg [1, 7] l.length (fun g rm i wr => ∃ (k : Nat) (r : Int), g = l.length - k ∧ k ≤ l.length ∧ rm = .int .i64 r ∧ -1 ≤ r ∧ r ≤ room ∧ i = .int .i64 k ∧ (0 ≤ r → ∀ j, j < k → (l.getD j ByteArray.empty).size ≤ room) ∧ Below w.heap.size w wr)
    case atStart => exact ⟨0, room, by omega, by omega, rfl, by omega, by omega, rfl, fun _ j hj => by omega, Below.refl _ _⟩
    case round =>
      obtain ⟨k, r, hg, hk, rfl, hr0, hr1, rfl, hall, hb⟩ := hrel
      have HG := Lib.hid hg; clear hg
      by_cases hlt : k < l.length
      · have hl : (k : Int) < (l.length : Int) := by omega
        have hw1 : IntKind.i64.wrap ((k : Int) + 1) = (k : Int) + 1 := IntWalk.i64_in _ (by omega)
        by_cases hrn : 0 ≤ r
        · rcases HT.out with ⟨rfl, _⟩ | ⟨b, off, cap', hv, hx⟩
          · simp at hlt
          obtain ⟨rfl, -, rfl⟩ : po = some ⟨b, off, none⟩ ∧ l.length = l.length ∧ cap = cap' := by simpa using hv
          have c1 := (hx.below hb).c k hlt
          have hsz := fits_at HF.out k hlt
          have hall2 := hall hrn
          have HA := Lib.hid (And.intro hall2 (And.intro hb hsz))
          clear hall hall2 hb hv hx
          obtain ⟨s, hs⟩ : ∃ s, l.getD k ByteArray.empty = s := ⟨_, rfl⟩
          rw [hs] at c1 hsz
          have HS := Lib.hid hs; clear hs
          go_wp2_with fail
          have hal := below_alloc wr (.cells #[.int .i64 s.size] 3)
          refine (room_one r s.size hr0 (by omega) (by omega) _ _ (cell_of_block1 (new_block wr (.cells #[.int .i64 s.size] 3))).1).mono ?_
          rintro e w3 ⟨rfl, hw3⟩
          have hB3 : Below w.heap.size w w3 := by rw [hw3]; exact HA.out.2.1.trans (hal.mono HA.out.2.1.size)
          have HB3 := Lib.hid hB3
          clear hal hw3 hB3 c1
          by_cases hc : r < 0 ∨ r < (s.size : Int)
          · rw [if_pos hc]
            go_wp2_with fail
            go_roundg (l.length - (k + 1))
            case measure => have := HG.out; omega
            case rel => exact ⟨k + 1, -1, rfl, by omega, rfl, by omega, by omega, by go_num, fun h => by omega, HB3.out⟩
          · rw [if_neg hc]
            go_wp2_with fail
            go_roundg (l.length - (k + 1))
            case measure => have := HG.out; omega
            case rel =>
              refine ⟨k + 1, r - s.size, rfl, by omega, rfl, by omega, by omega, by go_num, fun h j hj => ?_, HB3.out⟩
              by_cases hjk : j = k
              · subst hjk; rw [HS.out]; omega
              · exact HA.out.1 j (by omega)
        · have HB := Lib.hid hb
          clear hall hb
          go_wp2_with fail
          go_ret
          exact ⟨_, rfl, (by intro h; simp at h <;> omega), HB.out⟩
      · obtain rfl : k = l.length := by omega
        have hl : ¬ (l.length : Int) < (l.length : Int) := by omega
        have HB := Lib.hid (And.intro hb hall)
        clear hb hall
        go_wp2_with fail
        go_ret
        refine ⟨_, rfl, fun h => ⟨by have := HLen.out; omega, fun s hs => ?_⟩, HB.out.1⟩
        obtain ⟨j, hj, rfl⟩ := List.mem_iff_getElem.1 hs
        have h0 : 0 ≤ r := by simpa using h
        have := HB.out.2 h0 j hj
        rw [List.getD_eq_getElem?_getD, List.getElem?_eq_getElem hj] at this
        exact this
end Go.Proofs.YtidjnfjpdnjogaaDoor
