/-
  Package prog: words in memory; known; Check. Conditions: none.
-/
import Derived.Test.YtidjnfjpdnjogaaDoorPg7
namespace Go.Proofs.YtidjnfjpdnjogaaDoor
open Go.RowKit Go.Lib

/-- Texts that lie in memory, one behind the other. -/
structure TxIn (w : World) (b off : Nat) (l : List ByteArray) : Prop where
  c : ∀ i, i < l.length → w.cell? ⟨b, off + i, none⟩ = some (.string (l.getD i ByteArray.empty))
  bl : b < w.heap.size
theorem TxIn.block {w w' : World} {b off : Nat} {l : List ByteArray} (h : TxIn w b off l) (hs : w.heap.size ≤ w'.heap.size) (hb : w'.heap[b]? = w.heap[b]?) : TxIn w' b off l :=
  ⟨fun i hi => (World.cell?_of_block (w := w) hb).trans (h.c i hi), Nat.lt_of_lt_of_le h.bl hs⟩
theorem TxIn.below {W w : World} {b off : Nat} {l : List ByteArray} (h : TxIn W b off l) (hb : Below W.heap.size W w) : TxIn w b off l := h.block hb.size (hb.block _ h.bl)
/-- A list of texts, by its value. -/
def Txs (w : World) (v : Value) (l : List ByteArray) : Prop := (l = [] ∧ ∃ po cap, v = .slice po 0 cap) ∨ ∃ b off cap, v = .slice (some ⟨b, off, none⟩) l.length cap ∧ TxIn w b off l
theorem Txs.below {W w : World} {v : Value} {l : List ByteArray} (h : Txs W v l) (hb : Below W.heap.size W w) : Txs w v l := by
  rcases h with h | ⟨b, off, cap, hv, h⟩
  · exact Or.inl h
  · exact Or.inr ⟨b, off, cap, hv, h.below hb⟩
theorem Txs.slice {w : World} {v : Value} {l : List ByteArray} (h : Txs w v l) : ∃ po cap, v = .slice po l.length cap := by
  rcases h with ⟨rfl, po, cap, rfl⟩ | ⟨b, off, cap, rfl, _⟩
  · exact ⟨po, cap, rfl⟩
  · exact ⟨_, cap, rfl⟩
def tl (l : List ByteArray) : List (List UInt8) := l.map (·.data.toList)
/-- None too long for memory. -/
def Fits (l : List ByteArray) : Prop := ∀ s ∈ l, s.size ≤ 281474976710656

/-- None of the eighteen words. -/
structure NoKnown (s : ByteArray) : Prop where
  f0 : (s.toList == [115, 116, 97, 116, 101]) = false
  f1 : (s.toList == [118, 97, 108, 117, 101]) = false
  f2 : (s.toList == [118, 101, 114, 115, 105, 111, 110]) = false
  f3 : (s.toList == [108, 101, 110]) = false
  f4 : (s.toList == [98, 121, 116, 101]) = false
  f5 : (s.toList == [97, 100, 100]) = false
  f6 : (s.toList == [115, 117, 98]) = false
  f7 : (s.toList == [109, 117, 108]) = false
  f8 : (s.toList == [100, 105, 118]) = false
  f9 : (s.toList == [110, 101, 103]) = false
  f10 : (s.toList == [109, 105, 110]) = false
  f11 : (s.toList == [109, 97, 120]) = false
  f12 : (s.toList == [108, 101, 115, 115]) = false
  f13 : (s.toList == [100, 117, 112]) = false
  f14 : (s.toList == [100, 114, 111, 112]) = false
  f15 : (s.toList == [115, 119, 97, 112]) = false
  f16 : (s.toList == [112, 105, 99, 107]) = false
  f17 : (s.toList == [102, 97, 105, 108]) = false
theorem noKnown_of {s : ByteArray} (h : knownB s.data.toList = false) : NoKnown s := by
  have h2 : ∀ l ∈ arithWords ++ moveWords ++ otherWords, s.data.toList ≠ l := fun l hl e => by
    unfold knownB at h
    rw [e] at h
    simp only [List.contains_eq_mem, decide_eq_false_iff_not] at h
    exact h hl
  refine ⟨?_, ?_, ?_, ?_, ?_, ?_, ?_, ?_, ?_, ?_, ?_, ?_, ?_, ?_, ?_, ?_, ?_, ?_⟩ <;> rw [Lib.toList_data] <;> simp only [beq_eq_false_iff_ne, ne_eq]
  · exact h2 wState (by simp [arithWords, moveWords, otherWords])
  · exact h2 wValue (by simp [arithWords, moveWords, otherWords])
  · exact h2 wVersion (by simp [arithWords, moveWords, otherWords])
  · exact h2 wLen (by simp [arithWords, moveWords, otherWords])
  · exact h2 wByte (by simp [arithWords, moveWords, otherWords])
  · exact h2 wAdd (by simp [arithWords, moveWords, otherWords])
  · exact h2 wSub (by simp [arithWords, moveWords, otherWords])
  · exact h2 wMul (by simp [arithWords, moveWords, otherWords])
  · exact h2 wDiv (by simp [arithWords, moveWords, otherWords])
  · exact h2 wNeg (by simp [arithWords, moveWords, otherWords])
  · exact h2 wMin (by simp [arithWords, moveWords, otherWords])
  · exact h2 wMax (by simp [arithWords, moveWords, otherWords])
  · exact h2 wLess (by simp [arithWords, moveWords, otherWords])
  · exact h2 wDup (by simp [arithWords, moveWords, otherWords])
  · exact h2 wDrop (by simp [arithWords, moveWords, otherWords])
  · exact h2 wSwap (by simp [arithWords, moveWords, otherWords])
  · exact h2 wPick (by simp [arithWords, moveWords, otherWords])
  · exact h2 wFail (by simp [arithWords, moveWords, otherWords])
theorem known_no (s : ByteArray) (h : knownB s.data.toList = false) (w : World) : Calls Tryd.prog 35 #[.string s] w fun e w' => e = .returned (.bool false) ∧ w' = w := by
  obtain ⟨f0, f1, f2, f3, f4, f5, f6, f7, f8, f9, f10, f11, f12, f13, f14, f15, f16, f17⟩ := noKnown_of h
  clear h
  go_enter Tryd.func35, Tryd.ntmps35
  go_wp2
  go_ret
  exact ⟨rfl, rfl⟩
theorem known_state (w : World) : Calls Tryd.prog 35 #[.string ⟨#[115, 116, 97, 116, 101]⟩] w fun e w' => e = .returned (.bool true) ∧ w' = w := by
  go_enter Tryd.func35, Tryd.ntmps35
  go_wp2
  go_ret
  exact ⟨rfl, rfl⟩
theorem known_value (w : World) : Calls Tryd.prog 35 #[.string ⟨#[118, 97, 108, 117, 101]⟩] w fun e w' => e = .returned (.bool true) ∧ w' = w := by
  go_enter Tryd.func35, Tryd.ntmps35
  go_wp2
  go_ret
  exact ⟨rfl, rfl⟩
theorem known_version (w : World) : Calls Tryd.prog 35 #[.string ⟨#[118, 101, 114, 115, 105, 111, 110]⟩] w fun e w' => e = .returned (.bool true) ∧ w' = w := by
  go_enter Tryd.func35, Tryd.ntmps35
  go_wp2
  go_ret
  exact ⟨rfl, rfl⟩
theorem known_len (w : World) : Calls Tryd.prog 35 #[.string ⟨#[108, 101, 110]⟩] w fun e w' => e = .returned (.bool true) ∧ w' = w := by
  go_enter Tryd.func35, Tryd.ntmps35
  go_wp2
  go_ret
  exact ⟨rfl, rfl⟩
theorem known_byte (w : World) : Calls Tryd.prog 35 #[.string ⟨#[98, 121, 116, 101]⟩] w fun e w' => e = .returned (.bool true) ∧ w' = w := by
  go_enter Tryd.func35, Tryd.ntmps35
  go_wp2
  go_ret
  exact ⟨rfl, rfl⟩
theorem known_add (w : World) : Calls Tryd.prog 35 #[.string ⟨#[97, 100, 100]⟩] w fun e w' => e = .returned (.bool true) ∧ w' = w := by
  go_enter Tryd.func35, Tryd.ntmps35
  go_wp2
  go_ret
  exact ⟨rfl, rfl⟩
theorem known_sub (w : World) : Calls Tryd.prog 35 #[.string ⟨#[115, 117, 98]⟩] w fun e w' => e = .returned (.bool true) ∧ w' = w := by
  go_enter Tryd.func35, Tryd.ntmps35
  go_wp2
  go_ret
  exact ⟨rfl, rfl⟩
theorem known_mul (w : World) : Calls Tryd.prog 35 #[.string ⟨#[109, 117, 108]⟩] w fun e w' => e = .returned (.bool true) ∧ w' = w := by
  go_enter Tryd.func35, Tryd.ntmps35
  go_wp2
  go_ret
  exact ⟨rfl, rfl⟩
theorem known_div (w : World) : Calls Tryd.prog 35 #[.string ⟨#[100, 105, 118]⟩] w fun e w' => e = .returned (.bool true) ∧ w' = w := by
  go_enter Tryd.func35, Tryd.ntmps35
  go_wp2
  go_ret
  exact ⟨rfl, rfl⟩
theorem known_neg (w : World) : Calls Tryd.prog 35 #[.string ⟨#[110, 101, 103]⟩] w fun e w' => e = .returned (.bool true) ∧ w' = w := by
  go_enter Tryd.func35, Tryd.ntmps35
  go_wp2
  go_ret
  exact ⟨rfl, rfl⟩
theorem known_min (w : World) : Calls Tryd.prog 35 #[.string ⟨#[109, 105, 110]⟩] w fun e w' => e = .returned (.bool true) ∧ w' = w := by
  go_enter Tryd.func35, Tryd.ntmps35
  go_wp2
  go_ret
  exact ⟨rfl, rfl⟩
theorem known_max (w : World) : Calls Tryd.prog 35 #[.string ⟨#[109, 97, 120]⟩] w fun e w' => e = .returned (.bool true) ∧ w' = w := by
  go_enter Tryd.func35, Tryd.ntmps35
  go_wp2
  go_ret
  exact ⟨rfl, rfl⟩
theorem known_less (w : World) : Calls Tryd.prog 35 #[.string ⟨#[108, 101, 115, 115]⟩] w fun e w' => e = .returned (.bool true) ∧ w' = w := by
  go_enter Tryd.func35, Tryd.ntmps35
  go_wp2
  go_ret
  exact ⟨rfl, rfl⟩
theorem known_dup (w : World) : Calls Tryd.prog 35 #[.string ⟨#[100, 117, 112]⟩] w fun e w' => e = .returned (.bool true) ∧ w' = w := by
  go_enter Tryd.func35, Tryd.ntmps35
  go_wp2
  go_ret
  exact ⟨rfl, rfl⟩
theorem known_drop (w : World) : Calls Tryd.prog 35 #[.string ⟨#[100, 114, 111, 112]⟩] w fun e w' => e = .returned (.bool true) ∧ w' = w := by
  go_enter Tryd.func35, Tryd.ntmps35
  go_wp2
  go_ret
  exact ⟨rfl, rfl⟩
theorem known_swap (w : World) : Calls Tryd.prog 35 #[.string ⟨#[115, 119, 97, 112]⟩] w fun e w' => e = .returned (.bool true) ∧ w' = w := by
  go_enter Tryd.func35, Tryd.ntmps35
  go_wp2
  go_ret
  exact ⟨rfl, rfl⟩
theorem known_pick (w : World) : Calls Tryd.prog 35 #[.string ⟨#[112, 105, 99, 107]⟩] w fun e w' => e = .returned (.bool true) ∧ w' = w := by
  go_enter Tryd.func35, Tryd.ntmps35
  go_wp2
  go_ret
  exact ⟨rfl, rfl⟩
theorem known_fail (w : World) : Calls Tryd.prog 35 #[.string ⟨#[102, 97, 105, 108]⟩] w fun e w' => e = .returned (.bool true) ∧ w' = w := by
  go_enter Tryd.func35, Tryd.ntmps35
  go_wp2
  go_ret
  exact ⟨rfl, rfl⟩
theorem known_any (s : ByteArray) (w : World) : Calls Tryd.prog 35 #[.string s] w fun e w' => e = .returned (.bool (knownB s.data.toList)) ∧ w' = w := by
  cases h : knownB s.data.toList
  · exact known_no s h w
  · unfold knownB at h
    simp only [List.contains_eq_mem, decide_eq_true_eq, arithWords, moveWords, otherWords, List.mem_append, List.mem_cons, List.not_mem_nil, or_false] at h
    rcases h with ((h | h | h | h | h | h | h) | (h | h | h | h)) | (h | h | h | h | h | h | h)
    · rw [ba_of h]; exact known_add w
    · rw [ba_of h]; exact known_sub w
    · rw [ba_of h]; exact known_mul w
    · rw [ba_of h]; exact known_div w
    · rw [ba_of h]; exact known_min w
    · rw [ba_of h]; exact known_max w
    · rw [ba_of h]; exact known_less w
    · rw [ba_of h]; exact known_dup w
    · rw [ba_of h]; exact known_drop w
    · rw [ba_of h]; exact known_swap w
    · rw [ba_of h]; exact known_pick w
    · rw [ba_of h]; exact known_state w
    · rw [ba_of h]; exact known_value w
    · rw [ba_of h]; exact known_version w
    · rw [ba_of h]; exact known_len w
    · rw [ba_of h]; exact known_byte w
    · rw [ba_of h]; exact known_neg w
    · rw [ba_of h]; exact known_fail w

theorem check_step (l : List ByteArray) (k : Nat) (h : k < l.length) : checkB (tl (l.drop k)) k = if isWord (l.getD k ByteArray.empty).data.toList then checkB (tl (l.drop (k + 1))) (k + 1) else (6, k) := by
  have e : l.drop k = l.getD k ByteArray.empty :: l.drop (k + 1) := by
    rw [List.drop_eq_getElem_cons h, List.getD_eq_getElem?_getD, List.getElem?_eq_getElem h]; rfl
  rw [e]; rfl
theorem fits_at {l : List ByteArray} (h : Fits l) (k : Nat) (hk : k < l.length) : (l.getD k ByteArray.empty).size ≤ 281474976710656 := by
  rw [List.getD_eq_getElem?_getD, List.getElem?_eq_getElem hk]
  exact h _ (List.getElem_mem hk)

def CheckPost (l : List ByteArray) (w : World) (e : Ending) (w' : World) : Prop := e = .returned (.tuple #[.int .i64 (checkL (tl l)).1, .int .i64 (checkL (tl l)).2]) ∧ Below w.heap.size w w'

set_option maxRecDepth 100000 in
theorem check_any (l : List ByteArray) (hf : Fits l) (v : Value) (w : World) (h : Txs w v l) : Calls Tryd.prog 18 #[.agg #[v]] w (CheckPost l w) := by
  obtain ⟨po, cap, rfl⟩ := h.slice
  have HT := Lib.hid h; clear h
  unfold CheckPost
  have hb0 := below_alloc w (.cells #[.slice po l.length cap] 28)
  have hcell := (cell_of_block1 (new_block w (.cells #[.slice po l.length cap] 28))).1
  have hz0 : w.heap.size < (w.alloc (.cells #[.slice po l.length cap] 28)).heap.size := by simp
  by_cases hlen : 64 < l.length
  · have hc : checkL (tl l) = (2, 64) := by unfold checkL; rw [if_pos (by simpa [tl] using hlen)]
    rw [hc]
    have h64 : (64 : Int) < (l.length : Int) := by omega
    clear hc hf hlen HT
    go_enter Tryd.func18, Tryd.ntmps18
    go_wp2
    exact bodyPost_ret (v := .tuple #[.int .i64 2, .int .i64 64]) (by simp [results, Tryd.results18, go_sem]) rfl ⟨rfl, below_alloc _ _⟩
  · have hc : checkL (tl l) = checkB (tl (l.drop 0)) 0 := by unfold checkL; rw [if_neg (by simpa [tl] using hlen)]; rfl
    rw [hc]
    have h64 : ¬ (64 : Int) < (l.length : Int) := by omega
    have HL := Lib.hid hlen
    have HF := Lib.hid hf
    clear hc hf hlen
    go_enter Tryd.func18, Tryd.ntmps18
    go_wp2_with fail
    go_loopg [15] l.length (fun g i wr => ∃ k : Nat, g = l.length - k ∧ k ≤ l.length ∧ i = .int .i64 k ∧ checkB (tl (l.drop k)) k = checkB (tl (l.drop 0)) 0 ∧ Below w.heap.size w wr)
    case atStart => exact ⟨0, by omega, by omega, rfl, rfl, below_alloc _ _⟩
    case round =>
      obtain ⟨k, hg, hk, rfl, hcb, hb⟩ := hrel
      have HG := Lib.hid hg; clear hg
      have HB := Lib.hid hb; clear hb
      have HC := Lib.hid hcb; clear hcb
      by_cases hlt : k < l.length
      · have hl : (k : Int) < (l.length : Int) := by omega
        have hw1 : IntKind.i64.wrap ((k : Int) + 1) = (k : Int) + 1 := IntWalk.i64_in _ (by omega)
        rcases HT.out with ⟨rfl, _⟩ | ⟨b, off, cap', hv, hx⟩
        · simp at hlt
        obtain ⟨rfl, -, rfl⟩ : po = some ⟨b, off, none⟩ ∧ l.length = l.length ∧ cap = cap' := by simpa using hv
        have c1 := (hx.below HB.out).c k hlt
        have hstep := check_step l k hlt
        have hsz := fits_at HF.out k hlt
        revert c1 hstep hsz
        generalize l.getD k ByteArray.empty = s
        intro c1 hstep hsz
        have HP := Lib.hid (parse_any s hsz)
        have HK := Lib.hid (known_any s)
        have hiw : isWord s.data.toList = ((parseB s.data.toList).2 == 0 || knownB s.data.toList) := rfl
        unfold tellsF at HP
        revert HP HK hiw
        generalize (parseB s.data.toList).1 = x
        generalize (parseB s.data.toList).2 = y
        generalize knownB s.data.toList = kn
        intro HP HK hiw
        rw [hiw] at hstep
        clear hiw hsz hv
        by_cases hy : y = 0
        · subst hy
          have HS := Lib.hid hstep; clear hstep
          go_wp2_with fail
          refine (HP.out _).mono ?_
          rintro e w3 ⟨rfl, rfl⟩
          go_wp2
          go_roundg (l.length - (k + 1))
          case measure => rw [HG.out]; omega
          case rel => exact ⟨k + 1, rfl, by omega, rfl, by have h1 := HS.out; rw [HC.out] at h1; rw [h1]; rfl, HB.out⟩
        · have hy2 : (y != 0) = true := by simpa using hy
          have hy3 : (y == 0) = false := by simpa using hy
          rw [hy3, Bool.false_or] at hstep
          have HS := Lib.hid hstep; clear hstep hy3
          cases kn
          · go_wp2_with fail
            refine (HP.out _).mono ?_
            rintro e w3 ⟨rfl, rfl⟩
            go_wp2_with fail
            refine (HK.out _).mono ?_
            rintro e w3 ⟨rfl, rfl⟩
            go_wp2
            have h1 := HS.out
            rw [HC.out] at h1
            exact bodyPost_ret (v := .tuple #[.int .i64 6, .int .i64 k]) (by simp [results, Tryd.results18, go_sem]) rfl ⟨by rw [h1]; rfl, HB.out⟩
          · go_wp2_with fail
            refine (HP.out _).mono ?_
            rintro e w3 ⟨rfl, rfl⟩
            go_wp2_with fail
            refine (HK.out _).mono ?_
            rintro e w3 ⟨rfl, rfl⟩
            go_wp2
            go_roundg (l.length - (k + 1))
            case measure => rw [HG.out]; omega
            case rel => exact ⟨k + 1, rfl, by omega, rfl, by have h1 := HS.out; rw [HC.out] at h1; rw [h1]; rfl, HB.out⟩
      · have hl : ¬ (k : Int) < (l.length : Int) := by omega
        have hk' : k = l.length := by omega
        go_wp2
        have h1 := HC.out
        rw [hk', List.drop_length] at h1
        exact bodyPost_ret (v := .tuple #[.int .i64 0, .int .i64 0]) (by simp [results, Tryd.results18, go_sem]) rfl ⟨by rw [List.drop_zero] at h1; rw [← h1]; rfl, HB.out⟩
end Go.Proofs.YtidjnfjpdnjogaaDoor
