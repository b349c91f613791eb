/-
  M5: the texts Pg8, Pg9, Pg10, Pg11, one behind the other. Conditions: none.
-/
import Derived.Test.YtidjnfjpdnjogaaGreatDoorM4
/-
  Package prog: words in memory; known; Check. Conditions: none.
-/
namespace Go.Proofs.YtidjnfjpdnjogaaGreatDoor
open Go.RowKit Go.Lib

/-- Texts that lie in memory, one behind the other. -/
structure TxIn (w : World) (b off : Nat) (l : List ByteArray) : Prop where
  c : ∀ i, i < l.length → w.cell? ⟨b, off + i, none⟩ = some (.string (l.getD i ByteArray.empty))
  bl : b < w.heap.size
theorem TxIn.block {w w' : World} {b off : Nat} {l : List ByteArray} (h : TxIn w b off l) (hs : w.heap.size ≤ w'.heap.size) (hb : w'.heap[b]? = w.heap[b]?) : TxIn w' b off l :=
  ⟨fun i hi => (World.cell?_of_block (w := w) hb).trans (h.c i hi), Nat.lt_of_lt_of_le h.bl hs⟩
theorem TxIn.below {W w : World} {b off : Nat} {l : List ByteArray} (h : TxIn W b off l) (hb : Below W.heap.size W w) : TxIn w b off l := h.block hb.size (hb.block _ h.bl)
/-- A list of texts, by its value. -/
def Txs (w : World) (v : Value) (l : List ByteArray) : Prop := (l = [] ∧ ∃ po cap, v = .slice po 0 cap) ∨ ∃ b off cap, v = .slice (some ⟨b, off, none⟩) l.length cap ∧ TxIn w b off l
theorem Txs.below {W w : World} {v : Value} {l : List ByteArray} (h : Txs W v l) (hb : Below W.heap.size W w) : Txs w v l := by
  rcases h with h | ⟨b, off, cap, hv, h⟩
  · exact Or.inl h
  · exact Or.inr ⟨b, off, cap, hv, h.below hb⟩
theorem Txs.slice {w : World} {v : Value} {l : List ByteArray} (h : Txs w v l) : ∃ po cap, v = .slice po l.length cap := by
  rcases h with ⟨rfl, po, cap, rfl⟩ | ⟨b, off, cap, rfl, _⟩
  · exact ⟨po, cap, rfl⟩
  · exact ⟨_, cap, rfl⟩
def tl (l : List ByteArray) : List (List UInt8) := l.map (·.data.toList)
/-- None too long for memory. -/
def Fits (l : List ByteArray) : Prop := ∀ s ∈ l, s.size ≤ 281474976710656

/-- None of the eighteen words. -/
structure NoKnown (s : ByteArray) : Prop where
  f0 : (s.toList == [115, 116, 97, 116, 101]) = false
  f1 : (s.toList == [118, 97, 108, 117, 101]) = false
  f2 : (s.toList == [118, 101, 114, 115, 105, 111, 110]) = false
  f3 : (s.toList == [108, 101, 110]) = false
  f4 : (s.toList == [98, 121, 116, 101]) = false
  f5 : (s.toList == [97, 100, 100]) = false
  f6 : (s.toList == [115, 117, 98]) = false
  f7 : (s.toList == [109, 117, 108]) = false
  f8 : (s.toList == [100, 105, 118]) = false
  f9 : (s.toList == [110, 101, 103]) = false
  f10 : (s.toList == [109, 105, 110]) = false
  f11 : (s.toList == [109, 97, 120]) = false
  f12 : (s.toList == [108, 101, 115, 115]) = false
  f13 : (s.toList == [100, 117, 112]) = false
  f14 : (s.toList == [100, 114, 111, 112]) = false
  f15 : (s.toList == [115, 119, 97, 112]) = false
  f16 : (s.toList == [112, 105, 99, 107]) = false
  f17 : (s.toList == [102, 97, 105, 108]) = false
theorem noKnown_of {s : ByteArray} (h : knownB s.data.toList = false) : NoKnown s := by
  have h2 : ∀ l ∈ arithWords ++ moveWords ++ otherWords, s.data.toList ≠ l := fun l hl e => by
    unfold knownB at h
    rw [e] at h
    simp only [List.contains_eq_mem, decide_eq_false_iff_not] at h
    exact h hl
  refine ⟨?_, ?_, ?_, ?_, ?_, ?_, ?_, ?_, ?_, ?_, ?_, ?_, ?_, ?_, ?_, ?_, ?_, ?_⟩ <;> rw [Lib.toList_data] <;> simp only [beq_eq_false_iff_ne, ne_eq]
  · exact h2 wState (by simp [arithWords, moveWords, otherWords])
  · exact h2 wValue (by simp [arithWords, moveWords, otherWords])
  · exact h2 wVersion (by simp [arithWords, moveWords, otherWords])
  · exact h2 wLen (by simp [arithWords, moveWords, otherWords])
  · exact h2 wByte (by simp [arithWords, moveWords, otherWords])
  · exact h2 wAdd (by simp [arithWords, moveWords, otherWords])
  · exact h2 wSub (by simp [arithWords, moveWords, otherWords])
  · exact h2 wMul (by simp [arithWords, moveWords, otherWords])
  · exact h2 wDiv (by simp [arithWords, moveWords, otherWords])
  · exact h2 wNeg (by simp [arithWords, moveWords, otherWords])
  · exact h2 wMin (by simp [arithWords, moveWords, otherWords])
  · exact h2 wMax (by simp [arithWords, moveWords, otherWords])
  · exact h2 wLess (by simp [arithWords, moveWords, otherWords])
  · exact h2 wDup (by simp [arithWords, moveWords, otherWords])
  · exact h2 wDrop (by simp [arithWords, moveWords, otherWords])
  · exact h2 wSwap (by simp [arithWords, moveWords, otherWords])
  · exact h2 wPick (by simp [arithWords, moveWords, otherWords])
  · exact h2 wFail (by simp [arithWords, moveWords, otherWords])
theorem known_no (s : ByteArray) (h : knownB s.data.toList = false) (w : World) : Calls Tryz.prog 51 #[.string s] w fun e w' => e = .returned (.bool false) ∧ w' = w := by
  obtain ⟨f0, f1, f2, f3, f4, f5, f6, f7, f8, f9, f10, f11, f12, f13, f14, f15, f16, f17⟩ := noKnown_of h
  clear h
  go_enter Tryz.func51, Tryz.ntmps51
  go_wp2
  go_ret
  exact ⟨rfl, rfl⟩
theorem known_state (w : World) : Calls Tryz.prog 51 #[.string ⟨#[115, 116, 97, 116, 101]⟩] w fun e w' => e = .returned (.bool true) ∧ w' = w := by
  go_enter Tryz.func51, Tryz.ntmps51
  go_wp2
  go_ret
  exact ⟨rfl, rfl⟩
theorem known_value (w : World) : Calls Tryz.prog 51 #[.string ⟨#[118, 97, 108, 117, 101]⟩] w fun e w' => e = .returned (.bool true) ∧ w' = w := by
  go_enter Tryz.func51, Tryz.ntmps51
  go_wp2
  go_ret
  exact ⟨rfl, rfl⟩
theorem known_version (w : World) : Calls Tryz.prog 51 #[.string ⟨#[118, 101, 114, 115, 105, 111, 110]⟩] w fun e w' => e = .returned (.bool true) ∧ w' = w := by
  go_enter Tryz.func51, Tryz.ntmps51
  go_wp2
  go_ret
  exact ⟨rfl, rfl⟩
theorem known_len (w : World) : Calls Tryz.prog 51 #[.string ⟨#[108, 101, 110]⟩] w fun e w' => e = .returned (.bool true) ∧ w' = w := by
  go_enter Tryz.func51, Tryz.ntmps51
  go_wp2
  go_ret
  exact ⟨rfl, rfl⟩
theorem known_byte (w : World) : Calls Tryz.prog 51 #[.string ⟨#[98, 121, 116, 101]⟩] w fun e w' => e = .returned (.bool true) ∧ w' = w := by
  go_enter Tryz.func51, Tryz.ntmps51
  go_wp2
  go_ret
  exact ⟨rfl, rfl⟩
theorem known_add (w : World) : Calls Tryz.prog 51 #[.string ⟨#[97, 100, 100]⟩] w fun e w' => e = .returned (.bool true) ∧ w' = w := by
  go_enter Tryz.func51, Tryz.ntmps51
  go_wp2
  go_ret
  exact ⟨rfl, rfl⟩
theorem known_sub (w : World) : Calls Tryz.prog 51 #[.string ⟨#[115, 117, 98]⟩] w fun e w' => e = .returned (.bool true) ∧ w' = w := by
  go_enter Tryz.func51, Tryz.ntmps51
  go_wp2
  go_ret
  exact ⟨rfl, rfl⟩
theorem known_mul (w : World) : Calls Tryz.prog 51 #[.string ⟨#[109, 117, 108]⟩] w fun e w' => e = .returned (.bool true) ∧ w' = w := by
  go_enter Tryz.func51, Tryz.ntmps51
  go_wp2
  go_ret
  exact ⟨rfl, rfl⟩
theorem known_div (w : World) : Calls Tryz.prog 51 #[.string ⟨#[100, 105, 118]⟩] w fun e w' => e = .returned (.bool true) ∧ w' = w := by
  go_enter Tryz.func51, Tryz.ntmps51
  go_wp2
  go_ret
  exact ⟨rfl, rfl⟩
theorem known_neg (w : World) : Calls Tryz.prog 51 #[.string ⟨#[110, 101, 103]⟩] w fun e w' => e = .returned (.bool true) ∧ w' = w := by
  go_enter Tryz.func51, Tryz.ntmps51
  go_wp2
  go_ret
  exact ⟨rfl, rfl⟩
theorem known_min (w : World) : Calls Tryz.prog 51 #[.string ⟨#[109, 105, 110]⟩] w fun e w' => e = .returned (.bool true) ∧ w' = w := by
  go_enter Tryz.func51, Tryz.ntmps51
  go_wp2
  go_ret
  exact ⟨rfl, rfl⟩
theorem known_max (w : World) : Calls Tryz.prog 51 #[.string ⟨#[109, 97, 120]⟩] w fun e w' => e = .returned (.bool true) ∧ w' = w := by
  go_enter Tryz.func51, Tryz.ntmps51
  go_wp2
  go_ret
  exact ⟨rfl, rfl⟩
theorem known_less (w : World) : Calls Tryz.prog 51 #[.string ⟨#[108, 101, 115, 115]⟩] w fun e w' => e = .returned (.bool true) ∧ w' = w := by
  go_enter Tryz.func51, Tryz.ntmps51
  go_wp2
  go_ret
  exact ⟨rfl, rfl⟩
theorem known_dup (w : World) : Calls Tryz.prog 51 #[.string ⟨#[100, 117, 112]⟩] w fun e w' => e = .returned (.bool true) ∧ w' = w := by
  go_enter Tryz.func51, Tryz.ntmps51
  go_wp2
  go_ret
  exact ⟨rfl, rfl⟩
theorem known_drop (w : World) : Calls Tryz.prog 51 #[.string ⟨#[100, 114, 111, 112]⟩] w fun e w' => e = .returned (.bool true) ∧ w' = w := by
  go_enter Tryz.func51, Tryz.ntmps51
  go_wp2
  go_ret
  exact ⟨rfl, rfl⟩
theorem known_swap (w : World) : Calls Tryz.prog 51 #[.string ⟨#[115, 119, 97, 112]⟩] w fun e w' => e = .returned (.bool true) ∧ w' = w := by
  go_enter Tryz.func51, Tryz.ntmps51
  go_wp2
  go_ret
  exact ⟨rfl, rfl⟩
theorem known_pick (w : World) : Calls Tryz.prog 51 #[.string ⟨#[112, 105, 99, 107]⟩] w fun e w' => e = .returned (.bool true) ∧ w' = w := by
  go_enter Tryz.func51, Tryz.ntmps51
  go_wp2
  go_ret
  exact ⟨rfl, rfl⟩
theorem known_fail (w : World) : Calls Tryz.prog 51 #[.string ⟨#[102, 97, 105, 108]⟩] w fun e w' => e = .returned (.bool true) ∧ w' = w := by
  go_enter Tryz.func51, Tryz.ntmps51
  go_wp2
  go_ret
  exact ⟨rfl, rfl⟩
theorem known_any (s : ByteArray) (w : World) : Calls Tryz.prog 51 #[.string s] w fun e w' => e = .returned (.bool (knownB s.data.toList)) ∧ w' = w := by
  cases h : knownB s.data.toList
  · exact known_no s h w
  · unfold knownB at h
    simp only [List.contains_eq_mem, decide_eq_true_eq, arithWords, moveWords, otherWords, List.mem_append, List.mem_cons, List.not_mem_nil, or_false] at h
    rcases h with ((h | h | h | h | h | h | h) | (h | h | h | h)) | (h | h | h | h | h | h | h)
    · rw [ba_of h]; exact known_add w
    · rw [ba_of h]; exact known_sub w
    · rw [ba_of h]; exact known_mul w
    · rw [ba_of h]; exact known_div w
    · rw [ba_of h]; exact known_min w
    · rw [ba_of h]; exact known_max w
    · rw [ba_of h]; exact known_less w
    · rw [ba_of h]; exact known_dup w
    · rw [ba_of h]; exact known_drop w
    · rw [ba_of h]; exact known_swap w
    · rw [ba_of h]; exact known_pick w
    · rw [ba_of h]; exact known_state w
    · rw [ba_of h]; exact known_value w
    · rw [ba_of h]; exact known_version w
    · rw [ba_of h]; exact known_len w
    · rw [ba_of h]; exact known_byte w
    · rw [ba_of h]; exact known_neg w
    · rw [ba_of h]; exact known_fail w

theorem check_step (l : List ByteArray) (k : Nat) (h : k < l.length) : checkB (tl (l.drop k)) k = if isWord (l.getD k ByteArray.empty).data.toList then checkB (tl (l.drop (k + 1))) (k + 1) else (6, k) := by
  have e : l.drop k = l.getD k ByteArray.empty :: l.drop (k + 1) := by
    rw [List.drop_eq_getElem_cons h, List.getD_eq_getElem?_getD, List.getElem?_eq_getElem h]; rfl
  rw [e]; rfl
theorem fits_at {l : List ByteArray} (h : Fits l) (k : Nat) (hk : k < l.length) : (l.getD k ByteArray.empty).size ≤ 281474976710656 := by
  rw [List.getD_eq_getElem?_getD, List.getElem?_eq_getElem hk]
  exact h _ (List.getElem_mem hk)

def CheckPost (l : List ByteArray) (w : World) (e : Ending) (w' : World) : Prop := e = .returned (.tuple #[.int .i64 (checkL (tl l)).1, .int .i64 (checkL (tl l)).2]) ∧ Below w.heap.size w w'

set_option maxRecDepth 100000 in
theorem check_any (l : List ByteArray) (hf : Fits l) (v : Value) (w : World) (h : Txs w v l) : Calls Tryz.prog 16 #[.agg #[v]] w (CheckPost l w) := by
  obtain ⟨po, cap, rfl⟩ := h.slice
  have HT := Lib.hid h; clear h
  unfold CheckPost
  have hb0 := below_alloc w (.cells #[.slice po l.length cap] 38)
  have hcell := (cell_of_block1 (new_block w (.cells #[.slice po l.length cap] 38))).1
  have hz0 : w.heap.size < (w.alloc (.cells #[.slice po l.length cap] 38)).heap.size := by simp
  by_cases hlen : 64 < l.length
  · have hc : checkL (tl l) = (2, 64) := by unfold checkL; rw [if_pos (by simpa [tl] using hlen)]
    rw [hc]
    have h64 : (64 : Int) < (l.length : Int) := by omega
    clear hc hf hlen HT
    go_enter Tryz.func16, Tryz.ntmps16
    go_wp2
    exact bodyPost_ret (v := .tuple #[.int .i64 2, .int .i64 64]) (by simp [results, Tryz.results16, go_sem]) rfl ⟨rfl, below_alloc _ _⟩
  · have hc : checkL (tl l) = checkB (tl (l.drop 0)) 0 := by unfold checkL; rw [if_neg (by simpa [tl] using hlen)]; rfl
    rw [hc]
    have h64 : ¬ (64 : Int) < (l.length : Int) := by omega
    have HL := Lib.hid hlen
    have HF := Lib.hid hf
    clear hc hf hlen
    go_enter Tryz.func16, Tryz.ntmps16
    go_wp2_with fail
    go_loopg [15] l.length (fun g i wr => ∃ k : Nat, g = l.length - k ∧ k ≤ l.length ∧ i = .int .i64 k ∧ checkB (tl (l.drop k)) k = checkB (tl (l.drop 0)) 0 ∧ Below w.heap.size w wr)
    case atStart => exact ⟨0, by omega, by omega, rfl, rfl, below_alloc _ _⟩
    case round =>
      obtain ⟨k, hg, hk, rfl, hcb, hb⟩ := hrel
      have HG := Lib.hid hg; clear hg
      have HB := Lib.hid hb; clear hb
      have HC := Lib.hid hcb; clear hcb
      by_cases hlt : k < l.length
      · have hl : (k : Int) < (l.length : Int) := by omega
        have hw1 : IntKind.i64.wrap ((k : Int) + 1) = (k : Int) + 1 := IntWalk.i64_in _ (by omega)
        rcases HT.out with ⟨rfl, _⟩ | ⟨b, off, cap', hv, hx⟩
        · simp at hlt
        obtain ⟨rfl, -, rfl⟩ : po = some ⟨b, off, none⟩ ∧ l.length = l.length ∧ cap = cap' := by simpa using hv
        have c1 := (hx.below HB.out).c k hlt
        have hstep := check_step l k hlt
        have hsz := fits_at HF.out k hlt
        revert c1 hstep hsz
        generalize l.getD k ByteArray.empty = s
        intro c1 hstep hsz
        have HP := Lib.hid (parse_any s hsz)
        have HK := Lib.hid (known_any s)
        have hiw : isWord s.data.toList = ((parseB s.data.toList).2 == 0 || knownB s.data.toList) := rfl
        unfold tellsF at HP
        revert HP HK hiw
        generalize (parseB s.data.toList).1 = x
        generalize (parseB s.data.toList).2 = y
        generalize knownB s.data.toList = kn
        intro HP HK hiw
        rw [hiw] at hstep
        clear hiw hsz hv
        by_cases hy : y = 0
        · subst hy
          have HS := Lib.hid hstep; clear hstep
          go_wp2_with fail
          refine (HP.out _).mono ?_
          rintro e w3 ⟨rfl, rfl⟩
          go_wp2
          go_roundg (l.length - (k + 1))
          case measure => rw [HG.out]; omega
          case rel => exact ⟨k + 1, rfl, by omega, rfl, by have h1 := HS.out; rw [HC.out] at h1; rw [h1]; rfl, HB.out⟩
        · have hy2 : (y != 0) = true := by simpa using hy
          have hy3 : (y == 0) = false := by simpa using hy
          rw [hy3, Bool.false_or] at hstep
          have HS := Lib.hid hstep; clear hstep hy3
          cases kn
          · go_wp2_with fail
            refine (HP.out _).mono ?_
            rintro e w3 ⟨rfl, rfl⟩
            go_wp2_with fail
            refine (HK.out _).mono ?_
            rintro e w3 ⟨rfl, rfl⟩
            go_wp2
            have h1 := HS.out
            rw [HC.out] at h1
            exact bodyPost_ret (v := .tuple #[.int .i64 6, .int .i64 k]) (by simp [results, Tryz.results16, go_sem]) rfl ⟨by rw [h1]; rfl, HB.out⟩
          · go_wp2_with fail
            refine (HP.out _).mono ?_
            rintro e w3 ⟨rfl, rfl⟩
            go_wp2_with fail
            refine (HK.out _).mono ?_
            rintro e w3 ⟨rfl, rfl⟩
            go_wp2
            go_roundg (l.length - (k + 1))
            case measure => rw [HG.out]; omega
            case rel => exact ⟨k + 1, rfl, by omega, rfl, by have h1 := HS.out; rw [HC.out] at h1; rw [h1]; rfl, HB.out⟩
      · have hl : ¬ (k : Int) < (l.length : Int) := by omega
        have hk' : k = l.length := by omega
        go_wp2
        have h1 := HC.out
        rw [hk', List.drop_length] at h1
        exact bodyPost_ret (v := .tuple #[.int .i64 0, .int .i64 0]) (by simp [results, Tryz.results16, go_sem]) rfl ⟨by rw [List.drop_zero] at h1; rw [← h1]; rfl, HB.out⟩
end Go.Proofs.YtidjnfjpdnjogaaGreatDoor

/-
  Package prog: what Run calls: the words one behind the other. Conditions: none.
-/
namespace Go.Proofs.YtidjnfjpdnjogaaGreatDoor
open Go.RowKit Go.Lib

theorem moveB_len {w : List UInt8} {st st' : List Nat} (h : moveB w st = .ok st') : st'.length ≤ st.length + 1 := by
  unfold moveB at h
  split at h
  · split at h <;> cases h <;> simp
  · split at h
    · split at h <;> cases h <;> simp
      omega
    · split at h
      · split at h <;> cases h <;> simp
      · split at h <;> cases h <;> simp
theorem otherB_len {en : En} {w : List UInt8} {st st' : List Nat} (h : otherB en w st = .ok st') : st'.length ≤ st.length + 1 := by
  unfold otherB at h
  split at h
  · cases h; simp
  split at h
  · cases h; simp
  split at h
  · cases h; simp
  split at h
  · cases h; simp
  split at h
  · split at h
    · split at h <;> cases h <;> simp
    · cases h
  split at h
  · split at h <;> cases h <;> simp
  split at h
  · cases h
  · cases h; simp
theorem stepB_len {en : En} {w : List UInt8} {st st' : List Nat} (h : stepB en w st = .ok st') : st'.length ≤ st.length + 1 := by
  unfold stepB at h
  split at h
  · split at h <;> cases h <;> simp
  · split at h
    · exact moveB_len h
    · exact otherB_len h

/-- What comes of all words. -/
def RunPost (B M : Nat) (en : En) (o : Out) (w : World) (e : Ending) (w' : World) : Prop := match o with
  | .ok [f] => e = .returned (.tuple #[]) ∧ (∃ v', Mach B M en [f] v' w') ∧ Wk B M w w'
  | .ok _ => e = .panicked [{ v := .iface 34 (.int .i64 6), recovered := false }] ∧ Wk B M w w'
  | .rt => RtPost B M w e w'
  | .fail => e = .panicked [{ v := .iface 9 (.string ⟨#[102, 97, 105, 108]⟩), recovered := false }] ∧ Wk B M w w'

theorem words_step (en : En) (l : List ByteArray) (k : Nat) (h : k < l.length) (st : List Nat) : wordsGo en (tl (l.drop k)) st = match stepB en (l.getD k ByteArray.empty).data.toList st with
    | .ok st' => wordsGo en (tl (l.drop (k + 1))) st'
    | x => x := by
  have e : l.drop k = l.getD k ByteArray.empty :: l.drop (k + 1) := by
    rw [List.drop_eq_getElem_cons h, List.getD_eq_getElem?_getD, List.getElem?_eq_getElem h]; rfl
  rw [e]; rfl

theorem TxIn.wk {w w' : World} {B M b off : Nat} {l : List ByteArray} (h : TxIn w b off l) (hW : Wk B M w w') (h1 : b < B) (h2 : b ≠ M) : TxIn w' b off l := h.block hW.size (hW.block b h1 h2)

set_option maxHeartbeats 1000000 in
set_option maxRecDepth 100000 in
theorem run1_any (B M PB MB : Nat) (en : En) (ho : en.Ok) (l : List ByteArray) (hl64 : l.length ≤ 64) (hf : Fits l) (po : Option Addr) (cap : Nat) (v : Value) (w : World) (h : Mach B M en [] v w)
    (hx : l = [] ∨ ∃ b off, po = some ⟨b, off, none⟩ ∧ TxIn w b off l ∧ b < B ∧ b ≠ M)
    (hP : w.heap[PB]? = some (.cells #[.slice po l.length cap] 38)) (hM : w.heap[MB]? = some (.cells #[.pointer (some ⟨M, 0, none⟩)] 75)) (hPB : PB < B ∧ PB ≠ M) (hMB : MB < B ∧ MB ≠ M) :
    Calls Tryz.prog 44 #[.pointer (some ⟨PB, 0, none⟩), .pointer (some ⟨MB, 0, none⟩)] w (RunPost B M en (wordsGo en (tl (l.drop 0)) []) w) := by
  have p1 := (cell_of_block1 hP).1
  have HX := Lib.hid hx; clear hx
  have HM0 := Lib.hid hM; clear hM
  have HF := Lib.hid hf; clear hf
  have HO := Lib.hid ho; clear ho
  have HW := Lib.hid h; clear h
  have HB := Lib.hid (And.intro hPB hMB)
  clear hPB hMB hP
  generalize hr : wordsGo en (tl (l.drop 0)) [] = r
  have HR := Lib.hid hr; clear hr
  have h64 : (l.length : Int) ≤ 64 := by omega
  go_enter Tryz.func44, Tryz.ntmps44
  go_wp2_with fail
  go_loopg [7] l.length (fun g i wr => ∃ (k : Nat) (st : List Nat) (vk : Value), g = l.length - k ∧ k ≤ l.length ∧ i = .int .i64 k ∧ wordsGo en (tl (l.drop k)) st = r ∧ st.length ≤ k ∧ Mach B M en st vk wr ∧ Wk B M w wr)
  case atStart => exact ⟨0, [], v, by omega, by omega, rfl, HR.out, by simp, HW.out, Wk.refl _ _ _⟩
  case round =>
    obtain ⟨k, st, vk, hg, hk, rfl, hgo, hst, hmk, hwk⟩ := hrel
    have HG := Lib.hid hg; clear hg
    have HMB : wr.heap[MB]? = some (.cells #[.pointer (some ⟨M, 0, none⟩)] 75) := (hwk.block MB HB.out.2.1 HB.out.2.2).trans HM0.out
    have c0 := (cell_of_block1 HMB).1
    have hzz : MB < wr.heap.size := lt_of_block HMB
    clear HMB
    by_cases hlt : k < l.length
    · have hl : (k : Int) < (l.length : Int) := by omega
      have hw1 : IntKind.i64.wrap ((k : Int) + 1) = (k : Int) + 1 := IntWalk.i64_in _ (by omega)
      rcases HX.out with rfl | ⟨b, off, rfl, hx, hb1, hb2⟩
      · simp at hlt
      have c1 := (hx.wk hwk hb1 hb2).c k hlt
      have hstep := words_step en l k hlt st
      have hsz := fits_at HF.out k hlt
      rw [hgo] at hstep
      revert c1 hstep hsz
      generalize l.getD k ByteArray.empty = s
      intro c1 hstep hsz
      have HS := Lib.hid (step_any B M en st vk (by omega) HO.out s hsz wr hmk)
      have hlen := fun st' => stepB_len (en := en) (w := s.data.toList) (st := st) (st' := st')
      have HWK := Lib.hid hwk
      clear hsz hgo hmk hwk hx
      revert HS hstep hlen
      generalize stepB en s.data.toList st = o
      intro hstep HS hlen
      cases o with
      | ok st' =>
        have hl2 := hlen st' rfl
        have HST := Lib.hid hstep
        clear hlen hstep
        go_wp2_with fail
        refine HS.out.mono ?_
        rintro e w3 ⟨rfl, ⟨v3, h3⟩, hW3⟩
        have HQ := Lib.hid (And.intro h3 (HWK.out.trans hW3))
        clear h3 hW3
        go_wp2
        go_roundg (l.length - (k + 1))
        case measure => rw [HG.out]; omega
        case rel => exact ⟨k + 1, st', v3, rfl, by omega, rfl, HST.out.symm, by omega, HQ.out.1, HQ.out.2⟩
      | rt =>
        have hr2 : r = .rt := hstep
        clear hlen hstep
        subst hr2
        go_wp2_with fail
        refine HS.out.mono ?_
        rintro e w3 ⟨⟨t, pv, rfl, ht⟩, hW⟩
        exact ⟨rfl, ⟨t, pv, rfl, ht⟩, HWK.out.trans hW⟩
      | fail =>
        have hr2 : r = .fail := hstep
        clear hlen hstep
        subst hr2
        go_wp2_with fail
        refine HS.out.mono ?_
        rintro e w3 ⟨rfl, hW⟩
        exact ⟨rfl, rfl, HWK.out.trans hW⟩
    · have hl : ¬ (k : Int) < (l.length : Int) := by omega
      have hk' : k = l.length := by omega
      rw [hk', List.drop_length] at hgo
      have hr2 : r = .ok st := hgo.symm
      subst hr2
      clear hgo hk' hlt
      obtain ⟨pv, pc, rfl⟩ := hmk.slice
      obtain ⟨-, -, -, -, -, -, c6, c7⟩ := hmk.cells
      have hz := hmk.lt
      have HMK := Lib.hid (And.intro hmk hwk)
      clear hmk hwk
      rcases st with _ | ⟨f, _ | ⟨f2, t⟩⟩
      rotate_left
      · have c6' : wr.cell? ⟨M, 6, none⟩ = some (.slice pv 1 pc) := c6
        clear c6
        go_wp2
        go_end0
        exact ⟨rfl, ⟨_, HMK.out.1⟩, HMK.out.2⟩
      rotate_left
      · have c6' : wr.cell? ⟨M, 6, none⟩ = some (.slice pv 0 pc) := c6
        clear c6
        go_wp2_with fail
        refine (must_yes 6 (by decide) _).mono ?_
        rintro e w3 ⟨rfl, rfl⟩
        exact ⟨rfl, rfl, HMK.out.2⟩
      · have c6' : wr.cell? ⟨M, 6, none⟩ = some (.slice pv (t.length + 2) pc) := c6
        have hne : ((t.length : Int) + 2 != 1) = true := by simp; omega
        clear c6
        go_wp2_with fail
        refine (must_yes 6 (by decide) _).mono ?_
        rintro e w3 ⟨rfl, rfl⟩
        exact ⟨rfl, rfl, HMK.out.2⟩
end Go.Proofs.YtidjnfjpdnjogaaGreatDoor

/-
  Package prog: Run. Conditions: none.
-/
namespace Go.Proofs.YtidjnfjpdnjogaaGreatDoor
open Go.RowKit Go.Lib

/-- What guard.Do tells of the words. -/
def DoPost (M : Nat) (en : En) (o : Out) (w : World) (e : Ending) (w' : World) : Prop := (match o with
  | .ok [f] => e = .returned (fault 0 0 ⟨#[]⟩) ∧ ∃ B v', Mach B M en [f] v' w'
  | .ok _ => e = .returned (fault 6 2 ⟨#[]⟩)
  | .rt => e = .returned (fault 21 1 ⟨#[]⟩)
  | .fail => e = .returned (fault 21 3 ⟨#[102, 97, 105, 108]⟩)) ∧ Wk w.heap.size M w w'

theorem keeps_of_wk {f : Value} {w w1 : World} {M : Nat} (hM : M < w.heap.size) (h : Wk (w.heap.size + 5) M (inW f w) w1) : Keeps w.heap.size (inW f w) w1 :=
  ⟨h.size, fun k h1 h2 => h.block k (by rw [inW_size] at h2; exact h2) (by omega)⟩
theorem wk_do {f : Value} {w w1 w2 : World} {M : Nat} (h : Wk (w.heap.size + 5) M (inW f w) w1) (O : Off w.heap.size 5 w1 w2) : Wk w.heap.size M w w2 := by
  have hI := inW_below f w
  have hz := h.size
  rw [inW_size] at hz
  refine ⟨(O.os.trans h.os).trans hI.os, (O.tape.trans h.tape).trans hI.tape, (O.output.trans h.output).trans hI.output, by have := O.size; omega, fun k hk hm => ?_⟩
  rw [O.block k (by omega) (Or.inl hk), h.block k (by omega) hm, hI.block k hk]
theorem mach_do {w w1 w2 : World} {M : Nat} {en : En} {st : List Nat} {v : Value} (hM : M < w.heap.size) (h : Mach (w.heap.size + 5) M en st v w1) (O : Off w.heap.size 5 w1 w2) : Mach (w.heap.size + 5) M en st v w2 := by
  have hbw := h.bw
  have hs := O.size
  refine ⟨(O.block M (by omega) (Or.inl hM)).trans h.at_, own_same h.own (fun g hg => O.block g (h.own.lt g hg).2 (Or.inr (h.own.lt g hg).1)), h.mb, by omega, h.fit⟩

theorem do_run (M PB MB : Nat) (en : En) (ho : en.Ok) (l : List ByteArray) (hl64 : l.length ≤ 64) (hf : Fits l) (po : Option Addr) (cap : Nat) (w : World)
    (hat : w.heap[M]? = some (.cells (en.cells (.slice none 0 0)) 78))
    (hx : l = [] ∨ ∃ b off, po = some ⟨b, off, none⟩ ∧ TxIn w b off l ∧ b ≠ M)
    (hP : w.heap[PB]? = some (.cells #[.slice po l.length cap] 38)) (hMB : w.heap[MB]? = some (.cells #[.pointer (some ⟨M, 0, none⟩)] 75)) (hPM : PB ≠ M) (hMM : MB ≠ M) :
    Calls Tryz.prog 43 #[.func (.func 44) #[] #[.pointer (some ⟨PB, 0, none⟩), .pointer (some ⟨MB, 0, none⟩)]] w (DoPost M en (wordsGo en (tl l) []) w) := by
  obtain ⟨f, hfn⟩ : ∃ f : Value, f = .func (.func 44) #[] #[.pointer (some ⟨PB, 0, none⟩), .pointer (some ⟨MB, 0, none⟩)] := ⟨_, rfl⟩
  have hI := inW_below f w
  have hMl := lt_of_block hat
  have hPl := lt_of_block hP
  have hBl := lt_of_block hMB
  have hmach : Mach (w.heap.size + 5) M en [] (.slice none 0 0) (inW f w) :=
    ⟨(hI.block M hMl).trans hat, World.ownsRow_nil _ _ _ _, by omega, by rw [inW_size]; exact Nat.le_refl _, by simp⟩
  have hrun := run1_any (w.heap.size + 5) M PB MB en ho l hl64 hf po cap _ (inW f w) hmach
    (by rcases hx with h | ⟨b, off, h1, h2, h3⟩
        · exact Or.inl h
        · exact Or.inr ⟨b, off, h1, h2.below hI, by have := h2.bl; omega, h3⟩)
    ((hI.block PB hPl).trans hP) ((hI.block MB hBl).trans hMB) ⟨by omega, hPM⟩ ⟨by omega, hMM⟩
  rw [List.drop_zero] at hrun
  revert hrun
  generalize wordsGo en (tl l) [] = o
  intro hrun
  unfold RunPost at hrun
  unfold DoPost
  rw [hfn] at hrun hI hmach
  match o, hrun with
  | .ok [x], hrun =>
    refine (do_ok _ _ w (fun w1 => (∃ v', Mach (w.heap.size + 5) M en [x] v' w1) ∧ Wk (w.heap.size + 5) M (inW (.func (.func 44) #[] #[.pointer (some ⟨PB, 0, none⟩), .pointer (some ⟨MB, 0, none⟩)]) w) w1) (fun _ => by kernel_rfl) (hrun.mono ?_)).mono ?_
    · rintro e w1 ⟨rfl, h1, h2⟩
      exact ⟨rfl, keeps_of_wk hMl h2, h1, h2⟩
    · rintro e w2 ⟨rfl, w1, ⟨⟨v', h1⟩, h2⟩, O⟩
      exact ⟨⟨rfl, _, v', mach_do hMl h1 O⟩, wk_do h2 O⟩
  | .ok [], hrun =>
    refine (do_bad _ _ w 6 2 ⟨#[]⟩ (fun w1 => Wk (w.heap.size + 5) M (inW (.func (.func 44) #[] #[.pointer (some ⟨PB, 0, none⟩), .pointer (some ⟨MB, 0, none⟩)]) w) w1) (fun _ => by kernel_rfl) (hrun.mono ?_)).mono ?_
    · rintro e w1 ⟨rfl, h2⟩
      exact ⟨⟨_, _, rfl, told_num 6 (by decide)⟩, keeps_of_wk hMl h2, h2⟩
    · rintro e w2 ⟨rfl, w1, h2, O⟩
      exact ⟨rfl, wk_do h2 O⟩
  | .ok (x :: y :: t), hrun =>
    refine (do_bad _ _ w 6 2 ⟨#[]⟩ (fun w1 => Wk (w.heap.size + 5) M (inW (.func (.func 44) #[] #[.pointer (some ⟨PB, 0, none⟩), .pointer (some ⟨MB, 0, none⟩)]) w) w1) (fun _ => by kernel_rfl) (hrun.mono ?_)).mono ?_
    · rintro e w1 ⟨rfl, h2⟩
      exact ⟨⟨_, _, rfl, told_num 6 (by decide)⟩, keeps_of_wk hMl h2, h2⟩
    · rintro e w2 ⟨rfl, w1, h2, O⟩
      exact ⟨rfl, wk_do h2 O⟩
  | .rt, hrun =>
    refine (do_bad _ _ w 21 1 ⟨#[]⟩ (fun w1 => Wk (w.heap.size + 5) M (inW (.func (.func 44) #[] #[.pointer (some ⟨PB, 0, none⟩), .pointer (some ⟨MB, 0, none⟩)]) w) w1) (fun _ => by kernel_rfl) (hrun.mono ?_)).mono ?_
    · rintro e w1 ⟨⟨t, pv, rfl, ht⟩, h2⟩
      exact ⟨⟨_, _, rfl, told_rt t ht pv⟩, keeps_of_wk hMl h2, h2⟩
    · rintro e w2 ⟨rfl, w1, h2, O⟩
      exact ⟨rfl, wk_do h2 O⟩
  | .fail, hrun =>
    refine (do_bad _ _ w 21 3 ⟨#[102, 97, 105, 108]⟩ (fun w1 => Wk (w.heap.size + 5) M (inW (.func (.func 44) #[] #[.pointer (some ⟨PB, 0, none⟩), .pointer (some ⟨MB, 0, none⟩)]) w) w1) (fun _ => by kernel_rfl) (hrun.mono ?_)).mono ?_
    · rintro e w1 ⟨rfl, h2⟩
      exact ⟨⟨_, _, rfl, told_text _⟩, keeps_of_wk hMl h2, h2⟩
    · rintro e w2 ⟨rfl, w1, h2, O⟩
      exact ⟨rfl, wk_do h2 O⟩
end Go.Proofs.YtidjnfjpdnjogaaGreatDoor

/-
  Package prog: Run. Conditions: none.
-/
namespace Go.Proofs.YtidjnfjpdnjogaaGreatDoor
open Go.RowKit Go.Lib

theorem neqFault (w : World) (e k e' k' : Int) (s s' : ByteArray) : (binOp .neq 47 (.agg #[.int .i64 e, .int .i64 k, .string s]) (.agg #[.int .i64 e', .int .i64 k', .string s'])).run Tryz.prog w = .ok (.bool (!((e == e') && ((k == k') && (s.toList == s'.toList))))) w := by
  simp [go_sem]
  by_cases h1 : e = e' <;> by_cases h2 : k = k' <;> by_cases h3 : s.toList = s'.toList <;> simp [h1, h2, h3]

/-- The world in which Run calls guard.Do. -/
def machW (cs : Array Value) (w : World) : World := (w.alloc (.cells cs 78)).alloc (.cells #[.pointer (some ⟨w.heap.size, 0, none⟩)] 75)
theorem machW_size (cs : Array Value) (w : World) : (machW cs w).heap.size = w.heap.size + 2 := by simp [machW]
theorem machW_m (cs : Array Value) (w : World) : (machW cs w).heap[w.heap.size]? = some (.cells cs 78) := by
  unfold machW
  rw [Below.heap_alloc _ _ _ (by simp), new_block]
theorem machW_p (cs : Array Value) (w : World) : (machW cs w).heap[w.heap.size + 1]? = some (.cells #[.pointer (some ⟨w.heap.size, 0, none⟩)] 75) := new_block2 w _ _
theorem machW_below (cs : Array Value) (w : World) : Below w.heap.size w (machW cs w) := (below_alloc w _).trans ((below_alloc _ _).mono (by simp))

/-- What a run tells, as a value. -/
def Tell.val (r : Tell) : Value := .tuple #[.float .f64 r.v, fault r.err r.kind ⟨r.text.toArray⟩]
def RunTells (r : Tell) (w : World) (e : Ending) (w' : World) : Prop := e = .returned r.val ∧ Below w.heap.size w w'

/-- The three boxes that Run makes first. -/
def boxW (v : Value) (en : En) (w : World) : World := ((w.alloc (.cells #[v] 38)).alloc (.cells #[.float .f64 en.s, .int .i64 en.id, .string en.ty, .string en.d, .float .f64 en.v, .int .i64 en.ver] 53)).alloc (.cells #[.int .i64 0, .int .i64 0, .string ⟨#[]⟩] 47)

theorem boxW_f (v : Value) (en : En) (w : World) : (boxW v en w).heap[w.heap.size + 1 + 1]? = some (.cells #[.int .i64 0, .int .i64 0, .string ⟨#[]⟩] 47) := by
  show (((w.heap.push _).push _).push _)[_]? = _
  simp only [Array.getElem?_push, Array.size_push]
  rw [if_pos trivial]
theorem boxW_e (v : Value) (en : En) (w : World) : (boxW v en w).heap[w.heap.size + 1]? = some (.cells #[.float .f64 en.s, .int .i64 en.id, .string en.ty, .string en.d, .float .f64 en.v, .int .i64 en.ver] 53) := by
  show (((w.heap.push _).push _).push _)[_]? = _
  simp only [Array.getElem?_push, Array.size_push]
  rw [if_neg (by omega), if_pos trivial]
theorem boxW_p (v : Value) (en : En) (w : World) : (boxW v en w).heap[w.heap.size]? = some (.cells #[v] 38) := by
  show (((w.heap.push _).push _).push _)[_]? = _
  simp only [Array.getElem?_push, Array.size_push]
  rw [if_neg (by omega), if_neg (by omega), if_pos trivial]
theorem boxW_below (v : Value) (en : En) (w : World) : Below w.heap.size w (boxW v en w) := ((below_alloc w _).trans ((below_alloc _ _).mono (by simp))).trans ((below_alloc _ _).mono (by simp; omega))
theorem boxW_size (v : Value) (en : En) (w : World) : (boxW v en w).heap.size = w.heap.size + 3 := by simp [boxW]
theorem env_cells {w : World} {b : Nat} {en : En} (h : w.heap[b]? = some (.cells #[.float .f64 en.s, .int .i64 en.id, .string en.ty, .string en.d, .float .f64 en.v, .int .i64 en.ver] 53)) :
    w.cell? ⟨b, 0, none⟩ = some (.float .f64 en.s) ∧ w.cell? ⟨b, 1, none⟩ = some (.int .i64 en.id) ∧ w.cell? ⟨b, 2, none⟩ = some (.string en.ty) ∧ w.cell? ⟨b, 3, none⟩ = some (.string en.d) ∧ w.cell? ⟨b, 4, none⟩ = some (.float .f64 en.v) ∧ w.cell? ⟨b, 5, none⟩ = some (.int .i64 en.ver) := by
  simp [World.cell?, h]

set_option maxRecDepth 100000 in
theorem run_form (en : En) (l : List ByteArray) (hf : Fits l) (v : Value) (w : World) (h : Txs w v l) (hc : (checkL (tl l)).1 ≠ 0) :
    Calls Tryz.prog 12 #[.agg #[v], en.val] w (RunTells ⟨0, 6, 0, []⟩ w) := by
  have hb0 : Below w.heap.size w (boxW v en w) := ((below_alloc w _).trans ((below_alloc _ _).mono (by simp))).trans ((below_alloc _ _).mono (by simp; omega))
  have HK := Lib.hid (check_any l hf v (boxW v en w) (h.below hb0))
  have hne : ((checkL (tl l)).1 != 0) = true := by simpa using hc
  have HB := Lib.hid hb0
  have hb3 := boxW_f v en w
  have H3 := Lib.hid hb3
  clear hb3 hb0 hf h hc
  unfold CheckPost at HK
  revert HK hne
  generalize (checkL (tl l)).1 = c
  generalize (checkL (tl l)).2 = d
  intro HK hne
  go_enter Tryz.func12, Tryz.ntmps12
  go_wp2_with fail
  refine HK.out.mono ?_
  rintro e w1 ⟨rfl, hb1⟩
  have hx : w1.heap[w.heap.size + 1 + 1]? = some (.cells #[.int .i64 0, .int .i64 0, .string ⟨#[]⟩] 47) := (hb1.block _ (lt_of_block H3.out)).trans H3.out
  obtain ⟨f1, f2, f3, f4, f5, f6⟩ := cells_of_fault hx
  have hlt := lt_of_block hx
  have HB1 := Lib.hid (HB.out.trans (hb1.mono HB.out.size))
  clear hx hb1
  go_wp2
  refine bodyPost_ret (v := .tuple #[.float .f64 0, fault 6 0 ⟨#[]⟩]) (by simp [results, Tryz.results12, go_sem, fault, f1, f2, f3]) rfl ⟨rfl, ?_⟩
  exact ((HB1.out.setCell (p := ⟨w.heap.size + 1 + 1, 0, none⟩) (by simp <;> omega) _).setCell (p := ⟨w.heap.size + 1 + 1, 1, none⟩) (by simp <;> omega) _).setCell (p := ⟨w.heap.size + 1 + 1, 2, none⟩) (by simp <;> omega) _

/-- What the words told, as Run tells it. -/
def tellOf : Out → Tell
  | .ok [f] => ⟨f, 0, 0, []⟩
  | .ok _ => ⟨0, 6, 2, []⟩
  | .rt => ⟨0, 21, 1, []⟩
  | .fail => ⟨0, 21, 3, wFail⟩
theorem do_cases {M : Nat} {en : En} {o : Out} {w w' : World} {e : Ending} (h : DoPost M en o w e w') :
    ((∃ f, tellOf o = ⟨f, 0, 0, []⟩ ∧ e = .returned (fault 0 0 ⟨#[]⟩) ∧ ∃ B v', Mach B M en [f] v' w') ∨ ∃ er kd tx, tellOf o = ⟨0, er, kd, tx⟩ ∧ e = .returned (fault er kd ⟨tx.toArray⟩) ∧ (er == 0) = false) ∧ Wk w.heap.size M w w' := by
  obtain ⟨h1, h2⟩ := h
  refine ⟨?_, h2⟩
  match o, h1 with
  | .ok [f], h1 => exact Or.inl ⟨f, rfl, h1⟩
  | .ok [], h1 => exact Or.inr ⟨6, 2, [], rfl, h1, by decide⟩
  | .ok (x :: y :: t), h1 => exact Or.inr ⟨6, 2, [], rfl, h1, by decide⟩
  | .rt, h1 => exact Or.inr ⟨21, 1, [], rfl, h1, by decide⟩
  | .fail, h1 => exact Or.inr ⟨21, 3, wFail, rfl, h1, by decide⟩

set_option maxRecDepth 100000 in
theorem run_do (en : En) (ho : en.Ok) (l : List ByteArray) (hf : Fits l) (v : Value) (w : World) (h : Txs w v l) (hc : checkL (tl l) = (0, 0)) (hl64 : l.length ≤ 64) :
    Calls Tryz.prog 12 #[.agg #[v], en.val] w (RunTells (runB en (tl l)) w) := by
  have HK := Lib.hid (check_any l hf v (boxW v en w) (h.below (boxW_below v en w)))
  unfold CheckPost at HK
  rw [hc] at HK
  have hrb : runB en (tl l) = tellOf (wordsGo en (tl l) []) := by unfold runB tellOf; rw [hc]; rfl
  rw [hrb]
  obtain ⟨po, cap, rfl⟩ := h.slice
  have HT := Lib.hid h
  have hmf : ∀ (fn : Fn) (first cap : Array Value) (w : World), (Instr.makeFunc fn first cap).run Tryz.prog w = .ok (.func fn first cap) w := fun _ _ _ _ => rfl
  have HO := Lib.hid ho
  have HF := Lib.hid hf
  clear h hc hrb ho hf
  go_enter Tryz.func12, Tryz.ntmps12
  go_wp2_with fail
  refine HK.out.mono ?_
  rintro e w1 ⟨rfl, hb1⟩
  have hz1 := hb1.size
  rw [boxW_size] at hz1
  have he : w1.heap[w.heap.size + 1]? = some _ := (hb1.block _ (by rw [boxW_size]; omega)).trans (boxW_e (.slice po l.length cap) en w)
  obtain ⟨e0, e1, e2, e3, e4, e5⟩ := env_cells he
  clear he
  have HB1 := Lib.hid hb1
  clear hb1
  go_wp2_with fail
  have hpb : w1.heap[w.heap.size]? = some (.cells #[.slice po l.length cap] 38) := (HB1.out.block _ (by rw [boxW_size]; omega)).trans (boxW_p (.slice po l.length cap) en w)
  have hfb : w1.heap[w.heap.size + 1 + 1]? = some (.cells #[.int .i64 0, .int .i64 0, .string ⟨#[]⟩] 47) := (HB1.out.block _ (by rw [boxW_size]; omega)).trans (boxW_f (.slice po l.length cap) en w)
  have hw1 : Below w.heap.size w w1 := (boxW_below (.slice po l.length cap) en w).trans (HB1.out.mono (by rw [boxW_size]; omega))
  have hmb := machW_below (en.cells (.slice none 0 0)) w1
  have hD := do_run w1.heap.size w.heap.size (w1.heap.size + 1) en HO.out l hl64 HF.out po cap (machW (en.cells (.slice none 0 0)) w1) (machW_m _ w1) (by
      rcases HT.out with ⟨h, _⟩ | ⟨b, off, cap', hv, hx⟩
      · exact Or.inl h
      · right
        obtain ⟨rfl, -, -⟩ : po = some ⟨b, off, none⟩ ∧ l.length = l.length ∧ cap = cap' := by simpa using hv
        exact ⟨b, off, rfl, (hx.below hw1).below hmb, by have := hx.bl; omega⟩) ((hmb.block _ (lt_of_block hpb)).trans hpb) (machW_p _ w1) (by omega) (by omega)
  refine hD.mono ?_
  clear hD
  intro e w2 hdp
  obtain ⟨hd, hW⟩ := do_cases hdp
  clear hdp
  rw [machW_size] at hW
  have hz2 := hW.size
  rw [machW_size] at hz2
  have hfb2 : w2.heap[w.heap.size + 1 + 1]? = some (.cells #[.int .i64 0, .int .i64 0, .string ⟨#[]⟩] 47) := (hW.block _ (by omega) (by omega)).trans ((hmb.block _ (lt_of_block hfb)).trans hfb)
  have hmp2 : w2.heap[w1.heap.size + 1]? = some (.cells #[.pointer (some ⟨w1.heap.size, 0, none⟩)] 75) := (hW.block _ (by omega) (by omega)).trans (machW_p _ w1)
  have hB2 : Below w.heap.size w w2 := (hw1.trans (hmb.mono hw1.size)).trans ⟨hW.os, hW.tape, hW.output, hW.size, fun k hk => hW.block k (by omega) (by omega)⟩
  have l1 : w.heap.size + 1 + 1 < w2.heap.size := by omega
  have l2 : w1.heap.size + 1 < w2.heap.size := by omega
  have l3 : w1.heap.size < w2.heap.size := by omega
  have HB2 := Lib.hid hB2
  have HZ := Lib.hid hz1
  clear hB2 hz2 hW hmb hw1 hfb hpb e0 e1 e2 e3 e4 e5 HB1 HK HT HO HF
  have hne := neqFault
  rcases hd with ⟨f, ht, rfl, B, v', hm⟩ | ⟨er, kd, tx, ht, rfl, her⟩
  · have HE := Lib.hid ht
    clear ht
    unfold fault
    obtain ⟨g, cp, rfl, _, hc, _⟩ := hm.top
    have hg : g < w2.heap.size := (hm.own.lt g rfl).2
    have c6 : w2.cell? ⟨w1.heap.size, 6, none⟩ = some (.slice (some ⟨g, 0, none⟩) 1 cp) := hm.cells.2.2.2.2.2.2.1
    have hc' : w2.cell? ⟨g, 0, none⟩ = some (.float .f64 f) := hc
    clear hm hc
    go_wp2_with fail
    have hbl := below_alloc w2 (.cells #[.int .i64 0, .int .i64 0, .string ⟨#[]⟩] 47)
    have qb := new_block w2 (.cells #[.int .i64 0, .int .i64 0, .string ⟨#[]⟩] 47)
    have qf := (hbl.block _ l1).trans hfb2
    have qm := (hbl.block _ l2).trans hmp2
    have k6 := (World.cell?_of_block (a := ⟨w1.heap.size, 6, none⟩) (hbl.block _ l3)).trans c6
    have kc := (World.cell?_of_block (a := ⟨g, 0, none⟩) (hbl.block _ hg)).trans hc'
    have hBl := HB2.out.trans (hbl.mono (by omega))
    have hz3 : w.heap.size + 1 + 1 < (w2.alloc (.cells #[.int .i64 0, .int .i64 0, .string ⟨#[]⟩] 47)).heap.size := by simp; omega
    clear c6 hc' l1 l2 l3 hfb2 hmp2 HB2 hg hbl
    revert qb qf qm k6 kc hBl hz3
    generalize w2.alloc (.cells #[.int .i64 0, .int .i64 0, .string ⟨#[]⟩] 47) = w3
    intro qb qf qm k6 kc hBl hz3
    obtain ⟨q1, q2, q3, -, -, -⟩ := cells_of_fault qb
    obtain ⟨m1, -⟩ := cell_of_block1 qm
    have HBL := Lib.hid hBl
    have HQF := Lib.hid qf
    clear qb qm hBl qf
    go_still_tail 8, (by kernel_rfl)
    change wpList _ _ _ _ _ w3.drew
    have g1 : w3.drew.heap[w.heap.size + 1 + 1]? = some (.cells #[.int .i64 0, .int .i64 0, .string ⟨#[]⟩] 47) := HQF.out
    have hB4 : Below w.heap.size w w3.drew := HBL.out.trans ⟨rfl, rfl, rfl, Nat.le_refl _, fun _ _ => rfl⟩
    have hz4 : w.heap.size + 1 + 1 < w3.drew.heap.size := hz3
    clear q1 q2 q3 m1 k6 kc HBL HQF hz3
    revert g1 hB4 hz4
    generalize w3.drew = w4
    intro g1 hB4 hz4
    obtain ⟨f1, f2, f3, f4, f5, f6⟩ := cells_of_fault g1
    have HB4 := Lib.hid hB4
    clear g1 hB4
    go_wp2_with fail
    refine bodyPost_ret (v := .tuple #[.float .f64 f, fault 0 0 ⟨#[]⟩]) (by simp [results, Tryz.results12, go_sem, fault, f1, f2, f3]) rfl ⟨by rw [HE.out]; rfl, ?_⟩
    exact ((HB4.out.setCell (p := ⟨w.heap.size + 1 + 1, 0, none⟩) (by simp <;> omega) _).setCell (p := ⟨w.heap.size + 1 + 1, 1, none⟩) (by simp <;> omega) _).setCell (p := ⟨w.heap.size + 1 + 1, 2, none⟩) (by simp <;> omega) _
  · have HE := Lib.hid ht
    clear ht
    unfold fault
    obtain ⟨tx', htx⟩ : ∃ t : ByteArray, t = ⟨tx.toArray⟩ := ⟨_, rfl⟩
    have HTX := Lib.hid htx
    rw [← htx]
    clear htx
    go_wp2_with fail
    have hbl := below_alloc w2 (.cells #[.int .i64 er, .int .i64 kd, .string tx'] 47)
    have qb := new_block w2 (.cells #[.int .i64 er, .int .i64 kd, .string tx'] 47)
    have qf := (hbl.block _ l1).trans hfb2
    have hBl := HB2.out.trans (hbl.mono (by omega))
    have hz3 : w.heap.size + 1 + 1 < (w2.alloc (.cells #[.int .i64 er, .int .i64 kd, .string tx'] 47)).heap.size := by simp; omega
    clear l1 l2 l3 hfb2 hmp2 HB2 hbl
    revert qb qf hBl hz3
    generalize w2.alloc (.cells #[.int .i64 er, .int .i64 kd, .string tx'] 47) = w3
    intro qb qf hBl hz3
    obtain ⟨q1, q2, q3, -, -, -⟩ := cells_of_fault qb
    have HBL := Lib.hid hBl
    have HQF := Lib.hid qf
    clear qb hBl qf
    go_still_tail 2, (by kernel_rfl)
    change wpList _ _ _ _ _ w3.drew
    have g1 : w3.drew.heap[w.heap.size + 1 + 1]? = some (.cells #[.int .i64 0, .int .i64 0, .string ⟨#[]⟩] 47) := HQF.out
    have hB4 : Below w.heap.size w w3.drew := HBL.out.trans ⟨rfl, rfl, rfl, Nat.le_refl _, fun _ _ => rfl⟩
    have hz4 : w.heap.size + 1 + 1 < w3.drew.heap.size := hz3
    clear q1 q2 q3 HBL HQF hz3
    revert g1 hB4 hz4
    generalize w3.drew = w4
    intro g1 hB4 hz4
    obtain ⟨f1, f2, f3, f4, f5, f6⟩ := cells_of_fault g1
    have HB4 := Lib.hid hB4
    clear g1 hB4
    go_wp2_with fail
    refine bodyPost_ret (v := .tuple #[.float .f64 0, fault er kd tx']) (by simp [results, Tryz.results12, go_sem, fault, f1, f2, f3]) rfl ⟨by rw [HE.out, HTX.out]; rfl, ?_⟩
    exact ((HB4.out.setCell (p := ⟨w.heap.size + 1 + 1, 0, none⟩) (by simp <;> omega) _).setCell (p := ⟨w.heap.size + 1 + 1, 1, none⟩) (by simp <;> omega) _).setCell (p := ⟨w.heap.size + 1 + 1, 2, none⟩) (by simp <;> omega) _

theorem run_any (en : En) (ho : en.Ok) (l : List ByteArray) (hf : Fits l) (v : Value) (w : World) (h : Txs w v l) :
    Calls Tryz.prog 12 #[.agg #[v], en.val] w (RunTells (runB en (tl l)) w) := by
  by_cases hc : (checkL (tl l)).1 = 0
  · have hl : l.length ≤ 64 := by
      unfold checkL at hc
      split at hc
      · cases hc
      · rename_i h; simpa [tl] using h
    have hc2 : checkL (tl l) = (0, 0) := by
      unfold checkL at hc ⊢
      rw [if_neg (by simpa [tl] using hl)] at hc ⊢
      have key : ∀ (m : List (List UInt8)) i, (checkB m i).1 = 0 → checkB m i = (0, 0) := by
        intro m
        induction m with
        | nil => intro i _; rfl
        | cons a m ih =>
          intro i h
          unfold checkB at h ⊢
          split at h
          · rename_i h1; rw [if_pos h1]; exact ih _ h
          · cases h
      exact key _ _ hc
    exact run_do en ho l hf v w h hc2 hl
  · rw [show runB en (tl l) = ⟨0, 6, 0, []⟩ by unfold runB; rw [if_pos hc]]
    exact run_form en l hf v w h hc
end Go.Proofs.YtidjnfjpdnjogaaGreatDoor
