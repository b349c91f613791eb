/-
  Package prog: what Run calls: the words one behind the other. Conditions: none.
-/
import Derived.Test.YtidjnfjpdnjogaaDoorPg8
namespace Go.Proofs.YtidjnfjpdnjogaaDoor
open Go.RowKit Go.Lib

theorem moveB_len {w : List UInt8} {st st' : List Nat} (h : moveB w st = .ok st') : st'.length ≤ st.length + 1 := by
  unfold moveB at h
  split at h
  · split at h <;> cases h <;> simp
  · split at h
    · split at h <;> cases h <;> simp
      omega
    · split at h
      · split at h <;> cases h <;> simp
      · split at h <;> cases h <;> simp
theorem otherB_len {en : En} {w : List UInt8} {st st' : List Nat} (h : otherB en w st = .ok st') : st'.length ≤ st.length + 1 := by
  unfold otherB at h
  split at h
  · cases h; simp
  split at h
  · cases h; simp
  split at h
  · cases h; simp
  split at h
  · cases h; simp
  split at h
  · split at h
    · split at h <;> cases h <;> simp
    · cases h
  split at h
  · split at h <;> cases h <;> simp
  split at h
  · cases h
  · cases h; simp
theorem stepB_len {en : En} {w : List UInt8} {st st' : List Nat} (h : stepB en w st = .ok st') : st'.length ≤ st.length + 1 := by
  unfold stepB at h
  split at h
  · split at h <;> cases h <;> simp
  · split at h
    · exact moveB_len h
    · exact otherB_len h

/-- What comes of all words. -/
def RunPost (B M : Nat) (en : En) (o : Out) (w : World) (e : Ending) (w' : World) : Prop := match o with
  | .ok [f] => e = .returned (.tuple #[]) ∧ (∃ v', Mach B M en [f] v' w') ∧ Wk B M w w'
  | .ok _ => e = .panicked [{ v := .iface 29 (.int .i64 6), recovered := false }] ∧ Wk B M w w'
  | .rt => RtPost B M w e w'
  | .fail => e = .panicked [{ v := .iface 9 (.string ⟨#[102, 97, 105, 108]⟩), recovered := false }] ∧ Wk B M w w'

theorem words_step (en : En) (l : List ByteArray) (k : Nat) (h : k < l.length) (st : List Nat) : wordsGo en (tl (l.drop k)) st = match stepB en (l.getD k ByteArray.empty).data.toList st with
    | .ok st' => wordsGo en (tl (l.drop (k + 1))) st'
    | x => x := by
  have e : l.drop k = l.getD k ByteArray.empty :: l.drop (k + 1) := by
    rw [List.drop_eq_getElem_cons h, List.getD_eq_getElem?_getD, List.getElem?_eq_getElem h]; rfl
  rw [e]; rfl

theorem TxIn.wk {w w' : World} {B M b off : Nat} {l : List ByteArray} (h : TxIn w b off l) (hW : Wk B M w w') (h1 : b < B) (h2 : b ≠ M) : TxIn w' b off l := h.block hW.size (hW.block b h1 h2)

set_option maxHeartbeats 1000000 in
set_option maxRecDepth 100000 in
theorem run1_any (B M PB MB : Nat) (en : En) (ho : en.Ok) (l : List ByteArray) (hl64 : l.length ≤ 64) (hf : Fits l) (po : Option Addr) (cap : Nat) (v : Value) (w : World) (h : Mach B M en [] v w)
    (hx : l = [] ∨ ∃ b off, po = some ⟨b, off, none⟩ ∧ TxIn w b off l ∧ b < B ∧ b ≠ M)
    (hP : w.heap[PB]? = some (.cells #[.slice po l.length cap] 28)) (hM : w.heap[MB]? = some (.cells #[.pointer (some ⟨M, 0, none⟩)] 62)) (hPB : PB < B ∧ PB ≠ M) (hMB : MB < B ∧ MB ≠ M) :
    Calls Tryd.prog 28 #[.pointer (some ⟨PB, 0, none⟩), .pointer (some ⟨MB, 0, none⟩)] w (RunPost B M en (wordsGo en (tl (l.drop 0)) []) w) := by
  have p1 := (cell_of_block1 hP).1
  have HX := Lib.hid hx; clear hx
  have HM0 := Lib.hid hM; clear hM
  have HF := Lib.hid hf; clear hf
  have HO := Lib.hid ho; clear ho
  have HW := Lib.hid h; clear h
  have HB := Lib.hid (And.intro hPB hMB)
  clear hPB hMB hP
  generalize hr : wordsGo en (tl (l.drop 0)) [] = r
  have HR := Lib.hid hr; clear hr
  have h64 : (l.length : Int) ≤ 64 := by omega
  go_enter Tryd.func28, Tryd.ntmps28
  go_wp2_with fail
  go_loopg [7] l.length (fun g i wr => ∃ (k : Nat) (st : List Nat) (vk : Value), g = l.length - k ∧ k ≤ l.length ∧ i = .int .i64 k ∧ wordsGo en (tl (l.drop k)) st = r ∧ st.length ≤ k ∧ Mach B M en st vk wr ∧ Wk B M w wr)
  case atStart => exact ⟨0, [], v, by omega, by omega, rfl, HR.out, by simp, HW.out, Wk.refl _ _ _⟩
  case round =>
    obtain ⟨k, st, vk, hg, hk, rfl, hgo, hst, hmk, hwk⟩ := hrel
    have HG := Lib.hid hg; clear hg
    have HMB : wr.heap[MB]? = some (.cells #[.pointer (some ⟨M, 0, none⟩)] 62) := (hwk.block MB HB.out.2.1 HB.out.2.2).trans HM0.out
    have c0 := (cell_of_block1 HMB).1
    have hzz : MB < wr.heap.size := lt_of_block HMB
    clear HMB
    by_cases hlt : k < l.length
    · have hl : (k : Int) < (l.length : Int) := by omega
      have hw1 : IntKind.i64.wrap ((k : Int) + 1) = (k : Int) + 1 := IntWalk.i64_in _ (by omega)
      rcases HX.out with rfl | ⟨b, off, rfl, hx, hb1, hb2⟩
      · simp at hlt
      have c1 := (hx.wk hwk hb1 hb2).c k hlt
      have hstep := words_step en l k hlt st
      have hsz := fits_at HF.out k hlt
      rw [hgo] at hstep
      revert c1 hstep hsz
      generalize l.getD k ByteArray.empty = s
      intro c1 hstep hsz
      have HS := Lib.hid (step_any B M en st vk (by omega) HO.out s hsz wr hmk)
      have hlen := fun st' => stepB_len (en := en) (w := s.data.toList) (st := st) (st' := st')
      have HWK := Lib.hid hwk
      clear hsz hgo hmk hwk hx
      revert HS hstep hlen
      generalize stepB en s.data.toList st = o
      intro hstep HS hlen
      cases o with
      | ok st' =>
        have hl2 := hlen st' rfl
        have HST := Lib.hid hstep
        clear hlen hstep
        go_wp2_with fail
        refine HS.out.mono ?_
        rintro e w3 ⟨rfl, ⟨v3, h3⟩, hW3⟩
        have HQ := Lib.hid (And.intro h3 (HWK.out.trans hW3))
        clear h3 hW3
        go_wp2
        go_roundg (l.length - (k + 1))
        case measure => rw [HG.out]; omega
        case rel => exact ⟨k + 1, st', v3, rfl, by omega, rfl, HST.out.symm, by omega, HQ.out.1, HQ.out.2⟩
      | rt =>
        have hr2 : r = .rt := hstep
        clear hlen hstep
        subst hr2
        go_wp2_with fail
        refine HS.out.mono ?_
        rintro e w3 ⟨⟨t, pv, rfl, ht⟩, hW⟩
        exact ⟨rfl, ⟨t, pv, rfl, ht⟩, HWK.out.trans hW⟩
      | fail =>
        have hr2 : r = .fail := hstep
        clear hlen hstep
        subst hr2
        go_wp2_with fail
        refine HS.out.mono ?_
        rintro e w3 ⟨rfl, hW⟩
        exact ⟨rfl, rfl, HWK.out.trans hW⟩
    · have hl : ¬ (k : Int) < (l.length : Int) := by omega
      have hk' : k = l.length := by omega
      rw [hk', List.drop_length] at hgo
      have hr2 : r = .ok st := hgo.symm
      subst hr2
      clear hgo hk' hlt
      obtain ⟨pv, pc, rfl⟩ := hmk.slice
      obtain ⟨-, -, -, -, -, -, c6, c7⟩ := hmk.cells
      have hz := hmk.lt
      have HMK := Lib.hid (And.intro hmk hwk)
      clear hmk hwk
      rcases st with _ | ⟨f, _ | ⟨f2, t⟩⟩
      rotate_left
      · have c6' : wr.cell? ⟨M, 6, none⟩ = some (.slice pv 1 pc) := c6
        clear c6
        go_wp2
        go_end0
        exact ⟨rfl, ⟨_, HMK.out.1⟩, HMK.out.2⟩
      rotate_left
      · have c6' : wr.cell? ⟨M, 6, none⟩ = some (.slice pv 0 pc) := c6
        clear c6
        go_wp2_with fail
        refine (must_yes 6 (by decide) _).mono ?_
        rintro e w3 ⟨rfl, rfl⟩
        exact ⟨rfl, rfl, HMK.out.2⟩
      · have c6' : wr.cell? ⟨M, 6, none⟩ = some (.slice pv (t.length + 2) pc) := c6
        have hne : ((t.length : Int) + 2 != 1) = true := by simp; omega
        clear c6
        go_wp2_with fail
        refine (must_yes 6 (by decide) _).mono ?_
        rintro e w3 ⟨rfl, rfl⟩
        exact ⟨rfl, rfl, HMK.out.2⟩
end Go.Proofs.YtidjnfjpdnjogaaDoor
