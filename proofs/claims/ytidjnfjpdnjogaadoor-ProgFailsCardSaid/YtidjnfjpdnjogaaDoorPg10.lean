/-
  Package prog: Run. Conditions: none.
-/
import Derived.Test.YtidjnfjpdnjogaaDoorPg9
namespace Go.Proofs.YtidjnfjpdnjogaaDoor
open Go.RowKit Go.Lib

/-- What guard.Do tells of the words. -/
def DoPost (M : Nat) (en : En) (o : Out) (w : World) (e : Ending) (w' : World) : Prop := (match o with
  | .ok [f] => e = .returned (fault 0 0 ⟨#[]⟩) ∧ ∃ B v', Mach B M en [f] v' w'
  | .ok _ => e = .returned (fault 6 2 ⟨#[]⟩)
  | .rt => e = .returned (fault 21 1 ⟨#[]⟩)
  | .fail => e = .returned (fault 21 3 ⟨#[102, 97, 105, 108]⟩)) ∧ Wk w.heap.size M w w'

theorem keeps_of_wk {f : Value} {w w1 : World} {M : Nat} (hM : M < w.heap.size) (h : Wk (w.heap.size + 5) M (inW f w) w1) : Keeps w.heap.size (inW f w) w1 :=
  ⟨h.size, fun k h1 h2 => h.block k (by rw [inW_size] at h2; exact h2) (by omega)⟩
theorem wk_do {f : Value} {w w1 w2 : World} {M : Nat} (h : Wk (w.heap.size + 5) M (inW f w) w1) (O : Off w.heap.size 5 w1 w2) : Wk w.heap.size M w w2 := by
  have hI := inW_below f w
  have hz := h.size
  rw [inW_size] at hz
  refine ⟨(O.os.trans h.os).trans hI.os, (O.tape.trans h.tape).trans hI.tape, (O.output.trans h.output).trans hI.output, by have := O.size; omega, fun k hk hm => ?_⟩
  rw [O.block k (by omega) (Or.inl hk), h.block k (by omega) hm, hI.block k hk]
theorem mach_do {w w1 w2 : World} {M : Nat} {en : En} {st : List Nat} {v : Value} (hM : M < w.heap.size) (h : Mach (w.heap.size + 5) M en st v w1) (O : Off w.heap.size 5 w1 w2) : Mach (w.heap.size + 5) M en st v w2 := by
  have hbw := h.bw
  have hs := O.size
  refine ⟨(O.block M (by omega) (Or.inl hM)).trans h.at_, own_same h.own (fun g hg => O.block g (h.own.lt g hg).2 (Or.inr (h.own.lt g hg).1)), h.mb, by omega, h.fit⟩

theorem do_run (M PB MB : Nat) (en : En) (ho : en.Ok) (l : List ByteArray) (hl64 : l.length ≤ 64) (hf : Fits l) (po : Option Addr) (cap : Nat) (w : World)
    (hat : w.heap[M]? = some (.cells (en.cells (.slice none 0 0)) 64))
    (hx : l = [] ∨ ∃ b off, po = some ⟨b, off, none⟩ ∧ TxIn w b off l ∧ b ≠ M)
    (hP : w.heap[PB]? = some (.cells #[.slice po l.length cap] 28)) (hMB : w.heap[MB]? = some (.cells #[.pointer (some ⟨M, 0, none⟩)] 62)) (hPM : PB ≠ M) (hMM : MB ≠ M) :
    Calls Tryd.prog 27 #[.func (.func 28) #[] #[.pointer (some ⟨PB, 0, none⟩), .pointer (some ⟨MB, 0, none⟩)]] w (DoPost M en (wordsGo en (tl l) []) w) := by
  obtain ⟨f, hfn⟩ : ∃ f : Value, f = .func (.func 28) #[] #[.pointer (some ⟨PB, 0, none⟩), .pointer (some ⟨MB, 0, none⟩)] := ⟨_, rfl⟩
  have hI := inW_below f w
  have hMl := lt_of_block hat
  have hPl := lt_of_block hP
  have hBl := lt_of_block hMB
  have hmach : Mach (w.heap.size + 5) M en [] (.slice none 0 0) (inW f w) :=
    ⟨(hI.block M hMl).trans hat, World.ownsRow_nil _ _ _ _, by omega, by rw [inW_size]; exact Nat.le_refl _, by simp⟩
  have hrun := run1_any (w.heap.size + 5) M PB MB en ho l hl64 hf po cap _ (inW f w) hmach
    (by rcases hx with h | ⟨b, off, h1, h2, h3⟩
        · exact Or.inl h
        · exact Or.inr ⟨b, off, h1, h2.below hI, by have := h2.bl; omega, h3⟩)
    ((hI.block PB hPl).trans hP) ((hI.block MB hBl).trans hMB) ⟨by omega, hPM⟩ ⟨by omega, hMM⟩
  rw [List.drop_zero] at hrun
  revert hrun
  generalize wordsGo en (tl l) [] = o
  intro hrun
  unfold RunPost at hrun
  unfold DoPost
  rw [hfn] at hrun hI hmach
  match o, hrun with
  | .ok [x], hrun =>
    refine (do_ok _ _ w (fun w1 => (∃ v', Mach (w.heap.size + 5) M en [x] v' w1) ∧ Wk (w.heap.size + 5) M (inW (.func (.func 28) #[] #[.pointer (some ⟨PB, 0, none⟩), .pointer (some ⟨MB, 0, none⟩)]) w) w1) (fun _ => by kernel_rfl) (hrun.mono ?_)).mono ?_
    · rintro e w1 ⟨rfl, h1, h2⟩
      exact ⟨rfl, keeps_of_wk hMl h2, h1, h2⟩
    · rintro e w2 ⟨rfl, w1, ⟨⟨v', h1⟩, h2⟩, O⟩
      exact ⟨⟨rfl, _, v', mach_do hMl h1 O⟩, wk_do h2 O⟩
  | .ok [], hrun =>
    refine (do_bad _ _ w 6 2 ⟨#[]⟩ (fun w1 => Wk (w.heap.size + 5) M (inW (.func (.func 28) #[] #[.pointer (some ⟨PB, 0, none⟩), .pointer (some ⟨MB, 0, none⟩)]) w) w1) (fun _ => by kernel_rfl) (hrun.mono ?_)).mono ?_
    · rintro e w1 ⟨rfl, h2⟩
      exact ⟨⟨_, _, rfl, told_num 6 (by decide)⟩, keeps_of_wk hMl h2, h2⟩
    · rintro e w2 ⟨rfl, w1, h2, O⟩
      exact ⟨rfl, wk_do h2 O⟩
  | .ok (x :: y :: t), hrun =>
    refine (do_bad _ _ w 6 2 ⟨#[]⟩ (fun w1 => Wk (w.heap.size + 5) M (inW (.func (.func 28) #[] #[.pointer (some ⟨PB, 0, none⟩), .pointer (some ⟨MB, 0, none⟩)]) w) w1) (fun _ => by kernel_rfl) (hrun.mono ?_)).mono ?_
    · rintro e w1 ⟨rfl, h2⟩
      exact ⟨⟨_, _, rfl, told_num 6 (by decide)⟩, keeps_of_wk hMl h2, h2⟩
    · rintro e w2 ⟨rfl, w1, h2, O⟩
      exact ⟨rfl, wk_do h2 O⟩
  | .rt, hrun =>
    refine (do_bad _ _ w 21 1 ⟨#[]⟩ (fun w1 => Wk (w.heap.size + 5) M (inW (.func (.func 28) #[] #[.pointer (some ⟨PB, 0, none⟩), .pointer (some ⟨MB, 0, none⟩)]) w) w1) (fun _ => by kernel_rfl) (hrun.mono ?_)).mono ?_
    · rintro e w1 ⟨⟨t, pv, rfl, ht⟩, h2⟩
      exact ⟨⟨_, _, rfl, told_rt t ht pv⟩, keeps_of_wk hMl h2, h2⟩
    · rintro e w2 ⟨rfl, w1, h2, O⟩
      exact ⟨rfl, wk_do h2 O⟩
  | .fail, hrun =>
    refine (do_bad _ _ w 21 3 ⟨#[102, 97, 105, 108]⟩ (fun w1 => Wk (w.heap.size + 5) M (inW (.func (.func 28) #[] #[.pointer (some ⟨PB, 0, none⟩), .pointer (some ⟨MB, 0, none⟩)]) w) w1) (fun _ => by kernel_rfl) (hrun.mono ?_)).mono ?_
    · rintro e w1 ⟨rfl, h2⟩
      exact ⟨⟨_, _, rfl, told_text _⟩, keeps_of_wk hMl h2, h2⟩
    · rintro e w2 ⟨rfl, w1, h2, O⟩
      exact ⟨rfl, wk_do h2 O⟩
end Go.Proofs.YtidjnfjpdnjogaaDoor
