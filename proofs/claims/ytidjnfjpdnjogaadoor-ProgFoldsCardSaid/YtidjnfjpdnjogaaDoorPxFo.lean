/-
  Package prog: Fold over a list of events; chroniclebook.Short. Conditions: none.
-/
import Derived.Test.YtidjnfjpdnjogaaDoorPxEv
namespace Go.Proofs.YtidjnfjpdnjogaaDoor
open Go.RowKit Go.Lib

/-- What a program works on at an event. -/
def evEn (s : Nat) (e : Ev) : En := ⟨s, e.id, e.ty, e.data, e.value, e.version⟩
/-- One event more. -/
def stepF (P : List (List UInt8)) (e : Ev) (x : Nat × Nat) : Nat × Nat := if (runB (evEn x.1 e) P).err = 0 then ((runB (evEn x.1 e) P).v, x.2) else (x.1, x.2 + 1)
/-- State and faults behind so many events. -/
def foldB (P : List (List UInt8)) (E : Nat → Ev) (s : Nat) : Nat → Nat × Nat
  | 0 => (s, 0)
  | k + 1 => stepF P (E k) (foldB P E s k)
theorem stepF_add (P : List (List UInt8)) (e : Ev) (v f g : Nat) : stepF P e (v, f + g) = ((stepF P e (v, g)).1, f + (stepF P e (v, g)).2) := by
  unfold stepF
  dsimp only
  split
  · rfl
  · rfl
theorem tell_none (en : En) (l : List (List UInt8)) : (runB en l).err = 0 → (runB en l).kind = 0 ∧ (runB en l).text = [] := by
  unfold runB
  split
  · intro h; cases h
  · split
    · intro _; exact ⟨rfl, rfl⟩
    · intro h; cases h
    · intro h; cases h
    · intro h; cases h
theorem foldB_faults (P : List (List UInt8)) (E : Nat → Ev) (s : Nat) (k : Nat) : (foldB P E s k).2 ≤ k := by
  induction k with
  | zero => exact Nat.le_refl _
  | succ k ih =>
    show (stepF P (E k) (foldB P E s k)).2 ≤ k + 1
    unfold stepF
    split
    · exact Nat.le_succ_of_le ih
    · exact Nat.succ_le_succ ih
theorem foldB_add (P : List (List UInt8)) (E : Nat → Ev) (s a k : Nat) : foldB P E s (a + k) = ((foldB P (fun i => E (a + i)) (foldB P E s a).1 k).1, (foldB P E s a).2 + (foldB P (fun i => E (a + i)) (foldB P E s a).1 k).2) := by
  induction k with
  | zero => rfl
  | succ k ih =>
    show stepF P (E (a + k)) (foldB P E s (a + k)) = _
    rw [ih, stepF_add]
    rfl
theorem foldB_congr (P : List (List UInt8)) {E F : Nat → Ev} (s k : Nat) (h : ∀ i, i < k → E i = F i) : foldB P E s k = foldB P F s k := by
  induction k with
  | zero => rfl
  | succ k ih =>
    show stepF P (E k) (foldB P E s k) = stepF P (F k) (foldB P F s k)
    rw [ih (fun i hi => h i (by omega)), h k (by omega)]

theorem arith_lt (w : List UInt8) (a b : Nat) (ha : a < 18446744073709551616) (hb : b < 18446744073709551616) : arithB w a b < 18446744073709551616 := by
  have har : ∀ f : Nat → Nat → Option Nat, (∀ r, f a b = some r → r < 18446744073709551616) → arC f a b < 18446744073709551616 := by
    intro f hf
    unfold arC
    cases h : f a b with
    | none => decide
    | some r => exact oneW_lt (hf r h)
  have e : (2 : Nat) ^ Ieee.double.width = 18446744073709551616 := by decide
  have hp : ∀ i, i < 2 → pairL a b i < 18446744073709551616 := fun i _ => by unfold pairL; split <;> assumption
  unfold arithB
  split
  · exact har _ (fun r h => by have := Ieee.Format.add_lt _ h; rw [e] at this; exact this)
  split
  · exact har _ (fun r h => by have := Ieee.Format.sub_lt _ h; rw [e] at this; exact this)
  split
  · exact har _ (fun r h => by have := Ieee.Format.mul_lt _ h; rw [e] at this; exact this)
  split
  · exact har _ (fun r h => by have := Ieee.Format.div_lt _ h; rw [e] at this; exact this)
  split
  · exact oneW_lt (leastC_lt (n := 2) hp 2 (by omega))
  split
  · exact oneW_lt (oneW_lt (mostC_lt (n := 2) hp 1 (by omega)))
  split <;> decide
theorem moveB_lt (w : List UInt8) (st st' : List Nat) (h : ∀ f ∈ st, f < 18446744073709551616) (hs : moveB w st = .ok st') : ∀ f ∈ st', f < 18446744073709551616 := by
  unfold moveB at hs
  split at hs
  · match st, hs with
    | f :: t, hs =>
      injection hs with hs
      subst hs
      intro g hg
      simp only [List.mem_cons] at hg h
      rcases hg with rfl | rfl | hg
      · exact oneW_lt (h f (Or.inl rfl))
      · exact oneW_lt (h f (Or.inl rfl))
      · exact h g (Or.inr hg)
  split at hs
  · match st, hs with
    | f :: t, hs =>
      injection hs with hs
      subst hs
      intro g hg
      exact h g (List.mem_cons_of_mem _ hg)
  split at hs
  · match st, hs with
    | b :: a :: t, hs =>
      injection hs with hs
      subst hs
      intro g hg
      simp only [List.mem_cons] at hg h
      rcases hg with rfl | rfl | hg
      · exact oneW_lt (h a (Or.inr (Or.inl rfl)))
      · exact oneW_lt (h b (Or.inl rfl))
      · exact h g (Or.inr (Or.inr hg))
  · match st, hs with
    | c :: b :: a :: t, hs =>
      injection hs with hs
      subst hs
      intro g hg
      simp only [List.mem_cons] at hg h
      rcases hg with rfl | hg
      · refine oneW_lt ?_
        split
        · exact h b (Or.inr (Or.inl rfl))
        · exact h a (Or.inr (Or.inr (Or.inl rfl)))
      · exact h g (Or.inr (Or.inr (Or.inr hg)))
theorem otherB_lt (en : En) (w : List UInt8) (st st' : List Nat) (hs : en.s < 18446744073709551616) (hv : en.v < 18446744073709551616) (h : ∀ f ∈ st, f < 18446744073709551616) (ho : otherB en w st = .ok st') : ∀ f ∈ st', f < 18446744073709551616 := by
  have push : ∀ x t, x < 18446744073709551616 → (∀ f ∈ t, f < 18446744073709551616) → Out.ok (oneW x :: t) = .ok st' → ∀ f ∈ st', f < 18446744073709551616 := by
    intro x t hx ht he
    injection he with he
    subst he
    intro g hg
    rcases List.mem_cons.1 hg with rfl | hg
    · exact oneW_lt hx
    · exact ht g hg
  unfold otherB at ho
  split at ho
  · exact push _ _ hs h ho
  split at ho
  · exact push _ _ hv h ho
  split at ho
  · exact push _ _ (intF_lt _) h ho
  split at ho
  · exact push _ _ (intF_lt _) h ho
  split at ho
  · match st, ho with
    | k :: t, ho =>
      dsimp only at ho
      split at ho
      · exact push _ _ (intF_lt _) (fun f hf => h f (List.mem_cons_of_mem _ hf)) ho
      · cases ho
  split at ho
  · match st, ho with
    | k :: t, ho => exact push _ _ (negB_lt _ (h k List.mem_cons_self)) (fun f hf => h f (List.mem_cons_of_mem _ hf)) ho
  split at ho
  · cases ho
  · exact push _ _ (parse_lt _) h ho
theorem stepB_lt (en : En) (w : List UInt8) (st st' : List Nat) (hs : en.s < 18446744073709551616) (hv : en.v < 18446744073709551616) (h : ∀ f ∈ st, f < 18446744073709551616) (ho : stepB en w st = .ok st') : ∀ f ∈ st', f < 18446744073709551616 := by
  unfold stepB at ho
  split at ho
  · match st, ho with
    | b :: a :: t, ho =>
      injection ho with ho
      subst ho
      intro g hg
      simp only [List.mem_cons] at hg h
      rcases hg with rfl | hg
      · exact arith_lt _ _ _ (h a (Or.inr (Or.inl rfl))) (h b (Or.inl rfl))
      · exact h g (Or.inr (Or.inr hg))
  split at ho
  · exact moveB_lt _ _ _ h ho
  · exact otherB_lt en _ _ _ hs hv h ho
theorem wordsGo_lt (en : En) (hs : en.s < 18446744073709551616) (hv : en.v < 18446744073709551616) : ∀ (l : List (List UInt8)) (st st' : List Nat), (∀ f ∈ st, f < 18446744073709551616) → wordsGo en l st = .ok st' → ∀ f ∈ st', f < 18446744073709551616
  | [], st, st', h, ho => by injection ho with ho; subst ho; exact h
  | w :: l, st, st', h, ho => by
    unfold wordsGo at ho
    cases hst : stepB en w st with
    | ok st2 => rw [hst] at ho; exact wordsGo_lt en hs hv l st2 st' (stepB_lt en w st st2 hs hv h hst) ho
    | rt => rw [hst] at ho; cases ho
    | fail => rw [hst] at ho; cases ho
theorem runB_lt (en : En) (l : List (List UInt8)) (hs : en.s < 18446744073709551616) (hv : en.v < 18446744073709551616) : (runB en l).v < 18446744073709551616 := by
  unfold runB
  split
  · decide
  · split
    · rename_i f h
      exact wordsGo_lt en hs hv l [] [f] (fun x hx => by cases hx) h f List.mem_cons_self
    · decide
    · decide
    · decide

set_option maxRecDepth 100000 in
set_option maxHeartbeats 2000000 in
theorem fold_any (l : List ByteArray) (hf : Fits l) (v : Value) (ao : Option Addr) (len cap : Nat) (hlen : len ≤ 1000) (E : Nat → Ev) (hE : ∀ i, i < len → (E i).data.size ≤ 281474976710656 ∧ (E i).value < 18446744073709551616) (s : Nat) (hs : s < 18446744073709551616) (w : World) (h : Txs w v l) (ha : EvArg w.heap.size w ao len E) :
    Calls Tryd.prog 23 #[.agg #[v], .float .f64 s, .slice ao len cap] w fun e w' => e = .returned (.tuple #[.float .f64 (foldB (tl l) E s len).1, .int .i64 (foldB (tl l) E s len).2]) ∧ Below w.heap.size w w' := by
  have HT := Lib.hid h
  have HA := Lib.hid ha
  have HE := Lib.hid hE
  have HF := Lib.hid hf
  have hlt : ∀ k, k ≤ len → (foldB (tl l) E s k).1 < 18446744073709551616 := by
    intro k hk
    induction k with
    | zero => exact hs
    | succ k ih =>
      show (stepF (tl l) (E k) (foldB (tl l) E s k)).1 < _
      unfold stepF
      split
      · exact runB_lt _ _ (ih (by omega)) (hE k (by omega)).2
      · exact ih (by omega)
  have HL := Lib.hid hlt
  have hne := neqFault
  have hsf : ∀ (w : World) (a : Addr) (k : FloatKind) (b : Nat) (m : Mode), (store a (.float k b) m).run Tryd.prog w = stored Tryd.prog w a (.float k b) m := fun w a k b m => run_store Tryd.prog w a _ m rfl
  clear h ha hE hf hlt hs
  go_enter Tryd.func23, Tryd.ntmps23
  go_wp2_with fail
  go_loopg [1, 8, 15] len (fun g x f i wr => ∃ k : Nat, g = len - k ∧ k ≤ len ∧ x = .float .f64 (foldB (tl l) E s k).1 ∧ f = .int .i64 (foldB (tl l) E s k).2 ∧ i = .int .i64 k ∧ wr.heap[w.heap.size]? = some (.cells #[v] 28) ∧ Below w.heap.size w wr)
  case atStart => exact ⟨0, by omega, by omega, rfl, rfl, rfl, new_block _ _, below_alloc _ _⟩
  case round =>
    obtain ⟨k, hg, hk, rfl, rfl, rfl, hp, hb⟩ := hrel
    have HG := Lib.hid hg; clear hg
    by_cases hlt : k < len
    · obtain ⟨b, off, rfl, hbn, hEi⟩ := (HA.out.low hb).at_ (by omega)
      have hl : (k : Int) < (len : Int) := by omega
      have hw1 : IntKind.i64.wrap ((k : Int) + 1) = (k : Int) + 1 := IntWalk.i64_in _ (by omega)
      have hfl := foldB_faults (tl l) E s k
      have hw2 : IntKind.i64.wrap (((foldB (tl l) E s k).2 : Int) + 1) = ((foldB (tl l) E s k).2 : Int) + 1 := IntWalk.i64_in _ (by omega)
      obtain ⟨e0, e1, e2, e3, e4, e5, e6, e7⟩ := hEi.rd k hlt
      have hR := run_any (evEn (foldB (tl l) E s k).1 (E k)) ⟨HL.out k (by omega), (HE.out k hlt).2, (HE.out k hlt).1⟩ l HF.out v
      have hst : foldB (tl l) E s (k + 1) = stepF (tl l) (E k) (foldB (tl l) E s k) := rfl
      unfold stepF at hst
      have htn := tell_none (evEn (foldB (tl l) E s k).1 (E k)) (tl l)
      obtain ⟨c0, -⟩ := cell_of_block1 hp
      have hz := lt_of_block hp
      have HP := Lib.hid (And.intro hp hb)
      revert hw2 hR hst htn
      generalize (foldB (tl l) E s k).1 = x
      generalize (foldB (tl l) E s k).2 = q
      intro hw2 hR hst htn
      revert hR hst htn
      generalize runB (evEn x (E k)) (tl l) = T
      intro hR hst htn
      have HR := Lib.hid hR
      have HST := Lib.hid hst
      unfold RunTells Tell.val fault at HR
      have HTN := Lib.hid htn
      clear hR hst htn hp hb hEi hfl
      go_wp2_with fail
      have hal := below_alloc wr (.cells #[.int .i64 (E k).id, .string (E k).ty, .string (E k).data, .float .f64 (E k).value, .string (E k).stream, .int .i64 (E k).version, .int .i64 (E k).position, .int .i64 (E k).time] 54)
      refine (HR.out _ ((HT.out.below HP.out.2).below hal)).mono ?_
      rintro e w1 ⟨rfl, hb1⟩
      have hB1 := HP.out.2.trans ((hal.trans (hb1.mono hal.size)).mono HP.out.2.size)
      have hp1 := ((hb1.block _ (Nat.lt_of_lt_of_le hz hal.size)).trans (hal.block _ hz)).trans HP.out.1
      have H1 := Lib.hid (And.intro hp1 hB1)
      have hz1 := lt_of_block hp1
      clear hal hb1 hB1 hp1 e0 e1 e2 e3 e4 e5 e6 e7 c0 hz HP
      by_cases herr : T.err = 0
      · obtain ⟨h1, h2⟩ := HTN.out herr
        rw [if_pos herr] at HST
        have HST2 := Lib.hid HST.out
        clear HTN HST
        obtain ⟨tv, te, tk, tt⟩ := T
        dsimp only at herr h1 h2 HST2
        subst herr h1 h2
        go_wp2_with fail
        have hal := below_alloc w1 (.cells #[.int .i64 0, .int .i64 0, .string ⟨#[]⟩] 31)
        have H2 := Lib.hid (And.intro ((hal.block _ hz1).trans H1.out.1) (H1.out.2.trans (hal.mono H1.out.2.size)))
        clear hal
        go_roundg (len - (k + 1))
        case measure => have := HG.out; omega
        case rel => exact ⟨k + 1, rfl, by omega, by rw [HST2.out], by rw [HST2.out], by go_num, H2.out.1, H2.out.2⟩
      · rw [if_neg herr] at HST
        have HST2 := Lib.hid HST.out
        have hef : (T.err == 0) = false := by simpa using herr
        clear HTN HST herr
        obtain ⟨tv, te, tk, tt⟩ := T
        dsimp only at hef
        go_wp2_with fail
        have hal := below_alloc w1 (.cells #[.int .i64 te, .int .i64 tk, .string ⟨tt.toArray⟩] 31)
        have H2 := Lib.hid (And.intro ((hal.block _ hz1).trans H1.out.1) (H1.out.2.trans (hal.mono H1.out.2.size)))
        clear hal
        go_roundg (len - (k + 1))
        case measure => have := HG.out; omega
        case rel => exact ⟨k + 1, rfl, by omega, by rw [HST2.out], by rw [HST2.out]; go_num, by go_num, H2.out.1, H2.out.2⟩
    · obtain rfl : k = len := by omega
      have hl : ¬ (k : Int) < (k : Int) := by omega
      have HB := Lib.hid hb; clear hb
      go_wp2_with fail
      exact bodyPost_ret (v := .tuple #[.float .f64 (foldB (tl l) E s k).1, .int .i64 (foldB (tl l) E s k).2]) (by simp [results, Tryd.results23, go_sem]) rfl ⟨rfl, HB.out⟩
end Go.Proofs.YtidjnfjpdnjogaaDoor
