/-
  GuardFirst holds: functions in order, up to the first one that fails; those behind it are not run. Conditions: none.
-/
import Derived.Test.YtdllgebccjmljaaM
import Derived.StillTailTactics
import Derived.IntWalk
namespace Go.Proofs.Ytdllgebccjmljaa
open Go.ChangeShapes Go.WideShapes Go.ChangeAt Go.RowKit

/-- The captured variables of the j-th function: the list, its own number, the counts. -/
structure Caps (L I Nt b off len cap A j : Nat) (w : World) : Prop where
  l : w.heap[L]? = some (.cells #[.slice (some ⟨b, off, none⟩) len cap] 32)
  i : w.heap[I]? = some (.cells #[.int .i64 j] 3)
  n : w.heap[Nt]? = some (.cells #[.slice (some ⟨A, 0, none⟩) len len] 46)
  la : L ≠ A
  ia : I ≠ A
  na : Nt ≠ A

/-- One job of the list, as a list. -/
theorem slice_one (b off len cap j : Nat) (hj : j < len) (hcap : len ≤ cap) (w : World) :
    (Instr.slice 32 (.slice (some ⟨b, off, none⟩) len cap) (some (.int .i64 j)) (some (.int .i64 ((j : Int) + 1))) none).run Try.prog w = .ok (.slice (some ⟨b, off + j * 3, none⟩) 1 (cap - j)) w := by
  have ht : Try.prog.underlying 32 = some (.slice (Try.prog.elem 32)) := by kernel_rfl
  have hz : ∀ w, (Go.sizeOf (Try.prog.elem 32)).run Try.prog w = .ok 3 w := fun w => by kernel_rfl
  rw [run_slice_lh w 32 _ _ _ ht .i64 .i64 _ _ (by omega) (by omega) (by omega), hz]
  have hne : ¬ cap = j := by omega
  have e1 : ((j : Int) + 1).toNat = j + 1 := by omega
  simp [Result.andThen, sliced, Addr.add, hne, e1]

theorem wrap_next (j : Nat) (h : j < 1000) : IntKind.i64.wrap ((j : Int) + 1) = (j : Int) + 1 := IntWalk.i64_in _ (by omega)

theorem first1 (L I Nt b off len cap A j : Nat) (hj : j < len) (hlen : len ≤ 40) (hcap : len ≤ cap) (arr : Array Value) (kd n : Int) (s : ByteArray) (w : World) (hC : Caps L I Nt b off len cap A j w) (hb : b < w.heap.size)
    (h0 : w.cell? ⟨b, off + j * 3, none⟩ = some (.int .i64 kd)) (h1 : w.cell? ⟨b, off + j * 3 + 1, none⟩ = some (.int .i64 n)) (h2 : w.cell? ⟨b, off + j * 3 + 2, none⟩ = some (.string s))
    (hA : w.heap[A]? = some (.cells arr 3)) (hx : arr[j]? = some (.int .i64 0)) :
    Calls Try.prog 23 #[.pointer (some ⟨L, 0, none⟩), .pointer (some ⟨I, 0, none⟩), .pointer (some ⟨Nt, 0, none⟩)] w (JobPost A j arr 0 kd n s w) := by
  obtain ⟨f1, -⟩ := cell_of_block1 hC.l
  obtain ⟨f2, -⟩ := cell_of_block1 hC.i
  obtain ⟨f3, -⟩ := cell_of_block1 hC.n
  have J := Lib.hid (fun V (hV : w.heap = V.heap) => job_any b (off + j * 3) (cap - j) A j arr 0 kd n s V (hV ▸ hb) (by simpa [World.cell?, hV] using h0) (by simpa [World.cell?, hV] using h1) (by simpa [World.cell?, hV] using h2) (hV ▸ hA) hx (by omega) (by omega))
  have hj0 : (0 : Int) ≤ (j : Int) := by omega
  have hj1 : (j : Int) < (len : Int) := by omega
  have hw1 := wrap_next j (by omega)
  have hsl := slice_one b off len cap j hj hcap
  clear h0 h1 h2 hA hx
  go_enter Try.func23, Try.ntmps23
  go_wp2_with fail
  go_still_tail 8, (by kernel_rfl)
  change wpList _ _ _ _ _ w.drew
  have f1' : w.drew.cell? ⟨L, 0, none⟩ = some (.slice (some ⟨b, off, none⟩) len cap) := f1
  have f2' : w.drew.cell? ⟨I, 0, none⟩ = some (.int .i64 j) := f2
  have f3' : w.drew.cell? ⟨Nt, 0, none⟩ = some (.slice (some ⟨A, 0, none⟩) len len) := f3
  have J' := Lib.hid (J.out w.drew rfl)
  clear f1 f2 f3 J
  have hO : ∀ x, Off A 1 w.drew x → Off A 1 w x := fun x h => (Off.of_below (Below.refl _ w).drew).trans h
  revert f1' f2' f3' J' hO
  generalize w.drew = w2
  intro f1 f2 f3 J hO
  go_wp2_with fail
  refine J.out.mono ?_
  rintro e w' (⟨ht, rfl, O, o, ho, hq⟩ | ⟨ht, ⟨t, pv, rfl, hT⟩, O, ho⟩)
  · go_wp2
    refine bodyPost_end (results_none rfl _ _ _) rfl (Or.inl ⟨ht, rfl, hO _ O, o, ho, hq⟩)
  · go_wp2
    have fin : tell kd n s ≠ (0, 0, ⟨#[]⟩) ∧ BadA A arr (tell kd n s).1 (tell kd n s).2.1 (tell kd n s).2.2 w (.panicked [{ v := .iface t pv, recovered := false }]) w' := ⟨ht, ⟨t, pv, rfl, hT⟩, hO _ O, ho⟩
    exact ⟨rfl, Or.inr fin⟩


/-- The counts when the first k jobs are done. -/
def cnt (len k : Nat) : Array Value := ((List.range len).map fun i => .int .i64 (if i < k then 1 else 0)).toArray
theorem cnt_get (len k i : Nat) (h : i < len) : (cnt len k)[i]? = some (.int .i64 (if i < k then 1 else 0)) := by
  simp [cnt, h]
theorem cnt_next (len k : Nat) : (cnt len k).setIfInBounds k (.int .i64 1) = cnt len (k + 1) := by
  apply Array.ext
  · simp [cnt]
  · intro i h1 h2
    have hi : i < len := by simpa [cnt] using h2
    rw [Array.getElem_setIfInBounds (by simpa [cnt] using hi)]
    by_cases h : k = i
    · subst h; simp [cnt]
    · simp only [h, if_false]
      have : i < k ↔ i < k + 1 := by omega
      simp [cnt, this]

theorem Caps.same {L I Nt b off len cap A j : Nat} {w w' : World} (h : Caps L I Nt b off len cap A j w) (hs : ∀ k o, k ≠ A → w.heap[k]? = some o → w'.heap[k]? = some o) : Caps L I Nt b off len cap A j w' :=
  ⟨hs _ _ h.la h.l, hs _ _ h.ia h.i, hs _ _ h.na h.n, h.la, h.ia, h.na⟩

/-- One job, done by Do. -/
theorem first_do (L I Nt b off len cap A j : Nat) (hj : j < len) (hlen : len ≤ 40) (hcap : len ≤ cap) (Kd Nn : Nat → Int) (Ss : Nat → ByteArray) (w : World) (hC : Caps L I Nt b off len cap A j w) (hJ : JobsIn w b off len Kd Nn Ss)
    (hA : w.heap[A]? = some (.cells (cnt len j) 3)) :
    Calls Try.prog 14 #[.func (.func 23) #[] #[.pointer (some ⟨L, 0, none⟩), .pointer (some ⟨I, 0, none⟩), .pointer (some ⟨Nt, 0, none⟩)]] w fun e w' =>
      e = .returned (fault (tell (Kd j) (Nn j) (Ss j)).1 (tell (Kd j) (Nn j) (Ss j)).2.1 (tell (Kd j) (Nn j) (Ss j)).2.2) ∧ Off A 1 w w' ∧
        w'.heap[A]? = some (.cells (cnt len (if (tell (Kd j) (Nn j) (Ss j)).2.1 = 0 then j + 1 else j)) 3) := by
  have inV : ∀ f k o, w.heap[k]? = some o → (inW f w).heap[k]? = some o := fun f k o h => (inW_old _ _ _ (lt_of_block h)).trans h
  have hx : (cnt len j)[j]? = some (.int .i64 0) := by rw [cnt_get len j j hj]; simp
  have hJV : ∀ f, JobsIn (inW f w) b off len Kd Nn Ss := fun f => hJ.block (by rw [inW_size]; omega) (inW_old _ _ _ hJ.bl)
  have h1 := fun f => first1 L I Nt b off len cap A j hj hlen hcap (cnt len j) (Kd j) (Nn j) (Ss j) (inW f w) (hC.same (fun k o _ h => inV f k o h)) (hJV f).bl ((hJV f).c0 j hj) ((hJV f).c1 j hj) ((hJV f).c2 j hj) (inV f _ _ hA) hx
  by_cases ht : tell (Kd j) (Nn j) (Ss j) = (0, 0, ⟨#[]⟩)
  · rw [ht]
    refine (do_off_ok 23 _ w A (fun o => o = .cells (cnt len (j + 1)) 3) (lt_of_block hA) (fun _ => by kernel_rfl) ((h1 _).mono ?_)).mono ?_
    · rintro e w' (⟨_, rfl, hO, o, ho, q, hq1, hq2, rfl⟩ | ⟨hg, _⟩)
      · obtain rfl : q = 1 := by omega
        refine ⟨rfl, hO, _, ho, ?_⟩
        rw [← cnt_next]; rfl
      · exact absurd ht hg
    · rintro e w' ⟨rfl, hO, o, ho, rfl⟩
      exact ⟨rfl, hO, by simpa using ho⟩
  · have hfk : (tell (Kd j) (Nn j) (Ss j)).2.1 ≠ 0 := (tell_fk _ _ _).resolve_left ht
    refine (do_off_bad 23 _ w A (fun o => o = .cells (cnt len j) 3) (tell (Kd j) (Nn j) (Ss j)).1 (tell (Kd j) (Nn j) (Ss j)).2.1 (tell (Kd j) (Nn j) (Ss j)).2.2 (lt_of_block hA) (fun _ => by kernel_rfl) ((h1 _).mono ?_)).mono ?_
    · rintro e w' (⟨hg, _⟩ | ⟨_, hT, hO, o, ho, rfl⟩)
      · exact absurd hg ht
      · exact ⟨hT, hO, _, ho, rfl⟩
    · rintro e w' ⟨rfl, hO, o, ho, rfl⟩
      exact ⟨rfl, hO, by rw [if_neg hfk]; exact ho⟩

/-- The list of functions, with what they have hold of. -/
structure FsIn (fb foff L Nt b off len cap A : Nat) (I : Nat → Nat) (Kd Nn : Nat → Int) (Ss : Nat → ByteArray) (w : World) : Prop where
  jobs : JobsIn w b off len Kd Nn Ss
  fz : fb < w.heap.size
  fc : ∀ i, i < len → w.cell? ⟨fb, foff + i, none⟩ = some (.func (.func 23) #[] #[.pointer (some ⟨L, 0, none⟩), .pointer (some ⟨I i, 0, none⟩), .pointer (some ⟨Nt, 0, none⟩)])
  caps : ∀ i, i < len → Caps L (I i) Nt b off len cap A i w
  fa : fb ≠ A
  ba : b ≠ A

theorem FsIn.off {fb foff L Nt b off len cap A : Nat} {I : Nat → Nat} {Kd Nn : Nat → Int} {Ss : Nat → ByteArray} {w w' : World} (h : FsIn fb foff L Nt b off len cap A I Kd Nn Ss w) (O : Off A 1 w w') : FsIn fb foff L Nt b off len cap A I Kd Nn Ss w' :=
  have hs : ∀ k o, k ≠ A → w.heap[k]? = some o → w'.heap[k]? = some o := fun k o hk ho => O.same ho (by omega)
  have h1 := h.fa
  have h2 := h.ba
  ⟨h.jobs.block O.size (O.block _ h.jobs.bl (by omega)), Nat.lt_of_lt_of_le h.fz O.size, fun i hi => (World.cell?_of_block (w := w) (O.block fb h.fz (by omega))).trans (h.fc i hi), fun i hi => (h.caps i hi).same hs, h.fa, h.ba⟩

/-- The first one that fails, and its fault. -/
structure Res (len : Nat) (Kd Nn : Nat → Int) (Ss : Nat → ByteArray) (k m : Nat) (fe fk : Int) (fs : ByteArray) : Prop where
  good : ∀ i, i < m → i < k → tell (Kd i) (Nn i) (Ss i) = (0, 0, ⟨#[]⟩)
  last : (m = len ∧ fe = 0 ∧ fk = 0 ∧ fs = ⟨#[]⟩) ∨ (m < k ∧ tell (Kd m) (Nn m) (Ss m) = (fe, fk, fs) ∧ fk ≠ 0)

theorem Res.alike {len : Nat} {Kd Nn : Nat → Int} {Ss : Nat → ByteArray} {m m' : Nat} {fe fk fe' fk' : Int} {fs fs' : ByteArray} (h : Res len Kd Nn Ss len m fe fk fs) (h' : Res len Kd Nn Ss len m' fe' fk' fs') : m = m' ∧ fe = fe' ∧ fk = fk' ∧ fs = fs' := by
  rcases h.last with ⟨rfl, rfl, rfl, rfl⟩ | ⟨h1, h2, h3⟩
  · rcases h'.last with ⟨rfl, rfl, rfl, rfl⟩ | ⟨h4, h5, h6⟩
    · exact ⟨rfl, rfl, rfl, rfl⟩
    · have := h.good m' h4 h4
      rw [h5] at this; simp only [Prod.mk.injEq] at this; exact absurd this.2.1 h6
  · rcases h'.last with ⟨rfl, rfl, rfl, rfl⟩ | ⟨h4, h5, h6⟩
    · have := h'.good m h1 h1
      rw [h2] at this; simp only [Prod.mk.injEq] at this; exact absurd this.2.1 h3
    · rcases Nat.lt_trichotomy m m' with hl | rfl | hl
      · have := h'.good m hl h1
        rw [h2] at this; simp only [Prod.mk.injEq] at this; exact absurd this.2.1 h3
      · rw [h2] at h5; simp only [Prod.mk.injEq] at h5; exact ⟨rfl, h5.1, h5.2.1, h5.2.2⟩
      · have := h.good m' hl h4
        rw [h5] at this; simp only [Prod.mk.injEq] at this; exact absurd this.2.1 h6

end Go.Proofs.Ytdllgebccjmljaa
