/-
  GuardDeep holds: what panics deep within is told by the innermost one alone. Conditions: none.
-/
import Derived.Test.YtdllgebccjmljaaJ
import Derived.Deep.RegionLaw
import Derived.Deep.RegionHeld3
namespace Go.Proofs.Ytdllgebccjmljaa
open Go.ChangeShapes Go.WideShapes Go.ChangeAt Go.RowKit

def arrD (e k : Int) (s : ByteArray) : Array Value := ((Value.int .i64 e) :: (Value.int .i64 k) :: (Value.string s) :: (List.replicate 39 [Value.int .i64 0, Value.int .i64 0, Value.string ⟨#[]⟩]).flatten).toArray

theorem make40 (w : World) : (Instr.makeSlice 41 (.int .i64 0) (.int .i64 40)).run Try.prog w = .ok (.slice (some ⟨w.heap.size, 0, none⟩) 0 40) (w.alloc (.cells (arrD 0 0 ⟨#[]⟩) 26)) := by kernel_rfl

/-- The list of faults, its array, the count of ends. -/
structure DS (A n : Nat) (m : Int) (arr : Array Value) (w : World) : Prop where
  a : w.heap[A]? = some (.cells arr 26)
  t : w.heap[A + 1]? = some (.cells #[.slice (some ⟨A, 0, none⟩) n 40] 41)
  e : w.heap[A + 2]? = some (.cells #[.int .i64 m] 3)

theorem DS.of {A n : Nat} {m : Int} {arr : Array Value} {w w' : World} (h : DS A n m arr w) (hb : ∀ k, A ≤ k → k < A + 3 → w'.heap[k]? = w.heap[k]?) : DS A n m arr w' :=
  ⟨(hb _ (by omega) (by omega)).trans h.a, (hb _ (by omega) (by omega)).trans h.t, (hb _ (by omega) (by omega)).trans h.e⟩

theorem Off.keepsN {C n B : Nat} {w w' : World} (h : Off C n w w') (hB : C + n ≤ B) : Keeps B w w' := ⟨h.size, fun k h1 h2 => h.block k h2 (Or.inr (by omega))⟩

theorem inW_offN (f : Value) (w w1 w2 : World) (C n : Nat) (h1 : Off C n (inW f w) w1) (h2 : Off w.heap.size 5 w1 w2) : Off C n w w2 := by
  have hs := inW_size f w
  have a1 := h1.size
  refine ⟨h2.os.trans (h1.os.trans (inW_below f w).os), h2.tape.trans (h1.tape.trans (inW_below f w).tape), h2.output.trans (h1.output.trans (inW_below f w).output), by have := h2.size; omega, fun k hk hj => ?_⟩
  rw [h2.block k (by omega) (by omega), h1.block k (by omega) hj, inW_old _ _ _ hk]

theorem do_ds_ok (G : Nat) (caps : Array Value) (w : World) (A n : Nat) (m : Int) (arr : Array Value) (hA : A + 3 ≤ w.heap.size)
    (hcf : ∀ w, (callFunc G caps).run Try.prog w = .ok (.enter G caps) w)
    (hG : Calls Try.prog G caps (inW (.func (.func G) #[] caps) w) fun e w' => e = .returned (.tuple #[]) ∧ Off A 3 (inW (.func (.func G) #[] caps) w) w' ∧ DS A n m arr w') :
    Calls Try.prog 14 #[.func (.func G) #[] caps] w fun e w' => e = .returned (fault 0 0 ⟨#[]⟩) ∧ Off A 3 w w' ∧ DS A n m arr w' := by
  have hz := inW_size (.func (.func G) #[] caps) w
  refine (do_ok G caps w (fun w1 => Off A 3 (inW (.func (.func G) #[] caps) w) w1 ∧ DS A n m arr w1) hcf (hG.mono ?_)).mono ?_
  · rintro e w' ⟨rfl, ho, hx⟩
    exact ⟨rfl, ho.keepsN hA, ho, hx⟩
  · rintro e w2 ⟨rfl, w1, ⟨ho, hx⟩, O⟩
    have := ho.size
    exact ⟨rfl, inW_offN _ _ _ _ _ _ ho O, hx.of fun k _ hk => O.block k (by omega) (Or.inl (by omega))⟩

theorem do_ds_bad (G : Nat) (caps : Array Value) (w : World) (A n : Nat) (m : Int) (arr : Array Value) (e k : Int) (s : ByteArray) (hA : A + 3 ≤ w.heap.size)
    (hcf : ∀ w, (callFunc G caps).run Try.prog w = .ok (.enter G caps) w)
    (hG : Calls Try.prog G caps (inW (.func (.func G) #[] caps) w) fun e' w' => (∃ t pv, e' = .panicked [{ v := .iface t pv, recovered := false }] ∧ ToldBy t pv e k s) ∧ Off A 3 (inW (.func (.func G) #[] caps) w) w' ∧ DS A n m arr w') :
    Calls Try.prog 14 #[.func (.func G) #[] caps] w fun e' w' => e' = .returned (fault e k s) ∧ Off A 3 w w' ∧ DS A n m arr w' := by
  have hz := inW_size (.func (.func G) #[] caps) w
  refine (do_bad G caps w e k s (fun w1 => Off A 3 (inW (.func (.func G) #[] caps) w) w1 ∧ DS A n m arr w1) hcf (hG.mono ?_)).mono ?_
  · rintro e' w' ⟨h, ho, hx⟩
    exact ⟨h, ho.keepsN hA, ho, hx⟩
  · rintro e' w2 ⟨rfl, w1, ⟨ho, hx⟩, O⟩
    have := ho.size
    exact ⟨rfl, inW_offN _ _ _ _ _ _ ho O, hx.of fun k _ hk => O.block k (by omega) (Or.inl (by omega))⟩

/-- What the innermost one's fault is. -/
def deepE (c : Int) (s : ByteArray) : Int × Int × ByteArray := if c = 1 then (20, 2, ⟨#[]⟩) else if c = 2 then (21, 3, s) else if c = 3 then (21, 1, ⟨#[]⟩) else (0, 0, ⟨#[]⟩)

/-- The boxes of one call of deep. -/
structure Boxes (B : Nat) (d c : Int) (s : ByteArray) (A : Nat) (w : World) : Prop where
  b0 : w.heap[B]? = some (.cells #[.int .i64 d] 3)
  b1 : w.heap[B + 1]? = some (.cells #[.int .i64 c] 3)
  b2 : w.heap[B + 1 + 1]? = some (.cells #[.string s] 9)
  b3 : w.heap[B + 1 + 1 + 1]? = some (.cells #[.pointer (some ⟨A + 1, 0, none⟩)] 43)
  b4 : w.heap[B + 1 + 1 + 1 + 1]? = some (.cells #[.pointer (some ⟨A + 2, 0, none⟩)] 36)

section
variable (B A : Nat) (c : Int) (s : ByteArray) (w : World)
theorem deep0_fine (hc : c < 1 ∨ 3 < c) (hB : Boxes B 0 c s A w) :
    Calls Try.prog 30 #[.pointer (some ⟨B, 0, none⟩), .pointer (some ⟨B + 1, 0, none⟩), .pointer (some ⟨B + 1 + 1, 0, none⟩), .pointer (some ⟨B + 1 + 1 + 1, 0, none⟩), .pointer (some ⟨B + 1 + 1 + 1 + 1, 0, none⟩)] w fun e w' => e = .returned (.tuple #[]) ∧ w' = w := by
  obtain ⟨f0, -⟩ := cell_of_block1 hB.b0
  obtain ⟨f1, -⟩ := cell_of_block1 hB.b1
  have k1 : (c == 1) = false := by simp; omega
  have k2 : (c == 2) = false := by simp; omega
  have k3 : (c == 3) = false := by simp; omega
  clear hc
  go_enter Try.func30, Try.ntmps30
  go_wp2
  first | go_end0 | refine bodyPost_ret (results_none rfl _ _ _) rfl ?_
  exact ⟨rfl, rfl⟩

theorem deep0_must (hB : Boxes B 0 1 s A w) :
    Calls Try.prog 30 #[.pointer (some ⟨B, 0, none⟩), .pointer (some ⟨B + 1, 0, none⟩), .pointer (some ⟨B + 1 + 1, 0, none⟩), .pointer (some ⟨B + 1 + 1 + 1, 0, none⟩), .pointer (some ⟨B + 1 + 1 + 1 + 1, 0, none⟩)] w fun e w' => (∃ t pv, e = .panicked [{ v := .iface t pv, recovered := false }] ∧ ToldBy t pv 20 2 ⟨#[]⟩) ∧ Below w.heap.size w w' := by
  obtain ⟨f0, -⟩ := cell_of_block1 hB.b0
  obtain ⟨f1, -⟩ := cell_of_block1 hB.b1
  go_enter Try.func30, Try.ntmps30
  go_wp2_with fail
  refine (must_yes 20 (by decide) _).mono ?_
  rintro e w' ⟨rfl, rfl⟩
  go_wp2
  exact ⟨rfl, ⟨_, _, rfl, told_num 20 (by decide)⟩, Below.refl _ _⟩

theorem deep0_fail (hB : Boxes B 0 2 s A w) :
    Calls Try.prog 30 #[.pointer (some ⟨B, 0, none⟩), .pointer (some ⟨B + 1, 0, none⟩), .pointer (some ⟨B + 1 + 1, 0, none⟩), .pointer (some ⟨B + 1 + 1 + 1, 0, none⟩), .pointer (some ⟨B + 1 + 1 + 1 + 1, 0, none⟩)] w fun e w' => (∃ t pv, e = .panicked [{ v := .iface t pv, recovered := false }] ∧ ToldBy t pv 21 3 s) ∧ Below w.heap.size w w' := by
  obtain ⟨f0, -⟩ := cell_of_block1 hB.b0
  obtain ⟨f1, -⟩ := cell_of_block1 hB.b1
  obtain ⟨f2, -⟩ := cell_of_block1 hB.b2
  go_enter Try.func30, Try.ntmps30
  go_wp2_with fail
  refine (fail_any s _).mono ?_
  rintro e w' ⟨rfl, rfl⟩
  go_wp2
  exact ⟨rfl, ⟨_, _, rfl, told_text s⟩, Below.refl _ _⟩

theorem deep0_index (m : Int) (hB : Boxes B 0 3 s A w) (hE : w.heap[A + 2]? = some (.cells #[.int .i64 m] 3)) :
    Calls Try.prog 30 #[.pointer (some ⟨B, 0, none⟩), .pointer (some ⟨B + 1, 0, none⟩), .pointer (some ⟨B + 1 + 1, 0, none⟩), .pointer (some ⟨B + 1 + 1 + 1, 0, none⟩), .pointer (some ⟨B + 1 + 1 + 1 + 1, 0, none⟩)] w fun e w' => (∃ t pv, e = .panicked [{ v := .iface t pv, recovered := false }] ∧ ToldBy t pv 21 1 ⟨#[]⟩) ∧ Below w.heap.size w w' := by
  obtain ⟨f0, -⟩ := cell_of_block1 hB.b0
  obtain ⟨f1, -⟩ := cell_of_block1 hB.b1
  obtain ⟨f4, -⟩ := cell_of_block1 hB.b4
  obtain ⟨f5, -⟩ := cell_of_block1 hE
  obtain ⟨S, N, hrun⟩ := bounds_run 0 0
  go_enter Try.func30, Try.ntmps30
  go_wp2
  go_region_dies
  all_goals
    refine ⟨rfl, ⟨_, _, rfl, told_rt 8 (by simp [rtT]) _⟩, ?_⟩
    repeat' (first | exact Below.refl _ _ | refine below_drewN ?_ _ | refine Below.drew ?_)

theorem deep_succ (d : Nat) (hd : d ≤ 100) (m : Int) (hm0 : 0 ≤ m) (hm : m ≤ 100) (n : Nat) (arr : Array Value) (hB : Boxes B (d + 1 : Nat) c s A w) (hAB : A + 3 ≤ B)
    (h : Calls Try.prog 22 #[.int .i64 d, .int .i64 c, .string s, .pointer (some ⟨A + 1, 0, none⟩), .pointer (some ⟨A + 2, 0, none⟩)] w fun e w' => e = .returned (.tuple #[]) ∧ Off A 3 w w' ∧ DS A n m arr w') :
    Calls Try.prog 30 #[.pointer (some ⟨B, 0, none⟩), .pointer (some ⟨B + 1, 0, none⟩), .pointer (some ⟨B + 1 + 1, 0, none⟩), .pointer (some ⟨B + 1 + 1 + 1, 0, none⟩), .pointer (some ⟨B + 1 + 1 + 1 + 1, 0, none⟩)] w fun e w' => e = .returned (.tuple #[]) ∧ Off A 3 w w' ∧ DS A n (m + 1) arr w' := by
  have H := Lib.hid h; clear h
  obtain ⟨f0, -⟩ := cell_of_block1 hB.b0
  obtain ⟨f1, -⟩ := cell_of_block1 hB.b1
  obtain ⟨f2, -⟩ := cell_of_block1 hB.b2
  obtain ⟨f3, -⟩ := cell_of_block1 hB.b3
  obtain ⟨f4, -⟩ := cell_of_block1 hB.b4
  go_enter Try.func30, Try.ntmps30
  go_wp2_with fail
  refine H.out.mono ?_
  rintro e w' ⟨rfl, O, D⟩
  obtain ⟨g4, -⟩ := cell_of_block1 (O.same hB.b4 (Or.inr (by omega)))
  obtain ⟨g5, g6⟩ := cell_of_block1 D.e
  have HD := Lib.hid (And.intro O D); clear O D
  clear f0 f1 f2 f3 f4
  go_wp2
  first | go_end0 | refine bodyPost_ret (results_none rfl _ _ _) rfl ?_
  refine ⟨rfl, HD.out.1.setCell (p := ⟨A + 2, 0, none⟩) (by simp) (by simp) _, ?_, ?_, ?_⟩
  · exact (Below.heap_setCell _ _ _ _ (by simp)).trans HD.out.2.a
  · exact (Below.heap_setCell _ _ _ _ (by simp)).trans HD.out.2.t
  · exact heap_setCell_same HD.out.2.e _
end

theorem info26 : (Try.prog.info? 26).map (fun i => i.size) = some 3 := by kernel_rfl

def set3 (arr : Array Value) (n : Nat) (x y z : Value) : Array Value := ((arr.setIfInBounds (n * 3) x).setIfInBounds (n * 3 + 1) y).setIfInBounds (n * 3 + 1 + 1) z

theorem app_news (w : World) (x y z : Value) : ∀ j u, [x, y, z][j]? = some u → (w.drew.alloc (.cells #[x, y, z] 26)).cell? ((⟨w.heap.size, 0, none⟩ : Addr).add j) = some u := by
  intro j u h
  have hb : (w.drew.alloc (.cells #[x, y, z] 26)).heap[w.heap.size]? = some (.cells #[x, y, z] 26) := new_block w.drew _
  revert hb
  generalize w.drew.alloc (.cells #[x, y, z] 26) = v
  intro hb
  match j, h with
  | 0, h => simp at h; subst h; simp [Addr.add, World.cell?, hb]
  | 1, h => simp at h; subst h; simp [Addr.add, World.cell?, hb]
  | 2, h => simp at h; subst h; simp [Addr.add, World.cell?, hb]

theorem app_spare {A n : Nat} {m : Int} {n' : Nat} {arr : Array Value} {w : World} (h : DS A n' m arr w) (hs : arr.size = 120) (hn : n < 40) (o : Obj) (l : List Value) (hl : l.length = 3) :
    ∀ j, j < l.length → ((w.drew.alloc o).cell? ⟨A, 0 + n * 3 + j, none⟩).isSome = true ∧ (w.drew.alloc o).frozen? ⟨A, 0 + n * 3 + j, none⟩ = false := by
  intro j hj
  have hb : (w.drew.alloc o).heap[A]? = some (.cells arr 26) := (Below.heap_alloc w.drew _ _ (lt_of_block h.a)).trans h.a
  refine ⟨?_, ?_⟩
  · simp [World.cell?, hb]; omega
  · simp [World.frozen?, hb]

theorem oneCells (e k : Int) (s : ByteArray) : ∀ u ∈ [Value.int .i64 e, Value.int .i64 k, Value.string s], u.oneCell' = true := by
  intro u hu
  simp only [List.mem_cons, List.not_mem_nil, or_false] at hu
  rcases hu with rfl | rfl | rfl <;> rfl

/-- The append of one fault into the room that there is, the world behind it a letter. -/
theorem step_app {ops : Array Oper} {o : Oper} {a : Act} {w : World} {K : Act → World → Prop} {Q : Exit → Act → World → Prop} {E : Prop} (hg : o.guard = none) (s x : Operand)
    (hop : o.op = Op.call { callee := Callee.builtin Builtin.append, args := #[s, x], argTypes := #[41, 41] }) (i0 : TypeInfo) (hi : Try.prog.info? 26 = some i0 ∧ i0.size = 3)
    (A n : Nat) (arr : Array Value) (hs : a.eval s = .slice (some ⟨A, 0, none⟩) n 40) (ad : Addr) (fe fk : Int) (fs : ByteArray) (hx : a.eval x = .slice (some ad) 1 1)
    (hc : ∀ j u, [Value.int .i64 fe, Value.int .i64 fk, Value.string fs][j]? = some u → w.cell? (ad.add j) = some u) (hA : w.heap[A]? = some (.cells arr 26)) (harr : arr.size = 120) (hn : n < 40)
    (hK : ∀ w', Off A 1 w w' → w'.heap[A]? = some (.cells (set3 arr n (.int .i64 fe) (.int .i64 fk) (.string fs)) 26) → K (a.put o.dst (.slice (some ⟨A, 0, none⟩) (n + 1) 40)) w') :
    if Region.wanted o (yielded ops a.tmps) = true then Oper.wp Try.prog o a w K Q else E := by
  refine step_append_room hg s x 41 hop 26 i0 3 Try.underlying41 hi.1 hi.2 A 0 n 40 hs ad 1 1 [.int .i64 fe, .int .i64 fk, .string fs] hx rfl hc (oneCells _ _ _) (by omega) ?_ (hK _ ?_ ?_)
  · intro j hj
    have hj : j < 3 := hj
    refine ⟨?_, ?_⟩
    · simp [World.cell?, hA]; omega
    · simp [World.frozen?, hA]
  · rw [Nat.zero_add]
    exact (((Off.refl A 1 w).setCell (p := ⟨A, n * 3, none⟩) (Nat.le_refl _) (by simp) _).setCell (p := ⟨A, n * 3 + 1, none⟩) (Nat.le_refl _) (by simp) _).setCell (p := ⟨A, n * 3 + 1 + 1, none⟩) (Nat.le_refl _) (by simp) _
  · rw [Nat.zero_add]
    exact heap_setCell_same (heap_setCell_same (heap_setCell_same hA _) _) _

theorem app_cells {A B F : Nat} {w w' : World} {o : Obj} (O : Off A 1 (w.alloc o).drew w') (z0 : B < w.heap.size) (z1 : A + 1 < w.heap.size) (z2 : F < w.heap.size) (n1 : ¬ A = B) (n2 : ¬ A = F) :
    w'.cell? ⟨B, 0, none⟩ = w.cell? ⟨B, 0, none⟩ ∧ w'.cell? ⟨A + 1, 0, none⟩ = w.cell? ⟨A + 1, 0, none⟩ ∧ w'.cell? ⟨F, 0, none⟩ = w.cell? ⟨F, 0, none⟩ ∧ w'.cell? ⟨F, 1, none⟩ = w.cell? ⟨F, 1, none⟩ ∧ w'.cell? ⟨F, 2, none⟩ = w.cell? ⟨F, 2, none⟩ ∧
      w'.frozen? ⟨A + 1, 0, none⟩ = w.frozen? ⟨A + 1, 0, none⟩ := by
  have hs : (w.alloc o).drew.heap.size = w.heap.size + 1 := World.size_alloc w o
  have z4 : A + 1 < (w.alloc o).drew.heap.size := by omega
  have hk : ∀ k, k < w.heap.size → A ≠ k → w'.heap[k]? = w.heap[k]? := fun k h1 h2 => (O.block k (by omega) (by omega)).trans (Below.heap_alloc w o k h1)
  exact ⟨World.cell?_of_block (w := w) (hk B z0 n1), World.cell?_of_block (w := w) (hk (A + 1) z1 (by omega)), World.cell?_of_block (w := w) (hk F z2 n2), World.cell?_of_block (w := w) (hk F z2 n2), World.cell?_of_block (w := w) (hk F z2 n2), World.frozen?_of_block (w := w) (hk (A + 1) z1 (by omega))⟩

theorem deep_fin {A n : Nat} {m : Int} {arr arr' : Array Value} {w w3 w6 : World} {o : Obj} (h : DS A n m arr w3 ∧ Off A 3 w w3) (O : Off A 1 (w3.alloc o).drew w6) (h6 : w6.heap[A]? = some (.cells arr' 26)) :
    Off A 3 w (w6.setCell ⟨A + 1, 0, none⟩ (.slice (some ⟨A, 0, none⟩) (n + 1) 40)) ∧ DS A (n + 1) m arr' (w6.setCell ⟨A + 1, 0, none⟩ (.slice (some ⟨A, 0, none⟩) (n + 1) 40)) := by
  obtain ⟨D, O0⟩ := h
  have O3 : Off A 3 w3 w6 := by
    have h1 : Off A 3 w3 (w3.alloc o).drew := ⟨rfl, rfl, rfl, by show _ ≤ (w3.alloc o).heap.size; simp, fun k hk _ => Below.heap_alloc w3 o k hk⟩
    exact h1.trans (O.wider (Nat.le_refl _) (by omega))
  have ht := (O.block (A + 1) (by have := lt_of_block D.t; show _ < (w3.alloc o).heap.size; simp; omega) (by omega)).trans ((Below.heap_alloc w3 o _ (lt_of_block D.t)).trans D.t)
  have he := (O.block (A + 2) (by have := lt_of_block D.e; show _ < (w3.alloc o).heap.size; simp; omega) (by omega)).trans ((Below.heap_alloc w3 o _ (lt_of_block D.e)).trans D.e)
  refine ⟨(O0.trans O3).setCell (p := ⟨A + 1, 0, none⟩) (by simp) (by simp) _, ?_, ?_, ?_⟩
  · exact (Below.heap_setCell _ _ _ _ (by simp)).trans h6
  · exact heap_setCell_same ht _
  · exact (Below.heap_setCell _ _ _ _ (by simp)).trans he

set_option maxHeartbeats 400000 in
theorem deep_walk (d c : Int) (s : ByteArray) (A n : Nat) (hn : n < 40) (m fe fk : Int) (fs : ByteArray) (arr : Array Value) (harr : arr.size = 120) (w : World) (hA : A + 3 ≤ w.heap.size)
    (hdo : ∀ w5, Boxes w.heap.size d c s A w5 → Below w.heap.size w w5 → w5.heap.size = w.heap.size + 5 →
      Calls Try.prog 14 #[.func (.func 30) #[] #[.pointer (some ⟨w.heap.size, 0, none⟩), .pointer (some ⟨w.heap.size + 1, 0, none⟩), .pointer (some ⟨w.heap.size + 1 + 1, 0, none⟩), .pointer (some ⟨w.heap.size + 1 + 1 + 1, 0, none⟩), .pointer (some ⟨w.heap.size + 1 + 1 + 1 + 1, 0, none⟩)]] w5 fun e w' => e = .returned (fault fe fk fs) ∧ Off A 3 w5 w' ∧ DS A n m arr w') :
    Calls Try.prog 22 #[.int .i64 d, .int .i64 c, .string s, .pointer (some ⟨A + 1, 0, none⟩), .pointer (some ⟨A + 2, 0, none⟩)] w fun e w' => e = .returned (.tuple #[]) ∧ Off A 3 w w' ∧ DS A (n + 1) m (set3 arr n (.int .i64 fe) (.int .i64 fk) (.string fs)) w' := by
  have hmf : ∀ (fn : Fn) (first cap : Array Value) (w : World), (Instr.makeFunc fn first cap).run Try.prog w = .ok (.func fn first cap) w := fun _ _ _ _ => rfl
  have HD := Lib.hid hdo; clear hdo
  have HR := Lib.hid harr; clear harr
  obtain ⟨i0, hi0, hi1⟩ := Option.map_eq_some_iff.1 info26
  have HI := Lib.hid (And.intro hi0 hi1); clear hi0 hi1
  go_enter Try.func22, Try.ntmps22
  go_wp2_with fail
  have hb5 : Below w.heap.size w (((((w.alloc (.cells #[.int .i64 d] 3)).alloc (.cells #[.int .i64 c] 3)).alloc (.cells #[.string s] 9)).alloc (.cells #[.pointer (some ⟨A + 1, 0, none⟩)] 43)).alloc (.cells #[.pointer (some ⟨A + 2, 0, none⟩)] 36)) := by
    repeat' (first | exact Below.refl _ _ | (refine Below.alloc ?_ (by simp <;> omega) _))
  have hbx : Boxes w.heap.size d c s A (((((w.alloc (.cells #[.int .i64 d] 3)).alloc (.cells #[.int .i64 c] 3)).alloc (.cells #[.string s] 9)).alloc (.cells #[.pointer (some ⟨A + 1, 0, none⟩)] 43)).alloc (.cells #[.pointer (some ⟨A + 2, 0, none⟩)] 36)) := by
    refine ⟨?_, ?_, ?_, ?_, ?_⟩
    all_goals
      show (((((w.heap.push _).push _).push _).push _).push _)[_]? = _
      simp only [Array.getElem?_push, Array.size_push]
    · rw [if_neg (by omega), if_neg (by omega), if_neg (by omega), if_neg (by omega), if_pos trivial]
    · rw [if_neg (by omega), if_neg (by omega), if_neg (by omega), if_pos trivial]
    · rw [if_neg (by omega), if_neg (by omega), if_pos trivial]
    · rw [if_neg (by omega), if_pos trivial]
    · rw [if_pos trivial]
  refine (HD.out _ hbx hb5 (by simp)).mono ?_
  rintro e w2 ⟨rfl, O, D⟩
  have q3 := O.same hbx.b3 (Or.inr (by omega))
  have O2 : Off A 3 w w2 := (Off.of_below hb5).trans O
  have hz2 := lt_of_block q3
  clear O hbx hb5 HD
  obtain ⟨g1, -⟩ := cell_of_block1 q3
  obtain ⟨g2, g3⟩ := cell_of_block1 D.t
  have hz1 := lt_of_block D.t
  have hz0 := lt_of_block D.a
  have DD := Lib.hid (And.intro O2 D); clear O2 D q3
  unfold fault
  go_wp2_with fail
  have m1 : DS A n m arr (w2.alloc (.cells #[.int .i64 fe, .int .i64 fk, .string fs] 26)) := DD.out.2.of (fun k _ hk => Below.heap_alloc _ _ _ (by omega))
  have m2 := DD.out.1.alloc (.cells #[.int .i64 fe, .int .i64 fk, .string fs] 26)
  have m3 := new_block w2 (.cells #[.int .i64 fe, .int .i64 fk, .string fs] 26)
  have m4 := (World.cell?_alloc_lt w2 (.cells #[.int .i64 fe, .int .i64 fk, .string fs] 26) ⟨w.heap.size + 1 + 1 + 1, 0, none⟩ hz2).trans g1
  clear g1 g2 g3 DD
  revert m1 m2 m3 m4
  generalize w2.alloc (.cells #[.int .i64 fe, .int .i64 fk, .string fs] 26) = w3
  intro m1 m2 m3 m4
  obtain ⟨g2, g3⟩ := cell_of_block1 m1.t
  obtain ⟨a4, a5, a6, -, -, -⟩ := cells_of_fault m3
  have z1 := lt_of_block m1.t
  have z2 := lt_of_block m3
  have z3 := lt_of_block m1.a
  have z0 := World.block_lt_of_cell? w3 _ m4
  have DD := Lib.hid (And.intro m1 m2); clear m1 m2 m3
  have ne1 : ¬ A = w.heap.size + 1 + 1 + 1 := by omega
  have ne2 : ¬ A = w2.heap.size := by omega
  go_region_law (refine step_app rfl (.tmp 16) (.tmp 18) rfl i0 HI.out A n arr (by rfl) ⟨w3.heap.size, 0, none⟩ fe fk fs (by rfl) (app_news w3 _ _ _) ((Below.heap_alloc w3.drew _ _ z3).trans DD.out.1.a) HR.out hn ?_; intro w6 O6 h6; obtain ⟨c1, c2, c3, c4, c5, c6⟩ := app_cells O6 z0 z1 z2 ne1 ne2; simp only [m4, g2, g3, a4, a5, a6] at c1 c2 c3 c4 c5 c6)
  all_goals
    go_end0
    exact ⟨rfl, deep_fin DD.out O6 h6⟩

end Go.Proofs.Ytdllgebccjmljaa
