/-
  A law's list of numbers as it lies in memory; their floats, one behind the other. Conditions: none.
-/
import Derived.Test.YtelkobogohbhlaaDoorRealC6
import Derived.Test.YtelkobogohbhlaaDoorK
import Derived.Deep.Slices
import Derived.Lib.SmallJoins
namespace Go.Proofs.YtelkobogohbhlaaDoor
open Go.ChangeShapes Go.WideShapes Go.ChangeAt Go.RowKit Go.Lib

structure U64In (w : World) (b off len : Nat) (L : Nat → Nat) : Prop where
  bl : b < w.heap.size
  c : ∀ i, i < len → w.cell? ⟨b, off + i, none⟩ = some (.int .u64 (L i : Nat))
structure U64Arg (W : World) (ao : Option Addr) (len : Nat) (L : Nat → Nat) : Prop where
  at_ : 0 < len → ∃ b off, ao = some ⟨b, off, none⟩ ∧ U64In W b off len L
  le : len ≤ maxLen
  lt : ∀ i, i < len → L i < 18446744073709551616
theorem U64In.block {w w' : World} {b off len : Nat} {L : Nat → Nat} (h : U64In w b off len L) (hs : w.heap.size ≤ w'.heap.size) (hb : w'.heap[b]? = w.heap[b]?) : U64In w' b off len L :=
  ⟨Nat.lt_of_lt_of_le h.bl hs, fun i hi => (World.cell?_of_block (w := w) hb).trans (h.c i hi)⟩
theorem U64In.below {W w : World} {b off len : Nat} {L : Nat → Nat} (h : U64In W b off len L) (hb : Below W.heap.size W w) : U64In w b off len L := h.block hb.size (hb.block _ h.bl)
theorem U64Arg.below {W w : World} {ao : Option Addr} {len : Nat} {L : Nat → Nat} (h : U64Arg W ao len L) (hb : Below W.heap.size W w) : U64Arg w ao len L :=
  ⟨fun hl => by obtain ⟨b, off, e, hi⟩ := h.at_ hl; exact ⟨b, off, e, hi.below hb⟩, h.le, h.lt⟩

theorem block_of_cell {w : World} {b o : Nat} {v : Value} (h : w.cell? ⟨b, o, none⟩ = some v) : b < w.heap.size := by
  by_cases hb : b < w.heap.size
  · exact hb
  · have : w.heap[b]? = none := by simp; omega
    simp [World.cell?, this] at h
theorem addr_spot {w : World} {a : Addr} {v : Value} (h : w.cell? a = some v) : a.spot = none := by
  obtain ⟨b, off, sp⟩ := a
  cases sp with
  | none => rfl
  | some sp =>
    unfold World.cell? at h
    split at h <;> simp at h
theorem addr_add1 (b off i : Nat) : ((⟨b, off, none⟩ : Addr).add i) = ⟨b, off + i, none⟩ := by
  unfold Addr.add
  by_cases hi : i = 0 <;> simp [hi]

theorem cellsOf22 : Tryd.prog.cellsOf 22 = 1 := by kernel_rfl
theorem open_u64s {H : Type} {enc : TypeId × Value → H} {W : World} {v : Value} {d : DataW H} {ps : List MemPlace} (h : DataW.Trod enc Tryd.prog W 0 (fun _ => true) true 42 v d ps)
    {base : Nat} (hv : Value.okWide Tryd.prog W .any base 42 v) : ∃ ao len cap L, v = .slice ao len cap ∧ U64Arg W ao len L := by
  obtain ⟨ao, len, cap, rfl⟩ := okWide_slice Tryd.underlying42 hv
  obtain ⟨fuel, hf⟩ := h
  rcases Go.Deep.open_slice Tryd.underlying42 hf with ⟨hcs, _⟩ | ⟨a, len', cap', m, n, D, Pl, hcs, _, hl, hm, hmm, _, hx⟩
  · simp only [Value.cells, List.cons.injEq, and_true] at hcs
    rw [hcs]
    exact ⟨none, 0, 0, fun _ => 0, rfl, fun hi => by omega, by simp, fun i hi => by omega⟩
  · simp only [Value.cells, List.cons.injEq, and_true] at hcs
    rw [hcs]
    simp only [if_true] at hmm
    subst hmm
    rw [cellsOf22] at hx
    obtain ⟨J, hJ⟩ := Go.Deep.choose_lt (α := Nat) (n := m) (p := fun i j => j < 18446744073709551616 ∧ W.cell? (a.add i) = some (.int .u64 (j : Nat))) (fun i hi => by
      obtain ⟨cs', h1, h2⟩ := hx i hi
      obtain ⟨bt, e2, -, w2⟩ := DataW.trod_int Tryd.underlying22 h2
      obtain ⟨_, _, hc⟩ := World.cells?_some h1
      have b2 : 0 ≤ bt ∧ bt ≤ 18446744073709551615 := by simpa [Lit.wf, IntKind.min, IntKind.max, IntKind.signed, IntKind.bits] using w2
      obtain ⟨bn, rfl⟩ := Int.eq_ofNat_of_zero_le b2.1
      subst e2
      have := hc 0 (by omega)
      rw [Nat.mul_one] at this
      have e0 : (a.add i).add 0 = a.add i := by unfold Addr.add; simp
      rw [e0] at this
      exact ⟨bn, by omega, this⟩)
    refine ⟨some a, len', m, J, rfl, fun hi => ?_, Nat.le_trans hl hm, fun i hi => (hJ i (by omega)).1⟩
    obtain ⟨b, off, sp⟩ := a
    have hsp : sp = none := by
      have := addr_spot (hJ 0 (by omega)).2
      unfold Addr.add at this
      simpa using this
    subst hsp
    refine ⟨b, off, rfl, ?_, fun i hi => ?_⟩
    · have := (hJ 0 (by omega)).2
      rw [addr_add1] at this
      exact block_of_cell this
    · have := (hJ i (by omega)).2
      rw [addr_add1] at this
      exact this

/-- A list of floats as the walk has it. -/
def flV (L : Nat → Nat) (n : Nat) : List Value := (List.range n).map fun i => Value.float .f64 (L i)
theorem flV_length (L : Nat → Nat) (n : Nat) : (flV L n).length = n := by simp [flV]
theorem flV_succ (L : Nat → Nat) (n : Nat) : flV L (n + 1) = flV L n ++ [Value.float .f64 (L n)] := by simp [flV, List.range_succ]
theorem flV_get (L : Nat → Nat) (n i : Nat) (h : i < n) : (flV L n)[i]? = some (Value.float .f64 (L i)) := by simp [flV, h]

theorem row_floats {w : World} {B n : Nat} {v : Value} {L : Nat → Nat} (h : w.ownsRow B 24 1 v n (flV L n)) (h0 : 0 < n) : ∃ g cap, v = .slice (some ⟨g, 0, none⟩) n cap ∧ n ≤ cap ∧ B ≤ g ∧ FlIn w g 0 n L := by
  have hc := fun g hg => World.ownsRow.cells (g := g) h hg
  rcases h.2 with ⟨_, h1⟩ | ⟨g, cap, cur, rfl, hb, hg, hn, _⟩
  · omega
  · refine ⟨g, cap, rfl, hn, hb, fun i hi => ?_, lt_of_block hg⟩
    have := hc g rfl i _ (flV_get L n i hi)
    rw [addr_add1] at this
    exact this
theorem row_none {w : World} {B : Nat} {v : Value} {xs : List Value} (h : w.ownsRow B 24 1 v 0 xs) : ∃ ao cap, v = .slice ao 0 cap := by
  rcases h.2 with ⟨h1, _⟩ | ⟨g, cap, cur, rfl, _⟩
  · exact ⟨none, 0, h1⟩
  · exact ⟨_, cap, rfl⟩

theorem cell_new1 (w : World) (v : Value) (t : TypeId) (j : Nat) (u : Value) (h : [v][j]? = some u) : (w.alloc (.cells #[v] t)).cell? ((⟨w.heap.size, 0, none⟩ : Addr).add j) = some u := by
  match j, h with
  | 0, h =>
    simp at h
    subst h
    have hb := new_block w (.cells #[v] t)
    rw [addr_add1]
    revert hb
    generalize w.alloc (.cells #[v] t) = w2
    intro hb
    simp [World.cell?, hb]

set_option maxRecDepth 100000 in
theorem floats_any (ao : Option Addr) (len cap : Nat) (L : Nat → Nat) (hlen : len ≤ 1000) (w : World) (hA : U64Arg w ao len L) :
    Calls Tryd.prog 31 #[.slice ao len cap] w fun en w' => ∃ v, en = .returned v ∧ w'.ownsRow w.heap.size 24 1 v len (flV L len) ∧ (len = 0 → v = .slice none 0 0) ∧ Below w.heap.size w w' := by
  have h57 := runFrom
  obtain ⟨i0, hi, hz, hs, hb⟩ := info_parts (P := Tryd.prog) (e := 24) (z := .float .f64 0) (size := 1) (bytes := 8) (by kernel_rfl)
  have HA := Lib.hid hA; clear hA
  go_enter Tryd.func31, Tryd.ntmps31
  go_wp2_with fail
  go_loopg [3, 4] len (fun g v i wr => ∃ k : Nat, g = len - k ∧ k ≤ len ∧ i = .int .i64 k ∧ wr.ownsRow w.heap.size 24 1 v k (flV L k) ∧ (k = 0 → v = .slice none 0 0) ∧ Below w.heap.size w wr)
  case atStart => exact ⟨0, by omega, by omega, rfl, World.ownsRow_nil _ _ _ _, fun _ => rfl, Below.refl _ _⟩
  case round =>
    obtain ⟨k, hg, hk, rfl, hown, hnil, hbl⟩ := hrel
    have HG := Lib.hid hg; clear hg
    have HO := Lib.hid (And.intro hown (And.intro hnil hbl)); clear hown hnil hbl
    by_cases hlt : k < len
    · obtain ⟨b, off, rfl, hU⟩ := HA.out.at_ (by omega)
      have c1 := (hU.below HO.out.2.2).c k hlt
      have hl : (k : Int) < (len : Int) := by omega
      have hw1 : IntKind.i64.wrap ((k : Int) + 1) = (k : Int) + 1 := IntWalk.i64_in _ (by omega)
      clear hU
      go_wp2_with (first
        | (at_builtin; refine wpList_append_own _ rfl _ _ 43 rfl w.heap.size 24 i0 (.float .f64 0) 1 8 Tryd.underlying43 hi hz hs hb rfl (by decide) _ k _ rfl (HO.out.1.alloc _) ⟨wr.heap.size, 0, none⟩ 1 1 [.float .f64 (L k)] rfl rfl ?c1 ?c2 ?c3 ?c4 ?c5 ?_)
        | fail)
      case c1 => exact fun j u h => cell_new1 _ _ _ j u h
      case c2 => intro u hu; simp at hu; subst hu; rfl
      case c3 => unfold maxLen; omega
      case c4 => omega
      case c5 => have := HO.out.2.2.size; simp; omega
      intro v' w3 hown' hgr hne
      have hb3 : Below w.heap.size w w3 := (HO.out.2.2.alloc HO.out.2.2.size _).grown hgr (by have := HO.out.2.2.size; simp; omega) (fun k hk => (HO.out.1.lt k hk).1)
      rw [← flV_succ] at hown'
      have HP := Lib.hid (And.intro hown' hb3); clear hown' hb3 hgr hne
      go_wp2
      go_roundg (len - (k + 1))
      case measure => rw [HG.out]; omega
      case rel => exact ⟨k + 1, rfl, by omega, rfl, HP.out.1, fun h => by omega, HP.out.2⟩
    · obtain rfl : k = len := by omega
      go_wp2
      go_ret
      exact ⟨_, rfl, HO.out.1, HO.out.2.1, HO.out.2.2⟩
end Go.Proofs.YtelkobogohbhlaaDoor
