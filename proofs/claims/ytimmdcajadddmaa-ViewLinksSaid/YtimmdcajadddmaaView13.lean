/-
  view.Links; ViewLinks, walked. Conditions: none.
-/
import Derived.Test.YtimmdcajadddmaaView12
namespace Go.Proofs.Ytimmdcajadddmaa
open Go.RowKit Go.Lib

theorem Looks.up {r : Value} {f : Int → ByteArray → Option Ev} {n₀ n₁ : Nat} {W : World} (h : Looks r f n₀ W) (hn : n₀ ≤ n₁) : Looks r f n₁ W := by
  rcases h with h | ⟨B, ao, tl, tc, T, h1, h2, h3, h4, h5, h6⟩
  · exact Or.inl h
  · exact Or.inr ⟨B, ao, tl, tc, T, h1, by omega, h3, h4, h5.up hn, h6⟩
def LinksPost (W : World) (len : Nat) (R : Nat → Ev) (e : Ending) (w' : World) : Prop := ∃ v, e = .returned v ∧ w'.ownsRow W.heap.size 29 8 v len (evCells R (List.range len)) ∧ Below W.heap.size W w'
theorem range_snoc (R : Nat → Ev) (k : Nat) : evCells R (List.range (k + 1)) = evCells R (List.range k) ++ (R k).cells.toList := by rw [List.range_succ, evCells_snoc]

set_option maxRecDepth 100000 in
set_option maxHeartbeats 2000000 in
theorem links_any (ao : Option Addr) (len cap : Nat) (hlen : len ≤ 900) (E : Nat → Ev) (hd : ∀ i, i < len → (E i).data.size ≤ 1000000) (r : Value) (f : Int → ByteArray → Option Ev) (W : World) (hE : EvArg W.heap.size W ao len E) (hr : Looks r f W.heap.size W) :
    Calls Try.prog 16 #[.slice ao len cap, r] W (LinksPost W len fun i => resolveE f (E i)) := by
  obtain ⟨R, hR⟩ : ∃ R : Nat → Ev, ∀ i, R i = resolveE f (E i) := ⟨fun i => resolveE f (E i), fun _ => rfl⟩
  rw [show (fun i => resolveE f (E i)) = R from (funext hR).symm]
  replace hR := Lib.hid hR
  have HE := Lib.hid hE; clear hE
  have HD := Lib.hid hd; clear hd
  have HL := Lib.hid hr; clear hr
  have hsf : ∀ (w : World) (a : Addr) (k : FloatKind) (b : Nat) (m : Mode), (store a (.float k b) m).run Try.prog w = stored Try.prog w a (.float k b) m := fun w a k b m => run_store Try.prog w a _ m rfl
  go_enter Try.func16, Try.ntmps16
  go_wp2_with fail
  go_loopg [5, 10] len (fun g v i wr => ∃ k : Nat, g = len - k ∧ k ≤ len ∧ i = .int .i64 k ∧ wr.ownsRow W.heap.size 29 8 v k (evCells R (List.range k)) ∧ Below W.heap.size W wr)
  case atStart => exact ⟨0, by omega, by omega, rfl, World.ownsRow_nil _ _ _ _, Below.refl _ _⟩
  case round =>
    obtain ⟨k, hg, hk, rfl, hown, hb⟩ := hrel
    have HG := Lib.hid hg; clear hg
    have HO := Lib.hid hown; clear hown
    have HB := Lib.hid hb; clear hb
    by_cases hlt : k < len
    · obtain ⟨b, off, rfl, hbn, hEi⟩ := (HE.out.low HB.out).at_ (by omega)
      have hl : (k : Int) < (len : Int) := by omega
      have hw1 : IntKind.i64.wrap ((k : Int) + 1) = (k : Int) + 1 := IntWalk.i64_in _ (by omega)
      obtain ⟨s0, s1, s2, s3, s4, s5, s6, s7⟩ := hEi.rd k hlt
      clear hEi
      have hbk := Below.alloc HB.out HB.out.size (.cells (E k).cells 29)
      have hC := Lib.hid (resolve_any (E k) (HD.out k hlt) r f _ ((HL.out.low hbk).up hbk.size))
      rw [← hR.out k] at hC
      have HBK := Lib.hid hbk; clear hbk
      obtain ⟨y, hy⟩ : ∃ y, R k = y := ⟨_, rfl⟩
      rw [hy] at hC
      replace hy := Lib.hid hy
      go_wp2_with (first
        | (go_at_call 24
           refine hC.out.mono ?_
           rintro en w2 ⟨rfl, hb2⟩
           have hb3 := HBK.out.trans (hb2.mono HBK.out.size)
           have HO2 := Lib.hid (own_same HO.out (fun g hg => ((below_alloc wr (.cells (E k).cells 29)).trans (hb2.mono (by simp))).block g (HO.out.lt g hg).2))
           replace hb3 := Lib.hid hb3
           clear hb2)
        | (at_builtin; refine wpList_append_row rfl _ _ rfl W.heap.size W.heap.size _ k (evCells R (List.range k)) rfl ?c1 _ 1 y.cells.toList rfl ?c2 ?c5 ?c3 ?c4 ?_)
        | fail)
      case c1 => exact HO2.out.alloc _
      case c2 => exact one_row y hb3.out.size
      case c5 => exact fun u hu => evCells_one (fun _ => y) [0] u (by simpa [evCells] using hu)
      case c3 => omega
      case c4 => have := hb3.out.size; simp; omega
      intro v' w3 hown' hgr
      have hb4 : Below W.heap.size W w3 := (Below.alloc hb3.out hb3.out.size (.cells y.cells 29)).grown hgr (by have := hb3.out.size; simp; omega) (fun g e => (HO.out.lt g e).1)
      have hrow : w3.ownsRow W.heap.size 29 8 v' (k + 1) (evCells R (List.range (k + 1))) := by
        rw [range_snoc, hy.out]
        exact hown'
      have HR2 := Lib.hid (And.intro hrow hb4); clear hrow hb4 hgr hown'
      go_wp2_with fail
      go_roundg (len - (k + 1))
      case measure => have := HG.out; omega
      case rel => exact ⟨k + 1, by omega, by omega, by go_num, HR2.out.1, HR2.out.2⟩
    · obtain rfl : k = len := by omega
      have hl : ¬ (k : Int) < (k : Int) := by omega
      go_wp2_with fail
      go_ret
      exact ⟨_, rfl, HO.out, HB.out⟩
end Go.Proofs.Ytimmdcajadddmaa
