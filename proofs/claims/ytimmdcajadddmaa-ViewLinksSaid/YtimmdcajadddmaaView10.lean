/-
  chroniclebook.SameStored: two lists alike. Conditions: none.
-/
import Derived.Test.YtimmdcajadddmaaView8
import Derived.Deep.CutBlock
import Derived.Deep.DeepCutAuto
namespace Go.Proofs.Ytimmdcajadddmaa
open Go.RowKit Go.Lib

/-- An event's cells at a place. -/
def RdAt (e : Ev) (b o : Nat) (w' : World) : Prop :=
  w'.cell? ⟨b, o, none⟩ = some (.int .i64 e.id) ∧ w'.cell? ⟨b, o + 1, none⟩ = some (.string e.ty) ∧ w'.cell? ⟨b, o + 2, none⟩ = some (.string e.data) ∧ w'.cell? ⟨b, o + 3, none⟩ = some (.float .f64 e.value)
      ∧ w'.cell? ⟨b, o + 4, none⟩ = some (.string e.stream) ∧ w'.cell? ⟨b, o + 5, none⟩ = some (.int .i64 e.version) ∧ w'.cell? ⟨b, o + 6, none⟩ = some (.int .i64 e.position) ∧ w'.cell? ⟨b, o + 7, none⟩ = some (.int .i64 e.time)
theorem RdAt.keep {e : Ev} {b o : Nat} {A A' : World} (h : RdAt e b o A) (hx : A'.heap[b]? = A.heap[b]?) : RdAt e b o A' := by
  obtain ⟨s2, s3, s4, s5, s6, s7, s8, s9⟩ := h
  exact ⟨(World.cell?_of_block hx).trans s2, (World.cell?_of_block hx).trans s3, (World.cell?_of_block hx).trans s4, (World.cell?_of_block hx).trans s5, (World.cell?_of_block hx).trans s6, (World.cell?_of_block hx).trans s7, (World.cell?_of_block hx).trans s8, (World.cell?_of_block hx).trans s9⟩
theorem EvIn.rd {w : World} {b off len : Nat} {E : Nat → Ev} (h : EvIn w b off len E) (i : Nat) (hi : i < len) : RdAt (E i) b (off + i * 8) w :=
  ⟨h.c0 i hi, h.c1 i hi, h.c2 i hi, h.c3 i hi, h.c4 i hi, h.c5 i hi, h.c6 i hi, h.c7 i hi⟩

set_option maxRecDepth 100000 in
set_option maxHeartbeats 2000000 in
theorem sameList_any (ao bo : Option Addr) (len ac bc : Nat) (hlen : len ≤ 1000) (E F : Nat → Ev) (hs : ∀ i, i < len → sameS (E i) (F i) = true) (W : World) (hE : EvArg W.heap.size W ao len E) (hF : EvArg W.heap.size W bo len F) :
    Calls Try.prog 11 #[.slice ao len ac, .slice bo len bc] W fun e w' => e = .returned (.bool true) ∧ Below W.heap.size W w' := by
  have HE := Lib.hid hE; clear hE
  have HF := Lib.hid hF; clear hF
  have HS := Lib.hid hs; clear hs
  have hm : Try.prog.follows .mixedOrders = true := by kernel_rfl
  go_enter Try.func11, Try.ntmps11
  go_wp2_with fail
  go_loopg [5] len (fun g i wr => ∃ k : Nat, g = len - k ∧ k ≤ len ∧ i = .int .i64 k ∧ Below W.heap.size W wr)
  case atStart => exact ⟨0, by omega, by omega, rfl, Below.refl _ _⟩
  case round =>
    obtain ⟨k, hg, hk, rfl, hb⟩ := hrel
    have HG := Lib.hid hg; clear hg
    by_cases hlt : k < len
    · obtain ⟨b, off, rfl, hbn, hEi⟩ := (HE.out.low hb).at_ (by omega)
      obtain ⟨c, cff, rfl, hcn, hFi⟩ := (HF.out.low hb).at_ (by omega)
      have hl : (k : Int) < (len : Int) := by omega
      have hw1 : IntKind.i64.wrap ((k : Int) + 1) = (k : Int) + 1 := IntWalk.i64_in _ (by omega)
      have hH0 : RdAt (E k) b (off + k * 8) wr.drew ∧ RdAt (F k) c (cff + k * 8) wr.drew := ⟨hEi.rd k hlt, hFi.rd k hlt⟩
      have hs := Lib.hid (HS.out k hlt)
      have hsz := hb.size
      have HB := Lib.hid hb
      clear hEi hFi hb
      go_upto_region 6 with fail
      refine plain_region hm (wpAny_of_held (S := fun w' => RdAt (E k) b (off + k * 8) w' ∧ RdAt (F k) c (cff + k * 8) w') _ _ _ _ ?_)
      refine wpAnyH_take (i := 0) (v := ?_) (by simp; rfl) (by kernel_rfl) (by kernel_rfl) (by kernel_rfl) (fun _ _ _ h => h) (Or.inl ⟨by rfl, ?_⟩) hH0 ?_
      rotate_left
      · intro w' hS
        obtain ⟨⟨s1, s2, s3, s4, s5, s6, s7, s8⟩, ⟨p1, p2, p3, p4, p5, p6, p7, p8⟩⟩ := hS
        go_simp
        rfl
      simp only [Act.put, List.setIfInBounds_toArray, List.set_cons_zero, List.set_cons_succ]
      refine wpAnyH_take (i := 1) (v := ?_) (by simp; rfl) (by kernel_rfl) (by kernel_rfl) (by kernel_rfl) (fun _ _ _ h => h) (Or.inl ⟨by rfl, ?_⟩) hH0 ?_
      rotate_left
      · intro w' hS
        obtain ⟨⟨s1, s2, s3, s4, s5, s6, s7, s8⟩, ⟨p1, p2, p3, p4, p5, p6, p7, p8⟩⟩ := hS
        go_simp
        rfl
      simp only [Act.put, List.setIfInBounds_toArray, List.set_cons_zero, List.set_cons_succ]
      refine wpAnyH_take (i := 2) (v := ?_) (by simp; rfl) (by kernel_rfl) (by kernel_rfl) (by kernel_rfl) (fun _ _ _ h => h) (Or.inl ⟨by rfl, ?_⟩) hH0 ?_
      rotate_left
      · intro w' hS
        obtain ⟨⟨s1, s2, s3, s4, s5, s6, s7, s8⟩, ⟨p1, p2, p3, p4, p5, p6, p7, p8⟩⟩ := hS
        go_simp
        rfl
      simp only [Act.put, List.setIfInBounds_toArray, List.set_cons_zero, List.set_cons_succ]
      refine wpAnyH_take (i := 3) (v := ?_) (by simp; rfl) (by kernel_rfl) (by kernel_rfl) (by kernel_rfl) (fun _ _ _ h => h) (Or.inl ⟨by rfl, ?_⟩) hH0 ?_
      rotate_left
      · intro w' hS
        obtain ⟨⟨s1, s2, s3, s4, s5, s6, s7, s8⟩, ⟨p1, p2, p3, p4, p5, p6, p7, p8⟩⟩ := hS
        go_simp
        rfl
      simp only [Act.put, List.setIfInBounds_toArray, List.set_cons_zero, List.set_cons_succ]
      refine wpAnyH_take (i := 4) (v := ?_) (by simp; rfl) (by kernel_rfl) (by kernel_rfl) (by kernel_rfl) (fun _ _ _ h => h) (Or.inl ⟨by rfl, ?_⟩) hH0 ?_
      rotate_left
      · intro w' hS
        obtain ⟨⟨s1, s2, s3, s4, s5, s6, s7, s8⟩, ⟨p1, p2, p3, p4, p5, p6, p7, p8⟩⟩ := hS
        go_simp
        rfl
      simp only [Act.put, List.setIfInBounds_toArray, List.set_cons_zero, List.set_cons_succ]
      refine wpAnyH_take (i := 5) (v := ?_) (by simp; rfl) (by kernel_rfl) (by kernel_rfl) (by kernel_rfl) (fun _ _ _ h => h) (Or.inl ⟨by rfl, ?_⟩) hH0 ?_
      rotate_left
      · intro w' hS
        obtain ⟨⟨s1, s2, s3, s4, s5, s6, s7, s8⟩, ⟨p1, p2, p3, p4, p5, p6, p7, p8⟩⟩ := hS
        go_simp
        rfl
      simp only [Act.put, List.setIfInBounds_toArray, List.set_cons_zero, List.set_cons_succ]
      refine wpAnyH_take (i := 6) (v := ?_) (by simp; rfl) (by kernel_rfl) (by kernel_rfl) (by kernel_rfl) (fun _ _ _ h => h) (Or.inl ⟨by rfl, ?_⟩) hH0 ?_
      rotate_left
      · intro w' hS
        obtain ⟨⟨s1, s2, s3, s4, s5, s6, s7, s8⟩, ⟨p1, p2, p3, p4, p5, p6, p7, p8⟩⟩ := hS
        go_simp
        rfl
      simp only [Act.put, List.setIfInBounds_toArray, List.set_cons_zero, List.set_cons_succ]
      refine wpAnyH_take (i := 7) (v := ?_) (by simp; rfl) (by kernel_rfl) (by kernel_rfl) (by kernel_rfl) (fun _ _ _ h => h) (Or.inl ⟨by rfl, ?_⟩) hH0 ?_
      rotate_left
      · intro w' hS
        obtain ⟨⟨s1, s2, s3, s4, s5, s6, s7, s8⟩, ⟨p1, p2, p3, p4, p5, p6, p7, p8⟩⟩ := hS
        go_simp
        rfl
      simp only [Act.put, List.setIfInBounds_toArray, List.set_cons_zero, List.set_cons_succ]
      refine wpAnyH_ready (rs := [8]) (by kernel_rfl) (by simp) ?_
      refine AllReadyH.cons (by simp; rfl) (fun K hK => ?_) AllReadyH.nil
      go_simp
      go_at_call 13
      refine (dsameStored_any (E k) (F k) _).mono ?_
      rintro en x1 ⟨rfl, hb1⟩
      rw [hs.out]
      have hH1 : RdAt (E k) b (off + k * 8) x1 ∧ RdAt (F k) c (cff + k * 8) x1 := ⟨hH0.1.keep (hb1.block _ (by show b < wr.heap.size; omega)), hH0.2.keep (hb1.block _ (by show c < wr.heap.size; omega))⟩
      have hB1 : Below W.heap.size W x1 := HB.out.trans ((Below.trans (⟨rfl, rfl, rfl, Nat.le_refl _, fun _ _ => rfl⟩ : Below wr.heap.size wr wr.drew) hb1).mono hsz)
      clear hb1
      refine hK.out _ _ hH1 (fun hHeld => ?_)
      clear hK K hHeld
      try simp only [Act.put, List.setIfInBounds_toArray, List.set_cons_zero, List.set_cons_succ]
      refine wpAnyH_take (i := 9) (v := ?_) (by simp; rfl) (by kernel_rfl) (by kernel_rfl) (by kernel_rfl) (fun _ _ _ h => h) (Or.inl ⟨by rfl, ?_⟩) hH1 ?_
      rotate_left
      · intro w' hS
        obtain ⟨⟨s1, s2, s3, s4, s5, s6, s7, s8⟩, ⟨p1, p2, p3, p4, p5, p6, p7, p8⟩⟩ := hS
        go_simp
        rfl
      simp only [Act.put, List.setIfInBounds_toArray, List.set_cons_zero, List.set_cons_succ]
      refine wpAnyH_done (by kernel_rfl) ?_ _
      dsimp only [onlyK]
      clear hH0 hH1
      go_wp2_with fail
      go_roundg (len - (k + 1))
      case measure => have := HG.out; omega
      case rel => exact ⟨k + 1, by omega, by omega, by go_num, hB1⟩
    · obtain rfl : k = len := by omega
      have hl : ¬ (k : Int) < (k : Int) := by omega
      have HB := Lib.hid hb; clear hb
      go_wp2_with fail
      go_ret
      exact ⟨rfl, HB.out⟩
end Go.Proofs.Ytimmdcajadddmaa
