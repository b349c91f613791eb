/-
  GuardFirst holds: functions in order, up to the first one that fails; those behind it are not run. Conditions: none.
-/
import Derived.Test.YtdllgebccjmljaaFirst3
import Derived.Deep.RegionHeld3
namespace Go.Proofs.Ytdllgebccjmljaa
open Go.ChangeShapes Go.WideShapes Go.ChangeAt Go.RowKit

theorem cnt_zero (len : Nat) : (madeCells #[Value.int .i64 0] len).toList = (cnt len 0).toList := by
  rw [toList_madeCells_one]
  simp [cnt, List.map_const']

theorem made_cnt {w : World} {B g len : Nat} (h : w.ownsRow B 3 1 (.slice (some ⟨g, 0, none⟩) len len) len (madeCells #[Value.int .i64 0] len).toList) : w.heap[g]? = some (.cells (cnt len 0) 3) := by
  rcases h.2 with ⟨h1, _⟩ | ⟨g', cap, cur, h1, _, hg, _, _, hc, ht⟩
  · simp at h1
  · simp only [Value.slice.injEq, Option.some.injEq, Addr.mk.injEq, and_true, true_and] at h1
    obtain ⟨rfl, rfl⟩ := h1
    have e1 : cur = cnt len 0 := by
      apply Array.toList_inj.1
      rw [← cnt_zero]
      rw [List.take_of_length_le (by simp [hc])] at ht
      exact ht
    rw [hg, e1]

theorem told_one (b off len cap k : Nat) (hk : k < len) (Kd Nn : Nat → Int) (Ss : Nat → ByteArray) (w : World) (h : JobsIn w b off len Kd Nn Ss) :
    Calls Try.prog 17 #[.slice (some ⟨b, off + k * 3, none⟩) 1 (cap - k), .int .i64 0] w fun e w' => e = .returned (fault (tell (Kd k) (Nn k) (Ss k)).1 (tell (Kd k) (Nn k) (Ss k)).2.1 (tell (Kd k) (Nn k) (Ss k)).2.2) ∧ Below w.heap.size w w' :=
  told17_some b (off + k * 3) 1 (cap - k) 0 (by omega) (Kd k) (Nn k) (Ss k) w h.bl (by simpa using h.c0 k hk) (by simpa using h.c1 k hk) (by simpa using h.c2 k hk)

theorem cell_new1 (w : World) (v : Value) (t : TypeId) (j : Nat) (u : Value) (h : [v][j]? = some u) : (w.alloc (.cells #[v] t)).cell? ((⟨w.heap.size, 0, none⟩ : Addr).add j) = some u := by
  match j, h with
  | 0, h =>
    simp at h
    subst h
    exact (cell_of_block1 (new_block w (.cells #[v] t))).1

theorem put3_cell (w : World) (F : Nat) (a b c : Value) {p : Addr} (h : p.block ≠ F) : (((w.setCell ⟨F, 0, none⟩ a).setCell ⟨F, 1, none⟩ b).setCell ⟨F, 2, none⟩ c).cell? p = w.cell? p := by
  refine World.cell?_of_block ?_
  rw [Below.heap_setCell _ _ _ _ h, Below.heap_setCell _ _ _ _ h, Below.heap_setCell _ _ _ _ h]

theorem Lp.list' {W w : World} {ao : Option Addr} {len cap : Nat} {Kd Nn : Nat → Int} {Ss : Nat → ByteArray} {L Nt A F I k r m : Nat} {v : Value} {J : Nat → Nat} {fe fk : Int} {fs : ByteArray} (h : Lp W ao len cap Kd Nn Ss L Nt A F I k len r m v J fe fk fs w) (hJ : JobsArg W ao len Kd Nn Ss) :
    ∃ fo gc b off, v = .slice fo len gc ∧ (0 < len → ∃ fb foff, fo = some ⟨fb, foff, none⟩ ∧ FsIn fb foff L Nt b off len cap A J Kd Nn Ss w) := by
  by_cases hn : 0 < len
  · obtain ⟨b, off, rfl, hJI⟩ := hJ hn
    obtain ⟨g, gc, rfl, hF⟩ := h.list hn hJI
    exact ⟨_, gc, b, off, rfl, fun _ => ⟨g, 0, rfl, hF⟩⟩
  · rcases h.own.2 with ⟨rfl, h0⟩ | ⟨g, gc, cur, rfl, _⟩
    · exact ⟨none, 0, 0, 0, by rw [h0], fun hh => absurd hh hn⟩
    · exact ⟨_, gc, 0, 0, rfl, fun hh => absurd hh hn⟩

theorem cell_cnt {w : World} {A len m i : Nat} (h : w.heap[A]? = some (.cells (cnt len m) 3)) (hi : i < len) : w.cell? ⟨A, i, none⟩ = some (.int .i64 (if i < m then 1 else 0)) := by
  have := cnt_get len m i hi
  simp [World.cell?, h, this]

set_option maxHeartbeats 400000 in
theorem first_walk (ao : Option Addr) (len cap : Nat) (hm : len ≤ maxLen) (hcap : len ≤ cap) (Kd Nn : Nat → Int) (Ss : Nat → ByteArray) (hS : ∀ i, i < len → (Ss i).size ≤ maxLen) (W : World) (hJ : JobsArg W ao len Kd Nn Ss) :
    Calls Try.prog 8 #[.slice ao len cap] W fun e w' => e = .returned (.bool true) ∧ Below W.heap.size W w' := by
  have hmf : ∀ (fn : Fn) (first cap : Array Value) (w : World), (Instr.makeFunc fn first cap).run Try.prog w = .ok (.func fn first cap) w := fun _ _ _ _ => rfl
  have heq := eqlFault
  obtain ⟨i3, hi3, hz3, hs3, hb3⟩ := info_parts (P := Try.prog) (e := 3) (z := .int .i64 0) (size := 1) (bytes := 8) (by kernel_rfl)
  obtain ⟨i1, hi1, hz1, hs1, hb1⟩ := info_parts (P := Try.prog) (e := 1) (z := .nilFunc) (size := 1) (bytes := 8) (by kernel_rfl)
  have HJ := Lib.hid hJ; clear hJ
  have HS := Lib.hid hS; clear hS
  have HM := Lib.hid hm; clear hm
  go_enter Try.func8, Try.ntmps8
  go_wp2_with fail
  have W2 : Below W.heap.size W (W.alloc (.cells #[.slice ao len cap] 32)) := Below.alloc1 W _
  refine (light_any ao len cap HM.out Kd Nn Ss _ HS.out (HJ.out.at W2)).mono ?_
  rintro e w1 ⟨r, rfl, hr, rfl⟩
  cases r
  · go_wp2_with fail
    refine (alive_any _).mono ?_
    rintro e w1 ⟨rfl, hb⟩
    go_wp2
    go_ret
    exact ⟨rfl, W2.trans (hb.mono (by simp))⟩
  · have hlen := hr rfl
    clear hr
    go_wp2_with fail
    refine (alive_any _).mono ?_
    rintro e w1 ⟨rfl, hb⟩
    have hbl : w1.heap[W.heap.size]? = some (.cells #[.slice ao len cap] 32) := by rw [hb.block _ (by simp)]; exact new_block _ _
    have hb1' : Below W.heap.size W w1 := W2.trans (hb.mono (by simp))
    have hz := lt_of_block hbl
    have hzz := hb1'.size
    clear hb W2
    obtain ⟨g1, -⟩ := cell_of_block1 hbl
    have HB := Lib.hid (And.intro hbl hb1'); clear hbl hb1'
    go_wp2_with (first
      | (at_make; refine wpList_make_full _ rfl (.tmp 20) (.tmp 20) 46 rfl W.heap.size 3 i3 (.int .i64 0) 1 Try.underlying46 hi3 hz3 hs3 .i64 .i64 len len len rfl rfl rfl rfl ?b2 ?b3 ?b4 ?_)
      | fail)
    case b2 => rw [hb3]; omega
    case b3 => unfold maxLen; omega
    case b4 => omega
    intro w2 hown hgr
    have hA := made_cnt hown
    have hB2 : Below W.heap.size W w2 := by
      have h0 := HB.out.2
      exact ⟨hgr.os.trans h0.os, hgr.tape.trans h0.tape, hgr.output.trans h0.output, Nat.le_trans h0.size hgr.size, fun j hj => (hgr.block j (by omega) (by simp)).trans (h0.block j hj)⟩
    have hL := (hgr.block W.heap.size hz (by simp)).trans HB.out.1
    have zA := lt_of_block hA
    have zL := lt_of_block hL
    clear hown hgr HB g1
    obtain ⟨g1, -⟩ := cell_of_block1 hL
    have HH := Lib.hid (And.intro hA (And.intro hB2 hL)); clear hA hB2 hL
    go_wp2_with fail
    go_loopg [3, 5, 7] len (fun g fv mv iv wr => ∃ (k m I : Nat) (J : Nat → Nat) (fe fk : Int) (fs : ByteArray), g = len - k ∧ mv = .int .i64 m ∧ iv = .pointer (some ⟨I, 0, none⟩) ∧ m ≤ len ∧
      Lp W ao len cap Kd Nn Ss W.heap.size w2.heap.size w1.heap.size (w2.heap.size + 1) I k k k m fv J fe fk fs wr)
    case atStart =>
      obtain ⟨hA, hB2, hL⟩ := HH.out
      refine ⟨0, len, w2.heap.size + 1 + 1, fun _ => 0, 0, 0, ⟨#[]⟩, by omega, rfl, rfl, Nat.le_refl _, ?_⟩
      have n1 := new_block w2 (.cells #[.slice (some ⟨w1.heap.size, 0, none⟩) len len] 46)
      have n2 := new_block2 w2 (.cells #[.slice (some ⟨w1.heap.size, 0, none⟩) len len] 46) (.cells #[.int .i64 0, .int .i64 0, .string ⟨#[]⟩] 26)
      have n3 := new_block2 (w2.alloc (.cells #[.slice (some ⟨w1.heap.size, 0, none⟩) len len] 46)) (.cells #[.int .i64 0, .int .i64 0, .string ⟨#[]⟩] 26) (.cells #[.int .i64 0] 3)
      have o1 : ∀ (k : Nat) o, w2.heap[k]? = some o → (((w2.alloc (.cells #[.slice (some ⟨w1.heap.size, 0, none⟩) len len] 46)).alloc (.cells #[.int .i64 0, .int .i64 0, .string ⟨#[]⟩] 26)).alloc (.cells #[.int .i64 0] 3)).heap[k]? = some o := fun k o h => by
        have := lt_of_block h
        rw [Below.heap_alloc _ _ _ (by simp; omega), Below.heap_alloc _ _ _ (by simp; omega), Below.heap_alloc _ _ _ this]; exact h
      refine { le := Nat.zero_le _, bl := o1 _ _ hL, bn := ?_, ba := o1 _ _ hA, bi := ?_, bf := ?_, own := World.ownsRow_nil _ _ _ _, js := fun j hj => by omega, res := ⟨fun i _ h => by omega, Or.inl ⟨rfl, rfl, rfl, rfl⟩⟩, ia := by omega, wl := Nat.le_refl _, wa := hzz, wn := by omega, wf := by omega, below := ?_ }
      · rw [Below.heap_alloc _ _ _ (by simp; omega), Below.heap_alloc _ _ _ (by simp)]; exact n1
      · simpa using n3
      · rw [Below.heap_alloc _ _ _ (by simp)]; exact n2
      · exact ((hB2.alloc (by omega) _).alloc (by simp; omega) _).alloc (by simp; omega) _
    case round =>
      obtain ⟨k, m, I, J, fe, fk, fs, hg, rfl, rfl, hmle, hr⟩ := hrel
      have HG := Lib.hid hg; clear hg
      obtain ⟨f1, -⟩ := cell_of_block1 hr.bl
      obtain ⟨f3, -⟩ := cell_of_block1 hr.bi
      have hle := hr.le
      have hIz : I < wr.heap.size := lt_of_block hr.bi
      clear g1
      by_cases hk : k < len
      · obtain ⟨b, off, rfl, hJW⟩ := HJ.out (by omega)
        have HR := Lib.hid hr; clear hr
        go_wp2_with (first
          | (at_builtin; refine wpList_append_own _ rfl _ _ 45 rfl W.heap.size 1 i1 .nilFunc 1 8 Try.underlying45 hi1 hz1 hs1 hb1 rfl (by decide) _ k _ rfl (own_below' HR.out.own (Below.alloc1 _ _)) ⟨wr.heap.size, 0, none⟩ 1 1 [fnAt W.heap.size w2.heap.size (fun _ => I) k] rfl rfl ?c1 ?c2 ?c3 ?c4 ?c5 ?_)
          | fail)
        case c1 => exact fun j u h => cell_new1 _ _ _ j u h
        case c2 => intro u hu; simp at hu; subst hu; rfl
        case c3 => unfold maxLen; omega
        case c4 => omega
        case c5 => have := HR.out.below.size; simp; omega
        intro v' w3 hown' hgr _
        have A1 := (HR.out.below' (Below.alloc1 _ _)).app hown' hgr
        have J1 := hJW.block A1.below.size (A1.below.block _ hJW.bl)
        obtain ⟨g1, -⟩ := cell_of_block1 A1.bl
        obtain ⟨g3, -⟩ := cell_of_block1 A1.bi
        have z1 := lt_of_block A1.bl
        have z2 := lt_of_block A1.bi
        have HA := Lib.hid (And.intro A1 J1); clear A1 J1 hown' hgr f1 f3 HR hIz
        have TD := Lib.hid (told_one b off len cap k hk Kd Nn Ss)
        have hsl := slice_one b off len cap k hk hcap
        have hw1 := wrap_next k (by omega)
        obtain ⟨fe', fk', fs', ht⟩ : ∃ fe fk fs, tell (Kd k) (Nn k) (Ss k) = (fe, fk, fs) := ⟨_, _, _, rfl⟩
        have hfk : (fe' = 0 ∧ fk' = 0 ∧ fs' = ⟨#[]⟩) ∨ fk' ≠ 0 := by
          rcases tell_fk (Kd k) (Nn k) (Ss k) with h | h
          · rw [ht] at h
            simp only [Prod.mk.injEq] at h
            exact Or.inl ⟨h.1, h.2.1, h.2.2⟩
          · rw [ht] at h
            exact Or.inr h
        have HFK := Lib.hid (And.intro ht hfk); clear ht hfk
        have hk0 : (0 : Int) ≤ (k : Int) := by omega
        by_cases hml : len = m
        · subst hml
          go_wp2_with fail
          refine (TD.out _ HA.out.2).mono ?_
          rintro e w4 ⟨rfl, hb4⟩
          rw [HFK.out.1]
          unfold fault
          have A2 := HA.out.1.below' hb4
          have J2 := HA.out.2.block hb4.size (hb4.block _ HA.out.2.bl)
          clear HA hb4 g1 g3 z1 z2
          obtain ⟨g1, -⟩ := cell_of_block1 A2.bl
          obtain ⟨g3, -⟩ := cell_of_block1 A2.bi
          obtain ⟨q1, q2, q3, q4, q5, q6⟩ := cells_of_fault A2.bf
          have z1 := lt_of_block A2.bl
          have z2 := lt_of_block A2.bi
          have z3 := lt_of_block A2.bf
          have HA := Lib.hid (And.intro A2 J2); clear A2 J2
          rcases HFK.out.2 with ⟨rfl, rfl, rfl⟩ | hfk
          · go_wp2_with fail
            go_roundg (len - (k + 1))
            case measure => rw [HG.out]; omega
            case rel => exact ⟨k + 1, len, w4.heap.size, _, fe, fk, fs, rfl, rfl, rfl, hmle, Lp.next { HA.out.1 with res := HA.out.1.res.skip (Or.inr HFK.out.1) } hk⟩
          · have hfk2 : (fk' == 0) = false := by simpa using hfk
            go_wp2_with fail
            have hLF : W.heap.size ≠ w2.heap.size + 1 := by omega
            have hIF : I ≠ w2.heap.size + 1 := by
              intro e
              have h1 := HA.out.1.bi
              rw [e, HA.out.1.bf] at h1
              simp at h1
            have J3 : JobsIn w4.drew b off len Kd Nn Ss := HA.out.2.block (Nat.le_refl _) rfl
            have d1 : w4.drew.cell? ⟨W.heap.size, 0, none⟩ = some (.slice (some ⟨b, off, none⟩) len cap) := g1
            have d3 : w4.drew.cell? ⟨I, 0, none⟩ = some (.int .i64 k) := g3
            have y1 : W.heap.size < w4.drew.heap.size := z1
            have y2 : I < w4.drew.heap.size := z2
            have y3 : w2.heap.size + 1 < w4.drew.heap.size := z3
            go_region_held3 (fun w' => w'.cell? ⟨W.heap.size, 0, none⟩ = some (.slice (some ⟨b, off, none⟩) len cap) ∧ w'.cell? ⟨I, 0, none⟩ = some (.int .i64 k)) (first | exact ⟨d1, d3⟩ | exact ⟨c1, c3⟩ | exact ⟨(put3_cell _ _ _ _ _ hLF).trans c1, (put3_cell _ _ _ _ _ hIF).trans c3⟩ | go_keep)
              (first | ((go_at_call 17; refine (TD.out w4.drew J3).mono ?_; rintro e w5 ⟨rfl, hb5⟩; rw [HFK.out.1]; unfold fault; have c1 := (hb5.cell y1).trans d1; have c3 := (hb5.cell y2).trans d3; obtain ⟨c4, c5, c6, c7, c8, c9⟩ := cells_of_fault ((hb5.block _ y3).trans HA.out.1.bf))))
            have A3 := HA.out.1.below' ((Below.refl _ w4).drew.trans hb5)
            have hres : Res len Kd Nn Ss (k + 1) k fe' fk' fs' := by
              have h := A3.res
              rcases h.last with ⟨_, rfl, rfl, rfl⟩ | ⟨h1, _⟩
              · exact h.take hk HFK.out.1 hfk
              · omega
            obtain ⟨p1, p2⟩ := put3 A3.bf fe' fk' fs'
            have A4 := A3.keep p2 p1 hres
            clear A3 hres p1 p2 c1 c3 c4 c5 c6 c7 c8 c9 hb5 HA d1 d3 y1 y2 y3 J3 g1 g3 z1 z2 z3 q1 q2 q3 q4 q5 q6
            revert A4
            generalize ((w5.setCell ⟨w2.heap.size + 1, 0, none⟩ (.int .i64 fe')).setCell ⟨w2.heap.size + 1, 1, none⟩ (.int .i64 fk')).setCell ⟨w2.heap.size + 1, 2, none⟩ (.string fs') = w6
            intro A4
            obtain ⟨g1, -⟩ := cell_of_block1 A4.bl
            obtain ⟨g3, -⟩ := cell_of_block1 A4.bi
            have z1 := lt_of_block A4.bl
            have z2 := lt_of_block A4.bi
            have HA := Lib.hid A4; clear A4
            go_wp2_with fail
            go_roundg (len - (k + 1))
            case measure => rw [HG.out]; omega
            case rel => exact ⟨k + 1, k, w6.heap.size, _, fe', fk', fs', rfl, rfl, rfl, by omega, HA.out.next hk⟩
        · go_wp2_with fail
          go_roundg (len - (k + 1))
          case measure => rw [HG.out]; omega
          case rel =>
            have hmk : m < k := by
              rcases HA.out.1.res.last with ⟨h, _⟩ | ⟨h, _⟩
              · exact absurd h.symm hml
              · exact h
            exact ⟨k + 1, m, w3.heap.size, _, fe, fk, fs, rfl, rfl, rfl, hmle, Lp.next { HA.out.1 with res := HA.out.1.res.skip (Or.inl hmk) } hk⟩
      · obtain rfl : len = k := by omega
        obtain ⟨fo, gc, b, off, rfl, hF⟩ := hr.list' HJ.out
        have hfirst := first24 fo len gc w1.heap.size W.heap.size w2.heap.size b off cap J Kd Nn Ss hlen hcap wr hF hr.ba
        have HF := Lib.hid hfirst; clear hfirst hF
        have HR := Lib.hid hr; clear hr
        go_wp2_with fail
        refine HF.out.mono ?_
        rintro e w5 ⟨m', fe', fk', fs', rfl, hm', hres, O, hA5⟩
        obtain ⟨rfl, rfl, rfl, rfl⟩ := HR.out.res.alike hres
        have hne : ∀ (j : Nat) (cs : Array Value) (t : TypeId), 3 ≠ t → wr.heap[j]? = some (.cells cs t) → w5.heap[j]? = some (.cells cs t) := fun j cs t ht hj => O.same hj (by
          have : j ≠ w1.heap.size := by
            rintro rfl
            rw [HR.out.ba] at hj
            simp at hj
            exact ht hj.2
          omega)
        have hL5 := hne _ _ _ (by decide) HR.out.bl
        have hN5 := hne _ _ _ (by decide) HR.out.bn
        have hF5 := hne _ _ _ (by decide) HR.out.bf
        have hB5 : Below W.heap.size W w5 := by
          have h0 := HR.out.below
          exact ⟨O.os.trans h0.os, O.tape.trans h0.tape, O.output.trans h0.output, Nat.le_trans h0.size O.size, fun j hj => (O.block j (Nat.lt_of_lt_of_le hj h0.size) (by omega)).trans (h0.block j hj)⟩
        clear hne O HR HF hres hIz f1 f3
        unfold fault
        obtain ⟨g1, -⟩ := cell_of_block1 hL5
        obtain ⟨g2, -⟩ := cell_of_block1 hN5
        obtain ⟨q1, q2, q3, -, -, -⟩ := cells_of_fault hF5
        have z1 := lt_of_block hL5
        have z2 := lt_of_block hN5
        have z3 := lt_of_block hF5
        have z4 := lt_of_block hA5
        have hcnt := fun i hi => cell_cnt (i := i) hA5 hi
        have HC := Lib.hid hcnt; clear hcnt hA5 hF5 hN5 hL5
        go_wp2_with fail
        go_loopg [10] len (fun g i w9 => ∃ k : Nat, g = len - k ∧ i = .int .i64 k ∧ k ≤ len ∧ w9 = w5.alloc (.cells #[.int .i64 fe, .int .i64 fk, .string fs] 26))
        case atStart => exact ⟨0, by omega, rfl, Nat.zero_le _, rfl⟩
        case round =>
          obtain ⟨i, hg2, rfl, hi, rfl⟩ := hrel
          have HG2 := Lib.hid hg2; clear hg2
          by_cases hil : i < len
          · have hc := HC.out i hil
            by_cases him : i < m
            · rw [if_pos him] at hc
              go_wp2_with fail
              go_roundg (len - (i + 1))
              case measure => rw [HG2.out]; omega
              case rel => exact ⟨i + 1, rfl, rfl, hil, rfl⟩
            · rw [if_neg him] at hc
              go_wp2_with fail
              go_roundg (len - (i + 1))
              case measure => rw [HG2.out]; omega
              case rel => exact ⟨i + 1, rfl, rfl, hil, rfl⟩
          · go_wp2_with fail
            go_ret
            exact ⟨rfl, hB5.alloc hB5.size _⟩

end Go.Proofs.Ytdllgebccjmljaa
