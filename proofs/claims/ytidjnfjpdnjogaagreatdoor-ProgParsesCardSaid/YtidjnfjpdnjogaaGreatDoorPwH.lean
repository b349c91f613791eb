/-
  chroniclebook.Book: growTexts. Conditions: none.
-/
import Derived.Test.YtidjnfjpdnjogaaGreatDoorPwG
import Derived.StillTailTactics
import Derived.Deep.RegionLaw
namespace Go.Proofs.YtidjnfjpdnjogaaGreatDoor
open Go.RowKit Go.Lib

/-- A list that grows: its first cells stay; q marks more. -/
structure Cur (k B : Nat) (p : Value) (l : List ByteArray) (w0 : World) (q : Nat) (v : Value) (w : World) : Prop where
  own : w.ownsRow B 9 1 v (l.length + q) (vals (marks k 0 (l.length + q)))
  grown : w0.grownBy w p.ownBlock
  tx : Txs w p l
  hat : Hat w0 p.ownBlock v.ownBlock

theorem Cur.start {k B : Nat} {p : Value} {l : List ByteArray} {w : World} (h : w.ownsRow B 9 1 p l.length (vals l)) (hl : l = marks k 0 l.length) : Cur k B p l w 0 p w :=
  ⟨by rw [Nat.add_zero, ← hl]; exact h, ⟨rfl, rfl, rfl, Nat.le_refl _, fun _ _ _ => rfl⟩, txs_of h, Hat.refl _ _⟩
theorem Cur.step {k B n pc : Nat} {po : Option Addr} {l : List ByteArray} {w0 w w1 w2 : World} {q m : Nat} {v v' : Value} (h : Cur k B (.slice po n pc) l w0 q v w) (hz : ∀ a, po = some a → a.off = 0)
    (b : Below w.heap.size w w1) (o : w2.ownsRow B 9 1 v' (l.length + q + m) (vals (marks k 0 (l.length + q) ++ marks k (l.length + q) m))) (g : w1.grownBy w2 v.ownBlock) (a : Hat w1 v.ownBlock v'.ownBlock)
    (kp : ∀ b j, b < w1.heap.size → v.ownBlock = some b → j < l.length + q → w2.cell? ⟨b, j, none⟩ = w1.cell? ⟨b, j, none⟩) : Cur k B (.slice po n pc) l w0 (q + m) v' w2 := by
  have hs0 := h.grown.size
  have hs1 := b.size
  have G1 : w0.grownBy w1 (Value.slice po n pc).ownBlock := h.grown.andThen (row' := none) ⟨b.os, b.tape, b.output, b.size, fun i hi _ => b.block i hi⟩ (fun j e => by cases e)
  have T1 := h.tx.below b
  refine ⟨?_, G1.andThen g fun j e => ?_, ?_, h.hat.trans (Hat.trans (w1 := w1) (Hat.refl w _) (Or.elim a (fun e => Or.inl e) fun ⟨j, hj, e⟩ => Or.inr ⟨j, hj, e⟩) hs1) hs0⟩
  · have e : marks k 0 (l.length + (q + m)) = marks k 0 (l.length + q) ++ marks k (l.length + q) m := by
      rw [← Nat.add_assoc, marks_add, Nat.zero_add]
    rw [e, ← Nat.add_assoc]
    exact o
  · rcases h.hat with e' | ⟨j', hj, e'⟩
    · exact Or.inr (by rw [← e', e])
    · rw [e'] at e
      cases e
      exact Or.inl hj
  · rcases T1 with T1 | ⟨b', off, cap, e, T1⟩
    · exact Or.inl T1
    · refine Or.inr ⟨b', off, cap, e, ?_⟩
      have hoff : off = 0 := by
        cases e
        exact hz _ rfl
      subst hoff
      by_cases hv : v.ownBlock = some b'
      · refine ⟨fun i hi => ?_, Nat.lt_of_lt_of_le T1.bl g.size⟩
        rw [← T1.c i hi, Nat.zero_add]
        exact kp b' i T1.bl hv (by omega)
      · exact T1.block g.size (g.block b' T1.bl (fun e' => hv e'.symm))

theorem GrowInv.outrow {K B : Nat} {tv cv : Value} {tl cl : List Value} {ps : List Row} {W0 w w1 : World} {k : Nat} {ov : Value} {gs : List Value} (h : GrowInv K B tv cv tl cl ps W0 k ov gs w) (hV : BookV K B tv cv tl cl ps W0) {p : Row} (hp : ps[k]? = some p)
    (g : w.grownBy w1 p.1.ownBlock) : w1.ownsRow W0.heap.size 32 1 ov k gs :=
  own_same h.own fun b e => by
    obtain ⟨hb, cs, hc⟩ := own_cells h.own e
    refine g.block b (lt_of_block hc) fun e' => ?_
    obtain ⟨_, cs', hc'⟩ := own_cells (hV.rows.own _ (List.mem_of_getElem? hp)) e'.symm
    have := lt_of_block hc'
    omega

set_option maxRecDepth 100000 in
theorem growTexts_any (K B : Nat) (tv cv : Value) (tl cl : List Value) (ps : List Row) (n : Nat) (ht : tl.length = n) (hn : n < 200) (hp : ps.map Prod.fst = tl) (hs : ∀ (j : Nat) (p : Row), ps[j]? = some p → p.2 = marks j 0 p.2.length ∧ p.2.length < 900) (W : World) (hV : BookV K B tv cv tl cl ps W) :
    Calls Tryz.prog 31 #[.pointer (some ⟨K, 0, none⟩)] W fun e w' => ∃ ov gs, e = .returned ov ∧ GrowInv K B tv cv tl cl ps W n ov gs w' := by
  obtain ⟨ta, tc, rfl⟩ := row_sl hV.tx
  have hV' : BookV K B (.slice ta n tc) cv tl cl ps W := by rw [← ht]; exact hV
  rw [ht]
  clear hV
  go_enter Tryz.func31, Tryz.ntmps31
  have HV := Lib.hid hV'; clear hV'
  have HT := Lib.hid ht; clear ht
  have HS := Lib.hid hs; clear hs
  have k0 := HV.out.cell0
  go_wp2_with fail
  go_loopg [3, 4] n (fun g ov i wr => ∃ k gs, g = n - k ∧ k ≤ n ∧ i = .int .i64 (k : Nat) ∧ GrowInv K B (.slice ta n tc) cv tl cl ps W k ov gs wr)
  case atStart => exact ⟨0, [], by omega, by omega, rfl, GrowInv.start HV.out⟩
  case round =>
    obtain ⟨k, gs, hg, hk, rfl, GI⟩ := hrel
    have HG := Lib.hid hg; clear hg
    obtain ⟨b1, b2, b3⟩ := GI.book HV.out
    have c0 : wr.cell? ⟨K, 0, none⟩ = some (.slice ta n tc) := by simp [World.cell?, b1]
    clear k0
    by_cases hlt : k < n
    · have hl2 : (k : Int) < (n : Int) := by omega
      have hw1 : IntKind.i64.wrap ((k : Int) + 1) = (k : Int) + 1 := IntWalk.i64_in _ (by omega)
      obtain ⟨g1, u1, rfl, hu1, e1⟩ := row_elem (HT.out ▸ b2) hlt
      have z1 := lt_of_cell e1
      obtain ⟨l, hpk⟩ : ∃ l, ps[k]? = some (u1, l) := by
        rw [← hp, List.getElem?_map] at hu1
        cases hq : ps[k]? with
        | none => rw [hq] at hu1; cases hu1
        | some q => rw [hq] at hu1; exact ⟨q.2, by cases hu1; rfl⟩
      have ow : wr.ownsRow B 9 1 u1 l.length (vals l) := b3 k _ (Nat.le_refl _) hpk
      obtain ⟨po, pc, rfl⟩ := row_sl ow
      obtain ⟨hlm, hll⟩ := HS.out k _ hpk
      simp only at hlm hll
      have HGI := Lib.hid GI
      have HOW := Lib.hid (And.intro ow (And.intro hlm hpk))
      have HZ := Lib.hid (show ∀ a, po = some a → a.off = 0 from fun a e => by
        rcases ow.2 with ⟨e', _⟩ | ⟨g', cap', cur', e', _⟩
        · injection e' with e1 _ _
          rw [e1] at e
          cases e
        · injection e' with e1 _ _
          rw [e1] at e
          cases e
          rfl)
      have HC := Lib.hid (Cur.start ow hlm)
      have kB : B ≤ W.heap.size := HV.out.bsz
      have zs := GI.size
      clear GI ow hlm b1 b2 b3 hpk
      go_wp2_with fail
      go_loopg [5, 6] 12 (fun g v j wx => ∃ q : Nat, g = 12 - q ∧ q ≤ 12 ∧ j = .int .i64 q ∧ Cur k B (.slice po l.length pc) l wr q v wx)
      case atStart => exact ⟨0, by omega, by omega, rfl, HC.out⟩
      case round =>
        obtain ⟨q, hg, hq, rfl, CU⟩ := hrel
        have HG2 := Lib.hid hg; clear hg
        have zc := CU.grown.size
        obtain ⟨vo, vc, rfl⟩ := row_sl CU.own
        by_cases hq2 : q < 12
        · have hq3 : (q : Int) < (12 : Int) := by omega
          have hw2 : IntKind.i64.wrap ((q : Int) + 1) = (q : Int) + 1 := IntWalk.i64_in _ (by omega)
          have HM := Lib.hid (marks_any k (l.length + q) 1 (by omega) (by omega) (by omega) wr)
          rw [show ((l.length + q : Nat) : Int) = (l.length : Int) + (q : Int) by omega] at HM
          have HCU := Lib.hid CU
          clear CU
          go_wp2_with fail
          refine HM.out.mono ?_
          rintro e w2 ⟨mv, rfl, om, bm⟩
          obtain ⟨mo, mc, rfl⟩ := row_sl om
          obtain ⟨gm, um, rfl, hum, em⟩ := row_elem om (Nat.lt_succ_self 0)
          have ov : w2.ownsRow B 9 1 (.slice vo (l.length + q) vc) (l.length + q) (vals (marks k 0 (l.length + q))) := own_same HCU.out.own fun b e => by
            obtain ⟨_, cs, hc⟩ := own_cells HCU.out.own e
            exact bm.block b (lt_of_block hc)
          have H2 := Lib.hid (And.intro bm (And.intro om ov))
          have zm := bm.size
          clear om bm ov
          go_simp
          go_wp2_with (first
            | (at_builtin; go_loud (refine wpList_append_keep rfl _ _ rfl B vo (l.length + q) vc (marks k 0 (l.length + q)) rfl H2.out.2.2 ⟨gm, 0, none⟩ 1 mc (marks k (l.length + q) 1) rfl (marks_len _ _ _) ?c1 (by omega) (by omega) ?_))
            | fail)
          case c1 =>
            intro j u hu
            have hj : j < 1 * 1 := by
              have := (List.getElem?_eq_some_iff.1 hu).1
              simpa [vals, marks_len] using this
            have := H2.out.2.1.cellAt j hj
            rw [hu] at this
            rw [addr_add1, Nat.zero_add]
            exact this
          intro v3 w3 o3 g3 a3 k3
          have C3 := HCU.out.step HZ.out H2.out.1 o3 g3 a3 k3
          obtain ⟨v3o, v3c, rfl⟩ := row_sl C3.own
          have HC3 := Lib.hid C3
          clear C3 o3 g3 a3 k3 em hum
          go_wp2_with fail
          go_roundg (12 - (q + 1))
          case measure => have := HG2.out; omega
          case rel => exact ⟨q + 1, rfl, by omega, by go_num, HC3.out⟩
        · obtain rfl : q = 12 := by omega
          have HM := Lib.hid (marks_any k (l.length + 12) 60 (by omega) (by omega) (by omega) wr)
          rw [show ((l.length + 12 : Nat) : Int) = (l.length : Int) + 12 by omega] at HM
          have HCU := Lib.hid CU
          clear CU
          go_wp2_with fail
          refine HM.out.mono ?_
          rintro e w2 ⟨mv, rfl, om, bm⟩
          obtain ⟨mo, mc, rfl⟩ := row_sl om
          obtain ⟨gm, um, rfl, hum, em⟩ := row_elem om (show 0 < 60 by decide)
          have ov : w2.ownsRow B 9 1 (.slice vo (l.length + 12) vc) (l.length + 12) (vals (marks k 0 (l.length + 12))) := own_same HCU.out.own fun b e => by
            obtain ⟨_, cs, hc⟩ := own_cells HCU.out.own e
            exact bm.block b (lt_of_block hc)
          have H2 := Lib.hid (And.intro bm (And.intro om ov))
          have zm := bm.size
          clear om bm ov
          go_simp
          go_wp2_with (first
            | (at_builtin; go_loud (refine wpList_append_keep rfl _ _ rfl B vo (l.length + 12) vc (marks k 0 (l.length + 12)) rfl H2.out.2.2 ⟨gm, 0, none⟩ 60 mc (marks k (l.length + 12) 60) rfl (marks_len _ _ _) ?c1 (by omega) (by omega) ?_))
            | fail)
          case c1 =>
            intro j u hu
            have hj : j < 60 * 1 := by
              have := (List.getElem?_eq_some_iff.1 hu).1
              simpa [vals, marks_len] using this
            have := H2.out.2.1.cellAt j hj
            rw [hu] at this
            rw [addr_add1, Nat.zero_add]
            exact this
          intro v3 w3 o3 g3 a3 k3
          have C3 := HCU.out.step HZ.out H2.out.1 o3 g3 a3 k3
          obtain ⟨v3o, v3c, rfl⟩ := row_sl C3.own
          have HC3 := Lib.hid C3
          have hrow := HGI.out.outrow HV.out HOW.out.2.2 C3.grown
          have HR3 := Lib.hid (hrow.alloc (.cells #[.slice v3o (l.length + (12 + 60)) v3c] 32))
          have bn := new_block w3 (.cells #[.slice v3o (l.length + (12 + 60)) v3c] 32)
          have z3 := C3.grown.size
          clear C3 o3 g3 a3 k3 em hum hrow
          go_wp2_with (first
            | (at_builtin; go_loud (refine wpList_append_lst rfl _ _ rfl W.heap.size _ k gs rfl HR3.out w3.heap.size v3o (l.length + (12 + 60)) v3c rfl bn (by omega) ?c2 ?_))
            | fail)
          case c2 => simp; omega
          intro v5 w5 o5 g5 _
          have GN := HGI.out.next HV.out HOW.out.2.2 kB (HC3.out.grown.andThen (World.grownBy_alloc w3 _ none) (fun j e => by cases e)) (HC3.out.tx.below (below_alloc w3 _)) (v := .slice v3o (l.length + (12 + 60)) v3c) (HC3.out.own.alloc _) HC3.out.hat g5 o5
          have HGN := Lib.hid GN
          clear GN o5 g5
          go_wp2_with fail
          go_roundg (n - (k + 1))
          case measure => have := HG.out; omega
          case rel => exact ⟨k + 1, _, rfl, by omega, by go_num, HGN.out⟩
    · obtain rfl : k = n := by omega
      have HGI := Lib.hid GI
      clear GI b1 b2 b3
      go_wp2_with fail
      go_ret
      exact ⟨_, gs, rfl, HGI.out⟩
end Go.Proofs.YtidjnfjpdnjogaaGreatDoor
