/-
  chroniclebook: marks; lists of texts alike; a copy of texts. Conditions: none.
-/
import Derived.Test.YtidjnfjpdnjogaaGreatDoorPwW
namespace Go.Proofs.YtidjnfjpdnjogaaGreatDoor
open Go.RowKit Go.Lib

/-- Texts in a block of their own. -/
theorem txs_block {w : World} {b : Nat} {l : List ByteArray} (h : w.heap[b]? = some (.cells (l.map Value.string).toArray 9)) : Txs w (.slice (some ⟨b, 0, none⟩) l.length l.length) l := by
  refine Or.inr ⟨b, 0, l.length, rfl, fun i hi => ?_, lt_of_block h⟩
  simp only [World.cell?, h]
  simp [List.getD_eq_getElem?_getD, List.getElem?_eq_getElem hi]
/-- A mark. -/
def nameL (i k : Nat) : List UInt8 := [109, UInt8.ofNat (65 + i % 26), UInt8.ofNat (65 + i / 26 % 26), UInt8.ofNat (48 + k % 10), UInt8.ofNat (48 + k / 10 % 10), UInt8.ofNat (48 + k / 100 % 10)]
def nameS (i k : Nat) : ByteArray := ⟨(nameL i k).toArray⟩

theorem ba_eq {p q : ByteArray} (h : p.toList = q.toList) : p = q := by
  rw [Lib.toList_data, Lib.toList_data] at h
  exact ByteArray.ext (Array.ext' h)
theorem six_bytes (c0 c1 c2 c3 c4 c5 : UInt8) (x0 x1 x2 x3 x4 x5 : Int) (h0 : x0 = c0.toNat) (h1 : x1 = c1.toNat) (h2 : x2 = c2.toNat) (h3 : x3 = c3.toNat) (h4 : x4 = c4.toNat) (h5 : x5 = c5.toNat) (w : World) :
    (convert 86 9 (.slice (some ⟨w.heap.size, 0, none⟩) 6 6)).run Tryz.prog (w.alloc (.cells #[.int .u8 x0, .int .u8 x1, .int .u8 x2, .int .u8 x3, .int .u8 x4, .int .u8 x5] 5)) = .ok (.string ⟨#[c0, c1, c2, c3, c4, c5]⟩) (w.alloc (.cells #[.int .u8 x0, .int .u8 x1, .int .u8 x2, .int .u8 x3, .int .u8 x4, .int .u8 x5] 5)) := by
  subst h0 h1 h2 h3 h4 h5
  refine run_convert_whole _ 86 5 9 Tryz.underlying86 Tryz.underlying5 Tryz.underlying9 w.heap.size 0 ⟨#[c0, c1, c2, c3, c4, c5]⟩ (fun i hi => ?_) 6
  have hb := new_block w (.cells #[.int .u8 c0.toNat, .int .u8 c1.toNat, .int .u8 c2.toNat, .int .u8 c3.toNat, .int .u8 c4.toNat, .int .u8 c5.toNat] 5)
  have h6 : i < 6 := hi
  match i, h6 with
  | 0, _ => simp only [World.cell?, hb]; rfl
  | 1, _ => simp only [World.cell?, hb]; rfl
  | 2, _ => simp only [World.cell?, hb]; rfl
  | 3, _ => simp only [World.cell?, hb]; rfl
  | 4, _ => simp only [World.cell?, hb]; rfl
  | 5, _ => simp only [World.cell?, hb]; rfl
theorem byte_of (n : Nat) (x : Int) (h : x = n) (hn : n < 256) : x = ((UInt8.ofNat n).toNat : Int) := by
  rw [h, UInt8.toNat_ofNat_of_lt' hn]

set_option maxRecDepth 100000 in
theorem name_any (i k : Nat) (hi : i < 1000000) (hk : k < 1000000) (w : World) : Calls Tryz.prog 88 #[.int .i64 i, .int .i64 k] w fun e w' => e = .returned (.string (nameS i k)) ∧ Below w.heap.size w w' := by
  obtain ⟨c1, h1⟩ : ∃ c, c = UInt8.ofNat (65 + i % 26) := ⟨_, rfl⟩
  obtain ⟨c2, h2⟩ : ∃ c, c = UInt8.ofNat (65 + i / 26 % 26) := ⟨_, rfl⟩
  obtain ⟨c3, h3⟩ : ∃ c, c = UInt8.ofNat (48 + k % 10) := ⟨_, rfl⟩
  obtain ⟨c4, h4⟩ : ∃ c, c = UInt8.ofNat (48 + k / 10 % 10) := ⟨_, rfl⟩
  obtain ⟨c5, h5⟩ : ∃ c, c = UInt8.ofNat (48 + k / 100 % 10) := ⟨_, rfl⟩
  have hN : nameS i k = ⟨#[109, c1, c2, c3, c4, c5]⟩ := by rw [h1, h2, h3, h4, h5]; rfl
  rw [hN]
  have hcv := six_bytes 109 c1 c2 c3 c4 c5 109 (65 + (i : Int) % 26) (65 + (i : Int) / 26 % 26) (48 + (k : Int) % 10) (48 + (k : Int) / 10 % 10) (48 + (k : Int) / 100 % 10) rfl
    (by rw [h1]; exact byte_of _ _ (by omega) (by omega)) (by rw [h2]; exact byte_of _ _ (by omega) (by omega)) (by rw [h3]; exact byte_of _ _ (by omega) (by omega)) (by rw [h4]; exact byte_of _ _ (by omega) (by omega)) (by rw [h5]; exact byte_of _ _ (by omega) (by omega)) w
  clear h1 h2 h3 h4 h5 hN
  have hal := below_alloc w (.cells #[.int .u8 109, .int .u8 (65 + (i : Int) % 26), .int .u8 (65 + (i : Int) / 26 % 26), .int .u8 (48 + (k : Int) % 10), .int .u8 (48 + (k : Int) / 10 % 10), .int .u8 (48 + (k : Int) / 100 % 10)] 5)
  have HAl := Lib.hid hal
  clear hal
  go_enter Tryz.func88, Tryz.ntmps88
  go_wp2_with fail
  go_ret
  exact ⟨rfl, HAl.out⟩

set_option maxRecDepth 100000 in
theorem sameTexts_any (l m : List ByteArray) (hl : l.length ≤ 1000000) (a b : Value) (w : World) (ha : Txs w a l) (hb : Txs w b m) : Calls Tryz.prog 9 #[a, b] w fun e w' => e = .returned (.bool (decide (l = m))) ∧ Below w.heap.size w w' := by
  obtain ⟨ao, ac, rfl⟩ := ha.slice
  obtain ⟨bo, bc, rfl⟩ := hb.slice
  have HA := Lib.hid ha; clear ha
  have HB := Lib.hid hb; clear hb
  by_cases hlen : l.length = m.length
  · have h1 : ((l.length : Int) != (m.length : Int)) = false := by simp [hlen]
    have HL := Lib.hid hlen
    rw [← hlen] at HB ⊢
    clear hlen h1
    go_enter Tryz.func9, Tryz.ntmps9
    go_wp2_with fail
    go_loopg [5] l.length (fun g i wr => ∃ k : Nat, g = l.length - k ∧ k ≤ l.length ∧ i = .int .i64 k ∧ (∀ j, j < k → l.getD j ByteArray.empty = m.getD j ByteArray.empty) ∧ ∃ d, wr = w.drewN d)
    case atStart => exact ⟨0, by omega, by omega, rfl, fun j hj => by omega, 0, rfl⟩
    case round =>
      obtain ⟨k, hg, hk, rfl, hall, d, rfl⟩ := hrel
      have HG := Lib.hid hg; clear hg
      have HAll := Lib.hid hall; clear hall
      by_cases hlt : k < l.length
      · have hl2 : (k : Int) < (l.length : Int) := by omega
        have hw1 : IntKind.i64.wrap ((k : Int) + 1) = (k : Int) + 1 := IntWalk.i64_in _ (by omega)
        rcases HA.out with ⟨rfl, _⟩ | ⟨x, xo, xc, hv, hx⟩
        · simp at hlt
        rcases HB.out with ⟨rfl, _⟩ | ⟨y, yo, yc, hv2, hy⟩
        · exact absurd HL.out (show ¬ l.length = 0 by omega)
        obtain ⟨rfl, -, rfl⟩ : ao = some ⟨x, xo, none⟩ ∧ l.length = l.length ∧ ac = xc := by simpa using hv
        obtain ⟨rfl, -, rfl⟩ : bo = some ⟨y, yo, none⟩ ∧ l.length = m.length ∧ bc = yc := by simpa using hv2
        have c1 := hx.c k hlt
        have c2 := hy.c k (by have := HL.out; omega)
        have b1 := hx.bl
        have b2 := hy.bl
        clear hv hv2 hx hy
        obtain ⟨p, hp⟩ : ∃ p, l.getD k ByteArray.empty = p := ⟨_, rfl⟩
        obtain ⟨q, hq⟩ : ∃ q, m.getD k ByteArray.empty = q := ⟨_, rfl⟩
        rw [hp] at c1
        rw [hq] at c2
        have HPQ := Lib.hid (And.intro hp hq)
        clear hp hq
        cases hpq : (p.toList == q.toList)
        · go_wp2_with fail
          go_quiet (fail)
          go_wp2_with fail
          go_ret
          refine ⟨?_, below_draws (below_draws (Below.refl _ _) d) _⟩
          have hne : ¬ l = m := by
            rintro rfl
            have := HPQ.out.1.symm.trans HPQ.out.2
            rw [this] at hpq
            simp at hpq
          rw [decide_eq_false hne]
          rfl
        · have hpq2 : p = q := ba_eq (by simpa using hpq)
          have HQ2 := Lib.hid hpq2; clear hpq2
          go_wp2_with fail
          go_quiet (fail)
          go_wp2_with fail
          go_roundg (l.length - (k + 1))
          case measure => have := HG.out; omega
          case rel =>
            refine ⟨k + 1, rfl, by omega, by go_num, fun j hj => ?_, _, rfl⟩
            by_cases hjk : j = k
            · subst hjk; rw [HPQ.out.1, HPQ.out.2, HQ2.out]
            · exact HAll.out j (by omega)
      · obtain rfl : k = l.length := by omega
        go_wp2
        go_ret
        have hlm : l = m := by
          refine List.ext_getElem? fun j => ?_
          by_cases hj : j < l.length
          · have h3 := HAll.out j hj
            have hj2 : j < m.length := by have := HL.out; omega
            rw [List.getD_eq_getElem?_getD, List.getD_eq_getElem?_getD, List.getElem?_eq_getElem hj, List.getElem?_eq_getElem hj2] at h3
            rw [List.getElem?_eq_getElem hj, List.getElem?_eq_getElem hj2]
            exact congrArg some h3
          · rw [List.getElem?_eq_none (by omega), List.getElem?_eq_none (by have := HL.out; omega)]
        exact ⟨by rw [decide_eq_true hlm]; rfl, below_draws (Below.refl _ _) d⟩
  · have h1 : ((l.length : Int) != (m.length : Int)) = true := by simpa using (show ¬ (l.length : Int) = (m.length : Int) by omega)
    have hd : decide (l = m) = false := decide_eq_false (fun e => hlen (by rw [e]))
    rw [hd]
    clear hd hlen
    go_enter Tryz.func9, Tryz.ntmps9
    go_wp2
    go_ret
    exact ⟨rfl, Below.refl _ _⟩

theorem copyTexts_any (l : List ByteArray) (hl : l.length ≤ 1000000) (a : Value) (w : World) (ha : Txs w a l) (hz : ∀ n c, a = .slice none n c → c = 0) : Calls Tryz.prog 17 #[a] w fun e w' => ∃ v, e = .returned v ∧ w'.ownsRow w.heap.size 9 1 v l.length (vals l) ∧ Below w.heap.size w w' := by
  obtain ⟨ao, ac, rfl⟩ := ha.slice
  have HA := Lib.hid (And.intro ha hz); clear ha hz
  go_enter Tryz.func17, Tryz.ntmps17
  go_wp2_with (first
    | (at_builtin; refine wpList_append_txs rfl _ _ rfl w.heap.size (.slice none 0 0) [] rfl (World.ownsRow_nil _ _ _ _) _ l rfl HA.out.1 HA.out.2 ?c3 (Nat.le_refl _) ?_)
    | fail)
  case c3 => simp; omega
  intro v1 w1 o1 g1
  have b1 : Below w.heap.size w w1 := (Below.refl _ _).grown g1 (Nat.le_refl _) (fun g e => by cases e)
  have H1 := Lib.hid (And.intro o1 b1)
  clear o1 g1 b1
  go_wp2_with fail
  go_ret
  exact ⟨v1, rfl, by simpa using H1.out.1, H1.out.2⟩
end Go.Proofs.YtidjnfjpdnjogaaGreatDoor
