/-
  Contracts of the laws' own functions light and told. Conditions: none.
-/
import Derived.Test.YtdllgebccjmljaaD
import Derived.Test.YtdllgebccjmljaaK
import Derived.Deep.LoopGhost
namespace Go.Proofs.Ytdllgebccjmljaa
open Go.RowKit

/-- The jobs of a list, as they lie in memory. -/
def JobAt (w : World) (ao : Option Addr) (i : Nat) (kd n : Int) (s : ByteArray) : Prop :=
  ∃ b off, ao = some ⟨b, off, none⟩ ∧ b < w.heap.size ∧ w.cell? ⟨b, off + i * 3, none⟩ = some (.int .i64 kd) ∧ w.cell? ⟨b, off + i * 3 + 1, none⟩ = some (.int .i64 n) ∧ w.cell? ⟨b, off + i * 3 + 2, none⟩ = some (.string s)

/-- What the law's own told tells of a job. -/
def tell (kd n : Int) (s : ByteArray) : Int × Int × ByteArray :=
  if kd = 2 then (if n = 0 then (0, 0, ⟨#[]⟩) else (n, 2, ⟨#[]⟩)) else if kd = 3 then (21, 3, s) else if kd = 4 ∨ kd = 5 ∨ kd = 6 ∨ kd = 7 then (21, 1, ⟨#[]⟩) else (0, 0, ⟨#[]⟩)

theorem told17_none (ao : Option Addr) (len cap : Nat) (i : Nat) (hi : len ≤ i) (w : World) :
    Calls Try.prog 17 #[.slice ao len cap, .int .i64 i] w fun e w' => e = .returned (fault 0 0 ⟨#[]⟩) ∧ Below w.heap.size w w' := by
  go_enter Try.func17, Try.ntmps17
  go_wp2
  exact bodyPost_ret (v := fault 0 0 ⟨#[]⟩) (by simp [results, Try.results17, go_sem, fault]) rfl ⟨rfl, ((Below.refl _ _).alloc (Nat.le_refl _) _)⟩

theorem told17_some (b off : Nat) (len cap : Nat) (i : Nat) (hi : i < len) (kd n : Int) (s : ByteArray) (w : World) (hb : b < w.heap.size)
    (h0 : w.cell? ⟨b, off + i * 3, none⟩ = some (.int .i64 kd)) (h1 : w.cell? ⟨b, off + i * 3 + 1, none⟩ = some (.int .i64 n)) (h2 : w.cell? ⟨b, off + i * 3 + 2, none⟩ = some (.string s)) :
    Calls Try.prog 17 #[.slice (some ⟨b, off, none⟩) len cap, .int .i64 i] w fun e w' => e = .returned (fault (tell kd n s).1 (tell kd n s).2.1 (tell kd n s).2.2) ∧ Below w.heap.size w w' := by
  go_enter Try.func17, Try.ntmps17
  go_wp2
  all_goals
    refine bodyPost_ret (v := fault (tell kd n s).1 (tell kd n s).2.1 (tell kd n s).2.2) ?_ rfl ⟨rfl, ((Below.refl _ _).alloc (Nat.le_refl _) _).alloc (by simp) _⟩
    simp_all [results, Try.results17, go_sem, fault, tell]


def LightPost (len : Nat) (w : World) (e : Ending) (w' : World) : Prop := ∃ r : Bool, e = .returned (.bool r) ∧ (r = true → len ≤ 40) ∧ w' = w

theorem light_any (ao : Option Addr) (len cap : Nat) (hm : len ≤ maxLen) (Kd Nn : Nat → Int) (Ss : Nat → ByteArray) (w : World) (hS : ∀ i, i < len → (Ss i).size ≤ maxLen)
    (hJ : ∀ i, i < len → JobAt w ao i (Kd i) (Nn i) (Ss i)) :
    Calls Try.prog 13 #[.slice ao len cap] w (LightPost len w) := by
  unfold maxLen at hm hS
  have HJ := Lib.hid hJ; clear hJ
  go_enter Try.func13, Try.ntmps13
  go_wp2
  go_loopg [3] len (fun g i wr => ∃ k : Nat, g = len - k ∧ k ≤ len ∧ k ≤ 100 ∧ i = .int .i64 k ∧ wr = w)
  case atStart => exact ⟨0, by omega, by omega, by omega, rfl, rfl⟩
  case round =>
    obtain ⟨k, hg, hle, h100, rfl, rfl⟩ := hrel
    have HG := Lib.hid hg; clear hg
    by_cases hk : k < len
    · obtain ⟨b, off, rfl, hb, -, -, hs⟩ := HJ.out k hk
      have hsz := hS k hk
      clear hS
      have hd : decide ((k : Int) < (len : Int)) = true := by simp; omega
      by_cases hk2 : k < 100
      · by_cases h3 : (Ss k).size ≤ 300
        · go_wp2
          go_roundg (len - (k + 1))
          case measure => rw [HG.out]; omega
          case rel => exact ⟨k + 1, rfl, by omega, by omega, by go_num, rfl⟩
        · go_wp2
          go_ret
          exact ⟨_, rfl, by simp, rfl⟩
      · go_wp2
        go_ret
        exact ⟨_, rfl, by simp; omega, rfl⟩
    · go_wp2
      go_ret
      exact ⟨_, rfl, by simp; omega, rfl⟩

end Go.Proofs.Ytdllgebccjmljaa
