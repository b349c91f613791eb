/-
  Package prog: the machine on its own: what a word does to the numbers that lie there. Plain. Conditions: none.
-/
import Derived.Test.YtidjnfjpdnjogaaDoorPrC6
import Derived.Test.YtidjnfjpdnjogaaDoorPrC9
import Derived.Laws.FloatBits
namespace Go.Proofs.YtidjnfjpdnjogaaDoor
open Go.RowKit Go.Lib

/-- What a program works on. -/
structure En where
  s : Nat
  id : Int
  ty : ByteArray
  d : ByteArray
  v : Nat
  ver : Int

/-- The event's part and the rest, as cells. -/
abbrev En.val (e : En) : Value := .agg #[.float .f64 e.s, .int .i64 e.id, .string e.ty, .string e.d, .float .f64 e.v, .int .i64 e.ver]
def En.cells (e : En) (l : Value) : Array Value := #[.float .f64 e.s, .int .i64 e.id, .string e.ty, .string e.d, .float .f64 e.v, .int .i64 e.ver, l]
structure En.Ok (e : En) : Prop where
  s : e.s < 18446744073709551616
  v : e.v < 18446744073709551616
  d : e.d.size ≤ 281474976710656

/-- A number of two, by its bits; of each NaN the one. -/
def arC (f : Nat → Nat → Option Nat) (a b : Nat) : Nat := match f a b with
  | some r => oneW r
  | none => 9221120237041090560
theorem oneW_lt {a : Nat} (h : a < 18446744073709551616) : oneW a < 18446744073709551616 := by
  unfold oneW; split
  · decide
  · exact h
theorem oneW_one (b : Nat) : oneW (oneW b) = oneW b := by
  rcases fine_dec b with ⟨h, _⟩ | ⟨h, _⟩
  · rw [oneW_not h, oneW_not h]
  · rw [oneW_nan h]; decide +kernel

/-- The two, as a list. -/
def pairL (a b : Nat) : Nat → Nat := fun i => if i = 0 then a else b

def wAdd : List UInt8 := [97, 100, 100]
def wSub : List UInt8 := [115, 117, 98]
def wMul : List UInt8 := [109, 117, 108]
def wDiv : List UInt8 := [100, 105, 118]
def wMin : List UInt8 := [109, 105, 110]
def wMax : List UInt8 := [109, 97, 120]
def wLess : List UInt8 := [108, 101, 115, 115]
def wDup : List UInt8 := [100, 117, 112]
def wDrop : List UInt8 := [100, 114, 111, 112]
def wSwap : List UInt8 := [115, 119, 97, 112]
def wPick : List UInt8 := [112, 105, 99, 107]
def wState : List UInt8 := [115, 116, 97, 116, 101]
def wValue : List UInt8 := [118, 97, 108, 117, 101]
def wVersion : List UInt8 := [118, 101, 114, 115, 105, 111, 110]
def wLen : List UInt8 := [108, 101, 110]
def wByte : List UInt8 := [98, 121, 116, 101]
def wNeg : List UInt8 := [110, 101, 103]
def wFail : List UInt8 := [102, 97, 105, 108]
def arithWords : List (List UInt8) := [wAdd, wSub, wMul, wDiv, wMin, wMax, wLess]
def moveWords : List (List UInt8) := [wDup, wDrop, wSwap, wPick]
def otherWords : List (List UInt8) := [wState, wValue, wVersion, wLen, wByte, wNeg, wFail]
def knownB (w : List UInt8) : Bool := (arithWords ++ moveWords ++ otherWords).contains w

/-- What a word of two makes of them. -/
def arithB (w : List UInt8) (a b : Nat) : Nat :=
  if w = wAdd then arC Ieee.double.add a b else if w = wSub then arC Ieee.double.sub a b else if w = wMul then arC Ieee.double.mul a b else if w = wDiv then arC Ieee.double.div a b
  else if w = wMin then oneW (leastC (pairL a b) 2) else if w = wMax then oneW (oneW (mostC (pairL a b) 1)) else if lessB a b then 4607182418800017408 else 0

/-- The numbers that lie there, the last one first; or a fault. -/
inductive Out where
  | ok (st : List Nat)
  | rt
  | fail

/-- Is it a nought or no number? -/
def nilB (c : Nat) : Bool := (Ieee.double.order c 0 == some .eq) || nanW c
def moveB (w : List UInt8) (st : List Nat) : Out :=
  if w = wDup then match st with | f :: t => .ok (oneW f :: oneW f :: t) | _ => .rt
  else if w = wDrop then match st with | _ :: t => .ok t | _ => .rt
  else if w = wSwap then match st with | b :: a :: t => .ok (oneW a :: oneW b :: t) | _ => .rt
  else match st with | c :: b :: a :: t => .ok (oneW (if nilB c then b else a) :: t) | _ => .rt

/-- The byte's place that a number tells. -/
def placeB (k : Nat) (n : Nat) : Option Nat := if (Ieee.double.order k 0 == some .gt || Ieee.double.order k 0 == some .eq) && Ieee.double.order k (intF n) == some .lt && evenB k then some (qOf k) else none
def otherB (e : En) (w : List UInt8) (st : List Nat) : Out :=
  if w = wState then .ok (oneW e.s :: st)
  else if w = wValue then .ok (oneW e.v :: st)
  else if w = wVersion then .ok (oneW (intF e.ver) :: st)
  else if w = wLen then .ok (oneW (intF e.d.size) :: st)
  else if w = wByte then match st with | k :: t => (match placeB k e.d.size with | some i => .ok (oneW (intF ((e.d.data.toList.getD i 0).toNat)) :: t) | none => .rt) | _ => .rt
  else if w = wNeg then match st with | f :: t => .ok (oneW (negB f) :: t) | _ => .rt
  else if w = wFail then .fail
  else .ok (oneW (parseB w).1 :: st)
def stepB (e : En) (w : List UInt8) (st : List Nat) : Out :=
  if arithWords.contains w then match st with | b :: a :: t => .ok (arithB w a b :: t) | _ => .rt
  else if moveWords.contains w then moveB w st
  else otherB e w st
def wordsGo (e : En) : List (List UInt8) → List Nat → Out
  | [], st => .ok st
  | w :: l, st => match stepB e w st with
    | .ok st' => wordsGo e l st'
    | x => x
/-- Is it a word? -/
def isWord (w : List UInt8) : Bool := (parseB w).2 == 0 || knownB w
def checkB : List (List UInt8) → Nat → Int × Nat
  | [], _ => (0, 0)
  | w :: l, i => if isWord w then checkB l (i + 1) else (6, i)
def checkL (l : List (List UInt8)) : Int × Nat := if 64 < l.length then (2, 64) else checkB l 0
/-- What a run tells: the number, the error, its kind, its text. -/
structure Tell where
  v : Nat
  err : Int
  kind : Int
  text : List UInt8
def runB (e : En) (l : List (List UInt8)) : Tell :=
  if (checkL l).1 ≠ 0 then ⟨0, 6, 0, []⟩
  else match wordsGo e l [] with
    | .ok [f] => ⟨f, 0, 0, []⟩
    | .ok _ => ⟨0, 6, 2, []⟩
    | .rt => ⟨0, 21, 1, []⟩
    | .fail => ⟨0, 21, 3, wFail⟩
end Go.Proofs.YtidjnfjpdnjogaaDoor
