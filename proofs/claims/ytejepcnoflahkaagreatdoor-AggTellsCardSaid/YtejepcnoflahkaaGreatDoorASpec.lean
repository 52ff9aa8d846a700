/- What the functions of the package agg come to, in plain Lean. -/
import Derived.Test.YtejepcnoflahkaaGreatDoorVSpec
import Derived.Lib.Join
namespace Go.Proofs.YtejepcnoflahkaaGreatDoor
open Go Go.Ab

def sCount : List UInt8 := [99, 111, 117, 110, 116]
def sStar : List UInt8 := [99, 111, 117, 110, 116, 42]
def sSum : List UInt8 := [115, 117, 109]
def sTotal : List UInt8 := [116, 111, 116, 97, 108]
def sMin : List UInt8 := [109, 105, 110]
def sMax : List UInt8 := [109, 97, 120]
def sConcat : List UInt8 := [103, 114, 111, 117, 112, 95, 99, 111, 110, 99, 97, 116]
/-- the totals that there are -/
def names : List (List UInt8) := [sCount, sStar, sSum, sTotal, sMin, sMax, sConcat]

/-- the last k bytes of a number, the highest first -/
def highS (n : Int) : Nat → List UInt8
  | 0 => []
  | k + 1 => UInt8.ofNat ((n / 256 ^ k) % 256).toNat :: highS n k
/-- a number's bits, the highest one turned -/
def flipV (n : Int) : Int := IntKind.u64.wrap ((BitVec.ofInt 64 (IntKind.u64.wrap n) ^^^ BitVec.ofInt 64 9223372036854775808).toNat : Int)
/-- a text, each zero told apart -/
def escS : List UInt8 → List UInt8
  | [] => []
  | c :: l => if c = 0 then 0 :: 255 :: escS l else c :: escS l
/-- the key of a value -/
def keyV (v : V) : List UInt8 :=
  if v.k = 0 then [1] else if v.k = 1 then 2 :: highS (flipV v.n) 8
  else (if v.k = 2 then 3 else 4) :: (escS v.s ++ [0, 0])

/-- what a total holds: how many, the sum, the best, all; how often a key has come -/
structure Acc where
  n : Int
  hi : Int
  lo : Int
  best : V
  l : List V
  seen : List (List UInt8 × Int)
def acc0 : Acc := ⟨0, 0, 0, null, [], []⟩
def seenN (k : List UInt8) : List (List UInt8 × Int) → Int
  | [] => 0
  | (x, n) :: l => if k = x then n else seenN k l
def bump (k : List UInt8) : List (List UInt8 × Int) → List (List UInt8 × Int)
  | [] => [(k, 1)]
  | (x, n) :: l => if k = x then (k, IntKind.i64.wrap (n + 1)) :: l else (x, n) :: bump k l
/-- does a value count? -/
def countsS (name : List UInt8) (d : Bool) (a : Acc) (v : V) : Bool :=
  if name = sStar then true else if v.k = 0 then false else if d then seenN (keyV v) (bump (keyV v) a.seen) == 1 else true
def seenS (name : List UInt8) (d : Bool) (a : Acc) (v : V) : List (List UInt8 × Int) :=
  if name = sStar then a.seen else if v.k = 0 then a.seen else if d then bump (keyV v) a.seen else a.seen
/-- the sum's halves, behind a number more -/
def loS (lo n : Int) : Int := (lo + n % 18446744073709551616 + 0) % 18446744073709551616
def hiS (hi lo n : Int) : Int := (hi + (if n < 0 then 18446744073709551615 else 0) + (lo + n % 18446744073709551616 + 0) / 18446744073709551616) % 18446744073709551616
def addS (name : List UInt8) (a : Acc) (v : V) : Acc :=
  if name = sSum ∨ name = sTotal then { a with hi := hiS a.hi a.lo (intV v), lo := loS a.lo (intV v) }
  else if name = sMin then (if a.n = 0 ∨ compareV v a.best < 0 then { a with best := v } else a)
  else if name = sMax then (if a.n = 0 ∨ compareV v a.best > 0 then { a with best := v } else a)
  else if name = sConcat then { a with l := a.l ++ [v] }
  else a
/-- a value more -/
def stepS (name : List UInt8) (d : Bool) (a : Acc) (v : V) : Acc :=
  if right v then
    (if countsS name d a v then
      (let b := addS name a v; { b with n := IntKind.i64.wrap (a.n + 1), seen := seenS name d a v })
     else { a with seen := seenS name d a v })
  else a
def stepE (v : V) : Int := if right v then 0 else 2

/-! by rising values -/
def leV (a b : V) : Bool := decide (compareV a b ≤ 0)
def insV (v : V) : List V → List V
  | [] => [v]
  | x :: l => if compareV v x < 0 then v :: x :: l else x :: insV v l
def sortV : List V → List V
  | [] => []
  | x :: l => insV x (sortV l)
def lenL : List (List UInt8) → Nat
  | [] => 0
  | x :: l => x.length + lenL l
/-- all texts, by rising values -/
def joinS (l : List V) : R :=
  if l.length - 1 + lenL ((sortV l).map textV) > 65536 then ⟨null, 3⟩ else ⟨⟨2, 0, Lib.join ((sortV l).map textV) [44]⟩, 0⟩
def overS (hi lo : Int) : R := if hi = (if lo < 9223372036854775808 then 0 else 18446744073709551615) then ⟨numV (if lo < 9223372036854775808 then lo else lo - 18446744073709551616), 0⟩ else ⟨null, 20⟩
/-- what it comes to -/
def finalS (name : List UInt8) (a : Acc) : R :=
  if name = [] then ⟨null, 1⟩ else if name = sCount ∨ name = sStar then ⟨numV a.n, 0⟩ else if name = sMin ∨ name = sMax then ⟨a.best, 0⟩
  else if name ≠ sTotal ∧ a.n = 0 then ⟨null, 0⟩ else if name = sConcat then joinS a.l else overS a.hi a.lo
def newE (name : List UInt8) (d : Bool) : Int := if name ∈ names then (if d && name == sStar then 2 else 0) else 21
/-- a total of values -/
def foldA (name : List UInt8) (d : Bool) (a : Acc) : List V → Acc
  | [] => a
  | v :: l => foldA name d (stepS name d a v) l
def ofS (name : List UInt8) (d : Bool) (l : List V) : R :=
  if newE name d ≠ 0 then ⟨null, newE name d⟩ else if l.all right then finalS name (foldA name d acc0 l) else ⟨null, 2⟩
end Go.Proofs.YtejepcnoflahkaaGreatDoor
