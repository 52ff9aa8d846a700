/- What the functions of the package value come to, in plain Lean. -/
import Derived.Test.YtejepcnoflahkaaGreatDoorAbRun
import Derived.Lib.Strings
import Derived.Lib.Bytealg
import Derived.Lib.ItoaNum
import Derived.Lib.Replace
namespace Go.Proofs.YtejepcnoflahkaaGreatDoor
open Go Go.Ab

/-- a value -/
structure V where
  k : Int
  n : Int
  s : List UInt8
deriving DecidableEq
def encV (v : V) : AV := .agg [.int .u8 v.k, .int .i64 v.n, .str v.s]
def null : V := ⟨0, 0, []⟩
def numV (n : Int) : V := ⟨1, n, []⟩
/-- a value and an error -/
structure R where
  v : V
  e : Int
deriving DecidableEq
def encR (r : R) : AV := .tup [encV r.v, .int .i64 r.e]
def i64 (n : Int) : Prop := -9223372036854775808 ≤ n ∧ n ≤ 9223372036854775807
instance (n : Int) : Decidable (i64 n) := by unfold i64; infer_instance

@[irreducible] def right (v : V) : Bool :=
  if v.k = 0 then v.n == 0 && v.s == [] else if v.k = 1 then v.s == [] else if v.k = 2 ∨ v.k = 3 then v.n == 0 && decide (v.s.length ≤ 65536) else false
def cmpI (a b : Int) : Int := if a < b then -1 else if a > b then 1 else 0
@[irreducible] def compareV (a b : V) : Int :=
  if a.k ≠ b.k then cmpI a.k b.k else if a.k = 1 then cmpI a.n b.n else if a.k = 2 ∨ a.k = 3 then Lib.compareBytes a.s b.s else 0
def blank (b : UInt8) : Bool := b == 9 || b == 10 || b == 11 || b == 12 || b == 13 || b == 32
@[irreducible] def trimL (s : List UInt8) : List UInt8 := s.dropWhile blank
def digs : Nat → List UInt8 → Nat
  | n, [] => n
  | n, c :: cs => if 48 ≤ c.toNat ∧ c.toNat ≤ 57 then (if n > (9223372036854775808 - (c.toNat - 48)) / 10 then 9223372036854775808 else digs (10 * n + (c.toNat - 48)) cs) else n
def signed (t : List UInt8) : List UInt8 := if Lib.hasPrefix t [45] || Lib.hasPrefix t [43] then t.drop 1 else t
def numS (t : List UInt8) : Int :=
  if Lib.hasPrefix t [45] then -(digs 0 (signed t) : Int) else if digs 0 (signed t) > 9223372036854775807 then 9223372036854775807 else digs 0 (signed t)
@[irreducible] def intV (v : V) : Int := if v.k = 1 then v.n else if v.k = 0 then 0 else numS (trimL v.s)
@[irreducible] def textV (v : V) : List UInt8 := if v.k = 1 then Lib.itoa v.n else if v.k = 0 then [] else v.s
@[irreducible] def truV (v : V) : Bool := v.k != 0 && intV v != 0
@[irreducible] def boolR (b : Bool) : R := ⟨numV (if b then 1 else 0), 0⟩
@[irreducible] def textR (s : List UInt8) : R := if 65536 < s.length then ⟨null, 3⟩ else ⟨⟨2, 0, s⟩, 0⟩
@[irreducible] def threeR (a b : V) (and : Bool) : R :=
  if (a.k != 0 && truV a != and || b.k != 0 && truV b != and) then boolR (!and) else if (a.k == 0 || b.k == 0) then ⟨null, 0⟩ else boolR and
def fitR (n : Int) : R := if i64 n then ⟨numV n, 0⟩ else ⟨null, 20⟩
@[irreducible] def sumsR (sg : List UInt8) (a b : Int) : R :=
  if sg = [43] then fitR (a + b) else if sg = [45] then fitR (a - b) else if sg = [42] then fitR (a * b)
  else if b = 0 then ⟨null, 0⟩ else if sg = [47] then fitR (Int.tdiv a b) else ⟨numV (Int.tmod a b), 0⟩
def trimP (s : List UInt8) : List UInt8 := ((s.reverse.dropWhile (· == 37)).reverse).dropWhile (· == 37)
def smallI (b : Int) : Int := if b ≥ 65 ∧ b ≤ 90 then IntKind.u8.wrap (b + 32) else b
def small (b : UInt8) : UInt8 := if 65 ≤ b.toNat ∧ b.toNat ≤ 90 then b + 32 else b
def likeR : List UInt8 → List UInt8 → Bool
  | [], p => p.all (· == 37)
  | _ :: _, [] => false
  | c :: cs, p :: ps => if p = 37 then likeR (c :: cs) ps || likeR cs (p :: ps) else (p == 95 || small p == small c) && likeR cs ps
termination_by s p => s.length + p.length
@[irreducible] def likeV (s p : List UInt8) : Bool := likeR s p
def signs : List (List UInt8) := [[43], [45], [42], [47], [37], [124, 124], [61], [60, 62], [60], [60, 61], [62], [62, 61], [97, 110, 100], [111, 114], [108, 105, 107, 101]]
@[irreducible] def known (sg : List UInt8) : Bool := signs.any fun x => sg == x
@[irreducible] def opR (sg : List UInt8) (a b : V) : R :=
  if !right a || !right b || !known sg then ⟨null, 2⟩
  else if sg = [97, 110, 100] ∨ sg = [111, 114] then threeR a b (sg == [97, 110, 100])
  else if a.k = 0 ∨ b.k = 0 then ⟨null, 0⟩
  else if sg = [124, 124] then textR (textV a ++ textV b)
  else if sg = [61] then boolR (compareV a b == 0)
  else if sg = [60, 62] then boolR (compareV a b != 0)
  else if sg = [60] then boolR (decide (compareV a b < 0))
  else if sg = [60, 61] then boolR (decide (compareV a b ≤ 0))
  else if sg = [62] then boolR (decide (compareV a b > 0))
  else if sg = [62, 61] then boolR (decide (compareV a b ≥ 0))
  else if sg = [108, 105, 107, 101] then (if ((textV b).length : Int) > 1000 then ⟨null, 3⟩ else boolR (likeV (textV a) (textV b)))
  else sumsR sg (intV a) (intV b)
@[irreducible] def oneR (sg : List UInt8) (a : V) : R :=
  if !right a || (sg != [45] && sg != [110, 111, 116]) then ⟨null, 2⟩
  else if a.k = 0 then ⟨a, 0⟩ else if sg = [110, 111, 116] then boolR (!truV a) else sumsR [45] 0 (intV a)
@[irreducible] def castR (sg : List UInt8) (v : V) : R :=
  if !right v || (sg != [105, 110, 116] && sg != [116, 101, 120, 116]) then ⟨null, 2⟩
  else if v.k = 0 then ⟨v, 0⟩ else if sg = [105, 110, 116] then ⟨numV (intV v), 0⟩ else textR (textV v)
end Go.Proofs.YtejepcnoflahkaaGreatDoor
