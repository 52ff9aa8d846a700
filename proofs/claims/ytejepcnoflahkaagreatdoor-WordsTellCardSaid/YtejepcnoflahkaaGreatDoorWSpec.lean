/- What the functions of the package words come to, in plain Lean. -/
import Derived.Test.YtejepcnoflahkaaGreatDoorVSpec
namespace Go.Proofs.YtejepcnoflahkaaGreatDoor
open Go Go.Ab

/-- a token -/
structure Wd where
  k : Int
  s : List UInt8
  n : Int
  a : Int
  e : Int
deriving DecidableEq
def encW (w : Wd) : AV := .agg [.int .u8 w.k, .str w.s, .int .i64 w.n, .int .i64 w.a, .int .i64 w.e]
def noW : Wd := ⟨0, [], 0, 0, 0⟩
/-- a token and a fault -/
structure WF where
  w : Wd
  e : Int
  a : Int
deriving DecidableEq
def encWF (x : WF) : AV := .tup [encW x.w, .agg [.int .i64 x.e, .int .i64 x.a]]

def digC (c : Int) : Bool := decide (c ≥ 48) && decide (c ≤ 57)
def letC (c : Int) : Bool := decide (c ≥ 97) && decide (c ≤ 122) || decide (c ≥ 65) && decide (c ≤ 90) || c == 95
def wsC (c : Int) : Bool := c == 32 || c == 9 || c == 10 || c == 13
def nlC (c : Int) : Bool := c != 10
def namC (c : Int) : Bool := letC c || digC c
def onB (p : Int → Bool) (b : UInt8) : Bool := p (b.toNat : Int)
/-- how many bytes of a kind a text begins with -/
def runN (p : Int → Bool) : List UInt8 → Nat
  | [] => 0
  | b :: l => match onB p b with
    | true => runN p l + 1
    | false => 0
/-- how many bytes are passed over (true: within a remark) -/
def skipN : Bool → List UInt8 → Nat
  | _, [] => 0
  | true, b :: l => skipN (b != 10) l + 1
  | false, b :: l => match onB wsC b with
    | true => skipN false l + 1
    | false => match b == 45 && l.head? == some 45 with
      | true => skipN true l + 1
      | false => 0
/-- behind a quote: the bytes, and how many of the text they take -/
def quoS : List UInt8 → Option (List UInt8 × Nat)
  | [] => none
  | b :: l => match b == 39 with
    | false => (quoS l).map fun x => (b :: x.1, x.2 + 1)
    | true => match l with
      | [] => some ([], 1)
      | c :: l' => match c == 39 with
        | true => (quoS l').map fun x => (39 :: x.1, x.2 + 2)
        | false => some ([], 1)
def halfS (b : UInt8) : Option Nat :=
  if 48 ≤ b.toNat ∧ b.toNat ≤ 57 then some (b.toNat - 48) else if 97 ≤ b.toNat ∧ b.toNat ≤ 102 then some (b.toNat - 87) else if 65 ≤ b.toNat ∧ b.toNat ≤ 70 then some (b.toNat - 55) else none
/-- behind x': likewise -/
def bloS : List UInt8 → Option (List UInt8 × Nat)
  | [] => none
  | b :: l => match b == 39 with
    | true => some ([], 1)
    | false => match l with
      | [] => none
      | c :: l' => match halfS b, halfS c with
        | some x, some y => (bloS l').map fun z => (UInt8.ofNat (16 * x + y) :: z.1, z.2 + 2)
        | _, _ => none
/-- the number of some digits -/
def decN : Nat → List UInt8 → Nat
  | n, [] => n
  | n, b :: l => decN (10 * n + (b.toNat - 48)) l
def lowS (s : List UInt8) : List UInt8 := s.map small
def str8 (s : String) : List UInt8 := s.toUTF8.data.toList
def keysL : List (List UInt8) := [[97, 110, 100], [97, 115], [97, 115, 99], [98, 101, 103, 105, 110], [98, 101, 116, 119, 101, 101, 110], [98, 121], [99, 97, 115, 116], [99, 111, 109, 109, 105, 116], [99, 114, 101, 97, 116, 101], [100, 101, 108, 101, 116, 101], [100, 101, 115, 99], [100, 105, 115, 116, 105, 110, 99, 116], [100, 114, 111, 112], [102, 114, 111, 109], [103, 114, 111, 117, 112], [104, 97, 118, 105, 110, 103], [105, 110], [105, 110, 100, 101, 120], [105, 110, 115, 101, 114, 116], [105, 110, 116], [105, 110, 116, 111], [105, 115], [106, 111, 105, 110], [108, 105, 107, 101], [108, 105, 109, 105, 116], [110, 111, 116], [110, 117, 108, 108], [111, 102, 102, 115, 101, 116], [111, 110], [111, 114], [111, 114, 100, 101, 114], [114, 111, 108, 108, 98, 97, 99, 107], [115, 101, 108, 101, 99, 116], [115, 101, 116], [116, 97, 98, 108, 101], [116, 101, 120, 116], [117, 110, 105, 113, 117, 101], [117, 112, 100, 97, 116, 101], [118, 97, 108, 117, 101, 115], [119, 104, 101, 114, 101]]
def signsL : List (List UInt8) := [[124, 124], [60, 62], [60, 61], [62, 61], [61], [60], [62], [43], [45], [42], [47], [37], [40], [41], [44], [46], [59], [63]]
/-- a token that a text begins with: its kind, bytes, number; how long it is (0: there is none) -/
structure Tk where
  k : Int
  s : List UInt8
  n : Int
  l : Nat
deriving DecidableEq
def firstS (s : List UInt8) : List (List UInt8) → Tk
  | [] => ⟨0, [], 0, 0⟩
  | x :: l => match Lib.hasPrefix s x with
    | true => ⟨6, x, 0, x.length⟩
    | false => firstS s l
def isBlob : List UInt8 → Bool
  | b :: c :: _ => (b == 120 || b == 88) && c == 39
  | _ => false
def nameS (s : List UInt8) : Tk := ⟨if lowS (s.take (runN namC s)) ∈ keysL then 3 else 2, lowS (s.take (runN namC s)), 0, runN namC s⟩
def numS' (s : List UInt8) : Tk := if decN 0 (s.take (runN digC s)) ≤ 9223372036854775807 then ⟨1, [], decN 0 (s.take (runN digC s)), runN digC s⟩ else ⟨0, [], 0, 0⟩
def foundS : List UInt8 → Tk
  | [] => ⟨0, [], 0, 0⟩
  | b :: l => match isBlob (b :: l) with
    | true => match bloS (l.drop 1) with
      | some (o, n) => ⟨5, o, 0, n + 2⟩
      | none => ⟨5, [], 0, 0⟩
    | false => match b == 39 with
      | true => match quoS l with
        | some (o, n) => ⟨4, o, 0, n + 1⟩
        | none => ⟨4, [], 0, 0⟩
      | false => match onB digC b with
        | true => numS' (b :: l)
        | false => match onB letC b with
          | true => nameS (b :: l)
          | false => firstS (b :: l) signsL
def tokS (s : List UInt8) (at' : Nat) : WF :=
  if skipN false s = s.length then ⟨⟨7, [], 0, (at' + s.length : Nat), (at' + s.length : Nat)⟩, 0, 0⟩
  else if (foundS (s.drop (skipN false s))).l = 0 then ⟨noW, 100, (at' + skipN false s : Nat)⟩
  else ⟨⟨(foundS (s.drop (skipN false s))).k, (foundS (s.drop (skipN false s))).s, (foundS (s.drop (skipN false s))).n, (at' + skipN false s : Nat), (at' + skipN false s + (foundS (s.drop (skipN false s))).l : Nat)⟩, 0, 0⟩
/-- the token at a place -/
def nextS (text : List UInt8) (at' : Int) : WF :=
  if text.length > 65536 then ⟨noW, 3, 0⟩
  else if at' < 0 ∨ at' > text.length then ⟨noW, 2, 0⟩
  else tokS (text.drop at'.toNat) at'.toNat
def quoteS (s : List UInt8) : List UInt8 := 39 :: (s.flatMap fun b => if b = 39 then [39, 39] else [b]) ++ [39]
def hexD (n : Nat) : UInt8 := if n < 10 then UInt8.ofNat (48 + n) else UInt8.ofNat (87 + n)
def hexW (s : List UInt8) : List UInt8 := 120 :: 39 :: (s.flatMap fun b => [hexD (b.toNat / 16), hexD (b.toNat % 16)]) ++ [39]
end Go.Proofs.YtejepcnoflahkaaGreatDoor
