/- Contracts of functions, tier 2: WRITTEN BY A SMALL PROGRAM of this session (gen.py). -/
import Derived.Test.YtejepcnoflahkaaDoorVWalk1
import Derived.Test.YtejepcnoflahkaaDoorShelf
import Derived.Shelf.Strings.SlTrimAscii
import Derived.Lib.AppendIntMem
import Derived.Lib.Repeat
namespace Go.Proofs.YtejepcnoflahkaaDoor
open Go Go.Ab
set_option linter.unusedVariables false
set_option linter.unusedSimpArgs false
set_option maxRecDepth 100000
set_option maxHeartbeats 4000000

theorem repS {X : Cx} {p : Bool} {s : List UInt8} {vs : List Value} : RepL X p [.str s] vs → vs = [.string ⟨s.toArray⟩] := fun h => by
  cases h with | cons h hs => cases h; cases hs; rfl
theorem repSS {X : Cx} {p : Bool} {s u : List UInt8} {vs : List Value} : RepL X p [.str s, .str u] vs → vs = [.string ⟨s.toArray⟩, .string ⟨u.toArray⟩] := fun h => by
  cases h with | cons h hs => cases h; rw [repS hs]
theorem repSSS {X : Cx} {p : Bool} {s u t : List UInt8} {vs : List Value} : RepL X p [.str s, .str u, .str t] vs → vs = [.string ⟨s.toArray⟩, .string ⟨u.toArray⟩, .string ⟨t.toArray⟩] := fun h => by
  cases h with | cons h hs => cases h; rw [repSS hs]
theorem repI {X : Cx} {p : Bool} {k : IntKind} {n : Int} {vs : List Value} : RepL X p [.int k n] vs → vs = [.int k n] := fun h => by
  cases h with | cons h hs => cases h; cases hs; rfl
theorem repII {X : Cx} {p : Bool} {k l : IntKind} {n m : Int} {vs : List Value} : RepL X p [.int k n, .int l m] vs → vs = [.int k n, .int l m] := fun h => by
  cases h with | cons h hs => cases h; rw [repI hs]
theorem repSI {X : Cx} {p : Bool} {k : IntKind} {s : List UInt8} {n : Int} {vs : List Value} : RepL X p [.str s, .int k n] vs → vs = [.string ⟨s.toArray⟩, .int k n] := fun h => by
  cases h with | cons h hs => cases h; rw [repI hs]
theorem dropWhile_congr {α : Type} {p q : α → Bool} (h : ∀ x, p x = q x) : ∀ l : List α, l.dropWhile p = l.dropWhile q
  | [] => rfl
  | x :: l => by simp only [List.dropWhile_cons, h, dropWhile_congr h l]

def h_scmp : List AV → CR
  | [.str a, .str b] => .yes (.int .i64 (Lib.compareBytes a b))
  | _ => .no
def h_trimL : List AV → CR
  | [.str s, .str [9, 10, 11, 12, 13, 32]] => .yes (.str (trimL s))
  | _ => .no
theorem pc_pre (s p : List UInt8) : PC Tryd.prog GV 18 [.str s, .str p] (.bool (Lib.hasPrefix s p)) := by
  refine pc_same (cargs := [.string ⟨s.toArray⟩, .string ⟨p.toArray⟩]) (cv := .bool (Lib.hasPrefix s p)) (fun X vs h => repSS h) (fun X => .bool ..) (fun w hg => ?_)
  simpa using Tryd.strings_HasPrefix ⟨s.toArray⟩ ⟨p.toArray⟩ w

def h_pre : List AV → CR
  | [.str s, .str p] => .yes (.bool (Lib.hasPrefix s p))
  | _ => .no
theorem h_pre_ok (xs : List AV) : CRok Tryd.prog GV 18 xs (h_pre xs) := by
  unfold h_pre
  split
  · rename_i s p
    exact pc_pre s p
  · trivial

def h_fmt : List AV → CR
  | [.int .i64 n, .int .i64 10] => .need (i64 n) (.str (Lib.itoa n))
  | _ => .no
def h_mul : List AV → CR
  | [.int .u64 a, .int .u64 b] => .need ((0 ≤ a ∧ a < 18446744073709551616) ∧ 0 ≤ b ∧ b < 18446744073709551616) (.tup [.int .u64 (a * b / 18446744073709551616), .int .u64 (a * b % 18446744073709551616)])
  | _ => .no
def h_trim : List AV → CR
  | [.str s, .str [37]] => .need (s.length ≤ 9223372036854775807) (.str (trimP s))
  | _ => .no
def h_rep : List AV → CR
  | [.str s, .int .i64 n] => .need ((0 ≤ n ∧ n ≤ 9223372036854775807) ∧ s.length * n.toNat ≤ 140737488355328) (.str (Lib.repeatL s n.toNat))
  | _ => .no
theorem pc_replA (s o n : List UInt8) (hn : s.length < 4294967281 ∧ 1 ≤ o.length ∧ s.length + Lib.countB ⟨s.toArray⟩ ⟨o.toArray⟩ * n.length ≤ 140737488355328) : PC Tryd.prog GV 12 [.str s, .str o, .str n] (.str (Lib.replaceAll s o n)) := by
  refine pc_pure (cargs := [.string ⟨s.toArray⟩, .string ⟨o.toArray⟩, .string ⟨n.toArray⟩]) (cv := .string ⟨(Lib.replaceAll s o n).toArray⟩) (fun X vs h => repSSS h) (fun X => .str ..) (fun w hg => ?_)
  obtain ⟨m, hm⟩ := hg.1
  simpa using Tryd.strings_ReplaceAll ⟨s.toArray⟩ ⟨o.toArray⟩ ⟨n.toArray⟩ m w (by simpa [ByteArray.size] using hn.1) hm (by simpa [ByteArray.size] using hn.2.1) (by simpa [ByteArray.size] using hn.2.2)

def h_replA : List AV → CR
  | [.str s, .str o, .str n] => .need (s.length < 4294967281 ∧ 1 ≤ o.length ∧ s.length + Lib.countB ⟨s.toArray⟩ ⟨o.toArray⟩ * n.length ≤ 140737488355328) (.str (Lib.replaceAll s o n))
  | _ => .no
theorem h_replA_ok (xs : List AV) : CRok Tryd.prog GV 12 xs (h_replA xs) := by
  unfold h_replA
  split
  · rename_i s o n
    exact fun hn => pc_replA s o n hn
  · trivial

theorem pc_idx (s u : List UInt8) (hn : s.length < 4294967281) : PC Tryd.prog GV 43 [.str s, .str u] (.int .i64 (Lib.index s u)) := by
  refine pc_same (cargs := [.string ⟨s.toArray⟩, .string ⟨u.toArray⟩]) (cv := .int .i64 (Lib.index s u)) (fun X vs h => repSS h) (fun X => .int ..) (fun w hg => ?_)
  obtain ⟨m, hm⟩ := hg.1
  simpa using Tryd.strings_Index ⟨s.toArray⟩ ⟨u.toArray⟩ m w (by simpa [ByteArray.size] using hn) hm

def h_idx : List AV → CR
  | [.str s, .str u] => .need (s.length < 4294967281) (.int .i64 (Lib.index s u))
  | _ => .no
theorem h_idx_ok (xs : List AV) : CRok Tryd.prog GV 43 xs (h_idx xs) := by
  unfold h_idx
  split
  · rename_i s u
    exact fun hn => pc_idx s u hn
  · trivial

def h_cont : List AV → CR
  | [.str s, .str u] => .need (s.length < 4294967281) (.bool (Lib.contains s u))
  | _ => .no
def E2_0 : Env := E1
theorem E2_0_ok : EnvOk Tryd.prog E2_0 := E1_ok
def E2_1 : Env := E2_0
theorem E2_1_ok : EnvOk Tryd.prog E2_1 := E2_0_ok
def E2_2 : Env := E2_1.add 18 h_pre
theorem E2_2_ok : EnvOk Tryd.prog E2_2 := Env.add_ok E2_1_ok (by kernel_rfl) h_pre_ok

def E2_3 : Env := E2_2
theorem E2_3_ok : EnvOk Tryd.prog E2_3 := E2_2_ok
def E2_4 : Env := E2_3
theorem E2_4_ok : EnvOk Tryd.prog E2_4 := E2_3_ok
def E2_5 : Env := E2_4
theorem E2_5_ok : EnvOk Tryd.prog E2_5 := E2_4_ok
def E2_6 : Env := E2_5
theorem E2_6_ok : EnvOk Tryd.prog E2_6 := E2_5_ok
def E2_7 : Env := E2_6.add 12 h_replA
theorem E2_7_ok : EnvOk Tryd.prog E2_7 := Env.add_ok E2_6_ok (by kernel_rfl) h_replA_ok

def E2_8 : Env := E2_7.add 43 h_idx
theorem E2_8_ok : EnvOk Tryd.prog E2_8 := Env.add_ok E2_7_ok (by kernel_rfl) h_idx_ok

def E2 : Env := E2_8
theorem E2_ok : EnvOk Tryd.prog E2 := E2_8_ok
end Go.Proofs.YtejepcnoflahkaaDoor
