/- Contracts of functions, tier 2: WRITTEN BY A SMALL PROGRAM of this session (gen.py). -/
import Derived.Test.YtejepcnoflahkaaGreatDoorVWalk1
import Derived.Test.YtejepcnoflahkaaGreatDoorShelf
import Derived.Shelf.Strings.SlTrimAscii
import Derived.Lib.AppendIntMem
import Derived.Lib.Repeat
namespace Go.Proofs.YtejepcnoflahkaaGreatDoor
open Go Go.Ab
set_option linter.unusedVariables false
set_option linter.unusedSimpArgs false
set_option maxRecDepth 100000
set_option maxHeartbeats 4000000

theorem repS {X : Cx} {p : Bool} {s : List UInt8} {vs : List Value} : RepL X p [.str s] vs → vs = [.string ⟨s.toArray⟩] := fun h => by
  cases h with | cons h hs => cases h; cases hs; rfl
theorem repSS {X : Cx} {p : Bool} {s u : List UInt8} {vs : List Value} : RepL X p [.str s, .str u] vs → vs = [.string ⟨s.toArray⟩, .string ⟨u.toArray⟩] := fun h => by
  cases h with | cons h hs => cases h; rw [repS hs]
theorem repSSS {X : Cx} {p : Bool} {s u t : List UInt8} {vs : List Value} : RepL X p [.str s, .str u, .str t] vs → vs = [.string ⟨s.toArray⟩, .string ⟨u.toArray⟩, .string ⟨t.toArray⟩] := fun h => by
  cases h with | cons h hs => cases h; rw [repSS hs]
theorem repI {X : Cx} {p : Bool} {k : IntKind} {n : Int} {vs : List Value} : RepL X p [.int k n] vs → vs = [.int k n] := fun h => by
  cases h with | cons h hs => cases h; cases hs; rfl
theorem repII {X : Cx} {p : Bool} {k l : IntKind} {n m : Int} {vs : List Value} : RepL X p [.int k n, .int l m] vs → vs = [.int k n, .int l m] := fun h => by
  cases h with | cons h hs => cases h; rw [repI hs]
theorem repSI {X : Cx} {p : Bool} {k : IntKind} {s : List UInt8} {n : Int} {vs : List Value} : RepL X p [.str s, .int k n] vs → vs = [.string ⟨s.toArray⟩, .int k n] := fun h => by
  cases h with | cons h hs => cases h; rw [repI hs]
theorem dropWhile_congr {α : Type} {p q : α → Bool} (h : ∀ x, p x = q x) : ∀ l : List α, l.dropWhile p = l.dropWhile q
  | [] => rfl
  | x :: l => by simp only [List.dropWhile_cons, h, dropWhile_congr h l]

theorem pc_scmp (a b : List UInt8) : PC Tryz.prog GV 119 [.str a, .str b] (.int .i64 (Lib.compareBytes a b)) := by
  refine pc_same (cargs := [.string ⟨a.toArray⟩, .string ⟨b.toArray⟩]) (cv := .int .i64 (Lib.compareBytes a b)) (fun X vs h => repSS h) (fun X => .int ..) (fun w hg => ?_)
  simpa using Tryz.strings_Compare ⟨a.toArray⟩ ⟨b.toArray⟩ w

def h_scmp : List AV → CR
  | [.str a, .str b] => .yes (.int .i64 (Lib.compareBytes a b))
  | _ => .no
theorem h_scmp_ok (xs : List AV) : CRok Tryz.prog GV 119 xs (h_scmp xs) := by
  unfold h_scmp
  split
  · rename_i a b
    exact pc_scmp a b
  · trivial

theorem pc_trimL (s : List UInt8) : PC Tryz.prog GV 121 [.str s, .str [9, 10, 11, 12, 13, 32]] (.str (trimL s)) := by
  refine pc_pure (cargs := [.string ⟨s.toArray⟩, .string ⟨[9, 10, 11, 12, 13, 32].toArray⟩]) (cv := .string ⟨(trimL s).toArray⟩) (fun X vs h => repSS h) (fun X => .str ..) (fun w hg => ?_)
  have := Go.Proofs.Any.strings_TrimLeft_laid Tryz.lays161 (by kernel_rfl) ⟨s.toArray⟩ ⟨#[9, 10, 11, 12, 13, 32]⟩ w (by decide) (ascii_of_all (by decide))
  have e : Lib.trimLeftS s [9, 10, 11, 12, 13, 32] = trimL s := by
    unfold trimL Lib.trimLeftS
    refine dropWhile_congr (fun b => ?_) s
    unfold blank
    simp [List.contains, List.elem]
    cases h1 : b == 9 <;> cases h2 : b == 10 <;> cases h3 : b == 11 <;> cases h4 : b == 12 <;> cases h5 : b == 13 <;> cases h6 : b == 32 <;> simp_all
  rw [← e]
  exact this

def h_trimL : List AV → CR
  | [.str s, .str [9, 10, 11, 12, 13, 32]] => .yes (.str (trimL s))
  | _ => .no
theorem h_trimL_ok (xs : List AV) : CRok Tryz.prog GV 121 xs (h_trimL xs) := by
  unfold h_trimL
  split
  · rename_i s
    exact pc_trimL s
  · trivial

theorem pc_pre (s p : List UInt8) : PC Tryz.prog GV 74 [.str s, .str p] (.bool (Lib.hasPrefix s p)) := by
  refine pc_same (cargs := [.string ⟨s.toArray⟩, .string ⟨p.toArray⟩]) (cv := .bool (Lib.hasPrefix s p)) (fun X vs h => repSS h) (fun X => .bool ..) (fun w hg => ?_)
  simpa using Tryz.strings_HasPrefix ⟨s.toArray⟩ ⟨p.toArray⟩ w

def h_pre : List AV → CR
  | [.str s, .str p] => .yes (.bool (Lib.hasPrefix s p))
  | _ => .no
theorem h_pre_ok (xs : List AV) : CRok Tryz.prog GV 74 xs (h_pre xs) := by
  unfold h_pre
  split
  · rename_i s p
    exact pc_pre s p
  · trivial

theorem pc_fmt (n : Int) (hn : i64 n) : PC Tryz.prog GV 129 [.int .i64 n, .int .i64 10] (.str (Lib.itoa n)) := by
  refine pc_pure (cargs := [.int .i64 n, .int .i64 10]) (cv := .string ⟨(Lib.itoa n).toArray⟩) (fun X vs h => repII h) (fun X => .str ..) (fun w hg => ?_)
  refine (Tryz.strconv_FormatInt_10 n hn.1 hn.2 w hg.2).mono ?_
  rintro e w' ⟨rfl, k, os, rfl⟩
  exact ⟨rfl, Lib.below_grow _ _ (Nat.le_refl _) k os⟩

def h_fmt : List AV → CR
  | [.int .i64 n, .int .i64 10] => .need (i64 n) (.str (Lib.itoa n))
  | _ => .no
theorem h_fmt_ok (xs : List AV) : CRok Tryz.prog GV 129 xs (h_fmt xs) := by
  unfold h_fmt
  split
  · rename_i n
    exact fun hn => pc_fmt n hn
  · trivial

theorem pc_mul (a b : Int) (hn : (0 ≤ a ∧ a < 18446744073709551616) ∧ 0 ≤ b ∧ b < 18446744073709551616) : PC Tryz.prog GV 130 [.int .u64 a, .int .u64 b] (.tup [.int .u64 (a * b / 18446744073709551616), .int .u64 (a * b % 18446744073709551616)]) := by
  refine pc_same (cargs := [.int .u64 a, .int .u64 b]) (cv := .tuple #[.int .u64 (a * b / 18446744073709551616), .int .u64 (a * b % 18446744073709551616)]) (fun X vs h => repII h) (fun X => .tup (.cons (.int ..) (.cons (.int ..) .nil))) (fun w hg => ?_)
  obtain ⟨x, rfl⟩ := Int.eq_ofNat_of_zero_le hn.1.1
  obtain ⟨y, rfl⟩ := Int.eq_ofNat_of_zero_le hn.2.1
  exact Tryz.bits_Mul64 x y (by omega) (by omega) w

def h_mul : List AV → CR
  | [.int .u64 a, .int .u64 b] => .need ((0 ≤ a ∧ a < 18446744073709551616) ∧ 0 ≤ b ∧ b < 18446744073709551616) (.tup [.int .u64 (a * b / 18446744073709551616), .int .u64 (a * b % 18446744073709551616)])
  | _ => .no
theorem h_mul_ok (xs : List AV) : CRok Tryz.prog GV 130 xs (h_mul xs) := by
  unfold h_mul
  split
  · rename_i a b
    exact fun hn => pc_mul a b hn
  · trivial

theorem pc_trim (s : List UInt8) (hn : s.length ≤ 9223372036854775807) : PC Tryz.prog GV 114 [.str s, .str [37]] (.str (trimP s)) := by
  refine pc_pure (cargs := [.string ⟨s.toArray⟩, .string ⟨[37].toArray⟩]) (cv := .string ⟨(trimP s).toArray⟩) (fun X vs h => repSS h) (fun X => .str ..) (fun w hg => ?_)
  refine (Tryz.strings_Trim_one ⟨s.toArray⟩ 37 (by decide) w (by simpa [ByteArray.size] using hn)).mono ?_
  rintro e w' ⟨he, hw⟩
  refine ⟨he, ?_⟩
  rcases hw with rfl | rfl
  · exact ⟨rfl, rfl, rfl, Nat.le_refl _, fun _ _ => rfl⟩
  · exact ⟨rfl, rfl, rfl, Nat.le_refl _, fun _ _ => rfl⟩

def h_trim : List AV → CR
  | [.str s, .str [37]] => .need (s.length ≤ 9223372036854775807) (.str (trimP s))
  | _ => .no
theorem h_trim_ok (xs : List AV) : CRok Tryz.prog GV 114 xs (h_trim xs) := by
  unfold h_trim
  split
  · rename_i s
    exact fun hn => pc_trim s hn
  · trivial

theorem pc_rep (s : List UInt8) (n : Int) (hn : (0 ≤ n ∧ n ≤ 9223372036854775807) ∧ s.length * n.toNat ≤ 140737488355328) : PC Tryz.prog GV 22 [.str s, .int .i64 n] (.str (Lib.repeatL s n.toNat)) := by
  refine pc_pure (cargs := [.string ⟨s.toArray⟩, .int .i64 n]) (cv := .string ⟨(Lib.repeatL s n.toNat).toArray⟩) (fun X vs h => repSI h) (fun X => .str ..) (fun w hg => ?_)
  obtain ⟨x, rfl⟩ := Int.eq_ofNat_of_zero_le hn.1.1
  simpa using Tryz.strings_Repeat ⟨s.toArray⟩ x w (by omega) (by simpa [ByteArray.size] using hn.2)

def h_rep : List AV → CR
  | [.str s, .int .i64 n] => .need ((0 ≤ n ∧ n ≤ 9223372036854775807) ∧ s.length * n.toNat ≤ 140737488355328) (.str (Lib.repeatL s n.toNat))
  | _ => .no
theorem h_rep_ok (xs : List AV) : CRok Tryz.prog GV 22 xs (h_rep xs) := by
  unfold h_rep
  split
  · rename_i s n
    exact fun hn => pc_rep s n hn
  · trivial

theorem pc_replA (s o n : List UInt8) (hn : s.length < 4294967281 ∧ 1 ≤ o.length ∧ s.length + Lib.countB ⟨s.toArray⟩ ⟨o.toArray⟩ * n.length ≤ 140737488355328) : PC Tryz.prog GV 45 [.str s, .str o, .str n] (.str (Lib.replaceAll s o n)) := by
  refine pc_pure (cargs := [.string ⟨s.toArray⟩, .string ⟨o.toArray⟩, .string ⟨n.toArray⟩]) (cv := .string ⟨(Lib.replaceAll s o n).toArray⟩) (fun X vs h => repSSS h) (fun X => .str ..) (fun w hg => ?_)
  obtain ⟨m, hm⟩ := hg.1
  simpa using Tryz.strings_ReplaceAll ⟨s.toArray⟩ ⟨o.toArray⟩ ⟨n.toArray⟩ m w (by simpa [ByteArray.size] using hn.1) hm (by simpa [ByteArray.size] using hn.2.1) (by simpa [ByteArray.size] using hn.2.2)

def h_replA : List AV → CR
  | [.str s, .str o, .str n] => .need (s.length < 4294967281 ∧ 1 ≤ o.length ∧ s.length + Lib.countB ⟨s.toArray⟩ ⟨o.toArray⟩ * n.length ≤ 140737488355328) (.str (Lib.replaceAll s o n))
  | _ => .no
theorem h_replA_ok (xs : List AV) : CRok Tryz.prog GV 45 xs (h_replA xs) := by
  unfold h_replA
  split
  · rename_i s o n
    exact fun hn => pc_replA s o n hn
  · trivial

theorem pc_idx (s u : List UInt8) (hn : s.length < 4294967281) : PC Tryz.prog GV 97 [.str s, .str u] (.int .i64 (Lib.index s u)) := by
  refine pc_same (cargs := [.string ⟨s.toArray⟩, .string ⟨u.toArray⟩]) (cv := .int .i64 (Lib.index s u)) (fun X vs h => repSS h) (fun X => .int ..) (fun w hg => ?_)
  obtain ⟨m, hm⟩ := hg.1
  simpa using Tryz.strings_Index ⟨s.toArray⟩ ⟨u.toArray⟩ m w (by simpa [ByteArray.size] using hn) hm

def h_idx : List AV → CR
  | [.str s, .str u] => .need (s.length < 4294967281) (.int .i64 (Lib.index s u))
  | _ => .no
theorem h_idx_ok (xs : List AV) : CRok Tryz.prog GV 97 xs (h_idx xs) := by
  unfold h_idx
  split
  · rename_i s u
    exact fun hn => pc_idx s u hn
  · trivial

def h_cont : List AV → CR
  | [.str s, .str u] => .need (s.length < 4294967281) (.bool (Lib.contains s u))
  | _ => .no
def E2_0 : Env := E1.add 119 h_scmp
theorem E2_0_ok : EnvOk Tryz.prog E2_0 := Env.add_ok E1_ok (by kernel_rfl) h_scmp_ok

def E2_1 : Env := E2_0.add 121 h_trimL
theorem E2_1_ok : EnvOk Tryz.prog E2_1 := Env.add_ok E2_0_ok (by kernel_rfl) h_trimL_ok

def E2_2 : Env := E2_1.add 74 h_pre
theorem E2_2_ok : EnvOk Tryz.prog E2_2 := Env.add_ok E2_1_ok (by kernel_rfl) h_pre_ok

def E2_3 : Env := E2_2.add 129 h_fmt
theorem E2_3_ok : EnvOk Tryz.prog E2_3 := Env.add_ok E2_2_ok (by kernel_rfl) h_fmt_ok

def E2_4 : Env := E2_3.add 130 h_mul
theorem E2_4_ok : EnvOk Tryz.prog E2_4 := Env.add_ok E2_3_ok (by kernel_rfl) h_mul_ok

def E2_5 : Env := E2_4.add 114 h_trim
theorem E2_5_ok : EnvOk Tryz.prog E2_5 := Env.add_ok E2_4_ok (by kernel_rfl) h_trim_ok

def E2_6 : Env := E2_5.add 22 h_rep
theorem E2_6_ok : EnvOk Tryz.prog E2_6 := Env.add_ok E2_5_ok (by kernel_rfl) h_rep_ok

def E2_7 : Env := E2_6.add 45 h_replA
theorem E2_7_ok : EnvOk Tryz.prog E2_7 := Env.add_ok E2_6_ok (by kernel_rfl) h_replA_ok

def E2_8 : Env := E2_7.add 97 h_idx
theorem E2_8_ok : EnvOk Tryz.prog E2_8 := Env.add_ok E2_7_ok (by kernel_rfl) h_idx_ok

def E2 : Env := E2_8
theorem E2_ok : EnvOk Tryz.prog E2 := E2_8_ok
end Go.Proofs.YtejepcnoflahkaaGreatDoor
