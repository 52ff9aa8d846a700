/- words: Quote; the chapter's examples; Pick. -/
import Derived.Test.YtejepcnoflahkaaDoorWWalk7
namespace Go.Proofs.YtejepcnoflahkaaDoor
open Go Go.Ab Go.RowKit
set_option linter.unusedVariables false
set_option linter.unusedSimpArgs false
set_option maxRecDepth 100000
set_option maxHeartbeats 4000000

theorem nx1 : nextS [83, 69, 76, 69, 67, 84, 32, 97] 0 = ⟨⟨3, [115, 101, 108, 101, 99, 116], 0, 0, 6⟩, 0, 0⟩ := by decide +kernel
theorem nx2 : nextS [39, 105, 116, 39, 39, 115, 39] 0 = ⟨⟨4, [105, 116, 39, 115], 0, 0, 7⟩, 0, 0⟩ := by decide +kernel
theorem nx3 : nextS [120, 39, 48, 97, 70, 70, 39] 0 = ⟨⟨5, [10, 255], 0, 0, 7⟩, 0, 0⟩ := by decide +kernel
theorem nx4 : nextS [120, 39, 48, 39] 0 = ⟨noW, 100, 0⟩ := by decide +kernel
theorem nx5 : nextS [97, 124, 124, 98] 1 = ⟨⟨6, [124, 124], 0, 1, 3⟩, 0, 0⟩ := by decide +kernel
def pickS (a n : Int) : Int := if n < 1 then 0 else if a.tmod n < 0 then a.tmod n + n else a.tmod n
section
set_option smartUnfolding false
theorem pc_quote (s : List UInt8) (hn : (s.length < 4294967281 ∧ 1 ≤ [(39 : UInt8)].length ∧ s.length + Lib.countB ⟨s.toArray⟩ ⟨#[39]⟩ * 2 ≤ 140737488355328) ∧ (Lib.replaceAll s [39] [39, 39]).length ≤ 4611686018427387904) : PC Tryd.prog GW 8 [.str s] (.str ([39] ++ Lib.replaceAll s [39] [39, 39] ++ [39])) := by
  refine pc_fin EN_ok mixed (show Tryd.prog.funcs[8]? = some Tryd.f8 from rfl) ?_
  repeat' (refine BR.mk (fun h => ?_) (fun h => ?_) <;> try contradiction)
  · exact hn.1
  · show 1 + (Lib.replaceAll s [39] [39, 39]).length ≤ 9223372036854775807
    omega
  · show ([39] ++ Lib.replaceAll s [39] [39, 39]).length + 1 ≤ 9223372036854775807
    rw [List.length_append]
    simp only [List.length_cons, List.length_nil]
    omega
  · exact Fini.mk rfl
def h_quote : List AV → CR
  | [.str s] => .need ((s.length < 4294967281 ∧ 1 ≤ [(39 : UInt8)].length ∧ s.length + Lib.countB ⟨s.toArray⟩ ⟨#[39]⟩ * 2 ≤ 140737488355328) ∧ (Lib.replaceAll s [39] [39, 39]).length ≤ 4611686018427387904) (.str ([39] ++ Lib.replaceAll s [39] [39, 39] ++ [39]))
  | _ => .no
theorem h_quote_ok (xs : List AV) : CRok Tryd.prog GW 8 xs (h_quote xs) := by
  unfold h_quote
  split
  · rename_i s
    exact fun hn => pc_quote s hn
  · trivial
def EQ : Env := EN.add 8 h_quote
theorem EQ_ok : EnvOk Tryd.prog EQ := Env.add_ok EN_ok (by kernel_rfl) h_quote_ok
theorem pc_awakeW : PC Tryd.prog GW 5 [] (.bool true) := by
  refine pc_fin EQ_ok mixed (show Tryd.prog.funcs[5]? = some Tryd.f5 from rfl) ?_
  repeat' (refine BR.mk (fun h => ?_) (fun h => ?_) <;> try first | contradiction | exact absurd h (by decide +kernel))
  · decide +kernel
  · exact Fini.mk (congrArg AV.bool (by decide +kernel))
end
def h_pick : List AV → CR
  | [.int .i64 a, .int .i64 n] => .need (i64 a ∧ 1 ≤ n ∧ n ≤ 4611686018427387904) (.int .i64 (pickS a n))
  | _ => .no
def EK0 : Env := EQ
theorem EK0_ok : EnvOk Tryd.prog EK0 := EQ_ok
def h_awkW : List AV → CR
  | [] => .yes (.bool true)
  | _ => .no
theorem h_awkW_ok (xs : List AV) : CRok Tryd.prog GW 5 xs (h_awkW xs) := by
  unfold h_awkW
  split
  · exact pc_awakeW
  · trivial
def EK : Env := EK0.add 5 h_awkW
theorem EK_ok : EnvOk Tryd.prog EK := Env.add_ok EK0_ok (by kernel_rfl) h_awkW_ok
end Go.Proofs.YtejepcnoflahkaaDoor
