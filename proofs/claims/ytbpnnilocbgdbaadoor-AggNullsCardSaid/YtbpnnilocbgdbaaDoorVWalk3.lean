/- Contracts of functions, tier 3: WRITTEN BY A SMALL PROGRAM of this session (gen.py). -/
import Derived.Test.YtbpnnilocbgdbaaDoorVWalk2
namespace Go.Proofs.YtbpnnilocbgdbaaDoor
open Go Go.Ab
set_option linter.unusedVariables false
set_option linter.unusedSimpArgs false
set_option maxRecDepth 100000
set_option maxHeartbeats 4000000

theorem pc_cmpK (a b : Int) : PC Tryd.prog GV 63 [.int .u8 a, .int .u8 b] (.int .i64 (cmpI a b)) := by
  refine pc_fin E2_ok mixed (show Tryd.prog.funcs[63]? = some Tryd.f63 from rfl) ?_
  repeat' (refine BR.mk (fun h => ?_) (fun h => ?_) <;> try contradiction)
  all_goals refine Fini.mk ?_
  all_goals simp only [cmpI, decide_eq_true_eq, decide_eq_false_iff_not] at *
  · rw [if_pos (by assumption)]
  · rw [if_neg (by assumption), if_pos (by assumption)]
  · rw [if_neg (by assumption), if_neg (by assumption)]

def h_cmpK : List AV → CR
  | [.int .u8 a, .int .u8 b] => .yes (.int .i64 (cmpI a b))
  | _ => .no
theorem h_cmpK_ok (xs : List AV) : CRok Tryd.prog GV 63 xs (h_cmpK xs) := by
  unfold h_cmpK
  split
  · rename_i a b
    exact pc_cmpK a b
  · trivial

theorem pc_cmpI (a b : Int) : PC Tryd.prog GV 64 [.int .i64 a, .int .i64 b] (.int .i64 (cmpI a b)) := by
  refine pc_fin E2_ok mixed (show Tryd.prog.funcs[64]? = some Tryd.f64 from rfl) ?_
  repeat' (refine BR.mk (fun h => ?_) (fun h => ?_) <;> try contradiction)
  all_goals refine Fini.mk ?_
  all_goals simp only [cmpI, decide_eq_true_eq, decide_eq_false_iff_not] at *
  · rw [if_pos (by assumption)]
  · rw [if_neg (by assumption), if_pos (by assumption)]
  · rw [if_neg (by assumption), if_neg (by assumption)]

def h_cmpI : List AV → CR
  | [.int .i64 a, .int .i64 b] => .yes (.int .i64 (cmpI a b))
  | _ => .no
theorem h_cmpI_ok (xs : List AV) : CRok Tryd.prog GV 64 xs (h_cmpI xs) := by
  unfold h_cmpI
  split
  · rename_i a b
    exact pc_cmpI a b
  · trivial

def h_truth : List AV → CR
  | [.bool b] => .yes (encR (boolR b))
  | _ => .no
def h_numW : List AV → CR
  | [.int .i64 n] => .yes (.agg [.int .u8 1, .int .i64 n, .str []])
  | _ => .no
def h_textW : List AV → CR
  | [.str s] => .yes (encV ⟨2, 0, s⟩)
  | _ => .no
def h_blobW : List AV → CR
  | [.str s] => .yes (encV ⟨3, 0, s⟩)
  | _ => .no
def E3_0 : Env := E2.add 63 h_cmpK
theorem E3_0_ok : EnvOk Tryd.prog E3_0 := Env.add_ok E2_ok (by kernel_rfl) h_cmpK_ok

def E3_1 : Env := E3_0.add 64 h_cmpI
theorem E3_1_ok : EnvOk Tryd.prog E3_1 := Env.add_ok E3_0_ok (by kernel_rfl) h_cmpI_ok

def E3_2 : Env := E3_1
theorem E3_2_ok : EnvOk Tryd.prog E3_2 := E3_1_ok
def E3_3 : Env := E3_2
theorem E3_3_ok : EnvOk Tryd.prog E3_3 := E3_2_ok
def E3_4 : Env := E3_3
theorem E3_4_ok : EnvOk Tryd.prog E3_4 := E3_3_ok
def E3 : Env := E3_4
theorem E3_ok : EnvOk Tryd.prog E3 := E3_4_ok
end Go.Proofs.YtbpnnilocbgdbaaDoor
