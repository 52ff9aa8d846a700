/- Contracts of functions, tier 3: WRITTEN BY A SMALL PROGRAM of this session (gen.py). -/
import Derived.Test.YtejepcnoflahkaaGreatDoorVWalk2
namespace Go.Proofs.YtejepcnoflahkaaGreatDoor
open Go Go.Ab
set_option linter.unusedVariables false
set_option linter.unusedSimpArgs false
set_option maxRecDepth 100000
set_option maxHeartbeats 4000000

theorem pc_cmpK (a b : Int) : PC Tryz.prog GV 117 [.int .u8 a, .int .u8 b] (.int .i64 (cmpI a b)) := by
  refine pc_fin E2_ok mixed (show Tryz.prog.funcs[117]? = some Tryz.f117 from rfl) ?_
  repeat' (refine BR.mk (fun h => ?_) (fun h => ?_) <;> try contradiction)
  all_goals refine Fini.mk ?_
  all_goals simp only [cmpI, decide_eq_true_eq, decide_eq_false_iff_not] at *
  · rw [if_pos (by assumption)]
  · rw [if_neg (by assumption), if_pos (by assumption)]
  · rw [if_neg (by assumption), if_neg (by assumption)]

def h_cmpK : List AV → CR
  | [.int .u8 a, .int .u8 b] => .yes (.int .i64 (cmpI a b))
  | _ => .no
theorem h_cmpK_ok (xs : List AV) : CRok Tryz.prog GV 117 xs (h_cmpK xs) := by
  unfold h_cmpK
  split
  · rename_i a b
    exact pc_cmpK a b
  · trivial

theorem pc_cmpI (a b : Int) : PC Tryz.prog GV 118 [.int .i64 a, .int .i64 b] (.int .i64 (cmpI a b)) := by
  refine pc_fin E2_ok mixed (show Tryz.prog.funcs[118]? = some Tryz.f118 from rfl) ?_
  repeat' (refine BR.mk (fun h => ?_) (fun h => ?_) <;> try contradiction)
  all_goals refine Fini.mk ?_
  all_goals simp only [cmpI, decide_eq_true_eq, decide_eq_false_iff_not] at *
  · rw [if_pos (by assumption)]
  · rw [if_neg (by assumption), if_pos (by assumption)]
  · rw [if_neg (by assumption), if_neg (by assumption)]

def h_cmpI : List AV → CR
  | [.int .i64 a, .int .i64 b] => .yes (.int .i64 (cmpI a b))
  | _ => .no
theorem h_cmpI_ok (xs : List AV) : CRok Tryz.prog GV 118 xs (h_cmpI xs) := by
  unfold h_cmpI
  split
  · rename_i a b
    exact pc_cmpI a b
  · trivial

theorem pc_truth (b : Bool) : PC Tryz.prog GV 70 [.bool b] (encR (boolR b)) := by
  refine pc_fin E2_ok mixed (show Tryz.prog.funcs[70]? = some Tryz.f70 from rfl) ?_
  repeat' (refine BR.mk (fun h => ?_) (fun h => ?_) <;> try contradiction)
  all_goals refine Fini.mk ?_
  all_goals subst_vars
  all_goals unfold boolR
  all_goals rfl

def h_truth : List AV → CR
  | [.bool b] => .yes (encR (boolR b))
  | _ => .no
theorem h_truth_ok (xs : List AV) : CRok Tryz.prog GV 70 xs (h_truth xs) := by
  unfold h_truth
  split
  · rename_i b
    exact pc_truth b
  · trivial

theorem pc_numW (n : Int) : PC Tryz.prog GV 23 [.int .i64 n] (.agg [.int .u8 1, .int .i64 n, .str []]) := by
  refine pc_fin E2_ok mixed (show Tryz.prog.funcs[23]? = some Tryz.f23 from rfl) ?_
  repeat' (refine BR.mk (fun h => ?_) (fun h => ?_) <;> try contradiction)
  all_goals exact Fini.mk rfl

def h_numW : List AV → CR
  | [.int .i64 n] => .yes (.agg [.int .u8 1, .int .i64 n, .str []])
  | _ => .no
theorem h_numW_ok (xs : List AV) : CRok Tryz.prog GV 23 xs (h_numW xs) := by
  unfold h_numW
  split
  · rename_i n
    exact pc_numW n
  · trivial

theorem pc_textW (s : List UInt8) : PC Tryz.prog GV 21 [.str s] (encV ⟨2, 0, s⟩) := by
  refine pc_fin E2_ok mixed (show Tryz.prog.funcs[21]? = some Tryz.f21 from rfl) ?_
  repeat' (refine BR.mk (fun h => ?_) (fun h => ?_) <;> try contradiction)
  all_goals exact Fini.mk rfl

def h_textW : List AV → CR
  | [.str s] => .yes (encV ⟨2, 0, s⟩)
  | _ => .no
theorem h_textW_ok (xs : List AV) : CRok Tryz.prog GV 21 xs (h_textW xs) := by
  unfold h_textW
  split
  · rename_i s
    exact pc_textW s
  · trivial

theorem pc_blobW (s : List UInt8) : PC Tryz.prog GV 32 [.str s] (encV ⟨3, 0, s⟩) := by
  refine pc_fin E2_ok mixed (show Tryz.prog.funcs[32]? = some Tryz.f32 from rfl) ?_
  repeat' (refine BR.mk (fun h => ?_) (fun h => ?_) <;> try contradiction)
  all_goals exact Fini.mk rfl

def h_blobW : List AV → CR
  | [.str s] => .yes (encV ⟨3, 0, s⟩)
  | _ => .no
theorem h_blobW_ok (xs : List AV) : CRok Tryz.prog GV 32 xs (h_blobW xs) := by
  unfold h_blobW
  split
  · rename_i s
    exact pc_blobW s
  · trivial

def E3_0 : Env := E2.add 117 h_cmpK
theorem E3_0_ok : EnvOk Tryz.prog E3_0 := Env.add_ok E2_ok (by kernel_rfl) h_cmpK_ok

def E3_1 : Env := E3_0.add 118 h_cmpI
theorem E3_1_ok : EnvOk Tryz.prog E3_1 := Env.add_ok E3_0_ok (by kernel_rfl) h_cmpI_ok

def E3_2 : Env := E3_1.add 70 h_truth
theorem E3_2_ok : EnvOk Tryz.prog E3_2 := Env.add_ok E3_1_ok (by kernel_rfl) h_truth_ok

def E3_3 : Env := E3_2.add 23 h_numW
theorem E3_3_ok : EnvOk Tryz.prog E3_3 := Env.add_ok E3_2_ok (by kernel_rfl) h_numW_ok

def E3_4 : Env := E3_3.add 21 h_textW
theorem E3_4_ok : EnvOk Tryz.prog E3_4 := Env.add_ok E3_3_ok (by kernel_rfl) h_textW_ok

def E3 : Env := E3_4.add 32 h_blobW
theorem E3_ok : EnvOk Tryz.prog E3 := Env.add_ok E3_4_ok (by kernel_rfl) h_blobW_ok

end Go.Proofs.YtejepcnoflahkaaGreatDoor
