/- Contracts of functions, tier 9: WRITTEN BY A SMALL PROGRAM of this session (gen.py). -/
import Derived.Test.YtkkpjdgahdljbaaGreatDoorVWalk8
import Derived.Test.YtkkpjdgahdljbaaGreatDoorVAwake
namespace Go.Proofs.YtkkpjdgahdljbaaGreatDoor
open Go Go.Ab
set_option linter.unusedVariables false
set_option linter.unusedSimpArgs false
set_option maxRecDepth 100000
set_option maxHeartbeats 4000000

theorem opR_dec {r : R} {w : V} (h : r.e = 0) : decide (r.v = w) = decide (r = ⟨w, 0⟩) := by
  obtain ⟨v, e⟩ := r
  simp only at h
  subst h
  simp

theorem pc_both (sg : List UInt8) (a b : V) (hn : (i64 a.n ∧ a.s.length ≤ 9223372036854775807) ∧ i64 b.n ∧ b.s.length ≤ 9223372036854775807) : PC Tryz.prog GV 19 [.str sg, encV a, encV b] (encV (opR sg a b).v) := by
  refine pc_fin E8_ok mixed (show Tryz.prog.funcs[19]? = some Tryz.f19 from rfl) ?_
  repeat' (refine BR.mk (fun h => ?_) (fun h => ?_) <;> try contradiction)
  any_goals exact hn
  all_goals exact Fini.mk rfl

def h_both : List AV → CR
  | [.str sg, .agg [.int .u8 ak, .int .i64 an, .str az], .agg [.int .u8 bk, .int .i64 bn, .str bz]] => .need ((i64 an ∧ az.length ≤ 9223372036854775807) ∧ i64 bn ∧ bz.length ≤ 9223372036854775807) (encV (opR sg ⟨ak, an, az⟩ ⟨bk, bn, bz⟩).v)
  | _ => .no
theorem h_both_ok (xs : List AV) : CRok Tryz.prog GV 19 xs (h_both xs) := by
  unfold h_both
  split
  · rename_i sg ak an az bk bn bz
    exact fun hn => pc_both sg ⟨ak, an, az⟩ ⟨bk, bn, bz⟩ hn
  · trivial

def h_not : List AV → CR
  | [.agg [.int .u8 ak, .int .i64 an, .str az]] => .need (i64 an ∧ az.length ≤ 9223372036854775807) (encV (oneR [110, 111, 116] ⟨ak, an, az⟩).v)
  | _ => .no
theorem pc_op (sg : List UInt8) (a b w : V) (hn : (i64 a.n ∧ a.s.length ≤ 9223372036854775807) ∧ i64 b.n ∧ b.s.length ≤ 9223372036854775807) : PC Tryz.prog GV 69 [.str sg, encV a, encV b, encV w] (.bool (decide (opR sg a b = ⟨w, 0⟩))) := by
  refine pc_fin E8_ok mixed (show Tryz.prog.funcs[69]? = some Tryz.f69 from rfl) ?_
  repeat' (refine BR.mk (fun h => ?_) (fun h => ?_) <;> try contradiction)
  any_goals exact hn
  all_goals refine Fini.mk ?_
  · exact congrArg AV.bool ((eqV (opR sg a b).v w).trans (opR_dec (by simpa using h)))
  · refine congrArg AV.bool (Eq.symm (decide_eq_false ?_))
    intro hh
    have h : ((opR sg a b).e == 0) = false := h
    rw [hh] at h
    cases h

def h_op : List AV → CR
  | [.str sg, .agg [.int .u8 ak, .int .i64 an, .str az], .agg [.int .u8 bk, .int .i64 bn, .str bz], .agg [.int .u8 wk, .int .i64 wn, .str wz]] => .need ((i64 an ∧ az.length ≤ 9223372036854775807) ∧ i64 bn ∧ bz.length ≤ 9223372036854775807) (.bool (decide (opR sg ⟨ak, an, az⟩ ⟨bk, bn, bz⟩ = ⟨⟨wk, wn, wz⟩, 0⟩)))
  | _ => .no
theorem h_op_ok (xs : List AV) : CRok Tryz.prog GV 69 xs (h_op xs) := by
  unfold h_op
  split
  · rename_i sg ak an az bk bn bz wk wn wz
    exact fun hn => pc_op sg ⟨ak, an, az⟩ ⟨bk, bn, bz⟩ ⟨wk, wn, wz⟩ hn
  · trivial

def h_awake : List AV → CR
  | [] => .yes (.bool true)
  | _ => .no
theorem h_awake_ok (xs : List AV) : CRok Tryz.prog GV 14 xs (h_awake xs) := by
  unfold h_awake
  split
  · exact pc_awake 
  · trivial

def E9_0 : Env := E8.add 19 h_both
theorem E9_0_ok : EnvOk Tryz.prog E9_0 := Env.add_ok E8_ok (by kernel_rfl) h_both_ok

def E9_1 : Env := E9_0
theorem E9_1_ok : EnvOk Tryz.prog E9_1 := E9_0_ok
def E9_2 : Env := E9_1.add 69 h_op
theorem E9_2_ok : EnvOk Tryz.prog E9_2 := Env.add_ok E9_1_ok (by kernel_rfl) h_op_ok

def E9 : Env := E9_2.add 14 h_awake
theorem E9_ok : EnvOk Tryz.prog E9 := Env.add_ok E9_2_ok (by kernel_rfl) h_awake_ok

end Go.Proofs.YtkkpjdgahdljbaaGreatDoor
