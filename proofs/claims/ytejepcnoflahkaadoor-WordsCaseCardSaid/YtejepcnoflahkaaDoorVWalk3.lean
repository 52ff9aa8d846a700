/- Contracts of functions, tier 3: WRITTEN BY A SMALL PROGRAM of this session (gen.py). -/
import Derived.Test.YtejepcnoflahkaaDoorVWalk2
namespace Go.Proofs.YtejepcnoflahkaaDoor
open Go Go.Ab
set_option linter.unusedVariables false
set_option linter.unusedSimpArgs false
set_option maxRecDepth 100000
set_option maxHeartbeats 4000000

def h_cmpK : List AV → CR
  | [.int .u8 a, .int .u8 b] => .yes (.int .i64 (cmpI a b))
  | _ => .no
def h_cmpI : List AV → CR
  | [.int .i64 a, .int .i64 b] => .yes (.int .i64 (cmpI a b))
  | _ => .no
def h_truth : List AV → CR
  | [.bool b] => .yes (encR (boolR b))
  | _ => .no
def h_numW : List AV → CR
  | [.int .i64 n] => .yes (.agg [.int .u8 1, .int .i64 n, .str []])
  | _ => .no
def h_textW : List AV → CR
  | [.str s] => .yes (encV ⟨2, 0, s⟩)
  | _ => .no
def h_blobW : List AV → CR
  | [.str s] => .yes (encV ⟨3, 0, s⟩)
  | _ => .no
def E3_0 : Env := E2
theorem E3_0_ok : EnvOk Tryd.prog E3_0 := E2_ok
def E3_1 : Env := E3_0
theorem E3_1_ok : EnvOk Tryd.prog E3_1 := E3_0_ok
def E3_2 : Env := E3_1
theorem E3_2_ok : EnvOk Tryd.prog E3_2 := E3_1_ok
def E3_3 : Env := E3_2
theorem E3_3_ok : EnvOk Tryd.prog E3_3 := E3_2_ok
def E3_4 : Env := E3_3
theorem E3_4_ok : EnvOk Tryd.prog E3_4 := E3_3_ok
def E3 : Env := E3_4
theorem E3_ok : EnvOk Tryd.prog E3 := E3_4_ok
end Go.Proofs.YtejepcnoflahkaaDoor
