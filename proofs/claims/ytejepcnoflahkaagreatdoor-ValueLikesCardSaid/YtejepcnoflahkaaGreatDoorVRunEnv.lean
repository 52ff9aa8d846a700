/- The environment that closed calls of this seat are carried out in. -/
import Derived.Test.YtejepcnoflahkaaGreatDoorVWalk2
import Derived.Test.YtejepcnoflahkaaGreatDoorBld2
namespace Go.Proofs.YtejepcnoflahkaaGreatDoor
open Go Go.Ab
def ER0 : Env := { E2 with bt := fun T => Nat.beq T 96 }
theorem ER0_ok : EnvOk Tryz.prog ER0 := ⟨E2_ok.g, E2_ok.s, E2_ok.t, E2_ok.h⟩
def ER1 : Env := ER0.addH 134 h_cc
theorem ER1_ok : EnvOk Tryz.prog ER1 := Env.addH_ok ER0_ok (by kernel_rfl) h_cc_ok
def ER2 : Env := ER1.addH 78 h_str
theorem ER2_ok : EnvOk Tryz.prog ER2 := Env.addH_ok ER1_ok (by kernel_rfl) h_str_ok
def ER3 : Env := ER2.addH 108 h_wb
theorem ER3_ok : EnvOk Tryz.prog ER3 := Env.addH_ok ER2_ok (by kernel_rfl) (h_wb_ok GV GV_s)
def ER : Env := ER3.addH 76 h_ws
theorem ER_ok : EnvOk Tryz.prog ER := Env.addH_ok ER3_ok (by kernel_rfl) (h_ws_ok GV GV_s)
end Go.Proofs.YtejepcnoflahkaaGreatDoor
