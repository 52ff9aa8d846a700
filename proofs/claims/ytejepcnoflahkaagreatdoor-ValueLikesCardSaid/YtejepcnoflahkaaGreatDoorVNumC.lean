/- ValueNumbers: law02.awake, carried out. -/
import Derived.Test.YtejepcnoflahkaaGreatDoorRunTab
namespace Go.Proofs.YtejepcnoflahkaaGreatDoor
open Go Go.Ab
set_option maxRecDepth 100000
noncomputable def body_awake : Code := match Tryz.f33.body with | some c => c | none => .skip
theorem pc5_awake : PC Tryz.prog GV 33 [] (.bool true) := by
  refine runT_pc (E := ERh.runs runTab 2000 200) (Env.runs_ok ERh_ok mixed runTab_ok 2000 200) mixed (f := 33) (fn := Tryz.f33) (c := body_awake) rfl rfl (by kernel_rfl) (k := 2000) ?_
  kernel_rfl
def h5_awake : List AV → CR
  | [] => .yes (.bool true)
  | _ => .no
theorem h5_awake_ok (xs : List AV) : CRok Tryz.prog GV 33 xs (h5_awake xs) := by
  unfold h5_awake
  split
  · exact pc5_awake
  · trivial
end Go.Proofs.YtejepcnoflahkaaGreatDoor
