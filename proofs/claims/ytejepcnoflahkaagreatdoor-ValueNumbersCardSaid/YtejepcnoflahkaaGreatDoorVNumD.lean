/- ValueNumbers: law02.ends, carried out. -/
import Derived.Test.YtejepcnoflahkaaGreatDoorRunTab
namespace Go.Proofs.YtejepcnoflahkaaGreatDoor
open Go Go.Ab
set_option maxRecDepth 100000
noncomputable def body_ends : Code := match Tryz.f30.body with | some c => c | none => .skip
theorem pc5_ends : PC Tryz.prog GV 30 [] (.bool true) := by
  refine runT_pc (E := ERh.runs runTab 2000 200) (Env.runs_ok ERh_ok mixed runTab_ok 2000 200) mixed (f := 30) (fn := Tryz.f30) (c := body_ends) rfl rfl (by kernel_rfl) (k := 2000) ?_
  kernel_rfl
def h5_ends : List AV → CR
  | [] => .yes (.bool true)
  | _ => .no
theorem h5_ends_ok (xs : List AV) : CRok Tryz.prog GV 30 xs (h5_ends xs) := by
  unfold h5_ends
  split
  · exact pc5_ends
  · trivial
end Go.Proofs.YtejepcnoflahkaaGreatDoor
