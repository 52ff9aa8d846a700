/- ValueNumbers: law02.ints, carried out. -/
import Derived.Test.YtejepcnoflahkaaGreatDoorRunTab
namespace Go.Proofs.YtejepcnoflahkaaGreatDoor
open Go Go.Ab
set_option maxRecDepth 100000
noncomputable def body_ints : Code := match Tryz.f29.body with | some c => c | none => .skip
theorem pc5_ints : PC Tryz.prog GV 29 [] (.bool true) := by
  refine runT_pc (E := ERh.runs runTab 2000 200) (Env.runs_ok ERh_ok mixed runTab_ok 2000 200) mixed (f := 29) (fn := Tryz.f29) (c := body_ints) rfl rfl (by kernel_rfl) (k := 2000) ?_
  kernel_rfl
def h5_ints : List AV → CR
  | [] => .yes (.bool true)
  | _ => .no
theorem h5_ints_ok (xs : List AV) : CRok Tryz.prog GV 29 xs (h5_ints xs) := by
  unfold h5_ints
  split
  · exact pc5_ints
  · trivial
end Go.Proofs.YtejepcnoflahkaaGreatDoor
