/- law02.awake, carried out: the case that ValueLikes keeps awake. -/
import Derived.Test.YtonemoochpopfaaGreatDoorRunTab
import Derived.Test.YtonemoochpopfaaGreatDoorVFrame
namespace Go.Proofs.YtonemoochpopfaaGreatDoor
open Go Go.Ab
theorem pc_awake : PC Tryz.prog GV 13 [] (.bool true) := by
  refine pc_run ER_ok mixed runTab_ok 200 200 rfl ?_
  kernel_rfl
end Go.Proofs.YtonemoochpopfaaGreatDoor
