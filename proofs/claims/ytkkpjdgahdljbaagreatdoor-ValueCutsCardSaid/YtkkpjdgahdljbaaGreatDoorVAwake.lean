/- law02.awake, carried out: the case that ValueLikes keeps awake. -/
import Derived.Test.YtkkpjdgahdljbaaGreatDoorRunTab
import Derived.Test.YtkkpjdgahdljbaaGreatDoorVFrame
namespace Go.Proofs.YtkkpjdgahdljbaaGreatDoor
open Go Go.Ab
theorem pc_awake : PC Tryz.prog GV 14 [] (.bool true) := by
  refine pc_run ER_ok mixed runTab_ok 200 200 rfl ?_
  kernel_rfl
end Go.Proofs.YtkkpjdgahdljbaaGreatDoor
