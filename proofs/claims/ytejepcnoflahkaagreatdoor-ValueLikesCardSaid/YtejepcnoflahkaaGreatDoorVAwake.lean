/- law02.awake: as VNumC has it. -/
import Derived.Test.YtejepcnoflahkaaGreatDoorVNumC
import Derived.Test.YtejepcnoflahkaaGreatDoorVFrame
namespace Go.Proofs.YtejepcnoflahkaaGreatDoor
open Go Go.Ab
theorem pc_awake : PC Tryz.prog GV 33 [] (.bool true) := pc5_awake
end Go.Proofs.YtejepcnoflahkaaGreatDoor
