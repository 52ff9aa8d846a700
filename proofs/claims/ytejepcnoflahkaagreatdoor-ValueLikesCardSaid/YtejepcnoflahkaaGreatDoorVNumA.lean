/- ValueNumbers: hex by its contract. -/
import Derived.Test.YtejepcnoflahkaaGreatDoorVLawH
import Derived.Test.YtejepcnoflahkaaGreatDoorAbRun
namespace Go.Proofs.YtejepcnoflahkaaGreatDoor
open Go Go.Ab
def h_hex5 : List AV → CR
  | [.str s] => .need (s.length ≤ 65536) (.str (hexS s))
  | _ => .no
theorem h_hex5_ok (xs : List AV) : CRok Tryz.prog GV 88 xs (h_hex5 xs) := by
  unfold h_hex5
  split
  · rename_i s
    exact fun hn => pc_hex s hn
  · trivial
def ERh : Env := ER.add 88 h_hex5
theorem ERh_ok : EnvOk Tryz.prog ERh := Env.add_ok ER_ok (by kernel_rfl) h_hex5_ok
end Go.Proofs.YtejepcnoflahkaaGreatDoor
