/- ValueNumbers: carried out. -/
import Derived.Test.YtejepcnoflahkaaGreatDoorVNumB
import Derived.Test.YtejepcnoflahkaaGreatDoorVNumC
import Derived.Test.YtejepcnoflahkaaGreatDoorVNumD
namespace Go.Proofs.YtejepcnoflahkaaGreatDoor
open Go Go.Ab
set_option maxRecDepth 100000
def EN5a : Env := ERh.add 29 h5_ints
theorem EN5a_ok : EnvOk Tryz.prog EN5a := Env.add_ok ERh_ok (by kernel_rfl) h5_ints_ok
def EN5b : Env := EN5a.add 33 h5_awake
theorem EN5b_ok : EnvOk Tryz.prog EN5b := Env.add_ok EN5a_ok (by kernel_rfl) h5_awake_ok
def EN5 : Env := EN5b.add 30 h5_ends
theorem EN5_ok : EnvOk Tryz.prog EN5 := Env.add_ok EN5b_ok (by kernel_rfl) h5_ends_ok
theorem runTab5_ok : TabOk Tryz.prog EN5 runTab := fun f fn h => runTab_ok f fn h
noncomputable def EV5 : Env := { EN5.runs runTab 2000 200 with hp := false }
theorem EV5_ok : EnvOk Tryz.prog EV5 := by
  have h : EnvOk Tryz.prog (EN5.runs runTab 2000 200) := Env.runs_ok EN5_ok mixed runTab5_ok 2000 200
  exact ⟨h.g, h.s, h.t, h.h⟩
noncomputable def body5 : Code := match Tryz.f5.body with | some c => c | none => .skip
theorem pc_numbersLaw : PC Tryz.prog GV 5 [] (.bool true) := by
  refine runT_pc (E := EV5) EV5_ok mixed (f := 5) (fn := Tryz.f5) (c := body5) rfl rfl (by kernel_rfl) (k := 2000) ?_
  kernel_rfl
end Go.Proofs.YtejepcnoflahkaaGreatDoor
