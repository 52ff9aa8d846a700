/- What every row of this seat gives a call: the variables' contents; its arguments as values; a world for the witness. -/
import Derived.Test.YtejepcnoflahkaaGreatDoorCards
import Derived.Test.YtejepcnoflahkaaGreatDoorTie
import Derived.Test.YtejepcnoflahkaaGreatDoorAbCard
import Derived.Test.YtejepcnoflahkaaGreatDoorVWalk1
import Derived.MakeChecks
namespace Go.Proofs.YtejepcnoflahkaaGreatDoor
open Go Go.Ab Go.ChangeShapes Go.WideShapes Go.ChangeAt Go.RowKit
set_option linter.unusedVariables false
set_option maxRecDepth 100000

theorem own : ownKnob Tryz.prog.godebug = none := by kernel_rfl
theorem gPow : Tryz.prog.globalNamed "internal/strconv.uint64pow10" = some 5 := by kernel_rfl
theorem gPowT : (Tryz.prog.globals[5]?).map (·.type) = some 218 := by kernel_rfl
theorem cPow : Tryz.prog.cellsOf 218 = 20 := by kernel_rfl
theorem cU64 : Tryz.prog.cellsOf 71 = 1 := by kernel_rfl

/-- the variables that this seat's rows list -/
def laidAll : List (String × DataW Unit) := Rows.valueNumbersRow.laid
theorem pow_of {W : World} (h : laidMetH Tryz.prog laidAll W) : Lib.TabIs Tryz.prog W "internal/strconv.uint64pow10" .u64 Lib.pow10Tab := by
  have h1 := h.filter (fun x => x.1 == "internal/strconv.uint64pow10")
  have h2 : laidAll.filter (fun x => x.1 == "internal/strconv.uint64pow10") = [("internal/strconv.uint64pow10", Lib.tabData .u64 Lib.pow10Tab)] := by kernel_rfl
  rw [h2, MakeChecks.laidMetH_plain _ _ _ (by kernel_rfl)] at h1
  exact Lib.tabIs_of_head (rest := []) gPow gPowT Tryz.underlying218 Tryz.underlying71 cU64 cPow h1
theorem max_of {W : World} (h : W.ShapedOpen Tryz.prog) : ∃ m, W.cell? ⟨0, 0, none⟩ = some (.int .i64 m) := by
  have hz : (((begin Tryz.prog (fun _ _ => 0) default).world.heap[0]?).bind Obj.row?).map (fun x => (x.1.size, x.2)) = some (1, 3) := by kernel_rfl
  obtain ⟨⟨zero, t⟩, h0, h1⟩ := Option.map_eq_some_iff.1 hz
  injection h1 with h1 h2
  simp only at h1 h2
  subst h2
  obtain ⟨cs, k1, k2, k3⟩ := h.1 0 zero 3 (by rw [show Tryz.prog.globals.size = _ from rfl]; decide) h0
  obtain ⟨ts, r1, _, r3⟩ := k3 (by kernel_rfl)
  have hts : ts = [3] := by
    have : Tryz.prog.cellTypes Tryz.prog.depth 3 = some [3] := by kernel_rfl
    exact Option.some.inj (r1.symm.trans this)
  subst hts
  have hlt : 0 < cs.size := by omega
  obtain ⟨u, q1, q2⟩ := r3 0 cs[0] (by simp [hlt])
  simp at q1
  subst q1
  simp only [Cell.ok, Tryz.underlying3] at q2
  generalize hc : cs[0] = c at q2
  cases c <;> first | exact q2.elim | skip
  rename_i k n
  obtain ⟨rfl, _⟩ := q2
  refine ⟨n, ?_⟩
  rw [cell_eq k1, Array.getElem?_eq_getElem hlt, hc]
theorem gv_of {W : World} (h : laidMetH Tryz.prog laidAll W) (hs : W.ShapedOpen Tryz.prog) : GV W := ⟨max_of hs, pow_of h⟩

/-- a world for the witness -/
noncomputable def laidWorld (os : Os) : World := World.laying Tryz.prog os (laidAll.filterMap fun x => (Tryz.prog.globalNamed x.1).map fun g => (g, x.2))
theorem laid_met (os : Os) (args : Array Value) : laidMet Tryz.prog laidAll ((laidWorld os).forCall (fun _ _ => 0) ⟨#[], args, []⟩).memory :=
  laidMet_of_run' 8 (by kernel_rfl) (by kernel_rfl)
def V0 : Value := .agg #[.int .u8 0, .int .i64 0, .string .empty]

/-! Arguments -/
section
variable {H : Type} {enc : TypeId × Value → H}
def okV (v : V) : Prop := (0 ≤ v.k ∧ v.k ≤ 255) ∧ i64 v.n ∧ v.s.length ≤ 9223372036854775807
theorem wf_i64 {n : Int} (h : (Lit.int .i64 n).wf = true) : i64 n := by
  simp [Lit.wf, IntKind.min, IntKind.max, IntKind.signed, IntKind.bits] at h
  unfold i64; omega
theorem arg_int {W : World} {base : Nat} {v : Value} {d : DataW H} {ps : List MemPlace} (hval : Value.okWide Tryz.prog W .any base 2 v) (h : DataW.Trod enc Tryz.prog W 0 (fun _ => true) true 2 v d ps) :
    ∃ n : Int, i64 n ∧ Rep (Cx.bare W fun _ => none) true (.int .i64 n) v := by
  obtain ⟨n, rfl, rfl, _, hw⟩ := open_int Tryz.underlying2 hval h
  exact ⟨n, wf_i64 hw, .int ..⟩
theorem arg_u16 {W : World} {base : Nat} {v : Value} {d : DataW H} {ps : List MemPlace} (hval : Value.okWide Tryz.prog W .any base 232 v) (h : DataW.Trod enc Tryz.prog W 0 (fun _ => true) true 232 v d ps) :
    ∃ n : Int, (0 ≤ n ∧ n ≤ 65535) ∧ Rep (Cx.bare W fun _ => none) true (.int .u16 n) v := by
  obtain ⟨n, rfl, rfl, _, hw⟩ := open_int Tryz.underlying232 hval h
  refine ⟨n, ?_, .int ..⟩
  simp [Lit.wf, IntKind.min, IntKind.max, IntKind.signed, IntKind.bits] at hw
  omega
theorem arg_u8 {W : World} {base : Nat} {v : Value} {d : DataW H} {ps : List MemPlace} (hval : Value.okWide Tryz.prog W .any base 5 v) (h : DataW.Trod enc Tryz.prog W 0 (fun _ => true) true 5 v d ps) :
    ∃ n : Int, (0 ≤ n ∧ n ≤ 255) ∧ Rep (Cx.bare W fun _ => none) true (.int .u8 n) v := by
  obtain ⟨n, rfl, rfl, _, hw⟩ := open_int Tryz.underlying5 hval h
  refine ⟨n, ?_, .int ..⟩
  simp [Lit.wf, IntKind.min, IntKind.max, IntKind.signed, IntKind.bits] at hw
  omega
theorem arg_int' {W : World} {base : Nat} {v : Value} {d : DataW H} {ps : List MemPlace} (hval : Value.okWide Tryz.prog W .any base 3 v) (h : DataW.Trod enc Tryz.prog W 0 (fun _ => true) true 3 v d ps) :
    ∃ n : Int, i64 n ∧ Rep (Cx.bare W fun _ => none) true (.int .i64 n) v := by
  obtain ⟨n, rfl, rfl, _, hw⟩ := open_int Tryz.underlying3 hval h
  exact ⟨n, wf_i64 hw, .int ..⟩
theorem arg_bool {W : World} {base : Nat} {v : Value} {d : DataW H} {ps : List MemPlace} (hval : Value.okWide Tryz.prog W .any base 4 v) (h : DataW.Trod enc Tryz.prog W 0 (fun _ => true) true 4 v d ps) :
    ∃ b : Bool, True ∧ Rep (Cx.bare W fun _ => none) true (.bool b) v := by
  obtain ⟨fuel, hf⟩ := h
  obtain ⟨b, e1, e2⟩ := DataW.trod_bool Tryz.underlying4 hf
  obtain ⟨b', rfl⟩ := okWide_bool Tryz.underlying4 hval
  exact ⟨b', trivial, .bool ..⟩
end
end Go.Proofs.YtejepcnoflahkaaGreatDoor
