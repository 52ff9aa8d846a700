/- The world's law with the utf8 tables, off what is laid. -/
import Derived.Test.YtejepcnoflahkaaGreatDoorVFrame
import Derived.Test.YtejepcnoflahkaaGreatDoorLMc
import Derived.Lib.LaidU8
namespace Go.Proofs.YtejepcnoflahkaaGreatDoor
open Go Go.Ab Go.RowKit Go.Lib
set_option maxRecDepth 100000
theorem gu_of {W : World} (h : laidMetH Tryz.prog laidAll W) (hs : W.ShapedOpen Tryz.prog) : GU W := by
  refine ⟨gv_of h hs, ?_⟩
  have h1 := h.filter (fun x => x.1 == "unicode/utf8.first")
  have h2 : laidAll.filter (fun x => x.1 == "unicode/utf8.first") = [("unicode/utf8.first", firstData)] := by kernel_rfl
  rw [h2, MakeChecks.laidMetH_plain _ _ _ (by kernel_rfl)] at h1
  have h3 := h.filter (fun x => x.1 == "unicode/utf8.acceptRanges")
  have h4 : laidAll.filter (fun x => x.1 == "unicode/utf8.acceptRanges") = [("unicode/utf8.acceptRanges", acceptData)] := by kernel_rfl
  rw [h4, MakeChecks.laidMetH_plain _ _ _ (by kernel_rfl)] at h3
  exact utf8Tabs_of_reads (ρ := Tryz.lays230_ren) { Tryz.lays230 with } ⟨by kernel_rfl, by kernel_rfl, by kernel_rfl, by kernel_rfl, by kernel_rfl, by kernel_rfl, by kernel_rfl⟩ (Lib.laidMet.reads h1 (.head _)) (Lib.laidMet.reads h3 (.head _))
section
variable {H : Type} {enc : TypeId × Value → H}
def tysL : List TypeId := [34, 32, 2, 9]
theorem tysL_ok : plainTys Tryz.prog tysL = true := by kernel_rfl
theorem arg_str {W : World} {base : Nat} {v : Value} {d : DataW H} {ps : List MemPlace} (hval : Value.okWide Tryz.prog W .any base 9 v) (h : DataW.Trod enc Tryz.prog W 0 (fun _ => true) true 9 v d ps) :
    ∃ s : List UInt8, s.length ≤ 9223372036854775807 ∧ Rep (Cx.bare W fun _ => none) true (.str s) v := by
  have hr := rep_of_arg tysL_ok (show 9 ∈ tysL by decide) hval h
  obtain ⟨fuel, hf⟩ := h
  obtain ⟨s, _, e2, w2⟩ := DataW.trod_string Tryz.underlying9 hf
  injection e2 with e2 _; subst e2
  refine ⟨s.data.toList, ?_, hr⟩
  have h2 : s.data.size ≤ maxLen := w2
  have h3 : s.data.toList.length = s.data.size := Array.length_toList
  have h4 : maxLen = 9223372036854775807 := rfl
  omega
end
end Go.Proofs.YtejepcnoflahkaaGreatDoor
