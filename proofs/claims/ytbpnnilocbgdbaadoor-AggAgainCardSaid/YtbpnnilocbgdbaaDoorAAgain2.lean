/- AggAgain: whatever total, whatever values. -/
import Derived.Test.YtbpnnilocbgdbaaDoorAAgain
namespace Go.Proofs.YtbpnnilocbgdbaaDoor
open Go Go.Ab
set_option linter.unusedVariables false
set_option linter.unusedSimpArgs false
set_option maxRecDepth 100000
set_option maxHeartbeats 8000000

noncomputable def EFb : Env := EE3.addH 24 h_newBad
theorem EFb_ok : EnvOk Tryd.prog EFb := Env.addH_ok EE3_ok (by kernel_rfl) h_newBad_ok
set_option smartUnfolding false in
theorem again_bad (w : Int) (hw : 0 ≤ w ∧ w ≤ 255) (d : Bool) (hd : (d && nameE w == sStar) = true) (l : List V) (hR : rightL l = true) (h40 : l.length ≤ 40) (hi : ∀ x ∈ l, i64 x.n) (bs : List Bool) : PC Tryd.prog GV 7 [.int .u8 w, .bool d, .sl .no l.length (vF l), .sl .no bs.length (bF bs)] (.bool true) := by
  refine pc_fin EFb_ok mixed (show Tryd.prog.funcs[7]? = some Tryd.f7 from rfl) ?_
  obtain ⟨ho, hv, hl60⟩ := right_ok hR hi
  have k1 : (!rightL (lO l.length (vF l))) = false := by rw [lO_vF, hR]; rfl
  have k2 : decide ((l.length : Int) > 40) = false := decide_eq_false (by omega)
  have hm := nameE_mem hw
  have hE : newE (nameE w) d = 2 := by unfold newE; rw [if_pos hm, if_pos hd]
  have k3 : (newE (nameE w) d != 0) = true := by rw [hE]; rfl
  have k4 : (newE (nameE w) d == 2) = true := by rw [hE]; rfl
  simp only [Bool.and_eq_true] at hd
  have k5 : d = true := hd.1
  have k6 : (nameE w == [99, 111, 117, 110, 116, 42]) = true := hd.2
  have hO : ofS (nameE w) d (lO l.length (vF l)) = ⟨null, newE (nameE w) d⟩ := by
    unfold ofS
    rw [if_pos (by rw [hE]; decide)]
  have k7 : ((ofS (nameE w) d (lO l.length (vF l))).e == newE (nameE w) d) = true := by rw [hO]; simp
  repeat' (refine BR.mk (fun h => ?_) (fun h => ?_) <;> first | with_reducible exact Bool.noConfusion h | with_reducible exact Bool.noConfusion (k1.symm.trans h) | with_reducible exact Bool.noConfusion (k2.symm.trans h) | with_reducible exact Bool.noConfusion (k3.symm.trans h) | with_reducible exact Bool.noConfusion (k4.symm.trans h) | with_reducible exact Bool.noConfusion (k5.symm.trans h) | with_reducible exact Bool.noConfusion (k6.symm.trans h) | with_reducible exact Bool.noConfusion (k7.symm.trans h) | skip)
  · exact ⟨fun _ _ => rfl, by omega⟩
  · exact (show (7 : Int) ≠ 0 by decide)
  · exact ⟨seven hw, rfl, rfl⟩
  · exact ⟨fun _ _ => rfl, by rw [lO_vF]; exact ho⟩
  · show newE (nameE w) d ≠ 0
    rw [hE]; decide
  · exact Fini.mk rfl
set_option smartUnfolding false in
theorem again_none (w : Int) (d : Bool) (l : List V) (hl : l.length ≤ 9223372036854775807) (hn : ¬(rightL l = true ∧ l.length ≤ 40)) (bs : List Bool) : PC Tryd.prog GV 7 [.int .u8 w, .bool d, .sl .no l.length (vF l), .sl .no bs.length (bF bs)] (.bool true) := by
  refine pc_fin EE3_ok mixed (show Tryd.prog.funcs[7]? = some Tryd.f7 from rfl) ?_
  by_cases hR : rightL l = true
  · have k1 : (!rightL (lO l.length (vF l))) = false := by rw [lO_vF, hR]; rfl
    have h40 : ¬ l.length ≤ 40 := fun h => hn ⟨hR, h⟩
    have k2 : decide ((l.length : Int) > 40) = true := decide_eq_true (by omega)
    repeat' (refine BR.mk (fun h => ?_) (fun h => ?_) <;> first | with_reducible exact Bool.noConfusion h | with_reducible exact Bool.noConfusion (k1.symm.trans h) | with_reducible exact Bool.noConfusion (k2.symm.trans h) | skip)
    · exact ⟨fun _ _ => rfl, hl⟩
    · exact Fini.mk rfl
  · have k1 : (!rightL (lO l.length (vF l))) = true := by rw [lO_vF]; simpa using hR
    repeat' (refine BR.mk (fun h => ?_) (fun h => ?_) <;> first | with_reducible exact Bool.noConfusion h | with_reducible exact Bool.noConfusion (k1.symm.trans h) | skip)
    · exact ⟨fun _ _ => rfl, hl⟩
    · exact Fini.mk rfl
theorem pc_AggAgain (w : Int) (hw : 0 ≤ w ∧ w ≤ 255) (d : Bool) (l : List V) (hl : l.length ≤ 9223372036854775807) (hi : ∀ x ∈ l, i64 x.n) (bs : List Bool) (hb : bs.length ≤ 9223372036854775807) : PC Tryd.prog GV 7 [.int .u8 w, .bool d, .sl .no l.length (vF l), .sl .no bs.length (bF bs)] (.bool true) := by
  by_cases h : rightL l = true ∧ l.length ≤ 40
  · cases hd : d && nameE w == sStar with
    | true => exact again_bad w hw d hd l h.1 h.2 hi bs
    | false => exact again_good w hw d hd l h.1 h.2 hi bs hb
  · exact again_none w d l hl h bs

end Go.Proofs.YtbpnnilocbgdbaaDoor
