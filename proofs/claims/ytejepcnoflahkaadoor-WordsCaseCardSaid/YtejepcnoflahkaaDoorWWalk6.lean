/- words: found. -/
import Derived.Test.YtejepcnoflahkaaDoorWWalk5
import Derived.Test.YtejepcnoflahkaaDoorWLaw2
namespace Go.Proofs.YtejepcnoflahkaaDoor
open Go Go.Ab Go.RowKit
set_option linter.unusedVariables false
set_option linter.unusedSimpArgs false
set_option maxRecDepth 100000
set_option maxHeartbeats 4000000
set_option smartUnfolding false

theorem found_num (s : List UInt8) (hn : 1 ≤ s.length ∧ s.length ≤ 65536) (nb : decide ((s.length : Int) > 1) = true → (orC ((s.getD 0 0).toNat : Int) == 120) = true → (((s.getD 1 0).toNat : Int) == 39) = true → False) (nq : (((s.getD 0 0).toNat : Int) == 39) = false) (hd : digC ((s.getD 0 0).toNat : Int) = true) (hv : piOk (s.take (runN digC s)) = true) : PC Tryd.prog GW 11 [.str s] (encT ⟨1, [], decN 0 (s.take (runN digC s)), runN digC s⟩) := by
  have z0 : (0 : Int) ≤ 0 ∧ (0 : Int) < (s.length : Int) := ⟨by decide, by omega⟩
  have z1 : s.length ≤ 9223372036854775807 := by omega
  have z2 : (0 : Int) ≤ (runN digC s : Nat) ∧ ((runN digC s : Nat) : Int) ≤ (s.length : Int) := ⟨by omega, Int.ofNat_le.2 (runN_le _ s)⟩
  have z4 : (s.take (runN digC s)).length ≤ 65536 := by rw [List.length_take]; omega
  have z3 : ((10 : Int) = 10 ∧ (64 : Int) = 64) ∧ (s.take (runN digC s)).length ≤ 65536 ∧ piOk (s.take (runN digC s)) = true := ⟨⟨rfl, rfl⟩, z4, hv⟩
  refine pc_fin EWok_ok mixed (show Tryd.prog.funcs[11]? = some Tryd.f11 from rfl) ?_
  repeat' (refine BR.mk (fun h => ?_) (fun h => ?_) <;> try first | contradiction | exact Bool.noConfusion (nq.symm.trans h) | exact Bool.noConfusion (hd.symm.trans h) | exact (nb (by assumption) (by assumption) h).elim)
  all_goals first | exact z0 | exact ⟨by decide, of_decide_eq_true (by assumption)⟩ | exact ⟨rfl, z1⟩ | exact z2 | exact z3 | exact Fini.mk rfl
theorem found_big (s : List UInt8) (hn : 1 ≤ s.length ∧ s.length ≤ 65536) (nb : decide ((s.length : Int) > 1) = true → (orC ((s.getD 0 0).toNat : Int) == 120) = true → (((s.getD 1 0).toNat : Int) == 39) = true → False) (nq : (((s.getD 0 0).toNat : Int) == 39) = false) (hd : digC ((s.getD 0 0).toNat : Int) = true) (hv : piR (s.take (runN digC s)) = true) : PC Tryd.prog GW 11 [.str s] (encT ⟨0, [], 0, 0⟩) := by
  have z0 : (0 : Int) ≤ 0 ∧ (0 : Int) < (s.length : Int) := ⟨by decide, by omega⟩
  have z1 : s.length ≤ 9223372036854775807 := by omega
  have z2 : (0 : Int) ≤ (runN digC s : Nat) ∧ ((runN digC s : Nat) : Int) ≤ (s.length : Int) := ⟨by omega, Int.ofNat_le.2 (runN_le _ s)⟩
  have z4 : (s.take (runN digC s)).length ≤ 65536 := by rw [List.length_take]; omega
  have z3 : ((10 : Int) = 10 ∧ (64 : Int) = 64) ∧ (s.take (runN digC s)).length ≤ 65536 ∧ piR (s.take (runN digC s)) = true := ⟨⟨rfl, rfl⟩, z4, hv⟩
  refine pc_fin EWr_ok mixed (show Tryd.prog.funcs[11]? = some Tryd.f11 from rfl) ?_
  repeat' (refine BR.mk (fun h => ?_) (fun h => ?_) <;> try first | contradiction | exact Bool.noConfusion (nq.symm.trans h) | exact Bool.noConfusion (hd.symm.trans h) | exact (nb (by assumption) (by assumption) h).elim)
  all_goals first | exact z0 | exact ⟨by decide, of_decide_eq_true (by assumption)⟩ | exact ⟨rfl, z1⟩ | exact z2 | exact z3 | exact Fini.mk rfl
theorem found_nam (s : List UInt8) (hn : 1 ≤ s.length ∧ s.length ≤ 65536) (nb : decide ((s.length : Int) > 1) = true → (orC ((s.getD 0 0).toNat : Int) == 120) = true → (((s.getD 1 0).toNat : Int) == 39) = true → False) (nq : (((s.getD 0 0).toNat : Int) == 39) = false) (hd : digC ((s.getD 0 0).toNat : Int) = false) (hl : letC ((s.getD 0 0).toNat : Int) = true) (b : Bool) (hk : decide (findF (Lib.toLowerA (s.take (runN namC s))) (fun i => strOf (keyF i)) 0 40 ≥ 0) = b) : PC Tryd.prog GW 11 [.str s] (encT ⟨cond b 3 2, Lib.toLowerA (s.take (runN namC s)), 0, runN namC s⟩) := by
  have z0 : (0 : Int) ≤ 0 ∧ (0 : Int) < (s.length : Int) := ⟨by decide, by omega⟩
  have z1 : s.length ≤ 9223372036854775807 := by omega
  have z2 : (0 : Int) ≤ (runN namC s : Nat) ∧ ((runN namC s : Nat) : Int) ≤ (s.length : Int) := ⟨by omega, Int.ofNat_le.2 (runN_le _ s)⟩
  have z4 : (s.take (runN namC s)).length ≤ 65536 := by rw [List.length_take]; omega
  have z3 : (s.take (runN namC s)).length ≤ 65536 ∧ (s.take (runN namC s)).all (fun b => decide (b.toNat < 128)) = true := ⟨z4, nam_ascii s⟩
  cases b <;>
  · refine pc_fin EW9_ok mixed (show Tryd.prog.funcs[11]? = some Tryd.f11 from rfl) ?_
    repeat' (refine BR.mk (fun h => ?_) (fun h => ?_) <;> try first | contradiction | exact Bool.noConfusion (nq.symm.trans h) | exact Bool.noConfusion (hd.symm.trans h) | exact Bool.noConfusion (hl.symm.trans h) | exact (nb (by assumption) (by assumption) h).elim | exact Bool.noConfusion (hk.symm.trans h))
    all_goals first | exact z0 | exact ⟨by decide, of_decide_eq_true (by assumption)⟩ | exact ⟨rfl, z1⟩ | exact z2 | exact z3 | exact ⟨by decide, fun _ _ => rfl⟩ | (show commutes _ _ = true; kernel_rfl) | exact Fini.mk rfl | rfl
theorem found_blob (s : List UInt8) (hn : 1 ≤ s.length ∧ s.length ≤ 65536) (b1 : decide ((s.length : Int) > 1) = true) (b2 : (orC ((s.getD 0 0).toNat : Int) == 120) = true) (b3 : (((s.getD 1 0).toNat : Int) == 39) = true) : PC Tryd.prog GW 11 [.str s] (encT (foundS s)) := by
  rw [fs_blob hn.1 (by rw [isBlob_is, b1, b2, b3]; rfl)]
  have z0 : (0 : Int) ≤ 0 ∧ (0 : Int) < (s.length : Int) := ⟨by decide, by omega⟩
  have z1 : s.length ≤ 65536 := hn.2
  refine pc_fin EW9_ok mixed (show Tryd.prog.funcs[11]? = some Tryd.f11 from rfl) ?_
  repeat' (refine BR.mk (fun h => ?_) (fun h => ?_) <;> try first | contradiction | exact Bool.noConfusion (b1.symm.trans h) | exact Bool.noConfusion (b2.symm.trans h) | exact Bool.noConfusion (b3.symm.trans h))
  all_goals first | exact z0 | exact z1 | exact ⟨by decide, of_decide_eq_true b1⟩ | exact Fini.mk rfl
theorem found_quo (s : List UInt8) (hn : 1 ≤ s.length ∧ s.length ≤ 65536) (nb : decide ((s.length : Int) > 1) = true → (orC ((s.getD 0 0).toNat : Int) == 120) = true → (((s.getD 1 0).toNat : Int) == 39) = true → False) (hb : isBlob s = false) (nq : (((s.getD 0 0).toNat : Int) == 39) = true) : PC Tryd.prog GW 11 [.str s] (encT (foundS s)) := by
  rw [fs_quo hn.1 hb nq]
  have z0 : (0 : Int) ≤ 0 ∧ (0 : Int) < (s.length : Int) := ⟨by decide, by omega⟩
  refine pc_fin EW9_ok mixed (show Tryd.prog.funcs[11]? = some Tryd.f11 from rfl) ?_
  repeat' (refine BR.mk (fun h => ?_) (fun h => ?_) <;> try first | contradiction | exact Bool.noConfusion (nq.symm.trans h) | exact (nb (by assumption) (by assumption) h).elim)
  all_goals first | exact z0 | exact hn | exact ⟨by decide, of_decide_eq_true (by assumption)⟩ | exact Fini.mk rfl
theorem found_sig (s : List UInt8) (hn : 1 ≤ s.length ∧ s.length ≤ 65536) (nb : decide ((s.length : Int) > 1) = true → (orC ((s.getD 0 0).toNat : Int) == 120) = true → (((s.getD 1 0).toNat : Int) == 39) = true → False) (nq : (((s.getD 0 0).toNat : Int) == 39) = false) (hd : digC ((s.getD 0 0).toNat : Int) = false) (hl : letC ((s.getD 0 0).toNat : Int) = false) : PC Tryd.prog GW 11 [.str s] (encT (firstS s signsL)) := by
  have z0 : (0 : Int) ≤ 0 ∧ (0 : Int) < (s.length : Int) := ⟨by decide, by omega⟩
  refine pc_fin EW9_ok mixed (show Tryd.prog.funcs[11]? = some Tryd.f11 from rfl) ?_
  repeat' (refine BR.mk (fun h => ?_) (fun h => ?_) <;> try first | contradiction | exact Bool.noConfusion (nq.symm.trans h) | exact Bool.noConfusion (hd.symm.trans h) | exact Bool.noConfusion (hl.symm.trans h) | exact (nb (by assumption) (by assumption) h).elim)
  all_goals first | exact z0 | exact ⟨by decide, of_decide_eq_true (by assumption)⟩ | apply loop_unroll EW9_ok mixed 19
  all_goals repeat' (refine BR.mk (fun h => ?_) (fun h => ?_) <;> try contradiction)
  all_goals first | exact ⟨⟨by decide, by decide⟩, rfl, rfl⟩ | exact Fini.mk (sg0 (by assumption)) | exact Fini.mk (sg1 (by assumption) (by assumption)) | exact Fini.mk (sg2 (by assumption) (by assumption) (by assumption)) | exact Fini.mk (sg3 (by assumption) (by assumption) (by assumption) (by assumption)) | exact Fini.mk (sg4 (by assumption) (by assumption) (by assumption) (by assumption) (by assumption)) | exact Fini.mk (sg5 (by assumption) (by assumption) (by assumption) (by assumption) (by assumption) (by assumption)) | exact Fini.mk (sg6 (by assumption) (by assumption) (by assumption) (by assumption) (by assumption) (by assumption) (by assumption)) | exact Fini.mk (sg7 (by assumption) (by assumption) (by assumption) (by assumption) (by assumption) (by assumption) (by assumption) (by assumption)) | exact Fini.mk (sg8 (by assumption) (by assumption) (by assumption) (by assumption) (by assumption) (by assumption) (by assumption) (by assumption) (by assumption)) | exact Fini.mk (sg9 (by assumption) (by assumption) (by assumption) (by assumption) (by assumption) (by assumption) (by assumption) (by assumption) (by assumption) (by assumption)) | exact Fini.mk (sg10 (by assumption) (by assumption) (by assumption) (by assumption) (by assumption) (by assumption) (by assumption) (by assumption) (by assumption) (by assumption) (by assumption)) | exact Fini.mk (sg11 (by assumption) (by assumption) (by assumption) (by assumption) (by assumption) (by assumption) (by assumption) (by assumption) (by assumption) (by assumption) (by assumption) (by assumption)) | exact Fini.mk (sg12 (by assumption) (by assumption) (by assumption) (by assumption) (by assumption) (by assumption) (by assumption) (by assumption) (by assumption) (by assumption) (by assumption) (by assumption) (by assumption)) | exact Fini.mk (sg13 (by assumption) (by assumption) (by assumption) (by assumption) (by assumption) (by assumption) (by assumption) (by assumption) (by assumption) (by assumption) (by assumption) (by assumption) (by assumption) (by assumption)) | exact Fini.mk (sg14 (by assumption) (by assumption) (by assumption) (by assumption) (by assumption) (by assumption) (by assumption) (by assumption) (by assumption) (by assumption) (by assumption) (by assumption) (by assumption) (by assumption) (by assumption)) | exact Fini.mk (sg15 (by assumption) (by assumption) (by assumption) (by assumption) (by assumption) (by assumption) (by assumption) (by assumption) (by assumption) (by assumption) (by assumption) (by assumption) (by assumption) (by assumption) (by assumption) (by assumption)) | exact Fini.mk (sg16 (by assumption) (by assumption) (by assumption) (by assumption) (by assumption) (by assumption) (by assumption) (by assumption) (by assumption) (by assumption) (by assumption) (by assumption) (by assumption) (by assumption) (by assumption) (by assumption) (by assumption)) | exact Fini.mk (sg17 (by assumption) (by assumption) (by assumption) (by assumption) (by assumption) (by assumption) (by assumption) (by assumption) (by assumption) (by assumption) (by assumption) (by assumption) (by assumption) (by assumption) (by assumption) (by assumption) (by assumption) (by assumption)) | exact Fini.mk (sg18 (by assumption) (by assumption) (by assumption) (by assumption) (by assumption) (by assumption) (by assumption) (by assumption) (by assumption) (by assumption) (by assumption) (by assumption) (by assumption) (by assumption) (by assumption) (by assumption) (by assumption) (by assumption))
end Go.Proofs.YtejepcnoflahkaaDoor
