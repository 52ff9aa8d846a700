/- words: Next. -/
import Derived.Test.YtejepcnoflahkaaDoorWWalk6c
namespace Go.Proofs.YtejepcnoflahkaaDoor
open Go Go.Ab Go.RowKit
set_option linter.unusedVariables false
set_option linter.unusedSimpArgs false
set_option maxRecDepth 100000
set_option maxHeartbeats 4000000

section
set_option smartUnfolding false
theorem next_long (s : List UInt8) (a : Int) (hl : s.length > 65536) : PC Tryd.prog GW 7 [.str s, .int .i64 a] (encWF ⟨noW, 3, 0⟩) := by
  have k1 : decide ((s.length : Int) > 65536) = true := decide_eq_true (by omega)
  refine pc_fin EWF_ok mixed (show Tryd.prog.funcs[7]? = some Tryd.f7 from rfl) ?_
  repeat' (refine BR.mk (fun h => ?_) (fun h => ?_) <;> try first | contradiction | with_reducible exact Bool.noConfusion (k1.symm.trans h))
  all_goals exact Fini.mk rfl
theorem next_out (s : List UInt8) (a : Int) (hl : s.length ≤ 65536) (kk : decide (a < 0) = false → decide (a > (s.length : Int)) = false → False) : PC Tryd.prog GW 7 [.str s, .int .i64 a] (encWF ⟨noW, 2, 0⟩) := by
  have k1 : decide ((s.length : Int) > 65536) = false := decide_eq_false (by omega)
  refine pc_fin EWF_ok mixed (show Tryd.prog.funcs[7]? = some Tryd.f7 from rfl) ?_
  repeat' (refine BR.mk (fun h => ?_) (fun h => ?_) <;> try first | contradiction | with_reducible exact Bool.noConfusion (k1.symm.trans h) | exact (kk (by assumption) h).elim)
  all_goals exact Fini.mk rfl
variable {s : List UInt8} {k : Nat}
@[reducible] def pW (s : List UInt8) (k : Nat) : Int := IntKind.i64.wrap ((k : Int) + (skipN false (s.drop (k : Int).toNat) : Nat))
theorem pW_is (hl : s.length ≤ 65536) (ha : k ≤ s.length) : pW s k = ((k + skipN false (s.drop k) : Nat) : Int) := by
  have sl := skipN_le false (s.drop k)
  rw [List.length_drop] at sl
  unfold pW
  rw [Int.toNat_natCast]
  exact (wrap_id (by unfold i64; omega)).trans (by omega)
theorem next_end (hl : s.length ≤ 65536) (ha : k ≤ s.length) (e1 : (pW s k == (s.length : Int)) = true) : PC Tryd.prog GW 7 [.str s, .int .i64 k] (encWF ⟨⟨7, [], 0, pW s k, pW s k⟩, 0, 0⟩) := by
  have k1 : decide ((s.length : Int) > 65536) = false := decide_eq_false (by omega)
  have k2 : decide ((k : Int) < 0) = false := decide_eq_false (by omega)
  have k3 : decide ((k : Int) > s.length) = false := decide_eq_false (by omega)
  have z1 : (0 : Int) ≤ (k : Int) ∧ (k : Int) ≤ (s.length : Int) := ⟨by omega, by omega⟩
  have z2 : (s.drop (k : Int).toNat).length ≤ 65536 := by rw [List.length_drop]; omega
  refine pc_fin EWF_ok mixed (show Tryd.prog.funcs[7]? = some Tryd.f7 from rfl) ?_
  repeat' (refine BR.mk (fun h => ?_) (fun h => ?_) <;> try first | contradiction | with_reducible exact Bool.noConfusion (k1.symm.trans h) | with_reducible exact Bool.noConfusion (k2.symm.trans h) | with_reducible exact Bool.noConfusion (k3.symm.trans h) | with_reducible exact Bool.noConfusion (e1.symm.trans h))
  all_goals first | exact z1 | exact z2 | exact Fini.mk rfl
theorem next_none (hl : s.length ≤ 65536) (ha : k ≤ s.length) (e1 : (pW s k == (s.length : Int)) = false) (e2 : (((foundS (s.drop (pW s k).toNat)).l : Int) == 0) = true) : PC Tryd.prog GW 7 [.str s, .int .i64 k] (encWF ⟨noW, 100, pW s k⟩) := by
  have k1 : decide ((s.length : Int) > 65536) = false := decide_eq_false (by omega)
  have k2 : decide ((k : Int) < 0) = false := decide_eq_false (by omega)
  have k3 : decide ((k : Int) > s.length) = false := decide_eq_false (by omega)
  have z1 : (0 : Int) ≤ (k : Int) ∧ (k : Int) ≤ (s.length : Int) := ⟨by omega, by omega⟩
  have z2 : (s.drop (k : Int).toNat).length ≤ 65536 := by rw [List.length_drop]; omega
  have hw := pW_is hl ha
  have sl := skipN_le false (s.drop k)
  rw [List.length_drop] at sl
  have e1' : ¬ pW s k = (s.length : Int) := by simpa using e1
  have z3 : (0 : Int) ≤ pW s k ∧ pW s k ≤ (s.length : Int) := ⟨by omega, by omega⟩
  have z4 : 1 ≤ (s.drop (pW s k).toNat).length ∧ (s.drop (pW s k).toNat).length ≤ 65536 := by rw [List.length_drop]; omega
  refine pc_fin EWF_ok mixed (show Tryd.prog.funcs[7]? = some Tryd.f7 from rfl) ?_
  repeat' (refine BR.mk (fun h => ?_) (fun h => ?_) <;> try first | contradiction | with_reducible exact Bool.noConfusion (k1.symm.trans h) | with_reducible exact Bool.noConfusion (k2.symm.trans h) | with_reducible exact Bool.noConfusion (k3.symm.trans h) | with_reducible exact Bool.noConfusion (e1.symm.trans h) | with_reducible exact Bool.noConfusion (e2.symm.trans h))
  all_goals first | exact z1 | exact z2 | exact z3 | exact z4 | exact Fini.mk rfl
theorem next_tok (hl : s.length ≤ 65536) (ha : k ≤ s.length) (e1 : (pW s k == (s.length : Int)) = false) (e2 : (((foundS (s.drop (pW s k).toNat)).l : Int) == 0) = false) : PC Tryd.prog GW 7 [.str s, .int .i64 k]
    (encWF ⟨⟨(foundS (s.drop (pW s k).toNat)).k, (foundS (s.drop (pW s k).toNat)).s, (foundS (s.drop (pW s k).toNat)).n, pW s k, IntKind.i64.wrap (pW s k + ((foundS (s.drop (pW s k).toNat)).l : Nat))⟩, 0, 0⟩) := by
  have k1 : decide ((s.length : Int) > 65536) = false := decide_eq_false (by omega)
  have k2 : decide ((k : Int) < 0) = false := decide_eq_false (by omega)
  have k3 : decide ((k : Int) > s.length) = false := decide_eq_false (by omega)
  have z1 : (0 : Int) ≤ (k : Int) ∧ (k : Int) ≤ (s.length : Int) := ⟨by omega, by omega⟩
  have z2 : (s.drop (k : Int).toNat).length ≤ 65536 := by rw [List.length_drop]; omega
  have hw := pW_is hl ha
  have sl := skipN_le false (s.drop k)
  rw [List.length_drop] at sl
  have e1' : ¬ pW s k = (s.length : Int) := by simpa using e1
  have z3 : (0 : Int) ≤ pW s k ∧ pW s k ≤ (s.length : Int) := ⟨by omega, by omega⟩
  have z4 : 1 ≤ (s.drop (pW s k).toNat).length ∧ (s.drop (pW s k).toNat).length ≤ 65536 := by rw [List.length_drop]; omega
  refine pc_fin EWF_ok mixed (show Tryd.prog.funcs[7]? = some Tryd.f7 from rfl) ?_
  repeat' (refine BR.mk (fun h => ?_) (fun h => ?_) <;> try first | contradiction | with_reducible exact Bool.noConfusion (k1.symm.trans h) | with_reducible exact Bool.noConfusion (k2.symm.trans h) | with_reducible exact Bool.noConfusion (k3.symm.trans h) | with_reducible exact Bool.noConfusion (e1.symm.trans h) | with_reducible exact Bool.noConfusion (e2.symm.trans h))
  all_goals first | exact z1 | exact z2 | exact z3 | exact z4 | exact Fini.mk rfl
end
theorem pc_nextIn (s : List UInt8) (k : Nat) (hl : s.length ≤ 65536) (ha : k ≤ s.length) : PC Tryd.prog GW 7 [.str s, .int .i64 k] (encWF (tokS (s.drop k) k)) := by
  have hw := pW_is hl ha
  have sl := skipN_le false (s.drop k)
  rw [List.length_drop] at sl
  have eD : s.drop (pW s k).toNat = (s.drop k).drop (skipN false (s.drop k)) := by rw [hw, Int.toNat_natCast, List.drop_drop]
  unfold tokS
  by_cases hA : skipN false (s.drop k) = (s.drop k).length
  · rw [if_pos hA]
    have e1 : (pW s k == (s.length : Int)) = true := by rw [beq_iff_eq, hw, hA, List.length_drop]; omega
    have := next_end hl ha e1
    rw [hw, hA] at this
    exact this
  · rw [if_neg hA]
    have e1 : (pW s k == (s.length : Int)) = false := by
      rw [beq_eq_false_iff_ne, hw]
      rw [List.length_drop] at hA
      omega
    by_cases hB : (foundS ((s.drop k).drop (skipN false (s.drop k)))).l = 0
    · rw [if_pos hB]
      have := next_none hl ha e1 (by rw [eD, hB]; rfl)
      rw [hw] at this
      exact this
    · rw [if_neg hB]
      have := next_tok hl ha e1 (by rw [eD, beq_eq_false_iff_ne]; omega)
      have hfl := found_le ((s.drop k).drop (skipN false (s.drop k)))
      rw [List.length_drop, List.length_drop] at hfl
      have ew : IntKind.i64.wrap (pW s k + ((foundS (s.drop (pW s k).toNat)).l : Nat)) = ((k + skipN false (s.drop k) + (foundS ((s.drop k).drop (skipN false (s.drop k)))).l : Nat) : Int) := by
        rw [eD, hw]
        exact (wrap_id (by unfold i64; omega)).trans (by omega)
      rw [ew, eD, hw] at this
      exact this
theorem pc_next (s : List UInt8) (a : Int) : PC Tryd.prog GW 7 [.str s, .int .i64 a] (encWF (nextS s a)) := by
  unfold nextS
  by_cases h1 : s.length > 65536
  · rw [if_pos h1]; exact next_long s a h1
  · rw [if_neg h1]
    by_cases h2 : a < 0 ∨ a > s.length
    · rw [if_pos h2]
      exact next_out s a (by omega) (fun x y => by
        have := of_decide_eq_false x
        have := of_decide_eq_false y
        omega)
    · rw [if_neg h2]
      have := pc_nextIn s a.toNat (by omega) (by omega)
      rw [show ((a.toNat : Nat) : Int) = a from by omega] at this
      exact this
def h_next : List AV → CR
  | [.str s, .int .i64 a] => .yes (encWF (nextS s a))
  | _ => .no
theorem h_next_ok (xs : List AV) : CRok Tryd.prog GW 7 xs (h_next xs) := by
  unfold h_next
  split
  · rename_i s a
    exact pc_next s a
  · trivial
def EN : Env := EWF.add 7 h_next
theorem EN_ok : EnvOk Tryd.prog EN := Env.add_ok EWF_ok (by kernel_rfl) h_next_ok
end Go.Proofs.YtejepcnoflahkaaDoor
