/- ValueParts: the walk. WRITTEN BY A SMALL PROGRAM of this session (laws.py). -/
import Derived.Test.YtonemoochpopfaaGreatDoorVWalk9
namespace Go.Proofs.YtonemoochpopfaaGreatDoor
open Go Go.Ab
set_option linter.unusedVariables false
set_option linter.unusedSimpArgs false
set_option maxRecDepth 100000
set_option maxHeartbeats 8000000

theorem right_num (n : Int) : right ⟨1, n, []⟩ = true := by unfold right; simp
theorem intV_num (n : Int) : intV ⟨1, n, []⟩ = n := by unfold intV; simp
theorem op_num {sg : List UInt8} (h : sg ∈ [[43], [45], [42], [47], [37]]) (a b : Int) : opR sg ⟨1, a, []⟩ ⟨1, b, []⟩ = sumsR sg a b := by
  unfold opR
  rw [right_num, right_num, intV_num, intV_num]
  simp only [List.mem_cons, List.not_mem_nil, or_false] at h
  rcases h with rfl | rfl | rfl | rfl | rfl <;> simp [known, signs]
theorem op_add (a b : Int) : opR [43] ⟨1, a, []⟩ ⟨1, b, []⟩ = fitR (a + b) := by rw [op_num (by simp)]; unfold sumsR; simp
theorem op_sub (a b : Int) : opR [45] ⟨1, a, []⟩ ⟨1, b, []⟩ = fitR (a - b) := by rw [op_num (by simp)]; unfold sumsR; simp
theorem op_mul (a b : Int) : opR [42] ⟨1, a, []⟩ ⟨1, b, []⟩ = fitR (a * b) := by rw [op_num (by simp)]; unfold sumsR; simp
theorem op_quo (a b : Int) : opR [47] ⟨1, a, []⟩ ⟨1, b, []⟩ = if b = 0 then ⟨⟨0, 0, []⟩, 0⟩ else fitR (Int.tdiv a b) := by rw [op_num (by simp)]; unfold sumsR; simp [null]
theorem op_rem (a b : Int) : opR [37] ⟨1, a, []⟩ ⟨1, b, []⟩ = if b = 0 then ⟨⟨0, 0, []⟩, 0⟩ else ⟨⟨1, Int.tmod a b, []⟩, 0⟩ := by rw [op_num (by simp)]; unfold sumsR; simp [null, numV]
theorem fit_yes {n : Int} (h : i64 n) : fitR n = ⟨⟨1, n, []⟩, 0⟩ := by unfold fitR; rw [if_pos h]; rfl
theorem fit_no {n : Int} (h : ¬ i64 n) : fitR n = ⟨⟨0, 0, []⟩, 20⟩ := by unfold fitR; rw [if_neg h]; rfl
theorem one_neg (a : Int) : oneR [45] ⟨1, a, []⟩ = fitR (-a) := by unfold oneR; rw [right_num, intV_num]; unfold sumsR; simp
theorem i64_0 : i64 0 := by decide
theorem nil_ok : (([] : List UInt8)).length ≤ 9223372036854775807 := by decide
theorem tmod_facts (a b : Int) (h0 : b ≠ 0) : (a < 0 → Int.tmod a b ≤ 0 ∧ a ≤ Int.tmod a b) ∧ (0 ≤ a → 0 ≤ Int.tmod a b ∧ Int.tmod a b ≤ a) ∧ (0 < b → Int.tmod a b < b ∧ -b < Int.tmod a b) ∧ (b < 0 → Int.tmod a b < -b ∧ b < Int.tmod a b) := by
  obtain ⟨n, rfl | rfl⟩ := a.eq_nat_or_neg <;> obtain ⟨m, rfl | rfl⟩ := b.eq_nat_or_neg
  all_goals simp only [Int.neg_tmod, Int.tmod_neg, ← Int.ofNat_tmod]
  all_goals
    have h1 : n % m < m := Nat.mod_lt _ (by omega)
    have h2 : n % m ≤ n := Nat.mod_le ..
    omega
theorem parts_zero (a : Int) (ha : i64 a) : PC Tryz.prog GV 6 [.int .i64 a, .int .i64 0] (.bool true) := by
  refine pc_fin E9_ok mixed (show Tryz.prog.funcs[6]? = some Tryz.f6 from rfl) ?_
  have h1 : opR [47] ⟨1, a, []⟩ ⟨1, 0, []⟩ = ⟨⟨0, 0, []⟩, 0⟩ := by rw [op_quo, if_pos rfl]
  have h2 : opR [37] ⟨1, a, []⟩ ⟨1, 0, []⟩ = ⟨⟨0, 0, []⟩, 0⟩ := by rw [op_rem, if_pos rfl]
  repeat' (refine BR.mk (fun h => ?_) (fun h => ?_) <;> first | contradiction | ((try simp [h1, h2] at h) <;> (first | (exfalso; omega) | skip)))
  all_goals first | exact Fini.mk rfl | exact And.intro (And.intro ha nil_ok) (And.intro i64_0 nil_ok) | (show commutes _ _ = true; kernel_rfl)
theorem parts_over : PC Tryz.prog GV 6 [.int .i64 (-9223372036854775808), .int .i64 (-1)] (.bool true) := by
  refine pc_fin E9_ok mixed (show Tryz.prog.funcs[6]? = some Tryz.f6 from rfl) ?_
  have h1 : opR [47] ⟨1, -9223372036854775808, []⟩ ⟨1, -1, []⟩ = ⟨⟨0, 0, []⟩, 20⟩ := by rw [op_quo, if_neg (by decide), fit_no (by decide)]
  have h2 : opR [37] ⟨1, -9223372036854775808, []⟩ ⟨1, -1, []⟩ = ⟨⟨1, 0, []⟩, 0⟩ := by rw [op_rem, if_neg (by decide)]; rfl
  repeat' (refine BR.mk (fun h => ?_) (fun h => ?_) <;> first | contradiction | ((try simp [h1, h2] at h) <;> (first | (exfalso; omega) | skip)))
  all_goals first | exact Fini.mk rfl | exact And.intro (And.intro (by decide : i64 (-9223372036854775808)) nil_ok) (And.intro (by decide : i64 (-1)) nil_ok) | (show commutes _ _ = true; kernel_rfl)
theorem parts_else (a b : Int) (ha : i64 a) (hb : i64 b) (h0 : b ≠ 0) (h1 : ¬ (a = -9223372036854775808 ∧ b = -1)) : PC Tryz.prog GV 6 [.int .i64 a, .int .i64 b] (.bool true) := by
  refine pc_fin E9_ok mixed (show Tryz.prog.funcs[6]? = some Tryz.f6 from rfl) ?_
  have q0 : i64 (Int.tdiv a b) := tdiv_fit ha h0 h1
  have q1 : opR [47] ⟨1, a, []⟩ ⟨1, b, []⟩ = ⟨⟨1, Int.tdiv a b, []⟩, 0⟩ := by rw [op_quo, if_neg h0, fit_yes q0]
  have q2 : opR [37] ⟨1, a, []⟩ ⟨1, b, []⟩ = ⟨⟨1, Int.tmod a b, []⟩, 0⟩ := by rw [op_rem, if_neg h0]
  have e : Int.tdiv a b * b + Int.tmod a b = a := by rw [Int.mul_comm]; exact Int.mul_tdiv_add_tmod a b
  obtain ⟨s0, s1, s2, s3⟩ := tmod_facts a b h0
  have q6 : i64 (Int.tmod a b) := by unfold i64 at *; omega
  have q3 : i64 (Int.tdiv a b * b) := by unfold i64 at *; generalize Int.tdiv a b * b = z at *; omega
  have q4 : opR [42] ⟨1, Int.tdiv a b, []⟩ ⟨1, b, []⟩ = ⟨⟨1, Int.tdiv a b * b, []⟩, 0⟩ := by rw [op_mul, fit_yes q3]
  have q5 : opR [43] ⟨1, Int.tdiv a b * b, []⟩ ⟨1, Int.tmod a b, []⟩ = ⟨⟨1, a, []⟩, 0⟩ := by rw [op_add, e, fit_yes ha]
  clear e
  have ha' := ha
  have hb' := hb
  have qm := q6
  unfold i64 at ha' hb' qm
  have w : b = -9223372036854775808 ∧ IntKind.i64.wrap (-b) = b ∨ IntKind.i64.wrap (-b) = -b := by
    by_cases hx : b = -9223372036854775808
    · subst hx; exact .inl ⟨rfl, by decide⟩
    · exact .inr (wrap_id (by unfold i64 at *; omega))
  by_cases hm : i64 (a * b)
  · have p1 : opR [42] ⟨1, a, []⟩ ⟨1, b, []⟩ = ⟨⟨1, a * b, []⟩, 0⟩ := by rw [op_mul, fit_yes hm]
    have p2 : opR [47] ⟨1, a * b, []⟩ ⟨1, b, []⟩ = ⟨⟨1, a, []⟩, 0⟩ := by rw [op_quo, if_neg h0, Int.mul_tdiv_cancel _ h0, fit_yes ha]
    have p3 : opR [37] ⟨1, a * b, []⟩ ⟨1, b, []⟩ = ⟨⟨1, 0, []⟩, 0⟩ := by rw [op_rem, if_neg h0, Int.mul_tmod_left]
    repeat' (refine BR.mk (fun h => ?_) (fun h => ?_) <;> first | contradiction | ((try simp [h0, q1, q2, q4, q5, p1, p2, p3] at h) <;> (first | (exfalso; omega) | skip)))
    all_goals try exact Fini.mk rfl
    all_goals try (refine And.intro (And.intro ?_ ?_) (And.intro ?_ ?_) <;> simp [q1, q2, q4, q5, p1, p2, p3, ha, hb, q0, q3, q6, hm, i64_0]; done)
    all_goals try (show commutes _ _ = true; kernel_rfl)
  · have p1 : opR [42] ⟨1, a, []⟩ ⟨1, b, []⟩ = ⟨⟨0, 0, []⟩, 20⟩ := by rw [op_mul, fit_no hm]
    repeat' (refine BR.mk (fun h => ?_) (fun h => ?_) <;> first | contradiction | ((try simp [h0, q1, q2, q4, q5, p1] at h) <;> (first | (exfalso; omega) | skip)))
    all_goals try exact Fini.mk rfl
    all_goals try (refine And.intro (And.intro ?_ ?_) (And.intro ?_ ?_) <;> simp [q1, q2, q4, q5, p1, ha, hb, q0, q3, q6, hm, i64_0]; done)
    all_goals try (show commutes _ _ = true; kernel_rfl)
theorem pc_partsLaw (a b : Int) (ha : i64 a) (hb : i64 b) : PC Tryz.prog GV 6 [.int .i64 a, .int .i64 b] (.bool true) := by
  by_cases h0 : b = 0
  · subst h0; exact parts_zero a ha
  by_cases h1 : a = -9223372036854775808 ∧ b = -1
  · obtain ⟨rfl, rfl⟩ := h1; exact parts_over
  exact parts_else a b ha hb h0 h1

end Go.Proofs.YtonemoochpopfaaGreatDoor
