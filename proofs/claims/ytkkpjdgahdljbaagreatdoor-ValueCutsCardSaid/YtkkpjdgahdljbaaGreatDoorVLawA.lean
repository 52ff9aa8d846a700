/- ValueParts: the walk. WRITTEN BY A SMALL PROGRAM of this session (laws.py). -/
import Derived.Test.YtkkpjdgahdljbaaGreatDoorVWalk9
namespace Go.Proofs.YtkkpjdgahdljbaaGreatDoor
open Go Go.Ab
set_option linter.unusedVariables false
set_option linter.unusedSimpArgs false
set_option maxRecDepth 100000
set_option maxHeartbeats 8000000

theorem right_num (n : Int) : right ⟨1, n, []⟩ = true := by unfold right; simp
theorem intV_num (n : Int) : intV ⟨1, n, []⟩ = n := by unfold intV; simp
theorem op_num {sg : List UInt8} (h : sg ∈ [[43], [45], [42], [47], [37]]) (a b : Int) : opR sg ⟨1, a, []⟩ ⟨1, b, []⟩ = sumsR sg a b := by
  unfold opR
  rw [right_num, right_num, intV_num, intV_num]
  simp only [List.mem_cons, List.not_mem_nil, or_false] at h
  rcases h with rfl | rfl | rfl | rfl | rfl <;> simp [known, signs]
theorem op_add (a b : Int) : opR [43] ⟨1, a, []⟩ ⟨1, b, []⟩ = fitR (a + b) := by rw [op_num (by simp)]; unfold sumsR; simp
theorem op_sub (a b : Int) : opR [45] ⟨1, a, []⟩ ⟨1, b, []⟩ = fitR (a - b) := by rw [op_num (by simp)]; unfold sumsR; simp
theorem op_mul (a b : Int) : opR [42] ⟨1, a, []⟩ ⟨1, b, []⟩ = fitR (a * b) := by rw [op_num (by simp)]; unfold sumsR; simp
theorem op_quo (a b : Int) : opR [47] ⟨1, a, []⟩ ⟨1, b, []⟩ = if b = 0 then ⟨⟨0, 0, []⟩, 0⟩ else fitR (Int.tdiv a b) := by rw [op_num (by simp)]; unfold sumsR; simp [null]
theorem op_rem (a b : Int) : opR [37] ⟨1, a, []⟩ ⟨1, b, []⟩ = if b = 0 then ⟨⟨0, 0, []⟩, 0⟩ else ⟨⟨1, Int.tmod a b, []⟩, 0⟩ := by rw [op_num (by simp)]; unfold sumsR; simp [null, numV]
theorem fit_yes {n : Int} (h : i64 n) : fitR n = ⟨⟨1, n, []⟩, 0⟩ := by unfold fitR; rw [if_pos h]; rfl
theorem fit_no {n : Int} (h : ¬ i64 n) : fitR n = ⟨⟨0, 0, []⟩, 20⟩ := by unfold fitR; rw [if_neg h]; rfl
theorem one_neg (a : Int) : oneR [45] ⟨1, a, []⟩ = fitR (-a) := by unfold oneR; rw [right_num, intV_num]; unfold sumsR; simp
theorem i64_0 : i64 0 := by decide
theorem nil_ok : (([] : List UInt8)).length ≤ 9223372036854775807 := by decide
theorem tmod_facts (a b : Int) (h0 : b ≠ 0) : (a < 0 → Int.tmod a b ≤ 0 ∧ a ≤ Int.tmod a b) ∧ (0 ≤ a → 0 ≤ Int.tmod a b ∧ Int.tmod a b ≤ a) ∧ (0 < b → Int.tmod a b < b ∧ -b < Int.tmod a b) ∧ (b < 0 → Int.tmod a b < -b ∧ b < Int.tmod a b) := by
  obtain ⟨n, rfl | rfl⟩ := a.eq_nat_or_neg <;> obtain ⟨m, rfl | rfl⟩ := b.eq_nat_or_neg
  all_goals simp only [Int.neg_tmod, Int.tmod_neg, ← Int.ofNat_tmod]
  all_goals
    have h1 : n % m < m := Nat.mod_lt _ (by omega)
    have h2 : n % m ≤ n := Nat.mod_le ..
    omega
end Go.Proofs.YtkkpjdgahdljbaaGreatDoor
