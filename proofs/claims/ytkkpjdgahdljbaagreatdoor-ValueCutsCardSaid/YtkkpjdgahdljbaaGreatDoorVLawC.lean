/- ValueOrder: the walk. WRITTEN BY A SMALL PROGRAM of this session (laws.py). -/
import Derived.Test.YtkkpjdgahdljbaaGreatDoorVLawR
import Derived.Test.YtkkpjdgahdljbaaGreatDoorVLawA
import Derived.Test.YtkkpjdgahdljbaaGreatDoorVFrame
namespace Go.Proofs.YtkkpjdgahdljbaaGreatDoor
open Go Go.Ab
set_option linter.unusedVariables false
set_option linter.unusedSimpArgs false
set_option maxRecDepth 100000
set_option maxHeartbeats 8000000

theorem boolR_t : boolR true = ⟨⟨1, 1, []⟩, 0⟩ := by unfold boolR; rfl
theorem boolR_f : boolR false = ⟨⟨1, 0, []⟩, 0⟩ := by unfold boolR; rfl
theorem one_not (n : Int) : oneR [110, 111, 116] ⟨1, n, []⟩ = boolR (n == 0) := by
  unfold oneR
  rw [right_num]
  have h : truV ⟨1, n, []⟩ = (n != 0) := by unfold truV; rw [intV_num]; rfl
  simp [h, bne]
theorem okR_right {v : V} (h : okR v = true) : right v = true := by unfold okR at h; simp at h; exact h.1
theorem op_null {sg : List UInt8} (hs : sg ∈ [[61], [60, 62], [60], [60, 61], [62], [62, 61]]) {a b : V} (ha : right a = true) (hb : right b = true) (h : a.k = 0 ∨ b.k = 0) : opR sg a b = ⟨⟨0, 0, []⟩, 0⟩ := by
  unfold opR
  rw [ha, hb]
  simp only [List.mem_cons, List.not_mem_nil, or_false] at hs
  rcases hs with rfl | rfl | rfl | rfl | rfl | rfl <;> simp [known, signs, h, null]

theorem op_eq {a b : V} (ha : right a = true) (hb : right b = true) (na : a.k ≠ 0) (nb : b.k ≠ 0) : opR [61] a b = boolR (compareV a b == 0) := by
  unfold opR
  rw [ha, hb]
  simp [known, signs, na, nb]
theorem op_ne {a b : V} (ha : right a = true) (hb : right b = true) (na : a.k ≠ 0) (nb : b.k ≠ 0) : opR [60, 62] a b = boolR (compareV a b != 0) := by
  unfold opR
  rw [ha, hb]
  simp [known, signs, na, nb]
theorem op_lt {a b : V} (ha : right a = true) (hb : right b = true) (na : a.k ≠ 0) (nb : b.k ≠ 0) : opR [60] a b = boolR (decide (compareV a b < 0)) := by
  unfold opR
  rw [ha, hb]
  simp [known, signs, na, nb]
theorem op_le {a b : V} (ha : right a = true) (hb : right b = true) (na : a.k ≠ 0) (nb : b.k ≠ 0) : opR [60, 61] a b = boolR (decide (compareV a b ≤ 0)) := by
  unfold opR
  rw [ha, hb]
  simp [known, signs, na, nb]
theorem op_gt {a b : V} (ha : right a = true) (hb : right b = true) (na : a.k ≠ 0) (nb : b.k ≠ 0) : opR [62] a b = boolR (decide (compareV a b > 0)) := by
  unfold opR
  rw [ha, hb]
  simp [known, signs, na, nb]
theorem op_ge {a b : V} (ha : right a = true) (hb : right b = true) (na : a.k ≠ 0) (nb : b.k ≠ 0) : opR [62, 61] a b = boolR (decide (compareV a b ≥ 0)) := by
  unfold opR
  rw [ha, hb]
  simp [known, signs, na, nb]
theorem eq_cv {ak bk an bn : Int} {az bz : List UInt8} (ha : right ⟨ak, an, az⟩ = true) (hb : right ⟨bk, bn, bz⟩ = true) {x : Int} (hx : compareV ⟨ak, an, az⟩ ⟨bk, bn, bz⟩ = x) : (ak == bk && (an == bn && (az == bz && true))) = decide (x = 0) := by
  have h := cv_zero ha hb
  rw [hx, V.mk.injEq] at h
  rw [Bool.eq_iff_iff, decide_eq_true_iff, h]
  simp
theorem not_rights {p q r : Bool} (h : ¬ (p = true ∧ q = true ∧ r = true)) : (p && (q && (r && true))) = false := by
  cases p <;> cases q <;> cases r <;> simp_all
theorem i64_1 : i64 1 := by decide
end Go.Proofs.YtkkpjdgahdljbaaGreatDoor
