/- ValueSums: the walk. WRITTEN BY A SMALL PROGRAM of this session (laws.py). -/
import Derived.Test.YtonemoochpopfaaGreatDoorVLawA
namespace Go.Proofs.YtonemoochpopfaaGreatDoor
open Go Go.Ab
set_option linter.unusedVariables false
set_option linter.unusedSimpArgs false
set_option maxRecDepth 100000
set_option maxHeartbeats 8000000

def OkOr (r : R) (x : Int) : Prop := (r = ⟨⟨1, x, []⟩, 0⟩ ∧ i64 x) ∨ (r = ⟨⟨0, 0, []⟩, 20⟩ ∧ ¬ i64 x)
theorem fit_or (x : Int) : OkOr (fitR x) x := by
  by_cases h : i64 x
  · exact .inl ⟨fit_yes h, h⟩
  · exact .inr ⟨fit_no h, h⟩
theorem sums_large (a b c : Int) (ha : i64 a) (hb : i64 b) (hc : i64 c) (hs : ¬ (-1048576 < a ∧ a < 1048576 ∧ -1048576 < b ∧ b < 1048576 ∧ -1048576 < c ∧ c < 1048576)) : PC Tryz.prog GV 5 [.int .i64 a, .int .i64 b, .int .i64 c] (.bool true) := by
  refine pc_fin E9_ok mixed (show Tryz.prog.funcs[5]? = some Tryz.f5 from rfl) ?_
  have ha' := ha
  have hb' := hb
  have hc' := hc
  unfold i64 at ha' hb' hc'
  obtain ⟨A, hA⟩ : ∃ A, A = fitR (a + b) := ⟨_, rfl⟩
  obtain ⟨D, hD⟩ : ∃ D, D = fitR (a - b) := ⟨_, rfl⟩
  obtain ⟨M, hM⟩ : ∃ M, M = fitR (a * b) := ⟨_, rfl⟩
  have a1 : opR [43] ⟨1, a, []⟩ ⟨1, b, []⟩ = A := by rw [op_add, hA]
  have a2 : opR [43] ⟨1, b, []⟩ ⟨1, a, []⟩ = A := by rw [op_add, hA, Int.add_comm]
  have m1 : opR [42] ⟨1, a, []⟩ ⟨1, b, []⟩ = M := by rw [op_mul, hM]
  have m2 : opR [42] ⟨1, b, []⟩ ⟨1, a, []⟩ = M := by rw [op_mul, hM, Int.mul_comm]
  have d1 : opR [45] ⟨1, a, []⟩ ⟨1, b, []⟩ = D := by rw [op_sub, hD]
  have d2 : opR [43] ⟨1, a, []⟩ ⟨1, -b, []⟩ = D := by rw [op_add, hD, Int.sub_eq_add_neg]
  have e1 : opR [45] ⟨1, a + b, []⟩ ⟨1, b, []⟩ = ⟨⟨1, a, []⟩, 0⟩ := by rw [op_sub, Int.add_sub_cancel, fit_yes ha]
  have w : IntKind.i64.wrap (a + b) = a + b ∨ ¬ (-9223372036854775808 ≤ a + b ∧ a + b ≤ 9223372036854775807) := by
    by_cases h : i64 (a + b)
    · exact .inl (wrap_id h)
    · exact .inr h
  have w0 : IntKind.i64.wrap (-9223372036854775808 - if 0 < b then 0 else b) = -9223372036854775808 - b ∨ 0 < b := by
    by_cases h : 0 < b
    · exact .inr h
    · rw [if_neg h]; exact .inl (wrap_id (by unfold i64; omega))
  have w1 : IntKind.i64.wrap (9223372036854775807 - if b < 0 then 0 else b) = 9223372036854775807 - b ∨ b < 0 := by
    by_cases h : b < 0
    · exact .inr h
    · rw [if_neg h]; exact .inl (wrap_id (by unfold i64; omega))
  have w2 : IntKind.i64.wrap 1 = 1 := by decide
  have w3 : IntKind.i64.wrap 2 = 2 := by decide
  have hM' : OkOr M (a * b) := hM ▸ fit_or _
  have hA' : OkOr A (a + b) := hA ▸ fit_or _
  have n1 : oneR [45] ⟨1, b, []⟩ = fitR (-b) := one_neg b
  clear hM hA hD
  by_cases hb0 : b = -9223372036854775808
  · rw [fit_no (by subst hb0; decide)] at n1
    rcases hM' with ⟨rfl, hm⟩ | ⟨rfl, hm⟩ <;> rcases hA' with ⟨rfl, ha2⟩ | ⟨rfl, ha2⟩
    all_goals
      have hu := ha2
      unfold i64 at hu
      apply loop_unroll E9_ok mixed 4
    repeat' (refine BR.mk (fun h => ?_) (fun h => ?_) <;> first | contradiction | ((try simp [a1, a2, m1, m2, d1, d2, e1, n1, w2, w3] at h) <;> (first | (exfalso; omega) | skip)))
    all_goals try exact Fini.mk rfl
    all_goals try exact And.intro (And.intro (by decide) (by decide)) (And.intro rfl rfl)
    all_goals try exact And.intro hb nil_ok
    all_goals try (show commutes _ _ = true; kernel_rfl)
    all_goals try (refine And.intro (And.intro ?_ ?_) (And.intro ?_ ?_) <;> simp [a1, a2, m1, m2, d1, d2, e1, n1, ha, hb, ha2, i64_0]; done)
  · have hnb : i64 (-b) := by unfold i64; omega
    rw [fit_yes hnb] at n1
    rcases hM' with ⟨rfl, hm⟩ | ⟨rfl, hm⟩ <;> rcases hA' with ⟨rfl, ha2⟩ | ⟨rfl, ha2⟩
    all_goals
      have hu := ha2
      unfold i64 at hu
      apply loop_unroll E9_ok mixed 4
    repeat' (refine BR.mk (fun h => ?_) (fun h => ?_) <;> first | contradiction | ((try simp [a1, a2, m1, m2, d1, d2, e1, n1, w2, w3] at h) <;> (first | (exfalso; omega) | skip)))
    all_goals try exact Fini.mk rfl
    all_goals try exact And.intro (And.intro (by decide) (by decide)) (And.intro rfl rfl)
    all_goals try exact And.intro hb nil_ok
    all_goals try (show commutes _ _ = true; kernel_rfl)
    all_goals try (refine And.intro (And.intro ?_ ?_) (And.intro ?_ ?_) <;> simp [a1, a2, m1, m2, d1, d2, e1, n1, ha, hb, ha2, hnb, i64_0]; done)
theorem mul_i64 {x y : Int} (hx : -3000000 < x ∧ x < 3000000) (hy : -3000000 < y ∧ y < 3000000) : i64 (x * y) ∧ -9000000000000 < x * y ∧ x * y < 9000000000000 := by
  have h := Int.natAbs_mul x y
  have h2 : x.natAbs * y.natAbs ≤ 2999999 * 2999999 := Nat.mul_le_mul (by omega) (by omega)
  generalize x * y = z at *
  generalize x.natAbs * y.natAbs = m at *
  unfold i64
  omega
theorem sums_small (a b c : Int) (hs : -1048576 < a ∧ a < 1048576 ∧ -1048576 < b ∧ b < 1048576 ∧ -1048576 < c ∧ c < 1048576) : PC Tryz.prog GV 5 [.int .i64 a, .int .i64 b, .int .i64 c] (.bool true) := by
  refine pc_fin E9_ok mixed (show Tryz.prog.funcs[5]? = some Tryz.f5 from rfl) ?_
  have ha : i64 a := by unfold i64; omega
  have hb : i64 b := by unfold i64; omega
  have hc : i64 c := by unfold i64; omega
  have hnb : i64 (-b) := by unfold i64; omega
  have hab : i64 (a + b) := by unfold i64; omega
  have hba : i64 (b + a) := by unfold i64; omega
  have hbc : i64 (b + c) := by unfold i64; omega
  have hsb : i64 (a - b) := by unfold i64; omega
  obtain ⟨m1, n1⟩ := mul_i64 (x := a) (y := b) (by omega) (by omega)
  obtain ⟨m2, n2⟩ := mul_i64 (x := a) (y := c) (by omega) (by omega)
  obtain ⟨m3, n3⟩ := mul_i64 (x := a) (y := b + c) (by omega) (by omega)
  have m4 : i64 (a * b + a * c) := by generalize a * b = z at *; generalize a * c = y at *; unfold i64; omega
  have m5 : i64 (b * a) := by rw [Int.mul_comm]; exact m1
  have e1 : opR [43] ⟨1, a, []⟩ ⟨1, b, []⟩ = ⟨⟨1, a + b, []⟩, 0⟩ := by rw [op_add, fit_yes hab]
  have e2 : opR [43] ⟨1, b, []⟩ ⟨1, a, []⟩ = ⟨⟨1, a + b, []⟩, 0⟩ := by rw [op_add, Int.add_comm, fit_yes hab]
  have e3 : opR [42] ⟨1, a, []⟩ ⟨1, b, []⟩ = ⟨⟨1, a * b, []⟩, 0⟩ := by rw [op_mul, fit_yes m1]
  have e4 : opR [42] ⟨1, b, []⟩ ⟨1, a, []⟩ = ⟨⟨1, a * b, []⟩, 0⟩ := by rw [op_mul, Int.mul_comm, fit_yes m1]
  have e5 : opR [45] ⟨1, a, []⟩ ⟨1, b, []⟩ = ⟨⟨1, a - b, []⟩, 0⟩ := by rw [op_sub, fit_yes hsb]
  have e6 : opR [43] ⟨1, a, []⟩ ⟨1, -b, []⟩ = ⟨⟨1, a - b, []⟩, 0⟩ := by rw [op_add, ← Int.sub_eq_add_neg, fit_yes hsb]
  have e7 : opR [45] ⟨1, a + b, []⟩ ⟨1, b, []⟩ = ⟨⟨1, a, []⟩, 0⟩ := by rw [op_sub, Int.add_sub_cancel, fit_yes ha]
  have e8 : oneR [45] ⟨1, b, []⟩ = ⟨⟨1, -b, []⟩, 0⟩ := by rw [one_neg, fit_yes hnb]
  have e9 : opR [43] ⟨1, b, []⟩ ⟨1, c, []⟩ = ⟨⟨1, b + c, []⟩, 0⟩ := by rw [op_add, fit_yes hbc]
  have e10 : opR [42] ⟨1, a, []⟩ ⟨1, b + c, []⟩ = ⟨⟨1, a * b + a * c, []⟩, 0⟩ := by rw [op_mul, Int.mul_add, fit_yes m4]
  have e11 : opR [42] ⟨1, a, []⟩ ⟨1, c, []⟩ = ⟨⟨1, a * c, []⟩, 0⟩ := by rw [op_mul, fit_yes m2]
  have e12 : opR [43] ⟨1, a * b, []⟩ ⟨1, a * c, []⟩ = ⟨⟨1, a * b + a * c, []⟩, 0⟩ := by rw [op_add, fit_yes m4]
  have w : IntKind.i64.wrap (a + b) = a + b := wrap_id hab
  have w0 : IntKind.i64.wrap (-9223372036854775808 - if 0 < b then 0 else b) = -9223372036854775808 - b ∨ 0 < b := by
    by_cases h : 0 < b
    · exact .inr h
    · rw [if_neg h]; exact .inl (wrap_id (by unfold i64; omega))
  have w1 : IntKind.i64.wrap (9223372036854775807 - if b < 0 then 0 else b) = 9223372036854775807 - b ∨ b < 0 := by
    by_cases h : b < 0
    · exact .inr h
    · rw [if_neg h]; exact .inl (wrap_id (by unfold i64; omega))
  have w2 : IntKind.i64.wrap 1 = 1 := by decide
  have w3 : IntKind.i64.wrap 2 = 2 := by decide
  apply loop_unroll E9_ok mixed 4
  clear n1 n2 n3
  repeat' (refine BR.mk (fun h => ?_) (fun h => ?_) <;> first | contradiction | ((try simp [e1, e2, e3, e4, e5, e6, e7, e8, e9, e10, e11, e12, w, w2, w3] at h) <;> (first | (exfalso; omega) | skip)))
  all_goals try exact Fini.mk rfl
  all_goals try (show commutes _ _ = true; kernel_rfl)
  all_goals try exact And.intro (And.intro (by decide) (by decide)) (And.intro rfl rfl)
  all_goals try exact And.intro hb nil_ok
  all_goals try (refine And.intro (And.intro ?_ ?_) (And.intro ?_ ?_) <;> simp [e1, e2, e3, e4, e5, e6, e7, e8, e9, e10, e11, e12, ha, hb, hc, hnb, hab, hbc, hsb, m1, m2, m4, i64_0]; done)
theorem pc_sumsLaw (a b c : Int) (ha : i64 a) (hb : i64 b) (hc : i64 c) : PC Tryz.prog GV 5 [.int .i64 a, .int .i64 b, .int .i64 c] (.bool true) := by
  by_cases hs : -1048576 < a ∧ a < 1048576 ∧ -1048576 < b ∧ b < 1048576 ∧ -1048576 < c ∧ c < 1048576
  · exact sums_small a b c hs
  · exact sums_large a b c ha hb hc hs

end Go.Proofs.YtonemoochpopfaaGreatDoor
