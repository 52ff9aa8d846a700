/- Contracts of functions, tier 4: WRITTEN BY A SMALL PROGRAM of this session (gen.py). -/
import Derived.Test.YtejepcnoflahkaaDoorVWalk3
namespace Go.Proofs.YtejepcnoflahkaaDoor
open Go Go.Ab
set_option linter.unusedVariables false
set_option linter.unusedSimpArgs false
set_option maxRecDepth 100000
set_option maxHeartbeats 4000000

def h_Text : List AV → CR
  | [.agg [.int .u8 vk, .int .i64 vn, .str vz]] => .need (i64 vn) (.str (textV ⟨vk, vn, vz⟩))
  | _ => .no
def h_Compare : List AV → CR
  | [.agg [.int .u8 ak, .int .i64 an, .str az], .agg [.int .u8 bk, .int .i64 bn, .str bz]] => .yes (.int .i64 (compareV ⟨ak, an, az⟩ ⟨bk, bn, bz⟩))
  | _ => .no
theorem leafOk {n m : Int} (h : i64 m) (e : n = m) : AV.tup [AV.agg [.int .u8 (numV n).k, .int .i64 (numV n).n, .str (numV n).s], .int .i64 0] = encR (fitR m) := by
  subst e; unfold fitR; rw [if_pos h]; rfl
theorem leafErr {m : Int} (h : ¬ i64 m) : AV.tup [AV.agg [.int .u8 0, .int .i64 0, .str []], .int .i64 20] = encR (fitR m) := by
  unfold fitR; rw [if_neg h]; rfl
theorem wrapC (n : Int) (h1 : -18446744073709551616 ≤ n) (h2 : n < 18446744073709551616) : (IntKind.i64.wrap n = n ∨ IntKind.i64.wrap n = n - 18446744073709551616 ∨ IntKind.i64.wrap n = n + 18446744073709551616) ∧ -9223372036854775808 ≤ IntKind.i64.wrap n ∧ IntKind.i64.wrap n ≤ 9223372036854775807 := by
  rw [wrapI]; split <;> omega
theorem wrap_id {n : Int} (h : i64 n) : IntKind.i64.wrap n = n := by
  unfold i64 at h
  rw [wrapI]; split <;> omega
theorem mul_sign (a b : Int) : (a < 0 ↔ b < 0) ∧ a * b = (a.natAbs : Int) * b.natAbs ∨ ¬ (a < 0 ↔ b < 0) ∧ a * b = -((a.natAbs : Int) * b.natAbs) := by
  rcases Int.lt_or_le a 0 with ha | ha <;> rcases Int.lt_or_le b 0 with hb | hb
  · refine .inl ⟨by omega, ?_⟩
    have e1 : (a.natAbs : Int) = -a := by omega
    have e2 : (b.natAbs : Int) = -b := by omega
    rw [e1, e2, Int.neg_mul_neg]
  · refine .inr ⟨by omega, ?_⟩
    have e1 : (a.natAbs : Int) = -a := by omega
    have e2 : (b.natAbs : Int) = b := by omega
    rw [e1, e2, Int.neg_mul, Int.neg_neg]
  · refine .inr ⟨by omega, ?_⟩
    have e1 : (a.natAbs : Int) = a := by omega
    have e2 : (b.natAbs : Int) = -b := by omega
    rw [e1, e2, Int.mul_neg, Int.neg_neg]
  · refine .inl ⟨by omega, ?_⟩
    have e1 : (a.natAbs : Int) = a := by omega
    have e2 : (b.natAbs : Int) = b := by omega
    rw [e1, e2]

theorem tdiv_fit {a b : Int} (h1 : i64 a) (hb : b ≠ 0) (h : ¬ (a = -9223372036854775808 ∧ b = -1)) : i64 (a.tdiv b) := by
  unfold i64 at *
  have hd := Int.natAbs_tdiv a b
  have hd' : (a.tdiv b).natAbs = a.natAbs / b.natAbs := hd
  have hle : a.natAbs / b.natAbs ≤ a.natAbs := Nat.div_le_self _ _
  by_cases h3 : b.natAbs = 1
  · have : b = 1 ∨ b = -1 := by omega
    rcases this with rfl | rfl
    · simp; omega
    · have : a.tdiv (-1) = -a := by simp
      rw [this]; omega
  · have : a.natAbs / b.natAbs ≤ a.natAbs / 2 := Nat.div_le_div_left (by omega) (by omega)
    omega

def h_sums : List AV → CR
  | [.str sg, .int .i64 a, .int .i64 b] => .need (i64 a ∧ i64 b) (encR (sumsR sg a b))
  | _ => .no
def E4_0 : Env := E3
theorem E4_0_ok : EnvOk Tryd.prog E4_0 := E3_ok
def E4_1 : Env := E4_0
theorem E4_1_ok : EnvOk Tryd.prog E4_1 := E4_0_ok
def E4 : Env := E4_1
theorem E4_ok : EnvOk Tryd.prog E4 := E4_1_ok
end Go.Proofs.YtejepcnoflahkaaDoor
