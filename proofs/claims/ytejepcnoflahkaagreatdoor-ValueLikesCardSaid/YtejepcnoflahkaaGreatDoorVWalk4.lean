/- Contracts of functions, tier 4: WRITTEN BY A SMALL PROGRAM of this session (gen.py). -/
import Derived.Test.YtejepcnoflahkaaGreatDoorVWalk3
namespace Go.Proofs.YtejepcnoflahkaaGreatDoor
open Go Go.Ab
set_option linter.unusedVariables false
set_option linter.unusedSimpArgs false
set_option maxRecDepth 100000
set_option maxHeartbeats 4000000

theorem pc_Text (v : V) (hn : i64 v.n) : PC Tryz.prog GV 69 [encV v] (.str (textV v)) := by
  refine pc_fin E3_ok mixed (show Tryz.prog.funcs[69]? = some Tryz.f69 from rfl) ?_
  repeat' (refine BR.mk (fun h => ?_) (fun h => ?_) <;> try contradiction)
  all_goals first | exact hn | refine Fini.mk ?_
  all_goals unfold textV
  all_goals simp_all

def h_Text : List AV → CR
  | [.agg [.int .u8 vk, .int .i64 vn, .str vz]] => .need (i64 vn) (.str (textV ⟨vk, vn, vz⟩))
  | _ => .no
theorem h_Text_ok (xs : List AV) : CRok Tryz.prog GV 69 xs (h_Text xs) := by
  unfold h_Text
  split
  · rename_i vk vn vz
    exact fun hn => pc_Text ⟨vk, vn, vz⟩ hn
  · trivial

theorem pc_Compare (a b : V) : PC Tryz.prog GV 53 [encV a, encV b] (.int .i64 (compareV a b)) := by
  refine pc_fin E3_ok mixed (show Tryz.prog.funcs[53]? = some Tryz.f53 from rfl) ?_
  repeat' (refine BR.mk (fun h => ?_) (fun h => ?_) <;> try contradiction)
  all_goals refine Fini.mk ?_
  all_goals unfold compareV
  all_goals simp_all

def h_Compare : List AV → CR
  | [.agg [.int .u8 ak, .int .i64 an, .str az], .agg [.int .u8 bk, .int .i64 bn, .str bz]] => .yes (.int .i64 (compareV ⟨ak, an, az⟩ ⟨bk, bn, bz⟩))
  | _ => .no
theorem h_Compare_ok (xs : List AV) : CRok Tryz.prog GV 53 xs (h_Compare xs) := by
  unfold h_Compare
  split
  · rename_i ak an az bk bn bz
    exact pc_Compare ⟨ak, an, az⟩ ⟨bk, bn, bz⟩
  · trivial

theorem leafOk {n m : Int} (h : i64 m) (e : n = m) : AV.tup [AV.agg [.int .u8 (numV n).k, .int .i64 (numV n).n, .str (numV n).s], .int .i64 0] = encR (fitR m) := by
  subst e; unfold fitR; rw [if_pos h]; rfl
theorem leafErr {m : Int} (h : ¬ i64 m) : AV.tup [AV.agg [.int .u8 0, .int .i64 0, .str []], .int .i64 20] = encR (fitR m) := by
  unfold fitR; rw [if_neg h]; rfl
theorem wrapC (n : Int) (h1 : -18446744073709551616 ≤ n) (h2 : n < 18446744073709551616) : (IntKind.i64.wrap n = n ∨ IntKind.i64.wrap n = n - 18446744073709551616 ∨ IntKind.i64.wrap n = n + 18446744073709551616) ∧ -9223372036854775808 ≤ IntKind.i64.wrap n ∧ IntKind.i64.wrap n ≤ 9223372036854775807 := by
  rw [wrapI]; split <;> omega
theorem wrap_id {n : Int} (h : i64 n) : IntKind.i64.wrap n = n := by
  unfold i64 at h
  rw [wrapI]; split <;> omega
theorem mul_sign (a b : Int) : (a < 0 ↔ b < 0) ∧ a * b = (a.natAbs : Int) * b.natAbs ∨ ¬ (a < 0 ↔ b < 0) ∧ a * b = -((a.natAbs : Int) * b.natAbs) := by
  rcases Int.lt_or_le a 0 with ha | ha <;> rcases Int.lt_or_le b 0 with hb | hb
  · refine .inl ⟨by omega, ?_⟩
    have e1 : (a.natAbs : Int) = -a := by omega
    have e2 : (b.natAbs : Int) = -b := by omega
    rw [e1, e2, Int.neg_mul_neg]
  · refine .inr ⟨by omega, ?_⟩
    have e1 : (a.natAbs : Int) = -a := by omega
    have e2 : (b.natAbs : Int) = b := by omega
    rw [e1, e2, Int.neg_mul, Int.neg_neg]
  · refine .inr ⟨by omega, ?_⟩
    have e1 : (a.natAbs : Int) = a := by omega
    have e2 : (b.natAbs : Int) = -b := by omega
    rw [e1, e2, Int.mul_neg, Int.neg_neg]
  · refine .inl ⟨by omega, ?_⟩
    have e1 : (a.natAbs : Int) = a := by omega
    have e2 : (b.natAbs : Int) = b := by omega
    rw [e1, e2]

theorem pc_sums_add (a b : Int) (hn : i64 a ∧ i64 b) : PC Tryz.prog GV 71 [.str [43], .int .i64 a, .int .i64 b] (encR (fitR (a + b))) := by
  refine pc_fin E3_ok mixed (show Tryz.prog.funcs[71]? = some Tryz.f71 from rfl) ?_
  obtain ⟨h1, h2⟩ := hn
  repeat' (refine BR.mk (fun h => ?_) (fun h => ?_) <;> try first | contradiction | exact absurd h (by decide))
  all_goals try refine Fini.mk ?_
  all_goals unfold i64 at h1 h2
  all_goals have hw := wrapC (a + b) (by omega) (by omega)
  all_goals generalize IntKind.i64.wrap (a + b) = w at *
  all_goals simp only [beq_iff_eq, bne_iff_ne, ne_eq, bne_eq_false_iff_eq, beq_eq_false_iff_ne, Bool.not_eq_eq_eq_not, decide_eq_decide, Bool.not_true, Bool.not_false, Bool.not_eq_true', decide_eq_true_eq, decide_eq_false_iff_not, not_true, not_false_iff] at *
  all_goals first
    | (refine leafErr ?_; unfold i64; omega)
    | (refine leafOk ?_ ?_ <;> (try unfold i64) <;> omega)

theorem pc_sums_sub (a b : Int) (hn : i64 a ∧ i64 b) : PC Tryz.prog GV 71 [.str [45], .int .i64 a, .int .i64 b] (encR (fitR (a - b))) := by
  refine pc_fin E3_ok mixed (show Tryz.prog.funcs[71]? = some Tryz.f71 from rfl) ?_
  obtain ⟨h1, h2⟩ := hn
  repeat' (refine BR.mk (fun h => ?_) (fun h => ?_) <;> try first | contradiction | exact absurd h (by decide))
  all_goals try refine Fini.mk ?_
  all_goals unfold i64 at h1 h2
  all_goals have hw := wrapC (a - b) (by omega) (by omega)
  all_goals generalize IntKind.i64.wrap (a - b) = w at *
  all_goals simp only [beq_iff_eq, bne_iff_ne, ne_eq, bne_eq_false_iff_eq, beq_eq_false_iff_ne, Bool.not_eq_eq_eq_not, decide_eq_decide, Bool.not_true, Bool.not_false, Bool.not_eq_true', decide_eq_true_eq, decide_eq_false_iff_not, not_true, not_false_iff] at *
  all_goals first
    | (refine leafErr ?_; unfold i64; omega)
    | (refine leafOk ?_ ?_ <;> (try unfold i64) <;> omega)

theorem pc_sums_mul (a b : Int) (hn : i64 a ∧ i64 b) : PC Tryz.prog GV 71 [.str [42], .int .i64 a, .int .i64 b] (encR (fitR (a * b))) := by
  refine pc_fin E3_ok mixed (show Tryz.prog.funcs[71]? = some Tryz.f71 from rfl) ?_
  obtain ⟨h1, h2⟩ := hn
  repeat' (refine BR.mk (fun h => ?_) (fun h => ?_) <;> try first | contradiction | exact absurd h (by decide))
  all_goals try refine Fini.mk ?_
  all_goals first
    | exact h1
    | exact h2
    | (unfold i64 at h1 h2; omega)
    | skip
  all_goals simp only [beq_iff_eq, bne_iff_ne, ne_eq, bne_eq_false_iff_eq, beq_eq_false_iff_ne, Bool.not_eq_eq_eq_not, decide_eq_decide, Bool.not_true, Bool.not_false, Bool.not_eq_true', decide_eq_true_eq, decide_eq_false_iff_not, not_true, not_false_iff, wrapU] at *
  all_goals have hs := mul_sign a b
  all_goals have hp : (0 : Int) ≤ (a.natAbs : Int) * b.natAbs := Int.mul_nonneg (by omega) (by omega)
  all_goals generalize (a.natAbs : Int) * b.natAbs = p at *
  all_goals generalize a * b = q at *
  all_goals first
    | (refine leafErr ?_; unfold i64; omega)
    | (refine leafOk ?_ (wrap_id ?_) <;> unfold i64 <;> omega)

theorem tdiv_fit {a b : Int} (h1 : i64 a) (hb : b ≠ 0) (h : ¬ (a = -9223372036854775808 ∧ b = -1)) : i64 (a.tdiv b) := by
  unfold i64 at *
  have hd := Int.natAbs_tdiv a b
  have hd' : (a.tdiv b).natAbs = a.natAbs / b.natAbs := hd
  have hle : a.natAbs / b.natAbs ≤ a.natAbs := Nat.div_le_self _ _
  by_cases h3 : b.natAbs = 1
  · have : b = 1 ∨ b = -1 := by omega
    rcases this with rfl | rfl
    · simp; omega
    · have : a.tdiv (-1) = -a := by simp
      rw [this]; omega
  · have : a.natAbs / b.natAbs ≤ a.natAbs / 2 := Nat.div_le_div_left (by omega) (by omega)
    omega

theorem pc_sums_quo (a b : Int) (hn : i64 a ∧ i64 b) : PC Tryz.prog GV 71 [.str [47], .int .i64 a, .int .i64 b] (encR (if b = 0 then ⟨null, 0⟩ else fitR (Int.tdiv a b))) := by
  refine pc_fin E3_ok mixed (show Tryz.prog.funcs[71]? = some Tryz.f71 from rfl) ?_
  obtain ⟨h1, h2⟩ := hn
  repeat' (refine BR.mk (fun h => ?_) (fun h => ?_) <;> try first | contradiction | exact absurd h (by decide))
  all_goals try refine Fini.mk ?_
  all_goals simp only [beq_iff_eq, bne_iff_ne, ne_eq, bne_eq_false_iff_eq, beq_eq_false_iff_ne, Bool.not_eq_eq_eq_not, decide_eq_decide, Bool.not_true, Bool.not_false, Bool.not_eq_true', decide_eq_true_eq, decide_eq_false_iff_not, not_true, not_false_iff, List.cons.injEq, reduceCtorEq] at *
  all_goals first
    | assumption
    | contradiction
    | (exfalso; simp_all; done)
    | (subst_vars; rfl)
    | (rw [if_neg (by assumption)]; first
        | exact leafOk (tdiv_fit h1 (by assumption) (by omega)) (wrap_id (tdiv_fit h1 (by assumption) (by omega)))
        | (subst_vars; exact leafErr (by decide)))

theorem pc_sums_rem (sg : List UInt8) (a b : Int) (hn : i64 a ∧ i64 b) (g1 : (sg == [43]) = false) (g2 : (sg == [45]) = false) (g3 : (sg == [42]) = false) (g4 : (sg == [47]) = false) : PC Tryz.prog GV 71 [.str sg, .int .i64 a, .int .i64 b] (encR (if b = 0 then ⟨null, 0⟩ else ⟨numV (Int.tmod a b), 0⟩)) := by
  refine pc_fin E3_ok mixed (show Tryz.prog.funcs[71]? = some Tryz.f71 from rfl) ?_
  obtain ⟨h1, h2⟩ := hn
  repeat' (refine BR.mk (fun h => ?_) (fun h => ?_) <;> try first | contradiction | exact Bool.noConfusion (g1.symm.trans h) | exact Bool.noConfusion (g2.symm.trans h) | exact Bool.noConfusion (g3.symm.trans h) | exact Bool.noConfusion (g4.symm.trans h))
  all_goals try refine Fini.mk ?_
  all_goals simp only [beq_iff_eq, bne_iff_ne, ne_eq, bne_eq_false_iff_eq, beq_eq_false_iff_ne, Bool.not_eq_eq_eq_not, decide_eq_decide, Bool.not_true, Bool.not_false, Bool.not_eq_true', decide_eq_true_eq, decide_eq_false_iff_not, not_true, not_false_iff, List.cons.injEq, reduceCtorEq] at *
  all_goals first
    | assumption
    | contradiction
    | (exfalso; simp_all; done)
    | (subst_vars; rfl)
    | (rw [if_neg (by assumption)]; rfl)
theorem pc_sums (sg : List UInt8) (a b : Int) (hn : i64 a ∧ i64 b) : PC Tryz.prog GV 71 [.str sg, .int .i64 a, .int .i64 b] (encR (sumsR sg a b)) := by
  unfold sumsR
  by_cases g1 : sg = [43]
  · subst g1; exact pc_sums_add a b hn
  by_cases g2 : sg = [45]
  · subst g2; exact pc_sums_sub a b hn
  by_cases g3 : sg = [42]
  · subst g3; exact pc_sums_mul a b hn
  by_cases g4 : sg = [47]
  · subst g4; exact pc_sums_quo a b hn
  rw [if_neg g1, if_neg g2, if_neg g3, if_neg g4]
  exact pc_sums_rem sg a b hn (by simpa using g1) (by simpa using g2) (by simpa using g3) (by simpa using g4)

def h_sums : List AV → CR
  | [.str sg, .int .i64 a, .int .i64 b] => .need (i64 a ∧ i64 b) (encR (sumsR sg a b))
  | _ => .no
theorem h_sums_ok (xs : List AV) : CRok Tryz.prog GV 71 xs (h_sums xs) := by
  unfold h_sums
  split
  · rename_i sg a b
    exact fun hn => pc_sums sg a b hn
  · trivial

def E4_0 : Env := E3.add 69 h_Text
theorem E4_0_ok : EnvOk Tryz.prog E4_0 := Env.add_ok E3_ok (by kernel_rfl) h_Text_ok

def E4_1 : Env := E4_0.add 53 h_Compare
theorem E4_1_ok : EnvOk Tryz.prog E4_1 := Env.add_ok E4_0_ok (by kernel_rfl) h_Compare_ok

def E4 : Env := E4_1.add 71 h_sums
theorem E4_ok : EnvOk Tryz.prog E4 := Env.add_ok E4_1_ok (by kernel_rfl) h_sums_ok

end Go.Proofs.YtejepcnoflahkaaGreatDoor
