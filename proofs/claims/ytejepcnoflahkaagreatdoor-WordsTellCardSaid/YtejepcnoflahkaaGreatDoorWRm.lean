/- WordsTell: tokens, and texts and blobs as they are said, are as the reference tells them. -/
import Derived.Test.YtejepcnoflahkaaGreatDoorWMb
section
namespace Go.Proofs.YtejepcnoflahkaaGreatDoor
open Go Go.Ab Go.RowKit
set_option linter.unusedVariables false
set_option linter.unusedSimpArgs false
set_option maxRecDepth 100000
set_option maxHeartbeats 4000000

theorem pc_rdig (c : Int) : PC Tryz.prog GW 151 [.int .u8 c] (.bool (digC c)) := by
  refine pc_fin EN_ok mixed (show Tryz.prog.funcs[151]? = some Tryz.f151 from rfl) ?_
  repeat' (refine BR.mk (fun h => ?_) (fun h => ?_) <;> try contradiction)
  all_goals refine Fini.mk ?_
  all_goals simp_all [digC]
  all_goals (intros; omega)
def h_rdig : List AV → CR
  | [.int .u8 c] => .yes (.bool (digC c))
  | _ => .no
theorem h_rdig_ok (xs : List AV) : CRok Tryz.prog GW 151 xs (h_rdig xs) := by
  unfold h_rdig
  split
  · rename_i c
    exact pc_rdig c
  · trivial
def ER9a : Env := EN.add 151 h_rdig
theorem ER9a_ok : EnvOk Tryz.prog ER9a := Env.add_ok EN_ok (by kernel_rfl) h_rdig_ok
theorem pc_rlet (c : Int) : PC Tryz.prog GW 152 [.int .u8 c] (.bool (letC c)) := by
  refine pc_fin ER9a_ok mixed (show Tryz.prog.funcs[152]? = some Tryz.f152 from rfl) ?_
  repeat' (refine BR.mk (fun h => ?_) (fun h => ?_) <;> try contradiction)
  all_goals refine Fini.mk ?_
  all_goals simp_all [letC]
  all_goals (intros; omega)
def h_rlet : List AV → CR
  | [.int .u8 c] => .yes (.bool (letC c))
  | _ => .no
theorem h_rlet_ok (xs : List AV) : CRok Tryz.prog GW 152 xs (h_rlet xs) := by
  unfold h_rlet
  split
  · rename_i c
    exact pc_rlet c
  · trivial
def ER9b : Env := ER9a.add 152 h_rlet
theorem ER9b_ok : EnvOk Tryz.prog ER9b := Env.add_ok ER9a_ok (by kernel_rfl) h_rlet_ok
/-- the value of a hexadecimal digit; below 0: it is none -/
def halfRI (c : Int) : Int := if digC c then c - 48 else if 97 ≤ c ∧ c ≤ 102 then c - 87 else if 65 ≤ c ∧ c ≤ 70 then c - 55 else -1
theorem wrap8 {n : Int} (h : 0 ≤ n ∧ n ≤ 255) : IntKind.u8.wrap n = n := by
  simp [IntKind.wrap, IntKind.signed, IntKind.bits]
  omega
theorem digC_of {c : Int} (h : digC c = true) : 48 ≤ c ∧ c ≤ 57 := by
  simp only [digC, Bool.and_eq_true, decide_eq_true_eq] at h
  omega
theorem half_hex {c : Int} {d : Int} (h : d ≤ c ∧ c ≤ d + 5) : IntKind.i64.wrap (IntKind.i64.wrap (IntKind.u8.wrap (c - d)) + 10) = c - d + 10 := by
  rw [wrap8 ⟨by omega, by omega⟩, wrap_id (n := c - d) (by unfold i64; omega)]
  exact wrap_id (by unfold i64; omega)
set_option smartUnfolding false in
theorem pc_rhalf (c : Int) : PC Tryz.prog GW 188 [.int .u8 c] (.int .i64 (halfRI c)) := by
  refine pc_fin ER9b_ok mixed (show Tryz.prog.funcs[188]? = some Tryz.f188 from rfl) ?_
  repeat' (refine BR.mk (fun h => ?_) (fun h => ?_) <;> try contradiction)
  all_goals refine Fini.mk (congrArg (AV.int .i64) ?_)
  all_goals unfold halfRI
  · have hd := digC_of h
    rw [if_pos h, wrap8 ⟨by omega, by omega⟩]
    exact wrap_id (by unfold i64; omega)
  all_goals
    have hd : digC c = false := by assumption
    simp only [ge_iff_le, decide_eq_true_eq, decide_eq_false_iff_not] at *
    rw [if_neg (by rw [hd]; decide)]
    first
      | (rw [if_pos (by omega)]; exact (half_hex ⟨by omega, by omega⟩).trans (by omega))
      | (rw [if_neg (by omega), if_pos (by omega)]; exact (half_hex ⟨by omega, by omega⟩).trans (by omega))
      | (rw [if_neg (by omega), if_neg (by omega)])
def h_rhalf : List AV → CR
  | [.int .u8 c] => .yes (.int .i64 (halfRI c))
  | _ => .no
theorem h_rhalf_ok (xs : List AV) : CRok Tryz.prog GW 188 xs (h_rhalf xs) := by
  unfold h_rhalf
  split
  · rename_i c
    exact pc_rhalf c
  · trivial
def ER9c : Env := ER9b.add 188 h_rhalf
theorem ER9c_ok : EnvOk Tryz.prog ER9c := Env.add_ok ER9b_ok (by kernel_rfl) h_rhalf_ok
theorem half_same (b : UInt8) : halfRI (b.toNat : Int) = match halfS b with | some x => (x : Int) | none => -1 := by
  have hb := b.toNat_lt
  unfold halfRI halfS digC
  by_cases h1 : 48 ≤ b.toNat ∧ b.toNat ≤ 57
  · rw [if_pos (by simp; omega), if_pos h1]
    show (b.toNat : Int) - 48 = ((b.toNat - 48 : Nat) : Int)
    omega
  · rw [if_neg (by simp; omega), if_neg h1]
    by_cases h2 : 97 ≤ b.toNat ∧ b.toNat ≤ 102
    · rw [if_pos (by omega), if_pos h2]
      show (b.toNat : Int) - 87 = ((b.toNat - 87 : Nat) : Int)
      omega
    · rw [if_neg (by omega), if_neg h2]
      by_cases h3 : 65 ≤ b.toNat ∧ b.toNat ≤ 70
      · rw [if_pos (by omega), if_pos h3]
        show (b.toNat : Int) - 55 = ((b.toNat - 55 : Nat) : Int)
        omega
      · rw [if_neg (by omega), if_neg h3]
end Go.Proofs.YtejepcnoflahkaaGreatDoor
end

section
namespace Go.Proofs.YtejepcnoflahkaaGreatDoor
open Go Go.Ab Go.RowKit
set_option linter.unusedVariables false
set_option linter.unusedSimpArgs false
set_option maxRecDepth 100000
set_option maxHeartbeats 4000000

@[reducible] def cA (s : List UInt8) (i : Nat) : Int := ((s.getD i 0).toNat : Int)
theorem cA_eq {s : List UInt8} {i : Nat} {n : Nat} (hn : n < 256) (h : cA s i = (n : Int)) : s.getD i 0 = UInt8.ofNat n := by
  apply UInt8.toNat_inj.1
  have : (s.getD i 0).toNat = n := by exact_mod_cast h
  rw [this]; simp; omega
theorem sk_ws {s : List UInt8} {i : Nat} (h : i < s.length) (hc : cA s i = 9 ∨ cA s i = 10 ∨ cA s i = 13 ∨ cA s i = 32) : skipN false (s.drop i) = skipN false (s.drop (i + 1)) + 1 := by
  rw [drop_at h]
  have : onB wsC (s.getD i 0) = true := by
    show wsC (cA s i) = true
    rcases hc with h | h | h | h <;> rw [h] <;> rfl
  simp only [skipN, this]
theorem sk_rem {s : List UInt8} {i : Nat} (h : i < s.length) (hc : ¬ cA s i = 10) : skipN true (s.drop i) = skipN true (s.drop (i + 1)) + 1 := by
  rw [drop_at h]
  have : (s.getD i 0 != 10) = true := by
    rw [bne_iff_ne]
    intro e
    exact hc (by show ((s.getD i 0).toNat : Int) = 10; rw [e]; rfl)
  simp only [skipN, this]
theorem sk_nl {s : List UInt8} {i : Nat} (h : i < s.length) (hc : cA s i = 10) : skipN true (s.drop i) = skipN false (s.drop i) := by
  rw [sk_ws h (.inr (.inl hc)), drop_at h]
  have e : s.getD i 0 = 10 := cA_eq (n := 10) (by decide) hc
  rw [e]
  rfl
theorem sk_dash {s : List UInt8} {i : Nat} (h : i + 1 < s.length) (hc : cA s i = 45) (hd : cA s (i + 1) = 45) : skipN false (s.drop i) = skipN true (s.drop i) := by
  have e1 : s.getD i 0 = 45 := cA_eq (n := 45) (by decide) hc
  have e2 : s.getD (i + 1) 0 = 45 := cA_eq (n := 45) (by decide) hd
  rw [drop_at (by omega : i < s.length), e1, drop_at h, e2]
  rfl
theorem sk_end (s : List UInt8) (b : Bool) : skipN b (s.drop s.length) = 0 := by
  rw [List.drop_length]; cases b <;> rfl
theorem sk_no {s : List UInt8} {i : Nat} (h : i < s.length) (hw : ¬ (cA s i = 9 ∨ cA s i = 10 ∨ cA s i = 13 ∨ cA s i = 32)) (hd : ¬ (cA s i = 45 ∧ i + 1 < s.length ∧ cA s (i + 1) = 45)) : skipN false (s.drop i) = 0 := by
  rw [drop_at h]
  have h1 : onB wsC (s.getD i 0) = false := by
    show wsC (cA s i) = false
    simp only [wsC, Bool.or_eq_false_iff, beq_eq_false_iff_ne, ne_eq]
    omega
  have h2 : (s.getD i 0 == 45 && (s.drop (i + 1)).head? == some 45) = false := by
    rw [Bool.and_eq_false_iff]
    by_cases hc : cA s i = 45
    · right
      by_cases hl : i + 1 < s.length
      · rw [drop_at hl]
        have : ¬ s.getD (i + 1) 0 = 45 := fun e => hd ⟨hc, hl, by show ((s.getD (i + 1) 0).toNat : Int) = 45; rw [e]; rfl⟩
        simpa using this
      · rw [List.drop_eq_nil_of_le (by omega)]; rfl
    · left
      rw [beq_eq_false_iff_ne]
      intro e
      exact hc (by show ((s.getD i 0).toNat : Int) = 45; rw [e]; rfl)
  simp only [skipN, h1, h2]
@[reducible] def cV (s : List UInt8) (i : Int) : Int := ((s.getD i.toNat 0).toNat : Int)
set_option smartUnfolding false in
theorem pc_passed (s : List UInt8) (k : Nat) (hn : s.length ≤ 65536) (hk : k ≤ s.length) : PC Tryz.prog GW 106 [.str s, .int .i64 k] (.int .i64 ((k + skipN false (s.drop k) : Nat) : Int)) := by
  refine pc_fin ER9c_ok mixed (show Tryz.prog.funcs[106]? = some Tryz.f106 from rfl) ?_
  refine loop_fam ER9c_ok mixed (σ := Nat) (fun i => i ≤ s.length ∧ k + skipN false (s.drop k) = i + skipN false (s.drop i)) (fun i => s.length - i) k ⟨hk, rfl⟩ 0 0 [0] (fun i => [(1, .int .i64 i)]) [] (fun _ => []) (fun _ => []) ?_ ?_ ?_ ?_
  · rfl
  · rfl
  · refine Wk.mk' rfl rfl trivial ?_ trivial
    repeat' (refine BR.mk (fun _ => ?_) (fun _ => ?_))
    (any_goals first | exact trivial | exact Wv.any _ | (refine Wv.int ?_; with_reducible rfl) | (refine Wv.str ?_; with_reducible rfl) | (refine Wv.bool ?_; with_reducible rfl) | refine Wv.int ?_ | refine Wv.str ?_ | refine Wv.bool ?_ | exact Wv.same rfl)
    all_goals rfl
  · rintro i ⟨hi, hf⟩
    have w1 : IntKind.i64.wrap ((i : Int) + 1) = ((i + 1 : Nat) : Int) := (wrap_id (by unfold i64; omega)).trans (by omega)
    have v0 : cV s (i : Int) = cA s i := by show ((s.getD (i : Int).toNat 0).toNat : Int) = _; rw [Int.toNat_natCast]
    have v1 : cV s (IntKind.i64.wrap ((i : Int) + 1)) = cA s (i + 1) := by rw [w1]; show ((s.getD ((i + 1 : Nat) : Int).toNat 0).toNat : Int) = _; rw [Int.toNat_natCast]
    by_cases hE : i = s.length
    · have f0 : decide ((i : Int) < (s.length : Int)) = false := decide_eq_false (by omega)
      repeat' (refine BR.mk (fun h => ?_) (fun h => ?_) <;> try first | contradiction | with_reducible exact Bool.noConfusion (f0.symm.trans h))
      all_goals refine Fini.mk (congrArg (AV.int .i64) ?_)
      all_goals (rw [hf, hE, sk_end]; rfl)
    · have hlt : i < s.length := by omega
      have f9 : decide ((i : Int) < (s.length : Int)) = true := decide_eq_true (by omega)
      have z0 : (0 : Int) ≤ (i : Int) ∧ (i : Int) < (s.length : Int) := ⟨by omega, by omega⟩
      by_cases hw : cA s i = 9 ∨ cA s i = 10 ∨ cA s i = 13 ∨ cA s i = 32
      · have f1 : (cV s (i : Int) == 45) = false := by rw [v0, beq_eq_false_iff_ne]; omega
        have ex : (cV s (i : Int) == 9) = false → (cV s (i : Int) == 10) = false → (cV s (i : Int) == 13) = false → (cV s (i : Int) == 32) = false → False := by
          rw [v0]
          simp only [beq_eq_false_iff_ne, ne_eq]
          omega
        have fw := sk_ws hlt hw
        repeat' (refine BR.mk (fun h => ?_) (fun h => ?_) <;> try first | contradiction | with_reducible exact Bool.noConfusion (f9.symm.trans h) | with_reducible exact Bool.noConfusion (f1.symm.trans h) | with_reducible exact (ex (by assumption) (by assumption) (by assumption) h).elim)
        all_goals first | exact z0 | (rename_i a9 a10 a13; exact (ex a9 a10 a13 h).elim) | refine Again.fam (i + 1) ?_ ?_ ?_ ?_ ?_ ?_ ?_ ?_ ?_
        all_goals first | exact (show i + 1 ≤ s.length ∧ k + skipN false (s.drop k) = (i + 1) + skipN false (s.drop (i + 1)) from ⟨by omega, by omega⟩) | exact (show s.length - (i + 1) < s.length - i by omega) | exact trivial | rfl | skip
        all_goals repeat' (refine BR.mk (fun _ => ?_) (fun _ => ?_))
        all_goals (any_goals first | exact trivial | exact Wv.any _ | (refine Wv.int ?_; with_reducible rfl) | (refine Wv.str ?_; with_reducible rfl) | (refine Wv.bool ?_; with_reducible rfl) | refine Wv.int ?_ | refine Wv.str ?_ | refine Wv.bool ?_ | exact Wv.same rfl)
        all_goals exact w1
      · have nw : ∀ m : Int, (m = 9 ∨ m = 10 ∨ m = 13 ∨ m = 32) → (cV s (i : Int) == m) = false := fun m hm => by
          rw [v0, beq_eq_false_iff_ne]; omega
        have g1 := nw 9 (by omega)
        have g2 := nw 10 (by omega)
        have g3 := nw 13 (by omega)
        have g4 := nw 32 (by omega)
        by_cases hd : cA s i = 45 ∧ i + 1 < s.length ∧ cA s (i + 1) = 45
        · have e1 : (cV s (i : Int) == 45) = true := by rw [v0, beq_iff_eq]; exact hd.1
          have e2 : decide (IntKind.i64.wrap ((i : Int) + 1) < (s.length : Int)) = true := by rw [w1]; exact decide_eq_true (by omega)
          have e3 : (cV s (IntKind.i64.wrap ((i : Int) + 1)) == 45) = true := by rw [v1, beq_iff_eq]; exact hd.2.2
          have z1 : (0 : Int) ≤ IntKind.i64.wrap ((i : Int) + 1) ∧ IntKind.i64.wrap ((i : Int) + 1) < (s.length : Int) := by rw [w1]; omega
          repeat' (refine BR.mk (fun h => ?_) (fun h => ?_) <;> try first | contradiction | with_reducible exact Bool.noConfusion (f9.symm.trans h) | with_reducible exact Bool.noConfusion (e1.symm.trans h) | with_reducible exact Bool.noConfusion (e2.symm.trans h) | with_reducible exact Bool.noConfusion (e3.symm.trans h))
          all_goals first | exact z0 | exact z1 | skip
          have fd := sk_dash hd.2.1 hd.1 hd.2.2
          refine loop_fam ER9c_ok mixed (σ := Nat) (fun j => i ≤ j ∧ j ≤ s.length ∧ k + skipN false (s.drop k) = j + skipN true (s.drop j)) (fun j => s.length - j) i ⟨Nat.le_refl _, hi, by rw [← fd]; exact hf⟩ 0 0 [0] (fun j => [(1, .int .i64 j)]) [] (fun _ => []) (fun _ => []) ?_ ?_ ?_ ?_
          · rfl
          · rfl
          · refine Wk.mk' rfl rfl trivial ?_ trivial
            repeat' (refine BR.mk (fun _ => ?_) (fun _ => ?_))
            (any_goals first | exact trivial | exact Wv.any _ | (refine Wv.int ?_; with_reducible rfl) | (refine Wv.str ?_; with_reducible rfl) | (refine Wv.bool ?_; with_reducible rfl) | refine Wv.int ?_ | refine Wv.str ?_ | refine Wv.bool ?_ | exact Wv.same rfl)
            all_goals rfl
          · rintro j ⟨hij, hj, hg⟩
            have u1 : IntKind.i64.wrap ((j : Int) + 1) = ((j + 1 : Nat) : Int) := (wrap_id (by unfold i64; omega)).trans (by omega)
            have u0 : cV s (j : Int) = cA s j := by show ((s.getD (j : Int).toNat 0).toNat : Int) = _; rw [Int.toNat_natCast]
            by_cases hj1 : j = s.length
            · have f0 : decide ((j : Int) < (s.length : Int)) = false := decide_eq_false (by omega)
              repeat' (refine BR.mk (fun h => ?_) (fun h => ?_) <;> try first | contradiction | with_reducible exact Bool.noConfusion (f0.symm.trans h))
              all_goals refine Again.fam j ?_ ?_ ?_ ?_ ?_ ?_ ?_ ?_ ?_
              all_goals first | exact (show j ≤ s.length ∧ k + skipN false (s.drop k) = j + skipN false (s.drop j) from ⟨by omega, by rw [hg, hj1, sk_end, sk_end]⟩) | exact (show s.length - j < s.length - i by omega) | exact trivial | rfl | skip
              all_goals repeat' (refine BR.mk (fun _ => ?_) (fun _ => ?_))
              all_goals (any_goals first | exact trivial | exact Wv.any _ | (refine Wv.int ?_; with_reducible rfl) | (refine Wv.str ?_; with_reducible rfl) | (refine Wv.bool ?_; with_reducible rfl) | refine Wv.int ?_ | refine Wv.str ?_ | refine Wv.bool ?_ | exact Wv.same rfl)
              all_goals rfl
            · have f0 : decide ((j : Int) < (s.length : Int)) = true := decide_eq_true (by omega)
              have zj : (0 : Int) ≤ (j : Int) ∧ (j : Int) < (s.length : Int) := ⟨by omega, by omega⟩
              by_cases hc : cA s j = 10
              · have fc : (cV s (j : Int) != 10) = false := by rw [u0, hc]; rfl
                have fnl := sk_nl (by omega) hc
                have hne : j ≠ i := by rintro rfl; omega
                repeat' (refine BR.mk (fun h => ?_) (fun h => ?_) <;> try first | contradiction | with_reducible exact Bool.noConfusion (f0.symm.trans h) | with_reducible exact Bool.noConfusion (fc.symm.trans h))
                all_goals first | exact zj | refine Again.fam j ?_ ?_ ?_ ?_ ?_ ?_ ?_ ?_ ?_
                all_goals first | exact (show j ≤ s.length ∧ k + skipN false (s.drop k) = j + skipN false (s.drop j) from ⟨by omega, by rw [hg, fnl]⟩) | exact (show s.length - j < s.length - i by omega) | exact trivial | rfl | skip
                all_goals repeat' (refine BR.mk (fun _ => ?_) (fun _ => ?_))
                all_goals (any_goals first | exact trivial | exact Wv.any _ | (refine Wv.int ?_; with_reducible rfl) | (refine Wv.str ?_; with_reducible rfl) | (refine Wv.bool ?_; with_reducible rfl) | refine Wv.int ?_ | refine Wv.str ?_ | refine Wv.bool ?_ | exact Wv.same rfl)
                all_goals rfl
              · have fc : (cV s (j : Int) != 10) = true := by rw [u0, bne_iff_ne]; exact hc
                have fr := sk_rem (by omega) hc
                repeat' (refine BR.mk (fun h => ?_) (fun h => ?_) <;> try first | contradiction | with_reducible exact Bool.noConfusion (f0.symm.trans h) | with_reducible exact Bool.noConfusion (fc.symm.trans h))
                all_goals first | exact zj | refine Again.fam (j + 1) ?_ ?_ ?_ ?_ ?_ ?_ ?_ ?_ ?_
                all_goals first | exact (show i ≤ j + 1 ∧ j + 1 ≤ s.length ∧ k + skipN false (s.drop k) = (j + 1) + skipN true (s.drop (j + 1)) from ⟨by omega, by omega, by omega⟩) | exact (show s.length - (j + 1) < s.length - j by omega) | exact trivial | rfl | skip
                all_goals repeat' (refine BR.mk (fun _ => ?_) (fun _ => ?_))
                all_goals (any_goals first | exact trivial | exact Wv.any _ | (refine Wv.int ?_; with_reducible rfl) | (refine Wv.str ?_; with_reducible rfl) | (refine Wv.bool ?_; with_reducible rfl) | refine Wv.int ?_ | refine Wv.str ?_ | refine Wv.bool ?_ | exact Wv.same rfl)
                all_goals exact u1
        · have nd : (cV s (i : Int) == 45) = true → decide (IntKind.i64.wrap ((i : Int) + 1) < (s.length : Int)) = true → (cV s (IntKind.i64.wrap ((i : Int) + 1)) == 45) = true → False := by
            rw [v0, v1, w1]
            simp only [beq_iff_eq, decide_eq_true_eq]
            intro a b c
            exact hd ⟨a, by omega, c⟩
          have fn := sk_no hlt hw hd
          repeat' (refine BR.mk (fun h => ?_) (fun h => ?_) <;> try first | contradiction | with_reducible exact Bool.noConfusion (f9.symm.trans h) | with_reducible exact Bool.noConfusion (g1.symm.trans h) | with_reducible exact Bool.noConfusion (g2.symm.trans h) | with_reducible exact Bool.noConfusion (g3.symm.trans h) | with_reducible exact Bool.noConfusion (g4.symm.trans h) | with_reducible exact (nd (by assumption) (by assumption) h).elim)
          all_goals first | exact z0 | (with_reducible exact ⟨by rw [w1]; omega, of_decide_eq_true (by assumption)⟩) | refine Fini.mk (congrArg (AV.int .i64) ?_)
          all_goals (rw [hf, fn]; rfl)
def h_passed : List AV → CR
  | [.str s, .int .i64 a] => .need ((s.length ≤ 65536 ∧ 0 ≤ a) ∧ a ≤ (s.length : Int)) (.int .i64 ((a.toNat + skipN false (s.drop a.toNat) : Nat) : Int))
  | _ => .no
theorem h_passed_ok (xs : List AV) : CRok Tryz.prog GW 106 xs (h_passed xs) := by
  unfold h_passed
  split
  · rename_i s a
    rintro ⟨⟨h1, h2⟩, h3⟩
    have := pc_passed s a.toNat h1 (by omega)
    rw [show ((a.toNat : Nat) : Int) = a from by omega] at this
    exact this
  · trivial
def ER9d : Env := ER9c.add 106 h_passed
theorem ER9d_ok : EnvOk Tryz.prog ER9d := Env.add_ok ER9c_ok (by kernel_rfl) h_passed_ok
end Go.Proofs.YtejepcnoflahkaaGreatDoor
end

section
namespace Go.Proofs.YtejepcnoflahkaaGreatDoor
open Go Go.Ab Go.RowKit
set_option linter.unusedVariables false
set_option linter.unusedSimpArgs false
set_option maxRecDepth 100000
set_option maxHeartbeats 4000000

def inF (s : List UInt8) (f : Nat → List UInt8) : Nat → Nat → Bool
  | _, 0 => false
  | i, k + 1 => cond (f i == s) true (inF s f (i + 1) k)
theorem inF_step {s : List UInt8} {f : Nat → List UInt8} {i n : Nat} (h : i < n) : inF s f i (n - i) = cond (f i == s) true (inF s f (i + 1) (n - (i + 1))) := by
  rw [show n - i = (n - (i + 1)) + 1 from by omega]; rfl
theorem pc_in0 (s : List UInt8) (n : Nat) (f : Nat → List UInt8) (hn : n ≤ 65536) : PC Tryz.prog GW 154 [.str s, .sl .no n (fun i => .str (f i))] (.bool (inF s f 0 n)) := by
  refine pc_fin ER9d_ok mixed (show Tryz.prog.funcs[154]? = some Tryz.f154 from rfl) ?_
  refine loop_fam ER9d_ok mixed (σ := Nat) (fun i => i ≤ n ∧ inF s f 0 n = inF s f i (n - i)) (fun i => n - i) 0 ⟨Nat.zero_le _, rfl⟩ 0 0 [0, 1] (fun i => [(5, .int .i64 i)]) [] (fun _ => []) (fun _ => []) ?_ ?_ ?_ ?_
  · rfl
  · rfl
  · refine Wk.mk' rfl rfl trivial ?_ trivial
    repeat' (refine BR.mk (fun _ => ?_) (fun _ => ?_))
    any_goals first | exact trivial | exact Wv.any _ | (refine Wv.int ?_; with_reducible rfl) | (refine Wv.str ?_; with_reducible rfl) | (refine Wv.bool ?_; with_reducible rfl) | refine Wv.int ?_ | refine Wv.str ?_ | refine Wv.bool ?_ | exact Wv.same rfl
    all_goals rfl
  · rintro i ⟨hi, hf⟩
    have w1 : i < n → IntKind.i64.wrap ((i : Int) + 1) = ((i + 1 : Nat) : Int) := fun h => (wrap_id (by unfold i64; omega)).trans (by omega)
    repeat' (refine BR.mk (fun h => ?_) (fun h => ?_) <;> try contradiction)
    · rename_i h1
      have := of_decide_eq_true h1
      exact ⟨⟨by omega, by omega⟩, rfl, rfl⟩
    · rename_i h1 _
      have := of_decide_eq_true h1
      refine Fini.mk (congrArg AV.bool ?_)
      have h' : (f i == s) = true := h
      rw [hf, inF_step (by omega), h']
      rfl
    · rename_i h1 _
      have := of_decide_eq_true h1
      have h2 : i < n := by omega
      have h' : (f i == s) = false := h
      have hs := inF_step (s := s) (f := f) h2
      rw [h'] at hs
      refine Again.fam (i + 1) ⟨h2, hf.trans hs⟩ (by omega) rfl rfl rfl rfl trivial ?_ trivial
      repeat' (refine BR.mk (fun _ => ?_) (fun _ => ?_))
      any_goals first | exact trivial | exact Wv.any _ | (refine Wv.int ?_; with_reducible rfl) | (refine Wv.str ?_; with_reducible rfl) | (refine Wv.bool ?_; with_reducible rfl) | refine Wv.int ?_ | refine Wv.str ?_ | refine Wv.bool ?_ | exact Wv.same rfl
      all_goals exact w1 h2
    · have := of_decide_eq_false h
      refine Fini.mk (congrArg AV.bool ?_)
      have e : i = n := by omega
      subst e
      rw [hf, Nat.sub_self]
      rfl
end Go.Proofs.YtejepcnoflahkaaGreatDoor
end

section
namespace Go.Proofs.YtejepcnoflahkaaGreatDoor
open Go Go.Ab Go.RowKit
set_option linter.unusedVariables false
set_option linter.unusedSimpArgs false
set_option maxRecDepth 100000
set_option maxHeartbeats 4000000

def ER9p : Env := { ER9d with hp := true }
theorem ER9p_ok : EnvOk Tryz.prog ER9p := ⟨ER9d_ok.g, ER9d_ok.s, ER9d_ok.t, ER9d_ok.h⟩
def smF (s : List UInt8) (i j : Nat) : AV := .int .u8 (cond (Nat.blt j i) ((small (s.getD j 0)).toNat : Int) ((s.getD j 0).toNat : Int))
theorem smF_b (s : List UInt8) (i j : Nat) : isByte (smF s i j) := by
  unfold smF
  cases Nat.blt j i <;> exact isB _
theorem blt_t {i j : Nat} (h : j < i) : Nat.blt j i = true := by rw [Nat.blt, Nat.ble_eq]; exact h
theorem blt_f {i j : Nat} (h : ¬ j < i) : Nat.blt j i = false := Bool.eq_false_iff.2 fun e => h (Nat.le_of_ble_eq_true e)
theorem smF_no {s : List UInt8} {i j : Nat} (h : j = i → small (s.getD j 0) = s.getD j 0) : smF s i j = smF s (i + 1) j := by
  unfold smF
  by_cases h1 : j < i
  · rw [blt_t h1, blt_t (by omega)]
  · by_cases h2 : j = i
    · rw [blt_f h1, blt_t (by omega)]
      show AV.int .u8 _ = AV.int .u8 _
      simp only [cond_true, cond_false]
      rw [h h2]
    · rw [blt_f h1, blt_f (by omega)]
theorem smF_end (s : List UInt8) : (List.range s.length).map (fun j => byteOfA (smF s s.length (0 + j))) = lowS s := by
  apply List.ext_getElem
  · simp [lowS]
  · intro j h1 h2
    simp only [List.length_map, List.length_range] at h1
    simp only [List.getElem_map, List.getElem_range, lowS, Nat.zero_add]
    unfold smF
    rw [blt_t h1]
    simp only [cond_true, byteOfA, List.getD_eq_getElem?_getD, List.getElem?_eq_getElem h1, Option.getD_some, Int.toNat_natCast]
    simp
@[reducible] def cS (s : List UInt8) (i : Nat) : Int := cond (Nat.blt (0 + ((i : Nat) : Int).toNat) i) ((small (s.getD (0 + ((i : Nat) : Int).toNat) 0)).toNat : Int) ((s.getD (0 + ((i : Nat) : Int).toNat) 0).toNat : Int)
theorem small_no {s : List UInt8} {i : Nat} (h : ¬ (65 ≤ cA s i ∧ cA s i ≤ 90)) : small (s.getD i 0) = s.getD i 0 := by
  unfold small
  rw [if_neg (by show ¬ (65 ≤ (s.getD i 0).toNat ∧ (s.getD i 0).toNat ≤ 90); intro hh; exact h ⟨by show (65 : Int) ≤ ((s.getD i 0).toNat : Int); omega, by show ((s.getD i 0).toNat : Int) ≤ 90; omega⟩)]
theorem small_up {s : List UInt8} {i : Nat} (h : 65 ≤ cA s i ∧ cA s i ≤ 90) : IntKind.u8.wrap (cA s i + 32) = ((small (s.getD i 0)).toNat : Int) := by
  have h1 : 65 ≤ (s.getD i 0).toNat ∧ (s.getD i 0).toNat ≤ 90 := by
    have a : (65 : Int) ≤ ((s.getD i 0).toNat : Int) := h.1
    have b : ((s.getD i 0).toNat : Int) ≤ 90 := h.2
    exact ⟨by omega, by omega⟩
  unfold small
  rw [if_pos h1, wrap8 ⟨by omega, by omega⟩, UInt8.toNat_add]
  show ((s.getD i 0).toNat : Int) + 32 = (((s.getD i 0).toNat + 32) % 256 : Nat)
  omega
theorem smF_st {s : List UInt8} {i : Nat} (h : 65 ≤ cA s i ∧ cA s i ≤ 90) (j : Nat) : upd (smF s i) (0 + ((i : Nat) : Int).toNat) (.int .u8 (IntKind.u8.wrap (cS s i + 32))) j = smF s (i + 1) j := by
  have ec : cS s i = cA s i := by
    unfold cS
    rw [Int.toNat_natCast, Nat.zero_add, blt_f (Nat.lt_irrefl i)]; rfl
  rw [ec, small_up h, Int.toNat_natCast, Nat.zero_add]
  by_cases e : j = i
  · subst e
    rw [upd_same]
    unfold smF
    rw [blt_t (Nat.lt_succ_self j)]; rfl
  · rw [upd_ne _ _ e]
    exact smF_no (fun e' => absurd e' e)
theorem pc_small (s : List UInt8) (hn : s.length ≤ 65536) : PC Tryz.prog GW 153 [.str s] (.str (lowS s)) := by
  refine pc_fin ER9p_ok mixed (show Tryz.prog.funcs[153]? = some Tryz.f153 from rfl) ?_
  refine loop_fam ER9p_ok mixed (σ := Nat) (fun i => i ≤ s.length) (fun i => s.length - i) 0 (Nat.zero_le _) 1 0 [0, 2, 3] (fun i => [(4, .int .i64 i)]) [] (fun i => [(0, .arr 5 1 s.length (smF s i))]) (fun _ => []) ?_ ?_ ?_ ?_
  · rfl
  · rfl
  · refine Wk.mk' rfl rfl trivial ?_ ?_
    · repeat' (refine BR.mk (fun _ => ?_) (fun _ => ?_))
      (any_goals first | exact trivial | exact Wv.any _ | (refine Wv.int ?_; with_reducible rfl) | (refine Wv.str ?_; with_reducible rfl) | (refine Wv.bool ?_; with_reducible rfl) | refine Wv.int ?_ | refine Wv.str ?_ | refine Wv.bool ?_ | exact Wv.same rfl)
      all_goals rfl
    · refine BR.mk (fun _ => ?_) (fun _ => trivial)
      exact ⟨Nat.le_of_ble_eq_true rfl, .inl ⟨rfl, _, rfl, rfl, rfl, Nat.le_refl _, fun j hj => wv_byte' (isB _) rfl⟩⟩
  · rintro i hi
    have w1 : i < s.length → IntKind.i64.wrap ((i : Int) + 1) = ((i + 1 : Nat) : Int) := fun h => (wrap_id (by unfold i64; omega)).trans (by omega)
    have ec : cS s i = cA s i := by
      unfold cS
      rw [Int.toNat_natCast, Nat.zero_add]
      have : Nat.blt i i = false := Bool.eq_false_iff.2 fun h => by have := Nat.le_of_ble_eq_true h; omega
      rw [this]; rfl
    by_cases hE : i = s.length
    · have f9 : decide ((i : Int) < (s.length : Int)) = false := decide_eq_false (by omega)
      repeat' (refine BR.mk (fun h => ?_) (fun h => ?_) <;> try first | contradiction | with_reducible exact Bool.noConfusion (f9.symm.trans h))
      · exact ⟨rfl, rfl, by omega, fun j hj => trivial⟩
      · refine Fini.mk (congrArg AV.str ?_)
        rw [hE]
        exact smF_end s
    · have hlt : i < s.length := by omega
      have f9 : decide ((i : Int) < (s.length : Int)) = true := decide_eq_true (by omega)
      have z0 : ((0 : Int) ≤ (i : Int) ∧ (i : Int) < (s.length : Int)) ∧ 1 = 1 := ⟨⟨by omega, by omega⟩, rfl⟩
      have z1 : 0 + ((i : Nat) : Int).toNat < s.length ∧ 1 = 1 := ⟨by rw [Int.toNat_natCast]; omega, rfl⟩
      by_cases hu : 65 ≤ cA s i ∧ cA s i ≤ 90
      · have g1 : decide (cS s i ≥ 65) = true := by rw [ec]; exact decide_eq_true hu.1
        have g2 : decide (cS s i ≤ 90) = true := by rw [ec]; exact decide_eq_true hu.2
        repeat' (refine BR.mk (fun h => ?_) (fun h => ?_) <;> try first | contradiction | with_reducible exact Bool.noConfusion (f9.symm.trans h) | with_reducible exact Bool.noConfusion (g1.symm.trans h) | with_reducible exact Bool.noConfusion (g2.symm.trans h))
        all_goals first | exact z0 | exact z1 | exact trivial | exact Fini.mk rfl | skip
        all_goals refine Again.fam (i + 1) (show i + 1 ≤ s.length by omega) (show s.length - (i + 1) < s.length - i by omega) rfl rfl rfl rfl trivial ?_ ?_
        all_goals first | (refine BR.mk (fun _ => ⟨Nat.le_of_ble_eq_true rfl, .inl ⟨rfl, _, rfl, rfl, rfl, Nat.le_refl _, fun j hj => wv_byte' (smF_b _ _ _) (smF_st hu j)⟩⟩) (fun _ => trivial)) | skip
        all_goals repeat' (refine BR.mk (fun _ => ?_) (fun _ => ?_))
        all_goals (any_goals first | exact trivial | exact Wv.any _ | (refine Wv.int ?_; with_reducible rfl) | (refine Wv.str ?_; with_reducible rfl) | (refine Wv.bool ?_; with_reducible rfl) | refine Wv.int ?_ | refine Wv.str ?_ | refine Wv.bool ?_ | exact Wv.same rfl)
        all_goals exact w1 hlt
      · have nd : decide (cS s i ≥ 65) = true → decide (cS s i ≤ 90) = true → False := by
          rw [ec]
          intro a b
          exact hu ⟨of_decide_eq_true a, of_decide_eq_true b⟩
        repeat' (refine BR.mk (fun h => ?_) (fun h => ?_) <;> try first | contradiction | with_reducible exact Bool.noConfusion (f9.symm.trans h) | with_reducible exact (nd (by assumption) h).elim)
        all_goals first | exact z0 | exact z1 | exact trivial | exact Fini.mk rfl | skip
        all_goals refine Again.fam (i + 1) (show i + 1 ≤ s.length by omega) (show s.length - (i + 1) < s.length - i by omega) rfl rfl rfl rfl trivial ?_ ?_
        all_goals first | (refine BR.mk (fun _ => ⟨Nat.le_of_ble_eq_true rfl, .inl ⟨rfl, _, rfl, rfl, rfl, Nat.le_refl _, fun j hj => wv_byte' (smF_b _ _ _) (smF_no (fun e => by rw [e]; exact small_no hu))⟩⟩) (fun _ => trivial)) | skip
        all_goals repeat' (refine BR.mk (fun _ => ?_) (fun _ => ?_))
        all_goals (any_goals first | exact trivial | exact Wv.any _ | (refine Wv.int ?_; with_reducible rfl) | (refine Wv.str ?_; with_reducible rfl) | (refine Wv.bool ?_; with_reducible rfl) | refine Wv.int ?_ | refine Wv.str ?_ | refine Wv.bool ?_ | exact Wv.same rfl)
        all_goals exact w1 hlt
def h_small : List AV → CR
  | [.str s] => .need (s.length ≤ 65536) (.str (lowS s))
  | _ => .no
theorem h_small_ok (xs : List AV) : CRok Tryz.prog GW 153 xs (h_small xs) := by
  unfold h_small
  split
  · rename_i s
    exact fun hn => pc_small s hn
  · trivial
def ER9s : Env := ER9d.add 153 h_small
theorem ER9s_ok : EnvOk Tryz.prog ER9s := Env.add_ok ER9d_ok (by kernel_rfl) h_small_ok
end Go.Proofs.YtejepcnoflahkaaGreatDoor
end

section
namespace Go.Proofs.YtejepcnoflahkaaGreatDoor
open Go Go.Ab
set_option linter.unusedVariables false
set_option linter.unusedSimpArgs false
set_option maxRecDepth 100000
set_option maxHeartbeats 8000000

def qS (x : Option (List UInt8 × Nat)) : List UInt8 := match x with
  | some p => p.1
  | none => []
def qT (x : Option (List UInt8 × Nat)) (k : Nat) : Int := match x with
  | some p => ((p.2 + k : Nat) : Int)
  | none => -1
def pairQ (x : Option (List UInt8 × Nat)) (k : Nat) : AV := .tup [.str (qS x), .int .i64 (qT x k)]
theorem getD_drop {s : List UInt8} {i : Nat} (h : i < s.length) : s.drop i = s.getD i 0 :: s.drop (i + 1) := drop_at h
theorem q_ne {s : List UInt8} {i : Nat} (h : i < s.length) (hb : s.getD i 0 ≠ 39) : quoS (s.drop i) = more [s.getD i 0] 1 (quoS (s.drop (i + 1))) := by
  rw [getD_drop h]
  have : (s.getD i 0 == 39) = false := by simpa using hb
  rw [quoS.eq_def]
  simp only [this]
  cases quoS (s.drop (i + 1)) <;> rfl
theorem q_two {s : List UInt8} {i : Nat} (h : i + 1 < s.length) (hb : s.getD i 0 = 39) (hc : s.getD (i + 1) 0 = 39) : quoS (s.drop i) = more [39] 2 (quoS (s.drop (i + 2))) := by
  rw [getD_drop (by omega), getD_drop h, hb, hc]
  rw [quoS.eq_def]
  simp only [beq_self_eq_true]
  cases quoS (s.drop (i + 1 + 1)) <;> rfl
theorem q_end {s : List UInt8} {i : Nat} (h : i < s.length) (hb : s.getD i 0 = 39) (hc : ¬ (i + 1 < s.length ∧ s.getD (i + 1) 0 = 39)) : quoS (s.drop i) = some ([], 1) := by
  rw [getD_drop h, hb]
  by_cases h1 : i + 1 < s.length
  · rw [getD_drop h1]
    have : (s.getD (i + 1) 0 == 39) = false := by simpa using fun e => hc ⟨h1, e⟩
    rw [quoS.eq_def]
    simp only [beq_self_eq_true, this]
  · rw [List.drop_of_length_le (by omega)]
    rfl
@[reducible] def bA (s : List UInt8) (i : Int) : Int := ((s.getD i.toNat 0).toNat : Int)
theorem bA_is (s : List UInt8) (i : Nat) : bA s (i : Int) = ((s.getD i 0).toNat : Int) := by unfold bA; rw [Int.toNat_natCast]
theorem eq39 (b : UInt8) : (((b.toNat : Nat) : Int) == 39) = decide (b = 39) := by
  have : ∀ n : Fin 256, ((n.val : Int) == 39) = decide (UInt8.ofNat n.val = 39) := by decide +kernel
  have := this ⟨b.toNat, b.toNat_lt⟩
  simpa using this
theorem ne39 (b : UInt8) : (((b.toNat : Nat) : Int) != 39) = !decide (b = 39) := by rw [bne, eq39]
set_option smartUnfolding false in
theorem pc_rquoted (s : List UInt8) (k : Nat) (hk : k < s.length) (hn : s.length ≤ 65536) : PC Tryz.prog GW 150 [.str s, .int .i64 k] (pairQ (quoS (s.drop (k + 1))) (k + 1)) := by
  refine pc_fin ER9s_ok mixed (show Tryz.prog.funcs[150]? = some Tryz.f150 from rfl) ?_
  refine loop_fam ER9s_ok mixed (σ := Nat × List UInt8) (fun p => k + 1 ≤ p.1 ∧ p.1 ≤ s.length ∧ p.2.length ≤ p.1 ∧ quoS (s.drop (k + 1)) = more p.2 (p.1 - (k + 1)) (quoS (s.drop p.1))) (fun p => s.length - p.1) (k + 1, []) ⟨Nat.le_refl _, hk, Nat.zero_le _, by rw [Nat.sub_self]; exact (more_nil _).symm⟩ 0 1 [0, 1] (fun p => [(6, .sl (.tok 0) p.2.length (strF p.2)), (7, .int .i64 p.1)]) [] (fun _ => []) (fun p => [(0, p.2.length, 5)]) ?_ ?_ ?_ ?_
  · rfl
  · rfl
  · refine Wk.mk' rfl rfl trivial ?_ trivial
    repeat' (refine BR.mk (fun _ => ?_) (fun _ => ?_))
    any_goals first | exact trivial | exact Wv.any _ | (refine Wv.int ?_; with_reducible rfl) | (refine Wv.str ?_; with_reducible rfl) | (refine Wv.bool ?_; with_reducible rfl) | refine Wv.int ?_ | refine Wv.str ?_ | refine Wv.bool ?_ | exact Wv.same rfl
    · exact Wv.sl rfl (fun i hi => absurd hi (Nat.not_lt_zero i)) ⟨Nat.le_refl _, _, rfl⟩
    · rw [wrap_id (by unfold i64; omega)]; rfl
  · rintro ⟨i, o⟩ ⟨h1, h2, ho, hf⟩
    simp only at h1 h2 ho hf
    by_cases hil : i < s.length
    · have k1 : decide ((i : Int) < (s.length : Int)) = true := decide_eq_true (by omega)
      have z0 : (0 : Int) ≤ (i : Int) ∧ (i : Int) < (s.length : Int) := ⟨by omega, by omega⟩
      have w1 : IntKind.i64.wrap ((i : Int) + 1) = ((i + 1 : Nat) : Int) := (wrap_id (by unfold i64; omega)).trans (by omega)
      have w2 : IntKind.i64.wrap (((i + 1 : Nat) : Int) + 1) = ((i + 2 : Nat) : Int) := (wrap_id (by unfold i64; omega)).trans (by omega)
      by_cases hb : s.getD i 0 = 39
      · have g1 : (bA s (i : Int) != 39) = false := by rw [bA_is, ne39, hb]; decide
        by_cases hc : i + 1 < s.length ∧ s.getD (i + 1) 0 = 39
        · have g2 : decide (IntKind.i64.wrap ((i : Int) + 1) < (s.length : Int)) = true := by rw [w1]; exact decide_eq_true (by omega)
          have g3 : (bA s (IntKind.i64.wrap ((i : Int) + 1)) == 39) = true := by rw [w1, bA_is, eq39]; exact decide_eq_true hc.2
          repeat' (refine BR.mk (fun h => ?_) (fun h => ?_) <;> first | with_reducible exact Bool.noConfusion h | with_reducible exact Bool.noConfusion (k1.symm.trans h) | with_reducible exact Bool.noConfusion (g1.symm.trans h) | with_reducible exact Bool.noConfusion (g2.symm.trans h) | with_reducible exact Bool.noConfusion (g3.symm.trans h) | skip)
          · exact z0
          · rw [w1]; exact ⟨by omega, by show ((i + 1 : Nat) : Int) < (s.length : Int); omega⟩
          · exact ⟨rfl, by decide, rfl, by show (o.length + 1) * 1 ≤ _; omega, by show o.length + 1 ≤ _; omega, fun _ _ => rfl, all1 rfl, all1 rfl⟩
          · refine Again.fam (i + 2, o ++ [39]) ⟨by show k + 1 ≤ i + 2; omega, by show i + 2 ≤ s.length; omega, by show (o ++ [39]).length ≤ i + 2; simp; omega, ?_⟩ (by show s.length - (i + 2) < s.length - i; omega) rfl rfl rfl rfl ⟨fun _ => congrArg (fun n => some (n, _)) (by simp), fun _ => trivial⟩ ?_ trivial
            · show _ = more (o ++ [39]) (i + 2 - (k + 1)) (quoS (s.drop (i + 2)))
              rw [hf, q_two hc.1 hb hc.2, more_more]
              congr 1
              omega
            · repeat' (refine BR.mk (fun _ => ?_) (fun _ => ?_))
              any_goals first | exact trivial | exact Wv.any _ | (refine Wv.int ?_; with_reducible rfl) | (refine Wv.str ?_; with_reducible rfl) | (refine Wv.bool ?_; with_reducible rfl) | refine Wv.int ?_ | refine Wv.str ?_ | refine Wv.bool ?_ | exact Wv.same rfl
              · refine Wv.sl (by simp) (fun j hj => ?_) ⟨rfl, (show (0 : Nat) < min 1 1 from by decide)⟩
                refine join_str o [39] (all1 ?_) j (by simpa using hj)
                rfl
              · show IntKind.i64.wrap (IntKind.i64.wrap ((i : Int) + 1) + 1) = ((i + 2 : Nat) : Int)
                rw [w1, w2]
        · have nd : decide (IntKind.i64.wrap ((i : Int) + 1) < (s.length : Int)) = true → (bA s (IntKind.i64.wrap ((i : Int) + 1)) == 39) = true → False := fun a b => by
            rw [w1, bA_is, eq39] at b
            rw [w1] at a
            exact hc ⟨by have := of_decide_eq_true a; omega, of_decide_eq_true b⟩
          have e2 : quoS (s.drop (k + 1)) = some (o, 1 + (i - (k + 1))) := by rw [hf, q_end hil hb hc]; simp [more]
          repeat' (refine BR.mk (fun h => ?_) (fun h => ?_) <;> first | with_reducible exact Bool.noConfusion h | with_reducible exact Bool.noConfusion (k1.symm.trans h) | with_reducible exact Bool.noConfusion (g1.symm.trans h) | with_reducible exact (nd (by assumption) h).elim | skip)
          all_goals first | with_reducible exact z0 | exact fun _ _ => trivial | (with_reducible exact ⟨by rw [w1]; omega, of_decide_eq_true (by assumption)⟩) | skip
          all_goals refine Fini.mk ?_
          all_goals rw [e2]
          all_goals exact pairE (txtA_str o) (w1.trans (by show ((i + 1 : Nat) : Int) = ((1 + (i - (k + 1)) + (k + 1) : Nat) : Int); omega))
      · have g1 : (bA s (i : Int) != 39) = true := by rw [bA_is, ne39, decide_eq_false hb]; rfl
        repeat' (refine BR.mk (fun h => ?_) (fun h => ?_) <;> first | with_reducible exact Bool.noConfusion h | with_reducible exact Bool.noConfusion (k1.symm.trans h) | with_reducible exact Bool.noConfusion (g1.symm.trans h) | skip)
        · exact z0
        · exact z0
        · exact ⟨rfl, by decide, rfl, by show (o.length + 1) * 1 ≤ _; omega, by show o.length + 1 ≤ _; omega, fun _ _ => rfl, all1 rfl, all1 rfl⟩
        · refine Again.fam (i + 1, o ++ [s.getD i 0]) ⟨by show k + 1 ≤ i + 1; omega, by show i + 1 ≤ s.length; omega, by show (o ++ [s.getD i 0]).length ≤ i + 1; simp; omega, ?_⟩ (by show s.length - (i + 1) < s.length - i; omega) rfl rfl rfl rfl ⟨fun _ => congrArg (fun n => some (n, _)) (by simp), fun _ => trivial⟩ ?_ trivial
          · show _ = more (o ++ [s.getD i 0]) (i + 1 - (k + 1)) (quoS (s.drop (i + 1)))
            rw [hf, q_ne hil hb, more_more]
            congr 1
            omega
          · repeat' (refine BR.mk (fun _ => ?_) (fun _ => ?_))
            any_goals first | exact trivial | exact Wv.any _ | (refine Wv.int ?_; with_reducible rfl) | (refine Wv.str ?_; with_reducible rfl) | (refine Wv.bool ?_; with_reducible rfl) | refine Wv.int ?_ | refine Wv.str ?_ | refine Wv.bool ?_ | exact Wv.same rfl
            · refine Wv.sl (by simp) (fun j hj => ?_) ⟨rfl, (show (0 : Nat) < min 1 1 from by decide)⟩
              refine join_str o [s.getD i 0] (all1 ?_) j (by simpa using hj)
              rfl
            · exact w1
    · have k1 : decide ((i : Int) < (s.length : Int)) = false := decide_eq_false (by omega)
      have hq : quoS (s.drop (k + 1)) = none := by rw [hf, List.drop_of_length_le (by omega)]; rfl
      rw [hq]
      repeat' (refine BR.mk (fun h => ?_) (fun h => ?_) <;> first | with_reducible exact Bool.noConfusion h | with_reducible exact Bool.noConfusion (k1.symm.trans h) | skip)
      exact Fini.mk rfl
def h_rquoted : List AV → CR
  | [.str s, .int .i64 a] => .need ((s.length ≤ 65536 ∧ 0 ≤ a) ∧ a < (s.length : Int)) (pairQ (quoS (s.drop (a.toNat + 1))) (a.toNat + 1))
  | _ => .no
theorem h_rquoted_ok (xs : List AV) : CRok Tryz.prog GW 150 xs (h_rquoted xs) := by
  unfold h_rquoted
  split
  · rename_i s a
    rintro ⟨⟨h1, h2⟩, h3⟩
    have := pc_rquoted s a.toNat (by omega) h1
    rwa [show ((a.toNat : Nat) : Int) = a from by omega] at this
  · trivial
noncomputable def ER9q : Env := ER9s.add 150 h_rquoted
theorem ER9q_ok : EnvOk Tryz.prog ER9q := Env.add_ok ER9s_ok (by kernel_rfl) h_rquoted_ok
theorem b_two {s : List UInt8} {i x y : Nat} (h : i + 1 < s.length) (hx : halfS (s.getD i 0) = some x) (hy : halfS (s.getD (i + 1) 0) = some y) : bloS (s.drop i) = more [UInt8.ofNat (16 * x + y)] 2 (bloS (s.drop (i + 2))) := by
  rw [getD_drop (by omega), getD_drop h]
  exact bloS_two (fun e => by rw [e, show halfS 39 = none from by decide] at hx; cases hx) hx hy
theorem b_end {s : List UInt8} {i : Nat} (h : i < s.length) (hb : s.getD i 0 = 39) : bloS (s.drop i) = some ([], 1) := by
  rw [getD_drop h, hb]; rfl
theorem b_stop {s : List UInt8} {i : Nat} (hs : ¬ (i + 1 < s.length ∧ (halfS (s.getD i 0)).isSome ∧ (halfS (s.getD (i + 1) 0)).isSome)) (he : ¬ (i < s.length ∧ s.getD i 0 = 39)) : bloS (s.drop i) = none := by
  by_cases h : i < s.length
  · have hb : s.getD i 0 ≠ 39 := fun e => he ⟨h, e⟩
    by_cases h1 : i + 1 < s.length
    · rw [getD_drop h, getD_drop h1]
      refine bloS_no hb ?_
      cases e1 : (halfS (s.getD i 0)).isSome with
      | false => exact .inl rfl
      | true =>
        cases e2 : (halfS (s.getD (i + 1) 0)).isSome with
        | false => exact .inr rfl
        | true => exact absurd ⟨h1, e1, e2⟩ hs
    · rw [getD_drop h, List.drop_of_length_le (by omega)]
      exact bloS_one hb
  · rw [List.drop_of_length_le (by omega)]; rfl
theorem half_ge (b : UInt8) : decide (halfRI (b.toNat : Int) ≥ 0) = (halfS b).isSome := by
  rw [half_same]
  cases halfS b with
  | none => rfl
  | some x => exact decide_eq_true (Int.natCast_nonneg x)
theorem half_lt16 (b : UInt8) {x : Nat} (h : halfS b = some x) : x < 16 := by
  have := (half_is b).2.2
  rw [h] at this
  exact this
theorem byte_put {x y : Nat} (hx : x < 16) (hy : y < 16) : IntKind.u8.wrap (IntKind.i64.wrap (IntKind.i64.wrap (16 * (x : Int)) + (y : Int))) = (((UInt8.ofNat (16 * x + y)).toNat : Nat) : Int) := by
  rw [wrap_id (n := 16 * (x : Int)) (by unfold i64; omega), wrap_id (by unfold i64; omega), wrap8 ⟨by omega, by omega⟩, UInt8.toNat_ofNat']
  omega
set_option smartUnfolding false in
theorem pc_rblob (s : List UInt8) (k : Nat) (hk : k + 2 ≤ s.length) (hn : s.length ≤ 65536) : PC Tryz.prog GW 149 [.str s, .int .i64 k] (pairQ (bloS (s.drop (k + 2))) (k + 2)) := by
  refine pc_fin ER9q_ok mixed (show Tryz.prog.funcs[149]? = some Tryz.f149 from rfl) ?_
  refine loop_fam ER9q_ok mixed (σ := Nat × List UInt8) (fun p => k + 2 ≤ p.1 ∧ p.1 ≤ s.length ∧ p.2.length ≤ p.1 ∧ bloS (s.drop (k + 2)) = more p.2 (p.1 - (k + 2)) (bloS (s.drop p.1))) (fun p => s.length - p.1) (k + 2, []) ⟨Nat.le_refl _, hk, Nat.zero_le _, by rw [Nat.sub_self]; exact (more_nil _).symm⟩ 0 1 [0, 1] (fun p => [(6, .sl (.tok 0) p.2.length (strF p.2)), (7, .int .i64 p.1)]) [] (fun _ => []) (fun p => [(0, p.2.length, 5)]) ?_ ?_ ?_ ?_
  · rfl
  · rfl
  · refine Wk.mk' rfl rfl trivial ?_ trivial
    repeat' (refine BR.mk (fun _ => ?_) (fun _ => ?_))
    any_goals first | exact trivial | exact Wv.any _ | (refine Wv.int ?_; with_reducible rfl) | (refine Wv.str ?_; with_reducible rfl) | (refine Wv.bool ?_; with_reducible rfl) | refine Wv.int ?_ | refine Wv.str ?_ | refine Wv.bool ?_ | exact Wv.same rfl
    · exact Wv.sl rfl (fun i hi => absurd hi (Nat.not_lt_zero i)) ⟨Nat.le_refl _, _, rfl⟩
    · rw [wrap_id (by unfold i64; omega)]; rfl
  · rintro ⟨i, o⟩ ⟨h1, h2, ho, hf⟩
    simp only at h1 h2 ho hf
    have w1 : IntKind.i64.wrap ((i : Int) + 1) = ((i + 1 : Nat) : Int) := (wrap_id (by unfold i64; omega)).trans (by omega)
    have w2 : IntKind.i64.wrap ((i : Int) + 2) = ((i + 2 : Nat) : Int) := (wrap_id (by unfold i64; omega)).trans (by omega)
    by_cases hgo : i + 1 < s.length ∧ (halfS (s.getD i 0)).isSome ∧ (halfS (s.getD (i + 1) 0)).isSome
    · obtain ⟨hl, hx, hy⟩ := hgo
      have g1 : decide (IntKind.i64.wrap ((i : Int) + 1) < (s.length : Int)) = true := by rw [w1]; exact decide_eq_true (by omega)
      have g2 : decide (halfRI (bA s (i : Int)) ≥ 0) = true := by rw [bA_is, half_ge]; exact hx
      have g3 : decide (halfRI (bA s (IntKind.i64.wrap ((i : Int) + 1))) ≥ 0) = true := by rw [w1, bA_is, half_ge]; exact hy
      have z0 : (0 : Int) ≤ (i : Int) ∧ (i : Int) < (s.length : Int) := ⟨by omega, by omega⟩
      have z1 : (0 : Int) ≤ IntKind.i64.wrap ((i : Int) + 1) ∧ IntKind.i64.wrap ((i : Int) + 1) < (s.length : Int) := by rw [w1]; omega
      obtain ⟨x, hx'⟩ := Option.isSome_iff_exists.1 hx
      obtain ⟨y, hy'⟩ := Option.isSome_iff_exists.1 hy
      repeat' (refine BR.mk (fun h => ?_) (fun h => ?_) <;> first | with_reducible exact Bool.noConfusion h | with_reducible exact Bool.noConfusion (g1.symm.trans h) | with_reducible exact Bool.noConfusion (g2.symm.trans h) | with_reducible exact Bool.noConfusion (g3.symm.trans h) | skip)
      · exact z0
      · exact z1
      · exact (show commutes _ _ = true by kernel_rfl)
      · exact z0
      · exact z1
      · exact ⟨rfl, by decide, rfl, by show (o.length + 1) * 1 ≤ _; omega, by show o.length + 1 ≤ _; omega, fun _ _ => rfl, all1 rfl, all1 rfl⟩
      · refine Again.fam (i + 2, o ++ [UInt8.ofNat (16 * x + y)]) ⟨by show k + 2 ≤ i + 2; omega, by show i + 2 ≤ s.length; omega, by show (o ++ [_]).length ≤ i + 2; simp; omega, ?_⟩ (by show s.length - (i + 2) < s.length - i; omega) rfl rfl rfl rfl ⟨fun _ => congrArg (fun n => some (n, _)) (by simp), fun _ => trivial⟩ ?_ trivial
        · show _ = more (o ++ [_]) (i + 2 - (k + 2)) (bloS (s.drop (i + 2)))
          rw [hf, b_two hl hx' hy', more_more]
          congr 1
          omega
        · repeat' (refine BR.mk (fun _ => ?_) (fun _ => ?_))
          any_goals first | exact trivial | exact Wv.any _ | (refine Wv.int ?_; with_reducible rfl) | (refine Wv.str ?_; with_reducible rfl) | (refine Wv.bool ?_; with_reducible rfl) | refine Wv.int ?_ | refine Wv.str ?_ | refine Wv.bool ?_ | exact Wv.same rfl
          · refine Wv.sl (by simp) (fun j hj => ?_) ⟨rfl, (show (0 : Nat) < min 1 1 from by decide)⟩
            refine join_str o [UInt8.ofNat (16 * x + y)] (all1 ?_) j (by simpa using hj)
            refine congrArg (AV.int .u8) ?_
            show IntKind.u8.wrap (IntKind.i64.wrap (IntKind.i64.wrap (16 * halfRI (bA s (i : Int))) + halfRI (bA s (IntKind.i64.wrap ((i : Int) + 1))))) = _
            rw [w1, bA_is, bA_is, half_same, half_same, hx', hy']
            exact byte_put (half_lt16 _ hx') (half_lt16 _ hy')
          · exact w2
    · have nd : decide (IntKind.i64.wrap ((i : Int) + 1) < (s.length : Int)) = true → decide (halfRI (bA s (i : Int)) ≥ 0) = true → decide (halfRI (bA s (IntKind.i64.wrap ((i : Int) + 1))) ≥ 0) = true → False := fun a b c => by
        rw [w1, bA_is, half_ge] at c
        rw [bA_is, half_ge] at b
        rw [w1] at a
        exact hgo ⟨by have := of_decide_eq_true a; omega, b, c⟩
      by_cases he : i < s.length ∧ s.getD i 0 = 39
      · obtain ⟨hel, h39⟩ := he
        have e2 : bloS (s.drop (k + 2)) = some (o, 1 + (i - (k + 2))) := by rw [hf, b_end hel h39]; simp [more]
        have g1 : decide ((i : Int) < (s.length : Int)) = true := decide_eq_true (by omega)
        have g2 : (bA s (i : Int) == 39) = true := by rw [bA_is, eq39]; exact decide_eq_true h39
        have z0 : (0 : Int) ≤ (i : Int) ∧ (i : Int) < (s.length : Int) := ⟨by omega, by omega⟩
        repeat' (refine BR.mk (fun h => ?_) (fun h => ?_) <;> first | with_reducible exact Bool.noConfusion h | with_reducible exact Bool.noConfusion (g1.symm.trans h) | with_reducible exact Bool.noConfusion (g2.symm.trans h) | with_reducible exact (nd (by assumption) (by assumption) h).elim | skip)
        all_goals first | with_reducible exact z0 | exact fun _ _ => trivial | (with_reducible exact ⟨by rw [w1]; omega, of_decide_eq_true (by assumption)⟩) | skip
        all_goals refine Fini.mk ?_
        all_goals rw [e2]
        all_goals exact pairE (txtA_str o) (w1.trans (by show ((i + 1 : Nat) : Int) = ((1 + (i - (k + 2)) + (k + 2) : Nat) : Int); omega))
      · have e2 : bloS (s.drop (k + 2)) = none := by rw [hf, b_stop hgo he]; rfl
        have ne : decide ((i : Int) < (s.length : Int)) = true → (bA s (i : Int) == 39) = true → False := fun a b => by
          rw [bA_is, eq39] at b
          exact he ⟨by have := of_decide_eq_true a; omega, of_decide_eq_true b⟩
        have z2 : decide ((i : Int) < (s.length : Int)) = true → (0 : Int) ≤ (i : Int) ∧ (i : Int) < (s.length : Int) := fun a => ⟨by omega, of_decide_eq_true a⟩
        have z3 : decide (IntKind.i64.wrap ((i : Int) + 1) < (s.length : Int)) = true → (0 : Int) ≤ (i : Int) ∧ (i : Int) < (s.length : Int) := fun a => by
          have := of_decide_eq_true a
          rw [w1] at this
          omega
        repeat' (refine BR.mk (fun h => ?_) (fun h => ?_) <;> first | with_reducible exact Bool.noConfusion h | with_reducible exact (nd (by assumption) (by assumption) h).elim | with_reducible exact (ne (by assumption) h).elim | skip)
        all_goals first | with_reducible exact z2 (by assumption) | with_reducible exact z3 (by assumption) | exact fun _ _ => trivial | (with_reducible exact ⟨by rw [w1]; omega, of_decide_eq_true (by assumption)⟩) | skip
        all_goals refine Fini.mk ?_
        all_goals rw [e2]
        all_goals rfl
def h_rblob : List AV → CR
  | [.str s, .int .i64 a] => .need ((s.length ≤ 65536 ∧ 0 ≤ a) ∧ a + 2 ≤ (s.length : Int)) (pairQ (bloS (s.drop (a.toNat + 2))) (a.toNat + 2))
  | _ => .no
theorem h_rblob_ok (xs : List AV) : CRok Tryz.prog GW 149 xs (h_rblob xs) := by
  unfold h_rblob
  split
  · rename_i s a
    rintro ⟨⟨h1, h2⟩, h3⟩
    have := pc_rblob s a.toNat (by omega) h1
    rwa [show ((a.toNat : Nat) : Int) = a from by omega] at this
  · trivial
noncomputable def ER9b2 : Env := ER9q.add 149 h_rblob
theorem ER9b2_ok : EnvOk Tryz.prog ER9b2 := Env.add_ok ER9q_ok (by kernel_rfl) h_rblob_ok

end Go.Proofs.YtejepcnoflahkaaGreatDoor
end

section
namespace Go.Proofs.YtejepcnoflahkaaGreatDoor
open Go Go.Ab
set_option linter.unusedVariables false
set_option linter.unusedSimpArgs false
set_option maxRecDepth 100000
set_option maxHeartbeats 8000000

@[reducible] def dq (u : List UInt8) : List UInt8 := u.flatMap fun b => if b = 39 then [39, 39] else [b]
def qP (s : List UInt8) (i : Nat) : List UInt8 := 39 :: dq (s.take i)
theorem take_one {s : List UInt8} {i : Nat} (h : i < s.length) : s.take (i + 1) = s.take i ++ [s.getD i 0] := by
  rw [List.take_succ_eq_append_getElem h, List.getD_eq_getElem?_getD, List.getElem?_eq_getElem h]; rfl
theorem qP_two {s : List UInt8} {i : Nat} (h : i < s.length) (hb : s.getD i 0 = 39) : qP s (i + 1) = (qP s i ++ [39]) ++ [39] := by
  unfold qP dq
  rw [take_one h, List.flatMap_append, hb]; simp
theorem qP_one {s : List UInt8} {i : Nat} (h : i < s.length) (hb : s.getD i 0 ≠ 39) : qP s (i + 1) = qP s i ++ [s.getD i 0] := by
  unfold qP dq
  rw [take_one h, List.flatMap_append]
  generalize s.getD i 0 = b at hb
  simp [hb]
theorem qP_len (s : List UInt8) (i : Nat) : (qP s i).length ≤ 2 * i + 1 := by
  have h := quote_len (s.take i)
  unfold quoteS at h
  unfold qP dq
  simp only [List.length_append, List.length_cons, List.length_nil, List.length_take] at h ⊢
  omega
theorem qP_all (s : List UInt8) : qP s s.length ++ [39] = quoteS s := by
  unfold qP quoteS
  rw [List.take_length]
theorem two1 {P : Nat → Prop} (h0 : P 0) (h1 : P 1) : ∀ q, q < 2 → P q := fun q hq => by
  have : q = 0 ∨ q = 1 := by omega
  rcases this with rfl | rfl
  · exact h0
  · exact h1
theorem jc (o : List UInt8) (g : Nat → AV) (hg : (g 0).cells.length = 1) : ∀ q, q < o.length + 1 → (joinF o.length (strF o) g q).cells.length = 1 := fun q hq => by
  by_cases h : q < o.length
  · rw [joinF_lo h]; rfl
  · rw [joinF_hi (by omega), show q - o.length = 0 from by omega]; exact hg
theorem join_two (o : List UInt8) (a b : UInt8) {g e : Nat → AV} (hg : g 0 = strF [a] 0) (he : e 0 = strF [b] 0) : ∀ j, j < o.length + 2 → joinF (o.length + 1) (joinF o.length (strF o) g) e j = strF (o ++ [a] ++ [b]) j := fun j hj => by
  have l1 : (o ++ [a]).length = o.length + 1 := by rw [List.length_append]; rfl
  have := join_str (o ++ [a]) [b] (g := e) (all1 he) j (by rw [l1]; exact hj)
  rw [← this, l1]
  by_cases h : j < o.length + 1
  · rw [joinF_lo h, joinF_lo h]
    exact join_str o [a] (g := g) (all1 hg) j h
  · rw [joinF_hi (by omega), joinF_hi (by omega)]
theorem txt_end (o : List UInt8) {g : Nat → AV} (hg : g 0 = strF [39] 0) : txtA (o.length + 1) (joinF o.length (strF o) g) = o ++ [39] :=
  txtA_eq (by rw [List.length_append]; rfl) fun j hj => join_str o [39] (g := g) (all1 hg) j hj
theorem u8_end (o : List UInt8) {g : Nat → AV} (hg : isU8 (g 0)) : ∀ j, j < o.length + 1 → isU8 (joinF o.length (strF o) g j) := fun j hj => by
  by_cases h : j < o.length
  · rw [joinF_lo h]; trivial
  · rw [joinF_hi (by omega), show j - o.length = 0 from by omega]; exact hg
set_option smartUnfolding false in
theorem pc_rquote (s : List UInt8) (hn : s.length ≤ 65536) : PC Tryz.prog GW 37 [.str s] (.str (quoteS s)) := by
  refine pc_fin ER9b2_ok mixed (show Tryz.prog.funcs[37]? = some Tryz.f37 from rfl) ?_
  refine loop_fam ER9b2_ok mixed (σ := Nat) (fun i => i ≤ s.length) (fun i => s.length - i) 0 (Nat.zero_le _) 0 1 [0] (fun i => [(3, .sl (.tok 0) (qP s i).length (strF (qP s i))), (4, .int .i64 i)]) [] (fun _ => []) (fun i => [(0, (qP s i).length, 5)]) ?_ ?_ ?_ ?_
  · rfl
  · rfl
  · refine Wk.mk' rfl rfl trivial ?_ trivial
    repeat' (refine BR.mk (fun _ => ?_) (fun _ => ?_))
    any_goals first | exact trivial | exact Wv.any _ | (refine Wv.int ?_; with_reducible rfl) | (refine Wv.str ?_; with_reducible rfl) | (refine Wv.bool ?_; with_reducible rfl) | refine Wv.int ?_ | refine Wv.str ?_ | refine Wv.bool ?_ | exact Wv.same rfl
    · refine Wv.sl rfl (fun i hi => ?_) ⟨Nat.le_refl _, _, rfl⟩
      have : i = 0 := Nat.lt_one_iff.1 hi
      subst this; rfl
    · rfl
  · intro i hi
    have hL := qP_len s i
    by_cases hil : i < s.length
    · have k1 : decide ((i : Int) < (s.length : Int)) = true := decide_eq_true (by omega)
      have z0 : (0 : Int) ≤ (i : Int) ∧ (i : Int) < (s.length : Int) := ⟨by omega, by omega⟩
      have w1 : IntKind.i64.wrap ((i : Int) + 1) = ((i + 1 : Nat) : Int) := (wrap_id (by unfold i64; omega)).trans (by omega)
      by_cases hb : s.getD i 0 = 39
      · have g1 : (bA s (i : Int) == 39) = true := by rw [bA_is, eq39]; exact decide_eq_true hb
        have e2 := qP_two hil hb
        have l2 : (qP s (i + 1)).length = (qP s i).length + 1 + 1 := by rw [e2]; simp
        repeat' (refine BR.mk (fun h => ?_) (fun h => ?_) <;> first | with_reducible exact Bool.noConfusion h | with_reducible exact Bool.noConfusion (k1.symm.trans h) | with_reducible exact Bool.noConfusion (g1.symm.trans h) | skip)
        · exact z0
        · exact ⟨rfl, by decide, rfl, by show ((qP s i).length + 1) * 1 ≤ _; omega, by show (qP s i).length + 1 ≤ _; omega, fun _ _ => rfl, all1 rfl, all1 rfl⟩
        · exact z0
        · exact ⟨rfl, by decide, rfl, by show ((qP s i).length + 1 + 1) * 1 ≤ _; omega, by show (qP s i).length + 1 + 1 ≤ _; omega, jc _ _ rfl, all1 rfl, all1 rfl⟩
        · refine Again.fam (i + 1) hil (by show s.length - (i + 1) < s.length - i; omega) rfl rfl rfl rfl ⟨fun _ => ?_, fun _ => trivial⟩ ?_ trivial
          · show some ((qP s (i + 1)).length, 5) = some ((qP s i).length + 1 + 1, 5)
            rw [l2]
          · repeat' (refine BR.mk (fun _ => ?_) (fun _ => ?_))
            any_goals first | exact trivial | exact Wv.any _ | (refine Wv.int ?_; with_reducible rfl) | (refine Wv.str ?_; with_reducible rfl) | (refine Wv.bool ?_; with_reducible rfl) | refine Wv.int ?_ | refine Wv.str ?_ | refine Wv.bool ?_ | exact Wv.same rfl
            · refine Wv.sl l2.symm (fun j hj => ?_) ⟨rfl, (show (0 : Nat) < min 1 1 from by decide)⟩
              rw [e2]
              refine join_two (qP s i) 39 39 ?_ ?_ j (by rw [l2] at hj; exact hj)
              · show AV.int .u8 (bA s (i : Int)) = AV.int .u8 39
                rw [bA_is, hb]; rfl
              · rfl
            · exact w1
      · have g1 : (bA s (i : Int) == 39) = false := by rw [bA_is, eq39]; exact decide_eq_false hb
        have e2 := qP_one hil hb
        have l2 : (qP s (i + 1)).length = (qP s i).length + 1 := by rw [e2]; simp
        repeat' (refine BR.mk (fun h => ?_) (fun h => ?_) <;> first | with_reducible exact Bool.noConfusion h | with_reducible exact Bool.noConfusion (k1.symm.trans h) | with_reducible exact Bool.noConfusion (g1.symm.trans h) | skip)
        · exact z0
        · exact ⟨rfl, by decide, rfl, by show ((qP s i).length + 1) * 1 ≤ _; omega, by show (qP s i).length + 1 ≤ _; omega, fun _ _ => rfl, all1 rfl, all1 rfl⟩
        · exact z0
        · refine Again.fam (i + 1) hil (by show s.length - (i + 1) < s.length - i; omega) rfl rfl rfl rfl ⟨fun _ => ?_, fun _ => trivial⟩ ?_ trivial
          · show some ((qP s (i + 1)).length, 5) = some ((qP s i).length + 1, 5)
            rw [l2]
          · repeat' (refine BR.mk (fun _ => ?_) (fun _ => ?_))
            any_goals first | exact trivial | exact Wv.any _ | (refine Wv.int ?_; with_reducible rfl) | (refine Wv.str ?_; with_reducible rfl) | (refine Wv.bool ?_; with_reducible rfl) | refine Wv.int ?_ | refine Wv.str ?_ | refine Wv.bool ?_ | exact Wv.same rfl
            · refine Wv.sl l2.symm (fun j hj => ?_) ⟨rfl, (show (0 : Nat) < min 1 1 from by decide)⟩
              rw [e2]
              refine join_str (qP s i) [s.getD i 0] (all1 ?_) j (by rw [l2] at hj; exact hj)
              rfl
            · exact w1
    · have k1 : decide ((i : Int) < (s.length : Int)) = false := decide_eq_false (by omega)
      obtain rfl : i = s.length := by omega
      repeat' (refine BR.mk (fun h => ?_) (fun h => ?_) <;> first | with_reducible exact Bool.noConfusion h | with_reducible exact Bool.noConfusion (k1.symm.trans h) | skip)
      · exact ⟨rfl, by decide, rfl, by show ((qP s s.length).length + 1) * 1 ≤ _; omega, by show (qP s s.length).length + 1 ≤ _; omega, fun _ _ => rfl, all1 rfl, all1 rfl⟩
      · exact u8_end _ trivial
      · refine Fini.mk (congrArg AV.str ((txt_end (qP s s.length) ?_).trans (qP_all s)))
        rfl
def h_rquote : List AV → CR
  | [.str s] => .need (s.length ≤ 65536) (.str (quoteS s))
  | _ => .no
theorem h_rquote_ok (xs : List AV) : CRok Tryz.prog GW 37 xs (h_rquote xs) := by
  unfold h_rquote
  split
  · rename_i s
    exact fun hn => pc_rquote s hn
  · trivial
noncomputable def ER9u : Env := ER9b2.add 37 h_rquote
theorem ER9u_ok : EnvOk Tryz.prog ER9u := Env.add_ok ER9b2_ok (by kernel_rfl) h_rquote_ok
theorem hiR_is : ∀ n : Fin 256, IntKind.u8.wrap (((n.val : Nat) : Int).tdiv 16) = ((n.val / 16 : Nat) : Int) := by decide +kernel
theorem loR_is : ∀ n : Fin 256, (((n.val : Nat) : Int).tmod 16) = ((n.val % 16 : Nat) : Int) := by decide +kernel
theorem hiR (b : UInt8) : IntKind.u8.wrap (((b.toNat : Nat) : Int).tdiv 16) = ((b.toNat / 16 : Nat) : Int) := hiR_is ⟨b.toNat, b.toNat_lt⟩
theorem loR (b : UInt8) : (((b.toNat : Nat) : Int).tmod 16) = ((b.toNat % 16 : Nat) : Int) := loR_is ⟨b.toNat, b.toNat_lt⟩
theorem hiR_rng (b : UInt8) : 0 ≤ IntKind.u8.wrap (((b.toNat : Nat) : Int).tdiv 16) ∧ IntKind.u8.wrap (((b.toNat : Nat) : Int).tdiv 16) < ((16 : Nat) : Int) := by
  rw [hiR]
  have := b.toNat_lt
  exact ⟨by omega, by omega⟩
theorem loR_rng (b : UInt8) : 0 ≤ (((b.toNat : Nat) : Int).tmod 16) ∧ (((b.toNat : Nat) : Int).tmod 16) < ((16 : Nat) : Int) := by
  rw [loR]
  exact ⟨by omega, by omega⟩
theorem dig_hi (b : UInt8) : (d16L.getD (IntKind.u8.wrap (((b.toNat : Nat) : Int).tdiv 16)).toNat 0) = hexD (b.toNat / 16) := by
  have := b.toNat_lt
  rw [hiR, Int.toNat_natCast]
  exact d16_is ⟨b.toNat / 16, by omega⟩
theorem dig_lo (b : UInt8) : (d16L.getD (((b.toNat : Nat) : Int).tmod 16).toNat 0) = hexD (b.toNat % 16) := by
  rw [loR, Int.toNat_natCast]
  exact d16_is ⟨b.toNat % 16, by omega⟩
set_option smartUnfolding false in
theorem pc_rhex (s : List UInt8) (hn : s.length ≤ 65536) : PC Tryz.prog GW 39 [.str s] (.str (hexW s)) := by
  refine pc_fin ER9u_ok mixed (show Tryz.prog.funcs[39]? = some Tryz.f39 from rfl) ?_
  refine loop_fam ER9u_ok mixed (σ := Nat) (fun i => i ≤ s.length) (fun i => s.length - i) 0 (Nat.zero_le _) 0 1 [0] (fun i => [(3, .sl (.tok 0) (hexP s i).length (strF (hexP s i))), (4, .int .i64 i)]) [] (fun _ => []) (fun i => [(0, (hexP s i).length, 5)]) ?_ ?_ ?_ ?_
  · rfl
  · rfl
  · refine Wk.mk' rfl rfl trivial ?_ trivial
    repeat' (refine BR.mk (fun _ => ?_) (fun _ => ?_))
    any_goals first | exact trivial | exact Wv.any _ | (refine Wv.int ?_; with_reducible rfl) | (refine Wv.str ?_; with_reducible rfl) | (refine Wv.bool ?_; with_reducible rfl) | refine Wv.int ?_ | refine Wv.str ?_ | refine Wv.bool ?_ | exact Wv.same rfl
    · refine Wv.sl rfl (fun i hi => ?_) ⟨Nat.le_refl _, _, rfl⟩
      have hi2 : i = 0 ∨ i = 1 := by
        have : i < 2 := hi
        omega
      rcases hi2 with rfl | rfl <;> rfl
    · rfl
  · intro i hi
    have hL := hexP_len s i hi
    by_cases hil : i < s.length
    · have k1 : decide ((i : Int) < (s.length : Int)) = true := decide_eq_true (by omega)
      have z0 : (0 : Int) ≤ (i : Int) ∧ (i : Int) < (s.length : Int) := ⟨by omega, by omega⟩
      have w1 : IntKind.i64.wrap ((i : Int) + 1) = ((i + 1 : Nat) : Int) := (wrap_id (by unfold i64; omega)).trans (by omega)
      repeat' (refine BR.mk (fun h => ?_) (fun h => ?_) <;> first | with_reducible exact Bool.noConfusion h | with_reducible exact Bool.noConfusion (k1.symm.trans h) | skip)
      · exact (show commutes _ _ = true by kernel_rfl)
      · exact z0
      · exact (show (16 : Int) ≠ 0 by decide)
      · exact hiR_rng _
      · exact z0
      · exact (show (16 : Int) ≠ 0 by decide)
      · exact loR_rng _
      · exact ⟨rfl, by decide, rfl, by show ((hexP s i).length + 2) * 1 ≤ _; omega, by show (hexP s i).length + 2 ≤ _; omega, fun _ _ => rfl, two1 rfl rfl, two1 rfl rfl⟩
      · have l2 : (hexP s (i + 1)).length = (hexP s i).length + 2 := by rw [hexP_len s (i + 1) hil, hL]; omega
        refine Again.fam (i + 1) hil (by show s.length - (i + 1) < s.length - i; omega) rfl rfl rfl rfl ⟨fun _ => ?_, fun _ => trivial⟩ ?_ trivial
        · show some ((hexP s (i + 1)).length, 5) = some ((hexP s i).length + 2, 5)
          rw [l2]
        · repeat' (refine BR.mk (fun _ => ?_) (fun _ => ?_))
          any_goals first | exact trivial | exact Wv.any _ | (refine Wv.int ?_; with_reducible rfl) | (refine Wv.str ?_; with_reducible rfl) | (refine Wv.bool ?_; with_reducible rfl) | refine Wv.int ?_ | refine Wv.str ?_ | refine Wv.bool ?_ | exact Wv.same rfl
          · refine Wv.sl l2.symm (fun j hj => ?_) ⟨rfl, (show (0 : Nat) < min 1 1 from by decide)⟩
            rw [hexP_succ s i hil, List.append_assoc]
            refine join_str (hexP s i) ([hexD ((s.getD i 0).toNat / 16)] ++ [hexD ((s.getD i 0).toNat % 16)]) (two1 ?_ ?_) j (by rw [l2] at hj; exact hj)
            · show AV.int .u8 ((d16L.getD (IntKind.u8.wrap ((bA s (i : Int)).tdiv 16)).toNat 0).toNat : Int) = AV.int .u8 ((hexD ((s.getD i 0).toNat / 16)).toNat : Int)
              rw [bA_is, dig_hi]
            · show AV.int .u8 ((d16L.getD ((bA s (i : Int)).tmod 16).toNat 0).toNat : Int) = AV.int .u8 ((hexD ((s.getD i 0).toNat % 16)).toNat : Int)
              rw [bA_is, dig_lo]
          · exact w1
    · have k1 : decide ((i : Int) < (s.length : Int)) = false := decide_eq_false (by omega)
      obtain rfl : i = s.length := by omega
      repeat' (refine BR.mk (fun h => ?_) (fun h => ?_) <;> first | with_reducible exact Bool.noConfusion h | with_reducible exact Bool.noConfusion (k1.symm.trans h) | skip)
      · exact ⟨rfl, by decide, rfl, by show ((hexP s s.length).length + 1) * 1 ≤ _; omega, by show (hexP s s.length).length + 1 ≤ _; omega, fun _ _ => rfl, all1 rfl, all1 rfl⟩
      · exact u8_end _ trivial
      · refine Fini.mk (congrArg AV.str ((txt_end (hexP s s.length) ?_).trans (hexP_all s)))
        rfl
def h_rhex : List AV → CR
  | [.str s] => .need (s.length ≤ 65536) (.str (hexW s))
  | _ => .no
theorem h_rhex_ok (xs : List AV) : CRok Tryz.prog GW 39 xs (h_rhex xs) := by
  unfold h_rhex
  split
  · rename_i s
    exact fun hn => pc_rhex s hn
  · trivial
noncomputable def ER9v : Env := ER9u.add 39 h_rhex
theorem ER9v_ok : EnvOk Tryz.prog ER9v := Env.add_ok ER9u_ok (by kernel_rfl) h_rhex_ok

end Go.Proofs.YtejepcnoflahkaaGreatDoor
end

section
namespace Go.Proofs.YtejepcnoflahkaaGreatDoor
open Go Go.Ab
set_option linter.unusedVariables false
set_option linter.unusedSimpArgs false
set_option maxRecDepth 100000
set_option maxHeartbeats 8000000

def h_rin : List AV → CR
  | [.str s, .sl _ n f] => .need (n ≤ 65536 ∧ ∀ i, i < n → isStr (f i) = true) (.bool (inF s (fun i => strOf (f i)) 0 n))
  | _ => .no
theorem h_rin_ok (xs : List AV) : CRok Tryz.prog GW 154 xs (h_rin xs) := by
  unfold h_rin
  split
  · rename_i s tag n f
    rintro ⟨hn, hf⟩
    refine pc_args ?_ (pc_in0 s n (fun i => strOf (f i)) hn)
    intro X vs h
    cases h with | cons h1 hs => cases hs with | cons h2 hs =>
    exact .cons h1 (.cons (rep_slice (fun i hi => by
      have := hf i hi
      cases hx : f i <;> rw [hx] at this <;> first | rfl | cases this) (rep_tag h2)) hs)
  · trivial
noncomputable def ER9i : Env := ER9v.add 154 h_rin
theorem ER9i_ok : EnvOk Tryz.prog ER9i := Env.add_ok ER9v_ok (by kernel_rfl) h_rin_ok
/-- the token at a place -/
def oneS (s : List UInt8) (k : Nat) : Wd := if (foundS (s.drop k)).l = 0 then noW else ⟨(foundS (s.drop k)).k, (foundS (s.drop k)).s, (foundS (s.drop k)).n, k, (k + (foundS (s.drop k)).l : Nat)⟩
theorem one_no {s : List UInt8} {k : Nat} (h : (foundS (s.drop k)).l = 0) : oneS s k = noW := if_pos h
theorem one_is {s : List UInt8} {k : Nat} {a : Int} {b : List UInt8} {c : Int} {d : Nat} (h : foundS (s.drop k) = ⟨a, b, c, d⟩) (hd : d ≠ 0) : oneS s k = ⟨a, b, c, k, (k + d : Nat)⟩ := by
  unfold oneS
  rw [h, if_neg hd]
theorem eq120 (b : UInt8) : (((b.toNat : Nat) : Int) == 120) = (b == 120) := by
  have : ∀ n : Fin 256, ((n.val : Int) == 120) = (UInt8.ofNat n.val == 120) := by decide +kernel
  have := this ⟨b.toNat, b.toNat_lt⟩
  simpa using this
theorem eq88 (b : UInt8) : (((b.toNat : Nat) : Int) == 88) = (b == 88) := by
  have : ∀ n : Fin 256, ((n.val : Int) == 88) = (UInt8.ofNat n.val == 88) := by decide +kernel
  have := this ⟨b.toNat, b.toNat_lt⟩
  simpa using this
theorem blob_at {s : List UInt8} {k : Nat} (h : k + 1 < s.length) : isBlob (s.drop k) = ((s.getD k 0 == 120 || s.getD k 0 == 88) && s.getD (k + 1) 0 == 39) := by
  rw [getD_drop (by omega), getD_drop h]; rfl
section
set_option smartUnfolding false
theorem one_blob (s : List UInt8) (k : Nat) (hk : k < s.length) (hn : s.length ≤ 65536) (hB : isBlob (s.drop k) = true) : PC Tryz.prog GW 107 [.str s, .int .i64 k] (encW (oneS s k)) := by
  have hk1 : k + 1 < s.length := by
    refine Classical.byContradiction fun h => ?_
    rw [getD_drop hk, List.drop_of_length_le (by omega)] at hB
    cases hB
  have hb := hB
  rw [blob_at hk1, Bool.and_eq_true] at hb
  have w1 : IntKind.i64.wrap ((k : Int) + 1) = ((k + 1 : Nat) : Int) := (wrap_id (by unfold i64; omega)).trans (by omega)
  have z0 : (0 : Int) ≤ (k : Int) ∧ (k : Int) < (s.length : Int) := ⟨by omega, by omega⟩
  have z1 : (0 : Int) ≤ IntKind.i64.wrap ((k : Int) + 1) ∧ IntKind.i64.wrap ((k : Int) + 1) < (s.length : Int) := by rw [w1]; omega
  have g1 : decide (IntKind.i64.wrap ((k : Int) + 1) < (s.length : Int)) = true := by rw [w1]; exact decide_eq_true (by omega)
  have g2 : (bA s (IntKind.i64.wrap ((k : Int) + 1)) == 39) = true := by rw [w1, bA_is, eq39]; exact decide_eq_true (by simpa using hb.2)
  have nx : (bA s (k : Int) == 120) = false → (bA s (k : Int) == 88) = false → False := fun a b => by
    rw [bA_is, eq120] at a
    rw [bA_is, eq88] at b
    rw [a, b] at hb
    cases hb.1
  have z2 : (s.length ≤ 65536 ∧ (0 : Int) ≤ (k : Int)) ∧ (k : Int) + 2 ≤ (s.length : Int) := ⟨⟨hn, by omega⟩, by omega⟩
  have hF : foundS (s.drop k) = match bloS (s.drop (k + 2)) with
    | some (o, n) => ⟨5, o, 0, n + 2⟩
    | none => ⟨5, [], 0, 0⟩ := by
    have e : s.drop k = s.getD k 0 :: s.drop (k + 1) := getD_drop hk
    rw [e] at hB ⊢
    rw [fs_b hB, List.drop_drop]
    rfl
  cases hq : bloS (s.drop (k + 2)) with
  | none =>
    rw [hq] at hF
    have ho : oneS s k = noW := one_no (by rw [hF])
    have g3 : decide (qT (bloS (s.drop ((k : Int).toNat + 2))) ((k : Int).toNat + 2) < 0) = true := by rw [Int.toNat_natCast, hq]; rfl
    refine pc_fin ER9i_ok mixed (show Tryz.prog.funcs[107]? = some Tryz.f107 from rfl) ?_
    repeat' (refine BR.mk (fun h => ?_) (fun h => ?_) <;> first | with_reducible exact Bool.noConfusion h | with_reducible exact Bool.noConfusion (g1.symm.trans h) | with_reducible exact Bool.noConfusion (g2.symm.trans h) | with_reducible exact Bool.noConfusion (g3.symm.trans h) | with_reducible exact (nx (by assumption) h).elim | skip)
    all_goals first | with_reducible exact z0 | with_reducible exact z1 | with_reducible exact z2 | refine Fini.mk ?_
    all_goals rw [ho]
    all_goals rfl
  | some p =>
    obtain ⟨o, n⟩ := p
    rw [hq] at hF
    have ho := one_is hF (by omega)
    have g3 : decide (qT (bloS (s.drop ((k : Int).toNat + 2))) ((k : Int).toNat + 2) < 0) = false := by
      rw [Int.toNat_natCast, hq]
      exact decide_eq_false (by show ¬ ((n + (k + 2) : Nat) : Int) < 0; omega)
    refine pc_fin ER9i_ok mixed (show Tryz.prog.funcs[107]? = some Tryz.f107 from rfl) ?_
    repeat' (refine BR.mk (fun h => ?_) (fun h => ?_) <;> first | with_reducible exact Bool.noConfusion h | with_reducible exact Bool.noConfusion (g1.symm.trans h) | with_reducible exact Bool.noConfusion (g2.symm.trans h) | with_reducible exact Bool.noConfusion (g3.symm.trans h) | with_reducible exact (nx (by assumption) h).elim | skip)
    all_goals first | with_reducible exact z0 | with_reducible exact z1 | with_reducible exact z2 | refine Fini.mk ?_
    all_goals rw [ho]
    all_goals show AV.agg [.int .u8 5, .str (qS (bloS (s.drop ((k : Int).toNat + 2)))), .int .i64 0, .int .i64 k, .int .i64 (qT (bloS (s.drop ((k : Int).toNat + 2))) ((k : Int).toNat + 2))] = _
    all_goals rw [Int.toNat_natCast, hq]
    all_goals show AV.agg [.int .u8 5, .str o, .int .i64 0, .int .i64 k, .int .i64 ((n + (k + 2) : Nat) : Int)] = AV.agg [.int .u8 5, .str o, .int .i64 0, .int .i64 k, .int .i64 ((k + (n + 2) : Nat) : Int)]
    all_goals rw [show n + (k + 2) = k + (n + 2) from by omega]
theorem no_x {s : List UInt8} {k : Nat} (hk : k < s.length) (hn : s.length ≤ 65536) (hB : isBlob (s.drop k) = false) (hx : s.getD k 0 = 120 ∨ s.getD k 0 = 88) : decide (IntKind.i64.wrap ((k : Int) + 1) < (s.length : Int)) = true → (bA s (IntKind.i64.wrap ((k : Int) + 1)) == 39) = true → False := fun a b => by
  have w1 : IntKind.i64.wrap ((k : Int) + 1) = ((k + 1 : Nat) : Int) := (wrap_id (by unfold i64; omega)).trans (by omega)
  rw [w1] at a
  rw [w1, bA_is, eq39] at b
  have h1 : k + 1 < s.length := by have := of_decide_eq_true a; omega
  rw [blob_at h1, of_decide_eq_true b] at hB
  rcases hx with hx | hx <;> rw [hx] at hB <;> cases hB
theorem not_x {s : List UInt8} {k : Nat} (hx : ¬ (s.getD k 0 = 120 ∨ s.getD k 0 = 88)) : (bA s (k : Int) == 120) = false ∧ (bA s (k : Int) == 88) = false := by
  rw [bA_is, eq120, eq88]
  constructor
  · simpa using fun e => hx (.inl e)
  · simpa using fun e => hx (.inr e)
theorem one_quo (s : List UInt8) (k : Nat) (hk : k < s.length) (hn : s.length ≤ 65536) (h39 : s.getD k 0 = 39) : PC Tryz.prog GW 107 [.str s, .int .i64 k] (encW (oneS s k)) := by
  have z0 : (0 : Int) ≤ (k : Int) ∧ (k : Int) < (s.length : Int) := ⟨by omega, by omega⟩
  have z2 : (s.length ≤ 65536 ∧ (0 : Int) ≤ (k : Int)) ∧ (k : Int) < (s.length : Int) := ⟨⟨hn, by omega⟩, by omega⟩
  obtain ⟨n1, n2⟩ := not_x (s := s) (k := k) (by rw [h39]; decide)
  have g1 : (bA s (k : Int) == 39) = true := by rw [bA_is, eq39]; exact decide_eq_true h39
  have hF : foundS (s.drop k) = match quoS (s.drop (k + 1)) with
    | some (o, n) => ⟨4, o, 0, n + 1⟩
    | none => ⟨4, [], 0, 0⟩ := by
    have e : s.drop k = s.getD k 0 :: s.drop (k + 1) := getD_drop hk
    rw [e, h39]
    rw [fs_q (isBlob_dig _ _ (by decide)) (by decide)]
    rfl
  cases hq : quoS (s.drop (k + 1)) with
  | none =>
    rw [hq] at hF
    have ho : oneS s k = noW := one_no (by rw [hF])
    have g3 : decide (qT (quoS (s.drop ((k : Int).toNat + 1))) ((k : Int).toNat + 1) < 0) = true := by rw [Int.toNat_natCast, hq]; rfl
    refine pc_fin ER9i_ok mixed (show Tryz.prog.funcs[107]? = some Tryz.f107 from rfl) ?_
    repeat' (refine BR.mk (fun h => ?_) (fun h => ?_) <;> first | with_reducible exact Bool.noConfusion h | with_reducible exact Bool.noConfusion (n1.symm.trans h) | with_reducible exact Bool.noConfusion (n2.symm.trans h) | with_reducible exact Bool.noConfusion (g1.symm.trans h) | with_reducible exact Bool.noConfusion (g3.symm.trans h) | skip)
    all_goals first | with_reducible exact z0 | with_reducible exact z2 | refine Fini.mk ?_
    all_goals rw [ho]
    all_goals rfl
  | some p =>
    obtain ⟨o, n⟩ := p
    rw [hq] at hF
    have ho := one_is hF (by omega)
    have g3 : decide (qT (quoS (s.drop ((k : Int).toNat + 1))) ((k : Int).toNat + 1) < 0) = false := by
      rw [Int.toNat_natCast, hq]
      exact decide_eq_false (by show ¬ ((n + (k + 1) : Nat) : Int) < 0; omega)
    refine pc_fin ER9i_ok mixed (show Tryz.prog.funcs[107]? = some Tryz.f107 from rfl) ?_
    repeat' (refine BR.mk (fun h => ?_) (fun h => ?_) <;> first | with_reducible exact Bool.noConfusion h | with_reducible exact Bool.noConfusion (n1.symm.trans h) | with_reducible exact Bool.noConfusion (n2.symm.trans h) | with_reducible exact Bool.noConfusion (g1.symm.trans h) | with_reducible exact Bool.noConfusion (g3.symm.trans h) | skip)
    all_goals first | with_reducible exact z0 | with_reducible exact z2 | refine Fini.mk ?_
    all_goals rw [ho]
    all_goals show AV.agg [.int .u8 4, .str (qS (quoS (s.drop ((k : Int).toNat + 1)))), .int .i64 0, .int .i64 k, .int .i64 (qT (quoS (s.drop ((k : Int).toNat + 1))) ((k : Int).toNat + 1))] = _
    all_goals rw [Int.toNat_natCast, hq]
    all_goals show AV.agg [.int .u8 4, .str o, .int .i64 0, .int .i64 k, .int .i64 ((n + (k + 1) : Nat) : Int)] = AV.agg [.int .u8 4, .str o, .int .i64 0, .int .i64 k, .int .i64 ((k + (n + 1) : Nat) : Int)]
    all_goals rw [show n + (k + 1) = k + (n + 1) from by omega]
theorem run_at {p : Int → Bool} {s : List UInt8} {j : Nat} (h : j < s.length) : runN p (s.drop j) = if onB p (s.getD j 0) then runN p (s.drop (j + 1)) + 1 else 0 := by
  rw [getD_drop h, run_c]
theorem dec_at {s : List UInt8} {j n : Nat} (h : j < s.length) (hd : onB digC (s.getD j 0) = true) : decN n ((s.drop j).take (runN digC (s.drop j))) = decN (10 * n + ((s.getD j 0).toNat - 48)) ((s.drop (j + 1)).take (runN digC (s.drop (j + 1)))) := by
  rw [run_at h, if_pos hd, getD_drop h, List.take_succ_cons, decN_cons]
theorem u64w {n : Int} (h : 0 ≤ n ∧ n ≤ 18446744073709551615) : IntKind.u64.wrap n = n := by
  simp [IntKind.wrap, IntKind.signed, IntKind.bits]
  omega
theorem ov_all : ∀ d : Fin 10, IntKind.u64.wrap ((IntKind.u64.wrap (9223372036854775807 - IntKind.u64.wrap (IntKind.u8.wrap (((48 + d.val : Nat) : Int) - 48)))).tdiv 10) = (((9223372036854775807 - d.val) / 10 : Nat) : Int) := by decide +kernel
@[reducible] def ovE (s : List UInt8) (j : Int) : Int := IntKind.u64.wrap ((IntKind.u64.wrap (9223372036854775807 - IntKind.u64.wrap (IntKind.u8.wrap (bA s j - 48)))).tdiv 10)
theorem ovE_is {s : List UInt8} {j : Nat} (h : 48 ≤ (s.getD j 0).toNat ∧ (s.getD j 0).toNat ≤ 57) : ovE s (j : Int) = (((9223372036854775807 - ((s.getD j 0).toNat - 48)) / 10 : Nat) : Int) := by
  unfold ovE
  rw [bA_is]
  have := ov_all ⟨(s.getD j 0).toNat - 48, by omega⟩
  simp only [show 48 + ((s.getD j 0).toNat - 48) = (s.getD j 0).toNat from by omega] at this
  exact this
theorem dig_val {s : List UInt8} {j : Nat} (h : 48 ≤ (s.getD j 0).toNat ∧ (s.getD j 0).toNat ≤ 57) : IntKind.u64.wrap (IntKind.u8.wrap (bA s (j : Int) - 48)) = (((s.getD j 0).toNat - 48 : Nat) : Int) := by
  rw [bA_is, wrap8 ⟨by omega, by omega⟩, u64w ⟨by omega, by omega⟩]
  omega
theorem one_dig (s : List UInt8) (k : Nat) (hk : k < s.length) (hn : s.length ≤ 65536) (hd : onB digC (s.getD k 0) = true) : PC Tryz.prog GW 107 [.str s, .int .i64 k] (encW (oneS s k)) := by
  have hr := digC_is hd
  unfold isDg at hr
  have z0 : (0 : Int) ≤ (k : Int) ∧ (k : Int) < (s.length : Int) := ⟨by omega, by omega⟩
  obtain ⟨n1, n2⟩ := not_x (s := s) (k := k) (by rintro (e | e) <;> rw [e] at hr <;> exact absurd hr (by decide))
  have h39 : s.getD k 0 ≠ 39 := fun e => by rw [e] at hr; exact absurd hr (by decide)
  have g1 : (bA s (k : Int) == 39) = false := by rw [bA_is, eq39]; exact decide_eq_false h39
  have g2 : digC (bA s (k : Int)) = true := by rw [bA_is]; exact hd
  have hF : foundS (s.drop k) = numS' (s.drop k) := by
    rw [getD_drop hk]
    exact fs_d (isBlob_dig _ _ (dig_let hd)) (by simpa using h39) hd
  refine pc_fin ER9i_ok mixed (show Tryz.prog.funcs[107]? = some Tryz.f107 from rfl) ?_
  repeat' (refine BR.mk (fun h => ?_) (fun h => ?_) <;> first | with_reducible exact Bool.noConfusion h | with_reducible exact Bool.noConfusion (n1.symm.trans h) | with_reducible exact Bool.noConfusion (n2.symm.trans h) | with_reducible exact Bool.noConfusion (g1.symm.trans h) | with_reducible exact Bool.noConfusion (g2.symm.trans h) | skip)
  · exact z0
  refine loop_fam ER9i_ok mixed (σ := Nat × Nat) (fun p => k ≤ p.1 ∧ p.1 ≤ s.length ∧ p.2 ≤ 9223372036854775807 ∧ runN digC (s.drop k) = (p.1 - k) + runN digC (s.drop p.1) ∧ decN 0 ((s.drop k).take (runN digC (s.drop k))) = decN p.2 ((s.drop p.1).take (runN digC (s.drop p.1)))) (fun p => s.length - p.1) (k, 0) ⟨Nat.le_refl _, by show k ≤ s.length; omega, Nat.zero_le _, by show runN digC (s.drop k) = (k - k) + runN digC (s.drop k); omega, rfl⟩ 1 0 [0, 1, 4] (fun p => [(5, .int .i64 p.1), (11, .int .u64 p.2)]) [] (fun _ => [(0, .cells [.int .u8 0, .str [], .int .i64 0, .int .i64 0, .int .i64 0])]) (fun _ => []) ?_ ?_ ?_ ?_
  · rfl
  · rfl
  · refine Wk.mk' rfl rfl trivial ?_ ?_
    · repeat' (refine BR.mk (fun _ => ?_) (fun _ => ?_))
      any_goals first | exact trivial | exact Wv.any _ | (refine Wv.int ?_; with_reducible rfl) | (refine Wv.str ?_; with_reducible rfl) | (refine Wv.bool ?_; with_reducible rfl) | refine Wv.int ?_ | refine Wv.str ?_ | refine Wv.bool ?_ | exact Wv.same rfl
      all_goals rfl
    · refine BR.mk (fun _ => ?_) (fun _ => trivial)
      exact ⟨Nat.le_of_ble_eq_true rfl, .inl ⟨rfl, _, rfl, .cons (.same rfl) (.cons (.same rfl) (.cons (.same rfl) (.cons (.same rfl) (.cons (.same rfl) .nil))))⟩⟩
  · rintro ⟨j, n⟩ ⟨hkj, hjl, hnm, hrun, hdec⟩
    simp only at hkj hjl hnm hrun hdec
    by_cases hjd : j < s.length ∧ onB digC (s.getD j 0) = true
    · obtain ⟨hj, hjd⟩ := hjd
      have hrj := digC_is hjd
      unfold isDg at hrj
      have k1 : decide ((j : Int) < (s.length : Int)) = true := decide_eq_true (by omega)
      have k2 : digC (bA s (j : Int)) = true := by rw [bA_is]; exact hjd
      have z1 : (0 : Int) ≤ (j : Int) ∧ (j : Int) < (s.length : Int) := ⟨by omega, by omega⟩
      by_cases hov : n > (9223372036854775807 - ((s.getD j 0).toNat - 48)) / 10
      · have k3 : decide ((n : Int) > ovE s (j : Int)) = true := by rw [ovE_is hrj]; exact decide_eq_true (by omega)
        have ho : oneS s k = noW := by
          refine one_no ?_
          have hge := decN_ge ((s.drop (j + 1)).take (runN digC (s.drop (j + 1)))) (10 * n + ((s.getD j 0).toNat - 48))
          rw [← dec_at hj hjd, ← hdec] at hge
          rw [hF]
          unfold numS'
          rw [if_neg (by omega)]
        repeat' (refine BR.mk (fun h => ?_) (fun h => ?_) <;> first | with_reducible exact Bool.noConfusion h | with_reducible exact Bool.noConfusion (k1.symm.trans h) | with_reducible exact Bool.noConfusion (k2.symm.trans h) | with_reducible exact Bool.noConfusion (k3.symm.trans h) | skip)
        · exact z1
        · exact z1
        · exact (show (10 : Int) ≠ 0 by decide)
        · refine Fini.mk ?_
          rw [ho]; rfl
      · have k3 : decide ((n : Int) > ovE s (j : Int)) = false := by rw [ovE_is hrj]; exact decide_eq_false (by omega)
        have w1 : IntKind.i64.wrap ((j : Int) + 1) = ((j + 1 : Nat) : Int) := (wrap_id (by unfold i64; omega)).trans (by omega)
        repeat' (refine BR.mk (fun h => ?_) (fun h => ?_) <;> first | with_reducible exact Bool.noConfusion h | with_reducible exact Bool.noConfusion (k1.symm.trans h) | with_reducible exact Bool.noConfusion (k2.symm.trans h) | with_reducible exact Bool.noConfusion (k3.symm.trans h) | skip)
        · exact z1
        · exact z1
        · exact (show (10 : Int) ≠ 0 by decide)
        · exact z1
        · refine Again.fam (j + 1, 10 * n + ((s.getD j 0).toNat - 48)) ⟨by show k ≤ j + 1; omega, hj, by show 10 * n + ((s.getD j 0).toNat - 48) ≤ 9223372036854775807; omega, ?_, ?_⟩ (by show s.length - (j + 1) < s.length - j; omega) rfl rfl rfl rfl trivial ?_ ?_
          · show runN digC (s.drop k) = (j + 1 - k) + runN digC (s.drop (j + 1))
            rw [hrun, run_at hj, if_pos hjd]; omega
          · show _ = decN (10 * n + ((s.getD j 0).toNat - 48)) ((s.drop (j + 1)).take (runN digC (s.drop (j + 1))))
            rw [hdec, dec_at hj hjd]
          · repeat' (refine BR.mk (fun _ => ?_) (fun _ => ?_))
            any_goals first | exact trivial | exact Wv.any _ | (refine Wv.int ?_; with_reducible rfl) | (refine Wv.str ?_; with_reducible rfl) | (refine Wv.bool ?_; with_reducible rfl) | refine Wv.int ?_ | refine Wv.str ?_ | refine Wv.bool ?_ | exact Wv.same rfl
            · exact w1
            · show IntKind.u64.wrap (IntKind.u64.wrap ((n : Int) * 10) + IntKind.u64.wrap (IntKind.u8.wrap (bA s (j : Int) - 48))) = ((10 * n + ((s.getD j 0).toNat - 48) : Nat) : Int)
              rw [dig_val hrj, u64w (n := (n : Int) * 10) ⟨by omega, by omega⟩, u64w ⟨by omega, by omega⟩]
              omega
          · refine BR.mk (fun _ => ?_) (fun _ => trivial)
            exact ⟨Nat.le_of_ble_eq_true rfl, .inl ⟨rfl, _, rfl, .cons (.same rfl) (.cons (.same rfl) (.cons (.same rfl) (.cons (.same rfl) (.cons (.same rfl) .nil))))⟩⟩
    · have nd : decide ((j : Int) < (s.length : Int)) = true → digC (bA s (j : Int)) = true → False := fun a b => by
        rw [bA_is] at b
        exact hjd ⟨by have := of_decide_eq_true a; omega, b⟩
      have hr0 : runN digC (s.drop j) = 0 := by
        by_cases hj : j < s.length
        · rw [run_at hj, if_neg (fun e => hjd ⟨hj, e⟩)]
        · rw [List.drop_of_length_le (by omega)]; rfl
      have z2 : decide ((j : Int) < (s.length : Int)) = true → (0 : Int) ≤ (j : Int) ∧ (j : Int) < (s.length : Int) := fun a => ⟨by omega, of_decide_eq_true a⟩
      have ho : oneS s k = ⟨1, [], (n : Nat), k, (k + (j - k) : Nat)⟩ := by
        refine one_is (d := j - k) ?_ ?_
        · rw [hF]
          unfold numS'
          rw [hdec, hr0, List.take_zero, decN_nil, if_pos hnm, hrun, hr0]
          rfl
        · have := run_at (p := digC) hk
          rw [if_pos hd, hrun, hr0] at this
          omega
      repeat' (refine BR.mk (fun h => ?_) (fun h => ?_) <;> first | with_reducible exact Bool.noConfusion h | with_reducible exact (nd (by assumption) h).elim | skip)
      all_goals first | with_reducible exact z2 (by assumption) | refine Fini.mk ?_
      all_goals rw [ho]
      all_goals show AV.agg [.int .u8 1, .str [], .int .i64 (IntKind.i64.wrap (n : Int)), .int .i64 k, .int .i64 j] = AV.agg [.int .u8 1, .str [], .int .i64 (n : Int), .int .i64 k, .int .i64 ((k + (j - k) : Nat) : Int)]
      all_goals rw [wrap_id (by unfold i64; omega), show k + (j - k) = j from by omega]
end

end Go.Proofs.YtejepcnoflahkaaGreatDoor
end

section
namespace Go.Proofs.YtejepcnoflahkaaGreatDoor
open Go Go.Ab
set_option linter.unusedVariables false
set_option linter.unusedSimpArgs false
set_option maxRecDepth 100000
set_option maxHeartbeats 8000000

theorem let_39 {b : UInt8} (h : onB letC b = true) : b ≠ 39 ∧ onB digC b = false := by
  refine ⟨fun e => by rw [e] at h; exact absurd h (by decide), ?_⟩
  rw [Bool.eq_false_iff]
  intro h2
  simp only [onB, digC, letC, Bool.or_eq_true, Bool.and_eq_true, decide_eq_true_eq, beq_iff_eq] at h h2
  omega
theorem inF_iff (s : List UInt8) (f : Nat → List UInt8) : ∀ (k i : Nat), inF s f i k = true ↔ ∃ j, i ≤ j ∧ j < i + k ∧ f j = s
  | 0, i => by
    constructor
    · intro h; cases h
    · rintro ⟨j, h1, h2, _⟩; omega
  | k + 1, i => by
    have ih := inF_iff s f k (i + 1)
    show cond (f i == s) true (inF s f (i + 1) k) = true ↔ _
    cases hb : (f i == s) with
    | true => exact ⟨fun _ => ⟨i, Nat.le_refl _, by omega, eq_of_beq hb⟩, fun _ => rfl⟩
    | false =>
      rw [cond_false, ih]
      constructor
      · rintro ⟨j, h1, h2, h3⟩; exact ⟨j, by omega, by omega, h3⟩
      · rintro ⟨j, h1, h2, h3⟩
        by_cases e : j = i
        · subst e; rw [h3, beq_self_eq_true] at hb; cases hb
        · exact ⟨j, by omega, by omega, h3⟩
theorem inF_keys (s : List UInt8) : inF s (fun i => keysL.getD i []) 0 40 = decide (s ∈ keysL) := by
  rw [Bool.eq_iff_iff, inF_iff, decide_eq_true_iff]
  have hl : keysL.length = 40 := rfl
  constructor
  · rintro ⟨j, _, h2, h3⟩
    have h2' : j < keysL.length := by omega
    rw [← h3, List.getD_eq_getElem?_getD, List.getElem?_eq_getElem h2']
    exact List.getElem_mem _
  · intro h
    obtain ⟨j, hj, e⟩ := List.getElem_of_mem h
    refine ⟨j, Nat.zero_le _, by omega, ?_⟩
    rw [List.getD_eq_getElem?_getD, List.getElem?_eq_getElem hj, ← e]; rfl
section
set_option smartUnfolding false
theorem one_let (s : List UInt8) (k : Nat) (hk : k < s.length) (hn : s.length ≤ 65536) (hd : onB letC (s.getD k 0) = true) (hB : isBlob (s.drop k) = false) : PC Tryz.prog GW 107 [.str s, .int .i64 k] (encW (oneS s k)) := by
  have z0 : (0 : Int) ≤ (k : Int) ∧ (k : Int) < (s.length : Int) := ⟨by omega, by omega⟩
  obtain ⟨h39, hdg⟩ := let_39 hd
  have g1 : (bA s (k : Int) == 39) = false := by rw [bA_is, eq39]; exact decide_eq_false h39
  have g2 : digC (bA s (k : Int)) = false := by rw [bA_is]; exact hdg
  have g3 : letC (bA s (k : Int)) = true := by rw [bA_is]; exact hd
  have w1 : IntKind.i64.wrap ((k : Int) + 1) = ((k + 1 : Nat) : Int) := (wrap_id (by unfold i64; omega)).trans (by omega)
  have hF : foundS (s.drop k) = Go.Proofs.YtejepcnoflahkaaGreatDoor.nameS (s.drop k) := by
    rw [getD_drop hk] at hB ⊢
    exact fs_l hB (by simpa using h39) hdg hd
  have nx : (s.getD k 0 = 120 ∨ s.getD k 0 = 88) → decide (IntKind.i64.wrap ((k : Int) + 1) < (s.length : Int)) = true → (bA s (IntKind.i64.wrap ((k : Int) + 1)) == 39) = true → False := no_x hk hn hB
  have hx1 : (bA s (k : Int) == 120) = true → (s.getD k 0 = 120 ∨ s.getD k 0 = 88) := fun a => by
    rw [bA_is, eq120] at a
    exact .inl (by simpa using a)
  have hx2 : (bA s (k : Int) == 88) = true → (s.getD k 0 = 120 ∨ s.getD k 0 = 88) := fun a => by
    rw [bA_is, eq88] at a
    exact .inr (by simpa using a)
  have z1 : decide (IntKind.i64.wrap ((k : Int) + 1) < (s.length : Int)) = true → (0 : Int) ≤ IntKind.i64.wrap ((k : Int) + 1) ∧ IntKind.i64.wrap ((k : Int) + 1) < (s.length : Int) := fun a => ⟨by rw [w1]; omega, of_decide_eq_true a⟩
  refine pc_fin ER9i_ok mixed (show Tryz.prog.funcs[107]? = some Tryz.f107 from rfl) ?_
  repeat' (refine BR.mk (fun h => ?_) (fun h => ?_) <;> first | with_reducible exact Bool.noConfusion h | with_reducible exact Bool.noConfusion (g1.symm.trans h) | with_reducible exact Bool.noConfusion (g2.symm.trans h) | with_reducible exact Bool.noConfusion (g3.symm.trans h) | with_reducible exact (nx (hx1 (by assumption)) (by assumption) h).elim | with_reducible exact (nx (hx2 (by assumption)) (by assumption) h).elim | skip)
  all_goals first | with_reducible exact z0 | with_reducible exact z1 (by assumption) | skip
  all_goals
    refine loop_fam ER9i_ok mixed (σ := Nat) (fun j => k ≤ j ∧ j ≤ s.length ∧ runN namC (s.drop k) = (j - k) + runN namC (s.drop j)) (fun j => s.length - j) k ⟨Nat.le_refl _, by omega, by omega⟩ 1 0 [0, 1, 4] (fun j => [(5, .int .i64 j)]) [] (fun _ => [(0, .cells [.int .u8 0, .str [], .int .i64 0, .int .i64 0, .int .i64 0])]) (fun _ => []) ?_ ?_ ?_ ?_
    · rfl
    · rfl
    · refine Wk.mk' rfl rfl trivial ?_ ?_
      · repeat' (refine BR.mk (fun _ => ?_) (fun _ => ?_))
        any_goals first | exact trivial | exact Wv.any _ | (refine Wv.int ?_; with_reducible rfl) | (refine Wv.str ?_; with_reducible rfl) | (refine Wv.bool ?_; with_reducible rfl) | refine Wv.int ?_ | refine Wv.str ?_ | refine Wv.bool ?_ | exact Wv.same rfl
        all_goals rfl
      · refine BR.mk (fun _ => ?_) (fun _ => trivial)
        exact ⟨Nat.le_of_ble_eq_true rfl, .inl ⟨rfl, _, rfl, .cons (.same rfl) (.cons (.same rfl) (.cons (.same rfl) (.cons (.same rfl) (.cons (.same rfl) .nil))))⟩⟩
    · rintro j ⟨hkj, hjl, hrun⟩
      have z3 : decide ((j : Int) < (s.length : Int)) = true → (0 : Int) ≤ (j : Int) ∧ (j : Int) < (s.length : Int) := fun a => ⟨by omega, of_decide_eq_true a⟩
      by_cases hj : j < s.length ∧ onB namC (s.getD j 0) = true
      · obtain ⟨hj, hnm⟩ := hj
        have k1 : decide ((j : Int) < (s.length : Int)) = true := decide_eq_true (by omega)
        have w2 : IntKind.i64.wrap ((j : Int) + 1) = ((j + 1 : Nat) : Int) := (wrap_id (by unfold i64; omega)).trans (by omega)
        have nn : letC (bA s (j : Int)) = false → digC (bA s (j : Int)) = false → False := fun a b => by
          rw [bA_is] at a b
          have : (letC ((s.getD j 0).toNat : Int) || digC ((s.getD j 0).toNat : Int)) = true := hnm
          rw [a, b] at this
          cases this
        have hrun2 : runN namC (s.drop k) = (j + 1 - k) + runN namC (s.drop (j + 1)) := by
          rw [hrun, run_at hj, if_pos hnm]; omega
        repeat' (refine BR.mk (fun h => ?_) (fun h => ?_) <;> first | with_reducible exact Bool.noConfusion h | with_reducible exact Bool.noConfusion (k1.symm.trans h) | with_reducible exact (nn (by assumption) h).elim | skip)
        all_goals first | with_reducible exact z3 (by assumption) | skip
        all_goals refine Again.fam (j + 1) ⟨by omega, hj, hrun2⟩ (by show s.length - (j + 1) < s.length - j; omega) rfl rfl rfl rfl trivial ?_ ?_
        all_goals first | (refine BR.mk (fun _ => ⟨Nat.le_of_ble_eq_true rfl, .inl ⟨rfl, _, rfl, .cons (.same rfl) (.cons (.same rfl) (.cons (.same rfl) (.cons (.same rfl) (.cons (.same rfl) .nil))))⟩⟩) (fun _ => trivial)) | skip
        all_goals repeat' (refine BR.mk (fun _ => ?_) (fun _ => ?_))
        all_goals (any_goals first | exact trivial | exact Wv.any _ | (refine Wv.int ?_; with_reducible rfl) | refine Wv.int ?_ | exact Wv.same rfl)
        all_goals exact w2
      · have hr0 : runN namC (s.drop j) = 0 := by
          by_cases hj2 : j < s.length
          · rw [run_at hj2, if_neg (fun e => hj ⟨hj2, e⟩)]
          · rw [List.drop_of_length_le (by omega)]; rfl
        have hl0 : decide ((j : Int) < (s.length : Int)) = true → letC (bA s (j : Int)) = true → False := fun a b => by
          rw [bA_is] at b
          refine hj ⟨by have := of_decide_eq_true a; omega, ?_⟩
          show (letC ((s.getD j 0).toNat : Int) || digC ((s.getD j 0).toNat : Int)) = true
          rw [b]; rfl
        have hd0 : decide ((j : Int) < (s.length : Int)) = true → digC (bA s (j : Int)) = true → False := fun a b => by
          rw [bA_is] at b
          refine hj ⟨by have := of_decide_eq_true a; omega, ?_⟩
          show (letC ((s.getD j 0).toNat : Int) || digC ((s.getD j 0).toNat : Int)) = true
          rw [b]; cases letC ((s.getD j 0).toNat : Int) <;> rfl
        have hkr : runN namC (s.drop k) = j - k := by rw [hrun, hr0]; rfl
        have hjk : k < j := by
          have := run_at (p := namC) hk
          rw [if_pos (by show (letC ((s.getD k 0).toNat : Int) || digC ((s.getD k 0).toNat : Int)) = true; rw [show letC ((s.getD k 0).toNat : Int) = true from hd]; rfl), hkr] at this
          omega
        have hT : List.take ((j : Int).toNat - (k : Int).toNat) (List.drop (k : Int).toNat s) = (s.drop k).take (j - k) := by rw [Int.toNat_natCast, Int.toNat_natCast]
        have ho : ∀ K : Int, (if lowS ((s.drop k).take (j - k)) ∈ keysL then (3 : Int) else 2) = K → oneS s k = ⟨K, lowS ((s.drop k).take (j - k)), 0, k, (k + (j - k) : Nat)⟩ := fun K hK => by
          refine one_is (d := j - k) ?_ (by omega)
          rw [hF]
          unfold Go.Proofs.YtejepcnoflahkaaGreatDoor.nameS
          rw [hkr, hK]
        have zs : ((0 : Int) ≤ (j : Int) ∧ (j : Int) ≤ (s.length : Int)) ∧ (0 : Int) ≤ (k : Int) ∧ (k : Int) ≤ (j : Int) := ⟨⟨by omega, by omega⟩, by omega, by omega⟩
        have zl : (List.take ((j : Int).toNat - (k : Int).toNat) (List.drop (k : Int).toNat s)).length ≤ 65536 := by rw [hT, List.length_take, List.length_drop]; omega
        have fin : ∀ K : Int, (if lowS ((s.drop k).take (j - k)) ∈ keysL then (3 : Int) else 2) = K → AV.agg [.int .u8 K, .str (lowS (List.take ((j : Int).toNat - (k : Int).toNat) (List.drop (k : Int).toNat s))), .int .i64 0, .int .i64 k, .int .i64 j] = encW (oneS s k) := fun K hK => by
          rw [ho K hK, hT]
          show _ = AV.agg [.int .u8 K, .str (lowS ((s.drop k).take (j - k))), .int .i64 0, .int .i64 k, .int .i64 ((k + (j - k) : Nat) : Int)]
          rw [show k + (j - k) = j from by omega]
        have q : ∀ b : Bool, inF (lowS (List.take ((j : Int).toNat - (k : Int).toNat) (List.drop (k : Int).toNat s))) (fun i => keysL.getD i []) 0 40 = b → decide (lowS ((s.drop k).take (j - k)) ∈ keysL) = b := fun b e => by
          rw [hT] at e
          rw [← inF_keys]; exact e
        repeat' (refine BR.mk (fun h => ?_) (fun h => ?_) <;> first | with_reducible exact Bool.noConfusion h | with_reducible exact (hl0 (by assumption) h).elim | with_reducible exact (hd0 (by assumption) h).elim | skip)
        all_goals first | with_reducible exact z3 (by assumption) | with_reducible exact zs | with_reducible exact zl | skip
        all_goals first | exact ⟨by decide, fun _ _ => rfl⟩ | exact Fini.mk (fin 3 (if_pos (of_decide_eq_true (q true h)))) | exact Fini.mk (fin 2 (if_neg (of_decide_eq_false (q false h))))
end

end Go.Proofs.YtejepcnoflahkaaGreatDoor
end

section
namespace Go.Proofs.YtejepcnoflahkaaGreatDoor
open Go Go.Ab
set_option linter.unusedVariables false
set_option linter.unusedSimpArgs false
set_option maxRecDepth 100000
set_option maxHeartbeats 8000000

theorem pre_is (u x : List UInt8) : Lib.hasPrefix u x = true ↔ x.length ≤ u.length ∧ u.take x.length = x := by
  unfold Lib.hasPrefix
  rw [List.isPrefixOf_iff_prefix]
  constructor
  · intro h
    exact ⟨h.length_le, (List.prefix_iff_eq_take.1 h).symm⟩
  · rintro ⟨h1, h2⟩
    rw [← h2]
    exact List.take_prefix _ _
@[reducible] def sg (i : Nat) : List UInt8 := ([[124, 124], [60, 62], [60, 61], [62, 61], [61], [60], [62], [43], [45], [42], [47], [37], [40], [41], [44], [46], [59], [63]] : List (List UInt8)).getD ((i : Nat) : Int).toNat []
theorem sg_is (i : Nat) : sg i = signsL.getD i [] := by unfold sg; rw [Int.toNat_natCast]; rfl
theorem sg_len {i : Nat} (h : i < 18) : 1 ≤ (sg i).length ∧ (sg i).length ≤ 2 := by
  rw [sg_is]
  have : ∀ n : Fin 18, 1 ≤ (signsL.getD n.val []).length ∧ (signsL.getD n.val []).length ≤ 2 := by decide +kernel
  exact this ⟨i, h⟩
theorem first_drop {u : List UInt8} {i : Nat} (h : i < 18) : firstS u (signsL.drop i) = if Lib.hasPrefix u (sg i) = true then ⟨6, sg i, 0, (sg i).length⟩ else firstS u (signsL.drop (i + 1)) := by
  have hl : i < signsL.length := h
  have e : signsL.drop i = sg i :: signsL.drop (i + 1) := by
    rw [List.drop_eq_getElem_cons hl, sg_is, List.getD_eq_getElem?_getD, List.getElem?_eq_getElem hl]; rfl
  rw [e]
  cases hp : Lib.hasPrefix u (sg i) with
  | true => rw [fi_hit hp, if_pos rfl]
  | false => rw [fi_miss hp, if_neg (by decide)]
section
set_option smartUnfolding false
theorem one_sign (s : List UInt8) (k : Nat) (hk : k < s.length) (hn : s.length ≤ 65536) (h39 : s.getD k 0 ≠ 39) (hdg : onB digC (s.getD k 0) = false) (hlt : onB letC (s.getD k 0) = false) : PC Tryz.prog GW 107 [.str s, .int .i64 k] (encW (oneS s k)) := by
  have z0 : (0 : Int) ≤ (k : Int) ∧ (k : Int) < (s.length : Int) := ⟨by omega, by omega⟩
  obtain ⟨n1, n2⟩ := not_x (s := s) (k := k) (by rintro (e | e) <;> rw [e] at hlt <;> exact absurd hlt (by decide))
  have g1 : (bA s (k : Int) == 39) = false := by rw [bA_is, eq39]; exact decide_eq_false h39
  have g2 : digC (bA s (k : Int)) = false := by rw [bA_is]; exact hdg
  have g3 : letC (bA s (k : Int)) = false := by rw [bA_is]; exact hlt
  have hF : foundS (s.drop k) = firstS (s.drop k) signsL := by
    rw [getD_drop hk]
    exact fs_s (isBlob_dig _ _ hlt) (by simpa using h39) hdg hlt
  refine pc_fin ER9i_ok mixed (show Tryz.prog.funcs[107]? = some Tryz.f107 from rfl) ?_
  repeat' (refine BR.mk (fun h => ?_) (fun h => ?_) <;> first | with_reducible exact Bool.noConfusion h | with_reducible exact Bool.noConfusion (n1.symm.trans h) | with_reducible exact Bool.noConfusion (n2.symm.trans h) | with_reducible exact Bool.noConfusion (g1.symm.trans h) | with_reducible exact Bool.noConfusion (g2.symm.trans h) | with_reducible exact Bool.noConfusion (g3.symm.trans h) | skip)
  · exact z0
  refine loop_fam ER9i_ok mixed (σ := Nat) (fun i => i ≤ 18 ∧ firstS (s.drop k) signsL = firstS (s.drop k) (signsL.drop i)) (fun i => 18 - i) 0 ⟨Nat.zero_le _, rfl⟩ 1 0 [0, 1, 4, 13] (fun i => [(14, .int .i64 i)]) [] (fun _ => [(0, .cells [.int .u8 0, .str [], .int .i64 0, .int .i64 0, .int .i64 0])]) (fun _ => []) ?_ ?_ ?_ ?_
  · rfl
  · rfl
  · refine Wk.mk' rfl rfl trivial ?_ ?_
    · repeat' (refine BR.mk (fun _ => ?_) (fun _ => ?_))
      any_goals first | exact trivial | exact Wv.any _ | (refine Wv.int ?_; with_reducible rfl) | (refine Wv.str ?_; with_reducible rfl) | (refine Wv.bool ?_; with_reducible rfl) | refine Wv.int ?_ | refine Wv.str ?_ | refine Wv.bool ?_ | exact Wv.same rfl
      all_goals rfl
    · refine BR.mk (fun _ => ?_) (fun _ => trivial)
      exact ⟨Nat.le_of_ble_eq_true rfl, .inl ⟨rfl, _, rfl, .cons (.same rfl) (.cons (.same rfl) (.cons (.same rfl) (.cons (.same rfl) (.cons (.same rfl) .nil))))⟩⟩
  · rintro i ⟨hi, hf⟩
    by_cases hil : i < 18
    · obtain ⟨hl1, hl2⟩ := sg_len hil
      have k1 : decide ((i : Int) < ((18 : Nat) : Int)) = true := decide_eq_true (by omega)
      have w1 : IntKind.i64.wrap ((i : Int) + 1) = ((i + 1 : Nat) : Int) := (wrap_id (by unfold i64; omega)).trans (by omega)
      have wl : IntKind.i64.wrap ((k : Int) + ((sg i).length : Int)) = ((k + (sg i).length : Nat) : Int) := (wrap_id (by unfold i64; omega)).trans (by omega)
      have zi : (0 : Int) ≤ (i : Int) ∧ (i : Int) < ((18 : Nat) : Int) := ⟨by omega, by omega⟩
      have zs : decide (IntKind.i64.wrap ((k : Int) + ((sg i).length : Int)) ≤ (s.length : Int)) = true → ((0 : Int) ≤ IntKind.i64.wrap ((k : Int) + ((sg i).length : Int)) ∧ IntKind.i64.wrap ((k : Int) + ((sg i).length : Int)) ≤ (s.length : Int)) ∧ (0 : Int) ≤ (k : Int) ∧ (k : Int) ≤ IntKind.i64.wrap ((k : Int) + ((sg i).length : Int)) := fun a => by
        have := of_decide_eq_true a
        rw [wl] at this ⊢
        omega
      have eT : List.take ((IntKind.i64.wrap ((k : Int) + ((sg i).length : Int))).toNat - (k : Int).toNat) (List.drop (k : Int).toNat s) = (s.drop k).take (sg i).length := by
        rw [wl, Int.toNat_natCast, Int.toNat_natCast, Nat.add_sub_cancel_left]
      by_cases hp : Lib.hasPrefix (s.drop k) (sg i) = true
      · obtain ⟨p1, p2⟩ := (pre_is _ _).1 hp
        rw [List.length_drop] at p1
        have k2 : decide (IntKind.i64.wrap ((k : Int) + ((sg i).length : Int)) ≤ (s.length : Int)) = true := by rw [wl]; exact decide_eq_true (by omega)
        have k3 : (List.take ((IntKind.i64.wrap ((k : Int) + ((sg i).length : Int))).toNat - (k : Int).toNat) (List.drop (k : Int).toNat s) == sg i) = true := by rw [eT, p2]; exact beq_self_eq_true _
        have ho : oneS s k = ⟨6, sg i, 0, k, (k + (sg i).length : Nat)⟩ := one_is (d := (sg i).length) (by rw [hF, hf, first_drop hil, if_pos hp]) (by omega)
        repeat' (refine BR.mk (fun h => ?_) (fun h => ?_) <;> first | with_reducible exact Bool.noConfusion h | with_reducible exact Bool.noConfusion (k1.symm.trans h) | with_reducible exact Bool.noConfusion (k2.symm.trans h) | with_reducible exact Bool.noConfusion (k3.symm.trans h) | skip)
        · exact (show commutes _ _ = true by kernel_rfl)
        · exact ⟨zi, rfl, rfl⟩
        · exact ⟨zi, rfl, rfl⟩
        · exact zs k2
        · exact ⟨zi, rfl, rfl⟩
        · exact (show commutes _ _ = true by kernel_rfl)
        · exact ⟨zi, rfl, rfl⟩
        · exact ⟨zi, rfl, rfl⟩
        · refine Fini.mk ?_
          rw [ho]
          show AV.agg [.int .u8 6, .str (sg i), .int .i64 0, .int .i64 k, .int .i64 (IntKind.i64.wrap ((k : Int) + ((sg i).length : Int)))] = AV.agg [.int .u8 6, .str (sg i), .int .i64 0, .int .i64 k, .int .i64 ((k + (sg i).length : Nat) : Int)]
          rw [wl]
      · have hnext : firstS (s.drop k) signsL = firstS (s.drop k) (signsL.drop (i + 1)) := by rw [hf, first_drop hil, if_neg hp]
        have nd : decide (IntKind.i64.wrap ((k : Int) + ((sg i).length : Int)) ≤ (s.length : Int)) = true → (List.take ((IntKind.i64.wrap ((k : Int) + ((sg i).length : Int))).toNat - (k : Int).toNat) (List.drop (k : Int).toNat s) == sg i) = true → False := fun a b => by
          have ha := of_decide_eq_true a
          rw [wl] at ha
          rw [eT] at b
          exact hp ((pre_is _ _).2 ⟨by rw [List.length_drop]; omega, eq_of_beq b⟩)
        repeat' (refine BR.mk (fun h => ?_) (fun h => ?_) <;> first | with_reducible exact Bool.noConfusion h | with_reducible exact Bool.noConfusion (k1.symm.trans h) | with_reducible exact (nd (by assumption) h).elim | skip)
        all_goals first | (with_reducible exact zs (by assumption)) | exact (show commutes _ _ = true by kernel_rfl) | (with_reducible refine ⟨zi, ?_, ?_⟩) | skip
        all_goals first | rfl | skip
        all_goals refine Again.fam (i + 1) ⟨hil, hnext⟩ (by show 18 - (i + 1) < 18 - i; omega) rfl rfl rfl rfl trivial ?_ ?_
        all_goals first | (refine BR.mk (fun _ => ⟨Nat.le_of_ble_eq_true rfl, .inl ⟨rfl, _, rfl, .cons (.same rfl) (.cons (.same rfl) (.cons (.same rfl) (.cons (.same rfl) (.cons (.same rfl) .nil))))⟩⟩) (fun _ => trivial)) | skip
        all_goals repeat' (refine BR.mk (fun _ => ?_) (fun _ => ?_))
        all_goals (any_goals first | exact trivial | exact Wv.any _ | (refine Wv.int ?_; with_reducible rfl) | refine Wv.int ?_ | exact Wv.same rfl)
        all_goals exact w1
    · have k1 : decide ((i : Int) < ((18 : Nat) : Int)) = false := decide_eq_false (by omega)
      obtain rfl : i = 18 := by omega
      have ho : oneS s k = noW := one_no (by rw [hF, hf]; rfl)
      repeat' (refine BR.mk (fun h => ?_) (fun h => ?_) <;> first | with_reducible exact Bool.noConfusion h | with_reducible exact Bool.noConfusion (k1.symm.trans h) | skip)
      refine Fini.mk ?_
      rw [ho]; rfl
theorem pc_rone (s : List UInt8) (k : Nat) (hk : k < s.length) (hn : s.length ≤ 65536) : PC Tryz.prog GW 107 [.str s, .int .i64 k] (encW (oneS s k)) := by
  cases hB : isBlob (s.drop k) with
  | true => exact one_blob s k hk hn hB
  | false =>
    by_cases h39 : s.getD k 0 = 39
    · exact one_quo s k hk hn h39
    · cases hd : onB digC (s.getD k 0) with
      | true => exact one_dig s k hk hn hd
      | false =>
        cases hl : onB letC (s.getD k 0) with
        | true => exact one_let s k hk hn hl hB
        | false => exact one_sign s k hk hn h39 hd hl
end
def h_rone : List AV → CR
  | [.str s, .int .i64 a] => .need ((s.length ≤ 65536 ∧ 0 ≤ a) ∧ a < (s.length : Int)) (encW (oneS s a.toNat))
  | _ => .no
theorem h_rone_ok (xs : List AV) : CRok Tryz.prog GW 107 xs (h_rone xs) := by
  unfold h_rone
  split
  · rename_i s a
    rintro ⟨⟨h1, h2⟩, h3⟩
    have := pc_rone s a.toNat (by omega) h1
    rwa [show ((a.toNat : Nat) : Int) = a from by omega] at this
  · trivial
noncomputable def ER9o : Env := ER9i.add 107 h_rone
theorem ER9o_ok : EnvOk Tryz.prog ER9o := Env.add_ok ER9i_ok (by kernel_rfl) h_rone_ok
theorem kind_ne (u : List UInt8) (h : (foundS u).l ≠ 0) : (foundS u).k ≠ 0 := by
  cases u with
  | nil => exact absurd rfl h
  | cons b l =>
    cases hb : isBlob (b :: l) with
    | true =>
      rw [fs_b hb]
      cases bloS (l.drop 1) <;> simp
    | false =>
      cases hq : b == 39 with
      | true =>
        rw [fs_q hb hq]
        cases quoS l <;> simp
      | false =>
        cases hd : onB digC b with
        | true =>
          rw [fs_d hb hq hd] at h ⊢
          unfold numS' at h ⊢
          split
          · simp
          · rename_i h2; rw [if_neg h2] at h; exact absurd rfl h
        | false =>
          cases hl : onB letC b with
          | true =>
            rw [fs_l hb hq hd hl]
            show (if _ then (3 : Int) else 2) ≠ 0
            split <;> decide
          | false =>
            rw [fs_s hb hq hd hl] at h ⊢
            obtain ⟨x, _, e, _⟩ := first_mem _ _ h
            rw [e]; simp
section
set_option smartUnfolding false
@[reducible] def pR (s : List UInt8) (k : Nat) : Int := (((k : Int).toNat + skipN false (s.drop (k : Int).toNat) : Nat) : Int)
theorem rnext_in (s : List UInt8) (k : Nat) (hl : s.length ≤ 65536) (hk : k ≤ s.length) : PC Tryz.prog GW 35 [.str s, .int .i64 k] (encWF (tokS (s.drop k) k)) := by
  have k1 : decide ((s.length : Int) > 65536) = false := decide_eq_false (by omega)
  have k2 : decide ((k : Int) < 0) = false := decide_eq_false (by omega)
  have k3 : decide ((k : Int) > (s.length : Int)) = false := decide_eq_false (by omega)
  have z0 : (s.length ≤ 65536 ∧ (0 : Int) ≤ (k : Int)) ∧ (k : Int) ≤ (s.length : Int) := ⟨⟨hl, by omega⟩, by omega⟩
  have hs := skipN_le false (s.drop k)
  rw [List.length_drop] at hs
  have ep : pR s k = ((k + skipN false (s.drop k) : Nat) : Int) := by unfold pR; rw [Int.toNat_natCast]
  by_cases he : k + skipN false (s.drop k) = s.length
  · have k4 : (pR s k == (s.length : Int)) = true := by rw [ep, he]; exact beq_self_eq_true _
    have ht : tokS (s.drop k) k = ⟨⟨7, [], 0, pR s k, pR s k⟩, 0, 0⟩ := by
      unfold tokS
      rw [if_pos (by rw [List.length_drop]; omega), ep]
      rw [List.length_drop, show k + (s.length - k) = k + skipN false (s.drop k) from by omega]
    refine pc_fin ER9o_ok mixed (show Tryz.prog.funcs[35]? = some Tryz.f35 from rfl) ?_
    repeat' (refine BR.mk (fun h => ?_) (fun h => ?_) <;> first | with_reducible exact Bool.noConfusion h | with_reducible exact Bool.noConfusion (k1.symm.trans h) | with_reducible exact Bool.noConfusion (k2.symm.trans h) | with_reducible exact Bool.noConfusion (k3.symm.trans h) | with_reducible exact Bool.noConfusion (k4.symm.trans h) | skip)
    · exact z0
    · refine Fini.mk ?_
      rw [ht]; rfl
  · have k4 : (pR s k == (s.length : Int)) = false := by rw [ep]; simpa using fun e => he (by omega)
    have z1 : (s.length ≤ 65536 ∧ (0 : Int) ≤ pR s k) ∧ pR s k < (s.length : Int) := by rw [ep]; omega
    have eo : oneS s (pR s k).toNat = oneS s (k + skipN false (s.drop k)) := by rw [ep, Int.toNat_natCast]
    have ed : s.drop (k + skipN false (s.drop k)) = (s.drop k).drop (skipN false (s.drop k)) := by rw [List.drop_drop]
    by_cases h0 : (foundS ((s.drop k).drop (skipN false (s.drop k)))).l = 0
    · have e1 : oneS s (k + skipN false (s.drop k)) = noW := one_no (by rw [ed]; exact h0)
      have k5 : ((oneS s (pR s k).toNat).k == 0) = true := by rw [eo, e1]; rfl
      have ht : tokS (s.drop k) k = ⟨noW, 100, pR s k⟩ := by
        unfold tokS
        rw [if_neg (by rw [List.length_drop]; omega), if_pos h0, ep]
      refine pc_fin ER9o_ok mixed (show Tryz.prog.funcs[35]? = some Tryz.f35 from rfl) ?_
      repeat' (refine BR.mk (fun h => ?_) (fun h => ?_) <;> first | with_reducible exact Bool.noConfusion h | with_reducible exact Bool.noConfusion (k1.symm.trans h) | with_reducible exact Bool.noConfusion (k2.symm.trans h) | with_reducible exact Bool.noConfusion (k3.symm.trans h) | with_reducible exact Bool.noConfusion (k4.symm.trans h) | with_reducible exact Bool.noConfusion (k5.symm.trans h) | skip)
      · exact z0
      · exact z1
      · refine Fini.mk ?_
        rw [ht]; rfl
    · have e1 : oneS s (k + skipN false (s.drop k)) = ⟨(foundS ((s.drop k).drop (skipN false (s.drop k)))).k, (foundS ((s.drop k).drop (skipN false (s.drop k)))).s, (foundS ((s.drop k).drop (skipN false (s.drop k)))).n, (k + skipN false (s.drop k) : Nat), (k + skipN false (s.drop k) + (foundS ((s.drop k).drop (skipN false (s.drop k)))).l : Nat)⟩ := by
        unfold oneS
        rw [ed, if_neg h0]
      have k5 : ((oneS s (pR s k).toNat).k == 0) = false := by
        rw [eo, e1]
        simpa using kind_ne _ h0
      have ht : tokS (s.drop k) k = ⟨oneS s (pR s k).toNat, 0, 0⟩ := by
        unfold tokS
        rw [if_neg (by rw [List.length_drop]; omega), if_neg h0, eo, e1]
      refine pc_fin ER9o_ok mixed (show Tryz.prog.funcs[35]? = some Tryz.f35 from rfl) ?_
      repeat' (refine BR.mk (fun h => ?_) (fun h => ?_) <;> first | with_reducible exact Bool.noConfusion h | with_reducible exact Bool.noConfusion (k1.symm.trans h) | with_reducible exact Bool.noConfusion (k2.symm.trans h) | with_reducible exact Bool.noConfusion (k3.symm.trans h) | with_reducible exact Bool.noConfusion (k4.symm.trans h) | with_reducible exact Bool.noConfusion (k5.symm.trans h) | skip)
      · exact z0
      · exact z1
      · refine Fini.mk ?_
        rw [ht]; rfl
theorem rnext_long (s : List UInt8) (a : Int) (hl : s.length > 65536) : PC Tryz.prog GW 35 [.str s, .int .i64 a] (encWF ⟨noW, 3, 0⟩) := by
  have k1 : decide ((s.length : Int) > 65536) = true := decide_eq_true (by omega)
  refine pc_fin ER9o_ok mixed (show Tryz.prog.funcs[35]? = some Tryz.f35 from rfl) ?_
  repeat' (refine BR.mk (fun h => ?_) (fun h => ?_) <;> first | with_reducible exact Bool.noConfusion h | with_reducible exact Bool.noConfusion (k1.symm.trans h) | skip)
  exact Fini.mk rfl
theorem rnext_out (s : List UInt8) (a : Int) (hl : s.length ≤ 65536) (ho : a < 0 ∨ a > (s.length : Int)) : PC Tryz.prog GW 35 [.str s, .int .i64 a] (encWF ⟨noW, 2, 0⟩) := by
  have k1 : decide ((s.length : Int) > 65536) = false := decide_eq_false (by omega)
  have kk : decide (a < 0) = false → decide (a > (s.length : Int)) = false → False := fun x y => by
    have := of_decide_eq_false x
    have := of_decide_eq_false y
    omega
  refine pc_fin ER9o_ok mixed (show Tryz.prog.funcs[35]? = some Tryz.f35 from rfl) ?_
  repeat' (refine BR.mk (fun h => ?_) (fun h => ?_) <;> first | with_reducible exact Bool.noConfusion h | with_reducible exact Bool.noConfusion (k1.symm.trans h) | with_reducible exact (kk (by assumption) h).elim | skip)
  all_goals exact Fini.mk rfl
end
theorem pc_rnext (s : List UInt8) (a : Int) : PC Tryz.prog GW 35 [.str s, .int .i64 a] (encWF (nextS s a)) := by
  unfold nextS
  split
  · exact rnext_long s a (by omega)
  · split
    · rename_i h1 h2
      exact rnext_out s a (by omega) h2
    · rename_i h1 h2
      have := rnext_in s a.toNat (by omega) (by omega)
      rwa [show ((a.toNat : Nat) : Int) = a from by omega] at this
def h_rnext : List AV → CR
  | [.str s, .int .i64 a] => .yes (encWF (nextS s a))
  | _ => .no
theorem h_rnext_ok (xs : List AV) : CRok Tryz.prog GW 35 xs (h_rnext xs) := by
  unfold h_rnext
  split
  · rename_i s a
    exact pc_rnext s a
  · trivial
noncomputable def ER9n : Env := ER9o.add 35 h_rnext
theorem ER9n_ok : EnvOk Tryz.prog ER9n := Env.add_ok ER9o_ok (by kernel_rfl) h_rnext_ok

end Go.Proofs.YtejepcnoflahkaaGreatDoor
end

section
namespace Go.Proofs.YtejepcnoflahkaaGreatDoor
open Go Go.Ab
set_option linter.unusedVariables false
set_option linter.unusedSimpArgs false
set_option maxRecDepth 100000
set_option maxHeartbeats 8000000

noncomputable def EWT1 : Env := ER9n.add 38 h_hexW
theorem EWT1_ok : EnvOk Tryz.prog EWT1 := Env.add_ok ER9n_ok (by kernel_rfl) h_hexW_ok
noncomputable def EWT2 : Env := EWT1.add 36 h_quoteS
theorem EWT2_ok : EnvOk Tryz.prog EWT2 := Env.add_ok EWT1_ok (by kernel_rfl) h_quoteS_ok
noncomputable def EWT : Env := EWT2.add 40 h_awkW
theorem EWT_ok : EnvOk Tryz.prog EWT := Env.add_ok EWT2_ok (by kernel_rfl) h_awkW_ok
@[reducible] def cutW (s : List UInt8) : List UInt8 := List.take (Int.toNat 3000) s
section
set_option smartUnfolding false
theorem tell_short (s : List UInt8) (a : Int) (hs : s.length ≤ 3000) : PC Tryz.prog GW 6 [.str s, .int .i64 a] (.bool true) := by
  have k1 : decide ((s.length : Int) > 3000) = false := decide_eq_false (by omega)
  have k2 : decide ((s.length : Int) > 65536) = false := decide_eq_false (by omega)
  have k3 := k2
  have z : s.length ≤ 65536 := by omega
  have f1 : (!((nextS s a).w.k == (nextS s a).w.k && ((nextS s a).w.s == (nextS s a).w.s && ((nextS s a).w.n == (nextS s a).w.n && ((nextS s a).w.a == (nextS s a).w.a && ((nextS s a).w.e == (nextS s a).w.e && true)))))) = false := by simp
  have f2 : (!((nextS s a).e == (nextS s a).e && ((nextS s a).a == (nextS s a).a && true))) = false := by simp
  have f3 : (quoteS s == quoteS s) = true := beq_self_eq_true _
  have f4 : (hexW s == hexW s) = true := beq_self_eq_true _
  refine pc_fin EWT_ok mixed (show Tryz.prog.funcs[6]? = some Tryz.f6 from rfl) ?_
  repeat' (refine BR.mk (fun h => ?_) (fun h => ?_) <;> first | with_reducible exact Bool.noConfusion h | with_reducible exact Bool.noConfusion (k1.symm.trans h) | with_reducible exact Bool.noConfusion (k2.symm.trans h) | with_reducible exact Bool.noConfusion (k3.symm.trans h) | with_reducible exact Bool.noConfusion (f1.symm.trans h) | with_reducible exact Bool.noConfusion (f2.symm.trans h) | with_reducible exact Bool.noConfusion (f3.symm.trans h) | with_reducible exact Bool.noConfusion (f4.symm.trans h) | skip)
  all_goals first | with_reducible exact z | exact Fini.mk rfl
theorem tell_mid (s : List UInt8) (a : Int) (hs : 3000 < s.length ∧ s.length ≤ 65536) : PC Tryz.prog GW 6 [.str s, .int .i64 a] (.bool true) := by
  have k1 : decide ((s.length : Int) > 3000) = true := decide_eq_true (by omega)
  have k2 : decide ((s.length : Int) ≤ 65536) = true := decide_eq_true (by omega)
  have hl : (cutW s).length ≤ 3000 := by
    show (List.take 3000 s).length ≤ 3000
    rw [List.length_take]; omega
  have k3 : decide (((cutW s).length : Int) > 65536) = false := decide_eq_false (by omega)
  have z : (cutW s).length ≤ 65536 := by omega
  have z3 : (0 : Int) ≤ 3000 ∧ (3000 : Int) ≤ (s.length : Int) := by omega
  have f1 : (!((nextS (cutW s) a).w.k == (nextS (cutW s) a).w.k && ((nextS (cutW s) a).w.s == (nextS (cutW s) a).w.s && ((nextS (cutW s) a).w.n == (nextS (cutW s) a).w.n && ((nextS (cutW s) a).w.a == (nextS (cutW s) a).w.a && ((nextS (cutW s) a).w.e == (nextS (cutW s) a).w.e && true)))))) = false := by simp
  have f2 : (!((nextS (cutW s) a).e == (nextS (cutW s) a).e && ((nextS (cutW s) a).a == (nextS (cutW s) a).a && true))) = false := by simp
  have f3 : (quoteS (cutW s) == quoteS (cutW s)) = true := beq_self_eq_true _
  have f4 : (hexW (cutW s) == hexW (cutW s)) = true := beq_self_eq_true _
  refine pc_fin EWT_ok mixed (show Tryz.prog.funcs[6]? = some Tryz.f6 from rfl) ?_
  repeat' (refine BR.mk (fun h => ?_) (fun h => ?_) <;> first | with_reducible exact Bool.noConfusion h | with_reducible exact Bool.noConfusion (k1.symm.trans h) | with_reducible exact Bool.noConfusion (k2.symm.trans h) | with_reducible exact Bool.noConfusion (k3.symm.trans h) | with_reducible exact Bool.noConfusion (f1.symm.trans h) | with_reducible exact Bool.noConfusion (f2.symm.trans h) | with_reducible exact Bool.noConfusion (f3.symm.trans h) | with_reducible exact Bool.noConfusion (f4.symm.trans h) | skip)
  all_goals first | with_reducible exact z | with_reducible exact z3 | exact Fini.mk rfl
theorem tell_long (s : List UInt8) (a : Int) (hs : 65536 < s.length) : PC Tryz.prog GW 6 [.str s, .int .i64 a] (.bool true) := by
  have k1 : decide ((s.length : Int) > 3000) = true := decide_eq_true (by omega)
  have k2 : decide ((s.length : Int) ≤ 65536) = false := decide_eq_false (by omega)
  have k3 : decide ((s.length : Int) > 65536) = true := decide_eq_true (by omega)
  have f1 : (!((nextS s a).w.k == (nextS s a).w.k && ((nextS s a).w.s == (nextS s a).w.s && ((nextS s a).w.n == (nextS s a).w.n && ((nextS s a).w.a == (nextS s a).w.a && ((nextS s a).w.e == (nextS s a).w.e && true)))))) = false := by simp
  have f2 : (!((nextS s a).e == (nextS s a).e && ((nextS s a).a == (nextS s a).a && true))) = false := by simp
  have f3 : (quoteS s == quoteS s) = true := beq_self_eq_true _
  have f4 : (hexW s == hexW s) = true := beq_self_eq_true _
  refine pc_fin EWT_ok mixed (show Tryz.prog.funcs[6]? = some Tryz.f6 from rfl) ?_
  repeat' (refine BR.mk (fun h => ?_) (fun h => ?_) <;> first | with_reducible exact Bool.noConfusion h | with_reducible exact Bool.noConfusion (k1.symm.trans h) | with_reducible exact Bool.noConfusion (k2.symm.trans h) | with_reducible exact Bool.noConfusion (k3.symm.trans h) | with_reducible exact Bool.noConfusion (f1.symm.trans h) | with_reducible exact Bool.noConfusion (f2.symm.trans h) | with_reducible exact Bool.noConfusion (f3.symm.trans h) | with_reducible exact Bool.noConfusion (f4.symm.trans h) | skip)
  all_goals exact Fini.mk rfl
end
theorem pc_WordsTell (s : List UInt8) (a : Int) (_ : s.length ≤ 9223372036854775807) (_ : i64 a) : PC Tryz.prog GW 6 [.str s, .int .i64 a] (.bool true) := by
  by_cases h1 : s.length ≤ 3000
  · exact tell_short s a h1
  · by_cases h2 : s.length ≤ 65536
    · exact tell_mid s a ⟨by omega, h2⟩
    · exact tell_long s a (by omega)

end Go.Proofs.YtejepcnoflahkaaGreatDoor
end
