/- the parts of value.Call: the walk. WRITTEN BY A SMALL PROGRAM of this session (laws.py). -/
import Derived.Test.YtejepcnoflahkaaGreatDoorVMa
import Derived.Test.YtejepcnoflahkaaGreatDoorVAwake
import Derived.Test.YtejepcnoflahkaaGreatDoorVFrame
section
namespace Go.Proofs.YtejepcnoflahkaaGreatDoor
open Go Go.Ab
set_option linter.unusedVariables false
set_option linter.unusedSimpArgs false
set_option maxRecDepth 100000
set_option maxHeartbeats 4000000

theorem opR_dec {r : R} {w : V} (h : r.e = 0) : decide (r.v = w) = decide (r = ⟨w, 0⟩) := by
  obtain ⟨v, e⟩ := r
  simp only at h
  subst h
  simp

def h_both : List AV → CR
  | [.str sg, .agg [.int .u8 ak, .int .i64 an, .str az], .agg [.int .u8 bk, .int .i64 bn, .str bz]] => .need ((i64 an ∧ az.length ≤ 9223372036854775807) ∧ i64 bn ∧ bz.length ≤ 9223372036854775807) (encV (opR sg ⟨ak, an, az⟩ ⟨bk, bn, bz⟩).v)
  | _ => .no
def h_not : List AV → CR
  | [.agg [.int .u8 ak, .int .i64 an, .str az]] => .need (i64 an ∧ az.length ≤ 9223372036854775807) (encV (oneR [110, 111, 116] ⟨ak, an, az⟩).v)
  | _ => .no
theorem pc_op (sg : List UInt8) (a b w : V) (hn : (i64 a.n ∧ a.s.length ≤ 9223372036854775807) ∧ i64 b.n ∧ b.s.length ≤ 9223372036854775807) : PC Tryz.prog GV 101 [.str sg, encV a, encV b, encV w] (.bool (decide (opR sg a b = ⟨w, 0⟩))) := by
  refine pc_fin E8_ok mixed (show Tryz.prog.funcs[101]? = some Tryz.f101 from rfl) ?_
  repeat' (refine BR.mk (fun h => ?_) (fun h => ?_) <;> try contradiction)
  any_goals exact hn
  all_goals refine Fini.mk ?_
  · exact congrArg AV.bool ((eqV (opR sg a b).v w).trans (opR_dec (by simpa using h)))
  · refine congrArg AV.bool (Eq.symm (decide_eq_false ?_))
    intro hh
    have h : ((opR sg a b).e == 0) = false := h
    rw [hh] at h
    cases h

def h_op : List AV → CR
  | [.str sg, .agg [.int .u8 ak, .int .i64 an, .str az], .agg [.int .u8 bk, .int .i64 bn, .str bz], .agg [.int .u8 wk, .int .i64 wn, .str wz]] => .need ((i64 an ∧ az.length ≤ 9223372036854775807) ∧ i64 bn ∧ bz.length ≤ 9223372036854775807) (.bool (decide (opR sg ⟨ak, an, az⟩ ⟨bk, bn, bz⟩ = ⟨⟨wk, wn, wz⟩, 0⟩)))
  | _ => .no
theorem h_op_ok (xs : List AV) : CRok Tryz.prog GV 101 xs (h_op xs) := by
  unfold h_op
  split
  · rename_i sg ak an az bk bn bz wk wn wz
    exact fun hn => pc_op sg ⟨ak, an, az⟩ ⟨bk, bn, bz⟩ ⟨wk, wn, wz⟩ hn
  · trivial

def h_awake : List AV → CR
  | [] => .yes (.bool true)
  | _ => .no
theorem h_awake_ok (xs : List AV) : CRok Tryz.prog GV 33 xs (h_awake xs) := by
  unfold h_awake
  split
  · exact pc_awake 
  · trivial

def E9_0 : Env := E8
theorem E9_0_ok : EnvOk Tryz.prog E9_0 := E8_ok
def E9_1 : Env := E9_0
theorem E9_1_ok : EnvOk Tryz.prog E9_1 := E9_0_ok
def E9_2 : Env := E9_1.add 101 h_op
theorem E9_2_ok : EnvOk Tryz.prog E9_2 := Env.add_ok E9_1_ok (by kernel_rfl) h_op_ok

def E9 : Env := E9_2.add 33 h_awake
theorem E9_ok : EnvOk Tryz.prog E9 := Env.add_ok E9_2_ok (by kernel_rfl) h_awake_ok

end Go.Proofs.YtejepcnoflahkaaGreatDoor
end

section
namespace Go.Proofs.YtejepcnoflahkaaGreatDoor
open Go Go.Ab
set_option linter.unusedVariables false
set_option linter.unusedSimpArgs false
set_option maxRecDepth 100000
set_option maxHeartbeats 8000000

theorem cb_range : ∀ a b : List UInt8, -1 ≤ Lib.compareBytes a b ∧ Lib.compareBytes a b ≤ 1
  | [], [] => by simp [Lib.compareBytes]
  | [], _ :: _ => by simp [Lib.compareBytes]
  | _ :: _, [] => by simp [Lib.compareBytes]
  | x :: a, y :: b => by
    simp only [Lib.compareBytes]
    have := cb_range a b
    repeat' split
    all_goals omega
theorem cb_anti : ∀ a b : List UInt8, Lib.compareBytes b a = -Lib.compareBytes a b
  | [], [] => by simp [Lib.compareBytes]
  | [], _ :: _ => by simp [Lib.compareBytes]
  | _ :: _, [] => by simp [Lib.compareBytes]
  | x :: a, y :: b => by
    simp only [Lib.compareBytes, UInt8.lt_iff_toNat_lt]
    have := cb_anti a b
    repeat' split
    all_goals omega
theorem cb_zero : ∀ a b : List UInt8, Lib.compareBytes a b = 0 ↔ a = b
  | [], [] => by simp [Lib.compareBytes]
  | [], _ :: _ => by simp [Lib.compareBytes]
  | _ :: _, [] => by simp [Lib.compareBytes]
  | x :: a, y :: b => by
    simp only [Lib.compareBytes, UInt8.lt_iff_toNat_lt, List.cons.injEq, ← UInt8.toNat_inj]
    have := cb_zero a b
    repeat' split
    all_goals (try rw [this]); (try omega)
    all_goals exact ⟨fun h => ⟨by omega, h⟩, fun h => h.2⟩
theorem cb_trans : ∀ a b c : List UInt8, (Lib.compareBytes a b ≤ 0 → Lib.compareBytes b c ≤ 0 → Lib.compareBytes a c ≤ 0) ∧ (Lib.compareBytes a b < 0 → Lib.compareBytes b c ≤ 0 → Lib.compareBytes a c < 0)
  | [], [], c => by simp [Lib.compareBytes]
  | [], _ :: _, [] => by simp [Lib.compareBytes]
  | [], _ :: _, _ :: _ => by simp [Lib.compareBytes]
  | _ :: _, [], _ => by simp [Lib.compareBytes]
  | _ :: _, _ :: _, [] => by simp [Lib.compareBytes]
  | x :: a, y :: b, z :: c => by
    simp only [Lib.compareBytes, UInt8.lt_iff_toNat_lt]
    obtain ⟨h1, h2⟩ := cb_trans a b c
    constructor
    all_goals
      intro h3 h4
      repeat' split at h3
      all_goals repeat' split at h4
      all_goals repeat' split
      all_goals first | omega | exact h1 h3 h4 | exact h2 h3 h4
theorem right_cases {a : V} (h : right a = true) : (a.k = 0 ∧ a.n = 0 ∧ a.s = []) ∨ (a.k = 1 ∧ a.s = []) ∨ (a.k = 2 ∧ a.n = 0) ∨ (a.k = 3 ∧ a.n = 0) := by
  unfold right at h
  split at h
  · simp at h; exact .inl ⟨by assumption, h⟩
  · split at h
    · simp at h; exact .inr (.inl ⟨by assumption, h⟩)
    · split at h
      · rename_i h3
        simp at h
        rcases h3 with h3 | h3
        · exact .inr (.inr (.inl ⟨h3, h.1⟩))
        · exact .inr (.inr (.inr ⟨h3, h.1⟩))
      · cases h
theorem cmpI_is (x y : Int) : (x < y ∧ cmpI x y = -1) ∨ (x > y ∧ cmpI x y = 1) ∨ (x = y ∧ cmpI x y = 0) := by
  unfold cmpI
  repeat' split
  all_goals omega
theorem cv_is (a b : V) : (a.k ≠ b.k ∧ compareV a b = cmpI a.k b.k) ∨ (a.k = b.k ∧ a.k = 1 ∧ compareV a b = cmpI a.n b.n) ∨ (a.k = b.k ∧ (a.k = 2 ∨ a.k = 3) ∧ compareV a b = Lib.compareBytes a.s b.s) ∨ (a.k = b.k ∧ a.k ≠ 1 ∧ a.k ≠ 2 ∧ a.k ≠ 3 ∧ compareV a b = 0) := by
  unfold compareV
  by_cases h : a.k = b.k
  · rw [if_neg (fun hh => hh h)]
    by_cases h1 : a.k = 1
    · rw [if_pos h1]; exact .inr (.inl ⟨h, h1, rfl⟩)
    · rw [if_neg h1]
      by_cases h2 : a.k = 2 ∨ a.k = 3
      · rw [if_pos h2]; exact .inr (.inr (.inl ⟨h, h2, rfl⟩))
      · rw [if_neg h2]; exact .inr (.inr (.inr ⟨h, h1, fun x => h2 (.inl x), fun x => h2 (.inr x), rfl⟩))
  · rw [if_pos h]; exact .inl ⟨h, rfl⟩
theorem cv_range (a b : V) : -1 ≤ compareV a b ∧ compareV a b ≤ 1 := by
  have h1 := cv_is a b
  have h2 := cmpI_is a.k b.k
  have h3 := cmpI_is a.n b.n
  have h4 := cb_range a.s b.s
  omega
theorem cv_anti (a b : V) : compareV b a = -compareV a b := by
  have h1 := cv_is a b
  have h2 := cmpI_is a.k b.k
  have h3 := cmpI_is a.n b.n
  have g1 := cv_is b a
  have g2 := cmpI_is b.k a.k
  have g3 := cmpI_is b.n a.n
  have h4 := cb_anti a.s b.s
  omega
theorem cv_zero {a b : V} (ha : right a = true) (hb : right b = true) : compareV a b = 0 ↔ a = b := by
  have h1 := cv_is a b
  have h2 := cmpI_is a.k b.k
  have h3 := cmpI_is a.n b.n
  have h4 := cb_zero a.s b.s
  have r1 := right_cases ha
  have r2 := right_cases hb
  obtain ⟨k, n, s⟩ := a
  obtain ⟨l, m, t⟩ := b
  simp only [V.mk.injEq] at *
  rcases h1 with h1 | h1 | h1 | h1
  · constructor
    · intro h; omega
    · intro h; exact absurd h.1 h1.1
  · obtain ⟨rfl, rfl, h1⟩ := h1
    rw [h1]
    have e1 : s = [] := by rcases r1 with h | h | h | h <;> first | exact h.2 | exact h.2.2 | (exact absurd h.1 (by decide))
    have e2 : t = [] := by rcases r2 with h | h | h | h <;> first | exact h.2 | exact h.2.2 | (exact absurd h.1 (by decide))
    rw [e1, e2]
    simp only [true_and, and_true]
    omega
  · obtain ⟨rfl, h5, h1⟩ := h1
    rw [h1, h4]
    have e1 : n = m := by omega
    simp [e1]
  · obtain ⟨rfl, h5, h6, h7, h1⟩ := h1
    rcases r1 with h | h | h | h <;> try omega
    rcases r2 with g | g | g | g <;> try omega
    rw [h1, h.2.1, h.2.2, g.2.1, g.2.2]
    simp
set_option maxHeartbeats 4000000 in
theorem cv_trans (a b c : V) : (compareV a b ≤ 0 → compareV b c ≤ 0 → compareV a c ≤ 0) ∧ (compareV a b < 0 → compareV b c ≤ 0 → compareV a c < 0) := by
  obtain ⟨t1, t2⟩ := cb_trans a.s b.s c.s
  have h1 := cv_is a b
  have h2 := cmpI_is a.k b.k
  have h3 := cmpI_is a.n b.n
  have g1 := cv_is b c
  have g2 := cmpI_is b.k c.k
  have g3 := cmpI_is b.n c.n
  have f1 := cv_is a c
  have f2 := cmpI_is a.k c.k
  have f3 := cmpI_is a.n c.n
  generalize compareV a b = x at *
  generalize compareV b c = y at *
  generalize compareV a c = z at *
  generalize Lib.compareBytes a.s b.s = u at *
  generalize Lib.compareBytes b.s c.s = v at *
  generalize Lib.compareBytes a.s c.s = w at *
  rcases h1 with h1 | h1 | h1 | h1 <;> rcases g1 with g1 | g1 | g1 | g1 <;> rcases f1 with f1 | f1 | f1 | f1
  all_goals first
    | omega
    | (rcases h2 with h2 | h2 | h2 <;> rcases g2 with g2 | g2 | g2 <;> omega)
    | (rcases h3 with h3 | h3 | h3 <;> rcases g3 with g3 | g3 | g3 <;> omega)

def vOf : AV → V
  | .agg [.int .u8 k, .int .i64 n, .str s] => ⟨k, n, s⟩
  | _ => null
def isVA : AV → Bool
  | .agg [.int .u8 _, .int .i64 _, .str _] => true
  | _ => false
theorem isVA_eq {x : AV} (h : isVA x = true) : x = encV (vOf x) := by
  unfold isVA at h
  split at h
  · rfl
  · cases h
@[irreducible] def okR (v : V) : Bool := right v && decide (v.s.length ≤ 300)
def allR (g : Nat → V) : Nat → Nat → Bool
  | _, 0 => true
  | i, k + 1 => okR (g i) && allR g (i + 1) k
theorem allR_step {g : Nat → V} {i n : Nat} (h : i < n) : allR g i (n - i) = (okR (g i) && allR g (i + 1) (n - (i + 1))) := by
  rw [show n - i = (n - (i + 1)) + 1 from by omega]; rfl
def h_rights : List AV → CR
  | [.sl tag n f] => .need (n ≤ 9223372036854775807 ∧ ∀ i, i < n → isVA (f i) = true) (.bool (allR (fun i => vOf (f i)) 0 n))
  | _ => .no
def E10 : Env := E9
theorem E10_ok : EnvOk Tryz.prog E10 := E9_ok
theorem va_3 {f : Nat → AV} (h0 : isVA (f 0) = true) (h1 : isVA (f 1) = true) (h2 : isVA (f 2) = true) : 3 ≤ 9223372036854775807 ∧ ∀ i, i < 3 → isVA (f i) = true := by
  refine ⟨by decide, fun i hi => ?_⟩
  have : i = 0 ∨ i = 1 ∨ i = 2 := by omega
  rcases this with rfl | rfl | rfl <;> assumption
theorem va_2 {f : Nat → AV} (h0 : isVA (f 0) = true) (h1 : isVA (f 1) = true) : 2 ≤ 9223372036854775807 ∧ ∀ i, i < 2 → isVA (f i) = true := by
  refine ⟨by decide, fun i hi => ?_⟩
  have : i = 0 ∨ i = 1 := by omega
  rcases this with rfl | rfl <;> assumption
theorem va_1 {f : Nat → AV} (h0 : isVA (f 0) = true) : 1 ≤ 9223372036854775807 ∧ ∀ i, i < 1 → isVA (f i) = true := by
  refine ⟨by decide, fun i hi => ?_⟩
  have : i = 0 := by omega
  subst this; assumption

end Go.Proofs.YtejepcnoflahkaaGreatDoor
end

section
namespace Go.Proofs.YtejepcnoflahkaaGreatDoor
open Go Go.Ab
set_option linter.unusedVariables false
set_option linter.unusedSimpArgs false
set_option maxRecDepth 100000
set_option maxHeartbeats 8000000

theorem right_num (n : Int) : right ⟨1, n, []⟩ = true := by unfold right; simp
theorem intV_num (n : Int) : intV ⟨1, n, []⟩ = n := by unfold intV; simp
theorem op_num {sg : List UInt8} (h : sg ∈ [[43], [45], [42], [47], [37]]) (a b : Int) : opR sg ⟨1, a, []⟩ ⟨1, b, []⟩ = sumsR sg a b := by
  unfold opR
  rw [right_num, right_num, intV_num, intV_num]
  simp only [List.mem_cons, List.not_mem_nil, or_false] at h
  rcases h with rfl | rfl | rfl | rfl | rfl <;> simp [known, signs]
theorem op_add (a b : Int) : opR [43] ⟨1, a, []⟩ ⟨1, b, []⟩ = fitR (a + b) := by rw [op_num (by simp)]; unfold sumsR; simp
theorem op_sub (a b : Int) : opR [45] ⟨1, a, []⟩ ⟨1, b, []⟩ = fitR (a - b) := by rw [op_num (by simp)]; unfold sumsR; simp
theorem op_mul (a b : Int) : opR [42] ⟨1, a, []⟩ ⟨1, b, []⟩ = fitR (a * b) := by rw [op_num (by simp)]; unfold sumsR; simp
theorem op_quo (a b : Int) : opR [47] ⟨1, a, []⟩ ⟨1, b, []⟩ = if b = 0 then ⟨⟨0, 0, []⟩, 0⟩ else fitR (Int.tdiv a b) := by rw [op_num (by simp)]; unfold sumsR; simp [null]
theorem op_rem (a b : Int) : opR [37] ⟨1, a, []⟩ ⟨1, b, []⟩ = if b = 0 then ⟨⟨0, 0, []⟩, 0⟩ else ⟨⟨1, Int.tmod a b, []⟩, 0⟩ := by rw [op_num (by simp)]; unfold sumsR; simp [null, numV]
theorem fit_yes {n : Int} (h : i64 n) : fitR n = ⟨⟨1, n, []⟩, 0⟩ := by unfold fitR; rw [if_pos h]; rfl
theorem fit_no {n : Int} (h : ¬ i64 n) : fitR n = ⟨⟨0, 0, []⟩, 20⟩ := by unfold fitR; rw [if_neg h]; rfl
theorem one_neg (a : Int) : oneR [45] ⟨1, a, []⟩ = fitR (-a) := by unfold oneR; rw [right_num, intV_num]; unfold sumsR; simp
theorem i64_0 : i64 0 := by decide
theorem nil_ok : (([] : List UInt8)).length ≤ 9223372036854775807 := by decide
theorem tmod_facts (a b : Int) (h0 : b ≠ 0) : (a < 0 → Int.tmod a b ≤ 0 ∧ a ≤ Int.tmod a b) ∧ (0 ≤ a → 0 ≤ Int.tmod a b ∧ Int.tmod a b ≤ a) ∧ (0 < b → Int.tmod a b < b ∧ -b < Int.tmod a b) ∧ (b < 0 → Int.tmod a b < -b ∧ b < Int.tmod a b) := by
  obtain ⟨n, rfl | rfl⟩ := a.eq_nat_or_neg <;> obtain ⟨m, rfl | rfl⟩ := b.eq_nat_or_neg
  all_goals simp only [Int.neg_tmod, Int.tmod_neg, ← Int.ofNat_tmod]
  all_goals
    have h1 : n % m < m := Nat.mod_lt _ (by omega)
    have h2 : n % m ≤ n := Nat.mod_le ..
    omega
end Go.Proofs.YtejepcnoflahkaaGreatDoor
end

section
namespace Go.Proofs.YtejepcnoflahkaaGreatDoor
open Go Go.Ab
set_option linter.unusedVariables false
set_option linter.unusedSimpArgs false
set_option maxRecDepth 100000
set_option maxHeartbeats 8000000

theorem boolR_t : boolR true = ⟨⟨1, 1, []⟩, 0⟩ := by unfold boolR; rfl
theorem boolR_f : boolR false = ⟨⟨1, 0, []⟩, 0⟩ := by unfold boolR; rfl
theorem one_not (n : Int) : oneR [110, 111, 116] ⟨1, n, []⟩ = boolR (n == 0) := by
  unfold oneR
  rw [right_num]
  have h : truV ⟨1, n, []⟩ = (n != 0) := by unfold truV; rw [intV_num]; rfl
  simp [h, bne]
theorem okR_right {v : V} (h : okR v = true) : right v = true := by unfold okR at h; simp at h; exact h.1
theorem op_null {sg : List UInt8} (hs : sg ∈ [[61], [60, 62], [60], [60, 61], [62], [62, 61]]) {a b : V} (ha : right a = true) (hb : right b = true) (h : a.k = 0 ∨ b.k = 0) : opR sg a b = ⟨⟨0, 0, []⟩, 0⟩ := by
  unfold opR
  rw [ha, hb]
  simp only [List.mem_cons, List.not_mem_nil, or_false] at hs
  rcases hs with rfl | rfl | rfl | rfl | rfl | rfl <;> simp [known, signs, h, null]

theorem op_eq {a b : V} (ha : right a = true) (hb : right b = true) (na : a.k ≠ 0) (nb : b.k ≠ 0) : opR [61] a b = boolR (compareV a b == 0) := by
  unfold opR
  rw [ha, hb]
  simp [known, signs, na, nb]
theorem op_ne {a b : V} (ha : right a = true) (hb : right b = true) (na : a.k ≠ 0) (nb : b.k ≠ 0) : opR [60, 62] a b = boolR (compareV a b != 0) := by
  unfold opR
  rw [ha, hb]
  simp [known, signs, na, nb]
theorem op_lt {a b : V} (ha : right a = true) (hb : right b = true) (na : a.k ≠ 0) (nb : b.k ≠ 0) : opR [60] a b = boolR (decide (compareV a b < 0)) := by
  unfold opR
  rw [ha, hb]
  simp [known, signs, na, nb]
theorem op_le {a b : V} (ha : right a = true) (hb : right b = true) (na : a.k ≠ 0) (nb : b.k ≠ 0) : opR [60, 61] a b = boolR (decide (compareV a b ≤ 0)) := by
  unfold opR
  rw [ha, hb]
  simp [known, signs, na, nb]
theorem op_gt {a b : V} (ha : right a = true) (hb : right b = true) (na : a.k ≠ 0) (nb : b.k ≠ 0) : opR [62] a b = boolR (decide (compareV a b > 0)) := by
  unfold opR
  rw [ha, hb]
  simp [known, signs, na, nb]
theorem op_ge {a b : V} (ha : right a = true) (hb : right b = true) (na : a.k ≠ 0) (nb : b.k ≠ 0) : opR [62, 61] a b = boolR (decide (compareV a b ≥ 0)) := by
  unfold opR
  rw [ha, hb]
  simp [known, signs, na, nb]
theorem eq_cv {ak bk an bn : Int} {az bz : List UInt8} (ha : right ⟨ak, an, az⟩ = true) (hb : right ⟨bk, bn, bz⟩ = true) {x : Int} (hx : compareV ⟨ak, an, az⟩ ⟨bk, bn, bz⟩ = x) : (ak == bk && (an == bn && (az == bz && true))) = decide (x = 0) := by
  have h := cv_zero ha hb
  rw [hx, V.mk.injEq] at h
  rw [Bool.eq_iff_iff, decide_eq_true_iff, h]
  simp
theorem not_rights {p q r : Bool} (h : ¬ (p = true ∧ q = true ∧ r = true)) : (p && (q && (r && true))) = false := by
  cases p <;> cases q <;> cases r <;> simp_all
theorem i64_1 : i64 1 := by decide
end Go.Proofs.YtejepcnoflahkaaGreatDoor
end

section
namespace Go.Proofs.YtejepcnoflahkaaGreatDoor
open Go Go.Ab
set_option linter.unusedVariables false
set_option linter.unusedSimpArgs false
set_option maxRecDepth 100000
set_option maxHeartbeats 8000000

theorem pc_c1 (v : V) : PC Tryz.prog GV 83 [encV v] (.bool (!right v)) := by
  refine pc_fin E10_ok mixed (show Tryz.prog.funcs[83]? = some Tryz.f83 from rfl) ?_
  repeat' (refine BR.mk (fun h => ?_) (fun h => ?_) <;> try contradiction)
  all_goals exact Fini.mk rfl

def h_c1 : List AV → CR
  | [.agg [.int .u8 k, .int .i64 n, .str s]] => .yes (.bool (!right ⟨k, n, s⟩))
  | _ => .no
theorem h_c1_ok (xs : List AV) : CRok Tryz.prog GV 83 xs (h_c1 xs) := by
  unfold h_c1
  split
  · rename_i k n s
    exact pc_c1 ⟨k, n, s⟩
  · trivial
def E11_0 : Env := E10.add 83 h_c1
theorem E11_0_ok : EnvOk Tryz.prog E11_0 := Env.add_ok E10_ok (by kernel_rfl) h_c1_ok

theorem pc_c2 (v : V) : PC Tryz.prog GV 84 [encV v] (.bool (v.k == 0)) := by
  refine pc_fin E11_0_ok mixed (show Tryz.prog.funcs[84]? = some Tryz.f84 from rfl) ?_
  repeat' (refine BR.mk (fun h => ?_) (fun h => ?_) <;> try contradiction)
  all_goals exact Fini.mk rfl

def h_c2 : List AV → CR
  | [.agg [.int .u8 k, .int .i64 n, .str s]] => .yes (.bool (k == 0))
  | _ => .no
theorem h_c2_ok (xs : List AV) : CRok Tryz.prog GV 84 xs (h_c2 xs) := by
  unfold h_c2
  split
  · rename_i k n s
    exact pc_c2 ⟨k, n, s⟩
  · trivial
def E11_1 : Env := E11_0.add 84 h_c2
theorem E11_1_ok : EnvOk Tryz.prog E11_1 := Env.add_ok E11_0_ok (by kernel_rfl) h_c2_ok

def findP (p : V → Bool) (g : Nat → V) : Nat → Nat → Int
  | _, 0 => -1
  | i, k + 1 => if p (g i) then i else findP p g (i + 1) k
theorem findP_step {p : V → Bool} {g : Nat → V} {i n : Nat} (h : i < n) : findP p g i (n - i) = if p (g i) then (i : Int) else findP p g (i + 1) (n - (i + 1)) := by
  rw [show n - i = (n - (i + 1)) + 1 from by omega]; rfl
theorem findP_iff (p : V → Bool) (g : Nat → V) : ∀ (k i : Nat), (findP p g i k ≥ 0 ↔ ((List.range' i k).any fun j => p (g j)) = true)
  | 0, i => by simp [findP]
  | k + 1, i => by
    simp only [findP, List.range'_succ, List.any_cons, Bool.or_eq_true]
    have ih := findP_iff p g k (i + 1)
    by_cases h : p (g i) = true
    · rw [if_pos h]; exact ⟨fun _ => .inl h, fun _ => by omega⟩
    · rw [if_neg h, ih]; exact ⟨.inr, fun hh => hh.resolve_left h⟩
def anyP (p : V → Bool) (g : Nat → V) : Nat → Nat → Bool
  | _, 0 => false
  | i, k + 1 => p (g i) || anyP p g (i + 1) k
theorem anyP_iff (p : V → Bool) (g : Nat → V) : ∀ (k i : Nat), findP p g i k ≥ 0 ↔ anyP p g i k = true
  | 0, i => by simp [findP, anyP]
  | k + 1, i => by
    simp only [findP, anyP, Bool.or_eq_true]
    rw [← anyP_iff p g k (i + 1)]
    by_cases h : p (g i) = true
    · rw [if_pos h]; exact ⟨fun _ => .inl h, fun _ => by omega⟩
    · rw [if_neg h]; exact ⟨.inr, fun hh => hh.resolve_left h⟩
theorem anyP_is (p : V → Bool) (g : Nat → V) (k i : Nat) : decide (findP p g i k ≥ 0) = anyP p g i k := by
  rw [Bool.eq_iff_iff, decide_eq_true_iff]
  exact anyP_iff p g k i
def notR (v : V) : Bool := !right v
def isN (v : V) : Bool := v.k == 0

theorem pc_idxP0 (n : Nat) (g : Nat → V) (hn : n ≤ 9223372036854775807) : PC Tryz.prog GV 136 [.sl .no n (fun i => encV (g i)), .clo 83 [] []] (.int .i64 (findP notR g 0 n)) := by
  refine pc_fin E11_1_ok mixed (show Tryz.prog.funcs[136]? = some Tryz.f136 from rfl) ?_
  refine loop_fam E11_1_ok mixed (σ := Nat) (fun i => i ≤ n ∧ findP notR g 0 n = findP notR g i (n - i)) (fun i => n - i) 0 ⟨Nat.zero_le _, rfl⟩ 0 0 [0, 1, 4, 6, 7] (fun i => [(8, .int .i64 i)]) [] (fun _ => []) (fun _ => []) ?_ ?_ ?_ ?_
  · rfl
  · rfl
  · refine Wk.mk' rfl rfl trivial ?_ trivial
    repeat' (refine BR.mk (fun _ => ?_) (fun _ => ?_))
    any_goals first | exact trivial | exact Wv.any _ | (refine Wv.int ?_; with_reducible rfl) | (refine Wv.str ?_; with_reducible rfl) | (refine Wv.bool ?_; with_reducible rfl) | refine Wv.int ?_ | refine Wv.str ?_ | refine Wv.bool ?_ | exact Wv.same rfl
    rfl
  · rintro i ⟨hi, hf⟩
    repeat' (refine BR.mk (fun h => ?_) (fun h => ?_) <;> try contradiction)
    · rename_i h1
      simp only [decide_eq_true_eq] at h1
      exact ⟨by omega, rfl, rfl⟩
    · refine Fini.mk ?_
      rename_i h1 _
      simp only [decide_eq_true_eq] at h1
      rw [hf, findP_step (by omega)]
      exact congrArg _ (if_pos (show notR (g i) = true from h)).symm
    · rename_i h1 _
      simp only [decide_eq_true_eq] at h1
      have h2 : i < n := by omega
      refine Again.fam (i + 1) ⟨h2, ?_⟩ (by omega) rfl rfl rfl rfl trivial ?_ trivial
      · rw [hf, findP_step h2]
        exact if_neg (by have h' : notR (g i) = false := h; rw [h']; decide)
      repeat' (refine BR.mk (fun _ => ?_) (fun _ => ?_))
      any_goals first | exact trivial | exact Wv.any _ | (refine Wv.int ?_; with_reducible rfl) | (refine Wv.str ?_; with_reducible rfl) | (refine Wv.bool ?_; with_reducible rfl) | refine Wv.int ?_ | refine Wv.str ?_ | refine Wv.bool ?_ | exact Wv.same rfl
      rw [wrap_id (by unfold i64; omega)]
      rfl
    · simp only [decide_eq_false_iff_not] at h
      refine Fini.mk ?_
      have : i = n := by omega
      subst this
      rw [hf, Nat.sub_self]
      rfl

theorem pc_idxP1 (n : Nat) (g : Nat → V) (hn : n ≤ 9223372036854775807) : PC Tryz.prog GV 136 [.sl .no n (fun i => encV (g i)), .clo 84 [] []] (.int .i64 (findP isN g 0 n)) := by
  refine pc_fin E11_1_ok mixed (show Tryz.prog.funcs[136]? = some Tryz.f136 from rfl) ?_
  refine loop_fam E11_1_ok mixed (σ := Nat) (fun i => i ≤ n ∧ findP isN g 0 n = findP isN g i (n - i)) (fun i => n - i) 0 ⟨Nat.zero_le _, rfl⟩ 0 0 [0, 1, 4, 6, 7] (fun i => [(8, .int .i64 i)]) [] (fun _ => []) (fun _ => []) ?_ ?_ ?_ ?_
  · rfl
  · rfl
  · refine Wk.mk' rfl rfl trivial ?_ trivial
    repeat' (refine BR.mk (fun _ => ?_) (fun _ => ?_))
    any_goals first | exact trivial | exact Wv.any _ | (refine Wv.int ?_; with_reducible rfl) | (refine Wv.str ?_; with_reducible rfl) | (refine Wv.bool ?_; with_reducible rfl) | refine Wv.int ?_ | refine Wv.str ?_ | refine Wv.bool ?_ | exact Wv.same rfl
    rfl
  · rintro i ⟨hi, hf⟩
    repeat' (refine BR.mk (fun h => ?_) (fun h => ?_) <;> try contradiction)
    · rename_i h1
      simp only [decide_eq_true_eq] at h1
      exact ⟨by omega, rfl, rfl⟩
    · refine Fini.mk ?_
      rename_i h1 _
      simp only [decide_eq_true_eq] at h1
      rw [hf, findP_step (by omega)]
      exact congrArg _ (if_pos (show isN (g i) = true from h)).symm
    · rename_i h1 _
      simp only [decide_eq_true_eq] at h1
      have h2 : i < n := by omega
      refine Again.fam (i + 1) ⟨h2, ?_⟩ (by omega) rfl rfl rfl rfl trivial ?_ trivial
      · rw [hf, findP_step h2]
        exact if_neg (by have h' : isN (g i) = false := h; rw [h']; decide)
      repeat' (refine BR.mk (fun _ => ?_) (fun _ => ?_))
      any_goals first | exact trivial | exact Wv.any _ | (refine Wv.int ?_; with_reducible rfl) | (refine Wv.str ?_; with_reducible rfl) | (refine Wv.bool ?_; with_reducible rfl) | refine Wv.int ?_ | refine Wv.str ?_ | refine Wv.bool ?_ | exact Wv.same rfl
      rw [wrap_id (by unfold i64; omega)]
      rfl
    · simp only [decide_eq_false_iff_not] at h
      refine Fini.mk ?_
      have : i = n := by omega
      subst this
      rw [hf, Nat.sub_self]
      rfl

def idxP (c : Nat) : V → Bool := match Nat.beq c 83 with
  | true => notR
  | false => isN
theorem pc_idxF (tag : Tag) (n : Nat) (f : Nat → AV) (c : Nat) (hn : (c = 83 ∨ c = 84) ∧ n ≤ 9223372036854775807 ∧ ∀ i, i < n → isVA (f i) = true) : PC Tryz.prog GV 136 [.sl tag n f, .clo c [] []] (.int .i64 (findP (idxP c) (fun i => vOf (f i)) 0 n)) := by
  obtain ⟨hc, hn1, hn2⟩ := hn
  have key : PC Tryz.prog GV 136 [.sl .no n (fun i => encV (vOf (f i))), .clo c [] []] (.int .i64 (findP (idxP c) (fun i => vOf (f i)) 0 n)) := by
    rcases hc with rfl | rfl
    · exact pc_idxP0 n (fun i => vOf (f i)) hn1
    · exact pc_idxP1 n (fun i => vOf (f i)) hn1
  refine pc_args ?_ key
  intro X vs h
  cases h with | cons h hs => exact .cons (rep_slice (fun i hi => isVA_eq (hn2 i hi)) (rep_tag h)) hs

def h_idxF : List AV → CR
  | [.sl tag n f, .clo c [] []] => .need ((c = 83 ∨ c = 84) ∧ n ≤ 9223372036854775807 ∧ ∀ i, i < n → isVA (f i) = true) (.int .i64 (findP (idxP c) (fun i => vOf (f i)) 0 n))
  | _ => .no
theorem h_idxF_ok (xs : List AV) : CRok Tryz.prog GV 136 xs (h_idxF xs) := by
  unfold h_idxF
  split
  · rename_i tag n f c
    exact fun hn => pc_idxF tag n f c hn
  · trivial
def E11_2 : Env := E11_1.add 136 h_idxF
theorem E11_2_ok : EnvOk Tryz.prog E11_2 := Env.add_ok E11_1_ok (by kernel_rfl) h_idxF_ok

theorem pc_ctn0 (n : Nat) (g : Nat → V) (hn : n ≤ 9223372036854775807) : PC Tryz.prog GV 82 [.sl .no n (fun i => encV (g i)), .clo 83 [] []] (.bool (anyP notR g 0 n)) := by
  refine pc_fin E11_2_ok mixed (show Tryz.prog.funcs[82]? = some Tryz.f82 from rfl) ?_
  repeat' (refine BR.mk (fun h => ?_) (fun h => ?_) <;> try contradiction)
  · exact And.intro (Or.inl rfl) (And.intro hn (fun i hi => rfl))
  · exact Fini.mk (congrArg AV.bool (anyP_is _ _ _ _))

theorem pc_ctn1 (n : Nat) (g : Nat → V) (hn : n ≤ 9223372036854775807) : PC Tryz.prog GV 82 [.sl .no n (fun i => encV (g i)), .clo 84 [] []] (.bool (anyP isN g 0 n)) := by
  refine pc_fin E11_2_ok mixed (show Tryz.prog.funcs[82]? = some Tryz.f82 from rfl) ?_
  repeat' (refine BR.mk (fun h => ?_) (fun h => ?_) <;> try contradiction)
  · exact And.intro (Or.inr rfl) (And.intro hn (fun i hi => rfl))
  · exact Fini.mk (congrArg AV.bool (anyP_is _ _ _ _))

theorem pc_ctn (tag : Tag) (n : Nat) (f : Nat → AV) (c : Nat) (hn : (c = 83 ∨ c = 84) ∧ n ≤ 9223372036854775807 ∧ ∀ i, i < n → isVA (f i) = true) : PC Tryz.prog GV 82 [.sl tag n f, .clo c [] []] (.bool (anyP (idxP c) (fun i => vOf (f i)) 0 n)) := by
  obtain ⟨hc, hn1, hn2⟩ := hn
  have key : PC Tryz.prog GV 82 [.sl .no n (fun i => encV (vOf (f i))), .clo c [] []] (.bool (anyP (idxP c) (fun i => vOf (f i)) 0 n)) := by
    rcases hc with rfl | rfl
    · exact pc_ctn0 n (fun i => vOf (f i)) hn1
    · exact pc_ctn1 n (fun i => vOf (f i)) hn1
  refine pc_args ?_ key
  intro X vs h
  cases h with | cons h hs => exact .cons (rep_slice (fun i hi => isVA_eq (hn2 i hi)) (rep_tag h)) hs

def h_ctn : List AV → CR
  | [.sl tag n f, .clo c [] []] => .need ((c = 83 ∨ c = 84) ∧ n ≤ 9223372036854775807 ∧ ∀ i, i < n → isVA (f i) = true) (.bool (anyP (idxP c) (fun i => vOf (f i)) 0 n))
  | _ => .no
theorem h_ctn_ok (xs : List AV) : CRok Tryz.prog GV 82 xs (h_ctn xs) := by
  unfold h_ctn
  split
  · rename_i tag n f c
    exact fun hn => pc_ctn tag n f c hn
  · trivial
def E11_3 : Env := E11_2.add 82 h_ctn
theorem E11_3_ok : EnvOk Tryz.prog E11_3 := Env.add_ok E11_2_ok (by kernel_rfl) h_ctn_ok

@[irreducible] def knownF (nm : List UInt8) (n : Int) : Bool :=
  if nm = [108, 101, 110, 103, 116, 104] ∨ nm = [117, 112, 112, 101, 114] ∨ nm = [108, 111, 119, 101, 114] ∨ nm = [97, 98, 115] ∨ nm = [116, 121, 112, 101, 111, 102] ∨ nm = [104, 101, 120] then n == 1 else if nm = [105, 102, 110, 117, 108, 108] ∨ nm = [105, 110, 115, 116, 114] then n == 2 else if nm = [115, 117, 98, 115, 116, 114] then n == 2 || n == 3 else if nm = [99, 111, 97, 108, 101, 115, 99, 101] then decide (2 ≤ n) && decide (n ≤ 100) else false
theorem pc_Known (nm : List UInt8) (n : Int) : PC Tryz.prog GV 28 [.str nm, .int .i64 n] (.bool (knownF nm n)) := by
  refine pc_fin E11_3_ok mixed (show Tryz.prog.funcs[28]? = some Tryz.f28 from rfl) ?_
  repeat' (refine BR.mk (fun h => ?_) (fun h => ?_) <;> try contradiction)
  all_goals refine Fini.mk ?_
  all_goals unfold knownF
  all_goals first
    | (simp_all; done)
    | (simp_all; omega)

def h_Known : List AV → CR
  | [.str nm, .int .i64 n] => .yes (.bool (knownF nm n))
  | _ => .no
theorem h_Known_ok (xs : List AV) : CRok Tryz.prog GV 28 xs (h_Known xs) := by
  unfold h_Known
  split
  · rename_i nm n
    exact pc_Known nm n
  · trivial
def E11_4 : Env := E11_3.add 28 h_Known
theorem E11_4_ok : EnvOk Tryz.prog E11_4 := Env.add_ok E11_3_ok (by kernel_rfl) h_Known_ok

def nameF (k : Int) : List UInt8 := if k = 0 then [110, 117, 108, 108] else if k = 1 then [105, 110, 116, 101, 103, 101, 114] else if k = 2 then [116, 101, 120, 116] else [98, 108, 111, 98]
theorem pc_names (k : Int) (hn : 0 ≤ k ∧ k ≤ 3) : PC Tryz.prog GV 86 [.int .u8 k] (.str (nameF k)) := by
  refine pc_fin E11_4_ok mixed (show Tryz.prog.funcs[86]? = some Tryz.f86 from rfl) ?_
  have hk : k = 0 ∨ k = 1 ∨ k = 2 ∨ k = 3 := by omega
  rcases hk with rfl | rfl | rfl | rfl
  all_goals
    repeat' (refine BR.mk (fun h => ?_) (fun h => ?_) <;> try contradiction)
  all_goals first
    | exact Fini.mk rfl
    | exact And.intro (And.intro (by decide) (by decide)) (And.intro rfl rfl)
    | exact And.intro (And.intro (by decide) (by decide)) (And.intro rfl rfl)

def h_names : List AV → CR
  | [.int .u8 k] => .need (0 ≤ k ∧ k ≤ 3) (.str (nameF k))
  | _ => .no
theorem h_names_ok (xs : List AV) : CRok Tryz.prog GV 86 xs (h_names xs) := by
  unfold h_names
  split
  · rename_i k
    exact fun hn => pc_names k hn
  · trivial
def E11_5 : Env := E11_4.add 86 h_names
theorem E11_5_ok : EnvOk Tryz.prog E11_5 := Env.add_ok E11_4_ok (by kernel_rfl) h_names_ok

def firstV (g : Nat → V) : Nat → Nat → V
  | _, 0 => null
  | i, k + 1 => if (g i).k ≠ 0 then g i else firstV g (i + 1) k
theorem firstV_step {g : Nat → V} {i n : Nat} (h : i < n) : firstV g i (n - i) = if (g i).k ≠ 0 then g i else firstV g (i + 1) (n - (i + 1)) := by
  rw [show n - i = (n - (i + 1)) + 1 from by omega]; rfl
theorem pc_first0 (n : Nat) (g : Nat → V) (hn : n ≤ 9223372036854775807) : PC Tryz.prog GV 90 [.sl .no n (fun i => encV (g i))] (encV (firstV g 0 n)) := by
  refine pc_fin E11_5_ok mixed (show Tryz.prog.funcs[90]? = some Tryz.f90 from rfl) ?_
  refine loop_fam E11_5_ok mixed (σ := Nat) (fun i => i ≤ n ∧ firstV g 0 n = firstV g i (n - i)) (fun i => n - i) 0 ⟨Nat.zero_le _, rfl⟩ 1 0 [0, 2, 5, 6] (fun i => [(7, .int .i64 i)]) [0] (fun _ => []) (fun _ => []) ?_ ?_ ?_ ?_
  · rfl
  · rfl
  · refine Wk.mk' rfl rfl trivial ?_ (BR.mk (fun _ => ⟨Nat.le_of_ble_eq_true rfl, .inl ⟨rfl, _, rfl, .cons (.same rfl) (.cons (.same rfl) (.cons (.same rfl) .nil))⟩⟩) (fun _ => trivial))
    repeat' (refine BR.mk (fun _ => ?_) (fun _ => ?_))
    any_goals first | exact trivial | exact Wv.any _ | (refine Wv.int ?_; with_reducible rfl) | (refine Wv.str ?_; with_reducible rfl) | (refine Wv.bool ?_; with_reducible rfl) | refine Wv.int ?_ | refine Wv.str ?_ | refine Wv.bool ?_ | exact Wv.same rfl
    rfl
  · rintro i ⟨hi, hf⟩
    repeat' (refine BR.mk (fun h => ?_) (fun h => ?_) <;> try contradiction)
    · rename_i h1
      simp only [decide_eq_true_eq] at h1
      exact ⟨by omega, rfl, rfl⟩
    · refine Fini.mk ?_
      rename_i h1 _
      simp only [decide_eq_true_eq] at h1
      rw [hf, firstV_step (by omega), if_pos (by simpa using h)]
      rfl
    · rename_i h1 _
      simp only [decide_eq_true_eq] at h1
      have h2 : i < n := by omega
      refine Again.fam (i + 1) ⟨h2, ?_⟩ (by omega) rfl rfl rfl rfl trivial ?_ (BR.mk (fun _ => ⟨Nat.le_of_ble_eq_true rfl, .inl ⟨rfl, _, rfl, .cons (.same rfl) (.cons (.same rfl) (.cons (.same rfl) .nil))⟩⟩) (fun _ => trivial))
      · rw [hf, firstV_step h2, if_neg (by simpa using h)]
      repeat' (refine BR.mk (fun _ => ?_) (fun _ => ?_))
      any_goals first | exact trivial | exact Wv.any _ | (refine Wv.int ?_; with_reducible rfl) | (refine Wv.str ?_; with_reducible rfl) | (refine Wv.bool ?_; with_reducible rfl) | refine Wv.int ?_ | refine Wv.str ?_ | refine Wv.bool ?_ | exact Wv.same rfl
      rw [wrap_id (by unfold i64; omega)]
      rfl
    · simp only [decide_eq_false_iff_not] at h
      refine Fini.mk ?_
      have : i = n := by omega
      subst this
      rw [hf, Nat.sub_self]
      rfl
theorem pc_first (tag : Tag) (n : Nat) (f : Nat → AV) (hn : n ≤ 9223372036854775807 ∧ ∀ i, i < n → isVA (f i) = true) : PC Tryz.prog GV 90 [.sl tag n f] (encV (firstV (fun i => vOf (f i)) 0 n)) := by
  refine pc_args ?_ (pc_first0 n (fun i => vOf (f i)) hn.1)
  intro X vs h
  cases h with | cons h hs => exact .cons (rep_slice (fun i hi => isVA_eq (hn.2 i hi)) (rep_tag h)) hs

def h_first : List AV → CR
  | [.sl tag n f] => .need (n ≤ 9223372036854775807 ∧ ∀ i, i < n → isVA (f i) = true) (encV (firstV (fun i => vOf (f i)) 0 n))
  | _ => .no
theorem h_first_ok (xs : List AV) : CRok Tryz.prog GV 90 xs (h_first xs) := by
  unfold h_first
  split
  · rename_i tag n f
    exact fun hn => pc_first tag n f hn
  · trivial
def E11 : Env := E11_5.add 90 h_first
theorem E11_ok : EnvOk Tryz.prog E11 := Env.add_ok E11_5_ok (by kernel_rfl) h_first_ok

theorem rep_box {X : Cx} {tag : Tag} {n : Nat} {f : Nat → AV} {v : Value} (hn : ∀ i, i < n → isVA (f i) = true) (h : Rep X true (.cptr [.sl tag n f] 0) v) : Rep X true (.cptr [.sl .no n (fun i => encV (vOf (f i)))] 0) v := by
  cases h with | cptr h ha => cases h with | cons h hs => exact .cptr (.cons (rep_slice (fun i hi => isVA_eq (hn i hi)) (rep_tag h)) hs) ha

theorem pc_clo00 (n : Nat) (g : Nat → V) (hn : n ≤ 9223372036854775807) (h0 : 0 < n ∧ 0 ≤ (g 0).k ∧ (g 0).k ≤ 3) : PC Tryz.prog GV 85 [.cptr [.sl .no n (fun i => encV (g i))] 0] (encR (textR (nameF (g 0).k))) := by
  refine pc_fin E11_ok mixed (show Tryz.prog.funcs[85]? = some Tryz.f85 from rfl) ?_
  repeat' (refine BR.mk (fun h => ?_) (fun h => ?_) <;> try contradiction)
  all_goals try exact Fini.mk rfl
  all_goals try exact And.intro hn (fun i hi => rfl)
  all_goals try exact h0.2
  all_goals try exact And.intro (And.intro (by decide) (by omega)) (And.intro rfl rfl)
  all_goals try (show commutes _ _ = true; kernel_rfl)

theorem pc_clo10 (n : Nat) (g : Nat → V) (hn : n ≤ 9223372036854775807) : PC Tryz.prog GV 89 [.cptr [.sl .no n (fun i => encV (g i))] 0] (encR ⟨firstV g 0 n, 0⟩) := by
  refine pc_fin E11_ok mixed (show Tryz.prog.funcs[89]? = some Tryz.f89 from rfl) ?_
  repeat' (refine BR.mk (fun h => ?_) (fun h => ?_) <;> try contradiction)
  all_goals try exact Fini.mk rfl
  all_goals try exact And.intro hn (fun i hi => rfl)
  all_goals try exact h0.2
  all_goals try exact And.intro (And.intro (by decide) (by omega)) (And.intro rfl rfl)
  all_goals try (show commutes _ _ = true; kernel_rfl)

theorem pc_clo20 (n : Nat) (g : Nat → V) (hn : n ≤ 9223372036854775807) : PC Tryz.prog GV 91 [.cptr [.sl .no n (fun i => encV (g i))] 0] (encR ⟨firstV g 0 n, 0⟩) := by
  refine pc_fin E11_ok mixed (show Tryz.prog.funcs[91]? = some Tryz.f91 from rfl) ?_
  repeat' (refine BR.mk (fun h => ?_) (fun h => ?_) <;> try contradiction)
  all_goals try exact Fini.mk rfl
  all_goals try exact And.intro hn (fun i hi => rfl)
  all_goals try exact h0.2
  all_goals try exact And.intro (And.intro (by decide) (by omega)) (And.intro rfl rfl)
  all_goals try (show commutes _ _ = true; kernel_rfl)


end Go.Proofs.YtejepcnoflahkaaGreatDoor
end
