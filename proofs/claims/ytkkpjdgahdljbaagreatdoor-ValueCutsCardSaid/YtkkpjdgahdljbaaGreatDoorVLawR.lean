/- the order of values; right, of slices of values: the walk. WRITTEN BY A SMALL PROGRAM of this session (laws.py). -/
import Derived.Test.YtkkpjdgahdljbaaGreatDoorVWalk9
namespace Go.Proofs.YtkkpjdgahdljbaaGreatDoor
open Go Go.Ab
set_option linter.unusedVariables false
set_option linter.unusedSimpArgs false
set_option maxRecDepth 100000
set_option maxHeartbeats 8000000

theorem cb_range : ∀ a b : List UInt8, -1 ≤ Lib.compareBytes a b ∧ Lib.compareBytes a b ≤ 1
  | [], [] => by simp [Lib.compareBytes]
  | [], _ :: _ => by simp [Lib.compareBytes]
  | _ :: _, [] => by simp [Lib.compareBytes]
  | x :: a, y :: b => by
    simp only [Lib.compareBytes]
    have := cb_range a b
    repeat' split
    all_goals omega
theorem cb_anti : ∀ a b : List UInt8, Lib.compareBytes b a = -Lib.compareBytes a b
  | [], [] => by simp [Lib.compareBytes]
  | [], _ :: _ => by simp [Lib.compareBytes]
  | _ :: _, [] => by simp [Lib.compareBytes]
  | x :: a, y :: b => by
    simp only [Lib.compareBytes, UInt8.lt_iff_toNat_lt]
    have := cb_anti a b
    repeat' split
    all_goals omega
theorem cb_zero : ∀ a b : List UInt8, Lib.compareBytes a b = 0 ↔ a = b
  | [], [] => by simp [Lib.compareBytes]
  | [], _ :: _ => by simp [Lib.compareBytes]
  | _ :: _, [] => by simp [Lib.compareBytes]
  | x :: a, y :: b => by
    simp only [Lib.compareBytes, UInt8.lt_iff_toNat_lt, List.cons.injEq, ← UInt8.toNat_inj]
    have := cb_zero a b
    repeat' split
    all_goals (try rw [this]); (try omega)
    all_goals exact ⟨fun h => ⟨by omega, h⟩, fun h => h.2⟩
theorem cb_trans : ∀ a b c : List UInt8, (Lib.compareBytes a b ≤ 0 → Lib.compareBytes b c ≤ 0 → Lib.compareBytes a c ≤ 0) ∧ (Lib.compareBytes a b < 0 → Lib.compareBytes b c ≤ 0 → Lib.compareBytes a c < 0)
  | [], [], c => by simp [Lib.compareBytes]
  | [], _ :: _, [] => by simp [Lib.compareBytes]
  | [], _ :: _, _ :: _ => by simp [Lib.compareBytes]
  | _ :: _, [], _ => by simp [Lib.compareBytes]
  | _ :: _, _ :: _, [] => by simp [Lib.compareBytes]
  | x :: a, y :: b, z :: c => by
    simp only [Lib.compareBytes, UInt8.lt_iff_toNat_lt]
    obtain ⟨h1, h2⟩ := cb_trans a b c
    constructor
    all_goals
      intro h3 h4
      repeat' split at h3
      all_goals repeat' split at h4
      all_goals repeat' split
      all_goals first | omega | exact h1 h3 h4 | exact h2 h3 h4
theorem right_cases {a : V} (h : right a = true) : (a.k = 0 ∧ a.n = 0 ∧ a.s = []) ∨ (a.k = 1 ∧ a.s = []) ∨ (a.k = 2 ∧ a.n = 0) ∨ (a.k = 3 ∧ a.n = 0) := by
  unfold right at h
  split at h
  · simp at h; exact .inl ⟨by assumption, h⟩
  · split at h
    · simp at h; exact .inr (.inl ⟨by assumption, h⟩)
    · split at h
      · rename_i h3
        simp at h
        rcases h3 with h3 | h3
        · exact .inr (.inr (.inl ⟨h3, h.1⟩))
        · exact .inr (.inr (.inr ⟨h3, h.1⟩))
      · cases h
theorem cmpI_is (x y : Int) : (x < y ∧ cmpI x y = -1) ∨ (x > y ∧ cmpI x y = 1) ∨ (x = y ∧ cmpI x y = 0) := by
  unfold cmpI
  repeat' split
  all_goals omega
theorem cv_is (a b : V) : (a.k ≠ b.k ∧ compareV a b = cmpI a.k b.k) ∨ (a.k = b.k ∧ a.k = 1 ∧ compareV a b = cmpI a.n b.n) ∨ (a.k = b.k ∧ (a.k = 2 ∨ a.k = 3) ∧ compareV a b = Lib.compareBytes a.s b.s) ∨ (a.k = b.k ∧ a.k ≠ 1 ∧ a.k ≠ 2 ∧ a.k ≠ 3 ∧ compareV a b = 0) := by
  unfold compareV
  by_cases h : a.k = b.k
  · rw [if_neg (fun hh => hh h)]
    by_cases h1 : a.k = 1
    · rw [if_pos h1]; exact .inr (.inl ⟨h, h1, rfl⟩)
    · rw [if_neg h1]
      by_cases h2 : a.k = 2 ∨ a.k = 3
      · rw [if_pos h2]; exact .inr (.inr (.inl ⟨h, h2, rfl⟩))
      · rw [if_neg h2]; exact .inr (.inr (.inr ⟨h, h1, fun x => h2 (.inl x), fun x => h2 (.inr x), rfl⟩))
  · rw [if_pos h]; exact .inl ⟨h, rfl⟩
theorem cv_range (a b : V) : -1 ≤ compareV a b ∧ compareV a b ≤ 1 := by
  have h1 := cv_is a b
  have h2 := cmpI_is a.k b.k
  have h3 := cmpI_is a.n b.n
  have h4 := cb_range a.s b.s
  omega
theorem cv_anti (a b : V) : compareV b a = -compareV a b := by
  have h1 := cv_is a b
  have h2 := cmpI_is a.k b.k
  have h3 := cmpI_is a.n b.n
  have g1 := cv_is b a
  have g2 := cmpI_is b.k a.k
  have g3 := cmpI_is b.n a.n
  have h4 := cb_anti a.s b.s
  omega
theorem cv_zero {a b : V} (ha : right a = true) (hb : right b = true) : compareV a b = 0 ↔ a = b := by
  have h1 := cv_is a b
  have h2 := cmpI_is a.k b.k
  have h3 := cmpI_is a.n b.n
  have h4 := cb_zero a.s b.s
  have r1 := right_cases ha
  have r2 := right_cases hb
  obtain ⟨k, n, s⟩ := a
  obtain ⟨l, m, t⟩ := b
  simp only [V.mk.injEq] at *
  rcases h1 with h1 | h1 | h1 | h1
  · constructor
    · intro h; omega
    · intro h; exact absurd h.1 h1.1
  · obtain ⟨rfl, rfl, h1⟩ := h1
    rw [h1]
    have e1 : s = [] := by rcases r1 with h | h | h | h <;> first | exact h.2 | exact h.2.2 | (exact absurd h.1 (by decide))
    have e2 : t = [] := by rcases r2 with h | h | h | h <;> first | exact h.2 | exact h.2.2 | (exact absurd h.1 (by decide))
    rw [e1, e2]
    simp only [true_and, and_true]
    omega
  · obtain ⟨rfl, h5, h1⟩ := h1
    rw [h1, h4]
    have e1 : n = m := by omega
    simp [e1]
  · obtain ⟨rfl, h5, h6, h7, h1⟩ := h1
    rcases r1 with h | h | h | h <;> try omega
    rcases r2 with g | g | g | g <;> try omega
    rw [h1, h.2.1, h.2.2, g.2.1, g.2.2]
    simp
set_option maxHeartbeats 4000000 in
theorem cv_trans (a b c : V) : (compareV a b ≤ 0 → compareV b c ≤ 0 → compareV a c ≤ 0) ∧ (compareV a b < 0 → compareV b c ≤ 0 → compareV a c < 0) := by
  obtain ⟨t1, t2⟩ := cb_trans a.s b.s c.s
  have h1 := cv_is a b
  have h2 := cmpI_is a.k b.k
  have h3 := cmpI_is a.n b.n
  have g1 := cv_is b c
  have g2 := cmpI_is b.k c.k
  have g3 := cmpI_is b.n c.n
  have f1 := cv_is a c
  have f2 := cmpI_is a.k c.k
  have f3 := cmpI_is a.n c.n
  generalize compareV a b = x at *
  generalize compareV b c = y at *
  generalize compareV a c = z at *
  generalize Lib.compareBytes a.s b.s = u at *
  generalize Lib.compareBytes b.s c.s = v at *
  generalize Lib.compareBytes a.s c.s = w at *
  rcases h1 with h1 | h1 | h1 | h1 <;> rcases g1 with g1 | g1 | g1 | g1 <;> rcases f1 with f1 | f1 | f1 | f1
  all_goals first
    | omega
    | (rcases h2 with h2 | h2 | h2 <;> rcases g2 with g2 | g2 | g2 <;> omega)
    | (rcases h3 with h3 | h3 | h3 <;> rcases g3 with g3 | g3 | g3 <;> omega)

def vOf : AV → V
  | .agg [.int .u8 k, .int .i64 n, .str s] => ⟨k, n, s⟩
  | _ => null
def isVA : AV → Bool
  | .agg [.int .u8 _, .int .i64 _, .str _] => true
  | _ => false
theorem isVA_eq {x : AV} (h : isVA x = true) : x = encV (vOf x) := by
  unfold isVA at h
  split at h
  · rfl
  · cases h
@[irreducible] def okR (v : V) : Bool := right v && decide (v.s.length ≤ 300)
def allR (g : Nat → V) : Nat → Nat → Bool
  | _, 0 => true
  | i, k + 1 => okR (g i) && allR g (i + 1) k
theorem allR_step {g : Nat → V} {i n : Nat} (h : i < n) : allR g i (n - i) = (okR (g i) && allR g (i + 1) (n - (i + 1))) := by
  rw [show n - i = (n - (i + 1)) + 1 from by omega]; rfl
def h_rights : List AV → CR
  | [.sl tag n f] => .need (n ≤ 9223372036854775807 ∧ ∀ i, i < n → isVA (f i) = true) (.bool (allR (fun i => vOf (f i)) 0 n))
  | _ => .no
def E10 : Env := E9
theorem E10_ok : EnvOk Tryz.prog E10 := E9_ok
theorem va_3 {f : Nat → AV} (h0 : isVA (f 0) = true) (h1 : isVA (f 1) = true) (h2 : isVA (f 2) = true) : 3 ≤ 9223372036854775807 ∧ ∀ i, i < 3 → isVA (f i) = true := by
  refine ⟨by decide, fun i hi => ?_⟩
  have : i = 0 ∨ i = 1 ∨ i = 2 := by omega
  rcases this with rfl | rfl | rfl <;> assumption
theorem va_2 {f : Nat → AV} (h0 : isVA (f 0) = true) (h1 : isVA (f 1) = true) : 2 ≤ 9223372036854775807 ∧ ∀ i, i < 2 → isVA (f i) = true := by
  refine ⟨by decide, fun i hi => ?_⟩
  have : i = 0 ∨ i = 1 := by omega
  rcases this with rfl | rfl <;> assumption
theorem va_1 {f : Nat → AV} (h0 : isVA (f 0) = true) : 1 ≤ 9223372036854775807 ∧ ∀ i, i < 1 → isVA (f i) = true := by
  refine ⟨by decide, fun i hi => ?_⟩
  have : i = 0 := by omega
  subst this; assumption

end Go.Proofs.YtkkpjdgahdljbaaGreatDoor
