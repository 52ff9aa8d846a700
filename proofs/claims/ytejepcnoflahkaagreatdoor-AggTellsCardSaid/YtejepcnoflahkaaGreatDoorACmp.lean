/- How values compare, and that their numbers fit, in plain Lean. -/
import Derived.Test.YtejepcnoflahkaaGreatDoorVWalk5
namespace Go.Proofs.YtejepcnoflahkaaGreatDoor
open Go Go.Ab
set_option linter.unusedVariables false
set_option linter.unusedSimpArgs false
set_option maxRecDepth 100000
set_option maxHeartbeats 8000000

theorem acb_range : ∀ a b : List UInt8, -1 ≤ Lib.compareBytes a b ∧ Lib.compareBytes a b ≤ 1
  | [], [] => by simp [Lib.compareBytes]
  | [], _ :: _ => by simp [Lib.compareBytes]
  | _ :: _, [] => by simp [Lib.compareBytes]
  | x :: a, y :: b => by
    simp only [Lib.compareBytes]
    have := acb_range a b
    repeat' split
    all_goals omega
theorem acb_anti : ∀ a b : List UInt8, Lib.compareBytes b a = -Lib.compareBytes a b
  | [], [] => by simp [Lib.compareBytes]
  | [], _ :: _ => by simp [Lib.compareBytes]
  | _ :: _, [] => by simp [Lib.compareBytes]
  | x :: a, y :: b => by
    simp only [Lib.compareBytes, UInt8.lt_iff_toNat_lt]
    have := acb_anti a b
    repeat' split
    all_goals omega
theorem acb_zero : ∀ a b : List UInt8, Lib.compareBytes a b = 0 ↔ a = b
  | [], [] => by simp [Lib.compareBytes]
  | [], _ :: _ => by simp [Lib.compareBytes]
  | _ :: _, [] => by simp [Lib.compareBytes]
  | x :: a, y :: b => by
    simp only [Lib.compareBytes, UInt8.lt_iff_toNat_lt, List.cons.injEq, ← UInt8.toNat_inj]
    have := acb_zero a b
    repeat' split
    all_goals (try rw [this]); (try omega)
    all_goals exact ⟨fun h => ⟨by omega, h⟩, fun h => h.2⟩
theorem acb_trans : ∀ a b c : List UInt8, (Lib.compareBytes a b ≤ 0 → Lib.compareBytes b c ≤ 0 → Lib.compareBytes a c ≤ 0) ∧ (Lib.compareBytes a b < 0 → Lib.compareBytes b c ≤ 0 → Lib.compareBytes a c < 0)
  | [], [], c => by simp [Lib.compareBytes]
  | [], _ :: _, [] => by simp [Lib.compareBytes]
  | [], _ :: _, _ :: _ => by simp [Lib.compareBytes]
  | _ :: _, [], _ => by simp [Lib.compareBytes]
  | _ :: _, _ :: _, [] => by simp [Lib.compareBytes]
  | x :: a, y :: b, z :: c => by
    simp only [Lib.compareBytes, UInt8.lt_iff_toNat_lt]
    obtain ⟨h1, h2⟩ := acb_trans a b c
    constructor
    all_goals
      intro h3 h4
      repeat' split at h3
      all_goals repeat' split at h4
      all_goals repeat' split
      all_goals first | omega | exact h1 h3 h4 | exact h2 h3 h4
theorem aright_cases {a : V} (h : right a = true) : (a.k = 0 ∧ a.n = 0 ∧ a.s = []) ∨ (a.k = 1 ∧ a.s = []) ∨ (a.k = 2 ∧ a.n = 0) ∨ (a.k = 3 ∧ a.n = 0) := by
  unfold right at h
  split at h
  · simp at h; exact .inl ⟨by assumption, h⟩
  · split at h
    · simp at h; exact .inr (.inl ⟨by assumption, h⟩)
    · split at h
      · rename_i h3
        simp at h
        rcases h3 with h3 | h3
        · exact .inr (.inr (.inl ⟨h3, h.1⟩))
        · exact .inr (.inr (.inr ⟨h3, h.1⟩))
      · cases h
theorem acmpI_is (x y : Int) : (x < y ∧ cmpI x y = -1) ∨ (x > y ∧ cmpI x y = 1) ∨ (x = y ∧ cmpI x y = 0) := by
  unfold cmpI
  repeat' split
  all_goals omega
theorem acv_is (a b : V) : (a.k ≠ b.k ∧ compareV a b = cmpI a.k b.k) ∨ (a.k = b.k ∧ a.k = 1 ∧ compareV a b = cmpI a.n b.n) ∨ (a.k = b.k ∧ (a.k = 2 ∨ a.k = 3) ∧ compareV a b = Lib.compareBytes a.s b.s) ∨ (a.k = b.k ∧ a.k ≠ 1 ∧ a.k ≠ 2 ∧ a.k ≠ 3 ∧ compareV a b = 0) := by
  unfold compareV
  by_cases h : a.k = b.k
  · rw [if_neg (fun hh => hh h)]
    by_cases h1 : a.k = 1
    · rw [if_pos h1]; exact .inr (.inl ⟨h, h1, rfl⟩)
    · rw [if_neg h1]
      by_cases h2 : a.k = 2 ∨ a.k = 3
      · rw [if_pos h2]; exact .inr (.inr (.inl ⟨h, h2, rfl⟩))
      · rw [if_neg h2]; exact .inr (.inr (.inr ⟨h, h1, fun x => h2 (.inl x), fun x => h2 (.inr x), rfl⟩))
  · rw [if_pos h]; exact .inl ⟨h, rfl⟩
theorem acv_range (a b : V) : -1 ≤ compareV a b ∧ compareV a b ≤ 1 := by
  have h1 := acv_is a b
  have h2 := acmpI_is a.k b.k
  have h3 := acmpI_is a.n b.n
  have h4 := acb_range a.s b.s
  omega
theorem acv_anti (a b : V) : compareV b a = -compareV a b := by
  have h1 := acv_is a b
  have h2 := acmpI_is a.k b.k
  have h3 := acmpI_is a.n b.n
  have g1 := acv_is b a
  have g2 := acmpI_is b.k a.k
  have g3 := acmpI_is b.n a.n
  have h4 := acb_anti a.s b.s
  omega
theorem acv_zero {a b : V} (ha : right a = true) (hb : right b = true) : compareV a b = 0 ↔ a = b := by
  have h1 := acv_is a b
  have h2 := acmpI_is a.k b.k
  have h3 := acmpI_is a.n b.n
  have h4 := acb_zero a.s b.s
  have r1 := aright_cases ha
  have r2 := aright_cases hb
  obtain ⟨k, n, s⟩ := a
  obtain ⟨l, m, t⟩ := b
  simp only [V.mk.injEq] at *
  rcases h1 with h1 | h1 | h1 | h1
  · constructor
    · intro h; omega
    · intro h; exact absurd h.1 h1.1
  · obtain ⟨rfl, rfl, h1⟩ := h1
    rw [h1]
    have e1 : s = [] := by rcases r1 with h | h | h | h <;> first | exact h.2 | exact h.2.2 | (exact absurd h.1 (by decide))
    have e2 : t = [] := by rcases r2 with h | h | h | h <;> first | exact h.2 | exact h.2.2 | (exact absurd h.1 (by decide))
    rw [e1, e2]
    simp only [true_and, and_true]
    omega
  · obtain ⟨rfl, h5, h1⟩ := h1
    rw [h1, h4]
    have e1 : n = m := by omega
    simp [e1]
  · obtain ⟨rfl, h5, h6, h7, h1⟩ := h1
    rcases r1 with h | h | h | h <;> try omega
    rcases r2 with g | g | g | g <;> try omega
    rw [h1, h.2.1, h.2.2, g.2.1, g.2.2]
    simp
set_option maxHeartbeats 4000000 in
theorem acv_trans (a b c : V) : (compareV a b ≤ 0 → compareV b c ≤ 0 → compareV a c ≤ 0) ∧ (compareV a b < 0 → compareV b c ≤ 0 → compareV a c < 0) := by
  obtain ⟨t1, t2⟩ := acb_trans a.s b.s c.s
  have h1 := acv_is a b
  have h2 := acmpI_is a.k b.k
  have h3 := acmpI_is a.n b.n
  have g1 := acv_is b c
  have g2 := acmpI_is b.k c.k
  have g3 := acmpI_is b.n c.n
  have f1 := acv_is a c
  have f2 := acmpI_is a.k c.k
  have f3 := acmpI_is a.n c.n
  generalize compareV a b = x at *
  generalize compareV b c = y at *
  generalize compareV a c = z at *
  generalize Lib.compareBytes a.s b.s = u at *
  generalize Lib.compareBytes b.s c.s = v at *
  generalize Lib.compareBytes a.s c.s = w at *
  rcases h1 with h1 | h1 | h1 | h1 <;> rcases g1 with g1 | g1 | g1 | g1 <;> rcases f1 with f1 | f1 | f1 | f1
  all_goals first
    | omega
    | (rcases h2 with h2 | h2 | h2 <;> rcases g2 with g2 | g2 | g2 <;> omega)
    | (rcases h3 with h3 | h3 | h3 <;> rcases g3 with g3 | g3 | g3 <;> omega)
theorem anumS_i64 (s : List UInt8) : i64 (numS s) := by
  have := digs_le (signed s) 0 (by decide)
  unfold numS i64
  split
  · omega
  · split <;> omega
theorem aintV_i64 {v : V} (h : i64 v.n) : i64 (intV v) := by
  unfold intV
  split
  · exact h
  · split
    · decide
    · exact anumS_i64 _

end Go.Proofs.YtejepcnoflahkaaGreatDoor
