/- words: numbers and names, in plain Lean. -/
import Derived.Test.YtejepcnoflahkaaDoorWWalk4
namespace Go.Proofs.YtejepcnoflahkaaDoor
open Go Go.Ab
set_option linter.unusedVariables false
set_option linter.unusedSimpArgs false
set_option maxRecDepth 100000

def isDg (b : UInt8) : Prop := 48 ≤ b.toNat ∧ b.toNat ≤ 57
theorem decN_nil (n : Nat) : decN n [] = n := (rfl)
theorem decN_cons (n : Nat) (b : UInt8) (l : List UInt8) : decN n (b :: l) = decN (10 * n + (b.toNat - 48)) l := (rfl)
theorem decN_ge (l : List UInt8) : ∀ n : Nat, n ≤ decN n l := by
  induction l with
  | nil => intro n; rw [decN_nil]; exact Nat.le_refl _
  | cons b l ih =>
    intro n
    have := ih (10 * n + (b.toNat - 48))
    rw [decN_cons]
    omega
theorem pu_is (l : List UInt8) : ∀ (n m : Nat), (∀ b ∈ l, isDg b) → n ≤ 18446744073709551615 → decN n l = m → Lib.parseUintM 18446744073709551615 n l = if m ≤ 18446744073709551615 then .ok m else .range := by
  induction l with
  | nil =>
    intro n m _ hn hm
    rw [decN_nil] at hm
    subst hm
    rw [Lib.parseUintM, if_pos hn]
  | cons b l ih =>
    intro n m h hn hm
    have hb : 48 ≤ b.toNat ∧ b.toNat ≤ 57 := h b (List.mem_cons_self ..)
    have hge := decN_ge l (10 * n + (b.toNat - 48))
    rw [decN_cons] at hm
    rw [hm] at hge
    rw [Lib.parseUintM, if_pos hb]
    by_cases h1 : 1844674407370955162 ≤ n
    · rw [if_pos h1, if_neg (by omega)]
    · rw [if_neg h1]
      by_cases h2 : 18446744073709551615 < n * 10 + (b.toNat - 48)
      · rw [if_pos h2, if_neg (by omega)]
      · rw [if_neg h2, show n * 10 + (b.toNat - 48) = 10 * n + (b.toNat - 48) from by omega]
        exact ih _ m (fun c hc => h c (List.mem_cons_of_mem _ hc)) (by omega) hm
theorem pi_is (s : List UInt8) (h1 : s ≠ []) (h : ∀ b ∈ s, isDg b) : Lib.parseIntB 64 s = if decN 0 s ≤ 9223372036854775807 then .ok (decN 0 s : Nat) else .range := by
  cases s with
  | nil => exact absurd rfl h1
  | cons c r =>
    have hc : 48 ≤ c.toNat ∧ c.toNat ≤ 57 := h c (List.mem_cons_self ..)
    have hp := pu_is (c :: r) 0 _ h (by decide) rfl
    have e : Lib.parseUintB 64 (c :: r) = if decN 0 (c :: r) ≤ 18446744073709551615 then .ok (decN 0 (c :: r)) else .range := by
      unfold Lib.parseUintB
      rw [if_neg (by simp)]
      exact hp
    simp only [Lib.parseIntB]
    rw [if_neg (by omega), e]
    generalize decN 0 (c :: r) = m
    by_cases hm : m ≤ 18446744073709551615
    · rw [if_pos hm]
      by_cases hm2 : m ≤ 9223372036854775807
      · rw [if_pos hm2]
        simp only []
        rw [if_neg (by omega), if_neg (by omega), if_neg (by omega)]
      · rw [if_neg hm2]
        simp only []
        rw [if_pos ⟨by omega, by omega⟩]
    · rw [if_neg hm, if_neg (by omega)]
theorem runN_all (p : Int → Bool) : ∀ s : List UInt8, ∀ b ∈ s.take (runN p s), onB p b = true
  | [], b, h => by simp at h
  | c :: l, b, h => by
    simp only [runN] at h
    cases hc : onB p c with
    | false => rw [hc] at h; simp at h
    | true =>
      rw [hc] at h
      simp only [List.take_succ_cons, List.mem_cons] at h
      rcases h with rfl | h
      · exact hc
      · exact runN_all p l b h
theorem digC_is {b : UInt8} (h : onB digC b = true) : isDg b := by
  simp only [onB, digC, Bool.and_eq_true, decide_eq_true_eq] at h
  exact ⟨by omega, by omega⟩
theorem namC_is {b : UInt8} (h : onB namC b = true) : b.toNat < 128 := by
  simp only [onB, namC, letC, digC, Bool.or_eq_true, Bool.and_eq_true, decide_eq_true_eq, beq_iff_eq] at h
  omega
theorem run_pos {p : Int → Bool} {s : List UInt8} (h1 : 1 ≤ s.length) (h : p ((s.getD 0 0).toNat : Int) = true) : 1 ≤ runN p s := by
  cases s with
  | nil => simp at h1
  | cons c l =>
    have h' : onB p c = true := h
    simp only [runN, h']
    omega
theorem digs_ok {s : List UInt8} (h1 : 1 ≤ s.length) (h : digC ((s.getD 0 0).toNat : Int) = true) : Lib.parseIntB 64 (s.take (runN digC s)) = if decN 0 (s.take (runN digC s)) ≤ 9223372036854775807 then .ok (decN 0 (s.take (runN digC s)) : Nat) else .range := by
  refine pi_is _ ?_ (fun b hb => digC_is (runN_all digC s b hb))
  have := run_pos h1 h
  intro e
  have e' := congrArg List.length e
  simp only [List.length_take, List.length_nil] at e'
  omega
theorem low_is (b : UInt8) : Lib.lowerB b = small b := by
  have : ∀ n : Fin 256, Lib.lowerB (UInt8.ofNat n.val) = small (UInt8.ofNat n.val) := by decide
  have := this ⟨b.toNat, b.toNat_lt⟩
  simpa using this
theorem low_all (l : List UInt8) : Lib.toLowerA l = lowS l := by
  unfold Lib.toLowerA lowS
  exact List.map_congr_left fun b _ => low_is b
theorem nam_ascii (s : List UInt8) : (s.take (runN namC s)).all (fun b => decide (b.toNat < 128)) = true :=
  List.all_eq_true.2 fun b hb => decide_eq_true (namC_is (runN_all namC s b hb))
theorem find_has {s : List UInt8} {f : Nat → List UInt8} : ∀ (k i : Nat), (findF s f i k ≥ 0 ↔ ∃ j, i ≤ j ∧ j < i + k ∧ s = f j)
  | 0, i => by
    simp only [findF]
    constructor
    · intro h; omega
    · rintro ⟨j, h1, h2, _⟩; omega
  | k + 1, i => by
    simp only [findF]
    split
    · rename_i h
      exact ⟨fun _ => ⟨i, Nat.le_refl _, by omega, eq_of_beq h⟩, fun _ => by omega⟩
    · rename_i h
      rw [find_has k (i + 1)]
      constructor
      · rintro ⟨j, h1, h2, h3⟩
        exact ⟨j, by omega, by omega, h3⟩
      · rintro ⟨j, h1, h2, h3⟩
        by_cases e : j = i
        · subst e
          exact absurd (beq_iff_eq.2 h3) h
        · exact ⟨j, by omega, by omega, h3⟩
theorem key_has (s : List UInt8) : (findF s (fun i => strOf (keyF i)) 0 40 ≥ 0) ↔ s ∈ keysL := by
  rw [find_has]
  have hl : keysL.length = 40 := rfl
  constructor
  · rintro ⟨j, _, h2, h3⟩
    have h2' : j < keysL.length := by omega
    have : keysL.getD j [] = keysL[j] := by rw [List.getD_eq_getElem?_getD, List.getElem?_eq_getElem h2']; rfl
    have h4 : s = keysL.getD j [] := h3
    rw [h4, this]
    exact List.getElem_mem _
  · intro h
    obtain ⟨j, hj, e⟩ := List.getElem_of_mem h
    refine ⟨j, Nat.zero_le _, by omega, ?_⟩
    show s = keysL.getD j []
    rw [List.getD_eq_getElem?_getD, List.getElem?_eq_getElem hj, ← e]; rfl
end Go.Proofs.YtejepcnoflahkaaDoor
